
/-
  THE WALKS of the laws TrailerKeeps and TrailerMerges.
-/
import Derived.Test.YtdpohibgipkhnaaTrl2
namespace Go.Proofs.Ytdpohibgipkhnaa
open Go.RowKit Go.Sort Go.Proofs.Ytdpohibgipkhnaa.Oct

def lvT : Flds := [(⟨#[88, 45, 83, 117, 109]⟩, ⟨#[49]⟩), (⟨#[99, 111, 110, 116, 101, 110, 116, 45, 108, 101, 110, 103, 116, 104]⟩, ⟨#[49]⟩)]
theorem lvT_keep : keepF lvT = [(⟨#[88, 45, 83, 117, 109]⟩, ⟨#[49]⟩)] := by decide +kernel
theorem te_no : allowS ⟨#[116, 101]⟩ = false := by decide +kernel

set_option maxRecDepth 100000 in
set_option maxHeartbeats 1600000 in
theorem trlives_any (w : World) : Calls Try.prog 15 #[] w fun e w' => e = .returned (.bool true) ∧ Below w.heap.size w w' := by
  have HC := Lib.hid (tkeep_any _ _ 2 2 lvT (flds_lit w lvT (by decide) (by decide)) (by omega))
  have HK := Lib.hid lvT_keep
  have HT := Lib.hid te_no
  go_enter Try.func15, Try.ntmps15
  go_wp2_with fail
  refine HC.out.mono ?_
  rintro e w1 ⟨v, rfl, ho, hb1⟩
  rw [HK.out] at ho
  have B1 := Lib.hid ((below_new w (.cells (fldVals lvT).toArray 31)).trans (hb1.mono (by simp)))
  obtain ⟨g, c, rfl, _, _⟩ := ho.form (by decide)
  have c0 : w1.cell? ⟨g, 0, none⟩ = some (.string ⟨#[88, 45, 83, 117, 109]⟩) := (ho.cellAt 0 (by decide)).trans rfl
  have c1 : w1.cell? ⟨g, 1, none⟩ = some (.string ⟨#[49]⟩) := (ho.cellAt 1 (by decide)).trans rfl
  clear ho hb1
  go_wp2_with fail
  refine (allowed_any ⟨#[116, 101]⟩ _ (by decide)).mono ?_
  rintro e w2 ⟨rfl, hb2⟩
  rw [HT.out]
  have B2 := Lib.hid (grow_trans B1.out hb2)
  clear hb2
  go_wp2
  go_ret
  exact ⟨rfl, B2.out⟩

theorem keepF_idem (l : Flds) : keepF (keepF l) = keepF l := by
  unfold keepF
  rw [List.filter_filter]
  congr 1
  funext p
  simp

set_option maxRecDepth 100000 in
set_option maxHeartbeats 3200000 in
theorem tkeeps_yes (x y : Option Addr) (n c m d : Nat) (l t : Flds) (name : ByteArray) (w : World) (h : FldsAt w x n l) (h2 : FldsAt w y m t) (hl : fewB l = true) (hk : fewB t = true) (hs : ¬ (100 : Int) < (name.size : Int)) :
    Calls Try.prog 3 #[.slice x n c, .slice y m d, .string name] w fun e w' => e = .returned (.bool true) ∧ Below w.heap.size w w' := by
  obtain ⟨f1, f2, f3⟩ := few_names hl
  obtain ⟨g1, g2, g3⟩ := few_names hk
  have hn2 : name.size ≤ 140737488355328 := by omega
  have hn : name.size ≤ 9223372036854775807 := by omega
  have nl := h.len
  have ml := h2.len
  have kl := keepF_len l
  have kt := keepF_len t
  have ml2 : (mergeF l t).length ≤ 1000 := by
    unfold mergeF
    rw [List.length_append]
    have := List.length_filter_le (newB l) (keepF t)
    omega
  have HS1 : Hid (∀ p ∈ keepF l, p.1.size ≤ 9223372036854775807 ∧ p.2.size ≤ 9223372036854775807) := fun p hp => h.str p (keepF_sub hp)
  have HS2 : Hid (∀ p ∈ mergeF l t, p.1.size ≤ 9223372036854775807 ∧ p.2.size ≤ 9223372036854775807) := fun p hp => by
    unfold mergeF at hp
    rcases List.mem_append.1 hp with hp | hp
    · exact h.str p hp
    · exact h2.str p (keepF_sub (List.mem_filter.1 hp).1)
  have HA := Lib.hid h
  have HK := Lib.hid h2
  have C1 := Lib.hid (few_any w x n c l h)
  have HL := Lib.hid hl
  have HK2 := Lib.hid hk
  have F2 := Lib.hid f2
  have G2 := Lib.hid g2
  clear h h2 hl hk f2 f3 g2 g3
  go_enter Try.func3, Try.ntmps3
  go_wp2_with fail
  refine C1.out.mono ?_
  rintro e w1 ⟨rfl, hb1⟩
  rw [HL.out]
  have B1 := Lib.hid hb1
  clear hb1
  go_wp2_with fail
  refine (few_any w1 y m d t (HK.out.below B1.out)).mono ?_
  rintro e w2 ⟨rfl, hb2⟩
  rw [HK2.out]
  have B2 := Lib.hid (grow_trans B1.out hb2)
  clear hb2
  go_wp2_with fail
  refine (allowed_any name w2 hn).mono ?_
  rintro e w3 ⟨rfl, hb3⟩
  have B3 := Lib.hid (grow_trans B2.out hb3)
  clear hb3
  go_wp2_with fail
  refine (rallowed_any name w3 hn2).mono ?_
  rintro e w4 ⟨rfl, hb4⟩
  have B4 := Lib.hid (grow_trans B3.out hb4)
  clear hb4
  go_wp2_with fail
  refine (tkeep_any w4 x n c l (HA.out.below B4.out) (by omega)).mono ?_
  rintro e w5 ⟨v5, rfl, ho5, hb5⟩
  have B5 := Lib.hid (grow_trans B4.out hb5)
  obtain ⟨x5, c5, rfl, _, hF5⟩ := own_flds ho5 (by omega) HS1.out
  have F5 := Lib.hid hF5
  clear ho5 hb5 hF5
  go_wp2_with fail
  refine (rkeep_any w5 x n c l (HA.out.below B5.out) (by omega) F2.out).mono ?_
  rintro e w6 ⟨v6, rfl, ho6, hb6⟩
  have B6 := Lib.hid (grow_trans B5.out hb6)
  obtain ⟨x6, c6, rfl, _, hF6⟩ := own_flds ho6 (by omega) HS1.out
  have F6 := Lib.hid hF6
  have F56 := Lib.hid (F5.out.below hb6)
  clear ho6 hb6 hF6
  go_wp2_with fail
  refine (rsamef_any x5 x6 _ c5 _ c6 _ _ _ F56.out F6.out).mono ?_
  rintro e w7 ⟨rfl, hd7⟩
  rw [show decide (keepF l = keepF l) = true from decide_eq_true rfl]
  have B7 := Lib.hid (B6.out.trans (hd7.below _))
  clear hd7
  go_wp2_with fail
  refine (tmerge_any w7 x y n c m d l t (HA.out.below B7.out) (HK.out.below B7.out) (by omega) (by omega)).mono ?_
  rintro e w8 ⟨v8, rfl, ho8, hb8⟩
  have B8 := Lib.hid (grow_trans B7.out hb8)
  obtain ⟨x8, c8, rfl, _, hF8⟩ := own_flds ho8 (by omega) HS2.out
  have F8 := Lib.hid hF8
  clear ho8 hb8 hF8
  go_wp2_with fail
  refine (rmerge_any w8 x y n c m d l t (HA.out.below B8.out) (HK.out.below B8.out) (by omega) (by omega) F2.out G2.out).mono ?_
  rintro e w9 ⟨v9, rfl, ho9, hb9⟩
  have B9 := Lib.hid (grow_trans B8.out hb9)
  obtain ⟨x9, c9, rfl, _, hF9⟩ := own_flds ho9 (by omega) HS2.out
  have F9 := Lib.hid hF9
  have F89 := Lib.hid (F8.out.below hb9)
  clear ho9 hb9 hF9
  go_wp2_with fail
  refine (rsamef_any x8 x9 _ c8 _ c9 _ _ _ F89.out F9.out).mono ?_
  rintro e w10 ⟨rfl, hd10⟩
  rw [show decide (mergeF l t = mergeF l t) = true from decide_eq_true rfl]
  have B10 := Lib.hid (B9.out.trans (hd10.below _))
  clear hd10
  go_wp2_with fail
  refine (trlives_any w10).mono ?_
  rintro e w11 ⟨rfl, hb11⟩
  have B11 := Lib.hid (grow_trans B10.out hb11)
  clear hb11
  go_wp2
  go_ret
  exact ⟨rfl, B11.out⟩

set_option maxRecDepth 100000 in
set_option maxHeartbeats 3200000 in
theorem tkeeps_any (x y : Option Addr) (n c m d : Nat) (l k : Flds) (name : ByteArray) (w : World) (h : FldsAt w x n l) (h2 : FldsAt w y m k) (hn : name.size ≤ 9223372036854775807) :
    Calls Try.prog 3 #[.slice x n c, .slice y m d, .string name] w fun e w' => e = .returned (.bool true) ∧ Below w.heap.size w w' := by
  cases hl : fewB l
  · have C1 := Lib.hid (few_any w x n c l h)
    have HL := Lib.hid hl
    clear h h2 hl
    go_enter Try.func3, Try.ntmps3
    go_wp2_with fail
    refine C1.out.mono ?_
    rintro e w1 ⟨rfl, hb1⟩
    rw [HL.out]
    have B1 := Lib.hid hb1
    clear hb1
    go_wp2_with fail
    refine (trlives_any w1).mono ?_
    rintro e w13 ⟨rfl, hb13⟩
    have B13 := Lib.hid (grow_trans B1.out hb13)
    clear hb13
    go_wp2
    go_ret
    exact ⟨rfl, B13.out⟩
  · cases hk : fewB k
    · have C1 := Lib.hid (few_any w x n c l h)
      have HL := Lib.hid hl
      have HK := Lib.hid h2
      have HK2 := Lib.hid hk
      clear h h2 hl hk
      go_enter Try.func3, Try.ntmps3
      go_wp2_with fail
      refine C1.out.mono ?_
      rintro e w1 ⟨rfl, hb1⟩
      rw [HL.out]
      have B1 := Lib.hid hb1
      clear hb1
      go_wp2_with fail
      refine (few_any w1 y m d k (HK.out.below B1.out)).mono ?_
      rintro e w2 ⟨rfl, hb2⟩
      rw [HK2.out]
      have B2 := Lib.hid (grow_trans B1.out hb2)
      clear hb2
      go_wp2_with fail
      refine (trlives_any w2).mono ?_
      rintro e w13 ⟨rfl, hb13⟩
      have B13 := Lib.hid (grow_trans B2.out hb13)
      clear hb13
      go_wp2
      go_ret
      exact ⟨rfl, B13.out⟩
    · by_cases hs : (100 : Int) < (name.size : Int)
      · have C1 := Lib.hid (few_any w x n c l h)
        have HL := Lib.hid hl
        have HK := Lib.hid h2
        have HK2 := Lib.hid hk
        clear h h2 hl hk
        go_enter Try.func3, Try.ntmps3
        go_wp2_with fail
        refine C1.out.mono ?_
        rintro e w1 ⟨rfl, hb1⟩
        rw [HL.out]
        have B1 := Lib.hid hb1
        clear hb1
        go_wp2_with fail
        refine (few_any w1 y m d k (HK.out.below B1.out)).mono ?_
        rintro e w2 ⟨rfl, hb2⟩
        rw [HK2.out]
        have B2 := Lib.hid (grow_trans B1.out hb2)
        clear hb2
        go_wp2_with fail
        refine (trlives_any w2).mono ?_
        rintro e w13 ⟨rfl, hb13⟩
        have B13 := Lib.hid (grow_trans B2.out hb13)
        clear hb13
        go_wp2
        go_ret
        exact ⟨rfl, B13.out⟩
      · exact tkeeps_yes x y n c m d l k name w h h2 hl hk hs
end Go.Proofs.Ytdpohibgipkhnaa
