
/-
  THE WALK of the law TrailerMerges.
-/
import Derived.Test.YtdpohibgipkhnaaTrl3
namespace Go.Proofs.Ytdpohibgipkhnaa
open Go.RowKit Go.Sort Go.Proofs.Ytdpohibgipkhnaa.Oct

theorem fold_self (a : ByteArray) : foldS a a = true := decide_eq_true rfl
theorem allV_pos {t : Flds} {f : ByteArray × ByteArray} (h : f ∈ t) : 0 < (allV t f.1).length := by
  unfold allV
  rw [List.length_map]
  exact List.length_pos_of_mem (List.mem_filter.2 ⟨h, fold_self _⟩)
/-- What is joined. -/
theorem joined_is {l t : Flds} {f : ByteArray × ByteArray} (h : f ∈ (mergeF l t).drop l.length) : allowS f.1 = true ∧ (allV l f.1).length = 0 ∧ 0 < (allV t f.1).length ∧ f ∈ t := by
  unfold mergeF at h
  rw [List.drop_left] at h
  obtain ⟨h1, h2⟩ := List.mem_filter.1 h
  obtain ⟨h3, h4⟩ := List.mem_filter.1 h1
  refine ⟨h4, ?_, allV_pos h3, h3⟩
  unfold newB at h2
  simpa using h2

set_option maxRecDepth 100000 in
set_option maxHeartbeats 3200000 in
theorem tmerges_yes (x y : Option Addr) (n c m d : Nat) (l t : Flds) (w : World) (h : FldsAt w x n l) (h2 : FldsAt w y m t) (hl : fewB l = true) (hk : fewB t = true) :
    Calls Try.prog 4 #[.slice x n c, .slice y m d] w fun e w' => e = .returned (.bool true) ∧ Below w.heap.size w w' := by
  obtain ⟨f1, f2, f3⟩ := few_names hl
  obtain ⟨g1, g2, g3⟩ := few_names hk
  have nl := h.len
  have ml := h2.len
  have kl := keepF_len l
  have kt := keepF_len t
  have hsub := List.length_filter_le (newB l) (keepF t)
  have mlen : (mergeF l t).length = l.length + ((keepF t).filter (newB l)).length := by unfold mergeF; rw [List.length_append]
  have ml2 : (mergeF l t).length ≤ 1000 := by omega
  have ml3 : l.length ≤ (mergeF l t).length := by omega
  have HS1 : Hid (∀ p ∈ keepF l, p.1.size ≤ 9223372036854775807 ∧ p.2.size ≤ 9223372036854775807) := fun p hp => h.str p (keepF_sub hp)
  have HS2 : Hid (∀ p ∈ mergeF l t, p.1.size ≤ 9223372036854775807 ∧ p.2.size ≤ 9223372036854775807) := fun p hp => by
    unfold mergeF at hp
    rcases List.mem_append.1 hp with hp | hp
    · exact h.str p hp
    · exact h2.str p (keepF_sub (List.mem_filter.1 hp).1)
  have HTk : Hid ((mergeF l t).take l.length = l) := by show _ = _; unfold mergeF; exact List.take_left
  have HJ : Hid (∀ f ∈ (mergeF l t).drop l.length, allowS f.1 = true ∧ (allV l f.1).length = 0 ∧ 0 < (allV t f.1).length ∧ f ∈ t) := fun f hf => joined_is hf
  have HA := Lib.hid h
  have HK := Lib.hid h2
  have C1 := Lib.hid (few_any w x n c l h)
  have HL := Lib.hid hl
  have HK2 := Lib.hid hk
  have F2 := Lib.hid f2
  have G2 := Lib.hid g2
  subst nl
  clear h h2 hl hk f2 f3 g2 g3 mlen hsub
  go_enter Try.func4, Try.ntmps4
  go_wp2_with fail
  refine C1.out.mono ?_
  rintro e w1 ⟨rfl, hb1⟩
  rw [HL.out]
  have B1 := Lib.hid hb1
  clear hb1
  go_wp2_with fail
  refine (few_any w1 y m d t (HK.out.below B1.out)).mono ?_
  rintro e w2 ⟨rfl, hb2⟩
  rw [HK2.out]
  have B2 := Lib.hid (grow_trans B1.out hb2)
  clear hb2
  go_wp2_with fail
  refine (tkeep_any w2 x _ c l (HA.out.below B2.out) (by omega)).mono ?_
  rintro e w3 ⟨v3, rfl, ho3, hb3⟩
  have B3 := Lib.hid (grow_trans B2.out hb3)
  obtain ⟨x3, c3, rfl, _, hF3⟩ := own_flds ho3 (by omega) HS1.out
  have F3 := Lib.hid hF3
  clear ho3 hb3 hF3
  go_wp2_with fail
  refine (tmerge_any w3 x y _ c m d l t (HA.out.below B3.out) (HK.out.below B3.out) (by omega) (by omega)).mono ?_
  rintro e w4 ⟨v4, rfl, ho4, hb4⟩
  have B4 := Lib.hid (grow_trans B3.out hb4)
  have F34 := Lib.hid (F3.out.below hb4)
  obtain ⟨x4, c4, rfl, hc4, hF4⟩ := own_flds ho4 (by omega) HS2.out
  have F4 := Lib.hid hF4
  clear ho4 hb4 hF4
  go_wp2_with fail
  refine (tkeep_any w4 x3 _ c3 (keepF l) F34.out (by omega)).mono ?_
  rintro e w5 ⟨v5, rfl, ho5, hb5⟩
  rw [keepF_idem] at ho5
  have B5 := Lib.hid (grow_trans B4.out hb5)
  have F35 := Lib.hid (F34.out.below hb5)
  have F45 := Lib.hid (F4.out.below hb5)
  obtain ⟨x5, c5, rfl, _, hF5⟩ := own_flds ho5 (by omega) HS1.out
  have F5 := Lib.hid hF5
  clear ho5 hb5 hF5
  go_wp2_with fail
  refine (rsamef_any x5 x3 _ c5 _ c3 _ _ _ F5.out F35.out).mono ?_
  rintro e w6 ⟨rfl, hd6⟩
  rw [show decide (keepF l = keepF l) = true from decide_eq_true rfl]
  have B6 := Lib.hid (B5.out.trans (hd6.below _))
  have F46 := Lib.hid (F45.out.below hd6.grow)
  clear hd6
  obtain ⟨M, hM⟩ : ∃ M, M = mergeF l t := ⟨_, rfl⟩
  rw [← hM] at ml2 ml3 F46 hc4 HTk HJ HS2 ⊢
  have hdm : decide (M.length < l.length) = false := decide_eq_false (by omega)
  have i1 : (l.length : Int) ≤ (M.length : Int) := by omega
  have i2 : (M.length : Int) ≤ (c4 : Int) := by omega
  have i3 : (l.length : Int) ≤ (c4 : Int) := by omega
  have T6 : Hid (FldsAt w6 x4 l.length l) := by
    have := F46.out.take l.length ml3
    rw [HTk.out] at this
    exact this
  clear hM F4 F45
  go_wp2_with fail
  refine (rsamef_any x4 x _ c4 _ c _ _ _ T6.out (HA.out.below B6.out)).mono ?_
  rintro e w7 ⟨rfl, hd7⟩
  rw [show decide (l = l) = true from decide_eq_true rfl]
  have B7 := Lib.hid (B6.out.trans (hd7.below _))
  have F47 := Lib.hid (F46.out.below hd7.grow)
  clear hd7
  by_cases hcl : c4 = l.length
  · have D7 := F47.out.drop l.length c4 ml3 hc4
    rw [if_pos hcl] at D7
    have HD := Lib.hid D7
    clear D7
    go_wp2_with fail
    obtain ⟨N, hN⟩ : ∃ N, N = M.length - l.length := ⟨_, rfl⟩
    obtain ⟨D, hD⟩ : ∃ D, D = M.drop l.length := ⟨_, rfl⟩
    rw [← hN] at HD ⊢
    rw [← hD] at HD HJ
    have hNb : N ≤ 1000 := by omega
    have HDd := Lib.hid hD
    clear hN hD
    go_loopg [49] N (fun gg s49 wr => ∃ k : Nat, k ≤ N ∧ N - k ≤ gg ∧ s49 = .int .i64 k ∧ Hid (Below w7.heap.size w7 wr))
    case atStart => exact ⟨0, Nat.zero_le _, by omega, rfl, Below.refl _ _⟩
    case round =>
      obtain ⟨k, hk, hg, rfl, hb⟩ := hrel
      by_cases hkl : k < N
      · obtain ⟨b, o, f, rfl, hl3, hf, hc1, hc2, hs1, hs2⟩ := (HD.out.below hb.out).get k hkl
        obtain ⟨j1, j2, j3, j4⟩ := HJ.out f (by rw [hf]; exact List.getElem_mem hl3)
        obtain ⟨fn, fv⟩ := f
        simp only at hc1 hc2 hs1 hs2 j1 j2 j3
        clear hf
        obtain ⟨q, hq⟩ : ∃ q, q = (allV t fn).length := ⟨_, rfl⟩
        have j5 : (0 : Int) < (q : Int) := by omega
        have j6 : ((q : Int) == 0) = false := by simp; omega
        have J1 := Lib.hid j1
        have J2 := Lib.hid j2
        have J3 := Lib.hid hq
        have B8 := Lib.hid (B7.out.trans (hb.out.mono B7.out.size))
        clear j1 j2 j3 hq j4
        go_wp2_with fail
        refine (allowed_any fn _ hs1).mono ?_
        rintro e w9 ⟨rfl, hb9⟩
        rw [J1.out]
        have hbx := Blk.new wr 31 #[.string fn, .string fv]
        have K9 := Lib.hid (hbx.below hb9 hbx.lt)
        have c9 : w9.cell? ⟨wr.heap.size, 0, none⟩ = some (.string fn) := K9.out.cell 0
        have B9 := Lib.hid (grow_trans (below_new wr (.cells #[.string fn, .string fv] 31)) hb9)
        clear hb9 hbx
        go_wp2_with fail
        refine (hcount_any w9 x _ c l fn hs1 (HA.out.below (grow_trans B8.out B9.out)) (by omega)).mono ?_
        rintro e w10 ⟨rfl, hb10⟩
        rw [J2.out]
        have c10 : w10.cell? ⟨wr.heap.size, 0, none⟩ = some (.string fn) := (K9.out.below hb10 K9.out.lt).cell 0
        have B10 := Lib.hid (grow_trans B9.out hb10)
        clear hb10
        go_wp2_with fail
        refine (hcount_any w10 y m d t fn hs1 (HK.out.below (grow_trans B8.out B10.out)) (by omega)).mono ?_
        rintro e w11 ⟨rfl, hb11⟩
        rw [← J3.out]
        have B11 := Lib.hid (grow_trans B10.out hb11)
        clear hb11
        go_wp2
        go_roundg (N - (k + 1))
        case measure => omega
        case rel => exact ⟨k + 1, by omega, by omega, by go_num, grow_trans hb.out B11.out⟩
      · obtain rfl : k = N := by omega
        have B8 := Lib.hid (B7.out.trans (hb.out.mono B7.out.size))
        go_wp2_with fail
        refine (trlives_any wr).mono ?_
        rintro e w9 ⟨rfl, hb9⟩
        have B9 := Lib.hid (grow_trans B8.out hb9)
        clear hb9
        go_wp2
        go_ret
        exact ⟨rfl, B9.out⟩
  · have D7 := F47.out.drop l.length c4 ml3 hc4
    rw [if_neg hcl] at D7
    have HD := Lib.hid D7
    clear D7
    go_wp2_with fail
    obtain ⟨N, hN⟩ : ∃ N, N = M.length - l.length := ⟨_, rfl⟩
    obtain ⟨D, hD⟩ : ∃ D, D = M.drop l.length := ⟨_, rfl⟩
    rw [← hN] at HD ⊢
    rw [← hD] at HD HJ
    generalize (Option.map (fun x => x.add (l.length * 2)) x4) = X at HD ⊢
    have hNb : N ≤ 1000 := by omega
    have HDd := Lib.hid hD
    clear hN hD
    go_loopg [49] N (fun gg s49 wr => ∃ k : Nat, k ≤ N ∧ N - k ≤ gg ∧ s49 = .int .i64 k ∧ Hid (Below w7.heap.size w7 wr))
    case atStart => exact ⟨0, Nat.zero_le _, by omega, rfl, Below.refl _ _⟩
    case round =>
      obtain ⟨k, hk, hg, rfl, hb⟩ := hrel
      by_cases hkl : k < N
      · obtain ⟨b, o, f, rfl, hl3, hf, hc1, hc2, hs1, hs2⟩ := (HD.out.below hb.out).get k hkl
        obtain ⟨j1, j2, j3, j4⟩ := HJ.out f (by rw [hf]; exact List.getElem_mem hl3)
        obtain ⟨fn, fv⟩ := f
        simp only at hc1 hc2 hs1 hs2 j1 j2 j3
        clear hf
        obtain ⟨q, hq⟩ : ∃ q, q = (allV t fn).length := ⟨_, rfl⟩
        have j5 : (0 : Int) < (q : Int) := by omega
        have j6 : ((q : Int) == 0) = false := by simp; omega
        have J1 := Lib.hid j1
        have J2 := Lib.hid j2
        have J3 := Lib.hid hq
        have B8 := Lib.hid (B7.out.trans (hb.out.mono B7.out.size))
        clear j1 j2 j3 hq j4
        go_wp2_with fail
        refine (allowed_any fn _ hs1).mono ?_
        rintro e w9 ⟨rfl, hb9⟩
        rw [J1.out]
        have hbx := Blk.new wr 31 #[.string fn, .string fv]
        have K9 := Lib.hid (hbx.below hb9 hbx.lt)
        have c9 : w9.cell? ⟨wr.heap.size, 0, none⟩ = some (.string fn) := K9.out.cell 0
        have B9 := Lib.hid (grow_trans (below_new wr (.cells #[.string fn, .string fv] 31)) hb9)
        clear hb9 hbx
        go_wp2_with fail
        refine (hcount_any w9 x _ c l fn hs1 (HA.out.below (grow_trans B8.out B9.out)) (by omega)).mono ?_
        rintro e w10 ⟨rfl, hb10⟩
        rw [J2.out]
        have c10 : w10.cell? ⟨wr.heap.size, 0, none⟩ = some (.string fn) := (K9.out.below hb10 K9.out.lt).cell 0
        have B10 := Lib.hid (grow_trans B9.out hb10)
        clear hb10
        go_wp2_with fail
        refine (hcount_any w10 y m d t fn hs1 (HK.out.below (grow_trans B8.out B10.out)) (by omega)).mono ?_
        rintro e w11 ⟨rfl, hb11⟩
        rw [← J3.out]
        have B11 := Lib.hid (grow_trans B10.out hb11)
        clear hb11
        go_wp2
        go_roundg (N - (k + 1))
        case measure => omega
        case rel => exact ⟨k + 1, by omega, by omega, by go_num, grow_trans hb.out B11.out⟩
      · obtain rfl : k = N := by omega
        have B8 := Lib.hid (B7.out.trans (hb.out.mono B7.out.size))
        go_wp2_with fail
        refine (trlives_any wr).mono ?_
        rintro e w9 ⟨rfl, hb9⟩
        have B9 := Lib.hid (grow_trans B8.out hb9)
        clear hb9
        go_wp2
        go_ret
        exact ⟨rfl, B9.out⟩

set_option maxRecDepth 100000 in
set_option maxHeartbeats 3200000 in
theorem tmerges_any (x y : Option Addr) (n c m d : Nat) (l k : Flds) (w : World) (h : FldsAt w x n l) (h2 : FldsAt w y m k) :
    Calls Try.prog 4 #[.slice x n c, .slice y m d] w fun e w' => e = .returned (.bool true) ∧ Below w.heap.size w w' := by
  cases hl : fewB l
  · have C1 := Lib.hid (few_any w x n c l h)
    have HL := Lib.hid hl
    clear h h2 hl
    go_enter Try.func4, Try.ntmps4
    go_wp2_with fail
    refine C1.out.mono ?_
    rintro e w1 ⟨rfl, hb1⟩
    rw [HL.out]
    have B1 := Lib.hid hb1
    clear hb1
    go_wp2_with fail
    refine (trlives_any w1).mono ?_
    rintro e w13 ⟨rfl, hb13⟩
    have B13 := Lib.hid (grow_trans B1.out hb13)
    clear hb13
    go_wp2
    go_ret
    exact ⟨rfl, B13.out⟩
  · cases hk : fewB k
    · have C1 := Lib.hid (few_any w x n c l h)
      have HL := Lib.hid hl
      have HK := Lib.hid h2
      have HK2 := Lib.hid hk
      clear h h2 hl hk
      go_enter Try.func4, Try.ntmps4
      go_wp2_with fail
      refine C1.out.mono ?_
      rintro e w1 ⟨rfl, hb1⟩
      rw [HL.out]
      have B1 := Lib.hid hb1
      clear hb1
      go_wp2_with fail
      refine (few_any w1 y m d k (HK.out.below B1.out)).mono ?_
      rintro e w2 ⟨rfl, hb2⟩
      rw [HK2.out]
      have B2 := Lib.hid (grow_trans B1.out hb2)
      clear hb2
      go_wp2_with fail
      refine (trlives_any w2).mono ?_
      rintro e w13 ⟨rfl, hb13⟩
      have B13 := Lib.hid (grow_trans B2.out hb13)
      clear hb13
      go_wp2
      go_ret
      exact ⟨rfl, B13.out⟩
    · exact tmerges_yes x y n c m d l k w h h2 hl hk
end Go.Proofs.Ytdpohibgipkhnaa
