
/-
  THE WALKS of layer 50's example and of CanonNames.
-/
import Derived.Test.YtdpohibgipkhnaaCanon7
import Derived.Test.YtdpohibgipkhnaaFldsCap
namespace Go.Proofs.Ytdpohibgipkhnaa
open Go.RowKit Go.Sort Go.Proofs.Ytdpohibgipkhnaa.Oct

theorem FldsPost.flds {w w' : World} {l : Flds} {v : Value} (ho : w'.ownsRow w.heap.size 31 2 v l.length (fldVals l)) (hn : l.length ≤ 65536) (hs : ∀ p ∈ l, p.1.size ≤ 9223372036854775807 ∧ p.2.size ≤ 9223372036854775807) : ∃ x c, v = .slice x l.length c ∧ l.length ≤ c ∧ FldsAt w' x l.length l := own_flds ho hn hs
def lvC : Flds := [(⟨#[97]⟩, ⟨#[49]⟩), (⟨#[66]⟩, ⟨#[50]⟩), (⟨#[65]⟩, ⟨#[51]⟩)]
def lvD : Flds := [(⟨#[65]⟩, ⟨#[49, 44, 32, 51]⟩), (⟨#[66]⟩, ⟨#[50]⟩)]
theorem lvC_can : canF lvC = lvD := by decide +kernel
theorem lvC_name : nameS ⟨#[99, 111, 110, 116, 101, 110, 116, 45, 108, 101, 110, 103, 116, 104]⟩ = ⟨#[67, 111, 110, 116, 101, 110, 116, 45, 76, 101, 110, 103, 116, 104]⟩ := by decide +kernel
theorem lvC_sum : SumLe lvC 1000000000 := SumLe.of (a := 3) (b := 1) (by decide) (by decide) (by decide)

set_option maxRecDepth 100000 in
set_option maxHeartbeats 1600000 in
theorem clives_any (w : World) : Calls Try.prog 45 #[] w fun e w' => e = .returned (.bool true) ∧ Below w.heap.size w w' := by
  have hfl := flds_lit w lvC (by decide) (by decide)
  have HC := Lib.hid (fields_any _ _ 3 3 lvC hfl (by omega) (by omega) (by decide) (by rw [lvC_can]; decide) lvC_sum)
  have HN := Lib.hid lvC_name
  clear hfl
  go_enter Try.func45, Try.ntmps45
  go_wp2_with fail
  refine HC.out.mono ?_
  rintro e w1 ⟨v1, rfl, ho1, hb1⟩
  rw [lvC_can] at ho1
  obtain ⟨x1, c1, rfl, hc1, hF1⟩ := own_flds ho1 (by decide) (by decide)
  have HB1 := Lib.hid ((below_new w (.cells (fldVals lvC).toArray 31)).trans (hb1.mono (by simp)))
  have F1 := Lib.hid hF1
  clear hb1 ho1 hF1 hc1
  go_wp2_with fail
  refine (name_any _ _ (by decide)).mono ?_
  rintro e w2 ⟨rfl, hb2⟩
  rw [HN.out]
  have HB2 := Lib.hid (grow_trans HB1.out hb2)
  have F2 := Lib.hid ((F1.out.below hb2).below (below_new w2 (.cells (fldVals lvD).toArray 31)))
  have HD := Lib.hid (flds_lit w2 lvD (by decide) (by decide))
  clear hb2
  go_wp2_with fail
  refine (rsamef_any _ _ 2 _ 2 2 lvD lvD _ F2.out HD.out).mono ?_
  rintro e w3 ⟨rfl, hd⟩
  have HB3 := Lib.hid ((grow_trans HB2.out (below_new w2 (.cells (fldVals lvD).toArray 31))).trans (hd.below _))
  rw [show decide (lvD = lvD) = true from decide_eq_true rfl]
  clear hd
  go_wp2_with fail
  go_ret
  exact ⟨rfl, HB3.out⟩

set_option maxRecDepth 100000 in
set_option maxHeartbeats 3200000 in
theorem cnames_any (s : ByteArray) (w : World) (hs : s.size ≤ 9223372036854775807) : Calls Try.prog 8 #[.string s] w fun e w' => e = .returned (.bool true) ∧ Below w.heap.size w w' := by
  by_cases h3 : s.size ≤ 300
  · have hmin : min (s.size : Int) 300 = (s.size : Int) := by omega
    go_enter Try.func8, Try.ntmps8
    go_wp2_with fail
    obtain ⟨T, hT⟩ : ∃ T, T = s := ⟨_, rfl⟩
    have hT3 : T.size ≤ 300 := by rw [hT]; exact h3
    rw [← hT]
    clear hT h3 hmin
    refine (name_any T _ (by omega)).mono ?_
    rintro e w1 ⟨rfl, hb1⟩
    have HB1 := Lib.hid hb1
    clear hb1
    have hz : (nameS T).size ≤ 300 := by rw [nameS_size]; exact hT3
    have HF := Lib.hid (nameS_fold T)
    have HI := Lib.hid (nameS_idem T)
    go_wp2_with fail
    refine (rname_any T _ (by omega)).mono ?_
    rintro e w2 ⟨rfl, hb2⟩
    have HB2 := Lib.hid (grow_trans HB1.out hb2)
    clear hb2
    go_wp2_with fail
    refine (single_any T _ (by omega)).mono ?_
    rintro e w3 ⟨rfl, hb3⟩
    have HB3 := Lib.hid (grow_trans HB2.out hb3)
    clear hb3
    go_wp2_with fail
    refine (rsingle_any T _ (by omega)).mono ?_
    rintro e w4 ⟨rfl, hb4⟩
    have HB4 := Lib.hid (grow_trans HB3.out hb4)
    clear hb4
    go_wp2_with fail
    refine (name_any (nameS T) _ (by omega)).mono ?_
    rintro e w5 ⟨rfl, hb5⟩
    rw [HI.out]
    have HB5 := Lib.hid (grow_trans HB4.out hb5)
    clear hb5
    go_wp2_with fail
    refine (fold_any (nameS T) T _ (by omega) (by omega)).mono ?_
    rintro e w6 ⟨rfl, hd6⟩
    rw [HF.out]
    have HB6 := Lib.hid (grow_trans HB5.out hd6.grow)
    clear hd6
    go_wp2_with fail
    refine (clives_any _).mono ?_
    rintro e w7 ⟨rfl, hb7⟩
    have HB7 := Lib.hid (grow_trans HB6.out hb7)
    clear hb7
    go_wp2_with fail
    go_ret
    exact ⟨rfl, HB7.out⟩
  · have hmin : min (s.size : Int) 300 = 300 := by omega
    have h300 : (300 : Int) ≤ (s.size : Int) := by omega
    have hT4 : (s.extract 0 300).size ≤ 300 := by simp; omega
    have HT4 := Lib.hid hT4
    clear hT4
    go_enter Try.func8, Try.ntmps8
    go_wp2_with fail
    obtain ⟨T, hT⟩ : ∃ T, T = s.extract 0 300 := ⟨_, rfl⟩
    have hT3 : T.size ≤ 300 := by rw [hT]; exact HT4.out
    rw [← hT]
    clear hT h3 hmin HT4 h300
    refine (name_any T _ (by omega)).mono ?_
    rintro e w1 ⟨rfl, hb1⟩
    have HB1 := Lib.hid hb1
    clear hb1
    have hz : (nameS T).size ≤ 300 := by rw [nameS_size]; exact hT3
    have HF := Lib.hid (nameS_fold T)
    have HI := Lib.hid (nameS_idem T)
    go_wp2_with fail
    refine (rname_any T _ (by omega)).mono ?_
    rintro e w2 ⟨rfl, hb2⟩
    have HB2 := Lib.hid (grow_trans HB1.out hb2)
    clear hb2
    go_wp2_with fail
    refine (single_any T _ (by omega)).mono ?_
    rintro e w3 ⟨rfl, hb3⟩
    have HB3 := Lib.hid (grow_trans HB2.out hb3)
    clear hb3
    go_wp2_with fail
    refine (rsingle_any T _ (by omega)).mono ?_
    rintro e w4 ⟨rfl, hb4⟩
    have HB4 := Lib.hid (grow_trans HB3.out hb4)
    clear hb4
    go_wp2_with fail
    refine (name_any (nameS T) _ (by omega)).mono ?_
    rintro e w5 ⟨rfl, hb5⟩
    rw [HI.out]
    have HB5 := Lib.hid (grow_trans HB4.out hb5)
    clear hb5
    go_wp2_with fail
    refine (fold_any (nameS T) T _ (by omega) (by omega)).mono ?_
    rintro e w6 ⟨rfl, hd6⟩
    rw [HF.out]
    have HB6 := Lib.hid (grow_trans HB5.out hd6.grow)
    clear hd6
    go_wp2_with fail
    refine (clives_any _).mono ?_
    rintro e w7 ⟨rfl, hb7⟩
    have HB7 := Lib.hid (grow_trans HB6.out hb7)
    clear hb7
    go_wp2_with fail
    go_ret
    exact ⟨rfl, HB7.out⟩
end Go.Proofs.Ytdpohibgipkhnaa
