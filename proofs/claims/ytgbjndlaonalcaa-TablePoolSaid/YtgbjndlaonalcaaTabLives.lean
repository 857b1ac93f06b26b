
/-
  THE WALKS of the law's own 'put' and of 'lives'.
-/
import Derived.Test.YtgbjndlaonalcaaTabSameLaw
namespace Go.Proofs.Ytgbjndlaonalcaa
open Go.RowKit Go.Proofs.Ytgbjndlaonalcaa.Tab

set_option maxRecDepth 100000 in
set_option maxHeartbeats 1600000 in
theorem lput_room (w : World) (b g : Nat) (l : Slots) (x : Int) (h : IsTab w b g l) (hf : full l < l.length) :
    Calls Try.prog 49 #[.pointer (some ⟨b, 0, none⟩), .int .i64 x] w fun e w' => e = .returned (.int .i64 (free l)) ∧ IsTab w' b g (l.set (free l) (x, true)) ∧ Only2 b g w w' := by
  have H := Lib.hid (tput_room w b g l x h hf)
  clear h hf
  go_enter Try.func49, Try.ntmps49
  go_wp2_with fail
  refine H.out.mono ?_
  rintro e w1 ⟨rfl, ht, ho⟩
  have HT := Lib.hid ht
  have HO := Lib.hid ho
  clear ht ho
  go_wp2
  go_ret
  exact ⟨rfl, HT.out, HO.out⟩
set_option maxRecDepth 100000 in
set_option maxHeartbeats 1600000 in
theorem lput_full (w : World) (b g : Nat) (l : Slots) (x : Int) (h : IsTab w b g l) (hf : full l = l.length) :
    Calls Try.prog 49 #[.pointer (some ⟨b, 0, none⟩), .int .i64 x] w fun e w' => e = .returned (.int .i64 (-1)) ∧ Drawn w w' := by
  have H := Lib.hid (tput_full w b g l x h hf)
  clear h hf
  go_enter Try.func49, Try.ntmps49
  go_wp2_with fail
  refine H.out.mono ?_
  rintro e w1 ⟨rfl, hd⟩
  go_wp2
  go_ret
  exact ⟨rfl, hd⟩

set_option maxRecDepth 100000 in
set_option maxHeartbeats 1600000 in
theorem tablives_any (w : World) : Calls Try.prog 47 #[] w fun e w' => e = .returned (.bool true) ∧ Below w.heap.size w w' := by
  go_enter Try.func47, Try.ntmps47
  go_wp2_with fail
  refine (tnew_some 2 w (by omega)).mono ?_
  rintro e w1 ⟨rfl, hw1⟩
  have t1 : IsTab w1 (w.heap.size + 1) w.heap.size [(0, false), (0, false)] := by rw [← hw1]; exact newTab_is w 2 (by omega)
  have b1 : Below w.heap.size w w1 := by rw [← hw1]; exact newTab_below w 2
  have T1 := Lib.hid t1
  have B1 := Lib.hid b1
  have z1 : w.heap.size ≤ w1.heap.size := b1.size
  clear hw1 t1 b1
  go_wp2_with fail
  refine (tput_room w1 _ _ _ 7 T1.out (by decide)).mono ?_
  rintro e w2 ⟨rfl, t2, o2⟩
  have T2 : Hid (IsTab w2 (w.heap.size + 1) w.heap.size [(7, true), (0, false)]) := t2
  have B2 := Lib.hid (B1.out.trans (o2.below (Nat.le_succ _) (Nat.le_refl _) z1))
  have z2 := Nat.le_trans z1 o2.size
  clear t2 o2
  go_wp2_with fail
  refine (tput_room w2 _ _ _ 8 T2.out (by decide)).mono ?_
  rintro e w3 ⟨rfl, t3, o3⟩
  have T3 : Hid (IsTab w3 (w.heap.size + 1) w.heap.size [(7, true), (8, true)]) := t3
  have B3 := Lib.hid (B2.out.trans (o3.below (Nat.le_succ _) (Nat.le_refl _) z2))
  have z3 := Nat.le_trans z2 o3.size
  clear t3 o3
  have f1 : ((free ([(0, false), (0, false)] : Slots) : Nat) : Int) = 0 := by decide
  have f2 : ((free ([(7, true), (0, false)] : Slots) : Nat) : Int) = 1 := by decide
  have D4 := Lib.hid (tdrop_yes w3 _ _ _ 0 T3.out (by decide) rfl)
  go_wp2_with fail
  refine D4.out.mono ?_
  rintro e w4 ⟨rfl, t4, o4⟩
  have T4 : Hid (IsTab w4 (w.heap.size + 1) w.heap.size [(0, false), (8, true)]) := t4
  have B4 := Lib.hid (B3.out.trans (o4.below (Nat.le_succ _) (Nat.le_refl _) z3))
  have z4 := Nat.le_trans z3 o4.size
  clear t4 o4
  go_wp2_with fail
  refine (lput_room w4 _ _ _ 9 T4.out (by decide)).mono ?_
  rintro e w5 ⟨rfl, t5, o5⟩
  have T5 : Hid (IsTab w5 (w.heap.size + 1) w.heap.size [(9, true), (8, true)]) := t5
  have B5 := Lib.hid (B4.out.trans (o5.below (Nat.le_succ _) (Nat.le_refl _) z4))
  have z5 := Nat.le_trans z4 o5.size
  have f3 : ((free ([(0, false), (8, true)] : Slots) : Nat) : Int) = 0 := by decide
  clear t5 o5
  go_wp2_with fail
  refine (lput_full w5 _ _ _ 5 T5.out (by decide)).mono ?_
  rintro e w6 ⟨rfl, hd⟩
  have B6 := Lib.hid (B5.out.trans (hd.below _))
  clear hd
  go_wp2_with fail
  refine (tnew_none (-1) w6 (by omega)).mono ?_
  rintro e w7 ⟨rfl, rfl⟩
  go_wp2
  go_ret
  exact ⟨rfl, B6.out⟩
end Go.Proofs.Ytgbjndlaonalcaa
