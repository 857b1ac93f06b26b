/-
  THE WALK of the document's own answer to whether an event may be: it is act.Right's.
-/
import Derived.Test.YtgbjndlaonalcaaActRight
namespace Go.Proofs.Ytgbjndlaonalcaa
open Go.RowKit Go.Proofs.Ytgbjndlaonalcaa.Act

theorem rightB_eq (op c o n : Int) (s : ByteArray) : rightB op c o n s =
    decide (((1 ≤ op ∧ op ≤ 7) ∧ ((op = 6 ∧ c = 0 ∧ o = 0) ∨ ((op = 1 ∨ op = 7) ∧ 0 ≤ c ∧ c < 16 ∧ o = 0) ∨ (op ≠ 6 ∧ op ≠ 1 ∧ op ≠ 7 ∧ 0 ≤ c ∧ c < 16 ∧ 0 ≤ o ∧ o ≤ 1000))
      ∧ (0 ≤ n ∧ (((op = 4 ∨ op = 5) ∧ n ≤ 1048576) ∨ (op = 6 ∧ n ≤ 1073741824) ∨ (op ≠ 4 ∧ op ≠ 5 ∧ op ≠ 6 ∧ n ≤ 0))))
      ∧ (s.size = 0 ∨ (op = 2 ∧ s.size ≤ 4096))) := by
  unfold rightB placedB withinB
  rw [Bool.eq_iff_iff]
  simp only [Bool.and_eq_true, decide_eq_true_eq]
  omega

theorem bne_t {o : Int} (h : (o != 0) = true) : o ≠ 0 := by simpa using h
theorem bne_f {o : Int} (h : (o != 0) = false) : o = 0 := by simpa using h

set_option maxRecDepth 100000 in
set_option maxHeartbeats 6400000 in
theorem rright_any (op c o n : Int) (s : ByteArray) (w : World) :
    Calls Try.prog 33 #[.agg #[.int .i64 op, .int .i64 c, .int .i64 o, .int .i64 n, .string s]] w fun e w' => e = .returned (.bool (rightB op c o n s)) ∧ Below w.heap.size w w' := by
  have RW := Lib.hid (rightB_eq)
  cases hse : s.toList.isEmpty
  all_goals
    have hs : if s.toList.isEmpty = true then s.size = 0 else ¬ s.size = 0 := by
      by_cases h : s.size = 0
      · rw [if_pos (empty_eq s h)]; exact h
      · rw [if_neg (by rw [empty_ne s h]; decide)]; exact h
    simp only [hse, if_true, if_false, Bool.false_eq_true] at hs
    have HS := Lib.hid hs
    clear hs
    rcases (by omega : op < 1 ∨ 7 < op ∨ op = 6 ∨ op = 1 ∨ op = 7 ∨ op = 4 ∨ op = 5 ∨ op = 2 ∨ op = 3) with h | h | rfl | rfl | rfl | rfl | rfl | rfl | rfl
    all_goals
      go_enter Try.func33, Try.ntmps33
      go_wp2
      all_goals
        go_ret
        refine ⟨?_, by repeat (first | exact Below.refl _ _ | refine Below.alloc ?_ (by first | exact Nat.le_refl _ | (simp; done) | (simp; omega)) _)⟩
        apply ret_bool
        rw [RW.out]
        have hs := HS.out
        first | exact (decide_eq_true (by omega)).symm | exact (decide_eq_false (by omega)).symm | exact decide_eq_decide.2 (by omega) | (have hx := bne_t ‹(o != 0) = true›; first | exact (decide_eq_true (by omega)).symm | exact (decide_eq_false (by omega)).symm | exact decide_eq_decide.2 (by omega)) | (have hx := bne_f ‹(o != 0) = false›; first | exact (decide_eq_true (by omega)).symm | exact (decide_eq_false (by omega)).symm | exact decide_eq_decide.2 (by omega))
end Go.Proofs.Ytgbjndlaonalcaa
