/-
  THE WALKS of act's inner functions: each op's word, whether a connection and a number may be, whether an event may be; and the document's own answers.
-/
import Derived.Test.YtgbjndlaonalcaaBase
namespace Go.Proofs.Ytgbjndlaonalcaa
open Go.RowKit

namespace Act
/-- Each op's word. -/
def wordS (op : Int) : ByteArray :=
  if op = 1 then ⟨#[111, 112, 101, 110]⟩ else if op = 2 then ⟨#[115, 101, 110, 100]⟩ else if op = 3 then ⟨#[101, 110, 100]⟩ else if op = 4 then ⟨#[114, 101, 97, 100]⟩
  else if op = 5 then ⟨#[103, 114, 97, 110, 116]⟩ else if op = 6 then ⟨#[116, 105, 99, 107]⟩ else if op = 7 then ⟨#[115, 101, 114, 118, 101]⟩ else ⟨#[]⟩
/-- May a connection be? -/
def placedB (op c o : Int) : Bool :=
  decide ((op = 6 ∧ c = 0 ∧ o = 0) ∨ ((op = 1 ∨ op = 7) ∧ 0 ≤ c ∧ c < 16 ∧ o = 0) ∨ (op ≠ 6 ∧ op ≠ 1 ∧ op ≠ 7 ∧ 0 ≤ c ∧ c < 16 ∧ 0 ≤ o ∧ o ≤ 1000))
/-- May a number be? -/
def withinB (op n : Int) : Bool :=
  decide (0 ≤ n ∧ (((op = 4 ∨ op = 5) ∧ n ≤ 1048576) ∨ (op = 6 ∧ n ≤ 1073741824) ∨ (op ≠ 4 ∧ op ≠ 5 ∧ op ≠ 6 ∧ n ≤ 0)))
/-- May an event be? -/
def rightB (op c o n : Int) (s : ByteArray) : Bool :=
  decide (1 ≤ op ∧ op ≤ 7) && placedB op c o && withinB op n && decide (s.size = 0 ∨ (op = 2 ∧ s.size ≤ 4096))
theorem empty_size (s : ByteArray) (h : s = ⟨#[]⟩) : s.size = 0 := by subst h; rfl
theorem ops7 {op : Int} (h : 1 ≤ op) (k : op ≤ 7) : op = 1 ∨ op = 2 ∨ op = 3 ∨ op = 4 ∨ op = 5 ∨ op = 6 ∨ op = 7 := by omega
end Act
open Go.Proofs.Ytgbjndlaonalcaa.Act

set_option maxRecDepth 100000 in
set_option maxHeartbeats 1600000 in
theorem word_any (op : Int) (w : World) :
    Calls Try.prog 35 #[.int .i64 op] w fun e w' => e = .returned (.string (wordS op)) ∧ Below w.heap.size w w' := by
  by_cases h : 1 ≤ op ∧ op ≤ 7
  · rcases ops7 h.1 h.2 with rfl | rfl | rfl | rfl | rfl | rfl | rfl <;>
    · clear h
      go_enter Try.func35, Try.ntmps35
      go_wp2
      go_ret
      refine ⟨rfl, ?_⟩
      (repeat (first | exact Below.refl _ _ | refine Below.alloc ?_ (by first | exact Nat.le_refl _ | (simp; done) | (simp; omega)) _ | refine grow_trans ?_ (by assumption)))
  · have e0 : wordS op = ⟨#[]⟩ := by
      unfold wordS
      rw [if_neg (by omega), if_neg (by omega), if_neg (by omega), if_neg (by omega), if_neg (by omega), if_neg (by omega), if_neg (by omega)]
    rw [e0]
    by_cases h1 : op < 1
    · have h2 : ¬ 8 ≤ op := by omega
      go_enter Try.func35, Try.ntmps35
      go_wp2
      go_ret
      refine ⟨rfl, ?_⟩
      (repeat (first | exact Below.refl _ _ | refine Below.alloc ?_ (by first | exact Nat.le_refl _ | (simp; done) | (simp; omega)) _ | refine grow_trans ?_ (by assumption)))
    · have h2 : 8 ≤ op := by omega
      go_enter Try.func35, Try.ntmps35
      go_wp2
      go_ret
      refine ⟨rfl, ?_⟩
      (repeat (first | exact Below.refl _ _ | refine Below.alloc ?_ (by first | exact Nat.le_refl _ | (simp; done) | (simp; omega)) _ | refine grow_trans ?_ (by assumption)))

set_option maxRecDepth 100000 in
set_option maxHeartbeats 1600000 in
theorem rword_any (op : Int) (w : World) :
    Calls Try.prog 36 #[.int .i64 op] w fun e w' => e = .returned (.string (wordS op)) ∧ Below w.heap.size w w' := by
  by_cases h : 1 ≤ op ∧ op ≤ 7
  · rcases ops7 h.1 h.2 with rfl | rfl | rfl | rfl | rfl | rfl | rfl <;>
    · clear h
      go_enter Try.func36, Try.ntmps36
      go_wp2
      go_ret
      refine ⟨rfl, ?_⟩
      (repeat (first | exact Below.refl _ _ | refine Below.alloc ?_ (by first | exact Nat.le_refl _ | (simp; done) | (simp; omega)) _ | refine grow_trans ?_ (by assumption)))
  · have e0 : wordS op = ⟨#[]⟩ := by
      unfold wordS
      rw [if_neg (by omega), if_neg (by omega), if_neg (by omega), if_neg (by omega), if_neg (by omega), if_neg (by omega), if_neg (by omega)]
    rw [e0]
    by_cases h1 : op < 1
    · have h2 : ¬ 7 < op := by omega
      go_enter Try.func36, Try.ntmps36
      go_wp2
      go_ret
      refine ⟨rfl, ?_⟩
      (repeat (first | exact Below.refl _ _ | refine Below.alloc ?_ (by first | exact Nat.le_refl _ | (simp; done) | (simp; omega)) _ | refine grow_trans ?_ (by assumption)))
    · have h2 : 7 < op := by omega
      go_enter Try.func36, Try.ntmps36
      go_wp2
      go_ret
      refine ⟨rfl, ?_⟩
      (repeat (first | exact Below.refl _ _ | refine Below.alloc ?_ (by first | exact Nat.le_refl _ | (simp; done) | (simp; omega)) _ | refine grow_trans ?_ (by assumption)))

set_option maxRecDepth 100000 in
set_option maxHeartbeats 3200000 in
theorem within_any (op n : Int) (w : World) :
    Calls Try.prog 73 #[.int .i64 op, .int .i64 n] w fun e w' => e = .returned (.bool (withinB op n)) ∧ Below w.heap.size w w' := by
  rcases (by omega : op = 4 ∨ op = 5 ∨ op = 6 ∨ (op ≠ 4 ∧ op ≠ 5 ∧ op ≠ 6)) with rfl | rfl | rfl | ⟨h4, h5, h6⟩
  all_goals
    go_enter Try.func73, Try.ntmps73
    go_wp2
    all_goals
      go_ret
      refine ⟨?_, ?_⟩
      · apply ret_bool
        unfold withinB
        first | exact (decide_eq_true (by omega)).symm | exact (decide_eq_false (by omega)).symm | exact decide_eq_decide.2 (by omega)
      (repeat (first | exact Below.refl _ _ | refine Below.alloc ?_ (by first | exact Nat.le_refl _ | (simp; done) | (simp; omega)) _ | refine grow_trans ?_ (by assumption)))

set_option maxRecDepth 100000 in
set_option maxHeartbeats 3200000 in
theorem placed_any (op c o : Int) (w : World) :
    Calls Try.prog 72 #[.int .i64 op, .agg #[.int .i64 c, .int .i64 o]] w fun e w' => e = .returned (.bool (placedB op c o)) ∧ Below w.heap.size w w' := by
  rcases (by omega : op = 6 ∨ op = 1 ∨ op = 7 ∨ (op ≠ 6 ∧ op ≠ 1 ∧ op ≠ 7)) with rfl | rfl | rfl | ⟨h6, h1, h7⟩
  all_goals
    go_enter Try.func72, Try.ntmps72
    go_wp2
    all_goals
      go_ret
      refine ⟨?_, ?_⟩
      · apply ret_bool
        unfold placedB
        first | exact (decide_eq_true (by omega)).symm | exact (decide_eq_false (by omega)).symm | exact decide_eq_decide.2 (by omega)
      (repeat (first | exact Below.refl _ _ | refine Below.alloc ?_ (by first | exact Nat.le_refl _ | (simp; done) | (simp; omega)) _ | refine grow_trans ?_ (by assumption)))

end Go.Proofs.Ytgbjndlaonalcaa
