/-
  THE WALKS of act.Of and of the steps' own events.
-/
import Derived.Test.YtgbjndlaonalcaaActRight
namespace Go.Proofs.Ytgbjndlaonalcaa
open Go.RowKit Go.Proofs.Ytgbjndlaonalcaa.Act

namespace Act
/-- An event's value. -/
def evV (op c o n : Int) (s : ByteArray) : Value := .agg #[.int .i64 op, .int .i64 c, .int .i64 o, .int .i64 n, .string s]
/-- The step that an event is. -/
def ofV (op c o n : Int) (s : ByteArray) : Value :=
  if rightB op c o n s = true then
    (if op = 1 then .iface 58 (.agg #[.int .i64 c]) else if op = 2 then .iface 60 (.agg #[.int .i64 c, .int .i64 o, .string s])
     else if op = 3 then .iface 62 (.agg #[.int .i64 c, .int .i64 o]) else if op = 4 then .iface 64 (.agg #[.int .i64 c, .int .i64 o, .int .i64 n])
     else if op = 5 then .iface 65 (.agg #[.int .i64 c, .int .i64 o, .int .i64 n]) else if op = 6 then .iface 67 (.agg #[.int .i64 n]) else .iface 68 (.agg #[.int .i64 c]))
  else .nilIface
end Act

set_option maxRecDepth 100000 in
set_option maxHeartbeats 3200000 in
theorem of_any (op c o n : Int) (s : ByteArray) (w : World) :
    Calls Try.prog 32 #[.agg #[.int .i64 op, .int .i64 c, .int .i64 o, .int .i64 n, .string s]] w fun e w' => e = .returned (.tuple #[ofV op c o n s, .bool (rightB op c o n s)]) ∧ Below w.heap.size w w' := by
  by_cases hr : rightB op c o n s = true
  · have h17 : 1 ≤ op ∧ op ≤ 7 := by rw [show rightB op c o n s = (decide (1 ≤ op ∧ op ≤ 7) && placedB op c o && withinB op n && decide (s.size = 0 ∨ (op = 2 ∧ s.size ≤ 4096))) from rfl] at hr; simp only [Bool.and_eq_true, decide_eq_true_eq] at hr; exact hr.1.1.1
    rcases ops7 h17.1 h17.2 with rfl | rfl | rfl | rfl | rfl | rfl | rfl
    all_goals
      clear h17
      go_enter Try.func32, Try.ntmps32
      go_wp2_with (first
        | (go_at_call 34; refine (right_any _ _ _ _ _ _).mono ?_; rintro e w1 ⟨rfl, hl⟩; obtain ⟨c0, c1, c2, c3, c4, cf⟩ := box5 hl; have HL := Lib.hid hl; clear hl))
      go_returns
      refine ⟨?_, (below_new _ _).trans (HL.out.mono (by simp))⟩
      unfold ofV
      rw [if_pos hr]
      simp [hr]
  · have hf : rightB op c o n s = false := by simpa using hr
    go_enter Try.func32, Try.ntmps32
    go_wp2_with (first
      | (go_at_call 34; refine (right_any _ _ _ _ _ _).mono ?_; rintro e w1 ⟨rfl, hl⟩; obtain ⟨c0, c1, c2, c3, c4, cf⟩ := box5 hl; have HL := Lib.hid hl; clear hl))
    go_returns
    refine ⟨?_, (below_new _ _).trans (HL.out.mono (by simp))⟩
    unfold ofV
    rw [if_neg hr, hf]
    rfl

set_option maxRecDepth 100000 in
set_option maxHeartbeats 1600000 in
theorem openEv_any (c : Int) (w : World) :
    Calls Try.prog 104 #[.agg #[.int .i64 c]] w fun e w' => e = .returned (evV 1 c 0 0 ⟨#[]⟩) ∧ Below w.heap.size w w' := by
  go_enter Try.func104, Try.ntmps104
  go_wp2
  go_returns
  refine ⟨?_, by repeat (first | exact Below.refl _ _ | refine Below.setCell ?_ (by simp) _ | refine Below.alloc ?_ (by first | exact Nat.le_refl _ | (simp; done) | (simp; omega)) _)⟩
  rfl

set_option maxRecDepth 100000 in
set_option maxHeartbeats 1600000 in
theorem sendEv_any (c o : Int) (s : ByteArray) (w : World) :
    Calls Try.prog 105 #[.agg #[.int .i64 c, .int .i64 o, .string s]] w fun e w' => e = .returned (evV 2 c o 0 s) ∧ Below w.heap.size w w' := by
  go_enter Try.func105, Try.ntmps105
  go_wp2
  go_returns
  refine ⟨?_, by repeat (first | exact Below.refl _ _ | refine Below.setCell ?_ (by simp) _ | refine Below.alloc ?_ (by first | exact Nat.le_refl _ | (simp; done) | (simp; omega)) _)⟩
  rfl

set_option maxRecDepth 100000 in
set_option maxHeartbeats 1600000 in
theorem endEv_any (c o : Int) (w : World) :
    Calls Try.prog 106 #[.agg #[.int .i64 c, .int .i64 o]] w fun e w' => e = .returned (evV 3 c o 0 ⟨#[]⟩) ∧ Below w.heap.size w w' := by
  go_enter Try.func106, Try.ntmps106
  go_wp2
  go_returns
  refine ⟨?_, by repeat (first | exact Below.refl _ _ | refine Below.setCell ?_ (by simp) _ | refine Below.alloc ?_ (by first | exact Nat.le_refl _ | (simp; done) | (simp; omega)) _)⟩
  rfl

set_option maxRecDepth 100000 in
set_option maxHeartbeats 1600000 in
theorem readEv_any (c o n : Int) (w : World) :
    Calls Try.prog 107 #[.agg #[.int .i64 c, .int .i64 o, .int .i64 n]] w fun e w' => e = .returned (evV 4 c o n ⟨#[]⟩) ∧ Below w.heap.size w w' := by
  go_enter Try.func107, Try.ntmps107
  go_wp2
  go_returns
  refine ⟨?_, by repeat (first | exact Below.refl _ _ | refine Below.setCell ?_ (by simp) _ | refine Below.alloc ?_ (by first | exact Nat.le_refl _ | (simp; done) | (simp; omega)) _)⟩
  rfl

set_option maxRecDepth 100000 in
set_option maxHeartbeats 1600000 in
theorem grantEv_any (c o n : Int) (w : World) :
    Calls Try.prog 108 #[.agg #[.int .i64 c, .int .i64 o, .int .i64 n]] w fun e w' => e = .returned (evV 5 c o n ⟨#[]⟩) ∧ Below w.heap.size w w' := by
  go_enter Try.func108, Try.ntmps108
  go_wp2
  go_returns
  refine ⟨?_, by repeat (first | exact Below.refl _ _ | refine Below.setCell ?_ (by simp) _ | refine Below.alloc ?_ (by first | exact Nat.le_refl _ | (simp; done) | (simp; omega)) _)⟩
  rfl

set_option maxRecDepth 100000 in
set_option maxHeartbeats 1600000 in
theorem tickEv_any (n : Int) (w : World) :
    Calls Try.prog 109 #[.agg #[.int .i64 n]] w fun e w' => e = .returned (evV 6 0 0 n ⟨#[]⟩) ∧ Below w.heap.size w w' := by
  go_enter Try.func109, Try.ntmps109
  go_wp2
  go_returns
  refine ⟨?_, by repeat (first | exact Below.refl _ _ | refine Below.setCell ?_ (by simp) _ | refine Below.alloc ?_ (by first | exact Nat.le_refl _ | (simp; done) | (simp; omega)) _)⟩
  rfl

set_option maxRecDepth 100000 in
set_option maxHeartbeats 1600000 in
theorem serveEv_any (c : Int) (w : World) :
    Calls Try.prog 110 #[.agg #[.int .i64 c]] w fun e w' => e = .returned (evV 7 c 0 0 ⟨#[]⟩) ∧ Below w.heap.size w w' := by
  go_enter Try.func110, Try.ntmps110
  go_wp2
  go_returns
  refine ⟨?_, by repeat (first | exact Below.refl _ _ | refine Below.setCell ?_ (by simp) _ | refine Below.alloc ?_ (by first | exact Nat.le_refl _ | (simp; done) | (simp; omega)) _)⟩
  rfl
end Go.Proofs.Ytgbjndlaonalcaa
