/-
  THE WALK of the law ActEvents: seven steps, made by hand; the event of each; the step back from it.
-/
import Derived.Test.YtgbjndlaonalcaaActTells
import Derived.Deep.RegionHeld3
namespace Go.Proofs.Ytgbjndlaonalcaa
open Go.RowKit Go.Proofs.Ytgbjndlaonalcaa.Act

/-- The connection's box and the list of steps behind it. -/
def EvCells (w : World) (b : Nat) (c o n : Int) (s : ByteArray) : Prop :=
  w.heap[b]? = some (.cells #[.int .i64 c, .int .i64 o] 46 (0, 0)) ∧ w.heap[b + 1]? = some (.cells #[.iface 58 (.agg #[.int .i64 c]), .iface 60 (.agg #[.int .i64 c, .int .i64 o, .string s]), .iface 62 (.agg #[.int .i64 c, .int .i64 o]), .iface 64 (.agg #[.int .i64 c, .int .i64 o, .int .i64 n]), .iface 65 (.agg #[.int .i64 c, .int .i64 o, .int .i64 n]), .iface 67 (.agg #[.int .i64 n]), .iface 68 (.agg #[.int .i64 c])] 50 (0, 0))
theorem EvCells.below {w w' : World} {b : Nat} {c o n : Int} {s : ByteArray} (h : EvCells w b c o n s) (k : Below w.heap.size w w') : EvCells w' b c o n s :=
  ⟨(k.block b (lt_of_block h.1)).trans h.1, (k.block (b + 1) (lt_of_block h.2)).trans h.2⟩
theorem EvCells.at_ {w : World} {b : Nat} {c o n : Int} {s : ByteArray} (h : EvCells w b c o n s) :
    w.cell? ⟨b, 0, none⟩ = some (.int .i64 c) ∧ w.cell? ⟨b, 1, none⟩ = some (.int .i64 o) ∧ (∀ j, w.frozen? ⟨b, j, none⟩ = false) ∧
    w.cell? ⟨b + 1, 0, none⟩ = some (.iface 58 (.agg #[.int .i64 c])) ∧
    w.cell? ⟨b + 1, 1, none⟩ = some (.iface 60 (.agg #[.int .i64 c, .int .i64 o, .string s])) ∧
    w.cell? ⟨b + 1, 2, none⟩ = some (.iface 62 (.agg #[.int .i64 c, .int .i64 o])) ∧
    w.cell? ⟨b + 1, 3, none⟩ = some (.iface 64 (.agg #[.int .i64 c, .int .i64 o, .int .i64 n])) ∧
    w.cell? ⟨b + 1, 4, none⟩ = some (.iface 65 (.agg #[.int .i64 c, .int .i64 o, .int .i64 n])) ∧
    w.cell? ⟨b + 1, 5, none⟩ = some (.iface 67 (.agg #[.int .i64 n])) ∧
    w.cell? ⟨b + 1, 6, none⟩ = some (.iface 68 (.agg #[.int .i64 c])) ∧
    (∀ j, w.frozen? ⟨b + 1, j, none⟩ = false) :=
  ⟨box_cell h.1 0, box_cell h.1 1, box_free h.1, box_cell h.2 0, box_cell h.2 1, box_cell h.2 2, box_cell h.2 3, box_cell h.2 4, box_cell h.2 5, box_cell h.2 6, box_free h.2⟩

theorem evcells_start (w : World) (c o n : Int) (s : ByteArray) :
    EvCells ((w.alloc (.cells #[.int .i64 c, .int .i64 o] 46)).alloc (.cells #[.iface 58 (.agg #[.int .i64 c]), .iface 60 (.agg #[.int .i64 c, .int .i64 o, .string s]), .iface 62 (.agg #[.int .i64 c, .int .i64 o]), .iface 64 (.agg #[.int .i64 c, .int .i64 o, .int .i64 n]), .iface 65 (.agg #[.int .i64 c, .int .i64 o, .int .i64 n]), .iface 67 (.agg #[.int .i64 n]), .iface 68 (.agg #[.int .i64 c])] 50)) w.heap.size c o n s := by
  constructor
  · show ((w.heap.push _).push _)[w.heap.size]? = _
    rw [Array.getElem?_push, if_neg (by simp), Array.getElem?_push, if_pos rfl]
  · show ((w.heap.push _).push _)[w.heap.size + 1]? = _
    rw [Array.getElem?_push, if_pos (by simp)]
theorem of_ok {op c o n : Int} {s : ByteArray} {V : Value} (hr : rightB op c o n s = true) (hV : ofV op c o n s = V) (w : World) :
    Calls Try.prog 32 #[.agg #[.int .i64 op, .int .i64 c, .int .i64 o, .int .i64 n, .string s]] w fun e w' => e = .returned (.tuple #[V, .bool true]) ∧ Below w.heap.size w w' := by
  refine (of_any op c o n s w).mono fun e w' h => ?_
  rw [hr, hV] at h
  exact h
theorem of_no {op c o n : Int} {s : ByteArray} (hr : rightB op c o n s = false) (w : World) :
    Calls Try.prog 32 #[.agg #[.int .i64 op, .int .i64 c, .int .i64 o, .int .i64 n, .string s]] w fun e w' => e = .returned (.tuple #[.nilIface, .bool false]) ∧ Below w.heap.size w w' := by
  refine (of_any op c o n s w).mono fun e w' h => ?_
  have hV : ofV op c o n s = .nilIface := by unfold ofV; rw [if_neg (by rw [hr]; decide)]
  rw [hr, hV] at h
  exact h
end Go.Proofs.Ytgbjndlaonalcaa
