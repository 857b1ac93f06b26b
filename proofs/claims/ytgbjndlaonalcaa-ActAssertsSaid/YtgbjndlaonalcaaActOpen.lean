/-
  AN EVENT AND A CONNECTION, HANDED IN BY VALUE: their cells.
-/
import Derived.Test.YtgbjndlaonalcaaAct
import Derived.ProofKit
import Derived.OpenShut
import Derived.ShutString
import Derived.ChangeSame
namespace Go.Proofs.Ytgbjndlaonalcaa
open Go.ChangeShapes Go.WideShapes Go.ChangeAt Go.RowKit

theorem list5 {l : List Value} (h : l.length = 5) : ∃ a b c d e, l = [a, b, c, d, e] := by
  match l, h with
  | [a, b, c, d, e], _ => exact ⟨a, b, c, d, e, rfl⟩
theorem list2 {l : List Value} (h : l.length = 2) : ∃ a b, l = [a, b] := by
  match l, h with
  | [a, b], _ => exact ⟨a, b, rfl⟩
theorem cells_int : Try.prog.cellsOf 3 = 1 := by kernel_rfl
theorem cells_str : Try.prog.cellsOf 9 = 1 := by kernel_rfl
theorem cells_conn : Try.prog.cellsOf 46 = 2 := by kernel_rfl
theorem cells_event : Try.prog.cellsOf 48 = 5 := by kernel_rfl
section
variable {H : Type} {enc : TypeId × Value → H} {w : World} {base : Nat} {spare : Nat → Bool} {held : Bool} {r : Reach} {b0 : Nat} {v : Value} {d : DataW H} {p : List MemPlace}

set_option maxRecDepth 100000 in
theorem conn_cells {fuel : Nat} {cs : List Value} {x : DataW H × List MemPlace} (hl : cs.length = 2) (h : DataW.trod enc Try.prog w base spare held fuel 46 cs = some x) :
    ∃ c o : Int, cs = [.int .i64 c, .int .i64 o] := by
  obtain ⟨xs, n, _, hx, _, hlen, hg⟩ := DataW.trod_struct Try.underlying46 h
  obtain ⟨a, b, rfl⟩ := list2 hl
  have h0 : DataW.trod enc Try.prog w base spare held n 3 (List.take (Try.prog.cellsOf 3) (List.drop 0 [a, b])) = xs[0]? := hg 0 _ rfl
  have h1 : DataW.trod enc Try.prog w base spare held n 3 (List.take (Try.prog.cellsOf 3) (List.drop 1 [a, b])) = xs[1]? := hg 1 _ rfl
  rw [cells_int] at h0 h1
  have x0 : 0 < xs.length := by rw [hlen]; decide
  have x1 : 1 < xs.length := by rw [hlen]; decide
  rw [List.getElem?_eq_getElem x0] at h0
  rw [List.getElem?_eq_getElem x1] at h1
  obtain ⟨c, e0, _, _⟩ := DataW.trod_int Try.underlying3 h0
  obtain ⟨o, e1, _, _⟩ := DataW.trod_int Try.underlying3 h1
  simp at e0 e1
  exact ⟨c, o, by rw [e0, e1]⟩

set_option maxRecDepth 100000 in
theorem open_conn (hv : Value.okWide Try.prog w r b0 46 v) (h : DataW.Trod enc Try.prog w base spare held 46 v d p) : ∃ c o : Int, v = .agg #[.int .i64 c, .int .i64 o] := by
  obtain ⟨cs, rfl, hsz⟩ := okWide_struct Try.underlying46 hv
  obtain ⟨l⟩ := cs
  obtain ⟨fuel, hf⟩ := h
  obtain ⟨c, o, e⟩ := conn_cells (show l.length = 2 from hsz.trans cells_conn) hf
  exact ⟨c, o, by rw [e]⟩

set_option maxRecDepth 100000 in
theorem open_event (hv : Value.okWide Try.prog w r b0 48 v) (h : DataW.Trod enc Try.prog w base spare held 48 v d p) :
    ∃ (op c o n : Int) (s : ByteArray), v = .agg #[.int .i64 op, .int .i64 c, .int .i64 o, .int .i64 n, .string s] ∧ s.size ≤ maxLen := by
  obtain ⟨cs, rfl, hsz⟩ := okWide_struct Try.underlying48 hv
  obtain ⟨l⟩ := cs
  obtain ⟨fuel, hf⟩ := h
  obtain ⟨xs, n, _, hx, _, hlen, hg⟩ := DataW.trod_struct Try.underlying48 hf
  obtain ⟨v0, v1, v2, v3, v4, rfl⟩ := list5 (show l.length = 5 from hsz.trans cells_event)
  have h0 : DataW.trod enc Try.prog w base spare held n 3 (List.take (Try.prog.cellsOf 3) (List.drop 0 [v0, v1, v2, v3, v4])) = xs[0]? := hg 0 _ rfl
  have h1 : DataW.trod enc Try.prog w base spare held n 46 (List.take (Try.prog.cellsOf 46) (List.drop 1 [v0, v1, v2, v3, v4])) = xs[1]? := hg 1 _ rfl
  have h2 : DataW.trod enc Try.prog w base spare held n 3 (List.take (Try.prog.cellsOf 3) (List.drop 3 [v0, v1, v2, v3, v4])) = xs[2]? := hg 2 _ rfl
  have h3 : DataW.trod enc Try.prog w base spare held n 9 (List.take (Try.prog.cellsOf 9) (List.drop 4 [v0, v1, v2, v3, v4])) = xs[3]? := hg 3 _ rfl
  rw [cells_int] at h0 h2
  rw [cells_conn] at h1
  rw [cells_str] at h3
  have x0 : 0 < xs.length := by rw [hlen]; decide
  have x1 : 1 < xs.length := by rw [hlen]; decide
  have x2 : 2 < xs.length := by rw [hlen]; decide
  have x3 : 3 < xs.length := by rw [hlen]; decide
  rw [List.getElem?_eq_getElem x0] at h0
  rw [List.getElem?_eq_getElem x1] at h1
  rw [List.getElem?_eq_getElem x2] at h2
  rw [List.getElem?_eq_getElem x3] at h3
  obtain ⟨op, e0, _, _⟩ := DataW.trod_int Try.underlying3 h0
  obtain ⟨c, o, e1⟩ := conn_cells (by rfl) h1
  obtain ⟨k, e2, _, _⟩ := DataW.trod_int Try.underlying3 h2
  obtain ⟨s, e3, _, hs⟩ := DataW.trod_string Try.underlying9 h3
  simp at e0 e1 e2 e3
  exact ⟨op, c, o, k, s, by rw [e0, e1.1, e1.2, e2, e3], hs⟩
end
end Go.Proofs.Ytgbjndlaonalcaa
