
/-
  A []api.Field THAT CAME IN: its length is not more than its capacity.
-/
import Derived.Test.YtdpohibgipkhnaaFldsOpen
import Derived.ChangeSame
namespace Go.Proofs.Ytdpohibgipkhnaa
open Go.ChangeShapes Go.WideShapes Go.ChangeAt Go.Deep Go.RowKit
section
variable {H : Type} {enc : TypeId × Value → H} {w : World} {base : Nat} {spare : Nat → Bool} {held : Bool}
set_option maxRecDepth 100000 in
theorem fldc_open {x : Option Addr} {len cap : Nat} {d : DataW H} {ps : List MemPlace} (h : ∃ fuel, DataW.trod enc Try.prog w base spare held fuel 22 (Value.slice x len cap).cells.toList = some (d, ps)) : ∃ l, FldsAt w x len l ∧ len ≤ cap := by
  obtain ⟨l, hl⟩ := flds_open h
  refine ⟨l, hl, ?_⟩
  obtain ⟨fuel, hf⟩ := h
  obtain ⟨f0, f1, hu, hone, t0, t1⟩ := fields_of_field
  rcases open_slice_fields Try.underlying22 hu hone (by kernel_rfl) hf with ⟨hcs, _⟩ | ⟨a, l, c, m, D, Pl, hcs, _, hl, hm, hmm, _, hi⟩
  · simp [Value.cells] at hcs
    obtain ⟨rfl, rfl, rfl⟩ := hcs
    exact Nat.le_refl _
  · simp [Value.cells] at hcs
    obtain ⟨rfl, rfl, rfl⟩ := hcs
    exact hl
end
theorem list2f {l : List Value} (h : l.length = 2) : ∃ a b, l = [a, b] := by
  match l, h with
  | [a, b], _ => exact ⟨a, b, rfl⟩
theorem cells_strf : Try.prog.cellsOf 9 = 1 := by kernel_rfl
theorem cells_fld : Try.prog.cellsOf 31 = 2 := by kernel_rfl
section
variable {H : Type} {enc : TypeId × Value → H} {w : World} {base : Nat} {spare : Nat → Bool} {held : Bool} {r : Reach} {b0 : Nat} {v : Value} {d : DataW H} {p : List MemPlace}
set_option maxRecDepth 100000 in
/-- A field by value. -/
theorem open_fld (hv : Value.okWide Try.prog w r b0 31 v) (h : DataW.Trod enc Try.prog w base spare held 31 v d p) : ∃ s t : ByteArray, v = .agg #[.string s, .string t] ∧ s.size ≤ maxLen ∧ t.size ≤ maxLen := by
  obtain ⟨cs, rfl, hsz⟩ := okWide_struct Try.underlying31 hv
  obtain ⟨l⟩ := cs
  obtain ⟨fuel, hf⟩ := h
  obtain ⟨xs, n, _, hx, _, hlen, hg⟩ := DataW.trod_struct Try.underlying31 hf
  obtain ⟨a, b, rfl⟩ := list2f (show l.length = 2 from hsz.trans cells_fld)
  have h0 : DataW.trod enc Try.prog w base spare held n 9 (List.take (Try.prog.cellsOf 9) (List.drop 0 [a, b])) = xs[0]? := hg 0 _ rfl
  have h1 : DataW.trod enc Try.prog w base spare held n 9 (List.take (Try.prog.cellsOf 9) (List.drop 1 [a, b])) = xs[1]? := hg 1 _ rfl
  rw [cells_strf] at h0 h1
  have x0 : 0 < xs.length := by rw [hlen]; decide
  have x1 : 1 < xs.length := by rw [hlen]; decide
  rw [List.getElem?_eq_getElem x0] at h0
  rw [List.getElem?_eq_getElem x1] at h1
  obtain ⟨c, e0, _, z0⟩ := DataW.trod_string Try.underlying9 h0
  obtain ⟨o, e1, _, z1⟩ := DataW.trod_string Try.underlying9 h1
  simp at e0 e1
  exact ⟨c, o, by rw [e0, e1], z0, z1⟩
end
end Go.Proofs.Ytdpohibgipkhnaa
