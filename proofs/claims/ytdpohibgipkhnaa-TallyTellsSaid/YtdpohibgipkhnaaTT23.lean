
/-
  A []api.Field THAT CAME IN, AND A FIELD BY VALUE: what the reader's word gives.
-/
import Derived.Test.YtdpohibgipkhnaaTT19
import Derived.Test.YtdpohibgipkhnaaTT10
import Derived.ProofKit
import Derived.OpenShut
import Derived.ShutString
set_option linter.unusedVariables false
set_option linter.unusedSimpArgs false
namespace Go.Proofs.Ytdpohibgipkhnaa
open Go.ChangeShapes Go.WideShapes Go.Deep Go.RowKit

theorem fields_of_field : ∃ f0 f1, Try.prog.underlying 31 = some (.struct #[f0, f1]) ∧ oneCellFields Try.prog #[f0, f1] = true ∧ f0.type = 9 ∧ f1.type = 9 := ⟨_, _, Try.underlying31, by kernel_rfl, rfl, rfl⟩
section
variable {H : Type} {enc : TypeId × Value → H} {w : World} {base : Nat} {spare : Nat → Bool} {held : Bool}

set_option maxRecDepth 100000 in
theorem flds_open {x : Option Addr} {len cap : Nat} {d : DataW H} {ps : List MemPlace} (h : ∃ fuel, DataW.trod enc Try.prog w base spare held fuel 22 (Value.slice x len cap).cells.toList = some (d, ps)) : ∃ l, FldsAt w x len l := by
  obtain ⟨fuel, hf⟩ := h
  obtain ⟨f0, f1, hu, hone, t0, t1⟩ := fields_of_field
  rcases open_slice_fields Try.underlying22 hu hone (by kernel_rfl) hf with ⟨hcs, _⟩ | ⟨a, l, c, m, D, Pl, hcs, _, hl, hm, hmm, _, hi⟩
  · simp [Value.cells] at hcs
    obtain ⟨rfl, rfl, rfl⟩ := hcs
    exact ⟨[], rfl, by omega, by simp, .inl rfl⟩
  · simp [Value.cells] at hcs
    obtain ⟨rfl, rfl, rfl⟩ := hcs
    have hlm : len ≤ m := by rw [hmm]; split <;> omega
    have each : ∀ i, i < len → ∃ p : ByteArray × ByteArray, w.cell? (a.add (i * 2)) = some (.string p.1) ∧ w.cell? (a.add (i * 2 + 1)) = some (.string p.2) ∧ p.1.size ≤ maxLen ∧ p.2.size ≤ maxLen := by
      intro i hil
      obtain ⟨ys, n, _, _, _, hfs⟩ := hi i (by omega)
      obtain ⟨v0, y0, hc0, _, ht0⟩ := hfs 0 f0 rfl
      obtain ⟨v1, y1, hc1, _, ht1⟩ := hfs 1 f1 rfl
      rw [t0] at ht0
      rw [t1] at ht1
      obtain ⟨s0, e0, _, z0⟩ := DataW.trod_string Try.underlying9 ht0
      obtain ⟨s1, e1, _, z1⟩ := DataW.trod_string Try.underlying9 ht1
      simp at e0 e1
      subst e0 e1
      exact ⟨(s0, s1), hc0, hc1, z0, z1⟩
    obtain ⟨L, hL, hp⟩ := list_of_each len each
    refine ⟨L, hL, by unfold maxLen at hm; omega, fun p hpm => ?_, ?_⟩
    · obtain ⟨j, hj, rfl⟩ := List.mem_iff_getElem.1 hpm
      obtain ⟨_, _, z0, z1⟩ := hp j hj
      unfold maxLen at z0 z1
      exact ⟨by omega, by omega⟩
    · by_cases h0 : len = 0
      · exact .inl h0
      · have c0 := (hp 0 (by omega)).1
        have hsp := add_spot c0
        obtain ⟨b, o, spot⟩ := a
        simp only at hsp
        subst hsp
        refine .inr ⟨b, o, rfl, by have := World.block_lt_of_cell? w _ c0; simpa [Addr.add] using this, fun i hi2 => ?_⟩
        obtain ⟨h1, h2, _, _⟩ := hp i hi2
        rw [Addr.add_lit] at h1 h2
        exact ⟨h1, h2⟩
end
end Go.Proofs.Ytdpohibgipkhnaa
