
/-
  The calls of TallyCounts, opened.
-/
import Derived.Test.YtdpohibgipkhnaaTC19
import Derived.Test.YtdpohibgipkhnaaTC8
import Derived.ShutString
import Derived.ChangeSame
set_option linter.unusedVariables false
set_option linter.unusedSimpArgs false
namespace Go.Proofs.Ytdpohibgipkhnaa
open Go.ChangeShapes Go.WideShapes Go.ChangeAt Go.Deep Go.RowKit

theorem range_of_wf {n : Int} (h : (Lit.int .i64 n).wf = true) : -9223372036854775808 ≤ n ∧ n ≤ 9223372036854775807 := by
  simp [Lit.wf, IntKind.min, IntKind.max, IntKind.signed, IntKind.bits] at h
  omega
theorem fields_of_tact : ∃ f0 f1, Try.prog.underlying 56 = some (.struct #[f0, f1]) ∧ oneCellFields Try.prog #[f0, f1] = true ∧ f0.type = 3 ∧ f1.type = 3 := ⟨_, _, Try.underlying56, by kernel_rfl, rfl, rfl⟩
set_option maxRecDepth 100000 in
theorem tacts_open {H : Type} {enc : TypeId × Value → H} {w : World} {base : Nat} {spare : Nat → Bool} {held : Bool} {x : Option Addr} {len cap : Nat} {d : DataW H} {ps : List MemPlace} (h : ∃ fuel, DataW.trod enc Try.prog w base spare held fuel 47 (Value.slice x len cap).cells.toList = some (d, ps)) : ∃ l, ActsAt w x len l ∧ len ≤ cap := by
  obtain ⟨fuel, hf⟩ := h
  obtain ⟨f0, f1, hu, hone, t0, t1⟩ := fields_of_tact
  rcases open_slice_fields Try.underlying47 hu hone (by kernel_rfl) hf with ⟨hcs, _⟩ | ⟨a, l, c, m, D, Pl, hcs, _, hl, hm, hmm, _, hi⟩
  · simp [Value.cells] at hcs
    obtain ⟨rfl, rfl, rfl⟩ := hcs
    exact ⟨[], ⟨rfl, by omega, (fun p hp => by cases hp), .inl rfl⟩, Nat.le_refl _⟩
  · simp [Value.cells] at hcs
    obtain ⟨rfl, rfl, rfl⟩ := hcs
    have hlm : len ≤ m := by rw [hmm]; split <;> omega
    have each : ∀ i, i < len → ∃ p : Int × Int, ((-9223372036854775808 ≤ p.1 ∧ p.1 ≤ 9223372036854775807) ∧ (-9223372036854775808 ≤ p.2 ∧ p.2 ≤ 9223372036854775807)) ∧ w.cell? (a.add (i * 2)) = some (.int .i64 p.1) ∧ w.cell? (a.add (i * 2 + 1)) = some (.int .i64 p.2) := by
      intro i hil
      obtain ⟨ys, n, _, _, _, hfs⟩ := hi i (by omega)
      obtain ⟨v0, y0, hc0, _, ht0⟩ := hfs 0 f0 rfl
      obtain ⟨v1, y1, hc1, _, ht1⟩ := hfs 1 f1 rfl
      rw [t0] at ht0
      rw [t1] at ht1
      obtain ⟨s0, e0, _, z0⟩ := DataW.trod_int Try.underlying3 ht0
      obtain ⟨s1, e1, _, z1⟩ := DataW.trod_int Try.underlying3 ht1
      simp at e0 e1
      subst e0 e1
      exact ⟨(s0, s1), ⟨range_of_wf z0, range_of_wf z1⟩, hc0, hc1⟩
    obtain ⟨L, hL, hp⟩ := list_of_each len each
    refine ⟨L, ⟨hL, by unfold maxLen at hm; omega, ?_, ?_⟩, hl⟩
    · intro p hpm
      obtain ⟨i, hi2, rfl⟩ := List.getElem_of_mem hpm
      exact (hp i (by omega)).1
    by_cases h0 : len = 0
    · exact .inl h0
    · have c0 := (hp 0 (by omega)).2.1
      have hsp := add_spot c0
      obtain ⟨b, o, spot⟩ := a
      simp only at hsp
      subst hsp
      refine .inr ⟨b, o, rfl, by have := World.block_lt_of_cell? w _ c0; simpa [Addr.add] using this, fun i hi2 => ?_⟩
      obtain ⟨_, h1, h2⟩ := hp i (by omega)
      rw [Addr.add_lit] at h1 h2
      exact ⟨h1, h2⟩
end Go.Proofs.Ytdpohibgipkhnaa
