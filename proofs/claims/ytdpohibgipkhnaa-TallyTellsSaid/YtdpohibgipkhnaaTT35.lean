
/-
  The messages of TallyTells, opened.
-/
import Derived.Test.YtdpohibgipkhnaaTT34
import Derived.Test.YtdpohibgipkhnaaTT23
import Derived.Test.YtdpohibgipkhnaaTT10
import Derived.ShutString
import Derived.ChangeSame
set_option linter.unusedVariables false
set_option linter.unusedSimpArgs false
namespace Go.Proofs.Ytdpohibgipkhnaa
open Go.ChangeShapes Go.WideShapes Go.ChangeAt Go.Deep Go.RowKit

theorem range_of_wf2 {n : Int} (h : (Lit.int .i64 n).wf = true) : -9223372036854775808 ≤ n ∧ n ≤ 9223372036854775807 := by
  simp [Lit.wf, IntKind.min, IntKind.max, IntKind.signed, IntKind.bits] at h
  omega
theorem cell_at {cs : List Value} {k : Nat} {v : Value} (h : List.take 1 (List.drop k cs) = [v]) : cs[k]? = some v := by
  have h2 : (List.take 1 (List.drop k cs))[0]? = some v := by rw [h]; rfl
  simpa using h2
theorem fields_of_msg : ∃ f0 f1 f2 f3 f4, Try.prog.underlying 73 = some (.struct #[f0, f1, f2, f3, f4]) ∧ f0.type = 68 ∧ f0.offset = 0 ∧ f1.type = 70 ∧ f1.offset = 6 ∧ f2.type = 9 ∧ f2.offset = 8 ∧ f3.type = 71 ∧ f3.offset = 9 ∧ f4.type = 22 ∧ f4.offset = 10 := ⟨_, _, _, _, _, Try.underlying73, rfl, rfl, rfl, rfl, rfl, rfl, rfl, rfl, rfl, rfl⟩
theorem fields_of_head : ∃ f0 f1 f2 f3 f4 f5, Try.prog.underlying 68 = some (.struct #[f0, f1, f2, f3, f4, f5]) ∧ f0.type = 9 ∧ f0.offset = 0 ∧ f1.type = 9 ∧ f1.offset = 1 ∧ f2.type = 3 ∧ f2.offset = 2 ∧ f3.type = 3 ∧ f3.offset = 3 ∧ f4.type = 9 ∧ f4.offset = 4 ∧ f5.type = 22 ∧ f5.offset = 5 := ⟨_, _, _, _, _, _, Try.underlying68, rfl, rfl, rfl, rfl, rfl, rfl, rfl, rfl, rfl, rfl, rfl, rfl⟩
theorem fields_of_frame : ∃ f0 f1, Try.prog.underlying 70 = some (.struct #[f0, f1]) ∧ f0.type = 3 ∧ f0.offset = 0 ∧ f1.type = 3 ∧ f1.offset = 1 := ⟨_, _, Try.underlying70, rfl, rfl, rfl, rfl⟩
theorem cs1 : Try.prog.cellsOf 9 = 1 := by kernel_rfl
theorem ci1 : Try.prog.cellsOf 3 = 1 := by kernel_rfl
theorem cl1 : Try.prog.cellsOf 71 = 1 := by kernel_rfl
theorem cf1 : Try.prog.cellsOf 22 = 1 := by kernel_rfl
theorem ch6 : Try.prog.cellsOf 68 = 6 := by kernel_rfl
theorem cr2 : Try.prog.cellsOf 70 = 2 := by kernel_rfl
theorem cm11 : Try.prog.cellsOf 73 = 11 := by kernel_rfl
section
variable {H : Type} {enc : TypeId × Value → H} {w : World} {base : Nat} {spare : Nat → Bool} {held : Bool} {fuel : Nat} {cs : List Value} {x : DataW H × List MemPlace}
theorem at_string {k : Nat} (h : DataW.trod enc Try.prog w base spare held fuel 9 (List.take 1 (List.drop k cs)) = some x) : ∃ s : ByteArray, cs[k]? = some (.string s) ∧ s.size ≤ maxLen := by
  obtain ⟨s, e, _, z⟩ := DataW.trod_string Try.underlying9 h
  exact ⟨s, cell_at e, z⟩
theorem at_int {k : Nat} (h : DataW.trod enc Try.prog w base spare held fuel 3 (List.take 1 (List.drop k cs)) = some x) : ∃ n : Int, cs[k]? = some (.int .i64 n) ∧ (Lit.int .i64 n).wf = true := by
  obtain ⟨s, e, _, z⟩ := DataW.trod_int Try.underlying3 h
  exact ⟨s, cell_at e, z⟩
theorem at_slice {k : Nat} {t e : TypeId} (ht : Try.prog.underlying t = some (.slice e)) (h : DataW.trod enc Try.prog w base spare held fuel t (List.take 1 (List.drop k cs)) = some x) : ∃ a n c, cs[k]? = some (.slice a n c) := by
  rcases DataW.trod_slice ht h with ⟨e0, _⟩ | ⟨a, len, cap, _, _, _, _, e0, _⟩
  · exact ⟨_, _, _, cell_at e0⟩
  · exact ⟨_, _, _, cell_at e0⟩
theorem head_cell {k n : Nat} {v : Value} (o : Nat) (h : (List.take n (List.drop o cs))[k]? = some v) : cs[o + k]? = some v := by
  rw [List.getElem?_take] at h
  split at h
  · rwa [List.getElem?_drop] at h
  · cases h
set_option maxRecDepth 100000 in
theorem open_msg (h : DataW.trod enc Try.prog w base spare held fuel 73 cs = some x) : ∃ m : Msg, (∀ j, j < 11 → cs[j]? = (msgV m)[j]?) ∧ m.me.size ≤ maxLen ∧ (Lit.int .i64 m.st).wf = true := by
  obtain ⟨f0, f1, f2, f3, f4, hu, t0, o0, t1, o1, t2, o2, t3, o3, t4, o4⟩ := fields_of_msg
  obtain ⟨xs, n, _, _, _, hlen, hg⟩ := DataW.trod_struct hu h
  have hlen5 : xs.length = 5 := hlen
  have g0 := hg 0 f0 rfl
  have g1 := hg 1 f1 rfl
  have g2 := hg 2 f2 rfl
  have g3 := hg 3 f3 rfl
  have g4 := hg 4 f4 rfl
  rw [t0, o0, ch6, List.getElem?_eq_getElem (by omega)] at g0
  rw [t1, o1, cr2, List.getElem?_eq_getElem (by omega)] at g1
  rw [t2, o2, cs1, List.getElem?_eq_getElem (by omega)] at g2
  rw [t3, o3, cl1, List.getElem?_eq_getElem (by omega)] at g3
  rw [t4, o4, cf1, List.getElem?_eq_getElem (by omega)] at g4
  obtain ⟨k0, k1, k2, k3, k4, k5, hu2, a0, b0, a1, b1, a2, b2, a3, b3, a4, b4, a5, b5⟩ := fields_of_head
  obtain ⟨ys, n2, _, _, _, hlen2, hh⟩ := DataW.trod_struct hu2 g0
  have hlen6 : ys.length = 6 := hlen2
  have q0 := hh 0 k0 rfl
  have q1 := hh 1 k1 rfl
  have q2 := hh 2 k2 rfl
  have q3 := hh 3 k3 rfl
  have q4 := hh 4 k4 rfl
  have q5 := hh 5 k5 rfl
  rw [a0, b0, cs1, List.getElem?_eq_getElem (by omega)] at q0
  rw [a1, b1, cs1, List.getElem?_eq_getElem (by omega)] at q1
  rw [a2, b2, ci1, List.getElem?_eq_getElem (by omega)] at q2
  rw [a3, b3, ci1, List.getElem?_eq_getElem (by omega)] at q3
  rw [a4, b4, cs1, List.getElem?_eq_getElem (by omega)] at q4
  rw [a5, b5, cf1, List.getElem?_eq_getElem (by omega)] at q5
  obtain ⟨me, e0, z0⟩ := at_string q0
  obtain ⟨tg, e1, _⟩ := at_string q1
  obtain ⟨mi, e2, _⟩ := at_int q2
  obtain ⟨st, e3, z3⟩ := at_int q3
  obtain ⟨re, e4, _⟩ := at_string q4
  obtain ⟨fx, fn, fc, e5⟩ := at_slice Try.underlying22 q5
  obtain ⟨bo, e8, _⟩ := at_string g2
  obtain ⟨sx, sn, sc, e9⟩ := at_slice Try.underlying71 g3
  obtain ⟨tx, tn, tc, e10⟩ := at_slice Try.underlying22 g4
  obtain ⟨r0, r1, hu3, c0, d0, c1, d1⟩ := fields_of_frame
  obtain ⟨zs, n3, _, _, _, hlen3, hr⟩ := DataW.trod_struct hu3 g1
  have hlen2z : zs.length = 2 := hlen3
  have p0 := hr 0 r0 rfl
  have p1 := hr 1 r1 rfl
  rw [c0, d0, ci1, List.getElem?_eq_getElem (by omega)] at p0
  rw [c1, d1, ci1, List.getElem?_eq_getElem (by omega)] at p1
  obtain ⟨ki, e6, _⟩ := at_int p0
  obtain ⟨le, e7, _⟩ := at_int p1
  have m0 := head_cell 0 e0
  have m1 := head_cell 0 e1
  have m2 := head_cell 0 e2
  have m3 := head_cell 0 e3
  have m4 := head_cell 0 e4
  have m5 := head_cell 0 e5
  have m6 := head_cell 6 e6
  have m7 := head_cell 6 e7
  refine ⟨⟨me, tg, mi, st, re, fx, fn, fc, ki, le, bo, sx, sn, sc, tx, tn, tc⟩, fun j hj => ?_, z0, z3⟩
  match j, hj with
  | 0, _ => exact m0
  | 1, _ => exact m1
  | 2, _ => exact m2
  | 3, _ => exact m3
  | 4, _ => exact m4
  | 5, _ => exact m5
  | 6, _ => exact m6
  | 7, _ => exact m7
  | 8, _ => exact e8
  | 9, _ => exact e9
  | 10, _ => exact e10
end
theorem cells_get {w : World} {base n : Nat} {a : Addr} {cs : List Value} (h : w.cells? base a n = some cs) (j : Nat) (hj : j < n) : w.cell? (a.add j) = cs[j]? := by
  unfold World.cells? at h
  split at h
  · exact mapM_some_get h j j (by simp [hj])
  · cases h
set_option maxRecDepth 100000 in
theorem msgs_open {H : Type} {enc : TypeId × Value → H} {w : World} {base : Nat} {spare : Nat → Bool} {held : Bool} {x : Option Addr} {len cap : Nat} {d : DataW H} {ps : List MemPlace} (h : ∃ fuel, DataW.trod enc Try.prog w base spare held fuel 66 (Value.slice x len cap).cells.toList = some (d, ps)) : ∃ l, MsgsAt w x len l := by
  obtain ⟨fuel, hf⟩ := h
  rcases open_slice Try.underlying66 hf with ⟨hcs, _⟩ | ⟨a, l, c, m, n, D, Pl, hcs, _, hl, hm, hmm, _, hi⟩
  · simp [Value.cells] at hcs
    obtain ⟨rfl, rfl, rfl⟩ := hcs
    exact ⟨[], rfl, by omega, (fun m hm => by cases hm), .inl rfl⟩
  · simp [Value.cells] at hcs
    obtain ⟨rfl, rfl, rfl⟩ := hcs
    have hlm : len ≤ m := by rw [hmm]; split <;> omega
    have each : ∀ i, i < len → ∃ p : Msg, (p.me.size ≤ maxLen ∧ (Lit.int .i64 p.st).wf = true) ∧ ∀ j, j < 11 → w.cell? ((a.add (i * 11)).add j) = (msgV p)[j]? := by
      intro i hil
      obtain ⟨cs', h1, h2⟩ := hi i (by omega)
      rw [cm11] at h1
      obtain ⟨p, hp, z1, z2⟩ := open_msg h2
      exact ⟨p, ⟨z1, z2⟩, fun j hj => (cells_get h1 j hj).trans (hp j hj)⟩
    obtain ⟨L, hL, hp⟩ := list_of_each len each
    refine ⟨L, hL, by unfold maxLen at hm; omega, ?_, ?_⟩
    · intro p hpm
      obtain ⟨i, hi2, rfl⟩ := List.getElem_of_mem hpm
      obtain ⟨⟨z1, z2⟩, _⟩ := hp i (by omega)
      have := range_of_wf2 z2
      unfold maxLen at z1
      exact ⟨by omega, this.1, this.2⟩
    · by_cases h0 : len = 0
      · exact .inl h0
      · have c0 := (hp 0 (by omega)).2 0 (by decide)
        rw [show (msgV L[0])[0]? = some (.string L[0].me) from rfl] at c0
        have hsp := add_spot c0
        obtain ⟨b, o, spot⟩ := a
        simp only [Addr.add] at hsp
        subst hsp
        refine .inr ⟨b, o, rfl, by have := World.block_lt_of_cell? w _ c0; simpa [Addr.add] using this, fun i hi2 j hj => ?_⟩
        have h1 := (hp i (by omega)).2 j hj
        rw [Addr.add_lit, Addr.add_lit] at h1
        exact h1
end Go.Proofs.Ytdpohibgipkhnaa
