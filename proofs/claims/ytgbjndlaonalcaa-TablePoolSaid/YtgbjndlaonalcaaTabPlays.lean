
/-
  THE WALK of the law TablePlays.
-/
import Derived.Test.YtgbjndlaonalcaaTabLives
import Derived.Test.YtgbjndlaonalcaaArgs
import Derived.ShutString
import Derived.StillTailTactics
namespace Go.Proofs.Ytgbjndlaonalcaa
open Go.RowKit Go.ChangeShapes Go.WideShapes Go.Deep Go.Proofs.Ytgbjndlaonalcaa.Tab

/-- The calls as they lie at x. -/
structure ActsAt (w : World) (x : Option Addr) (n : Nat) (l : List (Int × Int × Int)) : Prop where
  len : l.length = n
  big : n ≤ 9223372036854775807
  at_ : n = 0 ∨ ∃ b o, x = some ⟨b, o, none⟩ ∧ b < w.heap.size ∧ ∀ i (h : i < l.length), w.cell? ⟨b, o + i * 3, none⟩ = some (.int .i64 l[i].1) ∧ w.cell? ⟨b, o + i * 3 + 1, none⟩ = some (.int .i64 l[i].2.1) ∧ w.cell? ⟨b, o + i * 3 + 2, none⟩ = some (.int .i64 l[i].2.2)
theorem ActsAt.below {w w' : World} {x : Option Addr} {n : Nat} {l : List (Int × Int × Int)} (h : ActsAt w x n l) {B : Nat} (hB : w.heap.size ≤ B) (hb : Below B w w') : ActsAt w' x n l := by
  refine ⟨h.len, h.big, ?_⟩
  rcases h.at_ with h4 | ⟨b, o, hx, hlt, hc⟩
  · exact .inl h4
  · exact .inr ⟨b, o, hx, Nat.lt_of_lt_of_le hlt hb.size, fun i hi => ⟨(hb.cell (p := ⟨b, o + i * 3, none⟩) (Nat.lt_of_lt_of_le hlt hB)).trans (hc i hi).1, (hb.cell (p := ⟨b, o + i * 3 + 1, none⟩) (Nat.lt_of_lt_of_le hlt hB)).trans (hc i hi).2.1, (hb.cell (p := ⟨b, o + i * 3 + 2, none⟩) (Nat.lt_of_lt_of_le hlt hB)).trans (hc i hi).2.2⟩⟩
theorem ActsAt.get {w : World} {x : Option Addr} {n : Nat} {l : List (Int × Int × Int)} (h : ActsAt w x n l) (i : Nat) (hi : i < n) :
    ∃ b o p q r, x = some ⟨b, o, none⟩ ∧ w.cell? ⟨b, o + i * 3, none⟩ = some (.int .i64 p) ∧ w.cell? ⟨b, o + i * 3 + 1, none⟩ = some (.int .i64 q) ∧ w.cell? ⟨b, o + i * 3 + 2, none⟩ = some (.int .i64 r) ∧ ∃ hl : i < l.length, l[i] = (p, q, r) := by
  obtain ⟨b, o, hx, hlt, hc⟩ := h.at_.resolve_left (by omega)
  have hl : i < l.length := by rw [h.len]; exact hi
  have := hc i hl
  exact ⟨b, o, _, _, _, hx, this.1, this.2.1, this.2.2, hl, rfl⟩

theorem fields_of_act : ∃ f0 f1 f2, Try.prog.underlying 79 = some (.struct #[f0, f1, f2]) ∧ oneCellFields Try.prog #[f0, f1, f2] = true ∧ f0.type = 3 ∧ f1.type = 3 ∧ f2.type = 3 := ⟨_, _, _, Try.underlying79, by kernel_rfl, rfl, rfl, rfl⟩
set_option maxRecDepth 100000 in
theorem acts_open {H : Type} {enc : TypeId × Value → H} {w : World} {base : Nat} {spare : Nat → Bool} {held : Bool} {x : Option Addr} {len cap : Nat} {d : DataW H} {ps : List MemPlace} (h : ∃ fuel, DataW.trod enc Try.prog w base spare held fuel 74 (Value.slice x len cap).cells.toList = some (d, ps)) : ∃ l, ActsAt w x len l := by
  obtain ⟨fuel, hf⟩ := h
  obtain ⟨f0, f1, f2, hu, hone, t0, t1, t2⟩ := fields_of_act
  rcases open_slice_fields Try.underlying74 hu hone (by kernel_rfl) hf with ⟨hcs, _⟩ | ⟨a, l, c, m, D, Pl, hcs, _, hl, hm, hmm, _, hi⟩
  · simp [Value.cells] at hcs
    obtain ⟨rfl, rfl, rfl⟩ := hcs
    exact ⟨[], rfl, by omega, .inl rfl⟩
  · simp [Value.cells] at hcs
    obtain ⟨rfl, rfl, rfl⟩ := hcs
    have hlm : len ≤ m := by rw [hmm]; split <;> omega
    have each : ∀ i, i < len → ∃ p : Int × Int × Int, w.cell? (a.add (i * 3)) = some (.int .i64 p.1) ∧ w.cell? (a.add (i * 3 + 1)) = some (.int .i64 p.2.1) ∧ w.cell? (a.add (i * 3 + 2)) = some (.int .i64 p.2.2) := by
      intro i hil
      obtain ⟨ys, n, _, _, _, hfs⟩ := hi i (by omega)
      obtain ⟨v0, y0, hc0, _, ht0⟩ := hfs 0 f0 rfl
      obtain ⟨v1, y1, hc1, _, ht1⟩ := hfs 1 f1 rfl
      obtain ⟨v2, y2, hc2, _, ht2⟩ := hfs 2 f2 rfl
      rw [t0] at ht0
      rw [t1] at ht1
      rw [t2] at ht2
      obtain ⟨s0, e0, _, _⟩ := DataW.trod_int Try.underlying3 ht0
      obtain ⟨s1, e1, _, _⟩ := DataW.trod_int Try.underlying3 ht1
      obtain ⟨s2, e2, _, _⟩ := DataW.trod_int Try.underlying3 ht2
      simp at e0 e1 e2
      subst e0 e1 e2
      exact ⟨(s0, s1, s2), hc0, hc1, hc2⟩
    obtain ⟨L, hL, hp⟩ := list_of_each len each
    refine ⟨L, hL, by unfold maxLen at hm; omega, ?_⟩
    by_cases h0 : len = 0
    · exact .inl h0
    · have c0 := (hp 0 (by omega)).1
      have hsp := add_spot c0
      obtain ⟨b, o, spot⟩ := a
      simp only at hsp
      subst hsp
      refine .inr ⟨b, o, rfl, by have := World.block_lt_of_cell? w _ c0; simpa [Addr.add] using this, fun i hi2 => ?_⟩
      obtain ⟨h1, h2, h3⟩ := hp i hi2
      rw [Addr.add_lit] at h1 h2 h3
      exact ⟨h1, h2, h3⟩

/-- What lies there at the head of a round: the table and the document's slots, the same. -/
structure PlaySt (w0 : World) (b g rg n c : Nat) (l : Slots) (W : World) : Prop where
  tab : IsTab W b g l
  slots : RSlots W w0.heap.size rg n c l
  below : Below w0.heap.size w0 W
  old : w0.heap.size ≤ b ∧ w0.heap.size ≤ g
theorem PlaySt.later {w0 W W' : World} {b g rg n c : Nat} {l : Slots} (h : PlaySt w0 b g rg n c l W) (hb : Below W.heap.size W W') : PlaySt w0 b g rg n c l W' :=
  ⟨h.tab.below hb, h.slots.below hb, h.below.trans (hb.mono h.below.size), h.old⟩
/-- The row of slots is neither of the table's blocks. -/
theorem PlaySt.ne {w0 W : World} {b g rg n c : Nat} {l : Slots} (h : PlaySt w0 b g rg n c l W) : rg ≠ b ∧ rg ≠ g := by
  rcases h.slots.own.2 with ⟨h2, _⟩ | ⟨g', cap, cur, hv, hg, hh, r⟩
  · cases h2
  · injection hv with hv
    injection hv with hv
    injection hv with hv
    subst hv
    refine ⟨fun e => ?_, fun e => ?_⟩
    · subst e; have := h.tab.tab; rw [hh] at this; simp at this
    · subst e; have := h.tab.row; rw [hh] at this; simp at this
theorem PlaySt.only {w0 W W' : World} {b g rg n c : Nat} {l' : Slots} (h : RSlots W w0.heap.size rg n c l') (hn : rg ≠ b ∧ rg ≠ g) (hbel : Below w0.heap.size w0 W) (hold : w0.heap.size ≤ b ∧ w0.heap.size ≤ g) (ht : IsTab W' b g l') (ho : Only2 b g W W') : PlaySt w0 b g rg n c l' W' :=
  ⟨ht, h.kept (ho.block _ h.lt.2 hn.1 hn.2), hbel.trans (ho.below hold.1 hold.2 hbel.size), hold⟩
end Go.Proofs.Ytgbjndlaonalcaa
