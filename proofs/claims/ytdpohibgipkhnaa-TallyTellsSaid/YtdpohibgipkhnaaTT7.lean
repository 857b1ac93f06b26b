
/-
  SMALL LAWS OF MY OWN FOR ALL WALKS OF THIS SEAT: worlds that are only drawn from; a row of cells in one block; append of one element to a slice that the call owns, with all side conditions on the new element paid.
-/
import Derived.Test.YtdpohibgipkhnaaProg
import Derived.WalkKit
import Derived.WalkSpells
import Derived.WalkLawsBesides
import Derived.Deep.QuietTactic
import Derived.Deep.RegionWith
import Derived.Deep.LoopGhost
import Derived.BigQuiet
import Derived.Handy
import Derived.Maps.Range
import Derived.Lib.Hide
set_option linter.unusedVariables false
set_option linter.unusedSimpArgs false
namespace Go.Proofs.Ytdpohibgipkhnaa
open Go.RowKit

theorem ret_int {k : IntKind} {a b : Int} (h : a = b) : Ending.returned (.int k a) = .returned (.int k b) := by rw [h]
theorem ret_bool {a b : Bool} (h : a = b) : Ending.returned (.bool a) = .returned (.bool b) := by rw [h]
theorem ret_str {a b : ByteArray} (h : a = b) : Ending.returned (.string a) = .returned (.string b) := by rw [h]

/-- The world behind a call that makes nothing and writes nothing. -/
def Drawn (w w' : World) : Prop := ∃ n, w' = w.drewN n
theorem Drawn.refl (w : World) : Drawn w w := ⟨0, rfl⟩
theorem Drawn.trans {a b c : World} (h : Drawn a b) (k : Drawn b c) : Drawn a c := by
  obtain ⟨n, rfl⟩ := h
  obtain ⟨m, rfl⟩ := k
  exact ⟨n + m, World.drewN_drewN _ _ _⟩
theorem Drawn.drewN {a b : World} (h : Drawn a b) (n : Nat) : Drawn a (b.drewN n) := h.trans ⟨n, rfl⟩
theorem Drawn.below {w w' : World} (h : Drawn w w') (B : Nat) : Below B w w' := by
  obtain ⟨n, rfl⟩ := h
  exact below_drewN (Below.refl _ _) n

/-- Call behind call: nothing that was there at the first one's start has turned. -/
theorem grow_trans {w a b : World} (h : Below w.heap.size w a) (k : Below a.heap.size a b) : Below w.heap.size w b := h.trans (k.mono h.size)
theorem Drawn.grow {w w' : World} (h : Drawn w w') : Below w.heap.size w w' := h.below _

/-- Below a block that a law on append wrote: nothing older has turned. -/
theorem below_of_grown {B : Nat} {w w' : World} {row : Option Nat} (h : w.grownBy w' row) (hB : B ≤ w.heap.size) (hr : ∀ k, row = some k → B ≤ k) : Below B w w' := (Below.refl B w).grown h hB hr

/-- The element type's row of the table, kept from the walk. -/
theorem info_hid {P : Program} {e : TypeId} {z : Value} {size bytes : Nat} (h : (P.info? e).map (fun i => (i.zero, i.size, i.bytes)) = some (some z, size, bytes)) :
    ∃ i, Hid (P.info? e = some i) ∧ Hid (i.zero = some z ∧ i.size = size ∧ i.bytes = bytes) := by
  obtain ⟨i, h0, h1, h2, h3⟩ := info_parts h
  exact ⟨i, h0, h1, h2, h3⟩

theorem add_head (g j : Nat) : (⟨g, 0, none⟩ : Addr).add j = ⟨g, j, none⟩ := by unfold Addr.add; split <;> simp_all

/-- 'out = append(out, x)', out the call's own, x ONE element whose cells the walk has just laid in a new block: the value is a slice at a row's head, and of what was there before that new block only out's own row has been written. -/
theorem wpList_append_new {P : Program} {ops : Array Oper} {rest : List Oper} {o : Oper} {a : Act} {Q : Exit → Act → World → Prop} (hgd : o.guard = none) (s x : Operand) (t : TypeId)
    (ho : o.op = .call { callee := .builtin .append, args := #[s, x], argTypes := #[t, t] })
    (base : Nat) (e : TypeId) {i : TypeInfo} {z : Value} {size bytes : Nat} (ht : P.underlying t = some (.slice e)) (hi : Hid (P.info? e = some i)) (hz : Hid (i.zero = some z ∧ i.size = size ∧ i.bytes = bytes))
    (hzs : z.cells.size = size) (hsz : 0 < size) (wr : World) (cs : List Value)
    {v : Value} {n : Nat} {xs : List Value} (hown : wr.ownsRow base e size v n xs) (hs : a.eval s = v)
    (hx : a.eval x = .slice (some ⟨wr.heap.size, 0, none⟩) 1 1) (hl : cs.length = size) (h1 : ∀ u ∈ cs, u.oneCell' = true)
    (h63 : n + 1 ≤ maxLen) (hbytes : (n + 1) * bytes ≤ 140737488355328) (hbase : base ≤ wr.heap.size)
    (h : ∀ g' cap' w', w'.ownsRow base e size (.slice (some ⟨g', 0, none⟩) (n + 1) cap') (n + 1) (xs ++ cs) → wr.grownBy w' v.ownBlock → wpList P ops Q rest (a.put o.dst (.slice (some ⟨g', 0, none⟩) (n + 1) cap')) w') :
    wpList P ops Q (o :: rest) a (wr.alloc (.cells cs.toArray e)) := by
  refine wpList_append_own _ hgd s x t ho base e i z size bytes ht hi.out hz.out.1 hz.out.2.1 hz.out.2.2 hzs hsz v n xs hs (hown.alloc _) ⟨wr.heap.size, 0, none⟩ 1 1 cs hx (by rw [hl, Nat.one_mul]) ?_ h1 h63 hbytes (by simp; omega) ?_
  · intro j u hj
    rw [add_head, World.cell?_alloc_new]
    simpa using hj
  · intro v' w' hown' hg hnil
    have hg' : wr.grownBy w' v.ownBlock := (World.grownBy_alloc wr _ v.ownBlock).trans hg
    rcases hown'.2 with ⟨hv, h0⟩ | ⟨g', cap', cur, hv, _⟩
    · omega
    · subst hv
      exact h g' cap' w' hown' hg'

theorem one_int (k : IntKind) (n : Int) : ∀ u ∈ [Value.int k n], u.oneCell' = true := by
  intro u hu; obtain rfl := List.mem_singleton.1 hu; rfl
theorem one_str (s : ByteArray) : ∀ u ∈ [Value.string s], u.oneCell' = true := by
  intro u hu; obtain rfl := List.mem_singleton.1 hu; rfl
/-- Behind an append to what the call owns from B on: nothing below B has turned. -/
theorem below_owned {B : Nat} {a w w' : World} {e : TypeId} {size : Nat} {v : Value} {n : Nat} {xs : List Value} (h : Below B a w) (hB : B ≤ w.heap.size) (hown : w.ownsRow B e size v n xs) (hg : w.grownBy w' v.ownBlock) : Below B a w' :=
  h.grown hg hB fun k hk => (hown.lt k hk).1

theorem toList_empty (s : ByteArray) (h : s.size = 0) : s.toList = [] := by
  rw [ByteArray.toList_eq]
  exact List.eq_nil_of_length_eq_zero (by simpa using h)
theorem toList_some (s : ByteArray) (h : 0 < s.size) : s.toList.isEmpty = false := by
  rw [ByteArray.toList_eq]
  cases hl : s.data.toList with
  | nil =>
    have h2 : s.data.toList.length = s.size := by simp
    rw [hl] at h2
    simp at h2
    omega
  | cons a l => rfl

/-- What is owned stays so behind a call that turns nothing of what was there. -/
theorem own_below {w w' : World} {B e size : Nat} {v : Value} {n : Nat} {xs : List Value} (h : w.ownsRow B e size v n xs) (hb : Below w.heap.size w w') : w'.ownsRow B e size v n xs := by
  refine ⟨h.1, ?_⟩
  rcases h.2 with h2 | ⟨g, cap, cur, hv, hg, hh, r⟩
  · exact .inl h2
  · exact .inr ⟨g, cap, cur, hv, hg, (hb.block g (lt_of_block hh)).trans hh, r⟩

/-- A row of cells in one block, none of them frozen. -/
def CellsAt (w : World) (b : Nat) (vs : List Value) : Prop := ∀ j (h : j < vs.length), w.cell? ⟨b, j, none⟩ = some vs[j] ∧ w.frozen? ⟨b, j, none⟩ = false
theorem CellsAt.cell {w : World} {b : Nat} {vs : List Value} (h : CellsAt w b vs) (j : Nat) (hj : j < vs.length) : w.cell? ⟨b, j, none⟩ = some vs[j] := (h j hj).1
theorem CellsAt.free {w : World} {b : Nat} {vs : List Value} (h : CellsAt w b vs) (j : Nat) (hj : j < vs.length) : w.frozen? ⟨b, j, none⟩ = false := (h j hj).2
theorem CellsAt.set {w : World} {b : Nat} {vs : List Value} (h : CellsAt w b vs) (k : Nat) (u : Value) : CellsAt (w.setCell ⟨b, k, none⟩ u) b (vs.set k u) := by
  intro j hj
  have hj' : j < vs.length := by simpa using hj
  refine ⟨?_, by rw [World.frozen?_setCell]; exact h.free j hj'⟩
  rw [List.getElem_set]
  by_cases e : k = j
  · subst e
    rw [if_pos rfl]
    exact World.cell?_setCell_same w _ _ (h.cell k hj')
  · rw [if_neg e, World.cell?_setCell_other w _ _ _ (fun h => e (congrArg Addr.off h))]
    exact h.cell j hj'
theorem CellsAt.drewN {w : World} {b : Nat} {vs : List Value} (h : CellsAt w b vs) (n : Nat) : CellsAt (w.drewN n) b vs := h
theorem CellsAt.block {w w' : World} {b : Nat} {vs : List Value} (h : CellsAt w b vs) (hb : w'.heap[b]? = w.heap[b]?) : CellsAt w' b vs := fun j hj =>
  ⟨(World.cell?_of_block (w := w) (a := ⟨b, j, none⟩) hb).trans (h.cell j hj), (World.frozen?_of_block (w := w) (a := ⟨b, j, none⟩) hb).trans (h.free j hj)⟩

/-- The cells of a text's octets. -/
def byteVals (l : List UInt8) : List Value := l.map fun c => Value.int .u8 c.toNat
theorem byteVals_snoc (l : List UInt8) (c : UInt8) : byteVals (l ++ [c]) = byteVals l ++ [.int .u8 c.toNat] := by simp [byteVals]
theorem byteVals_length (l : List UInt8) : (byteVals l).length = l.length := by simp [byteVals]
theorem byteVals_get (l : List UInt8) (j : Nat) (h : j < (byteVals l).length) : (byteVals l)[j] = .int .u8 (l[j]'(by simpa [byteVals] using h)).toNat := by simp [byteVals]
theorem byteVals_set (l : List UInt8) (k : Nat) (c : UInt8) : (byteVals l).set k (.int .u8 c.toNat) = byteVals (l.set k c) := by simp [byteVals, List.map_set]

/-- The cells of a row, read as octets: the text that 'string(b)' makes. -/
theorem back_of_cells {P : Program} {w : World} {e g cap : Nat} {l : List UInt8} (src dst : TypeId) (hsrc : P.underlying src = some (.slice e)) (he : P.underlying e = some (.int .u8)) (hd : P.underlying dst = some .string)
    (hc : CellsAt w g (byteVals l)) (n : Nat) (hn : n = l.length) : (convert src dst (.slice (some ⟨g, 0, none⟩) n cap)).run P w = .ok (.string ⟨l.toArray⟩) w := by
  subst hn
  refine run_convert_bytes_back w src dst e _ cap l hsrc he hd fun j hj => ?_
  rw [add_head, hc.cell j (by rw [byteVals_length]; exact hj), byteVals_get]
theorem CellsAt.of_owned {w : World} {base e g n cap : Nat} {vs : List Value} (h : w.ownsRow base e 1 (.slice (some ⟨g, 0, none⟩) n cap) n vs) : CellsAt w g vs := by
  intro j hj
  have hl := h.1
  exact ⟨by rw [h.cellAt j (by omega), List.getElem?_eq_getElem hj], h.frozenAt j⟩

/-- What '[]byte(s)' lays: a row of the octets; its cells may be written. -/
theorem CellsAt.of_bytes (w : World) (s : ByteArray) (cap : Nat) (e : TypeId) : CellsAt (w.alloc (.cells (bytesRow s cap) e ((bytesRow s cap).size, (bytesRow s cap).size + 1))) w.heap.size (byteVals s.data.toList) := by
  intro j hj
  have hj' : j < s.data.size := by simpa [byteVals] using hj
  refine ⟨?_, ?_⟩
  · rw [World.cell?_alloc_mark, bytesRow_at s cap j hj']
    simp [byteVals]
  · rw [World.frozen?_alloc_mark]
    have h2 : j < (bytesRow s cap).size := by
      have : s.data.size ≤ (bytesRow s cap).size := by unfold bytesRow; rw [Array.size_append, Array.size_map]; omega
      omega
    simp; omega
end Go.Proofs.Ytdpohibgipkhnaa
