
/-
  THE WALKS of table: New, Len, Room, Get, Put, Drop: what each call answers, and what becomes of the table.
-/
import Derived.Test.YtgbjndlaonalcaaTabPlain
import Derived.Test.YtgbjndlaonalcaaWords
import Derived.Laws.MakeOwn
namespace Go.Proofs.Ytgbjndlaonalcaa
open Go.RowKit Go.Proofs.Ytgbjndlaonalcaa.Tab

theorem info_slot : (Try.prog.info? 126).map (fun i => (i.zero, i.size, i.bytes)) = some (some (.agg #[.int .i64 0, .bool false]), 2, 16) := by kernel_rfl

/-- The table's cells. -/
def tabCells (g : Nat) (l : Slots) : Array Value := #[.slice (some ⟨g, 0, none⟩) l.length l.length, .int .i64 (full l)]
/-- Block b is a table; its slots l lie in block g. -/
structure IsTab (w : World) (b g : Nat) (l : Slots) : Prop where
  few : l.length ≤ 1000
  tab : w.heap[b]? = some (.cells (tabCells g l) 122 (0, 0))
  row : w.heap[g]? = some (.cells (slotVals l).toArray 126 (0, 0))
/-- Blocks b and g alone have turned. -/
structure Only2 (b g : Nat) (w w' : World) : Prop where
  os : w'.os = w.os
  tape : w'.tape = w.tape
  output : w'.output = w.output
  size : w.heap.size ≤ w'.heap.size
  block : ∀ k, k < w.heap.size → k ≠ b → k ≠ g → w'.heap[k]? = w.heap[k]?

section
variable {w w' a c d : World} {b g : Nat} {l : Slots}
theorem IsTab.ne (h : IsTab w b g l) : b ≠ g := by
  rintro rfl
  have := h.tab.symm.trans h.row
  simp at this
theorem IsTab.kept (h : IsTab w b g l) (hb : w'.heap[b]? = w.heap[b]?) (hg : w'.heap[g]? = w.heap[g]?) : IsTab w' b g l := ⟨h.few, hb.trans h.tab, hg.trans h.row⟩
theorem IsTab.lt (h : IsTab w b g l) : b < w.heap.size ∧ g < w.heap.size := ⟨lt_of_block h.tab, lt_of_block h.row⟩
theorem IsTab.below (h : IsTab w b g l) (hb : Below w.heap.size w w') : IsTab w' b g l := h.kept (hb.block b h.lt.1) (hb.block g h.lt.2)
theorem IsTab.drewN (h : IsTab w b g l) (n : Nat) : IsTab (w.drewN n) b g l := ⟨h.few, h.tab, h.row⟩
theorem IsTab.cells (h : IsTab w b g l) : w.cell? ⟨b, 0, none⟩ = some (.slice (some ⟨g, 0, none⟩) l.length l.length) ∧ w.cell? ⟨b, 1, none⟩ = some (.int .i64 (full l)) ∧ ∀ j, w.frozen? ⟨b, j, none⟩ = false :=
  ⟨cell_of_row w b 0 _ _ _ h.tab, cell_of_row w b 1 _ _ _ h.tab, fun j => frozen_of_row w b j _ _ h.tab⟩
theorem IsTab.slot (h : IsTab w b g l) (i : Nat) (hi : i < l.length) : w.cell? ⟨g, i * 2, none⟩ = some (.int .i64 l[i].1) ∧ w.cell? ⟨g, i * 2 + 1, none⟩ = some (.bool l[i].2) ∧ ∀ j, w.frozen? ⟨g, j, none⟩ = false :=
  ⟨(cell_of_row w g _ _ _ _ h.row).trans (by simpa using slotVals_x l i hi), (cell_of_row w g _ _ _ _ h.row).trans (by simpa using slotVals_in l i hi), fun j => frozen_of_row w g j _ _ h.row⟩
theorem Only2.refl (b g : Nat) (w : World) : Only2 b g w w := ⟨rfl, rfl, rfl, Nat.le_refl _, fun _ _ _ _ => rfl⟩
theorem Only2.trans (h : Only2 b g a c) (k : Only2 b g c d) : Only2 b g a d :=
  ⟨k.os.trans h.os, k.tape.trans h.tape, k.output.trans h.output, Nat.le_trans h.size k.size, fun i hi h1 h2 => (k.block i (Nat.lt_of_lt_of_le hi h.size) h1 h2).trans (h.block i hi h1 h2)⟩
theorem Only2.of_below (h : Below w.heap.size w w') : Only2 b g w w' := ⟨h.os, h.tape, h.output, h.size, fun i hi _ _ => h.block i hi⟩
theorem Only2.drewN (h : Only2 b g a w) (n : Nat) : Only2 b g a (w.drewN n) := ⟨h.os, h.tape, h.output, h.size, h.block⟩
theorem Only2.setCell (h : Only2 b g a w) {p : Addr} (hp : p.block = b ∨ p.block = g) (u : Value) : Only2 b g a (w.setCell p u) :=
  h.trans ⟨rfl, rfl, rfl, by simp [World.setCell], fun k _ h1 h2 => Below.heap_setCell _ _ _ _ (by rcases hp with hp | hp <;> omega)⟩
theorem Only2.alloc (h : Only2 b g a w) (o : Obj) : Only2 b g a (w.alloc o) := h.trans (.of_below ((Below.refl _ _).alloc (Nat.le_refl _) o))
theorem Only2.below {B : Nat} (h : Only2 b g w w') (hb : B ≤ b) (hg : B ≤ g) (hB : B ≤ w.heap.size) : Below B w w' :=
  ⟨h.os, h.tape, h.output, h.size, fun k hk => h.block k (by omega) (by omega) (by omega)⟩
end

/-! ### New -/
theorem replicate_cells (n : Nat) : madeCells (Value.agg #[.int .i64 0, .bool false]).cells (n * 2) = (slotVals (List.replicate n (0, false))).toArray := by
  apply Array.ext
  · rw [size_madeCells]
    simp [slotVals_length]
  · intro i h1 h2
    rw [size_madeCells] at h1
    have hi : i / 2 < (List.replicate n ((0 : Int), false)).length := by simp; omega
    rcases Nat.mod_two_eq_zero_or_one i with hm | hm
    · have e : i = i / 2 * 2 := by omega
      have h3 := slotVals_x (List.replicate n (0, false)) (i / 2) hi
      rw [← e] at h3
      rw [List.getElem?_eq_getElem (by simpa using h2)] at h3
      simp only [List.getElem_toArray]
      rw [Option.some.inj h3]
      simp [madeCells, Value.cells, hm]
    · have e : i = i / 2 * 2 + 1 := by omega
      have h3 := slotVals_in (List.replicate n (0, false)) (i / 2) hi
      rw [← e] at h3
      rw [List.getElem?_eq_getElem (by simpa using h2)] at h3
      simp only [List.getElem_toArray]
      rw [Option.some.inj h3]
      simp [madeCells, Value.cells, hm]
theorem full_none (n : Nat) : full (List.replicate n (0, false)) = 0 := by simp [full, List.countP_replicate]

/-- A new table in its two new blocks. -/
def newTab (w : World) (n : Nat) : World := (w.alloc (.cells (slotVals (List.replicate n (0, false))).toArray 126)).alloc (.cells (tabCells w.heap.size (List.replicate n (0, false))) 122)
theorem newTab_is (w : World) (n : Nat) (hn : n ≤ 1000) : IsTab (newTab w n) (w.heap.size + 1) w.heap.size (List.replicate n (0, false)) :=
  ⟨by simp; exact hn, by have := heap_alloc_new (w.alloc (.cells (slotVals (List.replicate n (0, false))).toArray 126)) (.cells (tabCells w.heap.size (List.replicate n (0, false))) 122); rw [World.size_alloc] at this; exact this,
    (Below.heap_alloc _ _ _ (by simp)).trans (heap_alloc_new w _)⟩
theorem newTab_below (w : World) (n : Nat) : Below w.heap.size w (newTab w n) := ((Below.refl _ _).alloc (Nat.le_refl _) _).alloc (by simp) _

set_option maxRecDepth 100000 in
set_option maxHeartbeats 800000 in
theorem tnew_some (n : Nat) (w : World) (h1 : n ≤ 1000) :
    Calls Try.prog 46 #[.int .i64 n] w fun e w' => e = .returned (.pointer (some ⟨w.heap.size + 1, 0, none⟩)) ∧ newTab w n = w' := by
  obtain ⟨i0, hi, hz, hs, hb⟩ := info_parts info_slot
  have hmk : ∀ W : World, (Instr.makeSlice 120 (.int .i64 (n : Int)) (.int .i64 (n : Int))).run Try.prog W = .ok (.slice (some ⟨W.heap.size, 0, none⟩) n n) (W.alloc (.cells (slotVals (List.replicate n (0, false))).toArray 126)) := by
    intro W
    have := run_make (P := Try.prog) W 120 126 i0 _ Try.underlying120 hi hz .i64 .i64 n n (by omega) (by omega) (by rw [hb]; omega) (by omega)
    rw [hs] at this
    simp only [Int.toNat_natCast] at this
    rw [replicate_cells] at this
    exact this
  have HM := Lib.hid hmk
  clear hi hz hs hb hmk
  have hmk := HM.out
  go_enter Try.func46, Try.ntmps46
  go_wp2
  go_ret
  refine ⟨rfl, ?_⟩
  unfold newTab tabCells
  rw [full_none]
  simp
set_option maxHeartbeats 400000 in
theorem tnew_none (n : Int) (w : World) (h : n < 0 ∨ 1000 < n) :
    Calls Try.prog 46 #[.int .i64 n] w fun e w' => e = .returned (.pointer none) ∧ w = w' := by
  rcases h with h | h
  · go_enter Try.func46, Try.ntmps46
    go_wp2
    go_ret
    exact ⟨rfl, rfl⟩
  · have h2 : ¬ n < 0 := by omega
    go_enter Try.func46, Try.ntmps46
    go_wp2
    go_ret
    exact ⟨rfl, rfl⟩

/-! ### Len, Room -/
set_option maxHeartbeats 400000 in
theorem tlen_some (w : World) (b g : Nat) (l : Slots) (h : IsTab w b g l) :
    Calls Try.prog 67 #[.pointer (some ⟨b, 0, none⟩)] w fun e w' => e = .returned (.int .i64 (full l)) ∧ w = w' := by
  obtain ⟨c0, c1, cf⟩ := h.cells
  clear h
  go_enter Try.func67, Try.ntmps67
  go_wp2
  go_ret
  exact ⟨rfl, rfl⟩
set_option maxHeartbeats 400000 in
theorem tlen_none (w : World) : Calls Try.prog 67 #[.pointer none] w fun e w' => e = .returned (.int .i64 0) ∧ w = w' := by
  go_enter Try.func67, Try.ntmps67
  go_wp2
  go_ret
  exact ⟨rfl, rfl⟩
set_option maxHeartbeats 400000 in
theorem troom_none (w : World) : Calls Try.prog 68 #[.pointer none] w fun e w' => e = .returned (.int .i64 0) ∧ w = w' := by
  go_enter Try.func68, Try.ntmps68
  go_wp2
  go_ret
  exact ⟨rfl, rfl⟩
set_option maxHeartbeats 400000 in
theorem troom_some (w : World) (b g : Nat) (l : Slots) (h : IsTab w b g l) :
    Calls Try.prog 68 #[.pointer (some ⟨b, 0, none⟩)] w fun e w' => e = .returned (.int .i64 (l.length - full l : Nat)) ∧ Drawn w w' := by
  obtain ⟨c0, c1, cf⟩ := h.cells
  have h1 := full_le l
  have h2 := h.few
  have h3 : (0 : Int) ≤ (full l : Int) := by omega
  have h4 : (full l : Int) ≤ (l.length : Int) := by omega
  have h5 : (l.length : Int) ≤ 1000 := by omega
  have h6 : IntKind.i64.wrap ((l.length : Int) - (full l : Int)) = (l.length : Int) - (full l : Int) := IntWalk.i64_in _ (by omega)
  clear h
  go_enter Try.func68, Try.ntmps68
  go_wp2
  go_quiet (fail)
  go_wp2
  go_ret
  exact ⟨ret_int (by omega), ⟨_, rfl⟩⟩

/-! ### Get -/
/-- What is told of a place. -/
def getV (l : Slots) (at_ : Int) : Int × Bool := if h : 0 ≤ at_ ∧ at_.toNat < l.length then l[at_.toNat]'h.2 else (0, false)
set_option maxRecDepth 100000 in
set_option maxHeartbeats 800000 in
theorem tget_some (w : World) (b g : Nat) (l : Slots) (n : Int) (h : IsTab w b g l) :
    Calls Try.prog 50 #[.pointer (some ⟨b, 0, none⟩), .int .i64 n] w fun e w' => e = .returned (.tuple #[.int .i64 (getV l n).1, .bool (getV l n).2]) ∧ Drawn w w' := by
  obtain ⟨c0, c1, cf⟩ := h.cells
  have hfew := h.few
  by_cases hin : 0 ≤ n ∧ n.toNat < l.length
  · obtain ⟨i, rfl⟩ := Int.eq_ofNat_of_zero_le hin.1
    have hi : i < l.length := by simpa using hin.2
    have hg : getV l i = l[i] := by unfold getV; rw [dif_pos hin]; simp
    obtain ⟨s0, s1, sf⟩ := h.slot i hi
    have HG := Lib.hid hg
    obtain ⟨x, hx⟩ : ∃ x, x = l[i] := ⟨_, rfl⟩
    rw [← hx] at s0 s1
    have HX := Lib.hid hx
    have i1 : (0 : Int) ≤ (i : Int) := by omega
    have i2 : (i : Int) < (l.length : Int) := by omega
    have i3 : ¬ (l.length : Int) ≤ (i : Int) := by omega
    clear h hin hg hx
    go_enter Try.func50, Try.ntmps50
    go_wp2
    go_quiet (fail)
    go_wp2
    go_ret2
    exact ⟨by rw [HG.out, ← HX.out]; rfl, ⟨_, rfl⟩⟩
  · have hg : getV l n = (0, false) := by unfold getV; rw [dif_neg hin]
    have HG := Lib.hid hg
    clear h hg
    by_cases h1 : n < 0
    · go_enter Try.func50, Try.ntmps50
      go_wp2
      go_ret2
      exact ⟨by rw [HG.out]; rfl, Drawn.refl _⟩
    · have h2 : (l.length : Int) ≤ n := by omega
      clear hin
      go_enter Try.func50, Try.ntmps50
      go_wp2
      go_ret2
      exact ⟨by rw [HG.out]; rfl, Drawn.refl _⟩
set_option maxHeartbeats 400000 in
theorem tget_none (w : World) (n : Int) : Calls Try.prog 50 #[.pointer none, .int .i64 n] w fun e w' => e = .returned (.tuple #[.int .i64 0, .bool false]) ∧ Drawn w w' := by
  go_enter Try.func50, Try.ntmps50
  go_wp2
  go_ret2
  exact ⟨rfl, Drawn.refl _⟩
end Go.Proofs.Ytgbjndlaonalcaa
