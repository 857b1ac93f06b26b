
/-
  THE WALK of canon.Fields' put.
-/
import Derived.Test.YtdpohibgipkhnaaCanon5
import Derived.Test.YtdpohibgipkhnaaCanF
import Derived.Test.YtdpohibgipkhnaaTrl1
import Derived.Deep.RegionHeld3
import Derived.Deep.AppendLies
import Derived.Deep.DrawnRows
namespace Go.Proofs.Ytdpohibgipkhnaa
open Go.RowKit Go.Sort Go.Proofs.Ytdpohibgipkhnaa.Oct
attribute [local go_sem ↓] Go.wp_at_zero Go.wp_at_succ

/-- All stands as it stood but block b and row r. -/
structure Kept (w w' : World) (b : Nat) (r : Option Nat) : Prop where
  os : w'.os = w.os
  tape : w'.tape = w.tape
  output : w'.output = w.output
  size : w.heap.size ≤ w'.heap.size
  block : ∀ k, k < w.heap.size → k ≠ b → some k ≠ r → w'.heap[k]? = w.heap[k]?
/-- The row lies where it lay, or from block N on. -/
def Loc (v v' : Value) (N : Nat) : Prop := v'.ownBlock = v.ownBlock ∨ ∃ k, v'.ownBlock = some k ∧ N ≤ k
theorem Loc.refl (v : Value) (N : Nat) : Loc v v N := .inl rfl
theorem Loc.trans {v v1 v2 : Value} {N M : Nat} (h : Loc v v1 N) (k : Loc v1 v2 M) (hm : N ≤ M) : Loc v v2 N := by
  rcases k with k | ⟨g, k, hg⟩
  · rcases h with h | ⟨g, h, hg⟩
    · exact .inl (k.trans h)
    · exact .inr ⟨g, k.trans h, hg⟩
  · exact .inr ⟨g, k, by omega⟩
theorem Loc.ne {v v' : Value} {N k : Nat} (h : Loc v v' N) (hk : k < N) (hne : some k ≠ v.ownBlock) : some k ≠ v'.ownBlock := by
  rcases h with h | ⟨g, h, hg⟩
  · rw [h]; exact hne
  · rw [h]; intro e; injection e with e; omega
theorem Kept.refl (w : World) (b : Nat) (r : Option Nat) : Kept w w b r := ⟨rfl, rfl, rfl, Nat.le_refl _, fun _ _ _ _ => rfl⟩
theorem Kept.of_below {w w' : World} (h : Below w.heap.size w w') (b : Nat) (r : Option Nat) : Kept w w' b r := ⟨h.os, h.tape, h.output, h.size, fun k hk _ _ => h.block k hk⟩
theorem Kept.trans {w w1 w2 : World} {b : Nat} {v v1 : Value} (h : Kept w w1 b v.ownBlock) (k : Kept w1 w2 b v1.ownBlock) (hl : Loc v v1 w.heap.size) : Kept w w2 b v.ownBlock :=
  ⟨k.os.trans h.os, k.tape.trans h.tape, k.output.trans h.output, Nat.le_trans h.size k.size, fun j hj hb hr =>
    (k.block j (Nat.lt_of_lt_of_le hj h.size) hb (hl.ne hj hr)).trans (h.block j hj hb hr)⟩
theorem Kept.below {w w' : World} {b B : Nat} {r : Option Nat} (h : Kept w w' b r) (hB : B ≤ w.heap.size) (hb : B ≤ b) (hr : ∀ k, r = some k → B ≤ k) : Below B w w' :=
  ⟨h.os, h.tape, h.output, h.size, fun k hk => h.block k (by omega) (by omega) (fun e => by have := hr k e.symm; omega)⟩

/-- The variable in block b holds v, a row of the call's own (from base on) that reads as l. -/
def OutAt (w : World) (base b : Nat) (v : Value) (l : Flds) : Prop := Blk w b 22 #[v] ∧ w.ownsRow base 31 2 v l.length (fldVals l)
theorem OutAt.ne {w : World} {base b : Nat} {v : Value} {l : Flds} (h : OutAt w base b v l) (hb : b < base) : some b ≠ v.ownBlock := by
  intro e
  rcases h.2.2 with ⟨rfl, _⟩ | ⟨g, cap, cur, rfl, hg, _⟩
  · cases e
  · injection e with e
    simp at e
    omega
theorem OutAt.row {w : World} {base b : Nat} {v : Value} {l : Flds} (h : OutAt w base b v l) : ∀ k, v.ownBlock = some k → base ≤ k ∧ k < w.heap.size := fun k hk => h.2.lt k hk
theorem OutAt.below {w w' : World} {base b : Nat} {v : Value} {l : Flds} (h : OutAt w base b v l) (hb : Below w.heap.size w w') : OutAt w' base b v l := ⟨h.1.below hb h.1.lt, own_below h.2 hb⟩
theorem reads_new (w : World) (cs : List Value) (T : TypeId) (size : Nat) (hl : cs.length = size) : Reads (w.alloc (.cells cs.toArray T)) (w.heap.size + 1) size (some ⟨w.heap.size, 0, none⟩) 1 cs := by
  refine ⟨by rw [hl, Nat.one_mul], fun _ => ⟨_, rfl, Nat.lt_succ_self _, fun j u hj => ?_⟩⟩
  rw [add_head, World.cell?_alloc_new]
  simpa using hj

def PutPost (w : World) (base b : Nat) (v : Value) (l' : Flds) (e : Ending) (w' : World) : Prop :=
  e = .returned (.tuple #[]) ∧ ∃ v', OutAt w' base b v' l' ∧ Loc v v' w.heap.size ∧ Kept w w' b v.ownBlock
theorem put_end {w w1 w9 : World} {base b : Nat} {v v' : Value} {l : Flds} {p : ByteArray × ByteArray} {o : Obj} (h : OutAt w base b v l) (hb : b < base) (B1 : Below w.heap.size w w1) (hgrow : (w1.alloc o).grownBy w9 v.ownBlock)
    {m : Nat} (hm : m = (l ++ [p]).length) (hown : w9.ownsRow base 31 2 v' m (fldVals (l ++ [p]))) (hat : v'.ownBlock = v.ownBlock ∨ v'.ownBlock = some (w1.alloc o).heap.size) :
    OutAt (w9.setCell ⟨b, 0, none⟩ v') base b v' (l ++ [p]) ∧ Loc v v' w.heap.size ∧ Kept w (w9.setCell ⟨b, 0, none⟩ v') b v.ownBlock := by
  subst hm
  have hz1 := B1.size
  have hlt := h.1.lt
  have hblk : Blk w9 b 22 #[v] := (hgrow.block b (by simp; omega) (h.ne hb)).trans ((Below.heap_alloc _ _ _ (by omega)).trans ((B1.block b hlt).trans h.1))
  have hne' : some b ≠ v'.ownBlock := by
    rcases hat with e | e
    · rw [e]; exact h.ne hb
    · rw [e]; intro e2; injection e2 with e2; simp at e2; omega
  refine ⟨⟨?_, ?_⟩, ?_, ?_⟩
  · have := hblk.set_ 0 v'
    exact this
  · have hk := hown.kept (grown_set (o := 0) (World.grownBy.refl w9 (some b)) v') (.inr (Ne.symm hne'))
    exact hk
  · rcases hat with e | e
    · exact .inl e
    · exact .inr ⟨_, e, by simp; omega⟩
  · refine ⟨hgrow.os.trans B1.os, hgrow.tape.trans B1.tape, hgrow.output.trans B1.output, ?_, fun k hk hkb hkr => ?_⟩
    · have := hgrow.size
      simp at this ⊢
      omega
    · exact (Below.heap_setCell _ _ _ _ hkb).trans ((hgrow.block k (by simp; omega) hkr).trans ((Below.heap_alloc _ _ _ (by omega)).trans (B1.block k hk)))

set_option maxRecDepth 100000 in
set_option maxHeartbeats 6400000 in
theorem put_any (w : World) (base b : Nat) (v : Value) (l : Flds) (name value : ByteArray) (h : OutAt w base b v l) (hb : b < base) (hbase : base ≤ w.heap.size) (hn : name.size ≤ 140737488355328) (hv : value.size ≤ 9223372036854775807) (hl : l.length < 100000) :
    Calls Try.prog 86 #[.string name, .string value, .pointer (some ⟨b, 0, none⟩)] w (PutPost w base b v (l ++ [(nameS name, trimS value)])) := by
  obtain ⟨i0, hi, hz⟩ := info_hid info_field
  have hcell := h.1.cell 0
  have hfree := h.1.frozen 0
  have hlt := h.1.lt
  have HH := Lib.hid h
  have HE := Lib.hid (fldVals_snoc l (nameS name) (trimS value))
  have HLN : Hid ((l ++ [(nameS name, trimS value)]).length = l.length + 1) := by show _ = _; simp
  clear h
  go_enter Try.func86, Try.ntmps86
  go_wp2_with fail
  go_region_law (first
    | (refine step_append_any _ (by rfl) (.tmp 5) (.tmp 11) _ (by rfl) base 31 i0 _ 2 32 Try.underlying22 hi.out hz.out.1 hz.out.2.1 hz.out.2.2 rfl (by omega) v l.length (fldVals l) (by rfl) ((own_below HH.out.2 B1.out).alloc _) _ _ 1 1 [.string (nameS name), .string (trimS value)] (by rfl) (reads_new _ _ _ 2 rfl) (one_fld _ _) (by unfold maxLen; omega) (by omega) (Nat.le_trans hbase (Nat.le_trans B1.out.size (by simp))) ?_; intro v9 w9 hown9 hg9 hat9; obtain ⟨g9, cap9, rfl, _, _⟩ := hown9.form (Nat.succ_pos _); have HO9 := Lib.hid hown9; have HG9 := Lib.hid hg9; have HA9 := Lib.hid hat9; have hb9 : Blk w9 b 22 #[v] := ((hg9.block b (by have := B1.out.size; simp; omega) (HH.out.ne hb)).trans ((Below.heap_alloc _ _ _ (by have := B1.out.size; omega)).trans ((B1.out.block b hlt).trans HH.out.1))); have hc9 := hb9.cell 0; have hf9 := hb9.frozen 0; clear hown9 hg9 hat9 hb9)
    | (go_simp; go_at_call 40; refine (name_any _ _ hn).mono ?_; rintro e w1 ⟨rfl, hb1⟩; have B1 : Hid (Below w.heap.size w w1) := (⟨hb1.os, hb1.tape, hb1.output, hb1.size, hb1.block⟩ : Below w.heap.size w w1); have hc1 := (B1.out.cell (p := ⟨b, 0, none⟩) hlt).trans hcell; have hf1 := (B1.out.frozen (p := ⟨b, 0, none⟩) hlt).trans hfree; have hca : ∀ o, (w1.alloc o).cell? ⟨b, 0, none⟩ = some v := (fun o => (World.cell?_alloc_lt w1 o ⟨b, 0, none⟩ (Nat.lt_of_lt_of_le hlt B1.out.size)).trans hc1); clear hb1)
    | (go_simp; go_at_call 87; refine (trim_any _ _ hv).mono ?_; rintro e w2 ⟨rfl, rfl⟩))
  all_goals
    have hown10 := HO9.out
    rw [← HE.out] at hown10
    have HFN := Lib.hid (put_end HH.out hb B1.out HG9.out HLN.out.symm hown10 HA9.out)
    clear hown10
    go_end0
    exact ⟨rfl, _, HFN.out⟩
end Go.Proofs.Ytdpohibgipkhnaa
