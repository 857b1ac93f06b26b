
/-
  ROWS OF STRUCTS: copy and clear at elements of several cells; the cells of a list of fields.
-/
import Derived.Test.YtdpohibgipkhnaaTT12
import Derived.Test.YtdpohibgipkhnaaTT10
import Derived.Laws.CopyOwn
import Derived.Laws.CopyRow
import Derived.Laws.MakeOwn
import Derived.Laws.Cells
import Derived.Laws.Append
set_option linter.unusedVariables false
set_option linter.unusedSimpArgs false
namespace Go.Proofs.Ytdpohibgipkhnaa
open Go.RowKit

section
variable {P : Program} {w : World} {ops : Array Oper} {rest : List Oper} {o : Oper} {a : Act} {Q : Exit → Act → World → Prop}

/-- The first n elements of what is read. -/
theorem run_first_reads (B size n len cap : Nat) (A : Option Addr) (cs : List Value) (h : Reads w B size A len cs) (hn : n ≤ len) :
    (Builtin.firstCells size n (.slice A len cap)).run P w = .ok (cs.take (n * size)).toArray w := by
  cases A with
  | none =>
    have h0 : len = 0 := by
      rcases Nat.eq_zero_or_pos len with h0 | h0
      · exact h0
      · obtain ⟨ad, e, _⟩ := h.2 h0; cases e
    subst h0
    obtain rfl : n = 0 := by omega
    simp [Builtin.firstCells]
  | some ad =>
    refine run_firstCells_some w size n ad len cap _ ?_ ?_
    · rw [List.length_take, h.1]
      exact Nat.min_eq_left (Nat.mul_le_mul_right size hn)
    · intro j v hj
      rw [List.getElem?_take] at hj
      split at hj
      · rcases Nat.eq_zero_or_pos len with h0 | h0
        · have : cs = [] := List.eq_nil_of_length_eq_zero (by rw [h.1, h0]; simp)
          subst this
          simp at hj
        · obtain ⟨ad', e, _, hc⟩ := h.2 h0
          injection e with e
          subst e
          exact hc j v hj
      · cases hj

/-- 'copy(dst, src)', dst a row in a block that is known whole, from cell 'off' on; src whatever reads as cs: so many elements as both have. -/
theorem wpList_copy_rows (hgd : o.guard = none) (d s : Operand) (dT sT : TypeId) (ho : o.op = .call { callee := .builtin .copy, args := #[d, s], argTypes := #[dT, sT] }) (elem : TypeId) (size : Nat) (hu : P.underlying dT = some (.slice elem)) (hsz : (P.info? elem).map (·.size) = some size)
    (g off dLen dCap sLen sCap B : Nat) (A : Option Addr) (hd : a.eval d = .slice (some ⟨g, off, none⟩) dLen dCap) (hs : a.eval s = .slice A sLen sCap)
    (cur : List Value) (t : TypeId) (hg : Blk w g t cur.toArray) (cs : List Value) (hr : Reads w B size A sLen cs) (hle : sLen ≤ dLen) (hfit : off + cs.length ≤ cur.length) (h1 : ∀ v ∈ cs, v.oneCell' = true)
    (h : ∀ w', Blk w' g t (cur.take off ++ cs ++ cur.drop (off + cs.length)).toArray → (∀ k, k ≠ g → w'.heap[k]? = w.heap[k]?) → Below g w w' → w'.heap.size = w.heap.size → wpList P ops Q rest (a.put o.dst (goInt sLen)) w') : wpList P ops Q (o :: rest) a w := by
  refine wpList_plain hgd fun K hK => ?_
  have hf := run_first_reads (P := P) B size sLen sLen sCap A cs hr (Nat.le_refl _)
  rw [List.take_of_length_le (by rw [hr.1]; exact Nat.le_refl _)] at hf
  have hst := run_storeCells_at P g off t cs 0 cur.toArray w hg (by simpa using hfit) h1
  have hmin : Nat.min sLen dLen = sLen := Nat.min_eq_left hle
  cases hq : P.info? elem with
  | none => simp [hq] at hsz
  | some i =>
    have hi : i.size = size := by simpa [hq] using hsz
    have hrun : (Builtin.copy_ #[dT, sT] o.type #[.slice (some ⟨g, off, none⟩) dLen dCap, .slice A sLen sCap]).run P w = .ok (goInt sLen) (w.setRow g (cur.take off ++ cs ++ cur.drop (off + cs.length)).toArray) := by
      simp [Builtin.copy_, run_underlying hu, Builtin.lenOf, sizeOf, typeInfo, hq, hi, hmin, hf] at hst ⊢
      simp [hst]
    unfold Oper.wp
    simp [execOp, ho, resolve, invoke, builtin, hd, hs, hrun, Result.andThen]
    refine hK _ _ (h _ ?_ (fun k hk => setRow_other w g k _ (by omega)) (below_setRow (Below.refl _ _) (Nat.le_refl _) _) (by simp [World.setRow]))
    rw [List.append_assoc]
    exact setRow_heap w g _ _ t _ hg

/-- 'clear(s)', s a row in a block that is known whole, from cell 'off' on: its cells hold the element type's zero. -/
theorem wpList_clear_rows (hgd : o.guard = none) (s : Operand) (T : TypeId) (ho : o.op = .call { callee := .builtin .clear, args := #[s], argTypes := #[T] }) (elem : TypeId) (z : Value) (hu : P.underlying T = some (.slice elem)) (hz : ∀ w, (zeroValue elem).run P w = .ok z w)
    (g off n cap : Nat) (hs : a.eval s = .slice (some ⟨g, off, none⟩) n cap) (cur : List Value) (t : TypeId) (hg : Blk w g t cur.toArray) (hfit : off + n * z.cells.size ≤ cur.length) (h1 : ∀ v ∈ (Builtin.zeroCells z.cells n).toList, v.oneCell' = true)
    (h : ∀ w', Blk w' g t (cur.take off ++ (Builtin.zeroCells z.cells n).toList ++ cur.drop (off + n * z.cells.size)).toArray → (∀ k, k ≠ g → w'.heap[k]? = w.heap[k]?) → Below g w w' → w'.heap.size = w.heap.size → wpList P ops Q rest (a.put o.dst (.tuple #[])) w') : wpList P ops Q (o :: rest) a w := by
  refine wpList_plain hgd fun K hK => ?_
  have hzl : (Builtin.zeroCells z.cells n).toList.length = n * z.cells.size := by simp [Builtin.zeroCells]
  have hst := run_storeCells_at P g off t (Builtin.zeroCells z.cells n).toList 0 cur.toArray w hg (by rw [hzl]; simpa using hfit) h1
  rw [hzl] at hst
  have hrun : (Builtin.clear_ #[T] o.type #[.slice (some ⟨g, off, none⟩) n cap]).run P w = .ok (.tuple #[]) (w.setRow g (cur.take off ++ (Builtin.zeroCells z.cells n).toList ++ cur.drop (off + n * z.cells.size)).toArray) := by
    cases n with
    | zero =>
      have e : (cur.take off ++ (Builtin.zeroCells z.cells 0).toList ++ cur.drop (off + 0 * z.cells.size)) = cur := by simp [Builtin.zeroCells]
      rw [e, setRow_self w g cur.toArray t (0, 0) hg]
      simp [Builtin.clear_, run_underlying hu]
    | succ m =>
      simp [Builtin.clear_, run_underlying hu, hz] at hst ⊢
      simp [hst]
  unfold Oper.wp
  simp [execOp, ho, resolve, invoke, builtin, hs, hrun, Result.andThen]
  refine hK _ _ (h _ ?_ (fun k hk => setRow_other w g k _ (by omega)) (below_setRow (Below.refl _ _) (Nat.le_refl _) _) (by simp [World.setRow]))
  rw [List.append_assoc]
  exact setRow_heap w g _ _ t _ hg

/-- A whole array stored into a block of its size. -/
theorem wpList_store_all (hgd : o.guard = none) (ty : TypeId) (x y : Operand) (ho : o.op = .store ty x y) (g : Nat) (cells : Array Value) (t : TypeId) (old : Array Value) (hx : a.eval x = .pointer (some ⟨g, 0, none⟩)) (hy : a.eval y = .agg cells)
    (hg : Blk w g t old) (hsz : old.size = cells.size) (hi : (P.info? ty).map (·.size) = some cells.size) (h1 : ∀ v ∈ cells.toList, v.oneCell' = true)
    (h : ∀ w', Blk w' g t cells → (∀ k, k ≠ g → w'.heap[k]? = w.heap[k]?) → Below g w w' → w'.heap.size = w.heap.size → wpList P ops Q rest (a.put o.dst undef) w') : wpList P ops Q (o :: rest) a w := by
  refine wpList_plain hgd fun K hK => ?_
  have hst := run_storeCells_at P g 0 t cells.toList 0 old w hg (by simp [hsz]) h1
  have e : (old.toList.take (0 + 0) ++ cells.toList ++ old.toList.drop (0 + 0 + cells.toList.length)).toArray = cells := by
    have : old.toList.drop (0 + 0 + cells.toList.length) = [] := List.drop_eq_nil_of_le (by simp [hsz])
    rw [this]
    simp
  rw [e] at hst
  cases hq : P.info? ty with
  | none => simp [hq] at hi
  | some i =>
    have hs : cells.size = i.size := by simp [hq] at hi; omega
    have hrun : (storeVar ty ⟨g, 0, none⟩ (.agg cells)).run P w = .ok () (w.setRow g cells) := by
      simp [storeVar, sizeOf, typeInfo, hq, Value.cells, hs, hst]
    unfold Oper.wp execOp
    simp only [ho, hx, hy, Instr.storeAt, Instr.sureAddr, Sem.run_bind, Sem.run_pure, Result.andThen_ok, hrun]
    refine hK _ _ (h _ ?_ (fun k hk => setRow_other w g k _ (by omega)) (below_setRow (Below.refl _ _) (Nat.le_refl _) _) (by simp [World.setRow]))
    exact setRow_heap w g _ _ t _ hg

/-- An operation whose run is known whole. -/
theorem wpList_run_known (hgd : o.guard = none) (v : Value) (hrun : (execOp a.eval o).run P w = .ok (.value v) w) (h : wpList P ops Q rest (a.put o.dst v) w) : wpList P ops Q (o :: rest) a w := by
  refine wpList_plain hgd fun K hK => ?_
  unfold Oper.wp
  rw [hrun]
  exact hK _ _ h
theorem wpList_build_known (hgd : o.guard = none) (v : Value) (w1 : World) (hrun : (execOp a.eval o).run P w = .ok (.value v) w1) (h : wpList P ops Q rest (a.put o.dst v) w1) : wpList P ops Q (o :: rest) a w := by
  refine wpList_plain hgd fun K hK => ?_
  unfold Oper.wp
  rw [hrun]
  exact hK _ _ h
end

/-- 'out = append(out, x)', as wpList_append_new, with where the row lies now: where it lay, or in a new block. -/
theorem wpList_append_at {P : Program} {ops : Array Oper} {rest : List Oper} {o : Oper} {a : Act} {Q : Exit → Act → World → Prop} (hgd : o.guard = none) (s x : Operand) (t : TypeId)
    (ho : o.op = .call { callee := .builtin .append, args := #[s, x], argTypes := #[t, t] })
    (base : Nat) (e : TypeId) {i : TypeInfo} {z : Value} {size bytes : Nat} (ht : P.underlying t = some (.slice e)) (hi : Hid (P.info? e = some i)) (hz : Hid (i.zero = some z ∧ i.size = size ∧ i.bytes = bytes))
    (hzs : z.cells.size = size) (hsz : 0 < size) (wr : World) (cs : List Value)
    {v : Value} {n : Nat} {xs : List Value} (hown : wr.ownsRow base e size v n xs) (hs : a.eval s = v)
    (hx : a.eval x = .slice (some ⟨wr.heap.size, 0, none⟩) 1 1) (hl : cs.length = size) (h1 : ∀ u ∈ cs, u.oneCell' = true)
    (h63 : n + 1 ≤ maxLen) (hbytes : (n + 1) * bytes ≤ 140737488355328) (hbase : base ≤ wr.heap.size)
    (h : ∀ g' cap' w', w'.ownsRow base e size (.slice (some ⟨g', 0, none⟩) (n + 1) cap') (n + 1) (xs ++ cs) → wr.grownBy w' v.ownBlock → (v.ownBlock = some g' ∨ wr.heap.size ≤ g') → wpList P ops Q rest (a.put o.dst (.slice (some ⟨g', 0, none⟩) (n + 1) cap')) w') :
    wpList P ops Q (o :: rest) a (wr.alloc (.cells cs.toArray e)) := by
  have hr : Reads (wr.alloc (.cells cs.toArray e)) (wr.heap.size + 1) size (some ⟨wr.heap.size, 0, none⟩) 1 cs := by
    refine ⟨by rw [hl, Nat.one_mul], fun _ => ⟨_, rfl, Nat.lt_succ_self _, fun j u hj => ?_⟩⟩
    rw [add_head, World.cell?_alloc_new]
    simpa using hj
  refine wpList_append_any _ hgd s x t ho base e i z size bytes ht hi.out hz.out.1 hz.out.2.1 hz.out.2.2 hzs hsz v n xs hs (hown.alloc _) _ _ 1 1 cs hx hr h1 h63 hbytes (by simp; omega) ?_
  intro v' w' hown' hg hat
  have hg' : wr.grownBy w' v.ownBlock := (World.grownBy_alloc wr _ v.ownBlock).trans hg
  obtain ⟨g', cap', rfl, _, _⟩ := hown'.form (by omega)
  refine h g' cap' w' hown' hg' ?_
  rcases hat with h2 | h2
  · exact .inl h2.symm
  · simp [Value.ownBlock] at h2
    exact .inr (by omega)
/-! ### the cells of fields -/
def fldVals (l : List (ByteArray × ByteArray)) : List Value := l.flatMap fun p => [.string p.1, .string p.2]
theorem fldVals_cons (p : ByteArray × ByteArray) (l : List (ByteArray × ByteArray)) : fldVals (p :: l) = .string p.1 :: .string p.2 :: fldVals l := rfl
theorem fldVals_length (l : List (ByteArray × ByteArray)) : (fldVals l).length = l.length * 2 := by
  induction l with
  | nil => rfl
  | cons p l ih => rw [fldVals_cons]; simp only [List.length_cons, ih]; omega
theorem fldVals_append (l m : List (ByteArray × ByteArray)) : fldVals (l ++ m) = fldVals l ++ fldVals m := by simp [fldVals]
theorem fldVals_x (l : List (ByteArray × ByteArray)) : ∀ (i : Nat) (h : i < l.length), (fldVals l)[i * 2]? = some (.string l[i].1) := by
  induction l with
  | nil => intro i h; simp at h
  | cons p l ih =>
    intro i h
    cases i with
    | zero => rfl
    | succ i =>
      rw [fldVals_cons, show (i + 1) * 2 = i * 2 + 1 + 1 by omega, List.getElem?_cons_succ, List.getElem?_cons_succ, ih i (by simpa using h)]
      rfl
theorem fldVals_y (l : List (ByteArray × ByteArray)) : ∀ (i : Nat) (h : i < l.length), (fldVals l)[i * 2 + 1]? = some (.string l[i].2) := by
  induction l with
  | nil => intro i h; simp at h
  | cons p l ih =>
    intro i h
    cases i with
    | zero => rfl
    | succ i =>
      rw [fldVals_cons, show (i + 1) * 2 + 1 = (i * 2 + 1) + 1 + 1 by omega, List.getElem?_cons_succ, List.getElem?_cons_succ, ih i (by simpa using h)]
      rfl
theorem fldVals_set (x y : ByteArray) (l : List (ByteArray × ByteArray)) : ∀ i, i < l.length → ((fldVals l).set (i * 2) (.string x)).set (i * 2 + 1) (.string y) = fldVals (l.set i (x, y)) := by
  induction l with
  | nil => intro i h; simp at h
  | cons p l ih =>
    intro i h
    cases i with
    | zero => rfl
    | succ i =>
      rw [fldVals_cons, show (i + 1) * 2 = i * 2 + 1 + 1 by omega, List.set_cons_succ, List.set_cons_succ, List.set_cons_succ, List.set_cons_succ, ih i (by simpa using h)]
      rfl
theorem fldVals_take (l : List (ByteArray × ByteArray)) (k : Nat) : (fldVals l).take (k * 2) = fldVals (l.take k) := by
  induction l generalizing k with
  | nil => simp [fldVals]
  | cons p l ih =>
    cases k with
    | zero => simp [fldVals]
    | succ k =>
      rw [fldVals_cons, show (k + 1) * 2 = k * 2 + 1 + 1 by omega, List.take_succ_cons, List.take_succ_cons, ih k]
      rfl
theorem fldVals_drop (l : List (ByteArray × ByteArray)) (k : Nat) : (fldVals l).drop (k * 2) = fldVals (l.drop k) := by
  induction l generalizing k with
  | nil => simp [fldVals]
  | cons p l ih =>
    cases k with
    | zero => simp [fldVals]
    | succ k =>
      rw [fldVals_cons, show (k + 1) * 2 = k * 2 + 1 + 1 by omega, List.drop_succ_cons, List.drop_succ_cons, ih k]
      rfl
theorem fld_one (l : List (ByteArray × ByteArray)) : ∀ u ∈ fldVals l, u.oneCell' = true := by
  intro u hu
  unfold fldVals at hu
  simp only [List.mem_flatMap, List.mem_cons, List.not_mem_nil, or_false] at hu
  obtain ⟨p, _, rfl | rfl⟩ := hu <;> rfl
/-- n empty fields. -/
def noFlds (n : Nat) : List (ByteArray × ByteArray) := List.replicate n (⟨#[]⟩, ⟨#[]⟩)
theorem noFlds_vals (n : Nat) : fldVals (noFlds n) = List.replicate (n * 2) (.string ⟨#[]⟩) := by
  induction n with
  | zero => rfl
  | succ n ih =>
    unfold noFlds at ih ⊢
    rw [List.replicate_succ, fldVals_cons, ih, show (n + 1) * 2 = n * 2 + 1 + 1 by omega, List.replicate_succ, List.replicate_succ]
theorem made_flds (n : Nat) : madeCells (Value.agg #[.string ⟨#[]⟩, .string ⟨#[]⟩]).cells (n * 2) = (fldVals (noFlds n)).toArray := by
  rw [noFlds_vals]
  apply Array.ext
  · rw [size_madeCells]; simp
  · intro i h1 h2
    rw [size_madeCells] at h1
    rcases Nat.mod_two_eq_zero_or_one i with hm | hm <;> simp [madeCells, Value.cells, hm]
theorem zero_flds (n : Nat) : (Builtin.zeroCells (Value.agg #[.string ⟨#[]⟩, .string ⟨#[]⟩]).cells n).toList = fldVals (noFlds n) := by
  rw [noFlds_vals]
  apply List.ext_getElem
  · simp [Builtin.zeroCells, Value.cells]
  · intro i h1 h2
    rcases Nat.mod_two_eq_zero_or_one i with hm | hm <;> simp [Builtin.zeroCells, Value.cells, hm]
end Go.Proofs.Ytdpohibgipkhnaa
