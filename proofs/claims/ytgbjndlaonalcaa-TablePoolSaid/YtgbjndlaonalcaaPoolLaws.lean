
/-
  ROWS THAT DO NOT BEGIN AT THEIR BLOCK'S HEAD: append of one element; the cells of entries (pairs of numbers).
-/
import Derived.Test.YtgbjndlaonalcaaRowLaws
import Derived.ArgAppend
namespace Go.Proofs.Ytgbjndlaonalcaa
open Go.RowKit

/-- A slice whose n elements are the cells xs, in a block of the call's own (from B on), with room to write up to its capacity. -/
def OffRow (w : World) (B e size : Nat) (v : Value) (n : Nat) (xs : List Value) : Prop :=
  xs.length = n * size ∧ ∃ g o cap cur, v = .slice (some ⟨g, o, none⟩) n cap ∧ B ≤ g ∧ w.heap[g]? = some (.cells cur e (0, 0)) ∧ n ≤ cap ∧ cap ≤ maxLen ∧ o + cap * size ≤ cur.size ∧ (cur.toList.drop o).take (n * size) = xs
theorem OffRow.of_own {w : World} {B e size n : Nat} {v : Value} {xs : List Value} (h : w.ownsRow B e size v n xs) (hv : v ≠ .slice none 0 0) : OffRow w B e size v n xs := by
  refine ⟨h.1, ?_⟩
  rcases h.2 with ⟨h2, _⟩ | ⟨g, cap, cur, hv', hg, hh, hn, hc, hs, ht⟩
  · exact absurd h2 hv
  · exact ⟨g, 0, cap, cur, hv', hg, hh, hn, hc, by omega, by simpa using ht⟩
theorem OffRow.block {w w' : World} {B e size n g o cap : Nat} {xs : List Value} (h : OffRow w B e size (.slice (some ⟨g, o, none⟩) n cap) n xs) (hb : w'.heap[g]? = w.heap[g]?) : OffRow w' B e size (.slice (some ⟨g, o, none⟩) n cap) n xs := by
  obtain ⟨h1, g', o', cap', cur, hv, hg, hh, r⟩ := h
  injection hv with hv _ hc
  injection hv with hv
  injection hv with hv1 hv2
  subst hv1 hv2 hc
  exact ⟨h1, g, o, cap, cur, rfl, hg, hb.trans hh, r⟩
theorem OffRow.form {w : World} {B e size n : Nat} {v : Value} {xs : List Value} (h : OffRow w B e size v n xs) : ∃ g o cap, v = .slice (some ⟨g, o, none⟩) n cap ∧ B ≤ g ∧ g < w.heap.size ∧ n ≤ cap ∧ (∃ cur, w.heap[g]? = some (.cells cur e (0, 0))) := by
  obtain ⟨h1, g, o, cap, cur, hv, hg, hh, hn, r⟩ := h
  exact ⟨g, o, cap, hv, hg, lt_of_block hh, hn, cur, hh⟩
theorem OffRow.cell {w : World} {B e size n g o cap : Nat} {xs : List Value} (h : OffRow w B e size (.slice (some ⟨g, o, none⟩) n cap) n xs) (j : Nat) (hj : j < n * size) : w.cell? ⟨g, o + j, none⟩ = xs[j]? := by
  obtain ⟨h1, g', o', cap', cur, hv, hg, hh, hn, hc, hs, ht⟩ := h
  injection hv with hv
  injection hv with hv
  injection hv with hv1 hv2
  subst hv1 hv2
  rw [cell_of_row w g (o + j) cur e (0, 0) hh, ← ht, List.getElem?_take, if_pos hj, List.getElem?_drop, Array.getElem?_toList]
theorem OffRow.below {w w' : World} {B e size n : Nat} {v : Value} {xs : List Value} (h : OffRow w B e size v n xs) (hb : Below w.heap.size w w') : OffRow w' B e size v n xs := by
  obtain ⟨g, o, cap, rfl, _, hlt, _, _⟩ := h.form
  exact h.block (hb.block g hlt)
theorem OffRow.reads {w : World} {B e size n g o cap : Nat} {xs : List Value} (h : OffRow w B e size (.slice (some ⟨g, o, none⟩) n cap) n xs) : Reads w w.heap.size size (some ⟨g, o, none⟩) n xs := by
  refine ⟨h.1, fun hn => ⟨_, rfl, ?_, fun j u hu => ?_⟩⟩
  · obtain ⟨g', o', cap', hv, _, hlt, _⟩ := h.form
    injection hv with hv
    injection hv with hv
    injection hv with hv1 hv2
    subst hv1
    exact hlt
  · rw [Addr.add_lit, h.cell j (by have := (List.getElem?_eq_some_iff.1 hu).1; rw [h.1] at this; exact this)]
    exact hu
/-- 's[k:]'. -/
theorem OffRow.drop {w : World} {B e size n g o cap : Nat} {xs : List Value} (h : OffRow w B e size (.slice (some ⟨g, o, none⟩) n cap) n xs) (k : Nat) (hk : k ≤ n) :
    OffRow w B e size (.slice (if cap = k then some ⟨g, o, none⟩ else some ⟨g, o + k * size, none⟩) (n - k) (cap - k)) (n - k) (xs.drop (k * size)) := by
  obtain ⟨h1, g', o', cap', cur, hv, hg, hh, hn, hc, hs, ht⟩ := h
  injection hv with hv _ hc'
  injection hv with hv
  injection hv with hv1 hv2
  subst hv1 hv2 hc'
  have hks : k * size ≤ n * size := Nat.mul_le_mul_right size hk
  have hcs : cap * size - k * size = (cap - k) * size := (Nat.sub_mul _ _ _).symm
  have hns : n * size - k * size = (n - k) * size := (Nat.sub_mul _ _ _).symm
  have hcap : n * size ≤ cap * size := Nat.mul_le_mul_right size hn
  refine ⟨by rw [List.length_drop, h1, hns], ?_⟩
  by_cases hck : cap = k
  · rw [if_pos hck]
    subst hck
    obtain rfl : n = cap := by omega
    exact ⟨g, o, n - n, cur, rfl, hg, hh, Nat.le_refl _, by omega, by simp; omega, by rw [Nat.sub_self, Nat.zero_mul, List.take_zero, List.drop_eq_nil_of_le (by omega)]⟩
  · rw [if_neg hck]
    refine ⟨g, o + k * size, cap - k, cur, rfl, hg, hh, by omega, by omega, by omega, ?_⟩
    rw [← ht, List.drop_take, List.drop_drop, hns]

theorem setCells_same (g : Nat) : ∀ (vs : List Value) (o : Nat) (w : World), (w.setCells g o vs).os = w.os ∧ (w.setCells g o vs).tape = w.tape ∧ (w.setCells g o vs).output = w.output ∧ (w.setCells g o vs).heap.size = w.heap.size ∧ ∀ k, k ≠ g → (w.setCells g o vs).heap[k]? = w.heap[k]?
  | [], _, _ => ⟨rfl, rfl, rfl, rfl, fun _ _ => rfl⟩
  | v :: r, o, w => by
    obtain ⟨h1, h2, h3, h4, h5⟩ := setCells_same g r (o + 1) (w.setCell ⟨g, o, none⟩ v)
    refine ⟨h1, h2, h3, h4.trans (by simp [World.setCell]), fun k hk => (h5 k hk).trans (Below.heap_setCell _ _ _ _ hk)⟩
theorem setCells_heap (g : Nat) (e : TypeId) : ∀ (vs : List Value) (o : Nat) (w : World) (cur : Array Value), w.heap[g]? = some (.cells cur e (0, 0)) → o + vs.length ≤ cur.size →
    (w.setCells g o vs).heap[g]? = some (.cells (cur.toList.take o ++ vs ++ cur.toList.drop (o + vs.length)).toArray e (0, 0))
  | [], o, w, cur, h, _ => by
    show w.heap[g]? = _
    rw [h]
    simp
  | v :: r, o, w, cur, h, hl => by
    have h1 := heap_setCell_same w g o cur e v h
    have h2 := setCells_heap g e r (o + 1) (w.setCell ⟨g, o, none⟩ v) (cur.setIfInBounds o v) h1 (by simp at hl ⊢; omega)
    show ((w.setCell ⟨g, o, none⟩ v).setCells g (o + 1) r).heap[g]? = _
    rw [h2]
    have ho : o < cur.toList.length := by rw [Array.length_toList]; simp only [List.length_cons] at hl; omega
    have e1 : (cur.setIfInBounds o v).toList = cur.toList.take o ++ v :: cur.toList.drop (o + 1) := by
      rw [Array.toList_setIfInBounds, List.set_eq_take_append_cons_drop, if_pos ho]
    have hL : (cur.toList.take o).length = o := by rw [List.length_take]; omega
    rw [e1]
    congr 3
    have t1 : (cur.toList.take o ++ v :: cur.toList.drop (o + 1)).take (o + 1) = cur.toList.take o ++ [v] := by
      rw [List.take_append, hL, List.take_of_length_le (by omega), show o + 1 - o = 1 by omega]
      rfl
    have t2 : (cur.toList.take o ++ v :: cur.toList.drop (o + 1)).drop (o + 1 + r.length) = cur.toList.drop (o + (v :: r).length) := by
      rw [List.drop_append, hL, List.drop_eq_nil_of_le (by omega), show o + 1 + r.length - o = r.length + 1 by omega, List.drop_succ_cons, List.drop_drop]
      simp only [List.nil_append, List.length_cons]
      congr 1
      omega
    rw [t1, t2]
    simp

/-- append of one element to such a row: it has been written in place, or all lies in a new row. -/
theorem wpList_append_off {P : Program} {ops : Array Oper} {rest : List Oper} {o : Oper} {a : Act} {Q : Exit → Act → World → Prop} (hgd : o.guard = none) (s x : Operand) (t : TypeId)
    (ho : o.op = .call { callee := .builtin .append, args := #[s, x], argTypes := #[t, t] })
    (base : Nat) (e : TypeId) {i : TypeInfo} {z : Value} {size bytes : Nat} (ht : P.underlying t = some (.slice e)) (hi : Hid (P.info? e = some i)) (hz : Hid (i.zero = some z ∧ i.size = size ∧ i.bytes = bytes))
    (hzs : z.cells.size = size) (hsz : 0 < size) (wr : World) (cs : List Value) (g off n cap : Nat) (xs : List Value) (hown : OffRow wr base e size (.slice (some ⟨g, off, none⟩) n cap) n xs) (hs : a.eval s = .slice (some ⟨g, off, none⟩) n cap)
    (hx : a.eval x = .slice (some ⟨wr.heap.size, 0, none⟩) 1 1) (hl : cs.length = size) (h1 : ∀ u ∈ cs, u.oneCell' = true)
    (h63 : n + 1 ≤ maxLen) (hbytes : (n + 1) * bytes ≤ 140737488355328) (hbase : base ≤ wr.heap.size)
    (h : ∀ g' o' cap' w', OffRow w' base e size (.slice (some ⟨g', o', none⟩) (n + 1) cap') (n + 1) (xs ++ cs) → wr.grownBy w' (some g) → wpList P ops Q rest (a.put o.dst (.slice (some ⟨g', o', none⟩) (n + 1) cap')) w') :
    wpList P ops Q (o :: rest) a (wr.alloc (.cells cs.toArray e)) := by
  have hown' := hown
  obtain ⟨hx1, g', o', cap', cur, hv, hg, hh, hn, hc, hsz', htk⟩ := hown'
  injection hv with hv _ hcc
  injection hv with hv
  injection hv with hv1 hv2
  subst hv1 hv2 hcc
  have hgl : g < wr.heap.size := lt_of_block hh
  have hhA : (wr.alloc (.cells cs.toArray e)).heap[g]? = some (.cells cur e (0, 0)) := (Below.heap_alloc wr _ g hgl).trans hh
  have hn1 : (n + 1) * size = n * size + size := Nat.succ_mul _ _
  refine wpList_append_arg (wr.alloc (.cells cs.toArray e)) hgd s x t ho e i z size bytes ht hi.out hz.out.1 hz.out.2.1 hz.out.2.2 hzs hsz g off n cap xs hs hx1 ?_ ⟨wr.heap.size, 0, none⟩ 1 1 cs hx (by rw [hl, Nat.one_mul]) ?_ h1 ?_ h63 hbytes ?_ ?_
  · intro j u hu
    have hj : j < n * size := by have := (List.getElem?_eq_some_iff.1 hu).1; rw [hx1] at this; exact this
    rw [World.cell?_of_block (w := wr) (Below.heap_alloc wr _ g hgl), hown.cell j hj]
    exact hu
  · intro j u hj
    rw [add_head, World.cell?_alloc_new]
    simpa using hj
  · intro hroom j hj
    rw [hl] at hj
    have hle : (n + 1) * size ≤ cap * size := Nat.mul_le_mul_right size hroom
    refine ⟨?_, frozen_of_row _ g _ cur e hhA⟩
    rw [cell_of_row _ g _ cur e (0, 0) hhA, Array.getElem?_eq_getElem (by omega)]
    rfl
  · intro hroom
    have hle : (n + 1) * size ≤ cap * size := Nat.mul_le_mul_right size hroom
    have hset : ((wr.alloc (.cells cs.toArray e)).setCells g (off + n * size) cs).heap[g]? = some (.cells (cur.toList.take (off + n * size) ++ cs ++ cur.toList.drop (off + n * size + cs.length)).toArray e (0, 0)) :=
      setCells_heap g e cs (off + n * size) _ cur hhA (by omega)
    refine h g off cap _ ⟨by rw [List.length_append, hx1, hl, hn1], g, off, cap, _, rfl, hg, hset, hroom, hc, ?_, ?_⟩ ?_
    · simp
      omega
    · rw [List.toList_toArray, hn1]
      have e1 : (cur.toList.take (off + n * size) ++ cs ++ cur.toList.drop (off + n * size + cs.length)).drop off = xs ++ cs ++ cur.toList.drop (off + n * size + cs.length) := by
        rw [List.append_assoc, List.drop_append_of_le_length (by simp; omega), ← List.append_assoc]
        congr 2
        rw [List.drop_take, show off + n * size - off = n * size by omega]
        exact htk
      rw [e1, List.take_append_of_le_length (by rw [List.length_append, hx1, hl]; exact Nat.le_refl _), List.take_of_length_le (by rw [List.length_append, hx1, hl]; exact Nat.le_refl _)]
    · refine (World.grownBy_alloc wr _ (some g)).trans (by obtain ⟨q1, q2, q3, q4, q5⟩ := setCells_same g cs (off + n * size) (wr.alloc (.cells cs.toArray e)); exact ⟨q1, q2, q3, by rw [q4]; exact Nat.le_refl _, fun k _ hk => q5 k (fun e => hk (by rw [e]))⟩)
  · intro hfull v' w' hown2 hg2
    obtain ⟨g2, cap2, rfl, hb2, hl2⟩ := hown2.form (by omega)
    have h3 := OffRow.of_own (own_mono hown2 (by rw [World.size_alloc]; omega : base ≤ _)) (by simp)
    exact h g2 0 cap2 w' h3 ((World.grownBy_alloc wr _ (some g)).trans ⟨hg2.os, hg2.tape, hg2.output, hg2.size, fun k hk _ => hg2.block k hk (by simp)⟩)
/-- append within the capacity, to a row in a block that is known whole; the source may lie in the same block. -/
theorem wpList_append_room {P : Program} {w : World} {ops : Array Oper} {rest : List Oper} {o : Oper} {a : Act} {Q : Exit → Act → World → Prop} (hgd : o.guard = none) (s x : Operand) (t : TypeId)
    (ho : o.op = .call { callee := .builtin .append, args := #[s, x], argTypes := #[t, t] }) (e : TypeId) {i : TypeInfo} {z : Value} {size bytes : Nat} (ht : P.underlying t = some (.slice e)) (hi : Hid (P.info? e = some i)) (hz : Hid (i.zero = some z ∧ i.size = size ∧ i.bytes = bytes))
    (g sLen sCap : Nat) (cur : Array Value) (hg : Blk w g e cur) (hs : a.eval s = .slice (some ⟨g, 0, none⟩) sLen sCap) (A : Addr) (m c : Nat) (news : List Value) (hx : a.eval x = .slice (some A) m c) (hl : news.length = m * size)
    (hnews : ∀ j u, news[j]? = some u → w.cell? (A.add j) = some u) (h1 : ∀ u ∈ news, u.oneCell' = true) (hroom : sLen + m ≤ sCap) (hfit : sLen * size + news.length ≤ cur.size)
    (h : ∀ w', Blk w' g e (cur.toList.take (sLen * size) ++ news ++ cur.toList.drop (sLen * size + news.length)).toArray → (∀ k, k ≠ g → w'.heap[k]? = w.heap[k]?) → Below g w w' → w'.heap.size = w.heap.size → wpList P ops Q rest (a.put o.dst (.slice (some ⟨g, 0, none⟩) (sLen + m) sCap)) w') :
    wpList P ops Q (o :: rest) a w := by
  refine wpList_plain hgd fun K hK => ?_
  have hsz := hz.out.2.1
  subst hsz
  have hrun := run_append_room (P := P) w t o.type e i ht hi.out g sLen sCap cur hg A m c news hl hnews h1 hroom hfit
  unfold Oper.wp
  simp [execOp, ho, resolve, invoke, builtin, hs, hx, hrun, Result.andThen]
  refine hK _ _ (h _ ?_ (fun k hk => setRow_other w g k _ (by omega)) (below_setRow (Below.refl _ _) (Nat.le_refl _) _) (by simp [World.setRow]))
  rw [List.append_assoc]
  exact setRow_heap w g _ _ e _ hg
/-! ### the cells of entries -/
def entVals (l : List (Int × Int)) : List Value := l.flatMap fun p => [.int .i64 p.1, .int .i64 p.2]
theorem entVals_cons (p : Int × Int) (l : List (Int × Int)) : entVals (p :: l) = .int .i64 p.1 :: .int .i64 p.2 :: entVals l := rfl
theorem entVals_append (l m : List (Int × Int)) : entVals (l ++ m) = entVals l ++ entVals m := by simp [entVals]
theorem entVals_length (l : List (Int × Int)) : (entVals l).length = l.length * 2 := by
  induction l with
  | nil => rfl
  | cons p l ih => rw [entVals_cons]; simp only [List.length_cons, ih]; omega
theorem entVals_x (l : List (Int × Int)) : ∀ (i : Nat) (h : i < l.length), (entVals l)[i * 2]? = some (.int .i64 l[i].1) := by
  induction l with
  | nil => intro i h; simp at h
  | cons p l ih =>
    intro i h
    cases i with
    | zero => rfl
    | succ i =>
      rw [entVals_cons, show (i + 1) * 2 = i * 2 + 1 + 1 by omega, List.getElem?_cons_succ, List.getElem?_cons_succ, ih i (by simpa using h)]
      rfl
theorem entVals_y (l : List (Int × Int)) : ∀ (i : Nat) (h : i < l.length), (entVals l)[i * 2 + 1]? = some (.int .i64 l[i].2) := by
  induction l with
  | nil => intro i h; simp at h
  | cons p l ih =>
    intro i h
    cases i with
    | zero => rfl
    | succ i =>
      rw [entVals_cons, show (i + 1) * 2 + 1 = (i * 2 + 1) + 1 + 1 by omega, List.getElem?_cons_succ, List.getElem?_cons_succ, ih i (by simpa using h)]
      rfl
theorem entVals_take (l : List (Int × Int)) (k : Nat) : (entVals l).take (k * 2) = entVals (l.take k) := by
  induction l generalizing k with
  | nil => simp [entVals]
  | cons p l ih =>
    cases k with
    | zero => simp [entVals]
    | succ k =>
      rw [entVals_cons, show (k + 1) * 2 = k * 2 + 1 + 1 by omega, List.take_succ_cons, List.take_succ_cons, ih k]
      rfl
theorem entVals_drop (l : List (Int × Int)) (k : Nat) : (entVals l).drop (k * 2) = entVals (l.drop k) := by
  induction l generalizing k with
  | nil => simp [entVals]
  | cons p l ih =>
    cases k with
    | zero => simp [entVals]
    | succ k =>
      rw [entVals_cons, show (k + 1) * 2 = k * 2 + 1 + 1 by omega, List.drop_succ_cons, List.drop_succ_cons, ih k]
      rfl
theorem ent_one (l : List (Int × Int)) : ∀ u ∈ entVals l, u.oneCell' = true := by
  intro u hu
  unfold entVals at hu
  simp only [List.mem_flatMap, List.mem_cons, List.not_mem_nil, or_false] at hu
  obtain ⟨p, _, rfl | rfl⟩ := hu <;> rfl
theorem one_ent (x y : Int) : ∀ u ∈ [Value.int .i64 x, Value.int .i64 y], u.oneCell' = true := by
  intro u hu
  simp only [List.mem_cons, List.not_mem_nil, or_false] at hu
  rcases hu with rfl | rfl <;> rfl
theorem entVals_snoc (l : List (Int × Int)) (x y : Int) : entVals (l ++ [(x, y)]) = entVals l ++ [.int .i64 x, .int .i64 y] := by rw [entVals_append]; rfl
theorem entVals_erase (l : List (Int × Int)) (i : Nat) : entVals (l.eraseIdx i) = (entVals l).take (i * 2) ++ (entVals l).drop ((i + 1) * 2) := by
  rw [entVals_take, entVals_drop, List.eraseIdx_eq_take_drop_succ, entVals_append]
theorem zero_ents (n : Nat) : (Builtin.zeroCells (Value.agg #[.int .i64 0, .int .i64 0]).cells n).toList.length = n * 2 := by simp [Builtin.zeroCells, Value.cells]
end Go.Proofs.Ytgbjndlaonalcaa
