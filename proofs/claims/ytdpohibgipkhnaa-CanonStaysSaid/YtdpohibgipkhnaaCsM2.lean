/-
  THE WALKS of octet's Tchar, Token, Value, Visible, and the reference's.
  ROWS OF STRUCTS: copy and clear at elements of several cells; the cells of a list of fields.
  THE WALKS of trailer.barred, trailer.Allowed and the document's Allowed.
  THE WALKS of Few, of the document's Same on fields, of slices.Equal and header.Same.
  THE SHELF's CONTRACT OF strings.Join AT THIS SEAT's TRANSLATION, in plain declarations (written by the kit's lay-plain.mjs).
  THE WALKS of lists.Join, header.Combined, the document's Join and Combined, slices.Equal and header.Same.
  THE WALKS of header.With and the law's own lives.
  THE WALKS of trailer.only, Keep, Merge, and of the document's Keep and Merge.
  THE WALKS of slices.Clone and slices.DeleteFunc at fields.
  THE WALK of slices.DeleteFunc at fields, in place.
  THE WALKS of header.Without, and of the document's Without and With.
-/
import Derived.Test.YtdpohibgipkhnaaCsM1
import Derived.Laws.CopyOwn
import Derived.Laws.CopyRow
import Derived.Laws.MakeOwn
import Derived.Laws.Cells
import Derived.Laws.Append
import Derived.Shelf.Strings.OnBuilder
import Derived.Test.YtdpohibgipkhnaaProg
import Derived.Maps.RangeWalk
namespace Go.Proofs.Ytdpohibgipkhnaa
open Go.RowKit Go.Proofs.Ytdpohibgipkhnaa.Oct

theorem token_any (s : ByteArray) (w : World) :
    Calls Try.prog 66 #[.string s] w fun e w' => e = .returned (.bool (tokenS s)) ∧ Below w.heap.size w w' := by
  by_cases h : 0 < s.size
  · have h1 := toList_some s h
    have e : tokenS s = allFrom tcharI s 0 := by unfold tokenS; simp [h]
    rw [e]; clear e h
    go_enter Try.func66, Try.ntmps66
    go_wp2_with (go_at_call 98; refine (all_tchar _ _).mono ?_; rintro e w' ⟨rfl, hb⟩)
    go_ret
    exact ⟨rfl, hb⟩
  · have h1 := toList_empty s (by omega)
    have e : tokenS s = false := by unfold tokenS; simp; omega
    rw [e]; clear e h
    go_enter Try.func66, Try.ntmps66
    go_wp2
    go_ret
    exact ⟨rfl, Below.refl _ _⟩

/-! ### the reference's -/
theorem marks_byte (j : Nat) (h : j < 15) : ∃ m : Int, marksL[j]? = some m ∧ ((((⟨#[33, 35, 36, 37, 38, 39, 42, 43, 45, 46, 94, 95, 96, 124, 126]⟩ : ByteArray)[j]'h).toNat : Nat) : Int) = m := by
  rcases (show j = 0 ∨ j = 1 ∨ j = 2 ∨ j = 3 ∨ j = 4 ∨ j = 5 ∨ j = 6 ∨ j = 7 ∨ j = 8 ∨ j = 9 ∨ j = 10 ∨ j = 11 ∨ j = 12 ∨ j = 13 ∨ j = 14 from by omega) with rfl | rfl | rfl | rfl | rfl | rfl | rfl | rfl | rfl | rfl | rfl | rfl | rfl | rfl | rfl <;> exact ⟨_, rfl, rfl⟩

set_option maxHeartbeats 400000 in
theorem rtchar_any (r : Int) (h0 : 0 ≤ r) (w : World) :
    Calls Try.prog 100 #[.int .u8 r] w fun e w' => e = .returned (.bool (tcharI r)) ∧ w = w' := by
  have e : tcharI r = (alnumI r || marksL.contains r) := rfl
  have HE := Lib.hid e
  clear e
  by_cases hal : alnumI r = true
  · have hr : (97 ≤ r ∧ r ≤ 122) ∨ (65 ≤ r ∧ r ≤ 90) ∨ (48 ≤ r ∧ r ≤ 57) := by unfold alnumI at hal; simp at hal; omega
    have HA := Lib.hid hal
    clear hal
    rcases hr with ⟨h1, h2⟩ | ⟨h1, h2⟩ | ⟨h1, h2⟩
    all_goals
      go_enter Try.func100, Try.ntmps100
      go_wp2
      go_ret
      exact ⟨ret_bool (by rw [HE.out, HA.out]; rfl), rfl⟩
  · have hr : (¬ (97 ≤ r) ∨ ¬ (r ≤ 122)) ∧ (¬ (65 ≤ r) ∨ ¬ (r ≤ 90)) ∧ (¬ (48 ≤ r) ∨ ¬ (r ≤ 57)) := by unfold alnumI at hal; simp at hal; omega
    have hal2 : alnumI r = false := by simpa using hal
    have HA := Lib.hid hal2
    have HR := Lib.hid hr
    clear hal hal2 hr
    have main : (r < 48 ∨ (57 < r ∧ r < 65) ∨ (90 < r ∧ r < 97) ∨ 122 < r) := by have := HR.out; omega
    rcases main with h1 | ⟨h1, h2⟩ | ⟨h1, h2⟩ | h1
    all_goals
      go_enter Try.func100, Try.ntmps100
      go_wp2
      go_loop [4] (fun i => ∃ pos : Nat, pos ≤ 15 ∧ i = .int .i64 pos ∧ Hid (∀ j m, j < pos → marksL[j]? = some m → m ≠ r)) (fun i => 15 - (intOf i).toNat)
      case atStart => exact ⟨0, by omega, rfl, fun j m h => absurd h (Nat.not_lt_zero _)⟩
      case round =>
        obtain ⟨pos, hpos, rfl, hall⟩ := hrel
        by_cases hlt : pos < 15
        · obtain ⟨m, hm, hb⟩ := marks_byte pos hlt
          have HM := Lib.hid hm
          clear hm
          cases hmr : (m == r)
          · go_wp2
            go_round
            case rel => exact ⟨pos + 1, by omega, by go_num, (fun j m' hj hm' => by
              by_cases hjp : j < pos
              · exact hall.out j m' hjp hm'
              · obtain rfl : j = pos := by omega
                obtain rfl := Option.some.inj (HM.out.symm.trans hm')
                simpa using hmr)⟩
            case measure => simp [intOf]; omega
          · go_wp2
            go_ret
            refine ⟨ret_bool ?_, rfl⟩
            obtain rfl : m = r := by simpa using hmr
            rw [HE.out, HA.out, Bool.false_or]
            exact (List.contains_iff_mem.2 (List.mem_of_getElem? HM.out)).symm
        · go_wp2
          go_ret
          refine ⟨ret_bool ?_, rfl⟩
          rw [HE.out, HA.out, Bool.false_or]
          refine (Bool.eq_false_iff.2 fun hc => ?_).symm
          obtain ⟨j, hj⟩ := List.mem_iff_getElem?.1 (List.contains_iff_mem.1 hc)
          have hjl := (List.getElem?_eq_some_iff.1 hj).1
          have : marksL.length = 15 := rfl
          exact hall.out j r (by omega) hj rfl

set_option maxHeartbeats 400000 in
theorem rtoken_any (s : ByteArray) (hs : s.size ≤ 9223372036854775807) (w : World) :
    Calls Try.prog 68 #[.string s] w fun e w' => e = .returned (.bool (tokenS s)) ∧ w = w' := by
  go_enter Try.func68, Try.ntmps68
  go_wp2
  go_loop [3] (fun i => ∃ k : Nat, k ≤ s.size ∧ i = .int .i64 k ∧ Hid (allFrom tcharI s 0 = allFrom tcharI s k)) (fun i => s.size - (intOf i).toNat)
  case atStart => exact ⟨0, Nat.zero_le _, rfl, rfl⟩
  case round =>
    obtain ⟨k, hk, rfl, hall⟩ := hrel
    by_cases hlt : k < s.size
    · have hc := allFrom_cons tcharI s k hlt
      cases hq : tcharI (s[k].toNat)
      · have hn : tokenS s = false := by unfold tokenS; rw [hall.out, hc, hq]; simp
        have HN := Lib.hid hn
        clear hn hc
        go_wp2_with (go_at_call 100; refine (rtchar_any _ (by omega) _).mono ?_; rintro e w' ⟨rfl, rfl⟩)
        go_ret
        exact ⟨ret_bool HN.out.symm, rfl⟩
      · have hy : allFrom tcharI s 0 = allFrom tcharI s (k + 1) := by rw [hall.out, hc, hq, Bool.true_and]
        have HY := Lib.hid hy
        clear hy hc
        go_wp2_with (go_at_call 100; refine (rtchar_any _ (by omega) _).mono ?_; rintro e w' ⟨rfl, rfl⟩)
        go_round
        case rel => exact ⟨k + 1, by omega, by go_num, HY⟩
        case measure => simp [intOf]; omega
    · have he : tokenS s = decide ((0 : Int) < (s.size : Int)) := by
        unfold tokenS; rw [hall.out, allFrom_end tcharI s k hlt, Bool.and_true]
        simp
      have HE := Lib.hid he
      clear he
      by_cases h0 : (0 : Int) < (s.size : Int)
      · go_wp2
        go_ret
        exact ⟨ret_bool (by rw [HE.out]; simp), rfl⟩
      · go_wp2
        go_ret
        exact ⟨ret_bool (by rw [HE.out]; simp), rfl⟩

theorem valI_cases (c : Int) : (c = 9 ∧ valI c = true) ∨ (c < 32 ∧ (c != 9) = true ∧ valI c = false) ∨ ((c == 127) = true ∧ 32 ≤ c ∧ (c != 9) = true ∧ valI c = false) ∨ (32 ≤ c ∧ (c != 9) = true ∧ (c == 127) = false ∧ valI c = true) := by
  unfold valI
  by_cases h1 : c = 9
  · left; subst h1; exact ⟨rfl, rfl⟩
  · by_cases h2 : c < 32
    · right; left; refine ⟨h2, by simpa using h1, ?_⟩; simp; omega
    · by_cases h3 : c = 127
      · right; right; left; subst h3; exact ⟨rfl, by omega, rfl, rfl⟩
      · right; right; right; refine ⟨by omega, by simpa using h1, by simpa using h3, ?_⟩; simp; omega

theorem visI_cases (c : Int) : (c < 33 ∧ visI c = false) ∨ (33 ≤ c ∧ 126 < c ∧ visI c = false) ∨ (33 ≤ c ∧ c ≤ 126 ∧ visI c = true) := by
  unfold visI
  by_cases h1 : c < 33
  · left; refine ⟨h1, ?_⟩; simp; omega
  · by_cases h2 : 126 < c
    · right; left; refine ⟨by omega, h2, ?_⟩; simp; omega
    · right; right; refine ⟨by omega, by omega, ?_⟩; simp; omega

end Go.Proofs.Ytdpohibgipkhnaa
namespace Go.Proofs.Ytdpohibgipkhnaa
open Go.RowKit

section
variable {P : Program} {w : World} {ops : Array Oper} {rest : List Oper} {o : Oper} {a : Act} {Q : Exit → Act → World → Prop}

/-- The first n elements of what is read. -/
theorem run_first_reads (B size n len cap : Nat) (A : Option Addr) (cs : List Value) (h : Reads w B size A len cs) (hn : n ≤ len) :
    (Builtin.firstCells size n (.slice A len cap)).run P w = .ok (cs.take (n * size)).toArray w := by
  cases A with
  | none =>
    have h0 : len = 0 := by
      rcases Nat.eq_zero_or_pos len with h0 | h0
      · exact h0
      · obtain ⟨ad, e, _⟩ := h.2 h0; cases e
    subst h0
    obtain rfl : n = 0 := by omega
    simp [Builtin.firstCells]
  | some ad =>
    refine run_firstCells_some w size n ad len cap _ ?_ ?_
    · rw [List.length_take, h.1]
      exact Nat.min_eq_left (Nat.mul_le_mul_right size hn)
    · intro j v hj
      rw [List.getElem?_take] at hj
      split at hj
      · rcases Nat.eq_zero_or_pos len with h0 | h0
        · have : cs = [] := List.eq_nil_of_length_eq_zero (by rw [h.1, h0]; simp)
          subst this
          simp at hj
        · obtain ⟨ad', e, _, hc⟩ := h.2 h0
          injection e with e
          subst e
          exact hc j v hj
      · cases hj

/-- 'copy(dst, src)', dst a row in a block that is known whole, from cell 'off' on; src whatever reads as cs: so many elements as both have. -/
theorem wpList_copy_rows (hgd : o.guard = none) (d s : Operand) (dT sT : TypeId) (ho : o.op = .call { callee := .builtin .copy, args := #[d, s], argTypes := #[dT, sT] }) (elem : TypeId) (size : Nat) (hu : P.underlying dT = some (.slice elem)) (hsz : (P.info? elem).map (·.size) = some size)
    (g off dLen dCap sLen sCap B : Nat) (A : Option Addr) (hd : a.eval d = .slice (some ⟨g, off, none⟩) dLen dCap) (hs : a.eval s = .slice A sLen sCap)
    (cur : List Value) (t : TypeId) (hg : Blk w g t cur.toArray) (cs : List Value) (hr : Reads w B size A sLen cs) (hle : sLen ≤ dLen) (hfit : off + cs.length ≤ cur.length) (h1 : ∀ v ∈ cs, v.oneCell' = true)
    (h : ∀ w', Blk w' g t (cur.take off ++ cs ++ cur.drop (off + cs.length)).toArray → (∀ k, k ≠ g → w'.heap[k]? = w.heap[k]?) → Below g w w' → w'.heap.size = w.heap.size → wpList P ops Q rest (a.put o.dst (goInt sLen)) w') : wpList P ops Q (o :: rest) a w := by
  refine wpList_plain hgd fun K hK => ?_
  have hf := run_first_reads (P := P) B size sLen sLen sCap A cs hr (Nat.le_refl _)
  rw [List.take_of_length_le (by rw [hr.1]; exact Nat.le_refl _)] at hf
  have hst := run_storeCells_at P g off t cs 0 cur.toArray w hg (by simpa using hfit) h1
  have hmin : Nat.min sLen dLen = sLen := Nat.min_eq_left hle
  cases hq : P.info? elem with
  | none => simp [hq] at hsz
  | some i =>
    have hi : i.size = size := by simpa [hq] using hsz
    have hrun : (Builtin.copy_ #[dT, sT] o.type #[.slice (some ⟨g, off, none⟩) dLen dCap, .slice A sLen sCap]).run P w = .ok (goInt sLen) (w.setRow g (cur.take off ++ cs ++ cur.drop (off + cs.length)).toArray) := by
      simp [Builtin.copy_, run_underlying hu, Builtin.lenOf, sizeOf, typeInfo, hq, hi, hmin, hf] at hst ⊢
      simp [hst]
    unfold Oper.wp
    simp [execOp, ho, resolve, invoke, builtin, hd, hs, hrun, Result.andThen]
    refine hK _ _ (h _ ?_ (fun k hk => setRow_other w g k _ (by omega)) (below_setRow (Below.refl _ _) (Nat.le_refl _) _) (by simp [World.setRow]))
    rw [List.append_assoc]
    exact setRow_heap w g _ _ t _ hg

/-- 'clear(s)', s a row in a block that is known whole, from cell 'off' on: its cells hold the element type's zero. -/
theorem wpList_clear_rows (hgd : o.guard = none) (s : Operand) (T : TypeId) (ho : o.op = .call { callee := .builtin .clear, args := #[s], argTypes := #[T] }) (elem : TypeId) (z : Value) (hu : P.underlying T = some (.slice elem)) (hz : ∀ w, (zeroValue elem).run P w = .ok z w)
    (g off n cap : Nat) (hs : a.eval s = .slice (some ⟨g, off, none⟩) n cap) (cur : List Value) (t : TypeId) (hg : Blk w g t cur.toArray) (hfit : off + n * z.cells.size ≤ cur.length) (h1 : ∀ v ∈ (Builtin.zeroCells z.cells n).toList, v.oneCell' = true)
    (h : ∀ w', Blk w' g t (cur.take off ++ (Builtin.zeroCells z.cells n).toList ++ cur.drop (off + n * z.cells.size)).toArray → (∀ k, k ≠ g → w'.heap[k]? = w.heap[k]?) → Below g w w' → w'.heap.size = w.heap.size → wpList P ops Q rest (a.put o.dst (.tuple #[])) w') : wpList P ops Q (o :: rest) a w := by
  refine wpList_plain hgd fun K hK => ?_
  have hzl : (Builtin.zeroCells z.cells n).toList.length = n * z.cells.size := by simp [Builtin.zeroCells]
  have hst := run_storeCells_at P g off t (Builtin.zeroCells z.cells n).toList 0 cur.toArray w hg (by rw [hzl]; simpa using hfit) h1
  rw [hzl] at hst
  have hrun : (Builtin.clear_ #[T] o.type #[.slice (some ⟨g, off, none⟩) n cap]).run P w = .ok (.tuple #[]) (w.setRow g (cur.take off ++ (Builtin.zeroCells z.cells n).toList ++ cur.drop (off + n * z.cells.size)).toArray) := by
    cases n with
    | zero =>
      have e : (cur.take off ++ (Builtin.zeroCells z.cells 0).toList ++ cur.drop (off + 0 * z.cells.size)) = cur := by simp [Builtin.zeroCells]
      rw [e, setRow_self w g cur.toArray t (0, 0) hg]
      simp [Builtin.clear_, run_underlying hu]
    | succ m =>
      simp [Builtin.clear_, run_underlying hu, hz] at hst ⊢
      simp [hst]
  unfold Oper.wp
  simp [execOp, ho, resolve, invoke, builtin, hs, hrun, Result.andThen]
  refine hK _ _ (h _ ?_ (fun k hk => setRow_other w g k _ (by omega)) (below_setRow (Below.refl _ _) (Nat.le_refl _) _) (by simp [World.setRow]))
  rw [List.append_assoc]
  exact setRow_heap w g _ _ t _ hg

/-- A whole array stored into a block of its size. -/
theorem wpList_store_all (hgd : o.guard = none) (ty : TypeId) (x y : Operand) (ho : o.op = .store ty x y) (g : Nat) (cells : Array Value) (t : TypeId) (old : Array Value) (hx : a.eval x = .pointer (some ⟨g, 0, none⟩)) (hy : a.eval y = .agg cells)
    (hg : Blk w g t old) (hsz : old.size = cells.size) (hi : (P.info? ty).map (·.size) = some cells.size) (h1 : ∀ v ∈ cells.toList, v.oneCell' = true)
    (h : ∀ w', Blk w' g t cells → (∀ k, k ≠ g → w'.heap[k]? = w.heap[k]?) → Below g w w' → w'.heap.size = w.heap.size → wpList P ops Q rest (a.put o.dst undef) w') : wpList P ops Q (o :: rest) a w := by
  refine wpList_plain hgd fun K hK => ?_
  have hst := run_storeCells_at P g 0 t cells.toList 0 old w hg (by simp [hsz]) h1
  have e : (old.toList.take (0 + 0) ++ cells.toList ++ old.toList.drop (0 + 0 + cells.toList.length)).toArray = cells := by
    have : old.toList.drop (0 + 0 + cells.toList.length) = [] := List.drop_eq_nil_of_le (by simp [hsz])
    rw [this]
    simp
  rw [e] at hst
  cases hq : P.info? ty with
  | none => simp [hq] at hi
  | some i =>
    have hs : cells.size = i.size := by simp [hq] at hi; omega
    have hrun : (storeVar ty ⟨g, 0, none⟩ (.agg cells)).run P w = .ok () (w.setRow g cells) := by
      simp [storeVar, sizeOf, typeInfo, hq, Value.cells, hs, hst]
    unfold Oper.wp execOp
    simp only [ho, hx, hy, Instr.storeAt, Instr.sureAddr, Sem.run_bind, Sem.run_pure, Result.andThen_ok, hrun]
    refine hK _ _ (h _ ?_ (fun k hk => setRow_other w g k _ (by omega)) (below_setRow (Below.refl _ _) (Nat.le_refl _) _) (by simp [World.setRow]))
    exact setRow_heap w g _ _ t _ hg

/-- An operation whose run is known whole. -/
theorem wpList_run_known (hgd : o.guard = none) (v : Value) (hrun : (execOp a.eval o).run P w = .ok (.value v) w) (h : wpList P ops Q rest (a.put o.dst v) w) : wpList P ops Q (o :: rest) a w := by
  refine wpList_plain hgd fun K hK => ?_
  unfold Oper.wp
  rw [hrun]
  exact hK _ _ h
theorem wpList_build_known (hgd : o.guard = none) (v : Value) (w1 : World) (hrun : (execOp a.eval o).run P w = .ok (.value v) w1) (h : wpList P ops Q rest (a.put o.dst v) w1) : wpList P ops Q (o :: rest) a w := by
  refine wpList_plain hgd fun K hK => ?_
  unfold Oper.wp
  rw [hrun]
  exact hK _ _ h
end

/-- 'out = append(out, x)', as wpList_append_new, with where the row lies now: where it lay, or in a new block. -/
theorem wpList_append_at {P : Program} {ops : Array Oper} {rest : List Oper} {o : Oper} {a : Act} {Q : Exit → Act → World → Prop} (hgd : o.guard = none) (s x : Operand) (t : TypeId)
    (ho : o.op = .call { callee := .builtin .append, args := #[s, x], argTypes := #[t, t] })
    (base : Nat) (e : TypeId) {i : TypeInfo} {z : Value} {size bytes : Nat} (ht : P.underlying t = some (.slice e)) (hi : Hid (P.info? e = some i)) (hz : Hid (i.zero = some z ∧ i.size = size ∧ i.bytes = bytes))
    (hzs : z.cells.size = size) (hsz : 0 < size) (wr : World) (cs : List Value)
    {v : Value} {n : Nat} {xs : List Value} (hown : wr.ownsRow base e size v n xs) (hs : a.eval s = v)
    (hx : a.eval x = .slice (some ⟨wr.heap.size, 0, none⟩) 1 1) (hl : cs.length = size) (h1 : ∀ u ∈ cs, u.oneCell' = true)
    (h63 : n + 1 ≤ maxLen) (hbytes : (n + 1) * bytes ≤ 140737488355328) (hbase : base ≤ wr.heap.size)
    (h : ∀ g' cap' w', w'.ownsRow base e size (.slice (some ⟨g', 0, none⟩) (n + 1) cap') (n + 1) (xs ++ cs) → wr.grownBy w' v.ownBlock → (v.ownBlock = some g' ∨ wr.heap.size ≤ g') → wpList P ops Q rest (a.put o.dst (.slice (some ⟨g', 0, none⟩) (n + 1) cap')) w') :
    wpList P ops Q (o :: rest) a (wr.alloc (.cells cs.toArray e)) := by
  have hr : Reads (wr.alloc (.cells cs.toArray e)) (wr.heap.size + 1) size (some ⟨wr.heap.size, 0, none⟩) 1 cs := by
    refine ⟨by rw [hl, Nat.one_mul], fun _ => ⟨_, rfl, Nat.lt_succ_self _, fun j u hj => ?_⟩⟩
    rw [add_head, World.cell?_alloc_new]
    simpa using hj
  refine wpList_append_any _ hgd s x t ho base e i z size bytes ht hi.out hz.out.1 hz.out.2.1 hz.out.2.2 hzs hsz v n xs hs (hown.alloc _) _ _ 1 1 cs hx hr h1 h63 hbytes (by simp; omega) ?_
  intro v' w' hown' hg hat
  have hg' : wr.grownBy w' v.ownBlock := (World.grownBy_alloc wr _ v.ownBlock).trans hg
  obtain ⟨g', cap', rfl, _, _⟩ := hown'.form (by omega)
  refine h g' cap' w' hown' hg' ?_
  rcases hat with h2 | h2
  · exact .inl h2.symm
  · simp [Value.ownBlock] at h2
    exact .inr (by omega)
/-! ### the cells of fields -/
def fldVals (l : List (ByteArray × ByteArray)) : List Value := l.flatMap fun p => [.string p.1, .string p.2]
theorem fldVals_cons (p : ByteArray × ByteArray) (l : List (ByteArray × ByteArray)) : fldVals (p :: l) = .string p.1 :: .string p.2 :: fldVals l := rfl
theorem fldVals_length (l : List (ByteArray × ByteArray)) : (fldVals l).length = l.length * 2 := by
  induction l with
  | nil => rfl
  | cons p l ih => rw [fldVals_cons]; simp only [List.length_cons, ih]; omega
theorem fldVals_append (l m : List (ByteArray × ByteArray)) : fldVals (l ++ m) = fldVals l ++ fldVals m := by simp [fldVals]
theorem fldVals_x (l : List (ByteArray × ByteArray)) : ∀ (i : Nat) (h : i < l.length), (fldVals l)[i * 2]? = some (.string l[i].1) := by
  induction l with
  | nil => intro i h; simp at h
  | cons p l ih =>
    intro i h
    cases i with
    | zero => rfl
    | succ i =>
      rw [fldVals_cons, show (i + 1) * 2 = i * 2 + 1 + 1 by omega, List.getElem?_cons_succ, List.getElem?_cons_succ, ih i (by simpa using h)]
      rfl
theorem fldVals_y (l : List (ByteArray × ByteArray)) : ∀ (i : Nat) (h : i < l.length), (fldVals l)[i * 2 + 1]? = some (.string l[i].2) := by
  induction l with
  | nil => intro i h; simp at h
  | cons p l ih =>
    intro i h
    cases i with
    | zero => rfl
    | succ i =>
      rw [fldVals_cons, show (i + 1) * 2 + 1 = (i * 2 + 1) + 1 + 1 by omega, List.getElem?_cons_succ, List.getElem?_cons_succ, ih i (by simpa using h)]
      rfl
theorem fldVals_set (x y : ByteArray) (l : List (ByteArray × ByteArray)) : ∀ i, i < l.length → ((fldVals l).set (i * 2) (.string x)).set (i * 2 + 1) (.string y) = fldVals (l.set i (x, y)) := by
  induction l with
  | nil => intro i h; simp at h
  | cons p l ih =>
    intro i h
    cases i with
    | zero => rfl
    | succ i =>
      rw [fldVals_cons, show (i + 1) * 2 = i * 2 + 1 + 1 by omega, List.set_cons_succ, List.set_cons_succ, List.set_cons_succ, List.set_cons_succ, ih i (by simpa using h)]
      rfl
theorem fldVals_take (l : List (ByteArray × ByteArray)) (k : Nat) : (fldVals l).take (k * 2) = fldVals (l.take k) := by
  induction l generalizing k with
  | nil => simp [fldVals]
  | cons p l ih =>
    cases k with
    | zero => simp [fldVals]
    | succ k =>
      rw [fldVals_cons, show (k + 1) * 2 = k * 2 + 1 + 1 by omega, List.take_succ_cons, List.take_succ_cons, ih k]
      rfl
theorem fldVals_drop (l : List (ByteArray × ByteArray)) (k : Nat) : (fldVals l).drop (k * 2) = fldVals (l.drop k) := by
  induction l generalizing k with
  | nil => simp [fldVals]
  | cons p l ih =>
    cases k with
    | zero => simp [fldVals]
    | succ k =>
      rw [fldVals_cons, show (k + 1) * 2 = k * 2 + 1 + 1 by omega, List.drop_succ_cons, List.drop_succ_cons, ih k]
      rfl
theorem fld_one (l : List (ByteArray × ByteArray)) : ∀ u ∈ fldVals l, u.oneCell' = true := by
  intro u hu
  unfold fldVals at hu
  simp only [List.mem_flatMap, List.mem_cons, List.not_mem_nil, or_false] at hu
  obtain ⟨p, _, rfl | rfl⟩ := hu <;> rfl
/-- n empty fields. -/
def noFlds (n : Nat) : List (ByteArray × ByteArray) := List.replicate n (⟨#[]⟩, ⟨#[]⟩)
theorem noFlds_vals (n : Nat) : fldVals (noFlds n) = List.replicate (n * 2) (.string ⟨#[]⟩) := by
  induction n with
  | zero => rfl
  | succ n ih =>
    unfold noFlds at ih ⊢
    rw [List.replicate_succ, fldVals_cons, ih, show (n + 1) * 2 = n * 2 + 1 + 1 by omega, List.replicate_succ, List.replicate_succ]
theorem made_flds (n : Nat) : madeCells (Value.agg #[.string ⟨#[]⟩, .string ⟨#[]⟩]).cells (n * 2) = (fldVals (noFlds n)).toArray := by
  rw [noFlds_vals]
  apply Array.ext
  · rw [size_madeCells]; simp
  · intro i h1 h2
    rw [size_madeCells] at h1
    rcases Nat.mod_two_eq_zero_or_one i with hm | hm <;> simp [madeCells, Value.cells, hm]
theorem zero_flds (n : Nat) : (Builtin.zeroCells (Value.agg #[.string ⟨#[]⟩, .string ⟨#[]⟩]).cells n).toList = fldVals (noFlds n) := by
  rw [noFlds_vals]
  apply List.ext_getElem
  · simp [Builtin.zeroCells, Value.cells]
  · intro i h1 h2
    rcases Nat.mod_two_eq_zero_or_one i with hm | hm <;> simp [Builtin.zeroCells, Value.cells, hm]
end Go.Proofs.Ytdpohibgipkhnaa
namespace Go.Proofs.Ytdpohibgipkhnaa
open Go.RowKit Go.Sort Go.Proofs.Ytdpohibgipkhnaa.Oct

/-- The names that may not be. -/
def barN : List ByteArray := [⟨#[65, 103, 101]⟩, ⟨#[65, 117, 116, 104, 111, 114, 105, 122, 97, 116, 105, 111, 110]⟩, ⟨#[67, 97, 99, 104, 101, 45, 67, 111, 110, 116, 114, 111, 108]⟩, ⟨#[67, 111, 110, 110, 101, 99, 116, 105, 111, 110]⟩, ⟨#[67, 111, 110, 116, 101, 110, 116, 45, 69, 110, 99, 111, 100, 105, 110, 103]⟩, ⟨#[67, 111, 110, 116, 101, 110, 116, 45, 76, 101, 110, 103, 116, 104]⟩, ⟨#[67, 111, 110, 116, 101, 110, 116, 45, 82, 97, 110, 103, 101]⟩, ⟨#[67, 111, 110, 116, 101, 110, 116, 45, 84, 121, 112, 101]⟩, ⟨#[67, 111, 111, 107, 105, 101]⟩, ⟨#[68, 97, 116, 101]⟩, ⟨#[69, 120, 112, 101, 99, 116]⟩, ⟨#[69, 120, 112, 105, 114, 101, 115]⟩, ⟨#[72, 111, 115, 116]⟩, ⟨#[73, 102, 45, 77, 97, 116, 99, 104]⟩, ⟨#[73, 102, 45, 77, 111, 100, 105, 102, 105, 101, 100, 45, 83, 105, 110, 99, 101]⟩, ⟨#[73, 102, 45, 78, 111, 110, 101, 45, 77, 97, 116, 99, 104]⟩, ⟨#[73, 102, 45, 82, 97, 110, 103, 101]⟩, ⟨#[73, 102, 45, 85, 110, 109, 111, 100, 105, 102, 105, 101, 100, 45, 83, 105, 110, 99, 101]⟩, ⟨#[75, 101, 101, 112, 45, 65, 108, 105, 118, 101]⟩, ⟨#[76, 111, 99, 97, 116, 105, 111, 110]⟩, ⟨#[77, 97, 120, 45, 70, 111, 114, 119, 97, 114, 100, 115]⟩, ⟨#[80, 114, 97, 103, 109, 97]⟩, ⟨#[80, 114, 111, 120, 121, 45, 65, 117, 116, 104, 101, 110, 116, 105, 99, 97, 116, 101]⟩, ⟨#[80, 114, 111, 120, 121, 45, 65, 117, 116, 104, 111, 114, 105, 122, 97, 116, 105, 111, 110]⟩, ⟨#[80, 114, 111, 120, 121, 45, 67, 111, 110, 110, 101, 99, 116, 105, 111, 110]⟩, ⟨#[82, 97, 110, 103, 101]⟩, ⟨#[82, 101, 116, 114, 121, 45, 65, 102, 116, 101, 114]⟩, ⟨#[83, 101, 116, 45, 67, 111, 111, 107, 105, 101]⟩, ⟨#[84, 69]⟩, ⟨#[84, 114, 97, 105, 108, 101, 114]⟩, ⟨#[84, 114, 97, 110, 115, 102, 101, 114, 45, 69, 110, 99, 111, 100, 105, 110, 103]⟩, ⟨#[85, 112, 103, 114, 97, 100, 101]⟩, ⟨#[86, 97, 114, 121]⟩, ⟨#[86, 105, 97]⟩, ⟨#[87, 87, 87, 45, 65, 117, 116, 104, 101, 110, 116, 105, 99, 97, 116, 101]⟩]
def barLow : List ByteArray := [⟨#[97, 103, 101]⟩, ⟨#[97, 117, 116, 104, 111, 114, 105, 122, 97, 116, 105, 111, 110]⟩, ⟨#[99, 97, 99, 104, 101, 45, 99, 111, 110, 116, 114, 111, 108]⟩, ⟨#[99, 111, 110, 110, 101, 99, 116, 105, 111, 110]⟩, ⟨#[99, 111, 110, 116, 101, 110, 116, 45, 101, 110, 99, 111, 100, 105, 110, 103]⟩, ⟨#[99, 111, 110, 116, 101, 110, 116, 45, 108, 101, 110, 103, 116, 104]⟩, ⟨#[99, 111, 110, 116, 101, 110, 116, 45, 114, 97, 110, 103, 101]⟩, ⟨#[99, 111, 110, 116, 101, 110, 116, 45, 116, 121, 112, 101]⟩, ⟨#[99, 111, 111, 107, 105, 101]⟩, ⟨#[100, 97, 116, 101]⟩, ⟨#[101, 120, 112, 101, 99, 116]⟩, ⟨#[101, 120, 112, 105, 114, 101, 115]⟩, ⟨#[104, 111, 115, 116]⟩, ⟨#[105, 102, 45, 109, 97, 116, 99, 104]⟩, ⟨#[105, 102, 45, 109, 111, 100, 105, 102, 105, 101, 100, 45, 115, 105, 110, 99, 101]⟩, ⟨#[105, 102, 45, 110, 111, 110, 101, 45, 109, 97, 116, 99, 104]⟩, ⟨#[105, 102, 45, 114, 97, 110, 103, 101]⟩, ⟨#[105, 102, 45, 117, 110, 109, 111, 100, 105, 102, 105, 101, 100, 45, 115, 105, 110, 99, 101]⟩, ⟨#[107, 101, 101, 112, 45, 97, 108, 105, 118, 101]⟩, ⟨#[108, 111, 99, 97, 116, 105, 111, 110]⟩, ⟨#[109, 97, 120, 45, 102, 111, 114, 119, 97, 114, 100, 115]⟩, ⟨#[112, 114, 97, 103, 109, 97]⟩, ⟨#[112, 114, 111, 120, 121, 45, 97, 117, 116, 104, 101, 110, 116, 105, 99, 97, 116, 101]⟩, ⟨#[112, 114, 111, 120, 121, 45, 97, 117, 116, 104, 111, 114, 105, 122, 97, 116, 105, 111, 110]⟩, ⟨#[112, 114, 111, 120, 121, 45, 99, 111, 110, 110, 101, 99, 116, 105, 111, 110]⟩, ⟨#[114, 97, 110, 103, 101]⟩, ⟨#[114, 101, 116, 114, 121, 45, 97, 102, 116, 101, 114]⟩, ⟨#[115, 101, 116, 45, 99, 111, 111, 107, 105, 101]⟩, ⟨#[116, 101]⟩, ⟨#[116, 114, 97, 105, 108, 101, 114]⟩, ⟨#[116, 114, 97, 110, 115, 102, 101, 114, 45, 101, 110, 99, 111, 100, 105, 110, 103]⟩, ⟨#[117, 112, 103, 114, 97, 100, 101]⟩, ⟨#[118, 97, 114, 121]⟩, ⟨#[118, 105, 97]⟩, ⟨#[119, 119, 119, 45, 97, 117, 116, 104, 101, 110, 116, 105, 99, 97, 116, 101]⟩]
theorem barLow_is : barN.map lowS = barLow := by decide +kernel
theorem barN_len : barN.length = 35 := rfl
/-- May a name be a trailer's? -/
def allowS (s : ByteArray) : Bool := !(barN.any fun b => foldS b s) && tokenS s

def barA : Array Value := (barN.map Value.string).toArray
def zeroA : Array Value := (List.replicate 35 (Value.string ⟨#[]⟩)).toArray
theorem info35 : (Try.prog.info? 80).map (·.size) = some barA.size := by kernel_rfl
theorem barA_one : ∀ v ∈ barA.toList, v.oneCell' = true := by
  intro v hv
  unfold barA at hv
  rw [List.toList_toArray] at hv
  obtain ⟨s, _, rfl⟩ := List.mem_map.1 hv
  rfl
set_option maxRecDepth 100000 in
set_option maxHeartbeats 1600000 in
theorem barred_any (w : World) : Calls Try.prog 65 #[] w fun e w' => e = .returned (.agg barA) ∧ Below w.heap.size w w' := by
  go_enter Try.func65, Try.ntmps65
  go_wp2_with (first
    | (refine wpList_run_known (o := ⟨some 1, _, _, _, _, _⟩) rfl (.agg barA) (by kernel_rfl) ?_)
    | (refine wpList_store_all (o := ⟨none, _, _, _, _, _⟩) rfl 80 (.tmp 0) (.tmp 1) rfl w.heap.size barA 80 _ rfl rfl (Blk.new w _ _) rfl info35 barA_one ?_; intro w1 hb1 hk1 hbl1 hz1; have HB := Lib.hid hb1; have HBl := Lib.hid hbl1; clear hb1 hk1 hbl1 hz1))
  refine bodyPost_ret (results_cell_row rfl _ _ w.heap.size _ barA (0, 0) _ rfl HB.out Try.underlying80 rfl info35) rfl ?_
  exact ⟨rfl, (below_new _ _).trans HBl.out⟩

theorem barA_at (k : Nat) (h : k < barN.length) : barA[k]? = some (.string barN[k]) := by
  unfold barA
  rw [List.getElem?_toArray, List.getElem?_map, List.getElem?_eq_getElem h]
  rfl
theorem barN_small : ∀ b ∈ barN, b.size ≤ 9223372036854775807 := by decide +kernel

set_option maxRecDepth 100000 in
set_option maxHeartbeats 3200000 in
theorem allowed_any (s : ByteArray) (w : World) (hs : s.size ≤ 9223372036854775807) :
    Calls Try.prog 16 #[.string s] w fun e w' => e = .returned (.bool (allowS s)) ∧ Below w.heap.size w w' := by
  have HAl : Hid (allowS s = (!(barN.any fun b => foldS b s) && tokenS s)) := rfl
  go_enter Try.func16, Try.ntmps16
  go_wp2_with fail
  refine (barred_any _).mono ?_
  rintro e w1 ⟨rfl, hb1⟩
  have B1 := Lib.hid hb1
  clear hb1
  go_wp2_with (refine wpList_store_all (o := ⟨none, _, _, _, _, _⟩) rfl 80 (.tmp 3) (.tmp 5) rfl w1.heap.size barA 80 _ rfl rfl (Blk.new w1 _ _) rfl info35 barA_one ?_; intro w2 hb2 hk2 hbl2 hz2; have HK := Lib.hid hb2; have B2 := Lib.hid (grow_trans B1.out ((below_new _ _).trans hbl2)); have z2 : w1.heap.size < w2.heap.size := (hb2.lt); clear hb2 hk2 hbl2 hz2)
  go_loopw [4, 6] (fun _ s6 wr => ∃ k : Nat, k ≤ 35 ∧ s6 = .int .i64 k ∧ Hid (∀ j (hj : j < barN.length), j < k → foldS barN[j] s = false) ∧ Hid (Below w2.heap.size w2 wr)) (fun _ s6 _ => 35 - (intOf s6).toNat)
  case atStart => exact ⟨0, by omega, rfl, fun j _ hj => absurd hj (Nat.not_lt_zero _), Below.refl _ _⟩
  case round =>
    obtain ⟨k, hk, rfl, hall, hb⟩ := hrel
    by_cases hkl : k < 35
    · have hkb : k < barN.length := hkl
      have hcell : wr.cell? ⟨w1.heap.size, k, none⟩ = some (.string barN[k]) := (hb.out.cell (p := ⟨w1.heap.size, k, none⟩) z2).trans ((HK.out.cell k).trans (barA_at k hkb))
      have hbs := barN_small _ (List.getElem_mem hkb)
      obtain ⟨bn, hbn⟩ : ∃ bn, bn = barN[k] := ⟨_, rfl⟩
      rw [← hbn] at hcell hbs
      have HN := Lib.hid hbn
      clear hbn
      cases hf : foldS bn s
      · have HF := Lib.hid hf
        clear hf
        go_wp2_with fail
        refine (fold_any bn s _ hbs hs).mono ?_
        rintro e w3 ⟨rfl, hd⟩
        rw [HF.out]
        have HB := Lib.hid (hb.out.trans (hd.below _))
        clear hd
        go_wp2
        go_roundw
        case rel => exact ⟨k + 1, by omega, by go_num, (fun j hj hjk => by
          by_cases e : j = k
          · subst e; rw [← HN.out]; exact HF.out
          · exact hall.out j hj (by omega)), HB.out⟩
        case measure => simp [intOf]; omega
      · have hno : allowS s = false := by
          have : barN.any (fun b => foldS b s) = true := List.any_eq_true.2 ⟨bn, by rw [HN.out]; exact List.getElem_mem hkb, hf⟩
          rw [HAl.out, this]; rfl
        have HNo := Lib.hid hno
        have HF := Lib.hid hf
        clear hf hno
        go_wp2_with fail
        refine (fold_any bn s _ hbs hs).mono ?_
        rintro e w3 ⟨rfl, hd⟩
        rw [HF.out]
        have HB := Lib.hid (hb.out.trans (hd.below _))
        clear hd
        go_wp2
        go_ret
        exact ⟨ret_bool HNo.out.symm, grow_trans B2.out HB.out⟩
    · obtain rfl : k = 35 := by omega
      have hyes : allowS s = tokenS s := by
        have : barN.any (fun b => foldS b s) = false := by
          rw [Bool.eq_false_iff]
          intro h
          obtain ⟨b, hb2, hf⟩ := List.any_eq_true.1 h
          obtain ⟨j, hj, rfl⟩ := List.mem_iff_getElem.1 hb2
          rw [hall.out j hj hj] at hf
          cases hf
        rw [HAl.out, this]; rfl
      have HY := Lib.hid hyes
      clear hyes
      go_wp2_with fail
      refine (token_any s _).mono ?_
      rintro e w3 ⟨rfl, hd⟩
      have HB := Lib.hid (grow_trans B2.out (grow_trans hb.out hd))
      clear hd
      go_wp2
      go_ret
      exact ⟨ret_bool HY.out.symm, HB.out⟩

/-! ### the document's -/
def lowA : Array Value := (barLow.map Value.string).toArray
theorem lowA_at (k : Nat) (h : k < barN.length) : lowA[k]? = some (.string (lowS barN[k])) := by
  unfold lowA
  rw [← barLow_is, List.getElem?_toArray, List.getElem?_map, List.getElem?_map, List.getElem?_eq_getElem h]
  rfl

set_option maxRecDepth 100000 in
set_option maxHeartbeats 3200000 in
theorem rallowed_any (s : ByteArray) (w : World) (hs : s.size ≤ 140737488355328) :
    Calls Try.prog 17 #[.string s] w fun e w' => e = .returned (.bool (allowS s)) ∧ Below w.heap.size w w' := by
  have HAl : Hid (allowS s = (!(barN.any fun b => foldS b s) && tokenS s)) := rfl
  have hs2 : s.size ≤ 9223372036854775807 := by omega
  go_enter Try.func17, Try.ntmps17
  go_wp2_with (refine wpList_build_known (o := ⟨some 5, _, _, _, _, _⟩) rfl (.slice (some ⟨w.heap.size, 0, none⟩) 35 35) (w.alloc (.cells lowA 9)) (by kernel_rfl) ?_)
  obtain ⟨w2, hw2⟩ : ∃ w2, w2 = w.alloc (.cells lowA 9) := ⟨_, rfl⟩
  rw [← hw2]
  have HK : Hid (Blk w2 w.heap.size 9 lowA) := by rw [hw2]; exact Blk.new _ _ _
  have B2 : Hid (Below w.heap.size w w2) := by rw [hw2]; exact below_new _ _
  have z2 : w.heap.size < w2.heap.size := HK.out.lt
  clear hw2
  go_loopw [4] (fun s4 wr => ∃ k : Nat, k ≤ 35 ∧ s4 = .int .i64 k ∧ Hid (∀ j (hj : j < barN.length), j < k → foldS barN[j] s = false) ∧ Hid (Below w2.heap.size w2 wr)) (fun s4 _ => 35 - (intOf s4).toNat)
  case atStart => exact ⟨0, by omega, rfl, fun j _ hj => absurd hj (Nat.not_lt_zero _), Below.refl _ _⟩
  case round =>
    obtain ⟨k, hk, rfl, hall, hb⟩ := hrel
    by_cases hkl : k < 35
    · have hkb : k < barN.length := hkl
      have hcell : wr.cell? ⟨w.heap.size, k, none⟩ = some (.string (lowS barN[k])) := (hb.out.cell (p := ⟨w.heap.size, k, none⟩) z2).trans ((HK.out.cell k).trans (lowA_at k hkb))
      have hle := low_eq barN[k] s
      obtain ⟨bn, hbn⟩ : ∃ bn, bn = barN[k] := ⟨_, rfl⟩
      rw [← hbn] at hcell hle
      have HN := Lib.hid hbn
      have qc := cell_regrown hcell
      have cL : ∀ d os, Calls Try.prog 67 #[.string s] (grow (redrawn wr d) os) fun e w'' => e = .returned (.string (lowS s)) ∧ ∃ p : Regrown, w'' = grow (redrawn wr p.d) p.os := fun d os => Calls.regrown_of (rlower_any s _ hs)
      clear hbn hcell
      cases hf : foldS bn s
      · rw [hf] at hle
        have HF := Lib.hid hf
        clear hf
        go_wp2_with fail
        refine wp_region_quiet_below (by kernel_rfl) (by kernel_rfl) ?_
        repeat (quiet_step (exact cL _ _))
        refine wpQuiet_nil ?_
        intro _ hw'
        obtain ⟨⟨dq, osq⟩, hw''⟩ := hw'
        subst hw''
        have HB := Lib.hid (hb.out.trans ((below_regrown wr dq osq).mono hb.out.size))
        clear qc cL
        go_wp2
        go_roundw
        case rel => exact ⟨k + 1, by omega, by go_num, (fun j hj hjk => by
          by_cases e : j = k
          · subst e; rw [← HN.out]; exact HF.out
          · exact hall.out j hj (by omega)), HB.out⟩
        case measure => simp [intOf]; omega
      · have hno : allowS s = false := by
          have : barN.any (fun b => foldS b s) = true := List.any_eq_true.2 ⟨bn, by rw [HN.out]; exact List.getElem_mem hkb, hf⟩
          rw [HAl.out, this]; rfl
        rw [hf] at hle
        have HNo := Lib.hid hno
        clear hf hno
        go_wp2_with fail
        refine wp_region_quiet_below (by kernel_rfl) (by kernel_rfl) ?_
        repeat (quiet_step (exact cL _ _))
        refine wpQuiet_nil ?_
        intro _ hw'
        obtain ⟨⟨dq, osq⟩, hw''⟩ := hw'
        subst hw''
        have HB := Lib.hid (hb.out.trans ((below_regrown wr dq osq).mono hb.out.size))
        clear qc cL
        go_wp2
        go_ret
        exact ⟨ret_bool HNo.out.symm, grow_trans B2.out HB.out⟩
    · obtain rfl : k = 35 := by omega
      have hyes : allowS s = tokenS s := by
        have : barN.any (fun b => foldS b s) = false := by
          rw [Bool.eq_false_iff]
          intro h
          obtain ⟨b, hb2, hf⟩ := List.any_eq_true.1 h
          obtain ⟨j, hj, rfl⟩ := List.mem_iff_getElem.1 hb2
          rw [hall.out j hj hj] at hf
          cases hf
        rw [HAl.out, this]; rfl
      have HY := Lib.hid hyes
      clear hyes
      go_wp2_with fail
      refine (rtoken_any s hs2 _).mono ?_
      rintro e w3 ⟨rfl, rfl⟩
      go_wp2
      go_ret
      exact ⟨ret_bool HY.out.symm, grow_trans B2.out hb.out⟩
end Go.Proofs.Ytdpohibgipkhnaa
namespace Go.Proofs.Ytdpohibgipkhnaa
open Go.RowKit Go.Proofs.Ytdpohibgipkhnaa.Oct

/-- Are there so few fields, and are they so short? -/
def fewB (l : Flds) : Bool := decide (l.length ≤ 40 ∧ ∀ p ∈ l, p.1.size ≤ 100 ∧ p.2.size ≤ 300)
theorem fewB_of {l : Flds} (h : fewB l = true) : l.length ≤ 40 ∧ ∀ p ∈ l, p.1.size ≤ 100 ∧ p.2.size ≤ 300 := of_decide_eq_true h

set_option maxRecDepth 100000 in
set_option maxHeartbeats 1600000 in
theorem few_any (w : World) (x : Option Addr) (n c : Nat) (l : Flds) (h : FldsAt w x n l) :
    Calls Try.prog 14 #[.slice x n c] w fun e w' => e = .returned (.bool (fewB l)) ∧ Below w.heap.size w w' := by
  have hl := h.len
  subst hl
  have hbig := h.big
  have HA := Lib.hid h
  clear h
  by_cases hn : (40 : Int) < (l.length : Int)
  · have hf : fewB l = false := decide_eq_false (fun h => by omega)
    have HF := Lib.hid hf
    clear hf
    go_enter Try.func14, Try.ntmps14
    go_wp2
    go_ret
    exact ⟨ret_bool HF.out.symm, Below.refl _ _⟩
  · go_enter Try.func14, Try.ntmps14
    go_wp2
    go_loopg [4, 10, 11, 12, 13, 14, 15, 16, 17, 18, 19, 20, 21, 22, 23, 24] l.length (fun gg s4 s10 s11 s12 s13 s14 s15 s16 s17 s18 s19 s20 s21 s22 s23 s24 wr => ∃ k : Nat, k ≤ l.length ∧ l.length - k ≤ gg ∧ s10 = .int .i64 k ∧ Hid (Below w.heap.size w wr) ∧ Hid (∀ j (hj : j < l.length), j < k → l[j].1.size ≤ 100 ∧ l[j].2.size ≤ 300))
    case atStart => exact ⟨0, Nat.zero_le _, by omega, rfl, Below.refl _ w, fun j _ hj => absurd hj (Nat.not_lt_zero _)⟩
    case round =>
      obtain ⟨k, hk, hg, rfl, hb, hall⟩ := hrel
      by_cases hkl : k < l.length
      · obtain ⟨b, o, f, rfl, hl2, hf, hc1, hc2, hs1, hs2⟩ := (HA.out.below hb.out).get k hkl
        have HS := Lib.hid hf
        obtain ⟨f1, f2⟩ := f
        simp only at hc1 hc2 hs1 hs2
        clear hf
        by_cases h1 : (100 : Int) < (f1.size : Int)
        · have hf : fewB l = false := decide_eq_false (fun h => by
            have := (h.2 _ (List.getElem_mem hl2)).1
            rw [← HS.out] at this
            simp only at this
            omega)
          have HF := Lib.hid hf
          clear hf
          go_wp2
          go_ret
          exact ⟨ret_bool HF.out.symm, hb.out.trans ((below_new _ _).mono hb.out.size)⟩
        · by_cases h2 : (300 : Int) < (f2.size : Int)
          · have hf : fewB l = false := decide_eq_false (fun h => by
              have := (h.2 _ (List.getElem_mem hl2)).2
              rw [← HS.out] at this
              simp only at this
              omega)
            have HF := Lib.hid hf
            clear hf
            go_wp2
            go_ret
            exact ⟨ret_bool HF.out.symm, hb.out.trans ((below_new _ _).mono hb.out.size)⟩
          · go_wp2
            go_roundg (l.length - (k + 1))
            case measure => omega
            case rel =>
              refine ⟨k + 1, by omega, by omega, by go_num, hb.out.trans ((below_new _ _).mono hb.out.size), fun j hj hjk => ?_⟩
              by_cases e : j = k
              · subst e; rw [← HS.out]; exact ⟨by show f1.size ≤ 100; omega, by show f2.size ≤ 300; omega⟩
              · exact hall.out j hj (by omega)
      · obtain rfl : k = l.length := by omega
        have hf : fewB l = true := decide_eq_true ⟨by omega, fun p hp => by
          obtain ⟨j, hj, rfl⟩ := List.mem_iff_getElem.1 hp
          exact hall.out j hj hj⟩
        have HF := Lib.hid hf
        clear hf
        go_wp2
        go_ret
        exact ⟨ret_bool HF.out.symm, hb.out⟩

theorem toList_ne {a b : ByteArray} (h : a ≠ b) : (a.toList == b.toList) = false := by
  simpa using fun h2 => h (toList_inj h2)
/-- Two fields that differ. -/
theorem fld_ne {a b c d : ByteArray} (h : (a, b) ≠ (c, d)) : (a.toList == c.toList) = false ∨ (a = c ∧ (b.toList == d.toList) = false) := by
  by_cases e : a = c
  · subst e
    exact .inr ⟨rfl, toList_ne (fun e2 => h (by rw [e2]))⟩
  · exact .inl (toList_ne e)

set_option maxRecDepth 100000 in
set_option maxHeartbeats 1600000 in
theorem rsamef_any (x y : Option Addr) (la ca lb cb : Nat) (A B : Flds) (w : World) (ha : FldsAt w x la A) (hb : FldsAt w y lb B) :
    Calls Try.prog 18 #[.slice x la ca, .slice y lb cb] w fun e w' => e = .returned (.bool (decide (A = B))) ∧ Drawn w w' := by
  have al := ha.len
  have bl := hb.len
  have alm := ha.big
  have blm := hb.big
  by_cases hll : la = lb
  · subst hll
    have h1 : ((la : Int) != (la : Int)) = false := by simp
    have AL := Lib.hid al
    have BL := Lib.hid bl
    have AX := Lib.hid ha
    have BX := Lib.hid hb
    clear al bl ha hb
    go_enter Try.func18, Try.ntmps18
    go_wp2
    go_loopw [5] (fun i wr => ∃ k : Nat, k ≤ la ∧ i = .int .i64 k ∧ Hid (∀ j (h : j < A.length) (h' : j < B.length), j < k → A[j] = B[j]) ∧ Drawn w wr) (fun i _ => la - (intOf i).toNat)
    case atStart => exact ⟨0, Nat.zero_le _, rfl, fun j _ _ h => absurd h (Nat.not_lt_zero _), Drawn.refl _⟩
    case round =>
      obtain ⟨k, hk, rfl, hall, hwr⟩ := hrel
      by_cases hlt : k < la
      · obtain ⟨b, o, f, rfl, hl2, hf, hc1, hc2, hs1, hs2⟩ := (AX.out.below hwr.grow).get k hlt
        obtain ⟨b', o', g, rfl, hl3, hg, hd1, hd2, hs3, hs4⟩ := (BX.out.below hwr.grow).get k hlt
        have HS := Lib.hid hf
        have HT := Lib.hid hg
        obtain ⟨f1, f2⟩ := f
        obtain ⟨g1, g2⟩ := g
        simp only at hc1 hc2 hs1 hs2 hd1 hd2 hs3 hs4
        clear hf hg
        by_cases hst : (f1, f2) = (g1, g2)
        · obtain ⟨rfl, rfl⟩ := Prod.mk.inj hst
          clear hst
          go_wp2
          go_quiet (fail)
          go_wp2
          go_roundw
          case rel => exact ⟨k + 1, by omega, by go_num, (fun j h h' hj => by
            by_cases hjk : j < k
            · exact hall.out j h h' hjk
            · obtain rfl : j = k := by omega
              exact HS.out.symm.trans HT.out), hwr.drewN _⟩
          case measure => simp [intOf]; omega
        · have hd : decide (A = B) = false := by
            apply decide_eq_false
            intro h
            apply hst
            rw [HS.out, HT.out]
            simp only [h]
          have HD := Lib.hid hd
          clear hd
          rcases fld_ne hst with hne | ⟨rfl, hne⟩
          all_goals
            clear hst
            go_wp2
            go_quiet (fail)
            go_wp2
            go_ret
            exact ⟨ret_bool HD.out.symm, hwr.drewN _⟩
      · have hd : decide (A = B) = true := by
          apply decide_eq_true
          apply List.ext_getElem
          · rw [AL.out, BL.out]
          · intro j h h'
            exact hall.out j h h' (by rw [AL.out] at h; omega)
        have HD := Lib.hid hd
        clear hd
        go_wp2
        go_ret
        exact ⟨ret_bool HD.out.symm, hwr⟩
  · have h1 : ((la : Int) != (lb : Int)) = true := by simp; omega
    have hd : decide (A = B) = false := by
      apply decide_eq_false
      intro h
      apply hll
      rw [← al, ← bl, h]
    have HD := Lib.hid hd
    clear hd hll al bl ha hb
    go_enter Try.func18, Try.ntmps18
    go_wp2
    go_ret
    exact ⟨ret_bool HD.out.symm, Drawn.refl _⟩
end Go.Proofs.Ytdpohibgipkhnaa
namespace Go.Proofs.Ytdpohibgipkhnaa
open Go.Shelf
def Try.lays156_ren : Go.Shelf.Ren := ⟨fun | 156 => 103 | 165 => 118 | 166 => 119 | 169 => 120 | 240 => 131 | 241 => 132 | 276 => 152 | 277 => 153 | n => n, fun | 31 => 35 | 9 => 9 | 3 => 3 | 4 => 4 | 0 => 0 | 20 => 20 | 72 => 129 | 76 => 133 | 70 => 127 | 37 => 90 | 75 => 132 | 127 => 148 | 164 => 165 | 5 => 5 | 80 => 135 | n => n, fun | n => n⟩
theorem Try.lays156 : Go.Proofs.Lays.n156 Try.prog Try.lays156_ren := {
  mixed := by kernel_rfl
  f156 := Try.func103.trans (congrArg some (by kernel_rfl))
  f165 := Try.func118.trans (congrArg some (by kernel_rfl))
  f166 := Try.func119.trans (congrArg some (by kernel_rfl))
  f169 := Try.func120.trans (congrArg some (by kernel_rfl))
  f240 := Try.func131.trans (congrArg some (by kernel_rfl))
  f241 := Try.func132.trans (congrArg some (by kernel_rfl))
  f276 := Try.func152.trans (congrArg some (by kernel_rfl))
  f277 := Try.func153.trans (congrArg some (by kernel_rfl))
  t0 := Try.underlying0
  a0 := Try.isAgg0
  z0 := Try.sizeOf0
  v0 := Try.zeroValue0
  t3 := Try.underlying3
  a3 := Try.isAgg3
  z3 := Try.sizeOf3
  v3 := Try.zeroValue3
  t4 := Try.underlying4
  a4 := Try.isAgg4
  z4 := Try.sizeOf4
  v4 := Try.zeroValue4
  t9 := Try.underlying9
  a9 := Try.isAgg9
  z9 := Try.sizeOf9
  v9 := Try.zeroValue9
  t20 := Try.underlying20
  a20 := Try.isAgg20
  z20 := Try.sizeOf20
  v20 := Try.zeroValue20
  t31 := Try.underlying35
  a31 := Try.isAgg35
  z31 := Try.sizeOf35
  v31 := Try.zeroValue35
  t37 := Try.underlying90
  a37 := Try.isAgg90
  z37 := Try.sizeOf90
  v37 := Try.zeroValue90
  t70 := Try.underlying127
  a70 := Try.isAgg127
  z70 := Try.sizeOf127
  v70 := Try.zeroValue127
  t72 := Try.underlying129
  a72 := Try.isAgg129
  z72 := Try.sizeOf129
  v72 := Try.zeroValue129
  t75 := Try.underlying132
  a75 := Try.isAgg132
  z75 := Try.sizeOf132
  v75 := Try.zeroValue132
  t76 := Try.underlying133
  a76 := Try.isAgg133
  z76 := Try.sizeOf133
  v76 := Try.zeroValue133
  t127 := Try.underlying148
  a127 := Try.isAgg148
  z127 := Try.sizeOf148
  v127 := Try.zeroValue148
  t164 := Try.underlying165
  a164 := Try.isAgg165
  z164 := Try.sizeOf165
  v164 := Try.zeroValue165 }
theorem Try.Builder_Extra_156 : Builder.Extra Try.prog Try.lays156_ren := {
  sizeBuilder := by kernel_rfl
  liesBuilder := by kernel_rfl
  t5 := Try.underlying5
  a5 := Try.isAgg5
  z5 := Try.sizeOf5
  v5 := Try.zeroValue5
  infoByte := by kernel_rfl
  cellsByte := by kernel_rfl
  sizeByte := by kernel_rfl
  neB5 := by decide }
open Go.RowKit in
/-- No element: the empty string; the world is as it was. (Whatever the slice's address and capacity: a nil slice too.) (LAID: no walk: one application.) -/
theorem Try.strings_Join_none (a : Option Addr) (c : Nat) (sep : ByteArray) (w : World) :
    Calls Try.prog 103 #[.slice a 0 c, .string sep] w fun e w' => e = .returned (.string ⟨#[]⟩) ∧ w' = w := Any.strings_Join_none Try.lays156 Try.Builder_Extra_156 a c sep w
open Go.RowKit in
/-- strings.Join: "Join concatenates the elements of its first argument to create a single string. The separator string sep is placed between elements in the resulting string.": HOWEVER MANY ELEMENTS. Below the heap's end the world is as it was. (LAID: no walk: one application.) -/
theorem Try.strings_Join (bk o c : Nat) (xs : List ByteArray) (sep : ByteArray) (w : World) (hcells : ∀ (j : Nat) x, xs[j]? = some x → w.cell? ⟨bk, o + j, none⟩ = some (.string x)) (hbk : bk < w.heap.size) (hN : xs.length ≤ 140737488355328) (hcap : xs.length ≤ c) (hlen : (Lib.join (xs.map (·.data.toList)) sep.data.toList).length ≤ 140737488355328) :
    Calls Try.prog 103 #[.slice (some ⟨bk, o, none⟩) xs.length c, .string sep] w fun e w' => e = .returned (.string ⟨(Lib.join (xs.map (·.data.toList)) sep.data.toList).toArray⟩) ∧ Below w.heap.size w w' := Any.strings_Join Try.lays156 Try.Builder_Extra_156 bk o c xs sep w hcells hbk hN hcap hlen
end Go.Proofs.Ytdpohibgipkhnaa
namespace Go.Proofs.Ytdpohibgipkhnaa
open Go.RowKit Go.Proofs.Ytdpohibgipkhnaa.Oct

/-- Texts joined by a comma and a blank. -/
def joinL (ss : List ByteArray) : List UInt8 := Lib.join (ss.map (·.data.toList)) [44, 32]
def joinB (ss : List ByteArray) : ByteArray := ⟨(joinL ss).toArray⟩
theorem joinL_snoc (ss : List ByteArray) (s : ByteArray) (h : ss ≠ []) : joinL (ss ++ [s]) = joinL ss ++ [44, 32] ++ s.data.toList := by
  cases ss with
  | nil => exact absurd rfl h
  | cons a r =>
    unfold joinL
    simp only [List.cons_append, List.map_cons, List.map_append, List.map_nil]
    rw [Lib.join_cons, Lib.join_cons]
    simp [Lib.joinTail, List.append_assoc]
theorem joinB_one (s : ByteArray) : joinB [s] = s := by
  apply bytes_eq_of_list
  show (joinL [s]).toArray.toList = _
  unfold joinL
  simp [Lib.join_one]
theorem joinB_snoc (ss : List ByteArray) (s : ByteArray) (h : ss ≠ []) : joinB (ss ++ [s]) = joinB ss ++ ⟨#[44, 32]⟩ ++ s := by
  apply bytes_eq_of_list
  show (joinL (ss ++ [s])).toArray.toList = _
  rw [joinL_snoc ss s h]
  simp [joinB, ByteArray.data_append]
theorem empty_app (s : ByteArray) : (⟨#[]⟩ : ByteArray) ++ s = s := by
  apply bytes_eq_of_list
  rw [ByteArray.data_append]
  simp
/-- The sum of the lengths. -/
def sumS (ss : List ByteArray) : Nat := (ss.map (·.size)).sum
theorem joinB_size (ss : List ByteArray) : (joinB ss).size ≤ sumS ss + 2 * ss.length := by
  show (joinL ss).toArray.size ≤ _
  rw [List.size_toArray]
  cases ss with
  | nil => simp [joinL, Lib.join_nil]
  | cons a r =>
    unfold joinL
    rw [List.map_cons, Lib.join_length]
    have e : Lib.lens (a.data.toList :: r.map (·.data.toList)) = sumS (a :: r) := by
      unfold Lib.lens sumS
      simp only [List.map_cons, List.map_map]
      congr 1
    rw [e]
    simp
    omega
theorem sumS_le (ss : List ByteArray) (m : Nat) (h : ∀ s ∈ ss, s.size ≤ m) : sumS ss ≤ ss.length * m := by
  induction ss with
  | nil => simp [sumS]
  | cons a r ih =>
    have h1 := h a List.mem_cons_self
    have h2 := ih (fun s hs => h s (List.mem_cons_of_mem _ hs))
    unfold sumS at h2 ⊢
    simp only [List.map_cons, List.sum_cons, List.length_cons, Nat.succ_mul]
    omega
theorem sumS_take (ss : List ByteArray) (k : Nat) : sumS (ss.take k) ≤ sumS ss := by
  have h : sumS ss = sumS (ss.take k) + sumS (ss.drop k) := by
    unfold sumS
    rw [← List.sum_append, ← List.map_append, List.take_append_drop]
  omega

set_option maxRecDepth 100000 in
set_option maxHeartbeats 800000 in
theorem ljoin_any (w : World) (B : Nat) (v : Value) (ss : List ByteArray) (ho : w.ownsRow B 9 1 v ss.length (strVals ss)) (hlen : sumS ss + 2 * ss.length ≤ 140737488355328) :
    Calls Try.prog 75 #[v] w fun e w' => e = .returned (.string (joinB ss)) ∧ Below w.heap.size w w' := by
  have hj := joinB_size ss
  rcases ho.2 with ⟨rfl, h0⟩ | ⟨g, cap, cur, rfl, hg, hh, hcap, _⟩
  · have hs : ss = [] := List.eq_nil_of_length_eq_zero h0
    subst hs
    clear ho
    go_enter Try.func75, Try.ntmps75
    go_wp2_with (go_at_call 103; refine (Try.strings_Join_none _ _ _ _).mono ?_; rintro e w' ⟨rfl, rfl⟩)
    go_ret
    exact ⟨rfl, Below.refl _ _⟩
  · have H := Try.strings_Join g 0 cap ss ⟨#[44, 32]⟩ w (fun j x hx => by
      rw [Nat.zero_add, ho.cellAt j (by have := (List.getElem?_eq_some_iff.1 hx).1; omega)]
      simp [strVals, hx]) (lt_of_block hh) (by omega) hcap (by
      show (joinL ss).length ≤ _
      have e : (joinB ss).size = (joinL ss).length := List.size_toArray
      omega)
    have HH := Lib.hid H
    clear H ho hh
    go_enter Try.func75, Try.ntmps75
    go_wp2_with fail
    refine HH.out.mono ?_
    rintro e w' ⟨rfl, hb⟩
    go_wp2
    go_ret
    exact ⟨rfl, hb⟩

theorem allV_sum {l : Flds} (hl : l.length ≤ 40) (hs : ∀ p ∈ l, p.2.size ≤ 700) (name : ByteArray) : sumS (allV l name) + 2 * (allV l name).length ≤ 40000 := by
  have h1 := allV_len l name l.length
  rw [List.take_length] at h1
  have h2 := sumS_le (allV l name) 700 (fun s h => by obtain ⟨p, hp, rfl⟩ := allV_mem h; exact hs p hp)
  have h3 : (allV l name).length * 700 ≤ 40 * 700 := Nat.mul_le_mul_right 700 (by omega)
  omega

/-- The texts of a name as one; whether there is one. -/
def combV (l : Flds) (name : ByteArray) : Value := .tuple #[.string (joinB (allV l name)), .bool (decide (0 < (allV l name).length))]
set_option maxRecDepth 100000 in
set_option maxHeartbeats 800000 in
theorem hcomb_any (w : World) (x : Option Addr) (n c : Nat) (l : Flds) (name : ByteArray) (hn : name.size ≤ 9223372036854775807) (h : FldsAt w x n l) (hl : l.length ≤ 40) (hs : ∀ p ∈ l, p.2.size ≤ 700) :
    Calls Try.prog 27 #[.slice x n c, .string name] w fun e w' => e = .returned (combV l name) ∧ Below w.heap.size w w' := by
  have H := Lib.hid (all_any w x n c l name hn h (by have := h.len; omega))
  have hsum := allV_sum hl hs name
  have HV : Hid (combV l name = .tuple #[.string (joinB (allV l name)), .bool (decide (0 < (allV l name).length))]) := rfl
  clear h hs
  go_enter Try.func27, Try.ntmps27
  go_wp2_with fail
  refine H.out.mono ?_
  rintro e w1 ⟨v, rfl, ho, hnil, hb⟩
  have HO := Lib.hid ho
  have HB := Lib.hid hb
  have HJ := Lib.hid (ljoin_any w1 _ v _ ho (by omega))
  clear hb
  rcases ho.2 with ⟨rfl, h0⟩ | ⟨g, cap, cur, rfl, _⟩
  · have H0 := Lib.hid h0
    clear h0 ho hnil
    go_wp2_with fail
    refine HJ.out.mono ?_
    rintro e w2 ⟨rfl, hb2⟩
    have HB2 := Lib.hid (grow_trans HB.out hb2)
    clear hb2
    go_wp2
    go_ret2
    refine ⟨?_, HB2.out⟩
    rw [HV.out, H0.out]
    rfl
  · clear ho hnil
    go_wp2_with fail
    refine HJ.out.mono ?_
    rintro e w2 ⟨rfl, hb2⟩
    have HB2 := Lib.hid (grow_trans HB.out hb2)
    clear hb2
    have hd : decide ((0 : Int) < ((allV l name).length : Int)) = decide (0 < (allV l name).length) := decide_eq_decide.2 (by omega)
    have HD := Lib.hid hd
    clear hd
    go_wp2
    go_ret2
    refine ⟨?_, HB2.out⟩
    rw [HV.out]
    first | rfl | (rw [← HD.out]; rfl) | (congr; done)

/-! ### the document's -/
set_option maxRecDepth 100000 in
set_option maxHeartbeats 1600000 in
theorem rjoin_any (w : World) (x : Option Addr) (n c : Nat) (ss : List ByteArray) (h : StrsArg w x n ss) (hsum : sumS ss + 2 * ss.length ≤ 1000000000) :
    Calls Try.prog 76 #[.slice x n c] w fun e w' => e = .returned (.string (joinB ss)) ∧ w = w' := by
  obtain ⟨hl, hbig, hstr, hat⟩ := h
  subst hl
  have HA := Lib.hid hat
  clear hat hstr
  go_enter Try.func76, Try.ntmps76
  go_wp2
  go_loop [3, 4] (fun s i => ∃ k : Nat, k ≤ ss.length ∧ i = .int .i64 k ∧ s = .string (joinB (ss.take k))) (fun _ i => ss.length - (intOf i).toNat)
  case atStart => exact ⟨0, Nat.zero_le _, rfl, rfl⟩
  case round =>
    obtain ⟨k, hk, rfl, rfl⟩ := hrel
    by_cases hkl : k < ss.length
    · obtain ⟨b, o, rfl, hlt, hc⟩ := HA.out.resolve_left (by omega)
      have hcell := hc k hkl
      have htk : ss.take (k + 1) = ss.take k ++ [ss[k]] := List.take_succ_eq_append_getElem hkl
      have hsz := joinB_size (ss.take k)
      have hsz1 := joinB_size (ss.take (k + 1))
      have hst := sumS_take ss k
      have hst1 := sumS_take ss (k + 1)
      have hll : (ss.take k).length ≤ ss.length := List.length_take_le' _ _
      have hll1 : (ss.take (k + 1)).length ≤ ss.length := List.length_take_le' _ _
      obtain ⟨s, hs⟩ : ∃ s, s = ss[k] := ⟨_, rfl⟩
      rw [← hs] at hcell htk
      clear hs hc
      by_cases hk0 : k = 0
      · subst hk0
        have hj : joinB (ss.take (0 + 1)) = s := by rw [htk]; exact joinB_one s
        rw [hj] at hsz1
        have HJ := Lib.hid hj
        have e0 : joinB (ss.take 0) = ⟨#[]⟩ := rfl
        rw [e0]
        have i2 : s.size ≤ 1000000000 := by omega
        clear hj htk hsz hsz1 hst hst1 hll hll1 e0
        rw [Nat.add_zero] at hcell
        go_wp2
        go_round
        case rel => exact ⟨0 + 1, by omega, by go_num, by rw [HJ.out, empty_app]⟩
        case measure => simp [intOf]; omega
      · have hne : ss.take k ≠ [] := by
          intro e
          have := congrArg List.length e
          rw [List.length_take, List.length_nil] at this
          omega
        have hj : joinB (ss.take (k + 1)) = joinB (ss.take k) ++ ⟨#[44, 32]⟩ ++ s := by rw [htk]; exact joinB_snoc _ s hne
        rw [hj] at hsz1
        obtain ⟨J, hJ⟩ : ∃ J, J = joinB (ss.take k) := ⟨_, rfl⟩
        rw [← hJ] at hj hsz1 hsz ⊢
        rw [ByteArray.size_append, ByteArray.size_append] at hsz1
        have i0 : (0 : Int) < (k : Int) := by omega
        have i1 : (⟨#[44, 32]⟩ : ByteArray).size = 2 := rfl
        rw [i1] at hsz1
        have i2 : J.size + 2 + s.size ≤ 1000000000 := by omega
        have HJ := Lib.hid hj
        clear hj hJ hne htk hsz hsz1 hst hst1 hll hll1 i1
        go_wp2
        go_round
        case rel => exact ⟨k + 1, by omega, by go_num, by rw [HJ.out]⟩
        case measure => simp [intOf]; omega
    · obtain rfl : k = ss.length := by omega
      have e : joinB (ss.take ss.length) = joinB ss := by rw [List.take_length]
      rw [e]
      clear e
      go_wp2
      go_ret
      exact ⟨rfl, rfl⟩

set_option maxRecDepth 100000 in
set_option maxHeartbeats 800000 in
theorem rcomb_any (w : World) (x : Option Addr) (n c : Nat) (l : Flds) (name : ByteArray) (hn : name.size ≤ 140737488355328) (h : FldsAt w x n l) (hl : l.length ≤ 40) (hs1 : ∀ p ∈ l, p.1.size ≤ 140737488355328) (hs : ∀ p ∈ l, p.2.size ≤ 700) :
    Calls Try.prog 28 #[.slice x n c, .string name] w fun e w' => e = .returned (combV l name) ∧ Below w.heap.size w w' := by
  have H := Lib.hid (rall_any w x n c l name hn h (by have := h.len; omega) hs1)
  have hsum := allV_sum hl hs name
  have hmem : ∀ s ∈ allV l name, s.size ≤ 9223372036854775807 := fun s hs2 => by obtain ⟨p, hp, rfl⟩ := allV_mem hs2; have := hs p hp; omega
  have hlen : (allV l name).length ≤ 9223372036854775807 := by omega
  have HV : Hid (combV l name = .tuple #[.string (joinB (allV l name)), .bool (decide (0 < (allV l name).length))]) := rfl
  have HM := Lib.hid hmem
  clear h hs hs1 hmem
  go_enter Try.func28, Try.ntmps28
  go_wp2_with fail
  refine H.out.mono ?_
  rintro e w1 ⟨g, c', rfl, ho, hb⟩
  have HB := Lib.hid hb
  have HJ := Lib.hid (rjoin_any w1 _ _ c' _ (StrsArg.of_owned ho hlen HM.out) (by omega))
  clear hb ho
  go_wp2_with fail
  refine HJ.out.mono ?_
  rintro e w2 ⟨rfl, rfl⟩
  have hd : decide ((0 : Int) < ((allV l name).length : Int)) = decide (0 < (allV l name).length) := decide_eq_decide.2 (by omega)
  have HD := Lib.hid hd
  clear hd
  go_wp2
  go_ret2
  refine ⟨?_, HB.out⟩
  rw [HV.out]
  first | rfl | (rw [← HD.out]; rfl) | (congr; done)

/-! ### slices.Equal, header.Same -/
set_option maxRecDepth 100000 in
set_option maxHeartbeats 1600000 in
theorem eqf_any (x y : Option Addr) (la ca lb cb : Nat) (A B : Flds) (w : World) (ha : FldsAt w x la A) (hb : FldsAt w y lb B) :
    Calls Try.prog 77 #[.slice x la ca, .slice y lb cb] w fun e w' => e = .returned (.bool (decide (A = B))) ∧ Drawn w w' := by
  have al := ha.len
  have bl := hb.len
  have alm := ha.big
  have blm := hb.big
  by_cases hll : la = lb
  · subst hll
    have h1 : ((la : Int) != (la : Int)) = false := by simp
    have AL := Lib.hid al
    have BL := Lib.hid bl
    have AX := Lib.hid ha
    have BX := Lib.hid hb
    clear al bl ha hb
    go_enter Try.func77, Try.ntmps77
    go_wp2
    go_loopw [5, 13] (fun _ i wr => ∃ k : Nat, k ≤ la ∧ i = .int .i64 k ∧ Hid (∀ j (h : j < A.length) (h' : j < B.length), j < k → A[j] = B[j]) ∧ Drawn w wr) (fun _ i _ => la - (intOf i).toNat)
    case atStart => exact ⟨0, Nat.zero_le _, rfl, fun j _ _ h => absurd h (Nat.not_lt_zero _), Drawn.refl _⟩
    case round =>
      obtain ⟨k, hk, rfl, hall, hwr⟩ := hrel
      by_cases hlt : k < la
      · obtain ⟨b, o, f, rfl, hl2, hf, hc1, hc2, hs1, hs2⟩ := (AX.out.below hwr.grow).get k hlt
        obtain ⟨b', o', g, rfl, hl3, hg, hd1, hd2, hs3, hs4⟩ := (BX.out.below hwr.grow).get k hlt
        have HS := Lib.hid hf
        have HT := Lib.hid hg
        obtain ⟨f1, f2⟩ := f
        obtain ⟨g1, g2⟩ := g
        simp only at hc1 hc2 hs1 hs2 hd1 hd2 hs3 hs4
        clear hf hg
        by_cases hst : (f1, f2) = (g1, g2)
        · obtain ⟨rfl, rfl⟩ := Prod.mk.inj hst
          clear hst
          go_wp2
          go_quiet (fail)
          go_wp2
          go_roundw
          case rel => exact ⟨k + 1, by omega, by go_num, (fun j h h' hj => by
            by_cases hjk : j < k
            · exact hall.out j h h' hjk
            · obtain rfl : j = k := by omega
              exact HS.out.symm.trans HT.out), hwr.drewN _⟩
          case measure => simp [intOf]; omega
        · have hd : decide (A = B) = false := by
            apply decide_eq_false
            intro h
            apply hst
            rw [HS.out, HT.out]
            simp only [h]
          have HD := Lib.hid hd
          clear hd
          rcases fld_ne hst with hne | ⟨rfl, hne⟩
          all_goals
            clear hst
            go_wp2
            go_quiet (fail)
            go_wp2
            go_ret
            exact ⟨ret_bool HD.out.symm, hwr.drewN _⟩
      · have hd : decide (A = B) = true := by
          apply decide_eq_true
          apply List.ext_getElem
          · rw [AL.out, BL.out]
          · intro j h h'
            exact hall.out j h h' (by rw [AL.out] at h; omega)
        have HD := Lib.hid hd
        clear hd
        go_wp2
        go_ret
        exact ⟨ret_bool HD.out.symm, hwr⟩
  · have h1 : ((la : Int) != (lb : Int)) = true := by simp; omega
    have hd : decide (A = B) = false := by
      apply decide_eq_false
      intro h
      apply hll
      rw [← al, ← bl, h]
    have HD := Lib.hid hd
    clear hd hll al bl ha hb
    go_enter Try.func77, Try.ntmps77
    go_wp2
    go_ret
    exact ⟨ret_bool HD.out.symm, Drawn.refl _⟩

theorem hsame_any (x y : Option Addr) (la ca lb cb : Nat) (A B : Flds) (w : World) (ha : FldsAt w x la A) (hb : FldsAt w y lb B) :
    Calls Try.prog 32 #[.slice x la ca, .slice y lb cb] w fun e w' => e = .returned (.bool (decide (A = B))) ∧ Drawn w w' := by
  have H := Lib.hid (eqf_any x y la ca lb cb A B w ha hb)
  clear ha hb
  go_enter Try.func32, Try.ntmps32
  go_wp2_with fail
  refine H.out.mono ?_
  rintro e w1 ⟨rfl, hd⟩
  go_wp2
  go_ret
  exact ⟨rfl, hd⟩
end Go.Proofs.Ytdpohibgipkhnaa
namespace Go.Proofs.Ytdpohibgipkhnaa
open Go.RowKit Go.Sort Go.Proofs.Ytdpohibgipkhnaa.Oct

theorem info_field : (Try.prog.info? 31).map (fun i => (i.zero, i.size, i.bytes)) = some (some (.agg #[.string ⟨#[]⟩, .string ⟨#[]⟩]), 2, 32) := by kernel_rfl
theorem field_size : (Try.prog.info? 31).map (·.size) = some 2 := by kernel_rfl

theorem FldsAt.reads {w : World} {x : Option Addr} {n : Nat} {l : Flds} (h : FldsAt w x n l) : Reads w w.heap.size 2 x n (fldVals l) := by
  refine ⟨by rw [fldVals_length, h.len], fun hn => ?_⟩
  obtain ⟨b, o, hx, hlt, hc⟩ := h.at_.resolve_left (by omega)
  refine ⟨_, hx, hlt, fun j u hu => ?_⟩
  have hj : j < l.length * 2 := by have := (List.getElem?_eq_some_iff.1 hu).1; rwa [fldVals_length] at this
  have hi : j / 2 < l.length := by omega
  rw [Addr.add_lit]
  rcases Nat.mod_two_eq_zero_or_one j with hm | hm
  · have e : j = j / 2 * 2 := by omega
    have h2 := fldVals_x l (j / 2) hi
    rw [← e, hu] at h2
    rw [Option.some.inj h2]
    have := (hc _ hi).1
    rwa [← e] at this
  · have e : j = j / 2 * 2 + 1 := by omega
    have h2 := fldVals_y l (j / 2) hi
    rw [← e, hu] at h2
    rw [Option.some.inj h2]
    have := (hc _ hi).2
    rwa [Nat.add_assoc, ← e] at this
theorem FldsAt.of_own {w : World} {B : Nat} {x : Option Addr} {n c : Nat} {l : Flds} (h : w.ownsRow B 31 2 (.slice x n c) n (fldVals l)) (hn : n ≤ 9223372036854775807) (hs : ∀ p ∈ l, p.1.size ≤ 9223372036854775807 ∧ p.2.size ≤ 9223372036854775807) : FldsAt w x n l := by
  have hl : l.length = n := by have := h.1; rw [fldVals_length] at this; omega
  refine ⟨hl, hn, hs, ?_⟩
  rcases h.2 with ⟨_, h0⟩ | ⟨g, cap, cur, hv, _, hh, _⟩
  · exact .inl h0
  · injection hv with hv
    subst hv
    refine .inr ⟨g, 0, rfl, lt_of_block hh, fun i hi => ?_⟩
    rw [Nat.zero_add]
    exact ⟨(h.cellAt _ (by omega)).trans (fldVals_x l i hi), (h.cellAt _ (by omega)).trans (fldVals_y l i hi)⟩
theorem FldsAt.take {w : World} {x : Option Addr} {n : Nat} {l : Flds} (h : FldsAt w x n l) (k : Nat) (hk : k ≤ n) : FldsAt w x k (l.take k) := by
  refine ⟨by rw [List.length_take, h.len]; omega, by have := h.big; omega, fun p hp => h.str p (List.mem_of_mem_take hp), ?_⟩
  rcases h.at_ with h0 | ⟨b, o, hx, hlt, hc⟩
  · exact .inl (by omega)
  · refine .inr ⟨b, o, hx, hlt, fun i hi => ?_⟩
    rw [List.getElem_take]
    exact hc i (by rw [List.length_take] at hi; omega)
theorem FldsAt.drop {w : World} {x : Option Addr} {n : Nat} {l : Flds} (h : FldsAt w x n l) (k cap : Nat) (hk : k ≤ n) (hc : n ≤ cap) : FldsAt w (if cap = k then x else x.map (·.add (k * 2))) (n - k) (l.drop k) := by
  refine ⟨by rw [List.length_drop, h.len], by have := h.big; omega, fun p hp => h.str p (List.mem_of_mem_drop hp), ?_⟩
  by_cases h0 : n - k = 0
  · exact .inl h0
  · obtain ⟨b, o, rfl, hlt, hcl⟩ := h.at_.resolve_left (by omega)
    rw [if_neg (by omega)]
    refine .inr ⟨b, o + k * 2, by simp [Addr.add_lit], hlt, fun i hi => ?_⟩
    rw [List.getElem_drop]
    have := hcl (k + i) (by rw [List.length_drop] at hi; omega)
    rw [show o + k * 2 + i * 2 = o + (k + i) * 2 by omega]
    exact this

theorem Blk.fset {w : World} {g : Nat} {l : Flds} (h : Blk w g 31 (fldVals l).toArray) (i : Nat) (hi : i < l.length) (x y : ByteArray) :
    Blk ((w.setCell ⟨g, i * 2, none⟩ (.string x)).setCell ⟨g, i * 2 + 1, none⟩ (.string y)) g 31 (fldVals (l.set i (x, y))).toArray := by
  have h2 := (h.set_ (i * 2) (.string x)).set_ (i * 2 + 1) (.string y)
  rw [← fldVals_set x y l i hi]
  simpa using h2
/-- What a call leaves that hands back a list of fields in a row of its own. -/
def FldsPost (w : World) (l : Flds) (e : Ending) (w' : World) : Prop :=
  ∃ v, e = .returned v ∧ w'.ownsRow w.heap.size 31 2 v l.length (fldVals l) ∧ Below w.heap.size w w'
theorem own_of_blk {w : World} {B g : Nat} {l : Flds} (h : Blk w g 31 (fldVals l).toArray) (hB : B ≤ g) (hl : l.length ≤ maxLen) : w.ownsRow B 31 2 (.slice (some ⟨g, 0, none⟩) l.length l.length) l.length (fldVals l) :=
  ⟨fldVals_length l, .inr ⟨g, l.length, _, rfl, hB, h, Nat.le_refl _, hl, by simp [fldVals_length], by rw [List.take_of_length_le (by simp [fldVals_length])]⟩⟩

set_option maxRecDepth 100000 in
set_option maxHeartbeats 1600000 in
theorem hwith_any (w : World) (x : Option Addr) (n c : Nat) (l : Flds) (name value : ByteArray) (h : FldsAt w x n l) (hn : n ≤ 65536) :
    Calls Try.prog 35 #[.slice x n c, .string name, .string value] w fun e w' => e = .returned (.slice (some ⟨w.heap.size, 0, none⟩) (n + 1) (n + 1)) ∧ Blk w' w.heap.size 31 (fldVals (l ++ [(name, value)])).toArray ∧ Below w.heap.size w w' := by
  obtain ⟨i0, hi, hz, hs, hb⟩ := info_parts info_field
  have hmk : ∀ W : World, (Instr.makeSlice 22 (.int .i64 ((n : Int) + 1)) (.int .i64 ((n : Int) + 1))).run Try.prog W = .ok (.slice (some ⟨W.heap.size, 0, none⟩) (n + 1) (n + 1)) (W.alloc (.cells (fldVals (noFlds (n + 1))).toArray 31)) := by
    intro W
    have := run_make (P := Try.prog) W 22 31 i0 _ Try.underlying22 hi hz .i64 .i64 ((n : Int) + 1) ((n : Int) + 1) (by omega) (by omega) (by rw [hb]; omega) (by omega)
    rw [hs] at this
    have e : ((n : Int) + 1).toNat = n + 1 := by omega
    rw [e, made_flds] at this
    exact this
  have HM := Lib.hid hmk
  have hl := h.len
  have HR := Lib.hid (h.reads.alloc (Nat.le_refl _) (.cells (fldVals (noFlds (n + 1))).toArray 31))
  have HL := Lib.hid hl
  have H1 : Hid (0 + (fldVals l).length ≤ (fldVals (noFlds (n + 1))).length) := by
    show _ ≤ _
    rw [fldVals_length, fldVals_length, hl]
    simp [noFlds]
    omega
  have HO := Lib.hid (fld_one l)
  have e0 : (fldVals (noFlds (n + 1))).take 0 ++ fldVals l ++ (fldVals (noFlds (n + 1))).drop (0 + (fldVals l).length) = fldVals (l ++ [(⟨#[]⟩, ⟨#[]⟩)]) := by
    rw [Nat.zero_add, fldVals_length, fldVals_drop, hl, fldVals_append]
    have : (noFlds (n + 1)).drop n = [(⟨#[]⟩, ⟨#[]⟩)] := by
      unfold noFlds
      rw [List.drop_replicate, show n + 1 - n = 1 by omega]
      rfl
    rw [this]
    simp
  have HE := Lib.hid e0
  clear hi hz hs hb hmk h e0 hl
  have hmk := HM.out
  have i1 : (n : Int) < (n : Int) + 1 := by omega
  go_enter Try.func35, Try.ntmps35
  go_wp2_with (with_reducible refine wpList_copy_rows rfl (.tmp 13) (.tmp 14) 22 22 rfl 31 2 Try.underlying22 field_size w.heap.size 0 (n + 1) (n + 1) n c w.heap.size x rfl rfl (fldVals (noFlds (n + 1))) 31 (Blk.new w 31 _) (fldVals l) HR.out (Nat.le_succ n) H1.out HO.out ?_; intro w1 hb1 hk1 hbl1 hz1; rw [HE.out] at hb1; have HB1 := Lib.hid hb1; have c0 : w1.cell? ⟨w.heap.size, n * 2, none⟩ = some (.string ⟨#[]⟩) := ((hb1.cell _).trans (by have := fldVals_x (l ++ [(⟨#[]⟩, ⟨#[]⟩)]) n (by simp [HL.out]); simpa [HL.out] using this)); have c1 : w1.cell? ⟨w.heap.size, n * 2 + 1, none⟩ = some (.string ⟨#[]⟩) := ((hb1.cell _).trans (by have := fldVals_y (l ++ [(⟨#[]⟩, ⟨#[]⟩)]) n (by simp [HL.out]); simpa [HL.out] using this)); have cf := hb1.frozen; have HBl := Lib.hid hbl1; clear hb1 hk1 hbl1 hz1)
  go_ret
  refine ⟨rfl, ?_, ?_⟩
  · have h2 := HB1.out.fset n (by simp [HL.out]) name value
    rw [← HL.out, List.set_append_right _ _ (Nat.le_refl _), Nat.sub_self] at h2
    rw [← HL.out]
    exact h2
  · exact (((below_new w _).trans (HBl.out)).setCell (Nat.le_refl _) _).setCell (Nat.le_refl _) _
/-! ### lives -/
theorem flds_lit (w : World) (l : Flds) (hs : ∀ p ∈ l, p.1.size ≤ 9223372036854775807 ∧ p.2.size ≤ 9223372036854775807) (hn : l.length ≤ 65536) : FldsAt (w.alloc (.cells (fldVals l).toArray 31)) (some ⟨w.heap.size, 0, none⟩) l.length l :=
  FldsAt.of_own (own_of_blk (Blk.new w 31 (fldVals l).toArray) (Nat.zero_le _) (by unfold maxLen; omega)) (by omega) hs
def lv3 : Flds := [(⟨#[65]⟩, ⟨#[49]⟩), (⟨#[66]⟩, ⟨#[50]⟩), (⟨#[97]⟩, ⟨#[51]⟩)]
def lv1 : Flds := [(⟨#[65]⟩, ⟨#[49]⟩)]
theorem lv_comb : combV lv3 ⟨#[97]⟩ = .tuple #[.string ⟨#[49, 44, 32, 51]⟩, .bool true] := by
  have e : allV lv3 ⟨#[97]⟩ = [⟨#[49]⟩, ⟨#[51]⟩] := by decide +kernel
  unfold combV
  rw [e]
  rfl

set_option maxRecDepth 100000 in
set_option maxHeartbeats 1600000 in
theorem hlives_any (w : World) : Calls Try.prog 24 #[] w fun e w' => e = .returned (.bool true) ∧ Below w.heap.size w w' := by
  have hfl := flds_lit w lv3 (by decide) (by decide)
  have HC := Lib.hid (hcomb_any _ _ 3 3 lv3 ⟨#[97]⟩ (by decide) hfl (by decide) (by decide))
  have HE := Lib.hid lv_comb
  clear hfl
  go_enter Try.func24, Try.ntmps24
  go_wp2_with fail
  refine HC.out.mono ?_
  rintro e w1 ⟨rfl, hb1⟩
  rw [HE.out]
  have HB1 := Lib.hid ((below_new w (.cells (fldVals lv3).toArray 31)).trans (hb1.mono (by simp)))
  clear hb1
  go_wp2_with fail
  refine (hwith_any w1 none 0 0 [] ⟨#[65]⟩ ⟨#[49]⟩ ⟨rfl, by omega, by simp, .inl rfl⟩ (by omega)).mono ?_
  rintro e w2 ⟨rfl, hk2, hb2⟩
  have hA : FldsAt w2 (some ⟨w1.heap.size, 0, none⟩) 1 lv1 := FldsAt.of_own (own_of_blk (B := 0) (l := lv1) hk2 (Nat.zero_le _) (by decide)) (by omega) (by decide)
  have HB2 := Lib.hid (grow_trans HB1.out hb2)
  have HA := Lib.hid (hA.below (below_new w2 (.cells (fldVals lv1).toArray 31)))
  have HD := Lib.hid (flds_lit w2 lv1 (by decide) (by decide))
  clear hk2 hb2 hA
  go_wp2_with fail
  refine (hsame_any _ _ 1 1 1 1 lv1 lv1 _ HA.out HD.out).mono ?_
  rintro e w3 ⟨rfl, hd⟩
  have HB3 := Lib.hid ((grow_trans HB2.out (below_new w2 (.cells (fldVals lv1).toArray 31))).trans (hd.below _))
  rw [show decide (lv1 = lv1) = true from decide_eq_true rfl]
  clear hd
  go_wp2
  go_ret
  exact ⟨rfl, HB3.out⟩

/-! ### HeaderTells -/
/-- So few fields, and so short, as the walks ask. -/
theorem few_names {l : Flds} (h : fewB l = true) : l.length ≤ 40 ∧ (∀ p ∈ l, p.1.size ≤ 140737488355328) ∧ (∀ p ∈ l, p.2.size ≤ 700) := by
  obtain ⟨h1, h2⟩ := fewB_of h
  exact ⟨h1, fun p hp => by have := (h2 p hp).1; omega, fun p hp => by have := (h2 p hp).2; omega⟩

set_option maxRecDepth 100000 in
set_option maxHeartbeats 3200000 in
theorem htells_yes (x y : Option Addr) (n c m d : Nat) (l k : Flds) (name : ByteArray) (w : World) (h : FldsAt w x n l) (h2 : FldsAt w y m k) (hn : name.size ≤ 9223372036854775807) (hl : fewB l = true) (hk : fewB k = true) (hs : ¬ (100 : Int) < (name.size : Int)) :
    Calls Try.prog 5 #[.slice x n c, .slice y m d, .string name] w fun e w' => e = .returned (.bool true) ∧ Below w.heap.size w w' := by
  obtain ⟨f1, f2, f3⟩ := few_names hl
  have hn2 : name.size ≤ 140737488355328 := by omega
  have hnl : n ≤ 65536 := by have := h.len; omega
  have hmem : ∀ s ∈ allV l name, s.size ≤ 9223372036854775807 := fun s hs2 => by obtain ⟨p, hp, rfl⟩ := allV_mem hs2; have := f3 p hp; omega
  have hlen : (allV l name).length ≤ 9223372036854775807 := by
    have h1 := allV_len l name l.length
    rw [List.take_length] at h1
    omega
  have HA := Lib.hid h
  have HK := Lib.hid h2
  have C1 := Lib.hid (few_any w x n c l h)
  have HL := Lib.hid hl
  have HK2 := Lib.hid hk
  have F1 := Lib.hid f1
  have F2 := Lib.hid f2
  have F3 := Lib.hid f3
  have HM := Lib.hid hmem
  have HLn := Lib.hid hlen
  clear h h2 hl hk f1 f2 f3 hmem hlen
  go_enter Try.func5, Try.ntmps5
  go_wp2_with fail
  refine C1.out.mono ?_
  rintro e w1 ⟨rfl, hb1⟩
  rw [HL.out]
  have B1 := Lib.hid hb1
  clear hb1
  go_wp2_with fail
  refine (few_any w1 y m d k (HK.out.below B1.out)).mono ?_
  rintro e w2 ⟨rfl, hb2⟩
  rw [HK2.out]
  have B2 := Lib.hid (grow_trans B1.out hb2)
  clear hb2
  go_wp2_with fail
  refine (hget_any w2 x n c l name hn (HA.out.below B2.out)).mono ?_
  rintro e w3 ⟨rfl, hb3⟩
  have B3 := Lib.hid (grow_trans B2.out hb3)
  clear hb3
  go_wp2_with fail
  refine (hrget_any w3 x n c l name hn2 (HA.out.below B3.out) hnl F2.out).mono ?_
  rintro e w4 ⟨rfl, hb4⟩
  have B4 := Lib.hid (grow_trans B3.out hb4)
  clear hb4
  go_wp2_with fail
  refine (hcomb_any w4 x n c l name hn (HA.out.below B4.out) F1.out F3.out).mono ?_
  rintro e w5 ⟨rfl, hb5⟩
  have B5 := Lib.hid (grow_trans B4.out hb5)
  unfold combV
  clear hb5
  go_wp2_with fail
  refine (rcomb_any w5 x n c l name hn2 (HA.out.below B5.out) F1.out F2.out F3.out).mono ?_
  rintro e w6 ⟨rfl, hb6⟩
  have B6 := Lib.hid (grow_trans B5.out hb6)
  unfold combV
  clear hb6
  go_wp2_with fail
  refine (rall_any w6 x n c l name hn2 (HA.out.below B6.out) hnl F2.out).mono ?_
  rintro e w7 ⟨g7, c7, rfl, ho7, hb7⟩
  have B7 := Lib.hid (grow_trans B6.out hb7)
  have S7 := Lib.hid (StrsArg.of_owned ho7 HLn.out HM.out)
  clear hb7 ho7
  go_wp2_with fail
  refine (all_any w7 x n c l name hn (HA.out.below B7.out) hnl).mono ?_
  rintro e w8 ⟨v8, rfl, ho8, hnil8, hb8⟩
  have B8 := Lib.hid (grow_trans B7.out hb8)
  have S8 := Lib.hid (S7.out.below hb8)
  have ⟨y8, c8, hv8, hs8⟩ : ∃ y c, v8 = .slice y (allV l name).length c ∧ StrsArg w8 y (allV l name).length (allV l name) := by
    rcases ho8.2 with ⟨rfl, h0⟩ | ⟨g, cap, cur, rfl, _⟩
    · exact ⟨none, 0, by rw [h0], rfl, HLn.out, HM.out, .inl h0⟩
    · exact ⟨_, cap, rfl, StrsArg.of_owned ho8 HLn.out HM.out⟩
  subst hv8
  have T8 := Lib.hid hs8
  clear hb8 ho8 hnil8 hs8
  go_wp2_with fail
  refine (rsame_any _ _ _ c8 _ c7 _ _ _ T8.out S8.out).mono ?_
  rintro e w9 ⟨rfl, hd9⟩
  rw [show decide (allV l name = allV l name) = true from decide_eq_true rfl]
  have B9 := Lib.hid (B8.out.trans (hd9.below _))
  clear hd9
  go_wp2_with fail
  refine (hcount_any w9 x n c l name hn (HA.out.below B9.out) hnl).mono ?_
  rintro e w10 ⟨rfl, hb10⟩
  have B10 := Lib.hid (grow_trans B9.out hb10)
  clear hb10
  go_wp2_with fail
  refine (hsame_any x y n c m d l k _ (HA.out.below B10.out) (HK.out.below B10.out)).mono ?_
  rintro e w11 ⟨rfl, hd11⟩
  have B11 := Lib.hid (B10.out.trans (hd11.below _))
  clear hd11
  go_wp2_with fail
  refine (rsamef_any x y n c m d l k _ (HA.out.below B11.out) (HK.out.below B11.out)).mono ?_
  rintro e w12 ⟨rfl, hd12⟩
  have B12 := Lib.hid (B11.out.trans (hd12.below _))
  clear hd12
  go_wp2_with fail
  refine (hlives_any w12).mono ?_
  rintro e w13 ⟨rfl, hb13⟩
  have B13 := Lib.hid (grow_trans B12.out hb13)
  clear hb13
  go_wp2
  go_ret
  exact ⟨rfl, B13.out⟩

set_option maxRecDepth 100000 in
set_option maxHeartbeats 3200000 in
theorem htells_any (x y : Option Addr) (n c m d : Nat) (l k : Flds) (name : ByteArray) (w : World) (h : FldsAt w x n l) (h2 : FldsAt w y m k) (hn : name.size ≤ 9223372036854775807) :
    Calls Try.prog 5 #[.slice x n c, .slice y m d, .string name] w fun e w' => e = .returned (.bool true) ∧ Below w.heap.size w w' := by
  cases hl : fewB l
  · have C1 := Lib.hid (few_any w x n c l h)
    have HL := Lib.hid hl
    clear h h2 hl
    go_enter Try.func5, Try.ntmps5
    go_wp2_with fail
    refine C1.out.mono ?_
    rintro e w1 ⟨rfl, hb1⟩
    rw [HL.out]
    have B1 := Lib.hid hb1
    clear hb1
    go_wp2_with fail
    refine (hlives_any w1).mono ?_
    rintro e w13 ⟨rfl, hb13⟩
    have B13 := Lib.hid (grow_trans B1.out hb13)
    clear hb13
    go_wp2
    go_ret
    exact ⟨rfl, B13.out⟩
  · cases hk : fewB k
    · have C1 := Lib.hid (few_any w x n c l h)
      have HL := Lib.hid hl
      have HK := Lib.hid h2
      have HK2 := Lib.hid hk
      clear h h2 hl hk
      go_enter Try.func5, Try.ntmps5
      go_wp2_with fail
      refine C1.out.mono ?_
      rintro e w1 ⟨rfl, hb1⟩
      rw [HL.out]
      have B1 := Lib.hid hb1
      clear hb1
      go_wp2_with fail
      refine (few_any w1 y m d k (HK.out.below B1.out)).mono ?_
      rintro e w2 ⟨rfl, hb2⟩
      rw [HK2.out]
      have B2 := Lib.hid (grow_trans B1.out hb2)
      clear hb2
      go_wp2_with fail
      refine (hlives_any w2).mono ?_
      rintro e w13 ⟨rfl, hb13⟩
      have B13 := Lib.hid (grow_trans B2.out hb13)
      clear hb13
      go_wp2
      go_ret
      exact ⟨rfl, B13.out⟩
    · by_cases hs : (100 : Int) < (name.size : Int)
      · have C1 := Lib.hid (few_any w x n c l h)
        have HL := Lib.hid hl
        have HK := Lib.hid h2
        have HK2 := Lib.hid hk
        clear h h2 hl hk
        go_enter Try.func5, Try.ntmps5
        go_wp2_with fail
        refine C1.out.mono ?_
        rintro e w1 ⟨rfl, hb1⟩
        rw [HL.out]
        have B1 := Lib.hid hb1
        clear hb1
        go_wp2_with fail
        refine (few_any w1 y m d k (HK.out.below B1.out)).mono ?_
        rintro e w2 ⟨rfl, hb2⟩
        rw [HK2.out]
        have B2 := Lib.hid (grow_trans B1.out hb2)
        clear hb2
        go_wp2_with fail
        refine (hlives_any w2).mono ?_
        rintro e w13 ⟨rfl, hb13⟩
        have B13 := Lib.hid (grow_trans B2.out hb13)
        clear hb13
        go_wp2
        go_ret
        exact ⟨rfl, B13.out⟩
      · exact htells_yes x y n c m d l k name w h h2 hn hl hk hs
end Go.Proofs.Ytdpohibgipkhnaa
namespace Go.Proofs.Ytdpohibgipkhnaa
open Go.RowKit Go.Sort Go.Proofs.Ytdpohibgipkhnaa.Oct

theorem one_fld (x y : ByteArray) : ∀ u ∈ [Value.string x, Value.string y], u.oneCell' = true := by
  intro u hu
  simp only [List.mem_cons, List.not_mem_nil, or_false] at hu
  rcases hu with rfl | rfl <;> rfl
theorem fldVals_snoc (l : Flds) (x y : ByteArray) : fldVals (l ++ [(x, y)]) = fldVals l ++ [.string x, .string y] := by rw [fldVals_append]; rfl
theorem filter_take {α : Type} (p : α → Bool) (l : List α) (k : Nat) (hk : k < l.length) : (l.take (k + 1)).filter p = (l.take k).filter p ++ (if p l[k] = true then [l[k]] else []) := by
  rw [List.take_succ_eq_append_getElem hk, List.filter_append]
  congr 1
  cases h : p l[k] <;> simp [h]
theorem filter_len {α : Type} (p : α → Bool) (l : List α) (k : Nat) : ((l.take k).filter p).length ≤ k := by
  have := List.length_filter_le p (l.take k)
  have h2 := List.length_take_le k l
  omega
/-- What a call leaves that hands back a list of fields in a row of its own, nil where there is none. -/
def FldsNil (w : World) (l : Flds) (e : Ending) (w' : World) : Prop :=
  ∃ v, e = .returned v ∧ w'.ownsRow w.heap.size 31 2 v l.length (fldVals l) ∧ Below w.heap.size w w'
/-- A row of fields, as one that is read. -/
theorem own_flds {w : World} {B : Nat} {v : Value} {l : Flds} (ho : w.ownsRow B 31 2 v l.length (fldVals l)) (hn : l.length ≤ 65536) (hs : ∀ p ∈ l, p.1.size ≤ 9223372036854775807 ∧ p.2.size ≤ 9223372036854775807) : ∃ x c, v = .slice x l.length c ∧ l.length ≤ c ∧ FldsAt w x l.length l := by
  rcases ho.2 with ⟨rfl, h0⟩ | ⟨g, cap, cur, rfl, hg, hh, hcap, _⟩
  · exact ⟨none, 0, by rw [h0], by omega, rfl, by omega, hs, .inl h0⟩
  · exact ⟨_, cap, rfl, hcap, FldsAt.of_own ho (by omega) hs⟩

set_option maxRecDepth 100000 in
set_option maxHeartbeats 3200000 in
theorem only_any (q : Nat) (lb : Array Value) (eq : ∀ args w, (callFunc q args).run Try.prog w = .ok (.enter q args) w) (p : ByteArray × ByteArray → Bool) (w : World) (x : Option Addr) (n c : Nat) (l : Flds) (h : FldsAt w x n l) (hfew : n ≤ 65536)
    (hp : ∀ W f, Below w.heap.size w W → f ∈ l → Calls Try.prog q (#[.agg #[.string f.1, .string f.2]] ++ lb) W fun e w' => e = .returned (.bool (p f)) ∧ Below W.heap.size W w') :
    Calls Try.prog 69 #[.slice x n c, .func (.func q) #[] lb] w (FldsNil w (l.filter p)) := by
  obtain ⟨i0, hi, hz⟩ := info_hid info_field
  have hl := h.len
  subst hl
  have hbig := h.big
  have HP := Lib.hid hp
  have HA := Lib.hid h
  clear hp h
  go_enter Try.func69, Try.ntmps69
  go_wp2
  go_loopg [5, 6, 9] l.length (fun gg s5 _ s9 wr => ∃ k : Nat, k ≤ l.length ∧ l.length - k ≤ gg ∧ s9 = .int .i64 k ∧ ((s5 = .slice none 0 0 ∧ Hid ((l.take k).filter p = [])) ∨ (∃ g' c', s5 = .slice (some ⟨g', 0, none⟩) ((l.take k).filter p).length c')) ∧ Hid (wr.ownsRow w.heap.size 31 2 s5 ((l.take k).filter p).length (fldVals ((l.take k).filter p))) ∧ Hid (Below w.heap.size w wr))
  case atStart => exact ⟨0, Nat.zero_le _, by omega, rfl, .inl ⟨rfl, rfl⟩, World.ownsRow_nil _ _ _ _, Below.refl _ w⟩
  case round =>
    obtain ⟨k, hk, hg, rfl, hform, hown, hb⟩ := hrel
    by_cases hkl : k < l.length
    · obtain ⟨b, o, f, rfl, hl2, hf, hc1, hc2, hs1, hs2⟩ := (HA.out.below hb.out).get k hkl
      have hcall := HP.out wr f hb.out (by rw [hf]; exact List.getElem_mem hkl)
      have htk := filter_take p l k hkl
      have hle := filter_len p l k
      have hbl : b < wr.heap.size := by
        rcases (HA.out.below hb.out).at_ with h0 | ⟨b', o', he, hlt, _⟩
        · omega
        · cases he; exact hlt
      rw [← hf] at htk
      obtain ⟨f1, f2⟩ := f
      simp only at hc1 hc2 hcall htk
      obtain ⟨A, hA⟩ : ∃ A, A = (l.take k).filter p := ⟨_, rfl⟩
      rw [← hA] at hown htk hle hform
      have HT := Lib.hid htk
      have zr : w.heap.size ≤ wr.heap.size := hb.out.size
      clear htk hA hf
      cases hps : p (f1, f2)
      · rw [hps] at hcall
        have HC := Lib.hid hcall
        have HPS := Lib.hid hps
        clear hcall hps
        go_wp2_with fail
        refine HC.out.mono ?_
        rintro e w3 ⟨rfl, hb3⟩
        have HB3 := Lib.hid hb3
        clear hb3
        go_wp2
        go_roundg (l.length - (k + 1))
        case measure => omega
        case rel =>
          have e9 : (l.take (k + 1)).filter p = A := by rw [HT.out, HPS.out]; simp
          refine ⟨k + 1, by omega, by omega, by go_num, ?_⟩
          rw [e9]
          exact ⟨hform, own_below hown.out HB3.out, grow_trans hb.out HB3.out⟩
      · rw [hps] at hcall
        have HC := Lib.hid hcall
        have HPS := Lib.hid hps
        clear hcall hps
        go_wp2_with fail
        refine HC.out.mono ?_
        rintro e w3 ⟨rfl, hb3⟩
        have d1 : w3.cell? ⟨b, o + k * 2, none⟩ = some (.string f1) := (hb3.cell (p := ⟨b, o + k * 2, none⟩) hbl).trans hc1
        have d2 : w3.cell? ⟨b, o + k * 2 + 1, none⟩ = some (.string f2) := (hb3.cell (p := ⟨b, o + k * 2 + 1, none⟩) hbl).trans hc2
        have HB3 := Lib.hid hb3
        have HO3 := Lib.hid (own_below hown.out HB3.out)
        have z3 : w.heap.size ≤ w3.heap.size := Nat.le_trans zr HB3.out.size
        have H5 : Hid (A.length + 1 ≤ maxLen) := by show _ ≤ _; unfold maxLen; omega
        have H6 : Hid ((A.length + 1) * 32 ≤ 140737488355328) := by show _ ≤ _; omega
        clear hb3
        rcases hform with ⟨rfl, _⟩ | ⟨g', c', rfl⟩
        all_goals
          go_wp2_with (at_builtin; refine wpList_append_new rfl (.tmp 18) (.tmp 23) 22 rfl w.heap.size 31 Try.underlying22 hi hz rfl (by decide) w3 [.string f1, .string f2] HO3.out rfl rfl rfl (one_fld _ _) H5.out H6.out z3 ?_; intro g4 c4 w4 hown4 hgrow4; have O4 := Lib.hid hown4; have G4 := Lib.hid hgrow4; clear hown4 hgrow4)
          go_roundg (l.length - (k + 1))
          case measure => omega
          case rel =>
            have e9 : (l.take (k + 1)).filter p = A ++ [(f1, f2)] := by rw [HT.out, HPS.out]; simp
            have e11 : (A ++ [(f1, f2)]).length = A.length + 1 := by simp
            have hbw := below_owned (grow_trans hb.out HB3.out) z3 HO3.out G4.out
            refine ⟨k + 1, by omega, by omega, by go_num, ?_⟩
            rw [e9, fldVals_snoc, e11]
            exact ⟨.inr ⟨g4, c4, rfl⟩, O4.out, hbw⟩
    · obtain rfl : k = l.length := by omega
      rw [List.take_length] at hform hown
      rcases hform with ⟨rfl, hn0⟩ | ⟨g', c', rfl⟩
      all_goals
        go_wp2
        go_ret
        exact ⟨_, rfl, hown.out, hb.out⟩

theorem keep1_any (a b : ByteArray) (w : World) (hs : a.size ≤ 9223372036854775807) : Calls Try.prog 70 #[.agg #[.string a, .string b]] w fun e w' => e = .returned (.bool (allowS a)) ∧ Below w.heap.size w w' := by
  go_enter Try.func70, Try.ntmps70
  go_wp2_with fail
  refine (allowed_any a _ hs).mono ?_
  rintro e w1 ⟨rfl, hb⟩
  go_wp2
  go_ret
  exact ⟨rfl, (below_new _ _).trans (hb.mono (by simp))⟩
theorem merge1_any (a b : ByteArray) (w : World) : Calls Try.prog 71 #[.agg #[.string a, .string b]] w fun e w' => e = .returned (.bool true) ∧ Below w.heap.size w w' := by
  go_enter Try.func71, Try.ntmps71
  go_wp2
  go_ret
  exact ⟨rfl, below_new _ _⟩

/-- The fields that may be a trailer's. -/
def keepF (l : Flds) : Flds := l.filter fun p => allowS p.1
set_option maxRecDepth 100000 in
set_option maxHeartbeats 800000 in
theorem tkeep_any (w : World) (x : Option Addr) (n c : Nat) (l : Flds) (h : FldsAt w x n l) (hfew : n ≤ 65536) :
    Calls Try.prog 19 #[.slice x n c] w (FldsNil w (keepF l)) := by
  have H := Lib.hid (only_any 70 #[] (fun _ _ => by kernel_rfl) (fun p => allowS p.1) w x n c l h hfew (fun W f hW hf => keep1_any f.1 f.2 W (h.str f hf).1))
  clear h
  go_enter Try.func19, Try.ntmps19
  go_wp2_with fail
  refine H.out.mono ?_
  rintro e w1 ⟨v, rfl, ho, hb⟩
  have HO := Lib.hid ho
  have HB := Lib.hid hb
  rcases ho.2 with ⟨rfl, h0⟩ | ⟨g, cap, cur, rfl, _⟩
  all_goals
    clear ho hb
    go_wp2
    go_ret
    exact ⟨_, rfl, HO.out, HB.out⟩

/-! ### the document's Keep -/
set_option maxRecDepth 100000 in
set_option maxHeartbeats 3200000 in
theorem rkeep_any (w : World) (x : Option Addr) (n c : Nat) (l : Flds) (h : FldsAt w x n l) (hfew : n ≤ 65536) (hsm : ∀ p ∈ l, p.1.size ≤ 140737488355328) :
    Calls Try.prog 20 #[.slice x n c] w (FldsNil w (keepF l)) := by
  obtain ⟨i0, hi, hz⟩ := info_hid info_field
  have hl := h.len
  subst hl
  have hbig := h.big
  have HSm := Lib.hid hsm
  have HA := Lib.hid h
  obtain ⟨p, hp⟩ : ∃ p : ByteArray × ByteArray → Bool, p = fun f => allowS f.1 := ⟨_, rfl⟩
  have HPe : Hid (∀ f, p f = allowS f.1) := by rw [hp]; exact fun _ => rfl
  have HK : Hid (keepF l = l.filter p) := by rw [hp]; exact rfl
  clear hsm h hp
  go_enter Try.func20, Try.ntmps20
  go_wp2
  go_loopg [3, 4] l.length (fun gg s3 s4 wr => ∃ (k g' c' : Nat), k ≤ l.length ∧ l.length - k ≤ gg ∧ s4 = .int .i64 k ∧ s3 = .slice (some ⟨g', 0, none⟩) ((l.take k).filter p).length c' ∧ Hid (wr.ownsRow w.heap.size 31 2 (.slice (some ⟨g', 0, none⟩) ((l.take k).filter p).length c') ((l.take k).filter p).length (fldVals ((l.take k).filter p))) ∧ Hid (Below w.heap.size w wr))
  case atStart => exact ⟨0, _, _, Nat.zero_le _, by omega, rfl, rfl, World.ownsRow_lit w #[] 0 (Nat.le_refl _) (by decide) rfl, below_new _ _⟩
  case round =>
    obtain ⟨k, g', c', hk, hg, rfl, rfl, hown, hb⟩ := hrel
    by_cases hkl : k < l.length
    · obtain ⟨b, o, f, rfl, hl2, hf, hc1, hc2, hs1, hs2⟩ := (HA.out.below hb.out).get k hkl
      have hsf : f.1.size ≤ 140737488355328 := by rw [hf]; exact HSm.out _ (List.getElem_mem hl2)
      have htk := filter_take p l k hkl
      have hle := filter_len p l k
      have hbl : b < wr.heap.size := by
        rcases (HA.out.below hb.out).at_ with h0 | ⟨b', o', he, hlt, _⟩
        · omega
        · cases he; exact hlt
      rw [← hf] at htk
      rw [HPe.out] at htk
      obtain ⟨f1, f2⟩ := f
      simp only at hc1 hc2 htk hsf
      obtain ⟨A, hA⟩ : ∃ A, A = (l.take k).filter p := ⟨_, rfl⟩
      rw [← hA] at hown htk hle ⊢
      have HT := Lib.hid htk
      have zr : w.heap.size ≤ wr.heap.size := hb.out.size
      clear htk hA hf
      cases hps : allowS f1
      · have HPS := Lib.hid hps
        clear hps
        go_wp2_with fail
        refine (rallowed_any f1 _ hsf).mono ?_
        rintro e w3 ⟨rfl, hb3⟩
        rw [HPS.out]
        have HB3 := Lib.hid hb3
        clear hb3
        go_wp2
        go_roundg (l.length - (k + 1))
        case measure => omega
        case rel =>
          have e9 : (l.take (k + 1)).filter p = A := by rw [HT.out, HPS.out]; simp
          refine ⟨k + 1, g', c', by omega, by omega, by go_num, ?_⟩
          rw [e9]
          exact ⟨rfl, own_below hown.out HB3.out, grow_trans hb.out HB3.out⟩
      · have HPS := Lib.hid hps
        clear hps
        go_wp2_with fail
        refine (rallowed_any f1 _ hsf).mono ?_
        rintro e w3 ⟨rfl, hb3⟩
        rw [HPS.out]
        have d1 : w3.cell? ⟨b, o + k * 2, none⟩ = some (.string f1) := (hb3.cell (p := ⟨b, o + k * 2, none⟩) hbl).trans hc1
        have d2 : w3.cell? ⟨b, o + k * 2 + 1, none⟩ = some (.string f2) := (hb3.cell (p := ⟨b, o + k * 2 + 1, none⟩) hbl).trans hc2
        have HB3 := Lib.hid hb3
        have HO3 := Lib.hid (own_below hown.out HB3.out)
        have z3 : w.heap.size ≤ w3.heap.size := Nat.le_trans zr HB3.out.size
        have H5 : Hid (A.length + 1 ≤ maxLen) := by show _ ≤ _; unfold maxLen; omega
        have H6 : Hid ((A.length + 1) * 32 ≤ 140737488355328) := by show _ ≤ _; omega
        clear hb3
        go_wp2_with (at_builtin; refine wpList_append_new rfl (.tmp 18) (.tmp 23) 22 rfl w.heap.size 31 Try.underlying22 hi hz rfl (by decide) w3 [.string f1, .string f2] HO3.out rfl rfl rfl (one_fld _ _) H5.out H6.out z3 ?_; intro g4 c4 w4 hown4 hgrow4; have O4 := Lib.hid hown4; have G4 := Lib.hid hgrow4; clear hown4 hgrow4)
        go_roundg (l.length - (k + 1))
        case measure => omega
        case rel =>
          have e9 : (l.take (k + 1)).filter p = A ++ [(f1, f2)] := by rw [HT.out, HPS.out]; simp
          have e11 : (A ++ [(f1, f2)]).length = A.length + 1 := by simp
          have hbw := below_owned (grow_trans hb.out HB3.out) z3 HO3.out G4.out
          refine ⟨k + 1, g4, c4, by omega, by omega, by go_num, ?_⟩
          rw [e9, fldVals_snoc, e11]
          exact ⟨rfl, O4.out, hbw⟩
    · obtain rfl : k = l.length := by omega
      rw [List.take_length] at hown ⊢
      go_wp2
      go_ret
      refine ⟨_, rfl, ?_, hb.out⟩
      rw [HK.out]
      exact hown.out
end Go.Proofs.Ytdpohibgipkhnaa
namespace Go.Proofs.Ytdpohibgipkhnaa
open Go.RowKit Go.Sort Go.Proofs.Ytdpohibgipkhnaa.Oct

theorem grown_below {w w' : World} {row : Option Nat} (h : Below w.heap.size w w') : w.grownBy w' row := ⟨h.os, h.tape, h.output, h.size, fun k hk _ => h.block k hk⟩
theorem own_same {w w' : World} {B e size n m g c : Nat} {xs : List Value} (h : w.ownsRow B e size (.slice (some ⟨g, 0, none⟩) m c) n xs) (hb : w'.heap[g]? = w.heap[g]?) : w'.ownsRow B e size (.slice (some ⟨g, 0, none⟩) m c) n xs := by
  refine ⟨h.1, ?_⟩
  rcases h.2 with h2 | ⟨g', cap, cur, hv, hg, hh, r⟩
  · exact .inl h2
  · refine .inr ⟨g', cap, cur, hv, hg, ?_, r⟩
    injection hv with hv
    injection hv with hv
    injection hv with hv
    subst hv
    exact hb.trans hh
theorem own_above {w w' : World} {B e size n : Nat} {v : Value} {xs : List Value} (h : w.ownsRow B e size v n xs) (hb : Below w.heap.size w w') : w'.ownsRow B e size v n xs := by
  refine ⟨h.1, ?_⟩
  rcases h.2 with h2 | ⟨g, cap, cur, hv, hg, hh, r⟩
  · exact .inl h2
  · exact .inr ⟨g, cap, cur, hv, hg, (hb.block g (lt_of_block hh)).trans hh, r⟩
theorem own_fld {w : World} {B e g n c : Nat} {l : Flds} (h : w.ownsRow B e 2 (.slice (some ⟨g, 0, none⟩) n c) n (fldVals l)) (i : Nat) (hi : i < l.length) :
    w.cell? ⟨g, i * 2, none⟩ = some (.string l[i].1) ∧ w.cell? ⟨g, i * 2 + 1, none⟩ = some (.string l[i].2) := by
  have hl := h.1
  rw [fldVals_length] at hl
  exact ⟨(h.cellAt _ (by omega)).trans (fldVals_x l i hi), (h.cellAt _ (by omega)).trans (fldVals_y l i hi)⟩
theorem own_fset {w : World} {B e g n c : Nat} {l : Flds} (h : w.ownsRow B e 2 (.slice (some ⟨g, 0, none⟩) n c) n (fldVals l)) (i : Nat) (hi : i < l.length) (x y : ByteArray) :
    ((w.setCell ⟨g, i * 2, none⟩ (.string x)).setCell ⟨g, i * 2 + 1, none⟩ (.string y)).ownsRow B e 2 (.slice (some ⟨g, 0, none⟩) n c) n (fldVals (l.set i (x, y))) := by
  have h2 := ((h.stored (i * 2) (.string x)).1.stored (i * 2 + 1) (.string y)).1
  rw [fldVals_set x y l i hi] at h2
  exact h2

set_option maxRecDepth 100000 in
set_option maxHeartbeats 1600000 in
theorem fclone_any (w : World) (x : Option Addr) (n c : Nat) (l : Flds) (h : FldsAt w x n l) (hfew : n ≤ 65536) :
    Calls Try.prog 79 #[.slice x n c] w (FldsPost w l) := by
  have hl := h.len
  subst hl
  cases x with
  | none =>
    have hl0 : l = [] := by
      rcases h.at_ with h0 | ⟨b, o, hx, _⟩
      · exact List.eq_nil_of_length_eq_zero h0
      · cases hx
    subst hl0
    have hnil := fun w : World => Lib.run_eql_slice_nil (P := Try.prog) w 22 31 none 0 c 0 0 Try.underlying22
    clear h
    go_enter Try.func79, Try.ntmps79
    go_wp2
    go_ret
    exact ⟨_, rfl, World.ownsRow_nil _ _ _ _, Below.refl _ _⟩
  | some ad =>
    obtain ⟨i0, hi0, hz⟩ := info_hid info_field
    have H1 : Hid (0 + l.length ≤ maxLen) := by show _ ≤ _; unfold maxLen; omega
    have H2 : Hid ((0 + l.length) * 32 ≤ 140737488355328) := by show _ ≤ _; omega
    have HS := Lib.hid (fld_one l)
    have HL := Lib.hid (World.ownsRow_lit (base := w.heap.size) (e := 31) (size := 2) w #[] 0 (Nat.le_refl _) (by decide) rfl)
    have HRa := Lib.hid (h.reads.alloc (Nat.le_refl _) (.cells #[] 31))
    have hnil := fun w : World => Lib.run_eql_slice_nil (P := Try.prog) w 22 31 (some ad) l.length c 0 0 Try.underlying22
    clear h
    go_enter Try.func79, Try.ntmps79
    go_wp2_with (at_builtin; refine wpList_append_any _ rfl (.tmp 5) (.tmp 6) _ rfl w.heap.size 31 i0 _ 2 32 Try.underlying22 hi0.out hz.out.1 hz.out.2.1 hz.out.2.2 rfl (by omega) _ 0 [] (by rfl) HL.out w.heap.size _ l.length c (fldVals l) rfl HRa.out HS.out H1.out H2.out (by simp) ?_; intro v1 w1 hown1 hg1 hat1; (rw [Nat.zero_add] at hown1); have HO := Lib.hid hown1; have HG1 := Lib.hid hg1; clear hown1 hg1 hat1)
    go_ret
    have hb1 : Below w.heap.size w w1 := ((Below.refl _ w).alloc (Nat.le_refl _) _).grown HG1.out (by simp) (by simp [Value.ownBlock])
    exact ⟨_, rfl, by simpa using HO.out, hb1⟩

/-! ### DeleteFunc: what lies in the row while it runs -/
structure DelInv (p : ByteArray × ByteArray → Bool) (l R : Flds) (i j : Nat) : Prop where
  len : R.length = l.length
  head : R.take i = (l.take j).filter (fun f => !p f)
  tail : R.drop j = l.drop j
  lt : i < j
  le : j ≤ l.length
theorem DelInv.at_ {p : ByteArray × ByteArray → Bool} {l R : Flds} {i j : Nat} (h : DelInv p l R i j) (hj : j < l.length) : R[j]'(by rw [h.len]; exact hj) = l[j] := by
  have h1 : (R.drop j)[0]? = (l.drop j)[0]? := by rw [h.tail]
  rw [List.getElem?_drop, List.getElem?_drop, Nat.add_zero, List.getElem?_eq_getElem hj, List.getElem?_eq_getElem (by rw [h.len]; exact hj)] at h1
  injection h1
theorem DelInv.start {p : ByteArray × ByteArray → Bool} {l : Flds} {k : Nat} (hk : k < l.length) (h : p l[k] = true) (hb : ∀ j (hj : j < k), p (l[j]'(by omega)) = false) : DelInv p l l k (k + 1) := by
  refine ⟨rfl, ?_, rfl, Nat.lt_succ_self _, hk⟩
  rw [filter_take _ _ _ hk]
  simp only [h, Bool.not_true, Bool.false_eq_true, if_false, List.append_nil]
  refine (List.filter_eq_self.2 fun a ha => ?_).symm
  obtain ⟨j, hj, rfl⟩ := List.mem_iff_getElem.1 ha
  have hjk : j < k := by rw [List.length_take] at hj; omega
  rw [List.getElem_take, hb j hjk]
  rfl
theorem DelInv.skip {p : ByteArray × ByteArray → Bool} {l R : Flds} {i j : Nat} (h : DelInv p l R i j) (hj : j < l.length) (hp : p l[j] = true) : DelInv p l R i (j + 1) := by
  refine ⟨h.len, ?_, ?_, by have := h.lt; omega, hj⟩
  · rw [filter_take _ _ _ hj, h.head]
    simp [hp]
  · have := congrArg (List.drop 1) h.tail
    rwa [List.drop_drop, List.drop_drop] at this
theorem DelInv.keep {p : ByteArray × ByteArray → Bool} {l R : Flds} {i j : Nat} (h : DelInv p l R i j) (hj : j < l.length) (hp : p l[j] = false) : DelInv p l (R.set i l[j]) (i + 1) (j + 1) := by
  have hlt := h.lt
  have hlen := h.len
  refine ⟨by rw [List.length_set]; exact h.len, ?_, ?_, by omega, hj⟩
  · rw [filter_take _ _ _ hj, ← h.head, List.take_succ_eq_append_getElem (by rw [List.length_set]; omega), List.take_set_of_le (Nat.le_refl _)]
    simp [hp]
  · rw [List.drop_set_of_lt (by omega)]
    have := congrArg (List.drop 1) h.tail
    rwa [List.drop_drop, List.drop_drop] at this
theorem DelInv.end_ {p : ByteArray × ByteArray → Bool} {l R : Flds} {i : Nat} (h : DelInv p l R i l.length) : R.take i = l.filter (fun f => !p f) := by
  rw [h.head, List.take_length]
end Go.Proofs.Ytdpohibgipkhnaa
namespace Go.Proofs.Ytdpohibgipkhnaa
open Go.RowKit Go.Sort Go.Proofs.Ytdpohibgipkhnaa.Oct

theorem own_grown {w w' w'' : World} {g : Nat} (h : w.grownBy w' (some g)) (hb : Below w'.heap.size w' w'') : w.grownBy w'' (some g) := h.trans (grown_below hb)
theorem grown_set {w w' : World} {g o : Nat} (h : w.grownBy w' (some g)) (u : Value) : w.grownBy (w'.setCell ⟨g, o, none⟩ u) (some g) :=
  ⟨h.os, h.tape, h.output, by simp [World.setCell]; exact h.size, fun k hk hkg => (Below.heap_setCell _ _ _ _ (fun e => hkg (by rw [e]))).trans (h.block k hk hkg)⟩
theorem zero_field (w : World) : (zeroValue 31).run Try.prog w = .ok (.agg #[.string ⟨#[]⟩, .string ⟨#[]⟩]) w := by
  obtain ⟨i0, hi0, hz⟩ := info_hid info_field
  simp [zeroValue, typeInfo, hi0.out, hz.out.1]

def DelFPost (w : World) (B : Nat) (row : Option Nat) (l : Flds) (e : Ending) (w' : World) : Prop :=
  ∃ v, e = .returned v ∧ w'.ownsRow B 31 2 v l.length (fldVals l) ∧ w.grownBy w' row ∧ v.ownBlock = row

set_option maxRecDepth 100000 in
set_option maxHeartbeats 3200000 in
theorem delfunc_row (q : Nat) (lb : Array Value) (eq : ∀ args w, (callFunc q args).run Try.prog w = .ok (.enter q args) w) (p : ByteArray × ByteArray → Bool) (w : World) (B g n c : Nat) (l : Flds) (h : w.ownsRow B 31 2 (.slice (some ⟨g, 0, none⟩) n c) n (fldVals l)) (hn : n = l.length) (hfew : n ≤ 65536)
    (hs : ∀ p ∈ l, p.1.size ≤ 9223372036854775807 ∧ p.2.size ≤ 9223372036854775807)
    (hp : ∀ W f, w.grownBy W (some g) → f ∈ l → Calls Try.prog q (#[.agg #[.string f.1, .string f.2]] ++ lb) W fun e w' => e = .returned (.bool (p f)) ∧ Below W.heap.size W w') :
    Calls Try.prog 78 #[.slice (some ⟨g, 0, none⟩) n c, .func (.func q) #[] lb] w (DelFPost w B (some g) (l.filter fun f => !p f)) := by
  subst hn
  have hF := FldsAt.of_own h (by omega) hs
  have HF := Lib.hid (idxfld_any q lb eq p w (some ⟨g, 0, none⟩) l.length c l hF (fun W f hW hf => hp W f (grown_below hW) hf))
  have hgl : B ≤ g ∧ g < w.heap.size := h.lt g rfl
  have hlc : l.length ≤ c ∧ c ≤ maxLen := by
    obtain ⟨g', cap, cur, hv, _, _, h1, h2, _⟩ := h.2.resolve_left (by simp)
    injection hv with hv _ hc
    subst hc
    exact ⟨h1, h2⟩
  obtain ⟨hlc, hcm⟩ := hlc
  have HO := Lib.hid h
  have HP := Lib.hid hp
  have HZ := Lib.hid zero_field
  clear h hp hF
  rcases idxB_cases p l with ⟨hix, hno⟩ | ⟨k0, hix, hk0, hpk, hbk, _⟩
  · rw [hix] at HF
    have HN : Hid (l.filter (fun f => !p f) = l) := by
      show _ = _
      refine List.filter_eq_self.2 fun a ha => ?_
      have := List.any_eq_false.1 hno a ha
      simpa using this
    clear hix hno
    go_enter Try.func78, Try.ntmps78
    go_wp2_with fail
    refine HF.out.mono ?_
    rintro e w1 ⟨rfl, hb1⟩
    have HB1 := Lib.hid hb1
    clear hb1
    go_wp2
    go_ret
    refine ⟨_, rfl, ?_, grown_below HB1.out, rfl⟩
    rw [HN.out]
    exact own_above HO.out HB1.out
  · rw [hix] at HF
    have HS0 := Lib.hid (DelInv.start hk0 hpk hbk)
    have i0 : (k0 : Int) < (l.length : Int) := by omega
    clear hix hpk hbk
    go_enter Try.func78, Try.ntmps78
    go_wp2_with fail
    refine HF.out.mono ?_
    rintro e w1 ⟨rfl, hb1⟩
    have HB1 := Lib.hid hb1
    clear hb1
    go_wp2_with fail
    go_loopg [5, 6] l.length (fun gg s5 s6 wr => ∃ (i j : Nat) (R : Flds), j ≤ l.length ∧ l.length - j ≤ gg ∧ s5 = .int .i64 i ∧ s6 = .int .i64 j ∧ i < j ∧ Hid (DelInv p l R i j) ∧ Hid (wr.ownsRow B 31 2 (.slice (some ⟨g, 0, none⟩) l.length c) l.length (fldVals R)) ∧ Hid (w.grownBy wr (some g)))
    case atStart => exact ⟨k0, k0 + 1, l, by omega, by omega, rfl, by go_num, by omega, HS0.out, own_above HO.out HB1.out, grown_below HB1.out⟩
    case round =>
      obtain ⟨i, j, R, hj, hgg, rfl, rfl, hij, hinv, hrow, hgr⟩ := hrel
      have hRl := hinv.out.len
      by_cases hjl : j < l.length
      · obtain ⟨d0, d1⟩ := own_fld hrow.out j (by omega)
        rw [hinv.out.at_ hjl] at d0 d1
        have hcall := HP.out (wr.alloc (.cells #[.string l[j].1, .string l[j].2] 31)) l[j] (hgr.out.trans (World.grownBy_alloc wr _ _)) (List.getElem_mem hjl)
        obtain ⟨f, hf⟩ : ∃ f, f = l[j] := ⟨_, rfl⟩
        rw [← hf] at d0 d1 hcall
        have HFj := Lib.hid hf
        obtain ⟨f1, f2⟩ := f
        simp only at d0 d1 hcall
        have hgw : g < wr.heap.size := (hrow.out.lt g rfl).2
        have i1 : (i : Int) < (l.length : Int) := by omega
        have i2 : (j : Int) < (l.length : Int) := by omega
        clear hf
        cases hps : p (f1, f2)
        · rw [hps] at hcall
          have HC := Lib.hid hcall
          have HI : Hid (DelInv p l (R.set i (f1, f2)) (i + 1) (j + 1)) := by
            have := hinv.out.keep hjl (by rw [← HFj.out]; exact hps)
            rwa [← HFj.out] at this
          clear hcall hps
          go_wp2_with fail
          refine HC.out.mono ?_
          rintro e w2 ⟨rfl, hb2⟩
          have hbx := (Blk.new wr 31 #[.string f1, .string f2]).below hb2 (by simp)
          have x0 := hbx.cell 0
          have x1 := hbx.cell 1
          have hrow2 := own_above (own_above hrow.out (below_new wr _)) hb2
          obtain ⟨y0, y1⟩ := own_fld hrow2 i (by omega)
          have fr := hrow2.frozenAt
          have HR2 := Lib.hid hrow2
          have HG2 := Lib.hid (own_grown (hgr.out.trans (World.grownBy_alloc wr _ _)) hb2)
          have hne : wr.heap.size ≠ g := by omega
          clear hb2 hrow2 hbx
          go_wp2
          go_roundg (l.length - (j + 1))
          case measure => omega
          case rel => exact ⟨i + 1, j + 1, R.set i (f1, f2), by omega, by omega, by go_num, by go_num, by omega, HI.out, own_fset HR2.out i (by omega) f1 f2, grown_set (grown_set HG2.out _) _⟩
        · rw [hps] at hcall
          have HC := Lib.hid hcall
          have HI : Hid (DelInv p l R i (j + 1)) := hinv.out.skip hjl (by rw [← HFj.out]; exact hps)
          clear hcall hps
          go_wp2_with fail
          refine HC.out.mono ?_
          rintro e w2 ⟨rfl, hb2⟩
          have HR2 := Lib.hid (own_above (own_above hrow.out (below_new wr _)) hb2)
          have HG2 := Lib.hid (own_grown (hgr.out.trans (World.grownBy_alloc wr _ _)) hb2)
          clear hb2
          go_wp2
          go_roundg (l.length - (j + 1))
          case measure => omega
          case rel => exact ⟨i, j + 1, R, by omega, by omega, rfl, by go_num, by omega, HI.out, HR2.out, HG2.out⟩
      · obtain rfl : j = l.length := by omega
        obtain ⟨g', cap', cur, hv, hg', hh, hn1, hn2, hn3, htk⟩ := hrow.out.2.resolve_left (by simp)
        injection hv with hv _ hc
        injection hv with hv
        injection hv with hv
        subst hv hc
        have hil : i ≤ l.length := by omega
        have hcl : cur.toList.length = c * 2 := by rw [Array.length_toList, hn3]
        have HB : Hid (Blk wr g 31 cur.toList.toArray) := by show Blk _ _ _ _; rw [Array.toArray_toList]; exact hh
        have H1 : Hid (i * 2 + (l.length - i) * (Value.agg #[.string ⟨#[]⟩, .string ⟨#[]⟩]).cells.size ≤ cur.toList.length) := by show i * 2 + (l.length - i) * 2 ≤ _; rw [hcl]; omega
        have H2 : Hid (∀ v ∈ (Builtin.zeroCells (Value.agg #[.string ⟨#[]⟩, .string ⟨#[]⟩]).cells (l.length - i)).toList, v.oneCell' = true) := by
          show ∀ _, _
          intro v hv
          rw [zero_flds, noFlds_vals] at hv
          obtain ⟨_, rfl⟩ := List.mem_replicate.1 hv
          rfl
        have HT : Hid (cur.toList.take (i * 2) = fldVals (l.filter fun f => !p f)) := by
          show _ = _
          rw [← hinv.out.end_, ← fldVals_take, ← htk, List.take_take, Nat.min_eq_left (by omega)]
        have hfl : (l.filter fun f => !p f).length = i := by
          rw [← hinv.out.end_, List.length_take]
          omega
        have i1 : (i : Int) ≤ (l.length : Int) := by omega
        have i2 : (i : Int) ≤ (c : Int) := by omega
        have i3 : ¬ c = i := by omega
        clear hh htk hn3
        go_wp2_with (refine wpList_clear_rows rfl (.tmp 38) 22 rfl 31 _ Try.underlying22 HZ.out g (i * 2) (l.length - i) (c - i) (by rfl) cur.toList _ HB.out H1.out H2.out ?_; intro w2 hB2 ho2 hb2 hs2; have HB2 := Lib.hid hB2; have HO2 := Lib.hid ho2; have HL2 := Lib.hid hb2; have HS2 := Lib.hid hs2; clear hB2 ho2 hb2 hs2)
        go_ret
        refine ⟨_, rfl, ?_, ⟨HL2.out.os.trans hgr.out.os, HL2.out.tape.trans hgr.out.tape, HL2.out.output.trans hgr.out.output, by rw [HS2.out]; exact hgr.out.size, fun k hk hkg => (HO2.out k (fun e => hkg (by rw [e]))).trans (hgr.out.block k hk hkg)⟩, rfl⟩
        rw [hfl]
        refine ⟨by rw [fldVals_length, hfl], .inr ⟨g, c, _, rfl, hg', HB2.out, by omega, hn2, ?_, ?_⟩⟩
        · simp [Builtin.zeroCells, Value.cells]
          have : cur.size = c * 2 := by rw [← Array.length_toList, hcl]
          omega
        · rw [List.toList_toArray, List.append_assoc, List.take_append_of_le_length (by rw [List.length_take, hcl]; omega), List.take_take, Nat.min_self]
          exact HT.out

theorem delfunc_nil (q : Nat) (lb : Array Value) (eq : ∀ args w, (callFunc q args).run Try.prog w = .ok (.enter q args) w) (p : ByteArray × ByteArray → Bool) (w : World) :
    Calls Try.prog 78 #[.slice none 0 0, .func (.func q) #[] lb] w fun e w' => e = .returned (.slice none 0 0) ∧ Below w.heap.size w w' := by
  have hF : FldsAt w none 0 [] := ⟨rfl, by omega, fun _ h => (by cases h), .inl rfl⟩
  have HF := Lib.hid (idxfld_any q lb eq p w none 0 0 [] hF (fun W f hW hf => by cases hf))
  have hix : idxB p [] = -1 := rfl
  rw [hix] at HF
  clear hix hF
  go_enter Try.func78, Try.ntmps78
  go_wp2_with fail
  refine HF.out.mono ?_
  rintro e w1 ⟨rfl, hb1⟩
  go_wp2
  go_ret
  exact ⟨rfl, hb1⟩

/-- On a row of the call's own, nil or not. -/
theorem delfunc_any (q : Nat) (lb : Array Value) (eq : ∀ args w, (callFunc q args).run Try.prog w = .ok (.enter q args) w) (p : ByteArray × ByteArray → Bool) (w : World) (B : Nat) (v : Value) (l : Flds) (h : w.ownsRow B 31 2 v l.length (fldVals l)) (hfew : l.length ≤ 65536)
    (hs : ∀ p ∈ l, p.1.size ≤ 9223372036854775807 ∧ p.2.size ≤ 9223372036854775807)
    (hp : ∀ W f, w.grownBy W v.ownBlock → f ∈ l → Calls Try.prog q (#[.agg #[.string f.1, .string f.2]] ++ lb) W fun e w' => e = .returned (.bool (p f)) ∧ Below W.heap.size W w') :
    Calls Try.prog 78 #[v, .func (.func q) #[] lb] w (DelFPost w B v.ownBlock (l.filter fun f => !p f)) := by
  rcases h.2 with ⟨rfl, h0⟩ | ⟨g, cap, cur, rfl, _⟩
  · obtain rfl : l = [] := List.eq_nil_of_length_eq_zero h0
    refine (delfunc_nil q lb eq p w).mono ?_
    rintro e w' ⟨rfl, hb⟩
    exact ⟨_, rfl, World.ownsRow_nil _ _ _ _, grown_below hb, rfl⟩
  · exact delfunc_row q lb eq p w B g l.length cap l h rfl hfew hs hp
end Go.Proofs.Ytdpohibgipkhnaa
namespace Go.Proofs.Ytdpohibgipkhnaa
open Go.RowKit Go.Sort Go.Proofs.Ytdpohibgipkhnaa.Oct

/-- The fields without some names. -/
def withoutF (l : Flds) (ns : List ByteArray) : Flds := l.filter fun f => !isB ns f.1
theorem withoutF_len (l : Flds) (ns : List ByteArray) : (withoutF l ns).length ≤ l.length := List.length_filter_le _ _
theorem withoutF_sub {l : Flds} {ns : List ByteArray} {f : ByteArray × ByteArray} (h : f ∈ withoutF l ns) : f ∈ l := (List.mem_filter.1 h).1
theorem StrsArg.get {w : World} {x : Option Addr} {n : Nat} {ns : List ByteArray} (h : StrsArg w x n ns) (k : Nat) (hk : k < n) : ∃ b o s, x = some ⟨b, o, none⟩ ∧ ∃ hl : k < ns.length, s = ns[k] ∧ w.cell? ⟨b, o + k, none⟩ = some (.string s) ∧ s.size ≤ 9223372036854775807 := by
  obtain ⟨h1, h2, h3, h4⟩ := h
  obtain ⟨b, o, hx, hlt, hc⟩ := h4.resolve_left (by omega)
  have hl : k < ns.length := by omega
  exact ⟨b, o, _, hx, hl, rfl, hc k hl, h3 _ (List.getElem_mem hl)⟩
theorem StrsArg.old {w w' : World} {x : Option Addr} {n : Nat} {ns : List ByteArray} (h : StrsArg w x n ns) {B : Nat} (hB : w.heap.size ≤ B) (hb : Below B w w') : StrsArg w' x n ns := h.below (hb.mono hB)
theorem one_blk_ne {w : World} {B e size n : Nat} {v : Value} {xs : List Value} (h : w.ownsRow B e size v n xs) : ∀ k, v.ownBlock = some k → B ≤ k ∧ k < w.heap.size := fun k hk => h.lt k hk

set_option maxRecDepth 100000 in
set_option maxHeartbeats 1600000 in
theorem hwithout_any (w : World) (x y : Option Addr) (n c m d : Nat) (l : Flds) (ns : List ByteArray) (h : FldsAt w x n l) (h2 : StrsArg w y m ns) (hfew : n ≤ 65536) :
    Calls Try.prog 33 #[.slice x n c, .slice y m d] w (FldsPost w (withoutF l ns)) := by
  have hl := h.len
  have HS := Lib.hid h.str
  have HC := Lib.hid (fclone_any w x n c l h hfew)
  have HN := Lib.hid h2
  clear h h2
  go_enter Try.func33, Try.ntmps33
  go_wp2_with fail
  refine HC.out.mono ?_
  rintro e w1 ⟨v1, rfl, ho1, hb1⟩
  have HO1 := Lib.hid ho1
  have HB1 := Lib.hid hb1
  clear ho1 hb1
  go_wp2_with fail
  refine (named_any y m d w1).mono ?_
  rintro e w2 ⟨rfl, rfl⟩
  go_wp2_with fail
  refine (delfunc_any 101 #[.pointer (some ⟨w1.heap.size, 0, none⟩)] (fun _ _ => by kernel_rfl) (fun f => isB ns f.1) _ w.heap.size v1 l (own_above HO1.out (below_new w1 _)) (by omega) HS.out (fun W f hW hf => ?_)).mono ?_
  · refine named1_any ns f.1 f.2 w1.heap.size W (HS.out f hf).1 ⟨y, m, d, (Blk.new w1 35 #[.slice y m d]).grown hW (fun e => ?_), ?_⟩
    · have := (HO1.out.lt _ e.symm).2
      omega
    · have hb : Below w.heap.size w W := (HB1.out.alloc HB1.out.size _).grown hW (by have := HB1.out.size; simp; omega) (fun k hk => (HO1.out.lt k hk).1)
      exact HN.out.below hb
  rintro e w3 ⟨v3, rfl, ho3, hg3, _⟩
  have HO3 := Lib.hid ho3
  have HG3 := Lib.hid hg3
  clear ho3 hg3
  go_wp2
  go_ret
  exact ⟨v3, rfl, HO3.out, (HB1.out.alloc HB1.out.size _).grown HG3.out (by have := HB1.out.size; simp; omega) (fun k hk => (HO1.out.lt k hk).1)⟩

set_option maxRecDepth 100000 in
set_option maxHeartbeats 1600000 in
theorem rwith_any (w : World) (x : Option Addr) (n c : Nat) (l : Flds) (name value : ByteArray) (h : FldsAt w x n l) (hfew : n ≤ 65536) :
    Calls Try.prog 36 #[.slice x n c, .string name, .string value] w (FldsPost w (l ++ [(name, value)])) := by
  have hl := h.len
  subst hl
  obtain ⟨i0, hi0, hz⟩ := info_hid info_field
  have H1 : Hid (0 + l.length ≤ maxLen) := by show _ ≤ _; unfold maxLen; omega
  have H2 : Hid ((0 + l.length) * 32 ≤ 140737488355328) := by show _ ≤ _; omega
  have H3 : Hid (l.length + 1 ≤ maxLen) := by show _ ≤ _; unfold maxLen; omega
  have H4 : Hid ((l.length + 1) * 32 ≤ 140737488355328) := by show _ ≤ _; omega
  have HS := Lib.hid (fld_one l)
  have HL := Lib.hid (World.ownsRow_lit (base := w.heap.size) (e := 31) (size := 2) w #[] 0 (Nat.le_refl _) (by decide) rfl)
  have HRa := Lib.hid (h.reads.alloc (Nat.le_refl _) (.cells #[] 31))
  clear h
  go_enter Try.func36, Try.ntmps36
  go_wp2_with (first
    | (at_builtin; refine wpList_append_any _ rfl (.tmp 7) (.tmp 8) _ rfl w.heap.size 31 i0 _ 2 32 Try.underlying22 hi0.out hz.out.1 hz.out.2.1 hz.out.2.2 rfl (by omega) _ 0 [] (by rfl) HL.out w.heap.size _ l.length c (fldVals l) rfl HRa.out HS.out H1.out H2.out (by simp) ?_; intro v1 w1 hown1 hg1 hat1; (rw [Nat.zero_add, List.nil_append] at hown1); have HO := Lib.hid hown1; have HB1 : Hid (Below w.heap.size w w1) := ((Below.refl _ w).alloc (Nat.le_refl _) _).grown hg1 (by simp) (by simp [Value.ownBlock]); have Z1 := HB1.out.size; clear hown1 hg1 hat1)
    | (at_builtin; refine wpList_append_at rfl (.tmp 9) (.tmp 13) 22 rfl w.heap.size 31 Try.underlying22 hi0 hz rfl (by decide) w1 [.string name, .string value] HO.out rfl rfl rfl (one_fld _ _) H3.out H4.out Z1 ?_; intro g4 c4 w4 hown4 hgrow4 hat4; have O4 := Lib.hid hown4; have G4 := Lib.hid hgrow4; clear hown4 hgrow4 hat4))
  go_ret
  refine ⟨_, rfl, ?_, below_owned HB1.out HB1.out.size HO.out G4.out⟩
  rw [fldVals_snoc, List.length_append]
  exact O4.out
end Go.Proofs.Ytdpohibgipkhnaa
