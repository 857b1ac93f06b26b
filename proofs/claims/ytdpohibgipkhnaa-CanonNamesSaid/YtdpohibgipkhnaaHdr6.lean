
/-
  THE WALKS of slices.Clone and slices.DeleteFunc at fields.
-/
import Derived.Test.YtdpohibgipkhnaaTrl1
import Derived.Maps.RangeWalk
namespace Go.Proofs.Ytdpohibgipkhnaa
open Go.RowKit Go.Sort Go.Proofs.Ytdpohibgipkhnaa.Oct

theorem grown_below {w w' : World} {row : Option Nat} (h : Below w.heap.size w w') : w.grownBy w' row := ⟨h.os, h.tape, h.output, h.size, fun k hk _ => h.block k hk⟩
theorem own_same {w w' : World} {B e size n m g c : Nat} {xs : List Value} (h : w.ownsRow B e size (.slice (some ⟨g, 0, none⟩) m c) n xs) (hb : w'.heap[g]? = w.heap[g]?) : w'.ownsRow B e size (.slice (some ⟨g, 0, none⟩) m c) n xs := by
  refine ⟨h.1, ?_⟩
  rcases h.2 with h2 | ⟨g', cap, cur, hv, hg, hh, r⟩
  · exact .inl h2
  · refine .inr ⟨g', cap, cur, hv, hg, ?_, r⟩
    injection hv with hv
    injection hv with hv
    injection hv with hv
    subst hv
    exact hb.trans hh
theorem own_above {w w' : World} {B e size n : Nat} {v : Value} {xs : List Value} (h : w.ownsRow B e size v n xs) (hb : Below w.heap.size w w') : w'.ownsRow B e size v n xs := by
  refine ⟨h.1, ?_⟩
  rcases h.2 with h2 | ⟨g, cap, cur, hv, hg, hh, r⟩
  · exact .inl h2
  · exact .inr ⟨g, cap, cur, hv, hg, (hb.block g (lt_of_block hh)).trans hh, r⟩
theorem own_fld {w : World} {B e g n c : Nat} {l : Flds} (h : w.ownsRow B e 2 (.slice (some ⟨g, 0, none⟩) n c) n (fldVals l)) (i : Nat) (hi : i < l.length) :
    w.cell? ⟨g, i * 2, none⟩ = some (.string l[i].1) ∧ w.cell? ⟨g, i * 2 + 1, none⟩ = some (.string l[i].2) := by
  have hl := h.1
  rw [fldVals_length] at hl
  exact ⟨(h.cellAt _ (by omega)).trans (fldVals_x l i hi), (h.cellAt _ (by omega)).trans (fldVals_y l i hi)⟩
theorem own_fset {w : World} {B e g n c : Nat} {l : Flds} (h : w.ownsRow B e 2 (.slice (some ⟨g, 0, none⟩) n c) n (fldVals l)) (i : Nat) (hi : i < l.length) (x y : ByteArray) :
    ((w.setCell ⟨g, i * 2, none⟩ (.string x)).setCell ⟨g, i * 2 + 1, none⟩ (.string y)).ownsRow B e 2 (.slice (some ⟨g, 0, none⟩) n c) n (fldVals (l.set i (x, y))) := by
  have h2 := ((h.stored (i * 2) (.string x)).1.stored (i * 2 + 1) (.string y)).1
  rw [fldVals_set x y l i hi] at h2
  exact h2

set_option maxRecDepth 100000 in
set_option maxHeartbeats 1600000 in
theorem fclone_any (w : World) (x : Option Addr) (n c : Nat) (l : Flds) (h : FldsAt w x n l) (hfew : n ≤ 65536) :
    Calls Try.prog 79 #[.slice x n c] w (FldsPost w l) := by
  have hl := h.len
  subst hl
  cases x with
  | none =>
    have hl0 : l = [] := by
      rcases h.at_ with h0 | ⟨b, o, hx, _⟩
      · exact List.eq_nil_of_length_eq_zero h0
      · cases hx
    subst hl0
    have hnil := fun w : World => Lib.run_eql_slice_nil (P := Try.prog) w 22 31 none 0 c 0 0 Try.underlying22
    clear h
    go_enter Try.func79, Try.ntmps79
    go_wp2
    go_ret
    exact ⟨_, rfl, World.ownsRow_nil _ _ _ _, Below.refl _ _⟩
  | some ad =>
    obtain ⟨i0, hi0, hz⟩ := info_hid info_field
    have H1 : Hid (0 + l.length ≤ maxLen) := by show _ ≤ _; unfold maxLen; omega
    have H2 : Hid ((0 + l.length) * 32 ≤ 140737488355328) := by show _ ≤ _; omega
    have HS := Lib.hid (fld_one l)
    have HL := Lib.hid (World.ownsRow_lit (base := w.heap.size) (e := 31) (size := 2) w #[] 0 (Nat.le_refl _) (by decide) rfl)
    have HRa := Lib.hid (h.reads.alloc (Nat.le_refl _) (.cells #[] 31))
    have hnil := fun w : World => Lib.run_eql_slice_nil (P := Try.prog) w 22 31 (some ad) l.length c 0 0 Try.underlying22
    clear h
    go_enter Try.func79, Try.ntmps79
    go_wp2_with (at_builtin; refine wpList_append_any _ rfl (.tmp 5) (.tmp 6) _ rfl w.heap.size 31 i0 _ 2 32 Try.underlying22 hi0.out hz.out.1 hz.out.2.1 hz.out.2.2 rfl (by omega) _ 0 [] (by rfl) HL.out w.heap.size _ l.length c (fldVals l) rfl HRa.out HS.out H1.out H2.out (by simp) ?_; intro v1 w1 hown1 hg1 hat1; (rw [Nat.zero_add] at hown1); have HO := Lib.hid hown1; have HG1 := Lib.hid hg1; clear hown1 hg1 hat1)
    go_ret
    have hb1 : Below w.heap.size w w1 := ((Below.refl _ w).alloc (Nat.le_refl _) _).grown HG1.out (by simp) (by simp [Value.ownBlock])
    exact ⟨_, rfl, by simpa using HO.out, hb1⟩

/-! ### DeleteFunc: what lies in the row while it runs -/
structure DelInv (p : ByteArray × ByteArray → Bool) (l R : Flds) (i j : Nat) : Prop where
  len : R.length = l.length
  head : R.take i = (l.take j).filter (fun f => !p f)
  tail : R.drop j = l.drop j
  lt : i < j
  le : j ≤ l.length
theorem DelInv.at_ {p : ByteArray × ByteArray → Bool} {l R : Flds} {i j : Nat} (h : DelInv p l R i j) (hj : j < l.length) : R[j]'(by rw [h.len]; exact hj) = l[j] := by
  have h1 : (R.drop j)[0]? = (l.drop j)[0]? := by rw [h.tail]
  rw [List.getElem?_drop, List.getElem?_drop, Nat.add_zero, List.getElem?_eq_getElem hj, List.getElem?_eq_getElem (by rw [h.len]; exact hj)] at h1
  injection h1
theorem DelInv.start {p : ByteArray × ByteArray → Bool} {l : Flds} {k : Nat} (hk : k < l.length) (h : p l[k] = true) (hb : ∀ j (hj : j < k), p (l[j]'(by omega)) = false) : DelInv p l l k (k + 1) := by
  refine ⟨rfl, ?_, rfl, Nat.lt_succ_self _, hk⟩
  rw [filter_take _ _ _ hk]
  simp only [h, Bool.not_true, Bool.false_eq_true, if_false, List.append_nil]
  refine (List.filter_eq_self.2 fun a ha => ?_).symm
  obtain ⟨j, hj, rfl⟩ := List.mem_iff_getElem.1 ha
  have hjk : j < k := by rw [List.length_take] at hj; omega
  rw [List.getElem_take, hb j hjk]
  rfl
theorem DelInv.skip {p : ByteArray × ByteArray → Bool} {l R : Flds} {i j : Nat} (h : DelInv p l R i j) (hj : j < l.length) (hp : p l[j] = true) : DelInv p l R i (j + 1) := by
  refine ⟨h.len, ?_, ?_, by have := h.lt; omega, hj⟩
  · rw [filter_take _ _ _ hj, h.head]
    simp [hp]
  · have := congrArg (List.drop 1) h.tail
    rwa [List.drop_drop, List.drop_drop] at this
theorem DelInv.keep {p : ByteArray × ByteArray → Bool} {l R : Flds} {i j : Nat} (h : DelInv p l R i j) (hj : j < l.length) (hp : p l[j] = false) : DelInv p l (R.set i l[j]) (i + 1) (j + 1) := by
  have hlt := h.lt
  have hlen := h.len
  refine ⟨by rw [List.length_set]; exact h.len, ?_, ?_, by omega, hj⟩
  · rw [filter_take _ _ _ hj, ← h.head, List.take_succ_eq_append_getElem (by rw [List.length_set]; omega), List.take_set_of_le (Nat.le_refl _)]
    simp [hp]
  · rw [List.drop_set_of_lt (by omega)]
    have := congrArg (List.drop 1) h.tail
    rwa [List.drop_drop, List.drop_drop] at this
theorem DelInv.end_ {p : ByteArray × ByteArray → Bool} {l R : Flds} {i : Nat} (h : DelInv p l R i l.length) : R.take i = l.filter (fun f => !p f) := by
  rw [h.head, List.take_length]
end Go.Proofs.Ytdpohibgipkhnaa
