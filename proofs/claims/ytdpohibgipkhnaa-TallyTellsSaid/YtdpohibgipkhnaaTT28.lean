/-
  THE WALKS of slices.Clone and slices.DeleteFunc at fields.
  THE WALK of slices.DeleteFunc at fields, in place.
  THE WALKS of header.Without, and of the document's Without and With.
  THE WALK of the document's Without.
  THE WALK of the document's Set, and what it gives.
-/
import Derived.Test.YtdpohibgipkhnaaTT27
import Derived.Maps.RangeWalk
set_option linter.unusedVariables false
set_option linter.unusedSimpArgs false
namespace Go.Proofs.Ytdpohibgipkhnaa
open Go.RowKit Go.Sort Go.Proofs.Ytdpohibgipkhnaa.Oct

theorem grown_below {w w' : World} {row : Option Nat} (h : Below w.heap.size w w') : w.grownBy w' row := ⟨h.os, h.tape, h.output, h.size, fun k hk _ => h.block k hk⟩
theorem own_same {w w' : World} {B e size n m g c : Nat} {xs : List Value} (h : w.ownsRow B e size (.slice (some ⟨g, 0, none⟩) m c) n xs) (hb : w'.heap[g]? = w.heap[g]?) : w'.ownsRow B e size (.slice (some ⟨g, 0, none⟩) m c) n xs := by
  refine ⟨h.1, ?_⟩
  rcases h.2 with h2 | ⟨g', cap, cur, hv, hg, hh, r⟩
  · exact .inl h2
  · refine .inr ⟨g', cap, cur, hv, hg, ?_, r⟩
    injection hv with hv
    injection hv with hv
    injection hv with hv
    subst hv
    exact hb.trans hh
theorem own_above {w w' : World} {B e size n : Nat} {v : Value} {xs : List Value} (h : w.ownsRow B e size v n xs) (hb : Below w.heap.size w w') : w'.ownsRow B e size v n xs := by
  refine ⟨h.1, ?_⟩
  rcases h.2 with h2 | ⟨g, cap, cur, hv, hg, hh, r⟩
  · exact .inl h2
  · exact .inr ⟨g, cap, cur, hv, hg, (hb.block g (lt_of_block hh)).trans hh, r⟩
theorem own_fld {w : World} {B e g n c : Nat} {l : Flds} (h : w.ownsRow B e 2 (.slice (some ⟨g, 0, none⟩) n c) n (fldVals l)) (i : Nat) (hi : i < l.length) :
    w.cell? ⟨g, i * 2, none⟩ = some (.string l[i].1) ∧ w.cell? ⟨g, i * 2 + 1, none⟩ = some (.string l[i].2) := by
  have hl := h.1
  rw [fldVals_length] at hl
  exact ⟨(h.cellAt _ (by omega)).trans (fldVals_x l i hi), (h.cellAt _ (by omega)).trans (fldVals_y l i hi)⟩
theorem own_fset {w : World} {B e g n c : Nat} {l : Flds} (h : w.ownsRow B e 2 (.slice (some ⟨g, 0, none⟩) n c) n (fldVals l)) (i : Nat) (hi : i < l.length) (x y : ByteArray) :
    ((w.setCell ⟨g, i * 2, none⟩ (.string x)).setCell ⟨g, i * 2 + 1, none⟩ (.string y)).ownsRow B e 2 (.slice (some ⟨g, 0, none⟩) n c) n (fldVals (l.set i (x, y))) := by
  have h2 := ((h.stored (i * 2) (.string x)).1.stored (i * 2 + 1) (.string y)).1
  rw [fldVals_set x y l i hi] at h2
  exact h2

set_option maxRecDepth 100000 in
set_option maxHeartbeats 1600000 in
theorem fclone_any (w : World) (x : Option Addr) (n c : Nat) (l : Flds) (h : FldsAt w x n l) (hfew : n ≤ 65536) :
    Calls Try.prog 79 #[.slice x n c] w (FldsPost w l) := by
  have hl := h.len
  subst hl
  cases x with
  | none =>
    have hl0 : l = [] := by
      rcases h.at_ with h0 | ⟨b, o, hx, _⟩
      · exact List.eq_nil_of_length_eq_zero h0
      · cases hx
    subst hl0
    have hnil := fun w : World => Lib.run_eql_slice_nil (P := Try.prog) w 22 31 none 0 c 0 0 Try.underlying22
    clear h
    go_enter Try.func79, Try.ntmps79
    go_wp2
    go_ret
    exact ⟨_, rfl, World.ownsRow_nil _ _ _ _, Below.refl _ _⟩
  | some ad =>
    obtain ⟨i0, hi0, hz⟩ := info_hid info_field
    have H1 : Hid (0 + l.length ≤ maxLen) := by show _ ≤ _; unfold maxLen; omega
    have H2 : Hid ((0 + l.length) * 32 ≤ 140737488355328) := by show _ ≤ _; omega
    have HS := Lib.hid (fld_one l)
    have HL := Lib.hid (World.ownsRow_lit (base := w.heap.size) (e := 31) (size := 2) w #[] 0 (Nat.le_refl _) (by decide) rfl)
    have HRa := Lib.hid (h.reads.alloc (Nat.le_refl _) (.cells #[] 31))
    have hnil := fun w : World => Lib.run_eql_slice_nil (P := Try.prog) w 22 31 (some ad) l.length c 0 0 Try.underlying22
    clear h
    go_enter Try.func79, Try.ntmps79
    go_wp2_with (at_builtin; refine wpList_append_any _ rfl (.tmp 5) (.tmp 6) _ rfl w.heap.size 31 i0 _ 2 32 Try.underlying22 hi0.out hz.out.1 hz.out.2.1 hz.out.2.2 rfl (by omega) _ 0 [] (by rfl) HL.out w.heap.size _ l.length c (fldVals l) rfl HRa.out HS.out H1.out H2.out (by simp) ?_; intro v1 w1 hown1 hg1 hat1; (rw [Nat.zero_add] at hown1); have HO := Lib.hid hown1; have HG1 := Lib.hid hg1; clear hown1 hg1 hat1)
    go_ret
    have hb1 : Below w.heap.size w w1 := ((Below.refl _ w).alloc (Nat.le_refl _) _).grown HG1.out (by simp) (by simp [Value.ownBlock])
    exact ⟨_, rfl, by simpa using HO.out, hb1⟩

/-! ### DeleteFunc: what lies in the row while it runs -/
structure DelInv (p : ByteArray × ByteArray → Bool) (l R : Flds) (i j : Nat) : Prop where
  len : R.length = l.length
  head : R.take i = (l.take j).filter (fun f => !p f)
  tail : R.drop j = l.drop j
  lt : i < j
  le : j ≤ l.length
theorem DelInv.at_ {p : ByteArray × ByteArray → Bool} {l R : Flds} {i j : Nat} (h : DelInv p l R i j) (hj : j < l.length) : R[j]'(by rw [h.len]; exact hj) = l[j] := by
  have h1 : (R.drop j)[0]? = (l.drop j)[0]? := by rw [h.tail]
  rw [List.getElem?_drop, List.getElem?_drop, Nat.add_zero, List.getElem?_eq_getElem hj, List.getElem?_eq_getElem (by rw [h.len]; exact hj)] at h1
  injection h1
theorem DelInv.start {p : ByteArray × ByteArray → Bool} {l : Flds} {k : Nat} (hk : k < l.length) (h : p l[k] = true) (hb : ∀ j (hj : j < k), p (l[j]'(by omega)) = false) : DelInv p l l k (k + 1) := by
  refine ⟨rfl, ?_, rfl, Nat.lt_succ_self _, hk⟩
  rw [filter_take _ _ _ hk]
  simp only [h, Bool.not_true, Bool.false_eq_true, if_false, List.append_nil]
  refine (List.filter_eq_self.2 fun a ha => ?_).symm
  obtain ⟨j, hj, rfl⟩ := List.mem_iff_getElem.1 ha
  have hjk : j < k := by rw [List.length_take] at hj; omega
  rw [List.getElem_take, hb j hjk]
  rfl
theorem DelInv.skip {p : ByteArray × ByteArray → Bool} {l R : Flds} {i j : Nat} (h : DelInv p l R i j) (hj : j < l.length) (hp : p l[j] = true) : DelInv p l R i (j + 1) := by
  refine ⟨h.len, ?_, ?_, by have := h.lt; omega, hj⟩
  · rw [filter_take _ _ _ hj, h.head]
    simp [hp]
  · have := congrArg (List.drop 1) h.tail
    rwa [List.drop_drop, List.drop_drop] at this
theorem DelInv.keep {p : ByteArray × ByteArray → Bool} {l R : Flds} {i j : Nat} (h : DelInv p l R i j) (hj : j < l.length) (hp : p l[j] = false) : DelInv p l (R.set i l[j]) (i + 1) (j + 1) := by
  have hlt := h.lt
  have hlen := h.len
  refine ⟨by rw [List.length_set]; exact h.len, ?_, ?_, by omega, hj⟩
  · rw [filter_take _ _ _ hj, ← h.head, List.take_succ_eq_append_getElem (by rw [List.length_set]; omega), List.take_set_of_le (Nat.le_refl _)]
    simp [hp]
  · rw [List.drop_set_of_lt (by omega)]
    have := congrArg (List.drop 1) h.tail
    rwa [List.drop_drop, List.drop_drop] at this
theorem DelInv.end_ {p : ByteArray × ByteArray → Bool} {l R : Flds} {i : Nat} (h : DelInv p l R i l.length) : R.take i = l.filter (fun f => !p f) := by
  rw [h.head, List.take_length]
end Go.Proofs.Ytdpohibgipkhnaa
namespace Go.Proofs.Ytdpohibgipkhnaa
open Go.RowKit Go.Sort Go.Proofs.Ytdpohibgipkhnaa.Oct

theorem own_grown {w w' w'' : World} {g : Nat} (h : w.grownBy w' (some g)) (hb : Below w'.heap.size w' w'') : w.grownBy w'' (some g) := h.trans (grown_below hb)
theorem grown_set {w w' : World} {g o : Nat} (h : w.grownBy w' (some g)) (u : Value) : w.grownBy (w'.setCell ⟨g, o, none⟩ u) (some g) :=
  ⟨h.os, h.tape, h.output, by simp [World.setCell]; exact h.size, fun k hk hkg => (Below.heap_setCell _ _ _ _ (fun e => hkg (by rw [e]))).trans (h.block k hk hkg)⟩
theorem zero_field (w : World) : (zeroValue 31).run Try.prog w = .ok (.agg #[.string ⟨#[]⟩, .string ⟨#[]⟩]) w := by
  obtain ⟨i0, hi0, hz⟩ := info_hid info_field
  simp [zeroValue, typeInfo, hi0.out, hz.out.1]

def DelFPost (w : World) (B : Nat) (row : Option Nat) (l : Flds) (e : Ending) (w' : World) : Prop :=
  ∃ v, e = .returned v ∧ w'.ownsRow B 31 2 v l.length (fldVals l) ∧ w.grownBy w' row ∧ v.ownBlock = row

set_option maxRecDepth 100000 in
set_option maxHeartbeats 3200000 in
theorem delfunc_row (q : Nat) (lb : Array Value) (eq : ∀ args w, (callFunc q args).run Try.prog w = .ok (.enter q args) w) (p : ByteArray × ByteArray → Bool) (w : World) (B g n c : Nat) (l : Flds) (h : w.ownsRow B 31 2 (.slice (some ⟨g, 0, none⟩) n c) n (fldVals l)) (hn : n = l.length) (hfew : n ≤ 65536)
    (hs : ∀ p ∈ l, p.1.size ≤ 9223372036854775807 ∧ p.2.size ≤ 9223372036854775807)
    (hp : ∀ W f, w.grownBy W (some g) → f ∈ l → Calls Try.prog q (#[.agg #[.string f.1, .string f.2]] ++ lb) W fun e w' => e = .returned (.bool (p f)) ∧ Below W.heap.size W w') :
    Calls Try.prog 78 #[.slice (some ⟨g, 0, none⟩) n c, .func (.func q) #[] lb] w (DelFPost w B (some g) (l.filter fun f => !p f)) := by
  subst hn
  have hF := FldsAt.of_own h (by omega) hs
  have HF := Lib.hid (idxfld_any q lb eq p w (some ⟨g, 0, none⟩) l.length c l hF (fun W f hW hf => hp W f (grown_below hW) hf))
  have hgl : B ≤ g ∧ g < w.heap.size := h.lt g rfl
  have hlc : l.length ≤ c ∧ c ≤ maxLen := by
    obtain ⟨g', cap, cur, hv, _, _, h1, h2, _⟩ := h.2.resolve_left (by simp)
    injection hv with hv _ hc
    subst hc
    exact ⟨h1, h2⟩
  obtain ⟨hlc, hcm⟩ := hlc
  have HO := Lib.hid h
  have HP := Lib.hid hp
  have HZ := Lib.hid zero_field
  clear h hp hF
  rcases idxB_cases p l with ⟨hix, hno⟩ | ⟨k0, hix, hk0, hpk, hbk, _⟩
  · rw [hix] at HF
    have HN : Hid (l.filter (fun f => !p f) = l) := by
      show _ = _
      refine List.filter_eq_self.2 fun a ha => ?_
      have := List.any_eq_false.1 hno a ha
      simpa using this
    clear hix hno
    go_enter Try.func78, Try.ntmps78
    go_wp2_with fail
    refine HF.out.mono ?_
    rintro e w1 ⟨rfl, hb1⟩
    have HB1 := Lib.hid hb1
    clear hb1
    go_wp2
    go_ret
    refine ⟨_, rfl, ?_, grown_below HB1.out, rfl⟩
    rw [HN.out]
    exact own_above HO.out HB1.out
  · rw [hix] at HF
    have HS0 := Lib.hid (DelInv.start hk0 hpk hbk)
    have i0 : (k0 : Int) < (l.length : Int) := by omega
    clear hix hpk hbk
    go_enter Try.func78, Try.ntmps78
    go_wp2_with fail
    refine HF.out.mono ?_
    rintro e w1 ⟨rfl, hb1⟩
    have HB1 := Lib.hid hb1
    clear hb1
    go_wp2_with fail
    go_loopg [5, 6] l.length (fun gg s5 s6 wr => ∃ (i j : Nat) (R : Flds), j ≤ l.length ∧ l.length - j ≤ gg ∧ s5 = .int .i64 i ∧ s6 = .int .i64 j ∧ i < j ∧ Hid (DelInv p l R i j) ∧ Hid (wr.ownsRow B 31 2 (.slice (some ⟨g, 0, none⟩) l.length c) l.length (fldVals R)) ∧ Hid (w.grownBy wr (some g)))
    case atStart => exact ⟨k0, k0 + 1, l, by omega, by omega, rfl, by go_num, by omega, HS0.out, own_above HO.out HB1.out, grown_below HB1.out⟩
    case round =>
      obtain ⟨i, j, R, hj, hgg, rfl, rfl, hij, hinv, hrow, hgr⟩ := hrel
      have hRl := hinv.out.len
      by_cases hjl : j < l.length
      · obtain ⟨d0, d1⟩ := own_fld hrow.out j (by omega)
        rw [hinv.out.at_ hjl] at d0 d1
        have hcall := HP.out (wr.alloc (.cells #[.string l[j].1, .string l[j].2] 31)) l[j] (hgr.out.trans (World.grownBy_alloc wr _ _)) (List.getElem_mem hjl)
        obtain ⟨f, hf⟩ : ∃ f, f = l[j] := ⟨_, rfl⟩
        rw [← hf] at d0 d1 hcall
        have HFj := Lib.hid hf
        obtain ⟨f1, f2⟩ := f
        simp only at d0 d1 hcall
        have hgw : g < wr.heap.size := (hrow.out.lt g rfl).2
        have i1 : (i : Int) < (l.length : Int) := by omega
        have i2 : (j : Int) < (l.length : Int) := by omega
        clear hf
        cases hps : p (f1, f2)
        · rw [hps] at hcall
          have HC := Lib.hid hcall
          have HI : Hid (DelInv p l (R.set i (f1, f2)) (i + 1) (j + 1)) := by
            have := hinv.out.keep hjl (by rw [← HFj.out]; exact hps)
            rwa [← HFj.out] at this
          clear hcall hps
          go_wp2_with fail
          refine HC.out.mono ?_
          rintro e w2 ⟨rfl, hb2⟩
          have hbx := (Blk.new wr 31 #[.string f1, .string f2]).below hb2 (by simp)
          have x0 := hbx.cell 0
          have x1 := hbx.cell 1
          have hrow2 := own_above (own_above hrow.out (below_new wr _)) hb2
          obtain ⟨y0, y1⟩ := own_fld hrow2 i (by omega)
          have fr := hrow2.frozenAt
          have HR2 := Lib.hid hrow2
          have HG2 := Lib.hid (own_grown (hgr.out.trans (World.grownBy_alloc wr _ _)) hb2)
          have hne : wr.heap.size ≠ g := by omega
          clear hb2 hrow2 hbx
          go_wp2
          go_roundg (l.length - (j + 1))
          case measure => omega
          case rel => exact ⟨i + 1, j + 1, R.set i (f1, f2), by omega, by omega, by go_num, by go_num, by omega, HI.out, own_fset HR2.out i (by omega) f1 f2, grown_set (grown_set HG2.out _) _⟩
        · rw [hps] at hcall
          have HC := Lib.hid hcall
          have HI : Hid (DelInv p l R i (j + 1)) := hinv.out.skip hjl (by rw [← HFj.out]; exact hps)
          clear hcall hps
          go_wp2_with fail
          refine HC.out.mono ?_
          rintro e w2 ⟨rfl, hb2⟩
          have HR2 := Lib.hid (own_above (own_above hrow.out (below_new wr _)) hb2)
          have HG2 := Lib.hid (own_grown (hgr.out.trans (World.grownBy_alloc wr _ _)) hb2)
          clear hb2
          go_wp2
          go_roundg (l.length - (j + 1))
          case measure => omega
          case rel => exact ⟨i, j + 1, R, by omega, by omega, rfl, by go_num, by omega, HI.out, HR2.out, HG2.out⟩
      · obtain rfl : j = l.length := by omega
        obtain ⟨g', cap', cur, hv, hg', hh, hn1, hn2, hn3, htk⟩ := hrow.out.2.resolve_left (by simp)
        injection hv with hv _ hc
        injection hv with hv
        injection hv with hv
        subst hv hc
        have hil : i ≤ l.length := by omega
        have hcl : cur.toList.length = c * 2 := by rw [Array.length_toList, hn3]
        have HB : Hid (Blk wr g 31 cur.toList.toArray) := by show Blk _ _ _ _; rw [Array.toArray_toList]; exact hh
        have H1 : Hid (i * 2 + (l.length - i) * (Value.agg #[.string ⟨#[]⟩, .string ⟨#[]⟩]).cells.size ≤ cur.toList.length) := by show i * 2 + (l.length - i) * 2 ≤ _; rw [hcl]; omega
        have H2 : Hid (∀ v ∈ (Builtin.zeroCells (Value.agg #[.string ⟨#[]⟩, .string ⟨#[]⟩]).cells (l.length - i)).toList, v.oneCell' = true) := by
          show ∀ _, _
          intro v hv
          rw [zero_flds, noFlds_vals] at hv
          obtain ⟨_, rfl⟩ := List.mem_replicate.1 hv
          rfl
        have HT : Hid (cur.toList.take (i * 2) = fldVals (l.filter fun f => !p f)) := by
          show _ = _
          rw [← hinv.out.end_, ← fldVals_take, ← htk, List.take_take, Nat.min_eq_left (by omega)]
        have hfl : (l.filter fun f => !p f).length = i := by
          rw [← hinv.out.end_, List.length_take]
          omega
        have i1 : (i : Int) ≤ (l.length : Int) := by omega
        have i2 : (i : Int) ≤ (c : Int) := by omega
        have i3 : ¬ c = i := by omega
        clear hh htk hn3
        go_wp2_with (refine wpList_clear_rows rfl (.tmp 38) 22 rfl 31 _ Try.underlying22 HZ.out g (i * 2) (l.length - i) (c - i) (by rfl) cur.toList _ HB.out H1.out H2.out ?_; intro w2 hB2 ho2 hb2 hs2; have HB2 := Lib.hid hB2; have HO2 := Lib.hid ho2; have HL2 := Lib.hid hb2; have HS2 := Lib.hid hs2; clear hB2 ho2 hb2 hs2)
        go_ret
        refine ⟨_, rfl, ?_, ⟨HL2.out.os.trans hgr.out.os, HL2.out.tape.trans hgr.out.tape, HL2.out.output.trans hgr.out.output, by rw [HS2.out]; exact hgr.out.size, fun k hk hkg => (HO2.out k (fun e => hkg (by rw [e]))).trans (hgr.out.block k hk hkg)⟩, rfl⟩
        rw [hfl]
        refine ⟨by rw [fldVals_length, hfl], .inr ⟨g, c, _, rfl, hg', HB2.out, by omega, hn2, ?_, ?_⟩⟩
        · simp [Builtin.zeroCells, Value.cells]
          have : cur.size = c * 2 := by rw [← Array.length_toList, hcl]
          omega
        · rw [List.toList_toArray, List.append_assoc, List.take_append_of_le_length (by rw [List.length_take, hcl]; omega), List.take_take, Nat.min_self]
          exact HT.out

theorem delfunc_nil (q : Nat) (lb : Array Value) (eq : ∀ args w, (callFunc q args).run Try.prog w = .ok (.enter q args) w) (p : ByteArray × ByteArray → Bool) (w : World) :
    Calls Try.prog 78 #[.slice none 0 0, .func (.func q) #[] lb] w fun e w' => e = .returned (.slice none 0 0) ∧ Below w.heap.size w w' := by
  have hF : FldsAt w none 0 [] := ⟨rfl, by omega, fun _ h => (by cases h), .inl rfl⟩
  have HF := Lib.hid (idxfld_any q lb eq p w none 0 0 [] hF (fun W f hW hf => by cases hf))
  have hix : idxB p [] = -1 := rfl
  rw [hix] at HF
  clear hix hF
  go_enter Try.func78, Try.ntmps78
  go_wp2_with fail
  refine HF.out.mono ?_
  rintro e w1 ⟨rfl, hb1⟩
  go_wp2
  go_ret
  exact ⟨rfl, hb1⟩

/-- On a row of the call's own, nil or not. -/
theorem delfunc_any (q : Nat) (lb : Array Value) (eq : ∀ args w, (callFunc q args).run Try.prog w = .ok (.enter q args) w) (p : ByteArray × ByteArray → Bool) (w : World) (B : Nat) (v : Value) (l : Flds) (h : w.ownsRow B 31 2 v l.length (fldVals l)) (hfew : l.length ≤ 65536)
    (hs : ∀ p ∈ l, p.1.size ≤ 9223372036854775807 ∧ p.2.size ≤ 9223372036854775807)
    (hp : ∀ W f, w.grownBy W v.ownBlock → f ∈ l → Calls Try.prog q (#[.agg #[.string f.1, .string f.2]] ++ lb) W fun e w' => e = .returned (.bool (p f)) ∧ Below W.heap.size W w') :
    Calls Try.prog 78 #[v, .func (.func q) #[] lb] w (DelFPost w B v.ownBlock (l.filter fun f => !p f)) := by
  rcases h.2 with ⟨rfl, h0⟩ | ⟨g, cap, cur, rfl, _⟩
  · obtain rfl : l = [] := List.eq_nil_of_length_eq_zero h0
    refine (delfunc_nil q lb eq p w).mono ?_
    rintro e w' ⟨rfl, hb⟩
    exact ⟨_, rfl, World.ownsRow_nil _ _ _ _, grown_below hb, rfl⟩
  · exact delfunc_row q lb eq p w B g l.length cap l h rfl hfew hs hp
end Go.Proofs.Ytdpohibgipkhnaa
namespace Go.Proofs.Ytdpohibgipkhnaa
open Go.RowKit Go.Sort Go.Proofs.Ytdpohibgipkhnaa.Oct

/-- The fields without some names. -/
def withoutF (l : Flds) (ns : List ByteArray) : Flds := l.filter fun f => !isB ns f.1
theorem withoutF_len (l : Flds) (ns : List ByteArray) : (withoutF l ns).length ≤ l.length := List.length_filter_le _ _
theorem withoutF_sub {l : Flds} {ns : List ByteArray} {f : ByteArray × ByteArray} (h : f ∈ withoutF l ns) : f ∈ l := (List.mem_filter.1 h).1
theorem StrsArg.get {w : World} {x : Option Addr} {n : Nat} {ns : List ByteArray} (h : StrsArg w x n ns) (k : Nat) (hk : k < n) : ∃ b o s, x = some ⟨b, o, none⟩ ∧ ∃ hl : k < ns.length, s = ns[k] ∧ w.cell? ⟨b, o + k, none⟩ = some (.string s) ∧ s.size ≤ 9223372036854775807 := by
  obtain ⟨h1, h2, h3, h4⟩ := h
  obtain ⟨b, o, hx, hlt, hc⟩ := h4.resolve_left (by omega)
  have hl : k < ns.length := by omega
  exact ⟨b, o, _, hx, hl, rfl, hc k hl, h3 _ (List.getElem_mem hl)⟩
theorem StrsArg.old {w w' : World} {x : Option Addr} {n : Nat} {ns : List ByteArray} (h : StrsArg w x n ns) {B : Nat} (hB : w.heap.size ≤ B) (hb : Below B w w') : StrsArg w' x n ns := h.below (hb.mono hB)
theorem one_blk_ne {w : World} {B e size n : Nat} {v : Value} {xs : List Value} (h : w.ownsRow B e size v n xs) : ∀ k, v.ownBlock = some k → B ≤ k ∧ k < w.heap.size := fun k hk => h.lt k hk

set_option maxRecDepth 100000 in
set_option maxHeartbeats 1600000 in
theorem hwithout_any (w : World) (x y : Option Addr) (n c m d : Nat) (l : Flds) (ns : List ByteArray) (h : FldsAt w x n l) (h2 : StrsArg w y m ns) (hfew : n ≤ 65536) :
    Calls Try.prog 33 #[.slice x n c, .slice y m d] w (FldsPost w (withoutF l ns)) := by
  have hl := h.len
  have HS := Lib.hid h.str
  have HC := Lib.hid (fclone_any w x n c l h hfew)
  have HN := Lib.hid h2
  clear h h2
  go_enter Try.func33, Try.ntmps33
  go_wp2_with fail
  refine HC.out.mono ?_
  rintro e w1 ⟨v1, rfl, ho1, hb1⟩
  have HO1 := Lib.hid ho1
  have HB1 := Lib.hid hb1
  clear ho1 hb1
  go_wp2_with fail
  refine (named_any y m d w1).mono ?_
  rintro e w2 ⟨rfl, rfl⟩
  go_wp2_with fail
  refine (delfunc_any 101 #[.pointer (some ⟨w1.heap.size, 0, none⟩)] (fun _ _ => by kernel_rfl) (fun f => isB ns f.1) _ w.heap.size v1 l (own_above HO1.out (below_new w1 _)) (by omega) HS.out (fun W f hW hf => ?_)).mono ?_
  · refine named1_any ns f.1 f.2 w1.heap.size W (HS.out f hf).1 ⟨y, m, d, (Blk.new w1 35 #[.slice y m d]).grown hW (fun e => ?_), ?_⟩
    · have := (HO1.out.lt _ e.symm).2
      omega
    · have hb : Below w.heap.size w W := (HB1.out.alloc HB1.out.size _).grown hW (by have := HB1.out.size; simp; omega) (fun k hk => (HO1.out.lt k hk).1)
      exact HN.out.below hb
  rintro e w3 ⟨v3, rfl, ho3, hg3, _⟩
  have HO3 := Lib.hid ho3
  have HG3 := Lib.hid hg3
  clear ho3 hg3
  go_wp2
  go_ret
  exact ⟨v3, rfl, HO3.out, (HB1.out.alloc HB1.out.size _).grown HG3.out (by have := HB1.out.size; simp; omega) (fun k hk => (HO1.out.lt k hk).1)⟩

set_option maxRecDepth 100000 in
set_option maxHeartbeats 1600000 in
theorem rwith_any (w : World) (x : Option Addr) (n c : Nat) (l : Flds) (name value : ByteArray) (h : FldsAt w x n l) (hfew : n ≤ 65536) :
    Calls Try.prog 36 #[.slice x n c, .string name, .string value] w (FldsPost w (l ++ [(name, value)])) := by
  have hl := h.len
  subst hl
  obtain ⟨i0, hi0, hz⟩ := info_hid info_field
  have H1 : Hid (0 + l.length ≤ maxLen) := by show _ ≤ _; unfold maxLen; omega
  have H2 : Hid ((0 + l.length) * 32 ≤ 140737488355328) := by show _ ≤ _; omega
  have H3 : Hid (l.length + 1 ≤ maxLen) := by show _ ≤ _; unfold maxLen; omega
  have H4 : Hid ((l.length + 1) * 32 ≤ 140737488355328) := by show _ ≤ _; omega
  have HS := Lib.hid (fld_one l)
  have HL := Lib.hid (World.ownsRow_lit (base := w.heap.size) (e := 31) (size := 2) w #[] 0 (Nat.le_refl _) (by decide) rfl)
  have HRa := Lib.hid (h.reads.alloc (Nat.le_refl _) (.cells #[] 31))
  clear h
  go_enter Try.func36, Try.ntmps36
  go_wp2_with (first
    | (at_builtin; refine wpList_append_any _ rfl (.tmp 7) (.tmp 8) _ rfl w.heap.size 31 i0 _ 2 32 Try.underlying22 hi0.out hz.out.1 hz.out.2.1 hz.out.2.2 rfl (by omega) _ 0 [] (by rfl) HL.out w.heap.size _ l.length c (fldVals l) rfl HRa.out HS.out H1.out H2.out (by simp) ?_; intro v1 w1 hown1 hg1 hat1; (rw [Nat.zero_add, List.nil_append] at hown1); have HO := Lib.hid hown1; have HB1 : Hid (Below w.heap.size w w1) := ((Below.refl _ w).alloc (Nat.le_refl _) _).grown hg1 (by simp) (by simp [Value.ownBlock]); have Z1 := HB1.out.size; clear hown1 hg1 hat1)
    | (at_builtin; refine wpList_append_at rfl (.tmp 9) (.tmp 13) 22 rfl w.heap.size 31 Try.underlying22 hi0 hz rfl (by decide) w1 [.string name, .string value] HO.out rfl rfl rfl (one_fld _ _) H3.out H4.out Z1 ?_; intro g4 c4 w4 hown4 hgrow4 hat4; have O4 := Lib.hid hown4; have G4 := Lib.hid hgrow4; clear hown4 hgrow4 hat4))
  go_ret
  refine ⟨_, rfl, ?_, below_owned HB1.out HB1.out.size HO.out G4.out⟩
  rw [fldVals_snoc, List.length_append]
  exact O4.out
end Go.Proofs.Ytdpohibgipkhnaa
namespace Go.Proofs.Ytdpohibgipkhnaa
open Go.RowKit Go.Sort Go.Proofs.Ytdpohibgipkhnaa.Oct

theorem isB_take (ns : List ByteArray) (a : ByteArray) (k : Nat) (hk : k < ns.length) : isB (ns.take (k + 1)) a = (isB (ns.take k) a || foldS ns[k] a) := by
  unfold isB
  rw [List.take_succ_eq_append_getElem hk, List.any_append]
  simp
theorem withoutF_take (l : Flds) (ns : List ByteArray) (k : Nat) (hk : k < l.length) : withoutF (l.take (k + 1)) ns = withoutF (l.take k) ns ++ (if isB ns l[k].1 = true then [] else [l[k]]) := by
  unfold withoutF
  rw [filter_take _ _ _ hk]
  congr 1
  cases isB ns l[k].1 <;> rfl
theorem withoutF_le (l : Flds) (ns : List ByteArray) (k : Nat) : (withoutF (l.take k) ns).length ≤ k := filter_len _ _ _

set_option maxRecDepth 100000 in
set_option maxHeartbeats 3200000 in
theorem rwithout_any (w : World) (x y : Option Addr) (n c m d : Nat) (l : Flds) (ns : List ByteArray) (h : FldsAt w x n l) (h2 : StrsArg w y m ns) (hfew : n ≤ 65536) (hm : m ≤ 65536) (hsm : ∀ p ∈ l, p.1.size ≤ 140737488355328) (hsn : ∀ s ∈ ns, s.size ≤ 140737488355328) :
    Calls Try.prog 34 #[.slice x n c, .slice y m d] w (FldsPost w (withoutF l ns)) := by
  obtain ⟨i0, hi, hz⟩ := info_hid info_field
  have hl := h.len
  subst hl
  have hl2 := h2.1
  subst hl2
  have HA := Lib.hid h
  have HN := Lib.hid h2
  have HSm := Lib.hid hsm
  have HSn := Lib.hid hsn
  clear h h2 hsm hsn
  go_enter Try.func34, Try.ntmps34
  go_wp2
  go_loopg [5, 6] l.length (fun gg s5 s6 wr => ∃ (k g' c' : Nat), k ≤ l.length ∧ l.length - k ≤ gg ∧ s6 = .int .i64 k ∧ s5 = .slice (some ⟨g', 0, none⟩) (withoutF (l.take k) ns).length c' ∧ Hid (wr.ownsRow w.heap.size 31 2 (.slice (some ⟨g', 0, none⟩) (withoutF (l.take k) ns).length c') (withoutF (l.take k) ns).length (fldVals (withoutF (l.take k) ns))) ∧ Hid (Below w.heap.size w wr))
  case atStart => exact ⟨0, _, _, Nat.zero_le _, by omega, rfl, rfl, World.ownsRow_lit w #[] 0 (Nat.le_refl _) (by decide) rfl, below_new _ _⟩
  case round =>
    obtain ⟨k, g', c', hk, hg, rfl, rfl, hown, hb⟩ := hrel
    by_cases hkl : k < l.length
    · obtain ⟨b, o, f, rfl, hl2, hf, hc1, hc2, hs1, hs2⟩ := (HA.out.below hb.out).get k hkl
      have htk := withoutF_take l ns k hkl
      have hle := withoutF_le l ns k
      have hsf : f.1.size ≤ 140737488355328 := by rw [hf]; exact HSm.out _ (List.getElem_mem hl2)
      have hbl : b < wr.heap.size := by
        rcases (HA.out.below hb.out).at_ with h0 | ⟨b', o', he, hlt, _⟩
        · omega
        · cases he; exact hlt
      rw [← hf] at htk
      obtain ⟨f1, f2⟩ := f
      simp only at hc1 hc2 hs1 hs2 htk hsf
      clear hf
      obtain ⟨A, hA⟩ : ∃ A, A = withoutF (l.take k) ns := ⟨_, rfl⟩
      rw [← hA] at hown htk hle ⊢
      have HT := Lib.hid htk
      clear htk hA
      have zr : w.heap.size ≤ wr.heap.size := hb.out.size
      have C1 := Lib.hid hc1
      have C2 := Lib.hid hc2
      go_wp2_with fail
      go_loopg [7, 8] ns.length (fun gg s7 s8 wx => ∃ (j : Nat), j ≤ ns.length ∧ ns.length - j ≤ gg ∧ s8 = .int .i64 j ∧ s7 = .bool (isB (ns.take j) f1) ∧ Hid (Below wr.heap.size wr wx))
      case atStart => exact ⟨0, Nat.zero_le _, by omega, rfl, rfl, Below.refl _ _⟩
      case round =>
        obtain ⟨j, hj, hgj, rfl, rfl, hbx⟩ := hrel
        by_cases hjl : j < ns.length
        · obtain ⟨nb, no, s, rfl, hl3, hs, hn1, hss⟩ := ((HN.out.below hb.out).below hbx.out).get j hjl
          have hss2 : s.size ≤ 140737488355328 := by rw [hs]; exact HSn.out _ (List.getElem_mem hl3)
          have HI : Hid (isB (ns.take (j + 1)) f1 = (isB (ns.take j) f1 || foldS s f1)) := by show _ = _; rw [isB_take ns f1 j hl3, ← hs]
          have e1 : wr.cell? ⟨b, o + k * 2, none⟩ = some (.string f1) := (hbx.out.cell (p := ⟨b, o + k * 2, none⟩) hbl).trans C1.out
          have i1 : (k : Int) < (l.length : Int) := by omega
          have i2 : (j : Int) < (ns.length : Int) := by omega
          clear hs
          cases hps : isB (ns.take j) f1
          · have HI2 : Hid (isB (ns.take (j + 1)) f1 = foldS s f1) := by show _ = _; rw [HI.out, hps]; rfl
            clear hps
            go_wp2_with fail
            go_still_tail 11, (by kernel_rfl)
            change wpList _ _ _ _ _ wr.drew
            go_wp2_with (go_at_call 39; refine (ris_any f1 s _ hsf hss2).mono ?_; rintro e w3 ⟨rfl, hb3⟩; have HB3 := Lib.hid hb3; clear hb3)
            go_roundg (ns.length - (j + 1))
            case measure => omega
            case rel => exact ⟨j + 1, by omega, by omega, by go_num, by rw [HI2.out], (hbx.out.drew).trans (HB3.out.mono hbx.out.size)⟩
          · have HI2 : Hid (isB (ns.take (j + 1)) f1 = true) := by show _ = _; rw [HI.out, hps]; rfl
            clear hps
            go_wp2_with fail
            go_quiet (fail)
            go_wp2
            go_roundg (ns.length - (j + 1))
            case measure => omega
            case rel => exact ⟨j + 1, by omega, by omega, by go_num, by rw [HI2.out], below_drewN hbx.out _⟩
        · obtain rfl : j = ns.length := by omega
          rw [List.take_length]
          have HB3 := Lib.hid hbx.out
          have d1 : wr.cell? ⟨b, o + k * 2, none⟩ = some (.string f1) := (hbx.out.cell (p := ⟨b, o + k * 2, none⟩) hbl).trans C1.out
          have d2 : wr.cell? ⟨b, o + k * 2 + 1, none⟩ = some (.string f2) := (hbx.out.cell (p := ⟨b, o + k * 2 + 1, none⟩) hbl).trans C2.out
          have HO3 := Lib.hid (own_above hown.out HB3.out)
          have z3 : w.heap.size ≤ wr.heap.size := Nat.le_trans zr HB3.out.size
          have H5 : Hid (A.length + 1 ≤ maxLen) := by show _ ≤ _; unfold maxLen; omega
          have H6 : Hid ((A.length + 1) * 32 ≤ 140737488355328) := by show _ ≤ _; omega
          cases hps : isB ns f1
          · have HPS := Lib.hid hps
            clear hps
            go_wp2_with (at_builtin; refine wpList_append_at rfl (.tmp 37) (.tmp 42) 22 rfl w.heap.size 31 Try.underlying22 hi hz rfl (by decide) wr [.string f1, .string f2] HO3.out rfl rfl rfl (one_fld _ _) H5.out H6.out z3 ?_; intro g4 c4 w4 hown4 hgrow4 hat4; have O4 := Lib.hid hown4; have G4 := Lib.hid hgrow4; clear hown4 hgrow4 hat4)
            go_roundg (l.length - (k + 1))
            case measure => omega
            case rel =>
              have e9 : withoutF (l.take (k + 1)) ns = A ++ [(f1, f2)] := by rw [HT.out, HPS.out]; simp
              have e11 : (A ++ [(f1, f2)]).length = A.length + 1 := by simp
              have hbw := below_owned (grow_trans hb.out HB3.out) z3 HO3.out G4.out
              refine ⟨k + 1, g4, c4, by omega, by omega, by go_num, ?_⟩
              rw [e9, fldVals_snoc, e11]
              exact ⟨rfl, O4.out, hbw⟩
          · have HPS := Lib.hid hps
            clear hps
            go_wp2
            go_roundg (l.length - (k + 1))
            case measure => omega
            case rel =>
              have e9 : withoutF (l.take (k + 1)) ns = A := by rw [HT.out, HPS.out]; simp
              refine ⟨k + 1, g', c', by omega, by omega, by go_num, ?_⟩
              rw [e9]
              exact ⟨rfl, HO3.out, grow_trans hb.out HB3.out⟩
    · obtain rfl : k = l.length := by omega
      rw [List.take_length] at hown ⊢
      go_wp2
      go_ret
      exact ⟨_, rfl, hown.out, hb.out⟩
end Go.Proofs.Ytdpohibgipkhnaa
namespace Go.Proofs.Ytdpohibgipkhnaa
open Go.RowKit Go.Sort Go.Proofs.Ytdpohibgipkhnaa.Oct

/-- The fields with a name's first value set, its others left out; 'had': one has been set ahead. -/
def setR (name value : ByteArray) : Bool → Flds → Flds
  | _, [] => []
  | had, f :: r => if foldS name f.1 = true then (if had = true then setR name value true r else (f.1, value) :: setR name value true r) else f :: setR name value had r
def hitB (name : ByteArray) (l : Flds) : Bool := l.any fun f => foldS name f.1
def setF (l : Flds) (name value : ByteArray) : Flds := if hitB name l = true then setR name value false l else l ++ [(name, value)]

theorem setR_snoc (name value : ByteArray) (f : ByteArray × ByteArray) : ∀ (xs : Flds) (b : Bool), setR name value b (xs ++ [f]) = setR name value b xs ++ (if foldS name f.1 = true then (if (b || hitB name xs) = true then [] else [(f.1, value)]) else [f])
  | [], b => by
    cases b <;> cases h : foldS name f.1 <;> simp [setR, hitB, h]
  | g :: r, b => by
    have h1 := setR_snoc name value f r true
    have h2 := setR_snoc name value f r b
    cases hg : foldS name g.1
    · simp only [List.cons_append, setR, hg, Bool.false_eq_true, if_false, h2]
      have : hitB name (g :: r) = hitB name r := by simp [hitB, hg]
      rw [this]
    · have : hitB name (g :: r) = true := by simp [hitB, hg]
      rw [this]
      cases b <;> simp [setR, hg, h1]
theorem setR_true (name value : ByteArray) : ∀ l : Flds, setR name value true l = l.filter fun f => !foldS name f.1
  | [] => rfl
  | g :: r => by
    cases hg : foldS name g.1 <;> simp [setR, hg, setR_true name value r]
theorem setR_len (name value : ByteArray) : ∀ (l : Flds) (b : Bool), (setR name value b l).length ≤ l.length
  | [], _ => Nat.le_refl _
  | g :: r, b => by
    have h1 := setR_len name value r true
    have h2 := setR_len name value r b
    cases hg : foldS name g.1 <;> cases b <;> simp [setR, hg] <;> omega
theorem setR_mem (name value : ByteArray) : ∀ (l : Flds) (b : Bool), ∀ f ∈ setR name value b l, ∃ g ∈ l, f.1 = g.1 ∧ (f.2 = g.2 ∨ f.2 = value)
  | [], _, f, h => by simp [setR] at h
  | g :: r, b, f, h => by
    have h1 : f ∈ setR name value true r → ∃ g' ∈ g :: r, f.1 = g'.1 ∧ (f.2 = g'.2 ∨ f.2 = value) := fun hf => by
      obtain ⟨g', hg', e⟩ := setR_mem name value r true f hf
      exact ⟨g', List.mem_cons_of_mem _ hg', e⟩
    have h2 : f ∈ setR name value b r → ∃ g' ∈ g :: r, f.1 = g'.1 ∧ (f.2 = g'.2 ∨ f.2 = value) := fun hf => by
      obtain ⟨g', hg', e⟩ := setR_mem name value r b f hf
      exact ⟨g', List.mem_cons_of_mem _ hg', e⟩
    cases hg : foldS name g.1
    · simp [setR, hg] at h
      rcases h with rfl | h
      · exact ⟨f, List.mem_cons_self, rfl, .inl rfl⟩
      · exact h2 h
    · cases b
      · simp [setR, hg] at h
        rcases h with rfl | h
        · exact ⟨g, List.mem_cons_self, rfl, .inr rfl⟩
        · exact h1 h
      · simp [setR, hg] at h
        exact h1 h
theorem setR_none (name value : ByteArray) : ∀ (l : Flds) (b : Bool), hitB name l = false → setR name value b l = l
  | [], _, _ => rfl
  | g :: r, b, h => by
    simp [hitB] at h
    have h2 : hitB name r = false := by simp [hitB]; exact fun a x hx => h.2 a x hx
    simp [setR, h.1, setR_none name value r b h2]
theorem setR_first (name value : ByteArray) : ∀ (l : Flds) (i : Nat) (hi : i < l.length), foldS name l[i].1 = true → (∀ j (hj : j < i), foldS name (l[j]'(by omega)).1 = false) → setR name value false l = l.take i ++ [(l[i].1, value)] ++ (l.drop (i + 1)).filter fun f => !foldS name f.1
  | [], i, hi, _, _ => absurd hi (Nat.not_lt_zero _)
  | g :: r, 0, hi, h, _ => by
    have h' : foldS name g.1 = true := h
    simp [setR, h', setR_true]
  | g :: r, i + 1, hi, h, hb => by
    have h0 : foldS name g.1 = false := hb 0 (by omega)
    have := setR_first name value r i (by simpa using hi) h (fun j hj => hb (j + 1) (by omega))
    simp [setR, h0, this]
theorem hitB_take (name : ByteArray) (l : Flds) (k : Nat) (hk : k < l.length) : hitB name (l.take (k + 1)) = (hitB name (l.take k) || foldS name l[k].1) := by
  unfold hitB
  rw [List.take_succ_eq_append_getElem hk, List.any_append]
  simp
theorem setR_take (name value : ByteArray) (l : Flds) (k : Nat) (hk : k < l.length) : setR name value false (l.take (k + 1)) = setR name value false (l.take k) ++ (if foldS name l[k].1 = true then (if hitB name (l.take k) = true then [] else [(l[k].1, value)]) else [l[k]]) := by
  rw [List.take_succ_eq_append_getElem hk, setR_snoc, Bool.false_or]

set_option maxRecDepth 100000 in
set_option maxHeartbeats 3200000 in
theorem rset_any (w : World) (x : Option Addr) (n c : Nat) (l : Flds) (name value : ByteArray) (h : FldsAt w x n l) (hfew : n ≤ 65536) (hn : name.size ≤ 140737488355328) (hsm : ∀ p ∈ l, p.1.size ≤ 140737488355328) :
    Calls Try.prog 38 #[.slice x n c, .string name, .string value] w (FldsPost w (setF l name value)) := by
  obtain ⟨i0, hi, hz⟩ := info_hid info_field
  have hl := h.len
  subst hl
  have HA := Lib.hid h
  have HSm := Lib.hid hsm
  clear h hsm
  go_enter Try.func38, Try.ntmps38
  go_wp2
  go_loopg [7, 8, 9] l.length (fun gg s7 s8 s9 wr => ∃ (k g' c' : Nat), k ≤ l.length ∧ l.length - k ≤ gg ∧ s9 = .int .i64 k ∧ s8 = .bool (hitB name (l.take k)) ∧ s7 = .slice (some ⟨g', 0, none⟩) (setR name value false (l.take k)).length c' ∧ Hid (wr.ownsRow w.heap.size 31 2 (.slice (some ⟨g', 0, none⟩) (setR name value false (l.take k)).length c') (setR name value false (l.take k)).length (fldVals (setR name value false (l.take k)))) ∧ Hid (Below w.heap.size w wr))
  case atStart => exact ⟨0, _, _, Nat.zero_le _, by omega, rfl, rfl, rfl, World.ownsRow_lit w #[] 0 (Nat.le_refl _) (by decide) rfl, below_new _ _⟩
  case round =>
    obtain ⟨k, g', c', hk, hg, rfl, rfl, rfl, hown, hb⟩ := hrel
    by_cases hkl : k < l.length
    · obtain ⟨b, o, f, rfl, hl2, hf, hc1, hc2, hs1, hs2⟩ := (HA.out.below hb.out).get k hkl
      have htk := setR_take name value l k hkl
      have hht := hitB_take name l k hkl
      have hle : (setR name value false (l.take k)).length ≤ k := Nat.le_trans (setR_len _ _ _ _) (List.length_take_le k l)
      have hsf : f.1.size ≤ 140737488355328 := by rw [hf]; exact HSm.out _ (List.getElem_mem hl2)
      have hbl : b < wr.heap.size := by
        rcases (HA.out.below hb.out).at_ with h0 | ⟨b', o', he, hlt, _⟩
        · omega
        · cases he; exact hlt
      rw [← hf] at htk hht
      obtain ⟨f1, f2⟩ := f
      simp only at hc1 hc2 hs1 hs2 htk hsf hht
      clear hf
      obtain ⟨A, hA⟩ : ∃ A, A = setR name value false (l.take k) := ⟨_, rfl⟩
      obtain ⟨H, hH⟩ : ∃ H, H = hitB name (l.take k) := ⟨_, rfl⟩
      rw [← hA] at hown htk hle ⊢
      rw [← hH] at htk hht ⊢
      have HT := Lib.hid htk
      have HH := Lib.hid hht
      clear htk hA hH hht
      have zr : w.heap.size ≤ wr.heap.size := hb.out.size
      have H5 : Hid (A.length + 1 ≤ maxLen) := by show _ ≤ _; unfold maxLen; omega
      have H6 : Hid ((A.length + 1) * 32 ≤ 140737488355328) := by show _ ≤ _; omega
      go_wp2_with fail
      refine (ris_any f1 name _ hsf hn).mono ?_
      rintro e w3 ⟨rfl, hb3⟩
      have d1 : w3.cell? ⟨b, o + k * 2, none⟩ = some (.string f1) := (hb3.cell (p := ⟨b, o + k * 2, none⟩) hbl).trans hc1
      have d2 : w3.cell? ⟨b, o + k * 2 + 1, none⟩ = some (.string f2) := (hb3.cell (p := ⟨b, o + k * 2 + 1, none⟩) hbl).trans hc2
      have HB3 := Lib.hid hb3
      have HO3 := Lib.hid (own_below hown.out HB3.out)
      have z3 : w.heap.size ≤ w3.heap.size := Nat.le_trans zr HB3.out.size
      clear hb3
      cases hps : foldS name f1
      · have HPS := Lib.hid hps
        clear hps
        go_wp2_with (at_builtin; refine wpList_append_at rfl (.tmp 25) (.tmp 30) 22 rfl w.heap.size 31 Try.underlying22 hi hz rfl (by decide) w3 [.string f1, .string f2] HO3.out rfl rfl rfl (one_fld _ _) H5.out H6.out z3 ?_; intro g4 c4 w4 hown4 hgrow4 hat4; have O4 := Lib.hid hown4; have G4 := Lib.hid hgrow4; clear hown4 hgrow4 hat4)
        go_roundg (l.length - (k + 1))
        case measure => omega
        case rel =>
          have e9 : setR name value false (l.take (k + 1)) = A ++ [(f1, f2)] := by rw [HT.out, HPS.out]; simp
          have e8 : hitB name (l.take (k + 1)) = H := by rw [HH.out, HPS.out, Bool.or_false]
          have e11 : (A ++ [(f1, f2)]).length = A.length + 1 := by simp
          have hbw := below_owned (grow_trans hb.out HB3.out) z3 HO3.out G4.out
          refine ⟨k + 1, g4, c4, by omega, by omega, by go_num, by rw [e8], ?_⟩
          rw [e9, fldVals_snoc, e11]
          exact ⟨rfl, O4.out, hbw⟩
      · have HPS := Lib.hid hps
        clear hps
        cases H
        · go_wp2_with (at_builtin; refine wpList_append_at rfl (.tmp 34) (.tmp 42) 22 rfl w.heap.size 31 Try.underlying22 hi hz rfl (by decide) w3 [.string f1, .string value] HO3.out rfl rfl rfl (one_fld _ _) H5.out H6.out z3 ?_; intro g4 c4 w4 hown4 hgrow4 hat4; have O4 := Lib.hid hown4; have G4 := Lib.hid hgrow4; clear hown4 hgrow4 hat4)
          go_roundg (l.length - (k + 1))
          case measure => omega
          case rel =>
            have e9 : setR name value false (l.take (k + 1)) = A ++ [(f1, value)] := by rw [HT.out, HPS.out]; simp
            have e8 : hitB name (l.take (k + 1)) = true := by rw [HH.out, HPS.out, Bool.or_true]
            have e11 : (A ++ [(f1, value)]).length = A.length + 1 := by simp
            have hbw := below_owned (grow_trans hb.out HB3.out) z3 HO3.out G4.out
            refine ⟨k + 1, g4, c4, by omega, by omega, by go_num, by rw [e8], ?_⟩
            rw [e9, fldVals_snoc, e11]
            exact ⟨rfl, O4.out, hbw⟩
        · go_wp2
          go_roundg (l.length - (k + 1))
          case measure => omega
          case rel =>
            have e9 : setR name value false (l.take (k + 1)) = A := by rw [HT.out, HPS.out]; simp
            have e8 : hitB name (l.take (k + 1)) = true := by rw [HH.out, HPS.out, Bool.or_true]
            refine ⟨k + 1, g', c', by omega, by omega, by go_num, by rw [e8], ?_⟩
            rw [e9]
            exact ⟨rfl, HO3.out, grow_trans hb.out HB3.out⟩
    · obtain rfl : k = l.length := by omega
      rw [List.take_length] at hown ⊢
      cases hh : hitB name l
      · have HF : Hid (setF l name value = l ++ [(name, value)]) := by show _ = _; unfold setF; rw [hh]; rfl
        clear hh
        go_wp2_with fail
        refine (rwith_any wr x l.length c l name value (HA.out.below hb.out) hfew).mono ?_
        rintro e w3 ⟨v3, rfl, ho3, hb3⟩
        have HO3 := Lib.hid ho3
        have HB3 := Lib.hid hb3
        clear ho3 hb3
        go_wp2
        go_ret
        refine ⟨v3, rfl, ?_, grow_trans hb.out HB3.out⟩
        rw [HF.out]
        exact own_mono HO3.out hb.out.size
      · have HF : Hid (setF l name value = setR name value false l) := by show _ = _; unfold setF; rw [hh]; rfl
        clear hh
        go_wp2
        go_ret
        refine ⟨_, rfl, ?_, hb.out⟩
        rw [HF.out]
        exact hown.out
end Go.Proofs.Ytdpohibgipkhnaa
