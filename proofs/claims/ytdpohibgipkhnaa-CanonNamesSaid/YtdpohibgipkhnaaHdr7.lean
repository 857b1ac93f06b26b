
/-
  THE WALK of slices.DeleteFunc at fields, in place.
-/
import Derived.Test.YtdpohibgipkhnaaHdr6
namespace Go.Proofs.Ytdpohibgipkhnaa
open Go.RowKit Go.Sort Go.Proofs.Ytdpohibgipkhnaa.Oct

theorem own_grown {w w' w'' : World} {g : Nat} (h : w.grownBy w' (some g)) (hb : Below w'.heap.size w' w'') : w.grownBy w'' (some g) := h.trans (grown_below hb)
theorem grown_set {w w' : World} {g o : Nat} (h : w.grownBy w' (some g)) (u : Value) : w.grownBy (w'.setCell ⟨g, o, none⟩ u) (some g) :=
  ⟨h.os, h.tape, h.output, by simp [World.setCell]; exact h.size, fun k hk hkg => (Below.heap_setCell _ _ _ _ (fun e => hkg (by rw [e]))).trans (h.block k hk hkg)⟩
theorem zero_field (w : World) : (zeroValue 31).run Try.prog w = .ok (.agg #[.string ⟨#[]⟩, .string ⟨#[]⟩]) w := by
  obtain ⟨i0, hi0, hz⟩ := info_hid info_field
  simp [zeroValue, typeInfo, hi0.out, hz.out.1]

def DelFPost (w : World) (B : Nat) (row : Option Nat) (l : Flds) (e : Ending) (w' : World) : Prop :=
  ∃ v, e = .returned v ∧ w'.ownsRow B 31 2 v l.length (fldVals l) ∧ w.grownBy w' row ∧ v.ownBlock = row

set_option maxRecDepth 100000 in
set_option maxHeartbeats 3200000 in
theorem delfunc_row (q : Nat) (lb : Array Value) (eq : ∀ args w, (callFunc q args).run Try.prog w = .ok (.enter q args) w) (p : ByteArray × ByteArray → Bool) (w : World) (B g n c : Nat) (l : Flds) (h : w.ownsRow B 31 2 (.slice (some ⟨g, 0, none⟩) n c) n (fldVals l)) (hn : n = l.length) (hfew : n ≤ 65536)
    (hs : ∀ p ∈ l, p.1.size ≤ 9223372036854775807 ∧ p.2.size ≤ 9223372036854775807)
    (hp : ∀ W f, w.grownBy W (some g) → f ∈ l → Calls Try.prog q (#[.agg #[.string f.1, .string f.2]] ++ lb) W fun e w' => e = .returned (.bool (p f)) ∧ Below W.heap.size W w') :
    Calls Try.prog 78 #[.slice (some ⟨g, 0, none⟩) n c, .func (.func q) #[] lb] w (DelFPost w B (some g) (l.filter fun f => !p f)) := by
  subst hn
  have hF := FldsAt.of_own h (by omega) hs
  have HF := Lib.hid (idxfld_any q lb eq p w (some ⟨g, 0, none⟩) l.length c l hF (fun W f hW hf => hp W f (grown_below hW) hf))
  have hgl : B ≤ g ∧ g < w.heap.size := h.lt g rfl
  have hlc : l.length ≤ c ∧ c ≤ maxLen := by
    obtain ⟨g', cap, cur, hv, _, _, h1, h2, _⟩ := h.2.resolve_left (by simp)
    injection hv with hv _ hc
    subst hc
    exact ⟨h1, h2⟩
  obtain ⟨hlc, hcm⟩ := hlc
  have HO := Lib.hid h
  have HP := Lib.hid hp
  have HZ := Lib.hid zero_field
  clear h hp hF
  rcases idxB_cases p l with ⟨hix, hno⟩ | ⟨k0, hix, hk0, hpk, hbk, _⟩
  · rw [hix] at HF
    have HN : Hid (l.filter (fun f => !p f) = l) := by
      show _ = _
      refine List.filter_eq_self.2 fun a ha => ?_
      have := List.any_eq_false.1 hno a ha
      simpa using this
    clear hix hno
    go_enter Try.func78, Try.ntmps78
    go_wp2_with fail
    refine HF.out.mono ?_
    rintro e w1 ⟨rfl, hb1⟩
    have HB1 := Lib.hid hb1
    clear hb1
    go_wp2
    go_ret
    refine ⟨_, rfl, ?_, grown_below HB1.out, rfl⟩
    rw [HN.out]
    exact own_above HO.out HB1.out
  · rw [hix] at HF
    have HS0 := Lib.hid (DelInv.start hk0 hpk hbk)
    have i0 : (k0 : Int) < (l.length : Int) := by omega
    clear hix hpk hbk
    go_enter Try.func78, Try.ntmps78
    go_wp2_with fail
    refine HF.out.mono ?_
    rintro e w1 ⟨rfl, hb1⟩
    have HB1 := Lib.hid hb1
    clear hb1
    go_wp2_with fail
    go_loopg [5, 6] l.length (fun gg s5 s6 wr => ∃ (i j : Nat) (R : Flds), j ≤ l.length ∧ l.length - j ≤ gg ∧ s5 = .int .i64 i ∧ s6 = .int .i64 j ∧ i < j ∧ Hid (DelInv p l R i j) ∧ Hid (wr.ownsRow B 31 2 (.slice (some ⟨g, 0, none⟩) l.length c) l.length (fldVals R)) ∧ Hid (w.grownBy wr (some g)))
    case atStart => exact ⟨k0, k0 + 1, l, by omega, by omega, rfl, by go_num, by omega, HS0.out, own_above HO.out HB1.out, grown_below HB1.out⟩
    case round =>
      obtain ⟨i, j, R, hj, hgg, rfl, rfl, hij, hinv, hrow, hgr⟩ := hrel
      have hRl := hinv.out.len
      by_cases hjl : j < l.length
      · obtain ⟨d0, d1⟩ := own_fld hrow.out j (by omega)
        rw [hinv.out.at_ hjl] at d0 d1
        have hcall := HP.out (wr.alloc (.cells #[.string l[j].1, .string l[j].2] 31)) l[j] (hgr.out.trans (World.grownBy_alloc wr _ _)) (List.getElem_mem hjl)
        obtain ⟨f, hf⟩ : ∃ f, f = l[j] := ⟨_, rfl⟩
        rw [← hf] at d0 d1 hcall
        have HFj := Lib.hid hf
        obtain ⟨f1, f2⟩ := f
        simp only at d0 d1 hcall
        have hgw : g < wr.heap.size := (hrow.out.lt g rfl).2
        have i1 : (i : Int) < (l.length : Int) := by omega
        have i2 : (j : Int) < (l.length : Int) := by omega
        clear hf
        cases hps : p (f1, f2)
        · rw [hps] at hcall
          have HC := Lib.hid hcall
          have HI : Hid (DelInv p l (R.set i (f1, f2)) (i + 1) (j + 1)) := by
            have := hinv.out.keep hjl (by rw [← HFj.out]; exact hps)
            rwa [← HFj.out] at this
          clear hcall hps
          go_wp2_with fail
          refine HC.out.mono ?_
          rintro e w2 ⟨rfl, hb2⟩
          have hbx := (Blk.new wr 31 #[.string f1, .string f2]).below hb2 (by simp)
          have x0 := hbx.cell 0
          have x1 := hbx.cell 1
          have hrow2 := own_above (own_above hrow.out (below_new wr _)) hb2
          obtain ⟨y0, y1⟩ := own_fld hrow2 i (by omega)
          have fr := hrow2.frozenAt
          have HR2 := Lib.hid hrow2
          have HG2 := Lib.hid (own_grown (hgr.out.trans (World.grownBy_alloc wr _ _)) hb2)
          have hne : wr.heap.size ≠ g := by omega
          clear hb2 hrow2 hbx
          go_wp2
          go_roundg (l.length - (j + 1))
          case measure => omega
          case rel => exact ⟨i + 1, j + 1, R.set i (f1, f2), by omega, by omega, by go_num, by go_num, by omega, HI.out, own_fset HR2.out i (by omega) f1 f2, grown_set (grown_set HG2.out _) _⟩
        · rw [hps] at hcall
          have HC := Lib.hid hcall
          have HI : Hid (DelInv p l R i (j + 1)) := hinv.out.skip hjl (by rw [← HFj.out]; exact hps)
          clear hcall hps
          go_wp2_with fail
          refine HC.out.mono ?_
          rintro e w2 ⟨rfl, hb2⟩
          have HR2 := Lib.hid (own_above (own_above hrow.out (below_new wr _)) hb2)
          have HG2 := Lib.hid (own_grown (hgr.out.trans (World.grownBy_alloc wr _ _)) hb2)
          clear hb2
          go_wp2
          go_roundg (l.length - (j + 1))
          case measure => omega
          case rel => exact ⟨i, j + 1, R, by omega, by omega, rfl, by go_num, by omega, HI.out, HR2.out, HG2.out⟩
      · obtain rfl : j = l.length := by omega
        obtain ⟨g', cap', cur, hv, hg', hh, hn1, hn2, hn3, htk⟩ := hrow.out.2.resolve_left (by simp)
        injection hv with hv _ hc
        injection hv with hv
        injection hv with hv
        subst hv hc
        have hil : i ≤ l.length := by omega
        have hcl : cur.toList.length = c * 2 := by rw [Array.length_toList, hn3]
        have HB : Hid (Blk wr g 31 cur.toList.toArray) := by show Blk _ _ _ _; rw [Array.toArray_toList]; exact hh
        have H1 : Hid (i * 2 + (l.length - i) * (Value.agg #[.string ⟨#[]⟩, .string ⟨#[]⟩]).cells.size ≤ cur.toList.length) := by show i * 2 + (l.length - i) * 2 ≤ _; rw [hcl]; omega
        have H2 : Hid (∀ v ∈ (Builtin.zeroCells (Value.agg #[.string ⟨#[]⟩, .string ⟨#[]⟩]).cells (l.length - i)).toList, v.oneCell' = true) := by
          show ∀ _, _
          intro v hv
          rw [zero_flds, noFlds_vals] at hv
          obtain ⟨_, rfl⟩ := List.mem_replicate.1 hv
          rfl
        have HT : Hid (cur.toList.take (i * 2) = fldVals (l.filter fun f => !p f)) := by
          show _ = _
          rw [← hinv.out.end_, ← fldVals_take, ← htk, List.take_take, Nat.min_eq_left (by omega)]
        have hfl : (l.filter fun f => !p f).length = i := by
          rw [← hinv.out.end_, List.length_take]
          omega
        have i1 : (i : Int) ≤ (l.length : Int) := by omega
        have i2 : (i : Int) ≤ (c : Int) := by omega
        have i3 : ¬ c = i := by omega
        clear hh htk hn3
        go_wp2_with (refine wpList_clear_rows rfl (.tmp 38) 22 rfl 31 _ Try.underlying22 HZ.out g (i * 2) (l.length - i) (c - i) (by rfl) cur.toList _ HB.out H1.out H2.out ?_; intro w2 hB2 ho2 hb2 hs2; have HB2 := Lib.hid hB2; have HO2 := Lib.hid ho2; have HL2 := Lib.hid hb2; have HS2 := Lib.hid hs2; clear hB2 ho2 hb2 hs2)
        go_ret
        refine ⟨_, rfl, ?_, ⟨HL2.out.os.trans hgr.out.os, HL2.out.tape.trans hgr.out.tape, HL2.out.output.trans hgr.out.output, by rw [HS2.out]; exact hgr.out.size, fun k hk hkg => (HO2.out k (fun e => hkg (by rw [e]))).trans (hgr.out.block k hk hkg)⟩, rfl⟩
        rw [hfl]
        refine ⟨by rw [fldVals_length, hfl], .inr ⟨g, c, _, rfl, hg', HB2.out, by omega, hn2, ?_, ?_⟩⟩
        · simp [Builtin.zeroCells, Value.cells]
          have : cur.size = c * 2 := by rw [← Array.length_toList, hcl]
          omega
        · rw [List.toList_toArray, List.append_assoc, List.take_append_of_le_length (by rw [List.length_take, hcl]; omega), List.take_take, Nat.min_self]
          exact HT.out

theorem delfunc_nil (q : Nat) (lb : Array Value) (eq : ∀ args w, (callFunc q args).run Try.prog w = .ok (.enter q args) w) (p : ByteArray × ByteArray → Bool) (w : World) :
    Calls Try.prog 78 #[.slice none 0 0, .func (.func q) #[] lb] w fun e w' => e = .returned (.slice none 0 0) ∧ Below w.heap.size w w' := by
  have hF : FldsAt w none 0 [] := ⟨rfl, by omega, fun _ h => (by cases h), .inl rfl⟩
  have HF := Lib.hid (idxfld_any q lb eq p w none 0 0 [] hF (fun W f hW hf => by cases hf))
  have hix : idxB p [] = -1 := rfl
  rw [hix] at HF
  clear hix hF
  go_enter Try.func78, Try.ntmps78
  go_wp2_with fail
  refine HF.out.mono ?_
  rintro e w1 ⟨rfl, hb1⟩
  go_wp2
  go_ret
  exact ⟨rfl, hb1⟩

/-- On a row of the call's own, nil or not. -/
theorem delfunc_any (q : Nat) (lb : Array Value) (eq : ∀ args w, (callFunc q args).run Try.prog w = .ok (.enter q args) w) (p : ByteArray × ByteArray → Bool) (w : World) (B : Nat) (v : Value) (l : Flds) (h : w.ownsRow B 31 2 v l.length (fldVals l)) (hfew : l.length ≤ 65536)
    (hs : ∀ p ∈ l, p.1.size ≤ 9223372036854775807 ∧ p.2.size ≤ 9223372036854775807)
    (hp : ∀ W f, w.grownBy W v.ownBlock → f ∈ l → Calls Try.prog q (#[.agg #[.string f.1, .string f.2]] ++ lb) W fun e w' => e = .returned (.bool (p f)) ∧ Below W.heap.size W w') :
    Calls Try.prog 78 #[v, .func (.func q) #[] lb] w (DelFPost w B v.ownBlock (l.filter fun f => !p f)) := by
  rcases h.2 with ⟨rfl, h0⟩ | ⟨g, cap, cur, rfl, _⟩
  · obtain rfl : l = [] := List.eq_nil_of_length_eq_zero h0
    refine (delfunc_nil q lb eq p w).mono ?_
    rintro e w' ⟨rfl, hb⟩
    exact ⟨_, rfl, World.ownsRow_nil _ _ _ _, grown_below hb, rfl⟩
  · exact delfunc_row q lb eq p w B g l.length cap l h rfl hfew hs hp
end Go.Proofs.Ytdpohibgipkhnaa
