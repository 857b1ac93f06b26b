
/-
  THE WALK of header.Set.
-/
import Derived.Test.YtdpohibgipkhnaaTT28
import Derived.Deep.DeepCutAuto
set_option linter.unusedVariables false
set_option linter.unusedSimpArgs false
namespace Go.Proofs.Ytdpohibgipkhnaa
open Go.RowKit Go.Sort Go.Proofs.Ytdpohibgipkhnaa.Oct

theorem hit_any {l : Flds} {name : ByteArray} (h : l.any (fun p => foldS name p.1) = false) : hitB name l = false := h

set_option maxRecDepth 100000 in
set_option maxHeartbeats 3200000 in
theorem hset_any (w : World) (x : Option Addr) (n c : Nat) (l : Flds) (name value : ByteArray) (h : FldsAt w x n l) (hnc : n ≤ c) (hfew : n ≤ 65536) (hn : name.size ≤ 9223372036854775807) (_hv : value.size ≤ 9223372036854775807) :
    Calls Try.prog 37 #[.slice x n c, .string name, .string value] w (FldsPost w (setF l name value)) := by
  obtain ⟨i0, hi0, hz⟩ := info_hid info_field
  have hl := h.len
  subst hl
  have hbig := h.big
  have HA := Lib.hid h
  clear h
  go_enter Try.func37, Try.ntmps37
  go_wp2_with fail
  refine (named_any _ _ _ _).mono ?_
  rintro e w1 ⟨rfl, hw1⟩
  have hn1 := named_one w name hn
  rw [hw1] at hn1
  obtain ⟨hN, hB⟩ := hn1
  have HN := Lib.hid hN
  have HB := Lib.hid hB
  rw [World.size_alloc]
  clear hw1 hN hB
  go_wp2_with fail
  refine (idxfld_any 101 #[.pointer (some ⟨w.heap.size + 1, 0, none⟩)] (fun _ _ => by kernel_rfl) (fun p => foldS name p.1) w1 x _ c l (HA.out.below HB.out) (fun W f hW hf => ?_)).mono ?_
  · have := named1_any [name] f.1 f.2 (w.heap.size + 1) W (HA.out.str f hf).1 (HN.out.below hW)
    rw [isB_one] at this
    exact this
  rintro e w2 ⟨rfl, hb2⟩
  have HB12 := Lib.hid hb2
  have HB2 := Lib.hid (grow_trans HB.out hb2)
  clear hb2
  rcases idxB_cases (fun p : ByteArray × ByteArray => foldS name p.1) l with ⟨hi, hno⟩ | ⟨k, hi, hk, hy, hbef, _⟩
  · rw [hi]
    have HG : Hid (setF l name value = l ++ [(name, value)]) := by show _ = _; unfold setF; rw [hit_any hno]; rfl
    clear hi hno
    go_wp2_with fail
    refine (hwith_any w2 x _ c l name value (HA.out.below HB2.out) hfew).mono ?_
    rintro e w3 ⟨rfl, hb3, hbl3⟩
    have HB3 := Lib.hid hb3
    have HL3 := Lib.hid hbl3
    clear hb3 hbl3
    go_wp2
    go_ret
    refine ⟨_, rfl, ?_, grow_trans HB2.out HL3.out⟩
    rw [HG.out]
    have := own_of_blk (B := w.heap.size) HB3.out HB2.out.size (by rw [List.length_append]; unfold maxLen; simp; omega)
    rw [show (l ++ [(name, value)]).length = l.length + 1 by simp] at this ⊢
    exact this
  · rw [hi]
    obtain ⟨b, o, f, rfl, hl2, hf, hc1, hc2, hs1, hs2⟩ := (HA.out.below HB2.out).get k hk
    have hset := setR_first name value l k hk hy hbef
    rw [← hf] at hset
    have hany : hitB name l = true := by unfold hitB; exact List.any_eq_true.2 ⟨_, List.getElem_mem hk, hy⟩
    have HG : Hid (setF l name value = l.take k ++ [(f.1, value)] ++ (l.drop (k + 1)).filter fun f => !foldS name f.1) := by show _ = _; unfold setF; rw [hany, ← hset]; rfl
    have HT := Lib.hid ((HA.out.below HB2.out).take k (by omega))
    have HDr := Lib.hid ((HA.out.below HB2.out).drop (k + 1) c (by omega) hnc)
    have hm1 : l.length - (k + 1) ≤ 65536 := by omega
    have i1 : (k : Int) < (l.length : Int) := by omega
    have i2 : (k : Int) ≤ (l.length : Int) := by omega
    have i3 : (k : Int) ≤ (c : Int) := by omega
    have i4 : (k : Int) + 1 ≤ (l.length : Int) := by omega
    have i5 : (k : Int) + 1 ≤ (c : Int) := by omega
    have i6 : (0 : Int) ≤ (k : Int) + 1 := by omega
    obtain ⟨f1, f2⟩ := f
    simp only at hc1 hc2 hs1 hs2
    clear hi hy hbef hf hset hany
    go_upto_region 5 with fail
    go_still_tail 9, (by kernel_rfl)
    change wpList _ _ _ _ _ w2.drew
    go_wp2_with fail
    have HB2d := Lib.hid (HB2.out.drew)
    refine (hwith_any w2.drew _ k c (l.take k) f1 value (HT.out.below (Below.refl _ _).drew) (by omega)).mono ?_
    rintro e w3 ⟨rfl, hb3, hbl3⟩
    have HB3 := Lib.hid hb3
    have HL3 := Lib.hid hbl3
    clear hb3 hbl3
    by_cases hck : c = k + 1
    · have hd := HDr.out
      rw [if_pos hck] at hd
      have hz0 : l.length - (k + 1) = 0 := by omega
      rw [hz0] at hd
      have HD3 := Lib.hid ((hd.below (Below.refl _ _).drew).below HL3.out)
      subst hck
      have f1' : (k : Int) + 1 ≤ ((k + 1 : Nat) : Int) := by omega
      clear hd
      go_wp2_with fail
      refine (fclone_any w3 _ 0 0 _ HD3.out (by omega)).mono ?_
      rintro e w4 ⟨v4, rfl, ho4, hb4⟩
      have HO4 := Lib.hid ho4
      have HB4 := Lib.hid hb4
      have HK4 := Lib.hid (HB3.out.below hb4 HB3.out.lt)
      have hstr4 : Hid (∀ p ∈ l.drop (k + 1), p.1.size ≤ 9223372036854775807 ∧ p.2.size ≤ 9223372036854775807) := fun p hp => HA.out.str p (List.mem_of_mem_drop hp)
      clear ho4 hb4
      go_wp2_with fail
      refine (delfunc_any 101 #[.pointer (some ⟨w.heap.size + 1, 0, none⟩)] (fun _ _ => by kernel_rfl) (fun f => foldS name f.1) w4 w3.heap.size v4 (l.drop (k + 1)) HO4.out (by rw [List.length_drop]; omega) hstr4.out (fun W f hW hf => ?_)).mono ?_
      · have hbW : Below w1.heap.size w1 W := by
          have h12 : Below w1.heap.size w1 w2.drew := HB12.out.drew
          have h13 := h12.trans (HL3.out.mono HB12.out.size)
          have h14 := h13.trans (HB4.out.mono h13.size)
          exact h14.grown hW h14.size (fun j hj => Nat.le_trans h13.size (HO4.out.lt j hj).1)
        have := named1_any [name] f.1 f.2 (w.heap.size + 1) W (hstr4.out f hf).1 (HN.out.below hbW)
        rw [isB_one] at this
        exact this
      rintro e w5 ⟨v5, rfl, ho5, hg5, _⟩
      have hlen5 : ((l.drop (k + 1)).filter fun f => !foldS name f.1).length ≤ l.length - (k + 1) := by
        have := List.length_filter_le (fun f : ByteArray × ByteArray => !foldS name f.1) (l.drop (k + 1))
        rw [List.length_drop] at this
        exact this
      obtain ⟨x5, c5, rfl, _, hF5⟩ := own_flds ho5 (by omega) (fun p hp => hstr4.out p (List.mem_filter.1 hp).1)
      have hb05 : Below w.heap.size w w5 := by
        have h13 := HB2d.out.trans (HL3.out.mono HB2d.out.size)
        have h14 := h13.trans (HB4.out.mono h13.size)
        exact h14.grown hg5 h14.size (fun j hj => Nat.le_trans h13.size (HO4.out.lt j hj).1)
      have hK5 := HK4.out.grown hg5 (fun e => by have h1 := (HO4.out.lt _ e.symm).1; have h2 := HB3.out.lt; omega)
      have hOB := own_of_blk (B := w.heap.size) hK5 HB2d.out.size (by rw [List.length_append, List.length_take]; unfold maxLen; simp; omega)
      have hk1 : (l.take k ++ [(f1, value)]).length = k + 1 := by rw [List.length_append, List.length_take]; simp; omega
      rw [hk1] at hOB
      obtain ⟨T, hT⟩ : ∃ T, T = (l.drop (k + 1)).filter fun f => !foldS name f.1 := ⟨_, rfl⟩
      rw [← hT] at hlen5 hF5 HG ⊢
      have R5 := Lib.hid hF5.reads
      have O5 := Lib.hid hOB
      have B5 := Lib.hid hb05
      have H1 : Hid (k + 1 + T.length ≤ maxLen) := by show _ ≤ _; unfold maxLen; omega
      have H2 : Hid ((k + 1 + T.length) * 32 ≤ 140737488355328) := by show _ ≤ _; omega
      have HS5 := Lib.hid (fld_one T)
      have Z5 := Lib.hid hb05.size
      clear ho5 hg5 hF5 hb05 hK5 hOB hT
      go_wp2_with (at_builtin; refine wpList_append_any _ rfl (.tmp 32) (.tmp 39) _ rfl w.heap.size 31 i0 _ 2 32 Try.underlying22 hi0.out hz.out.1 hz.out.2.1 hz.out.2.2 rfl (by omega) _ (k + 1) _ (by rfl) O5.out w5.heap.size _ T.length c5 (fldVals T) rfl R5.out HS5.out H1.out H2.out Z5.out ?_; intro v6 w6 hown6 hg6 hat6; have O6 := Lib.hid hown6; have G6 := Lib.hid hg6; clear hown6 hg6 hat6)
      go_ret
      refine ⟨v6, rfl, ?_, below_owned B5.out B5.out.size O5.out G6.out⟩
      rw [HG.out, fldVals_append, List.length_append, hk1]
      exact O6.out
    · have hd := HDr.out
      rw [if_neg hck] at hd
      have HD3 := Lib.hid ((hd.below (Below.refl _ _).drew).below HL3.out)
      clear hd
      go_wp2_with fail
      refine (fclone_any w3 _ _ _ _ HD3.out (by omega)).mono ?_
      rintro e w4 ⟨v4, rfl, ho4, hb4⟩
      have HO4 := Lib.hid ho4
      have HB4 := Lib.hid hb4
      have HK4 := Lib.hid (HB3.out.below hb4 HB3.out.lt)
      have hstr4 : Hid (∀ p ∈ l.drop (k + 1), p.1.size ≤ 9223372036854775807 ∧ p.2.size ≤ 9223372036854775807) := fun p hp => HA.out.str p (List.mem_of_mem_drop hp)
      clear ho4 hb4
      go_wp2_with fail
      refine (delfunc_any 101 #[.pointer (some ⟨w.heap.size + 1, 0, none⟩)] (fun _ _ => by kernel_rfl) (fun f => foldS name f.1) w4 w3.heap.size v4 (l.drop (k + 1)) HO4.out (by rw [List.length_drop]; omega) hstr4.out (fun W f hW hf => ?_)).mono ?_
      · have hbW : Below w1.heap.size w1 W := by
          have h12 : Below w1.heap.size w1 w2.drew := HB12.out.drew
          have h13 := h12.trans (HL3.out.mono HB12.out.size)
          have h14 := h13.trans (HB4.out.mono h13.size)
          exact h14.grown hW h14.size (fun j hj => Nat.le_trans h13.size (HO4.out.lt j hj).1)
        have := named1_any [name] f.1 f.2 (w.heap.size + 1) W (hstr4.out f hf).1 (HN.out.below hbW)
        rw [isB_one] at this
        exact this
      rintro e w5 ⟨v5, rfl, ho5, hg5, _⟩
      have hlen5 : ((l.drop (k + 1)).filter fun f => !foldS name f.1).length ≤ l.length - (k + 1) := by
        have := List.length_filter_le (fun f : ByteArray × ByteArray => !foldS name f.1) (l.drop (k + 1))
        rw [List.length_drop] at this
        exact this
      obtain ⟨x5, c5, rfl, _, hF5⟩ := own_flds ho5 (by omega) (fun p hp => hstr4.out p (List.mem_filter.1 hp).1)
      have hb05 : Below w.heap.size w w5 := by
        have h13 := HB2d.out.trans (HL3.out.mono HB2d.out.size)
        have h14 := h13.trans (HB4.out.mono h13.size)
        exact h14.grown hg5 h14.size (fun j hj => Nat.le_trans h13.size (HO4.out.lt j hj).1)
      have hK5 := HK4.out.grown hg5 (fun e => by have h1 := (HO4.out.lt _ e.symm).1; have h2 := HB3.out.lt; omega)
      have hOB := own_of_blk (B := w.heap.size) hK5 HB2d.out.size (by rw [List.length_append, List.length_take]; unfold maxLen; simp; omega)
      have hk1 : (l.take k ++ [(f1, value)]).length = k + 1 := by rw [List.length_append, List.length_take]; simp; omega
      rw [hk1] at hOB
      obtain ⟨T, hT⟩ : ∃ T, T = (l.drop (k + 1)).filter fun f => !foldS name f.1 := ⟨_, rfl⟩
      rw [← hT] at hlen5 hF5 HG ⊢
      have R5 := Lib.hid hF5.reads
      have O5 := Lib.hid hOB
      have B5 := Lib.hid hb05
      have H1 : Hid (k + 1 + T.length ≤ maxLen) := by show _ ≤ _; unfold maxLen; omega
      have H2 : Hid ((k + 1 + T.length) * 32 ≤ 140737488355328) := by show _ ≤ _; omega
      have HS5 := Lib.hid (fld_one T)
      have Z5 := Lib.hid hb05.size
      clear ho5 hg5 hF5 hb05 hK5 hOB hT
      go_wp2_with (at_builtin; refine wpList_append_any _ rfl (.tmp 32) (.tmp 39) _ rfl w.heap.size 31 i0 _ 2 32 Try.underlying22 hi0.out hz.out.1 hz.out.2.1 hz.out.2.2 rfl (by omega) _ (k + 1) _ (by rfl) O5.out w5.heap.size _ T.length c5 (fldVals T) rfl R5.out HS5.out H1.out H2.out Z5.out ?_; intro v6 w6 hown6 hg6 hat6; have O6 := Lib.hid hown6; have G6 := Lib.hid hg6; clear hown6 hg6 hat6)
      go_ret
      refine ⟨v6, rfl, ?_, below_owned B5.out B5.out.size O5.out G6.out⟩
      rw [HG.out, fldVals_append, List.length_append, hk1]
      exact O6.out
end Go.Proofs.Ytdpohibgipkhnaa
