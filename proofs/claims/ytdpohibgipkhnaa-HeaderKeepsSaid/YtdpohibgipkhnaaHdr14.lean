
/-
  THE WALK of the law HeaderKeeps.
-/
import Derived.Test.YtdpohibgipkhnaaKeepPlain
import Derived.Test.YtdpohibgipkhnaaHdr13
import Derived.Deep.DeepCutAuto
namespace Go.Proofs.Ytdpohibgipkhnaa
open Go.RowKit Go.Sort Go.Proofs.Ytdpohibgipkhnaa.Oct

set_option maxRecDepth 100000 in
set_option maxHeartbeats 6400000 in
theorem hkeeps_yes (x : Option Addr) (n c : Nat) (l : Flds) (s t o : ByteArray) (w : World) (h : FldsAt w x n l) (hnc : n ≤ c) (hl : fewB l = true) (hs : s.size ≤ 100) (ht : t.size ≤ 300) (hz : o.size ≤ 100) :
    Calls Try.prog 7 #[.slice x n c, .agg #[.string s, .string t], .string o] w fun e w' => e = .returned (.bool true) ∧ Below w.heap.size w w' := by
  obtain ⟨i0, hi0, hz0⟩ := info_hid info_field
  obtain ⟨f1, f2, f3⟩ := few_names hl
  have hnl : n ≤ 65536 := by have := h.len; omega
  have hlen := h.len
  have hs9 : s.size ≤ 9223372036854775807 := by omega
  have ht9 : t.size ≤ 9223372036854775807 := by omega
  have hz9 : o.size ≤ 9223372036854775807 := by omega
  have hs14 : s.size ≤ 140737488355328 := by omega
  have hz14 : o.size ≤ 140737488355328 := by omega
  have HSo := Lib.hid (setF_str h.str hs9 ht9)
  have HWo : Hid (∀ p ∈ withoutF l [s], p.1.size ≤ 9223372036854775807 ∧ p.2.size ≤ 9223372036854775807) := fun p hp => h.str p (withoutF_sub hp)
  have hWl : (withoutF l [s]).length ≤ 65536 := by have := withoutF_len l [s]; omega
  have hSl : (setF l s t).length ≤ 65536 := by have := setF_len l s t; omega
  have HA0 := Lib.hid (h.below (below_new w (.cells #[.string s, .string t] 31)))
  have HStr := Lib.hid h.str
  have HL := Lib.hid hl
  have HmO : Hid (∀ q ∈ allV l o, q.size ≤ 9223372036854775807) := fun q hq => by obtain ⟨p, hp, rfl⟩ := allV_mem hq; have := f3 p hp; omega
  have HlO : Hid ((allV l o).length ≤ 9223372036854775807) := by
    show _ ≤ _
    have h1 := allV_len l o l.length
    rw [List.take_length] at h1
    omega
  have i1 : ¬ (100 : Int) < (s.size : Int) := by omega
  have i2 : ¬ (300 : Int) < (t.size : Int) := by omega
  have i3 : ¬ (100 : Int) < (o.size : Int) := by omega
  clear h hl f1 f2 f3
  go_enter Try.func7, Try.ntmps7
  go_wp2_with fail
  refine (few_any _ x n c l HA0.out).mono ?_
  rintro e w1 ⟨rfl, hb1⟩
  rw [HL.out]
  have K1 := (Blk.new w 31 #[.string s, .string t]).below hb1 (by simp)
  have C0 : w1.cell? ⟨w.heap.size, 0, none⟩ = some (.string s) := K1.cell 0
  have C1 : w1.cell? ⟨w.heap.size, 1, none⟩ = some (.string t) := K1.cell 1
  have HLt : w.heap.size < w1.heap.size := K1.lt
  have HA := Lib.hid (HA0.out.below hb1)
  have BW := Lib.hid (grow_trans (below_new w (.cells #[.string s, .string t] 31)) hb1)
  have R1 := Lib.hid (HA.out.reads.alloc (Nat.le_refl _) (.cells #[] 31))
  have HOl := Lib.hid (World.ownsRow_lit (base := w1.heap.size) (e := 31) (size := 2) w1 #[] 0 (Nat.le_refl _) (by decide) rfl)
  have H1 : Hid (0 + n ≤ maxLen) := by show _ ≤ _; unfold maxLen; omega
  have H2 : Hid ((0 + n) * 32 ≤ 140737488355328) := by show _ ≤ _; omega
  have HS := Lib.hid (fld_one l)
  clear hb1 K1 HA0
  go_wp2_with (at_builtin; refine wpList_append_any _ rfl (.tmp 34) (.tmp 35) _ rfl w1.heap.size 31 i0 _ 2 32 Try.underlying22 hi0.out hz0.out.1 hz0.out.2.1 hz0.out.2.2 rfl (by omega) _ 0 [] (by rfl) HOl.out w1.heap.size _ n c (fldVals l) rfl R1.out HS.out H1.out H2.out (by simp) ?_; intro v2 w2 hown2 hg2 hat2; (rw [Nat.zero_add, List.nil_append] at hown2); have HO2 := Lib.hid hown2; have B2 : Hid (Below w1.heap.size w1 w2) := ((Below.refl _ w1).alloc (Nat.le_refl _) _).grown hg2 (by simp) (by simp [Value.ownBlock]); have d0 := (B2.out.cell (p := ⟨w.heap.size, 0, none⟩) HLt).trans C0; have d1 := (B2.out.cell (p := ⟨w.heap.size, 1, none⟩) HLt).trans C1; clear hown2 hg2 hat2)
  have hO2 : w2.ownsRow w1.heap.size 31 2 v2 l.length (fldVals l) := by rw [hlen]; exact HO2.out
  obtain ⟨x2, c2, rfl, hF2'⟩ := own_flds_n (n := n) hO2 ⟨hlen.symm, hnl⟩ HStr.out
  have hF2 := Lib.hid hF2'
  clear hO2 hF2'
  go_wp2_with fail
  go_cut [8, 9] (fun s8 s9 wx => ∃ (x8 x9 : Option Addr) (c8 c9 : Nat), s8 = .slice x8 (setF l s t).length c8 ∧ s9 = .slice x9 (withoutF l [s]).length c9 ∧ Hid (FldsAt wx x8 (setF l s t).length (setF l s t)) ∧ Hid (FldsAt wx x9 (withoutF l [s]).length (withoutF l [s])) ∧ Hid (Below w2.heap.size w2 wx))
  case first =>
    have B2s := Lib.hid (Below.refl w2.heap.size w2)
    go_region_held3 (fun w' => w'.cell? ⟨w.heap.size, 0, none⟩ = some (.string s) ∧ w'.cell? ⟨w.heap.size, 1, none⟩ = some (.string t)) (go_keep)
      (first
        | (go_at_call 37; refine (hset_any _ x n c l s t (HA.out.below (by first | exact B2.out | exact B2.out.drew | exact below_drewN B2.out _ | exact (B2.out.drew).alloc B2.out.size _ | exact ((B2.out.drew).alloc B2.out.size _).drew | exact B2.out.alloc B2.out.size _ | exact (B2.out.alloc B2.out.size _).drew)) hnc hnl hs9 ht9).mono ?_; rintro e w3 ⟨v3, rfl, ho3, hb3⟩; have HB3 := Lib.hid hb3; obtain ⟨x3, c3, rfl, _, hF3⟩ := own_flds ho3 hSl HSo.out; have F3 := Lib.hid hF3; have B3 := Lib.hid (grow_trans (by first | exact B2.out | exact B2.out.drew | exact below_drewN B2.out _ | exact (B2.out.drew).alloc B2.out.size _ | exact ((B2.out.drew).alloc B2.out.size _).drew | exact B2.out.alloc B2.out.size _ | exact (B2.out.alloc B2.out.size _).drew) hb3); have k3c0 := (B3.out.cell (p := ⟨w.heap.size, 0, none⟩) HLt).trans C0; have k3c1 := (B3.out.cell (p := ⟨w.heap.size, 1, none⟩) HLt).trans C1; clear ho3 hF3 hb3)
        | (go_at_call 33; have hg := F3; clear hg; refine (hwithout_any _ x _ n c 1 1 l [s] (HA.out.below (by first | exact B3.out | exact B3.out.drew | exact below_drewN B3.out _ | exact (B3.out.drew).alloc B3.out.size _ | exact ((B3.out.drew).alloc B3.out.size _).drew | exact B3.out.alloc B3.out.size _ | exact (B3.out.alloc B3.out.size _).drew)) (by first | exact strs_lit _ s hs9 | exact (strs_lit _ s hs9).below (Below.refl _ _).drew | exact (strs_lit _ s hs9).below HB3.out | exact ((strs_lit _ s hs9).below HB3.out).below (Below.refl _ _).drew | exact ((strs_lit _ s hs9).below (Below.refl _ _).drew).below HB3.out) hnl).mono ?_; rintro e w4 ⟨v4, rfl, ho4, hb4⟩; obtain ⟨x4, c4, rfl, _, hF4⟩ := own_flds ho4 hWl HWo.out; have F4 := Lib.hid hF4; have B4 := Lib.hid (grow_trans (by first | exact B3.out | exact B3.out.drew | exact below_drewN B3.out _ | exact (B3.out.drew).alloc B3.out.size _ | exact ((B3.out.drew).alloc B3.out.size _).drew | exact B3.out.alloc B3.out.size _ | exact (B3.out.alloc B3.out.size _).drew) hb4); have HB4 := Lib.hid hb4; have k4c0 := (B4.out.cell (p := ⟨w.heap.size, 0, none⟩) HLt).trans C0; have k4c1 := (B4.out.cell (p := ⟨w.heap.size, 1, none⟩) HLt).trans C1; clear ho4 hF4 hb4)
        | fail)
    all_goals (go_wp2_with fail; go_meet)
    case rel =>
      have h23 : Below w2.heap.size w2 w3 := ((Below.refl _ w2).drew).trans HB3.out
      have h34 : Below w3.heap.size w3 w4 := (below_new w3 _).trans (HB4.out.mono (by simp))
      exact ⟨x3, x4, c3, c4, rfl, rfl, F3.out.below h34, F4.out, grow_trans h23 h34⟩
    case rel =>
      have h23 : Below w2.heap.size w2 w3 := (((Below.refl _ w2).alloc (Nat.le_refl _) _).drew).trans (HB3.out.mono (by show _ ≤ (w2.alloc _).heap.size; simp))
      exact ⟨x3, x4, c3, c4, rfl, rfl, F3.out.below HB4.out, F4.out, grow_trans h23 HB4.out⟩
  case rest =>
    obtain ⟨x8, x9, c8, c9, rfl, rfl, hF8, hF9, hbx⟩ := hcut
    have B5 := Lib.hid (grow_trans B2.out hbx.out)
    have F2 := Lib.hid (hF2.out.below hbx.out)
    have k0 := (B5.out.cell (p := ⟨w.heap.size, 0, none⟩) HLt).trans C0
    have k1 := (B5.out.cell (p := ⟨w.heap.size, 1, none⟩) HLt).trans C1
    have HG := Lib.hid (getF_set l s t)
    have HV1 : Hid (((allV (setF l s t) s).length : Int) = 1) := by show _ = _; rw [allV_set]; rfl
    have HV0 : Hid (((allV (withoutF l [s]) s).length : Int) = 0) := by show _ = _; rw [allV_gone]; rfl
    clear hF2 hbx
    go_wp2_with fail
    refine (hget_any _ x8 _ c8 (setF l s t) s hs9 hF8.out).mono ?_
    rintro e w6 ⟨rfl, hb6⟩
    rw [HG.out]
    have B6 := Lib.hid (grow_trans B5.out hb6)
    have F86 := Lib.hid (hF8.out.below hb6)
    have F96 := Lib.hid (hF9.out.below hb6)
    have F26 := Lib.hid (F2.out.below hb6)
    have m0 := (B6.out.cell (p := ⟨w.heap.size, 0, none⟩) HLt).trans C0
    have m1 := (B6.out.cell (p := ⟨w.heap.size, 1, none⟩) HLt).trans C1
    clear hb6 k0 k1
    go_wp2_with fail
    refine (hcount_any w6 x8 _ c8 _ s hs9 F86.out hSl).mono ?_
    rintro e w7 ⟨rfl, hb7⟩
    rw [HV1.out]
    have B7 := Lib.hid (grow_trans B6.out hb7)
    have F87 := Lib.hid (F86.out.below hb7)
    have F97 := Lib.hid (F96.out.below hb7)
    have F27 := Lib.hid (F26.out.below hb7)
    have n0 := (B7.out.cell (p := ⟨w.heap.size, 0, none⟩) HLt).trans C0
    clear hb7 m0 m1
    go_wp2_with fail
    refine (hcount_any w7 x9 _ c9 _ s hs9 F97.out hWl).mono ?_
    rintro e w8 ⟨rfl, hb8⟩
    rw [HV0.out]
    have B8 := Lib.hid (grow_trans B7.out hb8)
    have F88 := Lib.hid (F87.out.below hb8)
    have F98 := Lib.hid (F97.out.below hb8)
    have F28 := Lib.hid (F27.out.below hb8)
    have o0 := (B8.out.cell (p := ⟨w.heap.size, 0, none⟩) HLt).trans C0
    clear hb8 n0
    go_wp2_with fail
    refine (hsame_any x x2 _ c _ c2 l l w8 (HA.out.below B8.out) F28.out).mono ?_
    rintro e w9 ⟨rfl, hd9⟩
    rw [show decide (l = l) = true from decide_eq_true rfl]
    have B9 := Lib.hid (B8.out.trans (hd9.below _))
    have F89 := Lib.hid (F88.out.below hd9.grow)
    have F99 := Lib.hid (F98.out.below hd9.grow)
    have q0 := (B9.out.cell (p := ⟨w.heap.size, 0, none⟩) HLt).trans C0
    clear hd9 o0
    go_wp2_with fail
    refine (ris_any o s w9 hz14 hs14).mono ?_
    rintro e w10 ⟨rfl, hb10⟩
    have B10 := Lib.hid (grow_trans B9.out hb10)
    have F810 := Lib.hid (F89.out.below hb10)
    have F910 := Lib.hid (F99.out.below hb10)
    clear hb10 q0
    cases hso : foldS s o
    · have HE1 := Lib.hid (allV_set_other l s t o hso)
      have HE2 := Lib.hid (allV_gone_other s o hso l)
      clear hso
      go_wp2_with fail
      refine (all_any w10 x n c l o hz9 (HA.out.below B10.out) hnl).mono ?_
      rintro e w11 ⟨v11, rfl, ho11, _, hb11⟩
      obtain ⟨y11, c11, rfl, hs11⟩ := own_strs ho11 HlO.out HmO.out
      have S11 := Lib.hid hs11
      have B11 := Lib.hid (grow_trans B10.out hb11)
      have F811 := Lib.hid (F810.out.below hb11)
      have F911 := Lib.hid (F910.out.below hb11)
      clear ho11 hs11 hb11
      go_wp2_with fail
      refine (all_any w11 x8 _ c8 _ o hz9 F811.out hSl).mono ?_
      rintro e w12 ⟨v12, rfl, ho12, _, hb12⟩
      rw [HE1.out] at ho12
      obtain ⟨y12, c12, rfl, hs12⟩ := own_strs ho12 HlO.out HmO.out
      have S12 := Lib.hid hs12
      have S1112 := Lib.hid (S11.out.below hb12)
      have B12 := Lib.hid (grow_trans B11.out hb12)
      have F912 := Lib.hid (F911.out.below hb12)
      clear ho12 hs12 hb12
      go_wp2_with fail
      refine (rsame_any _ _ _ c12 _ c11 _ _ _ S12.out S1112.out).mono ?_
      rintro e w13 ⟨rfl, hd13⟩
      rw [show decide (allV l o = allV l o) = true from decide_eq_true rfl]
      have B13 := Lib.hid (B12.out.trans (hd13.below _))
      have S1113 := Lib.hid (S1112.out.below hd13.grow)
      have F913 := Lib.hid (F912.out.below hd13.grow)
      clear hd13
      go_wp2_with fail
      refine (all_any w13 x9 _ c9 _ o hz9 F913.out hWl).mono ?_
      rintro e w14 ⟨v14, rfl, ho14, _, hb14⟩
      rw [HE2.out] at ho14
      obtain ⟨y14, c14, rfl, hs14b⟩ := own_strs ho14 HlO.out HmO.out
      have S14 := Lib.hid hs14b
      have S1114 := Lib.hid (S1113.out.below hb14)
      have B14 := Lib.hid (grow_trans B13.out hb14)
      clear ho14 hs14b hb14
      go_wp2_with fail
      refine (rsame_any _ _ _ c14 _ c11 _ _ _ S14.out S1114.out).mono ?_
      rintro e w15 ⟨rfl, hd15⟩
      rw [show decide (allV l o = allV l o) = true from decide_eq_true rfl]
      have B15 := Lib.hid (B14.out.trans (hd15.below _))
      clear hd15
      go_wp2_with fail
      refine (hlives_any w15).mono ?_
      rintro e w16 ⟨rfl, hb16⟩
      have B16 := Lib.hid (grow_trans B15.out hb16)
      clear hb16
      go_wp2
      go_ret
      exact ⟨rfl, grow_trans BW.out B16.out⟩
    · clear hso
      go_wp2_with fail
      refine (hlives_any w10).mono ?_
      rintro e w11 ⟨rfl, hb11⟩
      have B11 := Lib.hid (grow_trans B10.out hb11)
      clear hb11
      go_wp2
      go_ret
      exact ⟨rfl, grow_trans BW.out B11.out⟩
end Go.Proofs.Ytdpohibgipkhnaa
