
/-
  THE WALK of canon.Fields.
-/
import Derived.Test.YtdpohibgipkhnaaCanon6
import Derived.Test.YtdpohibgipkhnaaCanLaw
import Derived.Maps.OwnOps
import Derived.Maps.OwnSet
import Derived.Maps.Views
namespace Go.Proofs.Ytdpohibgipkhnaa
open Go.RowKit Go.Sort Go.Maps Go.Proofs.Ytdpohibgipkhnaa.Oct

theorem key_str : Keyed Try.prog 9 := string_keyed Try.underlying9
theorem zero_int (w : World) : (zeroValue 3).run Try.prog w = .ok (.int .i64 0) w := by kernel_rfl
theorem map_block {w w' : World} {P : Program} {k : TypeId} {R : Value → Option (DataW Unit × List MemPlace)} {b n : Nat} {D : DataW Unit} (h : w.ownsMap P k R b n D) (hb : w'.heap[b]? = w.heap[b]?) : w'.ownsMap P k R b n D := by
  unfold World.ownsMap at h ⊢
  rw [hb]
  exact h
theorem put_same {D : DataW Unit} (hD : IsMap D) (s : List UInt8) (d z : DataW Unit) : (D.put (.string s) d).atKey (.string s) z = d := atKey_put_same (k := .string s) hD trivial d z
/-- The map in block mb tells how often each name has come among l. -/
def CntAt (w : World) (mb n : Nat) (l : Flds) : Prop :=
  ∃ D : DataW Unit, w.ownsMap Try.prog 9 (plainElem Try.prog 3) mb n D ∧ ∀ key, D.atKey (.string key) (.lit (.int .i64 0)) = .lit (.int .i64 (lowCnt l key))
theorem CntAt.block {w w' : World} {mb n : Nat} {l : Flds} (h : CntAt w mb n l) (hb : w'.heap[mb]? = w.heap[mb]?) : CntAt w' mb n l := by
  obtain ⟨D, h1, h2⟩ := h
  exact ⟨D, map_block h1 hb, h2⟩
theorem CntAt.lt {w : World} {mb n : Nat} {l : Flds} (h : CntAt w mb n l) : mb < w.heap.size := by
  obtain ⟨D, h1, h2⟩ := h
  exact h1.lt

theorem canTo_le (l : Flds) (k : Nat) (h : k ≤ l.length) : (canTo l k).length ≤ (canF l).length := by
  obtain ⟨e, he⟩ := canTo_pre l k (l.length - k) (by omega)
  rw [show k + (l.length - k) = l.length by omega] at he
  rw [canF, he, List.length_append]
  omega

set_option maxRecDepth 100000 in
set_option maxHeartbeats 6400000 in
theorem fields_any (w : World) (x : Option Addr) (n c : Nat) (l : Flds) (h : FldsAt w x n l) (hnc : n ≤ c) (hfew : n ≤ 2000) (hsm : ∀ p ∈ l, p.1.size ≤ 140737488355328) (hlen : (canF l).length < 60000) (hsum : SumLe l 1000000000) :
    Calls Try.prog 46 #[.slice x n c] w (FldsPost w (canF l)) := by
  have hmm := @run_makeMap Try.prog
  have hl := h.len
  subst hl
  have HA := Lib.hid h
  have HS := Lib.hid hsum
  have HSM := Lib.hid hsm
  have HLE := Lib.hid hlen
  clear h hsum hsm hlen
  go_enter Try.func46, Try.ntmps46
  go_wp2_with fail
  clear hmm
  go_loopg [16] l.length (fun gg s16 wr => ∃ k : Nat, k ≤ l.length ∧ l.length - k ≤ gg ∧ s16 = .int .i64 k ∧ (∃ v, Hid (OutAt wr (w.heap.size + 2) w.heap.size v (canTo l k))) ∧ Hid (CntAt wr (w.heap.size + 1) k (l.take k)) ∧ Hid (Below w.heap.size w wr))
  case atStart =>
    refine ⟨0, Nat.zero_le _, by omega, rfl, ⟨.slice none 0 0, ⟨(Blk.new w 22 #[.slice none 0 0]).alloc _, World.ownsRow_nil _ _ _ _⟩⟩, ?_, (below_new _ _).alloc (by simp) _⟩
    have := World.ownsMap_made (H := Unit) (w.alloc (.cells #[.slice none 0 0] 22)) Try.prog 9 (plainElem Try.prog 3)
    rw [World.size_alloc] at this
    exact ⟨_, this, fun key => rfl⟩
  case round =>
    obtain ⟨wa, rfl⟩ : ∃ wa, wa = wr := ⟨_, rfl⟩
    obtain ⟨k, hk, hgk, rfl, ⟨v, hout⟩, hcnt, hbel⟩ := hrel
    by_cases hkl : k < l.length
    · obtain ⟨b, o, f, rfl, hl2, hf, hc1, hc2, hs1, hs2⟩ := (HA.out.below hbel.out).get k hkl
      have hsm1 := HSM.out f (by rw [hf]; exact List.getElem_mem hl2)
      obtain ⟨f1, f2⟩ := f
      simp only at hc1 hc2 hs1 hs2 hsm1
      have HF := Lib.hid hf
      have hz0 := hcnt.out.lt
      have hlo1 : (lowS f1).size ≤ maxLen := by unfold maxLen; rw [lowS_size]; omega
      have hkey := Go.WideMaps.keyOf_string_mk (P := Try.prog) Try.underlying9 hlo1
      clear hf hlo1
      go_wp2_with fail
      refine (lowerS_any f1 _ (by omega)).mono ?_
      rintro e w2 ⟨rfl, hb2⟩
      have B2 := Lib.hid ((below_new wa _).trans (hb2.mono (by simp)))
      have BX : Hid (Blk w2 wa.heap.size 31 #[.string f1, .string f2]) := Blk.below (Blk.new wa 31 #[.string f1, .string f2]) hb2 (by simp)
      have hzw : wa.heap.size < w2.heap.size := BX.out.lt
      obtain ⟨D, hD, hat0⟩ := hcnt.out
      have hD2 := map_block hD (B2.out.block _ hz0)
      have hIM := hD2.isMap
      obtain ⟨q, hq⟩ : ∃ q, q = lowCnt (l.take k) (lowS f1).data.toList := ⟨_, rfl⟩
      have hat1 := hat0 (lowS f1).data.toList
      have hqk := lowCnt_le l (lowS f1).data.toList k
      rw [← hq] at hat1 hqk
      have hhit := lowCnt_hit (l.take k) f1
      rw [← hq] at hhit
      have HQ := Lib.hid hq
      have HAT := Lib.hid hat0
      have HHT := Lib.hid hhit
      have HF1 : Hid (l[k].1 = f1) := by show _ = _; rw [← HF.out]
      have hnew : ∀ key, (D.put (.string (lowS f1).data.toList) (.lit (.int .i64 ((q : Int) + 1)))).atKey (.string key) (.lit (.int .i64 0)) = .lit (.int .i64 (lowCnt (l.take (k + 1)) key)) := by
        intro key
        rw [lowCnt_take l key k hkl, HF1.out]
        by_cases e : (lowS f1).data.toList = key
        · rw [if_pos e, ← e, put_same hIM, ← HQ.out]
          congr 2
        · rw [if_neg e, atKey_put_other (fun h => e (by injection h with h; exact h.symm)), HAT.out key]
          rfl
      have HNW := Lib.hid hnew
      have HIM := Lib.hid hIM
      clear hb2 hD hq hat0 hhit hnew hIM
      have HZ : Hid (w.heap.size + 2 ≤ w2.heap.size) := by show _ ≤ _; omega
      by_cases hq0 : q = 0
      · have hd0 : decide ((1 : Int) < (q : Int) + 1) = false := by simp [hq0]
        have hd1 : ¬ (1 : Int) < (q : Int) + 1 := by simp [hq0]
        have hno : hitB f1 (l.take k) = false := by rw [HHT.out, hq0]; rfl
        have HNO := Lib.hid hno
        clear hno hq0
        go_wp2_with (first
          | (at_lookup; refine wpList_lookup_own_int _ rfl _ _ 95 rfl 9 3 .i64 key_str Try.underlying95 Try.underlying3 (zero_int _) (w.heap.size + 1) k _ rfl hD2 _ _ rfl hkey ?_; intro c1 hat2 hwc1; obtain rfl : c1 = (q : Int) := (by have h := hat2.symm.trans hat1; injection h with h; injection h); clear hat2 hwc1)
          | (at_mapUpdate; refine wpList_mapUpdate_own _ rfl _ _ _ 95 rfl 9 3 key_str Try.underlying95 _ (w.heap.size + 1) k _ rfl hD2 (by unfold maxLen; omega) _ _ _ rfl rfl hkey _ [] (plainElem_int Try.underlying3 (WalkArith.wf_i64 (by omega))) ?_; intro w3 hown3 hgrow3; have hat3 : (D.put (.string (lowS f1).data.toList) (.lit (.int .i64 ((q : Int) + 1)))).atKey (.string (lowS f1).data.toList) (.lit (.int .i64 0)) = .lit (.int .i64 ((q : Int) + 1)) := put_same HIM.out _ _ _; have HG3 := Lib.hid hgrow3; have HO3 := Lib.hid hown3; have BX3 : Hid (Blk w3 wa.heap.size 31 #[.string f1, .string f2]) := ((hgrow3.block wa.heap.size hzw (fun e => by injection e with e; omega)).trans BX.out); have cf3 := BX3.out.cell 0; clear hgrow3)
          | (at_lookup; refine wpList_lookup_own_int _ rfl _ _ 95 rfl 9 3 .i64 key_str Try.underlying95 Try.underlying3 (zero_int _) (w.heap.size + 1) (k + 1) _ rfl hown3 _ _ rfl hkey ?_; intro c1 hat2 hwc1; obtain rfl : c1 = (q : Int) + 1 := (by have h := hat2.symm.trans hat3; injection h with h; injection h); clear hat2 hwc1))
        clear hat3 hown3
        have B3 : Hid (Below w.heap.size w w3) := ((hbel.out.trans (B2.out.mono hbel.out.size)).grown HG3.out (by have := HZ.out; omega) (fun j e => by injection e with e; omega))
        refine (all_any w3 _ _ c l f1 hs1 (HA.out.below B3.out) (by omega)).mono ?_
        rintro e w4 ⟨va, rfl, ho4, hnil4, hb4⟩
        have HO4 := Lib.hid ho4
        have HB4 := Lib.hid hb4
        have HNL := Lib.hid hnil4
        have BX4 : Hid (Blk w4 wa.heap.size 31 #[.string f1, .string f2]) := BX3.out.below hb4 BX3.out.lt
        have cf4 := BX4.out.cell 0
        clear ho4 hb4 hnil4 cf3
        go_wp2_with fail
        refine (single_any f1 _ hs1).mono ?_
        rintro e w5 ⟨rfl, hb5⟩
        have HB5 := Lib.hid (grow_trans HB4.out hb5)
        have BX5 : Hid (Blk w5 wa.heap.size 31 #[.string f1, .string f2]) := BX4.out.below hb5 BX4.out.lt
        have HO5 := Lib.hid (own_below HO4.out hb5)
        have cf5 := BX5.out.cell 0
        clear hb5 cf4
        have hcnt3 : CntAt w3 (w.heap.size + 1) (k + 1) (l.take (k + 1)) := ⟨_, HO3.out, HNW.out⟩
        have hout3 : OutAt w3 (w.heap.size + 2) w.heap.size v (canTo l k) := by
          have h2 := hout.out.below ((below_new wa _).trans (Below.refl _ _) : Below wa.heap.size wa (wa.alloc (.cells #[.string f1, .string f2] 31)))
          have h3 : OutAt w2 (w.heap.size + 2) w.heap.size v (canTo l k) := hout.out.below B2.out
          have hlt3 := h3.1.lt
          refine ⟨(HG3.out.block _ hlt3 (by simp)).trans h3.1, h3.2.kept HG3.out (.inr ?_)⟩
          intro e
          have := h3.row _ e
          omega
        have hself : hitB f1 l = true := by
          unfold hitB
          rw [List.any_eq_true]
          exact ⟨l[k], List.getElem_mem hkl, by rw [HF1.out]; exact fold_self2 f1⟩
        have hpos : 0 < (allV l f1).length := List.length_pos_iff.2 (allV_hit_pos hself)
        obtain ⟨ga, capa, rfl, hga, hgl⟩ := HO5.out.form hpos
        have hrow : ∀ g, v.ownBlock = some g → w.heap.size + 2 ≤ g ∧ g < wa.heap.size := fun g hg => hout.out.row g hg
        have hcl : (canTo l k).length ≤ (canF l).length := canTo_le l k (by omega)
        have hcl2 := HLE.out
        have HSU := Lib.hid (HS.out f1)
        have hal : (allV l f1).length ≤ 2000 := Nat.le_trans (allV_le l f1) hfew
        have hb35 : Below w3.heap.size w3 w5 := HB5.out
        have hout5 : OutAt w5 (w.heap.size + 2) w.heap.size v (canTo l k) := hout3.below hb35
        have hcnt5 : CntAt w5 (w.heap.size + 1) (k + 1) (l.take (k + 1)) := hcnt3.block (hb35.block _ hcnt3.lt)
        have hsz5 := hb35.size
        have hsz3 : wa.heap.size < w3.heap.size := BX3.out.lt
        have hsz0 := hbel.out.size
        have OU5 := Lib.hid hout5
        have CN5 := Lib.hid hcnt5
        have HRW := Lib.hid hrow
        have B5 := Lib.hid (B3.out.trans (hb35.mono B3.out.size))
        have HSF := Lib.hid hself
        have HHO : Hid (canTo l (k + 1) = canTo l k ++ oneF l f1) := by
          show _ = _
          have := canTo_new hkl (by rw [HF1.out]; exact HNO.out)
          rwa [HF1.out] at this
        have hz5 : w.heap.size + 2 ≤ w5.heap.size := by have := HZ.out; omega
        have hwrz := HZ.out
        have hfb5 : wa.heap.size < w5.heap.size := by omega
        clear hcnt3 hout3 hout5 hcnt5 hrow hb35 hself
        cases hsg : singB f1
        · have HOE := Lib.hid (oneF_join (l := l) hsg)
          clear hsg
          go_wp2_with fail
          go_region_held3 (fun w' => w'.cell? ⟨wa.heap.size, 0, none⟩ = some (.string f1))
            (first | go_keep | exact (BX6.out.cell 0) | exact (BX7.out.cell 0))
            (first
              | (go_at_call 75; refine (ljoin_any _ w3.heap.size _ (allV l f1) (by exact HO5.out) (by have := HSU.out; omega)).mono ?_; rintro e w6 ⟨rfl, hb6⟩; have B6 : Hid (Below w5.heap.size w5 w6) := (⟨hb6.os, hb6.tape, hb6.output, hb6.size, hb6.block⟩ : Below w5.heap.size w5 w6); have BX6 : Hid (Blk w6 wa.heap.size 31 #[.string f1, .string f2]) := BX5.out.below B6.out BX5.out.lt; have OU6 := Lib.hid (OU5.out.below B6.out); clear hb6)
              | (go_at_call 86; refine (put_any _ (w.heap.size + 2) w.heap.size v (canTo l k) f1 (joinB (allV l f1)) (by exact OU6.out) (by omega) (by exact (Nat.le_trans hz5 B6.out.size)) hsm1 (by have := HSU.out; have := joinB_size (allV l f1); omega) (by omega)).mono ?_; rintro e w7 ⟨rfl, v7, ho7, hl7, hk7⟩; have HO7 := Lib.hid ho7; have HK7 := Lib.hid hk7; have BX7 : Hid (Blk w7 wa.heap.size 31 #[.string f1, .string f2]) := ((hk7.block wa.heap.size (Nat.lt_of_lt_of_le hfb5 B6.out.size) (by omega) (fun e => by have := HRW.out _ e.symm; omega)).trans BX6.out); clear ho7 hl7 hk7))
          have HCN : Hid (CntAt w7 (w.heap.size + 1) (k + 1) (l.take (k + 1))) := (CN5.out.block (B6.out.block _ CN5.out.lt)).block (HK7.out.block _ (Nat.lt_of_lt_of_le CN5.out.lt B6.out.size) (by omega) (fun e => by have := HRW.out _ e.symm; omega))
          have HBE : Hid (Below w.heap.size w w7) := B5.out.trans ((B6.out.mono (by omega)).trans (HK7.out.below (by have := B6.out.size; omega) (Nat.le_refl _) (fun g hg => by have := HRW.out _ hg; omega)))
          have HCT : Hid (canTo l (k + 1) = canTo l k ++ [(nameS f1, trimS (joinB (allV l f1)))]) := by show _ = _; rw [HHO.out, HOE.out]
          go_wp2_with fail
          go_roundg (l.length - (k + 1))
          case measure => omega
          case rel => exact ⟨k + 1, by omega, Nat.le_refl _, by go_num, ⟨v7, by rw [HCT.out]; exact HO7⟩, HCN.out, HBE.out⟩
        · have HOE := Lib.hid (oneF_sing (l := l) hsg)
          clear hsg
          go_wp2_with fail
          go_loopg [40] (allV l f1).length (fun gg s40 wr => ∃ (j : Nat) (v' : Value), j ≤ (allV l f1).length ∧ (allV l f1).length - j ≤ gg ∧ s40 = .int .i64 j ∧ Hid (OutAt wr (w.heap.size + 2) w.heap.size v' (canTo l k ++ ((allV l f1).take j).map (fun s => (nameS f1, trimS s)))) ∧ Hid (Loc v v' w5.heap.size) ∧ Hid (Kept w5 wr w.heap.size v.ownBlock))
          case atStart => exact ⟨0, v, Nat.zero_le _, by omega, rfl, (by show OutAt _ _ _ _ _; simpa using OU5.out), Loc.refl _ _, Kept.refl _ _ _⟩
          case round =>
            obtain ⟨j, v', hj, hgj, rfl, ho, hlc, hkp⟩ := hrel
            by_cases hjl : j < (allV l f1).length
            · obtain ⟨s, hs⟩ : ∃ s, s = (allV l f1)[j] := ⟨_, rfl⟩
              have hcs : wa.heap.size < w5.heap.size := hfb5
              have hca : wr.cell? ⟨ga, j, none⟩ = some (.string s) := by
                have h1 := hkp.out.block ga hgl (by omega) (fun e => by have := HRW.out _ e.symm; omega)
                refine (World.cell?_of_block (w := w5) (a := ⟨ga, j, none⟩) h1).trans ((HO5.out.cellAt j (by omega)).trans ?_)
                unfold strVals
                rw [List.getElem?_map, List.getElem?_eq_getElem hjl, ← hs]
                rfl
              have hcf : wr.cell? ⟨wa.heap.size, 0, none⟩ = some (.string f1) := by
                have h1 := hkp.out.block wa.heap.size hfb5 (by omega) (fun e => by have := HRW.out _ e.symm; omega)
                exact (World.cell?_of_block (w := w5) (a := ⟨wa.heap.size, 0, none⟩) h1).trans (BX5.out.cell 0)
              have hss : s.size ≤ 9223372036854775807 := by
                obtain ⟨p, hp, he⟩ := allV_mem (show s ∈ allV l f1 by rw [hs]; exact List.getElem_mem hjl)
                rw [← he]
                exact (HA.out.str p hp).2
              have hlen2 : (canTo l k ++ ((allV l f1).take j).map (fun s => (nameS f1, trimS s))).length < 100000 := by
                have h1 := congrArg List.length HHO.out
                rw [HOE.out, List.length_append, List.length_map] at h1
                have h2 := canTo_le l (k + 1) (by omega)
                rw [List.length_append, List.length_map, List.length_take]
                omega
              have htk : canTo l k ++ ((allV l f1).take (j + 1)).map (fun s => (nameS f1, trimS s)) = canTo l k ++ ((allV l f1).take j).map (fun s => (nameS f1, trimS s)) ++ [(nameS f1, trimS s)] := by
                rw [List.take_succ_eq_append_getElem hjl, List.map_append, ← hs, List.append_assoc]; rfl
              have HTK := Lib.hid htk
              have hzq := hkp.out.size
              have hzq2 : w.heap.size + 2 ≤ wr.heap.size := by omega
              have hput := put_any wr (w.heap.size + 2) w.heap.size v' _ f1 s ho.out (by omega) hzq2 hsm1 hss hlen2
              have HPU := Lib.hid hput
              clear hs htk hput hlen2
              go_wp2_with fail
              refine HPU.out.mono ?_
              rintro e w8 ⟨rfl, v8, ho8, hl8, hk8⟩
              have HO8 : Hid (OutAt w8 (w.heap.size + 2) w.heap.size v8 (canTo l k ++ ((allV l f1).take (j + 1)).map (fun s => (nameS f1, trimS s)))) := by show OutAt _ _ _ _ _; rw [HTK.out]; exact ho8
              have HL8 := Lib.hid (hlc.out.trans hl8 hzq)
              have HK8 := Lib.hid (hkp.out.trans hk8 hlc.out)
              clear ho8 hl8 hk8
              go_wp2_with fail
              go_roundg ((allV l f1).length - (j + 1))
              case measure => omega
              case rel => exact ⟨j + 1, v8, by omega, Nat.le_refl _, by go_num, HO8.out, HL8.out, HK8.out⟩
            · obtain rfl : (allV l f1).length = j := by omega
              have HCN : Hid (CntAt wr (w.heap.size + 1) (k + 1) (l.take (k + 1))) := CN5.out.block (hkp.out.block _ CN5.out.lt (by omega) (fun e => by have := HRW.out _ e.symm; omega))
              have HBE : Hid (Below w.heap.size w wr) := B5.out.trans (hkp.out.below (by omega) (Nat.le_refl _) (fun g hg => by have := HRW.out _ hg; omega))
              have HOF : Hid (OutAt wr (w.heap.size + 2) w.heap.size v' (canTo l (k + 1))) := by
                show OutAt _ _ _ _ _
                have := ho.out
                rw [List.take_length] at this
                rw [HHO.out, HOE.out]
                exact this
              go_wp2_with fail
              go_roundg (l.length - (k + 1))
              case measure => omega
              case rel => exact ⟨k + 1, by omega, Nat.le_refl _, by go_num, ⟨v', HOF⟩, HCN.out, HBE.out⟩
      · have hd0 : decide ((1 : Int) < (q : Int) + 1) = true := by simp; omega
        have hyes : hitB f1 (l.take k) = true := by rw [HHT.out]; simp; omega
        have HYS := Lib.hid hyes
        clear hyes
        go_wp2_with (first
          | (at_lookup; refine wpList_lookup_own_int _ rfl _ _ 95 rfl 9 3 .i64 key_str Try.underlying95 Try.underlying3 (zero_int _) (w.heap.size + 1) k _ rfl hD2 _ _ rfl hkey ?_; intro c1 hat2 hwc1; obtain rfl : c1 = (q : Int) := (by have h := hat2.symm.trans hat1; injection h with h; injection h); clear hat2 hwc1)
          | (at_mapUpdate; refine wpList_mapUpdate_own _ rfl _ _ _ 95 rfl 9 3 key_str Try.underlying95 _ (w.heap.size + 1) k _ rfl hD2 (by unfold maxLen; omega) _ _ _ rfl rfl hkey _ [] (plainElem_int Try.underlying3 (WalkArith.wf_i64 (by omega))) ?_; intro w3 hown3 hgrow3; have hat3 : (D.put (.string (lowS f1).data.toList) (.lit (.int .i64 ((q : Int) + 1)))).atKey (.string (lowS f1).data.toList) (.lit (.int .i64 0)) = .lit (.int .i64 ((q : Int) + 1)) := put_same HIM.out _ _ _; have HG3 := Lib.hid hgrow3; have HO3 := Lib.hid hown3; have BX3 : Hid (Blk w3 wa.heap.size 31 #[.string f1, .string f2]) := ((hgrow3.block wa.heap.size hzw (fun e => by injection e with e; omega)).trans BX.out); have cf3 := BX3.out.cell 0; clear hgrow3)
          | (at_lookup; refine wpList_lookup_own_int _ rfl _ _ 95 rfl 9 3 .i64 key_str Try.underlying95 Try.underlying3 (zero_int _) (w.heap.size + 1) (k + 1) _ rfl hown3 _ _ rfl hkey ?_; intro c1 hat2 hwc1; obtain rfl : c1 = (q : Int) + 1 := (by have h := hat2.symm.trans hat3; injection h with h; injection h); clear hat2 hwc1))
        have B3 : Hid (Below w.heap.size w w3) := ((hbel.out.trans (B2.out.mono hbel.out.size)).grown HG3.out (by have := HZ.out; omega) (fun j e => by injection e with e; omega))
        have hcnt3 : CntAt w3 (w.heap.size + 1) (k + 1) (l.take (k + 1)) := ⟨_, HO3.out, HNW.out⟩
        have hout3 : OutAt w3 (w.heap.size + 2) w.heap.size v (canTo l k) := by
          have h3 : OutAt w2 (w.heap.size + 2) w.heap.size v (canTo l k) := hout.out.below B2.out
          have hlt3 := h3.1.lt
          refine ⟨(HG3.out.block _ hlt3 (by simp)).trans h3.1, h3.2.kept HG3.out (.inr ?_)⟩
          intro e
          have := h3.row _ e
          omega
        have HCN := Lib.hid hcnt3
        have HOU := Lib.hid hout3
        have HCT : Hid (canTo l (k + 1) = canTo l k) := by show _ = _; exact canTo_hit hkl (by rw [HF1.out]; exact HYS.out)
        clear hat3 hown3 hcnt3 hout3
        go_roundg (l.length - (k + 1))
        case measure => omega
        case rel => exact ⟨k + 1, by omega, Nat.le_refl _, by go_num, ⟨v, by rw [HCT.out]; exact HOU⟩, HCN.out, B3.out⟩
    · obtain rfl : l.length = k := by omega
      have hc0 := hout.out.1.cell 0
      go_wp2_with fail
      go_ret
      exact ⟨_, rfl, own_mono hout.out.2 (by omega), hbel.out⟩
end Go.Proofs.Ytdpohibgipkhnaa
