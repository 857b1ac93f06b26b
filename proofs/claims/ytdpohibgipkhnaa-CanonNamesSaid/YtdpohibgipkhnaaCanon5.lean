
/-
  THE WALK of canon.Name.
-/
import Derived.Test.YtdpohibgipkhnaaCanon4
import Derived.Test.YtdpohibgipkhnaaClasses
namespace Go.Proofs.Ytdpohibgipkhnaa
open Go.RowKit Go.Sort Go.Proofs.Ytdpohibgipkhnaa.Oct

theorem specA_at (k : Nat) (h : k < spec4.length) : specA[k]? = some (.string spec4[k]) := by
  have h4 : k < 4 := h
  rcases (show k = 0 ∨ k = 1 ∨ k = 2 ∨ k = 3 from by omega) with rfl | rfl | rfl | rfl <;> rfl
theorem index_spec (k : Nat) (h : k < spec4.length) (w : World) : (Instr.index 88 (.agg specA) (.int .i64 k)).run Try.prog w = .ok (.string spec4[k]) w := by
  have h4 : k < 4 := h
  rcases (show k = 0 ∨ k = 1 ∨ k = 2 ∨ k = 3 from by omega) with rfl | rfl | rfl | rfl <;> simp [Instr.index, run_underlying Try.underlying88, asIntOf, part, Try.isAgg9, Try.sizeOf9, specA, spec4, go_sem]
theorem spec4_small : ∀ b ∈ spec4, b.size ≤ 9223372036854775807 := by decide +kernel
theorem low_get (s : ByteArray) (k : Nat) (h : k < s.size) (h2 : k < (lowS s).data.toList.length) : (lowS s).data.toList[k] = lowB s[k] := by
  simp only [lowS_data, List.getElem_map]
  rfl
theorem lowB_high (c : UInt8) (h : 128 ≤ c.toNat) : lowB c = c := by unfold lowB; rw [if_neg (by omega)]
theorem low_len (s : ByteArray) : (lowS s).data.toList.length = s.size := by rw [lowS_data, List.length_map]; simp
theorem lowB_dash (c : UInt8) : (lowB c == 45) = (c == 45) := by
  rw [Bool.eq_iff_iff, beq_iff_eq, beq_iff_eq]
  constructor
  · intro h
    have h1 := lowB_toNat c
    rw [h] at h1
    have e : ((45 : UInt8).toNat : Int) = 45 := rfl
    rw [e] at h1
    unfold lowI at h1
    apply UInt8.toNat_inj.1
    show c.toNat = 45
    split at h1 <;> omega
  · intro h; subst h; rfl
theorem capMix_skips (s : ByteArray) (k : Nat) : ∀ n, k + n ≤ s.size → (∀ j (hj : k + j < s.size), j < n → 128 ≤ (s[k + j]).toNat) → capMix s (k + n) = capMix s k
  | 0, _, _ => rfl
  | n + 1, hn, hall => by
    have hl := low_len s
    rw [← capMix_skips s k n (by omega) (fun j hj h => hall j hj (by omega)), ← Nat.add_assoc]
    refine capMix_skip s (k + n) (by omega) (.inr ?_)
    rw [low_get s (k + n) (by omega), lowB_high _ (hall n (by omega) (by omega))]
    exact upB_high _ (hall n (by omega) (by omega))
theorem beg_low (s : ByteArray) (k : Nat) (h : k < s.size) : begL true ((lowS s).data.toList.take (k + 1)) = (s[k] == 45) := by
  have hl := low_len s
  rw [beg_take _ true k (by omega), low_get s k h, lowB_dash]
theorem upI_upB (c : UInt8) : upI c.toNat = (upB c).toNat := by
  have := c.toNat_lt
  unfold upI upB
  by_cases h : 97 ≤ c.toNat ∧ c.toNat ≤ 122
  · rw [if_pos h, if_pos (by omega), UInt8.toNat_ofNat']
    omega
  · rw [if_neg h, if_neg (by omega)]
theorem dash_eq (c : UInt8) : ((c.toNat : Int) == 45) = (c == 45) := by
  rw [Bool.eq_iff_iff, beq_iff_eq, beq_iff_eq]
  constructor
  · intro h
    apply UInt8.toNat_inj.1
    show c.toNat = 45
    omega
  · intro h; subst h; rfl
theorem lowB_small (c : UInt8) (h : c.toNat < 128) : (lowB c).toNat < 128 := by
  have h1 := lowB_toNat c
  unfold lowI at h1
  split at h1 <;> omega
theorem upI_range (c : Int) (h0 : 0 ≤ c) (h1 : c ≤ 255) : 0 ≤ upI c ∧ upI c ≤ 255 := by unfold upI; split <;> omega

set_option maxRecDepth 100000 in
set_option maxHeartbeats 3200000 in
theorem name_any (s : ByteArray) (w : World) (hs : s.size ≤ 140737488355328) : Calls Try.prog 40 #[.string s] w fun e w' => e = .returned (.string (nameS s)) ∧ Below w.heap.size w w' := by
  have hs2 : s.size ≤ 9223372036854775807 := by omega
  have hlow := fun w => lowerS_any s w hs2
  have HLW := Lib.hid hlow
  clear hlow
  have hconv := fun wx => run_bytes_of_string (P := Try.prog) wx 9 90 5 (lowS s) Try.underlying9 Try.underlying90 Try.underlying5
  have HCV := Lib.hid hconv
  clear hconv
  go_enter Try.func40, Try.ntmps40
  go_wp2_with fail
  refine (special_any _).mono ?_
  rintro e w1 ⟨rfl, hb1⟩
  have HB1 := Lib.hid hb1
  clear hb1
  go_wp2_with fail
  go_loopg [11] 4 (fun gg s11 wr => ∃ k : Nat, k ≤ 4 ∧ 4 - k ≤ gg ∧ s11 = .int .i64 k ∧ Hid (∀ j (hj : j < spec4.length), j < k → foldS spec4[j] s = false) ∧ Hid (Below w1.heap.size w1 wr))
  case atStart => exact ⟨0, by omega, by omega, rfl, fun j _ hj => absurd hj (Nat.not_lt_zero _), Below.refl _ _⟩
  case round =>
    obtain ⟨k, hk, hgk, rfl, hall, hb⟩ := hrel
    by_cases hkl : k < 4
    · have hkb : k < spec4.length := hkl
      have hcell := index_spec k hkb
      have hbs := spec4_small _ (List.getElem_mem hkb)
      obtain ⟨bn, hbn⟩ : ∃ bn, bn = spec4[k] := ⟨_, rfl⟩
      rw [← hbn] at hcell hbs
      have HN := Lib.hid hbn
      clear hbn
      cases hf : foldS bn s
      · have HF := Lib.hid hf
        clear hf
        go_wp2_with fail
        refine (fold_any bn s _ hbs hs2).mono ?_
        rintro e w3 ⟨rfl, hd⟩
        rw [HF.out]
        have HB := Lib.hid (hb.out.trans (hd.below _))
        clear hd hcell
        go_wp2_with fail
        go_roundg (4 - (k + 1))
        case measure => omega
        case rel => exact ⟨k + 1, by omega, Nat.le_refl _, by go_num, (fun j hj hjk => by
          by_cases e : j = k
          · subst e; rw [← HN.out]; exact HF.out
          · exact hall.out j hj (by omega)), HB.out⟩
      · have hres : nameS s = bn := by
          unfold nameS
          have : spec4.find? (fun n => foldS n s) = some bn := by
            rw [List.find?_eq_some_iff_getElem]
            exact ⟨hf, k, hkb, HN.out.symm, fun j hj => by rw [hall.out j (by omega) hj]; rfl⟩
          rw [this]
        have HR := Lib.hid hres
        have HF := Lib.hid hf
        clear hf hres
        go_wp2_with fail
        refine (fold_any bn s _ hbs hs2).mono ?_
        rintro e w3 ⟨rfl, hd⟩
        rw [HF.out]
        have HB := Lib.hid (hb.out.trans (hd.below _))
        clear hd hcell
        go_wp2_with fail
        go_ret
        exact ⟨ret_str HR.out.symm, grow_trans HB1.out HB.out⟩
    · obtain rfl : 4 = k := by omega
      have hres : nameS s = ⟨(capL true (lowS s).data.toList).toArray⟩ := by
        unfold nameS
        have : spec4.find? (fun n => foldS n s) = none := by
          rw [List.find?_eq_none]
          intro b hb2
          obtain ⟨j, hj, rfl⟩ := List.mem_iff_getElem.1 hb2
          rw [hall.out j hj hj]
          simp
        rw [this]
      have HR := Lib.hid hres
      clear hres hall
      go_wp2_with fail
      refine (HLW.out _).mono ?_
      rintro e w2 ⟨rfl, hb2⟩
      have HB2 := Lib.hid (hb.out.trans (hb2.mono hb.out.size))
      clear hb2
      have hcv := HCV.out
      go_wp2_with fail
      clear hcv
      have hcells0 : CellsAt ((w2.alloc (Obj.cells (bytesRow (lowS s) (grownCap w2 (lowS s).size 0 5)) 5 ((bytesRow (lowS s) (grownCap w2 (lowS s).size 0 5)).size, (bytesRow (lowS s) (grownCap w2 (lowS s).size 0 5)).size + 1))).drew.iter s 0) w2.heap.size (byteVals (capMix s 0)) := by
        rw [capMix_zero]
        exact (CellsAt.of_bytes w2 (lowS s) _ 5).block (Below.heap_alloc _ _ _ (by simp))
      have HC0 := Lib.hid hcells0
      have hls := low_len s
      have HLS := Lib.hid hls
      clear hcells0 hls
      go_loopg [6] (s.size + 1) (fun gg s6 wr => ∃ pos : Nat, pos ≤ s.size ∧ s.size - pos + 1 ≤ gg ∧ wr.heap[w2.heap.size + 1]? = some (.stringIter s pos) ∧ s6 = .bool (begL true ((lowS s).data.toList.take pos)) ∧ Hid (CellsAt wr w2.heap.size (byteVals (capMix s pos))) ∧ Hid (Below w2.heap.size w2 wr))
      case atStart => exact ⟨0, Nat.zero_le _, by omega, (by have := World.iter_heap (w2.alloc (Obj.cells (bytesRow (lowS s) (grownCap w2 (lowS s).size 0 5)) 5 ((bytesRow (lowS s) (grownCap w2 (lowS s).size 0 5)).size, (bytesRow (lowS s) (grownCap w2 (lowS s).size 0 5)).size + 1))).drew s 0; simpa using this), rfl, HC0.out, (((Below.refl _ _).alloc (Nat.le_refl _) _).drew).alloc (by simp) _⟩
      case round =>
        obtain ⟨pos, hpos, hgp, hit, rfl, hcs, hbel⟩ := hrel
        have hlt0 : w2.heap.size + 1 < wr.heap.size := (Array.getElem?_eq_some_iff.1 hit).1
        by_cases hlt : pos < s.size
        · have hnx := fun ty => Lib.run_next_any_at (P := Try.prog) wr (w2.heap.size + 1) s pos ty hit hlt
          have hrest := decode_rest s pos hlt
          have hit1 := Lib.iterAt_heap wr (w2.heap.size + 1) s pos (pos + (Utf8.decode s pos).2) hit
          have hbel1 : Below w2.heap.size w2 (wr.iterAt (w2.heap.size + 1) s (pos + (Utf8.decode s pos).2)) := Lib.below_iterAt hbel.out (Nat.le_succ _) _ _
          have hcs1 : CellsAt (wr.iterAt (w2.heap.size + 1) s (pos + (Utf8.decode s pos).2)) w2.heap.size (byteVals (capMix s pos)) := hcs.out.block ((Lib.below_iterAt (Below.refl (w2.heap.size + 1) wr) (Nat.le_refl _) _ _).block _ (Nat.lt_succ_self _))
          have hlen : (byteVals (capMix s pos)).length = s.size := by rw [byteVals_length, capMix_length, HLS.out]
          have hcell : (wr.iterAt (w2.heap.size + 1) s (pos + (Utf8.decode s pos).2)).cell? ⟨w2.heap.size, pos, none⟩ = some (.int .u8 (lowB s[pos]).toNat) := by
            have := hcs1.cell pos (by rw [hlen]; exact hlt)
            rw [this, byteVals_get]
            congr 3
            have h1 := capMix_at s pos (by rw [HLS.out]; exact hlt)
            rw [List.getElem?_eq_getElem (by rw [capMix_length, HLS.out]; exact hlt)] at h1
            rw [Option.some.inj h1, low_get s pos hlt]
          have hfree : (wr.iterAt (w2.heap.size + 1) s (pos + (Utf8.decode s pos).2)).frozen? ⟨w2.heap.size, pos, none⟩ = false := hcs1.free pos (by rw [hlen]; exact hlt)
          have hlow1 := (lowB s[pos]).toNat_lt
          obtain ⟨ww, hww⟩ : ∃ ww, ww = wr.iterAt (w2.heap.size + 1) s (pos + (Utf8.decode s pos).2) := ⟨_, rfl⟩
          rw [← hww] at hnx hit1 hbel1 hcs1 hcell hfree
          have hzw : w2.heap.size + 1 < ww.heap.size := (Array.getElem?_eq_some_iff.1 hit1).1
          have hlow1 := (lowB s[pos]).toNat_lt
          have hps : pos < (lowS s).size := by rw [lowS_size]; exact hlt
          have HI := Lib.hid hit1
          have HB := Lib.hid hbel1
          have HCS := Lib.hid hcs1
          have HRS := Lib.hid hrest
          have HLN := Lib.hid hlen
          clear hit1 hbel1 hcs1 hrest hit hlen hww
          by_cases ha : (s[pos]).toNat < 128
          · have hdec := decode_ascii s pos hlt ha
            rw [hdec] at hnx HI
            have h128 : ((lowB s[pos]).toNat : Int) < 128 := by have := lowB_small _ ha; omega
            have hb45 : (((s[pos].toNat : Nat) : Int) == 45) = begL true ((lowS s).data.toList.take (pos + 1)) := by rw [beg_low s pos hlt, dash_eq]
            have HB45 := Lib.hid hb45
            clear hdec hb45
            cases hbg : begL true ((lowS s).data.toList.take pos)
            · have hmix : capMix s (pos + 1) = capMix s pos := capMix_skip s pos (by rw [HLS.out]; exact hlt) (.inl hbg)
              have HMX := Lib.hid hmix
              clear hmix
              go_wp2_with fail
              clear hnx
              go_roundg (s.size - (pos + 1) + 1)
              case measure => omega
              case rel => exact ⟨pos + 1, by omega, Nat.le_refl _, HI.out, by rw [← HB45.out], (by show CellsAt _ _ _; rw [HMX.out]; exact HCS.out), HB.out⟩
            · have hur := upI_range ((lowB s[pos]).toNat : Int) (by omega) (by omega)
              obtain ⟨hu0, hu1⟩ := hur
              have hmix := capMix_set s pos (by rw [HLS.out]; exact hlt) hbg
              rw [low_get s pos hlt] at hmix
              have hset := HCS.out.set pos (.int .u8 (upB (lowB s[pos])).toNat)
              rw [byteVals_set, hmix, ← upI_upB] at hset
              have HST := Lib.hid hset
              have hbel2 : Below w2.heap.size w2 (ww.setCell ⟨w2.heap.size, pos, none⟩ (.int .u8 (upI (lowB s[pos]).toNat))) := HB.out.setCell (Nat.le_refl _) _
              have hit2 : (ww.setCell ⟨w2.heap.size, pos, none⟩ (.int .u8 (upI (lowB s[pos]).toNat))).heap[w2.heap.size + 1]? = some (.stringIter s (pos + 1)) := (Below.heap_setCell _ _ _ _ (by simp)).trans HI.out
              have HB2' := Lib.hid hbel2
              have HI2 := Lib.hid hit2
              clear hmix hset hbel2 hit2
              go_wp2_with (go_at_call 82; refine (upper_any _ _ (by omega) (by omega)).mono ?_; rintro e w5 ⟨rfl, rfl⟩)
              clear hnx
              go_roundg (s.size - (pos + 1) + 1)
              case measure => omega
              case rel => exact ⟨pos + 1, by omega, Nat.le_refl _, HI2.out, by rw [← HB45.out], HST.out, HB2'.out⟩
          · have hdec := decode_high s pos hlt (by omega)
            have h128 : ¬ ((lowB s[pos]).toNat : Int) < 128 := by rw [lowB_high _ (by omega)]; omega
            have hmix : capMix s (pos + (Utf8.decode s pos).2) = capMix s pos := capMix_skips s pos _ HRS.out.1 (fun j hj hjn => by
              by_cases hj0 : j = 0
              · subst hj0; simp only [Nat.add_zero]; omega
              · exact HRS.out.2 j hj (by omega) hjn)
            have hbe : begL true ((lowS s).data.toList.take (pos + (Utf8.decode s pos).2)) = false := by
              obtain ⟨v, hv⟩ : ∃ v, (Utf8.decode s pos).2 = v + 1 := ⟨(Utf8.decode s pos).2 - 1, by omega⟩
              have hlast : 128 ≤ (s[pos + v]'(by have := HRS.out.1; omega)).toNat := by
                by_cases hj0 : v = 0
                · subst hj0; simp only [Nat.add_zero]; omega
                · exact HRS.out.2 v (by have := HRS.out.1; omega) (by omega) (by omega)
              rw [hv, ← Nat.add_assoc, beg_low s (pos + v) (by have := HRS.out.1; omega), beq_eq_false_iff_ne]
              intro e
              rw [e] at hlast
              have : (45 : UInt8).toNat = 45 := rfl
              omega
            have h45 : (((Utf8.decode s pos).1 : Int) == 45) = false := by
              have := hdec.1
              rw [beq_eq_false_iff_ne]
              omega
            have hge : 1 ≤ (Utf8.decode s pos).2 := hdec.2
            have hle := HRS.out.1
            have HMX := Lib.hid hmix
            have HBE := Lib.hid hbe
            clear hmix hbe hdec
            obtain ⟨rr, wd, hrw⟩ : ∃ rr wd, Utf8.decode s pos = (rr, wd) := ⟨_, _, rfl⟩
            rw [hrw] at hnx HI h45 hge hle HMX HBE
            simp only at hnx HI h45 hge hle HMX HBE
            clear hrw HRS
            cases hbg : begL true ((lowS s).data.toList.take pos)
            all_goals
              go_wp2_with fail
              clear hnx
              go_roundg (s.size - (pos + wd) + 1)
              case measure => omega
              case rel => exact ⟨pos + wd, hle, Nat.le_refl _, HI.out, by rw [HBE.out], (by show CellsAt _ _ _; rw [HMX.out]; exact HCS.out), HB.out⟩
        · obtain rfl : s.size = pos := by omega
          have hnx := fun ty => Lib.run_next_end_at (P := Try.prog) wr (w2.heap.size + 1) s s.size ty hit hlt
          have hall : capMix s s.size = capL true (lowS s).data.toList := capMix_all s s.size (by rw [HLS.out]; exact Nat.le_refl _)
          have hback := fun cap => back_of_cells (P := Try.prog) (cap := cap) 90 9 Try.underlying90 Try.underlying5 Try.underlying9 hcs.out (lowS s).size (by rw [capMix_length, HLS.out, lowS_size])
          have HAL := Lib.hid hall
          clear hall hit
          go_wp2_with fail
          go_ret
          exact ⟨ret_str (by rw [HR.out, HAL.out]), grow_trans HB1.out (grow_trans HB2.out hbel.out)⟩
end Go.Proofs.Ytdpohibgipkhnaa
