
/-
  THE WALK of the document's Name, where it is none of the special ones. (Under way.)
-/
import Derived.Test.YtdpohibgipkhnaaCanon3
namespace Go.Proofs.Ytdpohibgipkhnaa
open Go.RowKit Go.Sort Go.Proofs.Ytdpohibgipkhnaa.Oct

/-- The octets made great as far as k. -/
def capTo (T : ByteArray) (k : Nat) : List UInt8 := capL true (T.data.toList.take k)
theorem capTo_length (T : ByteArray) (k : Nat) (h : k ≤ T.size) : (capTo T k).length = k := by
  unfold capTo
  rw [capL_length, List.length_take]
  have : T.data.toList.length = T.size := by simp
  omega
theorem capTo_succ (T : ByteArray) (k : Nat) (h : k < T.size) (n : Int) (hn : n = (if begL true (T.data.toList.take k) = true then upB T[k] else T[k]).toNat) : byteVals (capTo T k) ++ [.int .u8 n] = byteVals (capTo T (k + 1)) := by
  unfold capTo
  rw [take_snoc T k h, capL_snoc, byteVals_snoc, hn]
theorem beg_at (T : ByteArray) (k : Nat) (h : k < T.size) (h0 : 0 < k) : begL true (T.data.toList.take k) = (T[k - 1] == 45) := by
  have hl : T.data.toList.length = T.size := by simp
  have := beg_take T.data.toList true (k - 1) (by omega)
  rw [show k - 1 + 1 = k by omega] at this
  rw [this]
  rfl
theorem upB_small (c : UInt8) (h : 97 ≤ (c.toNat : Int)) (h2 : (c.toNat : Int) ≤ 122) : ((upB c).toNat : Int) = c.toNat - 32 := by
  unfold upB
  rw [if_pos (by omega), UInt8.toNat_ofNat']
  omega
theorem upB_none (c : UInt8) (h : ¬ (97 ≤ (c.toNat : Int) ∧ (c.toNat : Int) ≤ 122)) : upB c = c := by unfold upB; rw [if_neg (by omega)]

set_option maxRecDepth 100000 in
set_option maxHeartbeats 3200000 in
theorem rname_loop (s : ByteArray) (w : World) (hs : s.size ≤ 140737488355328) (h : ∀ n ∈ spec4, foldS n s = false) : Calls Try.prog 41 #[.string s] w fun e w' => e = .returned (.string (nameS s)) ∧ Below w.heap.size w w' := by
  have f1 := h ⟨#[69, 84, 97, 103]⟩ (by simp [spec4])
  have f2 := h ⟨#[84, 69]⟩ (by simp [spec4])
  have f3 := h ⟨#[87, 87, 87, 45, 65, 117, 116, 104, 101, 110, 116, 105, 99, 97, 116, 101]⟩ (by simp [spec4])
  have f4 := h ⟨#[68, 78, 84]⟩ (by simp [spec4])
  have l1 := low_lit s ⟨#[69, 84, 97, 103]⟩ ⟨#[101, 116, 97, 103]⟩ _ (by decide) f1
  have l2 := low_lit s ⟨#[84, 69]⟩ ⟨#[116, 101]⟩ _ (by decide) f2
  have l3 := low_lit s ⟨#[87, 87, 87, 45, 65, 117, 116, 104, 101, 110, 116, 105, 99, 97, 116, 101]⟩ ⟨#[119, 119, 119, 45, 97, 117, 116, 104, 101, 110, 116, 105, 99, 97, 116, 101]⟩ _ (by decide) f3
  have l4 := low_lit s ⟨#[68, 78, 84]⟩ ⟨#[100, 110, 116]⟩ _ (by decide) f4
  have HN := Lib.hid (name_5 f1 f2 f3 f4)
  clear f1 f2 f3 f4 h
  obtain ⟨i0, hi, hz⟩ := info_hid info_u8
  have hts := lowS_size s
  have hlow := rlower_any s w hs
  obtain ⟨T, hT⟩ : ∃ T, T = lowS s := ⟨_, rfl⟩
  rw [← hT] at l1 l2 l3 l4 HN hts hlow
  have HTS := Lib.hid hts
  have hs2 : T.size ≤ 140737488355328 := by omega
  have HLW := Lib.hid hlow
  clear hT hts hlow
  go_enter Try.func41, Try.ntmps41
  go_wp2_with fail
  refine HLW.out.mono ?_
  rintro e w1 ⟨rfl, hb1⟩
  have HB1 := Lib.hid hb1
  clear hb1
  go_wp2_with fail
  clear l1 l2 l3 l4
  go_loopg [4, 5] T.size (fun gg v i wr => ∃ k : Nat, k ≤ T.size ∧ T.size - k ≤ gg ∧ i = .int .i64 k ∧ (∃ g cap, v = .slice (some ⟨g, 0, none⟩) k cap) ∧ Hid (wr.ownsRow w1.heap.size 5 1 v k (byteVals (capTo T k))) ∧ Hid (Below w1.heap.size w1 wr))
  case atStart => exact ⟨0, Nat.zero_le _, by omega, rfl, ⟨_, _, rfl⟩, World.ownsRow_lit w1 #[] 0 (Nat.le_refl _) (by decide) rfl, (Below.refl _ _).alloc (Nat.le_refl _) _⟩
  case round =>
    obtain ⟨k, hk, hgk, rfl, ⟨g, cap, rfl⟩, hown, hbel⟩ := hrel
    by_cases hlt : k < T.size
    · have c1 : (T[k].toNat : Int) ≤ 255 := by have := T[k].toNat_lt; omega
      have hsz := hbel.out.size
      have hlo := hown.out.lt g rfl
      have hstep := capTo_succ T k hlt
      by_cases ha : (97 : Int) ≤ (T[k].toNat : Int)
      · by_cases hb : (T[k].toNat : Int) ≤ 122
        · have hup := upB_small T[k] ha hb
          by_cases h0 : k = 0
          · have kd : ((k : Int) == 0) = true := by simp [h0]
            have hbt : begL true (T.data.toList.take k) = true := by rw [h0]; rfl
            clear h0
            have HS := Lib.hid (hstep (T[k].toNat - 32) (by rw [if_pos hbt, hup]))
            clear hstep
            go_wp2_with (at_builtin; refine wpList_append_new rfl (.tmp 46) (.tmp 48) 90 rfl w1.heap.size 5 Try.underlying90 hi hz rfl (by decide) wr [.int .u8 ((T[k].toNat - 32))] hown.out rfl rfl rfl (one_int _ _) (by unfold maxLen; omega) (by omega) (by omega) ?_; intro g' cap' w2 hown1 hgrow1)
            have R := Lib.hid (below_owned hbel.out hsz hown.out hgrow1)
            rw [HS.out] at hown1
            have HOW := Lib.hid hown1
            clear hown1 hgrow1
            go_roundg (T.size - (k + 1))
            case measure => omega
            case rel => exact ⟨k + 1, by omega, Nat.le_refl _, by go_num, ⟨_, _, rfl⟩, HOW.out, R.out⟩
          · have kp : 1 ≤ k := by omega
            have kp0 : 0 < k := by omega
            have hbe := beg_at T k hlt kp0
            have kb : (0 : Int) ≤ (k : Int) - 1 := by omega
            have kc : ((k : Int) - 1).toNat = k - 1 := by omega
            have kd : ((k : Int) == 0) = false := by simp; omega
            have ke : k - 1 < T.size := by omega
            have kf : (1 : Int) ≤ (k : Int) := by omega
            by_cases h45 : ((T[k - 1].toNat : Int) = 45)
            · have hbt : begL true (T.data.toList.take k) = true := by rw [hbe]; have : T[k - 1] = 45 := UInt8.toNat_inj.1 (by simpa using Int.ofNat.inj h45); rw [this]; rfl
              clear hbe
              have HS := Lib.hid (hstep (T[k].toNat - 32) (by rw [if_pos hbt, hup]))
              clear hstep
              go_wp2_with (at_builtin; refine wpList_append_new rfl (.tmp 46) (.tmp 48) 90 rfl w1.heap.size 5 Try.underlying90 hi hz rfl (by decide) wr [.int .u8 ((T[k].toNat - 32))] hown.out rfl rfl rfl (one_int _ _) (by unfold maxLen; omega) (by omega) (by omega) ?_; intro g' cap' w2 hown1 hgrow1)
              have R := Lib.hid (below_owned hbel.out hsz hown.out hgrow1)
              rw [HS.out] at hown1
              have HOW := Lib.hid hown1
              clear hown1 hgrow1
              go_roundg (T.size - (k + 1))
              case measure => omega
              case rel => exact ⟨k + 1, by omega, Nat.le_refl _, by go_num, ⟨_, _, rfl⟩, HOW.out, R.out⟩
            · have hbt : begL true (T.data.toList.take k) = false := by
                rw [hbe, beq_eq_false_iff_ne]
                intro e
                apply h45
                rw [e]
                rfl
              have h46 : ((T[k - 1].toNat : Int) == 45) = false := by simpa using h45
              clear hbe
              have HS := Lib.hid (hstep T[k].toNat (by rw [if_neg (by rw [hbt]; simp)]))
              clear hstep
              go_wp2_with (at_builtin; refine wpList_append_new rfl (.tmp 46) (.tmp 48) 90 rfl w1.heap.size 5 Try.underlying90 hi hz rfl (by decide) wr [.int .u8 (T[k].toNat)] hown.out rfl rfl rfl (one_int _ _) (by unfold maxLen; omega) (by omega) (by omega) ?_; intro g' cap' w2 hown1 hgrow1)
              have R := Lib.hid (below_owned hbel.out hsz hown.out hgrow1)
              rw [HS.out] at hown1
              have HOW := Lib.hid hown1
              clear hown1 hgrow1
              go_roundg (T.size - (k + 1))
              case measure => omega
              case rel => exact ⟨k + 1, by omega, Nat.le_refl _, by go_num, ⟨_, _, rfl⟩, HOW.out, R.out⟩
        · have hup := upB_none T[k] (by omega)
          have HS := Lib.hid (hstep T[k].toNat (by split <;> simp [hup]))
          clear hstep
          go_wp2_with (at_builtin; refine wpList_append_new rfl (.tmp 46) (.tmp 48) 90 rfl w1.heap.size 5 Try.underlying90 hi hz rfl (by decide) wr [.int .u8 (T[k].toNat)] hown.out rfl rfl rfl (one_int _ _) (by unfold maxLen; omega) (by omega) (by omega) ?_; intro g' cap' w2 hown1 hgrow1)
          have R := Lib.hid (below_owned hbel.out hsz hown.out hgrow1)
          rw [HS.out] at hown1
          have HOW := Lib.hid hown1
          clear hown1 hgrow1
          go_roundg (T.size - (k + 1))
          case measure => omega
          case rel => exact ⟨k + 1, by omega, Nat.le_refl _, by go_num, ⟨_, _, rfl⟩, HOW.out, R.out⟩
      · have hup := upB_none T[k] (by omega)
        have HS := Lib.hid (hstep T[k].toNat (by split <;> simp [hup]))
        clear hstep
        go_wp2_with (at_builtin; refine wpList_append_new rfl (.tmp 46) (.tmp 48) 90 rfl w1.heap.size 5 Try.underlying90 hi hz rfl (by decide) wr [.int .u8 (T[k].toNat)] hown.out rfl rfl rfl (one_int _ _) (by unfold maxLen; omega) (by omega) (by omega) ?_; intro g' cap' w2 hown1 hgrow1)
        have R := Lib.hid (below_owned hbel.out hsz hown.out hgrow1)
        rw [HS.out] at hown1
        have HOW := Lib.hid hown1
        clear hown1 hgrow1
        go_roundg (T.size - (k + 1))
        case measure => omega
        case rel => exact ⟨k + 1, by omega, Nat.le_refl _, by go_num, ⟨_, _, rfl⟩, HOW.out, R.out⟩
    · obtain rfl : T.size = k := by omega
      have hback := fun wx => back_of_cells (P := Try.prog) (w := wr) (cap := cap) 90 9 Try.underlying90 Try.underlying5 Try.underlying9 (CellsAt.of_owned hown.out) T.size wx
      have hback2 := hback (capTo_length T _ (Nat.le_refl _)).symm
      clear hback
      have HFN : Hid (capTo T T.size = capL true T.data.toList) := by
        show _ = _
        unfold capTo
        rw [List.take_of_length_le (by simp)]
      go_wp2_with fail
      go_ret
      exact ⟨ret_str (by rw [HN.out, HFN.out]), grow_trans HB1.out hbel.out⟩
/-- The document's Name. -/
theorem rname_any (s : ByteArray) (w : World) (hs : s.size ≤ 140737488355328) : Calls Try.prog 41 #[.string s] w fun e w' => e = .returned (.string (nameS s)) ∧ Below w.heap.size w w' := by
  by_cases h : ∃ n ∈ spec4, foldS n s = true
  · exact rname_spec s w hs h
  · refine rname_loop s w hs fun n hn => ?_
    cases hf : foldS n s
    · rfl
    · exact absurd ⟨n, hn, hf⟩ h
end Go.Proofs.Ytdpohibgipkhnaa
