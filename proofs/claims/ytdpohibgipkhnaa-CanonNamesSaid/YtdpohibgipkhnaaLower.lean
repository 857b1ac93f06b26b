
/-
  THE WALKS of octet.Lower and the reference's Lower: the text with small letters; what was there before stays.
-/
import Derived.Test.YtdpohibgipkhnaaOctet
namespace Go.Proofs.Ytdpohibgipkhnaa
open Go.RowKit Go.Proofs.Ytdpohibgipkhnaa.Oct

theorem info_u8 : (Try.prog.info? 5).map (fun i => (i.zero, i.size, i.bytes)) = some (some (.int .u8 0), 1, 1) := by kernel_rfl

/-- The text's octets made small, as far as k. -/
def lowTo (s : ByteArray) (k : Nat) : List UInt8 := (s.data.toList.take k).map lowB
theorem lowTo_succ (s : ByteArray) (k : Nat) (h : k < s.size) : lowTo s (k + 1) = lowTo s k ++ [lowB s[k]] := by
  unfold lowTo; rw [take_snoc s k h, List.map_append]; rfl
theorem lowTo_all (s : ByteArray) : lowTo s s.size = s.data.toList.map lowB := by
  unfold lowTo; rw [List.take_of_length_le (by simp)]
theorem lowTo_length (s : ByteArray) (k : Nat) (h : k ≤ s.size) : (lowTo s k).length = k := by
  unfold lowTo; simp; omega
theorem lowB_val (c : UInt8) (n : Int) (h : n = lowI c.toNat) : Value.int .u8 n = .int .u8 (lowB c).toNat := by rw [h, lowB_toNat]

set_option maxHeartbeats 400000 in
/-- The reference's Lower. -/
theorem rlower_any (s : ByteArray) (w : World) (hs : s.size ≤ 140737488355328) :
    Calls Try.prog 67 #[.string s] w fun e w' => e = .returned (.string (lowS s)) ∧ Below w.heap.size w w' := by
  obtain ⟨i0, hi, hz⟩ := info_hid info_u8
  go_enter Try.func67, Try.ntmps67
  go_wp2
  go_loopw [3, 4] (fun v i wr => ∃ k : Nat, k ≤ s.size ∧ i = .int .i64 k ∧ (∃ g cap, v = .slice (some ⟨g, 0, none⟩) k cap) ∧ wr.ownsRow w.heap.size 5 1 v k (byteVals (lowTo s k)) ∧ Below w.heap.size w wr) (fun _ i _ => s.size - (intOf i).toNat)
  case atStart => exact ⟨0, Nat.zero_le _, rfl, ⟨_, _, rfl⟩, World.ownsRow_lit w #[] 0 (Nat.le_refl _) (by decide) rfl, (Below.refl _ _).alloc (Nat.le_refl _) _⟩
  case round =>
    obtain ⟨k, hk, rfl, ⟨g, cap, rfl⟩, hown, hbel⟩ := hrel
    by_cases hlt : k < s.size
    · have c1 : (s[k].toNat : Int) ≤ 255 := by have := s[k].toNat_lt; omega
      have hsz := hbel.size
      have hlo := hown.lt g rfl
      have hstep : ∀ n : Int, n = lowI (s[k].toNat) → Hid (byteVals (lowTo s k) ++ [.int .u8 n] = byteVals (lowTo s (k + 1))) := fun n hn => by
        show _ = _
        rw [lowTo_succ s k hlt, byteVals_snoc, lowB_val _ n hn]
      by_cases ha : (65 : Int) ≤ (s[k].toNat : Int)
      · by_cases hb : (s[k].toNat : Int) ≤ 90
        · have HS := hstep (s[k].toNat + 32) (by unfold lowI; rw [if_pos (by omega)])
          clear hstep
          go_wp2_with (at_builtin; refine wpList_append_new rfl (.tmp 24) (.tmp 26) 90 rfl w.heap.size 5 Try.underlying90 hi hz rfl (by decide) wr [.int .u8 (s[k].toNat + 32)] hown rfl rfl rfl (one_int _ _) (by unfold maxLen; omega) (by omega) (by omega) ?_; intro g' cap' w1 hown1 hgrow1)
          have R := below_owned hbel hsz hown hgrow1
          rw [HS.out] at hown1
          go_roundw
          case rel => exact ⟨k + 1, by omega, by go_num, ⟨_, _, rfl⟩, hown1, R⟩
          case measure => simp [intOf]; omega
        · have HS := hstep (s[k].toNat) (by unfold lowI; rw [if_neg (by omega)])
          clear hstep
          go_wp2_with (at_builtin; refine wpList_append_new rfl (.tmp 24) (.tmp 26) 90 rfl w.heap.size 5 Try.underlying90 hi hz rfl (by decide) wr [.int .u8 (s[k].toNat)] hown rfl rfl rfl (one_int _ _) (by unfold maxLen; omega) (by omega) (by omega) ?_; intro g' cap' w1 hown1 hgrow1)
          have R := below_owned hbel hsz hown hgrow1
          rw [HS.out] at hown1
          go_roundw
          case rel => exact ⟨k + 1, by omega, by go_num, ⟨_, _, rfl⟩, hown1, R⟩
          case measure => simp [intOf]; omega
      · have HS := hstep (s[k].toNat) (by unfold lowI; rw [if_neg (by omega)])
        clear hstep
        go_wp2_with (at_builtin; refine wpList_append_new rfl (.tmp 24) (.tmp 26) 90 rfl w.heap.size 5 Try.underlying90 hi hz rfl (by decide) wr [.int .u8 (s[k].toNat)] hown rfl rfl rfl (one_int _ _) (by unfold maxLen; omega) (by omega) (by omega) ?_; intro g' cap' w1 hown1 hgrow1)
        have R := below_owned hbel hsz hown hgrow1
        rw [HS.out] at hown1
        go_roundw
        case rel => exact ⟨k + 1, by omega, by go_num, ⟨_, _, rfl⟩, hown1, R⟩
        case measure => simp [intOf]; omega
    · obtain rfl : k = s.size := by omega
      have hback := fun wx => back_of_cells (P := Try.prog) (w := wr) (cap := cap) 90 9 Try.underlying90 Try.underlying5 Try.underlying9 (CellsAt.of_owned hown) s.size wx
      have hback2 := hback (lowTo_length s _ (Nat.le_refl _)).symm
      clear hback
      go_wp2
      go_ret
      exact ⟨ret_str (by rw [lowTo_all]; rfl), hbel⟩

/-- The text's octets, the first k of them made small. -/
def lowMix (s : ByteArray) (k : Nat) : List UInt8 := (s.data.toList.take k).map lowB ++ s.data.toList.drop k
theorem lowMix_zero (s : ByteArray) : lowMix s 0 = s.data.toList := by simp [lowMix]
theorem lowMix_all (s : ByteArray) : lowMix s s.size = s.data.toList.map lowB := by
  unfold lowMix; rw [List.take_of_length_le (by simp), List.drop_of_length_le (by simp), List.append_nil]
theorem lowMix_length (s : ByteArray) (k : Nat) : (lowMix s k).length = s.size := by
  unfold lowMix; simp; omega
theorem lowMix_at (s : ByteArray) (k : Nat) (h : k < s.size) (h2 : k < (lowMix s k).length) : (lowMix s k)[k] = s[k] := by
  apply Option.some.inj
  rw [← List.getElem?_eq_getElem h2]
  unfold lowMix
  have hl : ((s.data.toList.take k).map lowB).length = k := by simp; omega
  rw [List.getElem?_append_right (by omega), hl, Nat.sub_self, List.getElem?_drop, Nat.add_zero, List.getElem?_eq_getElem (by simpa using h)]
  rfl
theorem lowMix_set (s : ByteArray) (k : Nat) (h : k < s.size) : (lowMix s k).set k (lowB s[k]) = lowMix s (k + 1) := by
  unfold lowMix
  have hl : ((s.data.toList.take k).map lowB).length = k := by simp; omega
  rw [List.set_append_right _ _ (by omega), hl, Nat.sub_self, take_snoc s k h, List.map_append, List.append_assoc]
  rw [List.drop_eq_getElem_cons (show k < s.data.toList.length by simpa using h)]
  rfl

set_option maxHeartbeats 400000 in
/-- octet.Lower. -/
theorem lowerS_any (s : ByteArray) (w : World) (hs : s.size ≤ 9223372036854775807) :
    Calls Try.prog 81 #[.string s] w fun e w' => e = .returned (.string (lowS s)) ∧ Below w.heap.size w w' := by
  have hconv := fun wx => run_bytes_of_string (P := Try.prog) wx 9 90 5 s Try.underlying9 Try.underlying90 Try.underlying5
  go_enter Try.func81, Try.ntmps81
  go_wp2
  clear hconv
  go_loopw [10] (fun i wr => ∃ k : Nat, k ≤ s.size ∧ i = .int .i64 k ∧ CellsAt wr w.heap.size (byteVals (lowMix s k)) ∧ Below w.heap.size w wr) (fun i _ => s.size - (intOf i).toNat)
  case atStart => exact ⟨0, Nat.zero_le _, rfl, by rw [lowMix_zero]; exact CellsAt.of_bytes w s _ _, ((Below.refl _ _).alloc (Nat.le_refl _) _).drew⟩
  case round =>
    obtain ⟨k, hk, rfl, hcells, hbel⟩ := hrel
    have HC := Lib.hid hcells
    have hlen : (byteVals (lowMix s k)).length = s.size := by rw [byteVals_length, lowMix_length]
    have HL := Lib.hid hlen
    clear hcells hlen
    by_cases hlt : k < s.size
    · have c1 : (s[k].toNat : Int) ≤ 255 := by have := s[k].toNat_lt; omega
      have hcell : wr.cell? ⟨w.heap.size, k, none⟩ = some (.int .u8 s[k].toNat) := by
        have h2 : k < (lowMix s k).length := by rw [lowMix_length]; exact hlt
        have := HC.out.cell k (by rw [HL.out]; exact hlt)
        rw [this, byteVals_get, lowMix_at s k hlt h2]
      have hfree : wr.frozen? ⟨w.heap.size, k, none⟩ = false := HC.out.free k (by rw [HL.out]; exact hlt)
      go_wp2_with (go_at_call 85; refine (lower_any _ _ (by omega) (by omega)).mono ?_; rintro e w' ⟨rfl, hw⟩; subst hw)
      go_roundw
      case rel =>
        refine ⟨k + 1, by omega, by go_num, ?_, hbel.setCell (Nat.le_refl _) _⟩
        have := HC.out.set k (.int .u8 (lowB s[k]).toNat)
        rw [byteVals_set, lowMix_set s k hlt] at this
        rw [lowB_val (s[k]) _ rfl]
        exact this
      case measure => simp [intOf]; omega
    · obtain rfl : k = s.size := by omega
      have hback := fun cap => back_of_cells (P := Try.prog) (cap := cap) 90 9 Try.underlying90 Try.underlying5 Try.underlying9 HC.out s.size (lowMix_length s _).symm
      go_wp2
      go_ret
      exact ⟨ret_str (by rw [lowMix_all]; rfl), hbel⟩
end Go.Proofs.Ytdpohibgipkhnaa
