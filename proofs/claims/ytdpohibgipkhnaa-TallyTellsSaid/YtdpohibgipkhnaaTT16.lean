
/-
  THE WALK of the document's digits: Digits to base ten, Text.
-/
import Derived.Test.YtdpohibgipkhnaaTT14
import Derived.Deep.RegionHeld3
set_option linter.unusedVariables false
set_option linter.unusedSimpArgs false
namespace Go.Proofs.Ytdpohibgipkhnaa
open Go.RowKit Go.Proofs.Ytdpohibgipkhnaa.Oct

theorem below_dr {B : Nat} {w w' : World} (h : Below B w w') : Below B w w'.drew := ⟨h.os, h.tape, h.output, h.size, h.block⟩
abbrev sgnB : ByteArray := ⟨#[48, 49, 50, 51, 52, 53, 54, 55, 56, 57, 97, 98, 99, 100, 101, 102]⟩
theorem sgn_cut (r : Nat) (h : r < 10) : sgnB.extract r (r + 1) = ⟨#[figB r]⟩ := by
  match r, h with
  | 0, _ => decide +kernel
  | 1, _ => decide +kernel
  | 2, _ => decide +kernel
  | 3, _ => decide +kernel
  | 4, _ => decide +kernel
  | 5, _ => decide +kernel
  | 6, _ => decide +kernel
  | 7, _ => decide +kernel
  | 8, _ => decide +kernel
  | 9, _ => decide +kernel
theorem figB_mod (n : Nat) : figB (n % 10) = figB n := by unfold figB; rw [Nat.mod_mod]

set_option maxRecDepth 100000 in
set_option maxHeartbeats 1600000 in
theorem rdigits_any (N : Nat) (w : World) (hN : N ≤ 18446744073709551615) :
    Calls Try.prog 116 #[.int .u64 N, .int .u64 10] w fun e w' => e = .returned (.string ⟨(decL N).toArray⟩) ∧ Below w.heap.size w w' := by
  have HL : Hid ((decL N).length ≤ 20) := decL_len 19 (by omega)
  go_enter Try.func116, Try.ntmps116
  go_wp2
  go_loopg [0, 6] (N + 1) (fun gg s0 s6 wr => ∃ (m : Nat) (ds : List UInt8), m ≤ N ∧ m + 1 ≤ gg ∧ s0 = .int .u64 m ∧ s6 = .string ⟨ds.toArray⟩ ∧ Hid (decL N = decL m ++ ds) ∧ Hid (Below w.heap.size w wr))
  case atStart => exact ⟨N, [], Nat.le_refl _, Nat.le_refl _, rfl, rfl, by simp [Hid], Below.refl _ w⟩
  case round =>
    obtain ⟨m, ds, hm, hg, rfl, rfl, hd, hbe⟩ := hrel
    have hln : ds.length ≤ 20 := by
      have h1 := HL.out
      rw [hd.out, List.length_append] at h1
      omega
    by_cases h10 : m < 10
    · have hc := sgn_cut m h10
      have HE : Hid ((⟨#[figB m]⟩ : ByteArray) ++ ⟨ds.toArray⟩ = ⟨(decL N).toArray⟩) := by
        show _ = _
        rw [hd.out, decL_lt h10]
        exact ByteArray.ext (by simp)
      go_wp2
      go_ret
      rw [HE.out]
      exact ⟨rfl, hbe.out⟩
    · have h11 : (10 : Int) ≤ (m : Int) := by omega
      have HE : Hid ((⟨#[figB (m % 10)]⟩ : ByteArray) ++ ⟨ds.toArray⟩ = ⟨(figB m :: ds).toArray⟩) := by
        show _ = _
        rw [figB_mod]
        exact ByteArray.ext (by simp)
      have HD : Hid (decL N = decL (m / 10) ++ (figB m :: ds)) := by
        show _ = _
        rw [hd.out, decL_ge (by omega), List.append_assoc]
        rfl
      have hq1 : m / 10 < m := by omega
      obtain ⟨q, hq⟩ : ∃ q, q = m / 10 := ⟨_, rfl⟩
      obtain ⟨r, hr⟩ : ∃ r, r = m % 10 := ⟨_, rfl⟩
      rw [← hr] at HE
      rw [← hq] at HD hq1
      have hr10 : r < 10 := by omega
      have hc := sgn_cut r hr10
      have ht : (m : Int).tmod 10 = (r : Int) := by rw [Int.tmod_eq_emod_of_nonneg (by omega)]; omega
      have ht1 : (m : Int) % 10 = (r : Int) := by omega
      have ht2 : (m : Int).tdiv 10 = (q : Int) := by rw [Int.tdiv_eq_ediv_of_nonneg (by omega)]; omega
      have ht3 : (m : Int) / 10 = (q : Int) := by omega
      have hw1 : IntKind.u64.wrap ((r : Int) + 1) = (r : Int) + 1 := by simp [IntKind.wrap, IntKind.bits, IntKind.signed]; omega
      have hr1 : (r : Int) + 1 ≤ 16 := by omega
      have hr2 : 0 ≤ (r : Int) + 1 := by omega
      have hr3 : (r : Int) ≤ (r : Int) + 1 := by omega
      have hl1 : ¬ 9223372036854775807 < 1 + ds.length := by omega
      clear hq hr
      go_wp2_with fail
      go_region?
      go_wp2
      go_roundg (q + 1)
      case measure => omega
      case rel => exact ⟨q, figB m :: ds, by omega, Nat.le_refl _, by go_num, by rw [HE.out], HD.out, below_dr hbe.out⟩
set_option maxRecDepth 100000 in
set_option maxHeartbeats 1600000 in
theorem rtext_any (n : Int) (w : World) (hn : -9223372036854775808 ≤ n ∧ n ≤ 9223372036854775807) :
    Calls Try.prog 96 #[.int .i64 n] w fun e w' => e = .returned (.string (decB n)) ∧ Below w.heap.size w w' := by
  by_cases h0 : n < 0
  · have HX : Hid (Calls Try.prog 116 #[.int .u64 (-(n + 1) + 1), .int .u64 10] w fun e w' => e = .returned (.string ⟨(decL n.natAbs).toArray⟩) ∧ Below w.heap.size w w') := by
      have h := rdigits_any n.natAbs w (by omega)
      rwa [show ((n.natAbs : Nat) : Int) = -(n + 1) + 1 by omega] at h
    have HD : Hid (decB n = (⟨#[45]⟩ : ByteArray) ++ ⟨(decL n.natAbs).toArray⟩) := by show _ = _; unfold decB; rw [if_pos h0]
    have hsz := decB_size n hn
    rw [show (⟨(decL n.natAbs).toArray⟩ : ByteArray).size = (decL n.natAbs).length from rfl] at hsz
    go_enter Try.func96, Try.ntmps96
    go_wp2_with fail
    refine HX.out.mono ?_
    rintro e w1 ⟨rfl, hb1⟩
    have HB1 := Lib.hid hb1
    clear hb1
    go_wp2_with fail
    go_ret
    rw [HD.out]
    exact ⟨rfl, HB1.out⟩
  · have HX : Hid (Calls Try.prog 116 #[.int .u64 n, .int .u64 10] w fun e w' => e = .returned (.string ⟨(decL n.natAbs).toArray⟩) ∧ Below w.heap.size w w') := by
      have h := rdigits_any n.natAbs w (by omega)
      rwa [show ((n.natAbs : Nat) : Int) = n by omega] at h
    have HD : Hid (decB n = (⟨(decL n.natAbs).toArray⟩ : ByteArray)) := by show _ = _; unfold decB; rw [if_neg h0]
    go_enter Try.func96, Try.ntmps96
    go_wp2_with fail
    refine HX.out.mono ?_
    rintro e w1 ⟨rfl, hb1⟩
    have HB1 := Lib.hid hb1
    clear hb1
    go_wp2_with fail
    go_ret
    rw [HD.out]
    exact ⟨rfl, HB1.out⟩
end Go.Proofs.Ytdpohibgipkhnaa
