/-
  THE WALKS of abutmentlaw16.lives and LinesNone.
-/
import Derived.Test.YtgbjndlaonalcaaLinesMore
namespace Go.Proofs.Ytgbjndlaonalcaa
open Go.RowKit Go.Proofs.Ytgbjndlaonalcaa.Lin

/-- New, for the walks of its callers. -/
theorem new_yes (n : Nat) (w : World) (B : Nat) (hB : B ≤ w.heap.size) (h1 : n ≤ 65536) :
    Calls Try.prog 16 #[.int .i64 n] w fun e w' => e = .returned (.pointer (some ⟨w.heap.size, 0, none⟩)) ∧ IsLines w' B w.heap.size (Lin.start n) ∧ Below w.heap.size w w' :=
  (new_some n w (by omega) (by omega)).mono fun e w' ⟨he, hw⟩ => by
    subst hw
    exact ⟨he, new_is w n h1 B hB, (Below.refl _ _).alloc (Nat.le_refl _) _⟩

def s1 : St := { left := 96, spent := 4, line := [97, 98], within := false, turn := false, whole := true, e := 0 }
def s2 : St := { left := 95, spent := 5, line := [99], within := true, turn := false, whole := false, e := 8 }
theorem live1 : feedSt (Lin.start 100) (⟨#[97, 98, 13, 10, 99]⟩ : ByteArray).data.toList = (4, s1) := rfl
theorem live2 : feedSt (took s1) (⟨#[99, 10]⟩ : ByteArray).data.toList = (1, s2) := rfl

set_option maxHeartbeats 800000 in
theorem linlives_any (w : World) :
    Calls Try.prog 17 #[] w fun e w' => e = .returned (.bool true) ∧ Below w.heap.size w w' := by
  have F1 : ∀ wx B b, B ≤ wx.heap.size → IsLines wx B b (Lin.start 100) → Calls Try.prog 24 #[.pointer (some ⟨b, 0, none⟩), .string ⟨#[97, 98, 13, 10, 99]⟩] wx fun e w' => e = .returned (.tuple #[.int .i64 4, .int .i64 0]) ∧ LinLeft wx w' B b s1 := fun wx B b h1 h2 => by
    have := feed_any wx B b _ ⟨#[97, 98, 13, 10, 99]⟩ h1 h2 (by decide)
    rw [live1] at this
    exact this
  have F2 : ∀ wx B b, B ≤ wx.heap.size → IsLines wx B b (took s1) → Calls Try.prog 24 #[.pointer (some ⟨b, 0, none⟩), .string ⟨#[99, 10]⟩] wx fun e w' => e = .returned (.tuple #[.int .i64 1, .int .i64 8]) ∧ LinLeft wx w' B b s2 := fun wx B b h1 h2 => by
    have := feed_any wx B b _ ⟨#[99, 10]⟩ h1 h2 (by decide)
    rw [live2] at this
    exact this
  have G1 := Lib.hid F1
  have G2 := Lib.hid F2
  clear F1 F2
  have N1 : Hid (Calls Try.prog 16 #[.int .i64 100] w fun e w' => e = .returned (.pointer (some ⟨w.heap.size, 0, none⟩)) ∧ IsLines w' w.heap.size w.heap.size (Lin.start 100) ∧ Below w.heap.size w w') := new_yes 100 w w.heap.size (Nat.le_refl _) (by decide)
  go_enter Try.func17, Try.ntmps17
  go_wp2_with fail
  refine N1.out.mono ?_
  rintro e w1 ⟨rfl, hi1, hb1⟩
  have I1 := Lib.hid hi1
  have B1 := Lib.hid hb1
  have z1 : w.heap.size ≤ w1.heap.size := hb1.size
  clear hi1 hb1
  go_wp2_with fail
  refine (new_none _ _ (by omega)).mono ?_
  rintro e w' ⟨rfl, rfl⟩
  go_wp2_with fail
  refine (G1.out _ w.heap.size _ z1 I1.out).mono ?_
  rintro e w2 ⟨rfl, hl2⟩
  have L2 := Lib.hid hl2
  have z2 : w.heap.size ≤ w2.heap.size := Nat.le_trans z1 hl2.size
  clear hl2
  go_wp2_with fail
  refine (line_yes _ w.heap.size _ s1 L2.out.1 rfl).mono ?_
  rintro e w3 ⟨rfl, hl3⟩
  have L3 := Lib.hid hl3
  have z3 : w.heap.size ≤ w3.heap.size := Nat.le_trans z2 hl3.size
  clear hl3
  go_wp2_with fail
  refine (G2.out _ w.heap.size _ z3 L3.out.1).mono ?_
  rintro e w4 ⟨rfl, hl4⟩
  have L4 := Lib.hid hl4
  clear hl4
  have hline : (⟨s1.line.toArray⟩ : ByteArray).toList = [97, 98] := by rw [ByteArray.toList_mk]; rfl
  have hsp : ((s2.spent : Nat) : Int) = 5 := rfl
  go_wp2_with (go_at_call 21; refine (spent_any _ w.heap.size _ s2 L4.out.1).mono ?_; rintro e w' ⟨rfl, rfl⟩)
  go_ret
  exact ⟨rfl, ((B1.out.trans L2.out.2.1).trans L3.out.2.1).trans L4.out.2.1⟩

/-- The object that is made without New. -/
theorem zero_is (w : World) (B : Nat) (hB : B ≤ w.heap.size) : IsLines (w.alloc (.cells #[.int .i64 0, .int .i64 0, .slice none 0 0, .bool false, .bool false, .bool false, .int .i64 0] 38)) B w.heap.size (Lin.start 0) :=
  new_is w 0 (by decide) B hB
theorem feed_zero0 (t : ByteArray) (h : t.size = 0) : feedSt (Lin.start 0) t.data.toList = (0, Lin.start 0) := by
  have hl : t.data.toList = [] := List.eq_nil_of_length_eq_zero (by simpa using h)
  rw [hl]
  rfl
theorem feed_zero1 (t : ByteArray) (h : 0 < t.size) : feedSt (Lin.start 0) t.data.toList = (0, Lin.fail (Lin.start 0) 4) := by
  cases hl : t.data.toList with
  | nil =>
    have h2 : t.data.toList.length = t.size := by simp
    rw [hl] at h2
    simp at h2
    omega
  | cons c l => rfl

set_option maxHeartbeats 800000 in
theorem linnone_any (s : ByteArray) (w : World) (hs : s.size ≤ 9223372036854775807) :
    Calls Try.prog 5 #[.string s] w fun e w' => e = .returned (.bool true) ∧ Below w.heap.size w w' := by
  by_cases hcut : (100 : Int) < (s.size : Int)
  · have hA : (s.extract 0 100).size ≤ 9223372036854775807 := by rw [ByteArray.size_extract]; omega
    have hA0 : 0 < (s.extract 0 100).size := by rw [ByteArray.size_extract]; omega
    go_enter Try.func5, Try.ntmps5
    go_wp2_with fail
    generalize s.extract 0 100 = A at hA hA0 ⊢
    have hi0 := zero_is w w.heap.size (Nat.le_refl _)
    have hb0 : Below w.heap.size w (w.alloc (.cells #[.int .i64 0, .int .i64 0, .slice none 0 0, .bool false, .bool false, .bool false, .int .i64 0] 38)) := (Below.refl _ _).alloc (Nat.le_refl _) _
    generalize (w.alloc (.cells #[.int .i64 0, .int .i64 0, .slice none 0 0, .bool false, .bool false, .bool false, .int .i64 0] 38)) = w0 at hi0 hb0 ⊢
    have I0 := Lib.hid hi0
    have B0 := Lib.hid hb0
    have z0 : w.heap.size ≤ w0.heap.size := hb0.size
    clear hi0 hb0
    have F0 := feed_nil w0 A hA
    rw [if_neg (by omega)] at F0
    refine F0.mono ?_
    clear F0
    rintro e w1 ⟨rfl, hb1⟩
    have I1 := Lib.hid (I0.out.below hb1)
    have B1 := Lib.hid (B0.out.trans (hb1.mono z0))
    have z1 : w.heap.size ≤ w1.heap.size := B1.out.size
    clear hb1
    go_wp2_with fail
    have F1 := feed_any w1 w.heap.size w.heap.size _ A z1 I1.out hA
    rw [feed_zero1 A hA0] at F1
    refine F1.mono ?_
    clear F1
    rintro e w2 ⟨rfl, hl2⟩
    have L2 := Lib.hid hl2
    clear hl2
    have n1 := toList_some A hA0
    have hw0 : (Lin.fail (Lin.start 0) 4).whole = false := rfl
    have hs0 : (((Lin.fail (Lin.start 0) 4).spent : Nat) : Int) = 0 := rfl
    have hnil : (⟨#[]⟩ ++ ⟨#[]⟩ : ByteArray).toList = [] := by rw [ByteArray.toList_eq]; rfl
    have hn0 : (Lin.fail (Lin.start 0) 4).within = false := rfl
    have he0 : (((Lin.fail (Lin.start 0) 4).e : Nat) : Int) = 4 := rfl
    go_wp2_with (first
      | (go_at_call_of 25 (Value.pointer none); refine (line_nil _).mono ?_; rintro e w' ⟨rfl, rfl⟩)
      | (go_at_call 25; refine (line_not _ w.heap.size _ _ L2.out.1 rfl).mono ?_; rintro e w' ⟨rfl, rfl⟩)
      | (go_at_call_of 23 (Value.pointer none); refine (whole_nil _).mono ?_; rintro e w' ⟨rfl, rfl⟩)
      | (go_at_call 23; refine (whole_any _ w.heap.size _ _ L2.out.1).mono ?_; rintro e w' ⟨rfl, rfl⟩)
      | (go_at_call_of 21 (Value.pointer none); refine (spent_nil _).mono ?_; rintro e w' ⟨rfl, rfl⟩)
      | (go_at_call 21; refine (spent_any _ w.heap.size _ _ L2.out.1).mono ?_; rintro e w' ⟨rfl, rfl⟩)
      | (go_at_call_of 22 (Value.pointer none); refine (within_nil _).mono ?_; rintro e w' ⟨rfl, rfl⟩)
      | (go_at_call 22; refine (within_any _ w.heap.size _ _ L2.out.1).mono ?_; rintro e w' ⟨rfl, rfl⟩)
      | (go_at_call 17; refine (linlives_any _).mono ?_; rintro e w9 ⟨rfl, hv⟩))
    go_ret
    exact ⟨rfl, (B1.out.trans L2.out.2.1).trans (hv.mono (Nat.le_trans z1 L2.out.size))⟩
  · by_cases hA0 : 0 < s.size
    · have hA := hs
      go_enter Try.func5, Try.ntmps5
      go_wp2_with fail
      obtain ⟨A, rfl⟩ : ∃ A, A = s := ⟨_, rfl⟩
      have hi0 := zero_is w w.heap.size (Nat.le_refl _)
      have hb0 : Below w.heap.size w (w.alloc (.cells #[.int .i64 0, .int .i64 0, .slice none 0 0, .bool false, .bool false, .bool false, .int .i64 0] 38)) := (Below.refl _ _).alloc (Nat.le_refl _) _
      generalize (w.alloc (.cells #[.int .i64 0, .int .i64 0, .slice none 0 0, .bool false, .bool false, .bool false, .int .i64 0] 38)) = w0 at hi0 hb0 ⊢
      have I0 := Lib.hid hi0
      have B0 := Lib.hid hb0
      have z0 : w.heap.size ≤ w0.heap.size := hb0.size
      clear hi0 hb0
      have F0 := feed_nil w0 A hA
      rw [if_neg (by omega)] at F0
      refine F0.mono ?_
      clear F0
      rintro e w1 ⟨rfl, hb1⟩
      have I1 := Lib.hid (I0.out.below hb1)
      have B1 := Lib.hid (B0.out.trans (hb1.mono z0))
      have z1 : w.heap.size ≤ w1.heap.size := B1.out.size
      clear hb1
      go_wp2_with fail
      have F1 := feed_any w1 w.heap.size w.heap.size _ A z1 I1.out hA
      rw [feed_zero1 A hA0] at F1
      refine F1.mono ?_
      clear F1
      rintro e w2 ⟨rfl, hl2⟩
      have L2 := Lib.hid hl2
      clear hl2
      have n1 := toList_some A hA0
      have hw0 : (Lin.fail (Lin.start 0) 4).whole = false := rfl
      have hs0 : (((Lin.fail (Lin.start 0) 4).spent : Nat) : Int) = 0 := rfl
      have hnil : (⟨#[]⟩ ++ ⟨#[]⟩ : ByteArray).toList = [] := by rw [ByteArray.toList_eq]; rfl
      have hn0 : (Lin.fail (Lin.start 0) 4).within = false := rfl
      have he0 : (((Lin.fail (Lin.start 0) 4).e : Nat) : Int) = 4 := rfl
      go_wp2_with (first
        | (go_at_call_of 25 (Value.pointer none); refine (line_nil _).mono ?_; rintro e w' ⟨rfl, rfl⟩)
        | (go_at_call 25; refine (line_not _ w.heap.size _ _ L2.out.1 rfl).mono ?_; rintro e w' ⟨rfl, rfl⟩)
        | (go_at_call_of 23 (Value.pointer none); refine (whole_nil _).mono ?_; rintro e w' ⟨rfl, rfl⟩)
        | (go_at_call 23; refine (whole_any _ w.heap.size _ _ L2.out.1).mono ?_; rintro e w' ⟨rfl, rfl⟩)
        | (go_at_call_of 21 (Value.pointer none); refine (spent_nil _).mono ?_; rintro e w' ⟨rfl, rfl⟩)
        | (go_at_call 21; refine (spent_any _ w.heap.size _ _ L2.out.1).mono ?_; rintro e w' ⟨rfl, rfl⟩)
        | (go_at_call_of 22 (Value.pointer none); refine (within_nil _).mono ?_; rintro e w' ⟨rfl, rfl⟩)
        | (go_at_call 22; refine (within_any _ w.heap.size _ _ L2.out.1).mono ?_; rintro e w' ⟨rfl, rfl⟩)
        | (go_at_call 17; refine (linlives_any _).mono ?_; rintro e w9 ⟨rfl, hv⟩))
      go_ret
      exact ⟨rfl, (B1.out.trans L2.out.2.1).trans (hv.mono (Nat.le_trans z1 L2.out.size))⟩
    · have hA := hs
      have hA0 : s.size = 0 := by omega
      have HA0 := Lib.hid hA0
      clear hA0
      go_enter Try.func5, Try.ntmps5
      go_wp2_with fail
      obtain ⟨A, rfl⟩ : ∃ A, A = s := ⟨_, rfl⟩
      have hi0 := zero_is w w.heap.size (Nat.le_refl _)
      have hb0 : Below w.heap.size w (w.alloc (.cells #[.int .i64 0, .int .i64 0, .slice none 0 0, .bool false, .bool false, .bool false, .int .i64 0] 38)) := (Below.refl _ _).alloc (Nat.le_refl _) _
      generalize (w.alloc (.cells #[.int .i64 0, .int .i64 0, .slice none 0 0, .bool false, .bool false, .bool false, .int .i64 0] 38)) = w0 at hi0 hb0 ⊢
      have I0 := Lib.hid hi0
      have B0 := Lib.hid hb0
      have z0 : w.heap.size ≤ w0.heap.size := hb0.size
      clear hi0 hb0
      have F0 := feed_nil w0 A hA
      rw [if_pos HA0.out] at F0
      refine F0.mono ?_
      clear F0
      rintro e w1 ⟨rfl, hb1⟩
      have I1 := Lib.hid (I0.out.below hb1)
      have B1 := Lib.hid (B0.out.trans (hb1.mono z0))
      have z1 : w.heap.size ≤ w1.heap.size := B1.out.size
      clear hb1
      go_wp2_with fail
      have F1 := feed_any w1 w.heap.size w.heap.size _ A z1 I1.out hA
      rw [feed_zero0 A HA0.out] at F1
      refine F1.mono ?_
      clear F1
      rintro e w2 ⟨rfl, hl2⟩
      have L2 := Lib.hid hl2
      clear hl2
      have n1 := toList_empty A HA0.out
      have hw0 : (Lin.start 0).whole = false := rfl
      have hs0 : (((Lin.start 0).spent : Nat) : Int) = 0 := rfl
      have hnil : (⟨#[]⟩ ++ ⟨#[]⟩ : ByteArray).toList = [] := by rw [ByteArray.toList_eq]; rfl
      have hn0 : (Lin.start 0).within = false := rfl
      have he0 : (((Lin.start 0).e : Nat) : Int) = 0 := rfl
      go_wp2_with (first
        | (go_at_call_of 25 (Value.pointer none); refine (line_nil _).mono ?_; rintro e w' ⟨rfl, rfl⟩)
        | (go_at_call 25; refine (line_not _ w.heap.size _ _ L2.out.1 rfl).mono ?_; rintro e w' ⟨rfl, rfl⟩)
        | (go_at_call_of 23 (Value.pointer none); refine (whole_nil _).mono ?_; rintro e w' ⟨rfl, rfl⟩)
        | (go_at_call 23; refine (whole_any _ w.heap.size _ _ L2.out.1).mono ?_; rintro e w' ⟨rfl, rfl⟩)
        | (go_at_call_of 21 (Value.pointer none); refine (spent_nil _).mono ?_; rintro e w' ⟨rfl, rfl⟩)
        | (go_at_call 21; refine (spent_any _ w.heap.size _ _ L2.out.1).mono ?_; rintro e w' ⟨rfl, rfl⟩)
        | (go_at_call_of 22 (Value.pointer none); refine (within_nil _).mono ?_; rintro e w' ⟨rfl, rfl⟩)
        | (go_at_call 22; refine (within_any _ w.heap.size _ _ L2.out.1).mono ?_; rintro e w' ⟨rfl, rfl⟩)
        | (go_at_call 17; refine (linlives_any _).mono ?_; rintro e w9 ⟨rfl, hv⟩))
      go_ret
      exact ⟨rfl, (B1.out.trans L2.out.2.1).trans (hv.mono (Nat.le_trans z1 L2.out.size))⟩
end Go.Proofs.Ytgbjndlaonalcaa
