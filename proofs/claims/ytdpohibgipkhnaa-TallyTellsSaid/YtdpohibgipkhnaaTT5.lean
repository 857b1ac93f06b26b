
/-
  PLAIN: a test that holds of all runes of a text holds of all its octets, where it answers alike at all runes and octets from 128 on. And the three tests: token, visible, value.
-/
import Derived.Test.YtdpohibgipkhnaaTT2
import Derived.Laws.RangeAny
import Derived.Lib.SpaceUEq
set_option linter.unusedVariables false
set_option linter.unusedSimpArgs false
namespace Go.Proofs.Ytdpohibgipkhnaa
namespace Oct

/-- Are all octets from pos on so? -/
def allFrom (q : Int → Bool) (s : ByteArray) (pos : Nat) : Bool := (s.data.toList.drop pos).all fun c => q c.toNat

theorem allFrom_end (q : Int → Bool) (s : ByteArray) (pos : Nat) (h : ¬ pos < s.size) : allFrom q s pos = true := by
  unfold allFrom
  rw [List.drop_of_length_le (by simp; omega)]
  rfl
theorem allFrom_cons (q : Int → Bool) (s : ByteArray) (pos : Nat) (h : pos < s.size) : allFrom q s pos = (q (s[pos].toNat) && allFrom q s (pos + 1)) := by
  unfold allFrom
  rw [List.drop_eq_getElem_cons (show pos < s.data.toList.length by simpa using h), List.all_cons]
  rfl
theorem getD_at (s : ByteArray) (i : Nat) (h : i < s.size) : s.data.toList.getD i 0 = s[i] := by
  rw [List.getD_eq_getElem?_getD, List.getElem?_eq_getElem (by simpa using h)]
  rfl
/-- Behind a rune's first octet its others are from 128 on. -/
theorem decode_rest (s : ByteArray) (pos : Nat) (h : pos < s.size) : pos + (Utf8.decode s pos).2 ≤ s.size ∧ ∀ j (hj : pos + j < s.size), 1 ≤ j → j < (Utf8.decode s pos).2 → 128 ≤ (s[pos + j]).toNat := by
  have hc := Lib.decodeN_conts (s.data.toList.length - pos) (s.data.toList.getD pos 0).toNat (s.data.toList.getD (pos + 1) 0).toNat (s.data.toList.getD (pos + 2) 0).toNat (s.data.toList.getD (pos + 3) 0).toNat
  rw [← Lib.decode_N] at hc
  obtain ⟨c2, c3, c4, c5⟩ := hc
  have hlen : s.data.toList.length = s.size := by simp
  rw [hlen] at c2 c3 c4
  refine ⟨by omega, fun j hj h1 h2 => ?_⟩
  have e := getD_at s (pos + j) hj
  rcases (show j = 1 ∨ j = 2 ∨ j = 3 from by omega) with rfl | rfl | rfl
  · have := c2 (by omega); rw [e] at this; omega
  · have := c3 (by omega); rw [e] at this; omega
  · have := c4 (by omega); rw [e] at this; omega
theorem allFrom_skip (q : Int → Bool) (hq : ∀ r : Int, 128 ≤ r → q r = true) (s : ByteArray) (pos : Nat) : ∀ n, pos + n ≤ s.size → (∀ j (hj : pos + j < s.size), j < n → q (s[pos + j].toNat) = true) → allFrom q s pos = allFrom q s (pos + n)
  | 0, _, _ => rfl
  | n + 1, hn, hall => by
    rw [allFrom_skip q hq s pos n (by omega) (fun j hj h => hall j hj (by omega)), allFrom_cons q s (pos + n) (by omega), hall n (by omega) (by omega), Bool.true_and]
    rfl
/-- One rune on: the test said yes. -/
theorem allFrom_yes (q : Int → Bool) (b : Bool) (hq : ∀ r : Int, 128 ≤ r → q r = b) (s : ByteArray) (pos : Nat) (h : pos < s.size) (hy : q (Utf8.decode s pos).1 = true) : allFrom q s pos = allFrom q s (pos + (Utf8.decode s pos).2) := by
  by_cases ha : (s[pos]).toNat < 128
  · rw [decode_ascii s pos h ha] at hy ⊢
    rw [allFrom_cons q s pos h]
    simp only at hy ⊢
    rw [hy, Bool.true_and]
  · have hd := decode_high s pos h (by omega)
    have hr := decode_rest s pos h
    have hb : b = true := (hq ((Utf8.decode s pos).1 : Nat) (by omega)).symm.trans hy
    subst hb
    refine allFrom_skip q hq s pos _ hr.1 fun j hj hjw => hq _ ?_
    by_cases hj0 : j = 0
    · subst hj0; simp only [Nat.add_zero]; omega
    · have := hr.2 j hj (by omega) hjw; omega
/-- .. it said no. -/
theorem allFrom_no (q : Int → Bool) (b : Bool) (hq : ∀ r : Int, 128 ≤ r → q r = b) (s : ByteArray) (pos : Nat) (h : pos < s.size) (hn : q (Utf8.decode s pos).1 = false) : allFrom q s pos = false := by
  rw [allFrom_cons q s pos h]
  by_cases ha : (s[pos]).toNat < 128
  · rw [decode_ascii s pos h ha] at hn
    simp only at hn
    rw [hn, Bool.false_and]
  · have hd := decode_high s pos h (by omega)
    have hb : b = false := (hq ((Utf8.decode s pos).1 : Nat) (by omega)).symm.trans hn
    rw [hq ((s[pos]).toNat : Nat) (by omega), hb, Bool.false_and]

/-- The signs that a token may have. -/
def marksL : List Int := [33, 35, 36, 37, 38, 39, 42, 43, 45, 46, 94, 95, 96, 124, 126]
def alnumI (r : Int) : Bool := (decide (97 ≤ r) && decide (r ≤ 122)) || (decide (65 ≤ r) && decide (r ≤ 90)) || (decide (48 ≤ r) && decide (r ≤ 57))
def tcharI (r : Int) : Bool := alnumI r || marksL.contains r
def visI (r : Int) : Bool := decide (32 < r) && decide (r < 127)
def valI (r : Int) : Bool := r == 9 || (decide (32 ≤ r) && r != 127)

theorem tcharI_high (r : Int) (h : 128 ≤ r) : tcharI r = false := by
  have h1 : alnumI r = false := by unfold alnumI; simp; omega
  unfold tcharI marksL
  rw [h1, Bool.false_or]
  simp
  omega
theorem visI_high (r : Int) (h : 128 ≤ r) : visI r = false := by unfold visI; simp; omega
theorem valI_high (r : Int) (h : 128 ≤ r) : valI r = true := by unfold valI; simp; omega

def tokenS (s : ByteArray) : Bool := decide (0 < s.size) && allFrom tcharI s 0
def visibleS (s : ByteArray) : Bool := decide (0 < s.size) && allFrom visI s 0
def valueS (s : ByteArray) : Bool := allFrom valI s 0
end Oct
end Go.Proofs.Ytdpohibgipkhnaa
