/-
  PLAIN: the lines of octets, as the program takes them (a state, octet by octet) and as the reference reads them. No program in sight.
-/
import Derived.Laws.Strings
namespace Go.Proofs.Ytgbjndlaonalcaa
namespace Lin

structure St where
  left : Nat
  spent : Nat
  line : List UInt8
  within : Bool
  turn : Bool
  whole : Bool
  e : Nat

def start (most : Nat) : St := { left := most, spent := 0, line := [], within := false, turn := false, whole := false, e := 0 }
/-- What is wrong with an octet: 0, 4 (too long) or 8 (a CR or LF alone). -/
def seeE (s : St) (c : UInt8) : Nat := if s.left = 0 then 4 else if s.turn != (c.toNat == 10) then 8 else 0
/-- The state behind an octet with which nothing is wrong. -/
def seeS (s : St) (c : UInt8) : St :=
  if c.toNat = 13 then { s with left := s.left - 1, spent := s.spent + 1, turn := true, within := !s.whole }
  else if c.toNat = 10 then { s with left := s.left - 1, spent := s.spent + 1, turn := false, whole := true, within := false }
  else { s with left := s.left - 1, spent := s.spent + 1, line := s.line ++ [c], within := !s.whole }
def fail (s : St) (n : Nat) : St := { s with e := n }
/-- A line taken out. -/
def took (s : St) : St := { s with line := [], whole := false }

/-- Feed: how many octets are used, and the state behind them. -/
def feedSt (s : St) : List UInt8 → Nat × St
  | [] => (0, s)
  | c :: l => if s.whole || s.e != 0 then (0, s) else if seeE s c = 0 then ((feedSt (seeS s c) l).1 + 1, (feedSt (seeS s c) l).2) else (0, fail s (seeE s c))

/-- All lines of a text: the lines, how many octets are used, the error, the state. -/
def run (s : St) : List UInt8 → List (List UInt8) × Nat × Nat × St
  | [] => ([], 0, 0, s)
  | c :: l =>
    if seeE s c = 0 then
      if (seeS s c).whole then ((seeS s c).line :: (run (took (seeS s c)) l).1, (run (took (seeS s c)) l).2.1 + 1, (run (took (seeS s c)) l).2.2)
      else ((run (seeS s c) l).1, (run (seeS s c) l).2.1 + 1, (run (seeS s c) l).2.2)
    else ([], 0, seeE s c, fail s (seeE s c))

theorem seeE_cases (s : St) (c : UInt8) : seeE s c = 0 ∨ seeE s c = 4 ∨ seeE s c = 8 := by
  unfold seeE; split
  · exact .inr (.inl rfl)
  · split
    · exact .inr (.inr rfl)
    · exact .inl rfl
theorem seeS_e (s : St) (c : UInt8) : (seeS s c).e = s.e := by unfold seeS; split <;> (try split) <;> rfl
theorem seeS_spent (s : St) (c : UInt8) : (seeS s c).spent = s.spent + 1 := by unfold seeS; split <;> (try split) <;> rfl
theorem seeS_left (s : St) (c : UInt8) : (seeS s c).left = s.left - 1 := by unfold seeS; split <;> (try split) <;> rfl
theorem seeS_line (s : St) (c : UInt8) : (seeS s c).line.length ≤ s.line.length + 1 := by unfold seeS; split <;> (try split) <;> simp
theorem seeS_whole (s : St) (c : UInt8) (h : s.whole = false) : (seeS s c).whole = decide (c.toNat = 10) := by
  unfold seeS
  by_cases h1 : c.toNat = 13
  · rw [if_pos h1]; simp [h, h1]
  · rw [if_neg h1]
    by_cases h2 : c.toNat = 10
    · rw [if_pos h2]; simp [h2]
    · rw [if_neg h2]; simp [h, h2]

/-- What holds of every state: never more than 65,536 octets, and no line longer than what was taken. -/
def Ok (s : St) : Prop := s.left + s.spent ≤ 65536 ∧ s.line.length ≤ s.spent
theorem Ok_see {s : St} {c : UInt8} (h : Ok s) (hl : ¬ s.left = 0) : Ok (seeS s c) := by
  unfold Ok at h ⊢
  have := seeS_spent s c; have := seeS_left s c; have := seeS_line s c
  omega
theorem Ok_fail {s : St} (h : Ok s) (n : Nat) : Ok (fail s n) := h
theorem Ok_took {s : St} (h : Ok s) : Ok (took s) := by unfold Ok took at *; simp; omega
theorem Ok_start {n : Nat} (h : n ≤ 65536) : Ok (start n) := by unfold Ok start; simp; omega
theorem feedSt_stop (s : St) (l : List UInt8) (h : (s.whole || s.e != 0) = true) : feedSt s l = (0, s) := by
  cases l with
  | nil => rfl
  | cons c l => rw [feedSt, if_pos h]
theorem feedSt_ok (s : St) (c : UInt8) (l : List UInt8) (h : (s.whole || s.e != 0) = false) (h2 : seeE s c = 0) : feedSt s (c :: l) = ((feedSt (seeS s c) l).1 + 1, (feedSt (seeS s c) l).2) := by
  rw [feedSt, if_neg (by simp [h]), if_pos h2]
theorem feedSt_bad (s : St) (c : UInt8) (l : List UInt8) (h : (s.whole || s.e != 0) = false) (h2 : ¬ seeE s c = 0) : feedSt s (c :: l) = (0, fail s (seeE s c)) := by
  rw [feedSt, if_neg (by simp [h]), if_neg h2]
theorem feedSt_le : ∀ (l : List UInt8) (s : St), (feedSt s l).1 ≤ l.length
  | [], s => Nat.le_refl _
  | c :: l, s => by
    rw [feedSt]
    split
    · simp
    · split
      · have := feedSt_le l (seeS s c); simp; omega
      · simp
theorem feedSt_line : ∀ (l : List UInt8) (s : St), (feedSt s l).2.line.length ≤ s.line.length + l.length
  | [], s => Nat.le_refl _
  | c :: l, s => by
    rw [feedSt]
    split
    · simp
    · split
      · have := feedSt_line l (seeS s c); have := seeS_line s c; simp; omega
      · simp [fail]
theorem feedSt_left : ∀ (l : List UInt8) (s : St), (feedSt s l).2.left ≤ s.left ∧ (feedSt s l).2.spent ≤ s.spent + l.length
  | [], s => ⟨Nat.le_refl _, Nat.le_refl _⟩
  | c :: l, s => by
    rw [feedSt]
    split
    · simp
    · split
      · have := feedSt_left l (seeS s c); have := seeS_left s c; have := seeS_spent s c; simp; omega
      · simp [fail]

/-- One Feed, and what all lines of the text are by it. -/
theorem feed_run : ∀ (l : List UInt8) (s : St), s.whole = false → s.e = 0 →
    ((feedSt s l).2.whole = true ∧ (feedSt s l).2.e = 0 ∧ 1 ≤ (feedSt s l).1 ∧
      run s l = ((feedSt s l).2.line :: (run (took (feedSt s l).2) (l.drop (feedSt s l).1)).1, (feedSt s l).1 + (run (took (feedSt s l).2) (l.drop (feedSt s l).1)).2.1, (run (took (feedSt s l).2) (l.drop (feedSt s l).1)).2.2)) ∨
    ((feedSt s l).2.whole = false ∧ (feedSt s l).2.e ≠ 0 ∧ run s l = ([], (feedSt s l).1, (feedSt s l).2.e, (feedSt s l).2)) ∨
    ((feedSt s l).2.whole = false ∧ (feedSt s l).2.e = 0 ∧ (feedSt s l).1 = l.length ∧ run s l = ([], l.length, 0, (feedSt s l).2))
  | [], s, hw, he => .inr (.inr ⟨hw, he, rfl, rfl⟩)
  | c :: l, s, hw, he => by
    have h0 : (s.whole || s.e != 0) = false := by simp [hw, he]
    by_cases hc : seeE s c = 0
    · rw [feedSt_ok s c l h0 hc]
      have he1 : (seeS s c).e = 0 := by rw [seeS_e]; exact he
      rw [run, if_pos hc]
      by_cases hw1 : (seeS s c).whole = true
      · rw [if_pos hw1, feedSt_stop (seeS s c) l (by simp [hw1])]
        refine .inl ⟨hw1, he1, by simp, ?_⟩
        simp only [Nat.zero_add, List.drop_succ_cons, List.drop_zero]
        rw [Nat.add_comm 1]
      · rw [if_neg hw1]
        rcases feed_run l (seeS s c) (by simpa using hw1) he1 with ⟨a1, a2, a3, a4⟩ | ⟨a1, a2, a3⟩ | ⟨a1, a2, a3, a4⟩
        · refine .inl ⟨a1, a2, Nat.le_add_left _ _, ?_⟩
          rw [a4]
          simp only [List.drop_succ_cons]
          rw [Nat.add_right_comm]
        · exact .inr (.inl ⟨a1, a2, by rw [a3]⟩)
        · exact .inr (.inr ⟨a1, a2, by simp; omega, by rw [a4]; rfl⟩)
    · rw [feedSt_bad s c l h0 hc, run, if_neg hc]
      exact .inr (.inl ⟨hw, hc, rfl⟩)

/-- Behind a text with which nothing was wrong the state is between lines or within one, and no error. -/
theorem run_clean : ∀ (l : List UInt8) (s : St), s.whole = false → s.e = 0 → (run s l).2.2.1 = 0 → (run s l).2.2.2.whole = false ∧ (run s l).2.2.2.e = 0 ∧ (run s l).2.1 = l.length
  | [], s, hw, he, _ => ⟨hw, he, rfl⟩
  | c :: l, s, hw, he, h => by
    rw [run] at h ⊢
    by_cases hc : seeE s c = 0
    · have he1 : (seeS s c).e = 0 := by rw [seeS_e]; exact he
      rw [if_pos hc] at h ⊢
      by_cases hw1 : (seeS s c).whole = true
      · rw [if_pos hw1] at h ⊢
        have := run_clean l (took (seeS s c)) rfl he1 h
        exact ⟨this.1, this.2.1, by simp [this.2.2]⟩
      · rw [if_neg hw1] at h ⊢
        have := run_clean l (seeS s c) (by simpa using hw1) he1 h
        exact ⟨this.1, this.2.1, by simp [this.2.2]⟩
    · rw [if_neg hc] at h; exact absurd h hc
/-- Two texts, one behind the other. -/
theorem run_append : ∀ (l m : List UInt8) (s : St), run s (l ++ m) =
    if (run s l).2.2.1 = 0 then ((run s l).1 ++ (run (run s l).2.2.2 m).1, (run s l).2.1 + (run (run s l).2.2.2 m).2.1, (run (run s l).2.2.2 m).2.2) else run s l
  | [], m, s => by simp [run]
  | c :: l, m, s => by
    rw [List.cons_append, run, run]
    by_cases hc : seeE s c = 0
    · rw [if_pos hc, if_pos hc]
      by_cases hw1 : (seeS s c).whole = true
      · rw [if_pos hw1, if_pos hw1, run_append l m]
        dsimp only
        split
        · rw [List.cons_append, Nat.add_right_comm]
        · rfl
      · rw [if_neg hw1, if_neg hw1, run_append l m]
        dsimp only
        split
        · rw [Nat.add_right_comm]
        · rfl
    · rw [if_neg hc, if_neg hc]
      dsimp only
      rw [if_neg hc]
theorem run_lines : ∀ (l : List UInt8) (s : St), (run s l).1.length ≤ l.length ∧ (run s l).2.1 ≤ l.length
  | [], s => ⟨Nat.le_refl _, Nat.le_refl _⟩
  | c :: l, s => by
    rw [run]
    split
    · split
      · have := run_lines l (took (seeS s c)); simp; omega
      · have := run_lines l (seeS s c); simp; omega
    · simp
/-- A line takes two octets at least. -/
theorem run_few : ∀ (l : List UInt8) (s : St), s.whole = false → 2 * (run s l).1.length ≤ l.length + (if s.turn then 1 else 0)
  | [], s, _ => by simp [run]
  | c :: l, s, hw => by
    rw [run]
    by_cases hc : seeE s c = 0
    · rw [if_pos hc]
      have hturn : s.turn = (c.toNat == 10) := by
        unfold seeE at hc
        split at hc
        · cases hc
        · cases h1 : s.turn <;> cases h2 : (c.toNat == 10) <;> simp [h1, h2] at hc ⊢
      by_cases h10 : c.toNat = 10
      · have ht : s.turn = true := by rw [hturn]; simp [h10]
        have hS : seeS s c = { s with left := s.left - 1, spent := s.spent + 1, turn := false, whole := true, within := false } := by
          unfold seeS; rw [if_neg (by omega), if_pos h10]
        rw [hS]
        simp only [if_true]
        have := run_few l (took { s with left := s.left - 1, spent := s.spent + 1, turn := false, whole := true, within := false }) rfl
        simp only [took] at this ⊢
        simp [ht] at this ⊢
        omega
      · have ht : s.turn = false := by rw [hturn]; simpa using h10
        have hwS := seeS_whole s c hw
        have hwS2 : (seeS s c).whole = false := by rw [hwS]; simpa using h10
        rw [if_neg (by simp [hwS2])]
        have := run_few l (seeS s c) hwS2
        simp only [ht] at this ⊢
        simp
        split at this <;> omega
    · rw [if_neg hc]; simp
end Lin
end Go.Proofs.Ytgbjndlaonalcaa
