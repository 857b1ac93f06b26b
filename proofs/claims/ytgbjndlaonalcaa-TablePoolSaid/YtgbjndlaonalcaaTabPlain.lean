/-
  THE PLAIN LAW of table: slots as a list of (thing, is it in), their cells in a row, how many are in, the first that is free.
-/
import Derived.Test.YtgbjndlaonalcaaBase
namespace Go.Proofs.Ytgbjndlaonalcaa
open Go.RowKit
namespace Tab
abbrev Slots := List (Int × Bool)
def slotVals (l : Slots) : List Value := l.flatMap fun p => [.int .i64 p.1, .bool p.2]
theorem slotVals_cons (p : Int × Bool) (l : Slots) : slotVals (p :: l) = .int .i64 p.1 :: .bool p.2 :: slotVals l := rfl
theorem slotVals_length (l : Slots) : (slotVals l).length = l.length * 2 := by
  induction l with
  | nil => rfl
  | cons p l ih => rw [slotVals_cons]; simp only [List.length_cons, ih]; omega
theorem slotVals_x (l : Slots) : ∀ (i : Nat) (h : i < l.length), (slotVals l)[i * 2]? = some (.int .i64 l[i].1) := by
  induction l with
  | nil => intro i h; simp at h
  | cons p l ih =>
    intro i h
    cases i with
    | zero => rfl
    | succ i =>
      rw [slotVals_cons, show (i + 1) * 2 = i * 2 + 1 + 1 by omega, List.getElem?_cons_succ, List.getElem?_cons_succ, ih i (by simpa using h)]
      rfl
theorem slotVals_in (l : Slots) : ∀ (i : Nat) (h : i < l.length), (slotVals l)[i * 2 + 1]? = some (.bool l[i].2) := by
  induction l with
  | nil => intro i h; simp at h
  | cons p l ih =>
    intro i h
    cases i with
    | zero => rfl
    | succ i =>
      rw [slotVals_cons, show (i + 1) * 2 + 1 = (i * 2 + 1) + 1 + 1 by omega, List.getElem?_cons_succ, List.getElem?_cons_succ, ih i (by simpa using h)]
      rfl
theorem slotVals_set (x : Int) (b : Bool) (l : Slots) : ∀ i, i < l.length → ((slotVals l).set (i * 2) (.int .i64 x)).set (i * 2 + 1) (.bool b) = slotVals (l.set i (x, b)) := by
  induction l with
  | nil => intro i h; simp at h
  | cons p l ih =>
    intro i h
    cases i with
    | zero => rfl
    | succ i =>
      rw [slotVals_cons, show (i + 1) * 2 = i * 2 + 1 + 1 by omega, List.set_cons_succ, List.set_cons_succ, List.set_cons_succ, List.set_cons_succ, ih i (by simpa using h)]
      rfl
/-- How many are in. -/
def full (l : Slots) : Nat := l.countP (·.2)
theorem full_le (l : Slots) : full l ≤ l.length := List.countP_le_length
theorem full_cons (p : Int × Bool) (l : Slots) : full (p :: l) = full l + (if p.2 = true then 1 else 0) := by
  unfold full; rw [List.countP_cons]
theorem full_put (x : Int) (l : Slots) : ∀ i (h : i < l.length), l[i].2 = false → full (l.set i (x, true)) = full l + 1 := by
  induction l with
  | nil => intro i h; simp at h
  | cons p l ih =>
    intro i h hf
    cases i with
    | zero =>
      have : p.2 = false := hf
      rw [List.set_cons_zero, full_cons, full_cons, this]; simp
    | succ i =>
      rw [List.set_cons_succ, full_cons, full_cons, ih i (by simpa using h) hf]; omega
theorem full_drop (x : Int) (l : Slots) : ∀ i (h : i < l.length), l[i].2 = true → full (l.set i (x, false)) + 1 = full l := by
  induction l with
  | nil => intro i h; simp at h
  | cons p l ih =>
    intro i h hf
    cases i with
    | zero =>
      have : p.2 = true := hf
      rw [List.set_cons_zero, full_cons, full_cons, this]; simp
    | succ i =>
      rw [List.set_cons_succ, full_cons, full_cons, ← ih i (by simpa using h) hf]; omega
/-- The first free slot. -/
def free (l : Slots) : Nat := l.findIdx fun p => !p.2
theorem free_lt {l : Slots} (h : full l < l.length) : free l < l.length := by
  unfold free
  rw [List.findIdx_lt_length]
  apply Classical.byContradiction
  intro hn
  have : full l = l.length := by
    unfold full
    rw [List.countP_eq_length]
    intro p hp
    cases e : p.2 with
    | true => rfl
    | false => exact absurd ⟨p, hp, by simp [e]⟩ hn
  omega
theorem free_is {l : Slots} (h : free l < l.length) : l[free l].2 = false := by
  have := List.findIdx_getElem (p := fun p : Int × Bool => !p.2) (w := h)
  show l[List.findIdx (fun p => !p.2) l].2 = false
  simpa using this
theorem free_before {l : Slots} {i : Nat} (h : i < free l) (hl : i < l.length) : l[i].2 = true := by
  have := List.not_of_lt_findIdx (p := fun p : Int × Bool => !p.2) h
  simpa using this
end Tab
end Go.Proofs.Ytgbjndlaonalcaa
