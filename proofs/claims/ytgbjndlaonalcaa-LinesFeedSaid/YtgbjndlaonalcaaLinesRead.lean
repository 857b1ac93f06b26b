/-
  PLAIN: how the reference's reading by places and the machine's reading by octets hang together.
-/
import Derived.Test.YtgbjndlaonalcaaLinesPlain
namespace Go.Proofs.Ytgbjndlaonalcaa
namespace Lin

theorem run_whole : ∀ (l : List UInt8) (s : St), s.whole = false → (run s l).2.2.2.whole = false ∧ (run s l).2.2.2.spent = s.spent + (run s l).2.1
  | [], s, h => ⟨h, rfl⟩
  | c :: l, s, h => by
    rw [run]
    by_cases hc : seeE s c = 0
    · rw [if_pos hc]
      have hsp := seeS_spent s c
      by_cases hw : (seeS s c).whole = true
      · rw [if_pos hw]
        have := run_whole l (took (seeS s c)) rfl
        have h2 : (took (seeS s c)).spent = (seeS s c).spent := rfl
        refine ⟨this.1, ?_⟩
        simp only
        omega
      · rw [if_neg hw]
        have := run_whole l (seeS s c) (by simpa using hw)
        refine ⟨this.1, ?_⟩
        simp only
        omega
    · rw [if_neg hc]
      exact ⟨h, rfl⟩

/-- At place i, a line having begun at 'fr', the machine is in state sk. -/
structure At (L : List UInt8) (most i fr : Nat) (sk : St) : Prop where
  le : fr ≤ i
  ilen : i ≤ L.length
  left : sk.left = most - i
  im : i ≤ most
  whole : sk.whole = false
  err : sk.e = 0
  turn : sk.turn = true ↔ (fr < i ∧ L[i - 1]? = some 13)
  line : sk.line = (L.drop fr).take (i - fr - (if sk.turn then 1 else 0))
  within : sk.within = decide (fr < i)

theorem At.start (L : List UInt8) (most : Nat) : At L most 0 0 (start most) :=
  ⟨Nat.le_refl _, Nat.zero_le _, rfl, Nat.zero_le _, rfl, rfl, by simp [Lin.start], by simp [Lin.start], by simp [Lin.start]⟩

theorem At.seeE {L : List UInt8} {most i fr : Nat} {sk : St} (h : At L most i fr sk) (hi : i < L.length) :
    Lin.seeE sk L[i] = if i = most then 4 else if sk.turn != (L[i].toNat == 10) then 8 else 0 := by
  unfold Lin.seeE
  have := h.left
  have := h.im
  by_cases hm : i = most
  · rw [if_pos (by omega), if_pos hm]
  · rw [if_neg (by omega), if_neg hm]

theorem take_next {L : List UInt8} {fr i : Nat} (hf : fr ≤ i) (hi : i < L.length) : (L.drop fr).take (i + 1 - fr) = (L.drop fr).take (i - fr) ++ [L[i]] := by
  have h1 : i + 1 - fr = (i - fr) + 1 := by omega
  rw [h1, List.take_succ_eq_append_getElem (by rw [List.length_drop]; omega), List.getElem_drop]
  congr 2
  simp only [show fr + (i - fr) = i by omega]

/-- An LF behind a CR: the line is what stands from 'fr' to the CR. -/
theorem At.lf {L : List UInt8} {most i fr : Nat} {sk : St} (h : At L most i fr sk) (hi : i < L.length) (hm : i ≠ most) (ht : sk.turn = true) (h10 : L[i].toNat = 10) :
    (seeS sk L[i]).whole = true ∧ (seeS sk L[i]).line = (L.drop fr).take (i - 1 - fr) ∧ At L most (i + 1) (i + 1) (took (seeS sk L[i])) := by
  have hS : seeS sk L[i] = { sk with left := sk.left - 1, spent := sk.spent + 1, turn := false, whole := true, within := false } := by
    unfold seeS; rw [if_neg (by omega), if_pos h10]
  have hl := h.line
  rw [ht] at hl
  simp only [if_true] at hl
  rw [hS]
  refine ⟨rfl, by rw [hl]; congr 1; omega, ?_⟩
  have := h.left; have := h.im
  exact ⟨Nat.le_refl _, hi, by show sk.left - 1 = _; omega, by omega, rfl, h.err, by simp [took], by simp [took], by simp [took]⟩
/-- Another octet, a CR or any. -/
theorem At.other {L : List UInt8} {most i fr : Nat} {sk : St} (h : At L most i fr sk) (hi : i < L.length) (hm : i ≠ most) (ht : sk.turn = false) (h10 : L[i].toNat ≠ 10) :
    (seeS sk L[i]).whole = false ∧ At L most (i + 1) fr (seeS sk L[i]) := by
  have hl := h.line
  rw [ht] at hl
  simp only [Bool.false_eq_true, if_false, Nat.sub_zero] at hl
  have h1 := h.left; have h2 := h.im; have h3 := h.le
  by_cases h13 : L[i].toNat = 13
  · have hS : seeS sk L[i] = { sk with left := sk.left - 1, spent := sk.spent + 1, turn := true, within := !sk.whole } := by
      unfold seeS; rw [if_pos h13]
    have hb : L[i] = 13 := UInt8.toNat_inj.1 h13
    rw [hS]
    refine ⟨h.whole, by omega, hi, by show sk.left - 1 = _; omega, by omega, h.whole, h.err, ?_, ?_, ?_⟩
    · simp only [Nat.add_sub_cancel, List.getElem?_eq_getElem hi, hb, true_iff]
      exact ⟨by omega, trivial⟩
    · simp only [if_true]
      rw [hl]
      congr 1
      omega
    · simp only [h.whole, Bool.not_false]
      simp
      omega
  · have hS : seeS sk L[i] = { sk with left := sk.left - 1, spent := sk.spent + 1, line := sk.line ++ [L[i]], within := !sk.whole } := by
      unfold seeS; rw [if_neg h13, if_neg h10]
    rw [hS]
    refine ⟨h.whole, by omega, hi, by show sk.left - 1 = _; omega, by omega, h.whole, h.err, ?_, ?_, ?_⟩
    · simp only [Nat.add_sub_cancel, List.getElem?_eq_getElem hi, ht]
      constructor
      · intro hx; cases hx
      · rintro ⟨_, hx⟩
        exfalso
        apply h13
        have := Option.some.inj hx
        rw [this]
        rfl
    · simp only [ht, Bool.false_eq_true, if_false, Nat.sub_zero]
      rw [hl, take_next h3 hi]
    · simp only [h.whole, Bool.not_false]
      simp
      omega
end Lin
end Go.Proofs.Ytgbjndlaonalcaa
