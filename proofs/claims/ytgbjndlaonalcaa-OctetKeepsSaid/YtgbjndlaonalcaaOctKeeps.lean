/-
  THE WALKS of abutmentlaw01.OctetClasses and OctetKeeps: they return true.
-/
import Derived.Test.YtgbjndlaonalcaaOctLives
import Derived.Test.YtgbjndlaonalcaaOctKeepsPlain
namespace Go.Proofs.Ytgbjndlaonalcaa
open Go.RowKit Go.Proofs.Ytgbjndlaonalcaa.Oct

set_option maxHeartbeats 400000 in
theorem octclasses_any (c : Int) (s : ByteArray) (w : World) (h0 : 0 ≤ c) (h1 : c ≤ 255) (hs : s.size ≤ 9223372036854775807) :
    Calls Try.prog 10 #[.int .u8 c, .string s] w fun e w' => e = .returned (.bool true) ∧ Below w.heap.size w w' := by
  by_cases hcut : (3000 : Int) < (s.size : Int)
  · have hA : (s.extract 0 3000).size ≤ 9223372036854775807 := by rw [ByteArray.size_extract]; omega
    go_enter Try.func10, Try.ntmps10
    go_wp2_with fail
    generalize s.extract 0 3000 = A at hA ⊢
    go_wp2_with (first
      | (go_at_call 41; refine (tcharB_any _ (by omega) (by omega) _).mono ?_; rintro e w1 ⟨rfl, hl⟩)
      | (go_at_call 42; refine (rtchar_any _ (by omega) _).mono ?_; rintro e w2 ⟨rfl, rfl⟩)
      | (go_at_call 38; refine (token_any _ _).mono ?_; rintro e w3 ⟨rfl, hd⟩)
      | (go_at_call 43; refine (rtoken_any _ (by omega) _).mono ?_; rintro e w4 ⟨rfl, rfl⟩)
      | (go_at_call 40; refine (value_any _ _).mono ?_; rintro e w5 ⟨rfl, he⟩)
      | (go_at_call 44; refine (rvalue_any _ (by omega) _).mono ?_; rintro e w6 ⟨rfl, rfl⟩)
      | (go_at_call 39; refine (visible_any _ _).mono ?_; rintro e w7 ⟨rfl, hf⟩)
      | (go_at_call 45; refine (rvisible_any _ (by omega) _).mono ?_; rintro e w8 ⟨rfl, rfl⟩)
      | (go_at_call 31; refine (octlives_any _).mono ?_; rintro e w9 ⟨rfl, hv⟩))
    go_ret
    refine ⟨rfl, ?_⟩
    repeat (first | exact Below.refl _ _ | assumption | refine grow_trans ?_ (by assumption))
  · go_enter Try.func10, Try.ntmps10
    go_wp2_with (first
      | (go_at_call 41; refine (tcharB_any _ (by omega) (by omega) _).mono ?_; rintro e w1 ⟨rfl, hl⟩)
      | (go_at_call 42; refine (rtchar_any _ (by omega) _).mono ?_; rintro e w2 ⟨rfl, rfl⟩)
      | (go_at_call 38; refine (token_any _ _).mono ?_; rintro e w3 ⟨rfl, hd⟩)
      | (go_at_call 43; refine (rtoken_any _ (by omega) _).mono ?_; rintro e w4 ⟨rfl, rfl⟩)
      | (go_at_call 40; refine (value_any _ _).mono ?_; rintro e w5 ⟨rfl, he⟩)
      | (go_at_call 44; refine (rvalue_any _ (by omega) _).mono ?_; rintro e w6 ⟨rfl, rfl⟩)
      | (go_at_call 39; refine (visible_any _ _).mono ?_; rintro e w7 ⟨rfl, hf⟩)
      | (go_at_call 45; refine (rvisible_any _ (by omega) _).mono ?_; rintro e w8 ⟨rfl, rfl⟩)
      | (go_at_call 31; refine (octlives_any _).mono ?_; rintro e w9 ⟨rfl, hv⟩))
    go_ret
    refine ⟨rfl, ?_⟩
    repeat (first | exact Below.refl _ _ | assumption | refine grow_trans ?_ (by assumption))

set_option maxHeartbeats 1000000 in
theorem octkeeps_any (a b c : ByteArray) (w : World) (ha : a.size ≤ 9223372036854775807) (hb : b.size ≤ 9223372036854775807) (hc : c.size ≤ 9223372036854775807) :
    Calls Try.prog 9 #[.string a, .string b, .string c] w fun e w' => e = .returned (.bool true) ∧ Below w.heap.size w w' := by
  go_enter Try.func9, Try.ntmps9
  go_wp2
  go_quiet (fail)
  have hA := cut3000 a
  have hB := cut3000 b
  have hC := cut3000 c
  generalize a.extract 0 (if (3000 : Int) < (a.size : Int) then 3000 else (a.size : Int)).toNat = A at hA ⊢
  generalize b.extract 0 (if (3000 : Int) < (b.size : Int) then 3000 else (b.size : Int)).toNat = B at hB ⊢
  generalize c.extract 0 (if (3000 : Int) < (c.size : Int) then 3000 else (c.size : Int)).toNat = C at hC ⊢
  generalize (if (3000 : Int) < (a.size : Int) then 3000 else (a.size : Int)) = m1
  generalize (if (3000 : Int) < (b.size : Int) then 3000 else (b.size : Int)) = m2
  generalize (if (3000 : Int) < (c.size : Int) then 3000 else (c.size : Int)) = m3
  have hd0 : Below w.heap.size w (w.drewN nq) := Drawn.grow ⟨nq, rfl⟩
  have HD0 := Lib.hid hd0
  clear hd0
  generalize w.drewN nq = wd at HD0 ⊢
  have e1 := lowS_idem A
  have e2 := lowS_size A
  have e3 := foldS_low A
  have e4 := foldS_symm A B
  have e6 := trimS_idem A
  have t6 := trimS_size A
  have e7 := trimS_pad A
  have e8 : (⟨#[32, 9]⟩ ++ A ++ ⟨#[9, 32]⟩ : ByteArray).size ≤ 9223372036854775807 := by
    rw [ByteArray.size_append, ByteArray.size_append]
    show 2 + A.size + 2 ≤ _
    omega
  have hend : (tokenS A = false) ∨ (tokenS A = true ∧ Hid (trimS A = A) ∧ visibleS A = true ∧ valueS A = true) := by
    cases ht : tokenS A
    · exact .inl rfl
    · exact .inr ⟨rfl, token_trim A ht, token_visible A ht, token_value A ht⟩
  have hmid : (foldS A B = false) ∨ (foldS A B = true ∧ foldS B C = false) ∨ (foldS A B = true ∧ foldS B C = true ∧ foldS A C = true) := by
    cases h1 : foldS A B
    · exact .inl rfl
    · cases h2 : foldS B C
      · exact .inr (.inl ⟨rfl, rfl⟩)
      · exact .inr (.inr ⟨rfl, rfl, foldS_trans h1 h2⟩)
  have HE := Lib.hid hend
  clear hend
  by_cases hT : 0 < (trimS A).size
  · have hT1 : (trimS A).size - 1 < (trimS A).size := by omega
    have g0 := blI_false (trimS_first_not A hT)
    have g1 := blI_false (trimS_last_not A hT1)
    obtain ⟨g2, g3⟩ := g0
    obtain ⟨g4, g5⟩ := g1
    rcases hmid with h1 | ⟨h1, h2⟩ | ⟨h1, h2, h3⟩
    all_goals
      rcases HE.out with k1 | ⟨k1, k2, k3, k4⟩
      · go_wp2_with (first
        | (go_at_call 26; refine (lowerS_any _ _ (by omega)).mono ?_; rintro e w1 ⟨rfl, hl⟩)
        | (go_at_call 28; refine (fold_any _ _ _ (by omega) (by omega)).mono ?_; rintro e w3 ⟨rfl, hd⟩; have hd1 := hd.grow)
        | (go_at_call 29; refine (trim_any _ _ (by omega)).mono ?_; rintro e w4 ⟨rfl, rfl⟩)
        | (go_at_call 38; refine (token_any _ _).mono ?_; rintro e w3 ⟨rfl, hd⟩)
        | (go_at_call 40; refine (value_any _ _).mono ?_; rintro e w5 ⟨rfl, he⟩)
        | (go_at_call 39; refine (visible_any _ _).mono ?_; rintro e w7 ⟨rfl, hf⟩)
        | (go_at_call 31; refine (octlives_any _).mono ?_; rintro e w9 ⟨rfl, hv⟩))
        go_ret
        refine ⟨rfl, ?_⟩
        have hd0 := HD0.out
        repeat (first | exact Below.refl _ _ | assumption | refine grow_trans ?_ (by assumption))
      · have k5 : (trimS A).toList = A.toList := congrArg ByteArray.toList k2.out
        go_wp2_with (first
        | (go_at_call 26; refine (lowerS_any _ _ (by omega)).mono ?_; rintro e w1 ⟨rfl, hl⟩)
        | (go_at_call 28; refine (fold_any _ _ _ (by omega) (by omega)).mono ?_; rintro e w3 ⟨rfl, hd⟩; have hd1 := hd.grow)
        | (go_at_call 29; refine (trim_any _ _ (by omega)).mono ?_; rintro e w4 ⟨rfl, rfl⟩)
        | (go_at_call 38; refine (token_any _ _).mono ?_; rintro e w3 ⟨rfl, hd⟩)
        | (go_at_call 40; refine (value_any _ _).mono ?_; rintro e w5 ⟨rfl, he⟩)
        | (go_at_call 39; refine (visible_any _ _).mono ?_; rintro e w7 ⟨rfl, hf⟩)
        | (go_at_call 31; refine (octlives_any _).mono ?_; rintro e w9 ⟨rfl, hv⟩))
        go_ret
        refine ⟨rfl, ?_⟩
        have hd0 := HD0.out
        repeat (first | exact Below.refl _ _ | assumption | refine grow_trans ?_ (by assumption))
  · rcases hmid with h1 | ⟨h1, h2⟩ | ⟨h1, h2, h3⟩
    all_goals
      rcases HE.out with k1 | ⟨k1, k2, k3, k4⟩
      · go_wp2_with (first
        | (go_at_call 26; refine (lowerS_any _ _ (by omega)).mono ?_; rintro e w1 ⟨rfl, hl⟩)
        | (go_at_call 28; refine (fold_any _ _ _ (by omega) (by omega)).mono ?_; rintro e w3 ⟨rfl, hd⟩; have hd1 := hd.grow)
        | (go_at_call 29; refine (trim_any _ _ (by omega)).mono ?_; rintro e w4 ⟨rfl, rfl⟩)
        | (go_at_call 38; refine (token_any _ _).mono ?_; rintro e w3 ⟨rfl, hd⟩)
        | (go_at_call 40; refine (value_any _ _).mono ?_; rintro e w5 ⟨rfl, he⟩)
        | (go_at_call 39; refine (visible_any _ _).mono ?_; rintro e w7 ⟨rfl, hf⟩)
        | (go_at_call 31; refine (octlives_any _).mono ?_; rintro e w9 ⟨rfl, hv⟩))
        go_ret
        refine ⟨rfl, ?_⟩
        have hd0 := HD0.out
        repeat (first | exact Below.refl _ _ | assumption | refine grow_trans ?_ (by assumption))
      · have k5 : (trimS A).toList = A.toList := congrArg ByteArray.toList k2.out
        go_wp2_with (first
        | (go_at_call 26; refine (lowerS_any _ _ (by omega)).mono ?_; rintro e w1 ⟨rfl, hl⟩)
        | (go_at_call 28; refine (fold_any _ _ _ (by omega) (by omega)).mono ?_; rintro e w3 ⟨rfl, hd⟩; have hd1 := hd.grow)
        | (go_at_call 29; refine (trim_any _ _ (by omega)).mono ?_; rintro e w4 ⟨rfl, rfl⟩)
        | (go_at_call 38; refine (token_any _ _).mono ?_; rintro e w3 ⟨rfl, hd⟩)
        | (go_at_call 40; refine (value_any _ _).mono ?_; rintro e w5 ⟨rfl, he⟩)
        | (go_at_call 39; refine (visible_any _ _).mono ?_; rintro e w7 ⟨rfl, hf⟩)
        | (go_at_call 31; refine (octlives_any _).mono ?_; rintro e w9 ⟨rfl, hv⟩))
        go_ret
        refine ⟨rfl, ?_⟩
        have hd0 := HD0.out
        repeat (first | exact Below.refl _ _ | assumption | refine grow_trans ?_ (by assumption))
end Go.Proofs.Ytgbjndlaonalcaa
