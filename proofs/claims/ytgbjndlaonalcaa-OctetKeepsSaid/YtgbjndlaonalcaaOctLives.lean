/-
  THE WALK of abutmentlaw01.lives: the document's examples are as it says.
-/
import Derived.Test.YtgbjndlaonalcaaTokens
import Derived.Test.YtgbjndlaonalcaaLower
namespace Go.Proofs.Ytgbjndlaonalcaa
open Go.RowKit Go.Proofs.Ytgbjndlaonalcaa.Oct

set_option maxHeartbeats 400000 in
theorem octlives_any (w : World) :
    Calls Try.prog 31 #[] w fun e w' => e = .returned (.bool true) ∧ Below w.heap.size w w' := by
  have e1 : trimS ⟨#[32, 97, 9]⟩ = ⟨#[97]⟩ := by rfl
  have e2 : foldS ⟨#[75, 101, 101, 112, 45, 65, 108, 105, 118, 101]⟩ ⟨#[107, 101, 101, 112, 45, 97, 108, 105, 118, 101]⟩ = true := by decide
  have e3 : tokenS ⟨#[97, 45, 98]⟩ = true := by decide
  have e4 : tokenS ⟨#[97, 32, 98]⟩ = false := by decide
  have e5 : lowS ⟨#[97, 66]⟩ = ⟨#[97, 98]⟩ := by rfl
  have e6 : visibleS ⟨#[97, 47, 98]⟩ = true := by decide
  go_enter Try.func31, Try.ntmps31
  go_wp2_with (first
    | (go_at_call 29; refine (trim_any _ _ (by decide)).mono ?_; rintro e w' ⟨rfl, rfl⟩)
    | (go_at_call 28; refine (fold_any _ _ _ (by decide) (by decide)).mono ?_; rintro e w1 ⟨rfl, hd⟩; have hd1 := hd.grow)
    | (go_at_call 38; refine (token_any _ _).mono ?_; rintro e w2 ⟨rfl, ht⟩)
    | (go_at_call 26; refine (lowerS_any _ _ (by decide)).mono ?_; rintro e w3 ⟨rfl, hl⟩)
    | (go_at_call 39; refine (visible_any _ _).mono ?_; rintro e w4 ⟨rfl, hv⟩))
  go_ret
  refine ⟨rfl, ?_⟩
  repeat (first | exact Below.refl _ _ | assumption | refine grow_trans ?_ (by assumption))

/-- A text, cut at 3,000 octets, as the walk writes it. -/
theorem cut3000 (s : ByteArray) : (s.extract 0 (if (3000 : Int) < (s.size : Int) then 3000 else (s.size : Int)).toNat).size ≤ 3000 := by
  rw [ByteArray.size_extract]
  split <;> omega
theorem low_eq (a b : ByteArray) : ((lowS a).toList == (lowS b).toList) = foldS a b := by
  unfold foldS
  rw [ByteArray.toList_eq, ByteArray.toList_eq, Bool.eq_iff_iff]
  simp only [beq_iff_eq, decide_eq_true_eq]
  exact ⟨bytes_eq_of_list, fun h => by rw [h]⟩

set_option maxHeartbeats 400000 in
theorem octfolds_any (a b : ByteArray) (w : World) (ha : a.size ≤ 9223372036854775807) (hb : b.size ≤ 9223372036854775807) :
    Calls Try.prog 6 #[.string a, .string b] w fun e w' => e = .returned (.bool true) ∧ Below w.heap.size w w' := by
  go_enter Try.func6, Try.ntmps6
  go_wp2
  go_quiet (fail)
  have hA := cut3000 a
  have hB := cut3000 b
  generalize a.extract 0 (if (3000 : Int) < (a.size : Int) then 3000 else (a.size : Int)).toNat = A at hA ⊢
  generalize b.extract 0 (if (3000 : Int) < (b.size : Int) then 3000 else (b.size : Int)).toNat = B at hB ⊢
  generalize (if (3000 : Int) < (a.size : Int) then 3000 else (a.size : Int)) = m1
  generalize (if (3000 : Int) < (b.size : Int) then 3000 else (b.size : Int)) = m2
  have hlow := low_eq A B
  go_wp2_with (first
    | (go_at_call 26; refine (lowerS_any _ _ (by omega)).mono ?_; rintro e w1 ⟨rfl, hl⟩)
    | (go_at_call 27; refine (rlower_any _ _ (by omega)).mono ?_; rintro e w2 ⟨rfl, hr⟩)
    | (go_at_call 28; refine (fold_any _ _ _ (by omega) (by omega)).mono ?_; rintro e w3 ⟨rfl, hd⟩; have hd1 := hd.grow)
    | (go_at_call 29; refine (trim_any _ _ (by omega)).mono ?_; rintro e w4 ⟨rfl, rfl⟩)
    | (go_at_call 30; refine (rtrim_any _ _ (by omega)).mono ?_; rintro e w5 ⟨rfl, rfl⟩)
    | (go_at_call 31; refine (octlives_any _).mono ?_; rintro e w6 ⟨rfl, hv⟩))
  go_ret
  have hd0 : Below w.heap.size w (w.drewN nq) := Drawn.grow ⟨nq, rfl⟩
  refine ⟨rfl, ?_⟩
  repeat (first | exact Below.refl _ _ | assumption | refine grow_trans ?_ (by assumption))
end Go.Proofs.Ytgbjndlaonalcaa
