
/-
  THE WALK of the document's Take.
-/
import Derived.Test.YtgbjndlaonalcaaPool2
import Derived.Deep.RegionHeld3
import Derived.IntWalk
namespace Go.Proofs.Ytgbjndlaonalcaa
open Go.RowKit Go.Proofs.Ytgbjndlaonalcaa.Tab

theorem info_rentry : (Try.prog.info? 102).map (fun i => (i.zero, i.size, i.bytes)) = some (some (.agg #[.int .i64 0, .int .i64 0]), 2, 16) := by kernel_rfl

theorem Reads.take_ {w : World} {B size n : Nat} {A : Option Addr} {xs : List Value} (h : Reads w B size A n xs) (k : Nat) (hk : k ≤ n) : Reads w B size A k (xs.take (k * size)) := by
  refine ⟨by rw [List.length_take, h.1]; exact Nat.min_eq_left (Nat.mul_le_mul_right size hk), fun hn => ?_⟩
  obtain ⟨ad, e, hb, hc⟩ := h.2 (by omega)
  refine ⟨ad, e, hb, fun j u hu => hc j u ?_⟩
  rw [List.getElem?_take] at hu
  split at hu
  · exact hu
  · cases hu
theorem off_entry {w : World} {B e g o n c : Nat} {l : List (Int × Int)} (h : OffRow w B e 2 (.slice (some ⟨g, o, none⟩) n c) n (entVals l)) (i : Nat) (hi : i < l.length) :
    w.cell? ⟨g, o + i * 2, none⟩ = some (.int .i64 l[i].1) ∧ w.cell? ⟨g, o + i * 2 + 1, none⟩ = some (.int .i64 l[i].2) := by
  have hl := h.1
  rw [entVals_length] at hl
  exact ⟨(h.cell _ (by omega)).trans (entVals_x l i hi), (h.cell (i * 2 + 1) (by omega)).trans (entVals_y l i hi)⟩
theorem OffRow.len_ {w : World} {B e n : Nat} {v : Value} {l : List (Int × Int)} (h : OffRow w B e 2 v n (entVals l)) : n = l.length := by
  have := h.1
  rw [entVals_length] at this
  omega

set_option maxRecDepth 100000 in
set_option maxHeartbeats 1600000 in
theorem rtake_no (w : World) (B g o n c : Nat) (l : List (Int × Int)) (k : Int) (h : OffRow w B 102 2 (.slice (some ⟨g, o, none⟩) n c) n (entVals l)) (hfew : l.length ≤ 1000) (hno : ∀ j (hj : j < l.length), l[j].1 ≠ k) :
    Calls Try.prog 61 #[.slice (some ⟨g, o, none⟩) n c, .int .i64 k] w fun e w' => e = .returned (.tuple #[.slice (some ⟨g, o, none⟩) n c, .int .i64 0, .bool false]) ∧ w = w' := by
  obtain rfl := h.len_
  have HX := Lib.hid h
  have HN := Lib.hid hno
  clear h hno
  go_enter Try.func61, Try.ntmps61
  go_wp2
  go_loop [7] (fun i => ∃ j : Nat, j ≤ l.length ∧ i = .int .i64 ((j : Int) - 1)) (fun i => (intOf i + 1).toNat)
  case atStart => exact ⟨l.length, Nat.le_refl _, by first | rfl | go_num⟩
  case round =>
    obtain ⟨j, hj, rfl⟩ := hrel
    rcases Nat.eq_zero_or_pos j with rfl | hpos
    · go_wp2
      go_ret3
      exact ⟨rfl, rfl⟩
    · obtain ⟨p, rfl⟩ : ∃ p, j = p + 1 := ⟨j - 1, by omega⟩
      have e1 : ((p + 1 : Nat) : Int) - 1 = (p : Int) := by omega
      obtain ⟨d0, d1⟩ := off_entry HX.out p (by omega)
      have hne := HN.out p (by omega)
      obtain ⟨y, hy⟩ : ∃ y, y = l[p] := ⟨_, rfl⟩
      rw [← hy] at d0 d1 hne
      obtain ⟨y1, y2⟩ := y
      simp only at d0 d1 hne
      have e2 : (y1 == k) = false := by simpa using hne
      have e3 : (p : Int) < (l.length : Int) := by omega
      rw [e1]
      clear hy
      go_wp2
      go_round
      case rel => exact ⟨p, by omega, by first | rfl | go_num⟩
      case measure => simp [intOf]

theorem nil_of_own {w : World} {B e size n : Nat} {v : Value} {xs : List Value} (h : w.ownsRow B e size v n xs) (hn : v.ownBlock = none) : v = .slice none 0 0 := by
  rcases h.2 with ⟨h2, _⟩ | ⟨g, cap, cur, rfl, _⟩
  · exact h2
  · simp [Value.ownBlock] at hn
/-- What Take leaves where there is such an entry. -/
def RTakePost (w : World) (l : List (Int × Int)) (x : Int) (e : Ending) (w' : World) : Prop :=
  ∃ v, e = .returned (.tuple #[v, .int .i64 x, .bool true]) ∧ OffRow w' w.heap.size 102 2 v l.length (entVals l) ∧ Below w.heap.size w w'

set_option maxRecDepth 100000 in
set_option maxHeartbeats 3200000 in
theorem rtake_yes (w : World) (B g o n c : Nat) (l : List (Int × Int)) (k : Int) (i : Nat) (h : OffRow w B 102 2 (.slice (some ⟨g, o, none⟩) n c) n (entVals l)) (hfew : l.length ≤ 1000) (hi : i < l.length) (hk : l[i].1 = k) (hno : ∀ j (hj : j < l.length), i < j → l[j].1 ≠ k) :
    Calls Try.prog 61 #[.slice (some ⟨g, o, none⟩) n c, .int .i64 k] w (RTakePost w (l.eraseIdx i) l[i].2) := by
  obtain rfl := h.len_
  obtain ⟨i0, hi0, hz⟩ := info_hid info_rentry
  have hlc : l.length ≤ c := by obtain ⟨g', o', c', hv, _, _, hc', _⟩ := h.form; injection hv with hv _ hc; omega
  have HX := Lib.hid h
  have HN := Lib.hid hno
  obtain ⟨y, hy⟩ : ∃ y, y = l[i] := ⟨_, rfl⟩
  rw [← hy] at hk ⊢
  have HY := Lib.hid hy
  obtain ⟨y1, y2⟩ := y
  simp only at hk
  subst hk
  have HL := Lib.hid (World.ownsRow_lit (base := w.heap.size) (e := 102) (size := 2) w #[] 0 (Nat.le_refl _) (by decide) rfl)
  have HR1 := Lib.hid ((h.reads.take_ i (by omega)).alloc (Nat.le_refl _) (.cells #[] 102))
  have HO1 : Hid (∀ u ∈ (entVals l).take (i * 2), u.oneCell' = true) := fun u hu => ent_one l u (List.mem_of_mem_take hu)
  have HO2 : Hid (∀ u ∈ (entVals l).drop ((i + 1) * 2), u.oneCell' = true) := fun u hu => ent_one l u (List.mem_of_mem_drop hu)
  have hlt : g < w.heap.size := by obtain ⟨g', o', c', hv, _, hl, _⟩ := h.form; injection hv with hv; injection hv with hv; injection hv with hv; omega
  have hD := h.drop (i + 1) (by omega)
  have HB0 := Lib.hid (below_new w (.cells #[] 102))
  have H1 : Hid (0 + i ≤ maxLen) := by show _ ≤ _; unfold maxLen; omega
  have H2 : Hid ((0 + i) * 16 ≤ 140737488355328) := by show _ ≤ _; omega
  have H3 : Hid (0 + i + (l.length - (i + 1)) ≤ maxLen) := by show _ ≤ _; unfold maxLen; omega
  have H4 : Hid ((0 + i + (l.length - (i + 1))) * 16 ≤ 140737488355328) := by show _ ≤ _; omega
  clear h hno hy
  go_enter Try.func61, Try.ntmps61
  go_wp2
  go_loop [7] (fun s => ∃ p : Nat, i ≤ p ∧ p < l.length ∧ s = .int .i64 p) (fun s => (intOf s).toNat)
  case atStart => exact ⟨l.length - 1, by omega, by omega, by rw [show ((l.length - 1 : Nat) : Int) = (l.length : Int) - 1 by omega]⟩
  case round =>
    obtain ⟨p, hp, hpl, rfl⟩ := hrel
    obtain ⟨d0, d1⟩ := off_entry HX.out p hpl
    have e3 : (p : Int) < (l.length : Int) := by omega
    by_cases hpi : p = i
    · subst hpi
      rw [← HY.out] at d0 d1
      simp only at d0 d1
      have e4 : (p : Int) ≤ (l.length : Int) := by omega
      have e5 : (p : Int) ≤ (c : Int) := by omega
      have e6 : (p : Int) + 1 ≤ (l.length : Int) := by omega
      have e7 : (p : Int) + 1 ≤ (c : Int) := by omega
      have e8 : (0 : Int) ≤ (p : Int) + 1 := by omega
      by_cases hcp : c = p + 1
      · rw [if_pos hcp] at hD
        subst hcp
        have hz0 : l.length - (p + 1) = 0 := by omega
        rw [hz0] at hD H3 H4
        have f1 : (p : Int) ≤ ((p + 1 : Nat) : Int) := by omega
        have f3 : (p : Int) ≤ (p : Int) + 1 := by omega
        have f2 : (p : Int) + 1 ≤ ((p + 1 : Nat) : Int) := by omega
        have HRd := Lib.hid (hD.reads)
        clear hD
        go_wp2_with fail
        have w1 : IntKind.i64.wrap ((p : Int) + 1) = (p : Int) + 1 := IntWalk.i64_in _ (by omega)
        have w2 : ((p : Int) + 1).toNat = p + 1 := by omega
        go_region_held3 (fun w' => w'.cell? ⟨g, o + p * 2 + 1, none⟩ = some (.int .i64 y2))
          (first | go_keep | exact (HB2.out.cell (p := ⟨g, o + p * 2 + 1, none⟩) hlt).trans d1 | exact (HB1.out.cell (p := ⟨g, o + p * 2 + 1, none⟩) hlt).trans d1)
          (first
            | (refine step_append_any _ (by rfl) (.tmp 22) (.tmp 25) _ (by rfl) w.heap.size 102 i0 _ 2 16 Try.underlying99 hi0.out hz.out.1 hz.out.2.1 hz.out.2.2 rfl (by omega) (.slice (some ⟨w.heap.size, 0, none⟩) 0 0) 0 [] (by rfl) HL.out w.heap.size _ p (p + 1) ((entVals l).take (p * 2)) (by rfl) HR1.out HO1.out H1.out H2.out (by simp) ?_; intro v1 w1 hown1 hg1 hat1; have HB1 : Hid (Below w.heap.size w w1) := (HB0.out.drew).grown hg1 (by simp) (by simp [Value.ownBlock]); have HW1 := Lib.hid hown1; have HA1 : Hid (v1 ≠ .slice none 0 0) := (fun e => by rcases hat1 with h | h <;> simp [e, Value.ownBlock] at h); clear hown1 hg1 hat1)
            | (refine step_append_any _ (by rfl) (.tmp 26) (.tmp 30) _ (by rfl) w.heap.size 102 i0 _ 2 16 Try.underlying99 hi0.out hz.out.1 hz.out.2.1 hz.out.2.2 rfl (by omega) v1 (0 + p) _ (by rfl) HW1.out w.heap.size _ 0 0 ((entVals l).drop ((p + 1) * 2)) (by rfl) (HRd.out.below HB1.out) HO2.out H3.out H4.out HB1.out.size ?_; intro v2 w2 hown2 hg2 hat2; have HB2 : Hid (Below w.heap.size w w2) := HB1.out.grown hg2 HB1.out.size (fun g e => (HW1.out.lt g e).1); have HW2 := Lib.hid hown2; have HA2 : Hid (v2 ≠ .slice none 0 0) := (fun e => by rcases hat2 with h | h; (exact HA1.out (nil_of_own HW1.out (by rw [← h, e]; rfl))); (simp [e, Value.ownBlock] at h)); clear hown2 hg2 hat2))
        go_wp2
        go_ret3
        refine ⟨v2, rfl, ?_, HB2.out⟩
        have hle : (l.eraseIdx p).length = 0 + p + 0 := by rw [List.length_eraseIdx_of_lt hpl]; omega
        rw [hle, entVals_erase]
        exact OffRow.of_own HW2.out HA2.out
      · rw [if_neg hcp] at hD
        have HRd := Lib.hid (hD.reads)
        clear hD
        go_wp2_with fail
        have w1 : IntKind.i64.wrap ((p : Int) + 1) = (p : Int) + 1 := IntWalk.i64_in _ (by omega)
        have w2 : ((p : Int) + 1).toNat = p + 1 := by omega
        go_region_held3 (fun w' => w'.cell? ⟨g, o + p * 2 + 1, none⟩ = some (.int .i64 y2))
          (first | go_keep | exact (HB2.out.cell (p := ⟨g, o + p * 2 + 1, none⟩) hlt).trans d1 | exact (HB1.out.cell (p := ⟨g, o + p * 2 + 1, none⟩) hlt).trans d1)
          (first
            | (refine step_append_any _ (by rfl) (.tmp 22) (.tmp 25) _ (by rfl) w.heap.size 102 i0 _ 2 16 Try.underlying99 hi0.out hz.out.1 hz.out.2.1 hz.out.2.2 rfl (by omega) (.slice (some ⟨w.heap.size, 0, none⟩) 0 0) 0 [] (by rfl) HL.out w.heap.size _ p c ((entVals l).take (p * 2)) (by rfl) HR1.out HO1.out H1.out H2.out (by simp) ?_; intro v1 w1 hown1 hg1 hat1; have HB1 : Hid (Below w.heap.size w w1) := (HB0.out.drew).grown hg1 (by simp) (by simp [Value.ownBlock]); have HW1 := Lib.hid hown1; have HA1 : Hid (v1 ≠ .slice none 0 0) := (fun e => by rcases hat1 with h | h <;> simp [e, Value.ownBlock] at h); clear hown1 hg1 hat1)
            | (refine step_append_any _ (by rfl) (.tmp 26) (.tmp 30) _ (by rfl) w.heap.size 102 i0 _ 2 16 Try.underlying99 hi0.out hz.out.1 hz.out.2.1 hz.out.2.2 rfl (by omega) v1 (0 + p) _ (by rfl) HW1.out w.heap.size _ (l.length - (p + 1)) (c - (p + 1)) ((entVals l).drop ((p + 1) * 2)) (by rfl) (HRd.out.below HB1.out) HO2.out H3.out H4.out HB1.out.size ?_; intro v2 w2 hown2 hg2 hat2; have HB2 : Hid (Below w.heap.size w w2) := HB1.out.grown hg2 HB1.out.size (fun g e => (HW1.out.lt g e).1); have HW2 := Lib.hid hown2; have HA2 : Hid (v2 ≠ .slice none 0 0) := (fun e => by rcases hat2 with h | h; (exact HA1.out (nil_of_own HW1.out (by rw [← h, e]; rfl))); (simp [e, Value.ownBlock] at h)); clear hown2 hg2 hat2))
        go_wp2
        go_ret3
        refine ⟨v2, rfl, ?_, HB2.out⟩
        have hle : (l.eraseIdx p).length = 0 + p + (l.length - (p + 1)) := by rw [List.length_eraseIdx_of_lt hpl]; omega
        rw [hle, entVals_erase]
        exact OffRow.of_own HW2.out HA2.out
    · have hne := HN.out p hpl (by omega)
      obtain ⟨z, hz⟩ : ∃ z, z = l[p] := ⟨_, rfl⟩
      rw [← hz] at d0 d1 hne
      obtain ⟨z1, z2⟩ := z
      simp only at d0 d1 hne
      have e2 : (z1 == y1) = false := by simpa using hne
      clear hz
      go_wp2
      go_round
      case rel => exact ⟨p - 1, by omega, by omega, by rw [show ((p - 1 : Nat) : Int) = (p : Int) - 1 by omega]⟩
      case measure => simp [intOf]; omega
end Go.Proofs.Ytgbjndlaonalcaa
