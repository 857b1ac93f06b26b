/-
  PLAIN: what a stable sort leaves: the same elements, each class of equals in its old order, sorted; this fixes the list. The steps of insertion, rotation and merging keep it. No program in sight.
  PLAIN: a list whose blocks are sorted.
-/
import Derived.Lib.Strings
set_option linter.unusedVariables false
set_option linter.unusedSimpArgs false
namespace Go.Proofs.Ytdpohibgipkhnaa
namespace St

/-- A strict weak order. -/
structure SWO {α : Type} (lt : α → α → Bool) : Prop where
  asym : ∀ x y, lt x y = true → lt y x = false
  ntr : ∀ x y z, lt x z = true → lt x y = true ∨ lt y z = true

section
variable {α : Type} {lt : α → α → Bool}
theorem SWO.irr (h : SWO lt) (x : α) : lt x x = false := by
  cases e : lt x x
  · rfl
  · have := h.asym x x e; rw [e] at this; exact this
theorem SWO.le_trans (h : SWO lt) {x y z : α} (h1 : lt y x = false) (h2 : lt z y = false) : lt z x = false := by
  cases e : lt z x
  · rfl
  · rcases h.ntr z y x e with k | k
    · rw [h2] at k; cases k
    · rw [h1] at k; cases k
theorem SWO.lt_le (h : SWO lt) {x y z : α} (h1 : lt x y = true) (h2 : lt z y = false) : lt x z = true := by
  rcases h.ntr x z y h1 with k | k
  · exact k
  · rw [h2] at k; cases k
theorem SWO.le_lt (h : SWO lt) {x y z : α} (h1 : lt y x = false) (h2 : lt y z = true) : lt x z = true := by
  rcases h.ntr y x z h2 with k | k
  · rw [h1] at k; cases k
  · exact k

/-- Neither is less. -/
def eqv (lt : α → α → Bool) (z y : α) : Bool := !lt y z && !lt z y
/-- The same elements, equals in one order. -/
def Alk (lt : α → α → Bool) (l r : List α) : Prop := l.length = r.length ∧ ∀ z, l.filter (eqv lt z) = r.filter (eqv lt z)
def Srt (lt : α → α → Bool) (l : List α) : Prop := l.Pairwise fun x y => lt y x = false

theorem Alk.refl (l : List α) : Alk lt l l := ⟨rfl, fun _ => rfl⟩
theorem Alk.symm {l r : List α} (h : Alk lt l r) : Alk lt r l := ⟨h.1.symm, fun z => (h.2 z).symm⟩
theorem Alk.trans {l m r : List α} (h : Alk lt l m) (k : Alk lt m r) : Alk lt l r := ⟨h.1.trans k.1, fun z => (h.2 z).trans (k.2 z)⟩
theorem Alk.app {l r m n : List α} (h : Alk lt l r) (k : Alk lt m n) : Alk lt (l ++ m) (r ++ n) :=
  ⟨by rw [List.length_append, List.length_append, h.1, k.1], fun z => by rw [List.filter_append, List.filter_append, h.2 z, k.2 z]⟩
theorem eqv_self (h : SWO lt) (x : α) : eqv lt x x = true := by simp [eqv, h.irr x]
theorem Alk.mem (h : SWO lt) {l r : List α} (k : Alk lt l r) {x : α} (hx : x ∈ l) : x ∈ r := by
  have h1 : x ∈ l.filter (eqv lt x) := List.mem_filter.2 ⟨hx, eqv_self h x⟩
  rw [k.2 x] at h1
  exact (List.mem_filter.1 h1).1
theorem eqv_of {z y : α} (h : eqv lt z y = true) : lt y z = false ∧ lt z y = false := by
  unfold eqv at h
  cases h1 : lt y z <;> cases h2 : lt z y <;> simp_all
/-- Two parts change places, where all of the second are less. -/
theorem Alk.swap (h : SWO lt) {a b : List α} (hl : ∀ x ∈ a, ∀ y ∈ b, lt y x = true) : Alk lt (a ++ b) (b ++ a) := by
  refine ⟨by rw [List.length_append, List.length_append, Nat.add_comm], fun z => ?_⟩
  rw [List.filter_append, List.filter_append]
  cases ha : a.filter (eqv lt z) with
  | nil => simp
  | cons x xs =>
    cases hb : b.filter (eqv lt z) with
    | nil => simp
    | cons y ys =>
      exfalso
      have hx := List.mem_filter.1 (show x ∈ a.filter (eqv lt z) by rw [ha]; exact List.mem_cons_self)
      have hy := List.mem_filter.1 (show y ∈ b.filter (eqv lt z) by rw [hb]; exact List.mem_cons_self)
      have hx2 := eqv_of hx.2
      have hy2 := eqv_of hy.2
      rcases h.ntr y z x (hl x hx.1 y hy.1) with k | k
      · rw [hy2.1] at k; cases k
      · rw [hx2.2] at k; cases k
/-- Sorted, and the same elements with equals in one order: the same list. -/
theorem Srt.unique (h : SWO lt) : ∀ {l r : List α}, Srt lt l → Srt lt r → Alk lt l r → l = r
  | [], r, _, _, k => by
    have := k.1
    exact (List.eq_nil_of_length_eq_zero (by simpa using this.symm)).symm
  | x :: l, [], _, _, k => by
    have := k.1
    simp at this
  | x :: l, y :: r, hl, hr, k => by
    have hxy : x = y := by
      cases e : eqv lt x y
      · exfalso
        have hx : x ∈ y :: r := k.mem h List.mem_cons_self
        have hy : y ∈ x :: l := k.symm.mem h List.mem_cons_self
        have hne : x ≠ y := by
          intro e2; subst e2; rw [eqv_self h] at e; cases e
        have hx' : x ∈ r := (List.mem_cons.1 hx).resolve_left hne
        have hy' : y ∈ l := (List.mem_cons.1 hy).resolve_left (fun e2 => hne e2.symm)
        have h1 := (List.pairwise_cons.1 hr).1 x hx'
        have h2 := (List.pairwise_cons.1 hl).1 y hy'
        simp [eqv, h1, h2] at e
      · have := k.2 x
        rw [List.filter_cons_of_pos (eqv_self h x), List.filter_cons_of_pos e] at this
        exact (List.cons.inj this).1
    subst hxy
    have := Srt.unique h (List.pairwise_cons.1 hl).2 (List.pairwise_cons.1 hr).2 ⟨by have := k.1; simpa using this, fun z => by
      have := k.2 z
      cases e : eqv lt z x
      · rwa [List.filter_cons_of_neg (by simp [e]), List.filter_cons_of_neg (by simp [e])] at this
      · rw [List.filter_cons_of_pos e, List.filter_cons_of_pos e] at this
        exact (List.cons.inj this).2⟩
    rw [this]
theorem Srt.app {a b : List α} (ha : Srt lt a) (hb : Srt lt b) (h : ∀ x ∈ a, ∀ y ∈ b, lt y x = false) : Srt lt (a ++ b) := List.pairwise_append.2 ⟨ha, hb, h⟩
theorem Srt.left {a b : List α} (h : Srt lt (a ++ b)) : Srt lt a := (List.pairwise_append.1 h).1
theorem Srt.right {a b : List α} (h : Srt lt (a ++ b)) : Srt lt b := (List.pairwise_append.1 h).2.1
theorem Srt.cross {a b : List α} (h : Srt lt (a ++ b)) : ∀ x ∈ a, ∀ y ∈ b, lt y x = false := (List.pairwise_append.1 h).2.2
/-- One more comes in behind those that are no greater, ahead of those that are greater. -/
theorem Srt.insert {a b : List α} {x : α} (h : Srt lt (a ++ b)) (h1 : ∀ y ∈ a, lt x y = false) (h2 : ∀ y ∈ b, lt y x = false) : Srt lt (a ++ x :: b) := by
  refine h.left.app (List.pairwise_cons.2 ⟨h2, h.right⟩) ?_
  intro y hy z hz
  rcases List.mem_cons.1 hz with rfl | hz
  · exact h1 y hy
  · exact h.cross y hy z hz
/-- x is no less than the last of what is sorted: than none. -/
theorem le_all (h : SWO lt) {a : List α} {y x : α} (hs : Srt lt (a ++ [y])) (hx : lt x y = false) : ∀ z ∈ a ++ [y], lt x z = false := by
  intro z hz
  rcases List.mem_append.1 hz with hz | hz
  · exact h.le_trans (hs.cross z hz y (List.mem_singleton.2 rfl)) hx
  · rw [List.mem_singleton.1 hz]; exact hx
/-- x goes on beyond y, which it is less than. -/
theorem Alk.step (h : SWO lt) {a b : List α} {x y : α} (hl : lt x y = true) : Alk lt (a ++ y :: x :: b) (a ++ x :: y :: b) := by
  have := (Alk.refl (lt := lt) a).app (((Alk.swap h (a := [y]) (b := [x]) (by simpa using hl))).app (Alk.refl b))
  simpa using this
/-- x moves behind those that are less. -/
theorem Alk.back (h : SWO lt) {x : α} {a b : List α} (hl : ∀ y ∈ a, lt y x = true) : Alk lt (x :: (a ++ b)) (a ++ x :: b) := by
  have := (Alk.swap h (a := [x]) (b := a) (by simpa using hl)).app (Alk.refl (lt := lt) b)
  simpa using this
/-- x moves ahead of those that are greater. -/
theorem Alk.fore (h : SWO lt) {x : α} {a b : List α} (hl : ∀ y ∈ b, lt x y = true) : Alk lt (a ++ b ++ [x]) (a ++ x :: b) := by
  have := (Alk.refl (lt := lt) a).app (Alk.swap h (a := b) (b := [x]) (by simpa using hl))
  simpa using this
/-- The merge's middle: the four parts in their new order. -/
theorem Alk.turn (h : SWO lt) {a1 a2 b1 b2 : List α} (hl : ∀ x ∈ a2, ∀ y ∈ b1, lt y x = true) : Alk lt ((a1 ++ a2) ++ (b1 ++ b2)) ((a1 ++ b1) ++ (a2 ++ b2)) := by
  have := (Alk.refl (lt := lt) a1).app ((Alk.swap h hl).app (Alk.refl (lt := lt) b2))
  simpa using this

theorem Srt.at_ (h : SWO lt) {l : List α} (hs : Srt lt l) (i j : Nat) (hij : i ≤ j) (hj : j < l.length) : lt l[j] (l[i]'(by omega)) = false := by
  rcases Nat.lt_or_ge i j with k | k
  · exact List.pairwise_iff_getElem.1 hs i j (by omega) hj k
  · have e : i = j := by omega
    subst e
    exact h.irr _
theorem Srt.take {l : List α} (hs : Srt lt l) (k : Nat) : Srt lt (l.take k) := hs.sublist (List.take_sublist _ _)
theorem Srt.drop {l : List α} (hs : Srt lt l) (k : Nat) : Srt lt (l.drop k) := hs.sublist (List.drop_sublist _ _)
theorem mem_take {l : List α} {k : Nat} {x : α} (h : x ∈ l.take k) : ∃ i, ∃ hi : i < l.length, i < k ∧ x = l[i] := by
  obtain ⟨i, hi, rfl⟩ := List.mem_iff_getElem.1 h
  rw [List.length_take] at hi
  exact ⟨i, by omega, by omega, by rw [List.getElem_take]⟩
theorem mem_drop {l : List α} {k : Nat} {x : α} (h : x ∈ l.drop k) : ∃ i, ∃ hi : i < l.length, k ≤ i ∧ x = l[i] := by
  obtain ⟨i, hi, rfl⟩ := List.mem_iff_getElem.1 h
  rw [List.length_drop] at hi
  exact ⟨k + i, by omega, by omega, by rw [List.getElem_drop]⟩

/-- c is the stable merge of a and b. -/
def Mrg (lt : α → α → Bool) (a b c : List α) : Prop := Srt lt c ∧ Alk lt (a ++ b) c
theorem Mrg.one (h : SWO lt) {b : List α} {x : α} (hb : Srt lt b) (t : Nat) (ht : t ≤ b.length) (h1 : ∀ k : t - 1 < b.length, 0 < t → lt b[t - 1] x = true) (h2 : ∀ k : t < b.length, lt b[t] x = false) : Mrg lt [x] b (b.take t ++ x :: b.drop t) := by
  have e1 : ∀ y ∈ b.take t, lt y x = true := by
    intro y hy
    obtain ⟨i, hi, hik, rfl⟩ := mem_take hy
    exact h.le_lt (hb.at_ h i (t - 1) (by omega) (by omega)) (h1 (by omega) (by omega))
  have e2 : ∀ y ∈ b.drop t, lt y x = false := by
    intro y hy
    obtain ⟨i, hi, hik, rfl⟩ := mem_drop hy
    exact h.le_trans (h2 (by omega)) (hb.at_ h t i hik hi)
  refine ⟨Srt.insert (by rw [List.take_append_drop]; exact hb) (fun y hy => h.asym _ _ (e1 y hy)) e2, ?_⟩
  have := Alk.back (a := b.take t) (b := b.drop t) h e1
  rw [List.take_append_drop] at this
  exact this
theorem Mrg.last (h : SWO lt) {a : List α} {x : α} (ha : Srt lt a) (t : Nat) (ht : t ≤ a.length) (h1 : ∀ k : t - 1 < a.length, 0 < t → lt x a[t - 1] = false) (h2 : ∀ k : t < a.length, lt x a[t] = true) : Mrg lt a [x] (a.take t ++ x :: a.drop t) := by
  have e1 : ∀ y ∈ a.take t, lt x y = false := by
    intro y hy
    obtain ⟨i, hi, hik, rfl⟩ := mem_take hy
    exact h.le_trans (ha.at_ h i (t - 1) (by omega) (by omega)) (h1 (by omega) (by omega))
  have e2 : ∀ y ∈ a.drop t, lt x y = true := by
    intro y hy
    obtain ⟨i, hi, hik, rfl⟩ := mem_drop hy
    exact h.lt_le (h2 (by omega)) (ha.at_ h t i hik hi)
  refine ⟨Srt.insert (by rw [List.take_append_drop]; exact ha) e1 (fun y hy => h.asym _ _ (e2 y hy)), ?_⟩
  have := Alk.fore (a := a.take t) (b := a.drop t) h e2
  rw [List.take_append_drop] at this
  exact this
/-- The merge's middle, found from both sides: what changes places, and what lies across. -/
theorem mid_lt (h : SWO lt) {a b : List α} (ha : Srt lt a) (hb : Srt lt b) (k s : Nat) (hk : k - s ≤ b.length) (h2 : ∀ (_ : s < a.length) (_ : k - 1 - s < b.length), s < k → lt b[k - 1 - s] a[s] = true) : ∀ x ∈ a.drop s, ∀ y ∈ b.take (k - s), lt y x = true := by
  intro x hx y hy
  obtain ⟨i, hi, hik, rfl⟩ := mem_drop hx
  obtain ⟨j, hj, hjk, rfl⟩ := mem_take hy
  have hb2 : k - 1 - s < b.length := by omega
  exact h.le_lt (hb.at_ h j (k - 1 - s) (by omega) hb2) (h.lt_le (h2 (by omega) hb2 (by omega)) (ha.at_ h s i hik hi))
theorem mid_le (h : SWO lt) {a b : List α} (ha : Srt lt a) (hb : Srt lt b) (k s : Nat) (hs : s ≤ a.length) (h1 : ∀ (_ : s - 1 < a.length) (_ : k - s < b.length), 0 < s → lt b[k - s] a[s - 1] = false) : ∀ x ∈ a.take s, ∀ y ∈ b.drop (k - s), lt y x = false := by
  intro x hx y hy
  obtain ⟨i, hi, hik, rfl⟩ := mem_take hx
  obtain ⟨j, hj, hjk, rfl⟩ := mem_drop hy
  exact h.le_trans (ha.at_ h i (s - 1) (by omega) (by omega)) (h.le_trans (h1 (by omega) (by omega) (by omega)) (hb.at_ h (k - s) j hjk hj))
theorem Mrg.both (h : SWO lt) {a b c d : List α} (ha : Srt lt a) (hb : Srt lt b) (k s : Nat) (hs : s ≤ a.length) (hk : k - s ≤ b.length)
    (h1 : ∀ (_ : s - 1 < a.length) (_ : k - s < b.length), 0 < s → lt b[k - s] a[s - 1] = false) (h2 : ∀ (_ : s < a.length) (_ : k - 1 - s < b.length), s < k → lt b[k - 1 - s] a[s] = true)
    (hc : Mrg lt (a.take s) (b.take (k - s)) c) (hd : Mrg lt (a.drop s) (b.drop (k - s)) d) : Mrg lt a b (c ++ d) := by
  have e1 := mid_lt h ha hb k s hk h2
  have e2 := mid_le h ha hb k s hs h1
  have sa : Srt lt (a.take s ++ a.drop s) := by rw [List.take_append_drop]; exact ha
  have sb : Srt lt (b.take (k - s) ++ b.drop (k - s)) := by rw [List.take_append_drop]; exact hb
  refine ⟨hc.1.app hd.1 fun x hx y hy => ?_, ?_⟩
  · have hx' := hc.2.symm.mem h hx
    have hy' := hd.2.symm.mem h hy
    rcases List.mem_append.1 hx' with hx' | hx' <;> rcases List.mem_append.1 hy' with hy' | hy'
    · exact sa.cross x hx' y hy'
    · exact e2 x hx' y hy'
    · exact h.asym _ _ (e1 y hy' x hx')
    · exact sb.cross x hx' y hy'
  · have := (Alk.turn (a1 := a.take s) (b2 := b.drop (k - s)) h e1).trans (hc.2.app hd.2)
    rwa [List.take_append_drop, List.take_append_drop] at this
theorem Mrg.nil_left {b : List α} (hb : Srt lt b) : Mrg lt [] b b := ⟨hb, Alk.refl _⟩
theorem Mrg.nil_right {a : List α} (ha : Srt lt a) : Mrg lt a [] a := ⟨ha, by rw [List.append_nil]; exact Alk.refl _⟩
theorem Mrg.length {a b c : List α} (h : Mrg lt a b c) : c.length = a.length + b.length := by rw [← h.2.1, List.length_append]
/-- c is a stably sorted. -/
def Sts (lt : α → α → Bool) (a c : List α) : Prop := Srt lt c ∧ Alk lt a c

/-! ### blocks -/
/-- The i-th block of m. -/
def blk (m i : Nat) (l : List α) : List α := (l.drop (i * m)).take m
theorem part_left (a b c : List α) (s m : Nat) (h : s + m ≤ a.length) : ((a ++ b).drop s).take m = ((a ++ c).drop s).take m := by
  rw [List.drop_append_of_le_length (by omega), List.drop_append_of_le_length (by omega), List.take_append_of_le_length (by rw [List.length_drop]; omega), List.take_append_of_le_length (by rw [List.length_drop]; omega)]
theorem part_right (a b c : List α) (s m : Nat) (h : a.length = b.length) (h2 : a.length ≤ s) : ((a ++ c).drop s).take m = ((b ++ c).drop s).take m := by
  rw [List.drop_append, List.drop_append, List.drop_eq_nil_of_le h2, List.drop_eq_nil_of_le (show b.length ≤ s by omega), h]
theorem part_mid (a b c : List α) : ((a ++ (b ++ c)).drop a.length).take b.length = b := by
  rw [List.drop_left, List.take_left]
end
end St
end Go.Proofs.Ytdpohibgipkhnaa
namespace Go.Proofs.Ytdpohibgipkhnaa
namespace St
section
variable {α : Type} {lt : α → α → Bool}
/-- Each block of m is sorted. -/
def Chk (lt : α → α → Bool) (m : Nat) (l : List α) : Prop := ∀ i, Srt lt (blk m i l)
theorem Srt.nil : Srt lt ([] : List α) := List.Pairwise.nil
theorem Chk.nil (m : Nat) : Chk lt m ([] : List α) := fun i => by unfold blk; rw [List.drop_nil, List.take_nil]; exact Srt.nil
theorem Chk.head {m : Nat} {l : List α} (h : Chk lt m l) : Srt lt (l.take m) := by
  have := h 0
  unfold blk at this
  rwa [Nat.zero_mul, List.drop_zero] at this
theorem Chk.drop {m : Nat} {l : List α} (h : Chk lt m l) : Chk lt m (l.drop m) := fun i => by
  have := h (i + 1)
  unfold blk at this ⊢
  rw [List.drop_drop]
  rwa [Nat.add_mul, Nat.one_mul, Nat.add_comm] at this
theorem Chk.all {m : Nat} {l : List α} (h : Chk lt m l) (hl : l.length ≤ m) : Srt lt l := by
  have := h.head
  rwa [List.take_of_length_le hl] at this
theorem Chk.snoc {m k : Nat} {d c : List α} (h : Chk lt m d) (hd : d.length = k * m) (hc : Srt lt c) (hl : c.length ≤ m) : Chk lt m (d ++ c) := fun i => by
  rcases Nat.lt_trichotomy i k with hi | hi | hi
  · have h1 : (i + 1) * m ≤ k * m := Nat.mul_le_mul_right m hi
    rw [Nat.add_mul, Nat.one_mul] at h1
    have := part_left d c [] (i * m) m (by omega)
    unfold blk
    rw [this, List.append_nil]
    exact h i
  · subst hi
    unfold blk
    rw [← hd, List.drop_left]
    exact hc.take m
  · have h1 : (k + 1) * m ≤ i * m := Nat.mul_le_mul_right m hi
    rw [Nat.add_mul, Nat.one_mul] at h1
    unfold blk
    rw [List.drop_eq_nil_of_le (by rw [List.length_append]; omega), List.take_nil]
    exact Srt.nil
end
end St
end Go.Proofs.Ytdpohibgipkhnaa
