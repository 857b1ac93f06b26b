
/-
  PLAIN: what is in one form stays; when two lists of fields in one form are the same.
-/
import Derived.Test.YtdpohibgipkhnaaCanF
import Derived.Test.YtdpohibgipkhnaaSortPlain
import Derived.Test.YtdpohibgipkhnaaOctKeepsPlain
import Derived.Lib.Bytealg
namespace Go.Proofs.Ytdpohibgipkhnaa
open Go.Proofs.Ytdpohibgipkhnaa.Oct Go.Proofs.Ytdpohibgipkhnaa.St

theorem fold_eqn {a b : ByteArray} : foldS a b = true ↔ lowS a = lowS b := by unfold foldS; exact decide_eq_true_iff
theorem foldS_congr {a b c : ByteArray} (h : lowS a = lowS b) : foldS a c = foldS b c := by unfold foldS; rw [h]
theorem foldS_congr2 {a b c : ByteArray} (h : lowS a = lowS b) : foldS c a = foldS c b := by unfold foldS; rw [h]
theorem allV_congr {a b : ByteArray} (h : lowS a = lowS b) (l : Flds) : allV l a = allV l b := by
  unfold allV
  congr 2
  funext p
  exact foldS_congr h
theorem hitB_congr {a b : ByteArray} (h : lowS a = lowS b) (l : Flds) : hitB a l = hitB b l := by
  unfold hitB
  congr 1
  funext p
  exact foldS_congr h
theorem singB_congr {a b : ByteArray} (h : lowS a = lowS b) : singB a = singB b := by
  unfold singB
  congr 1
  funext p
  exact foldS_congr2 h
theorem oneF_congr {a b : ByteArray} (h : lowS a = lowS b) (l : Flds) : oneF l a = oneF l b := by
  unfold oneF
  rw [allV_congr h, singB_congr h, nameS_of_low h]
theorem oneF_name {l : Flds} {n : ByteArray} {p : ByteArray × ByteArray} (h : p ∈ oneF l n) : p.1 = nameS n := (oneF_mem h).1
theorem oneF_all {l : Flds} {n m : ByteArray} (h : foldS n m = true) : (oneF l m).filter (fun p => foldS n p.1) = oneF l m := by
  rw [List.filter_eq_self]
  intro p hp
  rw [oneF_name hp, fold_eqn, nameS_low]
  exact fold_eqn.1 h
theorem oneF_none {l : Flds} {n m : ByteArray} (h : foldS n m = false) : (oneF l m).filter (fun p => foldS n p.1) = [] := by
  rw [List.filter_eq_nil_iff]
  intro p hp
  rw [oneF_name hp, foldS_congr2 (nameS_low m), h]
  simp
/-- The fields of a name among those in one form. -/
theorem canTo_filter (l : Flds) (n : ByteArray) : ∀ k, k ≤ l.length → (canTo l k).filter (fun p => foldS n p.1) = if hitB n (l.take k) = true then oneF l n else []
  | 0, _ => by simp [canTo, hitB]
  | k + 1, h => by
    have hk : k < l.length := by omega
    have ih := canTo_filter l n k (by omega)
    rw [hitB_take n l k hk]
    cases hf : foldS n l[k].1
    · rw [Bool.or_false]
      cases hh : hitB l[k].1 (l.take k)
      · rw [canTo_new hk hh, List.filter_append, oneF_none hf, List.append_nil, ih]
      · rw [canTo_hit hk hh, ih]
    · rw [Bool.or_true, if_pos rfl]
      have hl := fold_eqn.1 hf
      cases hh : hitB l[k].1 (l.take k)
      · rw [canTo_new hk hh, List.filter_append, oneF_all hf, ih, hitB_congr hl, hh]
        simp [oneF_congr hl]
      · rw [canTo_hit hk hh, ih, hitB_congr hl, hh, if_pos rfl]
theorem canF_filter (l : Flds) (n : ByteArray) : (canF l).filter (fun p => foldS n p.1) = if hitB n l = true then oneF l n else [] := by
  have := canTo_filter l n l.length (Nat.le_refl _)
  rwa [List.take_length] at this
theorem canF_names {l : Flds} {p : ByteArray × ByteArray} (h : p ∈ canF l) : nameS p.1 = p.1 := by
  obtain ⟨i, hi, _, _, h1⟩ := canTo_mem h
  rw [oneF_name h1, nameS_idem]
theorem canF_hit (l : Flds) {p : ByteArray × ByteArray} (h : p ∈ canF l) : hitB p.1 l = true := by
  obtain ⟨i, hi, _, _, h1⟩ := canTo_mem h
  rw [oneF_name h1]
  unfold hitB
  rw [List.any_eq_true]
  exact ⟨l[i], List.getElem_mem hi, by rw [fold_eqn, nameS_low]⟩
theorem canTo_same {l : Flds} (k : Nat) (n : Nat) (h : ∀ i, k ≤ i → (hi : i < l.length) → i < k + n → hitB l[i].1 (l.take i) = true) : k + n ≤ l.length → canTo l (k + n) = canTo l k := by
  induction n with
  | zero => intro _; rfl
  | succ n ih =>
    intro hn
    rw [← Nat.add_assoc, canTo_hit (show k + n < l.length by omega) (h (k + n) (by omega) (by omega) (by omega))]
    exact ih (fun i h1 h2 h3 => h i h1 h2 (by omega)) (by omega)
theorem map_val (f : ByteArray × ByteArray → ByteArray × ByteArray) (l : Flds) (h : ∀ p ∈ l, f p = p) : l.map f = l := by
  induction l with
  | nil => rfl
  | cons p r ih => rw [List.map_cons, h p List.mem_cons_self, ih fun q hq => h q (List.mem_cons_of_mem _ hq)]
theorem oneF_trim {l : Flds} {n : ByteArray} {p : ByteArray × ByteArray} (h : p ∈ oneF l n) : trimS p.2 = p.2 := by
  unfold oneF at h
  split at h
  · obtain ⟨v, _, rfl⟩ := List.mem_map.1 h
    exact trimS_idem v
  · rw [List.mem_singleton] at h
    subst h
    exact trimS_idem _
theorem allV_hit_pos {l : Flds} {n : ByteArray} (h : hitB n l = true) : allV l n ≠ [] := by
  rw [hit_low] at h
  intro e
  rw [e] at h
  simp at h
theorem oneF_pos {l : Flds} {n : ByteArray} (h : hitB n l = true) : oneF l n ≠ [] := by
  unfold oneF
  split
  · intro e
    exact allV_hit_pos h (List.map_eq_nil_iff.1 e)
  · simp
/-- The fields of a name, taken out of those in one form. -/
theorem allV_canF (l : Flds) (n : ByteArray) (h : hitB n l = true) : allV (canF l) n = (oneF l n).map (·.2) := by
  unfold allV
  rw [canF_filter, if_pos h]
theorem oneF_canF (l : Flds) (n : ByteArray) (h : hitB n l = true) : oneF (canF l) (nameS n) = oneF l n := by
  have h1 : allV (canF l) (nameS n) = (oneF l n).map (·.2) := by rw [allV_congr (nameS_low n), allV_canF l n h]
  have h2 : singB (nameS n) = singB n := singB_congr (nameS_low n)
  cases hs : singB n
  · rw [oneF_join (h2.trans hs), h1, oneF_join hs]
    simp only [List.map_cons, List.map_nil, joinB_one, nameS_idem, trimS_idem]
  · rw [oneF_sing (h2.trans hs), h1, List.map_map]
    refine map_val _ _ fun p hp => ?_
    show (nameS (nameS n), trimS p.2) = p
    rw [nameS_idem, oneF_trim hp, ← oneF_name hp]
theorem canTo_pre (l : Flds) : ∀ k d, k + d ≤ l.length → ∃ e, canTo l (k + d) = canTo l k ++ e
  | k, 0, _ => ⟨[], by simp⟩
  | k, d + 1, h => by
    obtain ⟨e, he⟩ := canTo_pre l k d (by omega)
    have hk : k + d < l.length := by omega
    cases hh : hitB l[k + d].1 (l.take (k + d))
    · exact ⟨e ++ oneF l l[k + d].1, by rw [← Nat.add_assoc, canTo_new hk hh, he, List.append_assoc]⟩
    · exact ⟨e, by rw [← Nat.add_assoc, canTo_hit hk hh, he]⟩
theorem canTo_idem (l : Flds) : ∀ k, k ≤ l.length → canTo (canF l) (canTo l k).length = canTo l k
  | 0, _ => rfl
  | k + 1, h => by
    have hk : k < l.length := by omega
    have ih := canTo_idem l k (by omega)
    cases hh : hitB l[k].1 (l.take k)
    · obtain ⟨e, he⟩ := canTo_pre l (k + 1) (l.length - (k + 1)) (by omega)
      rw [show k + 1 + (l.length - (k + 1)) = l.length by omega] at he
      have he' : canF l = canTo l k ++ (oneF l l[k].1 ++ e) := by rw [canF, he, canTo_new hk hh, List.append_assoc]
      have hit : hitB l[k].1 l = true := by
        unfold hitB
        rw [List.any_eq_true]
        exact ⟨l[k], List.getElem_mem hk, by rw [fold_eqn]⟩
      have h1 := oneF_canF l l[k].1 hit
      have hall : ∀ p ∈ oneF l l[k].1, p.1 = nameS l[k].1 := fun p hp => oneF_name hp
      rw [canTo_new hk hh, List.length_append]
      obtain ⟨q, B, hB⟩ := List.exists_cons_of_ne_nil (oneF_pos hit)
      have hq : q.1 = nameS l[k].1 := hall q (by rw [hB]; exact List.mem_cons_self)
      have hlen : (canF l).length = (canTo l k).length + ((oneF l l[k].1).length + e.length) := by rw [he']; simp
      have hBl : (oneF l l[k].1).length = B.length + 1 := by rw [hB]; rfl
      have hat : ∀ i (hi : i < (canF l).length), (canTo l k).length ≤ i → i < (canTo l k).length + (oneF l l[k].1).length → (canF l)[i] ∈ oneF l l[k].1 := by
        intro i hi h1 h2
        obtain ⟨z, hz⟩ : ∃ z, z = (canF l)[i] := ⟨_, rfl⟩
        have e1 : (canF l)[i]? = some z := by rw [hz]; exact List.getElem?_eq_getElem hi
        rw [← hz]
        rw [he', List.getElem?_append_right h1, List.getElem?_append_left (by omega)] at e1
        exact List.mem_of_getElem? e1
      have hnew : canTo (canF l) ((canTo l k).length + 1) = canTo l k ++ oneF l l[k].1 := by
        have hlt : (canTo l k).length < (canF l).length := by omega
        have hn := hall _ (hat _ hlt (Nat.le_refl _) (by omega))
        have hno : hitB (canF l)[(canTo l k).length].1 ((canF l).take (canTo l k).length) = false := by
          rw [hn, he', List.take_left, hitB_congr (nameS_low _)]
          unfold hitB
          rw [List.any_eq_false]
          intro p hp hf
          obtain ⟨i, hi, hik, _, hpi⟩ := canTo_mem hp
          rw [oneF_name hpi, fold_eqn, nameS_low] at hf
          unfold hitB at hh
          rw [List.any_eq_false] at hh
          exact hh l[i] (by rw [List.mem_take_iff_getElem]; exact ⟨i, by omega, rfl⟩) (by rw [fold_eqn]; exact hf)
        rw [canTo_new hlt hno, ih, hn, h1]
      have hrest := canTo_same (l := canF l) ((canTo l k).length + 1) B.length (fun i h1 h2 h3 => by
        have hn := hall _ (hat i h2 (by omega) (by omega))
        rw [hn]
        unfold hitB
        rw [List.any_eq_true]
        refine ⟨q, ?_, by rw [fold_eqn, hq]⟩
        rw [he', hB, List.mem_take_iff_getElem]
        refine ⟨(canTo l k).length, by simp; omega, ?_⟩
        rw [List.getElem_append_right (by omega)]
        simp) (by omega)
      rw [hBl, show (canTo l k).length + (B.length + 1) = (canTo l k).length + 1 + B.length by omega, hrest, hnew]
    · rw [canTo_hit hk hh, ih]
theorem canF_idem (l : Flds) : canF (canF l) = canF l := canTo_idem l l.length (Nat.le_refl _)

/-! ### the order by names -/
def ltF (f g : ByteArray × ByteArray) : Bool := decide (Lib.compareBytes f.1.data.toList g.1.data.toList < 0)
theorem canF_alike {a b : Flds} (h : ∀ n, oneF a n = oneF b n ∧ hitB n a = hitB n b) (n : ByteArray) : (canF a).filter (fun p => foldS n p.1) = (canF b).filter (fun p => foldS n p.1) := by
  rw [canF_filter, canF_filter, (h n).1, (h n).2]
end Go.Proofs.Ytdpohibgipkhnaa
