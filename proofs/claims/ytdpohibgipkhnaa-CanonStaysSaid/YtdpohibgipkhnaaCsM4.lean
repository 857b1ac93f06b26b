/-
  PLAIN: what is made small, or trimmed, stays so; what may stand in a token is neither a blank nor out of sight.
  PLAIN: what is in one form stays; when two lists of fields in one form are the same.
  THE WALK of canon.Fields.
  A []api.Field THAT CAME IN, AND A FIELD BY VALUE: what the reader's word gives.
  A []api.Field THAT CAME IN: its length is not more than its capacity.
  THE WALKS of layer 50's example and of CanonNames.
  A STABLE SORT OF A ROW OF STRUCTS (api.Field): the row in memory; the walk of swapRange.
  A STABLE SORT OF A ROW OF STRUCTS (api.Field): the walk of rotate.
  A STABLE SORT OF A ROW OF STRUCTS (api.Field): the walk of the insertion sort.
  A STABLE SORT OF A ROW OF STRUCTS (api.Field): the walk of symMerge, where the first part, or the second, is one element.
-/
import Derived.Test.YtdpohibgipkhnaaCsM3
import Derived.Lib.Bytealg
import Derived.Maps.OwnOps
import Derived.Maps.OwnSet
import Derived.Maps.Views
import Derived.ProofKit
import Derived.OpenShut
import Derived.ShutString
import Derived.ChangeSame
import Derived.Deep.RegionHeld3
import Derived.Laws.Cells
import Derived.IntWalk
import Derived.Lib.QuietBelow
namespace Go.Proofs.Ytdpohibgipkhnaa
namespace Oct

theorem foldS_low (a : ByteArray) : foldS a (lowS a) = true := by unfold foldS; simp [lowS_idem]
theorem foldS_symm (a b : ByteArray) : foldS b a = foldS a b := by
  unfold foldS
  rw [Bool.eq_iff_iff]
  simp only [decide_eq_true_eq]
  exact ⟨fun h => h.symm, fun h => h.symm⟩
theorem foldS_trans {a b c : ByteArray} (h : foldS a b = true) (k : foldS b c = true) : foldS a c = true := by
  unfold foldS at h k ⊢
  simp only [decide_eq_true_eq] at h k ⊢
  exact h.trans k

theorem dw_head (p : UInt8 → Bool) : ∀ (l : List UInt8) (c : UInt8), (l.dropWhile p).head? = some c → p c = false
  | [], c, h => by simp at h
  | d :: l, c, h => by
    by_cases hd : p d = true
    · rw [List.dropWhile_cons_of_pos hd] at h; exact dw_head p l c h
    · rw [List.dropWhile_cons_of_neg hd] at h
      simp at h
      subst h
      simpa using hd
theorem dw_last (p : UInt8 → Bool) : ∀ (l : List UInt8) (c : UInt8), (l.dropWhile p).getLast? = some c → l.getLast? = some c
  | [], c, h => by simp at h
  | d :: l, c, h => by
    by_cases hd : p d = true
    · rw [List.dropWhile_cons_of_pos hd] at h
      have := dw_last p l c h
      cases l with
      | nil => simp at this
      | cons e l => simpa [List.getLast?_cons_cons] using this
    · rw [List.dropWhile_cons_of_neg hd] at h; exact h
theorem trimL_last (l : List UInt8) (c : UInt8) (h : (trimL l).getLast? = some c) : blB c = false := by
  unfold trimL at h
  rw [List.getLast?_reverse] at h
  exact dw_head _ _ _ h
theorem trimL_head (l : List UInt8) (c : UInt8) (h : (trimL l).head? = some c) : blB c = false := by
  unfold trimL at h
  rw [List.head?_reverse] at h
  have h2 := dw_last _ _ _ h
  rw [List.getLast?_reverse] at h2
  exact dw_head _ _ _ h2
theorem trimS_idem (s : ByteArray) : trimS (trimS s) = trimS s := by
  apply bytes_eq_of_list
  show trimL (trimL s.data.toList) = trimL s.data.toList
  exact trimL_self _ (trimL_head _) (trimL_last _)
theorem trimL_pad (l : List UInt8) : trimL ([32, 9] ++ l ++ [9, 32]) = trimL l := by
  have e : [32, 9] ++ l ++ [9, 32] = (32 :: (9 :: l) ++ [9]) ++ [32] := by simp
  rw [e, trimL_snoc 32 _ rfl, trimL_snoc 9 _ rfl, trimL_cons 32 _ rfl, trimL_cons 9 _ rfl]
theorem trimS_pad (s : ByteArray) : trimS (⟨#[32, 9]⟩ ++ s ++ ⟨#[9, 32]⟩) = trimS s := by
  apply bytes_eq_of_list
  show trimL (⟨#[32, 9]⟩ ++ s ++ ⟨#[9, 32]⟩ : ByteArray).data.toList = trimL s.data.toList
  rw [ByteArray.data_append, ByteArray.data_append, Array.toList_append, Array.toList_append]
  exact trimL_pad _
theorem trimS_first_not (s : ByteArray) (h : 0 < (trimS s).size) : blI ((trimS s)[0]).toNat = false := by
  apply trimL_head s.data.toList
  rw [List.head?_eq_getElem?]
  exact List.getElem?_eq_getElem (l := (trimS s).data.toList) (i := 0) (by simpa using h)
theorem trimS_last_not (s : ByteArray) (h : (trimS s).size - 1 < (trimS s).size) : blI ((trimS s)[(trimS s).size - 1]).toNat = false := by
  apply trimL_last s.data.toList
  rw [List.getLast?_eq_getElem?]
  have hl : (trimL s.data.toList).length = (trimS s).size := by
    show (trimS s).data.toList.length = _
    simp
  rw [hl]
  exact List.getElem?_eq_getElem (l := (trimS s).data.toList) (i := (trimS s).size - 1) (by simpa using h)
theorem blI_false {c : Int} (h : blI c = false) : (c == 32) = false ∧ (c == 9) = false := by unfold blI at h; simpa using h

theorem allFrom_at {q : Int → Bool} {s : ByteArray} (h : allFrom q s 0 = true) (k : Nat) (hk : k < s.size) : q (s[k].toNat) = true := by
  unfold allFrom at h
  rw [List.drop_zero, List.all_eq_true] at h
  exact h _ (List.getElem_mem (l := s.data.toList) (n := k) (by simpa using hk))
theorem allFrom_mono {p q : Int → Bool} (hpq : ∀ r, p r = true → q r = true) {s : ByteArray} (h : allFrom p s 0 = true) : allFrom q s 0 = true := by
  unfold allFrom at h ⊢
  rw [List.all_eq_true] at h ⊢
  exact fun c hc => hpq _ (h c hc)
theorem tcharI_in (r : Int) (h : tcharI r = true) : 32 < r ∧ r < 127 := by
  by_cases hl : alnumI r = true
  · unfold alnumI at hl; simp at hl; omega
  · have hm : r ∈ marksL := by
      unfold tcharI at h
      simp only [Bool.or_eq_true, hl, List.contains_iff_mem] at h
      simpa using h
    have : ∀ x ∈ marksL, 32 < x ∧ x < 127 := by decide
    exact this r hm
theorem token_visible (s : ByteArray) (h : tokenS s = true) : visibleS s = true := by
  unfold tokenS at h
  unfold visibleS
  rw [Bool.and_eq_true] at h ⊢
  refine ⟨h.1, allFrom_mono (fun r hr => ?_) h.2⟩
  have := tcharI_in r hr
  unfold visI
  simp
  omega
theorem token_value (s : ByteArray) (h : tokenS s = true) : valueS s = true := by
  unfold tokenS at h
  rw [Bool.and_eq_true] at h
  refine allFrom_mono (fun r hr => ?_) h.2
  have := tcharI_in r hr
  unfold valI
  simp
  omega
theorem token_trim (s : ByteArray) (h : tokenS s = true) : trimS s = s := by
  unfold tokenS at h
  rw [Bool.and_eq_true] at h
  have hb : ∀ c ∈ s.data.toList, blB c = false := fun c hc => by
    have h2 := h.2
    unfold allFrom at h2
    rw [List.drop_zero, List.all_eq_true] at h2
    have := tcharI_in _ (h2 c hc)
    unfold blB blI
    simp
    omega
  apply bytes_eq_of_list
  show trimL s.data.toList = s.data.toList
  exact trimL_self _ (fun c hc => hb c (List.mem_of_mem_head? hc)) (fun c hc => hb c (List.mem_of_getLast? hc))
end Oct
end Go.Proofs.Ytdpohibgipkhnaa
namespace Go.Proofs.Ytdpohibgipkhnaa
open Go.Proofs.Ytdpohibgipkhnaa.Oct Go.Proofs.Ytdpohibgipkhnaa.St

theorem fold_eqn {a b : ByteArray} : foldS a b = true ↔ lowS a = lowS b := by unfold foldS; exact decide_eq_true_iff
theorem foldS_congr {a b c : ByteArray} (h : lowS a = lowS b) : foldS a c = foldS b c := by unfold foldS; rw [h]
theorem foldS_congr2 {a b c : ByteArray} (h : lowS a = lowS b) : foldS c a = foldS c b := by unfold foldS; rw [h]
theorem allV_congr {a b : ByteArray} (h : lowS a = lowS b) (l : Flds) : allV l a = allV l b := by
  unfold allV
  congr 2
  funext p
  exact foldS_congr h
theorem hitB_congr {a b : ByteArray} (h : lowS a = lowS b) (l : Flds) : hitB a l = hitB b l := by
  unfold hitB
  congr 1
  funext p
  exact foldS_congr h
theorem singB_congr {a b : ByteArray} (h : lowS a = lowS b) : singB a = singB b := by
  unfold singB
  congr 1
  funext p
  exact foldS_congr2 h
theorem oneF_congr {a b : ByteArray} (h : lowS a = lowS b) (l : Flds) : oneF l a = oneF l b := by
  unfold oneF
  rw [allV_congr h, singB_congr h, nameS_of_low h]
theorem oneF_name {l : Flds} {n : ByteArray} {p : ByteArray × ByteArray} (h : p ∈ oneF l n) : p.1 = nameS n := (oneF_mem h).1
theorem oneF_all {l : Flds} {n m : ByteArray} (h : foldS n m = true) : (oneF l m).filter (fun p => foldS n p.1) = oneF l m := by
  rw [List.filter_eq_self]
  intro p hp
  rw [oneF_name hp, fold_eqn, nameS_low]
  exact fold_eqn.1 h
theorem oneF_none {l : Flds} {n m : ByteArray} (h : foldS n m = false) : (oneF l m).filter (fun p => foldS n p.1) = [] := by
  rw [List.filter_eq_nil_iff]
  intro p hp
  rw [oneF_name hp, foldS_congr2 (nameS_low m), h]
  simp
/-- The fields of a name among those in one form. -/
theorem canTo_filter (l : Flds) (n : ByteArray) : ∀ k, k ≤ l.length → (canTo l k).filter (fun p => foldS n p.1) = if hitB n (l.take k) = true then oneF l n else []
  | 0, _ => by simp [canTo, hitB]
  | k + 1, h => by
    have hk : k < l.length := by omega
    have ih := canTo_filter l n k (by omega)
    rw [hitB_take n l k hk]
    cases hf : foldS n l[k].1
    · rw [Bool.or_false]
      cases hh : hitB l[k].1 (l.take k)
      · rw [canTo_new hk hh, List.filter_append, oneF_none hf, List.append_nil, ih]
      · rw [canTo_hit hk hh, ih]
    · rw [Bool.or_true, if_pos rfl]
      have hl := fold_eqn.1 hf
      cases hh : hitB l[k].1 (l.take k)
      · rw [canTo_new hk hh, List.filter_append, oneF_all hf, ih, hitB_congr hl, hh]
        simp [oneF_congr hl]
      · rw [canTo_hit hk hh, ih, hitB_congr hl, hh, if_pos rfl]
theorem canF_filter (l : Flds) (n : ByteArray) : (canF l).filter (fun p => foldS n p.1) = if hitB n l = true then oneF l n else [] := by
  have := canTo_filter l n l.length (Nat.le_refl _)
  rwa [List.take_length] at this
theorem canF_names {l : Flds} {p : ByteArray × ByteArray} (h : p ∈ canF l) : nameS p.1 = p.1 := by
  obtain ⟨i, hi, _, _, h1⟩ := canTo_mem h
  rw [oneF_name h1, nameS_idem]
theorem canF_hit (l : Flds) {p : ByteArray × ByteArray} (h : p ∈ canF l) : hitB p.1 l = true := by
  obtain ⟨i, hi, _, _, h1⟩ := canTo_mem h
  rw [oneF_name h1]
  unfold hitB
  rw [List.any_eq_true]
  exact ⟨l[i], List.getElem_mem hi, by rw [fold_eqn, nameS_low]⟩
theorem canTo_same {l : Flds} (k : Nat) (n : Nat) (h : ∀ i, k ≤ i → (hi : i < l.length) → i < k + n → hitB l[i].1 (l.take i) = true) : k + n ≤ l.length → canTo l (k + n) = canTo l k := by
  induction n with
  | zero => intro _; rfl
  | succ n ih =>
    intro hn
    rw [← Nat.add_assoc, canTo_hit (show k + n < l.length by omega) (h (k + n) (by omega) (by omega) (by omega))]
    exact ih (fun i h1 h2 h3 => h i h1 h2 (by omega)) (by omega)
theorem map_val (f : ByteArray × ByteArray → ByteArray × ByteArray) (l : Flds) (h : ∀ p ∈ l, f p = p) : l.map f = l := by
  induction l with
  | nil => rfl
  | cons p r ih => rw [List.map_cons, h p List.mem_cons_self, ih fun q hq => h q (List.mem_cons_of_mem _ hq)]
theorem oneF_trim {l : Flds} {n : ByteArray} {p : ByteArray × ByteArray} (h : p ∈ oneF l n) : trimS p.2 = p.2 := by
  unfold oneF at h
  split at h
  · obtain ⟨v, _, rfl⟩ := List.mem_map.1 h
    exact trimS_idem v
  · rw [List.mem_singleton] at h
    subst h
    exact trimS_idem _
theorem allV_hit_pos {l : Flds} {n : ByteArray} (h : hitB n l = true) : allV l n ≠ [] := by
  rw [hit_low] at h
  intro e
  rw [e] at h
  simp at h
theorem oneF_pos {l : Flds} {n : ByteArray} (h : hitB n l = true) : oneF l n ≠ [] := by
  unfold oneF
  split
  · intro e
    exact allV_hit_pos h (List.map_eq_nil_iff.1 e)
  · simp
/-- The fields of a name, taken out of those in one form. -/
theorem allV_canF (l : Flds) (n : ByteArray) (h : hitB n l = true) : allV (canF l) n = (oneF l n).map (·.2) := by
  unfold allV
  rw [canF_filter, if_pos h]
theorem oneF_canF (l : Flds) (n : ByteArray) (h : hitB n l = true) : oneF (canF l) (nameS n) = oneF l n := by
  have h1 : allV (canF l) (nameS n) = (oneF l n).map (·.2) := by rw [allV_congr (nameS_low n), allV_canF l n h]
  have h2 : singB (nameS n) = singB n := singB_congr (nameS_low n)
  cases hs : singB n
  · rw [oneF_join (h2.trans hs), h1, oneF_join hs]
    simp only [List.map_cons, List.map_nil, joinB_one, nameS_idem, trimS_idem]
  · rw [oneF_sing (h2.trans hs), h1, List.map_map]
    refine map_val _ _ fun p hp => ?_
    show (nameS (nameS n), trimS p.2) = p
    rw [nameS_idem, oneF_trim hp, ← oneF_name hp]
theorem canTo_pre (l : Flds) : ∀ k d, k + d ≤ l.length → ∃ e, canTo l (k + d) = canTo l k ++ e
  | k, 0, _ => ⟨[], by simp⟩
  | k, d + 1, h => by
    obtain ⟨e, he⟩ := canTo_pre l k d (by omega)
    have hk : k + d < l.length := by omega
    cases hh : hitB l[k + d].1 (l.take (k + d))
    · exact ⟨e ++ oneF l l[k + d].1, by rw [← Nat.add_assoc, canTo_new hk hh, he, List.append_assoc]⟩
    · exact ⟨e, by rw [← Nat.add_assoc, canTo_hit hk hh, he]⟩
theorem canTo_idem (l : Flds) : ∀ k, k ≤ l.length → canTo (canF l) (canTo l k).length = canTo l k
  | 0, _ => rfl
  | k + 1, h => by
    have hk : k < l.length := by omega
    have ih := canTo_idem l k (by omega)
    cases hh : hitB l[k].1 (l.take k)
    · obtain ⟨e, he⟩ := canTo_pre l (k + 1) (l.length - (k + 1)) (by omega)
      rw [show k + 1 + (l.length - (k + 1)) = l.length by omega] at he
      have he' : canF l = canTo l k ++ (oneF l l[k].1 ++ e) := by rw [canF, he, canTo_new hk hh, List.append_assoc]
      have hit : hitB l[k].1 l = true := by
        unfold hitB
        rw [List.any_eq_true]
        exact ⟨l[k], List.getElem_mem hk, by rw [fold_eqn]⟩
      have h1 := oneF_canF l l[k].1 hit
      have hall : ∀ p ∈ oneF l l[k].1, p.1 = nameS l[k].1 := fun p hp => oneF_name hp
      rw [canTo_new hk hh, List.length_append]
      obtain ⟨q, B, hB⟩ := List.exists_cons_of_ne_nil (oneF_pos hit)
      have hq : q.1 = nameS l[k].1 := hall q (by rw [hB]; exact List.mem_cons_self)
      have hlen : (canF l).length = (canTo l k).length + ((oneF l l[k].1).length + e.length) := by rw [he']; simp
      have hBl : (oneF l l[k].1).length = B.length + 1 := by rw [hB]; rfl
      have hat : ∀ i (hi : i < (canF l).length), (canTo l k).length ≤ i → i < (canTo l k).length + (oneF l l[k].1).length → (canF l)[i] ∈ oneF l l[k].1 := by
        intro i hi h1 h2
        obtain ⟨z, hz⟩ : ∃ z, z = (canF l)[i] := ⟨_, rfl⟩
        have e1 : (canF l)[i]? = some z := by rw [hz]; exact List.getElem?_eq_getElem hi
        rw [← hz]
        rw [he', List.getElem?_append_right h1, List.getElem?_append_left (by omega)] at e1
        exact List.mem_of_getElem? e1
      have hnew : canTo (canF l) ((canTo l k).length + 1) = canTo l k ++ oneF l l[k].1 := by
        have hlt : (canTo l k).length < (canF l).length := by omega
        have hn := hall _ (hat _ hlt (Nat.le_refl _) (by omega))
        have hno : hitB (canF l)[(canTo l k).length].1 ((canF l).take (canTo l k).length) = false := by
          rw [hn, he', List.take_left, hitB_congr (nameS_low _)]
          unfold hitB
          rw [List.any_eq_false]
          intro p hp hf
          obtain ⟨i, hi, hik, _, hpi⟩ := canTo_mem hp
          rw [oneF_name hpi, fold_eqn, nameS_low] at hf
          unfold hitB at hh
          rw [List.any_eq_false] at hh
          exact hh l[i] (by rw [List.mem_take_iff_getElem]; exact ⟨i, by omega, rfl⟩) (by rw [fold_eqn]; exact hf)
        rw [canTo_new hlt hno, ih, hn, h1]
      have hrest := canTo_same (l := canF l) ((canTo l k).length + 1) B.length (fun i h1 h2 h3 => by
        have hn := hall _ (hat i h2 (by omega) (by omega))
        rw [hn]
        unfold hitB
        rw [List.any_eq_true]
        refine ⟨q, ?_, by rw [fold_eqn, hq]⟩
        rw [he', hB, List.mem_take_iff_getElem]
        refine ⟨(canTo l k).length, by simp; omega, ?_⟩
        rw [List.getElem_append_right (by omega)]
        simp) (by omega)
      rw [hBl, show (canTo l k).length + (B.length + 1) = (canTo l k).length + 1 + B.length by omega, hrest, hnew]
    · rw [canTo_hit hk hh, ih]
theorem canF_idem (l : Flds) : canF (canF l) = canF l := canTo_idem l l.length (Nat.le_refl _)

/-! ### the order by names -/
def ltF (f g : ByteArray × ByteArray) : Bool := decide (Lib.compareBytes f.1.data.toList g.1.data.toList < 0)
theorem canF_alike {a b : Flds} (h : ∀ n, oneF a n = oneF b n ∧ hitB n a = hitB n b) (n : ByteArray) : (canF a).filter (fun p => foldS n p.1) = (canF b).filter (fun p => foldS n p.1) := by
  rw [canF_filter, canF_filter, (h n).1, (h n).2]
end Go.Proofs.Ytdpohibgipkhnaa
namespace Go.Proofs.Ytdpohibgipkhnaa
open Go.RowKit Go.Sort Go.Maps Go.Proofs.Ytdpohibgipkhnaa.Oct

theorem key_str : Keyed Try.prog 9 := string_keyed Try.underlying9
theorem zero_int (w : World) : (zeroValue 3).run Try.prog w = .ok (.int .i64 0) w := by kernel_rfl
theorem map_block {w w' : World} {P : Program} {k : TypeId} {R : Value → Option (DataW Unit × List MemPlace)} {b n : Nat} {D : DataW Unit} (h : w.ownsMap P k R b n D) (hb : w'.heap[b]? = w.heap[b]?) : w'.ownsMap P k R b n D := by
  unfold World.ownsMap at h ⊢
  rw [hb]
  exact h
theorem put_same {D : DataW Unit} (hD : IsMap D) (s : List UInt8) (d z : DataW Unit) : (D.put (.string s) d).atKey (.string s) z = d := atKey_put_same (k := .string s) hD trivial d z
/-- The map in block mb tells how often each name has come among l. -/
def CntAt (w : World) (mb n : Nat) (l : Flds) : Prop :=
  ∃ D : DataW Unit, w.ownsMap Try.prog 9 (plainElem Try.prog 3) mb n D ∧ ∀ key, D.atKey (.string key) (.lit (.int .i64 0)) = .lit (.int .i64 (lowCnt l key))
theorem CntAt.block {w w' : World} {mb n : Nat} {l : Flds} (h : CntAt w mb n l) (hb : w'.heap[mb]? = w.heap[mb]?) : CntAt w' mb n l := by
  obtain ⟨D, h1, h2⟩ := h
  exact ⟨D, map_block h1 hb, h2⟩
theorem CntAt.lt {w : World} {mb n : Nat} {l : Flds} (h : CntAt w mb n l) : mb < w.heap.size := by
  obtain ⟨D, h1, h2⟩ := h
  exact h1.lt

theorem canTo_le (l : Flds) (k : Nat) (h : k ≤ l.length) : (canTo l k).length ≤ (canF l).length := by
  obtain ⟨e, he⟩ := canTo_pre l k (l.length - k) (by omega)
  rw [show k + (l.length - k) = l.length by omega] at he
  rw [canF, he, List.length_append]
  omega

set_option maxRecDepth 100000 in
set_option maxHeartbeats 6400000 in
theorem fields_any (w : World) (x : Option Addr) (n c : Nat) (l : Flds) (h : FldsAt w x n l) (hnc : n ≤ c) (hfew : n ≤ 2000) (hsm : ∀ p ∈ l, p.1.size ≤ 140737488355328) (hlen : (canF l).length < 60000) (hsum : SumLe l 1000000000) :
    Calls Try.prog 46 #[.slice x n c] w (FldsPost w (canF l)) := by
  have hmm := @run_makeMap Try.prog
  have hl := h.len
  subst hl
  have HA := Lib.hid h
  have HS := Lib.hid hsum
  have HSM := Lib.hid hsm
  have HLE := Lib.hid hlen
  clear h hsum hsm hlen
  go_enter Try.func46, Try.ntmps46
  go_wp2_with fail
  clear hmm
  go_loopg [16] l.length (fun gg s16 wr => ∃ k : Nat, k ≤ l.length ∧ l.length - k ≤ gg ∧ s16 = .int .i64 k ∧ (∃ v, Hid (OutAt wr (w.heap.size + 2) w.heap.size v (canTo l k))) ∧ Hid (CntAt wr (w.heap.size + 1) k (l.take k)) ∧ Hid (Below w.heap.size w wr))
  case atStart =>
    refine ⟨0, Nat.zero_le _, by omega, rfl, ⟨.slice none 0 0, ⟨(Blk.new w 22 #[.slice none 0 0]).alloc _, World.ownsRow_nil _ _ _ _⟩⟩, ?_, (below_new _ _).alloc (by simp) _⟩
    have := World.ownsMap_made (H := Unit) (w.alloc (.cells #[.slice none 0 0] 22)) Try.prog 9 (plainElem Try.prog 3)
    rw [World.size_alloc] at this
    exact ⟨_, this, fun key => rfl⟩
  case round =>
    obtain ⟨wa, rfl⟩ : ∃ wa, wa = wr := ⟨_, rfl⟩
    obtain ⟨k, hk, hgk, rfl, ⟨v, hout⟩, hcnt, hbel⟩ := hrel
    by_cases hkl : k < l.length
    · obtain ⟨b, o, f, rfl, hl2, hf, hc1, hc2, hs1, hs2⟩ := (HA.out.below hbel.out).get k hkl
      have hsm1 := HSM.out f (by rw [hf]; exact List.getElem_mem hl2)
      obtain ⟨f1, f2⟩ := f
      simp only at hc1 hc2 hs1 hs2 hsm1
      have HF := Lib.hid hf
      have hz0 := hcnt.out.lt
      have hlo1 : (lowS f1).size ≤ maxLen := by unfold maxLen; rw [lowS_size]; omega
      have hkey := Go.WideMaps.keyOf_string_mk (P := Try.prog) Try.underlying9 hlo1
      clear hf hlo1
      go_wp2_with fail
      refine (lowerS_any f1 _ (by omega)).mono ?_
      rintro e w2 ⟨rfl, hb2⟩
      have B2 := Lib.hid ((below_new wa _).trans (hb2.mono (by simp)))
      have BX : Hid (Blk w2 wa.heap.size 31 #[.string f1, .string f2]) := Blk.below (Blk.new wa 31 #[.string f1, .string f2]) hb2 (by simp)
      have hzw : wa.heap.size < w2.heap.size := BX.out.lt
      obtain ⟨D, hD, hat0⟩ := hcnt.out
      have hD2 := map_block hD (B2.out.block _ hz0)
      have hIM := hD2.isMap
      obtain ⟨q, hq⟩ : ∃ q, q = lowCnt (l.take k) (lowS f1).data.toList := ⟨_, rfl⟩
      have hat1 := hat0 (lowS f1).data.toList
      have hqk := lowCnt_le l (lowS f1).data.toList k
      rw [← hq] at hat1 hqk
      have hhit := lowCnt_hit (l.take k) f1
      rw [← hq] at hhit
      have HQ := Lib.hid hq
      have HAT := Lib.hid hat0
      have HHT := Lib.hid hhit
      have HF1 : Hid (l[k].1 = f1) := by show _ = _; rw [← HF.out]
      have hnew : ∀ key, (D.put (.string (lowS f1).data.toList) (.lit (.int .i64 ((q : Int) + 1)))).atKey (.string key) (.lit (.int .i64 0)) = .lit (.int .i64 (lowCnt (l.take (k + 1)) key)) := by
        intro key
        rw [lowCnt_take l key k hkl, HF1.out]
        by_cases e : (lowS f1).data.toList = key
        · rw [if_pos e, ← e, put_same hIM, ← HQ.out]
          congr 2
        · rw [if_neg e, atKey_put_other (fun h => e (by injection h with h; exact h.symm)), HAT.out key]
          rfl
      have HNW := Lib.hid hnew
      have HIM := Lib.hid hIM
      clear hb2 hD hq hat0 hhit hnew hIM
      have HZ : Hid (w.heap.size + 2 ≤ w2.heap.size) := by show _ ≤ _; omega
      by_cases hq0 : q = 0
      · have hd0 : decide ((1 : Int) < (q : Int) + 1) = false := by simp [hq0]
        have hd1 : ¬ (1 : Int) < (q : Int) + 1 := by simp [hq0]
        have hno : hitB f1 (l.take k) = false := by rw [HHT.out, hq0]; rfl
        have HNO := Lib.hid hno
        clear hno hq0
        go_wp2_with (first
          | (at_lookup; refine wpList_lookup_own_int _ rfl _ _ 95 rfl 9 3 .i64 key_str Try.underlying95 Try.underlying3 (zero_int _) (w.heap.size + 1) k _ rfl hD2 _ _ rfl hkey ?_; intro c1 hat2 hwc1; obtain rfl : c1 = (q : Int) := (by have h := hat2.symm.trans hat1; injection h with h; injection h); clear hat2 hwc1)
          | (at_mapUpdate; refine wpList_mapUpdate_own _ rfl _ _ _ 95 rfl 9 3 key_str Try.underlying95 _ (w.heap.size + 1) k _ rfl hD2 (by unfold maxLen; omega) _ _ _ rfl rfl hkey _ [] (plainElem_int Try.underlying3 (WalkArith.wf_i64 (by omega))) ?_; intro w3 hown3 hgrow3; have hat3 : (D.put (.string (lowS f1).data.toList) (.lit (.int .i64 ((q : Int) + 1)))).atKey (.string (lowS f1).data.toList) (.lit (.int .i64 0)) = .lit (.int .i64 ((q : Int) + 1)) := put_same HIM.out _ _ _; have HG3 := Lib.hid hgrow3; have HO3 := Lib.hid hown3; have BX3 : Hid (Blk w3 wa.heap.size 31 #[.string f1, .string f2]) := ((hgrow3.block wa.heap.size hzw (fun e => by injection e with e; omega)).trans BX.out); have cf3 := BX3.out.cell 0; clear hgrow3)
          | (at_lookup; refine wpList_lookup_own_int _ rfl _ _ 95 rfl 9 3 .i64 key_str Try.underlying95 Try.underlying3 (zero_int _) (w.heap.size + 1) (k + 1) _ rfl hown3 _ _ rfl hkey ?_; intro c1 hat2 hwc1; obtain rfl : c1 = (q : Int) + 1 := (by have h := hat2.symm.trans hat3; injection h with h; injection h); clear hat2 hwc1))
        clear hat3 hown3
        have B3 : Hid (Below w.heap.size w w3) := ((hbel.out.trans (B2.out.mono hbel.out.size)).grown HG3.out (by have := HZ.out; omega) (fun j e => by injection e with e; omega))
        refine (all_any w3 _ _ c l f1 hs1 (HA.out.below B3.out) (by omega)).mono ?_
        rintro e w4 ⟨va, rfl, ho4, hnil4, hb4⟩
        have HO4 := Lib.hid ho4
        have HB4 := Lib.hid hb4
        have HNL := Lib.hid hnil4
        have BX4 : Hid (Blk w4 wa.heap.size 31 #[.string f1, .string f2]) := BX3.out.below hb4 BX3.out.lt
        have cf4 := BX4.out.cell 0
        clear ho4 hb4 hnil4 cf3
        go_wp2_with fail
        refine (single_any f1 _ hs1).mono ?_
        rintro e w5 ⟨rfl, hb5⟩
        have HB5 := Lib.hid (grow_trans HB4.out hb5)
        have BX5 : Hid (Blk w5 wa.heap.size 31 #[.string f1, .string f2]) := BX4.out.below hb5 BX4.out.lt
        have HO5 := Lib.hid (own_below HO4.out hb5)
        have cf5 := BX5.out.cell 0
        clear hb5 cf4
        have hcnt3 : CntAt w3 (w.heap.size + 1) (k + 1) (l.take (k + 1)) := ⟨_, HO3.out, HNW.out⟩
        have hout3 : OutAt w3 (w.heap.size + 2) w.heap.size v (canTo l k) := by
          have h2 := hout.out.below ((below_new wa _).trans (Below.refl _ _) : Below wa.heap.size wa (wa.alloc (.cells #[.string f1, .string f2] 31)))
          have h3 : OutAt w2 (w.heap.size + 2) w.heap.size v (canTo l k) := hout.out.below B2.out
          have hlt3 := h3.1.lt
          refine ⟨(HG3.out.block _ hlt3 (by simp)).trans h3.1, h3.2.kept HG3.out (.inr ?_)⟩
          intro e
          have := h3.row _ e
          omega
        have hself : hitB f1 l = true := by
          unfold hitB
          rw [List.any_eq_true]
          exact ⟨l[k], List.getElem_mem hkl, by rw [HF1.out]; exact fold_self2 f1⟩
        have hpos : 0 < (allV l f1).length := List.length_pos_iff.2 (allV_hit_pos hself)
        obtain ⟨ga, capa, rfl, hga, hgl⟩ := HO5.out.form hpos
        have hrow : ∀ g, v.ownBlock = some g → w.heap.size + 2 ≤ g ∧ g < wa.heap.size := fun g hg => hout.out.row g hg
        have hcl : (canTo l k).length ≤ (canF l).length := canTo_le l k (by omega)
        have hcl2 := HLE.out
        have HSU := Lib.hid (HS.out f1)
        have hal : (allV l f1).length ≤ 2000 := Nat.le_trans (allV_le l f1) hfew
        have hb35 : Below w3.heap.size w3 w5 := HB5.out
        have hout5 : OutAt w5 (w.heap.size + 2) w.heap.size v (canTo l k) := hout3.below hb35
        have hcnt5 : CntAt w5 (w.heap.size + 1) (k + 1) (l.take (k + 1)) := hcnt3.block (hb35.block _ hcnt3.lt)
        have hsz5 := hb35.size
        have hsz3 : wa.heap.size < w3.heap.size := BX3.out.lt
        have hsz0 := hbel.out.size
        have OU5 := Lib.hid hout5
        have CN5 := Lib.hid hcnt5
        have HRW := Lib.hid hrow
        have B5 := Lib.hid (B3.out.trans (hb35.mono B3.out.size))
        have HSF := Lib.hid hself
        have HHO : Hid (canTo l (k + 1) = canTo l k ++ oneF l f1) := by
          show _ = _
          have := canTo_new hkl (by rw [HF1.out]; exact HNO.out)
          rwa [HF1.out] at this
        have hz5 : w.heap.size + 2 ≤ w5.heap.size := by have := HZ.out; omega
        have hwrz := HZ.out
        have hfb5 : wa.heap.size < w5.heap.size := by omega
        clear hcnt3 hout3 hout5 hcnt5 hrow hb35 hself
        cases hsg : singB f1
        · have HOE := Lib.hid (oneF_join (l := l) hsg)
          clear hsg
          go_wp2_with fail
          go_region_held3 (fun w' => w'.cell? ⟨wa.heap.size, 0, none⟩ = some (.string f1))
            (first | go_keep | exact (BX6.out.cell 0) | exact (BX7.out.cell 0))
            (first
              | (go_at_call 75; refine (ljoin_any _ w3.heap.size _ (allV l f1) (by exact HO5.out) (by have := HSU.out; omega)).mono ?_; rintro e w6 ⟨rfl, hb6⟩; have B6 : Hid (Below w5.heap.size w5 w6) := (⟨hb6.os, hb6.tape, hb6.output, hb6.size, hb6.block⟩ : Below w5.heap.size w5 w6); have BX6 : Hid (Blk w6 wa.heap.size 31 #[.string f1, .string f2]) := BX5.out.below B6.out BX5.out.lt; have OU6 := Lib.hid (OU5.out.below B6.out); clear hb6)
              | (go_at_call 86; refine (put_any _ (w.heap.size + 2) w.heap.size v (canTo l k) f1 (joinB (allV l f1)) (by exact OU6.out) (by omega) (by exact (Nat.le_trans hz5 B6.out.size)) hsm1 (by have := HSU.out; have := joinB_size (allV l f1); omega) (by omega)).mono ?_; rintro e w7 ⟨rfl, v7, ho7, hl7, hk7⟩; have HO7 := Lib.hid ho7; have HK7 := Lib.hid hk7; have BX7 : Hid (Blk w7 wa.heap.size 31 #[.string f1, .string f2]) := ((hk7.block wa.heap.size (Nat.lt_of_lt_of_le hfb5 B6.out.size) (by omega) (fun e => by have := HRW.out _ e.symm; omega)).trans BX6.out); clear ho7 hl7 hk7))
          have HCN : Hid (CntAt w7 (w.heap.size + 1) (k + 1) (l.take (k + 1))) := (CN5.out.block (B6.out.block _ CN5.out.lt)).block (HK7.out.block _ (Nat.lt_of_lt_of_le CN5.out.lt B6.out.size) (by omega) (fun e => by have := HRW.out _ e.symm; omega))
          have HBE : Hid (Below w.heap.size w w7) := B5.out.trans ((B6.out.mono (by omega)).trans (HK7.out.below (by have := B6.out.size; omega) (Nat.le_refl _) (fun g hg => by have := HRW.out _ hg; omega)))
          have HCT : Hid (canTo l (k + 1) = canTo l k ++ [(nameS f1, trimS (joinB (allV l f1)))]) := by show _ = _; rw [HHO.out, HOE.out]
          go_wp2_with fail
          go_roundg (l.length - (k + 1))
          case measure => omega
          case rel => exact ⟨k + 1, by omega, Nat.le_refl _, by go_num, ⟨v7, by rw [HCT.out]; exact HO7⟩, HCN.out, HBE.out⟩
        · have HOE := Lib.hid (oneF_sing (l := l) hsg)
          clear hsg
          go_wp2_with fail
          go_loopg [40] (allV l f1).length (fun gg s40 wr => ∃ (j : Nat) (v' : Value), j ≤ (allV l f1).length ∧ (allV l f1).length - j ≤ gg ∧ s40 = .int .i64 j ∧ Hid (OutAt wr (w.heap.size + 2) w.heap.size v' (canTo l k ++ ((allV l f1).take j).map (fun s => (nameS f1, trimS s)))) ∧ Hid (Loc v v' w5.heap.size) ∧ Hid (Kept w5 wr w.heap.size v.ownBlock))
          case atStart => exact ⟨0, v, Nat.zero_le _, by omega, rfl, (by show OutAt _ _ _ _ _; simpa using OU5.out), Loc.refl _ _, Kept.refl _ _ _⟩
          case round =>
            obtain ⟨j, v', hj, hgj, rfl, ho, hlc, hkp⟩ := hrel
            by_cases hjl : j < (allV l f1).length
            · obtain ⟨s, hs⟩ : ∃ s, s = (allV l f1)[j] := ⟨_, rfl⟩
              have hcs : wa.heap.size < w5.heap.size := hfb5
              have hca : wr.cell? ⟨ga, j, none⟩ = some (.string s) := by
                have h1 := hkp.out.block ga hgl (by omega) (fun e => by have := HRW.out _ e.symm; omega)
                refine (World.cell?_of_block (w := w5) (a := ⟨ga, j, none⟩) h1).trans ((HO5.out.cellAt j (by omega)).trans ?_)
                unfold strVals
                rw [List.getElem?_map, List.getElem?_eq_getElem hjl, ← hs]
                rfl
              have hcf : wr.cell? ⟨wa.heap.size, 0, none⟩ = some (.string f1) := by
                have h1 := hkp.out.block wa.heap.size hfb5 (by omega) (fun e => by have := HRW.out _ e.symm; omega)
                exact (World.cell?_of_block (w := w5) (a := ⟨wa.heap.size, 0, none⟩) h1).trans (BX5.out.cell 0)
              have hss : s.size ≤ 9223372036854775807 := by
                obtain ⟨p, hp, he⟩ := allV_mem (show s ∈ allV l f1 by rw [hs]; exact List.getElem_mem hjl)
                rw [← he]
                exact (HA.out.str p hp).2
              have hlen2 : (canTo l k ++ ((allV l f1).take j).map (fun s => (nameS f1, trimS s))).length < 100000 := by
                have h1 := congrArg List.length HHO.out
                rw [HOE.out, List.length_append, List.length_map] at h1
                have h2 := canTo_le l (k + 1) (by omega)
                rw [List.length_append, List.length_map, List.length_take]
                omega
              have htk : canTo l k ++ ((allV l f1).take (j + 1)).map (fun s => (nameS f1, trimS s)) = canTo l k ++ ((allV l f1).take j).map (fun s => (nameS f1, trimS s)) ++ [(nameS f1, trimS s)] := by
                rw [List.take_succ_eq_append_getElem hjl, List.map_append, ← hs, List.append_assoc]; rfl
              have HTK := Lib.hid htk
              have hzq := hkp.out.size
              have hzq2 : w.heap.size + 2 ≤ wr.heap.size := by omega
              have hput := put_any wr (w.heap.size + 2) w.heap.size v' _ f1 s ho.out (by omega) hzq2 hsm1 hss hlen2
              have HPU := Lib.hid hput
              clear hs htk hput hlen2
              go_wp2_with fail
              refine HPU.out.mono ?_
              rintro e w8 ⟨rfl, v8, ho8, hl8, hk8⟩
              have HO8 : Hid (OutAt w8 (w.heap.size + 2) w.heap.size v8 (canTo l k ++ ((allV l f1).take (j + 1)).map (fun s => (nameS f1, trimS s)))) := by show OutAt _ _ _ _ _; rw [HTK.out]; exact ho8
              have HL8 := Lib.hid (hlc.out.trans hl8 hzq)
              have HK8 := Lib.hid (hkp.out.trans hk8 hlc.out)
              clear ho8 hl8 hk8
              go_wp2_with fail
              go_roundg ((allV l f1).length - (j + 1))
              case measure => omega
              case rel => exact ⟨j + 1, v8, by omega, Nat.le_refl _, by go_num, HO8.out, HL8.out, HK8.out⟩
            · obtain rfl : (allV l f1).length = j := by omega
              have HCN : Hid (CntAt wr (w.heap.size + 1) (k + 1) (l.take (k + 1))) := CN5.out.block (hkp.out.block _ CN5.out.lt (by omega) (fun e => by have := HRW.out _ e.symm; omega))
              have HBE : Hid (Below w.heap.size w wr) := B5.out.trans (hkp.out.below (by omega) (Nat.le_refl _) (fun g hg => by have := HRW.out _ hg; omega))
              have HOF : Hid (OutAt wr (w.heap.size + 2) w.heap.size v' (canTo l (k + 1))) := by
                show OutAt _ _ _ _ _
                have := ho.out
                rw [List.take_length] at this
                rw [HHO.out, HOE.out]
                exact this
              go_wp2_with fail
              go_roundg (l.length - (k + 1))
              case measure => omega
              case rel => exact ⟨k + 1, by omega, Nat.le_refl _, by go_num, ⟨v', HOF⟩, HCN.out, HBE.out⟩
      · have hd0 : decide ((1 : Int) < (q : Int) + 1) = true := by simp; omega
        have hyes : hitB f1 (l.take k) = true := by rw [HHT.out]; simp; omega
        have HYS := Lib.hid hyes
        clear hyes
        go_wp2_with (first
          | (at_lookup; refine wpList_lookup_own_int _ rfl _ _ 95 rfl 9 3 .i64 key_str Try.underlying95 Try.underlying3 (zero_int _) (w.heap.size + 1) k _ rfl hD2 _ _ rfl hkey ?_; intro c1 hat2 hwc1; obtain rfl : c1 = (q : Int) := (by have h := hat2.symm.trans hat1; injection h with h; injection h); clear hat2 hwc1)
          | (at_mapUpdate; refine wpList_mapUpdate_own _ rfl _ _ _ 95 rfl 9 3 key_str Try.underlying95 _ (w.heap.size + 1) k _ rfl hD2 (by unfold maxLen; omega) _ _ _ rfl rfl hkey _ [] (plainElem_int Try.underlying3 (WalkArith.wf_i64 (by omega))) ?_; intro w3 hown3 hgrow3; have hat3 : (D.put (.string (lowS f1).data.toList) (.lit (.int .i64 ((q : Int) + 1)))).atKey (.string (lowS f1).data.toList) (.lit (.int .i64 0)) = .lit (.int .i64 ((q : Int) + 1)) := put_same HIM.out _ _ _; have HG3 := Lib.hid hgrow3; have HO3 := Lib.hid hown3; have BX3 : Hid (Blk w3 wa.heap.size 31 #[.string f1, .string f2]) := ((hgrow3.block wa.heap.size hzw (fun e => by injection e with e; omega)).trans BX.out); have cf3 := BX3.out.cell 0; clear hgrow3)
          | (at_lookup; refine wpList_lookup_own_int _ rfl _ _ 95 rfl 9 3 .i64 key_str Try.underlying95 Try.underlying3 (zero_int _) (w.heap.size + 1) (k + 1) _ rfl hown3 _ _ rfl hkey ?_; intro c1 hat2 hwc1; obtain rfl : c1 = (q : Int) + 1 := (by have h := hat2.symm.trans hat3; injection h with h; injection h); clear hat2 hwc1))
        have B3 : Hid (Below w.heap.size w w3) := ((hbel.out.trans (B2.out.mono hbel.out.size)).grown HG3.out (by have := HZ.out; omega) (fun j e => by injection e with e; omega))
        have hcnt3 : CntAt w3 (w.heap.size + 1) (k + 1) (l.take (k + 1)) := ⟨_, HO3.out, HNW.out⟩
        have hout3 : OutAt w3 (w.heap.size + 2) w.heap.size v (canTo l k) := by
          have h3 : OutAt w2 (w.heap.size + 2) w.heap.size v (canTo l k) := hout.out.below B2.out
          have hlt3 := h3.1.lt
          refine ⟨(HG3.out.block _ hlt3 (by simp)).trans h3.1, h3.2.kept HG3.out (.inr ?_)⟩
          intro e
          have := h3.row _ e
          omega
        have HCN := Lib.hid hcnt3
        have HOU := Lib.hid hout3
        have HCT : Hid (canTo l (k + 1) = canTo l k) := by show _ = _; exact canTo_hit hkl (by rw [HF1.out]; exact HYS.out)
        clear hat3 hown3 hcnt3 hout3
        go_roundg (l.length - (k + 1))
        case measure => omega
        case rel => exact ⟨k + 1, by omega, Nat.le_refl _, by go_num, ⟨v, by rw [HCT.out]; exact HOU⟩, HCN.out, B3.out⟩
    · obtain rfl : l.length = k := by omega
      have hc0 := hout.out.1.cell 0
      go_wp2_with fail
      go_ret
      exact ⟨_, rfl, own_mono hout.out.2 (by omega), hbel.out⟩
end Go.Proofs.Ytdpohibgipkhnaa
namespace Go.Proofs.Ytdpohibgipkhnaa
open Go.ChangeShapes Go.WideShapes Go.Deep Go.RowKit

theorem fields_of_field : ∃ f0 f1, Try.prog.underlying 31 = some (.struct #[f0, f1]) ∧ oneCellFields Try.prog #[f0, f1] = true ∧ f0.type = 9 ∧ f1.type = 9 := ⟨_, _, Try.underlying31, by kernel_rfl, rfl, rfl⟩
section
variable {H : Type} {enc : TypeId × Value → H} {w : World} {base : Nat} {spare : Nat → Bool} {held : Bool}

set_option maxRecDepth 100000 in
theorem flds_open {x : Option Addr} {len cap : Nat} {d : DataW H} {ps : List MemPlace} (h : ∃ fuel, DataW.trod enc Try.prog w base spare held fuel 22 (Value.slice x len cap).cells.toList = some (d, ps)) : ∃ l, FldsAt w x len l := by
  obtain ⟨fuel, hf⟩ := h
  obtain ⟨f0, f1, hu, hone, t0, t1⟩ := fields_of_field
  rcases open_slice_fields Try.underlying22 hu hone (by kernel_rfl) hf with ⟨hcs, _⟩ | ⟨a, l, c, m, D, Pl, hcs, _, hl, hm, hmm, _, hi⟩
  · simp [Value.cells] at hcs
    obtain ⟨rfl, rfl, rfl⟩ := hcs
    exact ⟨[], rfl, by omega, by simp, .inl rfl⟩
  · simp [Value.cells] at hcs
    obtain ⟨rfl, rfl, rfl⟩ := hcs
    have hlm : len ≤ m := by rw [hmm]; split <;> omega
    have each : ∀ i, i < len → ∃ p : ByteArray × ByteArray, w.cell? (a.add (i * 2)) = some (.string p.1) ∧ w.cell? (a.add (i * 2 + 1)) = some (.string p.2) ∧ p.1.size ≤ maxLen ∧ p.2.size ≤ maxLen := by
      intro i hil
      obtain ⟨ys, n, _, _, _, hfs⟩ := hi i (by omega)
      obtain ⟨v0, y0, hc0, _, ht0⟩ := hfs 0 f0 rfl
      obtain ⟨v1, y1, hc1, _, ht1⟩ := hfs 1 f1 rfl
      rw [t0] at ht0
      rw [t1] at ht1
      obtain ⟨s0, e0, _, z0⟩ := DataW.trod_string Try.underlying9 ht0
      obtain ⟨s1, e1, _, z1⟩ := DataW.trod_string Try.underlying9 ht1
      simp at e0 e1
      subst e0 e1
      exact ⟨(s0, s1), hc0, hc1, z0, z1⟩
    obtain ⟨L, hL, hp⟩ := list_of_each len each
    refine ⟨L, hL, by unfold maxLen at hm; omega, fun p hpm => ?_, ?_⟩
    · obtain ⟨j, hj, rfl⟩ := List.mem_iff_getElem.1 hpm
      obtain ⟨_, _, z0, z1⟩ := hp j hj
      unfold maxLen at z0 z1
      exact ⟨by omega, by omega⟩
    · by_cases h0 : len = 0
      · exact .inl h0
      · have c0 := (hp 0 (by omega)).1
        have hsp := add_spot c0
        obtain ⟨b, o, spot⟩ := a
        simp only at hsp
        subst hsp
        refine .inr ⟨b, o, rfl, by have := World.block_lt_of_cell? w _ c0; simpa [Addr.add] using this, fun i hi2 => ?_⟩
        obtain ⟨h1, h2, _, _⟩ := hp i hi2
        rw [Addr.add_lit] at h1 h2
        exact ⟨h1, h2⟩
end
end Go.Proofs.Ytdpohibgipkhnaa
namespace Go.Proofs.Ytdpohibgipkhnaa
open Go.ChangeShapes Go.WideShapes Go.ChangeAt Go.Deep Go.RowKit
section
variable {H : Type} {enc : TypeId × Value → H} {w : World} {base : Nat} {spare : Nat → Bool} {held : Bool}
set_option maxRecDepth 100000 in
theorem fldc_open {x : Option Addr} {len cap : Nat} {d : DataW H} {ps : List MemPlace} (h : ∃ fuel, DataW.trod enc Try.prog w base spare held fuel 22 (Value.slice x len cap).cells.toList = some (d, ps)) : ∃ l, FldsAt w x len l ∧ len ≤ cap := by
  obtain ⟨l, hl⟩ := flds_open h
  refine ⟨l, hl, ?_⟩
  obtain ⟨fuel, hf⟩ := h
  obtain ⟨f0, f1, hu, hone, t0, t1⟩ := fields_of_field
  rcases open_slice_fields Try.underlying22 hu hone (by kernel_rfl) hf with ⟨hcs, _⟩ | ⟨a, l, c, m, D, Pl, hcs, _, hl, hm, hmm, _, hi⟩
  · simp [Value.cells] at hcs
    obtain ⟨rfl, rfl, rfl⟩ := hcs
    exact Nat.le_refl _
  · simp [Value.cells] at hcs
    obtain ⟨rfl, rfl, rfl⟩ := hcs
    exact hl
end
theorem list2f {l : List Value} (h : l.length = 2) : ∃ a b, l = [a, b] := by
  match l, h with
  | [a, b], _ => exact ⟨a, b, rfl⟩
theorem cells_strf : Try.prog.cellsOf 9 = 1 := by kernel_rfl
theorem cells_fld : Try.prog.cellsOf 31 = 2 := by kernel_rfl
section
variable {H : Type} {enc : TypeId × Value → H} {w : World} {base : Nat} {spare : Nat → Bool} {held : Bool} {r : Reach} {b0 : Nat} {v : Value} {d : DataW H} {p : List MemPlace}
set_option maxRecDepth 100000 in
/-- A field by value. -/
theorem open_fld (hv : Value.okWide Try.prog w r b0 31 v) (h : DataW.Trod enc Try.prog w base spare held 31 v d p) : ∃ s t : ByteArray, v = .agg #[.string s, .string t] ∧ s.size ≤ maxLen ∧ t.size ≤ maxLen := by
  obtain ⟨cs, rfl, hsz⟩ := okWide_struct Try.underlying31 hv
  obtain ⟨l⟩ := cs
  obtain ⟨fuel, hf⟩ := h
  obtain ⟨xs, n, _, hx, _, hlen, hg⟩ := DataW.trod_struct Try.underlying31 hf
  obtain ⟨a, b, rfl⟩ := list2f (show l.length = 2 from hsz.trans cells_fld)
  have h0 : DataW.trod enc Try.prog w base spare held n 9 (List.take (Try.prog.cellsOf 9) (List.drop 0 [a, b])) = xs[0]? := hg 0 _ rfl
  have h1 : DataW.trod enc Try.prog w base spare held n 9 (List.take (Try.prog.cellsOf 9) (List.drop 1 [a, b])) = xs[1]? := hg 1 _ rfl
  rw [cells_strf] at h0 h1
  have x0 : 0 < xs.length := by rw [hlen]; decide
  have x1 : 1 < xs.length := by rw [hlen]; decide
  rw [List.getElem?_eq_getElem x0] at h0
  rw [List.getElem?_eq_getElem x1] at h1
  obtain ⟨c, e0, _, z0⟩ := DataW.trod_string Try.underlying9 h0
  obtain ⟨o, e1, _, z1⟩ := DataW.trod_string Try.underlying9 h1
  simp at e0 e1
  exact ⟨c, o, by rw [e0, e1], z0, z1⟩
end
end Go.Proofs.Ytdpohibgipkhnaa
namespace Go.Proofs.Ytdpohibgipkhnaa
open Go.RowKit Go.Sort Go.Proofs.Ytdpohibgipkhnaa.Oct

theorem FldsPost.flds {w w' : World} {l : Flds} {v : Value} (ho : w'.ownsRow w.heap.size 31 2 v l.length (fldVals l)) (hn : l.length ≤ 65536) (hs : ∀ p ∈ l, p.1.size ≤ 9223372036854775807 ∧ p.2.size ≤ 9223372036854775807) : ∃ x c, v = .slice x l.length c ∧ l.length ≤ c ∧ FldsAt w' x l.length l := own_flds ho hn hs
def lvC : Flds := [(⟨#[97]⟩, ⟨#[49]⟩), (⟨#[66]⟩, ⟨#[50]⟩), (⟨#[65]⟩, ⟨#[51]⟩)]
def lvD : Flds := [(⟨#[65]⟩, ⟨#[49, 44, 32, 51]⟩), (⟨#[66]⟩, ⟨#[50]⟩)]
theorem lvC_can : canF lvC = lvD := by decide +kernel
theorem lvC_name : nameS ⟨#[99, 111, 110, 116, 101, 110, 116, 45, 108, 101, 110, 103, 116, 104]⟩ = ⟨#[67, 111, 110, 116, 101, 110, 116, 45, 76, 101, 110, 103, 116, 104]⟩ := by decide +kernel
theorem lvC_sum : SumLe lvC 1000000000 := SumLe.of (a := 3) (b := 1) (by decide) (by decide) (by decide)

set_option maxRecDepth 100000 in
set_option maxHeartbeats 1600000 in
theorem clives_any (w : World) : Calls Try.prog 45 #[] w fun e w' => e = .returned (.bool true) ∧ Below w.heap.size w w' := by
  have hfl := flds_lit w lvC (by decide) (by decide)
  have HC := Lib.hid (fields_any _ _ 3 3 lvC hfl (by omega) (by omega) (by decide) (by rw [lvC_can]; decide) lvC_sum)
  have HN := Lib.hid lvC_name
  clear hfl
  go_enter Try.func45, Try.ntmps45
  go_wp2_with fail
  refine HC.out.mono ?_
  rintro e w1 ⟨v1, rfl, ho1, hb1⟩
  rw [lvC_can] at ho1
  obtain ⟨x1, c1, rfl, hc1, hF1⟩ := own_flds ho1 (by decide) (by decide)
  have HB1 := Lib.hid ((below_new w (.cells (fldVals lvC).toArray 31)).trans (hb1.mono (by simp)))
  have F1 := Lib.hid hF1
  clear hb1 ho1 hF1 hc1
  go_wp2_with fail
  refine (name_any _ _ (by decide)).mono ?_
  rintro e w2 ⟨rfl, hb2⟩
  rw [HN.out]
  have HB2 := Lib.hid (grow_trans HB1.out hb2)
  have F2 := Lib.hid ((F1.out.below hb2).below (below_new w2 (.cells (fldVals lvD).toArray 31)))
  have HD := Lib.hid (flds_lit w2 lvD (by decide) (by decide))
  clear hb2
  go_wp2_with fail
  refine (rsamef_any _ _ 2 _ 2 2 lvD lvD _ F2.out HD.out).mono ?_
  rintro e w3 ⟨rfl, hd⟩
  have HB3 := Lib.hid ((grow_trans HB2.out (below_new w2 (.cells (fldVals lvD).toArray 31))).trans (hd.below _))
  rw [show decide (lvD = lvD) = true from decide_eq_true rfl]
  clear hd
  go_wp2_with fail
  go_ret
  exact ⟨rfl, HB3.out⟩

set_option maxRecDepth 100000 in
set_option maxHeartbeats 3200000 in
theorem cnames_any (s : ByteArray) (w : World) (hs : s.size ≤ 9223372036854775807) : Calls Try.prog 8 #[.string s] w fun e w' => e = .returned (.bool true) ∧ Below w.heap.size w w' := by
  by_cases h3 : s.size ≤ 300
  · have hmin : min (s.size : Int) 300 = (s.size : Int) := by omega
    go_enter Try.func8, Try.ntmps8
    go_wp2_with fail
    obtain ⟨T, hT⟩ : ∃ T, T = s := ⟨_, rfl⟩
    have hT3 : T.size ≤ 300 := by rw [hT]; exact h3
    rw [← hT]
    clear hT h3 hmin
    refine (name_any T _ (by omega)).mono ?_
    rintro e w1 ⟨rfl, hb1⟩
    have HB1 := Lib.hid hb1
    clear hb1
    have hz : (nameS T).size ≤ 300 := by rw [nameS_size]; exact hT3
    have HF := Lib.hid (nameS_fold T)
    have HI := Lib.hid (nameS_idem T)
    go_wp2_with fail
    refine (rname_any T _ (by omega)).mono ?_
    rintro e w2 ⟨rfl, hb2⟩
    have HB2 := Lib.hid (grow_trans HB1.out hb2)
    clear hb2
    go_wp2_with fail
    refine (single_any T _ (by omega)).mono ?_
    rintro e w3 ⟨rfl, hb3⟩
    have HB3 := Lib.hid (grow_trans HB2.out hb3)
    clear hb3
    go_wp2_with fail
    refine (rsingle_any T _ (by omega)).mono ?_
    rintro e w4 ⟨rfl, hb4⟩
    have HB4 := Lib.hid (grow_trans HB3.out hb4)
    clear hb4
    go_wp2_with fail
    refine (name_any (nameS T) _ (by omega)).mono ?_
    rintro e w5 ⟨rfl, hb5⟩
    rw [HI.out]
    have HB5 := Lib.hid (grow_trans HB4.out hb5)
    clear hb5
    go_wp2_with fail
    refine (fold_any (nameS T) T _ (by omega) (by omega)).mono ?_
    rintro e w6 ⟨rfl, hd6⟩
    rw [HF.out]
    have HB6 := Lib.hid (grow_trans HB5.out hd6.grow)
    clear hd6
    go_wp2_with fail
    refine (clives_any _).mono ?_
    rintro e w7 ⟨rfl, hb7⟩
    have HB7 := Lib.hid (grow_trans HB6.out hb7)
    clear hb7
    go_wp2_with fail
    go_ret
    exact ⟨rfl, HB7.out⟩
  · have hmin : min (s.size : Int) 300 = 300 := by omega
    have h300 : (300 : Int) ≤ (s.size : Int) := by omega
    have hT4 : (s.extract 0 300).size ≤ 300 := by simp; omega
    have HT4 := Lib.hid hT4
    clear hT4
    go_enter Try.func8, Try.ntmps8
    go_wp2_with fail
    obtain ⟨T, hT⟩ : ∃ T, T = s.extract 0 300 := ⟨_, rfl⟩
    have hT3 : T.size ≤ 300 := by rw [hT]; exact HT4.out
    rw [← hT]
    clear hT h3 hmin HT4 h300
    refine (name_any T _ (by omega)).mono ?_
    rintro e w1 ⟨rfl, hb1⟩
    have HB1 := Lib.hid hb1
    clear hb1
    have hz : (nameS T).size ≤ 300 := by rw [nameS_size]; exact hT3
    have HF := Lib.hid (nameS_fold T)
    have HI := Lib.hid (nameS_idem T)
    go_wp2_with fail
    refine (rname_any T _ (by omega)).mono ?_
    rintro e w2 ⟨rfl, hb2⟩
    have HB2 := Lib.hid (grow_trans HB1.out hb2)
    clear hb2
    go_wp2_with fail
    refine (single_any T _ (by omega)).mono ?_
    rintro e w3 ⟨rfl, hb3⟩
    have HB3 := Lib.hid (grow_trans HB2.out hb3)
    clear hb3
    go_wp2_with fail
    refine (rsingle_any T _ (by omega)).mono ?_
    rintro e w4 ⟨rfl, hb4⟩
    have HB4 := Lib.hid (grow_trans HB3.out hb4)
    clear hb4
    go_wp2_with fail
    refine (name_any (nameS T) _ (by omega)).mono ?_
    rintro e w5 ⟨rfl, hb5⟩
    rw [HI.out]
    have HB5 := Lib.hid (grow_trans HB4.out hb5)
    clear hb5
    go_wp2_with fail
    refine (fold_any (nameS T) T _ (by omega) (by omega)).mono ?_
    rintro e w6 ⟨rfl, hd6⟩
    rw [HF.out]
    have HB6 := Lib.hid (grow_trans HB5.out hd6.grow)
    clear hd6
    go_wp2_with fail
    refine (clives_any _).mono ?_
    rintro e w7 ⟨rfl, hb7⟩
    have HB7 := Lib.hid (grow_trans HB6.out hb7)
    clear hb7
    go_wp2_with fail
    go_ret
    exact ⟨rfl, HB7.out⟩
end Go.Proofs.Ytdpohibgipkhnaa
namespace Go.Proofs.Ytdpohibgipkhnaa
open Go.RowKit Go.Proofs.Ytdpohibgipkhnaa.St

abbrev ElF := ByteArray × ByteArray
def elVF (l : List ElF) : List Value := l.flatMap fun p => [.string p.1, .string p.2]
theorem elVF_cons (p : ElF) (l : List ElF) : elVF (p :: l) = .string p.1 :: .string p.2 :: elVF l := rfl
theorem elVF_length (l : List ElF) : (elVF l).length = l.length * 2 := by
  induction l with
  | nil => rfl
  | cons p l ih => rw [elVF_cons]; simp only [List.length_cons, ih]; omega
theorem elVF_append (l m : List ElF) : elVF (l ++ m) = elVF l ++ elVF m := by simp [elVF]
theorem elVF_x (l : List ElF) : ∀ (i : Nat) (p : ElF), l[i]? = some p → (elVF l)[i * 2]? = some (.string p.1) ∧ (elVF l)[i * 2 + 1]? = some (.string p.2) := by
  induction l with
  | nil => intro i p h; simp at h
  | cons q l ih =>
    intro i p h
    cases i with
    | zero => simp at h; subst h; exact ⟨rfl, rfl⟩
    | succ i =>
      rw [elVF_cons, show (i + 1) * 2 = i * 2 + 1 + 1 by omega]
      rw [List.getElem?_cons_succ] at h
      exact ih i p h
theorem elVF_set (x : ByteArray) (y : ByteArray) (l : List ElF) : ∀ i, i < l.length → ((elVF l).set (i * 2) (.string x)).set (i * 2 + 1) (.string y) = elVF (l.set i (x, y)) := by
  induction l with
  | nil => intro i h; simp at h
  | cons p l ih =>
    intro i h
    cases i with
    | zero => rfl
    | succ i =>
      rw [elVF_cons, show (i + 1) * 2 = i * 2 + 1 + 1 by omega, List.set_cons_succ, List.set_cons_succ, List.set_cons_succ, List.set_cons_succ, ih i (by simpa using h)]
      rfl

/-- The row l lies at block g's head; behind it rest. -/
def DatF (w : World) (g : Nat) (l : List ElF) (rest : List Value) : Prop := Blk w g 31 (elVF l ++ rest).toArray
section
variable {w w' : World} {g : Nat} {l : List ElF} {rest : List Value}
theorem DatF.lt (h : DatF w g l rest) : g < w.heap.size := Blk.lt h
theorem DatF.at_ (h : DatF w g l rest) (i : Nat) (p : ElF) (hp : l[i]? = some p) : w.cell? ⟨g, i * 2, none⟩ = some (.string p.1) ∧ w.cell? ⟨g, i * 2 + 1, none⟩ = some (.string p.2) := by
  have hi : i < l.length := (List.getElem?_eq_some_iff.1 hp).1
  have h2 := elVF_x l i p hp
  have hl := elVF_length l
  refine ⟨(Blk.cell h _).trans ?_, (Blk.cell h _).trans ?_⟩
  · rw [List.getElem?_toArray, List.getElem?_append_left (by omega)]; exact h2.1
  · rw [List.getElem?_toArray, List.getElem?_append_left (by omega)]; exact h2.2
theorem DatF.free (h : DatF w g l rest) (i : Nat) : w.frozen? ⟨g, i, none⟩ = false := Blk.frozen h i
theorem DatF.set_ (h : DatF w g l rest) (i : Nat) (hi : i < l.length) (x : ByteArray) (y : ByteArray) :
    DatF ((w.setCell ⟨g, i * 2, none⟩ (.string x)).setCell ⟨g, i * 2 + 1, none⟩ (.string y)) g (l.set i (x, y)) rest := by
  have h2 := (Blk.set_ h (i * 2) (.string x)).set_ (i * 2 + 1) (.string y)
  have hl := elVF_length l
  have e : (elVF (l.set i (x, y)) ++ rest) = (((elVF l ++ rest).set (i * 2) (.string x)).set (i * 2 + 1) (.string y)) := by
    rw [List.set_append_left _ _ (by omega), List.set_append_left _ _ (by rw [List.length_set]; omega), elVF_set x y l i hi]
  unfold DatF
  rw [e]
  simpa using h2
theorem DatF.keep {row : Option Nat} (h : DatF w g l rest) (hg : w.grownBy w' row) (hr : row ≠ some g) : DatF w' g l rest := (hg.block g (Blk.lt h) (fun e => hr e.symm)).trans h
theorem DatF.below (h : DatF w g l rest) (hb : Below w.heap.size w w') : DatF w' g l rest := (hb.block g (Blk.lt h)).trans h
end
theorem below_grownF {w w' : World} (hb : Below w.heap.size w w') (row : Option Nat) : w.grownBy w' row := ⟨hb.os, hb.tape, hb.output, hb.size, fun k hk _ => hb.block k hk⟩
theorem grown_setF {w : World} (g i : Nat) (u : Value) : w.grownBy (w.setCell ⟨g, i, none⟩ u) (some g) :=
  ⟨rfl, rfl, rfl, by simp, fun k _ hk => Below.heap_setCell w _ u k (fun e => hk (by rw [e]))⟩
theorem grown_drewNF {w w' : World} {row : Option Nat} (h : w.grownBy w' row) (n : Nat) : w.grownBy (w'.drewN n) row := ⟨h.os, h.tape, h.output, h.size, h.block⟩
theorem swap_atF {α : Type} (p q r : List α) (x y : α) : (p ++ x :: q ++ y :: r)[p.length]? = some x ∧ (p ++ x :: q ++ y :: r)[p.length + 1 + q.length]? = some y := by
  constructor
  · simp
  · rw [List.getElem?_append_right (by simp; omega)]
    simp [show p.length + 1 + q.length - (p.length + (q.length + 1)) = 0 by omega]
theorem swap_setF {α : Type} (p q r : List α) (x y : α) : ((p ++ x :: q ++ y :: r).set p.length y).set (p.length + 1 + q.length) x = p ++ y :: q ++ x :: r := by
  have e1 : (p ++ x :: q ++ y :: r).set p.length y = p ++ y :: q ++ y :: r := by simp
  rw [e1, List.set_append_right _ _ (by simp; omega)]
  simp [show p.length + 1 + q.length - (p.length + (q.length + 1)) = 0 by omega]
theorem swap_set2F {α : Type} (p q r : List α) (x y : α) : ((p ++ x :: q ++ y :: r).set (p.length + 1 + q.length) x).set p.length y = p ++ y :: q ++ x :: r := by
  rw [← swap_setF p q r x y]
  exact List.set_comm _ _ (by omega)

set_option maxRecDepth 100000 in
set_option maxHeartbeats 1600000 in
theorem swaprF_any (q : Nat) (w : World) (g n c a b k : Nat) (Q X M Y S : List ElF) (rest : List Value) (h : DatF w g (Q ++ X ++ M ++ Y ++ S) rest) (hn : n = (Q ++ X ++ M ++ Y ++ S).length) (hbig : n ≤ 4611686018427387904)
    (ha : a = Q.length) (hb : b = Q.length + X.length + M.length) (hx : k = X.length) (hy : k = Y.length) :
    Calls Try.prog 163 #[.slice (some ⟨g, 0, none⟩) n c, .int .i64 a, .int .i64 b, .int .i64 k, .func (.func q) #[] #[]] w fun e w' => e = .returned (.tuple #[]) ∧ DatF w' g (Q ++ Y ++ M ++ X ++ S) rest ∧ w.grownBy w' (some g) := by
  have hsum : n = a + k + M.length + k + S.length := by simp at hn; omega
  have hbk : b = a + k + M.length := by omega
  have HS := Lib.hid hsum
  have HBK := Lib.hid hbk
  have HN := Lib.hid hn
  have HA := Lib.hid ha
  have HX := Lib.hid hx
  have HY := Lib.hid hy
  have HH := Lib.hid h
  clear hsum hbk hn ha hb hx hy h
  go_enter Try.func163, Try.ntmps163
  go_wp2
  go_loopg [10] k (fun gg s10 wr => ∃ i : Nat, i ≤ k ∧ k - i ≤ gg ∧ s10 = .int .i64 i ∧ Hid (DatF wr g (Q ++ (Y.take i ++ X.drop i) ++ M ++ (X.take i ++ Y.drop i) ++ S) rest) ∧ Hid (w.grownBy wr (some g)))
  case atStart => exact ⟨0, Nat.zero_le _, by omega, rfl, (by have := HH.out; simpa using this : DatF _ _ _ _), World.grownBy.refl _ _⟩
  case round =>
    obtain ⟨i, hi, hg, rfl, hd, hgr⟩ := hrel
    by_cases hlt : i < k
    · have hxl : i < X.length := by have := HX.out; omega
      have hyl : i < Y.length := by have := HY.out; omega
      have b1 : a + i < n := by have := HS.out; omega
      have b2 : b + i < n := by have := HS.out; have := HBK.out; omega
      have e0 : Q ++ (Y.take i ++ X.drop i) ++ M ++ (X.take i ++ Y.drop i) ++ S = (Q ++ Y.take i) ++ X[i] :: (X.drop (i + 1) ++ M ++ X.take i) ++ Y[i] :: (Y.drop (i + 1) ++ S) := by
        rw [List.drop_eq_getElem_cons hxl, List.drop_eq_getElem_cons hyl]; simp only [List.append_assoc, List.cons_append]
      have e1 : Q ++ (Y.take (i + 1) ++ X.drop (i + 1)) ++ M ++ (X.take (i + 1) ++ Y.drop (i + 1)) ++ S = (Q ++ Y.take i) ++ Y[i] :: (X.drop (i + 1) ++ M ++ X.take i) ++ X[i] :: (Y.drop (i + 1) ++ S) := by
        rw [List.take_succ_eq_append_getElem hxl, List.take_succ_eq_append_getElem hyl]; simp only [List.append_assoc, List.cons_append, List.nil_append]
      have l1 : (Q ++ Y.take i).length = a + i := by have := HA.out; simp; omega
      have l2 : (Q ++ Y.take i).length + 1 + (X.drop (i + 1) ++ M ++ X.take i).length = b + i := by have := HA.out; have := HX.out; have := HBK.out; simp; omega
      have hd2 := hd.out
      rw [e0] at hd2
      obtain ⟨p1, p2⟩ : ∃ p1 p2, p1 = X[i] ∧ p2 = Y[i] := ⟨_, _, rfl, rfl⟩
      obtain ⟨⟨x1, x2⟩, hp1⟩ : ∃ p, p = X[i] := ⟨_, rfl⟩
      obtain ⟨⟨y1, y2⟩, hp2⟩ : ∃ p, p = Y[i] := ⟨_, rfl⟩
      rw [← hp1, ← hp2] at hd2 e1
      have s1 := swap_atF (Q ++ Y.take i) (X.drop (i + 1) ++ M ++ X.take i) (Y.drop (i + 1) ++ S) (x1, x2) (y1, y2)
      rw [l2, l1] at s1
      have c1 := hd2.at_ _ _ s1.1
      have c2 := hd2.at_ _ _ s1.2
      have f1 := hd2.free ((a + i) * 2)
      have f2 := hd2.free ((a + i) * 2 + 1)
      have f3 := hd2.free ((b + i) * 2)
      have f4 := hd2.free ((b + i) * 2 + 1)
      obtain ⟨c11, c12⟩ := c1
      obtain ⟨c21, c22⟩ := c2
      simp only at c11 c12 c21 c22
      have SS := swap_setF (Q ++ Y.take i) (X.drop (i + 1) ++ M ++ X.take i) (Y.drop (i + 1) ++ S) (x1, x2) (y1, y2)
      have SS2 := swap_set2F (Q ++ Y.take i) (X.drop (i + 1) ++ M ++ X.take i) (Y.drop (i + 1) ++ S) (x1, x2) (y1, y2)
      rw [l2, l1, ← e1] at SS SS2
      have hl1 := (List.getElem?_eq_some_iff.1 s1.1).1
      have hl2 := (List.getElem?_eq_some_iff.1 s1.2).1
      have D1 := (hd2.set_ (a + i) hl1 y1 y2).set_ (b + i) (by rw [List.length_set]; exact hl2) x1 x2
      have D2 := (hd2.set_ (b + i) hl2 x1 x2).set_ (a + i) (by rw [List.length_set]; exact hl1) y1 y2
      rw [SS] at D1
      rw [SS2] at D2
      have hne : a + i ≠ b + i := by have := HBK.out; omega
      have HD1 := Lib.hid D1
      have HD2 := Lib.hid D2
      clear e0 e1 l1 l2 hd2 s1 SS SS2 hl1 hl2 D1 D2 hp1 hp2
      have b0 : b ≤ n := by omega
      have b3 : a ≤ n := by omega
      have b4 : i ≤ n := by omega
      have i1 : (0 : Int) ≤ (a : Int) + (i : Int) := by omega
      have i2 : (a : Int) + (i : Int) < (n : Int) := by omega
      have i3 : (0 : Int) ≤ (b : Int) + (i : Int) := by omega
      have i4 : (b : Int) + (i : Int) < (n : Int) := by omega
      have j1 : ((a : Int) + (i : Int)).toNat = a + i := by omega
      have j2 : ((b : Int) + (i : Int)).toNat = b + i := by omega
      have k1 : IntKind.i64.wrap ((a : Int) + (i : Int)) = (a : Int) + (i : Int) := IntWalk.i64_in _ (by omega)
      have k2 : IntKind.i64.wrap ((b : Int) + (i : Int)) = (b : Int) + (i : Int) := IntWalk.i64_in _ (by omega)
      go_wp2
      go_region
      have HG : Hid (w.grownBy ((((wr.setCell ⟨g, (a + i) * 2, none⟩ (.string y1)).setCell ⟨g, (a + i) * 2 + 1, none⟩ (.string y2)).setCell ⟨g, (b + i) * 2, none⟩ (.string x1)).setCell ⟨g, (b + i) * 2 + 1, none⟩ (.string x2)) (some g)) :=
        ((((hgr.out.trans (grown_setF _ _ _)).trans (grown_setF _ _ _)).trans (grown_setF _ _ _)).trans (grown_setF _ _ _))
      go_wp2
      go_roundg (k - (i + 1))
      case measure => omega
      case rel => exact ⟨i + 1, by omega, by omega, by go_num, HD1.out, grown_drewNF HG.out 1⟩
    · obtain rfl : i = k := by omega
      have hfin := hd.out
      have lx : X.length ≤ i := by have := HX.out; omega
      have ly : Y.length ≤ i := by have := HY.out; omega
      rw [List.drop_eq_nil_of_le lx, List.drop_eq_nil_of_le ly, List.take_of_length_le lx, List.take_of_length_le ly, List.append_nil, List.append_nil] at hfin
      have HF := Lib.hid hfin
      clear hfin
      go_wp2
      go_end0
      exact ⟨rfl, HF.out, hgr.out⟩
end Go.Proofs.Ytdpohibgipkhnaa
namespace Go.Proofs.Ytdpohibgipkhnaa
open Go.RowKit Go.Proofs.Ytdpohibgipkhnaa.St

set_option maxRecDepth 100000 in
set_option maxHeartbeats 1600000 in
theorem rotF_any (q : Nat) (w : World) (g n c a m b : Nat) (P A B R : List ElF) (rest : List Value) (h : DatF w g (P ++ A ++ B ++ R) rest) (hn : n = (P ++ A ++ B ++ R).length) (hbig : n ≤ 4611686018427387904)
    (ha : a = P.length) (hm : m = P.length + A.length) (hb : b = P.length + A.length + B.length) (hA : 1 ≤ A.length) (hB : 1 ≤ B.length) :
    Calls Try.prog 154 #[.slice (some ⟨g, 0, none⟩) n c, .int .i64 a, .int .i64 m, .int .i64 b, .func (.func q) #[] #[]] w fun e w' => e = .returned (.tuple #[]) ∧ DatF w' g (P ++ B ++ A ++ R) rest ∧ w.grownBy w' (some g) := by
  have hlen : n = P.length + A.length + B.length + R.length := by simp at hn; omega
  have h1 : a ≤ m := by omega
  have h2 : m ≤ b := by omega
  have h3 : b ≤ n := by omega
  have HL := Lib.hid hlen
  have HN := Lib.hid hn
  have HA := Lib.hid ha
  have HM := Lib.hid hm
  have HB := Lib.hid hb
  have HH := Lib.hid h
  have e1 : (m : Int) - (a : Int) = ((A.length : Nat) : Int) := by omega
  have e2 : (b : Int) - (m : Int) = ((B.length : Nat) : Int) := by omega
  clear hlen hn ha hm hb h
  go_enter Try.func154, Try.ntmps154
  go_wp2
  clear e1 e2
  go_loopg [10, 11] (A.length + B.length) (fun gg s10 s11 wr => ∃ D X Y E : List ElF, s10 = .int .i64 X.length ∧ s11 = .int .i64 Y.length ∧ X.length + Y.length ≤ gg ∧ 1 ≤ X.length ∧ 1 ≤ Y.length ∧ Hid (P.length + D.length + X.length = m) ∧ Hid (D ++ Y ++ X ++ E = B ++ A) ∧ Hid (DatF wr g (P ++ D ++ X ++ Y ++ E ++ R) rest) ∧ Hid (w.grownBy wr (some g)))
  case atStart => exact ⟨[], A, B, [], rfl, rfl, Nat.le_refl _, hA, hB, (by have := HM.out; show _ = _; simp; omega), (by show _ = _; simp), (by have := HH.out; simpa using this : DatF _ _ _ _), World.grownBy.refl _ _⟩
  case round =>
    obtain ⟨D, X, Y, E, rfl, rfl, hg, hx1, hy1, hm2, hperm, hd, hgr⟩ := hrel
    have hsum : X.length + Y.length + D.length + E.length = A.length + B.length := by have := congrArg List.length hperm.out; simp at this; omega
    have z1 : X.length ≤ m := by have := hm2.out; omega
    have z2 : m + Y.length ≤ n := by have := hm2.out; have := HL.out; have := HM.out; omega
    rcases Nat.lt_trichotomy X.length Y.length with hlt | heq | hgt
    · have hne : ((X.length : Int) != (Y.length : Int)) = true := by simp; omega
      have hcall := swaprF_any q wr g n c (m - X.length) (m + Y.length - X.length) X.length (P ++ D) X (Y.take (Y.length - X.length)) (Y.drop (Y.length - X.length)) (E ++ R) rest
        (by have := hd.out; rw [← List.take_append_drop (Y.length - X.length) Y] at this; simpa only [List.append_assoc] using this)
        (by have := HL.out; have := hm2.out; have := HM.out; simp; omega) hbig
        (by have := hm2.out; simp; omega) (by have := hm2.out; simp; omega) rfl (by simp; omega)
      have e1 : ((m - X.length : Nat) : Int) = (m : Int) - (X.length : Int) := by omega
      have e2 : ((m + Y.length - X.length : Nat) : Int) = (m : Int) + (Y.length : Int) - (X.length : Int) := by omega
      rw [e1, e2] at hcall
      have HC := Lib.hid hcall
      have hp2 : D ++ Y.take (Y.length - X.length) ++ Y.drop (Y.length - X.length) ++ (X ++ E) = B ++ A := by
        have := hperm.out
        rw [← List.take_append_drop (Y.length - X.length) Y] at this
        simpa only [List.append_assoc] using this
      have HP2 := Lib.hid hp2
      have l1 : (Y.length : Int) - (X.length : Int) = (((Y.length - X.length : Nat)) : Int) := by omega
      have l3 : (Y.drop (Y.length - X.length)).length = X.length := by simp; omega
      have l4 : (Y.take (Y.length - X.length)).length = Y.length - X.length := by simp
      have L1 := Lib.hid l1
      have L3 := Lib.hid l3
      have L4 := Lib.hid l4
      clear hcall e1 e2 l1 l3 l4 hp2
      go_wp2_with fail
      refine HC.out.mono ?_
      rintro e w1 ⟨rfl, hd1, hg1⟩
      have HD1 := Lib.hid hd1
      have HG1 := Lib.hid (hgr.out.trans hg1)
      clear hd1 hg1
      have L2 := L1.out
      go_wp2
      clear L2
      go_roundg (Y.length)
      case measure => omega
      case rel => exact ⟨D, Y.drop (Y.length - X.length), Y.take (Y.length - X.length), X ++ E, by rw [L3.out], by rw [L4.out], by rw [L3.out, L4.out]; omega, by rw [L3.out]; omega, by rw [L4.out]; omega, (by have := L3.out; have := hm2.out; show _ = _; omega), HP2.out, (by have := HD1.out; simpa only [List.append_assoc] using this : DatF _ _ _ _), HG1.out⟩
    · have hne : ((X.length : Int) != (Y.length : Int)) = false := by simp; omega
      have hcall := swaprF_any q wr g n c (m - X.length) m X.length (P ++ D) X [] Y (E ++ R) rest
        (by have := hd.out; simpa only [List.append_assoc, List.nil_append] using this)
        (by have := HL.out; have := hm2.out; have := HM.out; simp; omega) hbig
        (by have := hm2.out; simp; omega) (by have := hm2.out; simp; omega) rfl heq
      have e1 : ((m - X.length : Nat) : Int) = (m : Int) - (X.length : Int) := by omega
      rw [e1] at hcall
      have HC := Lib.hid hcall
      have HQ := Lib.hid heq
      clear hcall e1 heq
      go_wp2_with fail
      refine HC.out.mono ?_
      rintro e w1 ⟨rfl, hd1, hg1⟩
      have HD1 := Lib.hid hd1
      have HG1 := Lib.hid (hgr.out.trans hg1)
      clear hd1 hg1
      go_wp2
      go_end0
      refine ⟨rfl, ?_, HG1.out⟩
      have h5 := HD1.out
      have h6 := congrArg (fun l => P ++ l ++ R) hperm.out
      simp only [List.append_assoc, List.nil_append] at h5 h6 ⊢
      rw [← h6]
      exact h5
    · have hne : ((X.length : Int) != (Y.length : Int)) = true := by simp; omega
      have hcall := swaprF_any q wr g n c (m - X.length) m Y.length (P ++ D) (X.take Y.length) (X.drop Y.length) Y (E ++ R) rest
        (by have := hd.out; rw [← List.take_append_drop Y.length X] at this; simpa only [List.append_assoc] using this)
        (by have := HL.out; have := hm2.out; have := HM.out; simp; omega) hbig
        (by have := hm2.out; simp; omega) (by have := hm2.out; simp; omega) (by simp; omega) rfl
      have e1 : ((m - X.length : Nat) : Int) = (m : Int) - (X.length : Int) := by omega
      rw [e1] at hcall
      have HC := Lib.hid hcall
      have hp2 : (D ++ Y) ++ X.take Y.length ++ X.drop Y.length ++ E = B ++ A := by
        have := hperm.out
        rw [← List.take_append_drop Y.length X] at this
        simpa only [List.append_assoc] using this
      have HP2 := Lib.hid hp2
      have l1 : (X.length : Int) - (Y.length : Int) = (((X.length - Y.length : Nat)) : Int) := by omega
      have l3 : (X.drop Y.length).length = X.length - Y.length := by simp
      have l4 : (X.take Y.length).length = Y.length := by simp; omega
      have L1 := Lib.hid l1
      have L3 := Lib.hid l3
      have L4 := Lib.hid l4
      clear hcall e1 l1 l3 l4 hp2
      go_wp2_with fail
      refine HC.out.mono ?_
      rintro e w1 ⟨rfl, hd1, hg1⟩
      have HD1 := Lib.hid hd1
      have HG1 := Lib.hid (hgr.out.trans hg1)
      clear hd1 hg1
      have L2 := L1.out
      go_wp2
      clear L2
      go_roundg (X.length)
      case measure => omega
      case rel => exact ⟨D ++ Y, X.drop Y.length, X.take Y.length, E, by rw [L3.out], by rw [L4.out], by rw [L3.out, L4.out]; omega, by rw [L3.out]; omega, by rw [L4.out]; omega, (by have := L3.out; have := hm2.out; show _ = _; rw [List.length_append]; omega), HP2.out, (by have := HD1.out; simpa only [List.append_assoc] using this : DatF _ _ _ _), HG1.out⟩
end Go.Proofs.Ytdpohibgipkhnaa
namespace Go.Proofs.Ytdpohibgipkhnaa
open Go.RowKit Go.Sort Go.Proofs.Ytdpohibgipkhnaa.St

/-- What compares two elements. -/
structure CmpF (q : Nat) (cmp : ElF → ElF → Int) : Prop where
  enter : ∀ args w, (callFunc q args).run Try.prog w = .ok (.enter q args) w
  call : ∀ (x1 : ByteArray) (x2 : ByteArray) (y1 : ByteArray) (y2 : ByteArray) (w : World), Calls Try.prog q #[.agg #[.string x1, .string x2], .agg #[.string y1, .string y2]] w fun e w' => e = .returned (.int .i64 (cmp (x1, x2) (y1, y2))) ∧ Below w.heap.size w w'
def ltOF (cmp : ElF → ElF → Int) (x y : ElF) : Bool := decide (cmp x y < 0)

set_option maxRecDepth 100000 in
set_option maxHeartbeats 1600000 in
theorem insF_any (q : Nat) (cmp : ElF → ElF → Int) (hq : CmpF q cmp) (ho : St.SWO (ltOF cmp)) (w : World) (g n c a b : Nat) (P S R : List ElF) (rest : List Value) (h : DatF w g (P ++ S ++ R) rest) (hn : n = (P ++ S ++ R).length) (hbig : n ≤ 4611686018427387904)
    (ha : a = P.length) (hb : b = P.length + S.length) :
    Calls Try.prog 133 #[.slice (some ⟨g, 0, none⟩) n c, .int .i64 a, .int .i64 b, .func (.func q) #[] #[]] w fun e w' => e = .returned (.tuple #[]) ∧ ∃ S', Sts (ltOF cmp) S S' ∧ DatF w' g (P ++ S' ++ R) rest ∧ w.grownBy w' (some g) := by
  have hlen : n = P.length + S.length + R.length := by simp at hn; omega
  have h2 : a ≤ b := by omega
  have h3 : b ≤ n := by omega
  have hpost : ∀ S' w', Srt (ltOF cmp) S' → Alk (ltOF cmp) S S' → DatF w' g (P ++ S' ++ R) rest → w.grownBy w' (some g) → ∃ S', Sts (ltOF cmp) S S' ∧ DatF w' g (P ++ S' ++ R) rest ∧ w.grownBy w' (some g) := fun S' w' h1 h2 h3 h4 => ⟨S', ⟨h1, h2⟩, h3, h4⟩
  have HPOST := Lib.hid hpost
  have HQ := Lib.hid hq
  have HO := Lib.hid ho
  have HL := Lib.hid hlen
  have HA := Lib.hid ha
  have HB := Lib.hid hb
  have HH := Lib.hid h
  have hen := hq.enter
  clear hlen hn ha hb h hq ho hpost
  go_enter Try.func133, Try.ntmps133
  go_wp2
  go_loopg [8] (b + 1) (fun gg s8 wr => ∃ (i : Nat) (S' : List ElF), a + 1 ≤ i ∧ i ≤ b + 1 ∧ b + 1 - i ≤ gg ∧ s8 = .int .i64 i ∧ Hid (Srt (ltOF cmp) (S'.take (i - a))) ∧ Hid (Alk (ltOF cmp) S S') ∧ Hid (DatF wr g (P ++ S' ++ R) rest) ∧ Hid (w.grownBy wr (some g)))
  case atStart => exact ⟨a + 1, S, Nat.le_refl _, by omega, by omega, by go_num, (by show Srt _ _; rw [show a + 1 - a = 1 by omega]; unfold Srt; cases S <;> simp), Alk.refl _, HH.out, World.grownBy.refl _ _⟩
  case round =>
    obtain ⟨i, S1, hi1, hi2, hg, rfl, hs, hal, hd, hgr⟩ := hrel
    by_cases hlt : i < b
    · have hS1 : S1.length = S.length := hal.out.1.symm
      have hil : i - a < S1.length := by have := HB.out; have := HA.out; omega
      have HS1 := Lib.hid hS1
      clear hS1
      go_wp2
      go_loopg [9] (i + 1) (fun gg s9 wr => ∃ (j : Nat) (pre suf U : List ElF) (x1 : ByteArray) (x2 : ByteArray), a ≤ j ∧ j ≤ i ∧ j + 1 ≤ gg ∧ s9 = .int .i64 j ∧ Hid (pre.length = j - a) ∧ Hid (pre.length + suf.length = i - a) ∧ Hid (Srt (ltOF cmp) (pre ++ suf)) ∧ Hid (∀ y ∈ suf, ltOF cmp (x1, x2) y = true) ∧ Hid (Alk (ltOF cmp) S (pre ++ (x1, x2) :: suf ++ U)) ∧ Hid (DatF wr g (P ++ (pre ++ (x1, x2) :: suf ++ U) ++ R) rest) ∧ Hid (w.grownBy wr (some g)))
      case atStart =>
        have e : S1.take (i - a) ++ (S1[i - a].1, S1[i - a].2) :: [] ++ S1.drop (i - a + 1) = S1 := by
          have h1 := List.take_append_drop (i - a) S1
          rw [List.drop_eq_getElem_cons hil] at h1
          rw [List.append_assoc]
          exact h1
        exact ⟨i, S1.take (i - a), [], S1.drop (i - a + 1), S1[i - a].1, S1[i - a].2, by omega, Nat.le_refl _, by omega, rfl, (by show _ = _; rw [List.length_take]; omega), (by show _ = _; rw [List.length_take, List.length_nil]; omega), (by have := hs.out; show Srt _ _; rwa [List.append_nil]), (fun y hy => by simp at hy), (by rw [e]; exact hal), (by rw [e]; exact hd), hgr⟩
      case round =>
        clear hs hal hd hgr
        obtain ⟨j, pre, suf, U, x1, x2, hj1, hj2, hg2, rfl, hpl, hpsl, hs, hgt, hal, hd, hgr⟩ := hrel
        have hxat : (P ++ (pre ++ (x1, x2) :: suf ++ U) ++ R)[j]? = some (x1, x2) := by
          have e : P ++ (pre ++ (x1, x2) :: suf ++ U) ++ R = (P ++ pre) ++ (x1, x2) :: (suf ++ U ++ R) := by simp
          have l : (P ++ pre).length = j := by have := hpl.out; have := HA.out; rw [List.length_append]; omega
          rw [e, ← l]
          simp
        have hjn : j < n := by omega
        by_cases haj : a < j
        · obtain ⟨pr, ⟨y1, y2⟩, hpre⟩ : ∃ pr y, pre = pr ++ [y] := by
            have hne : pre ≠ [] := by intro e; have := hpl.out; rw [e] at this; simp at this; omega
            exact ⟨pre.dropLast, pre.getLast hne, (List.dropLast_concat_getLast hne).symm⟩
          subst hpre
          have l0 : (P ++ pr).length = j - 1 := by have h1 := hpl.out; have h2 := HA.out; rw [List.length_append] at h1 ⊢; simp at h1; omega
          have e0 : P ++ (pr ++ [(y1, y2)] ++ (x1, x2) :: suf ++ U) ++ R = (P ++ pr) ++ (y1, y2) :: [] ++ (x1, x2) :: (suf ++ U ++ R) := by simp
          have hd2 := hd.out
          rw [e0] at hd2
          have s1 := swap_atF (P ++ pr) [] (suf ++ U ++ R) (y1, y2) (x1, x2)
          rw [l0, show j - 1 + 1 + ([] : List ElF).length = j by simp; omega] at s1
          have c1 := hd2.at_ _ _ s1.1
          have c2 := hd2.at_ _ _ s1.2
          obtain ⟨c11, c12⟩ := c1
          obtain ⟨c21, c22⟩ := c2
          simp only at c11 c12 c21 c22
          have hcmp := HQ.out.call x1 x2 y1 y2
          have qc1 := cell_regrown c11
          have qc2 := cell_regrown c12
          have qc3 := cell_regrown c21
          have qc4 := cell_regrown c22
          have cL : ∀ d os, Calls Try.prog q #[.agg #[.string x1, .string x2], .agg #[.string y1, .string y2]] (grow (redrawn wr d) os) fun e w'' => e = .returned (.int .i64 (cmp (x1, x2) (y1, y2))) ∧ ∃ p : Regrown, w'' = grow (redrawn wr p.d) p.os := fun d os => Calls.regrown_of (hcmp _)
          have i1 : (0 : Int) ≤ (j : Int) - 1 := by omega
          have i3 : (1 : Int) ≤ (j : Int) := by omega
          have i4 : 1 ≤ j := by omega
          have i5 : 0 < j := by omega
          have i2 : (j : Int) - 1 < (n : Int) := by omega
          have j1 : ((j : Int) - 1).toNat = j - 1 := by omega
          have k1 : IntKind.i64.wrap ((j : Int) - 1) = (j : Int) - 1 := IntWalk.i64_in _ (by omega)
          have HC := Lib.hid (And.intro c11 (And.intro c12 (And.intro c21 c22)))
          have HD2 := Lib.hid hd2
          have HS1 := Lib.hid s1
          have HL0 := Lib.hid l0
          have HE0 := Lib.hid e0
          have HX := Lib.hid hxat
          clear c11 c12 c21 c22 hcmp hd2 s1 l0 e0 hxat
          cases hlt2 : ltOF cmp (x1, x2) (y1, y2)
          · have hno : decide (cmp (x1, x2) (y1, y2) < 0) = false := hlt2
            have HLT := Lib.hid hlt2
            clear hlt2
            go_wp2_with fail
            refine wp_region_quiet_below (by kernel_rfl) (by kernel_rfl) ?_
            repeat (quiet_step (exact cL _ _))
            refine wpQuiet_nil ?_
            intro _ hw'
            obtain ⟨⟨dq, osq⟩, hw''⟩ := hw'
            subst hw''
            have hfar := below_grownF (below_regrown wr dq osq) (some g)
            have HG2 := Lib.hid (hgr.out.trans hfar)
            have HDr := Lib.hid (hd.out.below (below_regrown wr dq osq))
            clear qc1 qc2 qc3 qc4 cL k1 hfar
            go_wp2
            have hs2 : Srt (ltOF cmp) (pr ++ [(y1, y2)] ++ (x1, x2) :: suf) := hs.out.insert (le_all HO.out hs.out.left HLT.out) (fun y hy => HO.out.asym _ _ (hgt.out y hy))
            have HS3 := Lib.hid hs2
            have hl3 : (pr ++ [(y1, y2)] ++ (x1, x2) :: suf).length = i + 1 - a := by have := hpsl.out; rw [List.length_append, List.length_cons]; omega
            have HL3 := Lib.hid hl3
            clear hs2 hl3
            go_roundg (b - i)
            case measure => omega
            case rel => exact ⟨i + 1, pr ++ [(y1, y2)] ++ (x1, x2) :: suf ++ U, by omega, by omega, by omega, by go_num, (by have := HS3.out; show Srt _ _; rwa [← HL3.out, List.take_left]), hal, HDr.out, HG2.out⟩
          · have hyes : decide (cmp (x1, x2) (y1, y2) < 0) = true := hlt2
            have HLT := Lib.hid hlt2
            clear hlt2
            go_wp2_with fail
            refine wp_region_quiet_below (by kernel_rfl) (by kernel_rfl) ?_
            repeat (quiet_step (exact cL _ _))
            refine wpQuiet_nil ?_
            intro wq hw'
            obtain ⟨⟨dq, osq⟩, hw''⟩ := hw'
            have hbl := below_regrown wr dq osq
            rw [← hw''] at hbl
            clear hw''
            have hfar := below_grownF hbl (some g)
            have HG2 := Lib.hid (hgr.out.trans hfar)
            have HDr := Lib.hid (HD2.out.below hbl)
            clear qc1 qc2 qc3 qc4 cL hfar hbl
            have hgb := HG2.out
            have c1 := HDr.out.at_ _ _ HS1.out.1
            have c2 := HDr.out.at_ _ _ HS1.out.2
            obtain ⟨c11, c12⟩ := c1
            obtain ⟨c21, c22⟩ := c2
            simp only at c11 c12 c21 c22
            have f1 := HDr.out.free (j * 2)
            have f2 := HDr.out.free (j * 2 + 1)
            have f3 := HDr.out.free ((j - 1) * 2)
            have f4 := HDr.out.free ((j - 1) * 2 + 1)
            have hl1 := (List.getElem?_eq_some_iff.1 HS1.out.1).1
            have hl2 := (List.getElem?_eq_some_iff.1 HS1.out.2).1
            have SS := swap_set2F (P ++ pr) [] (suf ++ U ++ R) (y1, y2) (x1, x2)
            rw [HL0.out, show j - 1 + 1 + ([] : List ElF).length = j by simp; omega] at SS
            have D1 := (HDr.out.set_ j hl2 y1 y2).set_ (j - 1) (by rw [List.length_set]; exact hl1) x1 x2
            rw [SS] at D1
            have HD1 := Lib.hid D1
            have HG3 := Lib.hid (((((hgb.trans (grown_setF g (j * 2) (.string y1))).trans (grown_setF g (j * 2 + 1) (.string y2))).trans (grown_setF g ((j - 1) * 2) (.string x1))).trans (grown_setF g ((j - 1) * 2 + 1) (.string x2))))
            clear hgb hl1 hl2 SS D1
            go_wp2
            go_region
            go_wp2
            have hal2 := Lib.hid (hal.out.trans (by have := Alk.step (a := pr) (b := suf ++ U) HO.out HLT.out; simpa using this : Alk (ltOF cmp) (pr ++ [(y1, y2)] ++ (x1, x2) :: suf ++ U) (pr ++ (x1, x2) :: ((y1, y2) :: suf) ++ U)))
            have e5 : P ++ (pr ++ (x1, x2) :: ((y1, y2) :: suf) ++ U) ++ R = P ++ pr ++ (x1, x2) :: [] ++ (y1, y2) :: (suf ++ U ++ R) := by simp
            have HE5 := Lib.hid e5
            clear e5
            go_roundg (j - 1 + 1)
            case measure => omega
            case rel =>
              refine ⟨j - 1, pr, (y1, y2) :: suf, U, x1, x2, by omega, by omega, by omega, by go_num, (by have := hpl.out; show _ = _; simp at this; omega), (by have := hpsl.out; show _ = _; simp at this ⊢; omega), (by have := hs.out; show Srt _ _; simpa using this), ?_, hal2, (by show DatF _ _ _ _; rw [HE5.out]; exact HD1.out), grown_drewNF HG3.out 1⟩
              intro y hy
              rcases List.mem_cons.1 hy with rfl | hy
              · exact HLT.out
              · exact hgt.out y hy
        · obtain rfl : a = j := by omega
          have hd0 : decide (a < a) = false := by simp
          have hp0 : pre = [] := List.eq_nil_of_length_eq_zero (by have := hpl.out; omega)
          subst hp0
          go_wp2_with fail
          go_quiet (fail)
          go_wp2
          have hs2 : Srt (ltOF cmp) ((x1, x2) :: suf) := by
            have h1 := hs.out
            exact h1.insert (a := []) (fun y hy => by simp at hy) (fun y hy => HO.out.asym _ _ (hgt.out y hy))
          have HS3 := Lib.hid hs2
          have hl3 : ((x1, x2) :: suf).length = i + 1 - a := by have := hpsl.out; rw [List.length_cons]; simp at this; omega
          have HL3 := Lib.hid hl3
          clear hs2 hl3
          go_roundg (b - i)
          case measure => omega
          case rel => exact ⟨i + 1, [] ++ (x1, x2) :: suf ++ U, by omega, by omega, by omega, by go_num, (by have := HS3.out; show Srt _ _; rw [List.nil_append]; rwa [← HL3.out, List.take_left]), hal, hd.out, grown_drewNF hgr.out _⟩
    · have hfin : Srt (ltOF cmp) S1 := by
        have := hs.out
        rwa [List.take_of_length_le (by have := hal.out.1; have := HB.out; have := HA.out; omega)] at this
      have HF := Lib.hid hfin
      clear hfin
      go_wp2
      go_end0
      exact ⟨rfl, HPOST.out _ _ HF.out hal.out hd.out hgr.out⟩
end Go.Proofs.Ytdpohibgipkhnaa
namespace Go.Proofs.Ytdpohibgipkhnaa
open Go.RowKit Go.Sort Go.Proofs.Ytdpohibgipkhnaa.St

theorem at_midF (P A B R : List ElF) (i : Nat) (h1 : P.length + A.length ≤ i) (h2 : i < P.length + A.length + B.length) : (P ++ A ++ B ++ R)[i]? = B[i - (P.length + A.length)]? := by
  rw [List.getElem?_append_left (by simp; omega), List.getElem?_append_right (by simp; omega), List.length_append]
theorem at_foreF (P A B R : List ElF) (i : Nat) (h1 : P.length ≤ i) (h2 : i < P.length + A.length) : (P ++ A ++ B ++ R)[i]? = A[i - P.length]? := by
  rw [List.getElem?_append_left (by simp; omega), List.getElem?_append_left (by simp; omega), List.getElem?_append_right (by omega)]
def SymPostF (cmp : ElF → ElF → Int) (w : World) (g : Nat) (P A B R : List ElF) (rest : List Value) (e : Ending) (w' : World) : Prop :=
  e = .returned (.tuple #[]) ∧ ∃ C, Mrg (ltOF cmp) A B C ∧ DatF w' g (P ++ C ++ R) rest ∧ w.grownBy w' (some g)

set_option maxRecDepth 100000 in
set_option maxHeartbeats 3200000 in
theorem symF_one (q : Nat) (cmp : ElF → ElF → Int) (hq : CmpF q cmp) (ho : St.SWO (ltOF cmp)) (w : World) (g n c a m b : Nat) (P B R : List ElF) (x1 : ByteArray) (x2 : ByteArray) (rest : List Value) (h : DatF w g (P ++ [(x1, x2)] ++ B ++ R) rest) (hn : n = (P ++ [(x1, x2)] ++ B ++ R).length) (hbig : n ≤ 4611686018427387904)
    (ha : a = P.length) (hm : m = a + 1) (hb : b = m + B.length) (hs : Srt (ltOF cmp) B) :
    Calls Try.prog 134 #[.slice (some ⟨g, 0, none⟩) n c, .int .i64 a, .int .i64 m, .int .i64 b, .func (.func q) #[] #[]] w (SymPostF cmp w g P [(x1, x2)] B R rest) := by
  have hlen : n = P.length + 1 + B.length + R.length := by simp at hn; omega
  have h1 : a < m := by omega
  have h2 : m ≤ b := by omega
  have h3 : b ≤ n := by omega
  have h4 : (m : Int) - (a : Int) = 1 := by omega
  have H4 := Lib.hid h4
  have HQ := Lib.hid hq
  have HO := Lib.hid ho
  have HL := Lib.hid hlen
  have HN := Lib.hid hn
  have HA := Lib.hid ha
  have HM := Lib.hid hm
  have HB := Lib.hid hb
  have HS := Lib.hid hs
  have HH := Lib.hid h
  have hen := hq.enter
  clear hlen hn ha hb h hq ho hm hs h4
  go_enter Try.func134, Try.ntmps134
  have h4 := H4.out
  go_wp2_with fail
  clear h4
  go_loopg [10, 11] (b + 1) (fun gg s10 s11 wr => ∃ i j : Nat, m ≤ i ∧ i ≤ j ∧ j ≤ b ∧ j - i + 1 ≤ gg ∧ s10 = .int .i64 i ∧ s11 = .int .i64 j ∧ Hid (m < i → ∀ y, B[i - 1 - m]? = some y → ltOF cmp y (x1, x2) = true) ∧ Hid (∀ y, B[j - m]? = some y → ltOF cmp y (x1, x2) = false) ∧ Hid (DatF wr g (P ++ [(x1, x2)] ++ B ++ R) rest) ∧ Hid (w.grownBy wr (some g)))
  case atStart => exact ⟨m, b, Nat.le_refl _, h2, Nat.le_refl _, by omega, rfl, rfl, (fun h => absurd h (Nat.lt_irrefl _)), (fun y hy => by rw [List.getElem?_eq_none (by have := HB.out; omega)] at hy; cases hy), HH.out, World.grownBy.refl _ _⟩
  case round =>
    obtain ⟨i, j, hi1, hij, hj, hg, rfl, rfl, hlo, hhi, hd, hgr⟩ := hrel
    by_cases hlt : i < j
    · obtain ⟨k, hk⟩ : ∃ k, k = (i + j) / 2 := ⟨_, rfl⟩
      have k1 : i ≤ k := by omega
      have k2 : k < j := by omega
      have k3 : k < n := by omega
      have kat := at_midF P [(x1, x2)] B R k (by have := HA.out; have := HM.out; simp; omega) (by have := HA.out; have := HM.out; have := HB.out; simp; omega)
      have kB : k - m < B.length := by have := HB.out; omega
      rw [show k - (P.length + [(x1, x2)].length) = k - m by have := HA.out; have := HM.out; simp; omega, List.getElem?_eq_getElem kB] at kat
      obtain ⟨⟨y1, y2⟩, hy⟩ : ∃ y, y = B[k - m] := ⟨_, rfl⟩
      rw [← hy] at kat
      have xat := at_foreF P [(x1, x2)] B R a (by have := HA.out; omega) (by have := HA.out; simp; omega)
      rw [show a - P.length = 0 by have := HA.out; omega] at xat
      obtain ⟨c11, c12⟩ := hd.out.at_ _ _ kat
      obtain ⟨c21, c22⟩ := hd.out.at_ _ (x1, x2) xat
      simp only at c11 c12 c21 c22
      have HY : Hid (B[k - m]? = some (y1, y2)) := by show _ = _; rw [hy]; exact List.getElem?_eq_getElem kB
      have hcmp := HQ.out.call y1 y2 x1 x2
      have qc1 := cell_regrown c11
      have qc2 := cell_regrown c12
      have qc3 := cell_regrown c21
      have qc4 := cell_regrown c22
      have cL : ∀ d os, Calls Try.prog q #[.agg #[.string y1, .string y2], .agg #[.string x1, .string x2]] (grow (redrawn wr d) os) fun e w'' => e = .returned (.int .i64 (cmp (y1, y2) (x1, x2))) ∧ ∃ p : Regrown, w'' = grow (redrawn wr p.d) p.os := fun d os => Calls.regrown_of (hcmp _)
      have hk2 : ((i : Int) + (j : Int)) / 2 = (k : Int) := by omega
      have a3 : a < n := by omega
      have HK := Lib.hid hk
      clear hk kat xat hy c11 c12 c21 c22 hcmp
      cases hlt2 : ltOF cmp (y1, y2) (x1, x2)
      · have hno : decide (cmp (y1, y2) (x1, x2) < 0) = false := hlt2
        have HLT := Lib.hid hlt2
        clear hlt2
        go_wp2_with fail
        refine wp_region_quiet_below (by kernel_rfl) (by kernel_rfl) ?_
        repeat (quiet_step (exact cL _ _))
        refine wpQuiet_nil ?_
        intro wq hw'
        obtain ⟨⟨dq, osq⟩, hw''⟩ := hw'
        have hbl := below_regrown wr dq osq
        rw [← hw''] at hbl
        clear hw''
        have HG2 := Lib.hid (hgr.out.trans (below_grownF hbl (some g)))
        have HDr := Lib.hid (hd.out.below hbl)
        clear qc1 qc2 qc3 qc4 cL hk2 hbl
        go_wp2_with fail
        go_roundg (k - i + 1)
        case measure => omega
        case rel => exact ⟨i, k, hi1, k1, by omega, by omega, rfl, rfl, hlo, (fun y hy => by have := HY.out; rw [this] at hy; injection hy with hy; subst hy; exact HLT.out), HDr.out, HG2.out⟩
      · have hyes : decide (cmp (y1, y2) (x1, x2) < 0) = true := hlt2
        have HLT := Lib.hid hlt2
        clear hlt2
        go_wp2_with fail
        refine wp_region_quiet_below (by kernel_rfl) (by kernel_rfl) ?_
        repeat (quiet_step (exact cL _ _))
        refine wpQuiet_nil ?_
        intro wq hw'
        obtain ⟨⟨dq, osq⟩, hw''⟩ := hw'
        have hbl := below_regrown wr dq osq
        rw [← hw''] at hbl
        clear hw''
        have HG2 := Lib.hid (hgr.out.trans (below_grownF hbl (some g)))
        have HDr := Lib.hid (hd.out.below hbl)
        clear qc1 qc2 qc3 qc4 cL hk2 hbl
        go_wp2_with fail
        go_roundg (j - (k + 1) + 1)
        case measure => omega
        case rel => exact ⟨k + 1, j, by omega, by omega, hj, Nat.le_refl _, by go_num, rfl, (fun _ y hy => by rw [show k + 1 - 1 - m = k - m by omega, HY.out] at hy; injection hy with hy; subst hy; exact HLT.out), hhi, HDr.out, HG2.out⟩
    · obtain rfl : i = j := by omega
      have hmrg : Mrg (ltOF cmp) [(x1, x2)] B (B.take (i - m) ++ (x1, x2) :: B.drop (i - m)) := Mrg.one HO.out HS.out (i - m) (by have := HB.out; omega)
        (fun h1 h2 => hlo.out (by omega) _ (by rw [show i - 1 - m = i - m - 1 by omega]; exact List.getElem?_eq_getElem h1)) (fun h1 => hhi.out _ (List.getElem?_eq_getElem h1))
      have HMR := Lib.hid hmrg
      clear hmrg hlo hhi
      go_wp2_with fail
      have hdm : DatF wr g (P ++ ([(x1, x2)] ++ B) ++ R) rest := by have := hd.out; simpa only [List.append_assoc] using this
      have HDM := Lib.hid hdm
      clear hdm
      go_loopg [13] (i + 1) (fun gg s13 wr => ∃ t : Nat, a + t ≤ i - 1 ∧ i - (a + t) ≤ gg ∧ s13 = .int .i64 (a + t : Nat) ∧ Hid (DatF wr g (P ++ (B.take t ++ (x1, x2) :: B.drop t) ++ R) rest) ∧ Hid (w.grownBy wr (some g)))
      case atStart => exact ⟨0, by omega, by omega, rfl, HDM.out, hgr⟩
      case round =>
        clear hd hgr HDM
        obtain ⟨t, ht1, hg3, rfl, hd, hgr⟩ := hrel
        by_cases hlt : a + t < i - 1
        · have tB : t < B.length := by have := HB.out; have := HM.out; omega
          have e0 : P ++ (B.take t ++ (x1, x2) :: B.drop t) ++ R = (P ++ B.take t) ++ (x1, x2) :: [] ++ B[t] :: (B.drop (t + 1) ++ R) := by
            rw [List.drop_eq_getElem_cons tB]; simp only [List.append_assoc, List.cons_append, List.nil_append]
          have e1 : P ++ (B.take (t + 1) ++ (x1, x2) :: B.drop (t + 1)) ++ R = (P ++ B.take t) ++ B[t] :: [] ++ (x1, x2) :: (B.drop (t + 1) ++ R) := by
            rw [List.take_succ_eq_append_getElem tB]; simp only [List.append_assoc, List.cons_append, List.nil_append]
          have l1 : (P ++ B.take t).length = a + t := by have := HA.out; simp; omega
          obtain ⟨⟨y1, y2⟩, hy⟩ : ∃ y, y = B[t] := ⟨_, rfl⟩
          rw [← hy] at e0 e1
          have hd2 := hd.out
          rw [e0] at hd2
          have s1 := swap_atF (P ++ B.take t) [] (B.drop (t + 1) ++ R) (x1, x2) (y1, y2)
          have SS := swap_setF (P ++ B.take t) [] (B.drop (t + 1) ++ R) (x1, x2) (y1, y2)
          rw [l1, show a + t + 1 + ([] : List ElF).length = a + t + 1 from rfl] at s1 SS
          rw [← e1] at SS
          obtain ⟨c11, c12⟩ := hd2.at_ _ _ s1.1
          obtain ⟨c21, c22⟩ := hd2.at_ _ _ s1.2
          simp only at c11 c12 c21 c22
          have hl1 := (List.getElem?_eq_some_iff.1 s1.1).1
          have hl2 := (List.getElem?_eq_some_iff.1 s1.2).1
          have D1 := (hd2.set_ (a + t) hl1 y1 y2).set_ (a + t + 1) (by rw [List.length_set]; exact hl2) x1 x2
          rw [SS] at D1
          have HD1 := Lib.hid D1
          obtain ⟨u, hu⟩ : ∃ u, u = a + t := ⟨_, rfl⟩
          rw [← hu] at c11 c12 c21 c22 HD1 ⊢
          have HU := Lib.hid hu
          have u1 : u < i - 1 := by omega
          have u2 : (u : Int) < (i : Int) - 1 := by omega
          have u3 : u + 1 < n := by omega
          have f1 := hd2.free (u * 2)
          have f2 := hd2.free (u * 2 + 1)
          have f3 := hd2.free ((u + 1) * 2)
          have f4 := hd2.free ((u + 1) * 2 + 1)
          have HG3 := Lib.hid (((((hgr.out.trans (grown_setF g (u * 2) (.string y1))).trans (grown_setF g (u * 2 + 1) (.string y2))).trans (grown_setF g ((u + 1) * 2) (.string x1))).trans (grown_setF g ((u + 1) * 2 + 1) (.string x2))))
          clear e0 e1 l1 hy hd2 s1 SS hl1 hl2 D1 hu hlt
          go_wp2_with fail
          go_region
          go_wp2_with fail
          go_roundg (i - (u + 1))
          case measure => have := HU.out; omega
          case rel => exact ⟨t + 1, by have := HU.out; omega, by have := HU.out; omega, (by have := HU.out; rw [show a + (t + 1) = u + 1 by omega]; go_num), HD1.out, grown_drewNF HG3.out 1⟩
        · have ht : t = i - m := by have := HM.out; omega
          subst ht
          go_wp2_with fail
          go_end0
          exact ⟨rfl, _, HMR.out, hd.out, hgr.out⟩

set_option maxRecDepth 100000 in
set_option maxHeartbeats 3200000 in
theorem symF_last (q : Nat) (cmp : ElF → ElF → Int) (hq : CmpF q cmp) (ho : St.SWO (ltOF cmp)) (w : World) (g n c a m b : Nat) (P A R : List ElF) (x1 : ByteArray) (x2 : ByteArray) (rest : List Value) (h : DatF w g (P ++ A ++ [(x1, x2)] ++ R) rest) (hn : n = (P ++ A ++ [(x1, x2)] ++ R).length) (hbig : n ≤ 4611686018427387904)
    (ha : a = P.length) (hm : m = a + A.length) (hb : b = m + 1) (h2a : 2 ≤ A.length) (hs : Srt (ltOF cmp) A) :
    Calls Try.prog 134 #[.slice (some ⟨g, 0, none⟩) n c, .int .i64 a, .int .i64 m, .int .i64 b, .func (.func q) #[] #[]] w (SymPostF cmp w g P A [(x1, x2)] R rest) := by
  have hlen : n = P.length + A.length + 1 + R.length := by simp at hn; omega
  have h1 : a + 2 ≤ m := by omega
  have h2 : m < b := by omega
  have h3 : b ≤ n := by omega
  have h4 : (b : Int) - (m : Int) = 1 := by omega
  have h5 : ((m : Int) - (a : Int) == 1) = false := by simp; omega
  have H4 := Lib.hid h4
  have H5 := Lib.hid h5
  have HQ := Lib.hid hq
  have HO := Lib.hid ho
  have HL := Lib.hid hlen
  have HN := Lib.hid hn
  have HA := Lib.hid ha
  have HM := Lib.hid hm
  have HB := Lib.hid hb
  have HS := Lib.hid hs
  have HH := Lib.hid h
  have hen := hq.enter
  clear hlen hn ha hb h hq ho hm hs h4 h5 h2a
  go_enter Try.func134, Try.ntmps134
  have h4 := H4.out
  have h5 := H5.out
  go_wp2_with fail
  clear h4 h5
  go_loopg [14, 15] (b + 1) (fun gg s14 s15 wr => ∃ i j : Nat, a ≤ i ∧ i ≤ j ∧ j ≤ m ∧ j - i + 1 ≤ gg ∧ s14 = .int .i64 i ∧ s15 = .int .i64 j ∧ Hid (a < i → ∀ y, A[i - 1 - a]? = some y → ltOF cmp (x1, x2) y = false) ∧ Hid (∀ y, A[j - a]? = some y → ltOF cmp (x1, x2) y = true) ∧ Hid (DatF wr g (P ++ A ++ [(x1, x2)] ++ R) rest) ∧ Hid (w.grownBy wr (some g)))
  case atStart => exact ⟨a, m, Nat.le_refl _, by omega, Nat.le_refl _, by omega, rfl, rfl, (fun h => absurd h (Nat.lt_irrefl _)), (fun y hy => by rw [List.getElem?_eq_none (by have := HM.out; omega)] at hy; cases hy), HH.out, World.grownBy.refl _ _⟩
  case round =>
    obtain ⟨i, j, hi1, hij, hj, hg, rfl, rfl, hlo, hhi, hd, hgr⟩ := hrel
    by_cases hlt : i < j
    · obtain ⟨k, hk⟩ : ∃ k, k = (i + j) / 2 := ⟨_, rfl⟩
      have k1 : i ≤ k := by omega
      have k2 : k < j := by omega
      have k3 : k < n := by omega
      have kat := at_foreF P A [(x1, x2)] R k (by have := HA.out; omega) (by have := HA.out; have := HM.out; omega)
      have kA : k - a < A.length := by have := HM.out; omega
      rw [show k - P.length = k - a by have := HA.out; omega, List.getElem?_eq_getElem kA] at kat
      obtain ⟨⟨y1, y2⟩, hy⟩ : ∃ y, y = A[k - a] := ⟨_, rfl⟩
      rw [← hy] at kat
      have xat := at_midF P A [(x1, x2)] R m (by have := HA.out; have := HM.out; omega) (by have := HA.out; have := HM.out; simp; omega)
      rw [show m - (P.length + A.length) = 0 by have := HA.out; have := HM.out; omega] at xat
      obtain ⟨c11, c12⟩ := hd.out.at_ _ _ kat
      obtain ⟨c21, c22⟩ := hd.out.at_ _ (x1, x2) xat
      simp only at c11 c12 c21 c22
      have HY : Hid (A[k - a]? = some (y1, y2)) := by show _ = _; rw [hy]; exact List.getElem?_eq_getElem kA
      have hcmp := HQ.out.call x1 x2 y1 y2
      have qc1 := cell_regrown c11
      have qc2 := cell_regrown c12
      have qc3 := cell_regrown c21
      have qc4 := cell_regrown c22
      have cL : ∀ d os, Calls Try.prog q #[.agg #[.string x1, .string x2], .agg #[.string y1, .string y2]] (grow (redrawn wr d) os) fun e w'' => e = .returned (.int .i64 (cmp (x1, x2) (y1, y2))) ∧ ∃ p : Regrown, w'' = grow (redrawn wr p.d) p.os := fun d os => Calls.regrown_of (hcmp _)
      have hk2 : ((i : Int) + (j : Int)) / 2 = (k : Int) := by omega
      have a3 : m < n := by omega
      have HK := Lib.hid hk
      clear hk kat xat hy c11 c12 c21 c22 hcmp
      cases hlt2 : ltOF cmp (x1, x2) (y1, y2)
      · have hno : decide (cmp (x1, x2) (y1, y2) < 0) = false := hlt2
        have HLT := Lib.hid hlt2
        clear hlt2
        go_wp2_with fail
        refine wp_region_quiet_below (by kernel_rfl) (by kernel_rfl) ?_
        repeat (quiet_step (exact cL _ _))
        refine wpQuiet_nil ?_
        intro wq hw'
        obtain ⟨⟨dq, osq⟩, hw''⟩ := hw'
        have hbl := below_regrown wr dq osq
        rw [← hw''] at hbl
        clear hw''
        have HG2 := Lib.hid (hgr.out.trans (below_grownF hbl (some g)))
        have HDr := Lib.hid (hd.out.below hbl)
        clear qc1 qc2 qc3 qc4 cL hk2 hbl
        go_wp2_with fail
        go_roundg (j - (k + 1) + 1)
        case measure => omega
        case rel => exact ⟨k + 1, j, by omega, by omega, hj, Nat.le_refl _, by go_num, rfl, (fun _ y hy => by rw [show k + 1 - 1 - a = k - a by omega, HY.out] at hy; injection hy with hy; subst hy; exact HLT.out), hhi, HDr.out, HG2.out⟩
      · have hyes : decide (cmp (x1, x2) (y1, y2) < 0) = true := hlt2
        have HLT := Lib.hid hlt2
        clear hlt2
        go_wp2_with fail
        refine wp_region_quiet_below (by kernel_rfl) (by kernel_rfl) ?_
        repeat (quiet_step (exact cL _ _))
        refine wpQuiet_nil ?_
        intro wq hw'
        obtain ⟨⟨dq, osq⟩, hw''⟩ := hw'
        have hbl := below_regrown wr dq osq
        rw [← hw''] at hbl
        clear hw''
        have HG2 := Lib.hid (hgr.out.trans (below_grownF hbl (some g)))
        have HDr := Lib.hid (hd.out.below hbl)
        clear qc1 qc2 qc3 qc4 cL hk2 hbl
        go_wp2_with fail
        go_roundg (k - i + 1)
        case measure => omega
        case rel => exact ⟨i, k, hi1, k1, by omega, by omega, rfl, rfl, hlo, (fun y hy => by have := HY.out; rw [this] at hy; injection hy with hy; subst hy; exact HLT.out), HDr.out, HG2.out⟩
    · obtain rfl : i = j := by omega
      have hmrg : Mrg (ltOF cmp) A [(x1, x2)] (A.take (i - a) ++ (x1, x2) :: A.drop (i - a)) := Mrg.last HO.out HS.out (i - a) (by have := HM.out; omega)
        (fun h1 h2 => hlo.out (by omega) _ (by rw [show i - 1 - a = i - a - 1 by omega]; exact List.getElem?_eq_getElem h1)) (fun h1 => hhi.out _ (List.getElem?_eq_getElem h1))
      have HMR := Lib.hid hmrg
      clear hmrg hlo hhi
      go_wp2_with fail
      have hdm : DatF wr g (P ++ (A.take (m - a) ++ (x1, x2) :: A.drop (m - a)) ++ R) rest := by
        have := hd.out
        rw [List.take_of_length_le (by have := HM.out; omega), List.drop_eq_nil_of_le (by have := HM.out; omega)]
        simpa only [List.append_assoc] using this
      have HDM := Lib.hid hdm
      clear hdm
      go_loopg [17] (m + 1) (fun gg s17 wr => ∃ u : Nat, i ≤ u ∧ u ≤ m ∧ u - i + 1 ≤ gg ∧ s17 = .int .i64 u ∧ Hid (DatF wr g (P ++ (A.take (u - a) ++ (x1, x2) :: A.drop (u - a)) ++ R) rest) ∧ Hid (w.grownBy wr (some g)))
      case atStart => exact ⟨m, by omega, Nat.le_refl _, by omega, rfl, HDM.out, hgr⟩
      case round =>
        clear hd hgr HDM
        obtain ⟨u, hu1, hu2, hg3, rfl, hd, hgr⟩ := hrel
        by_cases hlt : i < u
        · obtain ⟨t, ht⟩ : ∃ t, t = u - a - 1 := ⟨_, rfl⟩
          have tA : t < A.length := by have := HM.out; omega
          rw [show u - a = t + 1 by omega] at hd
          have e0 : P ++ (A.take (t + 1) ++ (x1, x2) :: A.drop (t + 1)) ++ R = (P ++ A.take t) ++ A[t] :: [] ++ (x1, x2) :: (A.drop (t + 1) ++ R) := by
            rw [List.take_succ_eq_append_getElem tA]; simp only [List.append_assoc, List.cons_append, List.nil_append]
          have e1 : P ++ (A.take t ++ (x1, x2) :: A.drop t) ++ R = (P ++ A.take t) ++ (x1, x2) :: [] ++ A[t] :: (A.drop (t + 1) ++ R) := by
            rw [List.drop_eq_getElem_cons tA]; simp only [List.append_assoc, List.cons_append, List.nil_append]
          have l1 : (P ++ A.take t).length = u - 1 := by have := HA.out; simp; omega
          obtain ⟨⟨y1, y2⟩, hy⟩ : ∃ y, y = A[t] := ⟨_, rfl⟩
          rw [← hy] at e0 e1
          have hd2 := hd.out
          rw [e0] at hd2
          have s1 := swap_atF (P ++ A.take t) [] (A.drop (t + 1) ++ R) (y1, y2) (x1, x2)
          have SS := swap_set2F (P ++ A.take t) [] (A.drop (t + 1) ++ R) (y1, y2) (x1, x2)
          rw [l1, show u - 1 + 1 + ([] : List ElF).length = u by simp; omega] at s1 SS
          rw [← e1] at SS
          obtain ⟨c11, c12⟩ := hd2.at_ _ _ s1.1
          obtain ⟨c21, c22⟩ := hd2.at_ _ _ s1.2
          simp only at c11 c12 c21 c22
          have hl1 := (List.getElem?_eq_some_iff.1 s1.1).1
          have hl2 := (List.getElem?_eq_some_iff.1 s1.2).1
          have D1 := (hd2.set_ u hl2 y1 y2).set_ (u - 1) (by rw [List.length_set]; exact hl1) x1 x2
          rw [SS] at D1
          have HD1 := Lib.hid D1
          have HT := Lib.hid ht
          have u3 : u < n := by omega
          have i1 : (0 : Int) ≤ (u : Int) - 1 := by omega
          have i3 : (1 : Int) ≤ (u : Int) := by omega
          have i4 : 1 ≤ u := by omega
          have i5 : 0 < u := by omega
          have i2 : (u : Int) - 1 < (n : Int) := by omega
          have j1 : ((u : Int) - 1).toNat = u - 1 := by omega
          have k1 : IntKind.i64.wrap ((u : Int) - 1) = (u : Int) - 1 := IntWalk.i64_in _ (by omega)
          have f1 := hd2.free (u * 2)
          have f2 := hd2.free (u * 2 + 1)
          have f3 := hd2.free ((u - 1) * 2)
          have f4 := hd2.free ((u - 1) * 2 + 1)
          have HG3 := Lib.hid (((((hgr.out.trans (grown_setF g (u * 2) (.string y1))).trans (grown_setF g (u * 2 + 1) (.string y2))).trans (grown_setF g ((u - 1) * 2) (.string x1))).trans (grown_setF g ((u - 1) * 2 + 1) (.string x2))))
          clear e0 e1 l1 hy hd2 s1 SS hl1 hl2 D1 ht hd
          go_wp2_with fail
          go_region
          go_wp2_with fail
          go_roundg (u - 1 - i + 1)
          case measure => omega
          case rel => exact ⟨u - 1, by omega, by omega, Nat.le_refl _, by go_num, (by have h9 := HD1.out; have h8 := HT.out; rw [show u - 1 - a = t by omega]; exact h9), grown_drewNF HG3.out 1⟩
        · obtain rfl : i = u := by omega
          go_wp2_with fail
          go_end0
          exact ⟨rfl, _, HMR.out, hd.out, hgr.out⟩
end Go.Proofs.Ytdpohibgipkhnaa
