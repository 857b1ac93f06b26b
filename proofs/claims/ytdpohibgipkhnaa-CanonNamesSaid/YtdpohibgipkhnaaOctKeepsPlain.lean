
/-
  PLAIN: what is made small, or trimmed, stays so; what may stand in a token is neither a blank nor out of sight.
-/
import Derived.Test.YtdpohibgipkhnaaRunes
namespace Go.Proofs.Ytdpohibgipkhnaa
namespace Oct

theorem foldS_low (a : ByteArray) : foldS a (lowS a) = true := by unfold foldS; simp [lowS_idem]
theorem foldS_symm (a b : ByteArray) : foldS b a = foldS a b := by
  unfold foldS
  rw [Bool.eq_iff_iff]
  simp only [decide_eq_true_eq]
  exact ⟨fun h => h.symm, fun h => h.symm⟩
theorem foldS_trans {a b c : ByteArray} (h : foldS a b = true) (k : foldS b c = true) : foldS a c = true := by
  unfold foldS at h k ⊢
  simp only [decide_eq_true_eq] at h k ⊢
  exact h.trans k

theorem dw_head (p : UInt8 → Bool) : ∀ (l : List UInt8) (c : UInt8), (l.dropWhile p).head? = some c → p c = false
  | [], c, h => by simp at h
  | d :: l, c, h => by
    by_cases hd : p d = true
    · rw [List.dropWhile_cons_of_pos hd] at h; exact dw_head p l c h
    · rw [List.dropWhile_cons_of_neg hd] at h
      simp at h
      subst h
      simpa using hd
theorem dw_last (p : UInt8 → Bool) : ∀ (l : List UInt8) (c : UInt8), (l.dropWhile p).getLast? = some c → l.getLast? = some c
  | [], c, h => by simp at h
  | d :: l, c, h => by
    by_cases hd : p d = true
    · rw [List.dropWhile_cons_of_pos hd] at h
      have := dw_last p l c h
      cases l with
      | nil => simp at this
      | cons e l => simpa [List.getLast?_cons_cons] using this
    · rw [List.dropWhile_cons_of_neg hd] at h; exact h
theorem trimL_last (l : List UInt8) (c : UInt8) (h : (trimL l).getLast? = some c) : blB c = false := by
  unfold trimL at h
  rw [List.getLast?_reverse] at h
  exact dw_head _ _ _ h
theorem trimL_head (l : List UInt8) (c : UInt8) (h : (trimL l).head? = some c) : blB c = false := by
  unfold trimL at h
  rw [List.head?_reverse] at h
  have h2 := dw_last _ _ _ h
  rw [List.getLast?_reverse] at h2
  exact dw_head _ _ _ h2
theorem trimS_idem (s : ByteArray) : trimS (trimS s) = trimS s := by
  apply bytes_eq_of_list
  show trimL (trimL s.data.toList) = trimL s.data.toList
  exact trimL_self _ (trimL_head _) (trimL_last _)
theorem trimL_pad (l : List UInt8) : trimL ([32, 9] ++ l ++ [9, 32]) = trimL l := by
  have e : [32, 9] ++ l ++ [9, 32] = (32 :: (9 :: l) ++ [9]) ++ [32] := by simp
  rw [e, trimL_snoc 32 _ rfl, trimL_snoc 9 _ rfl, trimL_cons 32 _ rfl, trimL_cons 9 _ rfl]
theorem trimS_pad (s : ByteArray) : trimS (⟨#[32, 9]⟩ ++ s ++ ⟨#[9, 32]⟩) = trimS s := by
  apply bytes_eq_of_list
  show trimL (⟨#[32, 9]⟩ ++ s ++ ⟨#[9, 32]⟩ : ByteArray).data.toList = trimL s.data.toList
  rw [ByteArray.data_append, ByteArray.data_append, Array.toList_append, Array.toList_append]
  exact trimL_pad _
theorem trimS_first_not (s : ByteArray) (h : 0 < (trimS s).size) : blI ((trimS s)[0]).toNat = false := by
  apply trimL_head s.data.toList
  rw [List.head?_eq_getElem?]
  exact List.getElem?_eq_getElem (l := (trimS s).data.toList) (i := 0) (by simpa using h)
theorem trimS_last_not (s : ByteArray) (h : (trimS s).size - 1 < (trimS s).size) : blI ((trimS s)[(trimS s).size - 1]).toNat = false := by
  apply trimL_last s.data.toList
  rw [List.getLast?_eq_getElem?]
  have hl : (trimL s.data.toList).length = (trimS s).size := by
    show (trimS s).data.toList.length = _
    simp
  rw [hl]
  exact List.getElem?_eq_getElem (l := (trimS s).data.toList) (i := (trimS s).size - 1) (by simpa using h)
theorem blI_false {c : Int} (h : blI c = false) : (c == 32) = false ∧ (c == 9) = false := by unfold blI at h; simpa using h

theorem allFrom_at {q : Int → Bool} {s : ByteArray} (h : allFrom q s 0 = true) (k : Nat) (hk : k < s.size) : q (s[k].toNat) = true := by
  unfold allFrom at h
  rw [List.drop_zero, List.all_eq_true] at h
  exact h _ (List.getElem_mem (l := s.data.toList) (n := k) (by simpa using hk))
theorem allFrom_mono {p q : Int → Bool} (hpq : ∀ r, p r = true → q r = true) {s : ByteArray} (h : allFrom p s 0 = true) : allFrom q s 0 = true := by
  unfold allFrom at h ⊢
  rw [List.all_eq_true] at h ⊢
  exact fun c hc => hpq _ (h c hc)
theorem tcharI_in (r : Int) (h : tcharI r = true) : 32 < r ∧ r < 127 := by
  by_cases hl : alnumI r = true
  · unfold alnumI at hl; simp at hl; omega
  · have hm : r ∈ marksL := by
      unfold tcharI at h
      simp only [Bool.or_eq_true, hl, List.contains_iff_mem] at h
      simpa using h
    have : ∀ x ∈ marksL, 32 < x ∧ x < 127 := by decide
    exact this r hm
theorem token_visible (s : ByteArray) (h : tokenS s = true) : visibleS s = true := by
  unfold tokenS at h
  unfold visibleS
  rw [Bool.and_eq_true] at h ⊢
  refine ⟨h.1, allFrom_mono (fun r hr => ?_) h.2⟩
  have := tcharI_in r hr
  unfold visI
  simp
  omega
theorem token_value (s : ByteArray) (h : tokenS s = true) : valueS s = true := by
  unfold tokenS at h
  rw [Bool.and_eq_true] at h
  refine allFrom_mono (fun r hr => ?_) h.2
  have := tcharI_in r hr
  unfold valI
  simp
  omega
theorem token_trim (s : ByteArray) (h : tokenS s = true) : trimS s = s := by
  unfold tokenS at h
  rw [Bool.and_eq_true] at h
  have hb : ∀ c ∈ s.data.toList, blB c = false := fun c hc => by
    have h2 := h.2
    unfold allFrom at h2
    rw [List.drop_zero, List.all_eq_true] at h2
    have := tcharI_in _ (h2 c hc)
    unfold blB blI
    simp
    omega
  apply bytes_eq_of_list
  show trimL s.data.toList = s.data.toList
  exact trimL_self _ (fun c hc => hb c (List.mem_of_mem_head? hc)) (fun c hc => hb c (List.mem_of_getLast? hc))
end Oct
end Go.Proofs.Ytdpohibgipkhnaa
