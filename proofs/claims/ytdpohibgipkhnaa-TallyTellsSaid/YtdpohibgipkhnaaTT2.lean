
/-
  PLAIN: what octet and its reference compute, on lists of bytes: small letters, blanks cut off. No program in sight.
-/
import Derived.Laws.Strings
import Derived.Lib.Strings
set_option linter.unusedVariables false
set_option linter.unusedSimpArgs false
namespace Go.Proofs.Ytdpohibgipkhnaa
namespace Oct

/-- An octet, a letter A to Z as a to z. -/
def lowI (c : Int) : Int := if 65 ≤ c ∧ c ≤ 90 then c + 32 else c
def lowB (c : UInt8) : UInt8 := if 65 ≤ c.toNat ∧ c.toNat ≤ 90 then UInt8.ofNat (c.toNat + 32) else c
def lowS (s : ByteArray) : ByteArray := ⟨(s.data.toList.map lowB).toArray⟩
def blI (c : Int) : Bool := c == 32 || c == 9
def blB (c : UInt8) : Bool := blI c.toNat

theorem lowI_range (c : Int) (h0 : 0 ≤ c) (h1 : c ≤ 255) : 0 ≤ lowI c ∧ lowI c ≤ 255 := by unfold lowI; split <;> omega
theorem lowB_toNat (c : UInt8) : ((lowB c).toNat : Int) = lowI c.toNat := by
  have := c.toNat_lt
  unfold lowB lowI
  by_cases h : 65 ≤ c.toNat ∧ c.toNat ≤ 90
  · rw [if_pos h, if_pos (by omega)]
    simp
    omega
  · rw [if_neg h, if_neg (by omega)]
theorem lowB_idem (c : UInt8) : lowB (lowB c) = lowB c := by
  have h1 := lowB_toNat c
  have h2 := lowB_toNat (lowB c)
  apply UInt8.toNat_inj.1
  unfold lowI at h1 h2
  split at h1 <;> split at h2 <;> omega
theorem lowS_size (s : ByteArray) : (lowS s).size = s.size := by
  show (s.data.toList.map lowB).toArray.size = s.size
  simp
theorem lowS_data (s : ByteArray) : (lowS s).data.toList = s.data.toList.map lowB := rfl
theorem lowS_idem (s : ByteArray) : lowS (lowS s) = lowS s := by
  apply ByteArray.ext
  apply Array.ext'
  show ((lowS s).data.toList.map lowB) = s.data.toList.map lowB
  rw [lowS_data, List.map_map]
  exact List.map_congr_left fun c _ => lowB_idem c
theorem getElem_data (s : ByteArray) (k : Nat) (h : k < s.size) : s.data.toList[k]'(by simpa using h) = s[k] := rfl
theorem take_snoc (s : ByteArray) (k : Nat) (h : k < s.size) : s.data.toList.take (k + 1) = s.data.toList.take k ++ [s[k]] := by
  rw [List.take_succ_eq_append_getElem (by simpa using h)]; rfl
theorem bytes_eq_of_list {a b : ByteArray} (h : a.data.toList = b.data.toList) : a = b := by
  apply ByteArray.ext; apply Array.ext'; exact h

/-- Are two texts the same but for small letters, as far as k? -/
def foldS (a b : ByteArray) : Bool := decide (lowS a = lowS b)
theorem foldS_size {a b : ByteArray} (h : a.size ≠ b.size) : foldS a b = false := by
  unfold foldS
  apply decide_eq_false
  intro e
  apply h
  have := congrArg ByteArray.size e
  rwa [lowS_size, lowS_size] at this
theorem foldS_at {a b : ByteArray} (k : Nat) (ha : k < a.size) (hb : k < b.size) (h : ¬ lowI (a[k].toNat) = lowI (b[k].toNat)) : foldS a b = false := by
  unfold foldS
  apply decide_eq_false
  intro e
  apply h
  have e2 : a.data.toList.map lowB = b.data.toList.map lowB := by
    have := congrArg (fun s => s.data.toList) e
    simpa [lowS_data] using this
  have e3 : (a.data.toList.map lowB)[k]'(by simpa using ha) = (b.data.toList.map lowB)[k]'(by simpa using hb) := by simp only [e2]
  simp only [List.getElem_map] at e3
  have e4 := congrArg (fun c : UInt8 => (c.toNat : Int)) e3
  simp only [lowB_toNat] at e4
  exact e4
theorem foldS_true {a b : ByteArray} (hs : a.size = b.size) (h : ∀ k (ha : k < a.size) (hb : k < b.size), lowI (a[k].toNat) = lowI (b[k].toNat)) : foldS a b = true := by
  unfold foldS
  apply decide_eq_true
  apply bytes_eq_of_list
  rw [lowS_data, lowS_data]
  apply List.ext_getElem
  · simpa using hs
  · intro k h1 h2
    simp only [List.getElem_map]
    apply UInt8.toNat_inj.1
    have h1' : k < a.size := by simpa using h1
    have h2' : k < b.size := by simpa using h2
    have := h k h1' h2'
    rw [← lowB_toNat, ← lowB_toNat] at this
    exact Int.ofNat.inj this

/-- A text without blanks and tabs at its ends. -/
def trimL (l : List UInt8) : List UInt8 := ((l.dropWhile blB).reverse.dropWhile blB).reverse
def trimS (s : ByteArray) : ByteArray := ⟨(trimL s.data.toList).toArray⟩

theorem trimL_cons (c : UInt8) (l : List UInt8) (h : blB c = true) : trimL (c :: l) = trimL l := by
  unfold trimL; rw [List.dropWhile_cons_of_pos h]
theorem dropWhile_snoc (c : UInt8) (h : blB c = true) : ∀ l : List UInt8, ((l ++ [c]).dropWhile blB).reverse.dropWhile blB = (l.dropWhile blB).reverse.dropWhile blB
  | [] => by simp [h]
  | d :: l => by
    by_cases hd : blB d = true
    · rw [List.cons_append, List.dropWhile_cons_of_pos hd, List.dropWhile_cons_of_pos hd]; exact dropWhile_snoc c h l
    · rw [List.cons_append, List.dropWhile_cons_of_neg hd, List.dropWhile_cons_of_neg hd]
      rw [← List.cons_append, List.reverse_append]
      simp [h]
theorem trimL_snoc (c : UInt8) (l : List UInt8) (h : blB c = true) : trimL (l ++ [c]) = trimL l := by
  unfold trimL; rw [dropWhile_snoc c h l]
theorem trimL_self (l : List UInt8) (h0 : ∀ c, l.head? = some c → blB c = false) (h1 : ∀ c, l.getLast? = some c → blB c = false) : trimL l = l := by
  unfold trimL
  have e0 : l.dropWhile blB = l := by
    cases l with
    | nil => rfl
    | cons c l => exact List.dropWhile_cons_of_neg (by simp [h0 c rfl])
  rw [e0]
  have e1 : l.reverse.dropWhile blB = l.reverse := by
    cases hl : l.reverse with
    | nil => rfl
    | cons c r =>
      refine List.dropWhile_cons_of_neg (by
        have : l.getLast? = some c := by rw [← List.head?_reverse, hl]; rfl
        simp [h1 c this])
  rw [e1, List.reverse_reverse]

theorem extract_list (s : ByteArray) (i j : Nat) : (s.extract i j).data.toList = (s.data.toList.drop i).take (j - i) := by
  rw [ByteArray.data_extract, Array.toList_extract]
theorem trimS_first (s : ByteArray) (i j : Nat) (h : i < j) (hj : j ≤ s.size) (hb : blI (s[i]'(by omega)).toNat = true) : trimS (s.extract i j) = trimS (s.extract (i + 1) j) := by
  apply bytes_eq_of_list
  show trimL (s.extract i j).data.toList = trimL (s.extract (i + 1) j).data.toList
  rw [extract_list, extract_list]
  have hi : i < s.data.toList.length := by simp; omega
  rw [List.drop_eq_getElem_cons hi]
  obtain ⟨m, hm⟩ : ∃ m, j - i = m + 1 := ⟨j - i - 1, by omega⟩
  rw [hm, List.take_succ_cons, trimL_cons (s.data.toList[i]) _ hb]
  congr 2
  omega
theorem trimS_last (s : ByteArray) (i j : Nat) (h : i < j) (hj : j ≤ s.size) (hb : blI (s[j - 1]'(by omega)).toNat = true) : trimS (s.extract i j) = trimS (s.extract i (j - 1)) := by
  apply bytes_eq_of_list
  show trimL (s.extract i j).data.toList = trimL (s.extract i (j - 1)).data.toList
  rw [extract_list, extract_list]
  obtain ⟨m, hm⟩ : ∃ m, j - i = m + 1 := ⟨j - i - 1, by omega⟩
  have hm' : j - 1 - i = m := by omega
  have hlen : m < (s.data.toList.drop i).length := by
    have : s.data.toList.length = s.size := by simp
    rw [List.length_drop]; omega
  rw [hm, hm', List.take_succ_eq_append_getElem hlen]
  refine trimL_snoc _ _ ?_
  rw [List.getElem_drop]
  have : i + m = j - 1 := by omega
  simp only [this]
  exact hb
theorem trimS_self (s : ByteArray) (i j : Nat) (hij : i ≤ j) (hj : j ≤ s.size) (h0 : ∀ h : i < j, blI (s[i]'(by omega)).toNat = false) (h1 : ∀ h : i < j, blI (s[j - 1]'(by omega)).toNat = false) : trimS (s.extract i j) = s.extract i j := by
  apply bytes_eq_of_list
  show trimL (s.extract i j).data.toList = (s.extract i j).data.toList
  have hsz : s.data.toList.length = s.size := by simp
  rw [extract_list]
  by_cases h : i < j
  · obtain ⟨m, hm⟩ : ∃ m, j - i = m + 1 := ⟨j - i - 1, by omega⟩
    apply trimL_self
    · intro c hc
      rw [List.head?_take, if_neg (by omega), List.head?_drop, List.getElem?_eq_getElem (by omega)] at hc
      obtain rfl := Option.some.inj hc
      exact h0 h
    · intro c hc
      rw [List.getLast?_eq_getElem?, List.getElem?_take, List.getElem?_drop] at hc
      have hl : ((s.data.toList.drop i).take (j - i)).length = j - i := by rw [List.length_take, List.length_drop]; omega
      rw [hl, if_pos (by omega), List.getElem?_eq_getElem (by omega)] at hc
      obtain rfl := Option.some.inj hc
      have e : i + (j - i - 1) = j - 1 := by omega
      simp only [e]
      exact h1 h
  · rw [show j - i = 0 by omega]; rfl
theorem extract_all (s : ByteArray) : s.extract 0 s.size = s := by
  apply bytes_eq_of_list
  rw [extract_list]
  simp
  rw [List.take_of_length_le (by simp)]
theorem extract_size (t : ByteArray) (m : Nat) (hm : m ≤ t.size) : (t.extract 0 m).size = m := by simp; omega
theorem extract_cut (t : ByteArray) (m : Nat) (hm : m ≤ t.size) : (t.extract 0 m).extract 0 ((t.extract 0 m).size - 1) = t.extract 0 (m - 1) := by
  apply bytes_eq_of_list
  rw [extract_size t m hm, extract_list, extract_list, extract_list]
  rw [List.drop_zero, List.drop_zero, List.take_take]
  congr 1
  omega
theorem extract_head (t : ByteArray) (m : Nat) (h : 0 < (t.extract 0 m).size) (h2 : 0 < t.size) : (t.extract 0 m)[0]'h = t[0] := by
  rw [ByteArray.getElem_extract]
theorem trimS_size (s : ByteArray) : (trimS s).size ≤ s.size := by
  show (trimL s.data.toList).toArray.size ≤ s.data.size
  unfold trimL
  have h1 := (List.dropWhile_suffix blB (l := s.data.toList)).length_le
  have h2 := (List.dropWhile_suffix blB (l := (s.data.toList.dropWhile blB).reverse)).length_le
  simp at h1 h2 ⊢
  omega
end Oct
end Go.Proofs.Ytdpohibgipkhnaa
