
/-
  PLAIN: fields in one form.
-/
import Derived.Test.YtdpohibgipkhnaaCanPlain
import Derived.Test.YtdpohibgipkhnaaKeepPlain
import Derived.Test.YtdpohibgipkhnaaCanon
namespace Go.Proofs.Ytdpohibgipkhnaa
open Go.Proofs.Ytdpohibgipkhnaa.Oct

/-- What a name's fields come to. -/
def oneF (l : Flds) (name : ByteArray) : Flds :=
  if singB name = true then (allV l name).map (fun v => (nameS name, trimS v)) else [(nameS name, trimS (joinB (allV l name)))]
/-- .. those whose first field is the k-th, or one ahead of it. -/
def canTo (l : Flds) : Nat → Flds
  | 0 => []
  | k + 1 => canTo l k ++ (match l[k]? with | some f => if hitB f.1 (l.take k) = true then [] else oneF l f.1 | none => [])
def canF (l : Flds) : Flds := canTo l l.length
theorem canTo_hit {l : Flds} {k : Nat} (hk : k < l.length) (h : hitB l[k].1 (l.take k) = true) : canTo l (k + 1) = canTo l k := by
  simp [canTo, List.getElem?_eq_getElem hk, h]
theorem canTo_new {l : Flds} {k : Nat} (hk : k < l.length) (h : hitB l[k].1 (l.take k) = false) : canTo l (k + 1) = canTo l k ++ oneF l l[k].1 := by
  simp [canTo, List.getElem?_eq_getElem hk, h]
theorem oneF_sing {l : Flds} {n : ByteArray} (h : singB n = true) : oneF l n = (allV l n).map (fun v => (nameS n, trimS v)) := if_pos h
theorem oneF_join {l : Flds} {n : ByteArray} (h : singB n = false) : oneF l n = [(nameS n, trimS (joinB (allV l n)))] := if_neg (by rw [h]; simp)
theorem allV_le (l : Flds) (n : ByteArray) : (allV l n).length ≤ l.length := by
  have := allV_len l n l.length
  rwa [List.take_length] at this
theorem oneF_len (l : Flds) (n : ByteArray) (h : 0 < l.length) : (oneF l n).length ≤ l.length := by
  unfold oneF
  split
  · rw [List.length_map]; exact allV_le l n
  · show 1 ≤ l.length; omega
theorem canTo_len (l : Flds) : ∀ k, (canTo l k).length ≤ k * l.length
  | 0 => by simp [canTo]
  | k + 1 => by
    have ih := canTo_len l k
    have e : (k + 1) * l.length = k * l.length + l.length := by rw [Nat.add_mul, Nat.one_mul]
    by_cases hk : k < l.length
    · cases h : hitB l[k].1 (l.take k)
      · rw [canTo_new hk h, List.length_append]
        have := oneF_len l l[k].1 (by omega)
        omega
      · rw [canTo_hit hk h]; omega
    · have : canTo l (k + 1) = canTo l k := by
        simp [canTo, List.getElem?_eq_none (show l.length ≤ k by omega)]
      rw [this]; omega
theorem nameS_size (s : ByteArray) : (nameS s).size = s.size := by
  have := congrArg ByteArray.size (nameS_low s)
  rwa [lowS_size, lowS_size] at this
theorem mem_sum : ∀ (ss : List ByteArray) {v : ByteArray}, v ∈ ss → v.size ≤ (ss.map (·.size)).sum
  | [], v, h => by simp at h
  | s :: ss, v, h => by
    rw [List.map_cons, List.sum_cons]
    rcases List.mem_cons.1 h with rfl | h
    · omega
    · have := mem_sum ss h; omega
/-- Each of them has a name of l's, and a value that is no longer than a name's values together. -/
theorem oneF_mem {l : Flds} {n : ByteArray} {p : ByteArray × ByteArray} (h : p ∈ oneF l n) : p.1 = nameS n ∧ p.2.size ≤ sumS (allV l n) + 2 * (allV l n).length := by
  unfold oneF at h
  split at h
  · obtain ⟨v, hv, rfl⟩ := List.mem_map.1 h
    refine ⟨rfl, ?_⟩
    have h1 := trimS_size v
    have h2 : v.size ≤ sumS (allV l n) := by
      unfold sumS
      exact mem_sum (allV l n) hv
    show (trimS v).size ≤ _
    omega
  · rw [List.mem_singleton] at h
    subst h
    refine ⟨rfl, ?_⟩
    have h1 := trimS_size (joinB (allV l n))
    have h2 := joinB_size (allV l n)
    show (trimS (joinB (allV l n))).size ≤ _
    omega
theorem canTo_mem {l : Flds} {p : ByteArray × ByteArray} : ∀ {k : Nat}, p ∈ canTo l k → ∃ i, ∃ hi : i < l.length, i < k ∧ hitB l[i].1 (l.take i) = false ∧ p ∈ oneF l l[i].1
  | 0, h => by simp [canTo] at h
  | k + 1, h => by
    by_cases hk : k < l.length
    · cases hh : hitB l[k].1 (l.take k)
      · rw [canTo_new hk hh] at h
        rcases List.mem_append.1 h with h | h
        · obtain ⟨i, hi, h1, h2, h3⟩ := canTo_mem h
          exact ⟨i, hi, by omega, h2, h3⟩
        · exact ⟨k, hk, by omega, hh, h⟩
      · rw [canTo_hit hk hh] at h
        obtain ⟨i, hi, h1, h2, h3⟩ := canTo_mem h
        exact ⟨i, hi, by omega, h2, h3⟩
    · have : canTo l (k + 1) = canTo l k := by
        simp [canTo, List.getElem?_eq_none (show l.length ≤ k by omega)]
      rw [this] at h
      obtain ⟨i, hi, h1, h2, h3⟩ := canTo_mem h
      exact ⟨i, hi, by omega, h2, h3⟩
/-- The values of one name are together so long at most. -/
def SumLe (l : Flds) (m : Nat) : Prop := ∀ n, sumS (allV l n) + 2 * (allV l n).length ≤ m
theorem SumLe.of {l : Flds} {a b m : Nat} (hl : l.length ≤ a) (hs : ∀ p ∈ l, p.2.size ≤ b) (hm : a * (b + 2) ≤ m) : SumLe l m := by
  intro n
  have h1 := sumS_le (allV l n) b (fun s hs' => by obtain ⟨p, hp, rfl⟩ := allV_mem hs'; exact hs p hp)
  have h2 := allV_le l n
  have h3 : (allV l n).length * b ≤ a * b := Nat.mul_le_mul_right b (by omega)
  have h4 : a * (b + 2) = a * b + 2 * a := by rw [Nat.mul_add]; omega
  omega
theorem canTo_str {l : Flds} {k a m : Nat} (hn : ∀ p ∈ l, p.1.size ≤ a) (hs : SumLe l m) : ∀ p ∈ canTo l k, p.1.size ≤ a ∧ p.2.size ≤ m := by
  intro p hp
  obtain ⟨i, hi, _, _, h⟩ := canTo_mem hp
  obtain ⟨h1, h2⟩ := oneF_mem h
  have := hs l[i].1
  exact ⟨by rw [h1, nameS_size]; exact hn _ (List.getElem_mem hi), by omega⟩
/-- A name has come before, told by small letters. -/
theorem hit_low (n : ByteArray) (l : Flds) : hitB n l = decide (0 < (allV l n).length) := by
  unfold hitB allV
  induction l with
  | nil => rfl
  | cons f r ih =>
    rw [List.any_cons, ih]
    cases h : foldS n f.1 <;> simp [h]
/-- How often a name has come, told by small letters. -/
def lowCnt (l : Flds) (key : List UInt8) : Nat := (l.filter fun p => decide ((lowS p.1).data.toList = key)).length
theorem lowCnt_take (l : Flds) (key : List UInt8) (k : Nat) (hk : k < l.length) : lowCnt (l.take (k + 1)) key = lowCnt (l.take k) key + (if (lowS l[k].1).data.toList = key then 1 else 0) := by
  unfold lowCnt
  rw [List.take_succ_eq_append_getElem hk, List.filter_append, List.length_append]
  congr 1
  obtain ⟨f, hf⟩ : ∃ f, f = l[k] := ⟨_, rfl⟩
  rw [← hf]
  by_cases h : (lowS f.1).data.toList = key
  · rw [if_pos h]
    have : [f].filter (fun p => decide ((lowS p.1).data.toList = key)) = [f] := List.filter_cons_of_pos (by simp [h])
    rw [this]; rfl
  · rw [if_neg h]
    have : [f].filter (fun p => decide ((lowS p.1).data.toList = key)) = [] := List.filter_cons_of_neg (by simpa using h)
    rw [this]; rfl
theorem lowCnt_le (l : Flds) (key : List UInt8) (k : Nat) : lowCnt (l.take k) key ≤ k := by
  unfold lowCnt
  have := List.length_filter_le (fun p : ByteArray × ByteArray => decide ((lowS p.1).data.toList = key)) (l.take k)
  have h2 := List.length_take_le k l
  omega
theorem lowCnt_is (l : Flds) (n : ByteArray) : lowCnt l (lowS n).data.toList = (allV l n).length := by
  unfold lowCnt allV
  rw [List.length_map]
  congr 1
  apply List.filter_congr
  intro p _
  unfold foldS
  apply decide_eq_decide.2
  exact ⟨fun h => (bytes_eq_of_list h).symm, fun h => by rw [h]⟩
theorem lowCnt_hit (l : Flds) (n : ByteArray) : hitB n l = decide (0 < lowCnt l (lowS n).data.toList) := by
  rw [lowCnt_is, hit_low]
end Go.Proofs.Ytdpohibgipkhnaa
