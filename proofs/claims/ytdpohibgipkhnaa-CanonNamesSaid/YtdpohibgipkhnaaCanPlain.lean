
/-
  PLAIN: the one form of a name.
-/
import Derived.Test.YtdpohibgipkhnaaOctetPlain
import Derived.Test.YtdpohibgipkhnaaRunes
namespace Go.Proofs.Ytdpohibgipkhnaa
open Go.Proofs.Ytdpohibgipkhnaa.Oct

def upB (c : UInt8) : UInt8 := if 97 ≤ c.toNat ∧ c.toNat ≤ 122 then UInt8.ofNat (c.toNat - 32) else c
/-- A text's octets, made great where one begins: ahead (b) and behind a '-'. -/
def capL : Bool → List UInt8 → List UInt8
  | _, [] => []
  | b, c :: r => (if b = true then upB c else c) :: capL (c == 45) r
/-- Does a word begin behind xs? -/
def begL (b : Bool) (xs : List UInt8) : Bool := match xs.getLast? with | none => b | some c => c == 45
theorem capL_length (b : Bool) (l : List UInt8) : (capL b l).length = l.length := by
  induction l generalizing b with
  | nil => rfl
  | cons c r ih => simp [capL, ih]
theorem begL_cons (b : Bool) (c : UInt8) (r : List UInt8) : begL b (c :: r) = begL (c == 45) r := by
  unfold begL
  cases r with
  | nil => rfl
  | cons d r => simp [List.getLast?_cons_cons]
                cases h : (d :: r).getLast? with
                | none => simp at h
                | some x => rfl
theorem capL_snoc (b : Bool) (xs : List UInt8) (c : UInt8) : capL b (xs ++ [c]) = capL b xs ++ [if begL b xs = true then upB c else c] := by
  induction xs generalizing b with
  | nil => rfl
  | cons d r ih =>
    rw [begL_cons, List.cons_append]
    simp only [capL, ih]
    rfl
theorem upB_high (c : UInt8) (h : 128 ≤ c.toNat) : upB c = c := by unfold upB; rw [if_neg (by omega)]
def spec4 : List ByteArray := [⟨#[69, 84, 97, 103]⟩, ⟨#[84, 69]⟩, ⟨#[87, 87, 87, 45, 65, 117, 116, 104, 101, 110, 116, 105, 99, 97, 116, 101]⟩, ⟨#[68, 78, 84]⟩]
/-- The one form of a name. -/
def nameS (s : ByteArray) : ByteArray := match spec4.find? (fun n => foldS n s) with | some n => n | none => ⟨(capL true (lowS s).data.toList).toArray⟩
/-- What lies in the octets while Name runs: behind k of them. -/
def capMix (s : ByteArray) (k : Nat) : List UInt8 := capL true ((lowS s).data.toList.take k) ++ (lowS s).data.toList.drop k

theorem lowB_fix {s : ByteArray} {c : UInt8} (h : c ∈ (lowS s).data.toList) : lowB c = c := by
  rw [lowS_data] at h
  obtain ⟨d, _, rfl⟩ := List.mem_map.1 h
  exact lowB_idem d
theorem lowB_upB (c : UInt8) (h : lowB c = c) : lowB (upB c) = c := by
  have hc := c.toNat_lt
  unfold upB
  split
  · rename_i h1
    apply UInt8.toNat_inj.1
    have e : (UInt8.ofNat (c.toNat - 32)).toNat = c.toNat - 32 := by rw [UInt8.toNat_ofNat']; omega
    unfold lowB
    rw [e, if_pos (by omega), UInt8.toNat_ofNat']
    omega
  · exact h
theorem capL_low (b : Bool) (l : List UInt8) (h : ∀ c ∈ l, lowB c = c) : (capL b l).map lowB = l := by
  induction l generalizing b with
  | nil => rfl
  | cons c r ih =>
    simp only [capL, List.map_cons]
    rw [ih _ (fun d hd => h d (List.mem_cons_of_mem _ hd))]
    have hc := h c List.mem_cons_self
    cases b
    · simp [hc]
    · simp [lowB_upB c hc]
theorem nameS_low (s : ByteArray) : lowS (nameS s) = lowS s := by
  unfold nameS
  split
  · rename_i n hn
    have h2 : foldS n s = true := List.find?_some (p := fun n => foldS n s) hn
    exact of_decide_eq_true h2
  · apply bytes_eq_of_list
    rw [lowS_data]
    exact capL_low true _ (fun c hc => lowB_fix hc)
theorem nameS_of_low {a b : ByteArray} (h : lowS a = lowS b) : nameS a = nameS b := by
  unfold nameS foldS
  rw [h]
theorem nameS_idem (s : ByteArray) : nameS (nameS s) = nameS s := nameS_of_low (nameS_low s)
theorem nameS_fold (s : ByteArray) : foldS (nameS s) s = true := decide_eq_true (nameS_low s)
theorem capMix_zero (s : ByteArray) : capMix s 0 = (lowS s).data.toList := by simp [capMix, capL]
theorem capMix_all (s : ByteArray) (k : Nat) (h : (lowS s).data.toList.length ≤ k) : capMix s k = capL true (lowS s).data.toList := by
  unfold capMix
  rw [List.take_of_length_le h, List.drop_eq_nil_of_le h, List.append_nil]
theorem capMix_length (s : ByteArray) (k : Nat) : (capMix s k).length = (lowS s).data.toList.length := by
  unfold capMix
  rw [List.length_append, capL_length, ← List.length_append, List.take_append_drop]
theorem beg_take (l : List UInt8) (b : Bool) (k : Nat) (h : k < l.length) : begL b (l.take (k + 1)) = (l[k] == 45) := by
  unfold begL
  rw [List.take_succ_eq_append_getElem h, List.getLast?_append]
  rfl
theorem capMix_at (s : ByteArray) (k : Nat) (h : k < (lowS s).data.toList.length) : (capMix s k)[k]? = some (lowS s).data.toList[k] := by
  have hl : (capL true ((lowS s).data.toList.take k)).length = k := by rw [capL_length, List.length_take]; omega
  unfold capMix
  rw [List.getElem?_append_right (by omega), hl, Nat.sub_self, List.getElem?_drop, Nat.add_zero, List.getElem?_eq_getElem h]
/-- No word begins here, or the octet is none of a letter's. -/
theorem capMix_skip (s : ByteArray) (k : Nat) (h : k < (lowS s).data.toList.length) (hs : begL true ((lowS s).data.toList.take k) = false ∨ upB ((lowS s).data.toList[k]) = (lowS s).data.toList[k]) : capMix s (k + 1) = capMix s k := by
  unfold capMix
  rw [List.take_succ_eq_append_getElem h, capL_snoc, List.append_assoc, List.drop_eq_getElem_cons h]
  congr 1
  rcases hs with hs | hs
  · rw [hs]; rfl
  · rw [hs]; simp
theorem capMix_set (s : ByteArray) (k : Nat) (h : k < (lowS s).data.toList.length) (hs : begL true ((lowS s).data.toList.take k) = true) : (capMix s k).set k (upB ((lowS s).data.toList[k])) = capMix s (k + 1) := by
  unfold capMix
  have hl : (capL true ((lowS s).data.toList.take k)).length = k := by rw [capL_length, List.length_take]; omega
  rw [List.take_succ_eq_append_getElem h, capL_snoc, hs, List.append_assoc, List.drop_eq_getElem_cons h, List.set_append_right _ _ (by omega), hl, Nat.sub_self]
  rfl
end Go.Proofs.Ytdpohibgipkhnaa
