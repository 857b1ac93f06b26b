/-
  PLAIN: what octet and its reference compute, on lists of bytes: small letters, blanks cut off. No program in sight.
  PLAIN: a test that holds of all runes of a text holds of all its octets, where it answers alike at all runes and octets from 128 on. And the three tests: token, visible, value.
  PLAIN: the one form of a name.
  SMALL LAWS OF MY OWN FOR ALL WALKS OF THIS SEAT: worlds that are only drawn from; a row of cells in one block; append of one element to a slice that the call owns, with all side conditions on the new element paid.
  THE WALKS of octet: lower, blank, Fold, Trim and the reference's Trim: what each call answers, for every text.
  A []string THAT CAME IN: what the walks are told of it; and that the reader's word gives it.
  WORDS FOR MEMORY (after the guide's extra words): a slice that reads as a list, a block that is known whole, append of a slice to a row of the call's own, also as a step of a region that draws its order.
  A SLICE OF STRUCTS THAT CAME IN: its cells, whatever the number of one-cell fields (after the guide's extra structs); a list out of what is known at each place.
  A LIST OF FIELDS IN MEMORY, and the walks that look through one: slices.IndexFunc, slices.ContainsFunc, header's named, Few.
  A LIST OF TEXTS IN A ROW; THE WALK of abutmentref01.Same.
  THE WALKS of octet.Lower and the reference's Lower: the text with small letters; what was there before stays.
  THE WALKS of header: named, All, Get, Count; and of the document's Is, All, Get.
  THE WALKS of header: Get, Count; of the document's Is, All, Get, Join; of Few and of the document's Same on fields.
  THE WALKS of octet's classes: Tchar, Token, Value, Visible, and the reference's.
-/
import Derived.Laws.Strings
import Derived.Lib.Strings
import Derived.Laws.RangeAny
import Derived.Lib.SpaceUEq
import Derived.Test.YtdpohibgipkhnaaProg
import Derived.WalkKit
import Derived.WalkSpells
import Derived.WalkLawsBesides
import Derived.Deep.QuietTactic
import Derived.Deep.RegionWith
import Derived.Deep.LoopGhost
import Derived.BigQuiet
import Derived.Handy
import Derived.Maps.Range
import Derived.Lib.Hide
import Derived.ProofKit
import Derived.SliceStrings
import Derived.Deep.AppendLies
import Derived.Deep.Draws
import Derived.Maps.AppendAt
import Derived.RegionTactic
import Derived.OwnWalk
import Derived.Laws.OwnMore
import Derived.Laws.Rows
import Derived.Deep.Slices
import Derived.Deep.Fields
import Derived.ChangeSame
import Derived.Lib.QuietBelow
import Derived.StillTailTactics
namespace Go.Proofs.Ytdpohibgipkhnaa
namespace Oct

/-- An octet, a letter A to Z as a to z. -/
def lowI (c : Int) : Int := if 65 ≤ c ∧ c ≤ 90 then c + 32 else c
def lowB (c : UInt8) : UInt8 := if 65 ≤ c.toNat ∧ c.toNat ≤ 90 then UInt8.ofNat (c.toNat + 32) else c
def lowS (s : ByteArray) : ByteArray := ⟨(s.data.toList.map lowB).toArray⟩
def blI (c : Int) : Bool := c == 32 || c == 9
def blB (c : UInt8) : Bool := blI c.toNat

theorem lowI_range (c : Int) (h0 : 0 ≤ c) (h1 : c ≤ 255) : 0 ≤ lowI c ∧ lowI c ≤ 255 := by unfold lowI; split <;> omega
theorem lowB_toNat (c : UInt8) : ((lowB c).toNat : Int) = lowI c.toNat := by
  have := c.toNat_lt
  unfold lowB lowI
  by_cases h : 65 ≤ c.toNat ∧ c.toNat ≤ 90
  · rw [if_pos h, if_pos (by omega)]
    simp
    omega
  · rw [if_neg h, if_neg (by omega)]
theorem lowB_idem (c : UInt8) : lowB (lowB c) = lowB c := by
  have h1 := lowB_toNat c
  have h2 := lowB_toNat (lowB c)
  apply UInt8.toNat_inj.1
  unfold lowI at h1 h2
  split at h1 <;> split at h2 <;> omega
theorem lowS_size (s : ByteArray) : (lowS s).size = s.size := by
  show (s.data.toList.map lowB).toArray.size = s.size
  simp
theorem lowS_data (s : ByteArray) : (lowS s).data.toList = s.data.toList.map lowB := rfl
theorem lowS_idem (s : ByteArray) : lowS (lowS s) = lowS s := by
  apply ByteArray.ext
  apply Array.ext'
  show ((lowS s).data.toList.map lowB) = s.data.toList.map lowB
  rw [lowS_data, List.map_map]
  exact List.map_congr_left fun c _ => lowB_idem c
theorem getElem_data (s : ByteArray) (k : Nat) (h : k < s.size) : s.data.toList[k]'(by simpa using h) = s[k] := rfl
theorem take_snoc (s : ByteArray) (k : Nat) (h : k < s.size) : s.data.toList.take (k + 1) = s.data.toList.take k ++ [s[k]] := by
  rw [List.take_succ_eq_append_getElem (by simpa using h)]; rfl
theorem bytes_eq_of_list {a b : ByteArray} (h : a.data.toList = b.data.toList) : a = b := by
  apply ByteArray.ext; apply Array.ext'; exact h

/-- Are two texts the same but for small letters, as far as k? -/
def foldS (a b : ByteArray) : Bool := decide (lowS a = lowS b)
theorem foldS_size {a b : ByteArray} (h : a.size ≠ b.size) : foldS a b = false := by
  unfold foldS
  apply decide_eq_false
  intro e
  apply h
  have := congrArg ByteArray.size e
  rwa [lowS_size, lowS_size] at this
theorem foldS_at {a b : ByteArray} (k : Nat) (ha : k < a.size) (hb : k < b.size) (h : ¬ lowI (a[k].toNat) = lowI (b[k].toNat)) : foldS a b = false := by
  unfold foldS
  apply decide_eq_false
  intro e
  apply h
  have e2 : a.data.toList.map lowB = b.data.toList.map lowB := by
    have := congrArg (fun s => s.data.toList) e
    simpa [lowS_data] using this
  have e3 : (a.data.toList.map lowB)[k]'(by simpa using ha) = (b.data.toList.map lowB)[k]'(by simpa using hb) := by simp only [e2]
  simp only [List.getElem_map] at e3
  have e4 := congrArg (fun c : UInt8 => (c.toNat : Int)) e3
  simp only [lowB_toNat] at e4
  exact e4
theorem foldS_true {a b : ByteArray} (hs : a.size = b.size) (h : ∀ k (ha : k < a.size) (hb : k < b.size), lowI (a[k].toNat) = lowI (b[k].toNat)) : foldS a b = true := by
  unfold foldS
  apply decide_eq_true
  apply bytes_eq_of_list
  rw [lowS_data, lowS_data]
  apply List.ext_getElem
  · simpa using hs
  · intro k h1 h2
    simp only [List.getElem_map]
    apply UInt8.toNat_inj.1
    have h1' : k < a.size := by simpa using h1
    have h2' : k < b.size := by simpa using h2
    have := h k h1' h2'
    rw [← lowB_toNat, ← lowB_toNat] at this
    exact Int.ofNat.inj this

/-- A text without blanks and tabs at its ends. -/
def trimL (l : List UInt8) : List UInt8 := ((l.dropWhile blB).reverse.dropWhile blB).reverse
def trimS (s : ByteArray) : ByteArray := ⟨(trimL s.data.toList).toArray⟩

theorem trimL_cons (c : UInt8) (l : List UInt8) (h : blB c = true) : trimL (c :: l) = trimL l := by
  unfold trimL; rw [List.dropWhile_cons_of_pos h]
theorem dropWhile_snoc (c : UInt8) (h : blB c = true) : ∀ l : List UInt8, ((l ++ [c]).dropWhile blB).reverse.dropWhile blB = (l.dropWhile blB).reverse.dropWhile blB
  | [] => by simp [h]
  | d :: l => by
    by_cases hd : blB d = true
    · rw [List.cons_append, List.dropWhile_cons_of_pos hd, List.dropWhile_cons_of_pos hd]; exact dropWhile_snoc c h l
    · rw [List.cons_append, List.dropWhile_cons_of_neg hd, List.dropWhile_cons_of_neg hd]
      rw [← List.cons_append, List.reverse_append]
      simp [h]
theorem trimL_snoc (c : UInt8) (l : List UInt8) (h : blB c = true) : trimL (l ++ [c]) = trimL l := by
  unfold trimL; rw [dropWhile_snoc c h l]
theorem trimL_self (l : List UInt8) (h0 : ∀ c, l.head? = some c → blB c = false) (h1 : ∀ c, l.getLast? = some c → blB c = false) : trimL l = l := by
  unfold trimL
  have e0 : l.dropWhile blB = l := by
    cases l with
    | nil => rfl
    | cons c l => exact List.dropWhile_cons_of_neg (by simp [h0 c rfl])
  rw [e0]
  have e1 : l.reverse.dropWhile blB = l.reverse := by
    cases hl : l.reverse with
    | nil => rfl
    | cons c r =>
      refine List.dropWhile_cons_of_neg (by
        have : l.getLast? = some c := by rw [← List.head?_reverse, hl]; rfl
        simp [h1 c this])
  rw [e1, List.reverse_reverse]

theorem extract_list (s : ByteArray) (i j : Nat) : (s.extract i j).data.toList = (s.data.toList.drop i).take (j - i) := by
  rw [ByteArray.data_extract, Array.toList_extract]
theorem trimS_first (s : ByteArray) (i j : Nat) (h : i < j) (hj : j ≤ s.size) (hb : blI (s[i]'(by omega)).toNat = true) : trimS (s.extract i j) = trimS (s.extract (i + 1) j) := by
  apply bytes_eq_of_list
  show trimL (s.extract i j).data.toList = trimL (s.extract (i + 1) j).data.toList
  rw [extract_list, extract_list]
  have hi : i < s.data.toList.length := by simp; omega
  rw [List.drop_eq_getElem_cons hi]
  obtain ⟨m, hm⟩ : ∃ m, j - i = m + 1 := ⟨j - i - 1, by omega⟩
  rw [hm, List.take_succ_cons, trimL_cons (s.data.toList[i]) _ hb]
  congr 2
  omega
theorem trimS_last (s : ByteArray) (i j : Nat) (h : i < j) (hj : j ≤ s.size) (hb : blI (s[j - 1]'(by omega)).toNat = true) : trimS (s.extract i j) = trimS (s.extract i (j - 1)) := by
  apply bytes_eq_of_list
  show trimL (s.extract i j).data.toList = trimL (s.extract i (j - 1)).data.toList
  rw [extract_list, extract_list]
  obtain ⟨m, hm⟩ : ∃ m, j - i = m + 1 := ⟨j - i - 1, by omega⟩
  have hm' : j - 1 - i = m := by omega
  have hlen : m < (s.data.toList.drop i).length := by
    have : s.data.toList.length = s.size := by simp
    rw [List.length_drop]; omega
  rw [hm, hm', List.take_succ_eq_append_getElem hlen]
  refine trimL_snoc _ _ ?_
  rw [List.getElem_drop]
  have : i + m = j - 1 := by omega
  simp only [this]
  exact hb
theorem trimS_self (s : ByteArray) (i j : Nat) (hij : i ≤ j) (hj : j ≤ s.size) (h0 : ∀ h : i < j, blI (s[i]'(by omega)).toNat = false) (h1 : ∀ h : i < j, blI (s[j - 1]'(by omega)).toNat = false) : trimS (s.extract i j) = s.extract i j := by
  apply bytes_eq_of_list
  show trimL (s.extract i j).data.toList = (s.extract i j).data.toList
  have hsz : s.data.toList.length = s.size := by simp
  rw [extract_list]
  by_cases h : i < j
  · obtain ⟨m, hm⟩ : ∃ m, j - i = m + 1 := ⟨j - i - 1, by omega⟩
    apply trimL_self
    · intro c hc
      rw [List.head?_take, if_neg (by omega), List.head?_drop, List.getElem?_eq_getElem (by omega)] at hc
      obtain rfl := Option.some.inj hc
      exact h0 h
    · intro c hc
      rw [List.getLast?_eq_getElem?, List.getElem?_take, List.getElem?_drop] at hc
      have hl : ((s.data.toList.drop i).take (j - i)).length = j - i := by rw [List.length_take, List.length_drop]; omega
      rw [hl, if_pos (by omega), List.getElem?_eq_getElem (by omega)] at hc
      obtain rfl := Option.some.inj hc
      have e : i + (j - i - 1) = j - 1 := by omega
      simp only [e]
      exact h1 h
  · rw [show j - i = 0 by omega]; rfl
theorem extract_all (s : ByteArray) : s.extract 0 s.size = s := by
  apply bytes_eq_of_list
  rw [extract_list]
  simp
  rw [List.take_of_length_le (by simp)]
theorem extract_size (t : ByteArray) (m : Nat) (hm : m ≤ t.size) : (t.extract 0 m).size = m := by simp; omega
theorem extract_cut (t : ByteArray) (m : Nat) (hm : m ≤ t.size) : (t.extract 0 m).extract 0 ((t.extract 0 m).size - 1) = t.extract 0 (m - 1) := by
  apply bytes_eq_of_list
  rw [extract_size t m hm, extract_list, extract_list, extract_list]
  rw [List.drop_zero, List.drop_zero, List.take_take]
  congr 1
  omega
theorem extract_head (t : ByteArray) (m : Nat) (h : 0 < (t.extract 0 m).size) (h2 : 0 < t.size) : (t.extract 0 m)[0]'h = t[0] := by
  rw [ByteArray.getElem_extract]
theorem trimS_size (s : ByteArray) : (trimS s).size ≤ s.size := by
  show (trimL s.data.toList).toArray.size ≤ s.data.size
  unfold trimL
  have h1 := (List.dropWhile_suffix blB (l := s.data.toList)).length_le
  have h2 := (List.dropWhile_suffix blB (l := (s.data.toList.dropWhile blB).reverse)).length_le
  simp at h1 h2 ⊢
  omega
end Oct
end Go.Proofs.Ytdpohibgipkhnaa
namespace Go.Proofs.Ytdpohibgipkhnaa
namespace Oct

/-- Are all octets from pos on so? -/
def allFrom (q : Int → Bool) (s : ByteArray) (pos : Nat) : Bool := (s.data.toList.drop pos).all fun c => q c.toNat

theorem allFrom_end (q : Int → Bool) (s : ByteArray) (pos : Nat) (h : ¬ pos < s.size) : allFrom q s pos = true := by
  unfold allFrom
  rw [List.drop_of_length_le (by simp; omega)]
  rfl
theorem allFrom_cons (q : Int → Bool) (s : ByteArray) (pos : Nat) (h : pos < s.size) : allFrom q s pos = (q (s[pos].toNat) && allFrom q s (pos + 1)) := by
  unfold allFrom
  rw [List.drop_eq_getElem_cons (show pos < s.data.toList.length by simpa using h), List.all_cons]
  rfl
theorem getD_at (s : ByteArray) (i : Nat) (h : i < s.size) : s.data.toList.getD i 0 = s[i] := by
  rw [List.getD_eq_getElem?_getD, List.getElem?_eq_getElem (by simpa using h)]
  rfl
/-- Behind a rune's first octet its others are from 128 on. -/
theorem decode_rest (s : ByteArray) (pos : Nat) (h : pos < s.size) : pos + (Utf8.decode s pos).2 ≤ s.size ∧ ∀ j (hj : pos + j < s.size), 1 ≤ j → j < (Utf8.decode s pos).2 → 128 ≤ (s[pos + j]).toNat := by
  have hc := Lib.decodeN_conts (s.data.toList.length - pos) (s.data.toList.getD pos 0).toNat (s.data.toList.getD (pos + 1) 0).toNat (s.data.toList.getD (pos + 2) 0).toNat (s.data.toList.getD (pos + 3) 0).toNat
  rw [← Lib.decode_N] at hc
  obtain ⟨c2, c3, c4, c5⟩ := hc
  have hlen : s.data.toList.length = s.size := by simp
  rw [hlen] at c2 c3 c4
  refine ⟨by omega, fun j hj h1 h2 => ?_⟩
  have e := getD_at s (pos + j) hj
  rcases (show j = 1 ∨ j = 2 ∨ j = 3 from by omega) with rfl | rfl | rfl
  · have := c2 (by omega); rw [e] at this; omega
  · have := c3 (by omega); rw [e] at this; omega
  · have := c4 (by omega); rw [e] at this; omega
theorem allFrom_skip (q : Int → Bool) (hq : ∀ r : Int, 128 ≤ r → q r = true) (s : ByteArray) (pos : Nat) : ∀ n, pos + n ≤ s.size → (∀ j (hj : pos + j < s.size), j < n → q (s[pos + j].toNat) = true) → allFrom q s pos = allFrom q s (pos + n)
  | 0, _, _ => rfl
  | n + 1, hn, hall => by
    rw [allFrom_skip q hq s pos n (by omega) (fun j hj h => hall j hj (by omega)), allFrom_cons q s (pos + n) (by omega), hall n (by omega) (by omega), Bool.true_and]
    rfl
/-- One rune on: the test said yes. -/
theorem allFrom_yes (q : Int → Bool) (b : Bool) (hq : ∀ r : Int, 128 ≤ r → q r = b) (s : ByteArray) (pos : Nat) (h : pos < s.size) (hy : q (Utf8.decode s pos).1 = true) : allFrom q s pos = allFrom q s (pos + (Utf8.decode s pos).2) := by
  by_cases ha : (s[pos]).toNat < 128
  · rw [decode_ascii s pos h ha] at hy ⊢
    rw [allFrom_cons q s pos h]
    simp only at hy ⊢
    rw [hy, Bool.true_and]
  · have hd := decode_high s pos h (by omega)
    have hr := decode_rest s pos h
    have hb : b = true := (hq ((Utf8.decode s pos).1 : Nat) (by omega)).symm.trans hy
    subst hb
    refine allFrom_skip q hq s pos _ hr.1 fun j hj hjw => hq _ ?_
    by_cases hj0 : j = 0
    · subst hj0; simp only [Nat.add_zero]; omega
    · have := hr.2 j hj (by omega) hjw; omega
/-- .. it said no. -/
theorem allFrom_no (q : Int → Bool) (b : Bool) (hq : ∀ r : Int, 128 ≤ r → q r = b) (s : ByteArray) (pos : Nat) (h : pos < s.size) (hn : q (Utf8.decode s pos).1 = false) : allFrom q s pos = false := by
  rw [allFrom_cons q s pos h]
  by_cases ha : (s[pos]).toNat < 128
  · rw [decode_ascii s pos h ha] at hn
    simp only at hn
    rw [hn, Bool.false_and]
  · have hd := decode_high s pos h (by omega)
    have hb : b = false := (hq ((Utf8.decode s pos).1 : Nat) (by omega)).symm.trans hn
    rw [hq ((s[pos]).toNat : Nat) (by omega), hb, Bool.false_and]

/-- The signs that a token may have. -/
def marksL : List Int := [33, 35, 36, 37, 38, 39, 42, 43, 45, 46, 94, 95, 96, 124, 126]
def alnumI (r : Int) : Bool := (decide (97 ≤ r) && decide (r ≤ 122)) || (decide (65 ≤ r) && decide (r ≤ 90)) || (decide (48 ≤ r) && decide (r ≤ 57))
def tcharI (r : Int) : Bool := alnumI r || marksL.contains r
def visI (r : Int) : Bool := decide (32 < r) && decide (r < 127)
def valI (r : Int) : Bool := r == 9 || (decide (32 ≤ r) && r != 127)

theorem tcharI_high (r : Int) (h : 128 ≤ r) : tcharI r = false := by
  have h1 : alnumI r = false := by unfold alnumI; simp; omega
  unfold tcharI marksL
  rw [h1, Bool.false_or]
  simp
  omega
theorem visI_high (r : Int) (h : 128 ≤ r) : visI r = false := by unfold visI; simp; omega
theorem valI_high (r : Int) (h : 128 ≤ r) : valI r = true := by unfold valI; simp; omega

def tokenS (s : ByteArray) : Bool := decide (0 < s.size) && allFrom tcharI s 0
def visibleS (s : ByteArray) : Bool := decide (0 < s.size) && allFrom visI s 0
def valueS (s : ByteArray) : Bool := allFrom valI s 0
end Oct
end Go.Proofs.Ytdpohibgipkhnaa
namespace Go.Proofs.Ytdpohibgipkhnaa
open Go.Proofs.Ytdpohibgipkhnaa.Oct

def upB (c : UInt8) : UInt8 := if 97 ≤ c.toNat ∧ c.toNat ≤ 122 then UInt8.ofNat (c.toNat - 32) else c
/-- A text's octets, made great where one begins: ahead (b) and behind a '-'. -/
def capL : Bool → List UInt8 → List UInt8
  | _, [] => []
  | b, c :: r => (if b = true then upB c else c) :: capL (c == 45) r
/-- Does a word begin behind xs? -/
def begL (b : Bool) (xs : List UInt8) : Bool := match xs.getLast? with | none => b | some c => c == 45
theorem capL_length (b : Bool) (l : List UInt8) : (capL b l).length = l.length := by
  induction l generalizing b with
  | nil => rfl
  | cons c r ih => simp [capL, ih]
theorem begL_cons (b : Bool) (c : UInt8) (r : List UInt8) : begL b (c :: r) = begL (c == 45) r := by
  unfold begL
  cases r with
  | nil => rfl
  | cons d r => simp [List.getLast?_cons_cons]
                cases h : (d :: r).getLast? with
                | none => simp at h
                | some x => rfl
theorem capL_snoc (b : Bool) (xs : List UInt8) (c : UInt8) : capL b (xs ++ [c]) = capL b xs ++ [if begL b xs = true then upB c else c] := by
  induction xs generalizing b with
  | nil => rfl
  | cons d r ih =>
    rw [begL_cons, List.cons_append]
    simp only [capL, ih]
    rfl
theorem upB_high (c : UInt8) (h : 128 ≤ c.toNat) : upB c = c := by unfold upB; rw [if_neg (by omega)]
def spec4 : List ByteArray := [⟨#[69, 84, 97, 103]⟩, ⟨#[84, 69]⟩, ⟨#[87, 87, 87, 45, 65, 117, 116, 104, 101, 110, 116, 105, 99, 97, 116, 101]⟩, ⟨#[68, 78, 84]⟩]
/-- The one form of a name. -/
def nameS (s : ByteArray) : ByteArray := match spec4.find? (fun n => foldS n s) with | some n => n | none => ⟨(capL true (lowS s).data.toList).toArray⟩
/-- What lies in the octets while Name runs: behind k of them. -/
def capMix (s : ByteArray) (k : Nat) : List UInt8 := capL true ((lowS s).data.toList.take k) ++ (lowS s).data.toList.drop k

theorem lowB_fix {s : ByteArray} {c : UInt8} (h : c ∈ (lowS s).data.toList) : lowB c = c := by
  rw [lowS_data] at h
  obtain ⟨d, _, rfl⟩ := List.mem_map.1 h
  exact lowB_idem d
theorem lowB_upB (c : UInt8) (h : lowB c = c) : lowB (upB c) = c := by
  have hc := c.toNat_lt
  unfold upB
  split
  · rename_i h1
    apply UInt8.toNat_inj.1
    have e : (UInt8.ofNat (c.toNat - 32)).toNat = c.toNat - 32 := by rw [UInt8.toNat_ofNat']; omega
    unfold lowB
    rw [e, if_pos (by omega), UInt8.toNat_ofNat']
    omega
  · exact h
theorem capL_low (b : Bool) (l : List UInt8) (h : ∀ c ∈ l, lowB c = c) : (capL b l).map lowB = l := by
  induction l generalizing b with
  | nil => rfl
  | cons c r ih =>
    simp only [capL, List.map_cons]
    rw [ih _ (fun d hd => h d (List.mem_cons_of_mem _ hd))]
    have hc := h c List.mem_cons_self
    cases b
    · simp [hc]
    · simp [lowB_upB c hc]
theorem nameS_low (s : ByteArray) : lowS (nameS s) = lowS s := by
  unfold nameS
  split
  · rename_i n hn
    have h2 : foldS n s = true := List.find?_some (p := fun n => foldS n s) hn
    exact of_decide_eq_true h2
  · apply bytes_eq_of_list
    rw [lowS_data]
    exact capL_low true _ (fun c hc => lowB_fix hc)
theorem nameS_of_low {a b : ByteArray} (h : lowS a = lowS b) : nameS a = nameS b := by
  unfold nameS foldS
  rw [h]
theorem nameS_idem (s : ByteArray) : nameS (nameS s) = nameS s := nameS_of_low (nameS_low s)
theorem nameS_fold (s : ByteArray) : foldS (nameS s) s = true := decide_eq_true (nameS_low s)
theorem capMix_zero (s : ByteArray) : capMix s 0 = (lowS s).data.toList := by simp [capMix, capL]
theorem capMix_all (s : ByteArray) (k : Nat) (h : (lowS s).data.toList.length ≤ k) : capMix s k = capL true (lowS s).data.toList := by
  unfold capMix
  rw [List.take_of_length_le h, List.drop_eq_nil_of_le h, List.append_nil]
theorem capMix_length (s : ByteArray) (k : Nat) : (capMix s k).length = (lowS s).data.toList.length := by
  unfold capMix
  rw [List.length_append, capL_length, ← List.length_append, List.take_append_drop]
theorem beg_take (l : List UInt8) (b : Bool) (k : Nat) (h : k < l.length) : begL b (l.take (k + 1)) = (l[k] == 45) := by
  unfold begL
  rw [List.take_succ_eq_append_getElem h, List.getLast?_append]
  rfl
theorem capMix_at (s : ByteArray) (k : Nat) (h : k < (lowS s).data.toList.length) : (capMix s k)[k]? = some (lowS s).data.toList[k] := by
  have hl : (capL true ((lowS s).data.toList.take k)).length = k := by rw [capL_length, List.length_take]; omega
  unfold capMix
  rw [List.getElem?_append_right (by omega), hl, Nat.sub_self, List.getElem?_drop, Nat.add_zero, List.getElem?_eq_getElem h]
/-- No word begins here, or the octet is none of a letter's. -/
theorem capMix_skip (s : ByteArray) (k : Nat) (h : k < (lowS s).data.toList.length) (hs : begL true ((lowS s).data.toList.take k) = false ∨ upB ((lowS s).data.toList[k]) = (lowS s).data.toList[k]) : capMix s (k + 1) = capMix s k := by
  unfold capMix
  rw [List.take_succ_eq_append_getElem h, capL_snoc, List.append_assoc, List.drop_eq_getElem_cons h]
  congr 1
  rcases hs with hs | hs
  · rw [hs]; rfl
  · rw [hs]; simp
theorem capMix_set (s : ByteArray) (k : Nat) (h : k < (lowS s).data.toList.length) (hs : begL true ((lowS s).data.toList.take k) = true) : (capMix s k).set k (upB ((lowS s).data.toList[k])) = capMix s (k + 1) := by
  unfold capMix
  have hl : (capL true ((lowS s).data.toList.take k)).length = k := by rw [capL_length, List.length_take]; omega
  rw [List.take_succ_eq_append_getElem h, capL_snoc, hs, List.append_assoc, List.drop_eq_getElem_cons h, List.set_append_right _ _ (by omega), hl, Nat.sub_self]
  rfl
end Go.Proofs.Ytdpohibgipkhnaa
namespace Go.Proofs.Ytdpohibgipkhnaa
open Go.RowKit

theorem ret_int {k : IntKind} {a b : Int} (h : a = b) : Ending.returned (.int k a) = .returned (.int k b) := by rw [h]
theorem ret_bool {a b : Bool} (h : a = b) : Ending.returned (.bool a) = .returned (.bool b) := by rw [h]
theorem ret_str {a b : ByteArray} (h : a = b) : Ending.returned (.string a) = .returned (.string b) := by rw [h]

/-- The world behind a call that makes nothing and writes nothing. -/
def Drawn (w w' : World) : Prop := ∃ n, w' = w.drewN n
theorem Drawn.refl (w : World) : Drawn w w := ⟨0, rfl⟩
theorem Drawn.trans {a b c : World} (h : Drawn a b) (k : Drawn b c) : Drawn a c := by
  obtain ⟨n, rfl⟩ := h
  obtain ⟨m, rfl⟩ := k
  exact ⟨n + m, World.drewN_drewN _ _ _⟩
theorem Drawn.drewN {a b : World} (h : Drawn a b) (n : Nat) : Drawn a (b.drewN n) := h.trans ⟨n, rfl⟩
theorem Drawn.below {w w' : World} (h : Drawn w w') (B : Nat) : Below B w w' := by
  obtain ⟨n, rfl⟩ := h
  exact below_drewN (Below.refl _ _) n

/-- Call behind call: nothing that was there at the first one's start has turned. -/
theorem grow_trans {w a b : World} (h : Below w.heap.size w a) (k : Below a.heap.size a b) : Below w.heap.size w b := h.trans (k.mono h.size)
theorem Drawn.grow {w w' : World} (h : Drawn w w') : Below w.heap.size w w' := h.below _

/-- Below a block that a law on append wrote: nothing older has turned. -/
theorem below_of_grown {B : Nat} {w w' : World} {row : Option Nat} (h : w.grownBy w' row) (hB : B ≤ w.heap.size) (hr : ∀ k, row = some k → B ≤ k) : Below B w w' := (Below.refl B w).grown h hB hr

/-- The element type's row of the table, kept from the walk. -/
theorem info_hid {P : Program} {e : TypeId} {z : Value} {size bytes : Nat} (h : (P.info? e).map (fun i => (i.zero, i.size, i.bytes)) = some (some z, size, bytes)) :
    ∃ i, Hid (P.info? e = some i) ∧ Hid (i.zero = some z ∧ i.size = size ∧ i.bytes = bytes) := by
  obtain ⟨i, h0, h1, h2, h3⟩ := info_parts h
  exact ⟨i, h0, h1, h2, h3⟩

theorem add_head (g j : Nat) : (⟨g, 0, none⟩ : Addr).add j = ⟨g, j, none⟩ := by unfold Addr.add; split <;> simp_all

/-- 'out = append(out, x)', out the call's own, x ONE element whose cells the walk has just laid in a new block: the value is a slice at a row's head, and of what was there before that new block only out's own row has been written. -/
theorem wpList_append_new {P : Program} {ops : Array Oper} {rest : List Oper} {o : Oper} {a : Act} {Q : Exit → Act → World → Prop} (hgd : o.guard = none) (s x : Operand) (t : TypeId)
    (ho : o.op = .call { callee := .builtin .append, args := #[s, x], argTypes := #[t, t] })
    (base : Nat) (e : TypeId) {i : TypeInfo} {z : Value} {size bytes : Nat} (ht : P.underlying t = some (.slice e)) (hi : Hid (P.info? e = some i)) (hz : Hid (i.zero = some z ∧ i.size = size ∧ i.bytes = bytes))
    (hzs : z.cells.size = size) (hsz : 0 < size) (wr : World) (cs : List Value)
    {v : Value} {n : Nat} {xs : List Value} (hown : wr.ownsRow base e size v n xs) (hs : a.eval s = v)
    (hx : a.eval x = .slice (some ⟨wr.heap.size, 0, none⟩) 1 1) (hl : cs.length = size) (h1 : ∀ u ∈ cs, u.oneCell' = true)
    (h63 : n + 1 ≤ maxLen) (hbytes : (n + 1) * bytes ≤ 140737488355328) (hbase : base ≤ wr.heap.size)
    (h : ∀ g' cap' w', w'.ownsRow base e size (.slice (some ⟨g', 0, none⟩) (n + 1) cap') (n + 1) (xs ++ cs) → wr.grownBy w' v.ownBlock → wpList P ops Q rest (a.put o.dst (.slice (some ⟨g', 0, none⟩) (n + 1) cap')) w') :
    wpList P ops Q (o :: rest) a (wr.alloc (.cells cs.toArray e)) := by
  refine wpList_append_own _ hgd s x t ho base e i z size bytes ht hi.out hz.out.1 hz.out.2.1 hz.out.2.2 hzs hsz v n xs hs (hown.alloc _) ⟨wr.heap.size, 0, none⟩ 1 1 cs hx (by rw [hl, Nat.one_mul]) ?_ h1 h63 hbytes (by simp; omega) ?_
  · intro j u hj
    rw [add_head, World.cell?_alloc_new]
    simpa using hj
  · intro v' w' hown' hg hnil
    have hg' : wr.grownBy w' v.ownBlock := (World.grownBy_alloc wr _ v.ownBlock).trans hg
    rcases hown'.2 with ⟨hv, h0⟩ | ⟨g', cap', cur, hv, _⟩
    · omega
    · subst hv
      exact h g' cap' w' hown' hg'

theorem one_int (k : IntKind) (n : Int) : ∀ u ∈ [Value.int k n], u.oneCell' = true := by
  intro u hu; obtain rfl := List.mem_singleton.1 hu; rfl
theorem one_str (s : ByteArray) : ∀ u ∈ [Value.string s], u.oneCell' = true := by
  intro u hu; obtain rfl := List.mem_singleton.1 hu; rfl
/-- Behind an append to what the call owns from B on: nothing below B has turned. -/
theorem below_owned {B : Nat} {a w w' : World} {e : TypeId} {size : Nat} {v : Value} {n : Nat} {xs : List Value} (h : Below B a w) (hB : B ≤ w.heap.size) (hown : w.ownsRow B e size v n xs) (hg : w.grownBy w' v.ownBlock) : Below B a w' :=
  h.grown hg hB fun k hk => (hown.lt k hk).1

theorem toList_empty (s : ByteArray) (h : s.size = 0) : s.toList = [] := by
  rw [ByteArray.toList_eq]
  exact List.eq_nil_of_length_eq_zero (by simpa using h)
theorem toList_some (s : ByteArray) (h : 0 < s.size) : s.toList.isEmpty = false := by
  rw [ByteArray.toList_eq]
  cases hl : s.data.toList with
  | nil =>
    have h2 : s.data.toList.length = s.size := by simp
    rw [hl] at h2
    simp at h2
    omega
  | cons a l => rfl

/-- What is owned stays so behind a call that turns nothing of what was there. -/
theorem own_below {w w' : World} {B e size : Nat} {v : Value} {n : Nat} {xs : List Value} (h : w.ownsRow B e size v n xs) (hb : Below w.heap.size w w') : w'.ownsRow B e size v n xs := by
  refine ⟨h.1, ?_⟩
  rcases h.2 with h2 | ⟨g, cap, cur, hv, hg, hh, r⟩
  · exact .inl h2
  · exact .inr ⟨g, cap, cur, hv, hg, (hb.block g (lt_of_block hh)).trans hh, r⟩

/-- A row of cells in one block, none of them frozen. -/
def CellsAt (w : World) (b : Nat) (vs : List Value) : Prop := ∀ j (h : j < vs.length), w.cell? ⟨b, j, none⟩ = some vs[j] ∧ w.frozen? ⟨b, j, none⟩ = false
theorem CellsAt.cell {w : World} {b : Nat} {vs : List Value} (h : CellsAt w b vs) (j : Nat) (hj : j < vs.length) : w.cell? ⟨b, j, none⟩ = some vs[j] := (h j hj).1
theorem CellsAt.free {w : World} {b : Nat} {vs : List Value} (h : CellsAt w b vs) (j : Nat) (hj : j < vs.length) : w.frozen? ⟨b, j, none⟩ = false := (h j hj).2
theorem CellsAt.set {w : World} {b : Nat} {vs : List Value} (h : CellsAt w b vs) (k : Nat) (u : Value) : CellsAt (w.setCell ⟨b, k, none⟩ u) b (vs.set k u) := by
  intro j hj
  have hj' : j < vs.length := by simpa using hj
  refine ⟨?_, by rw [World.frozen?_setCell]; exact h.free j hj'⟩
  rw [List.getElem_set]
  by_cases e : k = j
  · subst e
    rw [if_pos rfl]
    exact World.cell?_setCell_same w _ _ (h.cell k hj')
  · rw [if_neg e, World.cell?_setCell_other w _ _ _ (fun h => e (congrArg Addr.off h))]
    exact h.cell j hj'
theorem CellsAt.drewN {w : World} {b : Nat} {vs : List Value} (h : CellsAt w b vs) (n : Nat) : CellsAt (w.drewN n) b vs := h
theorem CellsAt.block {w w' : World} {b : Nat} {vs : List Value} (h : CellsAt w b vs) (hb : w'.heap[b]? = w.heap[b]?) : CellsAt w' b vs := fun j hj =>
  ⟨(World.cell?_of_block (w := w) (a := ⟨b, j, none⟩) hb).trans (h.cell j hj), (World.frozen?_of_block (w := w) (a := ⟨b, j, none⟩) hb).trans (h.free j hj)⟩

/-- The cells of a text's octets. -/
def byteVals (l : List UInt8) : List Value := l.map fun c => Value.int .u8 c.toNat
theorem byteVals_snoc (l : List UInt8) (c : UInt8) : byteVals (l ++ [c]) = byteVals l ++ [.int .u8 c.toNat] := by simp [byteVals]
theorem byteVals_length (l : List UInt8) : (byteVals l).length = l.length := by simp [byteVals]
theorem byteVals_get (l : List UInt8) (j : Nat) (h : j < (byteVals l).length) : (byteVals l)[j] = .int .u8 (l[j]'(by simpa [byteVals] using h)).toNat := by simp [byteVals]
theorem byteVals_set (l : List UInt8) (k : Nat) (c : UInt8) : (byteVals l).set k (.int .u8 c.toNat) = byteVals (l.set k c) := by simp [byteVals, List.map_set]

/-- The cells of a row, read as octets: the text that 'string(b)' makes. -/
theorem back_of_cells {P : Program} {w : World} {e g cap : Nat} {l : List UInt8} (src dst : TypeId) (hsrc : P.underlying src = some (.slice e)) (he : P.underlying e = some (.int .u8)) (hd : P.underlying dst = some .string)
    (hc : CellsAt w g (byteVals l)) (n : Nat) (hn : n = l.length) : (convert src dst (.slice (some ⟨g, 0, none⟩) n cap)).run P w = .ok (.string ⟨l.toArray⟩) w := by
  subst hn
  refine run_convert_bytes_back w src dst e _ cap l hsrc he hd fun j hj => ?_
  rw [add_head, hc.cell j (by rw [byteVals_length]; exact hj), byteVals_get]
theorem CellsAt.of_owned {w : World} {base e g n cap : Nat} {vs : List Value} (h : w.ownsRow base e 1 (.slice (some ⟨g, 0, none⟩) n cap) n vs) : CellsAt w g vs := by
  intro j hj
  have hl := h.1
  exact ⟨by rw [h.cellAt j (by omega), List.getElem?_eq_getElem hj], h.frozenAt j⟩

/-- What '[]byte(s)' lays: a row of the octets; its cells may be written. -/
theorem CellsAt.of_bytes (w : World) (s : ByteArray) (cap : Nat) (e : TypeId) : CellsAt (w.alloc (.cells (bytesRow s cap) e ((bytesRow s cap).size, (bytesRow s cap).size + 1))) w.heap.size (byteVals s.data.toList) := by
  intro j hj
  have hj' : j < s.data.size := by simpa [byteVals] using hj
  refine ⟨?_, ?_⟩
  · rw [World.cell?_alloc_mark, bytesRow_at s cap j hj']
    simp [byteVals]
  · rw [World.frozen?_alloc_mark]
    have h2 : j < (bytesRow s cap).size := by
      have : s.data.size ≤ (bytesRow s cap).size := by unfold bytesRow; rw [Array.size_append, Array.size_map]; omega
      omega
    simp; omega
end Go.Proofs.Ytdpohibgipkhnaa
namespace Go.Proofs.Ytdpohibgipkhnaa
open Go.RowKit Go.Proofs.Ytdpohibgipkhnaa.Oct

set_option maxHeartbeats 400000 in
theorem lower_any (c : Int) (w : World) (h0 : 0 ≤ c) (h1 : c ≤ 255) :
    Calls Try.prog 85 #[.int .u8 c] w fun e w' => e = .returned (.int .u8 (lowI c)) ∧ w' = w := by
  by_cases ha : 65 ≤ c
  · by_cases hb : c ≤ 90
    · have e : lowI c = c + 32 := by unfold lowI; rw [if_pos ⟨ha, hb⟩]
      rw [e]; clear e
      go_enter Try.func85, Try.ntmps85
      go_wp2
      go_ret
      exact ⟨ret_int (by omega), rfl⟩
    · have e : lowI c = c := by unfold lowI; rw [if_neg (by omega)]
      rw [e]; clear e
      go_enter Try.func85, Try.ntmps85
      go_wp2
      go_ret
      exact ⟨rfl, rfl⟩
  · have e : lowI c = c := by unfold lowI; rw [if_neg (by omega)]
    rw [e]; clear e
    go_enter Try.func85, Try.ntmps85
    go_wp2
    go_ret
    exact ⟨rfl, rfl⟩

set_option maxHeartbeats 400000 in
theorem blank_any (c : Int) (w : World) :
    Calls Try.prog 105 #[.int .u8 c] w fun e w' => e = .returned (.bool (blI c)) ∧ w' = w := by
  by_cases h1 : c = 32
  · subst h1
    go_enter Try.func105, Try.ntmps105
    go_wp2
    go_ret
    exact ⟨rfl, rfl⟩
  · have g1 : (c == 32) = false := by simpa using h1
    have e : blI c = (c == 9) := by unfold blI; rw [g1]; rfl
    rw [e]; clear e
    go_enter Try.func105, Try.ntmps105
    go_wp2
    go_ret
    exact ⟨rfl, rfl⟩

set_option maxHeartbeats 400000 in
theorem fold_any (a b : ByteArray) (w : World) (ha : a.size ≤ 9223372036854775807) (_hb : b.size ≤ 9223372036854775807) :
    Calls Try.prog 44 #[.string a, .string b] w fun e w' => e = .returned (.bool (foldS a b)) ∧ Drawn w w' := by
  by_cases hs : a.size = b.size
  · have h1 : ((a.size : Int) != (b.size : Int)) = false := by simp [hs]
    have HS := Lib.hid hs
    clear hs
    go_enter Try.func44, Try.ntmps44
    go_wp2
    go_loopw [13] (fun i wr => ∃ k : Nat, k ≤ a.size ∧ i = .int .i64 k ∧ Hid (∀ j (ha : j < a.size) (_hb : j < b.size), j < k → lowI (a[j].toNat) = lowI (b[j].toNat)) ∧ Drawn w wr) (fun i _ => a.size - (intOf i).toNat)
    case atStart => exact ⟨0, Nat.zero_le _, rfl, fun j _ _ h => absurd h (Nat.not_lt_zero _), Drawn.refl _⟩
    case round =>
      obtain ⟨k, hk, rfl, hall, hwr⟩ := hrel
      by_cases hlt : k < a.size
      · have hlb : k < b.size := by have := HS.out; omega
        have c1 := a[k].toNat_lt
        have c2 := b[k].toNat_lt
        by_cases he : lowI (a[k].toNat) = lowI (b[k].toNat)
        · have hne : (lowI (a[k].toNat) != lowI (b[k].toNat)) = false := by simp [he]
          have HE := Lib.hid he
          clear he
          go_wp2
          go_quiet ((go_at_call 85; exact Calls.quiet_of_same (lower_any _ _ (by omega) (by omega))))
          go_wp2
          go_roundw
          case rel => exact ⟨k + 1, by omega, by go_num, (fun j hj1 hj2 hj => by
            by_cases hjk : j < k
            · exact hall.out j hj1 hj2 hjk
            · obtain rfl : j = k := by omega
              exact HE.out), hwr.drewN _⟩
          case measure => simp [intOf]; omega
        · have hne : (lowI (a[k].toNat) != lowI (b[k].toNat)) = true := by simpa using he
          have hf := foldS_at k hlt hlb he
          clear he
          go_wp2
          go_quiet ((go_at_call 85; exact Calls.quiet_of_same (lower_any _ _ (by omega) (by omega))))
          go_wp2
          go_ret
          exact ⟨ret_bool hf.symm, hwr.drewN _⟩
      · have hf : foldS a b = true := foldS_true HS.out fun j hj1 hj2 => hall.out j hj1 hj2 (by omega)
        go_wp2
        go_ret
        exact ⟨ret_bool hf.symm, hwr⟩
  · have h1 : ((a.size : Int) != (b.size : Int)) = true := by simp; omega
    have hf := foldS_size hs
    clear hs
    go_enter Try.func44, Try.ntmps44
    go_wp2
    go_ret
    exact ⟨ret_bool hf.symm, Drawn.refl _⟩

/-- Trim: blanks and tabs are cut off at both ends. -/
theorem trim_any (s : ByteArray) (w : World) (hs : s.size ≤ 9223372036854775807) :
    Calls Try.prog 87 #[.string s] w fun e w' => e = .returned (.string (trimS s)) ∧ w = w' := by
  go_enter Try.func87, Try.ntmps87
  go_wp2
  go_loop [3] (fun i => ∃ k : Nat, k ≤ s.size ∧ i = .int .i64 k ∧ Hid (trimS s = trimS (s.extract k s.size))) (fun i => s.size - (intOf i).toNat)
  case atStart => exact ⟨0, Nat.zero_le _, rfl, by rw [extract_all]; exact rfl⟩
  case round =>
    obtain ⟨k, hk, rfl, he⟩ := hrel
    by_cases hlt : k < s.size
    · cases hb : blI (s[k].toNat)
      · have hd0 : ∀ h : k < s.size, blI (s[k]'h).toNat = false := fun _ => hb
        have HD := Lib.hid hd0
        clear hd0
        go_wp2_with (go_at_call 105; refine (blank_any _ _).mono ?_; rintro e w' ⟨rfl, rfl⟩)
        go_loop [4] (fun i => ∃ m : Nat, k ≤ m ∧ m ≤ s.size ∧ i = .int .i64 m ∧ Hid (trimS s = trimS (s.extract k m))) (fun i => (intOf i).toNat)
        case atStart => exact ⟨s.size, by omega, Nat.le_refl _, rfl, he⟩
        case round =>
          obtain ⟨m, hkm, hm, rfl, he2⟩ := hrel
          clear hb
          by_cases hlm : k < m
          · have hm1 : m - 1 < s.size := by omega
            have em : ((m : Int) - 1).toNat = m - 1 := by omega
            have EM := Lib.hid em
            clear em
            cases hb2 : blI (s[m - 1].toNat)
            · have hfin : trimS s = s.extract k m := by
                rw [he2.out]
                exact trimS_self s k m hkm hm (fun h => HD.out (by omega)) (fun _ => hb2)
              have HF := Lib.hid hfin
              clear hfin
              go_wp2_with (go_at_call 105; refine (blank_any _ _).mono ?_; rintro e w' ⟨rfl, rfl⟩)
              go_ret
              exact ⟨ret_str HF.out.symm, rfl⟩
            · go_wp2_with (go_at_call 105; refine (blank_any _ _).mono ?_; rintro e w' ⟨rfl, rfl⟩)
              go_round
              case rel => exact ⟨m - 1, by omega, by omega, by go_num, he2.out.trans (trimS_last s k m hlm hm hb2)⟩
              case measure => simp [intOf]; omega
          · have hfin : trimS s = s.extract k m := by
              rw [he2.out]
              exact trimS_self s k m hkm hm (fun h => absurd h hlm) (fun h => absurd h hlm)
            have HF := Lib.hid hfin
            clear hfin
            go_wp2
            go_ret
            exact ⟨ret_str HF.out.symm, rfl⟩
      · go_wp2_with (go_at_call 105; refine (blank_any _ _).mono ?_; rintro e w' ⟨rfl, rfl⟩)
        go_round
        case rel => exact ⟨k + 1, by omega, by go_num, he.out.trans (trimS_first s k s.size hlt (Nat.le_refl _) hb)⟩
        case measure => simp [intOf]; omega
    · have hfin : trimS s = s.extract k s.size := by
        rw [he.out]
        exact trimS_self s k s.size hk (Nat.le_refl _) (fun h => absurd h hlt) (fun h => absurd h hlt)
      have HF := Lib.hid hfin
      clear hfin
      go_wp2
      refine wp_loop_rounds 1 ?_
      rw [rounds_succ]
      go_wp2
      go_ret
      exact ⟨ret_str HF.out.symm, rfl⟩

theorem blI_cases (c : Int) : ((c == 32) = true ∧ blI c = true) ∨ ((c == 32) = false ∧ (c == 9) = true ∧ blI c = true) ∨ ((c == 32) = false ∧ (c == 9) = false ∧ blI c = false) := by
  unfold blI
  cases h1 : (c == 32) <;> cases h2 : (c == 9) <;> simp
/-- How long the text in a slot is. -/
def strSize : Value → Nat | .string t => t.size | _ => 0

/-- The reference's Trim: the same. -/
theorem rtrim_any (s : ByteArray) (w : World) (hs : s.size ≤ 9223372036854775807) :
    Calls Try.prog 89 #[.string s] w fun e w' => e = .returned (.string (trimS s)) ∧ w = w' := by
  go_enter Try.func89, Try.ntmps89
  go_wp2
  go_loop [0] (fun x => ∃ t : ByteArray, t.size ≤ s.size ∧ x = .string t ∧ Hid (trimS s = trimS t)) (fun x => strSize x)
  case atStart => exact ⟨s, Nat.le_refl _, rfl, rfl⟩
  case round =>
    obtain ⟨t, ht, rfl, he⟩ := hrel
    by_cases h0 : 0 < t.size
    · have hstep : blI (t[0].toNat) = true → Hid (trimS s = trimS (t.extract 1 t.size)) := fun hb => by
        have := trimS_first t 0 t.size h0 (Nat.le_refl _) hb
        rw [extract_all] at this
        exact he.out.trans this
      rcases blI_cases (t[0].toNat) with ⟨g1, hb⟩ | ⟨g1, g2, hb⟩ | ⟨g1, g2, hb⟩
      · have HS := hstep hb
        clear hstep hb
        go_wp2
        go_round
        case rel => exact ⟨t.extract 1 t.size, by simp; omega, rfl, HS⟩
        case measure => simp [strSize]; omega
      · have HS := hstep hb
        clear hstep hb
        go_wp2
        go_round
        case rel => exact ⟨t.extract 1 t.size, by simp; omega, rfl, HS⟩
        case measure => simp [strSize]; omega
      · have HD := Lib.hid hb
        clear hstep hb
        go_wp2
        go_loop [0] (fun x => ∃ m : Nat, m ≤ t.size ∧ x = .string (t.extract 0 m) ∧ Hid (trimS s = trimS (t.extract 0 m))) (fun x => strSize x)
        case atStart => exact ⟨t.size, Nat.le_refl _, by rw [extract_all], by rw [extract_all]; exact he⟩
        case round =>
          clear g1 g2
          obtain ⟨m, hm, hx, he2⟩ := hrel
          obtain ⟨y, hy⟩ : ∃ y, y = t.extract 0 m := ⟨_, rfl⟩
          rw [← hy] at hx he2
          subst hx
          have hys : y.size = m := by rw [hy]; simp; omega
          have hyb : y.size ≤ 9223372036854775807 := by omega
          have HY := Lib.hid hy
          have HYS := Lib.hid hys
          by_cases hlm : 0 < m
          · have hy0 : 0 < y.size := by omega
            have hym : y.size - 1 < y.size := by omega
            have hcut : Hid (y.extract 0 (y.size - 1) = t.extract 0 (m - 1)) := by
              show y.extract 0 (y.size - 1) = t.extract 0 (m - 1)
              rw [hy]
              exact extract_cut t m hm
            clear hy hys
            have hlast : blI (y[y.size - 1].toNat) = true → Hid (trimS s = trimS (y.extract 0 (y.size - 1))) := fun hb => by
              have := trimS_last y 0 y.size (by omega) (Nat.le_refl _) hb
              rw [extract_all] at this
              exact he2.out.trans this
            rcases blI_cases (y[y.size - 1].toNat) with ⟨g1, hb⟩ | ⟨g1, g2, hb⟩ | ⟨g1, g2, hb⟩
            · have HS := hlast hb
              clear hlast hb
              go_wp2
              go_round
              case rel => exact ⟨m - 1, by omega, congrArg Value.string hcut.out, by rw [← hcut.out]; exact HS⟩
              case measure => simp [strSize]; omega
            · have HS := hlast hb
              clear hlast hb
              go_wp2
              go_round
              case rel => exact ⟨m - 1, by omega, congrArg Value.string hcut.out, by rw [← hcut.out]; exact HS⟩
              case measure => simp [strSize]; omega
            · have hfin : trimS s = y := by
                rw [he2.out]
                have hhd : ∀ h : 0 < y.size, blI (y[0]'h).toNat = false := by
                  rw [HY.out]
                  intro h
                  rw [extract_head t m h h0]
                  exact HD.out
                have := trimS_self y 0 y.size (by omega) (Nat.le_refl _) hhd (fun _ => hb)
                rwa [extract_all] at this
              have HF := Lib.hid hfin
              clear hfin hlast hb
              go_wp2
              go_ret
              exact ⟨ret_str HF.out.symm, rfl⟩
          · have hfin : trimS s = y := by
              rw [he2.out]
              have := trimS_self y 0 y.size (by omega) (Nat.le_refl _) (fun h => by omega) (fun h => by omega)
              rwa [extract_all] at this
            have HF := Lib.hid hfin
            have hy0 : ¬ 0 < y.size := by omega
            clear hfin hy hys
            go_wp2
            go_ret
            exact ⟨ret_str HF.out.symm, rfl⟩
    · have hfin : trimS s = t := by
        rw [he.out]
        have := trimS_self t 0 t.size (by omega) (Nat.le_refl _) (fun h => by omega) (fun h => by omega)
        rwa [extract_all] at this
      have HF := Lib.hid hfin
      clear hfin
      go_wp2
      refine wp_loop_rounds 1 ?_
      rw [rounds_succ]
      go_wp2
      go_ret
      exact ⟨ret_str HF.out.symm, rfl⟩
end Go.Proofs.Ytdpohibgipkhnaa
namespace Go.Proofs.Ytdpohibgipkhnaa
open Go.RowKit Go.ChangeShapes

/-- The slice's elements are the texts ss; they lie in a block that is there. -/
def StrsArg (w : World) (x : Option Addr) (len : Nat) (ss : List ByteArray) : Prop :=
  ss.length = len ∧ len ≤ 9223372036854775807 ∧ (∀ s ∈ ss, s.size ≤ 9223372036854775807) ∧
  (len = 0 ∨ ∃ b o, x = some ⟨b, o, none⟩ ∧ b < w.heap.size ∧ ∀ i (h : i < ss.length), w.cell? ⟨b, o + i, none⟩ = some (.string ss[i]))

theorem strs_open {H : Type} {enc : TypeId × Value → H} {P : Program} {w : World} {base : Nat} {spare : Nat → Bool} {held : Bool} {t e : TypeId} {x : Option Addr} {len cap : Nat} {d : DataW H} {ps : List MemPlace}
    (ht : P.underlying t = some (.slice e)) (he : P.underlying e = some .string) (hc : P.cellsOf e = 1) (h : ∃ fuel, DataW.trod enc P w base spare held fuel t (Value.slice x len cap).cells.toList = some (d, ps)) : ∃ ss, StrsArg w x len ss := by
  obtain ⟨fuel, hf⟩ := h
  rcases open_strings ht he hc hf with ⟨hcs, _⟩ | ⟨a, l, c, zs, hcs, _, hl, hm, hz, _, hcell, hsz⟩
  · simp [Value.cells] at hcs
    obtain ⟨rfl, rfl, rfl⟩ := hcs
    exact ⟨[], rfl, by omega, by simp, .inl rfl⟩
  · simp [Value.cells] at hcs
    obtain ⟨rfl, rfl, rfl⟩ := hcs
    have hzl : len ≤ zs.length := by rw [hz]; split <;> omega
    refine ⟨zs.take len, by simp; omega, by unfold maxLen at hm; omega, fun s hs => ?_, ?_⟩
    · have := hsz s (List.mem_of_mem_take hs); unfold maxLen at this; omega
    · by_cases h0 : len = 0
      · exact .inl h0
      · right
        have c0 := hcell 0 (by omega)
        obtain ⟨b, o, spot⟩ := a
        have hspot : spot = none := by simpa [Addr.add] using World.cell?_spot c0
        subst hspot
        refine ⟨b, o, rfl, by have := World.block_lt_of_cell? w _ c0; simpa [Addr.add] using this, fun i hi => ?_⟩
        have hi2 : i < len := by simp at hi; omega
        have := hcell i (by omega)
        have hadd : (⟨b, o, none⟩ : Addr).add i = ⟨b, o + i, none⟩ := Addr.add_lit b o i
        rw [hadd] at this
        rw [this, List.getElem_take, List.getD_eq_getElem?_getD, List.getElem?_eq_getElem (by omega)]
        rfl
theorem StrsArg.below {w w' : World} {x : Option Addr} {len : Nat} {ss : List ByteArray} (h : StrsArg w x len ss) (hb : Below w.heap.size w w') : StrsArg w' x len ss := by
  obtain ⟨h1, h2, h3, h4⟩ := h
  refine ⟨h1, h2, h3, ?_⟩
  rcases h4 with h4 | ⟨b, o, hx, hlt, hc⟩
  · exact .inl h4
  · exact .inr ⟨b, o, hx, Nat.lt_of_lt_of_le hlt hb.size, fun i hi => (hb.cell (p := ⟨b, o + i, none⟩) hlt).trans (hc i hi)⟩
end Go.Proofs.Ytdpohibgipkhnaa
namespace Go.Proofs.Ytdpohibgipkhnaa
open Go.RowKit

theorem block_of_add (a : Addr) (n : Nat) : (a.add n).block = a.block := by unfold Addr.add; split <;> rfl
theorem add_of_add (a : Addr) (i j : Nat) : (a.add i).add j = a.add (i + j) := by
  unfold Addr.add
  by_cases hi : i = 0 <;> by_cases hj : j = 0 <;> simp [hi, hj, Nat.add_assoc]

def Reads (w : World) (B size : Nat) (A : Option Addr) (n : Nat) (xs : List Value) : Prop :=
  xs.length = n * size ∧ (0 < n → ∃ ad, A = some ad ∧ ad.block < B ∧ ∀ j u, xs[j]? = some u → w.cell? (ad.add j) = some u)

section
variable {w w' : World} {B B' size n : Nat} {A : Option Addr} {xs : List Value}
theorem Reads.none_ : Reads w B size A 0 [] := ⟨by simp, fun h => absurd h (by omega)⟩
theorem Reads.at_ {k : Nat} (h : Reads w B 1 A n xs) (hk : k < n) : ∃ ad u, A = some ad ∧ ad.block < B ∧ xs[k]? = some u ∧ w.cell? (ad.add k) = some u := by
  obtain ⟨ad, e, hb, hc⟩ := h.2 (by omega)
  have hl : k < xs.length := by have := h.1; omega
  exact ⟨ad, xs[k], e, hb, List.getElem?_eq_getElem hl, hc k _ (List.getElem?_eq_getElem hl)⟩
theorem Reads.keep (h : Reads w B size A n xs) (hk : ∀ p : Addr, p.block < B → w'.cell? p = w.cell? p) : Reads w' B size A n xs :=
  ⟨h.1, fun hn => by
    obtain ⟨ad, e, hb, hc⟩ := h.2 hn
    exact ⟨ad, e, hb, fun j u hu => (hk _ (by rw [block_of_add]; exact hb)).trans (hc j u hu)⟩⟩
theorem Reads.more (h : Reads w B size A n xs) (hB : B ≤ B') : Reads w B' size A n xs :=
  ⟨h.1, fun hn => by
    obtain ⟨ad, e, hb, hc⟩ := h.2 hn
    exact ⟨ad, e, by omega, hc⟩⟩
theorem Reads.below (h : Reads w B size A n xs) (hb : Below B w w') : Reads w' B size A n xs := h.keep fun _ hp => hb.cell hp
theorem Reads.drew (h : Reads w B size A n xs) : Reads w.drew B size A n xs := h
theorem Reads.drewN (h : Reads w B size A n xs) (k : Nat) : Reads (w.drewN k) B size A n xs := h
theorem Reads.alloc (h : Reads w B size A n xs) (hB : B ≤ w.heap.size) (o : Obj) : Reads (w.alloc o) B size A n xs := h.keep fun p hp => World.cell?_alloc_lt w o p (by omega)
theorem Reads.setCell (h : Reads w B size A n xs) {p : Addr} (hB : B ≤ p.block) (u : Value) : Reads (w.setCell p u) B size A n xs :=
  h.keep fun q hq => World.cell?_setCell_other w p q u (fun e => by subst e; omega)
theorem Reads.grown (h : Reads w B size A n xs) {row : Option Nat} (hg : w.grownBy w' row) (hB : B ≤ w.heap.size) (hr : ∀ g, row = some g → B ≤ g) : Reads w' B size A n xs :=
  h.keep fun p hp => World.cell?_of_block (hg.block p.block (by omega) (fun e => by have := hr _ e.symm; omega))
theorem Reads.cut (h : Reads w B size A n xs) {k cap : Nat} (hk : k ≤ n) (hc : n ≤ cap) :
    Reads w B size (if cap = k then A else A.map (·.add (k * size))) (n - k) (xs.drop (k * size)) := by
  refine ⟨by rw [List.length_drop, h.1, Nat.sub_mul], fun hn => ?_⟩
  obtain ⟨ad, rfl, hb, hcell⟩ := h.2 (by omega)
  rw [if_neg (by omega)]
  refine ⟨ad.add (k * size), rfl, by rw [block_of_add]; exact hb, fun j u hu => ?_⟩
  rw [add_of_add]
  exact hcell _ u (by rw [← hu, List.getElem?_drop])
theorem Reads.of_own {base : Nat} {e : TypeId} {c : Nat} (h : w.ownsRow base e size (.slice A n c) n xs) : Reads w w.heap.size size A n xs := by
  refine ⟨h.1, fun hn => ?_⟩
  obtain ⟨g, cap, hv, _, hlt⟩ := h.form hn
  have hA : A = some ⟨g, 0, none⟩ := by injection hv
  subst hA
  exact ⟨_, rfl, hlt, h.cells (g := g) rfl⟩
end

def Blk (w : World) (g : Nat) (t : TypeId) (cs : Array Value) : Prop := w.heap[g]? = some (.cells cs t (0, 0))

section
variable {w w' : World} {g : Nat} {t : TypeId} {cs : Array Value}
theorem Blk.lt (h : Blk w g t cs) : g < w.heap.size := by
  rcases Nat.lt_or_ge g w.heap.size with hlt | hge
  · exact hlt
  · unfold Blk at h; rw [Array.getElem?_eq_none hge] at h; cases h
theorem Blk.cell (h : Blk w g t cs) (i : Nat) : w.cell? ⟨g, i, none⟩ = cs[i]? := cell_of_row w g i cs t (0, 0) h
theorem Blk.frozen (h : Blk w g t cs) (i : Nat) : w.frozen? ⟨g, i, none⟩ = false := by
  unfold Blk at h
  simp [World.frozen?, h]
theorem Blk.new (w : World) (t : TypeId) (cs : Array Value) : Blk (w.alloc (.cells cs t)) w.heap.size t cs := heap_alloc_new w _
theorem Blk.drew (h : Blk w g t cs) : Blk w.drew g t cs := h
theorem Blk.drewN (h : Blk w g t cs) (n : Nat) : Blk (w.drewN n) g t cs := h
theorem Blk.alloc (h : Blk w g t cs) (o : Obj) : Blk (w.alloc o) g t cs := (Below.heap_alloc w o g h.lt).trans h
theorem Blk.set_ (h : Blk w g t cs) (i : Nat) (u : Value) : Blk (w.setCell ⟨g, i, none⟩ u) g t (cs.setIfInBounds i u) := by
  unfold Blk at h ⊢
  simp [World.setCell, Array.getElem?_modify, h]
theorem Blk.far (h : Blk w g t cs) {p : Addr} (hp : g ≠ p.block) (u : Value) : Blk (w.setCell p u) g t cs := (Below.heap_setCell w p u g hp).trans h
theorem Blk.below {B : Nat} (h : Blk w g t cs) (hb : Below B w w') (hg : g < B) : Blk w' g t cs := (hb.block g hg).trans h
theorem Blk.grown {row : Option Nat} (h : Blk w g t cs) (hb : w.grownBy w' row) (hg : some g ≠ row) : Blk w' g t cs := (hb.block g h.lt hg).trans h
theorem Blk.ne_ {g' : Nat} {t' : TypeId} {cs' : Array Value} (h : Blk w g t cs) (h' : Blk w g' t' cs') (hne : t ≠ t') : g ≠ g' := by
  rintro rfl
  unfold Blk at h h'
  rw [h] at h'
  injection h' with h'
  injection h' with _ ht
  exact hne ht
theorem own_blk_ne {base : Nat} {e : TypeId} {size n : Nat} {v : Value} {xs : List Value} (h : w.ownsRow base e size v n xs) (hg : Blk w g t cs) (hne : e ≠ t) : v.ownBlock ≠ some g := by
  rcases h.2 with ⟨rfl, _⟩ | ⟨g', cap, cur, rfl, _, hh, _⟩
  · simp [Value.ownBlock]
  · intro he
    have : g' = g := by simpa [Value.ownBlock] using he
    subst this
    exact Blk.ne_ (t := e) hh hg hne rfl
end

section
variable {P : Program} (w : World)

theorem run_append_of_nil (base : Nat) (t ty e : TypeId) (i : TypeInfo) (size : Nat) (ht : P.underlying t = some (.slice e)) (hi : P.info? e = some i)
    (v : Value) (n : Nat) (xs : List Value) (hown : w.ownsRow base e size v n xs) (c : Nat) : (Builtin.append_ #[t, t] ty #[v, .slice none 0 c]).run P w = .ok v w := by
  rcases hown.2 with ⟨rfl, rfl⟩ | ⟨g, cap, cur, rfl, _, _, hnc, _⟩
  · simp [Builtin.append_, run_underlying ht, sizeOf, typeInfo, hi, Builtin.lenOf, Builtin.firstCells]
  · simp [Builtin.append_, run_underlying ht, sizeOf, typeInfo, hi, Builtin.lenOf, Builtin.firstCells, hnc, storeCells]

theorem run_append_any (base : Nat) (t ty e : TypeId) (i : TypeInfo) (z : Value) (size bytes : Nat) (ht : P.underlying t = some (.slice e)) (hi : P.info? e = some i) (hz : i.zero = some z)
    (hsize : i.size = size) (hby : i.bytes = bytes) (hzs : z.cells.size = size) (hsz : 0 < size)
    (v : Value) (n : Nat) (xs : List Value) (hown : w.ownsRow base e size v n xs)
    (B : Nat) (A : Option Addr) (m c : Nat) (news : List Value) (hr : Reads w B size A m news) (h1 : ∀ u ∈ news, u.oneCell' = true)
    (h63 : n + m ≤ maxLen) (hbytes : (n + m) * bytes ≤ 140737488355328) (hbase : base ≤ w.heap.size) :
    ∃ v' w', (Builtin.append_ #[t, t] ty #[v, .slice A m c]).run P w = .ok v' w' ∧ w'.ownsRow base e size v' (n + m) (xs ++ news) ∧ w.grownBy w' v.ownBlock ∧
      (v'.ownBlock = v.ownBlock ∨ v'.ownBlock = some w.heap.size) := by
  rcases A with _ | ad
  · have hm : m = 0 := by
      rcases Nat.eq_zero_or_pos m with h0 | h0
      · exact h0
      · obtain ⟨ad, h, _⟩ := hr.2 h0
        cases h
    subst hm
    have hn : news = [] := List.eq_nil_of_length_eq_zero (by simpa using hr.1)
    subst hn
    exact ⟨v, w, run_append_of_nil w base t ty e i size ht hi v n xs hown c, by simpa using hown, World.grownBy.refl w _, .inl rfl⟩
  · have hcells : ∀ j u, news[j]? = some u → w.cell? (ad.add j) = some u := by
      intro j u hu
      rcases Nat.eq_zero_or_pos m with h0 | h0
      · subst h0
        have hn : news = [] := List.eq_nil_of_length_eq_zero (by simpa using hr.1)
        subst hn
        simp at hu
      · obtain ⟨ad', h, _, hc⟩ := hr.2 h0
        injection h with h
        subst h
        exact hc j u hu
    obtain ⟨v', w', hrun, h2, h3, _, h5⟩ := run_append_own_at (P := P) w base t ty e i z size bytes ht hi hz hsize hby hzs hsz v n xs hown ad m c news hr.1 hcells h1 h63 hbytes hbase
    exact ⟨v', w', hrun, h2, h3, h5⟩

theorem wp_append_any {o : Oper} {a : Act} {K : Act → World → Prop} {Q : Exit → Act → World → Prop} (s x : Operand) (t : TypeId)
    (ho : o.op = .call { callee := .builtin .append, args := #[s, x], argTypes := #[t, t] })
    (base : Nat) (e : TypeId) (i : TypeInfo) (z : Value) (size bytes : Nat) (ht : P.underlying t = some (.slice e)) (hi : P.info? e = some i) (hz : i.zero = some z)
    (hsize : i.size = size) (hby : i.bytes = bytes) (hzs : z.cells.size = size) (hsz : 0 < size)
    (v : Value) (n : Nat) (xs : List Value) (hs : a.eval s = v) (hown : w.ownsRow base e size v n xs)
    (B : Nat) (A : Option Addr) (m c : Nat) (news : List Value) (hx : a.eval x = .slice A m c) (hr : Reads w B size A m news) (h1 : ∀ u ∈ news, u.oneCell' = true)
    (h63 : n + m ≤ maxLen) (hbytes : (n + m) * bytes ≤ 140737488355328) (hbase : base ≤ w.heap.size)
    (h : ∀ v' w', w'.ownsRow base e size v' (n + m) (xs ++ news) → w.grownBy w' v.ownBlock → (v'.ownBlock = v.ownBlock ∨ v'.ownBlock = some w.heap.size) → K (a.put o.dst v') w') : o.wp P a w K Q := by
  obtain ⟨v', w', hrun, h2, h3, h4⟩ := run_append_any (P := P) w base t o.type e i z size bytes ht hi hz hsize hby hzs hsz v n xs hown B A m c news hr h1 h63 hbytes hbase
  unfold Oper.wp execOp
  simp only [ho, resolve, invoke, builtin, Sem.run_bind, Sem.run_pure, Result.andThen_ok, List.map_toArray, List.map_cons, List.map_nil, hs, hx, hrun]
  exact h v' w' h2 h3 h4

theorem wpList_append_any {ops : Array Oper} {rest : List Oper} {o : Oper} {a : Act} {Q : Exit → Act → World → Prop} (hgd : o.guard = none) (s x : Operand) (t : TypeId)
    (ho : o.op = .call { callee := .builtin .append, args := #[s, x], argTypes := #[t, t] })
    (base : Nat) (e : TypeId) (i : TypeInfo) (z : Value) (size bytes : Nat) (ht : P.underlying t = some (.slice e)) (hi : P.info? e = some i) (hz : i.zero = some z)
    (hsize : i.size = size) (hby : i.bytes = bytes) (hzs : z.cells.size = size) (hsz : 0 < size)
    (v : Value) (n : Nat) (xs : List Value) (hs : a.eval s = v) (hown : w.ownsRow base e size v n xs)
    (B : Nat) (A : Option Addr) (m c : Nat) (news : List Value) (hx : a.eval x = .slice A m c) (hr : Reads w B size A m news) (h1 : ∀ u ∈ news, u.oneCell' = true)
    (h63 : n + m ≤ maxLen) (hbytes : (n + m) * bytes ≤ 140737488355328) (hbase : base ≤ w.heap.size)
    (h : ∀ v' w', w'.ownsRow base e size v' (n + m) (xs ++ news) → w.grownBy w' v.ownBlock → (v'.ownBlock = v.ownBlock ∨ v'.ownBlock = some w.heap.size) → wpList P ops Q rest (a.put o.dst v') w') : wpList P ops Q (o :: rest) a w :=
  wpList_plain hgd fun _ hK => wp_append_any w s x t ho base e i z size bytes ht hi hz hsize hby hzs hsz v n xs hs hown B A m c news hx hr h1 h63 hbytes hbase fun v' w' h2 h3 h4 => hK _ _ (h v' w' h2 h3 h4)

theorem step_append_any {ops : Array Oper} {o : Oper} {a : Act} {K : Act → World → Prop} {Q : Exit → Act → World → Prop} {E : Prop} (hgd : o.guard = none) (s x : Operand) (t : TypeId)
    (ho : o.op = .call { callee := .builtin .append, args := #[s, x], argTypes := #[t, t] })
    (base : Nat) (e : TypeId) (i : TypeInfo) (z : Value) (size bytes : Nat) (ht : P.underlying t = some (.slice e)) (hi : P.info? e = some i) (hz : i.zero = some z)
    (hsize : i.size = size) (hby : i.bytes = bytes) (hzs : z.cells.size = size) (hsz : 0 < size)
    (v : Value) (n : Nat) (xs : List Value) (hs : a.eval s = v) (hown : w.ownsRow base e size v n xs)
    (B : Nat) (A : Option Addr) (m c : Nat) (news : List Value) (hx : a.eval x = .slice A m c) (hr : Reads w B size A m news) (h1 : ∀ u ∈ news, u.oneCell' = true)
    (h63 : n + m ≤ maxLen) (hbytes : (n + m) * bytes ≤ 140737488355328) (hbase : base ≤ w.heap.size)
    (h : ∀ v' w', w'.ownsRow base e size v' (n + m) (xs ++ news) → w.grownBy w' v.ownBlock → (v'.ownBlock = v.ownBlock ∨ v'.ownBlock = some w.heap.size) → K (a.put o.dst v') w') :
    if Region.wanted o (yielded ops a.tmps) = true then Oper.wp P o a w K Q else E := by
  have hw : Region.wanted o (yielded ops a.tmps) = true := by simp [Region.wanted, hgd]
  rw [if_pos hw]
  exact wp_append_any w s x t ho base e i z size bytes ht hi hz hsize hby hzs hsz v n xs hs hown B A m c news hx hr h1 h63 hbytes hbase h
end

/-- The base may be lower. -/
theorem own_mono {w : World} {B B' e size n : Nat} {v : Value} {xs : List Value} (h : w.ownsRow B e size v n xs) (hB : B' ≤ B) : w.ownsRow B' e size v n xs := by
  refine ⟨h.1, ?_⟩
  rcases h.2 with h2 | ⟨g, cap, cur, hv, hg, r⟩
  · exact .inl h2
  · exact .inr ⟨g, cap, cur, hv, by omega, r⟩
/-- A quiet callee in a region that draws its order. -/
theorem quiet_drawn {P : Program} {f : FuncId} {args : Array Value} {w : World} {n : Nat} {v : Value}
    (h : Calls P f args (w.drewN n) fun e w' => e = .returned v ∧ Drawn (w.drewN n) w') : Calls P f args (w.drewN n) fun e w'' => e = .returned v ∧ ∃ m, w'' = w.drewN m :=
  h.mono fun _ _ ⟨he, m, hm⟩ => ⟨he, n + m, by rw [hm, World.drewN_drewN]⟩
theorem quiet_eq {P : Program} {f : FuncId} {args : Array Value} {w : World} {n : Nat} {v : Value}
    (h : Calls P f args (w.drewN n) fun e w' => e = .returned v ∧ w.drewN n = w') : Calls P f args (w.drewN n) fun e w'' => e = .returned v ∧ ∃ m, w'' = w.drewN m :=
  h.mono fun _ _ ⟨he, hm⟩ => ⟨he, n, hm.symm⟩
theorem quiet_drawn2 {P : Program} {f : FuncId} {args : Array Value} {w : World} {a n : Nat} {v : Value}
    (h : Calls P f args (w.drewN (a + n)) fun e w' => e = .returned v ∧ Drawn (w.drewN (a + n)) w') : Calls P f args (w.drewN (a + n)) fun e w'' => e = .returned v ∧ ∃ m, w'' = w.drewN (a + m) :=
  h.mono fun _ _ ⟨he, m, hm⟩ => ⟨he, n + m, by rw [hm, World.drewN_drewN, Nat.add_assoc]⟩
theorem quiet_eq2 {P : Program} {f : FuncId} {args : Array Value} {w : World} {a n : Nat} {v : Value}
    (h : Calls P f args (w.drewN (a + n)) fun e w' => e = .returned v ∧ w.drewN (a + n) = w') : Calls P f args (w.drewN (a + n)) fun e w'' => e = .returned v ∧ ∃ m, w'' = w.drewN (a + m) :=
  h.mono fun _ _ ⟨he, hm⟩ => ⟨he, n, hm.symm⟩
theorem below_new (w : World) (o : Obj) : Below w.heap.size w (w.alloc o) := (Below.refl _ _).alloc (Nat.le_refl _) o
end Go.Proofs.Ytdpohibgipkhnaa
namespace Go.Proofs.Ytdpohibgipkhnaa
open Go.ChangeShapes Go.WideShapes Go.Deep Go.RowKit

section
variable {H : Type} {enc : TypeId × Value → H} {P : Program} {w : World} {base : Nat} {spare : Nat → Bool} {held : Bool}
theorem open_slice_fields {t e : TypeId} {fs : Array Field} {fuel : Nat} {cs : List Value} {x : DataW H × List MemPlace} (ht : P.underlying t = some (.slice e)) (he : P.underlying e = some (.struct fs))
    (hone : oneCellFields P fs = true) (hC : P.cellsOf e = fs.size) (h : DataW.trod enc P w base spare held fuel t cs = some x) :
    (cs = [.slice none 0 0] ∧ x = (.nil, [])) ∨
    ∃ (a : Addr) (len cap m : Nat) (D : Nat → DataW H) (Pl : Nat → List MemPlace), cs = [.slice (some a) len cap] ∧ base ≤ a.block ∧ len ≤ cap ∧ cap ≤ maxLen ∧ m = (if spare a.block then cap else len) ∧
      x = (.slice ((List.range len).map D) ((List.range (m - len)).map fun j => D (len + j)), MemPlace.row a (m * fs.size) ++ (List.range m).flatMap Pl) ∧
      ∀ i, i < m → ∃ (ys : List (DataW H × List MemPlace)) (n : Nat), D i = .agg (ys.map (·.1)) ∧ Pl i = ys.flatMap (·.2) ∧ ys.length = fs.size ∧
        ∀ (j : Nat) (f : Field), fs[j]? = some f → ∃ (v : Value) (y : DataW H × List MemPlace), w.cell? (a.add (i * fs.size + j)) = some v ∧ ys[j]? = some y ∧ DataW.trod enc P w base spare held n f.type [v] = some y := by
  rcases open_slice ht h with h0 | ⟨a, len, cap, m, n, D, Pl, hcs, hb, hl, hm, hmm, hx, hi⟩
  · exact .inl h0
  · refine .inr ⟨a, len, cap, m, D, Pl, hcs, hb, hl, hm, hmm, by rw [hC] at hx; exact hx, fun i him => ?_⟩
    obtain ⟨cs', hc, ht'⟩ := hi i him
    rw [hC] at hc
    obtain ⟨ys, n', hn', hy, hlen, hyl, hf⟩ := DataW.trod_struct he ht'
    obtain ⟨_, hcl, hat⟩ := World.cells?_some hc
    simp only [Prod.mk.injEq] at hy
    refine ⟨ys, n', hy.1, hy.2, hyl, fun j f hj => ?_⟩
    obtain ⟨ho, hk⟩ := hone_of hone j f hj
    have hjl : j < fs.size := (Array.getElem?_eq_some_iff.1 hj).1
    have hcell := hat j hjl
    have hv : cs'[j]? = some (cs'[j]'(by omega)) := List.getElem?_eq_getElem (by omega)
    have h1 := hf j f hj
    rw [ho, hk] at h1
    have hone' : (cs'.drop j).take 1 = [cs'[j]'(by omega)] := by
      rw [List.drop_eq_getElem_cons (by omega)]
      rfl
    rw [hone'] at h1
    have hys : ys[j]? = some (ys[j]'(by omega)) := List.getElem?_eq_getElem (by omega)
    refine ⟨_, _, ?_, hys, h1.trans hys⟩
    rw [← Go.Deep.add_add, hcell, hv]
end

/-- A list out of what is known at each place. -/
theorem list_of_each {α : Type} {P : Nat → α → Prop} : ∀ n, (∀ i, i < n → ∃ x, P i x) → ∃ l : List α, l.length = n ∧ ∀ i (h : i < l.length), P i l[i]
  | 0, _ => ⟨[], rfl, fun i h => absurd h (Nat.not_lt_zero _)⟩
  | n + 1, h => by
    obtain ⟨l, hl, hp⟩ := list_of_each n (fun i hi => h i (by omega))
    obtain ⟨x, hx⟩ := h n (by omega)
    refine ⟨l ++ [x], by simp [hl], fun i hi => ?_⟩
    by_cases hin : i < l.length
    · rw [List.getElem_append_left hin]; exact hp i hin
    · have : i = n := by simp at hi; omega
      subst this
      rw [List.getElem_append_right (by omega)]
      simpa [hl] using hx
theorem add_spot {w : World} {a : Addr} {v : Value} (h : w.cell? (a.add 0) = some v) : a.spot = none := by
  simpa [Addr.add] using World.cell?_spot h
end Go.Proofs.Ytdpohibgipkhnaa
namespace Go.Proofs.Ytdpohibgipkhnaa
open Go.RowKit Go.Proofs.Ytdpohibgipkhnaa.Oct

abbrev Flds := List (ByteArray × ByteArray)
/-- The fields l lie at x, n of them. -/
structure FldsAt (w : World) (x : Option Addr) (n : Nat) (l : Flds) : Prop where
  len : l.length = n
  big : n ≤ 9223372036854775807
  str : ∀ p ∈ l, p.1.size ≤ 9223372036854775807 ∧ p.2.size ≤ 9223372036854775807
  at_ : n = 0 ∨ ∃ b o, x = some ⟨b, o, none⟩ ∧ b < w.heap.size ∧ ∀ i (h : i < l.length), w.cell? ⟨b, o + i * 2, none⟩ = some (.string l[i].1) ∧ w.cell? ⟨b, o + i * 2 + 1, none⟩ = some (.string l[i].2)

theorem FldsAt.below {w w' : World} {x : Option Addr} {n : Nat} {l : Flds} (h : FldsAt w x n l) (hb : Below w.heap.size w w') : FldsAt w' x n l := by
  refine ⟨h.len, h.big, h.str, ?_⟩
  rcases h.at_ with h4 | ⟨b, o, hx, hlt, hc⟩
  · exact .inl h4
  · exact .inr ⟨b, o, hx, Nat.lt_of_lt_of_le hlt hb.size, fun i hi => ⟨(hb.cell (p := ⟨b, o + i * 2, none⟩) hlt).trans (hc i hi).1, (hb.cell (p := ⟨b, o + i * 2 + 1, none⟩) hlt).trans (hc i hi).2⟩⟩
theorem FldsAt.get {w : World} {x : Option Addr} {n : Nat} {l : Flds} (h : FldsAt w x n l) (i : Nat) (hi : i < n) :
    ∃ b o p, x = some ⟨b, o, none⟩ ∧ ∃ hl : i < l.length, p = l[i] ∧ w.cell? ⟨b, o + i * 2, none⟩ = some (.string p.1) ∧ w.cell? ⟨b, o + i * 2 + 1, none⟩ = some (.string p.2) ∧ p.1.size ≤ 9223372036854775807 ∧ p.2.size ≤ 9223372036854775807 := by
  obtain ⟨b, o, hx, hlt, hc⟩ := h.at_.resolve_left (by omega)
  have hl : i < l.length := by rw [h.len]; exact hi
  have := hc i hl
  have hs := h.str _ (List.getElem_mem hl)
  exact ⟨b, o, l[i], hx, hl, rfl, this.1, this.2, hs.1, hs.2⟩

/-- Where the first one is of which p holds, or -1. -/
def idxB {α : Type} (p : α → Bool) (l : List α) : Int := if l.any p = true then (l.findIdx p : Nat) else -1
theorem idxB_hit {α : Type} (p : α → Bool) (l : List α) (k : Nat) (hk : k < l.length) (h : p l[k] = true) (hb : ∀ j (hj : j < k) , p (l[j]'(by omega)) = false) : idxB p l = k := by
  unfold idxB
  rw [if_pos (List.any_eq_true.2 ⟨_, List.getElem_mem hk, h⟩)]
  have : l.findIdx p = k := by
    rw [List.findIdx_eq hk]
    exact ⟨h, fun j hj => by simpa using hb j hj⟩
  rw [this]
theorem idxB_miss {α : Type} (p : α → Bool) (l : List α) (hb : ∀ j (hj : j < l.length), p l[j] = false) : idxB p l = -1 := by
  unfold idxB
  rw [if_neg]
  rw [List.any_eq_true]
  rintro ⟨x, hx, hp⟩
  obtain ⟨j, hj, rfl⟩ := List.mem_iff_getElem.1 hx
  rw [hb j hj] at hp
  cases hp
theorem idxB_any {α : Type} (p : α → Bool) (l : List α) : decide ((0 : Int) ≤ idxB p l) = l.any p := by
  unfold idxB
  cases h : l.any p
  · rfl
  · simp
theorem idxB_cases {α : Type} (p : α → Bool) (l : List α) : (idxB p l = -1 ∧ l.any p = false) ∨ (∃ k : Nat, idxB p l = k ∧ ∃ hk : k < l.length, p l[k] = true ∧ (∀ j (hj : j < k), p (l[j]'(by omega)) = false) ∧ l.any p = true) := by
  unfold idxB
  cases h : l.any p
  · exact .inl ⟨rfl, rfl⟩
  · refine .inr ⟨l.findIdx p, rfl, ?_⟩
    have hk : l.findIdx p < l.length := by rw [List.findIdx_lt_length]; rw [List.any_eq_true] at h; exact h
    exact ⟨hk, List.findIdx_getElem (w := hk), fun j hj => by simpa using List.not_of_lt_findIdx hj, rfl⟩

set_option maxRecDepth 100000 in
set_option maxHeartbeats 1600000 in
/-- slices.IndexFunc on texts, with whatever tells of each text. -/
theorem idxstr_any (q : Nat) (lb : Array Value) (eq : ∀ args w, (callFunc q args).run Try.prog w = .ok (.enter q args) w) (p : ByteArray → Bool) (w : World) (x : Option Addr) (n c : Nat) (ns : List ByteArray) (h : StrsArg w x n ns)
    (hp : ∀ W s, Below w.heap.size w W → s ∈ ns → Calls Try.prog q (#[.string s] ++ lb) W fun e w' => e = .returned (.bool (p s)) ∧ Below W.heap.size W w') :
    Calls Try.prog 104 #[.slice x n c, .func (.func q) #[] lb] w fun e w' => e = .returned (.int .i64 (idxB p ns)) ∧ Below w.heap.size w w' := by
  obtain ⟨hl, hbig, hstr, hat⟩ := h
  subst hl
  have HP := Lib.hid hp
  have HA := Lib.hid hat
  clear hp hstr hat
  go_enter Try.func104, Try.ntmps104
  go_wp2
  go_loopg [5, 8] ns.length (fun gg _ s8 wr => ∃ k : Nat, k ≤ ns.length ∧ ns.length - k ≤ gg ∧ s8 = .int .i64 k ∧ Hid (Below w.heap.size w wr) ∧ Hid (∀ j (hj : j < ns.length), j < k → p ns[j] = false))
  case atStart => exact ⟨0, Nat.zero_le _, by omega, rfl, Below.refl _ w, fun j _ hj => absurd hj (Nat.not_lt_zero _)⟩
  case round =>
    obtain ⟨k, hk, hg, rfl, hb, hall⟩ := hrel
    by_cases hkl : k < ns.length
    · obtain ⟨b, o, rfl, hlt, hc⟩ := HA.out.resolve_left (by omega)
      have hcell := (hb.out.cell (p := ⟨b, o + k, none⟩) hlt).trans (hc k hkl)
      have hcall := HP.out wr ns[k] hb.out (List.getElem_mem hkl)
      obtain ⟨s, hs⟩ : ∃ s, s = ns[k] := ⟨_, rfl⟩
      rw [← hs] at hcell hcall
      have HS := Lib.hid hs
      have HCc := Lib.hid hc
      clear hs hc
      cases hps : p s
      · rw [hps] at hcall
        have HC := Lib.hid hcall
        have HPS := Lib.hid hps
        clear hcall hps
        go_wp2_with fail
        refine HC.out.mono ?_
        rintro e w' ⟨rfl, hb'⟩
        have HB' := Lib.hid (grow_trans hb.out hb')
        clear hb'
        go_wp2
        go_roundg (ns.length - (k + 1))
        case measure => omega
        case rel =>
          refine ⟨k + 1, by omega, by omega, by go_num, HB'.out, fun j hj hjk => ?_⟩
          by_cases e : j = k
          · subst e; rw [← HS.out]; exact HPS.out
          · exact hall.out j hj (by omega)
      · rw [hps] at hcall
        have HC := Lib.hid hcall
        have HI := Lib.hid (idxB_hit p ns k hkl (by rw [← HS.out]; exact hps) (fun j hj => hall.out j (by omega) hj))
        clear hcall hps
        go_wp2_with fail
        refine HC.out.mono ?_
        rintro e w' ⟨rfl, hb'⟩
        have HB' := Lib.hid (grow_trans hb.out hb')
        clear hb'
        go_wp2
        go_ret
        exact ⟨ret_int HI.out.symm, HB'.out⟩
    · obtain rfl : k = ns.length := by omega
      have HI := Lib.hid (idxB_miss p ns (fun j hj => hall.out j hj hj))
      go_wp2
      go_ret
      exact ⟨ret_int HI.out.symm, hb.out⟩

set_option maxRecDepth 100000 in
set_option maxHeartbeats 1600000 in
theorem contstr_any (q : Nat) (lb : Array Value) (eq : ∀ args w, (callFunc q args).run Try.prog w = .ok (.enter q args) w) (p : ByteArray → Bool) (w : World) (x : Option Addr) (n c : Nat) (ns : List ByteArray) (h : StrsArg w x n ns)
    (hp : ∀ W s, Below w.heap.size w W → s ∈ ns → Calls Try.prog q (#[.string s] ++ lb) W fun e w' => e = .returned (.bool (p s)) ∧ Below W.heap.size W w') :
    Calls Try.prog 83 #[.slice x n c, .func (.func q) #[] lb] w fun e w' => e = .returned (.bool (ns.any p)) ∧ Below w.heap.size w w' := by
  have H := Lib.hid (idxstr_any q lb eq p w x n c ns h hp)
  have HA := Lib.hid (idxB_any p ns)
  clear h hp
  go_enter Try.func83, Try.ntmps83
  go_wp2_with fail
  refine H.out.mono ?_
  rintro e w' ⟨rfl, hb'⟩
  go_wp2
  go_ret
  exact ⟨ret_bool HA.out, hb'⟩

set_option maxRecDepth 100000 in
set_option maxHeartbeats 1600000 in
/-- slices.IndexFunc on fields, with whatever tells of each field. -/
theorem idxfld_any (q : Nat) (lb : Array Value) (eq : ∀ args w, (callFunc q args).run Try.prog w = .ok (.enter q args) w) (p : ByteArray × ByteArray → Bool) (w : World) (x : Option Addr) (n c : Nat) (l : Flds) (h : FldsAt w x n l)
    (hp : ∀ W f, Below w.heap.size w W → f ∈ l → Calls Try.prog q (#[.agg #[.string f.1, .string f.2]] ++ lb) W fun e w' => e = .returned (.bool (p f)) ∧ Below W.heap.size W w') :
    Calls Try.prog 73 #[.slice x n c, .func (.func q) #[] lb] w fun e w' => e = .returned (.int .i64 (idxB p l)) ∧ Below w.heap.size w w' := by
  have hl := h.len
  subst hl
  have hbig := h.big
  have HP := Lib.hid hp
  have HA := Lib.hid h
  clear hp h
  go_enter Try.func73, Try.ntmps73
  go_wp2
  go_loopg [5, 8] l.length (fun gg _ s8 wr => ∃ k : Nat, k ≤ l.length ∧ l.length - k ≤ gg ∧ s8 = .int .i64 k ∧ Hid (Below w.heap.size w wr) ∧ Hid (∀ j (hj : j < l.length), j < k → p l[j] = false))
  case atStart => exact ⟨0, Nat.zero_le _, by omega, rfl, Below.refl _ w, fun j _ hj => absurd hj (Nat.not_lt_zero _)⟩
  case round =>
    obtain ⟨k, hk, hg, rfl, hb, hall⟩ := hrel
    by_cases hkl : k < l.length
    · obtain ⟨b, o, f, rfl, hl2, hf, hc1, hc2, hs1, hs2⟩ := (HA.out.below hb.out).get k hkl
      have hcall := HP.out wr f hb.out (by rw [hf]; exact List.getElem_mem hkl)
      have HS := Lib.hid hf
      obtain ⟨f1, f2⟩ := f
      simp only at hc1 hc2 hcall
      clear hf
      cases hps : p (f1, f2)
      · rw [hps] at hcall
        have HC := Lib.hid hcall
        have HPS := Lib.hid hps
        clear hcall hps
        go_wp2_with fail
        refine HC.out.mono ?_
        rintro e w' ⟨rfl, hb'⟩
        have HB' := Lib.hid (grow_trans hb.out hb')
        clear hb'
        go_wp2
        go_roundg (l.length - (k + 1))
        case measure => omega
        case rel =>
          refine ⟨k + 1, by omega, by omega, by go_num, HB'.out, fun j hj hjk => ?_⟩
          by_cases e : j = k
          · subst e; rw [← HS.out]; exact HPS.out
          · exact hall.out j hj (by omega)
      · rw [hps] at hcall
        have HC := Lib.hid hcall
        have HI := Lib.hid (idxB_hit p l k hkl (by rw [← HS.out]; exact hps) (fun j hj => hall.out j (by omega) hj))
        clear hcall hps
        go_wp2_with fail
        refine HC.out.mono ?_
        rintro e w' ⟨rfl, hb'⟩
        have HB' := Lib.hid (grow_trans hb.out hb')
        clear hb'
        go_wp2
        go_ret
        exact ⟨ret_int HI.out.symm, HB'.out⟩
    · obtain rfl : k = l.length := by omega
      have HI := Lib.hid (idxB_miss p l (fun j hj => hall.out j hj hj))
      go_wp2
      go_ret
      exact ⟨ret_int HI.out.symm, hb.out⟩
end Go.Proofs.Ytdpohibgipkhnaa
namespace Go.Proofs.Ytdpohibgipkhnaa
open Go.RowKit

/-- The cells of a list of texts. -/
def strVals (ss : List ByteArray) : List Value := ss.map Value.string
theorem strVals_length (ss : List ByteArray) : (strVals ss).length = ss.length := by simp [strVals]
theorem strVals_snoc (ss : List ByteArray) (s : ByteArray) : strVals (ss ++ [s]) = strVals ss ++ [.string s] := by simp [strVals]
theorem StrsArg.of_owned {w : World} {B g n cap : Nat} {ss : List ByteArray} (h : w.ownsRow B 9 1 (.slice (some ⟨g, 0, none⟩) n cap) n (strVals ss)) (hn : n ≤ 9223372036854775807) (hz : ∀ s ∈ ss, s.size ≤ 9223372036854775807) : StrsArg w (some ⟨g, 0, none⟩) n ss := by
  have hl : ss.length = n := by have := h.1; rw [strVals_length] at this; omega
  refine ⟨hl, hn, hz, .inr ⟨g, 0, rfl, ?_, fun i hi => ?_⟩⟩
  · have := h.lt g rfl; exact this.2
  · rw [Nat.zero_add, h.cellAt i (by omega)]
    simp [strVals, hi]
theorem toList_inj {a b : ByteArray} (h : a.toList = b.toList) : a = b := by
  rw [ByteArray.toList_eq, ByteArray.toList_eq] at h
  apply ByteArray.ext; apply Array.ext'; exact h

set_option maxRecDepth 100000 in
set_option maxHeartbeats 800000 in
theorem rsame_any (x y : Option Addr) (la ca lb cb : Nat) (A B : List ByteArray) (w : World) (ha : StrsArg w x la A) (hb : StrsArg w y lb B) :
    Calls Try.prog 30 #[.slice x la ca, .slice y lb cb] w fun e w' => e = .returned (.bool (decide (A = B))) ∧ Drawn w w' := by
  obtain ⟨al, alm, _, ax⟩ := ha
  obtain ⟨bl, blm, _, bx⟩ := hb
  by_cases hll : la = lb
  · subst hll
    have h1 : ((la : Int) != (la : Int)) = false := by simp
    have AL := Lib.hid al
    have BL := Lib.hid bl
    have AX := Lib.hid ax
    have BX := Lib.hid bx
    clear al bl ax bx
    go_enter Try.func30, Try.ntmps30
    go_wp2
    go_loopw [5] (fun i wr => ∃ k : Nat, k ≤ la ∧ i = .int .i64 k ∧ Hid (∀ j (h : j < A.length) (h' : j < B.length), j < k → A[j] = B[j]) ∧ Drawn w wr) (fun i _ => la - (intOf i).toNat)
    case atStart => exact ⟨0, Nat.zero_le _, rfl, fun j _ _ h => absurd h (Nat.not_lt_zero _), Drawn.refl _⟩
    case round =>
      obtain ⟨k, hk, rfl, hall, hwr⟩ := hrel
      by_cases hlt : k < la
      · obtain ⟨b, o, rfl, hbl, hc⟩ := AX.out.resolve_left (by omega)
        obtain ⟨b', o', rfl, hbl', hc'⟩ := BX.out.resolve_left (by omega)
        have hkA : k < A.length := by rw [AL.out]; exact hlt
        have hkB : k < B.length := by rw [BL.out]; exact hlt
        have c1 : wr.cell? ⟨b, o + k, none⟩ = some (.string A[k]) := ((hwr.below (b + 1)).cell (p := ⟨b, o + k, none⟩) (Nat.lt_succ_self _)).trans (hc k hkA)
        have c2 : wr.cell? ⟨b', o' + k, none⟩ = some (.string B[k]) := ((hwr.below (b' + 1)).cell (p := ⟨b', o' + k, none⟩) (Nat.lt_succ_self _)).trans (hc' k hkB)
        obtain ⟨s, hs⟩ : ∃ s, s = A[k] := ⟨_, rfl⟩
        obtain ⟨t, ht⟩ : ∃ t, t = B[k] := ⟨_, rfl⟩
        rw [← hs] at c1
        rw [← ht] at c2
        have HS := Lib.hid hs
        have HT := Lib.hid ht
        have HC := Lib.hid hc
        have HC' := Lib.hid hc'
        clear hs ht hc hc'
        by_cases hst : s = t
        · subst hst
          go_wp2
          go_quiet (fail)
          go_wp2
          go_roundw
          case rel => exact ⟨k + 1, by omega, by go_num, (fun j h h' hj => by
            by_cases hjk : j < k
            · exact hall.out j h h' hjk
            · obtain rfl : j = k := by omega
              exact HS.out.symm.trans HT.out), hwr.drewN _⟩
          case measure => simp [intOf]; omega
        · have hne : (s.toList == t.toList) = false := by simpa using fun h => hst (toList_inj h)
          have hd : decide (A = B) = false := by
            apply decide_eq_false
            intro h
            apply hst
            rw [HS.out, HT.out]
            simp only [h]
          have HD := Lib.hid hd
          clear hd hst
          go_wp2
          go_quiet (fail)
          go_wp2
          go_ret
          exact ⟨ret_bool HD.out.symm, hwr.drewN _⟩
      · have hd : decide (A = B) = true := by
          apply decide_eq_true
          apply List.ext_getElem
          · rw [AL.out, BL.out]
          · intro j h h'
            exact hall.out j h h' (by rw [AL.out] at h; omega)
        have HD := Lib.hid hd
        clear hd
        go_wp2
        go_ret
        exact ⟨ret_bool HD.out.symm, hwr⟩
  · have h1 : ((la : Int) != (lb : Int)) = true := by simp; omega
    have hd : decide (A = B) = false := by
      apply decide_eq_false
      intro h
      apply hll
      rw [← al, ← bl, h]
    have HD := Lib.hid hd
    clear hd hll al bl ax bx
    go_enter Try.func30, Try.ntmps30
    go_wp2
    go_ret
    exact ⟨ret_bool HD.out.symm, Drawn.refl _⟩
end Go.Proofs.Ytdpohibgipkhnaa
namespace Go.Proofs.Ytdpohibgipkhnaa
open Go.RowKit Go.Proofs.Ytdpohibgipkhnaa.Oct

theorem info_u8 : (Try.prog.info? 5).map (fun i => (i.zero, i.size, i.bytes)) = some (some (.int .u8 0), 1, 1) := by kernel_rfl

/-- The text's octets made small, as far as k. -/
def lowTo (s : ByteArray) (k : Nat) : List UInt8 := (s.data.toList.take k).map lowB
theorem lowTo_succ (s : ByteArray) (k : Nat) (h : k < s.size) : lowTo s (k + 1) = lowTo s k ++ [lowB s[k]] := by
  unfold lowTo; rw [take_snoc s k h, List.map_append]; rfl
theorem lowTo_all (s : ByteArray) : lowTo s s.size = s.data.toList.map lowB := by
  unfold lowTo; rw [List.take_of_length_le (by simp)]
theorem lowTo_length (s : ByteArray) (k : Nat) (h : k ≤ s.size) : (lowTo s k).length = k := by
  unfold lowTo; simp; omega
theorem lowB_val (c : UInt8) (n : Int) (h : n = lowI c.toNat) : Value.int .u8 n = .int .u8 (lowB c).toNat := by rw [h, lowB_toNat]

set_option maxHeartbeats 400000 in
/-- The reference's Lower. -/
theorem rlower_any (s : ByteArray) (w : World) (hs : s.size ≤ 140737488355328) :
    Calls Try.prog 67 #[.string s] w fun e w' => e = .returned (.string (lowS s)) ∧ Below w.heap.size w w' := by
  obtain ⟨i0, hi, hz⟩ := info_hid info_u8
  go_enter Try.func67, Try.ntmps67
  go_wp2
  go_loopw [3, 4] (fun v i wr => ∃ k : Nat, k ≤ s.size ∧ i = .int .i64 k ∧ (∃ g cap, v = .slice (some ⟨g, 0, none⟩) k cap) ∧ wr.ownsRow w.heap.size 5 1 v k (byteVals (lowTo s k)) ∧ Below w.heap.size w wr) (fun _ i _ => s.size - (intOf i).toNat)
  case atStart => exact ⟨0, Nat.zero_le _, rfl, ⟨_, _, rfl⟩, World.ownsRow_lit w #[] 0 (Nat.le_refl _) (by decide) rfl, (Below.refl _ _).alloc (Nat.le_refl _) _⟩
  case round =>
    obtain ⟨k, hk, rfl, ⟨g, cap, rfl⟩, hown, hbel⟩ := hrel
    by_cases hlt : k < s.size
    · have c1 : (s[k].toNat : Int) ≤ 255 := by have := s[k].toNat_lt; omega
      have hsz := hbel.size
      have hlo := hown.lt g rfl
      have hstep : ∀ n : Int, n = lowI (s[k].toNat) → Hid (byteVals (lowTo s k) ++ [.int .u8 n] = byteVals (lowTo s (k + 1))) := fun n hn => by
        show _ = _
        rw [lowTo_succ s k hlt, byteVals_snoc, lowB_val _ n hn]
      by_cases ha : (65 : Int) ≤ (s[k].toNat : Int)
      · by_cases hb : (s[k].toNat : Int) ≤ 90
        · have HS := hstep (s[k].toNat + 32) (by unfold lowI; rw [if_pos (by omega)])
          clear hstep
          go_wp2_with (at_builtin; refine wpList_append_new rfl (.tmp 24) (.tmp 26) 90 rfl w.heap.size 5 Try.underlying90 hi hz rfl (by decide) wr [.int .u8 (s[k].toNat + 32)] hown rfl rfl rfl (one_int _ _) (by unfold maxLen; omega) (by omega) (by omega) ?_; intro g' cap' w1 hown1 hgrow1)
          have R := below_owned hbel hsz hown hgrow1
          rw [HS.out] at hown1
          go_roundw
          case rel => exact ⟨k + 1, by omega, by go_num, ⟨_, _, rfl⟩, hown1, R⟩
          case measure => simp [intOf]; omega
        · have HS := hstep (s[k].toNat) (by unfold lowI; rw [if_neg (by omega)])
          clear hstep
          go_wp2_with (at_builtin; refine wpList_append_new rfl (.tmp 24) (.tmp 26) 90 rfl w.heap.size 5 Try.underlying90 hi hz rfl (by decide) wr [.int .u8 (s[k].toNat)] hown rfl rfl rfl (one_int _ _) (by unfold maxLen; omega) (by omega) (by omega) ?_; intro g' cap' w1 hown1 hgrow1)
          have R := below_owned hbel hsz hown hgrow1
          rw [HS.out] at hown1
          go_roundw
          case rel => exact ⟨k + 1, by omega, by go_num, ⟨_, _, rfl⟩, hown1, R⟩
          case measure => simp [intOf]; omega
      · have HS := hstep (s[k].toNat) (by unfold lowI; rw [if_neg (by omega)])
        clear hstep
        go_wp2_with (at_builtin; refine wpList_append_new rfl (.tmp 24) (.tmp 26) 90 rfl w.heap.size 5 Try.underlying90 hi hz rfl (by decide) wr [.int .u8 (s[k].toNat)] hown rfl rfl rfl (one_int _ _) (by unfold maxLen; omega) (by omega) (by omega) ?_; intro g' cap' w1 hown1 hgrow1)
        have R := below_owned hbel hsz hown hgrow1
        rw [HS.out] at hown1
        go_roundw
        case rel => exact ⟨k + 1, by omega, by go_num, ⟨_, _, rfl⟩, hown1, R⟩
        case measure => simp [intOf]; omega
    · obtain rfl : k = s.size := by omega
      have hback := fun wx => back_of_cells (P := Try.prog) (w := wr) (cap := cap) 90 9 Try.underlying90 Try.underlying5 Try.underlying9 (CellsAt.of_owned hown) s.size wx
      have hback2 := hback (lowTo_length s _ (Nat.le_refl _)).symm
      clear hback
      go_wp2
      go_ret
      exact ⟨ret_str (by rw [lowTo_all]; rfl), hbel⟩

/-- The text's octets, the first k of them made small. -/
def lowMix (s : ByteArray) (k : Nat) : List UInt8 := (s.data.toList.take k).map lowB ++ s.data.toList.drop k
theorem lowMix_zero (s : ByteArray) : lowMix s 0 = s.data.toList := by simp [lowMix]
theorem lowMix_all (s : ByteArray) : lowMix s s.size = s.data.toList.map lowB := by
  unfold lowMix; rw [List.take_of_length_le (by simp), List.drop_of_length_le (by simp), List.append_nil]
theorem lowMix_length (s : ByteArray) (k : Nat) : (lowMix s k).length = s.size := by
  unfold lowMix; simp; omega
theorem lowMix_at (s : ByteArray) (k : Nat) (h : k < s.size) (h2 : k < (lowMix s k).length) : (lowMix s k)[k] = s[k] := by
  apply Option.some.inj
  rw [← List.getElem?_eq_getElem h2]
  unfold lowMix
  have hl : ((s.data.toList.take k).map lowB).length = k := by simp; omega
  rw [List.getElem?_append_right (by omega), hl, Nat.sub_self, List.getElem?_drop, Nat.add_zero, List.getElem?_eq_getElem (by simpa using h)]
  rfl
theorem lowMix_set (s : ByteArray) (k : Nat) (h : k < s.size) : (lowMix s k).set k (lowB s[k]) = lowMix s (k + 1) := by
  unfold lowMix
  have hl : ((s.data.toList.take k).map lowB).length = k := by simp; omega
  rw [List.set_append_right _ _ (by omega), hl, Nat.sub_self, take_snoc s k h, List.map_append, List.append_assoc]
  rw [List.drop_eq_getElem_cons (show k < s.data.toList.length by simpa using h)]
  rfl

set_option maxHeartbeats 400000 in
/-- octet.Lower. -/
theorem lowerS_any (s : ByteArray) (w : World) (hs : s.size ≤ 9223372036854775807) :
    Calls Try.prog 81 #[.string s] w fun e w' => e = .returned (.string (lowS s)) ∧ Below w.heap.size w w' := by
  have hconv := fun wx => run_bytes_of_string (P := Try.prog) wx 9 90 5 s Try.underlying9 Try.underlying90 Try.underlying5
  go_enter Try.func81, Try.ntmps81
  go_wp2
  clear hconv
  go_loopw [10] (fun i wr => ∃ k : Nat, k ≤ s.size ∧ i = .int .i64 k ∧ CellsAt wr w.heap.size (byteVals (lowMix s k)) ∧ Below w.heap.size w wr) (fun i _ => s.size - (intOf i).toNat)
  case atStart => exact ⟨0, Nat.zero_le _, rfl, by rw [lowMix_zero]; exact CellsAt.of_bytes w s _ _, ((Below.refl _ _).alloc (Nat.le_refl _) _).drew⟩
  case round =>
    obtain ⟨k, hk, rfl, hcells, hbel⟩ := hrel
    have HC := Lib.hid hcells
    have hlen : (byteVals (lowMix s k)).length = s.size := by rw [byteVals_length, lowMix_length]
    have HL := Lib.hid hlen
    clear hcells hlen
    by_cases hlt : k < s.size
    · have c1 : (s[k].toNat : Int) ≤ 255 := by have := s[k].toNat_lt; omega
      have hcell : wr.cell? ⟨w.heap.size, k, none⟩ = some (.int .u8 s[k].toNat) := by
        have h2 : k < (lowMix s k).length := by rw [lowMix_length]; exact hlt
        have := HC.out.cell k (by rw [HL.out]; exact hlt)
        rw [this, byteVals_get, lowMix_at s k hlt h2]
      have hfree : wr.frozen? ⟨w.heap.size, k, none⟩ = false := HC.out.free k (by rw [HL.out]; exact hlt)
      go_wp2_with (go_at_call 85; refine (lower_any _ _ (by omega) (by omega)).mono ?_; rintro e w' ⟨rfl, hw⟩; subst hw)
      go_roundw
      case rel =>
        refine ⟨k + 1, by omega, by go_num, ?_, hbel.setCell (Nat.le_refl _) _⟩
        have := HC.out.set k (.int .u8 (lowB s[k]).toNat)
        rw [byteVals_set, lowMix_set s k hlt] at this
        rw [lowB_val (s[k]) _ rfl]
        exact this
      case measure => simp [intOf]; omega
    · obtain rfl : k = s.size := by omega
      have hback := fun cap => back_of_cells (P := Try.prog) (cap := cap) 90 9 Try.underlying90 Try.underlying5 Try.underlying9 HC.out s.size (lowMix_length s _).symm
      go_wp2
      go_ret
      exact ⟨ret_str (by rw [lowMix_all]; rfl), hbel⟩
end Go.Proofs.Ytdpohibgipkhnaa
namespace Go.Proofs.Ytdpohibgipkhnaa
open Go.RowKit Go.Proofs.Ytdpohibgipkhnaa.Oct

/-- Has a name one of some names? -/
def isB (ns : List ByteArray) (a : ByteArray) : Bool := ns.any (fun n => foldS n a)
/-- The names that a closure of named's tells of lie at block b's slice. -/
def NamedAt (w : World) (b : Nat) (ns : List ByteArray) : Prop := ∃ x n c, Blk w b 35 #[.slice x n c] ∧ StrsArg w x n ns
theorem NamedAt.below {w w' : World} {b : Nat} {ns : List ByteArray} (h : NamedAt w b ns) (hb : Below w.heap.size w w') : NamedAt w' b ns := by
  obtain ⟨x, n, c, h1, h2⟩ := h
  exact ⟨x, n, c, h1.below hb h1.lt, h2.below hb⟩

set_option maxRecDepth 100000 in
set_option maxHeartbeats 1600000 in
theorem named11_any (n a : ByteArray) (b : Nat) (w : World) (hn : n.size ≤ 9223372036854775807) (ha : a.size ≤ 9223372036854775807) (hc : w.cell? ⟨b, 0, none⟩ = some (.string a)) :
    Calls Try.prog 102 #[.string n, .pointer (some ⟨b, 0, none⟩)] w fun e w' => e = .returned (.bool (foldS n a)) ∧ Below w.heap.size w w' := by
  go_enter Try.func102, Try.ntmps102
  go_wp2_with (go_at_call 44; refine (fold_any _ _ _ hn ha).mono ?_; rintro e w' ⟨rfl, hd⟩)
  go_ret
  exact ⟨rfl, hd.below _⟩

set_option maxRecDepth 100000 in
set_option maxHeartbeats 1600000 in
theorem named1_any (ns : List ByteArray) (a v : ByteArray) (b : Nat) (w : World) (ha : a.size ≤ 9223372036854775807) (h : NamedAt w b ns) :
    Calls Try.prog 101 #[.agg #[.string a, .string v], .pointer (some ⟨b, 0, none⟩)] w fun e w' => e = .returned (.bool (isB ns a)) ∧ Below w.heap.size w w' := by
  obtain ⟨x, n, c, hb, hs⟩ := h
  have c0 : ∀ o, (w.alloc o).cell? ⟨b, 0, none⟩ = some (.slice x n c) := fun o => ((below_new w o).cell (p := ⟨b, 0, none⟩) hb.lt).trans (hb.cell 0)
  have HB := Lib.hid hb
  have HS := Lib.hid hs
  clear hb hs
  go_enter Try.func101, Try.ntmps101
  go_wp2_with fail
  refine (contstr_any 102 #[.pointer (some ⟨w.heap.size, 0, none⟩)] (fun _ _ => by kernel_rfl) (fun n => foldS n a) _ x n c ns (HS.out.below (below_new _ _)) (fun W s hW hs => ?_)).mono ?_
  · have hbx := Blk.new w 31 #[.string a, .string v]
    exact named11_any s a w.heap.size W (HS.out.2.2.1 s hs) ha ((hbx.below hW hbx.lt).cell 0)
  rintro e w' ⟨rfl, hb'⟩
  go_wp2
  go_ret
  exact ⟨rfl, (below_new _ _).trans (hb'.mono (by simp))⟩

theorem named_any (x : Option Addr) (n c : Nat) (w : World) :
    Calls Try.prog 74 #[.slice x n c] w fun e w' => e = .returned (.func (.func 101) #[] #[.pointer (some ⟨w.heap.size, 0, none⟩)]) ∧ w.alloc (.cells #[.slice x n c] 35) = w' := by
  go_enter Try.func74, Try.ntmps74
  go_wp2
  go_ret
  exact ⟨rfl, rfl⟩
/-- named(name): the slice of one name, and the box of it. -/
theorem named_one (w : World) (n : ByteArray) (hn : n.size ≤ 9223372036854775807) :
    NamedAt ((w.alloc (.cells #[.string n] 9)).alloc (.cells #[.slice (some ⟨w.heap.size, 0, none⟩) 1 1] 35)) (w.heap.size + 1) [n] ∧ Below w.heap.size w ((w.alloc (.cells #[.string n] 9)).alloc (.cells #[.slice (some ⟨w.heap.size, 0, none⟩) 1 1] 35)) := by
  refine ⟨⟨some ⟨w.heap.size, 0, none⟩, 1, 1, ?_, ?_⟩, ?_⟩
  · have := Blk.new (w.alloc (.cells #[.string n] 9)) 35 #[.slice (some ⟨w.heap.size, 0, none⟩) 1 1]
    rwa [World.size_alloc] at this
  · refine ⟨rfl, by omega, by simpa using hn, .inr ⟨w.heap.size, 0, rfl, by simp; omega, fun i hi => ?_⟩⟩
    have h0 : i = 0 := by simpa using hi
    subst h0
    exact ((Blk.new w 9 #[.string n]).alloc _).cell 0
  · exact (below_new _ _).alloc (by simp) _

theorem info_string : (Try.prog.info? 9).map (fun i => (i.zero, i.size, i.bytes)) = some (some (.string ⟨#[]⟩), 1, 16) := by kernel_rfl

/-- The values of the fields of a name. -/
def allV (l : Flds) (name : ByteArray) : List ByteArray := (l.filter fun p => foldS name p.1).map (·.2)
theorem allV_take (l : Flds) (name : ByteArray) (k : Nat) (hk : k < l.length) : allV (l.take (k + 1)) name = allV (l.take k) name ++ (if foldS name l[k].1 = true then [l[k].2] else []) := by
  unfold allV
  rw [List.take_succ_eq_append_getElem hk, List.filter_append, List.map_append]
  congr 1
  cases h : foldS name l[k].1 <;> simp [h]
theorem allV_len (l : Flds) (name : ByteArray) (k : Nat) : (allV (l.take k) name).length ≤ k := by
  unfold allV
  rw [List.length_map]
  have := List.length_filter_le (fun p : ByteArray × ByteArray => foldS name p.1) (l.take k)
  have h2 := List.length_take_le k l
  omega
theorem isB_one (n a : ByteArray) : isB [n] a = foldS n a := by simp [isB]
theorem allV_mem {l : Flds} {name s : ByteArray} (h : s ∈ allV l name) : ∃ p ∈ l, p.2 = s := by
  unfold allV at h
  obtain ⟨p, hp, rfl⟩ := List.mem_map.1 h
  exact ⟨p, (List.mem_filter.1 hp).1, rfl⟩

/-- What a call leaves that hands back a list of texts in a row of its own. -/
def TextsPost (w : World) (ss : List ByteArray) (e : Ending) (w' : World) : Prop :=
  ∃ v, e = .returned v ∧ w'.ownsRow w.heap.size 9 1 v ss.length (strVals ss) ∧ (v = .slice none 0 0 ↔ ss = []) ∧ Below w.heap.size w w'

set_option maxRecDepth 100000 in
set_option maxHeartbeats 3200000 in
theorem all_any (w : World) (x : Option Addr) (n c : Nat) (l : Flds) (name : ByteArray) (hn : name.size ≤ 9223372036854775807) (h : FldsAt w x n l) (hfew : n ≤ 65536) :
    Calls Try.prog 31 #[.slice x n c, .string name] w (TextsPost w (allV l name)) := by
  obtain ⟨i0, hi, hz⟩ := info_hid info_string
  have hl := h.len
  subst hl
  have HA := Lib.hid h
  clear h
  go_enter Try.func31, Try.ntmps31
  go_wp2_with fail
  refine (named_any _ _ _ _).mono ?_
  rintro e w1 ⟨rfl, hw1⟩
  have hn1 := named_one w name hn
  rw [hw1] at hn1
  obtain ⟨hN, hB⟩ := hn1
  have HN := Lib.hid hN
  have HB := Lib.hid hB
  have z1 : w.heap.size ≤ w1.heap.size := hB.size
  rw [World.size_alloc]
  clear hw1 hN hB
  go_wp2
  go_loopg [6, 8, 14, 15, 16, 17, 18, 19, 20, 21, 22, 23, 24, 25, 26] l.length (fun gg s6 s8 s14 s15 s16 s17 s18 s19 s20 s21 s22 s23 s24 s25 s26 wr => ∃ k : Nat, k ≤ l.length ∧ l.length - k ≤ gg ∧ s14 = .int .i64 k ∧ ((s6 = .slice none 0 0 ∧ Hid (allV (l.take k) name = [])) ∨ (∃ g' c', s6 = .slice (some ⟨g', 0, none⟩) (allV (l.take k) name).length c' ∧ Hid (allV (l.take k) name ≠ []))) ∧ Hid (wr.ownsRow w1.heap.size 9 1 s6 (allV (l.take k) name).length (strVals (allV (l.take k) name))) ∧ Hid (Below w1.heap.size w1 wr))
  case atStart => exact ⟨0, Nat.zero_le _, by omega, rfl, .inl ⟨rfl, rfl⟩, World.ownsRow_nil _ _ _ _, Below.refl _ _⟩
  case round =>
    obtain ⟨k, hk, hg, rfl, hform, hown, hb1⟩ := hrel
    have hb : Hid (Below w.heap.size w wr) := grow_trans HB.out hb1.out
    have hnm := Lib.hid (HN.out.below hb1.out)
    by_cases hkl : k < l.length
    · obtain ⟨b, o, f, rfl, hl2, hf, hc1, hc2, hs1, hs2⟩ := (HA.out.below hb.out).get k hkl
      have htk := allV_take l name k hkl
      have hle := allV_len l name k
      rw [← hf] at htk
      obtain ⟨f1, f2⟩ := f
      simp only at hc1 hc2 hs1 hs2 htk
      have HF := Lib.hid hf
      clear hf
      obtain ⟨A, hA⟩ : ∃ A, A = allV (l.take k) name := ⟨_, rfl⟩
      rw [← hA] at hown htk hle hform
      have HT := Lib.hid htk
      have HAe := Lib.hid hA
      clear htk hA
      have zr : w1.heap.size ≤ wr.heap.size := hb1.out.size
      cases hps : foldS name f1
      · have HPS := Lib.hid hps
        clear hps
        go_wp2_with fail
        refine (named1_any [name] f1 f2 _ _ hs1 (hnm.out.below (below_new _ _))).mono ?_
        rintro e w3 ⟨rfl, hb3⟩
        rw [isB_one, HPS.out]
        have HB3 := Lib.hid (grow_trans (below_new wr (.cells #[.string f1, .string f2] 31)) hb3)
        clear hb3
        go_wp2
        go_roundg (l.length - (k + 1))
        case measure => omega
        case rel =>
          have e9 : allV (l.take (k + 1)) name = A := by rw [HT.out, HPS.out]; simp
          refine ⟨k + 1, by omega, by omega, by go_num, ?_⟩
          rw [e9]
          exact ⟨hform, own_below hown.out HB3.out, hb1.out.trans (HB3.out.mono zr)⟩
      · have HPS := Lib.hid hps
        clear hps
        go_wp2_with fail
        refine (named1_any [name] f1 f2 _ _ hs1 (hnm.out.below (below_new _ _))).mono ?_
        rintro e w3 ⟨rfl, hb3⟩
        rw [isB_one, HPS.out]
        have HB3 := Lib.hid (grow_trans (below_new wr (.cells #[.string f1, .string f2] 31)) hb3)
        have hbx := Blk.new wr 31 #[.string f1, .string f2]
        have d2 : w3.cell? ⟨wr.heap.size, 1, none⟩ = some (.string f2) := (hbx.below hb3 hbx.lt).cell 1
        have HO3 := Lib.hid (own_below hown.out HB3.out)
        have z3 : w1.heap.size ≤ w3.heap.size := Nat.le_trans zr HB3.out.size
        have H5 : Hid (A.length + 1 ≤ maxLen) := by show _ ≤ _; unfold maxLen; omega
        have H6 : Hid ((A.length + 1) * 16 ≤ 140737488355328) := by show _ ≤ _; omega
        clear hb3 hbx
        rcases hform with ⟨rfl, _⟩ | ⟨g', c', rfl, _⟩
        all_goals
          go_wp2_with (at_builtin; refine wpList_append_new rfl (.tmp 21) (.tmp 24) 35 rfl w1.heap.size 9 Try.underlying35 hi hz rfl (by decide) w3 [.string f2] HO3.out rfl rfl rfl (one_str _) H5.out H6.out z3 ?_; intro g4 c4 w4 hown4 hgrow4; have O4 := Lib.hid hown4; have G4 := Lib.hid hgrow4; clear hown4 hgrow4)
          go_roundg (l.length - (k + 1))
          case measure => omega
          case rel =>
            have e9 : allV (l.take (k + 1)) name = A ++ [f2] := by rw [HT.out, HPS.out]; simp
            have e11 : (A ++ [f2]).length = A.length + 1 := by simp
            have e10 : strVals (A ++ [f2]) = strVals A ++ [.string f2] := by simp [strVals]
            have hbw := below_owned (hb1.out.trans (HB3.out.mono zr)) z3 HO3.out G4.out
            refine ⟨k + 1, by omega, by omega, by go_num, ?_⟩
            rw [e9, e10, e11]
            exact ⟨.inr ⟨g4, c4, rfl, by simp [Hid]⟩, O4.out, hbw⟩
    · obtain rfl : k = l.length := by omega
      rw [List.take_length] at hform hown
      rcases hform with ⟨rfl, hn0⟩ | ⟨g', c', rfl, hn0⟩
      all_goals
        go_wp2
        go_ret
        have hn1 := hn0.out
        refine ⟨_, rfl, own_mono hown.out z1, ?_, grow_trans HB.out hb1.out⟩
        simp [hn1]
end Go.Proofs.Ytdpohibgipkhnaa
namespace Go.Proofs.Ytdpohibgipkhnaa
open Go.RowKit Go.Proofs.Ytdpohibgipkhnaa.Oct

/-- The value of the first field of a name. -/
def getF (l : Flds) (name : ByteArray) : ByteArray × Bool :=
  match allV l name with
  | [] => (⟨#[]⟩, false)
  | s :: _ => (s, true)
theorem getF_none {l : Flds} {name : ByteArray} (h : l.any (fun p => foldS name p.1) = false) : getF l name = (⟨#[]⟩, false) := by
  have : allV l name = [] := by
    unfold allV
    rw [List.map_eq_nil_iff, List.filter_eq_nil_iff]
    intro p hp hf
    have : l.any (fun p => foldS name p.1) = true := List.any_eq_true.2 ⟨p, hp, hf⟩
    rw [h] at this
    cases this
  unfold getF
  rw [this]
theorem allV_first {name : ByteArray} : ∀ (l : Flds) (k : Nat) (hk : k < l.length), foldS name l[k].1 = true → (∀ j (hj : j < k), foldS name (l[j]'(by omega)).1 = false) → ∃ r, allV l name = l[k].2 :: r
  | [], k, hk, _, _ => absurd hk (Nat.not_lt_zero _)
  | p :: l, 0, _, h, _ => ⟨allV l name, by
    have h' : foldS name p.1 = true := h
    unfold allV; simp [h']⟩
  | p :: l, k + 1, hk, h, hb => by
    have h0 : foldS name p.1 = false := hb 0 (by omega)
    obtain ⟨r, hr⟩ := allV_first l k (by simpa using hk) h (fun j hj => hb (j + 1) (by omega))
    refine ⟨r, ?_⟩
    have e : allV (p :: l) name = allV l name := by unfold allV; simp [h0]
    rw [e, hr]
    rfl
theorem getF_some {l : Flds} {name : ByteArray} {k : Nat} (hk : k < l.length) (h : foldS name l[k].1 = true) (hb : ∀ j (hj : j < k), foldS name (l[j]'(by omega)).1 = false) : getF l name = (l[k].2, true) := by
  obtain ⟨r, hr⟩ := allV_first l k hk h hb
  unfold getF
  rw [hr]

set_option maxRecDepth 100000 in
set_option maxHeartbeats 1600000 in
theorem hget_any (w : World) (x : Option Addr) (n c : Nat) (l : Flds) (name : ByteArray) (hn : name.size ≤ 9223372036854775807) (h : FldsAt w x n l) :
    Calls Try.prog 25 #[.slice x n c, .string name] w fun e w' => e = .returned (.tuple #[.string (getF l name).1, .bool (getF l name).2]) ∧ Below w.heap.size w w' := by
  have hl := h.len
  subst hl
  have hbig := h.big
  have HA := Lib.hid h
  clear h
  go_enter Try.func25, Try.ntmps25
  go_wp2_with fail
  refine (named_any _ _ _ _).mono ?_
  rintro e w1 ⟨rfl, hw1⟩
  have hn1 := named_one w name hn
  rw [hw1] at hn1
  obtain ⟨hN, hB⟩ := hn1
  have HN := Lib.hid hN
  have HB := Lib.hid hB
  rw [World.size_alloc]
  clear hw1 hN hB
  go_wp2_with fail
  refine (idxfld_any 101 #[.pointer (some ⟨w.heap.size + 1, 0, none⟩)] (fun _ _ => by kernel_rfl) (fun p => foldS name p.1) w1 x _ c l (HA.out.below HB.out) (fun W f hW hf => ?_)).mono ?_
  · have := named1_any [name] f.1 f.2 (w.heap.size + 1) W (HA.out.str f hf).1 (HN.out.below hW)
    rw [isB_one] at this
    exact this
  rintro e w2 ⟨rfl, hb2⟩
  have HB2 := Lib.hid (grow_trans HB.out hb2)
  clear hb2
  rcases idxB_cases (fun p : ByteArray × ByteArray => foldS name p.1) l with ⟨hi, hno⟩ | ⟨k, hi, hk, hy, hbef, _⟩
  · rw [hi]
    have HG := Lib.hid (getF_none hno)
    clear hi hno
    go_wp2
    go_ret2
    exact ⟨by rw [HG.out]; rfl, HB2.out⟩
  · rw [hi]
    have hg := getF_some hk hy hbef
    obtain ⟨b, o, f, rfl, hl2, hf, hc1, hc2, hs1, hs2⟩ := (HA.out.below HB2.out).get k hk
    rw [← hf] at hg
    have HG := Lib.hid hg
    have i1 : (k : Int) < (l.length : Int) := by omega
    clear hi hy hbef hg hf
    go_wp2
    go_ret2
    exact ⟨by rw [HG.out]; rfl, HB2.out⟩

set_option maxRecDepth 100000 in
set_option maxHeartbeats 800000 in
theorem hcount_any (w : World) (x : Option Addr) (n c : Nat) (l : Flds) (name : ByteArray) (hn : name.size ≤ 9223372036854775807) (h : FldsAt w x n l) (hfew : n ≤ 65536) :
    Calls Try.prog 23 #[.slice x n c, .string name] w fun e w' => e = .returned (.int .i64 (allV l name).length) ∧ Below w.heap.size w w' := by
  have H := Lib.hid (all_any w x n c l name hn h hfew)
  clear h
  go_enter Try.func23, Try.ntmps23
  go_wp2_with fail
  refine H.out.mono ?_
  rintro e w1 ⟨v, rfl, ho, hnil, hb⟩
  rcases ho.2 with ⟨rfl, h0⟩ | ⟨g, cap, cur, rfl, _⟩
  · have H0 := Lib.hid h0
    clear h0 ho hnil
    go_wp2
    go_ret
    exact ⟨ret_int (by rw [H0.out]; rfl), hb⟩
  · clear ho hnil
    go_wp2
    go_ret
    exact ⟨rfl, hb⟩

/-! ### the document's -/
theorem low_eq (a b : ByteArray) : ((lowS a).toList == (lowS b).toList) = foldS a b := by
  unfold foldS
  rw [ByteArray.toList_eq, ByteArray.toList_eq, Bool.eq_iff_iff]
  simp only [beq_iff_eq, decide_eq_true_eq]
  exact ⟨bytes_eq_of_list, fun h => by rw [h]⟩
theorem fold_symm (a b : ByteArray) : foldS a b = foldS b a := by
  unfold foldS
  exact decide_eq_decide.2 eq_comm

set_option maxRecDepth 100000 in
set_option maxHeartbeats 800000 in
theorem ris_any (a b : ByteArray) (w : World) (ha : a.size ≤ 140737488355328) (hb : b.size ≤ 140737488355328) :
    Calls Try.prog 39 #[.string a, .string b] w fun e w' => e = .returned (.bool (foldS b a)) ∧ Below w.heap.size w w' := by
  have HE := Lib.hid (low_eq a b)
  go_enter Try.func39, Try.ntmps39
  go_wp2_with fail
  refine (rlower_any a _ ha).mono ?_
  rintro e w1 ⟨rfl, h1⟩
  have H1 := Lib.hid h1
  clear h1
  go_wp2_with fail
  refine (rlower_any b _ hb).mono ?_
  rintro e w2 ⟨rfl, h2⟩
  have H2 := Lib.hid (grow_trans H1.out h2)
  clear h2
  go_wp2
  go_ret
  exact ⟨ret_bool (by rw [HE.out, fold_symm]), H2.out⟩

set_option maxRecDepth 100000 in
set_option maxHeartbeats 3200000 in
theorem rall_any (w : World) (x : Option Addr) (n c : Nat) (l : Flds) (name : ByteArray) (hn : name.size ≤ 140737488355328) (h : FldsAt w x n l) (hfew : n ≤ 65536) (hsm : ∀ p ∈ l, p.1.size ≤ 140737488355328) :
    Calls Try.prog 29 #[.slice x n c, .string name] w fun e w' => ∃ g c', e = .returned (.slice (some ⟨g, 0, none⟩) (allV l name).length c') ∧ w'.ownsRow w.heap.size 9 1 (.slice (some ⟨g, 0, none⟩) (allV l name).length c') (allV l name).length (strVals (allV l name)) ∧ Below w.heap.size w w' := by
  obtain ⟨i0, hi, hz⟩ := info_hid info_string
  have hl := h.len
  subst hl
  have HA := Lib.hid h
  have HSm := Lib.hid hsm
  clear h hsm
  go_enter Try.func29, Try.ntmps29
  go_wp2
  go_loopg [5, 6, 8, 9, 10, 11, 12, 13, 14, 15, 16, 17, 18, 19, 20, 21, 22, 23, 24, 25, 26, 27, 28] l.length (fun gg s5 s6 s8 s9 s10 s11 s12 s13 s14 s15 s16 s17 s18 s19 s20 s21 s22 s23 s24 s25 s26 s27 s28 wr => ∃ (k g' c' : Nat), k ≤ l.length ∧ l.length - k ≤ gg ∧ s6 = .int .i64 k ∧ s5 = .slice (some ⟨g', 0, none⟩) (allV (l.take k) name).length c' ∧ Hid (wr.ownsRow w.heap.size 9 1 (.slice (some ⟨g', 0, none⟩) (allV (l.take k) name).length c') (allV (l.take k) name).length (strVals (allV (l.take k) name))) ∧ Hid (Below w.heap.size w wr))
  case atStart => exact ⟨0, _, _, Nat.zero_le _, by omega, rfl, rfl, World.ownsRow_lit w #[] 0 (Nat.le_refl _) (by decide) rfl, below_new _ _⟩
  case round =>
    obtain ⟨k, g', c', hk, hg, rfl, rfl, hown, hb⟩ := hrel
    by_cases hkl : k < l.length
    · obtain ⟨b, o, f, rfl, hl2, hf, hc1, hc2, hs1, hs2⟩ := (HA.out.below hb.out).get k hkl
      have htk := allV_take l name k hkl
      have hle := allV_len l name k
      have hsf : f.1.size ≤ 140737488355328 := by rw [hf]; exact HSm.out _ (List.getElem_mem hl2)
      have hbl : b < wr.heap.size := by
        rcases (HA.out.below hb.out).at_ with h0 | ⟨b', o', he, hlt, _⟩
        · omega
        · cases he; exact hlt
      rw [← hf] at htk
      obtain ⟨f1, f2⟩ := f
      simp only at hc1 hc2 hs1 hs2 htk hsf
      have HF := Lib.hid hf
      clear hf
      obtain ⟨A, hA⟩ : ∃ A, A = allV (l.take k) name := ⟨_, rfl⟩
      rw [← hA] at hown htk hle ⊢
      have HT := Lib.hid htk
      have HAe := Lib.hid hA
      clear htk hA
      have zr : w.heap.size ≤ wr.heap.size := hb.out.size
      cases hps : foldS name f1
      · have HPS := Lib.hid hps
        clear hps
        go_wp2_with fail
        refine (ris_any f1 name _ hsf hn).mono ?_
        rintro e w3 ⟨rfl, hb3⟩
        rw [HPS.out]
        have HB3 := Lib.hid hb3
        clear hb3
        go_wp2
        go_roundg (l.length - (k + 1))
        case measure => omega
        case rel =>
          have e9 : allV (l.take (k + 1)) name = A := by rw [HT.out, HPS.out]; simp
          refine ⟨k + 1, g', c', by omega, by omega, by go_num, ?_⟩
          rw [e9]
          exact ⟨rfl, own_below hown.out HB3.out, grow_trans hb.out HB3.out⟩
      · have HPS := Lib.hid hps
        clear hps
        go_wp2_with fail
        refine (ris_any f1 name _ hsf hn).mono ?_
        rintro e w3 ⟨rfl, hb3⟩
        rw [HPS.out]
        have HB3 := Lib.hid hb3
        have d2 : w3.cell? ⟨b, o + k * 2 + 1, none⟩ = some (.string f2) := (hb3.cell (p := ⟨b, o + k * 2 + 1, none⟩) hbl).trans hc2
        have HO3 := Lib.hid (own_below hown.out HB3.out)
        have z3 : w.heap.size ≤ w3.heap.size := Nat.le_trans zr HB3.out.size
        have H5 : Hid (A.length + 1 ≤ maxLen) := by show _ ≤ _; unfold maxLen; omega
        have H6 : Hid ((A.length + 1) * 16 ≤ 140737488355328) := by show _ ≤ _; omega
        clear hb3
        go_wp2_with (at_builtin; refine wpList_append_new rfl (.tmp 21) (.tmp 27) 35 rfl w.heap.size 9 Try.underlying35 hi hz rfl (by decide) w3 [.string f2] HO3.out rfl rfl rfl (one_str _) H5.out H6.out z3 ?_; intro g4 c4 w4 hown4 hgrow4; have O4 := Lib.hid hown4; have G4 := Lib.hid hgrow4; clear hown4 hgrow4)
        go_roundg (l.length - (k + 1))
        case measure => omega
        case rel =>
          have e9 : allV (l.take (k + 1)) name = A ++ [f2] := by rw [HT.out, HPS.out]; simp
          have e11 : (A ++ [f2]).length = A.length + 1 := by simp
          have e10 : strVals (A ++ [f2]) = strVals A ++ [.string f2] := by simp [strVals]
          have hbw := below_owned (grow_trans hb.out HB3.out) z3 HO3.out G4.out
          refine ⟨k + 1, g4, c4, by omega, by omega, by go_num, ?_⟩
          rw [e9, e10, e11]
          exact ⟨rfl, O4.out, hbw⟩
    · obtain rfl : k = l.length := by omega
      rw [List.take_length] at hown ⊢
      go_wp2
      go_ret
      exact ⟨g', c', rfl, hown.out, hb.out⟩

set_option maxRecDepth 100000 in
set_option maxHeartbeats 800000 in
theorem hrget_any (w : World) (x : Option Addr) (n c : Nat) (l : Flds) (name : ByteArray) (hn : name.size ≤ 140737488355328) (h : FldsAt w x n l) (hfew : n ≤ 65536) (hsm : ∀ p ∈ l, p.1.size ≤ 140737488355328) :
    Calls Try.prog 26 #[.slice x n c, .string name] w fun e w' => e = .returned (.tuple #[.string (getF l name).1, .bool (getF l name).2]) ∧ Below w.heap.size w w' := by
  have H := Lib.hid (rall_any w x n c l name hn h hfew hsm)
  have hlen : (allV l name).length ≤ 65536 := by
    have := allV_len l name l.length
    rw [List.take_length] at this
    have := h.len
    omega
  clear h hsm
  go_enter Try.func26, Try.ntmps26
  go_wp2_with fail
  refine H.out.mono ?_
  rintro e w1 ⟨g, c', rfl, ho, hb⟩
  cases hA : allV l name with
  | nil =>
    have HG : Hid (getF l name = (⟨#[]⟩, false)) := by show _ = _; unfold getF; rw [hA]
    clear ho hA
    go_wp2
    go_ret2
    exact ⟨by rw [HG.out]; rfl, hb⟩
  | cons s r =>
    have HG : Hid (getF l name = (s, true)) := by show _ = _; unfold getF; rw [hA]
    rw [hA] at ho hlen
    have c0 : w1.cell? ⟨g, 0, none⟩ = some (.string s) := by rw [ho.cellAt 0 (by simp)]; rfl
    obtain ⟨m, hm⟩ : ∃ m : Nat, m = r.length := ⟨_, rfl⟩
    have e1 : (s :: r).length = m + 1 := by simp [hm]
    rw [e1]
    have i1 : (1 : Int) ≤ (m : Int) + 1 := by omega
    have i2 : (((m + 1 : Nat) : Int) == 0) = false := by simp; omega
    have i3 : ((m : Int) + 1 == 0) = false := by simp; omega
    clear ho hA hlen e1 hm
    go_wp2
    go_ret2
    exact ⟨by rw [HG.out]; rfl, hb⟩
end Go.Proofs.Ytdpohibgipkhnaa
namespace Go.Proofs.Ytdpohibgipkhnaa
open Go.RowKit Go.Proofs.Ytdpohibgipkhnaa.Oct

/-- The signs, as the text of the program has them. -/
theorem marks_at (pos : Nat) (h : pos < 15) : (Utf8.decode ⟨#[33, 35, 36, 37, 38, 39, 42, 43, 45, 46, 94, 95, 96, 124, 126]⟩ pos) = ((marksL.getD pos 0).toNat, 1) := by
  rcases (show pos = 0 ∨ pos = 1 ∨ pos = 2 ∨ pos = 3 ∨ pos = 4 ∨ pos = 5 ∨ pos = 6 ∨ pos = 7 ∨ pos = 8 ∨ pos = 9 ∨ pos = 10 ∨ pos = 11 ∨ pos = 12 ∨ pos = 13 ∨ pos = 14 from by omega) with rfl | rfl | rfl | rfl | rfl | rfl | rfl | rfl | rfl | rfl | rfl | rfl | rfl | rfl | rfl <;> rfl

theorem next_mark (w : World) (pos : Nat) (h : pos < 15) : ∃ m, marksL[pos]? = some m ∧ ∀ ty, (Instr.next (.pointer (some ⟨w.heap.size, 0, none⟩)) true ty).run Try.prog (w.iter ⟨#[33, 35, 36, 37, 38, 39, 42, 43, 45, 46, 94, 95, 96, 124, 126]⟩ pos) = .ok (.tuple #[.bool true, .int .i64 pos, .int .i32 m]) (w.iter ⟨#[33, 35, 36, 37, 38, 39, 42, 43, 45, 46, 94, 95, 96, 124, 126]⟩ (pos + 1)) := by
  have hl : marksL.length = 15 := rfl
  refine ⟨marksL[pos]'(by omega), List.getElem?_eq_getElem _, fun ty => ?_⟩
  rw [run_next_any w ⟨#[33, 35, 36, 37, 38, 39, 42, 43, 45, 46, 94, 95, 96, 124, 126]⟩ pos ty h, marks_at pos h]
  have h0 : 0 ≤ marksL[pos]'(by omega) := by
    have : ∀ x ∈ marksL, 0 ≤ x := by decide
    exact this _ (List.getElem_mem _)
  rw [List.getD_eq_getElem?_getD, List.getElem?_eq_getElem (by omega), Option.getD_some, Int.toNat_of_nonneg h0]

set_option maxHeartbeats 400000 in
theorem tchar_any (r : Int) (w : World) :
    Calls Try.prog 99 #[.int .i32 r] w fun e w' => e = .returned (.bool (tcharI r)) ∧ Below w.heap.size w w' := by
  have e : tcharI r = (alnumI r || marksL.contains r) := rfl
  have HE := Lib.hid e
  clear e
  by_cases hal : alnumI r = true
  · have hr : (97 ≤ r ∧ r ≤ 122) ∨ (65 ≤ r ∧ r ≤ 90) ∨ (48 ≤ r ∧ r ≤ 57) := by unfold alnumI at hal; simp at hal; omega
    have HA := Lib.hid hal
    clear hal
    rcases hr with ⟨h1, h2⟩ | ⟨h1, h2⟩ | ⟨h1, h2⟩
    all_goals
      go_enter Try.func99, Try.ntmps99
      go_wp2
      go_ret
      exact ⟨ret_bool (by rw [HE.out, HA.out]; rfl), Below.refl _ _⟩
  · have hr : (¬ (97 ≤ r) ∨ ¬ (r ≤ 122)) ∧ (¬ (65 ≤ r) ∨ ¬ (r ≤ 90)) ∧ (¬ (48 ≤ r) ∨ ¬ (r ≤ 57)) := by unfold alnumI at hal; simp at hal; omega
    have hal2 : alnumI r = false := by simpa using hal
    have HA := Lib.hid hal2
    have HR := Lib.hid hr
    clear hal hal2 hr
    have main : (r < 48 ∨ (57 < r ∧ r < 65) ∨ (90 < r ∧ r < 97) ∨ 122 < r) := by have := HR.out; omega
    rcases main with h1 | ⟨h1, h2⟩ | ⟨h1, h2⟩ | h1
    all_goals
      go_enter Try.func99, Try.ntmps99
      go_wp2
      go_loopw [4] (fun _ wr => ∃ pos, pos ≤ 15 ∧ wr = w.iter ⟨#[33, 35, 36, 37, 38, 39, 42, 43, 45, 46, 94, 95, 96, 124, 126]⟩ pos ∧ Hid (∀ j m, j < pos → marksL[j]? = some m → m ≠ r)) (fun _ wr => 15 - wr.iterPos w.heap.size)
      case atStart => exact ⟨0, by omega, rfl, fun j m h => absurd h (Nat.not_lt_zero _)⟩
      case round =>
        obtain ⟨pos, hpos, rfl, hall⟩ := hrel
        by_cases hlt : pos < 15
        · obtain ⟨m, hm, hnx⟩ := next_mark w pos hlt
          have HM := Lib.hid hm
          clear hm
          cases hmr : (m == r)
          · go_wp2
            go_roundw
            case rel => exact ⟨pos + 1, by omega, rfl, (fun j m' hj hm' => by
              by_cases hjp : j < pos
              · exact hall.out j m' hjp hm'
              · obtain rfl : j = pos := by omega
                obtain rfl := Option.some.inj (HM.out.symm.trans hm')
                simpa using hmr)⟩
            case measure => simp; omega
          · go_wp2
            go_ret
            refine ⟨ret_bool ?_, (Below.refl _ _).alloc (Nat.le_refl _) _⟩
            obtain rfl : m = r := by simpa using hmr
            rw [HE.out, HA.out, Bool.false_or]
            exact (List.contains_iff_mem.2 (List.mem_of_getElem? HM.out)).symm
        · have hnx : ∀ ty, (Instr.next (.pointer (some ⟨w.heap.size, 0, none⟩)) true ty).run Try.prog (w.iter ⟨#[33, 35, 36, 37, 38, 39, 42, 43, 45, 46, 94, 95, 96, 124, 126]⟩ pos) = _ := fun ty => run_next_end w _ pos ty (show ¬ pos < 15 from hlt)
          go_wp2
          go_ret
          refine ⟨ret_bool ?_, (Below.refl _ _).alloc (Nat.le_refl _) _⟩
          rw [HE.out, HA.out, Bool.false_or]
          refine (Bool.eq_false_iff.2 fun hc => ?_).symm
          obtain ⟨j, hj⟩ := List.mem_iff_getElem?.1 (List.contains_iff_mem.1 hc)
          have hjl := (List.getElem?_eq_some_iff.1 hj).1
          have : marksL.length = 15 := rfl
          exact hall.out j r (by omega) hj rfl

set_option maxHeartbeats 400000 in
/-- all, at the test tcharI. -/
theorem all_tchar (s : ByteArray) (w : World) :
    Calls Try.prog 98 #[.string s, .func (Fn.func 99) #[] #[]] w fun e w' => e = .returned (.bool (allFrom tcharI s 0)) ∧ Below w.heap.size w w' := by
  go_enter Try.func98, Try.ntmps98
  go_wp2
  go_loopw [6] (fun _ wr => ∃ pos, pos ≤ s.size ∧ wr.heap[w.heap.size]? = some (.stringIter s pos) ∧ Hid (allFrom tcharI s 0 = allFrom tcharI s pos) ∧ Below w.heap.size w wr) (fun _ wr => s.size - wr.iterPos w.heap.size)
  case atStart => exact ⟨0, Nat.zero_le _, World.iter_heap _ _ _, rfl, (Below.refl _ _).alloc (Nat.le_refl _) _⟩
  case round =>
    obtain ⟨pos, hpos, hit, hall, hbel⟩ := hrel
    have hlt0 : w.heap.size < wr.heap.size := (Array.getElem?_eq_some_iff.1 hit).1
    have hmeas : wr.iterPos w.heap.size = pos := iterPos_of hit
    have HM := Lib.hid hmeas
    clear hmeas
    by_cases hlt : pos < s.size
    · have hnx := fun ty => Lib.run_next_any_at (P := Try.prog) wr w.heap.size s pos ty hit hlt
      have hrest := (decode_rest s pos hlt).1
      have hit1 := Lib.iterAt_heap wr w.heap.size s pos (pos + (Utf8.decode s pos).2) hit
      have hsz1 : w.heap.size ≤ (wr.iterAt w.heap.size s (pos + (Utf8.decode s pos).2)).heap.size := by rw [Lib.iterAt_size]; omega
      have hlt1 : w.heap.size < (wr.iterAt w.heap.size s (pos + (Utf8.decode s pos).2)).heap.size := by rw [Lib.iterAt_size]; omega
      have hbel1 : Below w.heap.size w (wr.iterAt w.heap.size s (pos + (Utf8.decode s pos).2)) := Lib.below_iterAt hbel (Nat.le_refl _) _ _
      have hwd : 1 ≤ (Utf8.decode s pos).2 := by
        by_cases ha : (s[pos]).toNat < 128
        · rw [decode_ascii s pos hlt ha]; exact Nat.le_refl _
        · exact (decode_high s pos hlt (by omega)).2
      have HI := Lib.hid hit1
      have HS := Lib.hid hsz1
      have HT := Lib.hid hlt1
      have HB := Lib.hid hbel1
      clear hit hit1 hsz1 hlt1 hbel1 hbel
      cases hq : tcharI (Utf8.decode s pos).1
      · have hno := allFrom_no tcharI _ tcharI_high s pos hlt hq
        have HN := Lib.hid hno
        clear hno
        go_wp2_with (go_at_call 99; refine (tchar_any _ _).mono ?_; rintro e w2 ⟨rfl, hb2⟩)
        go_ret
        exact ⟨ret_bool (by rw [hall.out, HN.out]), (HB.out.trans (hb2.mono HS.out))⟩
      · have hyes := allFrom_yes tcharI _ tcharI_high s pos hlt hq
        have HY := Lib.hid hyes
        clear hyes
        go_wp2_with (go_at_call 99; refine (tchar_any _ _).mono ?_; rintro e w2 ⟨rfl, hb2⟩)
        go_roundw
        case rel => exact ⟨_, hrest, ((hb2.block _ HT.out).trans HI.out), by rw [← HY.out]; exact hall, (HB.out.trans (hb2.mono HS.out))⟩
        case measure => rw [HM.out, iterPos_of ((hb2.block _ HT.out).trans HI.out)]; omega
    · have hnx := fun ty => Lib.run_next_end_at (P := Try.prog) wr w.heap.size s pos ty hit hlt
      have hend := allFrom_end tcharI s pos hlt
      have HE := Lib.hid hend
      clear hend hit
      go_wp2
      go_ret
      exact ⟨ret_bool (by rw [hall.out, HE.out]), hbel⟩

end Go.Proofs.Ytdpohibgipkhnaa
