
/-
  PLAIN: what Set and Without leave, asked by name.
-/
import Derived.Test.YtdpohibgipkhnaaHdr12
namespace Go.Proofs.Ytdpohibgipkhnaa
open Go.RowKit Go.Sort Go.Proofs.Ytdpohibgipkhnaa.Oct

theorem allV_cons (f : ByteArray × ByteArray) (r : Flds) (name : ByteArray) : allV (f :: r) name = (if foldS name f.1 = true then [f.2] else []) ++ allV r name := by
  unfold allV
  cases h : foldS name f.1 <;> simp [h]
theorem allV_append (a b : Flds) (name : ByteArray) : allV (a ++ b) name = allV a name ++ allV b name := by simp [allV]
theorem fold_is {a b : ByteArray} (h : foldS a b = true) : lowS a = lowS b := of_decide_eq_true h
theorem fold_self2 (a : ByteArray) : foldS a a = true := decide_eq_true rfl
/-- A field of the one name is none of another. -/
theorem fold_other {s o a : ByteArray} (h : foldS s o = false) (ha : foldS s a = true) : foldS o a = false := by
  cases hb : foldS o a
  · rfl
  · have e1 := fold_is ha
    have e2 := fold_is hb
    have : foldS s o = true := decide_eq_true (e1.trans e2.symm)
    rw [h] at this
    cases this
theorem allV_nohit {l : Flds} {s : ByteArray} (h : hitB s l = false) : allV l s = [] := by
  unfold allV
  rw [List.map_eq_nil_iff, List.filter_eq_nil_iff]
  intro p hp hf
  have : hitB s l = true := List.any_eq_true.2 ⟨p, hp, hf⟩
  rw [h] at this
  cases this
theorem allV_setR (s t : ByteArray) : ∀ (l : Flds) (b : Bool), allV (setR s t b l) s = if b = true then [] else if hitB s l = true then [t] else []
  | [], b => by cases b <;> rfl
  | f :: r, b => by
    have h1 := allV_setR s t r true
    have h2 := allV_setR s t r b
    cases hf : foldS s f.1
    · have e : hitB s (f :: r) = hitB s r := by simp [hitB, hf]
      rw [e]
      simp only [setR, hf, Bool.false_eq_true, if_false, allV_cons, List.nil_append]
      exact h2
    · have e : hitB s (f :: r) = true := by simp [hitB, hf]
      rw [e]
      cases b
      · simp only [setR, hf, Bool.false_eq_true, if_true, if_false, allV_cons]
        rw [h1]
        rfl
      · simp only [setR, hf, if_true]
        rw [h1]
        rfl
theorem allV_set (l : Flds) (s t : ByteArray) : allV (setF l s t) s = [t] := by
  unfold setF
  cases h : hitB s l
  · simp only [Bool.false_eq_true, if_false]
    rw [allV_append, allV_nohit h, allV_cons, fold_self2]
    rfl
  · simp only [if_true]
    rw [allV_setR, h]
    rfl
theorem getF_set (l : Flds) (s t : ByteArray) : getF (setF l s t) s = (t, true) := by
  unfold getF
  rw [allV_set]
theorem allV_setR_other (s t o : ByteArray) (h : foldS s o = false) : ∀ (l : Flds) (b : Bool), allV (setR s t b l) o = allV l o
  | [], _ => rfl
  | f :: r, b => by
    have h1 := allV_setR_other s t o h r true
    have h2 := allV_setR_other s t o h r b
    cases hf : foldS s f.1
    · simp only [setR, hf, Bool.false_eq_true, if_false, allV_cons]
      rw [h2]
    · have e := fold_other h hf
      cases b
      · simp only [setR, hf, Bool.false_eq_true, if_true, if_false, allV_cons, e]
        rw [h1]
      · simp only [setR, hf, if_true, allV_cons, e, Bool.false_eq_true, if_false]
        rw [h1]
        rfl
theorem allV_set_other (l : Flds) (s t o : ByteArray) (h : foldS s o = false) : allV (setF l s t) o = allV l o := by
  unfold setF
  cases hh : hitB s l
  · simp only [Bool.false_eq_true, if_false]
    have e : foldS o s = false := by rw [fold_symm]; exact h
    rw [allV_append, allV_cons]
    simp only [e, Bool.false_eq_true, if_false, List.nil_append]
    exact List.append_nil _
  · simp only [if_true]
    exact allV_setR_other s t o h l false
theorem allV_gone (s : ByteArray) : ∀ l : Flds, allV (withoutF l [s]) s = []
  | [] => rfl
  | f :: r => by
    have h := allV_gone s r
    unfold withoutF at h ⊢
    cases hf : foldS s f.1
    · have e : isB [s] f.1 = false := by rw [isB_one, hf]
      simp only [List.filter_cons, e, Bool.not_false, if_true, allV_cons, hf, Bool.false_eq_true, if_false, List.nil_append]
      exact h
    · have e : isB [s] f.1 = true := by rw [isB_one, hf]
      simp only [List.filter_cons, e, Bool.not_true, Bool.false_eq_true, if_false]
      exact h
theorem allV_gone_other (s o : ByteArray) (h : foldS s o = false) : ∀ l : Flds, allV (withoutF l [s]) o = allV l o
  | [] => rfl
  | f :: r => by
    have h1 := allV_gone_other s o h r
    unfold withoutF at h1 ⊢
    cases hf : foldS s f.1
    · have e : isB [s] f.1 = false := by rw [isB_one, hf]
      simp only [List.filter_cons, e, Bool.not_false, if_true, allV_cons]
      rw [h1]
    · have e : isB [s] f.1 = true := by rw [isB_one, hf]
      simp only [List.filter_cons, e, Bool.not_true, Bool.false_eq_true, if_false, allV_cons, fold_other h hf, List.nil_append]
      exact h1
theorem strs_lit (w : World) (s : ByteArray) (hs : s.size ≤ 9223372036854775807) : StrsArg (w.alloc (.cells #[.string s] 9)) (some ⟨w.heap.size, 0, none⟩) 1 [s] := by
  refine ⟨rfl, by omega, by simpa using hs, .inr ⟨w.heap.size, 0, rfl, by simp, fun i hi => ?_⟩⟩
  have h0 : i = 0 := by simpa using hi
  subst h0
  exact (Blk.new w 9 #[.string s]).cell 0
/-- A row of texts, as one that is read. -/
theorem own_strs {w : World} {B : Nat} {v : Value} {ss : List ByteArray} (ho : w.ownsRow B 9 1 v ss.length (strVals ss)) (hn : ss.length ≤ 9223372036854775807) (hs : ∀ s ∈ ss, s.size ≤ 9223372036854775807) : ∃ y c, v = .slice y ss.length c ∧ StrsArg w y ss.length ss := by
  rcases ho.2 with ⟨rfl, h0⟩ | ⟨g, cap, cur, rfl, _⟩
  · exact ⟨none, 0, by rw [h0], rfl, hn, hs, .inl h0⟩
  · exact ⟨_, cap, rfl, StrsArg.of_owned ho hn hs⟩
end Go.Proofs.Ytdpohibgipkhnaa
