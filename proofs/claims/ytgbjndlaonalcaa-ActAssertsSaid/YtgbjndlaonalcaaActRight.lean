/-
  THE WALKS of act.Right and of the document's own answer.
-/
import Derived.Test.YtgbjndlaonalcaaAct
namespace Go.Proofs.Ytgbjndlaonalcaa
open Go.RowKit Go.Proofs.Ytgbjndlaonalcaa.Act

theorem empty_eq (s : ByteArray) (h : s.size = 0) : s.toList.isEmpty = true := by
  rw [toList_empty s h]; rfl
theorem empty_ne (s : ByteArray) (h : ¬ s.size = 0) : s.toList.isEmpty = false := by
  cases e : s.toList with
  | nil => exact absurd (by have := congrArg List.length e; simpa [ByteArray.toList_eq] using this) h
  | cons a l => rfl
theorem word_size {op : Int} (h : 1 ≤ op ∧ op ≤ 7) : ¬ (wordS op).size = 0 := by
  rcases ops7 h.1 h.2 with rfl | rfl | rfl | rfl | rfl | rfl | rfl <;> decide
theorem word_none {op : Int} (h : ¬ (1 ≤ op ∧ op ≤ 7)) : (wordS op).size = 0 := by
  unfold wordS
  rw [if_neg (by omega), if_neg (by omega), if_neg (by omega), if_neg (by omega), if_neg (by omega), if_neg (by omega), if_neg (by omega)]
  rfl

/-- The cells of a box that the walk has laid, in a world behind it. -/
theorem box_at {w w1 : World} {xs : Array Value} {T : TypeId} (h : Below (w.alloc (.cells xs T)).heap.size (w.alloc (.cells xs T)) w1) : w1.heap[w.heap.size]? = some (.cells xs T (0, 0)) := by
  rw [h.block w.heap.size (by simp)]
  show (w.heap.push _)[w.heap.size]? = _
  simp
theorem box_cell {w1 : World} {b : Nat} {xs : Array Value} {T : TypeId} (h : w1.heap[b]? = some (.cells xs T (0, 0))) (j : Nat) : w1.cell? ⟨b, j, none⟩ = xs[j]? := by
  unfold World.cell?
  simp [h]
theorem box_free {w1 : World} {b : Nat} {xs : Array Value} {T : TypeId} (h : w1.heap[b]? = some (.cells xs T (0, 0))) (j : Nat) : w1.frozen? ⟨b, j, none⟩ = false := by
  unfold World.frozen?
  simp [h]
/-- What the walk wants to know of an event's box. -/
theorem box5 {w w1 : World} {v0 v1 v2 v3 v4 : Value} {T : TypeId} (h : Below (w.alloc (.cells #[v0, v1, v2, v3, v4] T)).heap.size (w.alloc (.cells #[v0, v1, v2, v3, v4] T)) w1) :
    w1.cell? ⟨w.heap.size, 0, none⟩ = some v0 ∧ w1.cell? ⟨w.heap.size, 1, none⟩ = some v1 ∧ w1.cell? ⟨w.heap.size, 2, none⟩ = some v2 ∧ w1.cell? ⟨w.heap.size, 3, none⟩ = some v3 ∧ w1.cell? ⟨w.heap.size, 4, none⟩ = some v4 ∧
    ∀ j, w1.frozen? ⟨w.heap.size, j, none⟩ = false :=
  ⟨box_cell (box_at h) 0, box_cell (box_at h) 1, box_cell (box_at h) 2, box_cell (box_at h) 3, box_cell (box_at h) 4, box_free (box_at h)⟩

theorem below_new (w : World) (o : Obj) : Below w.heap.size w (w.alloc o) := (Below.refl _ _).alloc (Nat.le_refl _) o
theorem right_t {op c o n : Int} {s : ByteArray} (h : 1 ≤ op ∧ op ≤ 7) (hp : placedB op c o = true) (hn : withinB op n = true) : rightB op c o n s = decide (s.size = 0 ∨ (op = 2 ∧ s.size ≤ 4096)) := by
  unfold rightB; rw [hp, hn, decide_eq_true h]; rfl
theorem right_o {op c o n : Int} {s : ByteArray} (h : ¬ (1 ≤ op ∧ op ≤ 7)) : rightB op c o n s = false := by
  unfold rightB; rw [decide_eq_false h]; rfl
theorem right_p {op c o n : Int} {s : ByteArray} (h : placedB op c o = false) : rightB op c o n s = false := by
  unfold rightB; rw [h, Bool.and_false]; rfl
theorem right_w {op c o n : Int} {s : ByteArray} (h : withinB op n = false) : rightB op c o n s = false := by
  unfold rightB; rw [h, Bool.and_false]; rfl

set_option maxRecDepth 100000 in
set_option maxHeartbeats 3200000 in
theorem right_any (op c o n : Int) (s : ByteArray) (w : World) :
    Calls Try.prog 34 #[.agg #[.int .i64 op, .int .i64 c, .int .i64 o, .int .i64 n, .string s]] w fun e w' => e = .returned (.bool (rightB op c o n s)) ∧ Below w.heap.size w w' := by
  by_cases h : 1 ≤ op ∧ op ≤ 7
  · have hw := empty_ne _ (word_size h)
    cases hp : placedB op c o
    · have RW := Lib.hid (right_p (n := n) (s := s) hp)
      go_enter Try.func34, Try.ntmps34
      go_wp2_with (first
        | (go_at_call 35; refine (word_any _ _).mono ?_; rintro e w1 ⟨rfl, hl⟩; obtain ⟨c0, c1, c2, c3, c4, cf⟩ := box5 hl; have HL := Lib.hid hl; clear hl)
        | (go_at_call 72; refine (placed_any _ _ _ _).mono ?_; rintro e w2 ⟨rfl, h2⟩; have h3 := grow_trans HL.out h2; obtain ⟨d0, d1, d2, d3, d4, df⟩ := box5 h3; have HM := Lib.hid h3; clear h2 h3)
        | (go_at_call 73; refine (within_any _ _ _).mono ?_; rintro e w3 ⟨rfl, h3⟩; have h4 := grow_trans HM.out h3; obtain ⟨e0, e1, e2, e3, e4, ef⟩ := box5 h4; have HN := Lib.hid h4; clear h3 h4))
      all_goals
        go_ret
        refine ⟨?_, ?_⟩
        · apply ret_bool
          rw [RW.out]
          first | done | rfl | exact (decide_eq_true (by omega)).symm | exact (decide_eq_false (by omega)).symm | exact decide_eq_decide.2 (by omega)
        · first | exact (below_new _ _).trans (HN.out.mono (by simp)) | exact (below_new _ _).trans (HM.out.mono (by simp)) | exact (below_new _ _).trans (HL.out.mono (by simp))
    · cases hn : withinB op n
      · have RW := Lib.hid (right_w (c := c) (o := o) (s := s) hn)
        go_enter Try.func34, Try.ntmps34
        go_wp2_with (first
          | (go_at_call 35; refine (word_any _ _).mono ?_; rintro e w1 ⟨rfl, hl⟩; obtain ⟨c0, c1, c2, c3, c4, cf⟩ := box5 hl; have HL := Lib.hid hl; clear hl)
          | (go_at_call 72; refine (placed_any _ _ _ _).mono ?_; rintro e w2 ⟨rfl, h2⟩; have h3 := grow_trans HL.out h2; obtain ⟨d0, d1, d2, d3, d4, df⟩ := box5 h3; have HM := Lib.hid h3; clear h2 h3)
          | (go_at_call 73; refine (within_any _ _ _).mono ?_; rintro e w3 ⟨rfl, h3⟩; have h4 := grow_trans HM.out h3; obtain ⟨e0, e1, e2, e3, e4, ef⟩ := box5 h4; have HN := Lib.hid h4; clear h3 h4))
        all_goals
          go_ret
          refine ⟨?_, ?_⟩
          · apply ret_bool
            rw [RW.out]
            first | done | rfl | exact (decide_eq_true (by omega)).symm | exact (decide_eq_false (by omega)).symm | exact decide_eq_decide.2 (by omega)
          · first | exact (below_new _ _).trans (HN.out.mono (by simp)) | exact (below_new _ _).trans (HM.out.mono (by simp)) | exact (below_new _ _).trans (HL.out.mono (by simp))
      · have RW := Lib.hid (right_t (s := s) h hp hn)
        by_cases hs : s.size = 0
        · have hse := empty_eq s hs
          go_enter Try.func34, Try.ntmps34
          go_wp2_with (first
            | (go_at_call 35; refine (word_any _ _).mono ?_; rintro e w1 ⟨rfl, hl⟩; obtain ⟨c0, c1, c2, c3, c4, cf⟩ := box5 hl; have HL := Lib.hid hl; clear hl)
            | (go_at_call 72; refine (placed_any _ _ _ _).mono ?_; rintro e w2 ⟨rfl, h2⟩; have h3 := grow_trans HL.out h2; obtain ⟨d0, d1, d2, d3, d4, df⟩ := box5 h3; have HM := Lib.hid h3; clear h2 h3)
            | (go_at_call 73; refine (within_any _ _ _).mono ?_; rintro e w3 ⟨rfl, h3⟩; have h4 := grow_trans HM.out h3; obtain ⟨e0, e1, e2, e3, e4, ef⟩ := box5 h4; have HN := Lib.hid h4; clear h3 h4))
          all_goals
            go_ret
            refine ⟨?_, ?_⟩
            · apply ret_bool
              rw [RW.out]
              first | done | rfl | exact (decide_eq_true (by omega)).symm | exact (decide_eq_false (by omega)).symm | exact decide_eq_decide.2 (by omega)
            · first | exact (below_new _ _).trans (HN.out.mono (by simp)) | exact (below_new _ _).trans (HM.out.mono (by simp)) | exact (below_new _ _).trans (HL.out.mono (by simp))
        · have hse := empty_ne s hs
          go_enter Try.func34, Try.ntmps34
          go_wp2_with (first
            | (go_at_call 35; refine (word_any _ _).mono ?_; rintro e w1 ⟨rfl, hl⟩; obtain ⟨c0, c1, c2, c3, c4, cf⟩ := box5 hl; have HL := Lib.hid hl; clear hl)
            | (go_at_call 72; refine (placed_any _ _ _ _).mono ?_; rintro e w2 ⟨rfl, h2⟩; have h3 := grow_trans HL.out h2; obtain ⟨d0, d1, d2, d3, d4, df⟩ := box5 h3; have HM := Lib.hid h3; clear h2 h3)
            | (go_at_call 73; refine (within_any _ _ _).mono ?_; rintro e w3 ⟨rfl, h3⟩; have h4 := grow_trans HM.out h3; obtain ⟨e0, e1, e2, e3, e4, ef⟩ := box5 h4; have HN := Lib.hid h4; clear h3 h4))
          all_goals
            go_ret
            refine ⟨?_, ?_⟩
            · apply ret_bool
              rw [RW.out]
              first | done | rfl | exact (decide_eq_true (by omega)).symm | exact (decide_eq_false (by omega)).symm | exact decide_eq_decide.2 (by omega)
            · first | exact (below_new _ _).trans (HN.out.mono (by simp)) | exact (below_new _ _).trans (HM.out.mono (by simp)) | exact (below_new _ _).trans (HL.out.mono (by simp))
  · have hw := empty_eq _ (word_none h)
    have RW := Lib.hid (right_o (c := c) (o := o) (n := n) (s := s) h)
    go_enter Try.func34, Try.ntmps34
    go_wp2_with (first
      | (go_at_call 35; refine (word_any _ _).mono ?_; rintro e w1 ⟨rfl, hl⟩; obtain ⟨c0, c1, c2, c3, c4, cf⟩ := box5 hl; have HL := Lib.hid hl; clear hl)
      | (go_at_call 72; refine (placed_any _ _ _ _).mono ?_; rintro e w2 ⟨rfl, h2⟩; have h3 := grow_trans HL.out h2; obtain ⟨d0, d1, d2, d3, d4, df⟩ := box5 h3; have HM := Lib.hid h3; clear h2 h3)
      | (go_at_call 73; refine (within_any _ _ _).mono ?_; rintro e w3 ⟨rfl, h3⟩; have h4 := grow_trans HM.out h3; obtain ⟨e0, e1, e2, e3, e4, ef⟩ := box5 h4; have HN := Lib.hid h4; clear h3 h4))
    all_goals
      go_ret
      refine ⟨?_, ?_⟩
      · apply ret_bool
        rw [RW.out]
        first | done | rfl | exact (decide_eq_true (by omega)).symm | exact (decide_eq_false (by omega)).symm | exact decide_eq_decide.2 (by omega)
      · first | exact (below_new _ _).trans (HN.out.mono (by simp)) | exact (below_new _ _).trans (HM.out.mono (by simp)) | exact (below_new _ _).trans (HL.out.mono (by simp))
end Go.Proofs.Ytgbjndlaonalcaa
