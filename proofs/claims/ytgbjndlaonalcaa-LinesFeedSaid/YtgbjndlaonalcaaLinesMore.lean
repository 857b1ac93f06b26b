/-
  THE WALKS of lines: Feed of none, Whole, Line, Spent, Within.
-/
import Derived.Test.YtgbjndlaonalcaaLinesFeed
namespace Go.Proofs.Ytgbjndlaonalcaa
open Go.RowKit Go.Proofs.Ytgbjndlaonalcaa.Lin

theorem IsLines.below {w w' : World} {B b : Nat} {s : St} (h : IsLines w B b s) (hb : Below w.heap.size w w') : IsLines w' B b s := by
  obtain ⟨h1, h2, v, h3, h4⟩ := h
  exact ⟨h1, h2, v, (hb.block b (lt_of_block h3)).trans h3, own_below h4 hb⟩

set_option maxHeartbeats 400000 in
theorem whole_any (w : World) (B b : Nat) (s : St) (his : IsLines w B b s) :
    Calls Try.prog 23 #[.pointer (some ⟨b, 0, none⟩)] w fun e w' => e = .returned (.bool s.whole) ∧ w = w' := by
  obtain ⟨hBb, hOk, v, hb, hown⟩ := his
  obtain ⟨c0, c1, c2, c3, c4, c5, c6, cf⟩ := linCells_at hb
  clear hb hown
  go_enter Try.func23, Try.ntmps23
  go_wp2
  go_ret
  exact ⟨rfl, rfl⟩
theorem whole_nil (w : World) :
    Calls Try.prog 23 #[.pointer none] w fun e w' => e = .returned (.bool false) ∧ w = w' := by
  go_enter Try.func23, Try.ntmps23
  go_wp2
  go_ret
  exact ⟨rfl, rfl⟩
theorem within_any (w : World) (B b : Nat) (s : St) (his : IsLines w B b s) :
    Calls Try.prog 22 #[.pointer (some ⟨b, 0, none⟩)] w fun e w' => e = .returned (.bool s.within) ∧ w = w' := by
  obtain ⟨hBb, hOk, v, hb, hown⟩ := his
  obtain ⟨c0, c1, c2, c3, c4, c5, c6, cf⟩ := linCells_at hb
  clear hb hown
  go_enter Try.func22, Try.ntmps22
  go_wp2
  go_ret
  exact ⟨rfl, rfl⟩
theorem within_nil (w : World) :
    Calls Try.prog 22 #[.pointer none] w fun e w' => e = .returned (.bool false) ∧ w = w' := by
  go_enter Try.func22, Try.ntmps22
  go_wp2
  go_ret
  exact ⟨rfl, rfl⟩
theorem spent_any (w : World) (B b : Nat) (s : St) (his : IsLines w B b s) :
    Calls Try.prog 21 #[.pointer (some ⟨b, 0, none⟩)] w fun e w' => e = .returned (.int .i64 s.spent) ∧ w = w' := by
  obtain ⟨hBb, hOk, v, hb, hown⟩ := his
  obtain ⟨c0, c1, c2, c3, c4, c5, c6, cf⟩ := linCells_at hb
  clear hb hown
  go_enter Try.func21, Try.ntmps21
  go_wp2
  go_ret
  exact ⟨rfl, rfl⟩
theorem spent_nil (w : World) :
    Calls Try.prog 21 #[.pointer none] w fun e w' => e = .returned (.int .i64 0) ∧ w = w' := by
  go_enter Try.func21, Try.ntmps21
  go_wp2
  go_ret
  exact ⟨rfl, rfl⟩

set_option maxHeartbeats 400000 in
theorem line_nil (w : World) :
    Calls Try.prog 25 #[.pointer none] w fun e w' => e = .returned (.string ⟨#[]⟩) ∧ w = w' := by
  go_enter Try.func25, Try.ntmps25
  go_wp2_with (go_at_call 23; refine (whole_nil _).mono ?_; rintro e w' ⟨rfl, rfl⟩)
  go_ret
  exact ⟨rfl, rfl⟩
set_option maxHeartbeats 400000 in
theorem line_not (w : World) (B b : Nat) (s : St) (his : IsLines w B b s) (hw : s.whole = false) :
    Calls Try.prog 25 #[.pointer (some ⟨b, 0, none⟩)] w fun e w' => e = .returned (.string ⟨#[]⟩) ∧ w = w' := by
  have HI := Lib.hid his
  clear his
  go_enter Try.func25, Try.ntmps25
  go_wp2_with (go_at_call 23; refine (whole_any _ B b s HI.out).mono ?_; rintro e w' ⟨rfl, rfl⟩)
  go_ret
  exact ⟨rfl, rfl⟩

/-- The line's row, cut to nothing: what is owned then. -/
theorem own_cut {w : World} {B e size : Nat} {x : Option Addr} {n cap : Nat} {xs : List Value} (h : w.ownsRow B e size (.slice x n cap) n xs) : w.ownsRow B e size (.slice x 0 cap) 0 [] := by
  rcases h.2 with ⟨hv, h0⟩ | ⟨g, cap', cur, hv, hBg, hg, hn, hm, hs, ht⟩
  · simp at hv
    obtain ⟨rfl, _, rfl⟩ := hv
    exact ⟨by simp, .inl ⟨rfl, rfl⟩⟩
  · simp at hv
    obtain ⟨rfl, rfl⟩ := hv
    exact ⟨by simp, .inr ⟨g, cap, cur, rfl, hBg, hg, by omega, hm, hs, by simp⟩⟩

set_option maxHeartbeats 800000 in
theorem line_yes (w : World) (B b : Nat) (s : St) (his : IsLines w B b s) (hw : s.whole = true) :
    Calls Try.prog 25 #[.pointer (some ⟨b, 0, none⟩)] w fun e w' => e = .returned (.string ⟨s.line.toArray⟩) ∧ LinLeft w w' B b (took s) := by
  have HI := Lib.hid his
  obtain ⟨hBb, hOk, v, hb, hown⟩ := his
  obtain ⟨c0, c1, c2, c3, c4, c5, c6, cf⟩ := linCells_at hb
  have HB := Lib.hid hb
  have HW := Lib.hid hown
  clear hb hown
  obtain ⟨x, cap, rfl⟩ := own_slice HW.out
  have hback : (convert 36 9 (.slice x s.line.length cap)).run Try.prog w = .ok (.string ⟨s.line.toArray⟩) w := by
    rcases HW.out.2 with ⟨hv, h0⟩ | ⟨g, cap', cur, hv, _⟩
    · simp at hv
      obtain ⟨rfl, hl, rfl⟩ := hv
      rw [hl]
      exact run_convert_bytes_nil w 36 5 Try.underlying36 Try.underlying5 0 0 9 Try.underlying9
    · simp at hv
      obtain ⟨rfl, rfl⟩ := hv
      exact back_of_cells 36 9 Try.underlying36 Try.underlying5 Try.underlying9 (CellsAt.of_owned HW.out) _ rfl
  go_enter Try.func25, Try.ntmps25
  go_wp2_with (go_at_call 23; refine (whole_any _ B b s HI.out).mono ?_; rintro e w' ⟨rfl, rfl⟩)
  go_ret
  exact ⟨rfl, LinLeft.of_stores hBb (Ok_took hOk) HB.out (Below.refl _ _) (Lib.OthersKept.refl _ _ _) [(2, .slice x 0 cap), (5, .bool false)] (v' := .slice x 0 cap) rfl (own_cut HW.out)⟩

set_option maxHeartbeats 400000 in
/-- Feed of one that is none. -/
theorem feed_nil (w : World) (t : ByteArray) (ht : t.size ≤ 9223372036854775807) :
    Calls Try.prog 24 #[.pointer none, .string t] w fun e w' =>
      e = .returned (.tuple #[.int .i64 0, .int .i64 (if t.size = 0 then 0 else 4)]) ∧ Below w.heap.size w w' := by
  by_cases h0 : t.size = 0
  · have h1 : ¬ (0 : Int) < (t.size : Int) := by omega
    rw [if_pos h0]
    clear h0
    go_enter Try.func24, Try.ntmps24
    go_wp2
    refine wp_loop_rounds 1 ?_
    rw [rounds_succ]
    go_wp2
    go_quiet (fail)
    go_wp2
    go_ret2
    exact ⟨rfl, below_drewN ((Below.refl _ _).alloc (Nat.le_refl _) _) _⟩
  · have h1 : (0 : Int) < (t.size : Int) := by omega
    have h2 : 0 < t.size := by omega
    have hE : seeE (Lin.start 0) t[0] = 4 := rfl
    rw [if_neg h0]
    clear h0
    have hb : (w.alloc (.cells #[.int .i64 0, .int .i64 0, .slice none 0 0, .bool false, .bool false, .bool false, .int .i64 0] 38)).heap[w.heap.size]? = some (.cells (linCells (Lin.start 0) (.slice none 0 0)) 38 (0, 0)) := heap_alloc_new w _
    have hbel : Below w.heap.size w (w.alloc (.cells #[.int .i64 0, .int .i64 0, .slice none 0 0, .bool false, .bool false, .bool false, .int .i64 0] 38)) := (Below.refl _ _).alloc (Nat.le_refl _) _
    go_enter Try.func24, Try.ntmps24
    go_wp2
    generalize (w.alloc (.cells #[.int .i64 0, .int .i64 0, .slice none 0 0, .bool false, .bool false, .bool false, .int .i64 0] 38)) = wx at hb hbel ⊢
    obtain ⟨c0, c1, c2, c3, c4, c5, c6, cf⟩ := linCells_at hb
    have HB := Lib.hid hb
    have HL := Lib.hid hbel
    clear hb hbel
    obtain ⟨b, hbs⟩ : ∃ b, w.heap.size = b := ⟨_, rfl⟩
    rw [hbs] at HB HL c0 c1 c2 c3 c4 c5 c6 cf ⊢
    have HBS := Lib.hid hbs
    clear hbs
    refine wp_loop_rounds 2 ?_
    rw [rounds_succ]
    go_wp2_with (go_at_call 69; refine (see_bad _ b (Lin.start 0) (.slice none 0 0) t[0] HB.out (by rw [hE]; decide)).mono ?_; rintro e w2 ⟨rfl, rfl⟩)
    rw [rounds_succ]
    go_wp2
    go_quiet (fail)
    go_wp2
    go_ret2
    refine ⟨rfl, ?_⟩
    rw [HBS.out]
    exact below_drewN (HL.out.setCell (p := ⟨b, 6, none⟩) (Nat.le_refl _) _) _
end Go.Proofs.Ytgbjndlaonalcaa
