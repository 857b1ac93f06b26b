/-
  THE WALKS of octet's classes: Tchar, Token, Value, Visible, and the reference's.
  THE WALKS of octet's Tchar, Token, Value, Visible, and the reference's.
-/
import Derived.Test.YtdpohibgipkhnaaTT8
import Derived.Test.YtdpohibgipkhnaaTT5
set_option linter.unusedVariables false
set_option linter.unusedSimpArgs false
namespace Go.Proofs.Ytdpohibgipkhnaa
open Go.RowKit Go.Proofs.Ytdpohibgipkhnaa.Oct

/-- The signs, as the text of the program has them. -/
theorem marks_at (pos : Nat) (h : pos < 15) : (Utf8.decode ⟨#[33, 35, 36, 37, 38, 39, 42, 43, 45, 46, 94, 95, 96, 124, 126]⟩ pos) = ((marksL.getD pos 0).toNat, 1) := by
  rcases (show pos = 0 ∨ pos = 1 ∨ pos = 2 ∨ pos = 3 ∨ pos = 4 ∨ pos = 5 ∨ pos = 6 ∨ pos = 7 ∨ pos = 8 ∨ pos = 9 ∨ pos = 10 ∨ pos = 11 ∨ pos = 12 ∨ pos = 13 ∨ pos = 14 from by omega) with rfl | rfl | rfl | rfl | rfl | rfl | rfl | rfl | rfl | rfl | rfl | rfl | rfl | rfl | rfl <;> rfl

theorem next_mark (w : World) (pos : Nat) (h : pos < 15) : ∃ m, marksL[pos]? = some m ∧ ∀ ty, (Instr.next (.pointer (some ⟨w.heap.size, 0, none⟩)) true ty).run Try.prog (w.iter ⟨#[33, 35, 36, 37, 38, 39, 42, 43, 45, 46, 94, 95, 96, 124, 126]⟩ pos) = .ok (.tuple #[.bool true, .int .i64 pos, .int .i32 m]) (w.iter ⟨#[33, 35, 36, 37, 38, 39, 42, 43, 45, 46, 94, 95, 96, 124, 126]⟩ (pos + 1)) := by
  have hl : marksL.length = 15 := rfl
  refine ⟨marksL[pos]'(by omega), List.getElem?_eq_getElem _, fun ty => ?_⟩
  rw [run_next_any w ⟨#[33, 35, 36, 37, 38, 39, 42, 43, 45, 46, 94, 95, 96, 124, 126]⟩ pos ty h, marks_at pos h]
  have h0 : 0 ≤ marksL[pos]'(by omega) := by
    have : ∀ x ∈ marksL, 0 ≤ x := by decide
    exact this _ (List.getElem_mem _)
  rw [List.getD_eq_getElem?_getD, List.getElem?_eq_getElem (by omega), Option.getD_some, Int.toNat_of_nonneg h0]

set_option maxHeartbeats 400000 in
theorem tchar_any (r : Int) (w : World) :
    Calls Try.prog 99 #[.int .i32 r] w fun e w' => e = .returned (.bool (tcharI r)) ∧ Below w.heap.size w w' := by
  have e : tcharI r = (alnumI r || marksL.contains r) := rfl
  have HE := Lib.hid e
  clear e
  by_cases hal : alnumI r = true
  · have hr : (97 ≤ r ∧ r ≤ 122) ∨ (65 ≤ r ∧ r ≤ 90) ∨ (48 ≤ r ∧ r ≤ 57) := by unfold alnumI at hal; simp at hal; omega
    have HA := Lib.hid hal
    clear hal
    rcases hr with ⟨h1, h2⟩ | ⟨h1, h2⟩ | ⟨h1, h2⟩
    all_goals
      go_enter Try.func99, Try.ntmps99
      go_wp2
      go_ret
      exact ⟨ret_bool (by rw [HE.out, HA.out]; rfl), Below.refl _ _⟩
  · have hr : (¬ (97 ≤ r) ∨ ¬ (r ≤ 122)) ∧ (¬ (65 ≤ r) ∨ ¬ (r ≤ 90)) ∧ (¬ (48 ≤ r) ∨ ¬ (r ≤ 57)) := by unfold alnumI at hal; simp at hal; omega
    have hal2 : alnumI r = false := by simpa using hal
    have HA := Lib.hid hal2
    have HR := Lib.hid hr
    clear hal hal2 hr
    have main : (r < 48 ∨ (57 < r ∧ r < 65) ∨ (90 < r ∧ r < 97) ∨ 122 < r) := by have := HR.out; omega
    rcases main with h1 | ⟨h1, h2⟩ | ⟨h1, h2⟩ | h1
    all_goals
      go_enter Try.func99, Try.ntmps99
      go_wp2
      go_loopw [4] (fun _ wr => ∃ pos, pos ≤ 15 ∧ wr = w.iter ⟨#[33, 35, 36, 37, 38, 39, 42, 43, 45, 46, 94, 95, 96, 124, 126]⟩ pos ∧ Hid (∀ j m, j < pos → marksL[j]? = some m → m ≠ r)) (fun _ wr => 15 - wr.iterPos w.heap.size)
      case atStart => exact ⟨0, by omega, rfl, fun j m h => absurd h (Nat.not_lt_zero _)⟩
      case round =>
        obtain ⟨pos, hpos, rfl, hall⟩ := hrel
        by_cases hlt : pos < 15
        · obtain ⟨m, hm, hnx⟩ := next_mark w pos hlt
          have HM := Lib.hid hm
          clear hm
          cases hmr : (m == r)
          · go_wp2
            go_roundw
            case rel => exact ⟨pos + 1, by omega, rfl, (fun j m' hj hm' => by
              by_cases hjp : j < pos
              · exact hall.out j m' hjp hm'
              · obtain rfl : j = pos := by omega
                obtain rfl := Option.some.inj (HM.out.symm.trans hm')
                simpa using hmr)⟩
            case measure => simp; omega
          · go_wp2
            go_ret
            refine ⟨ret_bool ?_, (Below.refl _ _).alloc (Nat.le_refl _) _⟩
            obtain rfl : m = r := by simpa using hmr
            rw [HE.out, HA.out, Bool.false_or]
            exact (List.contains_iff_mem.2 (List.mem_of_getElem? HM.out)).symm
        · have hnx : ∀ ty, (Instr.next (.pointer (some ⟨w.heap.size, 0, none⟩)) true ty).run Try.prog (w.iter ⟨#[33, 35, 36, 37, 38, 39, 42, 43, 45, 46, 94, 95, 96, 124, 126]⟩ pos) = _ := fun ty => run_next_end w _ pos ty (show ¬ pos < 15 from hlt)
          go_wp2
          go_ret
          refine ⟨ret_bool ?_, (Below.refl _ _).alloc (Nat.le_refl _) _⟩
          rw [HE.out, HA.out, Bool.false_or]
          refine (Bool.eq_false_iff.2 fun hc => ?_).symm
          obtain ⟨j, hj⟩ := List.mem_iff_getElem?.1 (List.contains_iff_mem.1 hc)
          have hjl := (List.getElem?_eq_some_iff.1 hj).1
          have : marksL.length = 15 := rfl
          exact hall.out j r (by omega) hj rfl

set_option maxHeartbeats 400000 in
/-- all, at the test tcharI. -/
theorem all_tchar (s : ByteArray) (w : World) :
    Calls Try.prog 98 #[.string s, .func (Fn.func 99) #[] #[]] w fun e w' => e = .returned (.bool (allFrom tcharI s 0)) ∧ Below w.heap.size w w' := by
  go_enter Try.func98, Try.ntmps98
  go_wp2
  go_loopw [6] (fun _ wr => ∃ pos, pos ≤ s.size ∧ wr.heap[w.heap.size]? = some (.stringIter s pos) ∧ Hid (allFrom tcharI s 0 = allFrom tcharI s pos) ∧ Below w.heap.size w wr) (fun _ wr => s.size - wr.iterPos w.heap.size)
  case atStart => exact ⟨0, Nat.zero_le _, World.iter_heap _ _ _, rfl, (Below.refl _ _).alloc (Nat.le_refl _) _⟩
  case round =>
    obtain ⟨pos, hpos, hit, hall, hbel⟩ := hrel
    have hlt0 : w.heap.size < wr.heap.size := (Array.getElem?_eq_some_iff.1 hit).1
    have hmeas : wr.iterPos w.heap.size = pos := iterPos_of hit
    have HM := Lib.hid hmeas
    clear hmeas
    by_cases hlt : pos < s.size
    · have hnx := fun ty => Lib.run_next_any_at (P := Try.prog) wr w.heap.size s pos ty hit hlt
      have hrest := (decode_rest s pos hlt).1
      have hit1 := Lib.iterAt_heap wr w.heap.size s pos (pos + (Utf8.decode s pos).2) hit
      have hsz1 : w.heap.size ≤ (wr.iterAt w.heap.size s (pos + (Utf8.decode s pos).2)).heap.size := by rw [Lib.iterAt_size]; omega
      have hlt1 : w.heap.size < (wr.iterAt w.heap.size s (pos + (Utf8.decode s pos).2)).heap.size := by rw [Lib.iterAt_size]; omega
      have hbel1 : Below w.heap.size w (wr.iterAt w.heap.size s (pos + (Utf8.decode s pos).2)) := Lib.below_iterAt hbel (Nat.le_refl _) _ _
      have hwd : 1 ≤ (Utf8.decode s pos).2 := by
        by_cases ha : (s[pos]).toNat < 128
        · rw [decode_ascii s pos hlt ha]; exact Nat.le_refl _
        · exact (decode_high s pos hlt (by omega)).2
      have HI := Lib.hid hit1
      have HS := Lib.hid hsz1
      have HT := Lib.hid hlt1
      have HB := Lib.hid hbel1
      clear hit hit1 hsz1 hlt1 hbel1 hbel
      cases hq : tcharI (Utf8.decode s pos).1
      · have hno := allFrom_no tcharI _ tcharI_high s pos hlt hq
        have HN := Lib.hid hno
        clear hno
        go_wp2_with (go_at_call 99; refine (tchar_any _ _).mono ?_; rintro e w2 ⟨rfl, hb2⟩)
        go_ret
        exact ⟨ret_bool (by rw [hall.out, HN.out]), (HB.out.trans (hb2.mono HS.out))⟩
      · have hyes := allFrom_yes tcharI _ tcharI_high s pos hlt hq
        have HY := Lib.hid hyes
        clear hyes
        go_wp2_with (go_at_call 99; refine (tchar_any _ _).mono ?_; rintro e w2 ⟨rfl, hb2⟩)
        go_roundw
        case rel => exact ⟨_, hrest, ((hb2.block _ HT.out).trans HI.out), by rw [← HY.out]; exact hall, (HB.out.trans (hb2.mono HS.out))⟩
        case measure => rw [HM.out, iterPos_of ((hb2.block _ HT.out).trans HI.out)]; omega
    · have hnx := fun ty => Lib.run_next_end_at (P := Try.prog) wr w.heap.size s pos ty hit hlt
      have hend := allFrom_end tcharI s pos hlt
      have HE := Lib.hid hend
      clear hend hit
      go_wp2
      go_ret
      exact ⟨ret_bool (by rw [hall.out, HE.out]), hbel⟩

end Go.Proofs.Ytdpohibgipkhnaa
namespace Go.Proofs.Ytdpohibgipkhnaa
open Go.RowKit Go.Proofs.Ytdpohibgipkhnaa.Oct

theorem token_any (s : ByteArray) (w : World) :
    Calls Try.prog 66 #[.string s] w fun e w' => e = .returned (.bool (tokenS s)) ∧ Below w.heap.size w w' := by
  by_cases h : 0 < s.size
  · have h1 := toList_some s h
    have e : tokenS s = allFrom tcharI s 0 := by unfold tokenS; simp [h]
    rw [e]; clear e h
    go_enter Try.func66, Try.ntmps66
    go_wp2_with (go_at_call 98; refine (all_tchar _ _).mono ?_; rintro e w' ⟨rfl, hb⟩)
    go_ret
    exact ⟨rfl, hb⟩
  · have h1 := toList_empty s (by omega)
    have e : tokenS s = false := by unfold tokenS; simp; omega
    rw [e]; clear e h
    go_enter Try.func66, Try.ntmps66
    go_wp2
    go_ret
    exact ⟨rfl, Below.refl _ _⟩

/-! ### the reference's -/
theorem marks_byte (j : Nat) (h : j < 15) : ∃ m : Int, marksL[j]? = some m ∧ ((((⟨#[33, 35, 36, 37, 38, 39, 42, 43, 45, 46, 94, 95, 96, 124, 126]⟩ : ByteArray)[j]'h).toNat : Nat) : Int) = m := by
  rcases (show j = 0 ∨ j = 1 ∨ j = 2 ∨ j = 3 ∨ j = 4 ∨ j = 5 ∨ j = 6 ∨ j = 7 ∨ j = 8 ∨ j = 9 ∨ j = 10 ∨ j = 11 ∨ j = 12 ∨ j = 13 ∨ j = 14 from by omega) with rfl | rfl | rfl | rfl | rfl | rfl | rfl | rfl | rfl | rfl | rfl | rfl | rfl | rfl | rfl <;> exact ⟨_, rfl, rfl⟩

set_option maxHeartbeats 400000 in
theorem rtchar_any (r : Int) (h0 : 0 ≤ r) (w : World) :
    Calls Try.prog 100 #[.int .u8 r] w fun e w' => e = .returned (.bool (tcharI r)) ∧ w = w' := by
  have e : tcharI r = (alnumI r || marksL.contains r) := rfl
  have HE := Lib.hid e
  clear e
  by_cases hal : alnumI r = true
  · have hr : (97 ≤ r ∧ r ≤ 122) ∨ (65 ≤ r ∧ r ≤ 90) ∨ (48 ≤ r ∧ r ≤ 57) := by unfold alnumI at hal; simp at hal; omega
    have HA := Lib.hid hal
    clear hal
    rcases hr with ⟨h1, h2⟩ | ⟨h1, h2⟩ | ⟨h1, h2⟩
    all_goals
      go_enter Try.func100, Try.ntmps100
      go_wp2
      go_ret
      exact ⟨ret_bool (by rw [HE.out, HA.out]; rfl), rfl⟩
  · have hr : (¬ (97 ≤ r) ∨ ¬ (r ≤ 122)) ∧ (¬ (65 ≤ r) ∨ ¬ (r ≤ 90)) ∧ (¬ (48 ≤ r) ∨ ¬ (r ≤ 57)) := by unfold alnumI at hal; simp at hal; omega
    have hal2 : alnumI r = false := by simpa using hal
    have HA := Lib.hid hal2
    have HR := Lib.hid hr
    clear hal hal2 hr
    have main : (r < 48 ∨ (57 < r ∧ r < 65) ∨ (90 < r ∧ r < 97) ∨ 122 < r) := by have := HR.out; omega
    rcases main with h1 | ⟨h1, h2⟩ | ⟨h1, h2⟩ | h1
    all_goals
      go_enter Try.func100, Try.ntmps100
      go_wp2
      go_loop [4] (fun i => ∃ pos : Nat, pos ≤ 15 ∧ i = .int .i64 pos ∧ Hid (∀ j m, j < pos → marksL[j]? = some m → m ≠ r)) (fun i => 15 - (intOf i).toNat)
      case atStart => exact ⟨0, by omega, rfl, fun j m h => absurd h (Nat.not_lt_zero _)⟩
      case round =>
        obtain ⟨pos, hpos, rfl, hall⟩ := hrel
        by_cases hlt : pos < 15
        · obtain ⟨m, hm, hb⟩ := marks_byte pos hlt
          have HM := Lib.hid hm
          clear hm
          cases hmr : (m == r)
          · go_wp2
            go_round
            case rel => exact ⟨pos + 1, by omega, by go_num, (fun j m' hj hm' => by
              by_cases hjp : j < pos
              · exact hall.out j m' hjp hm'
              · obtain rfl : j = pos := by omega
                obtain rfl := Option.some.inj (HM.out.symm.trans hm')
                simpa using hmr)⟩
            case measure => simp [intOf]; omega
          · go_wp2
            go_ret
            refine ⟨ret_bool ?_, rfl⟩
            obtain rfl : m = r := by simpa using hmr
            rw [HE.out, HA.out, Bool.false_or]
            exact (List.contains_iff_mem.2 (List.mem_of_getElem? HM.out)).symm
        · go_wp2
          go_ret
          refine ⟨ret_bool ?_, rfl⟩
          rw [HE.out, HA.out, Bool.false_or]
          refine (Bool.eq_false_iff.2 fun hc => ?_).symm
          obtain ⟨j, hj⟩ := List.mem_iff_getElem?.1 (List.contains_iff_mem.1 hc)
          have hjl := (List.getElem?_eq_some_iff.1 hj).1
          have : marksL.length = 15 := rfl
          exact hall.out j r (by omega) hj rfl

set_option maxHeartbeats 400000 in
theorem rtoken_any (s : ByteArray) (hs : s.size ≤ 9223372036854775807) (w : World) :
    Calls Try.prog 68 #[.string s] w fun e w' => e = .returned (.bool (tokenS s)) ∧ w = w' := by
  go_enter Try.func68, Try.ntmps68
  go_wp2
  go_loop [3] (fun i => ∃ k : Nat, k ≤ s.size ∧ i = .int .i64 k ∧ Hid (allFrom tcharI s 0 = allFrom tcharI s k)) (fun i => s.size - (intOf i).toNat)
  case atStart => exact ⟨0, Nat.zero_le _, rfl, rfl⟩
  case round =>
    obtain ⟨k, hk, rfl, hall⟩ := hrel
    by_cases hlt : k < s.size
    · have hc := allFrom_cons tcharI s k hlt
      cases hq : tcharI (s[k].toNat)
      · have hn : tokenS s = false := by unfold tokenS; rw [hall.out, hc, hq]; simp
        have HN := Lib.hid hn
        clear hn hc
        go_wp2_with (go_at_call 100; refine (rtchar_any _ (by omega) _).mono ?_; rintro e w' ⟨rfl, rfl⟩)
        go_ret
        exact ⟨ret_bool HN.out.symm, rfl⟩
      · have hy : allFrom tcharI s 0 = allFrom tcharI s (k + 1) := by rw [hall.out, hc, hq, Bool.true_and]
        have HY := Lib.hid hy
        clear hy hc
        go_wp2_with (go_at_call 100; refine (rtchar_any _ (by omega) _).mono ?_; rintro e w' ⟨rfl, rfl⟩)
        go_round
        case rel => exact ⟨k + 1, by omega, by go_num, HY⟩
        case measure => simp [intOf]; omega
    · have he : tokenS s = decide ((0 : Int) < (s.size : Int)) := by
        unfold tokenS; rw [hall.out, allFrom_end tcharI s k hlt, Bool.and_true]
        simp
      have HE := Lib.hid he
      clear he
      by_cases h0 : (0 : Int) < (s.size : Int)
      · go_wp2
        go_ret
        exact ⟨ret_bool (by rw [HE.out]; simp), rfl⟩
      · go_wp2
        go_ret
        exact ⟨ret_bool (by rw [HE.out]; simp), rfl⟩

theorem valI_cases (c : Int) : (c = 9 ∧ valI c = true) ∨ (c < 32 ∧ (c != 9) = true ∧ valI c = false) ∨ ((c == 127) = true ∧ 32 ≤ c ∧ (c != 9) = true ∧ valI c = false) ∨ (32 ≤ c ∧ (c != 9) = true ∧ (c == 127) = false ∧ valI c = true) := by
  unfold valI
  by_cases h1 : c = 9
  · left; subst h1; exact ⟨rfl, rfl⟩
  · by_cases h2 : c < 32
    · right; left; refine ⟨h2, by simpa using h1, ?_⟩; simp; omega
    · by_cases h3 : c = 127
      · right; right; left; subst h3; exact ⟨rfl, by omega, rfl, rfl⟩
      · right; right; right; refine ⟨by omega, by simpa using h1, by simpa using h3, ?_⟩; simp; omega

theorem visI_cases (c : Int) : (c < 33 ∧ visI c = false) ∨ (33 ≤ c ∧ 126 < c ∧ visI c = false) ∨ (33 ≤ c ∧ c ≤ 126 ∧ visI c = true) := by
  unfold visI
  by_cases h1 : c < 33
  · left; refine ⟨h1, ?_⟩; simp; omega
  · by_cases h2 : 126 < c
    · right; left; refine ⟨by omega, h2, ?_⟩; simp; omega
    · right; right; refine ⟨by omega, by omega, ?_⟩; simp; omega

end Go.Proofs.Ytdpohibgipkhnaa
