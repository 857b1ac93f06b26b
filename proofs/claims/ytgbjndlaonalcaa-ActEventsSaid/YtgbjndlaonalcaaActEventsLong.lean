/-
  THE WALK of the law ActEvents, where the text is cut.
-/
import Derived.Test.YtgbjndlaonalcaaActEvents
namespace Go.Proofs.Ytgbjndlaonalcaa
open Go.RowKit Go.Proofs.Ytgbjndlaonalcaa.Act

set_option maxRecDepth 100000 in
set_option maxHeartbeats 6400000 in
theorem actevents_long (c o n : Int) (s : ByteArray) (w : World) (h : (6000 : Int) < (s.size : Int)) (hz : s.size ≤ 9223372036854775807) :
    Calls Try.prog 8 #[.agg #[.int .i64 c, .int .i64 o], .int .i64 n, .string s] w fun e w' => e = .returned (.bool true) ∧ Below w.heap.size w w' := by
  go_enter Try.func8, Try.ntmps8
  go_wp2
  clear h hz
  generalize s.extract 0 6000 = S
  go_loopg [47] 7 (fun g u wr => ∃ k : Nat, k ≤ 7 ∧ k + g = 7 ∧ u = .int .i64 k ∧ Hid (EvCells wr w.heap.size c o n S) ∧ Hid (Below w.heap.size w wr))
  case atStart => exact ⟨0, by omega, by omega, rfl, evcells_start w c o n S, (below_new _ _).alloc (by simp) _⟩
  case round =>
    obtain ⟨k, hk, hg, rfl, HE, HB⟩ := hrel
    obtain ⟨x0, x1, x2, x3, x4, x5, x6, x7, x8, x9, x10⟩ := HE.out.at_
    rcases (by omega : k = 0 ∨ k = 1 ∨ k = 2 ∨ k = 3 ∨ k = 4 ∨ k = 5 ∨ k = 6 ∨ k = 7) with rfl | rfl | rfl | rfl | rfl | rfl | rfl | rfl
    · clear hk
      cases hr : rightB 1 c 0 0 ⟨#[]⟩
      · have HR := Lib.hid hr
        clear hr
        go_wp2_with (first | (go_at_call 104; refine (openEv_any _ _).mono ?_; rintro e aw ⟨he, hl⟩; (simp only [evV] at he); subst he; have h2 := hl; have Ha := Lib.hid h2; clear h2 hl) | (go_at_call 32; refine (of_no HR.out _).mono ?_; rintro e bw ⟨he, hl⟩; subst he; have h2 := hl; obtain ⟨b0, b1, b2, b3, b4, bf⟩ := box5 h2; have Hb := Lib.hid h2; clear h2 hl))
        go_quiet (fail)
        go_wp2
        go_roundg 6
        case measure => omega
        case rel =>
          have h3 : Below wr.heap.size wr _ := below_drewN (grow_trans (Ha.out.alloc Ha.out.size _) Hb.out) nq
          exact ⟨1, by omega, by omega, rfl, HE.out.below h3, grow_trans HB.out h3⟩

      · have HV := Lib.hid (show ofV 1 c 0 0 ⟨#[]⟩ = .iface 58 (.agg #[.int .i64 c]) by unfold ofV; rw [if_pos hr]; rfl)
        have HR := Lib.hid hr
        clear hr
        go_wp2_with (first | (go_at_call 104; refine (openEv_any _ _).mono ?_; rintro e aw ⟨he, hl⟩; (simp only [evV] at he); subst he; have h2 := hl; have Ha := Lib.hid h2; clear h2 hl) | (go_at_call 32; refine (of_ok HR.out HV.out _).mono ?_; rintro e bw ⟨he, hl⟩; subst he; have h2 := hl; obtain ⟨b0, b1, b2, b3, b4, bf⟩ := box5 h2; have Hb := Lib.hid h2; clear h2 hl))
        go_region_held3 (fun w' => w'.cell? ⟨aw.heap.size, 0, none⟩ = some (.int .i64 1) ∧ w'.cell? ⟨aw.heap.size, 1, none⟩ = some (.int .i64 c) ∧ w'.cell? ⟨aw.heap.size, 2, none⟩ = some (.int .i64 0) ∧ w'.cell? ⟨aw.heap.size, 3, none⟩ = some (.int .i64 0) ∧ w'.cell? ⟨aw.heap.size, 4, none⟩ = some (.string ⟨#[]⟩)) (go_keep) (first | (go_at_call 104; refine (openEv_any _ _).mono ?_; rintro e fw ⟨he, hl⟩; (simp only [evV] at he); subst he; have h2 := grow_trans Hb.out.drew hl; obtain ⟨f0, f1, f2, f3, f4, ff⟩ := box5 h2; have Hf := Lib.hid h2; clear h2 hl))
        go_wp2
        go_roundg 6
        case measure => omega
        case rel =>
          have h3 : Below wr.heap.size wr _ := grow_trans (Ha.out.alloc Ha.out.size _) Hf.out
          exact ⟨1, by omega, by omega, rfl, HE.out.below h3, grow_trans HB.out h3⟩

    · clear hk
      cases hr : rightB 2 c o 0 S
      · have HR := Lib.hid hr
        clear hr
        go_wp2_with (first | (go_at_call 105; refine (sendEv_any _ _ _ _).mono ?_; rintro e aw ⟨he, hl⟩; (simp only [evV] at he); subst he; have h2 := hl; have Ha := Lib.hid h2; clear h2 hl) | (go_at_call 32; refine (of_no HR.out _).mono ?_; rintro e bw ⟨he, hl⟩; subst he; have h2 := hl; obtain ⟨b0, b1, b2, b3, b4, bf⟩ := box5 h2; have Hb := Lib.hid h2; clear h2 hl))
        go_quiet (fail)
        go_wp2
        go_roundg 5
        case measure => omega
        case rel =>
          have h3 : Below wr.heap.size wr _ := below_drewN (grow_trans (Ha.out.alloc Ha.out.size _) Hb.out) nq
          exact ⟨2, by omega, by omega, rfl, HE.out.below h3, grow_trans HB.out h3⟩

      · have HV := Lib.hid (show ofV 2 c o 0 S = .iface 60 (.agg #[.int .i64 c, .int .i64 o, .string S]) by unfold ofV; rw [if_pos hr]; rfl)
        have HR := Lib.hid hr
        clear hr
        go_wp2_with (first | (go_at_call 105; refine (sendEv_any _ _ _ _).mono ?_; rintro e aw ⟨he, hl⟩; (simp only [evV] at he); subst he; have h2 := hl; have Ha := Lib.hid h2; clear h2 hl) | (go_at_call 32; refine (of_ok HR.out HV.out _).mono ?_; rintro e bw ⟨he, hl⟩; subst he; have h2 := hl; obtain ⟨b0, b1, b2, b3, b4, bf⟩ := box5 h2; have Hb := Lib.hid h2; clear h2 hl))
        go_region_held3 (fun w' => w'.cell? ⟨aw.heap.size, 0, none⟩ = some (.int .i64 2) ∧ w'.cell? ⟨aw.heap.size, 1, none⟩ = some (.int .i64 c) ∧ w'.cell? ⟨aw.heap.size, 2, none⟩ = some (.int .i64 o) ∧ w'.cell? ⟨aw.heap.size, 3, none⟩ = some (.int .i64 0) ∧ w'.cell? ⟨aw.heap.size, 4, none⟩ = some (.string S)) (go_keep) (first | (go_at_call 105; refine (sendEv_any _ _ _ _).mono ?_; rintro e fw ⟨he, hl⟩; (simp only [evV] at he); subst he; have h2 := grow_trans Hb.out.drew hl; obtain ⟨f0, f1, f2, f3, f4, ff⟩ := box5 h2; have Hf := Lib.hid h2; clear h2 hl))
        go_wp2
        go_roundg 5
        case measure => omega
        case rel =>
          have h3 : Below wr.heap.size wr _ := grow_trans (Ha.out.alloc Ha.out.size _) Hf.out
          exact ⟨2, by omega, by omega, rfl, HE.out.below h3, grow_trans HB.out h3⟩

    · clear hk
      cases hr : rightB 3 c o 0 ⟨#[]⟩
      · have HR := Lib.hid hr
        clear hr
        go_wp2_with (first | (go_at_call 106; refine (endEv_any _ _ _).mono ?_; rintro e aw ⟨he, hl⟩; (simp only [evV] at he); subst he; have h2 := hl; have Ha := Lib.hid h2; clear h2 hl) | (go_at_call 32; refine (of_no HR.out _).mono ?_; rintro e bw ⟨he, hl⟩; subst he; have h2 := hl; obtain ⟨b0, b1, b2, b3, b4, bf⟩ := box5 h2; have Hb := Lib.hid h2; clear h2 hl))
        go_quiet (fail)
        go_wp2
        go_roundg 4
        case measure => omega
        case rel =>
          have h3 : Below wr.heap.size wr _ := below_drewN (grow_trans (Ha.out.alloc Ha.out.size _) Hb.out) nq
          exact ⟨3, by omega, by omega, rfl, HE.out.below h3, grow_trans HB.out h3⟩

      · have HV := Lib.hid (show ofV 3 c o 0 ⟨#[]⟩ = .iface 62 (.agg #[.int .i64 c, .int .i64 o]) by unfold ofV; rw [if_pos hr]; rfl)
        have HR := Lib.hid hr
        clear hr
        go_wp2_with (first | (go_at_call 106; refine (endEv_any _ _ _).mono ?_; rintro e aw ⟨he, hl⟩; (simp only [evV] at he); subst he; have h2 := hl; have Ha := Lib.hid h2; clear h2 hl) | (go_at_call 32; refine (of_ok HR.out HV.out _).mono ?_; rintro e bw ⟨he, hl⟩; subst he; have h2 := hl; obtain ⟨b0, b1, b2, b3, b4, bf⟩ := box5 h2; have Hb := Lib.hid h2; clear h2 hl))
        go_region_held3 (fun w' => w'.cell? ⟨aw.heap.size, 0, none⟩ = some (.int .i64 3) ∧ w'.cell? ⟨aw.heap.size, 1, none⟩ = some (.int .i64 c) ∧ w'.cell? ⟨aw.heap.size, 2, none⟩ = some (.int .i64 o) ∧ w'.cell? ⟨aw.heap.size, 3, none⟩ = some (.int .i64 0) ∧ w'.cell? ⟨aw.heap.size, 4, none⟩ = some (.string ⟨#[]⟩)) (go_keep) (first | (go_at_call 106; refine (endEv_any _ _ _).mono ?_; rintro e fw ⟨he, hl⟩; (simp only [evV] at he); subst he; have h2 := grow_trans Hb.out.drew hl; obtain ⟨f0, f1, f2, f3, f4, ff⟩ := box5 h2; have Hf := Lib.hid h2; clear h2 hl))
        go_wp2
        go_roundg 4
        case measure => omega
        case rel =>
          have h3 : Below wr.heap.size wr _ := grow_trans (Ha.out.alloc Ha.out.size _) Hf.out
          exact ⟨3, by omega, by omega, rfl, HE.out.below h3, grow_trans HB.out h3⟩

    · clear hk
      cases hr : rightB 4 c o n ⟨#[]⟩
      · have HR := Lib.hid hr
        clear hr
        go_wp2_with (first | (go_at_call 107; refine (readEv_any _ _ _ _).mono ?_; rintro e aw ⟨he, hl⟩; (simp only [evV] at he); subst he; have h2 := hl; have Ha := Lib.hid h2; clear h2 hl) | (go_at_call 32; refine (of_no HR.out _).mono ?_; rintro e bw ⟨he, hl⟩; subst he; have h2 := hl; obtain ⟨b0, b1, b2, b3, b4, bf⟩ := box5 h2; have Hb := Lib.hid h2; clear h2 hl))
        go_quiet (fail)
        go_wp2
        go_roundg 3
        case measure => omega
        case rel =>
          have h3 : Below wr.heap.size wr _ := below_drewN (grow_trans (Ha.out.alloc Ha.out.size _) Hb.out) nq
          exact ⟨4, by omega, by omega, rfl, HE.out.below h3, grow_trans HB.out h3⟩

      · have HV := Lib.hid (show ofV 4 c o n ⟨#[]⟩ = .iface 64 (.agg #[.int .i64 c, .int .i64 o, .int .i64 n]) by unfold ofV; rw [if_pos hr]; rfl)
        have HR := Lib.hid hr
        clear hr
        go_wp2_with (first | (go_at_call 107; refine (readEv_any _ _ _ _).mono ?_; rintro e aw ⟨he, hl⟩; (simp only [evV] at he); subst he; have h2 := hl; have Ha := Lib.hid h2; clear h2 hl) | (go_at_call 32; refine (of_ok HR.out HV.out _).mono ?_; rintro e bw ⟨he, hl⟩; subst he; have h2 := hl; obtain ⟨b0, b1, b2, b3, b4, bf⟩ := box5 h2; have Hb := Lib.hid h2; clear h2 hl))
        go_region_held3 (fun w' => w'.cell? ⟨aw.heap.size, 0, none⟩ = some (.int .i64 4) ∧ w'.cell? ⟨aw.heap.size, 1, none⟩ = some (.int .i64 c) ∧ w'.cell? ⟨aw.heap.size, 2, none⟩ = some (.int .i64 o) ∧ w'.cell? ⟨aw.heap.size, 3, none⟩ = some (.int .i64 n) ∧ w'.cell? ⟨aw.heap.size, 4, none⟩ = some (.string ⟨#[]⟩)) (go_keep) (first | (go_at_call 107; refine (readEv_any _ _ _ _).mono ?_; rintro e fw ⟨he, hl⟩; (simp only [evV] at he); subst he; have h2 := grow_trans Hb.out.drew hl; obtain ⟨f0, f1, f2, f3, f4, ff⟩ := box5 h2; have Hf := Lib.hid h2; clear h2 hl))
        go_wp2
        go_roundg 3
        case measure => omega
        case rel =>
          have h3 : Below wr.heap.size wr _ := grow_trans (Ha.out.alloc Ha.out.size _) Hf.out
          exact ⟨4, by omega, by omega, rfl, HE.out.below h3, grow_trans HB.out h3⟩

    · clear hk
      cases hr : rightB 5 c o n ⟨#[]⟩
      · have HR := Lib.hid hr
        clear hr
        go_wp2_with (first | (go_at_call 108; refine (grantEv_any _ _ _ _).mono ?_; rintro e aw ⟨he, hl⟩; (simp only [evV] at he); subst he; have h2 := hl; have Ha := Lib.hid h2; clear h2 hl) | (go_at_call 32; refine (of_no HR.out _).mono ?_; rintro e bw ⟨he, hl⟩; subst he; have h2 := hl; obtain ⟨b0, b1, b2, b3, b4, bf⟩ := box5 h2; have Hb := Lib.hid h2; clear h2 hl))
        go_quiet (fail)
        go_wp2
        go_roundg 2
        case measure => omega
        case rel =>
          have h3 : Below wr.heap.size wr _ := below_drewN (grow_trans (Ha.out.alloc Ha.out.size _) Hb.out) nq
          exact ⟨5, by omega, by omega, rfl, HE.out.below h3, grow_trans HB.out h3⟩

      · have HV := Lib.hid (show ofV 5 c o n ⟨#[]⟩ = .iface 65 (.agg #[.int .i64 c, .int .i64 o, .int .i64 n]) by unfold ofV; rw [if_pos hr]; rfl)
        have HR := Lib.hid hr
        clear hr
        go_wp2_with (first | (go_at_call 108; refine (grantEv_any _ _ _ _).mono ?_; rintro e aw ⟨he, hl⟩; (simp only [evV] at he); subst he; have h2 := hl; have Ha := Lib.hid h2; clear h2 hl) | (go_at_call 32; refine (of_ok HR.out HV.out _).mono ?_; rintro e bw ⟨he, hl⟩; subst he; have h2 := hl; obtain ⟨b0, b1, b2, b3, b4, bf⟩ := box5 h2; have Hb := Lib.hid h2; clear h2 hl))
        go_region_held3 (fun w' => w'.cell? ⟨aw.heap.size, 0, none⟩ = some (.int .i64 5) ∧ w'.cell? ⟨aw.heap.size, 1, none⟩ = some (.int .i64 c) ∧ w'.cell? ⟨aw.heap.size, 2, none⟩ = some (.int .i64 o) ∧ w'.cell? ⟨aw.heap.size, 3, none⟩ = some (.int .i64 n) ∧ w'.cell? ⟨aw.heap.size, 4, none⟩ = some (.string ⟨#[]⟩)) (go_keep) (first | (go_at_call 108; refine (grantEv_any _ _ _ _).mono ?_; rintro e fw ⟨he, hl⟩; (simp only [evV] at he); subst he; have h2 := grow_trans Hb.out.drew hl; obtain ⟨f0, f1, f2, f3, f4, ff⟩ := box5 h2; have Hf := Lib.hid h2; clear h2 hl))
        go_wp2
        go_roundg 2
        case measure => omega
        case rel =>
          have h3 : Below wr.heap.size wr _ := grow_trans (Ha.out.alloc Ha.out.size _) Hf.out
          exact ⟨5, by omega, by omega, rfl, HE.out.below h3, grow_trans HB.out h3⟩

    · clear hk
      cases hr : rightB 6 0 0 n ⟨#[]⟩
      · have HR := Lib.hid hr
        clear hr
        go_wp2_with (first | (go_at_call 109; refine (tickEv_any _ _).mono ?_; rintro e aw ⟨he, hl⟩; (simp only [evV] at he); subst he; have h2 := hl; have Ha := Lib.hid h2; clear h2 hl) | (go_at_call 32; refine (of_no HR.out _).mono ?_; rintro e bw ⟨he, hl⟩; subst he; have h2 := hl; obtain ⟨b0, b1, b2, b3, b4, bf⟩ := box5 h2; have Hb := Lib.hid h2; clear h2 hl))
        go_quiet (fail)
        go_wp2
        go_roundg 1
        case measure => omega
        case rel =>
          have h3 : Below wr.heap.size wr _ := below_drewN (grow_trans (Ha.out.alloc Ha.out.size _) Hb.out) nq
          exact ⟨6, by omega, by omega, rfl, HE.out.below h3, grow_trans HB.out h3⟩

      · have HV := Lib.hid (show ofV 6 0 0 n ⟨#[]⟩ = .iface 67 (.agg #[.int .i64 n]) by unfold ofV; rw [if_pos hr]; rfl)
        have HR := Lib.hid hr
        clear hr
        go_wp2_with (first | (go_at_call 109; refine (tickEv_any _ _).mono ?_; rintro e aw ⟨he, hl⟩; (simp only [evV] at he); subst he; have h2 := hl; have Ha := Lib.hid h2; clear h2 hl) | (go_at_call 32; refine (of_ok HR.out HV.out _).mono ?_; rintro e bw ⟨he, hl⟩; subst he; have h2 := hl; obtain ⟨b0, b1, b2, b3, b4, bf⟩ := box5 h2; have Hb := Lib.hid h2; clear h2 hl))
        go_region_held3 (fun w' => w'.cell? ⟨aw.heap.size, 0, none⟩ = some (.int .i64 6) ∧ w'.cell? ⟨aw.heap.size, 1, none⟩ = some (.int .i64 0) ∧ w'.cell? ⟨aw.heap.size, 2, none⟩ = some (.int .i64 0) ∧ w'.cell? ⟨aw.heap.size, 3, none⟩ = some (.int .i64 n) ∧ w'.cell? ⟨aw.heap.size, 4, none⟩ = some (.string ⟨#[]⟩)) (go_keep) (first | (go_at_call 109; refine (tickEv_any _ _).mono ?_; rintro e fw ⟨he, hl⟩; (simp only [evV] at he); subst he; have h2 := grow_trans Hb.out.drew hl; obtain ⟨f0, f1, f2, f3, f4, ff⟩ := box5 h2; have Hf := Lib.hid h2; clear h2 hl))
        go_wp2
        go_roundg 1
        case measure => omega
        case rel =>
          have h3 : Below wr.heap.size wr _ := grow_trans (Ha.out.alloc Ha.out.size _) Hf.out
          exact ⟨6, by omega, by omega, rfl, HE.out.below h3, grow_trans HB.out h3⟩

    · clear hk
      cases hr : rightB 7 c 0 0 ⟨#[]⟩
      · have HR := Lib.hid hr
        clear hr
        go_wp2_with (first | (go_at_call 110; refine (serveEv_any _ _).mono ?_; rintro e aw ⟨he, hl⟩; (simp only [evV] at he); subst he; have h2 := hl; have Ha := Lib.hid h2; clear h2 hl) | (go_at_call 32; refine (of_no HR.out _).mono ?_; rintro e bw ⟨he, hl⟩; subst he; have h2 := hl; obtain ⟨b0, b1, b2, b3, b4, bf⟩ := box5 h2; have Hb := Lib.hid h2; clear h2 hl))
        go_quiet (fail)
        go_wp2
        go_roundg 0
        case measure => omega
        case rel =>
          have h3 : Below wr.heap.size wr _ := below_drewN (grow_trans (Ha.out.alloc Ha.out.size _) Hb.out) nq
          exact ⟨7, by omega, by omega, rfl, HE.out.below h3, grow_trans HB.out h3⟩

      · have HV := Lib.hid (show ofV 7 c 0 0 ⟨#[]⟩ = .iface 68 (.agg #[.int .i64 c]) by unfold ofV; rw [if_pos hr]; rfl)
        have HR := Lib.hid hr
        clear hr
        go_wp2_with (first | (go_at_call 110; refine (serveEv_any _ _).mono ?_; rintro e aw ⟨he, hl⟩; (simp only [evV] at he); subst he; have h2 := hl; have Ha := Lib.hid h2; clear h2 hl) | (go_at_call 32; refine (of_ok HR.out HV.out _).mono ?_; rintro e bw ⟨he, hl⟩; subst he; have h2 := hl; obtain ⟨b0, b1, b2, b3, b4, bf⟩ := box5 h2; have Hb := Lib.hid h2; clear h2 hl))
        go_region_held3 (fun w' => w'.cell? ⟨aw.heap.size, 0, none⟩ = some (.int .i64 7) ∧ w'.cell? ⟨aw.heap.size, 1, none⟩ = some (.int .i64 c) ∧ w'.cell? ⟨aw.heap.size, 2, none⟩ = some (.int .i64 0) ∧ w'.cell? ⟨aw.heap.size, 3, none⟩ = some (.int .i64 0) ∧ w'.cell? ⟨aw.heap.size, 4, none⟩ = some (.string ⟨#[]⟩)) (go_keep) (first | (go_at_call 110; refine (serveEv_any _ _).mono ?_; rintro e fw ⟨he, hl⟩; (simp only [evV] at he); subst he; have h2 := grow_trans Hb.out.drew hl; obtain ⟨f0, f1, f2, f3, f4, ff⟩ := box5 h2; have Hf := Lib.hid h2; clear h2 hl))
        go_wp2
        go_roundg 0
        case measure => omega
        case rel =>
          have h3 : Below wr.heap.size wr _ := grow_trans (Ha.out.alloc Ha.out.size _) Hf.out
          exact ⟨7, by omega, by omega, rfl, HE.out.below h3, grow_trans HB.out h3⟩

    · clear hk
      go_wp2
      go_region_held3 (fun w' => w'.cell? ⟨w.heap.size, 0, none⟩ = some (.int .i64 c) ∧ w'.cell? ⟨w.heap.size, 1, none⟩ = some (.int .i64 o) ∧ w'.cell? ⟨w.heap.size + 1, 1, none⟩ = some (.iface 60 (.agg #[.int .i64 c, .int .i64 o, .string S])) ∧ w'.cell? ⟨w.heap.size + 1, 3, none⟩ = some (.iface 64 (.agg #[.int .i64 c, .int .i64 o, .int .i64 n])) ∧ w'.cell? ⟨w.heap.size + 1, 5, none⟩ = some (.iface 67 (.agg #[.int .i64 n])) ∧ w'.cell? ⟨w.heap.size + 1, 6, none⟩ = some (.iface 68 (.agg #[.int .i64 c]))) (go_keep) (first | (go_at_call 105; refine (sendEv_any _ _ _ _).mono ?_; rintro e pw ⟨he, hl⟩; (simp only [evV] at he); subst he; have h2 := grow_trans (Below.refl _ wr).drew hl; obtain ⟨p0, p1, p2, p3, p4, p5, p6, p7, p8, p9, p10⟩ := (HE.out.below h2).at_; have Hp := Lib.hid h2; clear h2 hl) | (go_at_call 107; refine (readEv_any _ _ _ _).mono ?_; rintro e qw ⟨he, hl⟩; (simp only [evV] at he); subst he; have h2 := grow_trans Hp.out hl; obtain ⟨q0, q1, q2, q3, q4, q5, q6, q7, q8, q9, q10⟩ := (HE.out.below h2).at_; have Hq := Lib.hid h2; clear h2 hl) | (go_at_call 109; refine (tickEv_any _ _).mono ?_; rintro e rw ⟨he, hl⟩; (simp only [evV] at he); subst he; have h2 := grow_trans Hq.out hl; obtain ⟨r0, r1, r2, r3, r4, r5, r6, r7, r8, r9, r10⟩ := (HE.out.below h2).at_; have Hr := Lib.hid h2; clear h2 hl) | (go_at_call 110; refine (serveEv_any _ _).mono ?_; rintro e tw ⟨he, hl⟩; (simp only [evV] at he); subst he; have h2 := grow_trans Hr.out hl; obtain ⟨t0, t1, t2, t3, t4, t5, t6, t7, t8, t9, t10⟩ := (HE.out.below h2).at_; have Ht := Lib.hid h2; clear h2 hl) | (go_at_call 37; refine (actlives_any _).mono ?_; rintro e lw ⟨he, hl⟩; subst he; have h2 := grow_trans Ht.out hl; obtain ⟨l0, l1, l2, l3, l4, l5, l6, l7, l8, l9, l10⟩ := (HE.out.below h2).at_; have Hl := Lib.hid h2; clear h2 hl))
      all_goals go_wp2
      all_goals
        go_ret
        exact ⟨rfl, grow_trans HB.out Hl.out⟩
end Go.Proofs.Ytgbjndlaonalcaa
