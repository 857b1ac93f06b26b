/-
  THE WALK of the law ActTells, for an event that may not be, and for each op of one that may.
-/
import Derived.Test.YtgbjndlaonalcaaActTells
import Derived.Test.YtgbjndlaonalcaaActRefRight
import Derived.Deep.RegionHeld3
import Derived.StillTailTactics
namespace Go.Proofs.Ytgbjndlaonalcaa
open Go.RowKit Go.Proofs.Ytgbjndlaonalcaa.Act

theorem of_ok {op c o n : Int} {s : ByteArray} {V : Value} (hr : rightB op c o n s = true) (hV : ofV op c o n s = V) (w : World) :
    Calls Try.prog 32 #[.agg #[.int .i64 op, .int .i64 c, .int .i64 o, .int .i64 n, .string s]] w fun e w' => e = .returned (.tuple #[V, .bool true]) ∧ Below w.heap.size w w' := by
  refine (of_any op c o n s w).mono fun e w' h => ?_
  rw [hr, hV] at h
  exact h
theorem of_no {op c o n : Int} {s : ByteArray} (hr : rightB op c o n s = false) (w : World) :
    Calls Try.prog 32 #[.agg #[.int .i64 op, .int .i64 c, .int .i64 o, .int .i64 n, .string s]] w fun e w' => e = .returned (.tuple #[.nilIface, .bool false]) ∧ Below w.heap.size w w' := by
  refine (of_any op c o n s w).mono fun e w' h => ?_
  have hV : ofV op c o n s = .nilIface := by unfold ofV; rw [if_neg (by rw [hr]; decide)]
  rw [hr, hV] at h
  exact h
theorem right_is {op c o n : Int} {s : ByteArray} {b : Bool} (hr : rightB op c o n s = b) (w : World) :
    Calls Try.prog 34 #[.agg #[.int .i64 op, .int .i64 c, .int .i64 o, .int .i64 n, .string s]] w fun e w' => e = .returned (.bool b) ∧ Below w.heap.size w w' := by
  subst hr; exact right_any op c o n s w
theorem rright_is {op c o n : Int} {s : ByteArray} {b : Bool} (hr : rightB op c o n s = b) (w : World) :
    Calls Try.prog 33 #[.agg #[.int .i64 op, .int .i64 c, .int .i64 o, .int .i64 n, .string s]] w fun e w' => e = .returned (.bool b) ∧ Below w.heap.size w w' := by
  subst hr; exact rright_any op c o n s w

set_option maxRecDepth 100000 in
set_option maxHeartbeats 3200000 in
theorem acttells_no (op c o n : Int) (s : ByteArray) (x : Int) (w : World) (h : ¬ (6000 : Int) < (s.size : Int)) (hz : s.size ≤ 9223372036854775807) (hr : rightB op c o n s = false) :
    Calls Try.prog 7 #[.agg #[.int .i64 op, .int .i64 c, .int .i64 o, .int .i64 n, .string s], .int .i64 x] w fun e w' => e = .returned (.bool true) ∧ Below w.heap.size w w' := by
  have HR := Lib.hid hr
  clear hr
  go_enter Try.func7, Try.ntmps7
  go_wp2_with (first
      | (go_at_call 32; refine (of_no HR.out _).mono ?_; rintro e aw ⟨he, hl⟩; (try simp only [evV] at he); subst he; have h2 := hl; obtain ⟨a0, a1, a2, a3, a4, af⟩ := box5 h2; have Ha := Lib.hid h2; clear h2 hl)
      | (go_at_call 33; refine (rright_is HR.out _).mono ?_; rintro e bw ⟨he, hl⟩; (try simp only [evV] at he); subst he; (first | have h2 := grow_trans Ha.out hl | have h2 := grow_trans Ha.out.drew hl | have h2 := grow_trans Ha.out.drew.drew hl | have h2 := grow_trans (below_drewN Ha.out _) hl); obtain ⟨b0, b1, b2, b3, b4, bf⟩ := box5 h2; have Hb := Lib.hid h2; clear h2 hl)
      | (go_at_call 34; refine (right_is HR.out _).mono ?_; rintro e ccw ⟨he, hl⟩; (try simp only [evV] at he); subst he; (first | have h2 := grow_trans Hb.out hl | have h2 := grow_trans Hb.out.drew hl | have h2 := grow_trans Hb.out.drew.drew hl | have h2 := grow_trans (below_drewN Hb.out _) hl); obtain ⟨cc0, cc1, cc2, cc3, cc4, ccf⟩ := box5 h2; have Hcc := Lib.hid h2; clear h2 hl)
      | (go_at_call 35; refine (word_any _ _).mono ?_; rintro e dw ⟨he, hl⟩; (try simp only [evV] at he); subst he; (first | have h2 := grow_trans Hcc.out hl | have h2 := grow_trans Hcc.out.drew hl | have h2 := grow_trans Hcc.out.drew.drew hl | have h2 := grow_trans (below_drewN Hcc.out _) hl); obtain ⟨d0, d1, d2, d3, d4, df⟩ := box5 h2; have Hd := Lib.hid h2; clear h2 hl)
      | (go_at_call 36; refine (rword_any _ _).mono ?_; rintro e eew ⟨he, hl⟩; (try simp only [evV] at he); subst he; (first | have h2 := grow_trans Hd.out hl | have h2 := grow_trans Hd.out.drew hl | have h2 := grow_trans Hd.out.drew.drew hl | have h2 := grow_trans (below_drewN Hd.out _) hl); obtain ⟨ee0, ee1, ee2, ee3, ee4, eef⟩ := box5 h2; have Hee := Lib.hid h2; clear h2 hl))
  go_still_tail 9, (by kernel_rfl)
  change wpList _ _ _ _ _ eew.drew
  have Hdr := Lib.hid Hee.out.drew
  generalize eew.drew = tw at Hdr
  all_goals go_wp2_with (first
      | (go_at_call 37; refine (actlives_any _).mono ?_; rintro e gw ⟨he, hl⟩; (try simp only [evV] at he); subst he; (first | have h2 := grow_trans Hdr.out hl | have h2 := grow_trans Hdr.out.drew hl | have h2 := grow_trans Hdr.out.drew.drew hl | have h2 := grow_trans (below_drewN Hdr.out _) hl); obtain ⟨g0, g1, g2, g3, g4, gf⟩ := box5 h2; have Hg := Lib.hid h2; clear h2 hl))
  all_goals
    go_ret
    exact ⟨rfl, (below_new _ _).trans (Hg.out.mono (by simp))⟩

set_option maxRecDepth 100000 in
set_option maxHeartbeats 3200000 in
theorem acttells_long (op c o n : Int) (s : ByteArray) (x : Int) (w : World) (h : (6000 : Int) < (s.size : Int)) (hz : s.size ≤ 9223372036854775807) (hr : rightB op c o n (s.extract 0 6000) = false) :
    Calls Try.prog 7 #[.agg #[.int .i64 op, .int .i64 c, .int .i64 o, .int .i64 n, .string s], .int .i64 x] w fun e w' => e = .returned (.bool true) ∧ Below w.heap.size w w' := by
  have HR := Lib.hid hr
  clear hr
  go_enter Try.func7, Try.ntmps7
  go_wp2_with (first
      | (go_at_call 32; refine (of_no HR.out _).mono ?_; rintro e aw ⟨he, hl⟩; (try simp only [evV] at he); subst he; have h2 := hl; obtain ⟨a0, a1, a2, a3, a4, af⟩ := box5 h2; have Ha := Lib.hid h2; clear h2 hl)
      | (go_at_call 33; refine (rright_is HR.out _).mono ?_; rintro e bw ⟨he, hl⟩; (try simp only [evV] at he); subst he; (first | have h2 := grow_trans Ha.out hl | have h2 := grow_trans Ha.out.drew hl | have h2 := grow_trans Ha.out.drew.drew hl | have h2 := grow_trans (below_drewN Ha.out _) hl); obtain ⟨b0, b1, b2, b3, b4, bf⟩ := box5 h2; have Hb := Lib.hid h2; clear h2 hl)
      | (go_at_call 34; refine (right_is HR.out _).mono ?_; rintro e ccw ⟨he, hl⟩; (try simp only [evV] at he); subst he; (first | have h2 := grow_trans Hb.out hl | have h2 := grow_trans Hb.out.drew hl | have h2 := grow_trans Hb.out.drew.drew hl | have h2 := grow_trans (below_drewN Hb.out _) hl); obtain ⟨cc0, cc1, cc2, cc3, cc4, ccf⟩ := box5 h2; have Hcc := Lib.hid h2; clear h2 hl)
      | (go_at_call 35; refine (word_any _ _).mono ?_; rintro e dw ⟨he, hl⟩; (try simp only [evV] at he); subst he; (first | have h2 := grow_trans Hcc.out hl | have h2 := grow_trans Hcc.out.drew hl | have h2 := grow_trans Hcc.out.drew.drew hl | have h2 := grow_trans (below_drewN Hcc.out _) hl); obtain ⟨d0, d1, d2, d3, d4, df⟩ := box5 h2; have Hd := Lib.hid h2; clear h2 hl)
      | (go_at_call 36; refine (rword_any _ _).mono ?_; rintro e eew ⟨he, hl⟩; (try simp only [evV] at he); subst he; (first | have h2 := grow_trans Hd.out hl | have h2 := grow_trans Hd.out.drew hl | have h2 := grow_trans Hd.out.drew.drew hl | have h2 := grow_trans (below_drewN Hd.out _) hl); obtain ⟨ee0, ee1, ee2, ee3, ee4, eef⟩ := box5 h2; have Hee := Lib.hid h2; clear h2 hl))
  go_still_tail 9, (by kernel_rfl)
  change wpList _ _ _ _ _ eew.drew
  have Hdr := Lib.hid Hee.out.drew
  generalize eew.drew = tw at Hdr
  all_goals go_wp2_with (first
      | (go_at_call 37; refine (actlives_any _).mono ?_; rintro e gw ⟨he, hl⟩; (try simp only [evV] at he); subst he; (first | have h2 := grow_trans Hdr.out hl | have h2 := grow_trans Hdr.out.drew hl | have h2 := grow_trans Hdr.out.drew.drew hl | have h2 := grow_trans (below_drewN Hdr.out _) hl); obtain ⟨g0, g1, g2, g3, g4, gf⟩ := box5 h2; have Hg := Lib.hid h2; clear h2 hl))
  all_goals
    go_ret
    exact ⟨rfl, (below_new _ _).trans (Hg.out.mono (by simp))⟩

set_option maxRecDepth 100000 in
set_option maxHeartbeats 3200000 in
theorem acttells_1 (op c o n : Int) (s : ByteArray) (x : Int) (w : World) (hr : rightB 1 c 0 0 ⟨#[]⟩ = true) :
    Calls Try.prog 7 #[.agg #[.int .i64 1, .int .i64 c, .int .i64 0, .int .i64 0, .string ⟨#[]⟩], .int .i64 x] w fun e w' => e = .returned (.bool true) ∧ Below w.heap.size w w' := by
  have HR := Lib.hid hr
  have HV := Lib.hid (show ofV 1 c 0 0 ⟨#[]⟩ = .iface 58 (.agg #[.int .i64 c]) by unfold ofV; rw [if_pos hr]; rfl)
  clear hr
  go_enter Try.func7, Try.ntmps7
  go_wp2_with (first
      | (go_at_call 32; refine (of_ok HR.out HV.out _).mono ?_; rintro e aw ⟨he, hl⟩; (try simp only [evV] at he); subst he; have h2 := hl; obtain ⟨a0, a1, a2, a3, a4, af⟩ := box5 h2; have Ha := Lib.hid h2; clear h2 hl)
      | (go_at_call 33; refine (rright_is HR.out _).mono ?_; rintro e bw ⟨he, hl⟩; (try simp only [evV] at he); subst he; (first | have h2 := grow_trans Ha.out hl | have h2 := grow_trans Ha.out.drew hl | have h2 := grow_trans Ha.out.drew.drew hl | have h2 := grow_trans (below_drewN Ha.out _) hl); obtain ⟨b0, b1, b2, b3, b4, bf⟩ := box5 h2; have Hb := Lib.hid h2; clear h2 hl)
      | (go_at_call 34; refine (right_is HR.out _).mono ?_; rintro e ccw ⟨he, hl⟩; (try simp only [evV] at he); subst he; (first | have h2 := grow_trans Hb.out hl | have h2 := grow_trans Hb.out.drew hl | have h2 := grow_trans Hb.out.drew.drew hl | have h2 := grow_trans (below_drewN Hb.out _) hl); obtain ⟨cc0, cc1, cc2, cc3, cc4, ccf⟩ := box5 h2; have Hcc := Lib.hid h2; clear h2 hl)
      | (go_at_call 35; refine (word_any _ _).mono ?_; rintro e dw ⟨he, hl⟩; (try simp only [evV] at he); subst he; (first | have h2 := grow_trans Hcc.out hl | have h2 := grow_trans Hcc.out.drew hl | have h2 := grow_trans Hcc.out.drew.drew hl | have h2 := grow_trans (below_drewN Hcc.out _) hl); obtain ⟨d0, d1, d2, d3, d4, df⟩ := box5 h2; have Hd := Lib.hid h2; clear h2 hl)
      | (go_at_call 36; refine (rword_any _ _).mono ?_; rintro e eew ⟨he, hl⟩; (try simp only [evV] at he); subst he; (first | have h2 := grow_trans Hd.out hl | have h2 := grow_trans Hd.out.drew hl | have h2 := grow_trans Hd.out.drew.drew hl | have h2 := grow_trans (below_drewN Hd.out _) hl); obtain ⟨ee0, ee1, ee2, ee3, ee4, eef⟩ := box5 h2; have Hee := Lib.hid h2; clear h2 hl))
  go_region_held3 (fun w' => w'.cell? ⟨w.heap.size, 0, none⟩ = some (.int .i64 1) ∧ w'.cell? ⟨w.heap.size, 1, none⟩ = some (.int .i64 c) ∧ w'.cell? ⟨w.heap.size, 2, none⟩ = some (.int .i64 0) ∧ w'.cell? ⟨w.heap.size, 3, none⟩ = some (.int .i64 0) ∧ w'.cell? ⟨w.heap.size, 4, none⟩ = some (.string ByteArray.empty)) (go_keep) (first
      | (go_at_call 104; refine (openEv_any _ _).mono ?_; rintro e ffw ⟨he, hl⟩; (try simp only [evV] at he); subst he; (first | have h2 := grow_trans Hee.out hl | have h2 := grow_trans Hee.out.drew hl | have h2 := grow_trans Hee.out.drew.drew hl | have h2 := grow_trans (below_drewN Hee.out _) hl); obtain ⟨ff0, ff1, ff2, ff3, ff4, fff⟩ := box5 h2; have Hff := Lib.hid h2; clear h2 hl)
      | (go_at_call 37; refine (actlives_any _).mono ?_; rintro e gw ⟨he, hl⟩; (try simp only [evV] at he); subst he; (first | have h2 := grow_trans Hff.out hl | have h2 := grow_trans Hff.out.drew hl | have h2 := grow_trans Hff.out.drew.drew hl | have h2 := grow_trans (below_drewN Hff.out _) hl | have h2 := grow_trans Hee.out hl | have h2 := grow_trans Hee.out.drew hl | have h2 := grow_trans Hee.out.drew.drew hl | have h2 := grow_trans (below_drewN Hee.out _) hl); obtain ⟨g0, g1, g2, g3, g4, gf⟩ := box5 h2; have Hg := Lib.hid h2; clear h2 hl))
  all_goals go_wp2_with (first
      | (go_at_call 104; refine (openEv_any _ _).mono ?_; rintro e ffw ⟨he, hl⟩; (try simp only [evV] at he); subst he; (first | have h2 := grow_trans Hee.out hl | have h2 := grow_trans Hee.out.drew hl | have h2 := grow_trans Hee.out.drew.drew hl | have h2 := grow_trans (below_drewN Hee.out _) hl); obtain ⟨ff0, ff1, ff2, ff3, ff4, fff⟩ := box5 h2; have Hff := Lib.hid h2; clear h2 hl)
      | (go_at_call 37; refine (actlives_any _).mono ?_; rintro e gw ⟨he, hl⟩; (try simp only [evV] at he); subst he; (first | have h2 := grow_trans Hff.out hl | have h2 := grow_trans Hff.out.drew hl | have h2 := grow_trans Hff.out.drew.drew hl | have h2 := grow_trans (below_drewN Hff.out _) hl | have h2 := grow_trans Hee.out hl | have h2 := grow_trans Hee.out.drew hl | have h2 := grow_trans Hee.out.drew.drew hl | have h2 := grow_trans (below_drewN Hee.out _) hl); obtain ⟨g0, g1, g2, g3, g4, gf⟩ := box5 h2; have Hg := Lib.hid h2; clear h2 hl))
  all_goals
    go_ret
    exact ⟨rfl, (below_new _ _).trans (Hg.out.mono (by simp))⟩

set_option maxRecDepth 100000 in
set_option maxHeartbeats 3200000 in
theorem acttells_2 (op c o n : Int) (s : ByteArray) (x : Int) (w : World) (h : ¬ (6000 : Int) < (s.size : Int)) (hz : s.size ≤ 9223372036854775807) (hr : rightB 2 c o 0 s = true) :
    Calls Try.prog 7 #[.agg #[.int .i64 2, .int .i64 c, .int .i64 o, .int .i64 0, .string s], .int .i64 x] w fun e w' => e = .returned (.bool true) ∧ Below w.heap.size w w' := by
  have HR := Lib.hid hr
  have HV := Lib.hid (show ofV 2 c o 0 s = .iface 60 (.agg #[.int .i64 c, .int .i64 o, .string s]) by unfold ofV; rw [if_pos hr]; rfl)
  clear hr
  go_enter Try.func7, Try.ntmps7
  go_wp2_with (first
      | (go_at_call 32; refine (of_ok HR.out HV.out _).mono ?_; rintro e aw ⟨he, hl⟩; (try simp only [evV] at he); subst he; have h2 := hl; obtain ⟨a0, a1, a2, a3, a4, af⟩ := box5 h2; have Ha := Lib.hid h2; clear h2 hl)
      | (go_at_call 33; refine (rright_is HR.out _).mono ?_; rintro e bw ⟨he, hl⟩; (try simp only [evV] at he); subst he; (first | have h2 := grow_trans Ha.out hl | have h2 := grow_trans Ha.out.drew hl | have h2 := grow_trans Ha.out.drew.drew hl | have h2 := grow_trans (below_drewN Ha.out _) hl); obtain ⟨b0, b1, b2, b3, b4, bf⟩ := box5 h2; have Hb := Lib.hid h2; clear h2 hl)
      | (go_at_call 34; refine (right_is HR.out _).mono ?_; rintro e ccw ⟨he, hl⟩; (try simp only [evV] at he); subst he; (first | have h2 := grow_trans Hb.out hl | have h2 := grow_trans Hb.out.drew hl | have h2 := grow_trans Hb.out.drew.drew hl | have h2 := grow_trans (below_drewN Hb.out _) hl); obtain ⟨cc0, cc1, cc2, cc3, cc4, ccf⟩ := box5 h2; have Hcc := Lib.hid h2; clear h2 hl)
      | (go_at_call 35; refine (word_any _ _).mono ?_; rintro e dw ⟨he, hl⟩; (try simp only [evV] at he); subst he; (first | have h2 := grow_trans Hcc.out hl | have h2 := grow_trans Hcc.out.drew hl | have h2 := grow_trans Hcc.out.drew.drew hl | have h2 := grow_trans (below_drewN Hcc.out _) hl); obtain ⟨d0, d1, d2, d3, d4, df⟩ := box5 h2; have Hd := Lib.hid h2; clear h2 hl)
      | (go_at_call 36; refine (rword_any _ _).mono ?_; rintro e eew ⟨he, hl⟩; (try simp only [evV] at he); subst he; (first | have h2 := grow_trans Hd.out hl | have h2 := grow_trans Hd.out.drew hl | have h2 := grow_trans Hd.out.drew.drew hl | have h2 := grow_trans (below_drewN Hd.out _) hl); obtain ⟨ee0, ee1, ee2, ee3, ee4, eef⟩ := box5 h2; have Hee := Lib.hid h2; clear h2 hl))
  go_region_held3 (fun w' => w'.cell? ⟨w.heap.size, 0, none⟩ = some (.int .i64 2) ∧ w'.cell? ⟨w.heap.size, 1, none⟩ = some (.int .i64 c) ∧ w'.cell? ⟨w.heap.size, 2, none⟩ = some (.int .i64 o) ∧ w'.cell? ⟨w.heap.size, 3, none⟩ = some (.int .i64 0) ∧ w'.cell? ⟨w.heap.size, 4, none⟩ = some (.string s)) (go_keep) (first
      | (go_at_call 105; refine (sendEv_any _ _ _ _).mono ?_; rintro e ffw ⟨he, hl⟩; (try simp only [evV] at he); subst he; (first | have h2 := grow_trans Hee.out hl | have h2 := grow_trans Hee.out.drew hl | have h2 := grow_trans Hee.out.drew.drew hl | have h2 := grow_trans (below_drewN Hee.out _) hl); obtain ⟨ff0, ff1, ff2, ff3, ff4, fff⟩ := box5 h2; have Hff := Lib.hid h2; clear h2 hl)
      | (go_at_call 37; refine (actlives_any _).mono ?_; rintro e gw ⟨he, hl⟩; (try simp only [evV] at he); subst he; (first | have h2 := grow_trans Hff.out hl | have h2 := grow_trans Hff.out.drew hl | have h2 := grow_trans Hff.out.drew.drew hl | have h2 := grow_trans (below_drewN Hff.out _) hl | have h2 := grow_trans Hee.out hl | have h2 := grow_trans Hee.out.drew hl | have h2 := grow_trans Hee.out.drew.drew hl | have h2 := grow_trans (below_drewN Hee.out _) hl); obtain ⟨g0, g1, g2, g3, g4, gf⟩ := box5 h2; have Hg := Lib.hid h2; clear h2 hl))
  all_goals go_wp2_with (first
      | (go_at_call 105; refine (sendEv_any _ _ _ _).mono ?_; rintro e ffw ⟨he, hl⟩; (try simp only [evV] at he); subst he; (first | have h2 := grow_trans Hee.out hl | have h2 := grow_trans Hee.out.drew hl | have h2 := grow_trans Hee.out.drew.drew hl | have h2 := grow_trans (below_drewN Hee.out _) hl); obtain ⟨ff0, ff1, ff2, ff3, ff4, fff⟩ := box5 h2; have Hff := Lib.hid h2; clear h2 hl)
      | (go_at_call 37; refine (actlives_any _).mono ?_; rintro e gw ⟨he, hl⟩; (try simp only [evV] at he); subst he; (first | have h2 := grow_trans Hff.out hl | have h2 := grow_trans Hff.out.drew hl | have h2 := grow_trans Hff.out.drew.drew hl | have h2 := grow_trans (below_drewN Hff.out _) hl | have h2 := grow_trans Hee.out hl | have h2 := grow_trans Hee.out.drew hl | have h2 := grow_trans Hee.out.drew.drew hl | have h2 := grow_trans (below_drewN Hee.out _) hl); obtain ⟨g0, g1, g2, g3, g4, gf⟩ := box5 h2; have Hg := Lib.hid h2; clear h2 hl))
  all_goals
    go_ret
    exact ⟨rfl, (below_new _ _).trans (Hg.out.mono (by simp))⟩

set_option maxRecDepth 100000 in
set_option maxHeartbeats 3200000 in
theorem acttells_3 (op c o n : Int) (s : ByteArray) (x : Int) (w : World) (hr : rightB 3 c o 0 ⟨#[]⟩ = true) :
    Calls Try.prog 7 #[.agg #[.int .i64 3, .int .i64 c, .int .i64 o, .int .i64 0, .string ⟨#[]⟩], .int .i64 x] w fun e w' => e = .returned (.bool true) ∧ Below w.heap.size w w' := by
  have HR := Lib.hid hr
  have HV := Lib.hid (show ofV 3 c o 0 ⟨#[]⟩ = .iface 62 (.agg #[.int .i64 c, .int .i64 o]) by unfold ofV; rw [if_pos hr]; rfl)
  clear hr
  go_enter Try.func7, Try.ntmps7
  go_wp2_with (first
      | (go_at_call 32; refine (of_ok HR.out HV.out _).mono ?_; rintro e aw ⟨he, hl⟩; (try simp only [evV] at he); subst he; have h2 := hl; obtain ⟨a0, a1, a2, a3, a4, af⟩ := box5 h2; have Ha := Lib.hid h2; clear h2 hl)
      | (go_at_call 33; refine (rright_is HR.out _).mono ?_; rintro e bw ⟨he, hl⟩; (try simp only [evV] at he); subst he; (first | have h2 := grow_trans Ha.out hl | have h2 := grow_trans Ha.out.drew hl | have h2 := grow_trans Ha.out.drew.drew hl | have h2 := grow_trans (below_drewN Ha.out _) hl); obtain ⟨b0, b1, b2, b3, b4, bf⟩ := box5 h2; have Hb := Lib.hid h2; clear h2 hl)
      | (go_at_call 34; refine (right_is HR.out _).mono ?_; rintro e ccw ⟨he, hl⟩; (try simp only [evV] at he); subst he; (first | have h2 := grow_trans Hb.out hl | have h2 := grow_trans Hb.out.drew hl | have h2 := grow_trans Hb.out.drew.drew hl | have h2 := grow_trans (below_drewN Hb.out _) hl); obtain ⟨cc0, cc1, cc2, cc3, cc4, ccf⟩ := box5 h2; have Hcc := Lib.hid h2; clear h2 hl)
      | (go_at_call 35; refine (word_any _ _).mono ?_; rintro e dw ⟨he, hl⟩; (try simp only [evV] at he); subst he; (first | have h2 := grow_trans Hcc.out hl | have h2 := grow_trans Hcc.out.drew hl | have h2 := grow_trans Hcc.out.drew.drew hl | have h2 := grow_trans (below_drewN Hcc.out _) hl); obtain ⟨d0, d1, d2, d3, d4, df⟩ := box5 h2; have Hd := Lib.hid h2; clear h2 hl)
      | (go_at_call 36; refine (rword_any _ _).mono ?_; rintro e eew ⟨he, hl⟩; (try simp only [evV] at he); subst he; (first | have h2 := grow_trans Hd.out hl | have h2 := grow_trans Hd.out.drew hl | have h2 := grow_trans Hd.out.drew.drew hl | have h2 := grow_trans (below_drewN Hd.out _) hl); obtain ⟨ee0, ee1, ee2, ee3, ee4, eef⟩ := box5 h2; have Hee := Lib.hid h2; clear h2 hl))
  go_region_held3 (fun w' => w'.cell? ⟨w.heap.size, 0, none⟩ = some (.int .i64 3) ∧ w'.cell? ⟨w.heap.size, 1, none⟩ = some (.int .i64 c) ∧ w'.cell? ⟨w.heap.size, 2, none⟩ = some (.int .i64 o) ∧ w'.cell? ⟨w.heap.size, 3, none⟩ = some (.int .i64 0) ∧ w'.cell? ⟨w.heap.size, 4, none⟩ = some (.string ByteArray.empty)) (go_keep) (first
      | (go_at_call 106; refine (endEv_any _ _ _).mono ?_; rintro e ffw ⟨he, hl⟩; (try simp only [evV] at he); subst he; (first | have h2 := grow_trans Hee.out hl | have h2 := grow_trans Hee.out.drew hl | have h2 := grow_trans Hee.out.drew.drew hl | have h2 := grow_trans (below_drewN Hee.out _) hl); obtain ⟨ff0, ff1, ff2, ff3, ff4, fff⟩ := box5 h2; have Hff := Lib.hid h2; clear h2 hl)
      | (go_at_call 37; refine (actlives_any _).mono ?_; rintro e gw ⟨he, hl⟩; (try simp only [evV] at he); subst he; (first | have h2 := grow_trans Hff.out hl | have h2 := grow_trans Hff.out.drew hl | have h2 := grow_trans Hff.out.drew.drew hl | have h2 := grow_trans (below_drewN Hff.out _) hl | have h2 := grow_trans Hee.out hl | have h2 := grow_trans Hee.out.drew hl | have h2 := grow_trans Hee.out.drew.drew hl | have h2 := grow_trans (below_drewN Hee.out _) hl); obtain ⟨g0, g1, g2, g3, g4, gf⟩ := box5 h2; have Hg := Lib.hid h2; clear h2 hl))
  all_goals go_wp2_with (first
      | (go_at_call 106; refine (endEv_any _ _ _).mono ?_; rintro e ffw ⟨he, hl⟩; (try simp only [evV] at he); subst he; (first | have h2 := grow_trans Hee.out hl | have h2 := grow_trans Hee.out.drew hl | have h2 := grow_trans Hee.out.drew.drew hl | have h2 := grow_trans (below_drewN Hee.out _) hl); obtain ⟨ff0, ff1, ff2, ff3, ff4, fff⟩ := box5 h2; have Hff := Lib.hid h2; clear h2 hl)
      | (go_at_call 37; refine (actlives_any _).mono ?_; rintro e gw ⟨he, hl⟩; (try simp only [evV] at he); subst he; (first | have h2 := grow_trans Hff.out hl | have h2 := grow_trans Hff.out.drew hl | have h2 := grow_trans Hff.out.drew.drew hl | have h2 := grow_trans (below_drewN Hff.out _) hl | have h2 := grow_trans Hee.out hl | have h2 := grow_trans Hee.out.drew hl | have h2 := grow_trans Hee.out.drew.drew hl | have h2 := grow_trans (below_drewN Hee.out _) hl); obtain ⟨g0, g1, g2, g3, g4, gf⟩ := box5 h2; have Hg := Lib.hid h2; clear h2 hl))
  all_goals
    go_ret
    exact ⟨rfl, (below_new _ _).trans (Hg.out.mono (by simp))⟩

set_option maxRecDepth 100000 in
set_option maxHeartbeats 3200000 in
theorem acttells_4 (op c o n : Int) (s : ByteArray) (x : Int) (w : World) (hr : rightB 4 c o n ⟨#[]⟩ = true) :
    Calls Try.prog 7 #[.agg #[.int .i64 4, .int .i64 c, .int .i64 o, .int .i64 n, .string ⟨#[]⟩], .int .i64 x] w fun e w' => e = .returned (.bool true) ∧ Below w.heap.size w w' := by
  have HR := Lib.hid hr
  have HV := Lib.hid (show ofV 4 c o n ⟨#[]⟩ = .iface 64 (.agg #[.int .i64 c, .int .i64 o, .int .i64 n]) by unfold ofV; rw [if_pos hr]; rfl)
  clear hr
  go_enter Try.func7, Try.ntmps7
  go_wp2_with (first
      | (go_at_call 32; refine (of_ok HR.out HV.out _).mono ?_; rintro e aw ⟨he, hl⟩; (try simp only [evV] at he); subst he; have h2 := hl; obtain ⟨a0, a1, a2, a3, a4, af⟩ := box5 h2; have Ha := Lib.hid h2; clear h2 hl)
      | (go_at_call 33; refine (rright_is HR.out _).mono ?_; rintro e bw ⟨he, hl⟩; (try simp only [evV] at he); subst he; (first | have h2 := grow_trans Ha.out hl | have h2 := grow_trans Ha.out.drew hl | have h2 := grow_trans Ha.out.drew.drew hl | have h2 := grow_trans (below_drewN Ha.out _) hl); obtain ⟨b0, b1, b2, b3, b4, bf⟩ := box5 h2; have Hb := Lib.hid h2; clear h2 hl)
      | (go_at_call 34; refine (right_is HR.out _).mono ?_; rintro e ccw ⟨he, hl⟩; (try simp only [evV] at he); subst he; (first | have h2 := grow_trans Hb.out hl | have h2 := grow_trans Hb.out.drew hl | have h2 := grow_trans Hb.out.drew.drew hl | have h2 := grow_trans (below_drewN Hb.out _) hl); obtain ⟨cc0, cc1, cc2, cc3, cc4, ccf⟩ := box5 h2; have Hcc := Lib.hid h2; clear h2 hl)
      | (go_at_call 35; refine (word_any _ _).mono ?_; rintro e dw ⟨he, hl⟩; (try simp only [evV] at he); subst he; (first | have h2 := grow_trans Hcc.out hl | have h2 := grow_trans Hcc.out.drew hl | have h2 := grow_trans Hcc.out.drew.drew hl | have h2 := grow_trans (below_drewN Hcc.out _) hl); obtain ⟨d0, d1, d2, d3, d4, df⟩ := box5 h2; have Hd := Lib.hid h2; clear h2 hl)
      | (go_at_call 36; refine (rword_any _ _).mono ?_; rintro e eew ⟨he, hl⟩; (try simp only [evV] at he); subst he; (first | have h2 := grow_trans Hd.out hl | have h2 := grow_trans Hd.out.drew hl | have h2 := grow_trans Hd.out.drew.drew hl | have h2 := grow_trans (below_drewN Hd.out _) hl); obtain ⟨ee0, ee1, ee2, ee3, ee4, eef⟩ := box5 h2; have Hee := Lib.hid h2; clear h2 hl))
  go_region_held3 (fun w' => w'.cell? ⟨w.heap.size, 0, none⟩ = some (.int .i64 4) ∧ w'.cell? ⟨w.heap.size, 1, none⟩ = some (.int .i64 c) ∧ w'.cell? ⟨w.heap.size, 2, none⟩ = some (.int .i64 o) ∧ w'.cell? ⟨w.heap.size, 3, none⟩ = some (.int .i64 n) ∧ w'.cell? ⟨w.heap.size, 4, none⟩ = some (.string ByteArray.empty)) (go_keep) (first
      | (go_at_call 107; refine (readEv_any _ _ _ _).mono ?_; rintro e ffw ⟨he, hl⟩; (try simp only [evV] at he); subst he; (first | have h2 := grow_trans Hee.out hl | have h2 := grow_trans Hee.out.drew hl | have h2 := grow_trans Hee.out.drew.drew hl | have h2 := grow_trans (below_drewN Hee.out _) hl); obtain ⟨ff0, ff1, ff2, ff3, ff4, fff⟩ := box5 h2; have Hff := Lib.hid h2; clear h2 hl)
      | (go_at_call 37; refine (actlives_any _).mono ?_; rintro e gw ⟨he, hl⟩; (try simp only [evV] at he); subst he; (first | have h2 := grow_trans Hff.out hl | have h2 := grow_trans Hff.out.drew hl | have h2 := grow_trans Hff.out.drew.drew hl | have h2 := grow_trans (below_drewN Hff.out _) hl | have h2 := grow_trans Hee.out hl | have h2 := grow_trans Hee.out.drew hl | have h2 := grow_trans Hee.out.drew.drew hl | have h2 := grow_trans (below_drewN Hee.out _) hl); obtain ⟨g0, g1, g2, g3, g4, gf⟩ := box5 h2; have Hg := Lib.hid h2; clear h2 hl))
  all_goals go_wp2_with (first
      | (go_at_call 107; refine (readEv_any _ _ _ _).mono ?_; rintro e ffw ⟨he, hl⟩; (try simp only [evV] at he); subst he; (first | have h2 := grow_trans Hee.out hl | have h2 := grow_trans Hee.out.drew hl | have h2 := grow_trans Hee.out.drew.drew hl | have h2 := grow_trans (below_drewN Hee.out _) hl); obtain ⟨ff0, ff1, ff2, ff3, ff4, fff⟩ := box5 h2; have Hff := Lib.hid h2; clear h2 hl)
      | (go_at_call 37; refine (actlives_any _).mono ?_; rintro e gw ⟨he, hl⟩; (try simp only [evV] at he); subst he; (first | have h2 := grow_trans Hff.out hl | have h2 := grow_trans Hff.out.drew hl | have h2 := grow_trans Hff.out.drew.drew hl | have h2 := grow_trans (below_drewN Hff.out _) hl | have h2 := grow_trans Hee.out hl | have h2 := grow_trans Hee.out.drew hl | have h2 := grow_trans Hee.out.drew.drew hl | have h2 := grow_trans (below_drewN Hee.out _) hl); obtain ⟨g0, g1, g2, g3, g4, gf⟩ := box5 h2; have Hg := Lib.hid h2; clear h2 hl))
  all_goals
    go_ret
    exact ⟨rfl, (below_new _ _).trans (Hg.out.mono (by simp))⟩

set_option maxRecDepth 100000 in
set_option maxHeartbeats 3200000 in
theorem acttells_5 (op c o n : Int) (s : ByteArray) (x : Int) (w : World) (hr : rightB 5 c o n ⟨#[]⟩ = true) :
    Calls Try.prog 7 #[.agg #[.int .i64 5, .int .i64 c, .int .i64 o, .int .i64 n, .string ⟨#[]⟩], .int .i64 x] w fun e w' => e = .returned (.bool true) ∧ Below w.heap.size w w' := by
  have HR := Lib.hid hr
  have HV := Lib.hid (show ofV 5 c o n ⟨#[]⟩ = .iface 65 (.agg #[.int .i64 c, .int .i64 o, .int .i64 n]) by unfold ofV; rw [if_pos hr]; rfl)
  clear hr
  go_enter Try.func7, Try.ntmps7
  go_wp2_with (first
      | (go_at_call 32; refine (of_ok HR.out HV.out _).mono ?_; rintro e aw ⟨he, hl⟩; (try simp only [evV] at he); subst he; have h2 := hl; obtain ⟨a0, a1, a2, a3, a4, af⟩ := box5 h2; have Ha := Lib.hid h2; clear h2 hl)
      | (go_at_call 33; refine (rright_is HR.out _).mono ?_; rintro e bw ⟨he, hl⟩; (try simp only [evV] at he); subst he; (first | have h2 := grow_trans Ha.out hl | have h2 := grow_trans Ha.out.drew hl | have h2 := grow_trans Ha.out.drew.drew hl | have h2 := grow_trans (below_drewN Ha.out _) hl); obtain ⟨b0, b1, b2, b3, b4, bf⟩ := box5 h2; have Hb := Lib.hid h2; clear h2 hl)
      | (go_at_call 34; refine (right_is HR.out _).mono ?_; rintro e ccw ⟨he, hl⟩; (try simp only [evV] at he); subst he; (first | have h2 := grow_trans Hb.out hl | have h2 := grow_trans Hb.out.drew hl | have h2 := grow_trans Hb.out.drew.drew hl | have h2 := grow_trans (below_drewN Hb.out _) hl); obtain ⟨cc0, cc1, cc2, cc3, cc4, ccf⟩ := box5 h2; have Hcc := Lib.hid h2; clear h2 hl)
      | (go_at_call 35; refine (word_any _ _).mono ?_; rintro e dw ⟨he, hl⟩; (try simp only [evV] at he); subst he; (first | have h2 := grow_trans Hcc.out hl | have h2 := grow_trans Hcc.out.drew hl | have h2 := grow_trans Hcc.out.drew.drew hl | have h2 := grow_trans (below_drewN Hcc.out _) hl); obtain ⟨d0, d1, d2, d3, d4, df⟩ := box5 h2; have Hd := Lib.hid h2; clear h2 hl)
      | (go_at_call 36; refine (rword_any _ _).mono ?_; rintro e eew ⟨he, hl⟩; (try simp only [evV] at he); subst he; (first | have h2 := grow_trans Hd.out hl | have h2 := grow_trans Hd.out.drew hl | have h2 := grow_trans Hd.out.drew.drew hl | have h2 := grow_trans (below_drewN Hd.out _) hl); obtain ⟨ee0, ee1, ee2, ee3, ee4, eef⟩ := box5 h2; have Hee := Lib.hid h2; clear h2 hl))
  go_region_held3 (fun w' => w'.cell? ⟨w.heap.size, 0, none⟩ = some (.int .i64 5) ∧ w'.cell? ⟨w.heap.size, 1, none⟩ = some (.int .i64 c) ∧ w'.cell? ⟨w.heap.size, 2, none⟩ = some (.int .i64 o) ∧ w'.cell? ⟨w.heap.size, 3, none⟩ = some (.int .i64 n) ∧ w'.cell? ⟨w.heap.size, 4, none⟩ = some (.string ByteArray.empty)) (go_keep) (first
      | (go_at_call 108; refine (grantEv_any _ _ _ _).mono ?_; rintro e ffw ⟨he, hl⟩; (try simp only [evV] at he); subst he; (first | have h2 := grow_trans Hee.out hl | have h2 := grow_trans Hee.out.drew hl | have h2 := grow_trans Hee.out.drew.drew hl | have h2 := grow_trans (below_drewN Hee.out _) hl); obtain ⟨ff0, ff1, ff2, ff3, ff4, fff⟩ := box5 h2; have Hff := Lib.hid h2; clear h2 hl)
      | (go_at_call 37; refine (actlives_any _).mono ?_; rintro e gw ⟨he, hl⟩; (try simp only [evV] at he); subst he; (first | have h2 := grow_trans Hff.out hl | have h2 := grow_trans Hff.out.drew hl | have h2 := grow_trans Hff.out.drew.drew hl | have h2 := grow_trans (below_drewN Hff.out _) hl | have h2 := grow_trans Hee.out hl | have h2 := grow_trans Hee.out.drew hl | have h2 := grow_trans Hee.out.drew.drew hl | have h2 := grow_trans (below_drewN Hee.out _) hl); obtain ⟨g0, g1, g2, g3, g4, gf⟩ := box5 h2; have Hg := Lib.hid h2; clear h2 hl))
  all_goals go_wp2_with (first
      | (go_at_call 108; refine (grantEv_any _ _ _ _).mono ?_; rintro e ffw ⟨he, hl⟩; (try simp only [evV] at he); subst he; (first | have h2 := grow_trans Hee.out hl | have h2 := grow_trans Hee.out.drew hl | have h2 := grow_trans Hee.out.drew.drew hl | have h2 := grow_trans (below_drewN Hee.out _) hl); obtain ⟨ff0, ff1, ff2, ff3, ff4, fff⟩ := box5 h2; have Hff := Lib.hid h2; clear h2 hl)
      | (go_at_call 37; refine (actlives_any _).mono ?_; rintro e gw ⟨he, hl⟩; (try simp only [evV] at he); subst he; (first | have h2 := grow_trans Hff.out hl | have h2 := grow_trans Hff.out.drew hl | have h2 := grow_trans Hff.out.drew.drew hl | have h2 := grow_trans (below_drewN Hff.out _) hl | have h2 := grow_trans Hee.out hl | have h2 := grow_trans Hee.out.drew hl | have h2 := grow_trans Hee.out.drew.drew hl | have h2 := grow_trans (below_drewN Hee.out _) hl); obtain ⟨g0, g1, g2, g3, g4, gf⟩ := box5 h2; have Hg := Lib.hid h2; clear h2 hl))
  all_goals
    go_ret
    exact ⟨rfl, (below_new _ _).trans (Hg.out.mono (by simp))⟩

set_option maxRecDepth 100000 in
set_option maxHeartbeats 3200000 in
theorem acttells_6 (op c o n : Int) (s : ByteArray) (x : Int) (w : World) (hr : rightB 6 0 0 n ⟨#[]⟩ = true) :
    Calls Try.prog 7 #[.agg #[.int .i64 6, .int .i64 0, .int .i64 0, .int .i64 n, .string ⟨#[]⟩], .int .i64 x] w fun e w' => e = .returned (.bool true) ∧ Below w.heap.size w w' := by
  have HR := Lib.hid hr
  have HV := Lib.hid (show ofV 6 0 0 n ⟨#[]⟩ = .iface 67 (.agg #[.int .i64 n]) by unfold ofV; rw [if_pos hr]; rfl)
  clear hr
  go_enter Try.func7, Try.ntmps7
  go_wp2_with (first
      | (go_at_call 32; refine (of_ok HR.out HV.out _).mono ?_; rintro e aw ⟨he, hl⟩; (try simp only [evV] at he); subst he; have h2 := hl; obtain ⟨a0, a1, a2, a3, a4, af⟩ := box5 h2; have Ha := Lib.hid h2; clear h2 hl)
      | (go_at_call 33; refine (rright_is HR.out _).mono ?_; rintro e bw ⟨he, hl⟩; (try simp only [evV] at he); subst he; (first | have h2 := grow_trans Ha.out hl | have h2 := grow_trans Ha.out.drew hl | have h2 := grow_trans Ha.out.drew.drew hl | have h2 := grow_trans (below_drewN Ha.out _) hl); obtain ⟨b0, b1, b2, b3, b4, bf⟩ := box5 h2; have Hb := Lib.hid h2; clear h2 hl)
      | (go_at_call 34; refine (right_is HR.out _).mono ?_; rintro e ccw ⟨he, hl⟩; (try simp only [evV] at he); subst he; (first | have h2 := grow_trans Hb.out hl | have h2 := grow_trans Hb.out.drew hl | have h2 := grow_trans Hb.out.drew.drew hl | have h2 := grow_trans (below_drewN Hb.out _) hl); obtain ⟨cc0, cc1, cc2, cc3, cc4, ccf⟩ := box5 h2; have Hcc := Lib.hid h2; clear h2 hl)
      | (go_at_call 35; refine (word_any _ _).mono ?_; rintro e dw ⟨he, hl⟩; (try simp only [evV] at he); subst he; (first | have h2 := grow_trans Hcc.out hl | have h2 := grow_trans Hcc.out.drew hl | have h2 := grow_trans Hcc.out.drew.drew hl | have h2 := grow_trans (below_drewN Hcc.out _) hl); obtain ⟨d0, d1, d2, d3, d4, df⟩ := box5 h2; have Hd := Lib.hid h2; clear h2 hl)
      | (go_at_call 36; refine (rword_any _ _).mono ?_; rintro e eew ⟨he, hl⟩; (try simp only [evV] at he); subst he; (first | have h2 := grow_trans Hd.out hl | have h2 := grow_trans Hd.out.drew hl | have h2 := grow_trans Hd.out.drew.drew hl | have h2 := grow_trans (below_drewN Hd.out _) hl); obtain ⟨ee0, ee1, ee2, ee3, ee4, eef⟩ := box5 h2; have Hee := Lib.hid h2; clear h2 hl))
  go_region_held3 (fun w' => w'.cell? ⟨w.heap.size, 0, none⟩ = some (.int .i64 6) ∧ w'.cell? ⟨w.heap.size, 1, none⟩ = some (.int .i64 0) ∧ w'.cell? ⟨w.heap.size, 2, none⟩ = some (.int .i64 0) ∧ w'.cell? ⟨w.heap.size, 3, none⟩ = some (.int .i64 n) ∧ w'.cell? ⟨w.heap.size, 4, none⟩ = some (.string ByteArray.empty)) (go_keep) (first
      | (go_at_call 109; refine (tickEv_any _ _).mono ?_; rintro e ffw ⟨he, hl⟩; (try simp only [evV] at he); subst he; (first | have h2 := grow_trans Hee.out hl | have h2 := grow_trans Hee.out.drew hl | have h2 := grow_trans Hee.out.drew.drew hl | have h2 := grow_trans (below_drewN Hee.out _) hl); obtain ⟨ff0, ff1, ff2, ff3, ff4, fff⟩ := box5 h2; have Hff := Lib.hid h2; clear h2 hl)
      | (go_at_call 37; refine (actlives_any _).mono ?_; rintro e gw ⟨he, hl⟩; (try simp only [evV] at he); subst he; (first | have h2 := grow_trans Hff.out hl | have h2 := grow_trans Hff.out.drew hl | have h2 := grow_trans Hff.out.drew.drew hl | have h2 := grow_trans (below_drewN Hff.out _) hl | have h2 := grow_trans Hee.out hl | have h2 := grow_trans Hee.out.drew hl | have h2 := grow_trans Hee.out.drew.drew hl | have h2 := grow_trans (below_drewN Hee.out _) hl); obtain ⟨g0, g1, g2, g3, g4, gf⟩ := box5 h2; have Hg := Lib.hid h2; clear h2 hl))
  all_goals go_wp2_with (first
      | (go_at_call 109; refine (tickEv_any _ _).mono ?_; rintro e ffw ⟨he, hl⟩; (try simp only [evV] at he); subst he; (first | have h2 := grow_trans Hee.out hl | have h2 := grow_trans Hee.out.drew hl | have h2 := grow_trans Hee.out.drew.drew hl | have h2 := grow_trans (below_drewN Hee.out _) hl); obtain ⟨ff0, ff1, ff2, ff3, ff4, fff⟩ := box5 h2; have Hff := Lib.hid h2; clear h2 hl)
      | (go_at_call 37; refine (actlives_any _).mono ?_; rintro e gw ⟨he, hl⟩; (try simp only [evV] at he); subst he; (first | have h2 := grow_trans Hff.out hl | have h2 := grow_trans Hff.out.drew hl | have h2 := grow_trans Hff.out.drew.drew hl | have h2 := grow_trans (below_drewN Hff.out _) hl | have h2 := grow_trans Hee.out hl | have h2 := grow_trans Hee.out.drew hl | have h2 := grow_trans Hee.out.drew.drew hl | have h2 := grow_trans (below_drewN Hee.out _) hl); obtain ⟨g0, g1, g2, g3, g4, gf⟩ := box5 h2; have Hg := Lib.hid h2; clear h2 hl))
  all_goals
    go_ret
    exact ⟨rfl, (below_new _ _).trans (Hg.out.mono (by simp))⟩

set_option maxRecDepth 100000 in
set_option maxHeartbeats 3200000 in
theorem acttells_7 (op c o n : Int) (s : ByteArray) (x : Int) (w : World) (hr : rightB 7 c 0 0 ⟨#[]⟩ = true) :
    Calls Try.prog 7 #[.agg #[.int .i64 7, .int .i64 c, .int .i64 0, .int .i64 0, .string ⟨#[]⟩], .int .i64 x] w fun e w' => e = .returned (.bool true) ∧ Below w.heap.size w w' := by
  have HR := Lib.hid hr
  have HV := Lib.hid (show ofV 7 c 0 0 ⟨#[]⟩ = .iface 68 (.agg #[.int .i64 c]) by unfold ofV; rw [if_pos hr]; rfl)
  clear hr
  go_enter Try.func7, Try.ntmps7
  go_wp2_with (first
      | (go_at_call 32; refine (of_ok HR.out HV.out _).mono ?_; rintro e aw ⟨he, hl⟩; (try simp only [evV] at he); subst he; have h2 := hl; obtain ⟨a0, a1, a2, a3, a4, af⟩ := box5 h2; have Ha := Lib.hid h2; clear h2 hl)
      | (go_at_call 33; refine (rright_is HR.out _).mono ?_; rintro e bw ⟨he, hl⟩; (try simp only [evV] at he); subst he; (first | have h2 := grow_trans Ha.out hl | have h2 := grow_trans Ha.out.drew hl | have h2 := grow_trans Ha.out.drew.drew hl | have h2 := grow_trans (below_drewN Ha.out _) hl); obtain ⟨b0, b1, b2, b3, b4, bf⟩ := box5 h2; have Hb := Lib.hid h2; clear h2 hl)
      | (go_at_call 34; refine (right_is HR.out _).mono ?_; rintro e ccw ⟨he, hl⟩; (try simp only [evV] at he); subst he; (first | have h2 := grow_trans Hb.out hl | have h2 := grow_trans Hb.out.drew hl | have h2 := grow_trans Hb.out.drew.drew hl | have h2 := grow_trans (below_drewN Hb.out _) hl); obtain ⟨cc0, cc1, cc2, cc3, cc4, ccf⟩ := box5 h2; have Hcc := Lib.hid h2; clear h2 hl)
      | (go_at_call 35; refine (word_any _ _).mono ?_; rintro e dw ⟨he, hl⟩; (try simp only [evV] at he); subst he; (first | have h2 := grow_trans Hcc.out hl | have h2 := grow_trans Hcc.out.drew hl | have h2 := grow_trans Hcc.out.drew.drew hl | have h2 := grow_trans (below_drewN Hcc.out _) hl); obtain ⟨d0, d1, d2, d3, d4, df⟩ := box5 h2; have Hd := Lib.hid h2; clear h2 hl)
      | (go_at_call 36; refine (rword_any _ _).mono ?_; rintro e eew ⟨he, hl⟩; (try simp only [evV] at he); subst he; (first | have h2 := grow_trans Hd.out hl | have h2 := grow_trans Hd.out.drew hl | have h2 := grow_trans Hd.out.drew.drew hl | have h2 := grow_trans (below_drewN Hd.out _) hl); obtain ⟨ee0, ee1, ee2, ee3, ee4, eef⟩ := box5 h2; have Hee := Lib.hid h2; clear h2 hl))
  go_region_held3 (fun w' => w'.cell? ⟨w.heap.size, 0, none⟩ = some (.int .i64 7) ∧ w'.cell? ⟨w.heap.size, 1, none⟩ = some (.int .i64 c) ∧ w'.cell? ⟨w.heap.size, 2, none⟩ = some (.int .i64 0) ∧ w'.cell? ⟨w.heap.size, 3, none⟩ = some (.int .i64 0) ∧ w'.cell? ⟨w.heap.size, 4, none⟩ = some (.string ByteArray.empty)) (go_keep) (first
      | (go_at_call 110; refine (serveEv_any _ _).mono ?_; rintro e ffw ⟨he, hl⟩; (try simp only [evV] at he); subst he; (first | have h2 := grow_trans Hee.out hl | have h2 := grow_trans Hee.out.drew hl | have h2 := grow_trans Hee.out.drew.drew hl | have h2 := grow_trans (below_drewN Hee.out _) hl); obtain ⟨ff0, ff1, ff2, ff3, ff4, fff⟩ := box5 h2; have Hff := Lib.hid h2; clear h2 hl)
      | (go_at_call 37; refine (actlives_any _).mono ?_; rintro e gw ⟨he, hl⟩; (try simp only [evV] at he); subst he; (first | have h2 := grow_trans Hff.out hl | have h2 := grow_trans Hff.out.drew hl | have h2 := grow_trans Hff.out.drew.drew hl | have h2 := grow_trans (below_drewN Hff.out _) hl | have h2 := grow_trans Hee.out hl | have h2 := grow_trans Hee.out.drew hl | have h2 := grow_trans Hee.out.drew.drew hl | have h2 := grow_trans (below_drewN Hee.out _) hl); obtain ⟨g0, g1, g2, g3, g4, gf⟩ := box5 h2; have Hg := Lib.hid h2; clear h2 hl))
  all_goals go_wp2_with (first
      | (go_at_call 110; refine (serveEv_any _ _).mono ?_; rintro e ffw ⟨he, hl⟩; (try simp only [evV] at he); subst he; (first | have h2 := grow_trans Hee.out hl | have h2 := grow_trans Hee.out.drew hl | have h2 := grow_trans Hee.out.drew.drew hl | have h2 := grow_trans (below_drewN Hee.out _) hl); obtain ⟨ff0, ff1, ff2, ff3, ff4, fff⟩ := box5 h2; have Hff := Lib.hid h2; clear h2 hl)
      | (go_at_call 37; refine (actlives_any _).mono ?_; rintro e gw ⟨he, hl⟩; (try simp only [evV] at he); subst he; (first | have h2 := grow_trans Hff.out hl | have h2 := grow_trans Hff.out.drew hl | have h2 := grow_trans Hff.out.drew.drew hl | have h2 := grow_trans (below_drewN Hff.out _) hl | have h2 := grow_trans Hee.out hl | have h2 := grow_trans Hee.out.drew hl | have h2 := grow_trans Hee.out.drew.drew hl | have h2 := grow_trans (below_drewN Hee.out _) hl); obtain ⟨g0, g1, g2, g3, g4, gf⟩ := box5 h2; have Hg := Lib.hid h2; clear h2 hl))
  all_goals
    go_ret
    exact ⟨rfl, (below_new _ _).trans (Hg.out.mono (by simp))⟩


theorem no_long {op c o n : Int} {s : ByteArray} (h : (6000 : Int) < (s.size : Int)) : rightB op c o n (s.extract 0 6000) = false := by
  rw [rightB_eq]
  have hs : (s.extract 0 6000).size = 6000 := by rw [ByteArray.size_extract]; omega
  rw [hs]
  exact decide_eq_false (by omega)
theorem empty_of_size {s : ByteArray} (h : s.size = 0) : s = ⟨#[]⟩ := by
  apply ByteArray.ext
  exact Array.eq_empty_of_size_eq_zero h
theorem acttells_any (op c o n : Int) (s : ByteArray) (x : Int) (w : World) (hz : s.size ≤ 9223372036854775807) :
    Calls Try.prog 7 #[.agg #[.int .i64 op, .int .i64 c, .int .i64 o, .int .i64 n, .string s], .int .i64 x] w fun e w' => e = .returned (.bool true) ∧ Below w.heap.size w w' := by
  by_cases h : (6000 : Int) < (s.size : Int)
  · exact acttells_long op c o n s x w h hz (no_long h)
  · cases hr : rightB op c o n s
    · exact acttells_no op c o n s x w h hz hr
    · have hh := hr
      rw [rightB_eq, decide_eq_true_eq] at hh
      rcases ops7 hh.1.1.1 hh.1.1.2 with rfl | rfl | rfl | rfl | rfl | rfl | rfl
      · obtain rfl : o = 0 := by omega
        obtain rfl : n = 0 := by omega
        obtain rfl := empty_of_size (s := s) (by omega)
        exact acttells_1 1 c 0 0 ⟨#[]⟩ x w hr
      · obtain rfl : n = 0 := by omega
        exact acttells_2 2 c o 0 s x w h hz hr
      · obtain rfl : n = 0 := by omega
        obtain rfl := empty_of_size (s := s) (by omega)
        exact acttells_3 3 c o 0 ⟨#[]⟩ x w hr
      · obtain rfl := empty_of_size (s := s) (by omega)
        exact acttells_4 4 c o n ⟨#[]⟩ x w hr
      · obtain rfl := empty_of_size (s := s) (by omega)
        exact acttells_5 5 c o n ⟨#[]⟩ x w hr
      · obtain rfl : c = 0 := by omega
        obtain rfl : o = 0 := by omega
        obtain rfl := empty_of_size (s := s) (by omega)
        exact acttells_6 6 0 0 n ⟨#[]⟩ x w hr
      · obtain rfl : o = 0 := by omega
        obtain rfl : n = 0 := by omega
        obtain rfl := empty_of_size (s := s) (by omega)
        exact acttells_7 7 c 0 0 ⟨#[]⟩ x w hr
end Go.Proofs.Ytgbjndlaonalcaa
