/-
  THE WALK of the law ActAsserts.
-/
import Derived.Test.YtgbjndlaonalcaaActSent
import Derived.Test.YtgbjndlaonalcaaActTellsLaw
import Derived.Lib.QuietBelow
namespace Go.Proofs.Ytgbjndlaonalcaa
open Go.RowKit Go.Sort Go.Proofs.Ytgbjndlaonalcaa.Act

theorem box3 {w w1 : World} {v0 v1 v2 : Value} {T : TypeId} (h : Below (w.alloc (.cells #[v0, v1, v2] T)).heap.size (w.alloc (.cells #[v0, v1, v2] T)) w1) :
    w1.cell? ⟨w.heap.size, 0, none⟩ = some v0 ∧ w1.cell? ⟨w.heap.size, 1, none⟩ = some v1 ∧ w1.cell? ⟨w.heap.size, 2, none⟩ = some v2 ∧ ∀ j, w1.frozen? ⟨w.heap.size, j, none⟩ = false :=
  ⟨box_cell (box_at h) 0, box_cell (box_at h) 1, box_cell (box_at h) 2, box_free (box_at h)⟩

set_option maxRecDepth 100000 in
set_option maxHeartbeats 6400000 in
theorem actasserts_no (op c o n : Int) (s : ByteArray) (w : World) (h : ¬ (6000 : Int) < (s.size : Int)) (hz : s.size ≤ 9223372036854775807) (hr : rightB op c o n s = false) :
    Calls Try.prog 12 #[.agg #[.int .i64 op, .int .i64 c, .int .i64 o, .int .i64 n, .string s]] w fun e w' => e = .returned (.bool true) ∧ Below w.heap.size w w' := by
  have HR := Lib.hid hr
  clear hr
  go_enter Try.func12, Try.ntmps12
  go_wp2_with (first
      | (go_at_call 32; refine (of_no HR.out _).mono ?_; rintro e aw ⟨he, hl⟩; subst he; have h1a := hl; obtain ⟨h1ax0, h1ax1, h1ax2, h1ax3, h1ax4, h1af⟩ := box5 h1a; have H1a := Lib.hid h1a; clear hl h1a)
      | (go_at_call 55; refine (sent_nil  _).mono ?_; rintro e bw ⟨he, hl⟩; subst he; have h1b := grow_trans (H1a.out) hl; obtain ⟨h1bx0, h1bx1, h1bx2, h1bx3, h1bx4, h1bf⟩ := box5 h1b; have H1b := Lib.hid h1b; clear hl h1b)
      | (go_at_call 56; refine (tried_nil  _).mono ?_; rintro e cw ⟨he, hl⟩; subst he; have h5c := hl; obtain ⟨h5cx0, h5cx1, h5cx2, h5cf⟩ := box3 h5c; have h1c := grow_trans (H1b.out.alloc H1b.out.size _) hl; obtain ⟨h1cx0, h1cx1, h1cx2, h1cx3, h1cx4, h1cf⟩ := box5 h1c; have H5c := Lib.hid h5c; have H1c := Lib.hid h1c; clear hl h5c h1c)
      | (go_at_call 57; refine (conn_nil  _).mono ?_; rintro e dw ⟨he, hl⟩; subst he; have h7d := hl; obtain ⟨h7dx0, h7dx1, h7dx2, h7df⟩ := box3 h7d; have h5d := grow_trans (H5c.out.alloc H5c.out.size _) hl; obtain ⟨h5dx0, h5dx1, h5dx2, h5df⟩ := box3 h5d; have h1d := grow_trans (H1c.out.alloc H1c.out.size _) hl; obtain ⟨h1dx0, h1dx1, h1dx2, h1dx3, h1dx4, h1df⟩ := box5 h1d; have H7d := Lib.hid h7d; have H5d := Lib.hid h5d; have H1d := Lib.hid h1d; have nd : ¬ w.heap.size = dw.heap.size := fun e => World.new_ne _ _ h1dx0 e.symm; have kd0 := fun (ob : Obj) => (World.cell?_alloc_old (w := dw) (o := ob) (a := ⟨w.heap.size, 0, none⟩) nd).trans h1dx0; have kd1 := fun (ob : Obj) => (World.cell?_alloc_old (w := dw) (o := ob) (a := ⟨w.heap.size, 1, none⟩) nd).trans h1dx1; have kd2 := fun (ob : Obj) => (World.cell?_alloc_old (w := dw) (o := ob) (a := ⟨w.heap.size, 2, none⟩) nd).trans h1dx2; have kd3 := fun (ob : Obj) => (World.cell?_alloc_old (w := dw) (o := ob) (a := ⟨w.heap.size, 3, none⟩) nd).trans h1dx3; have kd4 := fun (ob : Obj) => (World.cell?_alloc_old (w := dw) (o := ob) (a := ⟨w.heap.size, 4, none⟩) nd).trans h1dx4; clear hl h7d h5d h1d)
      | (go_at_call 33; refine (rright_is HR.out _).mono ?_; rintro e ew ⟨he, hl⟩; subst he; have h9e := hl; obtain ⟨h9ex0, h9ex1, h9ef⟩ := box2 h9e; have h7e := grow_trans (H7d.out.alloc H7d.out.size _) hl; obtain ⟨h7ex0, h7ex1, h7ex2, h7ef⟩ := box3 h7e; have h5e := grow_trans (H5d.out.alloc H5d.out.size _) hl; obtain ⟨h5ex0, h5ex1, h5ex2, h5ef⟩ := box3 h5e; have h1e := grow_trans (H1d.out.alloc H1d.out.size _) hl; obtain ⟨h1ex0, h1ex1, h1ex2, h1ex3, h1ex4, h1ef⟩ := box5 h1e; have H9e := Lib.hid h9e; have H7e := Lib.hid h7e; have H5e := Lib.hid h5e; have H1e := Lib.hid h1e; clear hl h9e h7e h5e h1e))
  go_quiet (fail)
  go_wp2_with (go_at_call 37; refine (actlives_any _).mono ?_; rintro e gw ⟨he, hl⟩; subst he; have h1g := grow_trans (below_drewN H1e.out nq) hl; have H1g := Lib.hid h1g; clear hl h1g)
  go_ret
  exact ⟨rfl, (below_new _ _).trans (H1g.out.mono (by simp))⟩

set_option maxRecDepth 100000 in
set_option maxHeartbeats 6400000 in
theorem actasserts_long (op c o n : Int) (s : ByteArray) (w : World) (h : (6000 : Int) < (s.size : Int)) (hz : s.size ≤ 9223372036854775807) (hr : rightB op c o n (s.extract 0 6000) = false) :
    Calls Try.prog 12 #[.agg #[.int .i64 op, .int .i64 c, .int .i64 o, .int .i64 n, .string s]] w fun e w' => e = .returned (.bool true) ∧ Below w.heap.size w w' := by
  have HR := Lib.hid hr
  clear hr
  go_enter Try.func12, Try.ntmps12
  go_wp2_with (first
      | (go_at_call 32; refine (of_no HR.out _).mono ?_; rintro e aw ⟨he, hl⟩; subst he; have h1a := hl; obtain ⟨h1ax0, h1ax1, h1ax2, h1ax3, h1ax4, h1af⟩ := box5 h1a; have H1a := Lib.hid h1a; clear hl h1a)
      | (go_at_call 55; refine (sent_nil  _).mono ?_; rintro e bw ⟨he, hl⟩; subst he; have h1b := grow_trans (H1a.out) hl; obtain ⟨h1bx0, h1bx1, h1bx2, h1bx3, h1bx4, h1bf⟩ := box5 h1b; have H1b := Lib.hid h1b; clear hl h1b)
      | (go_at_call 56; refine (tried_nil  _).mono ?_; rintro e cw ⟨he, hl⟩; subst he; have h5c := hl; obtain ⟨h5cx0, h5cx1, h5cx2, h5cf⟩ := box3 h5c; have h1c := grow_trans (H1b.out.alloc H1b.out.size _) hl; obtain ⟨h1cx0, h1cx1, h1cx2, h1cx3, h1cx4, h1cf⟩ := box5 h1c; have H5c := Lib.hid h5c; have H1c := Lib.hid h1c; clear hl h5c h1c)
      | (go_at_call 57; refine (conn_nil  _).mono ?_; rintro e dw ⟨he, hl⟩; subst he; have h7d := hl; obtain ⟨h7dx0, h7dx1, h7dx2, h7df⟩ := box3 h7d; have h5d := grow_trans (H5c.out.alloc H5c.out.size _) hl; obtain ⟨h5dx0, h5dx1, h5dx2, h5df⟩ := box3 h5d; have h1d := grow_trans (H1c.out.alloc H1c.out.size _) hl; obtain ⟨h1dx0, h1dx1, h1dx2, h1dx3, h1dx4, h1df⟩ := box5 h1d; have H7d := Lib.hid h7d; have H5d := Lib.hid h5d; have H1d := Lib.hid h1d; have nd : ¬ w.heap.size = dw.heap.size := fun e => World.new_ne _ _ h1dx0 e.symm; have kd0 := fun (ob : Obj) => (World.cell?_alloc_old (w := dw) (o := ob) (a := ⟨w.heap.size, 0, none⟩) nd).trans h1dx0; have kd1 := fun (ob : Obj) => (World.cell?_alloc_old (w := dw) (o := ob) (a := ⟨w.heap.size, 1, none⟩) nd).trans h1dx1; have kd2 := fun (ob : Obj) => (World.cell?_alloc_old (w := dw) (o := ob) (a := ⟨w.heap.size, 2, none⟩) nd).trans h1dx2; have kd3 := fun (ob : Obj) => (World.cell?_alloc_old (w := dw) (o := ob) (a := ⟨w.heap.size, 3, none⟩) nd).trans h1dx3; have kd4 := fun (ob : Obj) => (World.cell?_alloc_old (w := dw) (o := ob) (a := ⟨w.heap.size, 4, none⟩) nd).trans h1dx4; clear hl h7d h5d h1d)
      | (go_at_call 33; refine (rright_is HR.out _).mono ?_; rintro e ew ⟨he, hl⟩; subst he; have h9e := hl; obtain ⟨h9ex0, h9ex1, h9ef⟩ := box2 h9e; have h7e := grow_trans (H7d.out.alloc H7d.out.size _) hl; obtain ⟨h7ex0, h7ex1, h7ex2, h7ef⟩ := box3 h7e; have h5e := grow_trans (H5d.out.alloc H5d.out.size _) hl; obtain ⟨h5ex0, h5ex1, h5ex2, h5ef⟩ := box3 h5e; have h1e := grow_trans (H1d.out.alloc H1d.out.size _) hl; obtain ⟨h1ex0, h1ex1, h1ex2, h1ex3, h1ex4, h1ef⟩ := box5 h1e; have H9e := Lib.hid h9e; have H7e := Lib.hid h7e; have H5e := Lib.hid h5e; have H1e := Lib.hid h1e; clear hl h9e h7e h5e h1e))
  go_quiet (fail)
  go_wp2_with (go_at_call 37; refine (actlives_any _).mono ?_; rintro e gw ⟨he, hl⟩; subst he; have h1g := grow_trans (below_drewN H1e.out nq) hl; have H1g := Lib.hid h1g; clear hl h1g)
  go_ret
  exact ⟨rfl, (below_new _ _).trans (H1g.out.mono (by simp))⟩

set_option maxRecDepth 100000 in
set_option maxHeartbeats 6400000 in
theorem actasserts_1 (op c o n : Int) (s : ByteArray) (w : World) (hr : rightB 1 c 0 0 ⟨#[]⟩ = true) :
    Calls Try.prog 12 #[.agg #[.int .i64 1, .int .i64 c, .int .i64 0, .int .i64 0, .string ⟨#[]⟩]] w fun e w' => e = .returned (.bool true) ∧ Below w.heap.size w w' := by
  have HR := Lib.hid hr
  have HV := Lib.hid (show ofV 1 c 0 0 ⟨#[]⟩ = .iface 58 (.agg #[.int .i64 c]) by unfold ofV; rw [if_pos hr]; rfl)
  clear hr
  go_enter Try.func12, Try.ntmps12
  go_wp2_with (first
      | (go_at_call 32; refine (of_ok HR.out HV.out _).mono ?_; rintro e aw ⟨he, hl⟩; subst he; have h1a := hl; obtain ⟨h1ax0, h1ax1, h1ax2, h1ax3, h1ax4, h1af⟩ := box5 h1a; have H1a := Lib.hid h1a; clear hl h1a)
      | (go_at_call 55; refine (sent_Open c _).mono ?_; rintro e bw ⟨he, hl⟩; subst he; have h1b := grow_trans (H1a.out) hl; obtain ⟨h1bx0, h1bx1, h1bx2, h1bx3, h1bx4, h1bf⟩ := box5 h1b; have H1b := Lib.hid h1b; clear hl h1b)
      | (go_at_call 56; refine (tried_Open c _).mono ?_; rintro e cw ⟨he, hl⟩; subst he; have h5c := hl; obtain ⟨h5cx0, h5cx1, h5cx2, h5cf⟩ := box3 h5c; have h1c := grow_trans (H1b.out.alloc H1b.out.size _) hl; obtain ⟨h1cx0, h1cx1, h1cx2, h1cx3, h1cx4, h1cf⟩ := box5 h1c; have H5c := Lib.hid h5c; have H1c := Lib.hid h1c; clear hl h5c h1c)
      | (go_at_call 57; refine (conn_Open c _).mono ?_; rintro e dw ⟨he, hl⟩; subst he; have h7d := hl; obtain ⟨h7dx0, h7dx1, h7dx2, h7df⟩ := box3 h7d; have h5d := grow_trans (H5c.out.alloc H5c.out.size _) hl; obtain ⟨h5dx0, h5dx1, h5dx2, h5df⟩ := box3 h5d; have h1d := grow_trans (H1c.out.alloc H1c.out.size _) hl; obtain ⟨h1dx0, h1dx1, h1dx2, h1dx3, h1dx4, h1df⟩ := box5 h1d; have H7d := Lib.hid h7d; have H5d := Lib.hid h5d; have H1d := Lib.hid h1d; have nd : ¬ w.heap.size = dw.heap.size := fun e => World.new_ne _ _ h1dx0 e.symm; have kd0 := fun (ob : Obj) => (World.cell?_alloc_old (w := dw) (o := ob) (a := ⟨w.heap.size, 0, none⟩) nd).trans h1dx0; have kd1 := fun (ob : Obj) => (World.cell?_alloc_old (w := dw) (o := ob) (a := ⟨w.heap.size, 1, none⟩) nd).trans h1dx1; have kd2 := fun (ob : Obj) => (World.cell?_alloc_old (w := dw) (o := ob) (a := ⟨w.heap.size, 2, none⟩) nd).trans h1dx2; have kd3 := fun (ob : Obj) => (World.cell?_alloc_old (w := dw) (o := ob) (a := ⟨w.heap.size, 3, none⟩) nd).trans h1dx3; have kd4 := fun (ob : Obj) => (World.cell?_alloc_old (w := dw) (o := ob) (a := ⟨w.heap.size, 4, none⟩) nd).trans h1dx4; clear hl h7d h5d h1d)
      | (go_at_call 33; refine (rright_is HR.out _).mono ?_; rintro e ew ⟨he, hl⟩; subst he; have h9e := hl; obtain ⟨h9ex0, h9ex1, h9ef⟩ := box2 h9e; have h7e := grow_trans (H7d.out.alloc H7d.out.size _) hl; obtain ⟨h7ex0, h7ex1, h7ex2, h7ef⟩ := box3 h7e; have h5e := grow_trans (H5d.out.alloc H5d.out.size _) hl; obtain ⟨h5ex0, h5ex1, h5ex2, h5ef⟩ := box3 h5e; have h1e := grow_trans (H1d.out.alloc H1d.out.size _) hl; obtain ⟨h1ex0, h1ex1, h1ex2, h1ex3, h1ex4, h1ef⟩ := box5 h1e; have H9e := Lib.hid h9e; have H7e := Lib.hid h7e; have H5e := Lib.hid h5e; have H1e := Lib.hid h1e; clear hl h9e h7e h5e h1e))
  go_quiet (fail)
  go_wp2_with (go_at_call 37; refine (actlives_any _).mono ?_; rintro e gw ⟨he, hl⟩; subst he; have h1g := grow_trans (below_drewN H1e.out nq) hl; have H1g := Lib.hid h1g; clear hl h1g)
  go_ret
  exact ⟨rfl, (below_new _ _).trans (H1g.out.mono (by simp))⟩

set_option maxRecDepth 100000 in
set_option maxHeartbeats 6400000 in
theorem actasserts_2 (op c o n : Int) (s : ByteArray) (w : World) (h : ¬ (6000 : Int) < (s.size : Int)) (hz : s.size ≤ 9223372036854775807) (hr : rightB 2 c o 0 s = true) :
    Calls Try.prog 12 #[.agg #[.int .i64 2, .int .i64 c, .int .i64 o, .int .i64 0, .string s]] w fun e w' => e = .returned (.bool true) ∧ Below w.heap.size w w' := by
  have HR := Lib.hid hr
  have HV := Lib.hid (show ofV 2 c o 0 s = .iface 60 (.agg #[.int .i64 c, .int .i64 o, .string s]) by unfold ofV; rw [if_pos hr]; rfl)
  clear hr
  go_enter Try.func12, Try.ntmps12
  go_wp2_with (first
      | (go_at_call 32; refine (of_ok HR.out HV.out _).mono ?_; rintro e aw ⟨he, hl⟩; subst he; have h1a := hl; obtain ⟨h1ax0, h1ax1, h1ax2, h1ax3, h1ax4, h1af⟩ := box5 h1a; have H1a := Lib.hid h1a; clear hl h1a)
      | (go_at_call 55; refine (sent_Send c o s _).mono ?_; rintro e bw ⟨he, hl⟩; subst he; have h1b := grow_trans (H1a.out) hl; obtain ⟨h1bx0, h1bx1, h1bx2, h1bx3, h1bx4, h1bf⟩ := box5 h1b; have H1b := Lib.hid h1b; clear hl h1b)
      | (go_at_call 56; refine (tried_Send c o s _).mono ?_; rintro e cw ⟨he, hl⟩; subst he; have h5c := hl; obtain ⟨h5cx0, h5cx1, h5cx2, h5cf⟩ := box3 h5c; have h1c := grow_trans (H1b.out.alloc H1b.out.size _) hl; obtain ⟨h1cx0, h1cx1, h1cx2, h1cx3, h1cx4, h1cf⟩ := box5 h1c; have H5c := Lib.hid h5c; have H1c := Lib.hid h1c; clear hl h5c h1c)
      | (go_at_call 57; refine (conn_Send c o s _).mono ?_; rintro e dw ⟨he, hl⟩; subst he; have h7d := hl; obtain ⟨h7dx0, h7dx1, h7dx2, h7df⟩ := box3 h7d; have h5d := grow_trans (H5c.out.alloc H5c.out.size _) hl; obtain ⟨h5dx0, h5dx1, h5dx2, h5df⟩ := box3 h5d; have h1d := grow_trans (H1c.out.alloc H1c.out.size _) hl; obtain ⟨h1dx0, h1dx1, h1dx2, h1dx3, h1dx4, h1df⟩ := box5 h1d; have H7d := Lib.hid h7d; have H5d := Lib.hid h5d; have H1d := Lib.hid h1d; have nd : ¬ w.heap.size = dw.heap.size := fun e => World.new_ne _ _ h1dx0 e.symm; have kd0 := fun (ob : Obj) => (World.cell?_alloc_old (w := dw) (o := ob) (a := ⟨w.heap.size, 0, none⟩) nd).trans h1dx0; have kd1 := fun (ob : Obj) => (World.cell?_alloc_old (w := dw) (o := ob) (a := ⟨w.heap.size, 1, none⟩) nd).trans h1dx1; have kd2 := fun (ob : Obj) => (World.cell?_alloc_old (w := dw) (o := ob) (a := ⟨w.heap.size, 2, none⟩) nd).trans h1dx2; have kd3 := fun (ob : Obj) => (World.cell?_alloc_old (w := dw) (o := ob) (a := ⟨w.heap.size, 3, none⟩) nd).trans h1dx3; have kd4 := fun (ob : Obj) => (World.cell?_alloc_old (w := dw) (o := ob) (a := ⟨w.heap.size, 4, none⟩) nd).trans h1dx4; clear hl h7d h5d h1d)
      | (go_at_call 33; refine (rright_is HR.out _).mono ?_; rintro e ew ⟨he, hl⟩; subst he; have h9e := hl; obtain ⟨h9ex0, h9ex1, h9ef⟩ := box2 h9e; have h7e := grow_trans (H7d.out.alloc H7d.out.size _) hl; obtain ⟨h7ex0, h7ex1, h7ex2, h7ef⟩ := box3 h7e; have h5e := grow_trans (H5d.out.alloc H5d.out.size _) hl; obtain ⟨h5ex0, h5ex1, h5ex2, h5ef⟩ := box3 h5e; have h1e := grow_trans (H1d.out.alloc H1d.out.size _) hl; obtain ⟨h1ex0, h1ex1, h1ex2, h1ex3, h1ex4, h1ef⟩ := box5 h1e; have H9e := Lib.hid h9e; have H7e := Lib.hid h7e; have H5e := Lib.hid h5e; have H1e := Lib.hid h1e; clear hl h9e h7e h5e h1e))
  have q_h1ex0 := cell_regrown h1ex0
  have q_h1ex1 := cell_regrown h1ex1
  have q_h1ex2 := cell_regrown h1ex2
  have q_h1ex3 := cell_regrown h1ex3
  have q_h1ex4 := cell_regrown h1ex4
  have q_h5ex0 := cell_regrown h5ex0
  have q_h5ex1 := cell_regrown h5ex1
  have q_h5ex2 := cell_regrown h5ex2
  have q_h7ex0 := cell_regrown h7ex0
  have q_h7ex1 := cell_regrown h7ex1
  have q_h7ex2 := cell_regrown h7ex2
  have q_h9ex0 := cell_regrown h9ex0
  have q_h9ex1 := cell_regrown h9ex1
  have cM : ∀ d os, Calls Try.prog 58 #[.iface 60 (.agg #[.int .i64 c, .int .i64 o, .string s])] (grow (redrawn ew d) os) fun e w'' => e = .returned (.agg #[.int .i64 c, .int .i64 o, .string s]) ∧ ∃ p : Regrown, w'' = grow (redrawn ew p.d) p.os := fun d os => Calls.regrown_of (mustat_Send c o s _)
  refine wp_region_quiet_below (by kernel_rfl) (by kernel_rfl) ?_
  repeat (quiet_step (exact cM _ _))
  refine wpQuiet_nil ?_
  intro _ hw'
  obtain ⟨⟨dq, osq⟩, hw''⟩ := hw'
  subst hw''
  go_wp2_with (go_at_call 37; refine (actlives_any _).mono ?_; rintro e gw ⟨he, hl⟩; subst he; have h1g := grow_trans (grow_trans H1e.out (below_regrown ew dq osq)) hl; have H1g := Lib.hid h1g; clear hl h1g)
  go_ret
  exact ⟨rfl, (below_new _ _).trans (H1g.out.mono (by simp))⟩

set_option maxRecDepth 100000 in
set_option maxHeartbeats 6400000 in
theorem actasserts_3 (op c o n : Int) (s : ByteArray) (w : World) (hr : rightB 3 c o 0 ⟨#[]⟩ = true) :
    Calls Try.prog 12 #[.agg #[.int .i64 3, .int .i64 c, .int .i64 o, .int .i64 0, .string ⟨#[]⟩]] w fun e w' => e = .returned (.bool true) ∧ Below w.heap.size w w' := by
  have HR := Lib.hid hr
  have HV := Lib.hid (show ofV 3 c o 0 ⟨#[]⟩ = .iface 62 (.agg #[.int .i64 c, .int .i64 o]) by unfold ofV; rw [if_pos hr]; rfl)
  clear hr
  go_enter Try.func12, Try.ntmps12
  go_wp2_with (first
      | (go_at_call 32; refine (of_ok HR.out HV.out _).mono ?_; rintro e aw ⟨he, hl⟩; subst he; have h1a := hl; obtain ⟨h1ax0, h1ax1, h1ax2, h1ax3, h1ax4, h1af⟩ := box5 h1a; have H1a := Lib.hid h1a; clear hl h1a)
      | (go_at_call 55; refine (sent_End c o _).mono ?_; rintro e bw ⟨he, hl⟩; subst he; have h1b := grow_trans (H1a.out) hl; obtain ⟨h1bx0, h1bx1, h1bx2, h1bx3, h1bx4, h1bf⟩ := box5 h1b; have H1b := Lib.hid h1b; clear hl h1b)
      | (go_at_call 56; refine (tried_End c o _).mono ?_; rintro e cw ⟨he, hl⟩; subst he; have h5c := hl; obtain ⟨h5cx0, h5cx1, h5cx2, h5cf⟩ := box3 h5c; have h1c := grow_trans (H1b.out.alloc H1b.out.size _) hl; obtain ⟨h1cx0, h1cx1, h1cx2, h1cx3, h1cx4, h1cf⟩ := box5 h1c; have H5c := Lib.hid h5c; have H1c := Lib.hid h1c; clear hl h5c h1c)
      | (go_at_call 57; refine (conn_End c o _).mono ?_; rintro e dw ⟨he, hl⟩; subst he; have h7d := hl; obtain ⟨h7dx0, h7dx1, h7dx2, h7df⟩ := box3 h7d; have h5d := grow_trans (H5c.out.alloc H5c.out.size _) hl; obtain ⟨h5dx0, h5dx1, h5dx2, h5df⟩ := box3 h5d; have h1d := grow_trans (H1c.out.alloc H1c.out.size _) hl; obtain ⟨h1dx0, h1dx1, h1dx2, h1dx3, h1dx4, h1df⟩ := box5 h1d; have H7d := Lib.hid h7d; have H5d := Lib.hid h5d; have H1d := Lib.hid h1d; have nd : ¬ w.heap.size = dw.heap.size := fun e => World.new_ne _ _ h1dx0 e.symm; have kd0 := fun (ob : Obj) => (World.cell?_alloc_old (w := dw) (o := ob) (a := ⟨w.heap.size, 0, none⟩) nd).trans h1dx0; have kd1 := fun (ob : Obj) => (World.cell?_alloc_old (w := dw) (o := ob) (a := ⟨w.heap.size, 1, none⟩) nd).trans h1dx1; have kd2 := fun (ob : Obj) => (World.cell?_alloc_old (w := dw) (o := ob) (a := ⟨w.heap.size, 2, none⟩) nd).trans h1dx2; have kd3 := fun (ob : Obj) => (World.cell?_alloc_old (w := dw) (o := ob) (a := ⟨w.heap.size, 3, none⟩) nd).trans h1dx3; have kd4 := fun (ob : Obj) => (World.cell?_alloc_old (w := dw) (o := ob) (a := ⟨w.heap.size, 4, none⟩) nd).trans h1dx4; clear hl h7d h5d h1d)
      | (go_at_call 33; refine (rright_is HR.out _).mono ?_; rintro e ew ⟨he, hl⟩; subst he; have h9e := hl; obtain ⟨h9ex0, h9ex1, h9ef⟩ := box2 h9e; have h7e := grow_trans (H7d.out.alloc H7d.out.size _) hl; obtain ⟨h7ex0, h7ex1, h7ex2, h7ef⟩ := box3 h7e; have h5e := grow_trans (H5d.out.alloc H5d.out.size _) hl; obtain ⟨h5ex0, h5ex1, h5ex2, h5ef⟩ := box3 h5e; have h1e := grow_trans (H1d.out.alloc H1d.out.size _) hl; obtain ⟨h1ex0, h1ex1, h1ex2, h1ex3, h1ex4, h1ef⟩ := box5 h1e; have H9e := Lib.hid h9e; have H7e := Lib.hid h7e; have H5e := Lib.hid h5e; have H1e := Lib.hid h1e; clear hl h9e h7e h5e h1e))
  go_quiet (fail)
  go_wp2_with (go_at_call 37; refine (actlives_any _).mono ?_; rintro e gw ⟨he, hl⟩; subst he; have h1g := grow_trans (below_drewN H1e.out nq) hl; have H1g := Lib.hid h1g; clear hl h1g)
  go_ret
  exact ⟨rfl, (below_new _ _).trans (H1g.out.mono (by simp))⟩

set_option maxRecDepth 100000 in
set_option maxHeartbeats 6400000 in
theorem actasserts_4 (op c o n : Int) (s : ByteArray) (w : World) (hr : rightB 4 c o n ⟨#[]⟩ = true) :
    Calls Try.prog 12 #[.agg #[.int .i64 4, .int .i64 c, .int .i64 o, .int .i64 n, .string ⟨#[]⟩]] w fun e w' => e = .returned (.bool true) ∧ Below w.heap.size w w' := by
  have HR := Lib.hid hr
  have HV := Lib.hid (show ofV 4 c o n ⟨#[]⟩ = .iface 64 (.agg #[.int .i64 c, .int .i64 o, .int .i64 n]) by unfold ofV; rw [if_pos hr]; rfl)
  clear hr
  go_enter Try.func12, Try.ntmps12
  go_wp2_with (first
      | (go_at_call 32; refine (of_ok HR.out HV.out _).mono ?_; rintro e aw ⟨he, hl⟩; subst he; have h1a := hl; obtain ⟨h1ax0, h1ax1, h1ax2, h1ax3, h1ax4, h1af⟩ := box5 h1a; have H1a := Lib.hid h1a; clear hl h1a)
      | (go_at_call 55; refine (sent_Read c o n _).mono ?_; rintro e bw ⟨he, hl⟩; subst he; have h1b := grow_trans (H1a.out) hl; obtain ⟨h1bx0, h1bx1, h1bx2, h1bx3, h1bx4, h1bf⟩ := box5 h1b; have H1b := Lib.hid h1b; clear hl h1b)
      | (go_at_call 56; refine (tried_Read c o n _).mono ?_; rintro e cw ⟨he, hl⟩; subst he; have h5c := hl; obtain ⟨h5cx0, h5cx1, h5cx2, h5cf⟩ := box3 h5c; have h1c := grow_trans (H1b.out.alloc H1b.out.size _) hl; obtain ⟨h1cx0, h1cx1, h1cx2, h1cx3, h1cx4, h1cf⟩ := box5 h1c; have H5c := Lib.hid h5c; have H1c := Lib.hid h1c; clear hl h5c h1c)
      | (go_at_call 57; refine (conn_Read c o n _).mono ?_; rintro e dw ⟨he, hl⟩; subst he; have h7d := hl; obtain ⟨h7dx0, h7dx1, h7dx2, h7df⟩ := box3 h7d; have h5d := grow_trans (H5c.out.alloc H5c.out.size _) hl; obtain ⟨h5dx0, h5dx1, h5dx2, h5df⟩ := box3 h5d; have h1d := grow_trans (H1c.out.alloc H1c.out.size _) hl; obtain ⟨h1dx0, h1dx1, h1dx2, h1dx3, h1dx4, h1df⟩ := box5 h1d; have H7d := Lib.hid h7d; have H5d := Lib.hid h5d; have H1d := Lib.hid h1d; have nd : ¬ w.heap.size = dw.heap.size := fun e => World.new_ne _ _ h1dx0 e.symm; have kd0 := fun (ob : Obj) => (World.cell?_alloc_old (w := dw) (o := ob) (a := ⟨w.heap.size, 0, none⟩) nd).trans h1dx0; have kd1 := fun (ob : Obj) => (World.cell?_alloc_old (w := dw) (o := ob) (a := ⟨w.heap.size, 1, none⟩) nd).trans h1dx1; have kd2 := fun (ob : Obj) => (World.cell?_alloc_old (w := dw) (o := ob) (a := ⟨w.heap.size, 2, none⟩) nd).trans h1dx2; have kd3 := fun (ob : Obj) => (World.cell?_alloc_old (w := dw) (o := ob) (a := ⟨w.heap.size, 3, none⟩) nd).trans h1dx3; have kd4 := fun (ob : Obj) => (World.cell?_alloc_old (w := dw) (o := ob) (a := ⟨w.heap.size, 4, none⟩) nd).trans h1dx4; clear hl h7d h5d h1d)
      | (go_at_call 33; refine (rright_is HR.out _).mono ?_; rintro e ew ⟨he, hl⟩; subst he; have h9e := hl; obtain ⟨h9ex0, h9ex1, h9ef⟩ := box2 h9e; have h7e := grow_trans (H7d.out.alloc H7d.out.size _) hl; obtain ⟨h7ex0, h7ex1, h7ex2, h7ef⟩ := box3 h7e; have h5e := grow_trans (H5d.out.alloc H5d.out.size _) hl; obtain ⟨h5ex0, h5ex1, h5ex2, h5ef⟩ := box3 h5e; have h1e := grow_trans (H1d.out.alloc H1d.out.size _) hl; obtain ⟨h1ex0, h1ex1, h1ex2, h1ex3, h1ex4, h1ef⟩ := box5 h1e; have H9e := Lib.hid h9e; have H7e := Lib.hid h7e; have H5e := Lib.hid h5e; have H1e := Lib.hid h1e; clear hl h9e h7e h5e h1e))
  go_quiet (fail)
  go_wp2_with (go_at_call 37; refine (actlives_any _).mono ?_; rintro e gw ⟨he, hl⟩; subst he; have h1g := grow_trans (below_drewN H1e.out nq) hl; have H1g := Lib.hid h1g; clear hl h1g)
  go_ret
  exact ⟨rfl, (below_new _ _).trans (H1g.out.mono (by simp))⟩

set_option maxRecDepth 100000 in
set_option maxHeartbeats 6400000 in
theorem actasserts_5 (op c o n : Int) (s : ByteArray) (w : World) (hr : rightB 5 c o n ⟨#[]⟩ = true) :
    Calls Try.prog 12 #[.agg #[.int .i64 5, .int .i64 c, .int .i64 o, .int .i64 n, .string ⟨#[]⟩]] w fun e w' => e = .returned (.bool true) ∧ Below w.heap.size w w' := by
  have HR := Lib.hid hr
  have HV := Lib.hid (show ofV 5 c o n ⟨#[]⟩ = .iface 65 (.agg #[.int .i64 c, .int .i64 o, .int .i64 n]) by unfold ofV; rw [if_pos hr]; rfl)
  clear hr
  go_enter Try.func12, Try.ntmps12
  go_wp2_with (first
      | (go_at_call 32; refine (of_ok HR.out HV.out _).mono ?_; rintro e aw ⟨he, hl⟩; subst he; have h1a := hl; obtain ⟨h1ax0, h1ax1, h1ax2, h1ax3, h1ax4, h1af⟩ := box5 h1a; have H1a := Lib.hid h1a; clear hl h1a)
      | (go_at_call 55; refine (sent_Grant c o n _).mono ?_; rintro e bw ⟨he, hl⟩; subst he; have h1b := grow_trans (H1a.out) hl; obtain ⟨h1bx0, h1bx1, h1bx2, h1bx3, h1bx4, h1bf⟩ := box5 h1b; have H1b := Lib.hid h1b; clear hl h1b)
      | (go_at_call 56; refine (tried_Grant c o n _).mono ?_; rintro e cw ⟨he, hl⟩; subst he; have h5c := hl; obtain ⟨h5cx0, h5cx1, h5cx2, h5cf⟩ := box3 h5c; have h1c := grow_trans (H1b.out.alloc H1b.out.size _) hl; obtain ⟨h1cx0, h1cx1, h1cx2, h1cx3, h1cx4, h1cf⟩ := box5 h1c; have H5c := Lib.hid h5c; have H1c := Lib.hid h1c; clear hl h5c h1c)
      | (go_at_call 57; refine (conn_Grant c o n _).mono ?_; rintro e dw ⟨he, hl⟩; subst he; have h7d := hl; obtain ⟨h7dx0, h7dx1, h7dx2, h7df⟩ := box3 h7d; have h5d := grow_trans (H5c.out.alloc H5c.out.size _) hl; obtain ⟨h5dx0, h5dx1, h5dx2, h5df⟩ := box3 h5d; have h1d := grow_trans (H1c.out.alloc H1c.out.size _) hl; obtain ⟨h1dx0, h1dx1, h1dx2, h1dx3, h1dx4, h1df⟩ := box5 h1d; have H7d := Lib.hid h7d; have H5d := Lib.hid h5d; have H1d := Lib.hid h1d; have nd : ¬ w.heap.size = dw.heap.size := fun e => World.new_ne _ _ h1dx0 e.symm; have kd0 := fun (ob : Obj) => (World.cell?_alloc_old (w := dw) (o := ob) (a := ⟨w.heap.size, 0, none⟩) nd).trans h1dx0; have kd1 := fun (ob : Obj) => (World.cell?_alloc_old (w := dw) (o := ob) (a := ⟨w.heap.size, 1, none⟩) nd).trans h1dx1; have kd2 := fun (ob : Obj) => (World.cell?_alloc_old (w := dw) (o := ob) (a := ⟨w.heap.size, 2, none⟩) nd).trans h1dx2; have kd3 := fun (ob : Obj) => (World.cell?_alloc_old (w := dw) (o := ob) (a := ⟨w.heap.size, 3, none⟩) nd).trans h1dx3; have kd4 := fun (ob : Obj) => (World.cell?_alloc_old (w := dw) (o := ob) (a := ⟨w.heap.size, 4, none⟩) nd).trans h1dx4; clear hl h7d h5d h1d)
      | (go_at_call 33; refine (rright_is HR.out _).mono ?_; rintro e ew ⟨he, hl⟩; subst he; have h9e := hl; obtain ⟨h9ex0, h9ex1, h9ef⟩ := box2 h9e; have h7e := grow_trans (H7d.out.alloc H7d.out.size _) hl; obtain ⟨h7ex0, h7ex1, h7ex2, h7ef⟩ := box3 h7e; have h5e := grow_trans (H5d.out.alloc H5d.out.size _) hl; obtain ⟨h5ex0, h5ex1, h5ex2, h5ef⟩ := box3 h5e; have h1e := grow_trans (H1d.out.alloc H1d.out.size _) hl; obtain ⟨h1ex0, h1ex1, h1ex2, h1ex3, h1ex4, h1ef⟩ := box5 h1e; have H9e := Lib.hid h9e; have H7e := Lib.hid h7e; have H5e := Lib.hid h5e; have H1e := Lib.hid h1e; clear hl h9e h7e h5e h1e))
  go_quiet (fail)
  go_wp2_with (go_at_call 37; refine (actlives_any _).mono ?_; rintro e gw ⟨he, hl⟩; subst he; have h1g := grow_trans (below_drewN H1e.out nq) hl; have H1g := Lib.hid h1g; clear hl h1g)
  go_ret
  exact ⟨rfl, (below_new _ _).trans (H1g.out.mono (by simp))⟩

set_option maxRecDepth 100000 in
set_option maxHeartbeats 6400000 in
theorem actasserts_6 (op c o n : Int) (s : ByteArray) (w : World) (hr : rightB 6 0 0 n ⟨#[]⟩ = true) :
    Calls Try.prog 12 #[.agg #[.int .i64 6, .int .i64 0, .int .i64 0, .int .i64 n, .string ⟨#[]⟩]] w fun e w' => e = .returned (.bool true) ∧ Below w.heap.size w w' := by
  have HR := Lib.hid hr
  have HV := Lib.hid (show ofV 6 0 0 n ⟨#[]⟩ = .iface 67 (.agg #[.int .i64 n]) by unfold ofV; rw [if_pos hr]; rfl)
  clear hr
  go_enter Try.func12, Try.ntmps12
  go_wp2_with (first
      | (go_at_call 32; refine (of_ok HR.out HV.out _).mono ?_; rintro e aw ⟨he, hl⟩; subst he; have h1a := hl; obtain ⟨h1ax0, h1ax1, h1ax2, h1ax3, h1ax4, h1af⟩ := box5 h1a; have H1a := Lib.hid h1a; clear hl h1a)
      | (go_at_call 55; refine (sent_Tick n _).mono ?_; rintro e bw ⟨he, hl⟩; subst he; have h1b := grow_trans (H1a.out) hl; obtain ⟨h1bx0, h1bx1, h1bx2, h1bx3, h1bx4, h1bf⟩ := box5 h1b; have H1b := Lib.hid h1b; clear hl h1b)
      | (go_at_call 56; refine (tried_Tick n _).mono ?_; rintro e cw ⟨he, hl⟩; subst he; have h5c := hl; obtain ⟨h5cx0, h5cx1, h5cx2, h5cf⟩ := box3 h5c; have h1c := grow_trans (H1b.out.alloc H1b.out.size _) hl; obtain ⟨h1cx0, h1cx1, h1cx2, h1cx3, h1cx4, h1cf⟩ := box5 h1c; have H5c := Lib.hid h5c; have H1c := Lib.hid h1c; clear hl h5c h1c)
      | (go_at_call 57; refine (conn_Tick n _).mono ?_; rintro e dw ⟨he, hl⟩; subst he; have h7d := hl; obtain ⟨h7dx0, h7dx1, h7dx2, h7df⟩ := box3 h7d; have h5d := grow_trans (H5c.out.alloc H5c.out.size _) hl; obtain ⟨h5dx0, h5dx1, h5dx2, h5df⟩ := box3 h5d; have h1d := grow_trans (H1c.out.alloc H1c.out.size _) hl; obtain ⟨h1dx0, h1dx1, h1dx2, h1dx3, h1dx4, h1df⟩ := box5 h1d; have H7d := Lib.hid h7d; have H5d := Lib.hid h5d; have H1d := Lib.hid h1d; have nd : ¬ w.heap.size = dw.heap.size := fun e => World.new_ne _ _ h1dx0 e.symm; have kd0 := fun (ob : Obj) => (World.cell?_alloc_old (w := dw) (o := ob) (a := ⟨w.heap.size, 0, none⟩) nd).trans h1dx0; have kd1 := fun (ob : Obj) => (World.cell?_alloc_old (w := dw) (o := ob) (a := ⟨w.heap.size, 1, none⟩) nd).trans h1dx1; have kd2 := fun (ob : Obj) => (World.cell?_alloc_old (w := dw) (o := ob) (a := ⟨w.heap.size, 2, none⟩) nd).trans h1dx2; have kd3 := fun (ob : Obj) => (World.cell?_alloc_old (w := dw) (o := ob) (a := ⟨w.heap.size, 3, none⟩) nd).trans h1dx3; have kd4 := fun (ob : Obj) => (World.cell?_alloc_old (w := dw) (o := ob) (a := ⟨w.heap.size, 4, none⟩) nd).trans h1dx4; clear hl h7d h5d h1d)
      | (go_at_call 33; refine (rright_is HR.out _).mono ?_; rintro e ew ⟨he, hl⟩; subst he; have h9e := hl; obtain ⟨h9ex0, h9ex1, h9ef⟩ := box2 h9e; have h7e := grow_trans (H7d.out.alloc H7d.out.size _) hl; obtain ⟨h7ex0, h7ex1, h7ex2, h7ef⟩ := box3 h7e; have h5e := grow_trans (H5d.out.alloc H5d.out.size _) hl; obtain ⟨h5ex0, h5ex1, h5ex2, h5ef⟩ := box3 h5e; have h1e := grow_trans (H1d.out.alloc H1d.out.size _) hl; obtain ⟨h1ex0, h1ex1, h1ex2, h1ex3, h1ex4, h1ef⟩ := box5 h1e; have H9e := Lib.hid h9e; have H7e := Lib.hid h7e; have H5e := Lib.hid h5e; have H1e := Lib.hid h1e; clear hl h9e h7e h5e h1e))
  go_quiet (fail)
  go_wp2_with (go_at_call 37; refine (actlives_any _).mono ?_; rintro e gw ⟨he, hl⟩; subst he; have h1g := grow_trans (below_drewN H1e.out nq) hl; have H1g := Lib.hid h1g; clear hl h1g)
  go_ret
  exact ⟨rfl, (below_new _ _).trans (H1g.out.mono (by simp))⟩

set_option maxRecDepth 100000 in
set_option maxHeartbeats 6400000 in
theorem actasserts_7 (op c o n : Int) (s : ByteArray) (w : World) (hr : rightB 7 c 0 0 ⟨#[]⟩ = true) :
    Calls Try.prog 12 #[.agg #[.int .i64 7, .int .i64 c, .int .i64 0, .int .i64 0, .string ⟨#[]⟩]] w fun e w' => e = .returned (.bool true) ∧ Below w.heap.size w w' := by
  have HR := Lib.hid hr
  have HV := Lib.hid (show ofV 7 c 0 0 ⟨#[]⟩ = .iface 68 (.agg #[.int .i64 c]) by unfold ofV; rw [if_pos hr]; rfl)
  clear hr
  go_enter Try.func12, Try.ntmps12
  go_wp2_with (first
      | (go_at_call 32; refine (of_ok HR.out HV.out _).mono ?_; rintro e aw ⟨he, hl⟩; subst he; have h1a := hl; obtain ⟨h1ax0, h1ax1, h1ax2, h1ax3, h1ax4, h1af⟩ := box5 h1a; have H1a := Lib.hid h1a; clear hl h1a)
      | (go_at_call 55; refine (sent_Serve c _).mono ?_; rintro e bw ⟨he, hl⟩; subst he; have h1b := grow_trans (H1a.out) hl; obtain ⟨h1bx0, h1bx1, h1bx2, h1bx3, h1bx4, h1bf⟩ := box5 h1b; have H1b := Lib.hid h1b; clear hl h1b)
      | (go_at_call 56; refine (tried_Serve c _).mono ?_; rintro e cw ⟨he, hl⟩; subst he; have h5c := hl; obtain ⟨h5cx0, h5cx1, h5cx2, h5cf⟩ := box3 h5c; have h1c := grow_trans (H1b.out.alloc H1b.out.size _) hl; obtain ⟨h1cx0, h1cx1, h1cx2, h1cx3, h1cx4, h1cf⟩ := box5 h1c; have H5c := Lib.hid h5c; have H1c := Lib.hid h1c; clear hl h5c h1c)
      | (go_at_call 57; refine (conn_Serve c _).mono ?_; rintro e dw ⟨he, hl⟩; subst he; have h7d := hl; obtain ⟨h7dx0, h7dx1, h7dx2, h7df⟩ := box3 h7d; have h5d := grow_trans (H5c.out.alloc H5c.out.size _) hl; obtain ⟨h5dx0, h5dx1, h5dx2, h5df⟩ := box3 h5d; have h1d := grow_trans (H1c.out.alloc H1c.out.size _) hl; obtain ⟨h1dx0, h1dx1, h1dx2, h1dx3, h1dx4, h1df⟩ := box5 h1d; have H7d := Lib.hid h7d; have H5d := Lib.hid h5d; have H1d := Lib.hid h1d; have nd : ¬ w.heap.size = dw.heap.size := fun e => World.new_ne _ _ h1dx0 e.symm; have kd0 := fun (ob : Obj) => (World.cell?_alloc_old (w := dw) (o := ob) (a := ⟨w.heap.size, 0, none⟩) nd).trans h1dx0; have kd1 := fun (ob : Obj) => (World.cell?_alloc_old (w := dw) (o := ob) (a := ⟨w.heap.size, 1, none⟩) nd).trans h1dx1; have kd2 := fun (ob : Obj) => (World.cell?_alloc_old (w := dw) (o := ob) (a := ⟨w.heap.size, 2, none⟩) nd).trans h1dx2; have kd3 := fun (ob : Obj) => (World.cell?_alloc_old (w := dw) (o := ob) (a := ⟨w.heap.size, 3, none⟩) nd).trans h1dx3; have kd4 := fun (ob : Obj) => (World.cell?_alloc_old (w := dw) (o := ob) (a := ⟨w.heap.size, 4, none⟩) nd).trans h1dx4; clear hl h7d h5d h1d)
      | (go_at_call 33; refine (rright_is HR.out _).mono ?_; rintro e ew ⟨he, hl⟩; subst he; have h9e := hl; obtain ⟨h9ex0, h9ex1, h9ef⟩ := box2 h9e; have h7e := grow_trans (H7d.out.alloc H7d.out.size _) hl; obtain ⟨h7ex0, h7ex1, h7ex2, h7ef⟩ := box3 h7e; have h5e := grow_trans (H5d.out.alloc H5d.out.size _) hl; obtain ⟨h5ex0, h5ex1, h5ex2, h5ef⟩ := box3 h5e; have h1e := grow_trans (H1d.out.alloc H1d.out.size _) hl; obtain ⟨h1ex0, h1ex1, h1ex2, h1ex3, h1ex4, h1ef⟩ := box5 h1e; have H9e := Lib.hid h9e; have H7e := Lib.hid h7e; have H5e := Lib.hid h5e; have H1e := Lib.hid h1e; clear hl h9e h7e h5e h1e))
  go_quiet (fail)
  go_wp2_with (go_at_call 37; refine (actlives_any _).mono ?_; rintro e gw ⟨he, hl⟩; subst he; have h1g := grow_trans (below_drewN H1e.out nq) hl; have H1g := Lib.hid h1g; clear hl h1g)
  go_ret
  exact ⟨rfl, (below_new _ _).trans (H1g.out.mono (by simp))⟩

theorem actasserts_any (op c o n : Int) (s : ByteArray) (w : World) (hz : s.size ≤ 9223372036854775807) :
    Calls Try.prog 12 #[.agg #[.int .i64 op, .int .i64 c, .int .i64 o, .int .i64 n, .string s]] w fun e w' => e = .returned (.bool true) ∧ Below w.heap.size w w' := by
  by_cases h : (6000 : Int) < (s.size : Int)
  · exact actasserts_long op c o n s w h hz (no_long h)
  · cases hr : rightB op c o n s
    · exact actasserts_no op c o n s w h hz hr
    · have hh := hr
      rw [rightB_eq, decide_eq_true_eq] at hh
      rcases ops7 hh.1.1.1 hh.1.1.2 with rfl | rfl | rfl | rfl | rfl | rfl | rfl
      · obtain rfl : o = 0 := by omega
        obtain rfl : n = 0 := by omega
        obtain rfl := empty_of_size (s := s) (by omega)
        exact actasserts_1 1 c 0 0 ⟨#[]⟩ w hr
      · obtain rfl : n = 0 := by omega
        exact actasserts_2 2 c o 0 s w h hz hr
      · obtain rfl : n = 0 := by omega
        obtain rfl := empty_of_size (s := s) (by omega)
        exact actasserts_3 3 c o 0 ⟨#[]⟩ w hr
      · obtain rfl := empty_of_size (s := s) (by omega)
        exact actasserts_4 4 c o n ⟨#[]⟩ w hr
      · obtain rfl := empty_of_size (s := s) (by omega)
        exact actasserts_5 5 c o n ⟨#[]⟩ w hr
      · obtain rfl : c = 0 := by omega
        obtain rfl : o = 0 := by omega
        obtain rfl := empty_of_size (s := s) (by omega)
        exact actasserts_6 6 0 0 n ⟨#[]⟩ w hr
      · obtain rfl : o = 0 := by omega
        obtain rfl : n = 0 := by omega
        obtain rfl := empty_of_size (s := s) (by omega)
        exact actasserts_7 7 c 0 0 ⟨#[]⟩ w hr

end Go.Proofs.Ytgbjndlaonalcaa
