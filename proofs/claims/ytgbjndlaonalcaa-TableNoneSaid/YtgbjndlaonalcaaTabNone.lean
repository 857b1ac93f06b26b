/-
  THE WALK of the law TableNone: a table and a pool that are none.
-/
import Derived.Test.YtgbjndlaonalcaaTabLives
import Derived.Lib.QuietBelow
namespace Go.Proofs.Ytgbjndlaonalcaa
open Go.RowKit Go.Sort Go.Proofs.Ytgbjndlaonalcaa.Tab

set_option maxHeartbeats 400000 in
theorem tput_none (w : World) (x : Int) : Calls Try.prog 64 #[.pointer none, .int .i64 x] w fun e w' => e = .returned (.tuple #[.int .i64 0, .bool false]) ∧ w = w' := by
  go_enter Try.func64, Try.ntmps64
  go_wp2_with (go_at_call 68; refine (troom_none _).mono ?_; rintro e w' ⟨rfl, rfl⟩)
  go_ret2
  exact ⟨rfl, rfl⟩
set_option maxHeartbeats 400000 in
theorem tdrop_none (w : World) (x : Int) : Calls Try.prog 53 #[.pointer none, .int .i64 x] w fun e w' => e = .returned (.bool false) ∧ Below w.heap.size w w' := by
  go_enter Try.func53, Try.ntmps53
  go_wp2_with (go_at_call 50; refine (tget_none _ _).mono ?_; rintro e w' ⟨rfl, hd⟩)
  go_ret
  exact ⟨rfl, hd.below _⟩
set_option maxHeartbeats 400000 in
theorem pput_none (w : World) (k x : Int) : Calls Try.prog 59 #[.pointer none, .int .i64 k, .int .i64 x] w fun e w' => (∃ v, e = .returned v) ∧ w = w' := by
  go_enter Try.func59, Try.ntmps59
  go_wp2
  go_returns
  exact ⟨⟨_, rfl⟩, rfl⟩
set_option maxHeartbeats 400000 in
theorem plen_none (w : World) : Calls Try.prog 63 #[.pointer none] w fun e w' => e = .returned (.int .i64 0) ∧ w = w' := by
  go_enter Try.func63, Try.ntmps63
  go_wp2
  go_ret
  exact ⟨rfl, rfl⟩
set_option maxHeartbeats 400000 in
theorem ptake_none (w : World) (k : Int) : Calls Try.prog 60 #[.pointer none, .int .i64 k] w fun e w' => e = .returned (.tuple #[.int .i64 0, .bool false]) ∧ Below w.heap.size w w' := by
  go_enter Try.func60, Try.ntmps60
  go_wp2_with (go_at_call 63; refine (plen_none _).mono ?_; rintro e w' ⟨rfl, rfl⟩)
  refine wp_loop_rounds 1 ?_
  rw [rounds_succ]
  go_wp2
  go_ret2
  exact ⟨rfl, Below.refl _ _⟩
set_option maxHeartbeats 400000 in
theorem pold_none (w : World) : Calls Try.prog 62 #[.pointer none] w fun e w' => e = .returned (.tuple #[.int .i64 0, .int .i64 0, .bool false]) ∧ Below w.heap.size w w' := by
  go_enter Try.func62, Try.ntmps62
  go_wp2_with (go_at_call 63; refine (plen_none _).mono ?_; rintro e w' ⟨rfl, rfl⟩)
  go_ret3
  exact ⟨rfl, Below.refl _ _⟩
set_option maxHeartbeats 400000 in
theorem tall_none (w : World) (f : Value) (Bt : Nat) (hbox : w.cell? ⟨Bt, 0, none⟩ = some (.pointer none)) : Calls Try.prog 85 #[f, .pointer (some ⟨Bt, 0, none⟩)] w fun e w' => (∃ v, e = .returned v) ∧ w = w' := by
  go_enter Try.func85, Try.ntmps85
  go_wp2
  go_returns
  exact ⟨⟨_, rfl⟩, rfl⟩

set_option maxRecDepth 100000 in
set_option maxHeartbeats 3200000 in
theorem tablenone_any (k x : Int) (w : World) :
    Calls Try.prog 14 #[.int .i64 k, .int .i64 x] w fun e w' => e = .returned (.bool true) ∧ Below w.heap.size w w' := by
  have hfn := all_some
  go_enter Try.func14, Try.ntmps14
  go_wp2_with fail
  refine (pput_none _ _ _).mono ?_
  rintro e w1 ⟨⟨v1, rfl⟩, rfl⟩
  go_wp2_with fail
  refine (tput_none _ _).mono ?_
  rintro e w2 ⟨rfl, rfl⟩
  go_wp2_with fail
  refine (tget_none _ _).mono ?_
  rintro e w3 ⟨rfl, hd3⟩
  have B3 := Lib.hid (hd3.below w.heap.size)
  clear hd3
  go_wp2_with fail
  refine (ptake_none _ _).mono ?_
  rintro e w4 ⟨rfl, hb4⟩
  have B4 := Lib.hid (grow_trans B3.out hb4)
  clear hb4
  go_wp2_with fail
  refine (pold_none _).mono ?_
  rintro e w5 ⟨rfl, hb5⟩
  have B5 := Lib.hid (grow_trans B4.out hb5)
  clear hb5
  go_wp2_with fail
  refine (all_new _ _).mono ?_
  rintro e w6 ⟨rfl, hw6⟩
  have hb6 : Below w.heap.size w w6 := by rw [← hw6]; exact (B5.out.alloc B5.out.size _).alloc (by have := B5.out.size; simp; omega) _
  have hk6 : Blk w6 w5.heap.size 3 #[.int .i64 0] := by rw [← hw6]; exact (Blk.new _ _ _).alloc _
  have hk7 : Blk w6 (w5.heap.size + 1) 75 #[.pointer none] := by
    rw [← hw6]
    have := Blk.new (w5.alloc (.cells #[.int .i64 0] 3)) 75 #[.pointer none]
    rwa [World.size_alloc] at this
  have B6 := Lib.hid hb6
  have K6 := Lib.hid hk6
  have K7 := Lib.hid hk7
  simp only [World.size_alloc]
  clear hw6 hb6 hk6 hk7
  go_wp2_with fail
  refine (tall_none _ _ _ (K7.out.cell 0)).mono ?_
  rintro e w7 ⟨⟨v7, rfl⟩, rfl⟩
  have c6 : w6.cell? ⟨w5.heap.size, 0, none⟩ = some (.int .i64 0) := K6.out.cell 0
  have q6 := cell_regrown c6
  have cD : ∀ d os, Calls Try.prog 53 #[.pointer none, .int .i64 k] (grow (redrawn w6 d) os) fun e w'' => e = .returned (.bool false) ∧ ∃ p : Regrown, w'' = grow (redrawn w6 p.d) p.os := fun d os => Calls.regrown_of (tdrop_none _ _)
  have cL : ∀ d os, Calls Try.prog 67 #[.pointer none] (grow (redrawn w6 d) os) fun e w'' => e = .returned (.int .i64 0) ∧ ∃ p : Regrown, w'' = grow (redrawn w6 p.d) p.os := fun d os => Calls.regrown_of ((tlen_none _).mono fun _ _ ⟨he, hw⟩ => ⟨he, by subst hw; exact Below.refl _ _⟩)
  have cR : ∀ d os, Calls Try.prog 68 #[.pointer none] (grow (redrawn w6 d) os) fun e w'' => e = .returned (.int .i64 0) ∧ ∃ p : Regrown, w'' = grow (redrawn w6 p.d) p.os := fun d os => Calls.regrown_of ((troom_none _).mono fun _ _ ⟨he, hw⟩ => ⟨he, by subst hw; exact Below.refl _ _⟩)
  have cP : ∀ d os, Calls Try.prog 63 #[.pointer none] (grow (redrawn w6 d) os) fun e w'' => e = .returned (.int .i64 0) ∧ ∃ p : Regrown, w'' = grow (redrawn w6 p.d) p.os := fun d os => Calls.regrown_of ((plen_none _).mono fun _ _ ⟨he, hw⟩ => ⟨he, by subst hw; exact Below.refl _ _⟩)
  have cV : ∀ d os, Calls Try.prog 47 #[] (grow (redrawn w6 d) os) fun e w'' => e = .returned (.bool true) ∧ ∃ p : Regrown, w'' = grow (redrawn w6 p.d) p.os := fun d os => Calls.regrown_of (tablives_any _)
  go_wp2_with fail
  refine wp_region_quiet_below (by kernel_rfl) (by kernel_rfl) ?_
  repeat (quiet_step (first | exact cD _ _ | exact cL _ _ | exact cR _ _ | exact cP _ _ | exact cV _ _))
  refine wpQuiet_nil ?_
  intro _ hw'
  obtain ⟨⟨dq, osq⟩, hw''⟩ := hw'
  subst hw''
  go_wp2
  go_ret
  exact ⟨rfl, B6.out.trans ((below_regrown w6 dq osq).mono B6.out.size)⟩
end Go.Proofs.Ytgbjndlaonalcaa
