/-
  THE WALKS of act.Sent, Must, Conn and Tried, at each step and at none.
-/
import Derived.Test.YtgbjndlaonalcaaActOf
import Derived.Defers
import Derived.Recover
import Derived.Laws.Pointers
namespace Go.Proofs.Ytgbjndlaonalcaa
open Go.RowKit Go.Proofs.Ytgbjndlaonalcaa.Act

/-- What the walk wants to know of a connection's box. -/
theorem box2 {w w1 : World} {v0 v1 : Value} {T : TypeId} (h : Below (w.alloc (.cells #[v0, v1] T)).heap.size (w.alloc (.cells #[v0, v1] T)) w1) :
    w1.cell? ⟨w.heap.size, 0, none⟩ = some v0 ∧ w1.cell? ⟨w.heap.size, 1, none⟩ = some v1 ∧ ∀ j, w1.frozen? ⟨w.heap.size, j, none⟩ = false :=
  ⟨box_cell (box_at h) 0, box_cell (box_at h) 1, box_free (box_at h)⟩
theorem as_Send_nil (w : World) : (Instr.typeAssert .nilIface 50 60 true).run Try.prog w = .ok (.tuple #[.agg #[.int .i64 0, .int .i64 0, .string ⟨#[]⟩], .bool false]) w := by kernel_rfl
theorem as_Send_Open (v : Value) (w : World) : (Instr.typeAssert (.iface 58 v) 50 60 true).run Try.prog w = .ok (.tuple #[.agg #[.int .i64 0, .int .i64 0, .string ⟨#[]⟩], .bool false]) w := by kernel_rfl
theorem as_Send_Send (v : Value) (w : World) : (Instr.typeAssert (.iface 60 v) 50 60 true).run Try.prog w = .ok (.tuple #[v, .bool true]) w := by kernel_rfl
theorem as_Send_End (v : Value) (w : World) : (Instr.typeAssert (.iface 62 v) 50 60 true).run Try.prog w = .ok (.tuple #[.agg #[.int .i64 0, .int .i64 0, .string ⟨#[]⟩], .bool false]) w := by kernel_rfl
theorem as_Send_Read (v : Value) (w : World) : (Instr.typeAssert (.iface 64 v) 50 60 true).run Try.prog w = .ok (.tuple #[.agg #[.int .i64 0, .int .i64 0, .string ⟨#[]⟩], .bool false]) w := by kernel_rfl
theorem as_Send_Grant (v : Value) (w : World) : (Instr.typeAssert (.iface 65 v) 50 60 true).run Try.prog w = .ok (.tuple #[.agg #[.int .i64 0, .int .i64 0, .string ⟨#[]⟩], .bool false]) w := by kernel_rfl
theorem as_Send_Tick (v : Value) (w : World) : (Instr.typeAssert (.iface 67 v) 50 60 true).run Try.prog w = .ok (.tuple #[.agg #[.int .i64 0, .int .i64 0, .string ⟨#[]⟩], .bool false]) w := by kernel_rfl
theorem as_Send_Serve (v : Value) (w : World) : (Instr.typeAssert (.iface 68 v) 50 60 true).run Try.prog w = .ok (.tuple #[.agg #[.int .i64 0, .int .i64 0, .string ⟨#[]⟩], .bool false]) w := by kernel_rfl
theorem as_End_nil (w : World) : (Instr.typeAssert .nilIface 50 62 true).run Try.prog w = .ok (.tuple #[.agg #[.int .i64 0, .int .i64 0], .bool false]) w := by kernel_rfl
theorem as_End_Open (v : Value) (w : World) : (Instr.typeAssert (.iface 58 v) 50 62 true).run Try.prog w = .ok (.tuple #[.agg #[.int .i64 0, .int .i64 0], .bool false]) w := by kernel_rfl
theorem as_End_Send (v : Value) (w : World) : (Instr.typeAssert (.iface 60 v) 50 62 true).run Try.prog w = .ok (.tuple #[.agg #[.int .i64 0, .int .i64 0], .bool false]) w := by kernel_rfl
theorem as_End_End (v : Value) (w : World) : (Instr.typeAssert (.iface 62 v) 50 62 true).run Try.prog w = .ok (.tuple #[v, .bool true]) w := by kernel_rfl
theorem as_End_Read (v : Value) (w : World) : (Instr.typeAssert (.iface 64 v) 50 62 true).run Try.prog w = .ok (.tuple #[.agg #[.int .i64 0, .int .i64 0], .bool false]) w := by kernel_rfl
theorem as_End_Grant (v : Value) (w : World) : (Instr.typeAssert (.iface 65 v) 50 62 true).run Try.prog w = .ok (.tuple #[.agg #[.int .i64 0, .int .i64 0], .bool false]) w := by kernel_rfl
theorem as_End_Tick (v : Value) (w : World) : (Instr.typeAssert (.iface 67 v) 50 62 true).run Try.prog w = .ok (.tuple #[.agg #[.int .i64 0, .int .i64 0], .bool false]) w := by kernel_rfl
theorem as_End_Serve (v : Value) (w : World) : (Instr.typeAssert (.iface 68 v) 50 62 true).run Try.prog w = .ok (.tuple #[.agg #[.int .i64 0, .int .i64 0], .bool false]) w := by kernel_rfl
theorem as_Tick_nil (w : World) : (Instr.typeAssert .nilIface 50 67 true).run Try.prog w = .ok (.tuple #[.agg #[.int .i64 0], .bool false]) w := by kernel_rfl
theorem as_Tick_Open (v : Value) (w : World) : (Instr.typeAssert (.iface 58 v) 50 67 true).run Try.prog w = .ok (.tuple #[.agg #[.int .i64 0], .bool false]) w := by kernel_rfl
theorem as_Tick_Send (v : Value) (w : World) : (Instr.typeAssert (.iface 60 v) 50 67 true).run Try.prog w = .ok (.tuple #[.agg #[.int .i64 0], .bool false]) w := by kernel_rfl
theorem as_Tick_End (v : Value) (w : World) : (Instr.typeAssert (.iface 62 v) 50 67 true).run Try.prog w = .ok (.tuple #[.agg #[.int .i64 0], .bool false]) w := by kernel_rfl
theorem as_Tick_Read (v : Value) (w : World) : (Instr.typeAssert (.iface 64 v) 50 67 true).run Try.prog w = .ok (.tuple #[.agg #[.int .i64 0], .bool false]) w := by kernel_rfl
theorem as_Tick_Grant (v : Value) (w : World) : (Instr.typeAssert (.iface 65 v) 50 67 true).run Try.prog w = .ok (.tuple #[.agg #[.int .i64 0], .bool false]) w := by kernel_rfl
theorem as_Tick_Tick (v : Value) (w : World) : (Instr.typeAssert (.iface 67 v) 50 67 true).run Try.prog w = .ok (.tuple #[v, .bool true]) w := by kernel_rfl
theorem as_Tick_Serve (v : Value) (w : World) : (Instr.typeAssert (.iface 68 v) 50 67 true).run Try.prog w = .ok (.tuple #[.agg #[.int .i64 0], .bool false]) w := by kernel_rfl
theorem field_conn (a b c d e : Value) (w : World) : (Instr.field 48 (.agg #[a, b, c, d, e]) 1).run Try.prog w = .ok (.agg #[b, c]) w := by kernel_rfl
theorem must_yes (v : Value) (w : World) : (Instr.typeAssert (.iface 60 v) 50 60 false).run Try.prog w = .ok v w := by kernel_rfl

set_option maxRecDepth 100000 in
theorem tae (w : World) : Sem.run Try.prog (elemOf 15) w = .ok 138 w := by kernel_rfl
set_option maxRecDepth 100000 in
theorem must_no (t : TypeId) (v : Value) (w : World) (h : t ≠ 60) : ∃ o u, (Instr.typeAssert (.iface t v) 50 60 false).run Try.prog w = .halt (.panic (.iface u (.pointer (some ⟨w.heap.size, 0, none⟩)))) (w.alloc o) := by
  simp only [Instr.typeAssert]
  simp [run_underlying Try.underlying60, runtimePanic, goPanic, go_sem, tae, h]
  exact ⟨_, rfl⟩
set_option maxRecDepth 100000 in
theorem must_nil (w : World) : ∃ o u, (Instr.typeAssert .nilIface 50 60 false).run Try.prog w = .halt (.panic (.iface u (.pointer (some ⟨w.heap.size, 0, none⟩)))) (w.alloc o) := by
  simp only [Instr.typeAssert]
  simp [run_underlying Try.underlying60, runtimePanic, goPanic, go_sem, tae]
  exact ⟨_, rfl⟩

set_option maxRecDepth 100000 in
set_option maxHeartbeats 1600000 in
theorem sent_nil  (w : World) :
    Calls Try.prog 55 #[.nilIface] w fun e w' => e = .returned (.tuple #[(.agg #[.int .i64 0, .int .i64 0, .string ⟨#[]⟩]), .bool false]) ∧ Below w.heap.size w w' := by
  have A1 := as_Send_nil
  go_enter Try.func55, Try.ntmps55
  go_wp2
  go_returns
  exact ⟨rfl, (by repeat (first | exact Below.refl _ _ | refine Below.setCell ?_ (by simp) _ | refine Below.alloc ?_ (by first | exact Nat.le_refl _ | (simp; done) | (simp; omega)) _ | refine grow_trans ?_ (by assumption)))⟩

set_option maxRecDepth 100000 in
set_option maxHeartbeats 1600000 in
theorem conn_nil  (w : World) :
    Calls Try.prog 57 #[.nilIface] w fun e w' => e = .returned (.tuple #[(.agg #[.int .i64 0, .int .i64 0]), .bool false]) ∧ Below w.heap.size w w' := by
  have A1 := as_Send_nil
  have A2 := as_End_nil
  have A3 := as_Tick_nil
  have A4 := field_conn
  go_enter Try.func57, Try.ntmps57
  go_wp2
  go_returns
  refine ⟨rfl, ?_⟩
  exact (by repeat (first | exact Below.refl _ _ | refine Below.setCell ?_ (by simp) _ | refine Below.alloc ?_ (by first | exact Nat.le_refl _ | (simp; done) | (simp; omega)) _ | refine grow_trans ?_ (by assumption)))

set_option maxRecDepth 100000 in
set_option maxHeartbeats 1600000 in
theorem sent_Open (c : Int) (w : World) :
    Calls Try.prog 55 #[(.iface 58 (.agg #[.int .i64 c]))] w fun e w' => e = .returned (.tuple #[(.agg #[.int .i64 0, .int .i64 0, .string ⟨#[]⟩]), .bool false]) ∧ Below w.heap.size w w' := by
  have A1 := as_Send_Open
  go_enter Try.func55, Try.ntmps55
  go_wp2
  go_returns
  exact ⟨rfl, (by repeat (first | exact Below.refl _ _ | refine Below.setCell ?_ (by simp) _ | refine Below.alloc ?_ (by first | exact Nat.le_refl _ | (simp; done) | (simp; omega)) _ | refine grow_trans ?_ (by assumption)))⟩

set_option maxRecDepth 100000 in
set_option maxHeartbeats 1600000 in
theorem conn_Open (c : Int) (w : World) :
    Calls Try.prog 57 #[(.iface 58 (.agg #[.int .i64 c]))] w fun e w' => e = .returned (.tuple #[(.agg #[.int .i64 c, .int .i64 0]), .bool true]) ∧ Below w.heap.size w w' := by
  have A1 := as_Send_Open
  have A2 := as_End_Open
  have A3 := as_Tick_Open
  have A4 := field_conn
  go_enter Try.func57, Try.ntmps57
  go_wp2_with (go_at_call 104; refine (openEv_any _ _).mono ?_; rintro e w1 ⟨he, hl⟩; (simp only [evV] at he); subst he; obtain ⟨p0, p1, pf⟩ := box2 hl; have H1 := Lib.hid hl; clear hl)
  refine bodyPost_ret (by simp [results, Try.results57, go_sem, p0, p1, pf]; try rfl) rfl ?_
  refine ⟨rfl, ?_⟩
  exact (((below_new _ _).trans (H1.out.mono (by simp))).setCell (Nat.le_refl _) _).setCell (Nat.le_refl _) _

set_option maxRecDepth 100000 in
set_option maxHeartbeats 1600000 in
theorem sent_Send (c o : Int) (s : ByteArray) (w : World) :
    Calls Try.prog 55 #[(.iface 60 (.agg #[.int .i64 c, .int .i64 o, .string s]))] w fun e w' => e = .returned (.tuple #[(.agg #[.int .i64 c, .int .i64 o, .string s]), .bool true]) ∧ Below w.heap.size w w' := by
  have A1 := as_Send_Send
  go_enter Try.func55, Try.ntmps55
  go_wp2
  go_returns
  exact ⟨rfl, (by repeat (first | exact Below.refl _ _ | refine Below.setCell ?_ (by simp) _ | refine Below.alloc ?_ (by first | exact Nat.le_refl _ | (simp; done) | (simp; omega)) _ | refine grow_trans ?_ (by assumption)))⟩

set_option maxRecDepth 100000 in
set_option maxHeartbeats 1600000 in
theorem conn_Send (c o : Int) (s : ByteArray) (w : World) :
    Calls Try.prog 57 #[(.iface 60 (.agg #[.int .i64 c, .int .i64 o, .string s]))] w fun e w' => e = .returned (.tuple #[(.agg #[.int .i64 c, .int .i64 o]), .bool true]) ∧ Below w.heap.size w w' := by
  have A1 := as_Send_Send
  have A2 := as_End_Send
  have A3 := as_Tick_Send
  have A4 := field_conn
  go_enter Try.func57, Try.ntmps57
  go_wp2_with (go_at_call 105; refine (sendEv_any _ _ _ _).mono ?_; rintro e w1 ⟨he, hl⟩; (simp only [evV] at he); subst he; obtain ⟨p0, p1, pf⟩ := box2 hl; have H1 := Lib.hid hl; clear hl)
  go_returns
  refine ⟨rfl, ?_⟩
  exact (by repeat (first | exact Below.refl _ _ | refine Below.setCell ?_ (by simp) _ | refine Below.alloc ?_ (by first | exact Nat.le_refl _ | (simp; done) | (simp; omega)) _ | refine grow_trans ?_ (by assumption)))

set_option maxRecDepth 100000 in
set_option maxHeartbeats 1600000 in
theorem sent_End (c o : Int) (w : World) :
    Calls Try.prog 55 #[(.iface 62 (.agg #[.int .i64 c, .int .i64 o]))] w fun e w' => e = .returned (.tuple #[(.agg #[.int .i64 0, .int .i64 0, .string ⟨#[]⟩]), .bool false]) ∧ Below w.heap.size w w' := by
  have A1 := as_Send_End
  go_enter Try.func55, Try.ntmps55
  go_wp2
  go_returns
  exact ⟨rfl, (by repeat (first | exact Below.refl _ _ | refine Below.setCell ?_ (by simp) _ | refine Below.alloc ?_ (by first | exact Nat.le_refl _ | (simp; done) | (simp; omega)) _ | refine grow_trans ?_ (by assumption)))⟩

set_option maxRecDepth 100000 in
set_option maxHeartbeats 1600000 in
theorem conn_End (c o : Int) (w : World) :
    Calls Try.prog 57 #[(.iface 62 (.agg #[.int .i64 c, .int .i64 o]))] w fun e w' => e = .returned (.tuple #[(.agg #[.int .i64 c, .int .i64 o]), .bool true]) ∧ Below w.heap.size w w' := by
  have A1 := as_Send_End
  have A2 := as_End_End
  have A3 := as_Tick_End
  have A4 := field_conn
  go_enter Try.func57, Try.ntmps57
  go_wp2_with (go_at_call 106; refine (endEv_any _ _ _).mono ?_; rintro e w1 ⟨he, hl⟩; (simp only [evV] at he); subst he; obtain ⟨p0, p1, pf⟩ := box2 hl; have H1 := Lib.hid hl; clear hl)
  go_returns
  refine ⟨rfl, ?_⟩
  exact (by repeat (first | exact Below.refl _ _ | refine Below.setCell ?_ (by simp) _ | refine Below.alloc ?_ (by first | exact Nat.le_refl _ | (simp; done) | (simp; omega)) _ | refine grow_trans ?_ (by assumption)))

set_option maxRecDepth 100000 in
set_option maxHeartbeats 1600000 in
theorem sent_Read (c o n : Int) (w : World) :
    Calls Try.prog 55 #[(.iface 64 (.agg #[.int .i64 c, .int .i64 o, .int .i64 n]))] w fun e w' => e = .returned (.tuple #[(.agg #[.int .i64 0, .int .i64 0, .string ⟨#[]⟩]), .bool false]) ∧ Below w.heap.size w w' := by
  have A1 := as_Send_Read
  go_enter Try.func55, Try.ntmps55
  go_wp2
  go_returns
  exact ⟨rfl, (by repeat (first | exact Below.refl _ _ | refine Below.setCell ?_ (by simp) _ | refine Below.alloc ?_ (by first | exact Nat.le_refl _ | (simp; done) | (simp; omega)) _ | refine grow_trans ?_ (by assumption)))⟩

set_option maxRecDepth 100000 in
set_option maxHeartbeats 1600000 in
theorem conn_Read (c o n : Int) (w : World) :
    Calls Try.prog 57 #[(.iface 64 (.agg #[.int .i64 c, .int .i64 o, .int .i64 n]))] w fun e w' => e = .returned (.tuple #[(.agg #[.int .i64 c, .int .i64 o]), .bool true]) ∧ Below w.heap.size w w' := by
  have A1 := as_Send_Read
  have A2 := as_End_Read
  have A3 := as_Tick_Read
  have A4 := field_conn
  go_enter Try.func57, Try.ntmps57
  go_wp2_with (go_at_call 107; refine (readEv_any _ _ _ _).mono ?_; rintro e w1 ⟨he, hl⟩; (simp only [evV] at he); subst he; obtain ⟨p0, p1, pf⟩ := box2 hl; have H1 := Lib.hid hl; clear hl)
  refine bodyPost_ret (by simp [results, Try.results57, go_sem, p0, p1, pf]; try rfl) rfl ?_
  refine ⟨rfl, ?_⟩
  exact (((below_new _ _).trans (H1.out.mono (by simp))).setCell (Nat.le_refl _) _).setCell (Nat.le_refl _) _

set_option maxRecDepth 100000 in
set_option maxHeartbeats 1600000 in
theorem sent_Grant (c o n : Int) (w : World) :
    Calls Try.prog 55 #[(.iface 65 (.agg #[.int .i64 c, .int .i64 o, .int .i64 n]))] w fun e w' => e = .returned (.tuple #[(.agg #[.int .i64 0, .int .i64 0, .string ⟨#[]⟩]), .bool false]) ∧ Below w.heap.size w w' := by
  have A1 := as_Send_Grant
  go_enter Try.func55, Try.ntmps55
  go_wp2
  go_returns
  exact ⟨rfl, (by repeat (first | exact Below.refl _ _ | refine Below.setCell ?_ (by simp) _ | refine Below.alloc ?_ (by first | exact Nat.le_refl _ | (simp; done) | (simp; omega)) _ | refine grow_trans ?_ (by assumption)))⟩

set_option maxRecDepth 100000 in
set_option maxHeartbeats 1600000 in
theorem conn_Grant (c o n : Int) (w : World) :
    Calls Try.prog 57 #[(.iface 65 (.agg #[.int .i64 c, .int .i64 o, .int .i64 n]))] w fun e w' => e = .returned (.tuple #[(.agg #[.int .i64 c, .int .i64 o]), .bool true]) ∧ Below w.heap.size w w' := by
  have A1 := as_Send_Grant
  have A2 := as_End_Grant
  have A3 := as_Tick_Grant
  have A4 := field_conn
  go_enter Try.func57, Try.ntmps57
  go_wp2_with (go_at_call 108; refine (grantEv_any _ _ _ _).mono ?_; rintro e w1 ⟨he, hl⟩; (simp only [evV] at he); subst he; obtain ⟨p0, p1, pf⟩ := box2 hl; have H1 := Lib.hid hl; clear hl)
  refine bodyPost_ret (by simp [results, Try.results57, go_sem, p0, p1, pf]; try rfl) rfl ?_
  refine ⟨rfl, ?_⟩
  exact (((below_new _ _).trans (H1.out.mono (by simp))).setCell (Nat.le_refl _) _).setCell (Nat.le_refl _) _

set_option maxRecDepth 100000 in
set_option maxHeartbeats 1600000 in
theorem sent_Tick (n : Int) (w : World) :
    Calls Try.prog 55 #[(.iface 67 (.agg #[.int .i64 n]))] w fun e w' => e = .returned (.tuple #[(.agg #[.int .i64 0, .int .i64 0, .string ⟨#[]⟩]), .bool false]) ∧ Below w.heap.size w w' := by
  have A1 := as_Send_Tick
  go_enter Try.func55, Try.ntmps55
  go_wp2
  go_returns
  exact ⟨rfl, (by repeat (first | exact Below.refl _ _ | refine Below.setCell ?_ (by simp) _ | refine Below.alloc ?_ (by first | exact Nat.le_refl _ | (simp; done) | (simp; omega)) _ | refine grow_trans ?_ (by assumption)))⟩

set_option maxRecDepth 100000 in
set_option maxHeartbeats 1600000 in
theorem conn_Tick (n : Int) (w : World) :
    Calls Try.prog 57 #[(.iface 67 (.agg #[.int .i64 n]))] w fun e w' => e = .returned (.tuple #[(.agg #[.int .i64 0, .int .i64 0]), .bool false]) ∧ Below w.heap.size w w' := by
  have A1 := as_Send_Tick
  have A2 := as_End_Tick
  have A3 := as_Tick_Tick
  have A4 := field_conn
  go_enter Try.func57, Try.ntmps57
  go_wp2_with (go_at_call 109; refine (tickEv_any _ _).mono ?_; rintro e w1 ⟨he, hl⟩; (simp only [evV] at he); subst he; obtain ⟨p0, p1, pf⟩ := box2 hl; have H1 := Lib.hid hl; clear hl)
  go_returns
  refine ⟨rfl, ?_⟩
  exact (by repeat (first | exact Below.refl _ _ | refine Below.setCell ?_ (by simp) _ | refine Below.alloc ?_ (by first | exact Nat.le_refl _ | (simp; done) | (simp; omega)) _ | refine grow_trans ?_ (by assumption)))

set_option maxRecDepth 100000 in
set_option maxHeartbeats 1600000 in
theorem sent_Serve (c : Int) (w : World) :
    Calls Try.prog 55 #[(.iface 68 (.agg #[.int .i64 c]))] w fun e w' => e = .returned (.tuple #[(.agg #[.int .i64 0, .int .i64 0, .string ⟨#[]⟩]), .bool false]) ∧ Below w.heap.size w w' := by
  have A1 := as_Send_Serve
  go_enter Try.func55, Try.ntmps55
  go_wp2
  go_returns
  exact ⟨rfl, (by repeat (first | exact Below.refl _ _ | refine Below.setCell ?_ (by simp) _ | refine Below.alloc ?_ (by first | exact Nat.le_refl _ | (simp; done) | (simp; omega)) _ | refine grow_trans ?_ (by assumption)))⟩

set_option maxRecDepth 100000 in
set_option maxHeartbeats 1600000 in
theorem conn_Serve (c : Int) (w : World) :
    Calls Try.prog 57 #[(.iface 68 (.agg #[.int .i64 c]))] w fun e w' => e = .returned (.tuple #[(.agg #[.int .i64 c, .int .i64 0]), .bool true]) ∧ Below w.heap.size w w' := by
  have A1 := as_Send_Serve
  have A2 := as_End_Serve
  have A3 := as_Tick_Serve
  have A4 := field_conn
  go_enter Try.func57, Try.ntmps57
  go_wp2_with (go_at_call 110; refine (serveEv_any _ _).mono ?_; rintro e w1 ⟨he, hl⟩; (simp only [evV] at he); subst he; obtain ⟨p0, p1, pf⟩ := box2 hl; have H1 := Lib.hid hl; clear hl)
  refine bodyPost_ret (by simp [results, Try.results57, go_sem, p0, p1, pf]; try rfl) rfl ?_
  refine ⟨rfl, ?_⟩
  exact (((below_new _ _).trans (H1.out.mono (by simp))).setCell (Nat.le_refl _) _).setCell (Nat.le_refl _) _

set_option maxRecDepth 100000 in
set_option maxHeartbeats 1600000 in
theorem mustat_nil  (w : World) :
    Calls Try.prog 58 #[.nilIface] w fun e w' => (∃ u p, e = .panicked [{ v := .iface u (.pointer p), recovered := false }]) ∧ Below w.heap.size w w' := by
  obtain ⟨o, u, A1⟩ := must_nil (w.alloc (.cells #[.int .i64 0, .int .i64 0, .string ⟨#[]⟩] 60))
  go_enter Try.func58, Try.ntmps58
  go_wp2
  exact ⟨rfl, ⟨_, _, rfl⟩, (by repeat (first | exact Below.refl _ _ | refine Below.setCell ?_ (by simp) _ | refine Below.alloc ?_ (by first | exact Nat.le_refl _ | (simp; done) | (simp; omega)) _ | refine grow_trans ?_ (by assumption)))⟩

set_option maxRecDepth 100000 in
set_option maxHeartbeats 1600000 in
theorem mustat_Open (c : Int) (w : World) :
    Calls Try.prog 58 #[(.iface 58 (.agg #[.int .i64 c]))] w fun e w' => (∃ u p, e = .panicked [{ v := .iface u (.pointer p), recovered := false }]) ∧ Below w.heap.size w w' := by
  obtain ⟨o, u, A1⟩ := must_no 58 (.agg #[.int .i64 c]) (w.alloc (.cells #[.int .i64 0, .int .i64 0, .string ⟨#[]⟩] 60)) (by decide)
  go_enter Try.func58, Try.ntmps58
  go_wp2
  exact ⟨rfl, ⟨_, _, rfl⟩, (by repeat (first | exact Below.refl _ _ | refine Below.setCell ?_ (by simp) _ | refine Below.alloc ?_ (by first | exact Nat.le_refl _ | (simp; done) | (simp; omega)) _ | refine grow_trans ?_ (by assumption)))⟩

set_option maxRecDepth 100000 in
set_option maxHeartbeats 1600000 in
theorem mustat_Send (c o : Int) (s : ByteArray) (w : World) :
    Calls Try.prog 58 #[(.iface 60 (.agg #[.int .i64 c, .int .i64 o, .string s]))] w fun e w' => e = .returned (.agg #[.int .i64 c, .int .i64 o, .string s]) ∧ Below w.heap.size w w' := by
  have A1 := must_yes
  go_enter Try.func58, Try.ntmps58
  go_wp2
  go_returns
  exact ⟨rfl, (by repeat (first | exact Below.refl _ _ | refine Below.setCell ?_ (by simp) _ | refine Below.alloc ?_ (by first | exact Nat.le_refl _ | (simp; done) | (simp; omega)) _ | refine grow_trans ?_ (by assumption)))⟩

set_option maxRecDepth 100000 in
set_option maxHeartbeats 1600000 in
theorem mustat_End (c o : Int) (w : World) :
    Calls Try.prog 58 #[(.iface 62 (.agg #[.int .i64 c, .int .i64 o]))] w fun e w' => (∃ u p, e = .panicked [{ v := .iface u (.pointer p), recovered := false }]) ∧ Below w.heap.size w w' := by
  obtain ⟨o, u, A1⟩ := must_no 62 (.agg #[.int .i64 c, .int .i64 o]) (w.alloc (.cells #[.int .i64 0, .int .i64 0, .string ⟨#[]⟩] 60)) (by decide)
  go_enter Try.func58, Try.ntmps58
  go_wp2
  exact ⟨rfl, ⟨_, _, rfl⟩, (by repeat (first | exact Below.refl _ _ | refine Below.setCell ?_ (by simp) _ | refine Below.alloc ?_ (by first | exact Nat.le_refl _ | (simp; done) | (simp; omega)) _ | refine grow_trans ?_ (by assumption)))⟩

set_option maxRecDepth 100000 in
set_option maxHeartbeats 1600000 in
theorem mustat_Read (c o n : Int) (w : World) :
    Calls Try.prog 58 #[(.iface 64 (.agg #[.int .i64 c, .int .i64 o, .int .i64 n]))] w fun e w' => (∃ u p, e = .panicked [{ v := .iface u (.pointer p), recovered := false }]) ∧ Below w.heap.size w w' := by
  obtain ⟨o, u, A1⟩ := must_no 64 (.agg #[.int .i64 c, .int .i64 o, .int .i64 n]) (w.alloc (.cells #[.int .i64 0, .int .i64 0, .string ⟨#[]⟩] 60)) (by decide)
  go_enter Try.func58, Try.ntmps58
  go_wp2
  exact ⟨rfl, ⟨_, _, rfl⟩, (by repeat (first | exact Below.refl _ _ | refine Below.setCell ?_ (by simp) _ | refine Below.alloc ?_ (by first | exact Nat.le_refl _ | (simp; done) | (simp; omega)) _ | refine grow_trans ?_ (by assumption)))⟩

set_option maxRecDepth 100000 in
set_option maxHeartbeats 1600000 in
theorem mustat_Grant (c o n : Int) (w : World) :
    Calls Try.prog 58 #[(.iface 65 (.agg #[.int .i64 c, .int .i64 o, .int .i64 n]))] w fun e w' => (∃ u p, e = .panicked [{ v := .iface u (.pointer p), recovered := false }]) ∧ Below w.heap.size w w' := by
  obtain ⟨o, u, A1⟩ := must_no 65 (.agg #[.int .i64 c, .int .i64 o, .int .i64 n]) (w.alloc (.cells #[.int .i64 0, .int .i64 0, .string ⟨#[]⟩] 60)) (by decide)
  go_enter Try.func58, Try.ntmps58
  go_wp2
  exact ⟨rfl, ⟨_, _, rfl⟩, (by repeat (first | exact Below.refl _ _ | refine Below.setCell ?_ (by simp) _ | refine Below.alloc ?_ (by first | exact Nat.le_refl _ | (simp; done) | (simp; omega)) _ | refine grow_trans ?_ (by assumption)))⟩

set_option maxRecDepth 100000 in
set_option maxHeartbeats 1600000 in
theorem mustat_Tick (n : Int) (w : World) :
    Calls Try.prog 58 #[(.iface 67 (.agg #[.int .i64 n]))] w fun e w' => (∃ u p, e = .panicked [{ v := .iface u (.pointer p), recovered := false }]) ∧ Below w.heap.size w w' := by
  obtain ⟨o, u, A1⟩ := must_no 67 (.agg #[.int .i64 n]) (w.alloc (.cells #[.int .i64 0, .int .i64 0, .string ⟨#[]⟩] 60)) (by decide)
  go_enter Try.func58, Try.ntmps58
  go_wp2
  exact ⟨rfl, ⟨_, _, rfl⟩, (by repeat (first | exact Below.refl _ _ | refine Below.setCell ?_ (by simp) _ | refine Below.alloc ?_ (by first | exact Nat.le_refl _ | (simp; done) | (simp; omega)) _ | refine grow_trans ?_ (by assumption)))⟩

set_option maxRecDepth 100000 in
set_option maxHeartbeats 1600000 in
theorem mustat_Serve (c : Int) (w : World) :
    Calls Try.prog 58 #[(.iface 68 (.agg #[.int .i64 c]))] w fun e w' => (∃ u p, e = .panicked [{ v := .iface u (.pointer p), recovered := false }]) ∧ Below w.heap.size w w' := by
  obtain ⟨o, u, A1⟩ := must_no 68 (.agg #[.int .i64 c]) (w.alloc (.cells #[.int .i64 0, .int .i64 0, .string ⟨#[]⟩] 60)) (by decide)
  go_enter Try.func58, Try.ntmps58
  go_wp2
  exact ⟨rfl, ⟨_, _, rfl⟩, (by repeat (first | exact Below.refl _ _ | refine Below.setCell ?_ (by simp) _ | refine Below.alloc ?_ (by first | exact Nat.le_refl _ | (simp; done) | (simp; omega)) _ | refine grow_trans ?_ (by assumption)))⟩


theorem catch_panicking (g h : Nat) (c o : Int) (s : ByteArray) (b : Bool) (u : TypeId) (pv : Value) (older : List PanicEntry) (w : World) (h0 : w.cell? ⟨g, 0, none⟩ = some (.int .i64 c)) (h1 : w.cell? ⟨g, 1, none⟩ = some (.int .i64 o)) (h2 : w.cell? ⟨g, 2, none⟩ = some (.string s))
    (hq : w.cell? ⟨h, 0, none⟩ = some (.bool b)) (z0 : ∀ j, w.frozen? ⟨g, j, none⟩ = false) (zq : w.frozen? ⟨h, 0, none⟩ = false) (hne : ¬ g = h) :
    CallsD Try.prog 81 #[.pointer (some ⟨g, 0, none⟩), .pointer (some ⟨h, 0, none⟩)] (.panicking ({ v := .iface u pv, recovered := false } :: older)) w fun e u' w' =>
      e = .returned (.tuple #[]) ∧ u' = .panicking ({ v := .iface u pv, recovered := true } :: older) ∧ w' = (((w.setCell ⟨g, 0, none⟩ (.int .i64 0)).setCell ⟨g, 1, none⟩ (.int .i64 0)).setCell ⟨g, 2, none⟩ (.string ⟨#[]⟩)).setCell ⟨h, 0, none⟩ (.bool false) := by
  have hne2 : ¬ h = g := fun e => hne e.symm
  refine callsD_of_wpS Try.func81 rfl fun c₀ cs hu => ?_
  apply wpS_seq
  apply wpS_region
  simp [wpOpsS, go_sem, recoverD, hu, Try.ntmps81, Exit.thenS]
  refine wpS_cond (t := true) (by simp [Act.eval, Array.replicate]) ?_
  simp only [if_true]
  refine wpS_of_wp ?_
  go_wp2
  simp [bodyPostS, results, Try.results81]

theorem catch_idle (p q : Addr) (w : World) :
    CallsD Try.prog 81 #[.pointer (some p), .pointer (some q)] .returning w fun e u' w' => e = .returned (.tuple #[]) ∧ u' = .returning ∧ w' = w := by
  refine callsD_of_wpS Try.func81 rfl fun c₀ cs hu => ?_
  apply wpS_seq
  apply wpS_region
  simp [wpOpsS, go_sem, recoverD, hu, Try.ntmps81, Exit.thenS]
  refine wpS_cond (t := false) (by simp [Act.eval, Array.replicate]) ?_
  simp only [Bool.false_eq_true, if_false]
  refine wpS_of_wp (wp_skip ?_)
  cases c₀
  simp_all [bodyPostS, results, Try.results81]

theorem tried_at {w w1 : World} {x y z b : Value} {T U : TypeId} (h : Below ((w.alloc (.cells #[x, y, z] T)).alloc (.cells #[b] U)).heap.size ((w.alloc (.cells #[x, y, z] T)).alloc (.cells #[b] U)) w1) :
    w1.cell? ⟨w.heap.size, 0, none⟩ = some x ∧ w1.cell? ⟨w.heap.size, 1, none⟩ = some y ∧ w1.cell? ⟨w.heap.size, 2, none⟩ = some z ∧ (∀ j, w1.frozen? ⟨w.heap.size, j, none⟩ = false) ∧
    w1.cell? ⟨w.heap.size + 1, 0, none⟩ = some b ∧ ∀ j, w1.frozen? ⟨w.heap.size + 1, j, none⟩ = false := by
  have h0 : w1.heap[w.heap.size]? = some (.cells #[x, y, z] T (0, 0)) := by
    rw [h.block w.heap.size (by simp; omega)]
    show ((w.heap.push _).push _)[w.heap.size]? = _
    rw [Array.getElem?_push, if_neg (by simp), Array.getElem?_push, if_pos rfl]
  have h1 : w1.heap[w.heap.size + 1]? = some (.cells #[b] U (0, 0)) := by
    rw [h.block (w.heap.size + 1) (by simp)]
    show ((w.heap.push _).push _)[w.heap.size + 1]? = _
    rw [Array.getElem?_push, if_pos (by simp)]
  exact ⟨box_cell h0 0, box_cell h0 1, box_cell h0 2, box_free h0, box_cell h1 0, box_free h1⟩

set_option maxRecDepth 100000 in
set_option maxHeartbeats 1600000 in
theorem tried_nil  (w : World) :
    Calls Try.prog 56 #[.nilIface] w fun e w' => e = .returned (.tuple #[(.agg #[.int .i64 0, .int .i64 0, .string ⟨#[]⟩]), .bool false]) ∧ Below w.heap.size w w' := by
  have hmf : ∀ (fn : Fn) (first cap : Array Value) (w : World), (Instr.makeFunc fn first cap).run Try.prog w = .ok (.func fn first cap) w := fun _ _ _ _ => rfl
  go_enter_defers Try.func56, Try.ntmps56
  go_wp2_with (go_at_call 58; refine (mustat_nil  _).mono ?_; rintro e w1 ⟨⟨u, p, he⟩, hl⟩; subst he; obtain ⟨p0, p1, p2, pf, q0, qf⟩ := tried_at hl; have H1 := Lib.hid hl; clear hl)
  refine leaves_cons (f := 81) (args := #[.pointer (some ⟨w.heap.size, 0, none⟩), .pointer (some ⟨w.heap.size + 1, 0, none⟩)]) (by simp) (by simp [go_sem]) ?_
  refine (catch_panicking w.heap.size (w.heap.size + 1) 0 0 ⟨#[]⟩ false _ _ [] _ p0 p1 p2 q0 pf (qf 0) (by omega)).mono ?_
  rintro e u' w'' ⟨rfl, rfl, rfl⟩
  simp [Leaves, settle, results, Try.results56, go_sem, p0, p1, p2, pf, q0, qf]
  exact ((((((below_new _ _).alloc (by simp) _).trans (H1.out.mono (by simp; omega))).setCell (Nat.le_refl _) _).setCell (Nat.le_refl _) _).setCell (Nat.le_refl _) _).setCell (Nat.le_succ _) _

set_option maxRecDepth 100000 in
set_option maxHeartbeats 1600000 in
theorem tried_Open (c : Int) (w : World) :
    Calls Try.prog 56 #[(.iface 58 (.agg #[.int .i64 c]))] w fun e w' => e = .returned (.tuple #[(.agg #[.int .i64 0, .int .i64 0, .string ⟨#[]⟩]), .bool false]) ∧ Below w.heap.size w w' := by
  have hmf : ∀ (fn : Fn) (first cap : Array Value) (w : World), (Instr.makeFunc fn first cap).run Try.prog w = .ok (.func fn first cap) w := fun _ _ _ _ => rfl
  go_enter_defers Try.func56, Try.ntmps56
  go_wp2_with (go_at_call 58; refine (mustat_Open c _).mono ?_; rintro e w1 ⟨⟨u, p, he⟩, hl⟩; subst he; obtain ⟨p0, p1, p2, pf, q0, qf⟩ := tried_at hl; have H1 := Lib.hid hl; clear hl)
  refine leaves_cons (f := 81) (args := #[.pointer (some ⟨w.heap.size, 0, none⟩), .pointer (some ⟨w.heap.size + 1, 0, none⟩)]) (by simp) (by simp [go_sem]) ?_
  refine (catch_panicking w.heap.size (w.heap.size + 1) 0 0 ⟨#[]⟩ false _ _ [] _ p0 p1 p2 q0 pf (qf 0) (by omega)).mono ?_
  rintro e u' w'' ⟨rfl, rfl, rfl⟩
  simp [Leaves, settle, results, Try.results56, go_sem, p0, p1, p2, pf, q0, qf]
  exact ((((((below_new _ _).alloc (by simp) _).trans (H1.out.mono (by simp; omega))).setCell (Nat.le_refl _) _).setCell (Nat.le_refl _) _).setCell (Nat.le_refl _) _).setCell (Nat.le_succ _) _

set_option maxRecDepth 100000 in
set_option maxHeartbeats 1600000 in
theorem tried_Send (c o : Int) (s : ByteArray) (w : World) :
    Calls Try.prog 56 #[(.iface 60 (.agg #[.int .i64 c, .int .i64 o, .string s]))] w fun e w' => e = .returned (.tuple #[(.agg #[.int .i64 c, .int .i64 o, .string s]), .bool true]) ∧ Below w.heap.size w w' := by
  have hmf : ∀ (fn : Fn) (first cap : Array Value) (w : World), (Instr.makeFunc fn first cap).run Try.prog w = .ok (.func fn first cap) w := fun _ _ _ _ => rfl
  go_enter_defers Try.func56, Try.ntmps56
  go_wp2_with (go_at_call 58; refine (mustat_Send c o s _).mono ?_; rintro e w1 ⟨he, hl⟩; subst he; obtain ⟨p0, p1, p2, pf, q0, qf⟩ := tried_at hl; have H1 := Lib.hid hl; clear hl)
  refine leaves_cons (f := 81) (args := #[.pointer (some ⟨w.heap.size, 0, none⟩), .pointer (some ⟨w.heap.size + 1, 0, none⟩)]) (by simp) (by simp [go_sem]) ?_
  refine (catch_idle ⟨w.heap.size, 0, none⟩ ⟨w.heap.size + 1, 0, none⟩ _).mono ?_
  rintro e u' w'' ⟨rfl, rfl, rfl⟩
  simp [Leaves, settle, results, Try.results56, go_sem, p0, p1, p2, pf, q0, qf]
  exact ((((((below_new _ _).alloc (by simp) _).trans (H1.out.mono (by simp; omega))).setCell (Nat.le_refl _) _).setCell (Nat.le_refl _) _).setCell (Nat.le_refl _) _).setCell (Nat.le_succ _) _

set_option maxRecDepth 100000 in
set_option maxHeartbeats 1600000 in
theorem tried_End (c o : Int) (w : World) :
    Calls Try.prog 56 #[(.iface 62 (.agg #[.int .i64 c, .int .i64 o]))] w fun e w' => e = .returned (.tuple #[(.agg #[.int .i64 0, .int .i64 0, .string ⟨#[]⟩]), .bool false]) ∧ Below w.heap.size w w' := by
  have hmf : ∀ (fn : Fn) (first cap : Array Value) (w : World), (Instr.makeFunc fn first cap).run Try.prog w = .ok (.func fn first cap) w := fun _ _ _ _ => rfl
  go_enter_defers Try.func56, Try.ntmps56
  go_wp2_with (go_at_call 58; refine (mustat_End c o _).mono ?_; rintro e w1 ⟨⟨u, p, he⟩, hl⟩; subst he; obtain ⟨p0, p1, p2, pf, q0, qf⟩ := tried_at hl; have H1 := Lib.hid hl; clear hl)
  refine leaves_cons (f := 81) (args := #[.pointer (some ⟨w.heap.size, 0, none⟩), .pointer (some ⟨w.heap.size + 1, 0, none⟩)]) (by simp) (by simp [go_sem]) ?_
  refine (catch_panicking w.heap.size (w.heap.size + 1) 0 0 ⟨#[]⟩ false _ _ [] _ p0 p1 p2 q0 pf (qf 0) (by omega)).mono ?_
  rintro e u' w'' ⟨rfl, rfl, rfl⟩
  simp [Leaves, settle, results, Try.results56, go_sem, p0, p1, p2, pf, q0, qf]
  exact ((((((below_new _ _).alloc (by simp) _).trans (H1.out.mono (by simp; omega))).setCell (Nat.le_refl _) _).setCell (Nat.le_refl _) _).setCell (Nat.le_refl _) _).setCell (Nat.le_succ _) _

set_option maxRecDepth 100000 in
set_option maxHeartbeats 1600000 in
theorem tried_Read (c o n : Int) (w : World) :
    Calls Try.prog 56 #[(.iface 64 (.agg #[.int .i64 c, .int .i64 o, .int .i64 n]))] w fun e w' => e = .returned (.tuple #[(.agg #[.int .i64 0, .int .i64 0, .string ⟨#[]⟩]), .bool false]) ∧ Below w.heap.size w w' := by
  have hmf : ∀ (fn : Fn) (first cap : Array Value) (w : World), (Instr.makeFunc fn first cap).run Try.prog w = .ok (.func fn first cap) w := fun _ _ _ _ => rfl
  go_enter_defers Try.func56, Try.ntmps56
  go_wp2_with (go_at_call 58; refine (mustat_Read c o n _).mono ?_; rintro e w1 ⟨⟨u, p, he⟩, hl⟩; subst he; obtain ⟨p0, p1, p2, pf, q0, qf⟩ := tried_at hl; have H1 := Lib.hid hl; clear hl)
  refine leaves_cons (f := 81) (args := #[.pointer (some ⟨w.heap.size, 0, none⟩), .pointer (some ⟨w.heap.size + 1, 0, none⟩)]) (by simp) (by simp [go_sem]) ?_
  refine (catch_panicking w.heap.size (w.heap.size + 1) 0 0 ⟨#[]⟩ false _ _ [] _ p0 p1 p2 q0 pf (qf 0) (by omega)).mono ?_
  rintro e u' w'' ⟨rfl, rfl, rfl⟩
  simp [Leaves, settle, results, Try.results56, go_sem, p0, p1, p2, pf, q0, qf]
  exact ((((((below_new _ _).alloc (by simp) _).trans (H1.out.mono (by simp; omega))).setCell (Nat.le_refl _) _).setCell (Nat.le_refl _) _).setCell (Nat.le_refl _) _).setCell (Nat.le_succ _) _

set_option maxRecDepth 100000 in
set_option maxHeartbeats 1600000 in
theorem tried_Grant (c o n : Int) (w : World) :
    Calls Try.prog 56 #[(.iface 65 (.agg #[.int .i64 c, .int .i64 o, .int .i64 n]))] w fun e w' => e = .returned (.tuple #[(.agg #[.int .i64 0, .int .i64 0, .string ⟨#[]⟩]), .bool false]) ∧ Below w.heap.size w w' := by
  have hmf : ∀ (fn : Fn) (first cap : Array Value) (w : World), (Instr.makeFunc fn first cap).run Try.prog w = .ok (.func fn first cap) w := fun _ _ _ _ => rfl
  go_enter_defers Try.func56, Try.ntmps56
  go_wp2_with (go_at_call 58; refine (mustat_Grant c o n _).mono ?_; rintro e w1 ⟨⟨u, p, he⟩, hl⟩; subst he; obtain ⟨p0, p1, p2, pf, q0, qf⟩ := tried_at hl; have H1 := Lib.hid hl; clear hl)
  refine leaves_cons (f := 81) (args := #[.pointer (some ⟨w.heap.size, 0, none⟩), .pointer (some ⟨w.heap.size + 1, 0, none⟩)]) (by simp) (by simp [go_sem]) ?_
  refine (catch_panicking w.heap.size (w.heap.size + 1) 0 0 ⟨#[]⟩ false _ _ [] _ p0 p1 p2 q0 pf (qf 0) (by omega)).mono ?_
  rintro e u' w'' ⟨rfl, rfl, rfl⟩
  simp [Leaves, settle, results, Try.results56, go_sem, p0, p1, p2, pf, q0, qf]
  exact ((((((below_new _ _).alloc (by simp) _).trans (H1.out.mono (by simp; omega))).setCell (Nat.le_refl _) _).setCell (Nat.le_refl _) _).setCell (Nat.le_refl _) _).setCell (Nat.le_succ _) _

set_option maxRecDepth 100000 in
set_option maxHeartbeats 1600000 in
theorem tried_Tick (n : Int) (w : World) :
    Calls Try.prog 56 #[(.iface 67 (.agg #[.int .i64 n]))] w fun e w' => e = .returned (.tuple #[(.agg #[.int .i64 0, .int .i64 0, .string ⟨#[]⟩]), .bool false]) ∧ Below w.heap.size w w' := by
  have hmf : ∀ (fn : Fn) (first cap : Array Value) (w : World), (Instr.makeFunc fn first cap).run Try.prog w = .ok (.func fn first cap) w := fun _ _ _ _ => rfl
  go_enter_defers Try.func56, Try.ntmps56
  go_wp2_with (go_at_call 58; refine (mustat_Tick n _).mono ?_; rintro e w1 ⟨⟨u, p, he⟩, hl⟩; subst he; obtain ⟨p0, p1, p2, pf, q0, qf⟩ := tried_at hl; have H1 := Lib.hid hl; clear hl)
  refine leaves_cons (f := 81) (args := #[.pointer (some ⟨w.heap.size, 0, none⟩), .pointer (some ⟨w.heap.size + 1, 0, none⟩)]) (by simp) (by simp [go_sem]) ?_
  refine (catch_panicking w.heap.size (w.heap.size + 1) 0 0 ⟨#[]⟩ false _ _ [] _ p0 p1 p2 q0 pf (qf 0) (by omega)).mono ?_
  rintro e u' w'' ⟨rfl, rfl, rfl⟩
  simp [Leaves, settle, results, Try.results56, go_sem, p0, p1, p2, pf, q0, qf]
  exact ((((((below_new _ _).alloc (by simp) _).trans (H1.out.mono (by simp; omega))).setCell (Nat.le_refl _) _).setCell (Nat.le_refl _) _).setCell (Nat.le_refl _) _).setCell (Nat.le_succ _) _

set_option maxRecDepth 100000 in
set_option maxHeartbeats 1600000 in
theorem tried_Serve (c : Int) (w : World) :
    Calls Try.prog 56 #[(.iface 68 (.agg #[.int .i64 c]))] w fun e w' => e = .returned (.tuple #[(.agg #[.int .i64 0, .int .i64 0, .string ⟨#[]⟩]), .bool false]) ∧ Below w.heap.size w w' := by
  have hmf : ∀ (fn : Fn) (first cap : Array Value) (w : World), (Instr.makeFunc fn first cap).run Try.prog w = .ok (.func fn first cap) w := fun _ _ _ _ => rfl
  go_enter_defers Try.func56, Try.ntmps56
  go_wp2_with (go_at_call 58; refine (mustat_Serve c _).mono ?_; rintro e w1 ⟨⟨u, p, he⟩, hl⟩; subst he; obtain ⟨p0, p1, p2, pf, q0, qf⟩ := tried_at hl; have H1 := Lib.hid hl; clear hl)
  refine leaves_cons (f := 81) (args := #[.pointer (some ⟨w.heap.size, 0, none⟩), .pointer (some ⟨w.heap.size + 1, 0, none⟩)]) (by simp) (by simp [go_sem]) ?_
  refine (catch_panicking w.heap.size (w.heap.size + 1) 0 0 ⟨#[]⟩ false _ _ [] _ p0 p1 p2 q0 pf (qf 0) (by omega)).mono ?_
  rintro e u' w'' ⟨rfl, rfl, rfl⟩
  simp [Leaves, settle, results, Try.results56, go_sem, p0, p1, p2, pf, q0, qf]
  exact ((((((below_new _ _).alloc (by simp) _).trans (H1.out.mono (by simp; omega))).setCell (Nat.le_refl _) _).setCell (Nat.le_refl _) _).setCell (Nat.le_refl _) _).setCell (Nat.le_succ _) _

end Go.Proofs.Ytgbjndlaonalcaa
