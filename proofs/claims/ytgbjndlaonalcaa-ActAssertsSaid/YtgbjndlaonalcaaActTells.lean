/-
  THE WALKS of abutmentlaw44.lives and of the law ActTells.
-/
import Derived.Test.YtgbjndlaonalcaaActOf
namespace Go.Proofs.Ytgbjndlaonalcaa
open Go.RowKit Go.Proofs.Ytgbjndlaonalcaa.Act

theorem as_read (v : Value) (w : World) : (Instr.typeAssert (.iface 64 v) 50 64 true).run Try.prog w = .ok (.tuple #[v, .bool true]) w := by kernel_rfl

set_option maxRecDepth 100000 in
set_option maxHeartbeats 1600000 in
theorem actlives_any (w : World) :
    Calls Try.prog 37 #[] w fun e w' => e = .returned (.bool true) ∧ Below w.heap.size w w' := by
  have e1 : ofV 4 0 1 5 ⟨#[]⟩ = .iface 64 (.agg #[.int .i64 0, .int .i64 1, .int .i64 5]) := by rfl
  have e2 : rightB 4 0 1 5 ⟨#[]⟩ = true := by decide
  have e3 : wordS 7 = ⟨#[115, 101, 114, 118, 101]⟩ := by rfl
  have E := Lib.hid (And.intro e1 (And.intro e2 e3))
  clear e1 e2 e3
  have A1 := as_read
  go_enter Try.func37, Try.ntmps37
  go_wp2_with (first
    | (go_at_call 32; refine (of_any _ _ _ _ _ _).mono ?_; rintro e w1 ⟨he, hl⟩; rw [E.out.1, E.out.2.1] at he; subst he; have HL := Lib.hid hl; clear hl)
    | (go_at_call 35; refine (word_any _ _).mono ?_; rintro e w2 ⟨he, hl⟩; rw [E.out.2.2] at he; subst he; have HM := Lib.hid hl; clear hl))
  go_ret
  refine ⟨rfl, ?_⟩
  exact HL.out.trans ((below_new _ _).mono HL.out.size) |>.trans (HM.out.mono (by have := HL.out.size; simp; omega))

theorem cut6000 (s : ByteArray) : s.extract 0 (if (6000 : Int) < (s.size : Int) then 6000 else (s.size : Int)).toNat = if 6000 < s.size then s.extract 0 6000 else s := by
  by_cases h : 6000 < s.size
  · rw [if_pos (by omega), if_pos h]; rfl
  · rw [if_neg (by omega), if_neg h]
    exact ByteArray.extract_zero_size

end Go.Proofs.Ytgbjndlaonalcaa
