
/-
  THE WALK of the law's own 'same', whole.
-/
import Derived.Test.YtgbjndlaonalcaaTabSame
namespace Go.Proofs.Ytgbjndlaonalcaa
open Go.RowKit Go.Proofs.Ytgbjndlaonalcaa.Tab

theorem all_some (W : World) (lb : Array Value) : (binOp .eql 110 (.func (.func 85) #[] lb) .nilFunc).run Try.prog W = .ok (.bool false) W := by kernel_rfl

set_option maxRecDepth 100000 in
set_option maxHeartbeats 3200000 in
theorem tsame_any (w : World) (b g B rg n c : Nat) (l : Slots) (h : IsTab w b g l) (hr : RSlots w B rg n c l) :
    Calls Try.prog 54 #[.pointer (some ⟨b, 0, none⟩), .slice (some ⟨rg, 0, none⟩) n c] w fun e w' => e = .returned (.bool true) ∧ Below w.heap.size w w' := by
  have hn := hr.len
  subst hn
  have hfew := h.few
  have hfl := full_le l
  obtain ⟨m, hm⟩ : ∃ m, m = l.length - full l := ⟨_, rfl⟩
  have h6 : IntKind.i64.wrap ((l.length : Int) - (full l : Int)) = (m : Int) := by rw [IntWalk.i64_in _ (by omega)]; omega
  have e6 : (l.length : Int) - (full l : Int) = (m : Int) := by omega
  have HM := Lib.hid hm
  have HX := Lib.hid h
  have HR := Lib.hid hr
  have HQ : Hid (∀ W, IsTab W b g l → Calls Try.prog 68 #[.pointer (some ⟨b, 0, none⟩)] W fun e w' => e = .returned (.int .i64 m) ∧ Drawn W w') := fun W hW => by rw [HM.out]; exact troom_some _ _ _ _ hW
  have hfn := all_some
  clear hm h hr
  go_enter Try.func54, Try.ntmps54
  go_wp2
  go_quiet ((first
    | (go_at_call 67; exact quiet_eq (tlen_some _ _ _ _ (HX.out.below (below_drewN (below_new _ _) _))))
    | (go_at_call 78; exact quiet_eq (rlen_any _ _ _ _ _ _ (HR.out.below (below_drewN (below_new _ _) _))))
    | (go_at_call 68; exact quiet_drawn (HQ.out _ (HX.out.below (below_drewN (below_new _ _) _))))))
  go_wp2_with fail
  refine (all_new _ _).mono ?_
  rintro e w2 ⟨rfl, hw2⟩
  have hb2 : Below w.heap.size w w2 := by
    rw [← hw2]
    exact ((((below_drewN (below_new _ _) _).alloc (by simp) _).alloc (by simp; omega) _).alloc (by simp; omega) _)
  have hz2 : w2.heap.size = w.heap.size + 4 := by rw [← hw2]; simp
  have hk0 : Blk w2 w.heap.size 77 #[.slice (some ⟨rg, 0, none⟩) l.length c] := by
    rw [← hw2]
    exact (((Blk.drewN (Blk.new _ _ _) _).alloc _).alloc _).alloc _
  have hk1 : Blk w2 (w.heap.size + 1) 3 #[.int .i64 (-1)] := by
    rw [← hw2]
    have := Blk.new ((w.alloc (.cells #[.slice (some ⟨rg, 0, none⟩) l.length c] 77)).drewN nq) 3 #[.int .i64 (-1)]
    simp only [World.heap_drewN, World.size_alloc] at this
    exact (this.alloc _).alloc _
  have hk2 : Blk w2 (w.heap.size + 2) 4 #[.bool true] := by
    rw [← hw2]
    have := Blk.new (((w.alloc (.cells #[.slice (some ⟨rg, 0, none⟩) l.length c] 77)).drewN nq).alloc (.cells #[.int .i64 (-1)] 3)) 4 #[.bool true]
    simp only [World.heap_drewN, World.size_alloc] at this
    exact this.alloc _
  have hk3 : Blk w2 (w.heap.size + 3) 75 #[.pointer (some ⟨b, 0, none⟩)] := by
    rw [← hw2]
    have := Blk.new ((((w.alloc (.cells #[.slice (some ⟨rg, 0, none⟩) l.length c] 77)).drewN nq).alloc (.cells #[.int .i64 (-1)] 3)).alloc (.cells #[.bool true] 4)) 75 #[.pointer (some ⟨b, 0, none⟩)]
    simp only [World.heap_drewN, World.size_alloc] at this
    exact this
  have hst : SameSt w w2.heap.size B (w.heap.size + 3) b w.heap.size (w.heap.size + 2) (w.heap.size + 1) rg l.length c l 0 w2 :=
    ⟨hb2, ⟨by omega, by omega, by omega, by omega, by omega, by have := HR.out.lt.2; omega⟩, ⟨by omega, hk3⟩, HR.out.below hb2, hk0, hk2, -1, by omega, by omega, hk1⟩
  have HW2 := Lib.hid hw2
  have HS2 := Lib.hid hst
  have HZ2 := Lib.hid hz2
  have zz2 : w.heap.size + 4 ≤ w2.heap.size := by omega
  simp only [World.heap_drewN, World.size_alloc]
  clear hw2 hb2 hk0 hk1 hk2 hk3 hst hz2
  go_wp2_with fail
  refine (tall_any 79 #[.pointer (some ⟨w.heap.size, 0, none⟩), .pointer (some ⟨w.heap.size + 2, 0, none⟩), .pointer (some ⟨w.heap.size + 1, 0, none⟩)] (fun _ _ => by kernel_rfl) w2 b g l (w.heap.size + 3)
    (HS2.out.bt.2.cell 0) (HX.out.below HS2.out.below) (SameSt w w2.heap.size B (w.heap.size + 3) b w.heap.size (w.heap.size + 2) (w.heap.size + 1) rg l.length c l) (fun _ => False)
    (fun i W W' hj hb => hj.keep (by omega) hb) HS2.out
    (fun i hi W hf hj => ⟨hj.below, hj.old, hj.bt, hj.slots, hj.bl, hj.bo, by obtain ⟨p, h1, h2, h3⟩ := hj.bn; exact ⟨p, h1, by omega, h3⟩⟩)
    (fun i hi W hf hj hz => (same1_any w W _ B _ b _ _ _ rg _ c l i hi hf hj).mono fun e W' ⟨ha, he, hs⟩ => ⟨ha, .inl ⟨he, hs⟩⟩)).mono ?_
  rintro e w3 ⟨⟨v3, rfl⟩, hs3 | hf⟩
  · have HS3 := Lib.hid hs3
    have zz3 : w.heap.size ≤ w3.heap.size := hs3.below.size
    clear hs3
    go_wp2_with fail
    have HS4 := Lib.hid (HS3.out.later (below_new w3 (.cells #[.int .i64 0] 3)))
    have hm0 : ManySt w3 (w3.alloc (.cells #[.int .i64 0] 3)).heap.size w3.heap.size l 0 (w3.alloc (.cells #[.int .i64 0] 3)) :=
      ⟨below_new _ _, ⟨Nat.le_refl _, by simp⟩, by simp [full], by simpa [full] using Blk.new w3 3 #[.int .i64 0]⟩
    have HM0 := Lib.hid hm0
    clear hm0
    refine (tall_any 80 #[.pointer (some ⟨w3.heap.size, 0, none⟩)] (fun _ _ => by kernel_rfl) _ b g l (w.heap.size + 3)
      (HS4.out.bt.2.cell 0) (HX.out.below HS4.out.below) (ManySt w3 (w3.alloc (.cells #[.int .i64 0] 3)).heap.size w3.heap.size l) (ManyEnd w3 w3.heap.size l)
      (fun i W W' hj hb => ⟨hj.below.trans (hb.mono (by simp)), hj.old, hj.few, hj.bm.below hb hj.old.2⟩) HM0.out
      (fun i hi W hf hj => by
        have ht := full_take l i hi
        rw [hf] at ht
        simp only [Bool.false_eq_true, if_false, Nat.add_zero] at ht
        exact ⟨hj.below, hj.old, by rw [ht]; exact hj.few, by rw [ht]; exact hj.bm⟩)
      (fun i hi W hf hj hz => same2_any w3 W _ _ l i _ hi hf hj)).mono ?_
    rintro e w5 ⟨⟨v5, rfl⟩, hs5⟩
    have hb5 : Below w3.heap.size w3 w5 := by
      rcases hs5 with h | h
      · exact h.below
      · exact h.below
    have HS5 := Lib.hid (HS3.out.later hb5)
    have hmany : ∃ k : Nat, (k : Int) = min 2 (full l : Int) ∧ k ≤ 2 ∧ Blk w5 w3.heap.size 3 #[.int .i64 k] := by
      rcases hs5 with h | h
      · have h1 := h.few
        have h2 := h.bm
        rw [List.take_length] at h1 h2
        exact ⟨full l, by omega, by omega, h2⟩
      · exact ⟨2, by have := h.few; omega, by omega, h.bm⟩
    obtain ⟨k, hk, hk2, hbm⟩ := hmany
    have HK := Lib.hid hk
    have g0 : w5.cell? ⟨w.heap.size + 1 + 1, 0, none⟩ = some (.bool true) := HS5.out.bo.cell 0
    have g1 : w5.cell? ⟨w3.heap.size, 0, none⟩ = some (.int .i64 k) := hbm.cell 0
    have g2 : w5.cell? ⟨w.heap.size, 0, none⟩ = some (.slice (some ⟨rg, 0, none⟩) l.length c) := HS5.out.bl.cell 0
    clear hs5 hb5 hk hbm
    go_wp2_with fail
    go_quiet ((go_at_call 78; exact quiet_eq (rlen_any _ _ _ _ _ _ (HS5.out.slots.below (below_drewN (Below.refl _ _) _)))))
    go_wp2
    all_goals
      go_ret
      refine ⟨ret_bool ?_, below_drewN HS5.out.below _⟩
      have := HK.out
      simp
      omega
  · exact hf.elim
end Go.Proofs.Ytgbjndlaonalcaa
