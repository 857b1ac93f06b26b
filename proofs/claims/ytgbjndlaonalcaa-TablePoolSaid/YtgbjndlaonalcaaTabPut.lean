
/-
  THE WALKS of table: slices.IndexFunc at its slots, Put, Drop.
-/
import Derived.Test.YtgbjndlaonalcaaTab
namespace Go.Proofs.Ytgbjndlaonalcaa
open Go.RowKit Go.Proofs.Ytgbjndlaonalcaa.Tab

set_option maxHeartbeats 400000 in
theorem isfree_any (x : Int) (b : Bool) (w : World) :
    Calls Try.prog 84 #[.agg #[.int .i64 x, .bool b]] w fun e w' => e = .returned (.bool (!b)) ∧ Below w.heap.size w w' := by
  go_enter Try.func84, Try.ntmps84
  go_wp2
  go_ret
  exact ⟨rfl, (Below.refl _ _).alloc (Nat.le_refl _) _⟩

set_option maxRecDepth 100000 in
set_option maxHeartbeats 1600000 in
theorem indexfree_any (w : World) (b g : Nat) (l : Slots) (h : IsTab w b g l) (hf : full l < l.length) :
    Calls Try.prog 83 #[.slice (some ⟨g, 0, none⟩) l.length l.length, .func (.func 84) #[] #[]] w fun e w' => e = .returned (.int .i64 (free l)) ∧ Below w.heap.size w w' := by
  have eg : ∀ args w, (callFunc 84 args).run Try.prog w = .ok (.enter 84 args) w := fun _ _ => by kernel_rfl
  have hfl := free_lt hf
  have hfew := h.few
  have H := Lib.hid h
  have HF := Lib.hid hf
  clear h hf
  go_enter Try.func83, Try.ntmps83
  go_wp2
  go_loopg [5, 8] l.length (fun gg _ s8 wr => ∃ k : Nat, k ≤ free l ∧ l.length - k ≤ gg ∧ s8 = .int .i64 k ∧ Hid (Below w.heap.size w wr))
  case atStart => exact ⟨0, Nat.zero_le _, by omega, rfl, Below.refl _ w⟩
  case round =>
    obtain ⟨k, hk, hg, rfl, hb⟩ := hrel
    have hkl : k < l.length := by omega
    have hlt : (k : Int) < (l.length : Int) := by omega
    obtain ⟨s0, s1, sf⟩ := (H.out.below hb.out).slot k hkl
    obtain ⟨y, hy⟩ : ∃ y, y = l[k] := ⟨_, rfl⟩
    rw [← hy] at s0 s1
    have HY := Lib.hid hy
    clear hy
    by_cases hkf : k = free l
    · have hfr : y.2 = false := by rw [HY.out]; subst hkf; exact free_is hkl
      have HK := Lib.hid hkf
      obtain ⟨y1, y2⟩ := y
      simp only at hfr s0 s1
      subst hfr
      clear hkf
      go_wp2_with (go_at_call 84; refine (isfree_any _ _ _).mono ?_; rintro e w' ⟨rfl, hb'⟩)
      go_ret
      refine ⟨ret_int (by rw [HK.out]), ?_⟩
      exact grow_trans hb.out hb'
    · have hfr : y.2 = true := by rw [HY.out]; exact free_before (by omega) hkl
      obtain ⟨y1, y2⟩ := y
      simp only at hfr s0 s1
      subst hfr
      go_wp2_with (go_at_call 84; refine (isfree_any _ _ _).mono ?_; rintro e w' ⟨rfl, hb'⟩)
      go_roundg (l.length - (k + 1))
      case measure => omega
      case rel => exact ⟨k + 1, by omega, by omega, by go_num, grow_trans hb.out hb'⟩

/-! ### Put -/
theorem IsTab.put {w w1 : World} {b g : Nat} {l : Slots} (h : IsTab w b g l) (hb : Below w.heap.size w w1) (i : Nat) (hi : i < l.length) (x : Int) (c : Bool) (n : Nat) (hn : full (l.set i (x, c)) = n) :
    IsTab (((w1.setCell ⟨g, i * 2, none⟩ (.int .i64 x)).setCell ⟨g, i * 2 + 1, none⟩ (.bool c)).setCell ⟨b, 1, none⟩ (.int .i64 n)) b g (l.set i (x, c)) := by
  have h1 := h.below hb
  have hne := h.ne
  refine ⟨by simpa using h.few, ?_, ?_⟩
  · have e : (((w1.setCell ⟨g, i * 2, none⟩ (.int .i64 x)).setCell ⟨g, i * 2 + 1, none⟩ (.bool c))).heap[b]? = w1.heap[b]? := by
      rw [Below.heap_setCell _ _ _ _ hne, Below.heap_setCell _ _ _ _ hne]
    have := heap_setCell_same _ b 1 _ _ (.int .i64 n) (e.trans h1.tab)
    rw [this]
    simp [tabCells, hn]
  · rw [Below.heap_setCell _ _ _ _ (Ne.symm hne)]
    have e1 := heap_setCell_same _ g (i * 2) _ _ (.int .i64 x) h1.row
    have e2 := heap_setCell_same _ g (i * 2 + 1) _ _ (.bool c) e1
    rw [e2, ← slotVals_set x c l i hi]
    simp
theorem Only2.put {w w1 : World} {b g : Nat} (hb : Below w.heap.size w w1) (i j : Nat) (x y z : Value) :
    Only2 b g w (((w1.setCell ⟨g, i, none⟩ x).setCell ⟨g, j, none⟩ y).setCell ⟨b, 1, none⟩ z) :=
  (((Only2.of_below hb).setCell (p := ⟨g, i, none⟩) (.inr rfl) _).setCell (p := ⟨g, j, none⟩) (.inr rfl) _).setCell (p := ⟨b, 1, none⟩) (.inl rfl) _

set_option maxRecDepth 100000 in
set_option maxHeartbeats 1600000 in
theorem tput_full (w : World) (b g : Nat) (l : Slots) (x : Int) (h : IsTab w b g l) (hf : full l = l.length) :
    Calls Try.prog 64 #[.pointer (some ⟨b, 0, none⟩), .int .i64 x] w fun e w' => e = .returned (.tuple #[.int .i64 0, .bool false]) ∧ Drawn w w' := by
  have hr := troom_some w b g l h
  have e0 : ((l.length - full l : Nat) : Int) = 0 := by omega
  rw [e0] at hr
  have HR := Lib.hid hr
  clear hr e0 h hf
  go_enter Try.func64, Try.ntmps64
  go_wp2_with (go_at_call 68; refine HR.out.mono ?_; rintro e w' ⟨rfl, hd⟩)
  go_ret2
  exact ⟨rfl, hd⟩

set_option maxRecDepth 100000 in
set_option maxHeartbeats 1600000 in
theorem tput_room (w : World) (b g : Nat) (l : Slots) (x : Int) (h : IsTab w b g l) (hf : full l < l.length) :
    Calls Try.prog 64 #[.pointer (some ⟨b, 0, none⟩), .int .i64 x] w fun e w' => e = .returned (.tuple #[.int .i64 (free l), .bool true]) ∧ IsTab w' b g (l.set (free l) (x, true)) ∧ Only2 b g w w' := by
  have hr := troom_some w b g l h
  obtain ⟨m, hm⟩ : ∃ m : Nat, m = l.length - full l := ⟨_, rfl⟩
  rw [← hm] at hr
  have hm0 : ((m : Int) == 0) = false := by simp; omega
  have HR := Lib.hid hr
  have HX := Lib.hid h
  have HF := Lib.hid hf
  have hfl := free_lt hf
  have hfew := h.few
  have hfull := full_le l
  clear hr hm h hf
  go_enter Try.func64, Try.ntmps64
  go_wp2_with fail
  refine HR.out.mono ?_
  rintro e w1 ⟨rfl, hd⟩
  have hb1 : Below w.heap.size w w1 := hd.grow
  have HB1 := Lib.hid hb1
  obtain ⟨c0, c1, cf⟩ := (HX.out.below hb1).cells
  clear hd hb1
  go_wp2_with fail
  refine (indexfree_any w1 b g l (HX.out.below HB1.out) HF.out).mono ?_
  rintro e w2 ⟨rfl, hb2⟩
  have HB2 := Lib.hid (grow_trans HB1.out hb2)
  have X2 := Lib.hid (HX.out.below HB2.out)
  clear c0 c1 cf hb2
  obtain ⟨d0, d1, df⟩ := X2.out.cells
  obtain ⟨s0, s1, sf⟩ := X2.out.slot (free l) hfl
  have i1 : (0 : Int) ≤ (free l : Int) := by omega
  have i2 : (free l : Int) < (l.length : Int) := by omega
  have i3 : (full l : Int) ≤ 1000 := by omega
  have hne := X2.out.ne
  have kd : ∀ u v, ((w2.setCell ⟨g, free l * 2, none⟩ u).setCell ⟨g, free l * 2 + 1, none⟩ v).cell? ⟨b, 1, none⟩ = some (.int .i64 (full l)) := fun u v => by
    rw [World.cell?_setCell_other _ _ _ _ (fun e => hne (congrArg Addr.block e).symm), World.cell?_setCell_other _ _ _ _ (fun e => hne (congrArg Addr.block e).symm)]
    exact d1
  have HN := Lib.hid hne
  have HP := Lib.hid (full_put x l (free l) hfl (free_is hfl))
  clear hne
  go_wp2
  go_ret2
  refine ⟨rfl, ?_, ?_⟩
  · exact (HX.out.put HB2.out (free l) hfl x true _ HP.out)
  · exact Only2.put HB2.out _ _ _ _ _
/-! ### Drop -/
set_option maxRecDepth 100000 in
set_option maxHeartbeats 1600000 in
theorem tdrop_no (w : World) (b g : Nat) (l : Slots) (n : Int) (h : IsTab w b g l) (hf : (getV l n).2 = false) :
    Calls Try.prog 53 #[.pointer (some ⟨b, 0, none⟩), .int .i64 n] w fun e w' => e = .returned (.bool false) ∧ Drawn w w' := by
  have hr := tget_some w b g l n h
  rw [hf] at hr
  have HR := Lib.hid hr
  clear hr h hf
  go_enter Try.func53, Try.ntmps53
  go_wp2_with (go_at_call 50; refine HR.out.mono ?_; rintro e w' ⟨rfl, hd⟩)
  go_ret
  exact ⟨rfl, hd⟩

set_option maxRecDepth 100000 in
set_option maxHeartbeats 1600000 in
theorem tdrop_yes (w : World) (b g : Nat) (l : Slots) (i : Nat) (h : IsTab w b g l) (hi : i < l.length) (hf : l[i].2 = true) :
    Calls Try.prog 53 #[.pointer (some ⟨b, 0, none⟩), .int .i64 i] w fun e w' => e = .returned (.bool true) ∧ IsTab w' b g (l.set i (0, false)) ∧ Only2 b g w w' := by
  have hr := tget_some w b g l i h
  have hv : getV l i = l[i] := by unfold getV; rw [dif_pos ⟨by omega, by simpa using hi⟩]; simp
  rw [hv, hf] at hr
  have HR := Lib.hid hr
  have HX := Lib.hid h
  have hfew := h.few
  have hfull := full_le l
  have HP := Lib.hid (full_drop 0 l i hi hf)
  have hf1 : 1 ≤ full l := by have := HP.out; omega
  clear hr hv h hf
  go_enter Try.func53, Try.ntmps53
  go_wp2_with fail
  refine HR.out.mono ?_
  rintro e w1 ⟨rfl, hd⟩
  have hb1 : Below w.heap.size w w1 := hd.grow
  have HB1 := Lib.hid hb1
  have X1 := Lib.hid (HX.out.below hb1)
  clear hd hb1
  obtain ⟨d0, d1, df⟩ := X1.out.cells
  obtain ⟨s0, s1, sf⟩ := X1.out.slot i hi
  have i1 : (0 : Int) ≤ (i : Int) := by omega
  have i2 : (i : Int) < (l.length : Int) := by omega
  have i3 : (full l : Int) ≤ 1000 := by omega
  have i4 : (1 : Int) ≤ (full l : Int) := by omega
  have hne := X1.out.ne
  have kd : ∀ u v, ((w1.setCell ⟨g, i * 2, none⟩ u).setCell ⟨g, i * 2 + 1, none⟩ v).cell? ⟨b, 1, none⟩ = some (.int .i64 (full l)) := fun u v => by
    rw [World.cell?_setCell_other _ _ _ _ (fun e => hne (congrArg Addr.block e).symm), World.cell?_setCell_other _ _ _ _ (fun e => hne (congrArg Addr.block e).symm)]
    exact d1
  have HN := Lib.hid hne
  clear hne
  go_wp2
  go_ret
  refine ⟨rfl, ?_, ?_⟩
  · have e1 : ((full l : Int) - 1) = ((full l - 1 : Nat) : Int) := by omega
    rw [e1]
    exact HX.out.put HB1.out i hi 0 false _ (by have := HP.out; omega)
  · exact Only2.put HB1.out _ _ _ _ _
end Go.Proofs.Ytgbjndlaonalcaa
