
/-
  THE WALK of the law's own 'same': a table is told as the slots.
-/
import Derived.Test.YtgbjndlaonalcaaTabAll
namespace Go.Proofs.Ytgbjndlaonalcaa
open Go.RowKit Go.Proofs.Ytgbjndlaonalcaa.Tab

/-- What lies there while each thing is told: n0: the heap's size when All's closure began. -/
structure SameSt (w0 : World) (n0 B Bt b bl bo bn rg n c : Nat) (l : Slots) (i : Nat) (W : World) : Prop where
  below : Below w0.heap.size w0 W
  old : w0.heap.size ≤ bo ∧ w0.heap.size ≤ bn ∧ bl < n0 ∧ bo < n0 ∧ bn < n0 ∧ rg < n0
  bt : Bt < n0 ∧ Blk W Bt 75 #[.pointer (some ⟨b, 0, none⟩)]
  slots : RSlots W B rg n c l
  bl : Blk W bl 77 #[.slice (some ⟨rg, 0, none⟩) n c]
  bo : Blk W bo 4 #[.bool true]
  bn : ∃ p : Int, -1 ≤ p ∧ p < i ∧ Blk W bn 3 #[.int .i64 p]

theorem SameSt.keep {w0 W W' : World} {n0 B Bt b bl bo bn rg n c : Nat} {l : Slots} {i : Nat} (h : SameSt w0 n0 B Bt b bl bo bn rg n c l i W) (hn : w0.heap.size ≤ n0) (hb : Below n0 W W') : SameSt w0 n0 B Bt b bl bo bn rg n c l i W' := by
  obtain ⟨h1, ⟨h2, h3, h4, h5, h6, h7⟩, ⟨ht1, ht2⟩, h8, h9, h10, p, hp1, hp2, hp3⟩ := h
  exact ⟨h1.trans (hb.mono hn), ⟨h2, h3, h4, h5, h6, h7⟩, ⟨ht1, ht2.below hb ht1⟩, h8.kept (hb.block _ h7), h9.below hb h4, h10.below hb h5, p, hp1, hp2, hp3.below hb h6⟩
theorem SameSt.later {w0 W W' : World} {n0 B Bt b bl bo bn rg n c : Nat} {l : Slots} {i : Nat} (h : SameSt w0 n0 B Bt b bl bo bn rg n c l i W) (hb : Below W.heap.size W W') : SameSt w0 n0 B Bt b bl bo bn rg n c l i W' := by
  obtain ⟨h1, h2, ⟨ht1, ht2⟩, h8, h9, h10, p, hp1, hp2, hp3⟩ := h
  exact ⟨h1.trans (hb.mono h1.size), h2, ⟨ht1, ht2.below hb ht2.lt⟩, h8.below hb, h9.below hb h9.lt, h10.below hb h10.lt, p, hp1, hp2, hp3.below hb hp3.lt⟩

set_option maxRecDepth 100000 in
set_option maxHeartbeats 1600000 in
theorem same1_any (w0 W : World) (n0 B Bt b bl bo bn rg n c : Nat) (l : Slots) (i : Nat) (hi : i < l.length) (hf : l[i].2 = true) (h : SameSt w0 n0 B Bt b bl bo bn rg n c l i W) :
    Calls Try.prog 79 #[.int .i64 i, .int .i64 l[i].1, .pointer (some ⟨bl, 0, none⟩), .pointer (some ⟨bo, 0, none⟩), .pointer (some ⟨bn, 0, none⟩)] W fun e W' => Above n0 W W' ∧ e = .returned (.bool true) ∧ SameSt w0 n0 B Bt b bl bo bn rg n c l (i + 1) W' := by
  have HX := Lib.hid h
  obtain ⟨h1, ⟨h2, h3, h4, h5, h6, h7⟩, ⟨ht1, ht2⟩, h8, h9, h10, p, hp1, hp2, hp3⟩ := h
  have hgv : rgetV l i = (l[i].1, true) := by
    unfold rgetV getV
    rw [dif_pos ⟨by omega, by simpa using hi⟩]
    simp only [Int.toNat_natCast, hf, if_true]
    rw [← hf]
  have hg := rget_any W B rg n c l i h8
  rw [hgv] at hg
  have HG := Lib.hid hg
  have c0 : W.cell? ⟨bl, 0, none⟩ = some (.slice (some ⟨rg, 0, none⟩) n c) := h9.cell 0
  have c1 : W.cell? ⟨bo, 0, none⟩ = some (.bool true) := h10.cell 0
  have c2 : W.cell? ⟨bn, 0, none⟩ = some (.int .i64 p) := hp3.cell 0
  have f1 := h10.frozen 0
  have f2 := hp3.frozen 0
  have hne : bo ≠ bn := h10.ne_ hp3 (by decide)
  have hne2 : bl ≠ bo := h9.ne_ h10 (by decide)
  have hne3 : bl ≠ bn := h9.ne_ hp3 (by decide)
  have c2' : ∀ u, (W.setCell ⟨bo, 0, none⟩ u).cell? ⟨bn, 0, none⟩ = some (.int .i64 p) := fun u => (World.cell?_setCell_other _ _ _ _ (fun e => hne (congrArg Addr.block e))).trans c2
  have hne4 : Bt ≠ bo := ht2.ne_ h10 (by decide)
  have hne5 : Bt ≠ bn := ht2.ne_ hp3 (by decide)
  have HT := Lib.hid (And.intro ht2 (And.intro hne4 hne5))
  have HN := Lib.hid (And.intro hne (And.intro hne2 hne3))
  have HB := Lib.hid (And.intro h8 (And.intro h9 (And.intro h10 hp3)))
  have HL := Lib.hid h1
  clear h1 h8 h9 h10 hp3 hg hgv hne hne2 hne3 hf ht2 hne4 hne5
  go_enter Try.func79, Try.ntmps79
  go_wp2_with (go_at_call 51; refine HG.out.mono ?_; rintro e w' ⟨rfl, rfl⟩)
  go_ret
  obtain ⟨n1, n2, n3⟩ := HN.out
  obtain ⟨h8, h9, h10, hp3⟩ := HB.out
  have hrn : rg ≠ bo ∧ rg ≠ bn := by
    have := h8.own.2
    rcases this with ⟨h, _⟩ | ⟨g', cap, cur, hv, hg, hh, r⟩
    · cases h
    · injection hv with hv
      injection hv with hv
      injection hv with hv
      subst hv
      refine ⟨fun e => ?_, fun e => ?_⟩
      · subst e; unfold Blk at h10; rw [hh] at h10; simp at h10
      · subst e; unfold Blk at hp3; rw [hh] at hp3; simp at hp3
  refine ⟨((Above.refl _ _).setCell h5 _).setCell h6 _, rfl, ?_⟩
  refine ⟨(HL.out.setCell (p := ⟨bo, 0, none⟩) h2 _).setCell (p := ⟨bn, 0, none⟩) h3 _, ⟨h2, h3, h4, h5, h6, h7⟩, ⟨ht1, (HT.out.1.far (p := ⟨bo, 0, none⟩) HT.out.2.1 _).far (p := ⟨bn, 0, none⟩) HT.out.2.2 _⟩, ?_, ?_, ?_, i, by omega, by omega, ?_⟩
  · refine h8.kept ?_
    rw [Below.heap_setCell _ _ _ _ hrn.2, Below.heap_setCell _ _ _ _ hrn.1]
  · exact (h9.far (p := ⟨bo, 0, none⟩) n2 _).far (p := ⟨bn, 0, none⟩) n3 _
  · exact (h10.set_ 0 _).far (p := ⟨bn, 0, none⟩) n1 _
  · exact (hp3.far (p := ⟨bo, 0, none⟩) (Ne.symm n1) _).set_ 0 _

/-- Of the second round over all: how many have come, two at most. -/
structure ManySt (w0 : World) (n0 bm : Nat) (l : Slots) (i : Nat) (W : World) : Prop where
  below : Below w0.heap.size w0 W
  old : w0.heap.size ≤ bm ∧ bm < n0
  few : full (l.take i) < 2
  bm : Blk W bm 3 #[.int .i64 (full (l.take i))]
structure ManyEnd (w0 : World) (bm : Nat) (l : Slots) (W : World) : Prop where
  below : Below w0.heap.size w0 W
  few : 2 ≤ full l
  bm : Blk W bm 3 #[.int .i64 2]
theorem full_mono (l : Slots) (k : Nat) : full (l.take k) ≤ full l := by
  have h : full l = full (l.take k) + full (l.drop k) := by
    unfold full
    rw [← List.countP_append, List.take_append_drop]
  omega

set_option maxRecDepth 100000 in
set_option maxHeartbeats 1600000 in
theorem same2_any (w0 W : World) (n0 bm : Nat) (l : Slots) (i : Nat) (x : Int) (hi : i < l.length) (hf : l[i].2 = true) (h : ManySt w0 n0 bm l i W) :
    Calls Try.prog 80 #[.int .i64 i, .int .i64 x, .pointer (some ⟨bm, 0, none⟩)] W fun e W' => Above n0 W W' ∧ ((e = .returned (.bool true) ∧ ManySt w0 n0 bm l (i + 1) W') ∨ (e = .returned (.bool false) ∧ ManyEnd w0 bm l W')) := by
  obtain ⟨h1, ⟨h2, h3⟩, h4, h5⟩ := h
  have hft := full_take l i hi
  rw [hf, if_pos rfl] at hft
  have hmo := full_mono l (i + 1)
  have c1 : W.cell? ⟨bm, 0, none⟩ = some (.int .i64 (full (l.take i))) := h5.cell 0
  have f1 := h5.frozen 0
  obtain ⟨m, hm⟩ : ∃ m, m = full (l.take i) := ⟨_, rfl⟩
  rw [← hm] at hft h4 h5 c1
  have HB := Lib.hid h5
  have HL := Lib.hid h1
  rw [hft] at hmo
  have HT := Lib.hid hft
  clear h1 h5 hft hf hm
  by_cases hm0 : m = 0
  · subst hm0
    go_enter Try.func80, Try.ntmps80
    go_wp2
    go_ret
    refine ⟨(Above.refl _ _).setCell h3 _, .inl ⟨rfl, ?_⟩⟩
    exact ⟨HL.out.setCell (p := ⟨bm, 0, none⟩) h2 _, ⟨h2, h3⟩, by rw [HT.out]; omega, by rw [HT.out]; exact HB.out.set_ 0 _⟩
  · obtain rfl : m = 1 := by omega
    go_enter Try.func80, Try.ntmps80
    go_wp2
    go_ret
    refine ⟨(Above.refl _ _).setCell h3 _, .inr ⟨rfl, ?_⟩⟩
    exact ⟨HL.out.setCell (p := ⟨bm, 0, none⟩) h2 _, by omega, HB.out.set_ 0 _⟩

theorem all_new (w : World) (x : Option Addr) : Calls Try.prog 65 #[.pointer x] w fun e w' => e = .returned (.func (.func 85) #[] #[.pointer (some ⟨w.heap.size, 0, none⟩)]) ∧ w.alloc (.cells #[.pointer x] 75) = w' := by
  go_enter Try.func65, Try.ntmps65
  go_wp2
  go_ret
  exact ⟨rfl, rfl⟩
end Go.Proofs.Ytgbjndlaonalcaa
