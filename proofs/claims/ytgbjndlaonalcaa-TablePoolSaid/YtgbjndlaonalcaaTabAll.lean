
/-
  THE WALKS of table: slices.Clone at its slots; All's closure, with whatever is to be done with each thing; the law's own 'same'.
-/
import Derived.Test.YtgbjndlaonalcaaTabPut
import Derived.Test.YtgbjndlaonalcaaTabRef
namespace Go.Proofs.Ytgbjndlaonalcaa
open Go.RowKit Go.Proofs.Ytgbjndlaonalcaa.Tab

def ClonePost (w : World) (l : Slots) (e : Ending) (w' : World) : Prop :=
  ∃ g c, e = .returned (.slice (some ⟨g, 0, none⟩) l.length c) ∧ w'.ownsRow w.heap.size 126 2 (.slice (some ⟨g, 0, none⟩) l.length c) l.length (slotVals l) ∧ Below w.heap.size w w'

theorem IsTab.reads {w : World} {b g : Nat} {l : Slots} (h : IsTab w b g l) : Reads w w.heap.size 2 (some ⟨g, 0, none⟩) l.length (slotVals l) :=
  ⟨slotVals_length l, fun _ => ⟨_, rfl, h.lt.2, fun j u hu => by rw [add_head, cell_of_row w g j _ _ _ h.row]; simpa using hu⟩⟩

set_option maxRecDepth 100000 in
set_option maxHeartbeats 1600000 in
theorem tclone_any (w : World) (b g : Nat) (l : Slots) (h : IsTab w b g l) :
    Calls Try.prog 86 #[.slice (some ⟨g, 0, none⟩) l.length l.length] w (ClonePost w l) := by
  obtain ⟨i0, hi0, hz⟩ := info_hid info_slot
  have hfew := h.few
  have H1 : Hid (0 + l.length ≤ maxLen) := by show _ ≤ _; unfold maxLen; omega
  have H2 : Hid ((0 + l.length) * 16 ≤ 140737488355328) := by show _ ≤ _; omega
  have HS := Lib.hid (slot_one l)
  have HL := Lib.hid (World.ownsRow_lit (base := w.heap.size) (e := 126) (size := 2) w #[] 0 (Nat.le_refl _) (by decide) rfl)
  have HRa := Lib.hid (h.reads.alloc (Nat.le_refl _) (.cells #[] 126))
  have hnil := fun w : World => Lib.run_eql_slice_nil (P := Try.prog) w 120 126 (some ⟨g, 0, none⟩) l.length l.length 0 0 Try.underlying120
  clear h
  go_enter Try.func86, Try.ntmps86
  go_wp2_with (at_builtin; refine wpList_append_any _ rfl (.tmp 5) (.tmp 6) _ rfl w.heap.size 126 i0 _ 2 16 Try.underlying120 hi0.out hz.out.1 hz.out.2.1 hz.out.2.2 rfl (by omega) _ 0 [] (by rfl) HL.out w.heap.size _ l.length l.length (slotVals l) rfl HRa.out HS.out H1.out H2.out (by simp) ?_; intro v1 w1 hown1 hg1 hat1; (rw [Nat.zero_add] at hown1); have HO := Lib.hid hown1; have HG1 := Lib.hid hg1; have HA := Lib.hid hat1; clear hown1 hg1 hat1)
  go_ret
  have hb1 : Below w.heap.size w w1 := ((Below.refl _ w).alloc (Nat.le_refl _) _).grown HG1.out (by simp) (by simp [Value.ownBlock])
  rcases HO.out.2 with ⟨rfl, _⟩ | ⟨g', cap, cur, rfl, _⟩
  · rcases HA.out with h | h <;> simp [Value.ownBlock] at h
  · exact ⟨g', cap, rfl, by simpa using HO.out, hb1⟩

/-- From block n on, what is there stays. -/
structure Above (n : Nat) (w w' : World) : Prop where
  size : w.heap.size ≤ w'.heap.size
  block : ∀ k, n ≤ k → k < w.heap.size → w'.heap[k]? = w.heap[k]?
theorem Above.refl (n : Nat) (w : World) : Above n w w := ⟨Nat.le_refl _, fun _ _ _ => rfl⟩
theorem Above.of_below {n : Nat} {w w' : World} (h : Below w.heap.size w w') : Above n w w' := ⟨h.size, fun k _ hk => h.block k hk⟩
theorem Above.trans {n : Nat} {a b c : World} (h : Above n a b) (k : Above n b c) : Above n a c := ⟨Nat.le_trans h.size k.size, fun i h1 h2 => (k.block i h1 (Nat.lt_of_lt_of_le h2 h.size)).trans (h.block i h1 h2)⟩
theorem Above.setCell {n : Nat} {a w : World} (h : Above n a w) {p : Addr} (hp : p.block < n) (u : Value) : Above n a (w.setCell p u) :=
  h.trans ⟨by simp [World.setCell], fun k hk _ => Below.heap_setCell _ _ _ _ (by omega)⟩
theorem Above.own {n : Nat} {w w' : World} {B e size m : Nat} {v : Value} {xs : List Value} (h : Above n w w') (ho : w.ownsRow B e size v m xs) (hn : n ≤ B) : w'.ownsRow B e size v m xs := by
  refine ⟨ho.1, ?_⟩
  rcases ho.2 with h2 | ⟨g, cap, cur, hv, hg, hh, r⟩
  · exact .inl h2
  · exact .inr ⟨g, cap, cur, hv, hg, (h.block g (by omega) (lt_of_block hh)).trans hh, r⟩

theorem row_slot {w : World} {B e g c : Nat} {l : Slots} (h : w.ownsRow B e 2 (.slice (some ⟨g, 0, none⟩) l.length c) l.length (slotVals l)) (i : Nat) (hi : i < l.length) :
    w.cell? ⟨g, i * 2, none⟩ = some (.int .i64 l[i].1) ∧ w.cell? ⟨g, i * 2 + 1, none⟩ = some (.bool l[i].2) :=
  ⟨(h.cellAt _ (by omega)).trans (slotVals_x l i hi), (h.cellAt _ (by omega)).trans (slotVals_in l i hi)⟩

/-- What All's closure does: each thing that is in, in order; J holds behind so many slots, Jx where it was told to stop. -/
def AllPost (n : Nat) (J : Nat → World → Prop) (Jx : World → Prop) (e : Ending) (w' : World) : Prop := (∃ v, e = .returned v) ∧ (J n w' ∨ Jx w')

set_option maxRecDepth 100000 in
set_option maxHeartbeats 3200000 in
theorem tall_any (q : Nat) (lb : Array Value) (eq : ∀ args w, (callFunc q args).run Try.prog w = .ok (.enter q args) w) (w : World) (b g : Nat) (l : Slots) (Bt : Nat) (hbox : w.cell? ⟨Bt, 0, none⟩ = some (.pointer (some ⟨b, 0, none⟩)))
    (h : IsTab w b g l) (J : Nat → World → Prop) (Jx : World → Prop) (hJ : ∀ i W W', J i W → Below w.heap.size W W' → J i W') (h0 : J 0 w) (hskip : ∀ i (hi : i < l.length) W, l[i].2 = false → J i W → J (i + 1) W)
    (hY : ∀ i (hi : i < l.length) W, l[i].2 = true → J i W → w.heap.size ≤ W.heap.size → Calls Try.prog q (#[.int .i64 i, .int .i64 l[i].1] ++ lb) W fun e W' => Above w.heap.size W W' ∧ ((e = .returned (.bool true) ∧ J (i + 1) W') ∨ (e = .returned (.bool false) ∧ Jx W'))) :
    Calls Try.prog 85 #[.func (.func q) #[] lb, .pointer (some ⟨Bt, 0, none⟩)] w (AllPost l.length J Jx) := by
  have hfew := h.few
  obtain ⟨c0, c1, cf⟩ := h.cells
  have HX := Lib.hid h
  have HJ := Lib.hid hJ
  have H0 := Lib.hid h0
  have HS := Lib.hid hskip
  have HY := Lib.hid hY
  clear h hJ h0 hskip hY
  go_enter Try.func85, Try.ntmps85
  go_wp2_with fail
  refine (tclone_any w b g l HX.out).mono ?_
  rintro e w1 ⟨g1, k1, rfl, ho, hb⟩
  have HO := Lib.hid ho
  have HB := Lib.hid hb
  have hg1 := (ho.lt g1 rfl).1
  clear ho hb c0 c1 cf hbox
  go_wp2
  go_loopg [3, 4, 13, 15, 16, 17, 18, 19, 20, 21, 22, 23, 24, 25, 26, 27, 28, 14] l.length (fun gg s3 s4 s13 s15 s16 s17 s18 s19 s20 s21 s22 s23 s24 s25 s26 s27 s28 s14 wr => ∃ k : Nat, k ≤ l.length ∧ l.length - k ≤ gg ∧ s13 = .int .i64 k ∧ Hid (J k wr) ∧ Hid (Above w.heap.size w1 wr) ∧ w.heap.size ≤ wr.heap.size)
  case atStart => exact ⟨0, Nat.zero_le _, by omega, rfl, HJ.out 0 _ _ H0.out HB.out, Above.refl _ _, HB.out.size⟩
  case round =>
    obtain ⟨k, hk, hgg, rfl, hj, hab, hsz⟩ := hrel
    by_cases hlt : k < l.length
    · obtain ⟨s0, s1⟩ := row_slot (hab.out.own HO.out (Nat.le_refl _)) k hlt
      have hskip := HS.out k hlt
      have hcall := HY.out k hlt
      obtain ⟨y, hy⟩ : ∃ y, y = l[k] := ⟨_, rfl⟩
      rw [← hy] at s0 s1 hskip hcall
      clear hy
      obtain ⟨y1, y2⟩ := y
      simp only at s0 s1 hskip hcall
      cases y2
      · have HK := Lib.hid hskip
        clear hskip hcall
        go_wp2
        go_roundg (l.length - (k + 1))
        case measure => omega
        case rel => exact ⟨k + 1, by omega, by omega, by go_num, HJ.out _ _ _ (HK.out _ (by first | trivial | rfl) hj.out) ((Below.refl _ _).alloc hsz _), hab.out.trans (.of_below (below_new _ _)), by simp; omega⟩
      · have HC := Lib.hid hcall
        clear hskip hcall
        go_wp2_with fail
        refine (HC.out _ (by first | trivial | rfl) (HJ.out _ _ _ hj.out ((Below.refl _ _).alloc hsz _)) (by simp; omega)).mono ?_
        rintro e w3 ⟨hab3, hr3⟩
        have HA3 := Lib.hid hab3
        have hz3 := hab3.size
        rw [World.size_alloc] at hz3
        clear hab3
        rcases hr3 with ⟨rfl, hj3⟩ | ⟨rfl, hx3⟩
        · have HJ3 := Lib.hid hj3
          clear hj3
          go_wp2
          go_roundg (l.length - (k + 1))
          case measure => omega
          case rel => exact ⟨k + 1, by omega, by omega, by go_num, HJ3.out, (hab.out.trans (.of_below (below_new _ _))).trans HA3.out, by omega⟩
        · have HJ3 := Lib.hid hx3
          clear hx3
          go_wp2
          go_returns
          exact ⟨⟨_, rfl⟩, .inr HJ3.out⟩
    · obtain rfl : k = l.length := by omega
      go_wp2
      go_returns
      exact ⟨⟨_, rfl⟩, .inl hj.out⟩
end Go.Proofs.Ytgbjndlaonalcaa
