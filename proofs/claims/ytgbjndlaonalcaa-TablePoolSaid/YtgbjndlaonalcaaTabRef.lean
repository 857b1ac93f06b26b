
/-
  THE WALKS of the document's slots: Len, Get, Put, Drop.
-/
import Derived.Test.YtgbjndlaonalcaaTab
namespace Go.Proofs.Ytgbjndlaonalcaa
open Go.RowKit Go.Proofs.Ytgbjndlaonalcaa.Tab

theorem info_rslot : (Try.prog.info? 124).map (fun i => (i.zero, i.size, i.bytes)) = some (some (.agg #[.int .i64 0, .bool false]), 2, 16) := by kernel_rfl

/-- The slots l lie in a row from block B on. -/
structure RSlots (w : World) (B g n c : Nat) (l : Slots) : Prop where
  few : l.length ≤ 1000
  len : l.length = n
  own : w.ownsRow B 124 2 (.slice (some ⟨g, 0, none⟩) n c) n (slotVals l)

section
variable {w w' : World} {B g n c : Nat} {l : Slots}
theorem RSlots.lt (h : RSlots w B g n c l) : B ≤ g ∧ g < w.heap.size := h.own.lt g rfl
theorem RSlots.kept (h : RSlots w B g n c l) (hb : w'.heap[g]? = w.heap[g]?) : RSlots w' B g n c l := by
  refine ⟨h.few, h.len, h.own.1, ?_⟩
  rcases h.own.2 with h2 | ⟨g', cap, cur, hv, hg, hh, r⟩
  · exact .inl h2
  · injection hv with hv
    injection hv with hv
    injection hv with hv
    subst hv
    exact .inr ⟨g, cap, cur, by simp_all, hg, hb.trans hh, r⟩
theorem RSlots.below (h : RSlots w B g n c l) (hb : Below w.heap.size w w') : RSlots w' B g n c l := h.kept (hb.block g h.lt.2)
theorem RSlots.slot (h : RSlots w B g n c l) (i : Nat) (hi : i < l.length) : w.cell? ⟨g, i * 2, none⟩ = some (.int .i64 l[i].1) ∧ w.cell? ⟨g, i * 2 + 1, none⟩ = some (.bool l[i].2) ∧ ∀ j, w.frozen? ⟨g, j, none⟩ = false :=
  ⟨(h.own.cellAt _ (by have := h.len; omega)).trans (slotVals_x l i hi), (h.own.cellAt _ (by have := h.len; omega)).trans (slotVals_in l i hi), fun j => h.own.frozenAt j⟩
end

theorem full_take (l : Slots) (k : Nat) (hk : k < l.length) : full (l.take (k + 1)) = full (l.take k) + (if l[k].2 = true then 1 else 0) := by
  rw [List.take_succ_eq_append_getElem hk]
  unfold full
  rw [List.countP_append]
  simp [List.countP_cons]
theorem full_take_le (l : Slots) (k : Nat) : full (l.take k) ≤ k := by
  have := full_le (l.take k)
  have h2 := List.length_take_le k l
  omega

set_option maxRecDepth 100000 in
set_option maxHeartbeats 800000 in
theorem rlen_any (w : World) (B g n c : Nat) (l : Slots) (h : RSlots w B g n c l) :
    Calls Try.prog 78 #[.slice (some ⟨g, 0, none⟩) n c] w fun e w' => e = .returned (.int .i64 (full l)) ∧ w = w' := by
  have hn := h.len
  subst hn
  have hfew := h.few
  have HX := Lib.hid h
  clear h
  go_enter Try.func78, Try.ntmps78
  go_wp2
  go_loop [3, 4] (fun s i => ∃ k : Nat, k ≤ l.length ∧ i = .int .i64 k ∧ s = .int .i64 (full (l.take k))) (fun _ i => l.length - (intOf i).toNat)
  case atStart => exact ⟨0, Nat.zero_le _, rfl, rfl⟩
  case round =>
    obtain ⟨k, hk, rfl, rfl⟩ := hrel
    by_cases hlt : k < l.length
    · obtain ⟨s0, s1, sf⟩ := HX.out.slot k hlt
      have hft := full_take l k hlt
      have hfl := full_take_le l k
      obtain ⟨m, hm⟩ : ∃ m, m = full (l.take k) := ⟨_, rfl⟩
      rw [← hm] at hft hfl ⊢
      obtain ⟨y, hy⟩ : ∃ y, y = l[k] := ⟨_, rfl⟩
      rw [← hy] at s0 s1 hft
      obtain ⟨y1, y2⟩ := y
      have i0 : (m : Int) ≤ 1000 := by omega
      cases y2
      · have HT : Hid (full (l.take (k + 1)) = m) := by show _ = _; simpa using hft
        clear hft hm hy
        go_wp2
        go_round
        case rel => exact ⟨k + 1, by omega, by go_num, by rw [HT.out]⟩
        case measure => simp [intOf]; omega
      · have HT : Hid (full (l.take (k + 1)) = m + 1) := by show _ = _; simpa using hft
        clear hft hm hy
        go_wp2
        go_round
        case rel => exact ⟨k + 1, by omega, by go_num, by rw [HT.out]; go_num⟩
        case measure => simp [intOf]; omega
    · obtain rfl : k = l.length := by omega
      have HT : Hid (full (l.take l.length) = full l) := by show _ = _; rw [List.take_length]
      go_wp2
      go_ret
      exact ⟨ret_int (by first | rfl | rw [HT.out]), rfl⟩

/-! ### Get -/
/-- What the document tells of a place. -/
def rgetV (l : Slots) (n : Int) : Int × Bool := if (getV l n).2 = true then getV l n else (0, false)
set_option maxRecDepth 100000 in
set_option maxHeartbeats 800000 in
theorem rget_any (w : World) (B g n c : Nat) (l : Slots) (p : Int) (h : RSlots w B g n c l) :
    Calls Try.prog 51 #[.slice (some ⟨g, 0, none⟩) n c, .int .i64 p] w fun e w' => e = .returned (.tuple #[.int .i64 (rgetV l p).1, .bool (rgetV l p).2]) ∧ w = w' := by
  have hn := h.len
  subst hn
  have hfew := h.few
  by_cases hin : 0 ≤ p ∧ p.toNat < l.length
  · obtain ⟨i, rfl⟩ := Int.eq_ofNat_of_zero_le hin.1
    have hi : i < l.length := by simpa using hin.2
    have hg : getV l i = l[i] := by unfold getV; rw [dif_pos hin]; simp
    obtain ⟨s0, s1, sf⟩ := h.slot i hi
    obtain ⟨y, hy⟩ : ∃ y, y = l[i] := ⟨_, rfl⟩
    rw [← hy] at s0 s1 hg
    have hr : rgetV l i = if y.2 = true then y else (0, false) := by unfold rgetV; rw [hg]
    obtain ⟨y1, y2⟩ := y
    have i1 : (0 : Int) ≤ (i : Int) := by omega
    have i2 : (i : Int) < (l.length : Int) := by omega
    have i3 : ¬ (l.length : Int) ≤ (i : Int) := by omega
    have HR := Lib.hid hr
    clear h hin hg hy hr
    cases y2
    all_goals
      go_enter Try.func51, Try.ntmps51
      go_wp2
      go_ret2
      exact ⟨by rw [HR.out]; rfl, rfl⟩
  · have hg : rgetV l p = (0, false) := by unfold rgetV getV; rw [dif_neg hin]; rfl
    have HG := Lib.hid hg
    clear h hg
    by_cases h1 : p < 0
    · go_enter Try.func51, Try.ntmps51
      go_wp2
      go_ret2
      exact ⟨by rw [HG.out]; rfl, rfl⟩
    · have h2 : (l.length : Int) ≤ p := by omega
      clear hin
      go_enter Try.func51, Try.ntmps51
      go_wp2
      go_ret2
      exact ⟨by rw [HG.out]; rfl, rfl⟩

/-! ### Put, Drop: a copy, one slot of it written -/
theorem RSlots.stored {w : World} {B g n c : Nat} {l : Slots} (h : RSlots w B g n c l) (i : Nat) (hi : i < l.length) (x : Int) (b : Bool) :
    RSlots ((w.setCell ⟨g, i * 2, none⟩ (.int .i64 x)).setCell ⟨g, i * 2 + 1, none⟩ (.bool b)) B g n c (l.set i (x, b)) := by
  refine ⟨by simpa using h.few, by simpa using h.len, ?_⟩
  have h1 := (h.own.stored (i * 2) (.int .i64 x)).1
  have h2 := (h1.stored (i * 2 + 1) (.bool b)).1
  rw [slotVals_set x b l i hi] at h2
  exact h2
theorem slot_one (l : Slots) : ∀ u ∈ slotVals l, u.oneCell' = true := by
  intro u hu
  unfold slotVals at hu
  simp only [List.mem_flatMap, List.mem_cons, List.not_mem_nil, or_false] at hu
  obtain ⟨p, _, rfl | rfl⟩ := hu <;> rfl
theorem RSlots.mono {w : World} {B B' g n c : Nat} {l : Slots} (h : RSlots w B g n c l) (hB : B' ≤ B) : RSlots w B' g n c l := ⟨h.few, h.len, own_mono h.own hB⟩

/-- What Put or Drop leave: the new slots in a new row. -/
def RPost (w : World) (l : Slots) (n : Nat) (rest : List Value) (e : Ending) (w' : World) : Prop :=
  ∃ g c, e = .returned (.tuple (#[.slice (some ⟨g, 0, none⟩) n c] ++ rest.toArray)) ∧ RSlots w' w.heap.size g n c l ∧ Below w.heap.size w w'

set_option maxRecDepth 100000 in
set_option maxHeartbeats 1600000 in
theorem rput_room (w : World) (B g n c : Nat) (l : Slots) (x : Int) (h : RSlots w B g n c l) (hf : full l < l.length) :
    Calls Try.prog 48 #[.slice (some ⟨g, 0, none⟩) n c, .int .i64 x] w (RPost w (l.set (free l) (x, true)) n [.int .i64 (free l), .bool true]) := by
  have hn := h.len
  subst hn
  obtain ⟨i0, hi, hz⟩ := info_hid info_rslot
  have hfew := h.few
  have hfl := free_lt hf
  have HX := Lib.hid h
  have HR := Lib.hid (Reads.of_own h.own)
  have HF := Lib.hid hf
  clear h hf
  go_enter Try.func48, Try.ntmps48
  go_wp2
  go_loop [7] (fun i => ∃ k : Nat, k ≤ free l ∧ i = .int .i64 k) (fun i => l.length - (intOf i).toNat)
  case atStart => exact ⟨0, Nat.zero_le _, rfl⟩
  case round =>
    obtain ⟨k, hk, rfl⟩ := hrel
    have hkl : k < l.length := by omega
    obtain ⟨s0, s1, sf⟩ := HX.out.slot k hkl
    obtain ⟨y, hy⟩ : ∃ y, y = l[k] := ⟨_, rfl⟩
    rw [← hy] at s0 s1
    have HY := Lib.hid hy
    clear hy
    by_cases hkf : k = free l
    · have hfr : y.2 = false := by rw [HY.out]; subst hkf; exact free_is hkl
      have HK := Lib.hid hkf
      obtain ⟨y1, y2⟩ := y
      simp only at hfr s0 s1
      subst hfr
      have H1 : Hid (0 + l.length ≤ maxLen) := by show _ ≤ _; unfold maxLen; omega
      have H2 : Hid ((0 + l.length) * 16 ≤ 140737488355328) := by show _ ≤ _; omega
      have HS := Lib.hid (slot_one l)
      have HL := Lib.hid (World.ownsRow_lit (base := w.heap.size) (e := 124) (size := 2) w #[] 0 (Nat.le_refl _) (by decide) rfl)
      have HRa := Lib.hid (HR.out.alloc (Nat.le_refl _) (.cells #[] 124))
      clear hkf
      go_wp2_with (at_builtin; refine wpList_append_any _ rfl (.tmp 21) (.tmp 22) _ rfl w.heap.size 124 i0 _ 2 16 Try.underlying77 hi.out hz.out.1 hz.out.2.1 hz.out.2.2 rfl (by omega) _ 0 [] (by rfl) HL.out w.heap.size _ l.length c (slotVals l) rfl HRa.out HS.out H1.out H2.out (by simp) ?_; intro v1 w1 hown1 hg1 hat1; (rw [Nat.zero_add] at hown1); obtain ⟨g1, c1, rfl, hB1, hl1⟩ := hown1.form (by omega); have XO : RSlots w1 w.heap.size g1 l.length c1 l := (⟨hfew, rfl, by simpa using hown1⟩); obtain ⟨t0, t1, tf⟩ := XO.slot k hkl; have HO := Lib.hid XO; have HG1 := Lib.hid hg1; clear hown1 hg1 hat1 XO)
      go_ret3
      obtain rfl := HK.out
      refine ⟨g1, c1, rfl, HO.out.stored _ hkl x true, ?_⟩
      have hb1 : Below w.heap.size w w1 := ((Below.refl _ w).alloc (Nat.le_refl _) _).grown HG1.out (by simp) (by simp [Value.ownBlock])
      exact (hb1.setCell hB1 _).setCell hB1 _
    · have hfr : y.2 = true := by rw [HY.out]; exact free_before (by omega) hkl
      obtain ⟨y1, y2⟩ := y
      simp only at hfr s0 s1
      subst hfr
      go_wp2
      go_round
      case rel => exact ⟨k + 1, by omega, by go_num⟩
      case measure => simp [intOf]; omega
theorem full_all {l : Slots} (h : full l = l.length) (k : Nat) (hk : k < l.length) : l[k].2 = true := by
  unfold full at h
  rw [List.countP_eq_length] at h
  exact h _ (List.getElem_mem hk)

set_option maxRecDepth 100000 in
set_option maxHeartbeats 1600000 in
theorem rput_full (w : World) (B g n c : Nat) (l : Slots) (x : Int) (h : RSlots w B g n c l) (hf : full l = l.length) :
    Calls Try.prog 48 #[.slice (some ⟨g, 0, none⟩) n c, .int .i64 x] w fun e w' => e = .returned (.tuple #[.slice (some ⟨g, 0, none⟩) n c, .int .i64 0, .bool false]) ∧ w = w' := by
  have hn := h.len
  subst hn
  have hfew := h.few
  have HX := Lib.hid h
  have HF := Lib.hid hf
  clear h hf
  go_enter Try.func48, Try.ntmps48
  go_wp2
  go_loop [7] (fun i => ∃ k : Nat, k ≤ l.length ∧ i = .int .i64 k) (fun i => l.length - (intOf i).toNat)
  case atStart => exact ⟨0, Nat.zero_le _, rfl⟩
  case round =>
    obtain ⟨k, hk, rfl⟩ := hrel
    by_cases hkl : k < l.length
    · obtain ⟨s0, s1, sf⟩ := HX.out.slot k hkl
      have hin := full_all HF.out k hkl
      obtain ⟨y, hy⟩ : ∃ y, y = l[k] := ⟨_, rfl⟩
      rw [← hy] at s0 s1 hin
      clear hy
      obtain ⟨y1, y2⟩ := y
      simp only at hin s0 s1
      subst hin
      go_wp2
      go_round
      case rel => exact ⟨k + 1, by omega, by go_num⟩
      case measure => simp [intOf]; omega
    · obtain rfl : k = l.length := by omega
      go_wp2
      go_ret3
      exact ⟨rfl, rfl⟩

set_option maxRecDepth 100000 in
set_option maxHeartbeats 1600000 in
theorem rdrop_no (w : World) (B g n c : Nat) (l : Slots) (p : Int) (h : RSlots w B g n c l) (hf : (getV l p).2 = false) :
    Calls Try.prog 52 #[.slice (some ⟨g, 0, none⟩) n c, .int .i64 p] w fun e w' => e = .returned (.tuple #[.slice (some ⟨g, 0, none⟩) n c, .bool false]) ∧ w = w' := by
  have hr := rget_any w B g n c l p h
  have hv : (rgetV l p).2 = false := by unfold rgetV; rw [hf]; rfl
  rw [hv] at hr
  have HR := Lib.hid hr
  clear hr hv h hf
  go_enter Try.func52, Try.ntmps52
  go_wp2_with (go_at_call 51; refine HR.out.mono ?_; rintro e w' ⟨rfl, rfl⟩)
  go_ret2
  exact ⟨rfl, rfl⟩

set_option maxRecDepth 100000 in
set_option maxHeartbeats 1600000 in
theorem rdrop_yes (w : World) (B g n c : Nat) (l : Slots) (i : Nat) (h : RSlots w B g n c l) (hi : i < l.length) (hf : l[i].2 = true) :
    Calls Try.prog 52 #[.slice (some ⟨g, 0, none⟩) n c, .int .i64 i] w (RPost w (l.set i (0, false)) n [.bool true]) := by
  have hn := h.len
  subst hn
  have hr := rget_any w B g l.length c l i h
  have hgv : getV l i = l[i] := by unfold getV; rw [dif_pos ⟨by omega, by simpa using hi⟩]; simp
  have hv : (rgetV l i).2 = true := by unfold rgetV; rw [hgv, hf]; simpa using hf
  rw [hv] at hr
  obtain ⟨i0, hi0, hz⟩ := info_hid info_rslot
  have hfew := h.few
  have HRe := Lib.hid (Reads.of_own h.own)
  have HR := Lib.hid hr
  have H1 : Hid (0 + l.length ≤ maxLen) := by show _ ≤ _; unfold maxLen; omega
  have H2 : Hid ((0 + l.length) * 16 ≤ 140737488355328) := by show _ ≤ _; omega
  have HS := Lib.hid (slot_one l)
  have HL := Lib.hid (World.ownsRow_lit (base := w.heap.size) (e := 124) (size := 2) w #[] 0 (Nat.le_refl _) (by decide) rfl)
  have HRa := Lib.hid (HRe.out.alloc (Nat.le_refl _) (.cells #[] 124))
  have i1 : (0 : Int) ≤ (i : Int) := by omega
  have i2 : (i : Int) < (l.length : Int) := by omega
  clear hr hgv hv h hf
  go_enter Try.func52, Try.ntmps52
  go_wp2_with (first
    | (go_at_call 51; refine HR.out.mono ?_; rintro e w' ⟨rfl, rfl⟩)
    | (at_builtin; refine wpList_append_any _ rfl (.tmp 18) (.tmp 19) _ rfl w.heap.size 124 i0 _ 2 16 Try.underlying77 hi0.out hz.out.1 hz.out.2.1 hz.out.2.2 rfl (by omega) _ 0 [] (by rfl) HL.out w.heap.size _ l.length c (slotVals l) rfl HRa.out HS.out H1.out H2.out (by simp) ?_; intro v1 w1 hown1 hg1 hat1; (rw [Nat.zero_add] at hown1); obtain ⟨g1, c1, rfl, hB1, hl1⟩ := hown1.form (by omega); have XO : RSlots w1 w.heap.size g1 l.length c1 l := (⟨hfew, rfl, by simpa using hown1⟩); obtain ⟨t0, t1, tf⟩ := XO.slot i hi; have HO := Lib.hid XO; have HG1 := Lib.hid hg1; clear hown1 hg1 hat1 XO))
  go_ret2
  refine ⟨g1, c1, rfl, HO.out.stored i hi 0 false, ?_⟩
  have hb1 : Below w.heap.size w w1 := ((Below.refl _ w).alloc (Nat.le_refl _) _).grown HG1.out (by simp) (by simp [Value.ownBlock])
  exact (hb1.setCell hB1 _).setCell hB1 _
end Go.Proofs.Ytgbjndlaonalcaa
