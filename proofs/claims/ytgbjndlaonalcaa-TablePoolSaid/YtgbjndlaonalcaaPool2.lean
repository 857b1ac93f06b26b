
/-
  THE WALKS of table's pool: out, Take, Old.
-/
import Derived.Test.YtgbjndlaonalcaaPool
import Derived.BigQuiet
namespace Go.Proofs.Ytgbjndlaonalcaa
open Go.RowKit Go.Proofs.Ytgbjndlaonalcaa.Tab

theorem own_entry {w : World} {B e g n c : Nat} {l : List (Int × Int)} (h : w.ownsRow B e 2 (.slice (some ⟨g, 0, none⟩) n c) n (entVals l)) (i : Nat) (hi : i < l.length) :
    w.cell? ⟨g, i * 2, none⟩ = some (.int .i64 l[i].1) ∧ w.cell? ⟨g, i * 2 + 1, none⟩ = some (.int .i64 l[i].2) := by
  have hl := h.1
  rw [entVals_length] at hl
  exact ⟨(h.cellAt _ (by omega)).trans (entVals_x l i hi), (h.cellAt _ (by omega)).trans (entVals_y l i hi)⟩
theorem own_above {w w' : World} {B e size n : Nat} {v : Value} {xs : List Value} (h : w.ownsRow B e size v n xs) (hb : Below w.heap.size w w') : w'.ownsRow B e size v n xs := by
  refine ⟨h.1, ?_⟩
  rcases h.2 with h2 | ⟨g, cap, cur, hv, hg, hh, r⟩
  · exact .inl h2
  · exact .inr ⟨g, cap, cur, hv, hg, (hb.block g (lt_of_block hh)).trans hh, r⟩
theorem heap_far {w : World} {b o j : Nat} (u : Value) (h : j ≠ b) : (w.setCell ⟨b, o, none⟩ u).heap[j]? = w.heap[j]? := Below.heap_setCell _ _ _ _ h
theorem IsPool.below {w w' : World} {B b : Nat} {v : Value} {l : List (Int × Int)} (h : IsPool w B b v l) (hb : Below w.heap.size w w') : IsPool w' B b v l :=
  ⟨h.few, h.blk.below hb h.blk.lt, own_above h.own hb, h.base⟩

theorem PoolPost.later {w w' w'' : World} {B b : Nat} {l : List (Int × Int)} (h : PoolPost w B b l w') (hb : Below w'.heap.size w' w'') : PoolPost w B b l w'' := by
  obtain ⟨⟨v, hv⟩, hk, hw⟩ := h
  exact ⟨⟨v, hv.below hb⟩, hk.trans (PoolKept.of_below hb), hw.trans (hb.mono (Nat.le_of_lt (Nat.lt_of_le_of_lt hv.base hv.blk.lt)))⟩

set_option maxRecDepth 100000 in
set_option maxHeartbeats 1600000 in
theorem pout_any (w : World) (B b : Nat) (v : Value) (l : List (Int × Int)) (i : Nat) (h : IsPool w B b v l) (hi : i < l.length) (hB : B ≤ w.heap.size) :
    Calls Try.prog 82 #[.pointer (some ⟨b, 0, none⟩), .int .i64 i] w fun e w' => e = .returned (.agg #[.int .i64 l[i].1, .int .i64 l[i].2]) ∧ PoolPost w B b (l.eraseIdx i) w' := by
  obtain ⟨m, hm⟩ : ∃ m, l.length = m + 1 := ⟨l.length - 1, by omega⟩
  have hfew := h.few
  obtain ⟨g, c, cur, rfl, hg, hh, hmc, hcm, hcs, htk⟩ := h.own.2.resolve_left (by omega)
  have hbl : b < w.heap.size := h.blk.lt
  have hgl : g < w.heap.size := lt_of_block hh
  have hO := h.own
  rw [hm] at hO
  have HX := Lib.hid h
  obtain ⟨c1, c2⟩ := own_entry hO i hi
  have c0 : w.cell? ⟨b, 0, none⟩ = some (.slice (some ⟨g, 0, none⟩) (m + 1) c) := by have := h.blk.cell 0; rw [hm] at this; exact this
  have f0 := h.blk.frozen 0
  obtain ⟨y, hy⟩ : ∃ y, y = l[i] := ⟨_, rfl⟩
  rw [← hy] at c1 c2 ⊢
  obtain ⟨k, x⟩ := y
  simp only at c1 c2 ⊢
  have i1 : (i : Int) < (m : Int) + 1 := by omega
  have i2 : ((i : Int) + 1) ≤ 9223372036854775807 := by omega
  have HO := Lib.hid hO
  have HM := Lib.hid hm
  have HI := Lib.hid hi
  clear h hO hh hcs htk hy hm hi
  go_enter Try.func82, Try.ntmps82
  go_wp2_with fail
  have hb0 : Below w.heap.size w ((w.alloc (.cells #[.int .i64 0, .int .i64 0] 130)).alloc (.cells #[.int .i64 k, .int .i64 x] 130)) := (below_new w _).alloc (by simp) _
  have K4 := (Blk.new w 130 #[.int .i64 0, .int .i64 0]).alloc (.cells #[.int .i64 k, .int .i64 x] 130)
  have K5 := Blk.new (w.alloc (.cells #[.int .i64 0, .int .i64 0] 130)) 130 #[.int .i64 k, .int .i64 x]
  rw [World.size_alloc] at K5
  have hsz : ((w.alloc (.cells #[.int .i64 0, .int .i64 0] 130)).alloc (.cells #[.int .i64 k, .int .i64 x] 130)).heap.size = w.heap.size + 2 := by simp
  refine (eclone_any _ B g (m + 1) c l (own_above HO.out hb0) HM.out.symm hfew).mono ?_
  rintro e w1 ⟨g1, k1, rfl, ho1, hb1⟩
  rw [hsz] at hb1 ho1
  rw [HM.out] at ho1 ⊢
  have hg1 : w.heap.size + 2 ≤ g1 := (ho1.lt g1 rfl).1
  have L4 := Lib.hid (K4.below hb1 (by omega))
  have L5 := Lib.hid (K5.below hb1 (by omega))
  have Lb := Lib.hid ((HX.out.blk.below hb0 hbl).below hb1 (by omega))
  have hb2 := Lib.hid (hb0.trans (hb1.mono (by omega)))
  have HO1 := Lib.hid ho1
  clear hb0 K4 K5 hsz ho1 hb1 c0 f0 c1 c2
  go_wp2_with fail
  refine (edelete_any w1 _ g1 m k1 i l HO1.out HM.out hfew (by have := HI.out; have := HM.out; omega)).mono ?_
  rintro e w2 ⟨rfl, ho2, hb3, hk3⟩
  have M4 : Blk w2 w.heap.size 130 #[.int .i64 0, .int .i64 0] := (hk3 _ (by omega)).trans L4.out
  have M5 : Blk w2 (w.heap.size + 1) 130 #[.int .i64 k, .int .i64 x] := (hk3 _ (by omega)).trans L5.out
  have Mb : Blk w2 b 98 #[.slice (some ⟨g, 0, none⟩) l.length c] := (hk3 _ (by omega)).trans Lb.out
  have d40 := M4.cell 0
  have d41 := M4.cell 1
  have e40 := M4.frozen 0
  have e41 := M4.frozen 1
  have d50 := M5.cell 0
  have d51 := M5.cell 1
  have db := Mb.cell 0
  have eb := Mb.frozen 0
  have N4 := Lib.hid M4
  have N5 := Lib.hid M5
  have Nb := Lib.hid Mb
  have HO2 := Lib.hid ho2
  have HB3 := Lib.hid hb3
  have HK3 := Lib.hid hk3
  have hne : b ≠ w.heap.size ∧ b ≠ w.heap.size + 1 := ⟨by omega, by omega⟩
  obtain ⟨n1, n2⟩ := hne
  clear M4 M5 Mb ho2 hb3 hk3
  go_wp2_with fail
  have NF := ((N4.out.far (show w.heap.size ≠ (⟨b, 0, none⟩ : Addr).block from fun e => n1 e.symm) (.slice (some ⟨g1, 0, none⟩) m k1)).set_ 0 (.int .i64 k)).set_ 1 (.int .i64 x)
  refine bodyPost_ret (results_cell_row rfl _ _ w.heap.size 130 #[.int .i64 k, .int .i64 x] (0, 0) _ rfl NF Try.underlying130 rfl (by kernel_rfl)) rfl ?_
  have hm2 := HM.out
  have hW : Below w.heap.size w w2 := hb2.out.trans (HB3.out.mono (by omega))
  have hk : PoolKept b w w2 := PoolKept.of_below hW
  have hlen : (l.eraseIdx i).length = m := by rw [List.length_eraseIdx_of_lt HI.out, HM.out]; rfl
  refine ⟨rfl, ⟨_, ⟨by rw [hlen]; omega, ((Nb.out.set_ 0 _).far (by exact n1) _).far (by exact n1) _, ?_, HX.out.base⟩⟩, ?_, ?_⟩
  · rw [hlen]
    refine own_same (own_mono HO2.out (by omega : B ≤ _)) ?_
    rw [heap_far _ (by omega), heap_far _ (by omega), heap_far _ (by omega)]
  · have h2 := PoolKept.setCell hk (.slice (some ⟨g1, 0, none⟩) m k1)
    refine ⟨by simp [World.setCell]; exact hW.size, fun j hj hjb hje => ?_⟩
    rw [heap_far _ (by omega), heap_far _ (by omega)]
    exact h2.block j hj hjb hje
  · exact (((hW.mono hB).setCell HX.out.base _).setCell hB _).setCell hB _

theorem last_upto (l : List (Int × Int)) (k : Int) : ∀ n, n ≤ l.length → (∃ i, ∃ hi : i < l.length, i < n ∧ l[i].1 = k ∧ ∀ j (hj : j < l.length), i < j → j < n → l[j].1 ≠ k) ∨ (∀ j (hj : j < l.length), j < n → l[j].1 ≠ k)
  | 0, _ => .inr fun j _ h => absurd h (Nat.not_lt_zero _)
  | n + 1, h => by
    by_cases hk : (l[n]'(by omega)).1 = k
    · exact .inl ⟨n, by omega, by omega, hk, fun j _ h1 h2 => by omega⟩
    · have fin : ∀ j (hj : j < l.length), j < n + 1 → ¬ j < n → l[j].1 ≠ k := fun j hj h1 h2 => by
        obtain rfl : j = n := by omega
        exact hk
      rcases last_upto l k n (by omega) with ⟨i, hi, hin, he, ho⟩ | ho
      · refine .inl ⟨i, hi, by omega, he, fun j hj h1 h2 => ?_⟩
        by_cases hjn : j < n
        · exact ho j hj h1 hjn
        · exact fin j hj h2 hjn
      · refine .inr fun j hj h2 => ?_
        by_cases hjn : j < n
        · exact ho j hj hjn
        · exact fin j hj h2 hjn
/-- The last entry of a key, or none. -/
theorem last_or (l : List (Int × Int)) (k : Int) : (∃ i, ∃ hi : i < l.length, l[i].1 = k ∧ ∀ j (hj : j < l.length), i < j → l[j].1 ≠ k) ∨ (∀ j (hj : j < l.length), l[j].1 ≠ k) := by
  rcases last_upto l k l.length (Nat.le_refl _) with ⟨i, hi, _, he, ho⟩ | ho
  · exact .inl ⟨i, hi, he, fun j hj h1 => ho j hj h1 hj⟩
  · exact .inr fun j hj => ho j hj hj

set_option maxRecDepth 100000 in
set_option maxHeartbeats 1600000 in
theorem ptake_no (w : World) (B b : Nat) (v : Value) (l : List (Int × Int)) (k : Int) (h : IsPool w B b v l) (hno : ∀ j (hj : j < l.length), l[j].1 ≠ k) :
    Calls Try.prog 60 #[.pointer (some ⟨b, 0, none⟩), .int .i64 k] w fun e w' => e = .returned (.tuple #[.int .i64 0, .bool false]) ∧ w = w' := by
  have hfew := h.few
  have HX := Lib.hid h
  have HN := Lib.hid hno
  clear h hno
  go_enter Try.func60, Try.ntmps60
  go_wp2_with (go_at_call 63; refine (plen_any _ B b v l HX.out).mono ?_; rintro e w' ⟨rfl, rfl⟩)
  go_loop [4, 6] (fun s i => ∃ j : Nat, j ≤ l.length ∧ i = .int .i64 ((j : Int) - 1) ∧ s = .int .i64 0) (fun _ i => (intOf i + 1).toNat)
  case atStart => exact ⟨l.length, Nat.le_refl _, by first | rfl | go_num, rfl⟩
  case round =>
    obtain ⟨j, hj, rfl, rfl⟩ := hrel
    rcases Nat.eq_zero_or_pos j with rfl | hpos
    · go_wp2
      go_ret2
      exact ⟨rfl, rfl⟩
    · obtain ⟨p, rfl⟩ : ∃ p, j = p + 1 := ⟨j - 1, by omega⟩
      have e1 : ((p + 1 : Nat) : Int) - 1 = (p : Int) := by omega
      obtain ⟨A, c, rfl, _, _⟩ := own_slice HX.out.own
      obtain ⟨g, hA⟩ : ∃ g, A = some ⟨g, 0, none⟩ := by
        rcases HX.out.own.2 with ⟨h1, h2⟩ | ⟨g, cap, cur, hv, _⟩
        · omega
        · injection hv with hv; exact ⟨g, hv⟩
      subst hA
      obtain ⟨d0, d1⟩ := own_entry HX.out.own p (by omega)
      have c0 : w.cell? ⟨b, 0, none⟩ = some (.slice (some ⟨g, 0, none⟩) l.length c) := HX.out.blk.cell 0
      have hne := HN.out p (by omega)
      obtain ⟨y, hy⟩ : ∃ y, y = l[p] := ⟨_, rfl⟩
      rw [← hy] at d0 d1 hne
      obtain ⟨y1, y2⟩ := y
      simp only at d0 d1 hne
      have e2 : (y1 == k) = false := by simpa using hne
      have e3 : (p : Int) < (l.length : Int) := by omega
      rw [e1]
      clear hy
      go_wp2
      go_round
      case rel => exact ⟨p, by omega, by first | rfl | go_num, rfl⟩
      case measure => simp [intOf]

set_option maxRecDepth 100000 in
set_option maxHeartbeats 1600000 in
theorem ptake_yes (w : World) (B b : Nat) (v : Value) (l : List (Int × Int)) (k : Int) (i : Nat) (h : IsPool w B b v l) (hi : i < l.length) (hk : l[i].1 = k) (hno : ∀ j (hj : j < l.length), i < j → l[j].1 ≠ k) (hB : B ≤ w.heap.size) :
    Calls Try.prog 60 #[.pointer (some ⟨b, 0, none⟩), .int .i64 k] w fun e w' => e = .returned (.tuple #[.int .i64 l[i].2, .bool true]) ∧ PoolPost w B b (l.eraseIdx i) w' := by
  have hfew := h.few
  have HO := Lib.hid (pout_any w B b v l i h hi hB)
  have HX := Lib.hid h
  have HN := Lib.hid hno
  have HK := Lib.hid hk
  obtain ⟨A, c, rfl, _, _⟩ := own_slice h.own
  obtain ⟨g, hA⟩ : ∃ g, A = some ⟨g, 0, none⟩ := by
    rcases h.own.2 with ⟨h1, h2⟩ | ⟨g, cap, cur, hv, _⟩
    · omega
    · injection hv with hv; exact ⟨g, hv⟩
  subst hA
  have c0 : w.cell? ⟨b, 0, none⟩ = some (.slice (some ⟨g, 0, none⟩) l.length c) := h.blk.cell 0
  obtain ⟨y, hy⟩ : ∃ y, y = l[i] := ⟨_, rfl⟩
  rw [← hy] at HO HK ⊢
  have HY := Lib.hid hy
  obtain ⟨y1, y2⟩ := y
  have hk2 := HK.out
  simp only at hk2
  subst hk2
  have hfield : ∀ w' : World, (Instr.field 130 (.agg #[.int .i64 y1, .int .i64 y2]) 1).run Try.prog w' = .ok (.int .i64 y2) w' := fun w' => by kernel_rfl
  clear h hno hk hy
  go_enter Try.func60, Try.ntmps60
  go_wp2_with (go_at_call 63; refine (plen_any _ B b _ l HX.out).mono ?_; rintro e w' ⟨rfl, rfl⟩)
  go_loop [6] (fun s => ∃ p : Nat, i ≤ p ∧ p < l.length ∧ s = .int .i64 p) (fun s => (intOf s).toNat)
  case atStart => exact ⟨l.length - 1, by omega, by omega, by rw [show ((l.length - 1 : Nat) : Int) = (l.length : Int) - 1 by omega]⟩
  case round =>
    obtain ⟨p, hp, hpl, rfl⟩ := hrel
    obtain ⟨d0, d1⟩ := own_entry HX.out.own p hpl
    have e3 : (p : Int) < (l.length : Int) := by omega
    by_cases hpi : p = i
    · subst hpi
      rw [← HY.out] at d0 d1
      simp only at d0 d1
      go_wp2_with (go_at_call 82; refine HO.out.mono ?_; rintro e w' ⟨rfl, hpost⟩)
      go_ret2
      exact ⟨rfl, hpost⟩
    · have hne := HN.out p hpl (by omega)
      obtain ⟨z, hz⟩ : ∃ z, z = l[p] := ⟨_, rfl⟩
      rw [← hz] at d0 d1 hne
      obtain ⟨z1, z2⟩ := z
      simp only at d0 d1 hne
      have e2 : (z1 == y1) = false := by simpa using hne
      clear hz
      go_wp2
      go_round
      case rel => exact ⟨p - 1, by omega, by omega, by rw [show ((p - 1 : Nat) : Int) = (p : Int) - 1 by omega]⟩
      case measure => simp [intOf]; omega

set_option maxRecDepth 100000 in
set_option maxHeartbeats 1600000 in
theorem pold_no (w : World) (B b : Nat) (v : Value) (h : IsPool w B b v []) :
    Calls Try.prog 62 #[.pointer (some ⟨b, 0, none⟩)] w fun e w' => e = .returned (.tuple #[.int .i64 0, .int .i64 0, .bool false]) ∧ w = w' := by
  have HX := Lib.hid h
  clear h
  go_enter Try.func62, Try.ntmps62
  go_wp2_with (go_at_call 63; refine (plen_any _ B b _ [] HX.out).mono ?_; rintro e w' ⟨rfl, rfl⟩)
  go_ret3
  exact ⟨rfl, rfl⟩

set_option maxRecDepth 100000 in
set_option maxHeartbeats 1600000 in
theorem pold_yes (w : World) (B b : Nat) (v : Value) (k x : Int) (l : List (Int × Int)) (h : IsPool w B b v ((k, x) :: l)) (hB : B ≤ w.heap.size) :
    Calls Try.prog 62 #[.pointer (some ⟨b, 0, none⟩)] w fun e w' => e = .returned (.tuple #[.int .i64 k, .int .i64 x, .bool true]) ∧ PoolPost w B b l w' := by
  have hfew := h.few
  have HX := Lib.hid h
  have HO := Lib.hid (pout_any w B b v _ 0 h (by simp) hB)
  have hlen : ((k, x) :: l).length = l.length + 1 := rfl
  clear h
  go_enter Try.func62, Try.ntmps62
  go_wp2_with (first
    | (go_at_call 63; refine (plen_any _ B b _ _ HX.out).mono ?_; rintro e w' ⟨rfl, rfl⟩; rw [hlen])
    | (go_at_call 82; refine HO.out.mono ?_; rintro e w1 ⟨rfl, hpost⟩; have HP := Lib.hid hpost; clear hpost))
  go_quiet (fail)
  go_wp2
  go_ret3
  exact ⟨rfl, PoolPost.later HP.out (below_drewN (below_new w1 _) _)⟩
end Go.Proofs.Ytgbjndlaonalcaa
