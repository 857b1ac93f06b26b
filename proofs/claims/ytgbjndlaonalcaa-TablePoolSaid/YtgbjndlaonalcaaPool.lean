
/-
  THE WALKS of table's pool: Len, Put, slices.Clone and slices.Delete at its entries.
-/
import Derived.Test.YtgbjndlaonalcaaPoolLaws
import Derived.Test.YtgbjndlaonalcaaTab
import Derived.StillTailTactics
import Derived.Deep.DeepCutAuto
namespace Go.Proofs.Ytgbjndlaonalcaa
open Go.RowKit Go.Proofs.Ytgbjndlaonalcaa.Tab

theorem info_entry : (Try.prog.info? 130).map (fun i => (i.zero, i.size, i.bytes)) = some (some (.agg #[.int .i64 0, .int .i64 0]), 2, 16) := by kernel_rfl

theorem own_slice {w : World} {B e size n : Nat} {v : Value} {xs : List Value} (h : w.ownsRow B e size v n xs) : ∃ A c, v = .slice A n c ∧ n ≤ c ∧ c ≤ maxLen := by
  rcases h.2 with ⟨rfl, rfl⟩ | ⟨g, cap, cur, hv, _, _, hn, hc, _⟩
  · exact ⟨none, 0, rfl, Nat.le_refl _, Nat.zero_le _⟩
  · exact ⟨_, cap, hv, hn, hc⟩
theorem own_same {w w' : World} {B e size n m g c : Nat} {xs : List Value} (h : w.ownsRow B e size (.slice (some ⟨g, 0, none⟩) m c) n xs) (hb : w'.heap[g]? = w.heap[g]?) : w'.ownsRow B e size (.slice (some ⟨g, 0, none⟩) m c) n xs := by
  refine ⟨h.1, ?_⟩
  rcases h.2 with h2 | ⟨g', cap, cur, hv, hg, hh, r⟩
  · exact .inl h2
  · refine .inr ⟨g', cap, cur, hv, hg, ?_, r⟩
    injection hv with hv
    injection hv with hv
    injection hv with hv
    subst hv
    exact hb.trans hh

/-- The pool's cell b holds a row of the entries l, in a block of the call's own. -/
structure IsPool (w : World) (B b : Nat) (v : Value) (l : List (Int × Int)) : Prop where
  few : l.length ≤ 1000
  blk : Blk w b 98 #[v]
  own : w.ownsRow B 130 2 v l.length (entVals l)
  base : B ≤ b
/-- All but the pool's cell and the rows of entries is as it was. -/
structure PoolKept (b : Nat) (w w' : World) : Prop where
  size : w.heap.size ≤ w'.heap.size
  block : ∀ k, k < w.heap.size → k ≠ b → (∀ cur, w.heap[k]? ≠ some (.cells cur 130 (0, 0))) → w'.heap[k]? = w.heap[k]?
theorem PoolKept.of_below {b : Nat} {w w' : World} (h : Below w.heap.size w w') : PoolKept b w w' := ⟨h.size, fun k hk _ _ => h.block k hk⟩
theorem PoolKept.trans {b : Nat} {w w' w'' : World} (h : PoolKept b w w') (k : PoolKept b w' w'') : PoolKept b w w'' :=
  ⟨Nat.le_trans h.size k.size, fun i hi hb hc => (k.block i (Nat.lt_of_lt_of_le hi h.size) hb (by rw [h.block i hi hb hc]; exact hc)).trans (h.block i hi hb hc)⟩
theorem PoolKept.setCell {b : Nat} {w w' : World} (h : PoolKept b w w') (u : Value) : PoolKept b w (w'.setCell ⟨b, 0, none⟩ u) :=
  ⟨by simp [World.setCell]; exact h.size, fun k hk hb hc => (Below.heap_setCell _ _ _ _ hb).trans (h.block k hk hb hc)⟩

set_option maxRecDepth 100000 in
set_option maxHeartbeats 800000 in
theorem plen_any (w : World) (B b : Nat) (v : Value) (l : List (Int × Int)) (h : IsPool w B b v l) :
    Calls Try.prog 63 #[.pointer (some ⟨b, 0, none⟩)] w fun e w' => e = .returned (.int .i64 l.length) ∧ w = w' := by
  obtain ⟨A, c, rfl, _, _⟩ := own_slice h.own
  have hfew := h.few
  have c0 : w.cell? ⟨b, 0, none⟩ = some (.slice A l.length c) := h.blk.cell 0
  clear h
  go_enter Try.func63, Try.ntmps63
  go_wp2
  go_ret
  exact ⟨rfl, rfl⟩

/-- What a call leaves that changes the pool. -/
def PoolPost (w : World) (B b : Nat) (l : List (Int × Int)) (w' : World) : Prop := (∃ v, IsPool w' B b v l) ∧ PoolKept b w w' ∧ Below B w w'

set_option maxRecDepth 100000 in
set_option maxHeartbeats 1600000 in
theorem pput_any (w : World) (B b : Nat) (v : Value) (l : List (Int × Int)) (k x : Int) (h : IsPool w B b v l) (hl : l.length < 1000) (hB : B ≤ w.heap.size) :
    Calls Try.prog 59 #[.pointer (some ⟨b, 0, none⟩), .int .i64 k, .int .i64 x] w fun e w' => (∃ r, e = .returned r) ∧ PoolPost w B b (l ++ [(k, x)]) w' := by
  have c0 : w.cell? ⟨b, 0, none⟩ = some v := h.blk.cell 0
  have f0 := h.blk.frozen 0
  obtain ⟨i0, hi, hz⟩ := info_hid info_entry
  have H5 : Hid (l.length + 1 ≤ maxLen) := by show _ ≤ _; unfold maxLen; omega
  have H6 : Hid ((l.length + 1) * 16 ≤ 140737488355328) := by show _ ≤ _; omega
  have HX := Lib.hid h
  clear h
  go_enter Try.func59, Try.ntmps59
  go_wp2_with (at_builtin; refine wpList_append_at rfl (.tmp 12) (.tmp 16) 96 rfl B 130 Try.underlying96 hi hz rfl (by decide) w [.int .i64 k, .int .i64 x] HX.out.own rfl rfl rfl (one_ent _ _) H5.out H6.out hB ?_; intro g4 c4 w4 hown4 hgrow4 hat4; have K4 : Blk w4 b 98 #[v] := (HX.out.blk.grown hgrow4 (Ne.symm (own_blk_ne HX.out.own HX.out.blk (by decide)))); have d0 := K4.cell 0; have g0 := K4.frozen 0; have KK := Lib.hid K4; have O4 := Lib.hid hown4; have G4 := Lib.hid hgrow4; have A4 := Lib.hid hat4; clear hown4 hgrow4 hat4 K4)
  go_returns
  have hnb : g4 ≠ b := by
    rintro rfl
    obtain ⟨g', cap', cur', hv', _, hh', _⟩ := O4.out.2.resolve_left (by simp)
    injection hv' with hv'
    injection hv' with hv'
    injection hv' with hv'
    subst hv'
    exact Blk.ne_ (show Blk _ _ _ _ from hh') KK.out (by decide) rfl
  have hlen : (l ++ [(k, x)]).length = l.length + 1 := by simp
  refine ⟨⟨_, rfl⟩, ⟨_, ⟨by rw [hlen]; omega, KK.out.set_ 0 _, ?_, HX.out.base⟩⟩, ?_, ?_⟩
  · rw [hlen, entVals_snoc]
    exact own_same O4.out (Below.heap_setCell _ _ _ _ hnb)
  · refine PoolKept.setCell ⟨G4.out.size, fun j hj hjb hje => ?_⟩ _
    refine G4.out.block j hj (fun e => ?_)
    rcases HX.out.own.2 with ⟨rfl, _⟩ | ⟨g', cap', cur', rfl, _, hh', _⟩
    · simp [Value.ownBlock] at e
    · simp [Value.ownBlock] at e
      subst e
      exact hje _ hh'
  · exact ((Below.refl _ w).grown G4.out hB (fun g e => (HX.out.own.lt g e).1)).setCell HX.out.base _

def EntPost (w : World) (B : Nat) (l : List (Int × Int)) (e : Ending) (w' : World) : Prop :=
  ∃ g c, e = .returned (.slice (some ⟨g, 0, none⟩) l.length c) ∧ w'.ownsRow B 130 2 (.slice (some ⟨g, 0, none⟩) l.length c) l.length (entVals l) ∧ Below B w w'

set_option maxRecDepth 100000 in
set_option maxHeartbeats 1600000 in
theorem eclone_any (w : World) (B g n c : Nat) (l : List (Int × Int)) (h : w.ownsRow B 130 2 (.slice (some ⟨g, 0, none⟩) n c) n (entVals l)) (hn : n = l.length) (hfew : l.length ≤ 1000) :
    Calls Try.prog 88 #[.slice (some ⟨g, 0, none⟩) n c] w (EntPost w w.heap.size l) := by
  subst hn
  obtain ⟨i0, hi0, hz⟩ := info_hid info_entry
  have H1 : Hid (0 + l.length ≤ maxLen) := by show _ ≤ _; unfold maxLen; omega
  have H2 : Hid ((0 + l.length) * 16 ≤ 140737488355328) := by show _ ≤ _; omega
  have HS := Lib.hid (ent_one l)
  have HL := Lib.hid (World.ownsRow_lit (base := w.heap.size) (e := 130) (size := 2) w #[] 0 (Nat.le_refl _) (by decide) rfl)
  have HRa := Lib.hid ((Reads.of_own h).alloc (Nat.le_refl _) (.cells #[] 130))
  have hnil := fun w : World => Lib.run_eql_slice_nil (P := Try.prog) w 96 130 (some ⟨g, 0, none⟩) l.length c 0 0 Try.underlying96
  clear h
  go_enter Try.func88, Try.ntmps88
  go_wp2_with (at_builtin; refine wpList_append_any _ rfl (.tmp 5) (.tmp 6) _ rfl w.heap.size 130 i0 _ 2 16 Try.underlying96 hi0.out hz.out.1 hz.out.2.1 hz.out.2.2 rfl (by omega) _ 0 [] (by rfl) HL.out w.heap.size _ l.length c (entVals l) rfl HRa.out HS.out H1.out H2.out (by simp) ?_; intro v1 w1 hown1 hg1 hat1; (rw [Nat.zero_add] at hown1); have HO := Lib.hid hown1; have HG1 := Lib.hid hg1; have HA := Lib.hid hat1; clear hown1 hg1 hat1)
  go_ret
  have hb1 : Below w.heap.size w w1 := ((Below.refl _ w).alloc (Nat.le_refl _) _).grown HG1.out (by simp) (by simp [Value.ownBlock])
  rcases HO.out.2 with ⟨rfl, _⟩ | ⟨g', cap, cur, rfl, _⟩
  · rcases HA.out with h | h <;> simp [Value.ownBlock] at h
  · exact ⟨g', cap, rfl, by simpa using HO.out, hb1⟩

theorem row_news {w : World} {g e n : Nat} {cur : Array Value} (hB : Blk w g e cur) {xs : List Value} (htk : cur.toList.take n = xs) (k : Nat) : ∀ j u, (xs.drop k)[j]? = some u → w.cell? ((⟨g, k, none⟩ : Addr).add j) = some u := by
  intro j u hu
  rw [Addr.add_lit, hB.cell, ← Array.getElem?_toList]
  rw [List.getElem?_drop, ← htk, List.getElem?_take] at hu
  split at hu
  · exact hu
  · cases hu
theorem zero_entry (w : World) : (zeroValue 130).run Try.prog w = .ok (.agg #[.int .i64 0, .int .i64 0]) w := by
  obtain ⟨i0, hi0, hz⟩ := info_hid info_entry
  simp [zeroValue, typeInfo, hi0.out, hz.out.1]
theorem zero_ints (n : Nat) : (Builtin.zeroCells (Value.agg #[.int .i64 0, .int .i64 0]).cells n).toList = List.replicate (n * 2) (.int .i64 0) := by
  apply List.ext_getElem
  · simp [Builtin.zeroCells, Value.cells]
  · intro i h1 h2
    rcases Nat.mod_two_eq_zero_or_one i with hm | hm <;> simp [Builtin.zeroCells, Value.cells, hm]
/-- Delete at one place, in place. -/
def DelPost (w : World) (B g n c : Nat) (l : List (Int × Int)) (e : Ending) (w' : World) : Prop :=
  e = .returned (.slice (some ⟨g, 0, none⟩) n c) ∧ w'.ownsRow B 130 2 (.slice (some ⟨g, 0, none⟩) n c) n (entVals l) ∧ Below g w w' ∧ (∀ k, k ≠ g → w'.heap[k]? = w.heap[k]?)

set_option maxRecDepth 100000 in
set_option maxHeartbeats 1600000 in
theorem edelete_any (w : World) (B g m c i : Nat) (l : List (Int × Int)) (h : w.ownsRow B 130 2 (.slice (some ⟨g, 0, none⟩) (m + 1) c) (m + 1) (entVals l)) (hn : l.length = m + 1) (hfew : l.length ≤ 1000) (hi : i ≤ m) :
    Calls Try.prog 87 #[.slice (some ⟨g, 0, none⟩) (m + 1) c, .int .i64 i, .int .i64 ((i : Int) + 1)] w (DelPost w B g m c (l.eraseIdx i)) := by
  obtain ⟨i0, hi0, hz⟩ := info_hid info_entry
  obtain ⟨g', cap', cur, hv, hg, hh, hmc, hcm, hcs, htk⟩ := h.2.resolve_left (by simp)
  injection hv with hv _ hcc
  injection hv with hv
  injection hv with hv
  subst hv hcc
  have hB : Blk w g 130 cur := hh
  have i1 : (i : Int) ≤ (m : Int) := by omega
  have i2 : (i : Int) ≤ (c : Int) := by omega
  have i3 : (i : Int) + 1 ≤ (m : Int) + 1 := by omega
  have i4 : (0 : Int) ≤ (i : Int) + 1 := by omega
  have i5 : (m : Int) + 1 ≤ (c : Int) := by omega
  have HZ := Lib.hid zero_entry
  have hl2 : (entVals l).length = (m + 1) * 2 := by rw [entVals_length, hn]
  have hnl : ((entVals l).drop ((i + 1) * 2)).length = (m - i) * 2 := by rw [List.length_drop, hl2]; omega
  have hN := Lib.hid (row_news (w := w.drew) hB htk ((i + 1) * 2))
  have hO : Hid (∀ u ∈ (entVals l).drop ((i + 1) * 2), u.oneCell' = true) := fun u hu => ent_one l u (List.mem_of_mem_drop hu)
  have he1 : cur.toList.take (i * 2) = (entVals l).take (i * 2) := by rw [← htk, List.take_take, Nat.min_eq_left (by omega)]
  have hcl : cur.toList.length = c * 2 := by rw [Array.length_toList, hcs]
  have hE : Hid (((cur.toList.take (i * 2) ++ (entVals l).drop ((i + 1) * 2) ++ cur.toList.drop (i * 2 + ((entVals l).drop ((i + 1) * 2)).length)).take (m * 2)) = entVals (l.eraseIdx i)) := by
    show _ = _
    rw [List.take_append_of_le_length (by rw [List.length_append, hnl, List.length_take, hcl]; omega), List.take_of_length_le (by rw [List.length_append, hnl, List.length_take, hcl]; omega), entVals_erase, he1]
  obtain ⟨mid, hmid⟩ : ∃ mid, mid = (cur.toList.take (i * 2) ++ (entVals l).drop ((i + 1) * 2) ++ cur.toList.drop (i * 2 + ((entVals l).drop ((i + 1) * 2)).length)) := ⟨_, rfl⟩
  have hml : mid.length = c * 2 := by rw [hmid]; simp only [List.length_append, hnl, List.length_take, List.length_drop, hcl]; omega
  rw [← hmid] at hE
  have hmi : i + (m - i) = m := by omega
  have hm1 : m + 1 - m = 1 := by omega
  have hcm2 : ¬ c = m := by omega
  have HM := Lib.hid hmid
  have ZF : Hid (m * 2 + 1 * (Value.agg #[.int .i64 0, .int .i64 0]).cells.size ≤ mid.length) := by show m * 2 + 1 * 2 ≤ _; rw [hml]; omega
  have ZO : Hid (∀ v ∈ (Builtin.zeroCells (Value.agg #[.int .i64 0, .int .i64 0]).cells 1).toList, v.oneCell' = true) := by
    show ∀ _, _
    intro v hv
    rw [zero_ints] at hv
    obtain ⟨_, rfl⟩ := List.mem_replicate.1 hv
    rfl
  by_cases hci : c = i + 1
  · have hN0 : Hid (∀ j u, ((entVals l).drop ((i + 1) * 2))[j]? = some u → w.drew.cell? ((⟨g, 0, none⟩ : Addr).add j) = some u) := fun j u hu => by
      have h0 : (entVals l).drop ((i + 1) * 2) = [] := List.eq_nil_of_length_eq_zero (by rw [hnl]; omega)
      rw [h0] at hu
      simp at hu
    obtain rfl : i = m := by omega
    subst hci
    have k1 : (i : Int) ≤ (i : Int) + 1 := by omega
    have k2 : (i : Int) ≤ ((i + 1 : Nat) : Int) := by omega
    have k3 : (i : Int) + 1 ≤ ((i + 1 : Nat) : Int) := by omega
    go_enter Try.func87, Try.ntmps87
    go_upto_region 5 with fail
    go_still_tail 6, (by kernel_rfl)
    change wpList _ _ _ _ _ w.drew
    refine wpList_append_room rfl (.tmp 22) (.tmp 25) 96 rfl 130 Try.underlying96 hi0 hz g i (i + 1) cur hB.drew (by rfl) _ 0 0 _ (by rfl) (by rw [hnl]; omega) hN0.out hO.out (by omega) (by rw [hnl, hcs]; omega) ?_
    intro w1 hB1 ho1 hb1 hs1
    rw [← HM.out] at hB1
    rw [Nat.add_zero]
    have H1 := Lib.hid hB1
    have O1 := Lib.hid ho1
    have L1 := Lib.hid hb1
    clear hB1 ho1 hb1 hmid
    go_wp2_with (refine wpList_clear_rows rfl (.tmp 31) 96 rfl 130 _ Try.underlying96 HZ.out g (i * 2) 1 1 (by rfl) mid _ H1.out ZF.out ZO.out ?_; intro w2 hB2 ho2 hb2 hs2; have H2 := Lib.hid hB2; have O2 := Lib.hid ho2; have L2 := Lib.hid hb2; clear hB2 ho2 hb2)
    go_ret
    refine ⟨rfl, ⟨by rw [← hE.out, List.length_take, hml]; omega, .inr ⟨g, i + 1, _, rfl, hg, H2.out, by omega, hcm, ?_, ?_⟩⟩, ((Below.refl _ w).drew.trans L1.out).trans L2.out, fun k hk => (O2.out k hk).trans (O1.out k hk)⟩
    · simp [Builtin.zeroCells, Value.cells, hml]; omega
    · rw [List.toList_toArray, List.append_assoc, List.take_append_of_le_length (by rw [List.length_take, hml]; omega), List.take_take, Nat.min_self]
      exact hE.out
  · go_enter Try.func87, Try.ntmps87
    go_upto_region 5 with fail
    go_still_tail 6, (by kernel_rfl)
    change wpList _ _ _ _ _ w.drew
    refine wpList_append_room rfl (.tmp 22) (.tmp 25) 96 rfl 130 Try.underlying96 hi0 hz g i c cur hB.drew (by rfl) _ (m - i) (c - (i + 1)) _ (by rfl) hnl hN.out hO.out (by omega) (by rw [hnl, hcs]; omega) ?_
    intro w1 hB1 ho1 hb1 hs1
    rw [← HM.out] at hB1
    rw [hmi]
    have H1 := Lib.hid hB1
    have O1 := Lib.hid ho1
    have L1 := Lib.hid hb1
    clear hB1 ho1 hb1 hmid
    go_wp2_with (refine wpList_clear_rows rfl (.tmp 31) 96 rfl 130 _ Try.underlying96 HZ.out g (m * 2) 1 (c - m) (by rfl) mid _ H1.out ZF.out ZO.out ?_; intro w2 hB2 ho2 hb2 hs2; have H2 := Lib.hid hB2; have O2 := Lib.hid ho2; have L2 := Lib.hid hb2; clear hB2 ho2 hb2)
    go_ret
    refine ⟨rfl, ⟨by rw [← hE.out, List.length_take, hml]; omega, .inr ⟨g, c, _, rfl, hg, H2.out, by omega, hcm, ?_, ?_⟩⟩, ((Below.refl _ w).drew.trans L1.out).trans L2.out, fun k hk => (O2.out k hk).trans (O1.out k hk)⟩
    · simp [Builtin.zeroCells, Value.cells, hml]; omega
    · rw [List.toList_toArray, List.append_assoc, List.take_append_of_le_length (by rw [List.length_take, hml]; omega), List.take_take, Nat.min_self]
      exact hE.out
end Go.Proofs.Ytgbjndlaonalcaa
