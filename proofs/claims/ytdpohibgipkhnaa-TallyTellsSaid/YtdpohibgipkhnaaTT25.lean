
/-
  THE WALKS of header.With and the law's own lives.
-/
import Derived.Test.YtdpohibgipkhnaaTT22
import Derived.Test.YtdpohibgipkhnaaTT21
set_option linter.unusedVariables false
set_option linter.unusedSimpArgs false
namespace Go.Proofs.Ytdpohibgipkhnaa
open Go.RowKit Go.Sort Go.Proofs.Ytdpohibgipkhnaa.Oct

theorem info_field : (Try.prog.info? 31).map (fun i => (i.zero, i.size, i.bytes)) = some (some (.agg #[.string ⟨#[]⟩, .string ⟨#[]⟩]), 2, 32) := by kernel_rfl
theorem field_size : (Try.prog.info? 31).map (·.size) = some 2 := by kernel_rfl

theorem FldsAt.reads {w : World} {x : Option Addr} {n : Nat} {l : Flds} (h : FldsAt w x n l) : Reads w w.heap.size 2 x n (fldVals l) := by
  refine ⟨by rw [fldVals_length, h.len], fun hn => ?_⟩
  obtain ⟨b, o, hx, hlt, hc⟩ := h.at_.resolve_left (by omega)
  refine ⟨_, hx, hlt, fun j u hu => ?_⟩
  have hj : j < l.length * 2 := by have := (List.getElem?_eq_some_iff.1 hu).1; rwa [fldVals_length] at this
  have hi : j / 2 < l.length := by omega
  rw [Addr.add_lit]
  rcases Nat.mod_two_eq_zero_or_one j with hm | hm
  · have e : j = j / 2 * 2 := by omega
    have h2 := fldVals_x l (j / 2) hi
    rw [← e, hu] at h2
    rw [Option.some.inj h2]
    have := (hc _ hi).1
    rwa [← e] at this
  · have e : j = j / 2 * 2 + 1 := by omega
    have h2 := fldVals_y l (j / 2) hi
    rw [← e, hu] at h2
    rw [Option.some.inj h2]
    have := (hc _ hi).2
    rwa [Nat.add_assoc, ← e] at this
theorem FldsAt.of_own {w : World} {B : Nat} {x : Option Addr} {n c : Nat} {l : Flds} (h : w.ownsRow B 31 2 (.slice x n c) n (fldVals l)) (hn : n ≤ 9223372036854775807) (hs : ∀ p ∈ l, p.1.size ≤ 9223372036854775807 ∧ p.2.size ≤ 9223372036854775807) : FldsAt w x n l := by
  have hl : l.length = n := by have := h.1; rw [fldVals_length] at this; omega
  refine ⟨hl, hn, hs, ?_⟩
  rcases h.2 with ⟨_, h0⟩ | ⟨g, cap, cur, hv, _, hh, _⟩
  · exact .inl h0
  · injection hv with hv
    subst hv
    refine .inr ⟨g, 0, rfl, lt_of_block hh, fun i hi => ?_⟩
    rw [Nat.zero_add]
    exact ⟨(h.cellAt _ (by omega)).trans (fldVals_x l i hi), (h.cellAt _ (by omega)).trans (fldVals_y l i hi)⟩
theorem FldsAt.take {w : World} {x : Option Addr} {n : Nat} {l : Flds} (h : FldsAt w x n l) (k : Nat) (hk : k ≤ n) : FldsAt w x k (l.take k) := by
  refine ⟨by rw [List.length_take, h.len]; omega, by have := h.big; omega, fun p hp => h.str p (List.mem_of_mem_take hp), ?_⟩
  rcases h.at_ with h0 | ⟨b, o, hx, hlt, hc⟩
  · exact .inl (by omega)
  · refine .inr ⟨b, o, hx, hlt, fun i hi => ?_⟩
    rw [List.getElem_take]
    exact hc i (by rw [List.length_take] at hi; omega)
theorem FldsAt.drop {w : World} {x : Option Addr} {n : Nat} {l : Flds} (h : FldsAt w x n l) (k cap : Nat) (hk : k ≤ n) (hc : n ≤ cap) : FldsAt w (if cap = k then x else x.map (·.add (k * 2))) (n - k) (l.drop k) := by
  refine ⟨by rw [List.length_drop, h.len], by have := h.big; omega, fun p hp => h.str p (List.mem_of_mem_drop hp), ?_⟩
  by_cases h0 : n - k = 0
  · exact .inl h0
  · obtain ⟨b, o, rfl, hlt, hcl⟩ := h.at_.resolve_left (by omega)
    rw [if_neg (by omega)]
    refine .inr ⟨b, o + k * 2, by simp [Addr.add_lit], hlt, fun i hi => ?_⟩
    rw [List.getElem_drop]
    have := hcl (k + i) (by rw [List.length_drop] at hi; omega)
    rw [show o + k * 2 + i * 2 = o + (k + i) * 2 by omega]
    exact this

theorem Blk.fset {w : World} {g : Nat} {l : Flds} (h : Blk w g 31 (fldVals l).toArray) (i : Nat) (hi : i < l.length) (x y : ByteArray) :
    Blk ((w.setCell ⟨g, i * 2, none⟩ (.string x)).setCell ⟨g, i * 2 + 1, none⟩ (.string y)) g 31 (fldVals (l.set i (x, y))).toArray := by
  have h2 := (h.set_ (i * 2) (.string x)).set_ (i * 2 + 1) (.string y)
  rw [← fldVals_set x y l i hi]
  simpa using h2
/-- What a call leaves that hands back a list of fields in a row of its own. -/
def FldsPost (w : World) (l : Flds) (e : Ending) (w' : World) : Prop :=
  ∃ v, e = .returned v ∧ w'.ownsRow w.heap.size 31 2 v l.length (fldVals l) ∧ Below w.heap.size w w'
theorem own_of_blk {w : World} {B g : Nat} {l : Flds} (h : Blk w g 31 (fldVals l).toArray) (hB : B ≤ g) (hl : l.length ≤ maxLen) : w.ownsRow B 31 2 (.slice (some ⟨g, 0, none⟩) l.length l.length) l.length (fldVals l) :=
  ⟨fldVals_length l, .inr ⟨g, l.length, _, rfl, hB, h, Nat.le_refl _, hl, by simp [fldVals_length], by rw [List.take_of_length_le (by simp [fldVals_length])]⟩⟩

set_option maxRecDepth 100000 in
set_option maxHeartbeats 1600000 in
theorem hwith_any (w : World) (x : Option Addr) (n c : Nat) (l : Flds) (name value : ByteArray) (h : FldsAt w x n l) (hn : n ≤ 65536) :
    Calls Try.prog 35 #[.slice x n c, .string name, .string value] w fun e w' => e = .returned (.slice (some ⟨w.heap.size, 0, none⟩) (n + 1) (n + 1)) ∧ Blk w' w.heap.size 31 (fldVals (l ++ [(name, value)])).toArray ∧ Below w.heap.size w w' := by
  obtain ⟨i0, hi, hz, hs, hb⟩ := info_parts info_field
  have hmk : ∀ W : World, (Instr.makeSlice 22 (.int .i64 ((n : Int) + 1)) (.int .i64 ((n : Int) + 1))).run Try.prog W = .ok (.slice (some ⟨W.heap.size, 0, none⟩) (n + 1) (n + 1)) (W.alloc (.cells (fldVals (noFlds (n + 1))).toArray 31)) := by
    intro W
    have := run_make (P := Try.prog) W 22 31 i0 _ Try.underlying22 hi hz .i64 .i64 ((n : Int) + 1) ((n : Int) + 1) (by omega) (by omega) (by rw [hb]; omega) (by omega)
    rw [hs] at this
    have e : ((n : Int) + 1).toNat = n + 1 := by omega
    rw [e, made_flds] at this
    exact this
  have HM := Lib.hid hmk
  have hl := h.len
  have HR := Lib.hid (h.reads.alloc (Nat.le_refl _) (.cells (fldVals (noFlds (n + 1))).toArray 31))
  have HL := Lib.hid hl
  have H1 : Hid (0 + (fldVals l).length ≤ (fldVals (noFlds (n + 1))).length) := by
    show _ ≤ _
    rw [fldVals_length, fldVals_length, hl]
    simp [noFlds]
    omega
  have HO := Lib.hid (fld_one l)
  have e0 : (fldVals (noFlds (n + 1))).take 0 ++ fldVals l ++ (fldVals (noFlds (n + 1))).drop (0 + (fldVals l).length) = fldVals (l ++ [(⟨#[]⟩, ⟨#[]⟩)]) := by
    rw [Nat.zero_add, fldVals_length, fldVals_drop, hl, fldVals_append]
    have : (noFlds (n + 1)).drop n = [(⟨#[]⟩, ⟨#[]⟩)] := by
      unfold noFlds
      rw [List.drop_replicate, show n + 1 - n = 1 by omega]
      rfl
    rw [this]
    simp
  have HE := Lib.hid e0
  clear hi hz hs hb hmk h e0 hl
  have hmk := HM.out
  have i1 : (n : Int) < (n : Int) + 1 := by omega
  go_enter Try.func35, Try.ntmps35
  go_wp2_with (with_reducible refine wpList_copy_rows rfl (.tmp 13) (.tmp 14) 22 22 rfl 31 2 Try.underlying22 field_size w.heap.size 0 (n + 1) (n + 1) n c w.heap.size x rfl rfl (fldVals (noFlds (n + 1))) 31 (Blk.new w 31 _) (fldVals l) HR.out (Nat.le_succ n) H1.out HO.out ?_; intro w1 hb1 hk1 hbl1 hz1; rw [HE.out] at hb1; have HB1 := Lib.hid hb1; have c0 : w1.cell? ⟨w.heap.size, n * 2, none⟩ = some (.string ⟨#[]⟩) := ((hb1.cell _).trans (by have := fldVals_x (l ++ [(⟨#[]⟩, ⟨#[]⟩)]) n (by simp [HL.out]); simpa [HL.out] using this)); have c1 : w1.cell? ⟨w.heap.size, n * 2 + 1, none⟩ = some (.string ⟨#[]⟩) := ((hb1.cell _).trans (by have := fldVals_y (l ++ [(⟨#[]⟩, ⟨#[]⟩)]) n (by simp [HL.out]); simpa [HL.out] using this)); have cf := hb1.frozen; have HBl := Lib.hid hbl1; clear hb1 hk1 hbl1 hz1)
  go_ret
  refine ⟨rfl, ?_, ?_⟩
  · have h2 := HB1.out.fset n (by simp [HL.out]) name value
    rw [← HL.out, List.set_append_right _ _ (Nat.le_refl _), Nat.sub_self] at h2
    rw [← HL.out]
    exact h2
  · exact (((below_new w _).trans (HBl.out)).setCell (Nat.le_refl _) _).setCell (Nat.le_refl _) _
/-! ### lives -/
theorem flds_lit (w : World) (l : Flds) (hs : ∀ p ∈ l, p.1.size ≤ 9223372036854775807 ∧ p.2.size ≤ 9223372036854775807) (hn : l.length ≤ 65536) : FldsAt (w.alloc (.cells (fldVals l).toArray 31)) (some ⟨w.heap.size, 0, none⟩) l.length l :=
  FldsAt.of_own (own_of_blk (Blk.new w 31 (fldVals l).toArray) (Nat.zero_le _) (by unfold maxLen; omega)) (by omega) hs
def lv3 : Flds := [(⟨#[65]⟩, ⟨#[49]⟩), (⟨#[66]⟩, ⟨#[50]⟩), (⟨#[97]⟩, ⟨#[51]⟩)]
def lv1 : Flds := [(⟨#[65]⟩, ⟨#[49]⟩)]
theorem lv_comb : combV lv3 ⟨#[97]⟩ = .tuple #[.string ⟨#[49, 44, 32, 51]⟩, .bool true] := by
  have e : allV lv3 ⟨#[97]⟩ = [⟨#[49]⟩, ⟨#[51]⟩] := by decide +kernel
  unfold combV
  rw [e]
  rfl

set_option maxRecDepth 100000 in
set_option maxHeartbeats 1600000 in
theorem hlives_any (w : World) : Calls Try.prog 24 #[] w fun e w' => e = .returned (.bool true) ∧ Below w.heap.size w w' := by
  have hfl := flds_lit w lv3 (by decide) (by decide)
  have HC := Lib.hid (hcomb_any _ _ 3 3 lv3 ⟨#[97]⟩ (by decide) hfl (by decide) (by decide))
  have HE := Lib.hid lv_comb
  clear hfl
  go_enter Try.func24, Try.ntmps24
  go_wp2_with fail
  refine HC.out.mono ?_
  rintro e w1 ⟨rfl, hb1⟩
  rw [HE.out]
  have HB1 := Lib.hid ((below_new w (.cells (fldVals lv3).toArray 31)).trans (hb1.mono (by simp)))
  clear hb1
  go_wp2_with fail
  refine (hwith_any w1 none 0 0 [] ⟨#[65]⟩ ⟨#[49]⟩ ⟨rfl, by omega, by simp, .inl rfl⟩ (by omega)).mono ?_
  rintro e w2 ⟨rfl, hk2, hb2⟩
  have hA : FldsAt w2 (some ⟨w1.heap.size, 0, none⟩) 1 lv1 := FldsAt.of_own (own_of_blk (B := 0) (l := lv1) hk2 (Nat.zero_le _) (by decide)) (by omega) (by decide)
  have HB2 := Lib.hid (grow_trans HB1.out hb2)
  have HA := Lib.hid (hA.below (below_new w2 (.cells (fldVals lv1).toArray 31)))
  have HD := Lib.hid (flds_lit w2 lv1 (by decide) (by decide))
  clear hk2 hb2 hA
  go_wp2_with fail
  refine (hsame_any _ _ 1 1 1 1 lv1 lv1 _ HA.out HD.out).mono ?_
  rintro e w3 ⟨rfl, hd⟩
  have HB3 := Lib.hid ((grow_trans HB2.out (below_new w2 (.cells (fldVals lv1).toArray 31))).trans (hd.below _))
  rw [show decide (lv1 = lv1) = true from decide_eq_true rfl]
  clear hd
  go_wp2
  go_ret
  exact ⟨rfl, HB3.out⟩

/-! ### HeaderTells -/
/-- So few fields, and so short, as the walks ask. -/
theorem few_names {l : Flds} (h : fewB l = true) : l.length ≤ 40 ∧ (∀ p ∈ l, p.1.size ≤ 140737488355328) ∧ (∀ p ∈ l, p.2.size ≤ 700) := by
  obtain ⟨h1, h2⟩ := fewB_of h
  exact ⟨h1, fun p hp => by have := (h2 p hp).1; omega, fun p hp => by have := (h2 p hp).2; omega⟩

set_option maxRecDepth 100000 in
set_option maxHeartbeats 3200000 in
theorem htells_yes (x y : Option Addr) (n c m d : Nat) (l k : Flds) (name : ByteArray) (w : World) (h : FldsAt w x n l) (h2 : FldsAt w y m k) (hn : name.size ≤ 9223372036854775807) (hl : fewB l = true) (hk : fewB k = true) (hs : ¬ (100 : Int) < (name.size : Int)) :
    Calls Try.prog 5 #[.slice x n c, .slice y m d, .string name] w fun e w' => e = .returned (.bool true) ∧ Below w.heap.size w w' := by
  obtain ⟨f1, f2, f3⟩ := few_names hl
  have hn2 : name.size ≤ 140737488355328 := by omega
  have hnl : n ≤ 65536 := by have := h.len; omega
  have hmem : ∀ s ∈ allV l name, s.size ≤ 9223372036854775807 := fun s hs2 => by obtain ⟨p, hp, rfl⟩ := allV_mem hs2; have := f3 p hp; omega
  have hlen : (allV l name).length ≤ 9223372036854775807 := by
    have h1 := allV_len l name l.length
    rw [List.take_length] at h1
    omega
  have HA := Lib.hid h
  have HK := Lib.hid h2
  have C1 := Lib.hid (few_any w x n c l h)
  have HL := Lib.hid hl
  have HK2 := Lib.hid hk
  have F1 := Lib.hid f1
  have F2 := Lib.hid f2
  have F3 := Lib.hid f3
  have HM := Lib.hid hmem
  have HLn := Lib.hid hlen
  clear h h2 hl hk f1 f2 f3 hmem hlen
  go_enter Try.func5, Try.ntmps5
  go_wp2_with fail
  refine C1.out.mono ?_
  rintro e w1 ⟨rfl, hb1⟩
  rw [HL.out]
  have B1 := Lib.hid hb1
  clear hb1
  go_wp2_with fail
  refine (few_any w1 y m d k (HK.out.below B1.out)).mono ?_
  rintro e w2 ⟨rfl, hb2⟩
  rw [HK2.out]
  have B2 := Lib.hid (grow_trans B1.out hb2)
  clear hb2
  go_wp2_with fail
  refine (hget_any w2 x n c l name hn (HA.out.below B2.out)).mono ?_
  rintro e w3 ⟨rfl, hb3⟩
  have B3 := Lib.hid (grow_trans B2.out hb3)
  clear hb3
  go_wp2_with fail
  refine (hrget_any w3 x n c l name hn2 (HA.out.below B3.out) hnl F2.out).mono ?_
  rintro e w4 ⟨rfl, hb4⟩
  have B4 := Lib.hid (grow_trans B3.out hb4)
  clear hb4
  go_wp2_with fail
  refine (hcomb_any w4 x n c l name hn (HA.out.below B4.out) F1.out F3.out).mono ?_
  rintro e w5 ⟨rfl, hb5⟩
  have B5 := Lib.hid (grow_trans B4.out hb5)
  unfold combV
  clear hb5
  go_wp2_with fail
  refine (rcomb_any w5 x n c l name hn2 (HA.out.below B5.out) F1.out F2.out F3.out).mono ?_
  rintro e w6 ⟨rfl, hb6⟩
  have B6 := Lib.hid (grow_trans B5.out hb6)
  unfold combV
  clear hb6
  go_wp2_with fail
  refine (rall_any w6 x n c l name hn2 (HA.out.below B6.out) hnl F2.out).mono ?_
  rintro e w7 ⟨g7, c7, rfl, ho7, hb7⟩
  have B7 := Lib.hid (grow_trans B6.out hb7)
  have S7 := Lib.hid (StrsArg.of_owned ho7 HLn.out HM.out)
  clear hb7 ho7
  go_wp2_with fail
  refine (all_any w7 x n c l name hn (HA.out.below B7.out) hnl).mono ?_
  rintro e w8 ⟨v8, rfl, ho8, hnil8, hb8⟩
  have B8 := Lib.hid (grow_trans B7.out hb8)
  have S8 := Lib.hid (S7.out.below hb8)
  have ⟨y8, c8, hv8, hs8⟩ : ∃ y c, v8 = .slice y (allV l name).length c ∧ StrsArg w8 y (allV l name).length (allV l name) := by
    rcases ho8.2 with ⟨rfl, h0⟩ | ⟨g, cap, cur, rfl, _⟩
    · exact ⟨none, 0, by rw [h0], rfl, HLn.out, HM.out, .inl h0⟩
    · exact ⟨_, cap, rfl, StrsArg.of_owned ho8 HLn.out HM.out⟩
  subst hv8
  have T8 := Lib.hid hs8
  clear hb8 ho8 hnil8 hs8
  go_wp2_with fail
  refine (rsame_any _ _ _ c8 _ c7 _ _ _ T8.out S8.out).mono ?_
  rintro e w9 ⟨rfl, hd9⟩
  rw [show decide (allV l name = allV l name) = true from decide_eq_true rfl]
  have B9 := Lib.hid (B8.out.trans (hd9.below _))
  clear hd9
  go_wp2_with fail
  refine (hcount_any w9 x n c l name hn (HA.out.below B9.out) hnl).mono ?_
  rintro e w10 ⟨rfl, hb10⟩
  have B10 := Lib.hid (grow_trans B9.out hb10)
  clear hb10
  go_wp2_with fail
  refine (hsame_any x y n c m d l k _ (HA.out.below B10.out) (HK.out.below B10.out)).mono ?_
  rintro e w11 ⟨rfl, hd11⟩
  have B11 := Lib.hid (B10.out.trans (hd11.below _))
  clear hd11
  go_wp2_with fail
  refine (rsamef_any x y n c m d l k _ (HA.out.below B11.out) (HK.out.below B11.out)).mono ?_
  rintro e w12 ⟨rfl, hd12⟩
  have B12 := Lib.hid (B11.out.trans (hd12.below _))
  clear hd12
  go_wp2_with fail
  refine (hlives_any w12).mono ?_
  rintro e w13 ⟨rfl, hb13⟩
  have B13 := Lib.hid (grow_trans B12.out hb13)
  clear hb13
  go_wp2
  go_ret
  exact ⟨rfl, B13.out⟩

set_option maxRecDepth 100000 in
set_option maxHeartbeats 3200000 in
theorem htells_any (x y : Option Addr) (n c m d : Nat) (l k : Flds) (name : ByteArray) (w : World) (h : FldsAt w x n l) (h2 : FldsAt w y m k) (hn : name.size ≤ 9223372036854775807) :
    Calls Try.prog 5 #[.slice x n c, .slice y m d, .string name] w fun e w' => e = .returned (.bool true) ∧ Below w.heap.size w w' := by
  cases hl : fewB l
  · have C1 := Lib.hid (few_any w x n c l h)
    have HL := Lib.hid hl
    clear h h2 hl
    go_enter Try.func5, Try.ntmps5
    go_wp2_with fail
    refine C1.out.mono ?_
    rintro e w1 ⟨rfl, hb1⟩
    rw [HL.out]
    have B1 := Lib.hid hb1
    clear hb1
    go_wp2_with fail
    refine (hlives_any w1).mono ?_
    rintro e w13 ⟨rfl, hb13⟩
    have B13 := Lib.hid (grow_trans B1.out hb13)
    clear hb13
    go_wp2
    go_ret
    exact ⟨rfl, B13.out⟩
  · cases hk : fewB k
    · have C1 := Lib.hid (few_any w x n c l h)
      have HL := Lib.hid hl
      have HK := Lib.hid h2
      have HK2 := Lib.hid hk
      clear h h2 hl hk
      go_enter Try.func5, Try.ntmps5
      go_wp2_with fail
      refine C1.out.mono ?_
      rintro e w1 ⟨rfl, hb1⟩
      rw [HL.out]
      have B1 := Lib.hid hb1
      clear hb1
      go_wp2_with fail
      refine (few_any w1 y m d k (HK.out.below B1.out)).mono ?_
      rintro e w2 ⟨rfl, hb2⟩
      rw [HK2.out]
      have B2 := Lib.hid (grow_trans B1.out hb2)
      clear hb2
      go_wp2_with fail
      refine (hlives_any w2).mono ?_
      rintro e w13 ⟨rfl, hb13⟩
      have B13 := Lib.hid (grow_trans B2.out hb13)
      clear hb13
      go_wp2
      go_ret
      exact ⟨rfl, B13.out⟩
    · by_cases hs : (100 : Int) < (name.size : Int)
      · have C1 := Lib.hid (few_any w x n c l h)
        have HL := Lib.hid hl
        have HK := Lib.hid h2
        have HK2 := Lib.hid hk
        clear h h2 hl hk
        go_enter Try.func5, Try.ntmps5
        go_wp2_with fail
        refine C1.out.mono ?_
        rintro e w1 ⟨rfl, hb1⟩
        rw [HL.out]
        have B1 := Lib.hid hb1
        clear hb1
        go_wp2_with fail
        refine (few_any w1 y m d k (HK.out.below B1.out)).mono ?_
        rintro e w2 ⟨rfl, hb2⟩
        rw [HK2.out]
        have B2 := Lib.hid (grow_trans B1.out hb2)
        clear hb2
        go_wp2_with fail
        refine (hlives_any w2).mono ?_
        rintro e w13 ⟨rfl, hb13⟩
        have B13 := Lib.hid (grow_trans B2.out hb13)
        clear hb13
        go_wp2
        go_ret
        exact ⟨rfl, B13.out⟩
      · exact htells_yes x y n c m d l k name w h h2 hn hl hk hs
end Go.Proofs.Ytdpohibgipkhnaa
