/-
  THE WALK of the law HeaderChanges. (Written by wip/tools/mkchanges.py.)
  PLAIN: what Set and Without leave, asked by name.
-/
import Derived.Test.YtdpohibgipkhnaaTT29
import Derived.Deep.RegionHeld3
set_option linter.unusedVariables false
set_option linter.unusedSimpArgs false
namespace Go.Proofs.Ytdpohibgipkhnaa
open Go.RowKit Go.Sort Go.Proofs.Ytdpohibgipkhnaa.Oct

theorem with_flds {w : World} {g n : Nat} {l : Flds} {s t : ByteArray} (h : Blk w g 31 (fldVals (l ++ [(s, t)])).toArray) (hn : n + 1 = (l ++ [(s, t)]).length ∧ n + 1 ≤ 65536) (hs : ∀ p ∈ l ++ [(s, t)], p.1.size ≤ 9223372036854775807 ∧ p.2.size ≤ 9223372036854775807) : FldsAt w (some ⟨g, 0, none⟩) (n + 1) (l ++ [(s, t)]) := by
  have h1 := own_of_blk (B := 0) h (Nat.zero_le _) (by rw [← hn.1]; unfold maxLen; omega)
  rw [← hn.1] at h1
  exact FldsAt.of_own h1 (by omega) hs
theorem own_flds_n {w : World} {B n : Nat} {v : Value} {l : Flds} (ho : w.ownsRow B 31 2 v l.length (fldVals l)) (hn : n = l.length ∧ n ≤ 65536) (hs : ∀ p ∈ l, p.1.size ≤ 9223372036854775807 ∧ p.2.size ≤ 9223372036854775807) : ∃ x c, v = .slice x n c ∧ FldsAt w x n l := by
  obtain ⟨x, c, h1, _, h2⟩ := own_flds ho (by omega) hs
  rw [← hn.1] at h1 h2
  exact ⟨x, c, h1, h2⟩
theorem setF_len (l : Flds) (s t : ByteArray) : (setF l s t).length ≤ l.length + 1 := by
  unfold setF
  split
  · have := setR_len s t l false; omega
  · simp
theorem setF_str {l : Flds} {s t : ByteArray} {B : Nat} (h : ∀ p ∈ l, p.1.size ≤ B ∧ p.2.size ≤ B) (hs : s.size ≤ B) (ht : t.size ≤ B) : ∀ p ∈ setF l s t, p.1.size ≤ B ∧ p.2.size ≤ B := by
  intro p hp
  unfold setF at hp
  split at hp
  · obtain ⟨g, hg, e1, e2⟩ := setR_mem s t l false p hp
    refine ⟨by rw [e1]; exact (h g hg).1, ?_⟩
    rcases e2 with e2 | e2
    · rw [e2]; exact (h g hg).2
    · rw [e2]; exact ht
  · rcases List.mem_append.1 hp with hp | hp
    · exact h p hp
    · simp at hp
      subst hp
      exact ⟨hs, ht⟩
theorem with_str {l : Flds} {s t : ByteArray} {B : Nat} (h : ∀ p ∈ l, p.1.size ≤ B ∧ p.2.size ≤ B) (hs : s.size ≤ B) (ht : t.size ≤ B) : ∀ p ∈ l ++ [(s, t)], p.1.size ≤ B ∧ p.2.size ≤ B := by
  intro p hp
  rcases List.mem_append.1 hp with hp | hp
  · exact h p hp
  · simp at hp
    subst hp
    exact ⟨hs, ht⟩

set_option maxRecDepth 100000 in
set_option maxHeartbeats 6400000 in
theorem hchanges_yes (x y : Option Addr) (n c m d : Nat) (l : Flds) (ns : List ByteArray) (s t : ByteArray) (w : World) (h : FldsAt w x n l) (hnc : n ≤ c) (h2 : StrsArg w y m ns) (hl : fewB l = true) (hm : m ≤ 20) (hs : s.size ≤ 100) (ht : t.size ≤ 300) :
    Calls Try.prog 6 #[.slice x n c, .slice y m d, .agg #[.string s, .string t]] w fun e w' => e = .returned (.bool true) ∧ Below w.heap.size w w' := by
  obtain ⟨f1, f2, f3⟩ := few_names hl
  have hnl : n ≤ 65536 := by have := h.len; omega
  have hnm : m ≤ 65536 := by omega
  have hs9 : s.size ≤ 9223372036854775807 := by omega
  have ht9 : t.size ≤ 9223372036854775807 := by omega
  have hs14 : s.size ≤ 140737488355328 := by omega
  have HWs := Lib.hid (with_str h.str hs9 ht9)
  have HSo := Lib.hid (setF_str h.str hs9 ht9)
  have HWo : Hid (∀ p ∈ withoutF l ns, p.1.size ≤ 9223372036854775807 ∧ p.2.size ≤ 9223372036854775807) := fun p hp => h.str p (withoutF_sub hp)
  have hWl : (withoutF l ns).length ≤ 65536 := by have := withoutF_len l ns; omega
  have hVl : (l ++ [(s, t)]).length ≤ 65536 := by rw [List.length_append]; simp; omega
  have hSl : (setF l s t).length ≤ 65536 := by have := setF_len l s t; omega
  have HNf : Hid (n + 1 = (l ++ [(s, t)]).length ∧ n + 1 ≤ 65536) := ⟨by rw [List.length_append, h.len]; rfl, by have := h.len; omega⟩
  have HA0 := Lib.hid (h.below (below_new w (.cells #[.string s, .string t] 31)))
  have HN0 := Lib.hid (h2.below (below_new w (.cells #[.string s, .string t] 31)))
  have HL := Lib.hid hl
  have F2s := Lib.hid f2
  have i1 : ¬ (100 : Int) < (s.size : Int) := by omega
  have i2 : ¬ (300 : Int) < (t.size : Int) := by omega
  have i3 : ¬ (20 : Int) < (m : Int) := by omega
  have hml := h2.1
  clear h h2 hl f1 f2 f3
  go_enter Try.func6, Try.ntmps6
  go_wp2_with fail
  refine (few_any _ x n c l HA0.out).mono ?_
  rintro e w1 ⟨rfl, hb1⟩
  rw [HL.out]
  have K1 := (Blk.new w 31 #[.string s, .string t]).below hb1 (by simp)
  have C0 : w1.cell? ⟨w.heap.size, 0, none⟩ = some (.string s) := K1.cell 0
  have C1 : w1.cell? ⟨w.heap.size, 1, none⟩ = some (.string t) := K1.cell 1
  have HLt : w.heap.size < w1.heap.size := K1.lt
  have HA := Lib.hid (HA0.out.below hb1)
  have HN := Lib.hid (HN0.out.below hb1)
  have BW := Lib.hid (grow_trans (below_new w (.cells #[.string s, .string t] 31)) hb1)
  have B1 := Lib.hid (Below.refl w1.heap.size w1)
  clear hb1 K1 HA0 HN0
  go_wp2_with fail
  go_loop [32] (fun i => ∃ k : Nat, k ≤ m ∧ i = .int .i64 k ∧ Hid (∀ j (hj : j < ns.length), j < k → ns[j].size ≤ 100)) (fun i => m - (intOf i).toNat)
  case atStart => exact ⟨0, Nat.zero_le _, rfl, fun j _ hj => absurd hj (Nat.not_lt_zero _)⟩
  case round =>
    obtain ⟨k, hk, rfl, hall⟩ := hrel
    by_cases hkm : k < m
    · obtain ⟨b, o, q, rfl, hl2, hq, hc, hqs⟩ := HN.out.get k hkm
      have i4 : (k : Int) < (m : Int) := by omega
      by_cases hq1 : q.size ≤ 100
      · have i5 : ¬ (100 : Int) < (q.size : Int) := by omega
        have HQ := Lib.hid hq
        clear hq
        go_wp2
        go_round
        case rel =>
          refine ⟨k + 1, by omega, by go_num, fun j hj hjk => ?_⟩
          by_cases e : j = k
          · subst e; rw [← HQ.out]; exact hq1
          · exact hall.out j hj (by omega)
        case measure => simp [intOf]; omega
      · have i5 : (100 : Int) < (q.size : Int) := by omega
        clear hq
        go_wp2_with fail
        refine (hlives_any w1).mono ?_
        rintro e w2 ⟨rfl, hb2⟩
        go_wp2
        go_ret
        exact ⟨rfl, grow_trans BW.out hb2⟩
    · obtain rfl : m = k := by omega
      have HNs : Hid (∀ q ∈ ns, q.size ≤ 140737488355328) := fun q hq => by
        obtain ⟨j, hj, rfl⟩ := List.mem_iff_getElem.1 hq
        have := hall.out j hj (by omega)
        omega
      clear hall
      go_wp2_with fail
      go_region_held3 (fun w' => w'.cell? ⟨w.heap.size, 0, none⟩ = some (.string s) ∧ w'.cell? ⟨w.heap.size, 1, none⟩ = some (.string t)) (go_keep)
        (first
          | (go_at_call 24; refine (hlives_any _).mono ?_; rintro e w11 ⟨rfl, hb11⟩; have B11 := Lib.hid (grow_trans (by first | exact B10.out | exact B10.out.drew | exact below_drewN B10.out _) hb11); have kc0 := (B11.out.cell (p := ⟨w.heap.size, 0, none⟩) HLt).trans C0; have kc1 := (B11.out.cell (p := ⟨w.heap.size, 1, none⟩) HLt).trans C1; clear hb11)
          | (go_at_call 18; have hg1 := G8; have hg2 := F9; clear hg1 hg2; refine (rsamef_any _ x9 _ _ _ _ (setF l s t) (setF l s t) _ (by first | exact G8.out | exact G8.out.below (Below.refl _ _).drew | exact G8.out.below (below_drewN (Below.refl _ _) _)) (by first | exact F9.out | exact F9.out.below (Below.refl _ _).drew | exact F9.out.below (below_drewN (Below.refl _ _) _))).mono ?_; rintro e w10 ⟨rfl, hd10⟩; (rw [show decide ((setF l s t) = (setF l s t)) = true from decide_eq_true rfl]); have B10 := Lib.hid (grow_trans (by first | exact B9.out | exact B9.out.drew | exact below_drewN B9.out _) hd10.grow); have k10c0 := (B10.out.cell (p := ⟨w.heap.size, 0, none⟩) HLt).trans C0; have k10c1 := (B10.out.cell (p := ⟨w.heap.size, 1, none⟩) HLt).trans C1; clear hd10)
          | (go_at_call 38; refine (rset_any _ x n c l s t (HA.out.below (by first | exact B8.out | exact B8.out.drew | exact below_drewN B8.out _)) hnl hs14 F2s.out).mono ?_; rintro e w9 ⟨v9, rfl, ho9, hb9⟩; obtain ⟨x9, c9, rfl, hF9⟩ := own_flds_n ho9 ⟨rfl, hSl⟩ HSo.out; have B9 := Lib.hid (grow_trans (by first | exact B8.out | exact B8.out.drew | exact below_drewN B8.out _) hb9); have F9 := Lib.hid hF9; have G8 := Lib.hid (FldsAt.below (by first | exact F8.out | exact F8.out.below (Below.refl _ _).drew | exact F8.out.below (below_drewN (Below.refl _ _) _)) hb9); have k9c0 := (B9.out.cell (p := ⟨w.heap.size, 0, none⟩) HLt).trans C0; have k9c1 := (B9.out.cell (p := ⟨w.heap.size, 1, none⟩) HLt).trans C1; clear ho9 hF9 hb9)
          | (go_at_call 37; refine (hset_any _ x n c l s t (HA.out.below (by first | exact B7.out | exact B7.out.drew | exact below_drewN B7.out _)) hnc hnl hs9 ht9).mono ?_; rintro e w8 ⟨v8, rfl, ho8, hb8⟩; obtain ⟨x8, c8, rfl, hF8⟩ := own_flds_n ho8 ⟨rfl, hSl⟩ HSo.out; have B8 := Lib.hid (grow_trans (by first | exact B7.out | exact B7.out.drew | exact below_drewN B7.out _) hb8); have F8 := Lib.hid hF8; have k8c0 := (B8.out.cell (p := ⟨w.heap.size, 0, none⟩) HLt).trans C0; have k8c1 := (B8.out.cell (p := ⟨w.heap.size, 1, none⟩) HLt).trans C1; clear ho8 hF8 hb8; clear F5 G5 F6)
          | (go_at_call 18; have hg1 := G5; have hg2 := F6; clear hg1 hg2; refine (rsamef_any _ x6 _ _ _ _ (l ++ [(s, t)]) (l ++ [(s, t)]) _ (by first | exact G5.out | exact G5.out.below (Below.refl _ _).drew | exact G5.out.below (below_drewN (Below.refl _ _) _)) (by first | exact F6.out | exact F6.out.below (Below.refl _ _).drew | exact F6.out.below (below_drewN (Below.refl _ _) _))).mono ?_; rintro e w7 ⟨rfl, hd7⟩; (rw [show decide ((l ++ [(s, t)]) = (l ++ [(s, t)])) = true from decide_eq_true rfl]); have B7 := Lib.hid (grow_trans (by first | exact B6.out | exact B6.out.drew | exact below_drewN B6.out _) hd7.grow); have k7c0 := (B7.out.cell (p := ⟨w.heap.size, 0, none⟩) HLt).trans C0; have k7c1 := (B7.out.cell (p := ⟨w.heap.size, 1, none⟩) HLt).trans C1; clear hd7)
          | (go_at_call 36; refine (rwith_any _ x n c l s t (HA.out.below (by first | exact B5.out | exact B5.out.drew | exact below_drewN B5.out _)) hnl).mono ?_; rintro e w6 ⟨v6, rfl, ho6, hb6⟩; obtain ⟨x6, c6, rfl, hF6⟩ := own_flds_n ho6 HNf.out HWs.out; have B6 := Lib.hid (grow_trans (by first | exact B5.out | exact B5.out.drew | exact below_drewN B5.out _) hb6); have F6 := Lib.hid hF6; have G5 := Lib.hid (FldsAt.below (by first | exact F5.out | exact F5.out.below (Below.refl _ _).drew | exact F5.out.below (below_drewN (Below.refl _ _) _)) hb6); have k6c0 := (B6.out.cell (p := ⟨w.heap.size, 0, none⟩) HLt).trans C0; have k6c1 := (B6.out.cell (p := ⟨w.heap.size, 1, none⟩) HLt).trans C1; clear ho6 hF6 hb6)
          | (go_at_call 35; refine (hwith_any _ x n c l s t (HA.out.below (by first | exact B4.out | exact B4.out.drew | exact below_drewN B4.out _)) hnl).mono ?_; rintro e w5 ⟨rfl, hk5, hb5⟩; have B5 := Lib.hid (grow_trans (by first | exact B4.out | exact B4.out.drew | exact below_drewN B4.out _) hb5); have F5 := Lib.hid (with_flds hk5 HNf.out HWs.out); have k5c0 := (B5.out.cell (p := ⟨w.heap.size, 0, none⟩) HLt).trans C0; have k5c1 := (B5.out.cell (p := ⟨w.heap.size, 1, none⟩) HLt).trans C1; clear hk5 hb5; clear F2 G2 F3)
          | (go_at_call 18; have hg1 := G2; have hg2 := F3; clear hg1 hg2; refine (rsamef_any _ x3 _ _ _ _ (withoutF l ns) (withoutF l ns) _ (by first | exact G2.out | exact G2.out.below (Below.refl _ _).drew | exact G2.out.below (below_drewN (Below.refl _ _) _)) (by first | exact F3.out | exact F3.out.below (Below.refl _ _).drew | exact F3.out.below (below_drewN (Below.refl _ _) _))).mono ?_; rintro e w4 ⟨rfl, hd4⟩; (rw [show decide ((withoutF l ns) = (withoutF l ns)) = true from decide_eq_true rfl]); have B4 := Lib.hid (grow_trans (by first | exact B3.out | exact B3.out.drew | exact below_drewN B3.out _) hd4.grow); have k4c0 := (B4.out.cell (p := ⟨w.heap.size, 0, none⟩) HLt).trans C0; have k4c1 := (B4.out.cell (p := ⟨w.heap.size, 1, none⟩) HLt).trans C1; clear hd4)
          | (go_at_call 34; refine (rwithout_any _ x y n c m d l ns (HA.out.below (by first | exact B2.out | exact B2.out.drew | exact below_drewN B2.out _)) (HN.out.below (by first | exact B2.out | exact B2.out.drew | exact below_drewN B2.out _)) hnl hnm F2s.out HNs.out).mono ?_; rintro e w3 ⟨v3, rfl, ho3, hb3⟩; obtain ⟨x3, c3, rfl, hF3⟩ := own_flds_n ho3 ⟨rfl, hWl⟩ HWo.out; have B3 := Lib.hid (grow_trans (by first | exact B2.out | exact B2.out.drew | exact below_drewN B2.out _) hb3); have F3 := Lib.hid hF3; have G2 := Lib.hid (FldsAt.below (by first | exact F2.out | exact F2.out.below (Below.refl _ _).drew | exact F2.out.below (below_drewN (Below.refl _ _) _)) hb3); have k3c0 := (B3.out.cell (p := ⟨w.heap.size, 0, none⟩) HLt).trans C0; have k3c1 := (B3.out.cell (p := ⟨w.heap.size, 1, none⟩) HLt).trans C1; clear ho3 hF3 hb3)
          | (go_at_call 33; refine (hwithout_any _ x y n c m d l ns (HA.out.below (by first | exact B1.out | exact B1.out.drew | exact below_drewN B1.out _)) (HN.out.below (by first | exact B1.out | exact B1.out.drew | exact below_drewN B1.out _)) hnl).mono ?_; rintro e w2 ⟨v2, rfl, ho2, hb2⟩; obtain ⟨x2, c2, rfl, hF2⟩ := own_flds_n ho2 ⟨rfl, hWl⟩ HWo.out; have B2 := Lib.hid (grow_trans (by first | exact B1.out | exact B1.out.drew | exact below_drewN B1.out _) hb2); have F2 := Lib.hid hF2; have k2c0 := (B2.out.cell (p := ⟨w.heap.size, 0, none⟩) HLt).trans C0; have k2c1 := (B2.out.cell (p := ⟨w.heap.size, 1, none⟩) HLt).trans C1; clear ho2 hF2 hb2)
          | fail)
      go_wp2
      go_ret
      exact ⟨rfl, grow_trans BW.out B11.out⟩
end Go.Proofs.Ytdpohibgipkhnaa
namespace Go.Proofs.Ytdpohibgipkhnaa
open Go.RowKit Go.Sort Go.Proofs.Ytdpohibgipkhnaa.Oct

theorem allV_cons (f : ByteArray × ByteArray) (r : Flds) (name : ByteArray) : allV (f :: r) name = (if foldS name f.1 = true then [f.2] else []) ++ allV r name := by
  unfold allV
  cases h : foldS name f.1 <;> simp [h]
theorem allV_append (a b : Flds) (name : ByteArray) : allV (a ++ b) name = allV a name ++ allV b name := by simp [allV]
theorem fold_is {a b : ByteArray} (h : foldS a b = true) : lowS a = lowS b := of_decide_eq_true h
theorem fold_self2 (a : ByteArray) : foldS a a = true := decide_eq_true rfl
/-- A field of the one name is none of another. -/
theorem fold_other {s o a : ByteArray} (h : foldS s o = false) (ha : foldS s a = true) : foldS o a = false := by
  cases hb : foldS o a
  · rfl
  · have e1 := fold_is ha
    have e2 := fold_is hb
    have : foldS s o = true := decide_eq_true (e1.trans e2.symm)
    rw [h] at this
    cases this
theorem allV_nohit {l : Flds} {s : ByteArray} (h : hitB s l = false) : allV l s = [] := by
  unfold allV
  rw [List.map_eq_nil_iff, List.filter_eq_nil_iff]
  intro p hp hf
  have : hitB s l = true := List.any_eq_true.2 ⟨p, hp, hf⟩
  rw [h] at this
  cases this
theorem allV_setR (s t : ByteArray) : ∀ (l : Flds) (b : Bool), allV (setR s t b l) s = if b = true then [] else if hitB s l = true then [t] else []
  | [], b => by cases b <;> rfl
  | f :: r, b => by
    have h1 := allV_setR s t r true
    have h2 := allV_setR s t r b
    cases hf : foldS s f.1
    · have e : hitB s (f :: r) = hitB s r := by simp [hitB, hf]
      rw [e]
      simp only [setR, hf, Bool.false_eq_true, if_false, allV_cons, List.nil_append]
      exact h2
    · have e : hitB s (f :: r) = true := by simp [hitB, hf]
      rw [e]
      cases b
      · simp only [setR, hf, Bool.false_eq_true, if_true, if_false, allV_cons]
        rw [h1]
        rfl
      · simp only [setR, hf, if_true]
        rw [h1]
        rfl
theorem allV_set (l : Flds) (s t : ByteArray) : allV (setF l s t) s = [t] := by
  unfold setF
  cases h : hitB s l
  · simp only [Bool.false_eq_true, if_false]
    rw [allV_append, allV_nohit h, allV_cons, fold_self2]
    rfl
  · simp only [if_true]
    rw [allV_setR, h]
    rfl
theorem getF_set (l : Flds) (s t : ByteArray) : getF (setF l s t) s = (t, true) := by
  unfold getF
  rw [allV_set]
theorem allV_setR_other (s t o : ByteArray) (h : foldS s o = false) : ∀ (l : Flds) (b : Bool), allV (setR s t b l) o = allV l o
  | [], _ => rfl
  | f :: r, b => by
    have h1 := allV_setR_other s t o h r true
    have h2 := allV_setR_other s t o h r b
    cases hf : foldS s f.1
    · simp only [setR, hf, Bool.false_eq_true, if_false, allV_cons]
      rw [h2]
    · have e := fold_other h hf
      cases b
      · simp only [setR, hf, Bool.false_eq_true, if_true, if_false, allV_cons, e]
        rw [h1]
      · simp only [setR, hf, if_true, allV_cons, e, Bool.false_eq_true, if_false]
        rw [h1]
        rfl
theorem allV_set_other (l : Flds) (s t o : ByteArray) (h : foldS s o = false) : allV (setF l s t) o = allV l o := by
  unfold setF
  cases hh : hitB s l
  · simp only [Bool.false_eq_true, if_false]
    have e : foldS o s = false := by rw [fold_symm]; exact h
    rw [allV_append, allV_cons]
    simp only [e, Bool.false_eq_true, if_false, List.nil_append]
    exact List.append_nil _
  · simp only [if_true]
    exact allV_setR_other s t o h l false
theorem allV_gone (s : ByteArray) : ∀ l : Flds, allV (withoutF l [s]) s = []
  | [] => rfl
  | f :: r => by
    have h := allV_gone s r
    unfold withoutF at h ⊢
    cases hf : foldS s f.1
    · have e : isB [s] f.1 = false := by rw [isB_one, hf]
      simp only [List.filter_cons, e, Bool.not_false, if_true, allV_cons, hf, Bool.false_eq_true, if_false, List.nil_append]
      exact h
    · have e : isB [s] f.1 = true := by rw [isB_one, hf]
      simp only [List.filter_cons, e, Bool.not_true, Bool.false_eq_true, if_false]
      exact h
theorem allV_gone_other (s o : ByteArray) (h : foldS s o = false) : ∀ l : Flds, allV (withoutF l [s]) o = allV l o
  | [] => rfl
  | f :: r => by
    have h1 := allV_gone_other s o h r
    unfold withoutF at h1 ⊢
    cases hf : foldS s f.1
    · have e : isB [s] f.1 = false := by rw [isB_one, hf]
      simp only [List.filter_cons, e, Bool.not_false, if_true, allV_cons]
      rw [h1]
    · have e : isB [s] f.1 = true := by rw [isB_one, hf]
      simp only [List.filter_cons, e, Bool.not_true, Bool.false_eq_true, if_false, allV_cons, fold_other h hf, List.nil_append]
      exact h1
theorem strs_lit (w : World) (s : ByteArray) (hs : s.size ≤ 9223372036854775807) : StrsArg (w.alloc (.cells #[.string s] 9)) (some ⟨w.heap.size, 0, none⟩) 1 [s] := by
  refine ⟨rfl, by omega, by simpa using hs, .inr ⟨w.heap.size, 0, rfl, by simp, fun i hi => ?_⟩⟩
  have h0 : i = 0 := by simpa using hi
  subst h0
  exact (Blk.new w 9 #[.string s]).cell 0
/-- A row of texts, as one that is read. -/
theorem own_strs {w : World} {B : Nat} {v : Value} {ss : List ByteArray} (ho : w.ownsRow B 9 1 v ss.length (strVals ss)) (hn : ss.length ≤ 9223372036854775807) (hs : ∀ s ∈ ss, s.size ≤ 9223372036854775807) : ∃ y c, v = .slice y ss.length c ∧ StrsArg w y ss.length ss := by
  rcases ho.2 with ⟨rfl, h0⟩ | ⟨g, cap, cur, rfl, _⟩
  · exact ⟨none, 0, by rw [h0], rfl, hn, hs, .inl h0⟩
  · exact ⟨_, cap, rfl, StrsArg.of_owned ho hn hs⟩
end Go.Proofs.Ytdpohibgipkhnaa
