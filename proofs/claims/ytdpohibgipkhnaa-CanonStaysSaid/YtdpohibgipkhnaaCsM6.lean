/-
  THE WALK of CanonStays.
  THE WALK of CanonStays, whole.
-/
import Derived.Test.YtdpohibgipkhnaaCsM5
import Derived.StillTailTactics
namespace Go.Proofs.Ytdpohibgipkhnaa
open Go.RowKit Go.Sort Go.Proofs.Ytdpohibgipkhnaa.Oct
attribute [local go_sem ↓] Go.wp_at_zero Go.wp_at_succ

theorem split_two {l : Flds} {i : Nat} (h : i + 1 < l.length) : l = l.take i ++ l[i] :: l[i + 1] :: l.drop (i + 2) := by
  have h1 : l.drop i = l[i] :: l[i + 1] :: l.drop (i + 2) := by
    rw [List.drop_eq_getElem_cons (by omega), List.drop_eq_getElem_cons h]
  rw [← h1, List.take_append_drop]
def turnF (l : Flds) (i : Nat) (x y : ByteArray × ByteArray) : Flds := (l.set i y).set (i + 1) x
theorem turnF_eq {l : Flds} {i : Nat} (h : i + 1 < l.length) : turnF l i l[i] l[i + 1] = l.take i ++ l[i + 1] :: l[i] :: l.drop (i + 2) := by
  have hl : (l.take i).length = i := by rw [List.length_take]; omega
  obtain ⟨x, hx⟩ : ∃ x, x = l[i] := ⟨_, rfl⟩
  obtain ⟨y, hy⟩ : ∃ y, y = l[i + 1] := ⟨_, rfl⟩
  have hs := split_two h
  rw [← hx, ← hy] at hs
  rw [← hx, ← hy]
  unfold turnF
  conv => lhs; rw [hs]
  rw [List.set_append_right _ _ (by omega), hl, Nat.sub_self, List.set_cons_zero, List.set_append_right _ _ (by omega), hl, show i + 1 - i = 1 by omega]
  rfl
theorem same_turn {l : Flds} {i : Nat} (h : i + 1 < l.length) (hf : foldS l[i].1 l[i + 1].1 = false) : sameB (canF l) (canF (turnF l i l[i] l[i + 1])) = true := by
  rw [turnF_eq h]
  conv => lhs; lhs; rw [split_two h]
  exact same_turned _ _ _ _ hf
theorem turnF_mem {l : Flds} {i : Nat} {x y : ByteArray × ByteArray} (hx : x ∈ l) (hy : y ∈ l) : ∀ p ∈ turnF l i x y, p ∈ l := by
  intro p hp
  unfold turnF at hp
  rcases List.mem_or_eq_of_mem_set hp with hp | rfl
  · rcases List.mem_or_eq_of_mem_set hp with hp | rfl
    · exact hp
    · exact hy
  · exact hx
theorem turnF_len (l : Flds) (i : Nat) (x y : ByteArray × ByteArray) : (turnF l i x y).length = l.length := by unfold turnF; rw [List.length_set, List.length_set]
/-- Small enough for all that is asked of them. -/
structure Small (l : Flds) : Prop where
  few : l.length ≤ 2000
  nam : ∀ p ∈ l, p.1.size ≤ 1000
  can : (canF l).length < 60000
  sum : SumLe l 1000000000
theorem Small.of {l : Flds} (h1 : l.length ≤ 50) (h2 : ∀ p ∈ l, p.1.size ≤ 1000 ∧ p.2.size ≤ 1000) : Small l := by
  refine ⟨by omega, fun p hp => (h2 p hp).1, ?_, SumLe.of (a := 50) (b := 1000) h1 (fun p hp => (h2 p hp).2) (by decide)⟩
  have h3 := canTo_len l l.length
  have h4 : l.length * l.length ≤ 50 * 50 := Nat.mul_le_mul h1 h1
  show (canTo l l.length).length < 60000
  omega
theorem Small.canF {l : Flds} (h : fewB l = true) : Small (canF l) := by
  obtain ⟨a1, a2, a3, a4⟩ := few_can h
  have st := canTo_str (k := l.length) a2 a3
  refine ⟨by omega, fun p hp => (st p hp).1, by rw [canF_idem]; omega, ?_⟩
  exact SumLe.of (a := 2000) (b := 20000) (by omega) (fun p hp => (st p hp).2) (by decide)
theorem csame_sm (w : World) (x y : Option Addr) (n c m d : Nat) (l k : Flds) (h : FldsAt w x n l) (h2 : FldsAt w y m k) (hnc : n ≤ c) (hmd : m ≤ d) (hl : Small l) (hk : Small k) :
    Calls Try.prog 47 #[.slice x n c, .slice y m d] w fun e w' => e = .returned (.bool (sameB (canF l) (canF k))) ∧ Below w.heap.size w w' :=
  csame_any w x y n c m d l k h h2 hnc hmd (by have := h.len; have := hl.few; omega) (by have := h2.len; have := hk.few; omega) (fun p hp => by have := hl.nam p hp; omega) (fun p hp => by have := hk.nam p hp; omega) hl.can hk.can hl.sum hk.sum
theorem fields_sm (w : World) (x : Option Addr) (n c : Nat) (l : Flds) (h : FldsAt w x n l) (hnc : n ≤ c) (hl : Small l) : Calls Try.prog 46 #[.slice x n c] w (FldsPost w (canF l)) :=
  fields_any w x n c l h hnc (by have := h.len; have := hl.few; omega) (fun p hp => by have := hl.nam p hp; omega) hl.can hl.sum

theorem flds_of_row {w : World} {B g n cap : Nat} {L : Flds} (h : w.ownsRow B 31 2 (.slice (some ⟨g, 0, none⟩) n cap) n (fldVals L)) (hn : n ≤ 65536) (hs : ∀ p ∈ L, p.1.size ≤ 9223372036854775807 ∧ p.2.size ≤ 9223372036854775807) : FldsAt w (some ⟨g, 0, none⟩) n L ∧ n ≤ cap := by
  refine ⟨FldsAt.of_own h (by omega) hs, ?_⟩
  rcases h.2 with ⟨he, _⟩ | ⟨g', cap', cur, he, _, _, hnc, _⟩
  · cases he
  · injection he with _ _ he
    omega

theorem reads_drop {w : World} {b o n : Nat} {l : Flds} (h : FldsAt w (some ⟨b, o, none⟩) n l) (k cap : Nat) (hk : k ≤ n) (hc : n ≤ cap) (hne : cap ≠ k) : Reads w w.heap.size 2 (some ⟨b, o + k * 2, none⟩) (n - k) (fldVals (l.drop k)) := by
  have h1 := (h.drop k cap hk hc).reads
  rw [if_neg hne, Option.map_some, Addr.add_lit] at h1
  exact h1

set_option maxRecDepth 100000 in
set_option maxHeartbeats 6400000 in
theorem cstays_go (x : Option Addr) (n c i : Nat) (l : Flds) (v : ByteArray) (w : World) (h : FldsAt w x n l) (hnc : n ≤ c) (hl : fewB l = true) (hv : v.size ≤ 300) (hi : i + 1 < l.length) :
    Calls Try.prog 9 #[.slice x n c, .int .i64 i, .string v] w fun e w' => e = .returned (.bool true) ∧ Below w.heap.size w w' := by
  obtain ⟨i0, hif, hz⟩ := info_hid info_field
  have hn := h.len
  subst hn
  have SL := Lib.hid (Small.of (l := l) (by have := (few_can hl).1; omega) (fun p hp => by have := (fewB_of hl).2 p hp; omega))
  have SC := Lib.hid (Small.canF hl)
  have HX := Lib.hid (fun w' (hb : Below w.heap.size w w') => h.below hb)
  have HL := Lib.hid hl
  have B0 := Lib.hid (Below.refl w.heap.size w)
  have ST : Hid (∀ p ∈ canF l, p.1.size ≤ 9223372036854775807 ∧ p.2.size ≤ 9223372036854775807) := fun p hp => by
    obtain ⟨_, a2, a3, _⟩ := few_can hl
    have := canTo_str (k := l.length) a2 a3 p hp
    omega
  have HS2 := Lib.hid (sameB_canF l)
  have HSTR := Lib.hid h.str
  have HSZ : Hid (∀ p ∈ l, p.1.size ≤ 1000 ∧ p.2.size ≤ 1000) := fun p hp => by have := (fewB_of hl).2 p hp; omega
  have HID := Lib.hid (canF_idem l)
  have hl40 : l.length ≤ 40 := (few_can hl).1
  obtain ⟨b, o, rfl, hblt, hcl⟩ := h.at_.resolve_left (by omega)
  obtain ⟨⟨xa, xb⟩, hx⟩ : ∃ p, p = l[i] := ⟨_, rfl⟩
  obtain ⟨⟨ya, yb⟩, hy⟩ : ∃ p, p = l[i + 1] := ⟨_, rfl⟩
  have HXI := Lib.hid hx
  have HYI := Lib.hid hy
  have HCX : Hid (∀ w', Below w.heap.size w w' → (w'.cell? ⟨b, o + i * 2, none⟩ = some (.string xa) ∧ w'.cell? ⟨b, o + i * 2 + 1, none⟩ = some (.string xb)) ∧ (w'.cell? ⟨b, o + (i + 1) * 2, none⟩ = some (.string ya) ∧ w'.cell? ⟨b, o + (i + 1) * 2 + 1, none⟩ = some (.string yb))) := fun w' hb' => by
    have h1 := hcl i (by omega)
    have h2 := hcl (i + 1) hi
    rw [← hx] at h1
    rw [← hy] at h2
    exact ⟨⟨(hb'.cell (p := ⟨b, o + i * 2, none⟩) hblt).trans h1.1, (hb'.cell (p := ⟨b, o + i * 2 + 1, none⟩) hblt).trans h1.2⟩, ⟨(hb'.cell (p := ⟨b, o + (i + 1) * 2, none⟩) hblt).trans h2.1, (hb'.cell (p := ⟨b, o + (i + 1) * 2 + 1, none⟩) hblt).trans h2.2⟩⟩
  have HBL := Lib.hid hblt
  clear hx hy hcl hblt
  have hiv : ¬ (300 : Int) < (v.size : Int) := by omega
  have ii1 : ¬ (i : Int) < 0 := by omega
  have ii2 : ¬ ((l.length : Int) - 1) ≤ (i : Int) := by omega
  clear h hl
  go_enter Try.func9, Try.ntmps9
  go_wp2_with fail
  refine (few_any _ _ _ c l (HX.out _ B0.out)).mono ?_
  rintro e w1 ⟨rfl, hb1⟩
  rw [HL.out]
  have B1 := Lib.hid hb1
  clear hb1
  go_wp2_with fail
  refine (fields_sm _ _ _ c l (HX.out _ B1.out) hnc SL.out).mono ?_
  rintro e w2 ⟨v2, rfl, ho2, hb2⟩
  obtain ⟨x2, c2, rfl, hc2, hF2⟩ := own_flds ho2 (by have := SC.out.few; omega) ST.out
  have F2 := Lib.hid hF2
  have C2 := Lib.hid hc2
  have B2 := Lib.hid (grow_trans B1.out hb2)
  clear hb2 ho2 hF2 hc2
  go_wp2_with fail
  refine (fields_sm _ x2 _ c2 (canF l) F2.out C2.out SC.out).mono ?_
  rintro e w3 ⟨v3, rfl, ho3, hb3⟩
  rw [HID.out] at ho3
  obtain ⟨x3, c3, rfl, _, hF3⟩ := own_flds ho3 (by have := SC.out.few; omega) ST.out
  have F3 := Lib.hid hF3
  have F2b := Lib.hid (F2.out.below hb3)
  have B3 := Lib.hid (grow_trans B2.out hb3)
  clear hb3 ho3 hF3 F2
  go_wp2_with fail
  refine (rsamef_any _ _ _ _ _ _ (canF l) (canF l) _ F3.out F2b.out).mono ?_
  rintro e w4 ⟨rfl, hd4⟩
  rw [show decide (canF l = canF l) = true from decide_eq_true rfl]
  have F4 := Lib.hid (F2b.out.below (hd4.below _))
  have B4 := Lib.hid (grow_trans B3.out hd4.grow)
  clear hd4 F3 F2b
  go_wp2_with fail
  refine (csame_sm _ _ _ _ c _ c2 l (canF l) (HX.out _ B4.out) F4.out hnc C2.out SL.out SC.out).mono ?_
  rintro e w5 ⟨rfl, hb5⟩
  rw [HS2.out.1]
  have F5 := Lib.hid (F4.out.below hb5)
  have B5 := Lib.hid (grow_trans B4.out hb5)
  clear hb5 F4
  go_wp2_with fail
  refine (csame_sm _ _ _ _ c2 _ c (canF l) l F5.out (HX.out _ B5.out) C2.out hnc SC.out SL.out).mono ?_
  rintro e w6 ⟨rfl, hb6⟩
  rw [HS2.out.2]
  have B6 := Lib.hid (grow_trans B5.out hb6)
  clear hb6 F5
  have HO7 : Hid ((w6.alloc (.cells #[] 31)).ownsRow w6.heap.size 31 2 (.slice (some ⟨w6.heap.size, 0, none⟩) 0 0) 0 []) := World.ownsRow_lit w6 #[] 0 (Nat.le_refl _) (by decide) rfl
  have HR7 := Lib.hid (HX.out (w6.alloc (.cells #[] 31)) (B6.out.alloc B6.out.size _)).reads
  have HZ7 : Hid (w6.heap.size ≤ (w6.alloc (.cells #[] 31)).heap.size) := by show _ ≤ _; simp
  have HM7 : Hid (0 + l.length ≤ maxLen ∧ (0 + l.length) * 32 ≤ 140737488355328) := ⟨by unfold maxLen; omega, by omega⟩
  go_wp2_with (at_builtin; refine wpList_append_any _ rfl (.tmp 49) (.tmp 50) 22 rfl w6.heap.size 31 i0 _ 2 32 Try.underlying22 hif.out hz.out.1 hz.out.2.1 hz.out.2.2 rfl (by decide) _ 0 [] rfl HO7.out _ (some ⟨b, o, none⟩) l.length c (fldVals l) rfl HR7.out (fld_one l) HM7.out.1 HM7.out.2 HZ7.out ?_; intro v7 w7 hown7 hg7 hat7; obtain ⟨g7, c7, rfl, hg7lo, hg7lt⟩ := hown7.form (by omega); rw [Nat.zero_add, List.nil_append] at hown7; rw [Nat.zero_add]; obtain ⟨rest, hd7, hback⟩ := dat_of_own hown7; have HD7 := Lib.hid hd7; have HBK := Lib.hid hback; have B7 := Lib.hid (B6.out.trans ((below_owned (below_new w6 _) HZ7.out HO7.out hg7).mono B6.out.size)); have hc7a := (hd7.at_ i l[i] (List.getElem?_eq_getElem (by omega))); have hf7 := hd7.free; obtain ⟨⟨u1, u2⟩, u3, u4⟩ := HCX.out w7 B7.out; have hd8 := hd7.set_ i (by omega) ya yb; have B8 := Lib.hid ((B7.out.setCell (p := ⟨g7, i * 2, none⟩) (by have := B6.out.size; show _ ≤ g7; omega) (.string ya)).setCell (p := ⟨g7, i * 2 + 1, none⟩) (by have := B6.out.size; show _ ≤ g7; omega) (.string yb)); have HD8 := Lib.hid hd8; have hc8 := hd8.at_ (i + 1) l[i + 1] (by rw [List.getElem?_set_ne (by omega)]; exact List.getElem?_eq_getElem hi); have hf8 := hd8.free; obtain ⟨⟨q1, q2⟩, q3, q4⟩ := HCX.out _ B8.out; clear hd8 hown7 hd7 hback hg7 hat7)
  obtain ⟨w9, hw9⟩ : ∃ w9, w9 = ((((w7.setCell ⟨g7, i * 2, none⟩ (.string ya)).setCell ⟨g7, i * 2 + 1, none⟩ (.string yb)).setCell ⟨g7, (i + 1) * 2, none⟩ (.string xa)).setCell ⟨g7, (i + 1) * 2 + 1, none⟩ (.string xb)) := ⟨_, rfl⟩
  rw [← hw9]
  have hlo : w.heap.size ≤ g7 := Nat.le_trans B6.out.size hg7lo
  have B9 : Hid (Below w.heap.size w w9) := by rw [hw9]; exact (B8.out.setCell (p := ⟨g7, (i + 1) * 2, none⟩) hlo (.string xa)).setCell (p := ⟨g7, (i + 1) * 2 + 1, none⟩) hlo (.string xb)
  have HT : Hid (FldsAt w9 (some ⟨g7, 0, none⟩) l.length (turnF l i (xa, xb) (ya, yb)) ∧ l.length ≤ c7) := by
    have hd9 := HD8.out.set_ (i + 1) (by rw [List.length_set]; exact hi) xa xb
    rw [← hw9] at hd9
    have hrow := HBK.out w9 (turnF l i (xa, xb) (ya, yb)) hd9 (turnF_len _ _ _ _)
    refine flds_of_row hrow (by omega) fun p hp => ?_
    have hm := turnF_mem (by rw [HXI.out]; exact List.getElem_mem (by omega)) (by rw [HYI.out]; exact List.getElem_mem hi) p hp
    have := SL.out.nam p hm
    exact HSTR.out p hm
  have STU : Hid (Small (turnF l i (xa, xb) (ya, yb))) := Small.of (by rw [turnF_len]; omega) fun p hp => HSZ.out p (turnF_mem (by rw [HXI.out]; exact List.getElem_mem (by omega)) (by rw [HYI.out]; exact List.getElem_mem hi) p hp)
  have HSTN : Hid (foldS xa ya = false → sameB (canF l) (canF (turnF l i (xa, xb) (ya, yb))) = true) := fun hf => by
    have h1 := same_turn (l := l) hi (by rw [← HXI.out, ← HYI.out]; exact hf)
    rwa [← HXI.out, ← HYI.out] at h1
  have hxs : xa.size ≤ 9223372036854775807 := (HSTR.out _ (by rw [HXI.out]; exact List.getElem_mem (by omega) : (xa, xb) ∈ l)).1
  have hys : ya.size ≤ 9223372036854775807 := (HSTR.out _ (by rw [HYI.out]; exact List.getElem_mem hi : (ya, yb) ∈ l)).1
  obtain ⟨⟨r1, r2⟩, r3, r4⟩ := HCX.out w9 B9.out
  have j1 : (0 : Int) ≤ (i : Int) := by omega
  have j2 : (i : Int) < (l.length : Int) := by omega
  have j3 : (0 : Int) ≤ (i : Int) + 1 := by omega
  have j4 : (i : Int) + 1 < (l.length : Int) := by omega
  have jw : IntKind.i64.wrap ((i : Int) + 1) = (i : Int) + 1 := IntWalk.i64_in _ (by omega)
  have jt : ((i : Int) + 1).toNat = i + 1 := by omega
  clear hw9 hc7a hf7 u1 u2 u3 u4 hc8 hf8 q1 q2 q3 q4 HD8 HD7 HBK B8 B7 HO7 HR7 HZ7 HM7
  cases hf : foldS xa ya
  case' false =>
    have HFF := Lib.hid hf
    have HSM := Lib.hid (HSTN.out hf)
    clear hf
    go_region_held3 (fun w' => w'.cell? ⟨b, o + i * 2, none⟩ = some (.string xa) ∧ w'.cell? ⟨b, o + (i + 1) * 2, none⟩ = some (.string ya)) (go_keep)
      (first
        | (go_at_call 47; have hg := HT10; refine (csame_sm _ _ _ _ c _ c7 l (turnF l i (xa, xb) (ya, yb)) (HX.out _ (by first | exact B10.out | exact B10.out.drew | exact below_drewN B10.out _)) (by first | exact HT10.out | exact HT10.out.below (Below.refl _ _).drew | exact HT10.out.below (below_drewN (Below.refl _ _) _)) hnc HT.out.2 SL.out STU.out).mono ?_; rintro e w11 ⟨rfl, hb11⟩; rw [HSM.out]; have B11 := Lib.hid (grow_trans (by first | exact B10.out | exact B10.out.drew | exact below_drewN B10.out _) hb11); have k11a := (HCX.out _ B11.out).1.1; have k11b := (HCX.out _ B11.out).2.1; clear hg hb11)
        | (go_at_call 44; refine (fold_any xa ya _ hxs hys).mono ?_; rintro e w10 ⟨rfl, hd10⟩; rw [HFF.out]; have HT10 := Lib.hid (FldsAt.below (by first | exact HT.out.1 | exact HT.out.1.below (Below.refl _ _).drew | exact HT.out.1.below (below_drewN (Below.refl _ _) _)) (hd10.below _)); have B10 := Lib.hid (grow_trans (by first | exact B9.out | exact B9.out.drew | exact below_drewN B9.out _) hd10.grow); have k10a := (HCX.out _ B10.out).1.1; have k10b := (HCX.out _ B10.out).2.1; clear hd10)
        | fail)
    obtain ⟨wE, hwE⟩ : ∃ wE, wE = w11 := ⟨_, rfl⟩
    have BE : Hid (Below w.heap.size w wE) := by rw [hwE]; exact B11.out
    rw [← hwE]
    clear B11 k11a k11b hwE
  case' true =>
    have HFF := Lib.hid hf
    clear hf HSTN
    have HQF : Hid (∀ m, Calls Try.prog 44 #[.string xa, .string ya] (w9.drewN m) fun e w' => e = .returned (.bool true) ∧ Drawn (w9.drewN m) w') := fun m => by
      have h := fold_any xa ya (w9.drewN m) hxs hys
      rw [HFF.out] at h
      exact h
    go_quiet ((go_at_call 44; exact quiet_drawn (HQF.out _)))
    obtain ⟨wE, hwE⟩ : ∃ wE, wE = w9.drewN nq := ⟨_, rfl⟩
    have BE : Hid (Below w.heap.size w wE) := by rw [hwE]; exact below_drewN B9.out _
    rw [← hwE]
    clear HQF hwE
  all_goals
    clear jw jt r1 r2 r3 r4 HT STU HFF B9
    obtain ⟨⟨r1, r2⟩, _, _⟩ := HCX.out wE BE.out
    go_wp2_with fail
    refine (single_any xa _ hxs).mono ?_
    rintro e w12 ⟨rfl, hb12⟩
    have B12 := Lib.hid (grow_trans BE.out hb12)
    clear hb12 r1 r2 BE
    cases hsg : singB xa
    · have HSG := Lib.hid hsg
      clear hsg
      have j5 : (i : Int) + 1 ≤ (c : Int) := by omega
      have j6 : (i : Int) ≤ (c : Int) := by omega
      have jw : IntKind.i64.wrap ((i : Int) + 1) = (i : Int) + 1 := IntWalk.i64_in _ (by omega)
      have jt : ((i : Int) + 1).toNat = i + 1 := by omega
      go_wp2_with fail
      go_cut [9, 10] (fun s9 s10 wx => ∃ vA vB : Value, vA = s9 ∧ vB = s10 ∧ Hid (wx.ownsRow w12.heap.size 31 2 vA (i + 1) (fldVals (l.take (i + 1)))) ∧ Hid (wx.ownsRow w12.heap.size 31 2 vB i (fldVals (l.take i))) ∧ Hid (∃ k, vB.ownBlock = some k ∧ vA.ownBlock ≠ some k) ∧ Hid (Below w12.heap.size w12 wx))
      case first =>
        have HOA1 : Hid ((w12.alloc (.cells #[] 31)).drew.ownsRow w12.heap.size 31 2 (.slice (some ⟨w12.heap.size, 0, none⟩) 0 0) 0 []) := World.ownsRow_lit w12 #[] 0 (Nat.le_refl _) (by decide) rfl
        have HOA2 : Hid (((w12.alloc (.cells #[] 31)).alloc (.cells #[] 31)).drew.ownsRow w12.heap.size 31 2 (.slice (some ⟨w12.heap.size, 0, none⟩) 0 0) 0 []) := World.ownsRow.alloc HOA1.out _
        have HOA3 : Hid (((w12.alloc (.cells #[] 31)).alloc (.cells #[] 31)).drew.ownsRow w12.heap.size 31 2 (.slice (some ⟨w12.heap.size + 1, 0, none⟩) 0 0) 0 []) := by
          have h1 := World.ownsRow_lit (base := w12.heap.size) (e := 31) (size := 2) (w12.alloc (.cells #[] 31)) #[] 0 (by rw [World.size_alloc]; exact Nat.le_succ _) (by decide) rfl
          rw [World.size_alloc] at h1
          exact h1
        have HB1 : Hid (Below w12.heap.size w12 (w12.alloc (.cells #[] 31))) := below_new w12 _
        have HB2 : Hid (Below w12.heap.size w12 ((w12.alloc (.cells #[] 31)).alloc (.cells #[] 31))) := HB1.out.alloc (by simp) _
        have HRA1 : Hid (Reads (w12.alloc (.cells #[] 31)).drew (w12.alloc (.cells #[] 31)).heap.size 2 (some ⟨b, o, none⟩) (i + 1) (fldVals (l.take (i + 1)))) := ((HX.out _ (B12.out.trans (HB1.out.mono B12.out.size))).take (i + 1) (by omega)).reads
        have HRA2 : Hid (Reads ((w12.alloc (.cells #[] 31)).alloc (.cells #[] 31)).drew ((w12.alloc (.cells #[] 31)).alloc (.cells #[] 31)).heap.size 2 (some ⟨b, o, none⟩) (i + 1) (fldVals (l.take (i + 1)))) := ((HX.out _ (B12.out.trans (HB2.out.mono B12.out.size))).take (i + 1) (by omega)).reads
        have HMA : Hid (0 + (i + 1) ≤ maxLen ∧ (0 + (i + 1)) * 32 ≤ 140737488355328) := ⟨by unfold maxLen; omega, by omega⟩
        have HMB : Hid (0 + i ≤ maxLen ∧ (0 + i) * 32 ≤ 140737488355328) := ⟨by unfold maxLen; omega, by omega⟩
        have HZ1 : Hid (w12.heap.size ≤ (w12.alloc (.cells #[] 31)).drew.heap.size) := HB1.out.size
        have HZ2 : Hid (w12.heap.size ≤ ((w12.alloc (.cells #[] 31)).alloc (.cells #[] 31)).drew.heap.size) := HB2.out.size
        go_region_law (first
          | (have hg := WB; refine step_append_any _ (by rfl) (.tmp 100) (.tmp 103) _ (by rfl) w12.heap.size 31 i0 _ 2 32 Try.underlying22 hif.out hz.out.1 hz.out.2.1 hz.out.2.2 rfl (by decide) _ 0 [] (by rfl) HOB.out _ _ i c (fldVals (l.take i)) (by rfl) HRB.out (fld_one _) HMB.out.1 HMB.out.2 HZB.out ?_; intro vB wB hownB hgB hatB; have OB := Lib.hid hownB; have GB := Lib.hid hgB; have AB := Lib.hid hatB; clear hg hownB hgB hatB)
          | (have hg := WA; refine step_append_any _ (by rfl) (.tmp 100) (.tmp 103) _ (by rfl) w12.heap.size 31 i0 _ 2 32 Try.underlying22 hif.out hz.out.1 hz.out.2.1 hz.out.2.2 rfl (by decide) _ 0 [] (by rfl) HOB1.out _ _ i c (fldVals (l.take i)) (by rfl) HRB1.out (fld_one _) HMB.out.1 HMB.out.2 HZB1.out ?_; intro vB wB hownB hgB hatB; have OB := Lib.hid hownB; have GB := Lib.hid hgB; have AB := Lib.hid hatB; have HOB := HOB1; have HZB := HZB1; have GW := Lib.hid (below_new wA (.cells #[] 31)); clear hg hownB hgB hatB)
          | (refine step_append_any _ (by rfl) (.tmp 94) (.tmp 98) _ (by rfl) w12.heap.size 31 i0 _ 2 32 Try.underlying22 hif.out hz.out.1 hz.out.2.1 hz.out.2.2 rfl (by decide) _ 0 [] (by rfl) HOA1.out _ _ (i + 1) c (fldVals (l.take (i + 1))) (by rfl) HRA1.out (fld_one _) HMA.out.1 HMA.out.2 HZ1.out ?_; intro vA wA hownA hgA hatA; have OA := Lib.hid hownA; have BWA := Lib.hid (below_owned HB1.out.drew HZ1.out HOA1.out hgA); have WA := HB1; have HOB1 : Hid ((wA.alloc (.cells #[] 31)).ownsRow w12.heap.size 31 2 (.slice (some ⟨wA.heap.size, 0, none⟩) 0 0) 0 []) := (World.ownsRow_lit wA #[] 0 BWA.out.size (by decide) rfl); have HRB1 : Hid (Reads (wA.alloc (.cells #[] 31)) (wA.alloc (.cells #[] 31)).heap.size 2 (some ⟨b, o, none⟩) i (fldVals (l.take i))) := ((HX.out _ (B12.out.trans ((BWA.out.alloc BWA.out.size (.cells #[] 31)).mono B12.out.size))).take i (by omega)).reads; have HZB1 : Hid (w12.heap.size ≤ (wA.alloc (.cells #[] 31)).heap.size) := (BWA.out.alloc BWA.out.size (.cells #[] 31)).size; have NEB : Hid (vA.ownBlock ≠ Value.ownBlock (.slice (some ⟨wA.heap.size, 0, none⟩) 0 0)) := (fun h => absurd (hownA.lt wA.heap.size h).2 (Nat.lt_irrefl _)); have OAW := Lib.hid (hownA.alloc (.cells #[] 31)); have BWW := Lib.hid (BWA.out.alloc BWA.out.size (.cells #[] 31)); clear hownA hgA hatA)
          | (refine step_append_any _ (by rfl) (.tmp 94) (.tmp 98) _ (by rfl) w12.heap.size 31 i0 _ 2 32 Try.underlying22 hif.out hz.out.1 hz.out.2.1 hz.out.2.2 rfl (by decide) _ 0 [] (by rfl) HOA2.out _ _ (i + 1) c (fldVals (l.take (i + 1))) (by rfl) HRA2.out (fld_one _) HMA.out.1 HMA.out.2 HZ2.out ?_; intro vA wA hownA hgA hatA; have OA := Lib.hid hownA; have BWA := Lib.hid (below_owned HB2.out.drew HZ2.out HOA2.out hgA); have WB := HB1; have HOB : Hid (wA.ownsRow w12.heap.size 31 2 (.slice (some ⟨w12.heap.size + 1, 0, none⟩) 0 0) 0 []) := (HOA3.out.kept hgA (.inr (by simp [Value.ownBlock]))); have HRB : Hid (Reads wA wA.heap.size 2 (some ⟨b, o, none⟩) i (fldVals (l.take i))) := ((HX.out _ (B12.out.trans (BWA.out.mono B12.out.size))).take i (by omega)).reads; have HZB : Hid (w12.heap.size ≤ wA.heap.size) := BWA.out.size; have NEB : Hid (vA.ownBlock ≠ Value.ownBlock (.slice (some ⟨w12.heap.size + 1, 0, none⟩) 0 0)) := (fun h => by rcases hatA with e | e <;> rw [e] at h <;> simp [Value.ownBlock] at h <;> omega); have OAW := Lib.hid hownA; have BWW := BWA; clear hownA hgA hatA)
          | (refine step_append_any _ (by rfl) (.tmp 94) (.tmp 98) _ (by rfl) w12.heap.size 31 i0 _ 2 32 Try.underlying22 hif.out hz.out.1 hz.out.2.1 hz.out.2.2 rfl (by decide) _ 0 [] (by rfl) HOA3.out _ _ (i + 1) c (fldVals (l.take (i + 1))) (by rfl) HRA2.out (fld_one _) HMA.out.1 HMA.out.2 HZ2.out ?_; intro vA wA hownA hgA hatA; have OA := Lib.hid hownA; have BWA := Lib.hid (below_owned HB2.out.drew HZ2.out HOA3.out hgA); have WB := HB1; have HOB : Hid (wA.ownsRow w12.heap.size 31 2 (.slice (some ⟨w12.heap.size, 0, none⟩) 0 0) 0 []) := (HOA2.out.kept hgA (.inr (by simp [Value.ownBlock]))); have HRB : Hid (Reads wA wA.heap.size 2 (some ⟨b, o, none⟩) i (fldVals (l.take i))) := ((HX.out _ (B12.out.trans (BWA.out.mono B12.out.size))).take i (by omega)).reads; have HZB : Hid (w12.heap.size ≤ wA.heap.size) := BWA.out.size; have NEB : Hid (vA.ownBlock ≠ Value.ownBlock (.slice (some ⟨w12.heap.size, 0, none⟩) 0 0)) := (fun h => by rcases hatA with e | e <;> rw [e] at h <;> simp [Value.ownBlock] at h <;> omega); have OAW := Lib.hid hownA; have BWW := BWA; clear hownA hgA hatA)
          | fail)
        all_goals
          go_wp2_with fail
          go_meet
          have h1 := OAW.out.kept GB.out (.inr NEB.out)
          have h2 := OB.out
          rw [Nat.zero_add, List.nil_append] at h1 h2
          refine ⟨vA, vB, rfl, rfl, h1, h2, ?_, below_owned BWW.out HZB.out HOB.out GB.out⟩
          rcases AB.out with e | e
          · exact ⟨_, e, NEB.out⟩
          · exact ⟨_, e, fun h => by have := (OAW.out.lt _ h).2; omega⟩
      case rest =>
        obtain ⟨vA, vB, rfl, rfl, hA2, hB2, hNE, hBC⟩ := hcut
        have JN : Hid (c ≠ i + 1) := by show _ ≠ _; omega
        have jn : ¬ c = i + 1 := by omega
        have jn2 : ¬ (c : Int) = (i : Int) + 1 := by omega
        have j7 : (i : Int) + 1 ≤ (l.length : Int) := by omega
        have hxb : xb.size ≤ 300 := (fewB_of HL.out).2 (xa, xb) (by rw [HXI.out]; exact List.getElem_mem (by omega)) |>.2
        have js1 : ¬ 9223372036854775807 < xb.size + 2 := by omega
        have js2 : ¬ 9223372036854775807 < xb.size + 2 + v.size := by omega
        have BC := Lib.hid (B12.out.trans (hBC.out.mono B12.out.size))
        obtain ⟨⟨r1, r2⟩, _, _⟩ := HCX.out wc BC.out
        have HOvC : Hid ((wc.alloc (.cells #[.string xa, .string v] 31)).drew.ownsRow w12.heap.size 31 2 vA (i + 1) (fldVals (l.take (i + 1)))) := hA2.out.alloc _
        have HRvC : Hid (Reads (wc.alloc (.cells #[.string xa, .string v] 31)).drew (wc.heap.size + 1) 2 (some ⟨wc.heap.size, 0, none⟩) 1 [.string xa, .string v]) := (reads_new wc [.string xa, .string v] 31 2 rfl).drew
        have HMvC : Hid (i + 1 + 1 ≤ maxLen ∧ (i + 1 + 1) * 32 ≤ 140737488355328) := ⟨by unfold maxLen; omega, by omega⟩
        have HMvD : Hid (i + 1 + 1 + (l.length - (i + 1)) ≤ maxLen ∧ (i + 1 + 1 + (l.length - (i + 1))) * 32 ≤ 140737488355328) := ⟨by unfold maxLen; omega, by omega⟩
        have HZvC : Hid (w12.heap.size ≤ (wc.alloc (.cells #[.string xa, .string v] 31)).drew.heap.size) := (hBC.out.alloc hBC.out.size (.cells #[.string xa, .string v] 31)).size
        have HBvC : Hid (Below w12.heap.size w12 (wc.alloc (.cells #[.string xa, .string v] 31)).drew) := (hBC.out.alloc hBC.out.size (.cells #[.string xa, .string v] 31)).drew
        have HNvC : Hid (wc.heap.size + 1 = (wc.alloc (.cells #[.string xa, .string v] 31)).drew.heap.size) := (World.size_alloc wc (.cells #[.string xa, .string v] 31)).symm
        go_wp2_with fail
        go_region_law (first
          | (have hg := GvC; refine step_append_any _ (by rfl) (.tmp 114) (.tmp 118) _ (by rfl) w12.heap.size 31 i0 _ 2 32 Try.underlying22 hif.out hz.out.1 hz.out.2.1 hz.out.2.2 rfl (by decide) vC (i + 1 + 1) _ (by rfl) OvC.out _ _ (l.length - (i + 1)) _ (fldVals (l.drop (i + 1))) (by rfl) HRvD.out (fld_one _) HMvD.out.1 HMvD.out.2 HZvD.out ?_; intro vD wD hownvD hgvD hatvD; have OvD := Lib.hid hownvD; have GvD := Lib.hid hgvD; have AvD := Lib.hid hatvD; clear hg hownvD hgvD hatvD)
          | (refine step_append_any _ (by rfl) (.tmp 105) (.tmp 113) _ (by rfl) w12.heap.size 31 i0 _ 2 32 Try.underlying22 hif.out hz.out.1 hz.out.2.1 hz.out.2.2 rfl (by decide) vA (i + 1) _ (by rfl) HOvC.out _ _ 1 1 [.string xa, .string v] (by rfl) HRvC.out (one_fld _ _) HMvC.out.1 HMvC.out.2 HZvC.out ?_; intro vC wC hownvC hgvC hatvC; have OvC := Lib.hid hownvC; have GvC := Lib.hid hgvC; have AvC := Lib.hid hatvC; have BWvC := Lib.hid (below_owned HBvC.out HZvC.out HOvC.out hgvC); have HZvD : Hid (w12.heap.size ≤ wC.heap.size) := BWvC.out.size; have HRvD : Hid (Reads wC wC.heap.size 2 (some ⟨b, o + (i + 1) * 2, none⟩) (l.length - (i + 1)) (fldVals (l.drop (i + 1)))) := (reads_drop (HX.out _ (B12.out.trans (BWvC.out.mono B12.out.size))) (i + 1) c (by omega) (by omega) JN.out); clear hownvC hgvC hatvC)
          | fail)
        have hBD : Hid (Below w12.heap.size w12 wD) := below_owned BWvC.out HZvD.out OvC.out GvD.out
        have hNC : Hid (∃ k, vB.ownBlock = some k ∧ k < wc.heap.size ∧ vA.ownBlock ≠ some k ∧ vC.ownBlock ≠ some k) := by
          obtain ⟨k, e1, e2⟩ := hNE.out
          have hk := (hB2.out.lt k e1).2
          refine ⟨k, e1, hk, e2, fun h => ?_⟩
          rcases AvC.out with e | e
          · exact e2 (e.symm.trans h)
          · have h2 := e.symm.trans h
            injection h2 with h2
            have := HNvC.out
            omega
        have hB3 : Hid (wD.ownsRow w12.heap.size 31 2 vB i (fldVals (l.take i))) := by
          obtain ⟨k, e1, e0, e2, e3⟩ := hNC.out
          have h1 := (hB2.out.alloc (.cells #[.string xa, .string v] 31)).kept (row := vA.ownBlock) ⟨GvC.out.os, GvC.out.tape, GvC.out.output, GvC.out.size, GvC.out.block⟩ (.inr (by rw [e1]; exact e2.symm))
          exact h1.kept GvD.out (.inr (by rw [e1]; exact e3.symm))
        have hND : Hid (∃ k, vB.ownBlock = some k ∧ vD.ownBlock ≠ some k) := by
          obtain ⟨k, e1, e0, e2, e3⟩ := hNC.out
          refine ⟨k, e1, fun h => ?_⟩
          rcases AvD.out with e | e
          · exact e3 (e.symm.trans h)
          · have h2 := e.symm.trans h
            injection h2 with h2
            have := HNvC.out
            have := GvC.out.size
            omega
        have BD := Lib.hid (B12.out.trans (hBD.out.mono B12.out.size))
        clear r1 r2
        obtain ⟨⟨r1, r2⟩, _, _⟩ := HCX.out wD BD.out
        have HOvE : Hid ((wD.alloc (.cells #[.string xa, .string (xb ++ (⟨#[44, 32]⟩ : ByteArray) ++ v)] 31)).drew.ownsRow w12.heap.size 31 2 vB (i) (fldVals (l.take i))) := hB3.out.alloc _
        have HRvE : Hid (Reads (wD.alloc (.cells #[.string xa, .string (xb ++ (⟨#[44, 32]⟩ : ByteArray) ++ v)] 31)).drew (wD.heap.size + 1) 2 (some ⟨wD.heap.size, 0, none⟩) 1 [.string xa, .string (xb ++ (⟨#[44, 32]⟩ : ByteArray) ++ v)]) := (reads_new wD [.string xa, .string (xb ++ (⟨#[44, 32]⟩ : ByteArray) ++ v)] 31 2 rfl).drew
        have HMvE : Hid (i + 1 ≤ maxLen ∧ (i + 1) * 32 ≤ 140737488355328) := ⟨by unfold maxLen; omega, by omega⟩
        have HMvF : Hid (i + 1 + (l.length - (i + 1)) ≤ maxLen ∧ (i + 1 + (l.length - (i + 1))) * 32 ≤ 140737488355328) := ⟨by unfold maxLen; omega, by omega⟩
        have HZvE : Hid (w12.heap.size ≤ (wD.alloc (.cells #[.string xa, .string (xb ++ (⟨#[44, 32]⟩ : ByteArray) ++ v)] 31)).drew.heap.size) := (hBD.out.alloc hBD.out.size (.cells #[.string xa, .string (xb ++ (⟨#[44, 32]⟩ : ByteArray) ++ v)] 31)).size
        have HBvE : Hid (Below w12.heap.size w12 (wD.alloc (.cells #[.string xa, .string (xb ++ (⟨#[44, 32]⟩ : ByteArray) ++ v)] 31)).drew) := (hBD.out.alloc hBD.out.size (.cells #[.string xa, .string (xb ++ (⟨#[44, 32]⟩ : ByteArray) ++ v)] 31)).drew
        have HNvE : Hid (wD.heap.size + 1 = (wD.alloc (.cells #[.string xa, .string (xb ++ (⟨#[44, 32]⟩ : ByteArray) ++ v)] 31)).drew.heap.size) := (World.size_alloc wD (.cells #[.string xa, .string (xb ++ (⟨#[44, 32]⟩ : ByteArray) ++ v)] 31)).symm
        go_wp2_with fail
        go_region_law (first
          | (have hg := GvE; refine step_append_any _ (by rfl) (.tmp 136) (.tmp 140) _ (by rfl) w12.heap.size 31 i0 _ 2 32 Try.underlying22 hif.out hz.out.1 hz.out.2.1 hz.out.2.2 rfl (by decide) vE (i + 1) _ (by rfl) OvE.out _ _ (l.length - (i + 1)) _ (fldVals (l.drop (i + 1))) (by rfl) HRvF.out (fld_one _) HMvF.out.1 HMvF.out.2 HZvF.out ?_; intro vF wF hownvF hgvF hatvF; have OvF := Lib.hid hownvF; have GvF := Lib.hid hgvF; have AvF := Lib.hid hatvF; clear hg hownvF hgvF hatvF)
          | (refine step_append_any _ (by rfl) (.tmp 120) (.tmp 135) _ (by rfl) w12.heap.size 31 i0 _ 2 32 Try.underlying22 hif.out hz.out.1 hz.out.2.1 hz.out.2.2 rfl (by decide) vB (i) _ (by rfl) HOvE.out _ _ 1 1 [.string xa, .string (xb ++ (⟨#[44, 32]⟩ : ByteArray) ++ v)] (by rfl) HRvE.out (one_fld _ _) HMvE.out.1 HMvE.out.2 HZvE.out ?_; intro vE wE2 hownvE hgvE hatvE; have OvE := Lib.hid hownvE; have GvE := Lib.hid hgvE; have AvE := Lib.hid hatvE; have BWvE := Lib.hid (below_owned HBvE.out HZvE.out HOvE.out hgvE); have HZvF : Hid (w12.heap.size ≤ wE2.heap.size) := BWvE.out.size; have HRvF : Hid (Reads wE2 wE2.heap.size 2 (some ⟨b, o + (i + 1) * 2, none⟩) (l.length - (i + 1)) (fldVals (l.drop (i + 1)))) := (reads_drop (HX.out _ (B12.out.trans (BWvE.out.mono B12.out.size))) (i + 1) c (by omega) (by omega) JN.out); clear hownvE hgvE hatvE)
          | fail)
        all_goals
          have hD4 : wF.ownsRow w12.heap.size 31 2 vD (i + 1 + 1 + (l.length - (i + 1))) (fldVals (l.take (i + 1)) ++ [.string xa, .string v] ++ fldVals (l.drop (i + 1))) := by
            obtain ⟨k, e1, e2⟩ := hND.out
            have h1 := (OvD.out.alloc (.cells #[.string xa, .string (xb ++ (⟨#[44, 32]⟩ : ByteArray) ++ v)] 31)).kept (row := vB.ownBlock) ⟨GvE.out.os, GvE.out.tape, GvE.out.output, GvE.out.size, GvE.out.block⟩ (.inr (fun h => e2 (h.trans e1)))
            refine h1.kept GvF.out (.inr (fun h => ?_))
            rcases AvE.out with e | e
            · exact e2 (h.trans (e.trans e1))
            · have h2 := (OvD.out.lt _ (h.trans e)).2
              have := HNvE.out
              omega
          have BF := Lib.hid (B12.out.trans ((below_owned BWvE.out HZvF.out OvE.out GvF.out).mono B12.out.size))
          obtain ⟨gD, cD, hvD, _, _⟩ := hD4.form (by omega)
          obtain ⟨gF, cF, hvF, _, _⟩ := OvF.out.form (by omega)
          subst hvD hvF
          have eT : l.take (i + 1) = l.take i ++ [(xa, xb)] := by rw [List.take_succ_eq_append_getElem (by omega), ← HXI.out]
          have eD : fldVals (l.take (i + 1)) ++ [.string xa, .string v] ++ fldVals (l.drop (i + 1)) = fldVals (l.take i ++ (xa, xb) :: (xa, v) :: l.drop (i + 1)) := by
            rw [eT, fldVals_append, fldVals_append, fldVals_cons, fldVals_cons, fldVals_cons]
            simp [fldVals]
          have eF : fldVals (l.take i) ++ [.string xa, .string (xb ++ (⟨#[44, 32]⟩ : ByteArray) ++ v)] ++ fldVals (l.drop (i + 1)) = fldVals (l.take i ++ (xa, xb ++ (⟨#[44, 32]⟩ : ByteArray) ++ v) :: l.drop (i + 1)) := by
            rw [fldVals_append, fldVals_cons]
            simp
          have hzD : ∀ p ∈ l.take i ++ (xa, xb) :: (xa, v) :: l.drop (i + 1), p.1.size ≤ 1000 ∧ p.2.size ≤ 1000 := by
            have hx := HSZ.out (xa, xb) (by rw [HXI.out]; exact List.getElem_mem (by omega))
            intro p hp
            rcases List.mem_append.1 hp with hp | hp
            · exact HSZ.out p (List.mem_of_mem_take hp)
            · rcases List.mem_cons.1 hp with rfl | hp
              · exact hx
              · rcases List.mem_cons.1 hp with rfl | hp
                · exact ⟨hx.1, by show v.size ≤ 1000; omega⟩
                · exact HSZ.out p (List.mem_of_mem_drop hp)
          have hzF : ∀ p ∈ l.take i ++ (xa, xb ++ (⟨#[44, 32]⟩ : ByteArray) ++ v) :: l.drop (i + 1), p.1.size ≤ 1000 ∧ p.2.size ≤ 1000 := by
            have hx := HSZ.out (xa, xb) (by rw [HXI.out]; exact List.getElem_mem (by omega))
            intro p hp
            rcases List.mem_append.1 hp with hp | hp
            · exact HSZ.out p (List.mem_of_mem_take hp)
            · rcases List.mem_cons.1 hp with rfl | hp
              · refine ⟨hx.1, ?_⟩
                show (xb ++ (⟨#[44, 32]⟩ : ByteArray) ++ v).size ≤ 1000
                rw [ByteArray.size_append, ByteArray.size_append]
                show xb.size + 2 + v.size ≤ 1000
                omega
              · exact HSZ.out p (List.mem_of_mem_drop hp)
          have sD : Small (l.take i ++ (xa, xb) :: (xa, v) :: l.drop (i + 1)) := Small.of (by rw [List.length_append, List.length_cons, List.length_cons, List.length_take, List.length_drop]; omega) hzD
          have sF : Small (l.take i ++ (xa, xb ++ (⟨#[44, 32]⟩ : ByteArray) ++ v) :: l.drop (i + 1)) := Small.of (by rw [List.length_append, List.length_cons, List.length_take, List.length_drop]; omega) hzF
          have hF9 := OvF.out
          rw [eD] at hD4
          rw [eF] at hF9
          have fD := flds_of_row hD4 (by omega) (fun p hp => by have := hzD p hp; omega)
          have fF := flds_of_row hF9 (by omega) (fun p hp => by have := hzF p hp; omega)
          have HCC := Lib.hid (csame_sm wF _ _ _ _ _ _ _ _ fF.1 fD.1 fF.2 fD.2 sF sD)
          have HST2 := Lib.hid (same_two (l.take i) (l.drop (i + 1)) xa xb v HSG.out)
          clear hD4 hF9 fD fF eT eD eF hzD hzF sD sF OvD OvE OvF GvD GvE GvF AvD AvE AvF hND hNC hNE hA2 hB2 hB3 jw jt
          go_wp2_with fail
          refine HCC.out.mono ?_
          rintro e w20 ⟨rfl, hb20⟩
          rw [HST2.out]
          have B20 := Lib.hid (grow_trans BF.out hb20)
          clear hb20
          go_wp2_with fail
          refine (clives_any _).mono ?_
          rintro e w21 ⟨rfl, hb21⟩
          have B21 := Lib.hid (grow_trans B20.out hb21)
          clear hb21
          go_wp2_with fail
          go_ret
          exact ⟨rfl, B21.out⟩
    · go_wp2_with fail
      refine (clives_any _).mono ?_
      rintro e w13 ⟨rfl, hb13⟩
      have B13 := Lib.hid (grow_trans B12.out hb13)
      clear hb13
      go_wp2_with fail
      go_ret
      exact ⟨rfl, B13.out⟩
end Go.Proofs.Ytdpohibgipkhnaa
namespace Go.Proofs.Ytdpohibgipkhnaa
open Go.RowKit Go.Sort Go.Proofs.Ytdpohibgipkhnaa.Oct

set_option maxRecDepth 100000 in
set_option maxHeartbeats 3200000 in
theorem cstays_out (x : Option Addr) (n c : Nat) (i : Int) (l : Flds) (v : ByteArray) (w : World) (h : FldsAt w x n l) (hnc : n ≤ c) (hl : fewB l = true) (hv : v.size ≤ 300) (hi : i < 0 ∨ (0 ≤ i ∧ (n : Int) - 1 ≤ i)) :
    Calls Try.prog 9 #[.slice x n c, .int .i64 i, .string v] w fun e w' => e = .returned (.bool true) ∧ Below w.heap.size w w' := by
  have hn := h.len
  subst hn
  have SL := Lib.hid (Small.of (l := l) (by have := (few_can hl).1; omega) (fun p hp => by have := (fewB_of hl).2 p hp; omega))
  have SC := Lib.hid (Small.canF hl)
  have HX := Lib.hid (fun w' (hb : Below w.heap.size w w') => h.below hb)
  have HL := Lib.hid hl
  have B0 := Lib.hid (Below.refl w.heap.size w)
  have ST : Hid (∀ p ∈ canF l, p.1.size ≤ 9223372036854775807 ∧ p.2.size ≤ 9223372036854775807) := fun p hp => by
    obtain ⟨_, a2, a3, _⟩ := few_can hl
    have := canTo_str (k := l.length) a2 a3 p hp
    omega
  have HS2 := Lib.hid (sameB_canF l)
  have HID := Lib.hid (canF_idem l)
  have hl40 : l.length ≤ 40 := (few_can hl).1
  have hiv : ¬ (300 : Int) < (v.size : Int) := by omega
  clear h hl
  rcases hi with hi | ⟨hi0, hi⟩
  all_goals
    go_enter Try.func9, Try.ntmps9
    go_wp2_with fail
    refine (few_any _ x _ c l (HX.out _ B0.out)).mono ?_
    rintro e w1 ⟨rfl, hb1⟩
    rw [HL.out]
    have B1 := Lib.hid hb1
    clear hb1
    go_wp2_with fail
    refine (fields_sm _ x _ c l (HX.out _ B1.out) hnc SL.out).mono ?_
    rintro e w2 ⟨v2, rfl, ho2, hb2⟩
    obtain ⟨x2, c2, rfl, hc2, hF2⟩ := own_flds ho2 (by have := SC.out.few; omega) ST.out
    have F2 := Lib.hid hF2
    have C2 := Lib.hid hc2
    have B2 := Lib.hid (grow_trans B1.out hb2)
    clear hb2 ho2 hF2 hc2
    go_wp2_with fail
    refine (fields_sm _ x2 _ c2 (canF l) F2.out C2.out SC.out).mono ?_
    rintro e w3 ⟨v3, rfl, ho3, hb3⟩
    rw [HID.out] at ho3
    obtain ⟨x3, c3, rfl, _, hF3⟩ := own_flds ho3 (by have := SC.out.few; omega) ST.out
    have F3 := Lib.hid hF3
    have F2b := Lib.hid (F2.out.below hb3)
    have B3 := Lib.hid (grow_trans B2.out hb3)
    clear hb3 ho3 hF3 F2
    go_wp2_with fail
    refine (rsamef_any _ _ _ _ _ _ (canF l) (canF l) _ F3.out F2b.out).mono ?_
    rintro e w4 ⟨rfl, hd4⟩
    rw [show decide (canF l = canF l) = true from decide_eq_true rfl]
    have F4 := Lib.hid (F2b.out.below (hd4.below _))
    have B4 := Lib.hid (grow_trans B3.out hd4.grow)
    clear hd4 F3 F2b
    go_wp2_with fail
    refine (csame_sm _ x _ _ c _ c2 l (canF l) (HX.out _ B4.out) F4.out hnc C2.out SL.out SC.out).mono ?_
    rintro e w5 ⟨rfl, hb5⟩
    rw [HS2.out.1]
    have F5 := Lib.hid (F4.out.below hb5)
    have B5 := Lib.hid (grow_trans B4.out hb5)
    clear hb5 F4
    go_wp2_with fail
    refine (csame_sm _ _ x _ c2 _ c (canF l) l F5.out (HX.out _ B5.out) C2.out hnc SC.out SL.out).mono ?_
    rintro e w6 ⟨rfl, hb6⟩
    rw [HS2.out.2]
    have B6 := Lib.hid (grow_trans B5.out hb6)
    clear hb6 F5
    go_wp2_with fail
    refine (clives_any _).mono ?_
    rintro e w7 ⟨rfl, hb7⟩
    have B7 := Lib.hid (grow_trans B6.out hb7)
    clear hb7
    go_wp2_with fail
    go_ret
    exact ⟨rfl, B7.out⟩

set_option maxRecDepth 100000 in
set_option maxHeartbeats 1600000 in
theorem cstays_any (x : Option Addr) (n c : Nat) (i : Int) (l : Flds) (v : ByteArray) (w : World) (h : FldsAt w x n l) (hnc : n ≤ c) (hv : v.size ≤ 9223372036854775807) :
    Calls Try.prog 9 #[.slice x n c, .int .i64 i, .string v] w fun e w' => e = .returned (.bool true) ∧ Below w.heap.size w w' := by
  by_cases hyes : fewB l = true ∧ v.size ≤ 300
  · by_cases hi : 0 ≤ i ∧ i + 1 < (n : Int)
    · obtain ⟨k, rfl⟩ : ∃ k : Nat, i = (k : Int) := ⟨i.toNat, by omega⟩
      have := h.len
      subst this
      exact cstays_go x _ c k l v w h hnc hyes.1 hyes.2 (by omega)
    · exact cstays_out x n c i l v w h hnc hyes.1 hyes.2 (by omega)
  · cases hl : fewB l
    · have HL := Lib.hid hl
      clear hl hyes
      go_enter Try.func9, Try.ntmps9
      go_wp2_with fail
      refine (few_any _ x n c l h).mono ?_
      rintro e w1 ⟨rfl, hb1⟩
      rw [HL.out]
      have B1 := Lib.hid hb1
      clear hb1
      go_wp2_with fail
      refine (clives_any _).mono ?_
      rintro e w2 ⟨rfl, hb2⟩
      have B2 := Lib.hid (grow_trans B1.out hb2)
      clear hb2
      go_wp2_with fail
      go_ret
      exact ⟨rfl, B2.out⟩
    · have hv3 : (300 : Int) < (v.size : Int) := by
        have : ¬ v.size ≤ 300 := fun h2 => hyes ⟨hl, h2⟩
        omega
      have HL := Lib.hid hl
      clear hl hyes
      go_enter Try.func9, Try.ntmps9
      go_wp2_with fail
      refine (few_any _ x n c l h).mono ?_
      rintro e w1 ⟨rfl, hb1⟩
      rw [HL.out]
      have B1 := Lib.hid hb1
      clear hb1
      go_wp2_with fail
      refine (clives_any _).mono ?_
      rintro e w2 ⟨rfl, hb2⟩
      have B2 := Lib.hid (grow_trans B1.out hb2)
      clear hb2
      go_wp2_with fail
      go_ret
      exact ⟨rfl, B2.out⟩
end Go.Proofs.Ytdpohibgipkhnaa
