/-
  A STABLE SORT OF A ROW OF STRUCTS (tally.Row): the row in memory; the walk of swapRange.
  A STABLE SORT OF A ROW OF STRUCTS (tally.Row): the walk of rotate.
-/
import Derived.Test.YtdpohibgipkhnaaTT1
import Derived.Test.YtdpohibgipkhnaaTT12
import Derived.Deep.RegionHeld3
import Derived.Laws.Cells
import Derived.IntWalk
set_option linter.unusedVariables false
set_option linter.unusedSimpArgs false
namespace Go.Proofs.Ytdpohibgipkhnaa
open Go.RowKit Go.Proofs.Ytdpohibgipkhnaa.St

abbrev ElR := ByteArray × Int
def elVR (l : List ElR) : List Value := l.flatMap fun p => [.string p.1, .int .i64 p.2]
theorem elVR_cons (p : ElR) (l : List ElR) : elVR (p :: l) = .string p.1 :: .int .i64 p.2 :: elVR l := rfl
theorem elVR_length (l : List ElR) : (elVR l).length = l.length * 2 := by
  induction l with
  | nil => rfl
  | cons p l ih => rw [elVR_cons]; simp only [List.length_cons, ih]; omega
theorem elVR_append (l m : List ElR) : elVR (l ++ m) = elVR l ++ elVR m := by simp [elVR]
theorem elVR_x (l : List ElR) : ∀ (i : Nat) (p : ElR), l[i]? = some p → (elVR l)[i * 2]? = some (.string p.1) ∧ (elVR l)[i * 2 + 1]? = some (.int .i64 p.2) := by
  induction l with
  | nil => intro i p h; simp at h
  | cons q l ih =>
    intro i p h
    cases i with
    | zero => simp at h; subst h; exact ⟨rfl, rfl⟩
    | succ i =>
      rw [elVR_cons, show (i + 1) * 2 = i * 2 + 1 + 1 by omega]
      rw [List.getElem?_cons_succ] at h
      exact ih i p h
theorem elVR_set (x : ByteArray) (y : Int) (l : List ElR) : ∀ i, i < l.length → ((elVR l).set (i * 2) (.string x)).set (i * 2 + 1) (.int .i64 y) = elVR (l.set i (x, y)) := by
  induction l with
  | nil => intro i h; simp at h
  | cons p l ih =>
    intro i h
    cases i with
    | zero => rfl
    | succ i =>
      rw [elVR_cons, show (i + 1) * 2 = i * 2 + 1 + 1 by omega, List.set_cons_succ, List.set_cons_succ, List.set_cons_succ, List.set_cons_succ, ih i (by simpa using h)]
      rfl

/-- The row l lies at block g's head; behind it rest. -/
def DatR (w : World) (g : Nat) (l : List ElR) (rest : List Value) : Prop := Blk w g 65 (elVR l ++ rest).toArray
section
variable {w w' : World} {g : Nat} {l : List ElR} {rest : List Value}
theorem DatR.lt (h : DatR w g l rest) : g < w.heap.size := Blk.lt h
theorem DatR.at_ (h : DatR w g l rest) (i : Nat) (p : ElR) (hp : l[i]? = some p) : w.cell? ⟨g, i * 2, none⟩ = some (.string p.1) ∧ w.cell? ⟨g, i * 2 + 1, none⟩ = some (.int .i64 p.2) := by
  have hi : i < l.length := (List.getElem?_eq_some_iff.1 hp).1
  have h2 := elVR_x l i p hp
  have hl := elVR_length l
  refine ⟨(Blk.cell h _).trans ?_, (Blk.cell h _).trans ?_⟩
  · rw [List.getElem?_toArray, List.getElem?_append_left (by omega)]; exact h2.1
  · rw [List.getElem?_toArray, List.getElem?_append_left (by omega)]; exact h2.2
theorem DatR.free (h : DatR w g l rest) (i : Nat) : w.frozen? ⟨g, i, none⟩ = false := Blk.frozen h i
theorem DatR.set_ (h : DatR w g l rest) (i : Nat) (hi : i < l.length) (x : ByteArray) (y : Int) :
    DatR ((w.setCell ⟨g, i * 2, none⟩ (.string x)).setCell ⟨g, i * 2 + 1, none⟩ (.int .i64 y)) g (l.set i (x, y)) rest := by
  have h2 := (Blk.set_ h (i * 2) (.string x)).set_ (i * 2 + 1) (.int .i64 y)
  have hl := elVR_length l
  have e : (elVR (l.set i (x, y)) ++ rest) = (((elVR l ++ rest).set (i * 2) (.string x)).set (i * 2 + 1) (.int .i64 y)) := by
    rw [List.set_append_left _ _ (by omega), List.set_append_left _ _ (by rw [List.length_set]; omega), elVR_set x y l i hi]
  unfold DatR
  rw [e]
  simpa using h2
theorem DatR.keep {row : Option Nat} (h : DatR w g l rest) (hg : w.grownBy w' row) (hr : row ≠ some g) : DatR w' g l rest := (hg.block g (Blk.lt h) (fun e => hr e.symm)).trans h
theorem DatR.below (h : DatR w g l rest) (hb : Below w.heap.size w w') : DatR w' g l rest := (hb.block g (Blk.lt h)).trans h
end
theorem below_grownR {w w' : World} (hb : Below w.heap.size w w') (row : Option Nat) : w.grownBy w' row := ⟨hb.os, hb.tape, hb.output, hb.size, fun k hk _ => hb.block k hk⟩
theorem grown_setR {w : World} (g i : Nat) (u : Value) : w.grownBy (w.setCell ⟨g, i, none⟩ u) (some g) :=
  ⟨rfl, rfl, rfl, by simp, fun k _ hk => Below.heap_setCell w _ u k (fun e => hk (by rw [e]))⟩
theorem grown_drewNR {w w' : World} {row : Option Nat} (h : w.grownBy w' row) (n : Nat) : w.grownBy (w'.drewN n) row := ⟨h.os, h.tape, h.output, h.size, h.block⟩
theorem swap_atR {α : Type} (p q r : List α) (x y : α) : (p ++ x :: q ++ y :: r)[p.length]? = some x ∧ (p ++ x :: q ++ y :: r)[p.length + 1 + q.length]? = some y := by
  constructor
  · simp
  · rw [List.getElem?_append_right (by simp; omega)]
    simp [show p.length + 1 + q.length - (p.length + (q.length + 1)) = 0 by omega]
theorem swap_setR {α : Type} (p q r : List α) (x y : α) : ((p ++ x :: q ++ y :: r).set p.length y).set (p.length + 1 + q.length) x = p ++ y :: q ++ x :: r := by
  have e1 : (p ++ x :: q ++ y :: r).set p.length y = p ++ y :: q ++ y :: r := by simp
  rw [e1, List.set_append_right _ _ (by simp; omega)]
  simp [show p.length + 1 + q.length - (p.length + (q.length + 1)) = 0 by omega]
theorem swap_set2R {α : Type} (p q r : List α) (x y : α) : ((p ++ x :: q ++ y :: r).set (p.length + 1 + q.length) x).set p.length y = p ++ y :: q ++ x :: r := by
  rw [← swap_setR p q r x y]
  exact List.set_comm _ _ (by omega)

set_option maxRecDepth 100000 in
set_option maxHeartbeats 1600000 in
theorem swaprR_any (q : Nat) (w : World) (g n c a b k : Nat) (Q X M Y S : List ElR) (rest : List Value) (h : DatR w g (Q ++ X ++ M ++ Y ++ S) rest) (hn : n = (Q ++ X ++ M ++ Y ++ S).length) (hbig : n ≤ 4611686018427387904)
    (ha : a = Q.length) (hb : b = Q.length + X.length + M.length) (hx : k = X.length) (hy : k = Y.length) :
    Calls Try.prog 174 #[.slice (some ⟨g, 0, none⟩) n c, .int .i64 a, .int .i64 b, .int .i64 k, .func (.func q) #[] #[]] w fun e w' => e = .returned (.tuple #[]) ∧ DatR w' g (Q ++ Y ++ M ++ X ++ S) rest ∧ w.grownBy w' (some g) := by
  have hsum : n = a + k + M.length + k + S.length := by simp at hn; omega
  have hbk : b = a + k + M.length := by omega
  have HS := Lib.hid hsum
  have HBK := Lib.hid hbk
  have HN := Lib.hid hn
  have HA := Lib.hid ha
  have HX := Lib.hid hx
  have HY := Lib.hid hy
  have HH := Lib.hid h
  clear hsum hbk hn ha hb hx hy h
  go_enter Try.func174, Try.ntmps174
  go_wp2
  go_loopg [10] k (fun gg s10 wr => ∃ i : Nat, i ≤ k ∧ k - i ≤ gg ∧ s10 = .int .i64 i ∧ Hid (DatR wr g (Q ++ (Y.take i ++ X.drop i) ++ M ++ (X.take i ++ Y.drop i) ++ S) rest) ∧ Hid (w.grownBy wr (some g)))
  case atStart => exact ⟨0, Nat.zero_le _, by omega, rfl, (by have := HH.out; simpa using this : DatR _ _ _ _), World.grownBy.refl _ _⟩
  case round =>
    obtain ⟨i, hi, hg, rfl, hd, hgr⟩ := hrel
    by_cases hlt : i < k
    · have hxl : i < X.length := by have := HX.out; omega
      have hyl : i < Y.length := by have := HY.out; omega
      have b1 : a + i < n := by have := HS.out; omega
      have b2 : b + i < n := by have := HS.out; have := HBK.out; omega
      have e0 : Q ++ (Y.take i ++ X.drop i) ++ M ++ (X.take i ++ Y.drop i) ++ S = (Q ++ Y.take i) ++ X[i] :: (X.drop (i + 1) ++ M ++ X.take i) ++ Y[i] :: (Y.drop (i + 1) ++ S) := by
        rw [List.drop_eq_getElem_cons hxl, List.drop_eq_getElem_cons hyl]; simp only [List.append_assoc, List.cons_append]
      have e1 : Q ++ (Y.take (i + 1) ++ X.drop (i + 1)) ++ M ++ (X.take (i + 1) ++ Y.drop (i + 1)) ++ S = (Q ++ Y.take i) ++ Y[i] :: (X.drop (i + 1) ++ M ++ X.take i) ++ X[i] :: (Y.drop (i + 1) ++ S) := by
        rw [List.take_succ_eq_append_getElem hxl, List.take_succ_eq_append_getElem hyl]; simp only [List.append_assoc, List.cons_append, List.nil_append]
      have l1 : (Q ++ Y.take i).length = a + i := by have := HA.out; simp; omega
      have l2 : (Q ++ Y.take i).length + 1 + (X.drop (i + 1) ++ M ++ X.take i).length = b + i := by have := HA.out; have := HX.out; have := HBK.out; simp; omega
      have hd2 := hd.out
      rw [e0] at hd2
      obtain ⟨p1, p2⟩ : ∃ p1 p2, p1 = X[i] ∧ p2 = Y[i] := ⟨_, _, rfl, rfl⟩
      obtain ⟨⟨x1, x2⟩, hp1⟩ : ∃ p, p = X[i] := ⟨_, rfl⟩
      obtain ⟨⟨y1, y2⟩, hp2⟩ : ∃ p, p = Y[i] := ⟨_, rfl⟩
      rw [← hp1, ← hp2] at hd2 e1
      have s1 := swap_atR (Q ++ Y.take i) (X.drop (i + 1) ++ M ++ X.take i) (Y.drop (i + 1) ++ S) (x1, x2) (y1, y2)
      rw [l2, l1] at s1
      have c1 := hd2.at_ _ _ s1.1
      have c2 := hd2.at_ _ _ s1.2
      have f1 := hd2.free ((a + i) * 2)
      have f2 := hd2.free ((a + i) * 2 + 1)
      have f3 := hd2.free ((b + i) * 2)
      have f4 := hd2.free ((b + i) * 2 + 1)
      obtain ⟨c11, c12⟩ := c1
      obtain ⟨c21, c22⟩ := c2
      simp only at c11 c12 c21 c22
      have SS := swap_setR (Q ++ Y.take i) (X.drop (i + 1) ++ M ++ X.take i) (Y.drop (i + 1) ++ S) (x1, x2) (y1, y2)
      have SS2 := swap_set2R (Q ++ Y.take i) (X.drop (i + 1) ++ M ++ X.take i) (Y.drop (i + 1) ++ S) (x1, x2) (y1, y2)
      rw [l2, l1, ← e1] at SS SS2
      have hl1 := (List.getElem?_eq_some_iff.1 s1.1).1
      have hl2 := (List.getElem?_eq_some_iff.1 s1.2).1
      have D1 := (hd2.set_ (a + i) hl1 y1 y2).set_ (b + i) (by rw [List.length_set]; exact hl2) x1 x2
      have D2 := (hd2.set_ (b + i) hl2 x1 x2).set_ (a + i) (by rw [List.length_set]; exact hl1) y1 y2
      rw [SS] at D1
      rw [SS2] at D2
      have hne : a + i ≠ b + i := by have := HBK.out; omega
      have HD1 := Lib.hid D1
      have HD2 := Lib.hid D2
      clear e0 e1 l1 l2 hd2 s1 SS SS2 hl1 hl2 D1 D2 hp1 hp2
      have b0 : b ≤ n := by omega
      have b3 : a ≤ n := by omega
      have b4 : i ≤ n := by omega
      have i1 : (0 : Int) ≤ (a : Int) + (i : Int) := by omega
      have i2 : (a : Int) + (i : Int) < (n : Int) := by omega
      have i3 : (0 : Int) ≤ (b : Int) + (i : Int) := by omega
      have i4 : (b : Int) + (i : Int) < (n : Int) := by omega
      have j1 : ((a : Int) + (i : Int)).toNat = a + i := by omega
      have j2 : ((b : Int) + (i : Int)).toNat = b + i := by omega
      have k1 : IntKind.i64.wrap ((a : Int) + (i : Int)) = (a : Int) + (i : Int) := IntWalk.i64_in _ (by omega)
      have k2 : IntKind.i64.wrap ((b : Int) + (i : Int)) = (b : Int) + (i : Int) := IntWalk.i64_in _ (by omega)
      go_wp2
      go_region
      have HG : Hid (w.grownBy ((((wr.setCell ⟨g, (a + i) * 2, none⟩ (.string y1)).setCell ⟨g, (a + i) * 2 + 1, none⟩ (.int .i64 y2)).setCell ⟨g, (b + i) * 2, none⟩ (.string x1)).setCell ⟨g, (b + i) * 2 + 1, none⟩ (.int .i64 x2)) (some g)) :=
        ((((hgr.out.trans (grown_setR _ _ _)).trans (grown_setR _ _ _)).trans (grown_setR _ _ _)).trans (grown_setR _ _ _))
      go_wp2
      go_roundg (k - (i + 1))
      case measure => omega
      case rel => exact ⟨i + 1, by omega, by omega, by go_num, HD1.out, grown_drewNR HG.out 1⟩
    · obtain rfl : i = k := by omega
      have hfin := hd.out
      have lx : X.length ≤ i := by have := HX.out; omega
      have ly : Y.length ≤ i := by have := HY.out; omega
      rw [List.drop_eq_nil_of_le lx, List.drop_eq_nil_of_le ly, List.take_of_length_le lx, List.take_of_length_le ly, List.append_nil, List.append_nil] at hfin
      have HF := Lib.hid hfin
      clear hfin
      go_wp2
      go_end0
      exact ⟨rfl, HF.out, hgr.out⟩
end Go.Proofs.Ytdpohibgipkhnaa
namespace Go.Proofs.Ytdpohibgipkhnaa
open Go.RowKit Go.Proofs.Ytdpohibgipkhnaa.St

set_option maxRecDepth 100000 in
set_option maxHeartbeats 1600000 in
theorem rotR_any (q : Nat) (w : World) (g n c a m b : Nat) (P A B R : List ElR) (rest : List Value) (h : DatR w g (P ++ A ++ B ++ R) rest) (hn : n = (P ++ A ++ B ++ R).length) (hbig : n ≤ 4611686018427387904)
    (ha : a = P.length) (hm : m = P.length + A.length) (hb : b = P.length + A.length + B.length) (hA : 1 ≤ A.length) (hB : 1 ≤ B.length) :
    Calls Try.prog 162 #[.slice (some ⟨g, 0, none⟩) n c, .int .i64 a, .int .i64 m, .int .i64 b, .func (.func q) #[] #[]] w fun e w' => e = .returned (.tuple #[]) ∧ DatR w' g (P ++ B ++ A ++ R) rest ∧ w.grownBy w' (some g) := by
  have hlen : n = P.length + A.length + B.length + R.length := by simp at hn; omega
  have h1 : a ≤ m := by omega
  have h2 : m ≤ b := by omega
  have h3 : b ≤ n := by omega
  have HL := Lib.hid hlen
  have HN := Lib.hid hn
  have HA := Lib.hid ha
  have HM := Lib.hid hm
  have HB := Lib.hid hb
  have HH := Lib.hid h
  have e1 : (m : Int) - (a : Int) = ((A.length : Nat) : Int) := by omega
  have e2 : (b : Int) - (m : Int) = ((B.length : Nat) : Int) := by omega
  clear hlen hn ha hm hb h
  go_enter Try.func162, Try.ntmps162
  go_wp2
  clear e1 e2
  go_loopg [10, 11] (A.length + B.length) (fun gg s10 s11 wr => ∃ D X Y E : List ElR, s10 = .int .i64 X.length ∧ s11 = .int .i64 Y.length ∧ X.length + Y.length ≤ gg ∧ 1 ≤ X.length ∧ 1 ≤ Y.length ∧ Hid (P.length + D.length + X.length = m) ∧ Hid (D ++ Y ++ X ++ E = B ++ A) ∧ Hid (DatR wr g (P ++ D ++ X ++ Y ++ E ++ R) rest) ∧ Hid (w.grownBy wr (some g)))
  case atStart => exact ⟨[], A, B, [], rfl, rfl, Nat.le_refl _, hA, hB, (by have := HM.out; show _ = _; simp; omega), (by show _ = _; simp), (by have := HH.out; simpa using this : DatR _ _ _ _), World.grownBy.refl _ _⟩
  case round =>
    obtain ⟨D, X, Y, E, rfl, rfl, hg, hx1, hy1, hm2, hperm, hd, hgr⟩ := hrel
    have hsum : X.length + Y.length + D.length + E.length = A.length + B.length := by have := congrArg List.length hperm.out; simp at this; omega
    have z1 : X.length ≤ m := by have := hm2.out; omega
    have z2 : m + Y.length ≤ n := by have := hm2.out; have := HL.out; have := HM.out; omega
    rcases Nat.lt_trichotomy X.length Y.length with hlt | heq | hgt
    · have hne : ((X.length : Int) != (Y.length : Int)) = true := by simp; omega
      have hcall := swaprR_any q wr g n c (m - X.length) (m + Y.length - X.length) X.length (P ++ D) X (Y.take (Y.length - X.length)) (Y.drop (Y.length - X.length)) (E ++ R) rest
        (by have := hd.out; rw [← List.take_append_drop (Y.length - X.length) Y] at this; simpa only [List.append_assoc] using this)
        (by have := HL.out; have := hm2.out; have := HM.out; simp; omega) hbig
        (by have := hm2.out; simp; omega) (by have := hm2.out; simp; omega) rfl (by simp; omega)
      have e1 : ((m - X.length : Nat) : Int) = (m : Int) - (X.length : Int) := by omega
      have e2 : ((m + Y.length - X.length : Nat) : Int) = (m : Int) + (Y.length : Int) - (X.length : Int) := by omega
      rw [e1, e2] at hcall
      have HC := Lib.hid hcall
      have hp2 : D ++ Y.take (Y.length - X.length) ++ Y.drop (Y.length - X.length) ++ (X ++ E) = B ++ A := by
        have := hperm.out
        rw [← List.take_append_drop (Y.length - X.length) Y] at this
        simpa only [List.append_assoc] using this
      have HP2 := Lib.hid hp2
      have l1 : (Y.length : Int) - (X.length : Int) = (((Y.length - X.length : Nat)) : Int) := by omega
      have l3 : (Y.drop (Y.length - X.length)).length = X.length := by simp; omega
      have l4 : (Y.take (Y.length - X.length)).length = Y.length - X.length := by simp
      have L1 := Lib.hid l1
      have L3 := Lib.hid l3
      have L4 := Lib.hid l4
      clear hcall e1 e2 l1 l3 l4 hp2
      go_wp2_with fail
      refine HC.out.mono ?_
      rintro e w1 ⟨rfl, hd1, hg1⟩
      have HD1 := Lib.hid hd1
      have HG1 := Lib.hid (hgr.out.trans hg1)
      clear hd1 hg1
      have L2 := L1.out
      go_wp2
      clear L2
      go_roundg (Y.length)
      case measure => omega
      case rel => exact ⟨D, Y.drop (Y.length - X.length), Y.take (Y.length - X.length), X ++ E, by rw [L3.out], by rw [L4.out], by rw [L3.out, L4.out]; omega, by rw [L3.out]; omega, by rw [L4.out]; omega, (by have := L3.out; have := hm2.out; show _ = _; omega), HP2.out, (by have := HD1.out; simpa only [List.append_assoc] using this : DatR _ _ _ _), HG1.out⟩
    · have hne : ((X.length : Int) != (Y.length : Int)) = false := by simp; omega
      have hcall := swaprR_any q wr g n c (m - X.length) m X.length (P ++ D) X [] Y (E ++ R) rest
        (by have := hd.out; simpa only [List.append_assoc, List.nil_append] using this)
        (by have := HL.out; have := hm2.out; have := HM.out; simp; omega) hbig
        (by have := hm2.out; simp; omega) (by have := hm2.out; simp; omega) rfl heq
      have e1 : ((m - X.length : Nat) : Int) = (m : Int) - (X.length : Int) := by omega
      rw [e1] at hcall
      have HC := Lib.hid hcall
      have HQ := Lib.hid heq
      clear hcall e1 heq
      go_wp2_with fail
      refine HC.out.mono ?_
      rintro e w1 ⟨rfl, hd1, hg1⟩
      have HD1 := Lib.hid hd1
      have HG1 := Lib.hid (hgr.out.trans hg1)
      clear hd1 hg1
      go_wp2
      go_end0
      refine ⟨rfl, ?_, HG1.out⟩
      have h5 := HD1.out
      have h6 := congrArg (fun l => P ++ l ++ R) hperm.out
      simp only [List.append_assoc, List.nil_append] at h5 h6 ⊢
      rw [← h6]
      exact h5
    · have hne : ((X.length : Int) != (Y.length : Int)) = true := by simp; omega
      have hcall := swaprR_any q wr g n c (m - X.length) m Y.length (P ++ D) (X.take Y.length) (X.drop Y.length) Y (E ++ R) rest
        (by have := hd.out; rw [← List.take_append_drop Y.length X] at this; simpa only [List.append_assoc] using this)
        (by have := HL.out; have := hm2.out; have := HM.out; simp; omega) hbig
        (by have := hm2.out; simp; omega) (by have := hm2.out; simp; omega) (by simp; omega) rfl
      have e1 : ((m - X.length : Nat) : Int) = (m : Int) - (X.length : Int) := by omega
      rw [e1] at hcall
      have HC := Lib.hid hcall
      have hp2 : (D ++ Y) ++ X.take Y.length ++ X.drop Y.length ++ E = B ++ A := by
        have := hperm.out
        rw [← List.take_append_drop Y.length X] at this
        simpa only [List.append_assoc] using this
      have HP2 := Lib.hid hp2
      have l1 : (X.length : Int) - (Y.length : Int) = (((X.length - Y.length : Nat)) : Int) := by omega
      have l3 : (X.drop Y.length).length = X.length - Y.length := by simp
      have l4 : (X.take Y.length).length = Y.length := by simp; omega
      have L1 := Lib.hid l1
      have L3 := Lib.hid l3
      have L4 := Lib.hid l4
      clear hcall e1 l1 l3 l4 hp2
      go_wp2_with fail
      refine HC.out.mono ?_
      rintro e w1 ⟨rfl, hd1, hg1⟩
      have HD1 := Lib.hid hd1
      have HG1 := Lib.hid (hgr.out.trans hg1)
      clear hd1 hg1
      have L2 := L1.out
      go_wp2
      clear L2
      go_roundg (X.length)
      case measure => omega
      case rel => exact ⟨D ++ Y, X.drop Y.length, X.take Y.length, E, by rw [L3.out], by rw [L4.out], by rw [L3.out, L4.out]; omega, by rw [L3.out]; omega, by rw [L4.out]; omega, (by have := L3.out; have := hm2.out; show _ = _; rw [List.length_append]; omega), HP2.out, (by have := HD1.out; simpa only [List.append_assoc] using this : DatR _ _ _ _), HG1.out⟩
end Go.Proofs.Ytdpohibgipkhnaa
