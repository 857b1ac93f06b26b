/-
  A STABLE SORT OF A ROW OF STRUCTS (tally.Row): the walk of the insertion sort.
  A STABLE SORT OF A ROW OF STRUCTS (tally.Row): the walk of symMerge, where the first part, or the second, is one element.
-/
import Derived.Test.YtdpohibgipkhnaaTT13
import Derived.Lib.QuietBelow
set_option linter.unusedVariables false
set_option linter.unusedSimpArgs false
namespace Go.Proofs.Ytdpohibgipkhnaa
open Go.RowKit Go.Sort Go.Proofs.Ytdpohibgipkhnaa.St

/-- What compares two elements. -/
structure CmpR (q : Nat) (cmp : ElR → ElR → Int) : Prop where
  enter : ∀ args w, (callFunc q args).run Try.prog w = .ok (.enter q args) w
  call : ∀ (x1 : ByteArray) (x2 : Int) (y1 : ByteArray) (y2 : Int) (w : World), Calls Try.prog q #[.agg #[.string x1, .int .i64 x2], .agg #[.string y1, .int .i64 y2]] w fun e w' => e = .returned (.int .i64 (cmp (x1, x2) (y1, y2))) ∧ Below w.heap.size w w'
def ltOR (cmp : ElR → ElR → Int) (x y : ElR) : Bool := decide (cmp x y < 0)

set_option maxRecDepth 100000 in
set_option maxHeartbeats 1600000 in
theorem insR_any (q : Nat) (cmp : ElR → ElR → Int) (hq : CmpR q cmp) (ho : St.SWO (ltOR cmp)) (w : World) (g n c a b : Nat) (P S R : List ElR) (rest : List Value) (h : DatR w g (P ++ S ++ R) rest) (hn : n = (P ++ S ++ R).length) (hbig : n ≤ 4611686018427387904)
    (ha : a = P.length) (hb : b = P.length + S.length) :
    Calls Try.prog 150 #[.slice (some ⟨g, 0, none⟩) n c, .int .i64 a, .int .i64 b, .func (.func q) #[] #[]] w fun e w' => e = .returned (.tuple #[]) ∧ ∃ S', Sts (ltOR cmp) S S' ∧ DatR w' g (P ++ S' ++ R) rest ∧ w.grownBy w' (some g) := by
  have hlen : n = P.length + S.length + R.length := by simp at hn; omega
  have h2 : a ≤ b := by omega
  have h3 : b ≤ n := by omega
  have hpost : ∀ S' w', Srt (ltOR cmp) S' → Alk (ltOR cmp) S S' → DatR w' g (P ++ S' ++ R) rest → w.grownBy w' (some g) → ∃ S', Sts (ltOR cmp) S S' ∧ DatR w' g (P ++ S' ++ R) rest ∧ w.grownBy w' (some g) := fun S' w' h1 h2 h3 h4 => ⟨S', ⟨h1, h2⟩, h3, h4⟩
  have HPOST := Lib.hid hpost
  have HQ := Lib.hid hq
  have HO := Lib.hid ho
  have HL := Lib.hid hlen
  have HA := Lib.hid ha
  have HB := Lib.hid hb
  have HH := Lib.hid h
  have hen := hq.enter
  clear hlen hn ha hb h hq ho hpost
  go_enter Try.func150, Try.ntmps150
  go_wp2
  go_loopg [8] (b + 1) (fun gg s8 wr => ∃ (i : Nat) (S' : List ElR), a + 1 ≤ i ∧ i ≤ b + 1 ∧ b + 1 - i ≤ gg ∧ s8 = .int .i64 i ∧ Hid (Srt (ltOR cmp) (S'.take (i - a))) ∧ Hid (Alk (ltOR cmp) S S') ∧ Hid (DatR wr g (P ++ S' ++ R) rest) ∧ Hid (w.grownBy wr (some g)))
  case atStart => exact ⟨a + 1, S, Nat.le_refl _, by omega, by omega, by go_num, (by show Srt _ _; rw [show a + 1 - a = 1 by omega]; unfold Srt; cases S <;> simp), Alk.refl _, HH.out, World.grownBy.refl _ _⟩
  case round =>
    obtain ⟨i, S1, hi1, hi2, hg, rfl, hs, hal, hd, hgr⟩ := hrel
    by_cases hlt : i < b
    · have hS1 : S1.length = S.length := hal.out.1.symm
      have hil : i - a < S1.length := by have := HB.out; have := HA.out; omega
      have HS1 := Lib.hid hS1
      clear hS1
      go_wp2
      go_loopg [9] (i + 1) (fun gg s9 wr => ∃ (j : Nat) (pre suf U : List ElR) (x1 : ByteArray) (x2 : Int), a ≤ j ∧ j ≤ i ∧ j + 1 ≤ gg ∧ s9 = .int .i64 j ∧ Hid (pre.length = j - a) ∧ Hid (pre.length + suf.length = i - a) ∧ Hid (Srt (ltOR cmp) (pre ++ suf)) ∧ Hid (∀ y ∈ suf, ltOR cmp (x1, x2) y = true) ∧ Hid (Alk (ltOR cmp) S (pre ++ (x1, x2) :: suf ++ U)) ∧ Hid (DatR wr g (P ++ (pre ++ (x1, x2) :: suf ++ U) ++ R) rest) ∧ Hid (w.grownBy wr (some g)))
      case atStart =>
        have e : S1.take (i - a) ++ (S1[i - a].1, S1[i - a].2) :: [] ++ S1.drop (i - a + 1) = S1 := by
          have h1 := List.take_append_drop (i - a) S1
          rw [List.drop_eq_getElem_cons hil] at h1
          rw [List.append_assoc]
          exact h1
        exact ⟨i, S1.take (i - a), [], S1.drop (i - a + 1), S1[i - a].1, S1[i - a].2, by omega, Nat.le_refl _, by omega, rfl, (by show _ = _; rw [List.length_take]; omega), (by show _ = _; rw [List.length_take, List.length_nil]; omega), (by have := hs.out; show Srt _ _; rwa [List.append_nil]), (fun y hy => by simp at hy), (by rw [e]; exact hal), (by rw [e]; exact hd), hgr⟩
      case round =>
        clear hs hal hd hgr
        obtain ⟨j, pre, suf, U, x1, x2, hj1, hj2, hg2, rfl, hpl, hpsl, hs, hgt, hal, hd, hgr⟩ := hrel
        have hxat : (P ++ (pre ++ (x1, x2) :: suf ++ U) ++ R)[j]? = some (x1, x2) := by
          have e : P ++ (pre ++ (x1, x2) :: suf ++ U) ++ R = (P ++ pre) ++ (x1, x2) :: (suf ++ U ++ R) := by simp
          have l : (P ++ pre).length = j := by have := hpl.out; have := HA.out; rw [List.length_append]; omega
          rw [e, ← l]
          simp
        have hjn : j < n := by omega
        by_cases haj : a < j
        · obtain ⟨pr, ⟨y1, y2⟩, hpre⟩ : ∃ pr y, pre = pr ++ [y] := by
            have hne : pre ≠ [] := by intro e; have := hpl.out; rw [e] at this; simp at this; omega
            exact ⟨pre.dropLast, pre.getLast hne, (List.dropLast_concat_getLast hne).symm⟩
          subst hpre
          have l0 : (P ++ pr).length = j - 1 := by have h1 := hpl.out; have h2 := HA.out; rw [List.length_append] at h1 ⊢; simp at h1; omega
          have e0 : P ++ (pr ++ [(y1, y2)] ++ (x1, x2) :: suf ++ U) ++ R = (P ++ pr) ++ (y1, y2) :: [] ++ (x1, x2) :: (suf ++ U ++ R) := by simp
          have hd2 := hd.out
          rw [e0] at hd2
          have s1 := swap_atR (P ++ pr) [] (suf ++ U ++ R) (y1, y2) (x1, x2)
          rw [l0, show j - 1 + 1 + ([] : List ElR).length = j by simp; omega] at s1
          have c1 := hd2.at_ _ _ s1.1
          have c2 := hd2.at_ _ _ s1.2
          obtain ⟨c11, c12⟩ := c1
          obtain ⟨c21, c22⟩ := c2
          simp only at c11 c12 c21 c22
          have hcmp := HQ.out.call x1 x2 y1 y2
          have qc1 := cell_regrown c11
          have qc2 := cell_regrown c12
          have qc3 := cell_regrown c21
          have qc4 := cell_regrown c22
          have cL : ∀ d os, Calls Try.prog q #[.agg #[.string x1, .int .i64 x2], .agg #[.string y1, .int .i64 y2]] (grow (redrawn wr d) os) fun e w'' => e = .returned (.int .i64 (cmp (x1, x2) (y1, y2))) ∧ ∃ p : Regrown, w'' = grow (redrawn wr p.d) p.os := fun d os => Calls.regrown_of (hcmp _)
          have i1 : (0 : Int) ≤ (j : Int) - 1 := by omega
          have i3 : (1 : Int) ≤ (j : Int) := by omega
          have i4 : 1 ≤ j := by omega
          have i5 : 0 < j := by omega
          have i2 : (j : Int) - 1 < (n : Int) := by omega
          have j1 : ((j : Int) - 1).toNat = j - 1 := by omega
          have k1 : IntKind.i64.wrap ((j : Int) - 1) = (j : Int) - 1 := IntWalk.i64_in _ (by omega)
          have HC := Lib.hid (And.intro c11 (And.intro c12 (And.intro c21 c22)))
          have HD2 := Lib.hid hd2
          have HS1 := Lib.hid s1
          have HL0 := Lib.hid l0
          have HE0 := Lib.hid e0
          have HX := Lib.hid hxat
          clear c11 c12 c21 c22 hcmp hd2 s1 l0 e0 hxat
          cases hlt2 : ltOR cmp (x1, x2) (y1, y2)
          · have hno : decide (cmp (x1, x2) (y1, y2) < 0) = false := hlt2
            have HLT := Lib.hid hlt2
            clear hlt2
            go_wp2_with fail
            refine wp_region_quiet_below (by kernel_rfl) (by kernel_rfl) ?_
            repeat (quiet_step (exact cL _ _))
            refine wpQuiet_nil ?_
            intro _ hw'
            obtain ⟨⟨dq, osq⟩, hw''⟩ := hw'
            subst hw''
            have hfar := below_grownR (below_regrown wr dq osq) (some g)
            have HG2 := Lib.hid (hgr.out.trans hfar)
            have HDr := Lib.hid (hd.out.below (below_regrown wr dq osq))
            clear qc1 qc2 qc3 qc4 cL k1 hfar
            go_wp2
            have hs2 : Srt (ltOR cmp) (pr ++ [(y1, y2)] ++ (x1, x2) :: suf) := hs.out.insert (le_all HO.out hs.out.left HLT.out) (fun y hy => HO.out.asym _ _ (hgt.out y hy))
            have HS3 := Lib.hid hs2
            have hl3 : (pr ++ [(y1, y2)] ++ (x1, x2) :: suf).length = i + 1 - a := by have := hpsl.out; rw [List.length_append, List.length_cons]; omega
            have HL3 := Lib.hid hl3
            clear hs2 hl3
            go_roundg (b - i)
            case measure => omega
            case rel => exact ⟨i + 1, pr ++ [(y1, y2)] ++ (x1, x2) :: suf ++ U, by omega, by omega, by omega, by go_num, (by have := HS3.out; show Srt _ _; rwa [← HL3.out, List.take_left]), hal, HDr.out, HG2.out⟩
          · have hyes : decide (cmp (x1, x2) (y1, y2) < 0) = true := hlt2
            have HLT := Lib.hid hlt2
            clear hlt2
            go_wp2_with fail
            refine wp_region_quiet_below (by kernel_rfl) (by kernel_rfl) ?_
            repeat (quiet_step (exact cL _ _))
            refine wpQuiet_nil ?_
            intro wq hw'
            obtain ⟨⟨dq, osq⟩, hw''⟩ := hw'
            have hbl := below_regrown wr dq osq
            rw [← hw''] at hbl
            clear hw''
            have hfar := below_grownR hbl (some g)
            have HG2 := Lib.hid (hgr.out.trans hfar)
            have HDr := Lib.hid (HD2.out.below hbl)
            clear qc1 qc2 qc3 qc4 cL hfar hbl
            have hgb := HG2.out
            have c1 := HDr.out.at_ _ _ HS1.out.1
            have c2 := HDr.out.at_ _ _ HS1.out.2
            obtain ⟨c11, c12⟩ := c1
            obtain ⟨c21, c22⟩ := c2
            simp only at c11 c12 c21 c22
            have f1 := HDr.out.free (j * 2)
            have f2 := HDr.out.free (j * 2 + 1)
            have f3 := HDr.out.free ((j - 1) * 2)
            have f4 := HDr.out.free ((j - 1) * 2 + 1)
            have hl1 := (List.getElem?_eq_some_iff.1 HS1.out.1).1
            have hl2 := (List.getElem?_eq_some_iff.1 HS1.out.2).1
            have SS := swap_set2R (P ++ pr) [] (suf ++ U ++ R) (y1, y2) (x1, x2)
            rw [HL0.out, show j - 1 + 1 + ([] : List ElR).length = j by simp; omega] at SS
            have D1 := (HDr.out.set_ j hl2 y1 y2).set_ (j - 1) (by rw [List.length_set]; exact hl1) x1 x2
            rw [SS] at D1
            have HD1 := Lib.hid D1
            have HG3 := Lib.hid (((((hgb.trans (grown_setR g (j * 2) (.string y1))).trans (grown_setR g (j * 2 + 1) (.int .i64 y2))).trans (grown_setR g ((j - 1) * 2) (.string x1))).trans (grown_setR g ((j - 1) * 2 + 1) (.int .i64 x2))))
            clear hgb hl1 hl2 SS D1
            go_wp2
            go_region
            go_wp2
            have hal2 := Lib.hid (hal.out.trans (by have := Alk.step (a := pr) (b := suf ++ U) HO.out HLT.out; simpa using this : Alk (ltOR cmp) (pr ++ [(y1, y2)] ++ (x1, x2) :: suf ++ U) (pr ++ (x1, x2) :: ((y1, y2) :: suf) ++ U)))
            have e5 : P ++ (pr ++ (x1, x2) :: ((y1, y2) :: suf) ++ U) ++ R = P ++ pr ++ (x1, x2) :: [] ++ (y1, y2) :: (suf ++ U ++ R) := by simp
            have HE5 := Lib.hid e5
            clear e5
            go_roundg (j - 1 + 1)
            case measure => omega
            case rel =>
              refine ⟨j - 1, pr, (y1, y2) :: suf, U, x1, x2, by omega, by omega, by omega, by go_num, (by have := hpl.out; show _ = _; simp at this; omega), (by have := hpsl.out; show _ = _; simp at this ⊢; omega), (by have := hs.out; show Srt _ _; simpa using this), ?_, hal2, (by show DatR _ _ _ _; rw [HE5.out]; exact HD1.out), grown_drewNR HG3.out 1⟩
              intro y hy
              rcases List.mem_cons.1 hy with rfl | hy
              · exact HLT.out
              · exact hgt.out y hy
        · obtain rfl : a = j := by omega
          have hd0 : decide (a < a) = false := by simp
          have hp0 : pre = [] := List.eq_nil_of_length_eq_zero (by have := hpl.out; omega)
          subst hp0
          go_wp2_with fail
          go_quiet (fail)
          go_wp2
          have hs2 : Srt (ltOR cmp) ((x1, x2) :: suf) := by
            have h1 := hs.out
            exact h1.insert (a := []) (fun y hy => by simp at hy) (fun y hy => HO.out.asym _ _ (hgt.out y hy))
          have HS3 := Lib.hid hs2
          have hl3 : ((x1, x2) :: suf).length = i + 1 - a := by have := hpsl.out; rw [List.length_cons]; simp at this; omega
          have HL3 := Lib.hid hl3
          clear hs2 hl3
          go_roundg (b - i)
          case measure => omega
          case rel => exact ⟨i + 1, [] ++ (x1, x2) :: suf ++ U, by omega, by omega, by omega, by go_num, (by have := HS3.out; show Srt _ _; rw [List.nil_append]; rwa [← HL3.out, List.take_left]), hal, hd.out, grown_drewNR hgr.out _⟩
    · have hfin : Srt (ltOR cmp) S1 := by
        have := hs.out
        rwa [List.take_of_length_le (by have := hal.out.1; have := HB.out; have := HA.out; omega)] at this
      have HF := Lib.hid hfin
      clear hfin
      go_wp2
      go_end0
      exact ⟨rfl, HPOST.out _ _ HF.out hal.out hd.out hgr.out⟩
end Go.Proofs.Ytdpohibgipkhnaa
namespace Go.Proofs.Ytdpohibgipkhnaa
open Go.RowKit Go.Sort Go.Proofs.Ytdpohibgipkhnaa.St

theorem at_midR (P A B R : List ElR) (i : Nat) (h1 : P.length + A.length ≤ i) (h2 : i < P.length + A.length + B.length) : (P ++ A ++ B ++ R)[i]? = B[i - (P.length + A.length)]? := by
  rw [List.getElem?_append_left (by simp; omega), List.getElem?_append_right (by simp; omega), List.length_append]
theorem at_foreR (P A B R : List ElR) (i : Nat) (h1 : P.length ≤ i) (h2 : i < P.length + A.length) : (P ++ A ++ B ++ R)[i]? = A[i - P.length]? := by
  rw [List.getElem?_append_left (by simp; omega), List.getElem?_append_left (by simp; omega), List.getElem?_append_right (by omega)]
def SymPostR (cmp : ElR → ElR → Int) (w : World) (g : Nat) (P A B R : List ElR) (rest : List Value) (e : Ending) (w' : World) : Prop :=
  e = .returned (.tuple #[]) ∧ ∃ C, Mrg (ltOR cmp) A B C ∧ DatR w' g (P ++ C ++ R) rest ∧ w.grownBy w' (some g)

set_option maxRecDepth 100000 in
set_option maxHeartbeats 3200000 in
theorem symR_one (q : Nat) (cmp : ElR → ElR → Int) (hq : CmpR q cmp) (ho : St.SWO (ltOR cmp)) (w : World) (g n c a m b : Nat) (P B R : List ElR) (x1 : ByteArray) (x2 : Int) (rest : List Value) (h : DatR w g (P ++ [(x1, x2)] ++ B ++ R) rest) (hn : n = (P ++ [(x1, x2)] ++ B ++ R).length) (hbig : n ≤ 4611686018427387904)
    (ha : a = P.length) (hm : m = a + 1) (hb : b = m + B.length) (hs : Srt (ltOR cmp) B) :
    Calls Try.prog 151 #[.slice (some ⟨g, 0, none⟩) n c, .int .i64 a, .int .i64 m, .int .i64 b, .func (.func q) #[] #[]] w (SymPostR cmp w g P [(x1, x2)] B R rest) := by
  have hlen : n = P.length + 1 + B.length + R.length := by simp at hn; omega
  have h1 : a < m := by omega
  have h2 : m ≤ b := by omega
  have h3 : b ≤ n := by omega
  have h4 : (m : Int) - (a : Int) = 1 := by omega
  have H4 := Lib.hid h4
  have HQ := Lib.hid hq
  have HO := Lib.hid ho
  have HL := Lib.hid hlen
  have HN := Lib.hid hn
  have HA := Lib.hid ha
  have HM := Lib.hid hm
  have HB := Lib.hid hb
  have HS := Lib.hid hs
  have HH := Lib.hid h
  have hen := hq.enter
  clear hlen hn ha hb h hq ho hm hs h4
  go_enter Try.func151, Try.ntmps151
  have h4 := H4.out
  go_wp2_with fail
  clear h4
  go_loopg [10, 11] (b + 1) (fun gg s10 s11 wr => ∃ i j : Nat, m ≤ i ∧ i ≤ j ∧ j ≤ b ∧ j - i + 1 ≤ gg ∧ s10 = .int .i64 i ∧ s11 = .int .i64 j ∧ Hid (m < i → ∀ y, B[i - 1 - m]? = some y → ltOR cmp y (x1, x2) = true) ∧ Hid (∀ y, B[j - m]? = some y → ltOR cmp y (x1, x2) = false) ∧ Hid (DatR wr g (P ++ [(x1, x2)] ++ B ++ R) rest) ∧ Hid (w.grownBy wr (some g)))
  case atStart => exact ⟨m, b, Nat.le_refl _, h2, Nat.le_refl _, by omega, rfl, rfl, (fun h => absurd h (Nat.lt_irrefl _)), (fun y hy => by rw [List.getElem?_eq_none (by have := HB.out; omega)] at hy; cases hy), HH.out, World.grownBy.refl _ _⟩
  case round =>
    obtain ⟨i, j, hi1, hij, hj, hg, rfl, rfl, hlo, hhi, hd, hgr⟩ := hrel
    by_cases hlt : i < j
    · obtain ⟨k, hk⟩ : ∃ k, k = (i + j) / 2 := ⟨_, rfl⟩
      have k1 : i ≤ k := by omega
      have k2 : k < j := by omega
      have k3 : k < n := by omega
      have kat := at_midR P [(x1, x2)] B R k (by have := HA.out; have := HM.out; simp; omega) (by have := HA.out; have := HM.out; have := HB.out; simp; omega)
      have kB : k - m < B.length := by have := HB.out; omega
      rw [show k - (P.length + [(x1, x2)].length) = k - m by have := HA.out; have := HM.out; simp; omega, List.getElem?_eq_getElem kB] at kat
      obtain ⟨⟨y1, y2⟩, hy⟩ : ∃ y, y = B[k - m] := ⟨_, rfl⟩
      rw [← hy] at kat
      have xat := at_foreR P [(x1, x2)] B R a (by have := HA.out; omega) (by have := HA.out; simp; omega)
      rw [show a - P.length = 0 by have := HA.out; omega] at xat
      obtain ⟨c11, c12⟩ := hd.out.at_ _ _ kat
      obtain ⟨c21, c22⟩ := hd.out.at_ _ (x1, x2) xat
      simp only at c11 c12 c21 c22
      have HY : Hid (B[k - m]? = some (y1, y2)) := by show _ = _; rw [hy]; exact List.getElem?_eq_getElem kB
      have hcmp := HQ.out.call y1 y2 x1 x2
      have qc1 := cell_regrown c11
      have qc2 := cell_regrown c12
      have qc3 := cell_regrown c21
      have qc4 := cell_regrown c22
      have cL : ∀ d os, Calls Try.prog q #[.agg #[.string y1, .int .i64 y2], .agg #[.string x1, .int .i64 x2]] (grow (redrawn wr d) os) fun e w'' => e = .returned (.int .i64 (cmp (y1, y2) (x1, x2))) ∧ ∃ p : Regrown, w'' = grow (redrawn wr p.d) p.os := fun d os => Calls.regrown_of (hcmp _)
      have hk2 : ((i : Int) + (j : Int)) / 2 = (k : Int) := by omega
      have a3 : a < n := by omega
      have HK := Lib.hid hk
      clear hk kat xat hy c11 c12 c21 c22 hcmp
      cases hlt2 : ltOR cmp (y1, y2) (x1, x2)
      · have hno : decide (cmp (y1, y2) (x1, x2) < 0) = false := hlt2
        have HLT := Lib.hid hlt2
        clear hlt2
        go_wp2_with fail
        refine wp_region_quiet_below (by kernel_rfl) (by kernel_rfl) ?_
        repeat (quiet_step (exact cL _ _))
        refine wpQuiet_nil ?_
        intro wq hw'
        obtain ⟨⟨dq, osq⟩, hw''⟩ := hw'
        have hbl := below_regrown wr dq osq
        rw [← hw''] at hbl
        clear hw''
        have HG2 := Lib.hid (hgr.out.trans (below_grownR hbl (some g)))
        have HDr := Lib.hid (hd.out.below hbl)
        clear qc1 qc2 qc3 qc4 cL hk2 hbl
        go_wp2_with fail
        go_roundg (k - i + 1)
        case measure => omega
        case rel => exact ⟨i, k, hi1, k1, by omega, by omega, rfl, rfl, hlo, (fun y hy => by have := HY.out; rw [this] at hy; injection hy with hy; subst hy; exact HLT.out), HDr.out, HG2.out⟩
      · have hyes : decide (cmp (y1, y2) (x1, x2) < 0) = true := hlt2
        have HLT := Lib.hid hlt2
        clear hlt2
        go_wp2_with fail
        refine wp_region_quiet_below (by kernel_rfl) (by kernel_rfl) ?_
        repeat (quiet_step (exact cL _ _))
        refine wpQuiet_nil ?_
        intro wq hw'
        obtain ⟨⟨dq, osq⟩, hw''⟩ := hw'
        have hbl := below_regrown wr dq osq
        rw [← hw''] at hbl
        clear hw''
        have HG2 := Lib.hid (hgr.out.trans (below_grownR hbl (some g)))
        have HDr := Lib.hid (hd.out.below hbl)
        clear qc1 qc2 qc3 qc4 cL hk2 hbl
        go_wp2_with fail
        go_roundg (j - (k + 1) + 1)
        case measure => omega
        case rel => exact ⟨k + 1, j, by omega, by omega, hj, Nat.le_refl _, by go_num, rfl, (fun _ y hy => by rw [show k + 1 - 1 - m = k - m by omega, HY.out] at hy; injection hy with hy; subst hy; exact HLT.out), hhi, HDr.out, HG2.out⟩
    · obtain rfl : i = j := by omega
      have hmrg : Mrg (ltOR cmp) [(x1, x2)] B (B.take (i - m) ++ (x1, x2) :: B.drop (i - m)) := Mrg.one HO.out HS.out (i - m) (by have := HB.out; omega)
        (fun h1 h2 => hlo.out (by omega) _ (by rw [show i - 1 - m = i - m - 1 by omega]; exact List.getElem?_eq_getElem h1)) (fun h1 => hhi.out _ (List.getElem?_eq_getElem h1))
      have HMR := Lib.hid hmrg
      clear hmrg hlo hhi
      go_wp2_with fail
      have hdm : DatR wr g (P ++ ([(x1, x2)] ++ B) ++ R) rest := by have := hd.out; simpa only [List.append_assoc] using this
      have HDM := Lib.hid hdm
      clear hdm
      go_loopg [13] (i + 1) (fun gg s13 wr => ∃ t : Nat, a + t ≤ i - 1 ∧ i - (a + t) ≤ gg ∧ s13 = .int .i64 (a + t : Nat) ∧ Hid (DatR wr g (P ++ (B.take t ++ (x1, x2) :: B.drop t) ++ R) rest) ∧ Hid (w.grownBy wr (some g)))
      case atStart => exact ⟨0, by omega, by omega, rfl, HDM.out, hgr⟩
      case round =>
        clear hd hgr HDM
        obtain ⟨t, ht1, hg3, rfl, hd, hgr⟩ := hrel
        by_cases hlt : a + t < i - 1
        · have tB : t < B.length := by have := HB.out; have := HM.out; omega
          have e0 : P ++ (B.take t ++ (x1, x2) :: B.drop t) ++ R = (P ++ B.take t) ++ (x1, x2) :: [] ++ B[t] :: (B.drop (t + 1) ++ R) := by
            rw [List.drop_eq_getElem_cons tB]; simp only [List.append_assoc, List.cons_append, List.nil_append]
          have e1 : P ++ (B.take (t + 1) ++ (x1, x2) :: B.drop (t + 1)) ++ R = (P ++ B.take t) ++ B[t] :: [] ++ (x1, x2) :: (B.drop (t + 1) ++ R) := by
            rw [List.take_succ_eq_append_getElem tB]; simp only [List.append_assoc, List.cons_append, List.nil_append]
          have l1 : (P ++ B.take t).length = a + t := by have := HA.out; simp; omega
          obtain ⟨⟨y1, y2⟩, hy⟩ : ∃ y, y = B[t] := ⟨_, rfl⟩
          rw [← hy] at e0 e1
          have hd2 := hd.out
          rw [e0] at hd2
          have s1 := swap_atR (P ++ B.take t) [] (B.drop (t + 1) ++ R) (x1, x2) (y1, y2)
          have SS := swap_setR (P ++ B.take t) [] (B.drop (t + 1) ++ R) (x1, x2) (y1, y2)
          rw [l1, show a + t + 1 + ([] : List ElR).length = a + t + 1 from rfl] at s1 SS
          rw [← e1] at SS
          obtain ⟨c11, c12⟩ := hd2.at_ _ _ s1.1
          obtain ⟨c21, c22⟩ := hd2.at_ _ _ s1.2
          simp only at c11 c12 c21 c22
          have hl1 := (List.getElem?_eq_some_iff.1 s1.1).1
          have hl2 := (List.getElem?_eq_some_iff.1 s1.2).1
          have D1 := (hd2.set_ (a + t) hl1 y1 y2).set_ (a + t + 1) (by rw [List.length_set]; exact hl2) x1 x2
          rw [SS] at D1
          have HD1 := Lib.hid D1
          obtain ⟨u, hu⟩ : ∃ u, u = a + t := ⟨_, rfl⟩
          rw [← hu] at c11 c12 c21 c22 HD1 ⊢
          have HU := Lib.hid hu
          have u1 : u < i - 1 := by omega
          have u2 : (u : Int) < (i : Int) - 1 := by omega
          have u3 : u + 1 < n := by omega
          have f1 := hd2.free (u * 2)
          have f2 := hd2.free (u * 2 + 1)
          have f3 := hd2.free ((u + 1) * 2)
          have f4 := hd2.free ((u + 1) * 2 + 1)
          have HG3 := Lib.hid (((((hgr.out.trans (grown_setR g (u * 2) (.string y1))).trans (grown_setR g (u * 2 + 1) (.int .i64 y2))).trans (grown_setR g ((u + 1) * 2) (.string x1))).trans (grown_setR g ((u + 1) * 2 + 1) (.int .i64 x2))))
          clear e0 e1 l1 hy hd2 s1 SS hl1 hl2 D1 hu hlt
          go_wp2_with fail
          go_region
          go_wp2_with fail
          go_roundg (i - (u + 1))
          case measure => have := HU.out; omega
          case rel => exact ⟨t + 1, by have := HU.out; omega, by have := HU.out; omega, (by have := HU.out; rw [show a + (t + 1) = u + 1 by omega]; go_num), HD1.out, grown_drewNR HG3.out 1⟩
        · have ht : t = i - m := by have := HM.out; omega
          subst ht
          go_wp2_with fail
          go_end0
          exact ⟨rfl, _, HMR.out, hd.out, hgr.out⟩

set_option maxRecDepth 100000 in
set_option maxHeartbeats 3200000 in
theorem symR_last (q : Nat) (cmp : ElR → ElR → Int) (hq : CmpR q cmp) (ho : St.SWO (ltOR cmp)) (w : World) (g n c a m b : Nat) (P A R : List ElR) (x1 : ByteArray) (x2 : Int) (rest : List Value) (h : DatR w g (P ++ A ++ [(x1, x2)] ++ R) rest) (hn : n = (P ++ A ++ [(x1, x2)] ++ R).length) (hbig : n ≤ 4611686018427387904)
    (ha : a = P.length) (hm : m = a + A.length) (hb : b = m + 1) (h2a : 2 ≤ A.length) (hs : Srt (ltOR cmp) A) :
    Calls Try.prog 151 #[.slice (some ⟨g, 0, none⟩) n c, .int .i64 a, .int .i64 m, .int .i64 b, .func (.func q) #[] #[]] w (SymPostR cmp w g P A [(x1, x2)] R rest) := by
  have hlen : n = P.length + A.length + 1 + R.length := by simp at hn; omega
  have h1 : a + 2 ≤ m := by omega
  have h2 : m < b := by omega
  have h3 : b ≤ n := by omega
  have h4 : (b : Int) - (m : Int) = 1 := by omega
  have h5 : ((m : Int) - (a : Int) == 1) = false := by simp; omega
  have H4 := Lib.hid h4
  have H5 := Lib.hid h5
  have HQ := Lib.hid hq
  have HO := Lib.hid ho
  have HL := Lib.hid hlen
  have HN := Lib.hid hn
  have HA := Lib.hid ha
  have HM := Lib.hid hm
  have HB := Lib.hid hb
  have HS := Lib.hid hs
  have HH := Lib.hid h
  have hen := hq.enter
  clear hlen hn ha hb h hq ho hm hs h4 h5 h2a
  go_enter Try.func151, Try.ntmps151
  have h4 := H4.out
  have h5 := H5.out
  go_wp2_with fail
  clear h4 h5
  go_loopg [14, 15] (b + 1) (fun gg s14 s15 wr => ∃ i j : Nat, a ≤ i ∧ i ≤ j ∧ j ≤ m ∧ j - i + 1 ≤ gg ∧ s14 = .int .i64 i ∧ s15 = .int .i64 j ∧ Hid (a < i → ∀ y, A[i - 1 - a]? = some y → ltOR cmp (x1, x2) y = false) ∧ Hid (∀ y, A[j - a]? = some y → ltOR cmp (x1, x2) y = true) ∧ Hid (DatR wr g (P ++ A ++ [(x1, x2)] ++ R) rest) ∧ Hid (w.grownBy wr (some g)))
  case atStart => exact ⟨a, m, Nat.le_refl _, by omega, Nat.le_refl _, by omega, rfl, rfl, (fun h => absurd h (Nat.lt_irrefl _)), (fun y hy => by rw [List.getElem?_eq_none (by have := HM.out; omega)] at hy; cases hy), HH.out, World.grownBy.refl _ _⟩
  case round =>
    obtain ⟨i, j, hi1, hij, hj, hg, rfl, rfl, hlo, hhi, hd, hgr⟩ := hrel
    by_cases hlt : i < j
    · obtain ⟨k, hk⟩ : ∃ k, k = (i + j) / 2 := ⟨_, rfl⟩
      have k1 : i ≤ k := by omega
      have k2 : k < j := by omega
      have k3 : k < n := by omega
      have kat := at_foreR P A [(x1, x2)] R k (by have := HA.out; omega) (by have := HA.out; have := HM.out; omega)
      have kA : k - a < A.length := by have := HM.out; omega
      rw [show k - P.length = k - a by have := HA.out; omega, List.getElem?_eq_getElem kA] at kat
      obtain ⟨⟨y1, y2⟩, hy⟩ : ∃ y, y = A[k - a] := ⟨_, rfl⟩
      rw [← hy] at kat
      have xat := at_midR P A [(x1, x2)] R m (by have := HA.out; have := HM.out; omega) (by have := HA.out; have := HM.out; simp; omega)
      rw [show m - (P.length + A.length) = 0 by have := HA.out; have := HM.out; omega] at xat
      obtain ⟨c11, c12⟩ := hd.out.at_ _ _ kat
      obtain ⟨c21, c22⟩ := hd.out.at_ _ (x1, x2) xat
      simp only at c11 c12 c21 c22
      have HY : Hid (A[k - a]? = some (y1, y2)) := by show _ = _; rw [hy]; exact List.getElem?_eq_getElem kA
      have hcmp := HQ.out.call x1 x2 y1 y2
      have qc1 := cell_regrown c11
      have qc2 := cell_regrown c12
      have qc3 := cell_regrown c21
      have qc4 := cell_regrown c22
      have cL : ∀ d os, Calls Try.prog q #[.agg #[.string x1, .int .i64 x2], .agg #[.string y1, .int .i64 y2]] (grow (redrawn wr d) os) fun e w'' => e = .returned (.int .i64 (cmp (x1, x2) (y1, y2))) ∧ ∃ p : Regrown, w'' = grow (redrawn wr p.d) p.os := fun d os => Calls.regrown_of (hcmp _)
      have hk2 : ((i : Int) + (j : Int)) / 2 = (k : Int) := by omega
      have a3 : m < n := by omega
      have HK := Lib.hid hk
      clear hk kat xat hy c11 c12 c21 c22 hcmp
      cases hlt2 : ltOR cmp (x1, x2) (y1, y2)
      · have hno : decide (cmp (x1, x2) (y1, y2) < 0) = false := hlt2
        have HLT := Lib.hid hlt2
        clear hlt2
        go_wp2_with fail
        refine wp_region_quiet_below (by kernel_rfl) (by kernel_rfl) ?_
        repeat (quiet_step (exact cL _ _))
        refine wpQuiet_nil ?_
        intro wq hw'
        obtain ⟨⟨dq, osq⟩, hw''⟩ := hw'
        have hbl := below_regrown wr dq osq
        rw [← hw''] at hbl
        clear hw''
        have HG2 := Lib.hid (hgr.out.trans (below_grownR hbl (some g)))
        have HDr := Lib.hid (hd.out.below hbl)
        clear qc1 qc2 qc3 qc4 cL hk2 hbl
        go_wp2_with fail
        go_roundg (j - (k + 1) + 1)
        case measure => omega
        case rel => exact ⟨k + 1, j, by omega, by omega, hj, Nat.le_refl _, by go_num, rfl, (fun _ y hy => by rw [show k + 1 - 1 - a = k - a by omega, HY.out] at hy; injection hy with hy; subst hy; exact HLT.out), hhi, HDr.out, HG2.out⟩
      · have hyes : decide (cmp (x1, x2) (y1, y2) < 0) = true := hlt2
        have HLT := Lib.hid hlt2
        clear hlt2
        go_wp2_with fail
        refine wp_region_quiet_below (by kernel_rfl) (by kernel_rfl) ?_
        repeat (quiet_step (exact cL _ _))
        refine wpQuiet_nil ?_
        intro wq hw'
        obtain ⟨⟨dq, osq⟩, hw''⟩ := hw'
        have hbl := below_regrown wr dq osq
        rw [← hw''] at hbl
        clear hw''
        have HG2 := Lib.hid (hgr.out.trans (below_grownR hbl (some g)))
        have HDr := Lib.hid (hd.out.below hbl)
        clear qc1 qc2 qc3 qc4 cL hk2 hbl
        go_wp2_with fail
        go_roundg (k - i + 1)
        case measure => omega
        case rel => exact ⟨i, k, hi1, k1, by omega, by omega, rfl, rfl, hlo, (fun y hy => by have := HY.out; rw [this] at hy; injection hy with hy; subst hy; exact HLT.out), HDr.out, HG2.out⟩
    · obtain rfl : i = j := by omega
      have hmrg : Mrg (ltOR cmp) A [(x1, x2)] (A.take (i - a) ++ (x1, x2) :: A.drop (i - a)) := Mrg.last HO.out HS.out (i - a) (by have := HM.out; omega)
        (fun h1 h2 => hlo.out (by omega) _ (by rw [show i - 1 - a = i - a - 1 by omega]; exact List.getElem?_eq_getElem h1)) (fun h1 => hhi.out _ (List.getElem?_eq_getElem h1))
      have HMR := Lib.hid hmrg
      clear hmrg hlo hhi
      go_wp2_with fail
      have hdm : DatR wr g (P ++ (A.take (m - a) ++ (x1, x2) :: A.drop (m - a)) ++ R) rest := by
        have := hd.out
        rw [List.take_of_length_le (by have := HM.out; omega), List.drop_eq_nil_of_le (by have := HM.out; omega)]
        simpa only [List.append_assoc] using this
      have HDM := Lib.hid hdm
      clear hdm
      go_loopg [17] (m + 1) (fun gg s17 wr => ∃ u : Nat, i ≤ u ∧ u ≤ m ∧ u - i + 1 ≤ gg ∧ s17 = .int .i64 u ∧ Hid (DatR wr g (P ++ (A.take (u - a) ++ (x1, x2) :: A.drop (u - a)) ++ R) rest) ∧ Hid (w.grownBy wr (some g)))
      case atStart => exact ⟨m, by omega, Nat.le_refl _, by omega, rfl, HDM.out, hgr⟩
      case round =>
        clear hd hgr HDM
        obtain ⟨u, hu1, hu2, hg3, rfl, hd, hgr⟩ := hrel
        by_cases hlt : i < u
        · obtain ⟨t, ht⟩ : ∃ t, t = u - a - 1 := ⟨_, rfl⟩
          have tA : t < A.length := by have := HM.out; omega
          rw [show u - a = t + 1 by omega] at hd
          have e0 : P ++ (A.take (t + 1) ++ (x1, x2) :: A.drop (t + 1)) ++ R = (P ++ A.take t) ++ A[t] :: [] ++ (x1, x2) :: (A.drop (t + 1) ++ R) := by
            rw [List.take_succ_eq_append_getElem tA]; simp only [List.append_assoc, List.cons_append, List.nil_append]
          have e1 : P ++ (A.take t ++ (x1, x2) :: A.drop t) ++ R = (P ++ A.take t) ++ (x1, x2) :: [] ++ A[t] :: (A.drop (t + 1) ++ R) := by
            rw [List.drop_eq_getElem_cons tA]; simp only [List.append_assoc, List.cons_append, List.nil_append]
          have l1 : (P ++ A.take t).length = u - 1 := by have := HA.out; simp; omega
          obtain ⟨⟨y1, y2⟩, hy⟩ : ∃ y, y = A[t] := ⟨_, rfl⟩
          rw [← hy] at e0 e1
          have hd2 := hd.out
          rw [e0] at hd2
          have s1 := swap_atR (P ++ A.take t) [] (A.drop (t + 1) ++ R) (y1, y2) (x1, x2)
          have SS := swap_set2R (P ++ A.take t) [] (A.drop (t + 1) ++ R) (y1, y2) (x1, x2)
          rw [l1, show u - 1 + 1 + ([] : List ElR).length = u by simp; omega] at s1 SS
          rw [← e1] at SS
          obtain ⟨c11, c12⟩ := hd2.at_ _ _ s1.1
          obtain ⟨c21, c22⟩ := hd2.at_ _ _ s1.2
          simp only at c11 c12 c21 c22
          have hl1 := (List.getElem?_eq_some_iff.1 s1.1).1
          have hl2 := (List.getElem?_eq_some_iff.1 s1.2).1
          have D1 := (hd2.set_ u hl2 y1 y2).set_ (u - 1) (by rw [List.length_set]; exact hl1) x1 x2
          rw [SS] at D1
          have HD1 := Lib.hid D1
          have HT := Lib.hid ht
          have u3 : u < n := by omega
          have i1 : (0 : Int) ≤ (u : Int) - 1 := by omega
          have i3 : (1 : Int) ≤ (u : Int) := by omega
          have i4 : 1 ≤ u := by omega
          have i5 : 0 < u := by omega
          have i2 : (u : Int) - 1 < (n : Int) := by omega
          have j1 : ((u : Int) - 1).toNat = u - 1 := by omega
          have k1 : IntKind.i64.wrap ((u : Int) - 1) = (u : Int) - 1 := IntWalk.i64_in _ (by omega)
          have f1 := hd2.free (u * 2)
          have f2 := hd2.free (u * 2 + 1)
          have f3 := hd2.free ((u - 1) * 2)
          have f4 := hd2.free ((u - 1) * 2 + 1)
          have HG3 := Lib.hid (((((hgr.out.trans (grown_setR g (u * 2) (.string y1))).trans (grown_setR g (u * 2 + 1) (.int .i64 y2))).trans (grown_setR g ((u - 1) * 2) (.string x1))).trans (grown_setR g ((u - 1) * 2 + 1) (.int .i64 x2))))
          clear e0 e1 l1 hy hd2 s1 SS hl1 hl2 D1 ht hd
          go_wp2_with fail
          go_region
          go_wp2_with fail
          go_roundg (u - 1 - i + 1)
          case measure => omega
          case rel => exact ⟨u - 1, by omega, by omega, Nat.le_refl _, by go_num, (by have h9 := HD1.out; have h8 := HT.out; rw [show u - 1 - a = t by omega]; exact h9), grown_drewNR HG3.out 1⟩
        · obtain rfl : i = u := by omega
          go_wp2_with fail
          go_end0
          exact ⟨rfl, _, HMR.out, hd.out, hgr.out⟩
end Go.Proofs.Ytdpohibgipkhnaa
