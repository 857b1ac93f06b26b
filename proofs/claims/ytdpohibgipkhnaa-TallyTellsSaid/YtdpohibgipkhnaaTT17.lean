/-
  A STABLE SORT OF A ROW OF STRUCTS (tally.Row): the walk of symMerge.
  A STABLE SORT OF A ROW OF STRUCTS (tally.Row): the walks of stable and of SortStableFunc.
-/
import Derived.Test.YtdpohibgipkhnaaTT15
import Derived.Test.YtdpohibgipkhnaaTT1
import Derived.Deep.DeepCutAuto
set_option linter.unusedVariables false
set_option linter.unusedSimpArgs false
namespace Go.Proofs.Ytdpohibgipkhnaa
open Go.RowKit Go.Sort Go.Proofs.Ytdpohibgipkhnaa.St

set_option maxRecDepth 100000 in
set_option maxHeartbeats 6400000 in
theorem symR_any (q : Nat) (cmp : ElR → ElR → Int) (hq : CmpR q cmp) (ho : St.SWO (ltOR cmp)) (g n c : Nat) (rest : List Value) (hbig : n ≤ 2305843009213693952) : ∀ (f : Nat) (w : World) (a m b : Nat) (P A B R : List ElR), A.length + B.length ≤ f → 1 ≤ A.length → 1 ≤ B.length → Srt (ltOR cmp) A → Srt (ltOR cmp) B → DatR w g (P ++ A ++ B ++ R) rest → n = (P ++ A ++ B ++ R).length →
    a = P.length → m = a + A.length → b = m + B.length →
    Calls Try.prog 151 #[.slice (some ⟨g, 0, none⟩) n c, .int .i64 a, .int .i64 m, .int .i64 b, .func (.func q) #[] #[]] w (SymPostR cmp w g P A B R rest) := by
  intro f
  induction f with
  | zero => intro w a m b P A B R h1 h2; omega
  | succ f ih =>
    intro w a m b P A B R hf hA1 hB1 hsA hsB h hn ha hm hb
    by_cases hA2 : A.length = 1
    · obtain ⟨⟨x1, x2⟩, rfl⟩ := List.length_eq_one_iff.1 hA2
      exact symR_one q cmp hq ho w g n c a m b P B R x1 x2 rest h hn (by omega) ha (by simpa using hm) hb hsB
    by_cases hB2 : B.length = 1
    · obtain ⟨⟨x1, x2⟩, rfl⟩ := List.length_eq_one_iff.1 hB2
      exact symR_last q cmp hq ho w g n c a m b P A R x1 x2 rest h hn (by omega) ha hm (by simpa using hb) (by omega) hsA
    have hlen : n = P.length + A.length + B.length + R.length := by simp at hn; omega
    obtain ⟨mid, hmid⟩ : ∃ mid, mid = (a + b) / 2 := ⟨_, rfl⟩
    obtain ⟨lo, hlo⟩ : ∃ lo, lo = if mid < m then mid + m - b else a := ⟨_, rfl⟩
    obtain ⟨hi, hhi⟩ : ∃ hi, hi = if mid < m then mid else m := ⟨_, rfl⟩
    obtain ⟨pp, hpp⟩ : ∃ pp, pp = mid + m - 1 := ⟨_, rfl⟩
    have z1 : a + 2 ≤ m := by omega
    have z2 : m + 2 ≤ b := by omega
    have z3 : b ≤ n := by omega
    have z4 : a < mid := by omega
    have z5 : mid < b := by omega
    have q1 : a ≤ lo := by rw [hlo]; split <;> omega
    have q2 : mid + m ≤ lo + b := by rw [hlo]; split <;> omega
    have q3 : lo = a ∨ lo + b = mid + m := by rw [hlo]; split <;> omega
    have q4 : hi ≤ mid := by rw [hhi]; split <;> omega
    have q5 : hi ≤ m := by rw [hhi]; split <;> omega
    have q6 : hi = mid ∨ hi = m := by rw [hhi]; split <;> omega
    have q7 : lo ≤ hi := by rw [hhi, hlo]; split <;> omega
    have e1 : ((a : Int) + (b : Int)) / 2 = (mid : Int) := by omega
    have e2 : (mid : Int) + (m : Int) - 1 = (pp : Int) := by omega
    have e3 : ((m : Int) - (a : Int) == 1) = false := by simp; omega
    have e4 : ((b : Int) - (m : Int) == 1) = false := by simp; omega
    have E1 := Lib.hid (And.intro e1 (And.intro e2 (And.intro e3 e4)))
    have Q3 := Lib.hid (And.intro q3 q6)
    have HMD := Lib.hid hmid
    have HLO := Lib.hid hlo
    have HHI := Lib.hid hhi
    have HPP := Lib.hid hpp
    have HQ := Lib.hid hq
    have HO := Lib.hid ho
    have HL := Lib.hid hlen
    have HN := Lib.hid hn
    have HA := Lib.hid ha
    have HM := Lib.hid hm
    have HB := Lib.hid hb
    have HSA := Lib.hid hsA
    have HSB := Lib.hid hsB
    have HH := Lib.hid h
    have HIH := Lib.hid ih
    have HF := Lib.hid hf
    have hen := hq.enter
    clear hlen hn ha hb h hsA hsB hm hmid hlo hhi hpp e1 e2 e3 e4 q3 q6 ih hf hA2 hB2 hA1 hB1
    go_enter Try.func151, Try.ntmps151
    obtain ⟨e1, e2, e3, e4⟩ := E1.out
    go_upto_if 140 with fail
    clear e3 e4 e1
    go_cut [20, 21] (fun s20 s21 wx => s20 = .int .i64 lo ∧ s21 = .int .i64 hi ∧ w = wx)
    case first => as_aux_lemma =>
      by_cases hmm : mid < m
      · have l1 : (mid : Int) + (m : Int) - (b : Int) = (lo : Int) := by have h9 := HLO.out; have h8 := HMD.out; rw [if_pos hmm] at h9; omega
        have l2 : hi = mid := by have := HHI.out; rw [if_pos hmm] at this; exact this
        have L2 := Lib.hid l2
        clear l2
        go_wp2_with fail
        go_meet
        exact ⟨rfl, by rw [L2.out], rfl⟩
      · have l1 : lo = a := by have := HLO.out; rw [if_neg hmm] at this; exact this
        have l2 : hi = m := by have := HHI.out; rw [if_neg hmm] at this; exact this
        have L2 := Lib.hid (And.intro l1 l2)
        clear l1 l2
        go_wp2_with fail
        go_meet
        exact ⟨by rw [L2.out.1], by rw [L2.out.2], rfl⟩
    case rest =>
      obtain ⟨rfl, rfl, rfl⟩ := hcut
      go_wp2_with fail
      clear e2
      have zpp : pp < n + n := by have := HPP.out; omega
      go_loopg [20, 21] (b + 1) (fun gg s20 s21 wr => ∃ i j : Nat, lo ≤ i ∧ i ≤ j ∧ j ≤ hi ∧ j - i + 1 ≤ gg ∧ s20 = .int .i64 i ∧ s21 = .int .i64 j ∧ Hid (lo < i → ∀ x y, B[mid - i]? = some y → A[i - 1 - a]? = some x → ltOR cmp y x = false) ∧ Hid (j < hi → ∀ x y, B[mid - 1 - j]? = some y → A[j - a]? = some x → ltOR cmp y x = true) ∧ Hid (DatR wr g (P ++ A ++ B ++ R) rest) ∧ Hid (w.grownBy wr (some g)))
      case atStart => exact ⟨lo, hi, Nat.le_refl _, q7, Nat.le_refl _, by omega, rfl, rfl, (fun h => absurd h (Nat.lt_irrefl _)), (fun h => absurd h (Nat.lt_irrefl _)), HH.out, World.grownBy.refl _ _⟩
      case round =>
        obtain ⟨i, j, hi1, hij, hj, hg, rfl, rfl, hlo, hhi, hd, hgr⟩ := hrel
        by_cases hlt : i < j
        · obtain ⟨k, hk⟩ : ∃ k, k = (i + j) / 2 := ⟨_, rfl⟩
          obtain ⟨d, hd0⟩ : ∃ d, d = pp - k := ⟨_, rfl⟩
          have k1 : i ≤ k := by omega
          have k2 : k < j := by omega
          have d1 : m ≤ d := by have := HPP.out; omega
          have d2 : d < b := by have := HPP.out; omega
          have kat := at_foreR P A B R k (by have := HA.out; omega) (by have := HA.out; have := HM.out; omega)
          have kA : k - a < A.length := by have := HM.out; omega
          rw [show k - P.length = k - a by have := HA.out; omega, List.getElem?_eq_getElem kA] at kat
          obtain ⟨⟨x1, x2⟩, hx⟩ : ∃ x, x = A[k - a] := ⟨_, rfl⟩
          rw [← hx] at kat
          have dat := at_midR P A B R d (by have := HA.out; have := HM.out; omega) (by have := HA.out; have := HM.out; have := HB.out; omega)
          have dB : d - m < B.length := by have := HB.out; omega
          rw [show d - (P.length + A.length) = d - m by have := HA.out; have := HM.out; omega, List.getElem?_eq_getElem dB] at dat
          obtain ⟨⟨y1, y2⟩, hy⟩ : ∃ y, y = B[d - m] := ⟨_, rfl⟩
          rw [← hy] at dat
          have HX : Hid (A[k - a]? = some (x1, x2)) := by show _ = _; rw [hx]; exact List.getElem?_eq_getElem kA
          have HY : Hid (B[mid - 1 - k]? = some (y1, y2)) := by show _ = _; rw [hy, show mid - 1 - k = d - m by have := HPP.out; omega]; exact List.getElem?_eq_getElem dB
          obtain ⟨c11, c12⟩ := hd.out.at_ _ _ kat
          obtain ⟨c21, c22⟩ := hd.out.at_ _ _ dat
          simp only at c11 c12 c21 c22
          have hcmp := HQ.out.call y1 y2 x1 x2
          have qc1 := cell_regrown c11
          have qc2 := cell_regrown c12
          have qc3 := cell_regrown c21
          have qc4 := cell_regrown c22
          have cL : ∀ d os, Calls Try.prog q #[.agg #[.string y1, .int .i64 y2], .agg #[.string x1, .int .i64 x2]] (grow (redrawn wr d) os) fun e w'' => e = .returned (.int .i64 (cmp (y1, y2) (x1, x2))) ∧ ∃ p : Regrown, w'' = grow (redrawn wr p.d) p.os := fun d os => Calls.regrown_of (hcmp _)
          have hk2 : ((i : Int) + (j : Int)) / 2 = (k : Int) := by omega
          have hd3 : IntKind.i64.wrap (d : Int) = (d : Int) := IntWalk.i64_in _ (by omega)
          have hd4 : (pp : Int) - (k : Int) = (d : Int) := by omega
          have k3 : k < n := by omega
          have d3 : d < n := by omega
          have HK := Lib.hid (And.intro hk hd0)
          clear hk kat dat hx hy c11 c12 c21 c22 hcmp hd0
          cases hlt2 : ltOR cmp (y1, y2) (x1, x2)
          · as_aux_lemma =>
            have hno : decide (cmp (y1, y2) (x1, x2) < 0) = false := hlt2
            have HLT := Lib.hid hlt2
            clear hlt2
            go_wp2_with fail
            refine wp_region_quiet_below (by kernel_rfl) (by kernel_rfl) ?_
            repeat (quiet_step (exact cL _ _))
            refine wpQuiet_nil ?_
            intro wq hw'
            obtain ⟨⟨dq, osq⟩, hw''⟩ := hw'
            have hbl := below_regrown wr dq osq
            rw [← hw''] at hbl
            clear hw''
            have HG2 := Lib.hid (hgr.out.trans (below_grownR hbl (some g)))
            have HDr := Lib.hid (hd.out.below hbl)
            clear qc1 qc2 qc3 qc4 cL hk2 hbl hd3 hd4
            go_wp2_with fail
            go_roundg (j - (k + 1) + 1)
            case measure => omega
            case rel => exact ⟨k + 1, j, by omega, by omega, hj, Nat.le_refl _, by go_num, rfl, (fun _ x y hy hx => by rw [show mid - (k + 1) = mid - 1 - k by omega, HY.out] at hy; rw [show k + 1 - 1 - a = k - a by omega, HX.out] at hx; injection hy with hy; injection hx with hx; subst hy; subst hx; exact HLT.out), hhi, HDr.out, HG2.out⟩
          · as_aux_lemma =>
            have hyes : decide (cmp (y1, y2) (x1, x2) < 0) = true := hlt2
            have HLT := Lib.hid hlt2
            clear hlt2
            go_wp2_with fail
            refine wp_region_quiet_below (by kernel_rfl) (by kernel_rfl) ?_
            repeat (quiet_step (exact cL _ _))
            refine wpQuiet_nil ?_
            intro wq hw'
            obtain ⟨⟨dq, osq⟩, hw''⟩ := hw'
            have hbl := below_regrown wr dq osq
            rw [← hw''] at hbl
            clear hw''
            have HG2 := Lib.hid (hgr.out.trans (below_grownR hbl (some g)))
            have HDr := Lib.hid (hd.out.below hbl)
            clear qc1 qc2 qc3 qc4 cL hk2 hbl hd3 hd4
            go_wp2_with fail
            go_roundg (k - i + 1)
            case measure => omega
            case rel => exact ⟨i, k, hi1, k1, by omega, by omega, rfl, rfl, hlo, (fun _ x y hy hx => by rw [HY.out] at hy; rw [HX.out] at hx; injection hy with hy; injection hx with hx; subst hy; subst hx; exact HLT.out), HDr.out, HG2.out⟩
        · obtain rfl : i = j := by omega
          obtain ⟨en, hen2⟩ : ∃ en, en = mid + m - i := ⟨_, rfl⟩
          have y1 : (mid : Int) + (m : Int) - (i : Int) = (en : Int) := by omega
          have t1 : m ≤ en := by omega
          have t2 : mid ≤ en := by omega
          have t3 : en ≤ b := by omega
          have t4 : en ≤ n := by omega
          have t5 : i ≤ m := by omega
          have t6 : i ≤ mid := by omega
          have t7 : a ≤ i := by omega
          have la : (A.take (i - a)).length = i - a := by have := HM.out; simp; omega
          have la2 : (A.drop (i - a)).length = m - i := by have := HM.out; simp; omega
          have lb : (B.take (mid - i)).length = mid - i := by have := HB.out; simp; omega
          have lb2 : (B.drop (mid - i)).length = b - en := by have := HB.out; simp; omega
          have hboth : ∀ C1 C2, Mrg (ltOR cmp) (A.take (i - a)) (B.take (mid - i)) C1 → Mrg (ltOR cmp) (A.drop (i - a)) (B.drop (mid - i)) C2 → Mrg (ltOR cmp) A B (C1 ++ C2) := by
            intro C1 C2 m1 m2
            have ek : mid - i = (mid - a) - (i - a) := by omega
            rw [ek] at m1 m2
            refine Mrg.both HO.out HSA.out HSB.out (mid - a) (i - a) (by have := HM.out; omega) (by have := HB.out; omega) ?_ ?_ m1 m2
            · intro u1 u2 u3
              have v1 : lo < i := by have := Q3.out; have := HB.out; omega
              refine hlo.out v1 _ _ ?_ ?_
              · exact (show B[mid - i]? = B[mid - a - (i - a)]? by rw [← ek]).trans (List.getElem?_eq_getElem u2)
              · exact (show A[i - 1 - a]? = A[i - a - 1]? by rw [show i - 1 - a = i - a - 1 by omega]).trans (List.getElem?_eq_getElem u1)
            · intro u1 u2 u3
              have v1 : i < hi := by have := Q3.out; have := HM.out; omega
              refine hhi.out v1 _ _ ?_ ?_
              · exact (show B[mid - 1 - i]? = B[mid - a - 1 - (i - a)]? by rw [show mid - 1 - i = mid - a - 1 - (i - a) by omega]).trans (List.getElem?_eq_getElem u2)
              · exact List.getElem?_eq_getElem u1
          have HBO := Lib.hid hboth
          have hd2 : DatR wr g ((P ++ A.take (i - a)) ++ A.drop (i - a) ++ B.take (mid - i) ++ (B.drop (mid - i) ++ R)) rest := by
            have := hd.out
            rw [← List.take_append_drop (i - a) A, ← List.take_append_drop (mid - i) B] at this
            simpa only [List.append_assoc] using this
          have HD2 := Lib.hid hd2
          have HEN := Lib.hid hen2
          have LL := Lib.hid (And.intro la (And.intro la2 (And.intro lb lb2)))
          clear hboth hd2 hd hlo hhi hen2 la la2 lb lb2
          go_upto_region 39 with fail
          clear y1
          obtain ⟨c1, hc1⟩ : ∃ c1, c1 = decide (i < m ∧ m < en) := ⟨_, rfl⟩
          have HC1 := Lib.hid hc1
          clear hc1
          go_cut [185] (fun s185 wx => s185 = .bool c1 ∧ wr = wx)
          case first => as_aux_lemma =>
            by_cases u1 : i < m
            · by_cases u2 : m < en
              · have h1 : c1 = true := by rw [HC1.out]; simp [u1, u2]
                have H1 := Lib.hid h1
                clear h1
                go_wp2_with fail
                go_meet
                exact ⟨by rw [H1.out], rfl⟩
              · have h1 : c1 = false := by rw [HC1.out]; simp [u2]
                have H1 := Lib.hid h1
                clear h1
                go_wp2_with fail
                go_meet
                exact ⟨by rw [H1.out], rfl⟩
            · have h1 : c1 = false := by rw [HC1.out]; simp [u1]
              have H1 := Lib.hid h1
              clear h1
              go_wp2_with fail
              go_meet
              exact ⟨by rw [H1.out], rfl⟩
          case rest =>
            obtain ⟨rfl, rfl⟩ := hcut
            go_upto_if 185 with fail
            go_cut [185] (fun s185 wx => Hid (s185 = s185) ∧ Hid (DatR wx g (P ++ A.take (i - a) ++ B.take (mid - i) ++ (A.drop (i - a) ++ B.drop (mid - i) ++ R)) rest) ∧ Hid (w.grownBy wx (some g)))
            case first => as_aux_lemma =>
              cases c1
              · have hx : m ≤ i ∨ mid ≤ i := by
                  have h1 := of_decide_eq_false HC1.out.symm
                  have := HEN.out
                  omega
                have hd3 : DatR wr g (P ++ A.take (i - a) ++ B.take (mid - i) ++ (A.drop (i - a) ++ B.drop (mid - i) ++ R)) rest := by
                  have h2 := HD2.out
                  rcases hx with hx | hx
                  · have : A.drop (i - a) = [] := List.eq_nil_of_length_eq_zero (by have := LL.out.2.1; omega)
                    rw [this] at h2 ⊢
                    simpa only [List.append_assoc, List.append_nil, List.nil_append] using h2
                  · have : B.take (mid - i) = [] := List.eq_nil_of_length_eq_zero (by have := LL.out.2.2.1; omega)
                    rw [this] at h2 ⊢
                    simpa only [List.append_assoc, List.append_nil, List.nil_append] using h2
                have HD3 := Lib.hid hd3
                clear hd3 hx
                go_wp2_with fail
                go_meet
                exact ⟨rfl, HD3.out, hgr.out⟩
              · have hx : i < m ∧ m < en := of_decide_eq_true HC1.out.symm
                obtain ⟨x1, x2⟩ := hx
                have hcall := rotR_any q wr g n c i m en (P ++ A.take (i - a)) (A.drop (i - a)) (B.take (mid - i)) (B.drop (mid - i) ++ R) rest HD2.out
                  (by have := LL.out; have := HL.out; have := HA.out; have := HM.out; have := HB.out; have := HEN.out; simp only [List.length_append]; omega) (by omega)
                  (by have := LL.out; have := HA.out; rw [List.length_append]; omega) (by have := LL.out; have := HA.out; rw [List.length_append]; omega)
                  (by have := LL.out; have := HA.out; have := HEN.out; rw [List.length_append]; omega) (by have := LL.out; omega) (by have := LL.out; have := HEN.out; omega)
                have HC := Lib.hid hcall
                clear hcall
                go_wp2_with fail
                refine HC.out.mono ?_
                rintro e w1 ⟨rfl, hd1, hg1⟩
                have HD3 := Lib.hid hd1
                have HG3 := Lib.hid (hgr.out.trans hg1)
                clear hd1 hg1
                go_wp2_with fail
                go_meet
                exact ⟨rfl, (by show DatR _ _ _ _; have h2 := HD3.out; simpa only [List.append_assoc] using h2), HG3.out⟩
            case rest =>
              obtain ⟨-, hd1, hg1⟩ := hcut
              clear HC1 hgr HD2
              go_upto_region 41 with fail
              obtain ⟨c2, hc2⟩ : ∃ c2, c2 = decide (a < i ∧ i < mid) := ⟨_, rfl⟩
              have HC2 := Lib.hid hc2
              clear hc2
              go_cut [199] (fun s199 wx => s199 = .bool c2 ∧ wc = wx)
              case first => as_aux_lemma =>
                by_cases u1 : a < i
                · by_cases u2 : i < mid
                  · have h1 : c2 = true := by rw [HC2.out]; simp [u1, u2]
                    have H1 := Lib.hid h1
                    clear h1
                    go_wp2_with fail
                    go_meet
                    exact ⟨by rw [H1.out], rfl⟩
                  · have h1 : c2 = false := by rw [HC2.out]; simp [u2]
                    have H1 := Lib.hid h1
                    clear h1
                    go_wp2_with fail
                    go_meet
                    exact ⟨by rw [H1.out], rfl⟩
                · have h1 : c2 = false := by rw [HC2.out]; simp [u1]
                  have H1 := Lib.hid h1
                  clear h1
                  go_wp2_with fail
                  go_meet
                  exact ⟨by rw [H1.out], rfl⟩
              case rest =>
                obtain ⟨rfl, rfl⟩ := hcut
                go_upto_if 199 with fail
                go_cut [199] (fun s199 wx => Hid (s199 = s199) ∧ ∃ C1, Hid (Mrg (ltOR cmp) (A.take (i - a)) (B.take (mid - i)) C1) ∧ Hid (DatR wx g (P ++ C1 ++ (A.drop (i - a) ++ B.drop (mid - i) ++ R)) rest) ∧ Hid (w.grownBy wx (some g)))
                case first => as_aux_lemma =>
                  cases c2
                  · have hx : i ≤ a ∨ mid ≤ i := by
                      have h1 := of_decide_eq_false HC2.out.symm
                      omega
                    have hm1 : Mrg (ltOR cmp) (A.take (i - a)) (B.take (mid - i)) (A.take (i - a) ++ B.take (mid - i)) := by
                      rcases hx with hx | hx
                      · have : A.take (i - a) = [] := List.eq_nil_of_length_eq_zero (by have := LL.out.1; omega)
                        rw [this]
                        exact Mrg.nil_left (HSB.out.take _)
                      · have : B.take (mid - i) = [] := List.eq_nil_of_length_eq_zero (by have := LL.out.2.2.1; omega)
                        rw [this, List.append_nil]
                        exact Mrg.nil_right (HSA.out.take _)
                    have HM1 := Lib.hid hm1
                    clear hm1 hx
                    go_wp2_with fail
                    go_meet
                    exact ⟨rfl, _, HM1.out, (by show DatR _ _ _ _; have h2 := hd1.out; simpa only [List.append_assoc] using h2), hg1.out⟩
                  · have hx : a < i ∧ i < mid := of_decide_eq_true HC2.out.symm
                    obtain ⟨x1, x2⟩ := hx
                    have hcall := HIH.out wc a i mid P (A.take (i - a)) (B.take (mid - i)) (A.drop (i - a) ++ B.drop (mid - i) ++ R) (by have := LL.out; have := HF.out; have := HM.out; have := HB.out; omega) (by have := LL.out; omega) (by have := LL.out; omega) (HSA.out.take _) (HSB.out.take _) hd1.out
                      (by have := LL.out; have := HL.out; have := HA.out; have := HM.out; have := HB.out; have := HEN.out; simp only [List.length_append]; omega) HA.out (by have := LL.out; omega) (by have := LL.out; omega)
                    have HC := Lib.hid hcall
                    clear hcall
                    go_wp2_with fail
                    refine HC.out.mono ?_
                    rintro e w1 ⟨rfl, C1, hm1, hd2, hg2⟩
                    have HM1 := Lib.hid hm1
                    have HD3 := Lib.hid hd2
                    have HG3 := Lib.hid (hg1.out.trans hg2)
                    clear hm1 hd2 hg2
                    go_wp2_with fail
                    go_meet
                    exact ⟨rfl, C1, HM1.out, HD3.out, HG3.out⟩
                case rest =>
                  clear hd1 hg1 HC2
                  obtain ⟨-, C1, hm1, hd1, hg1⟩ := hcut
                  have lc1 : Hid (C1.length = mid - a) := by have := hm1.out.length; have := LL.out; show _ = _; omega
                  by_cases u1 : mid < en
                  · by_cases u2 : en < b
                    · as_aux_lemma =>
                      have hcall := HIH.out wc mid en b (P ++ C1) (A.drop (i - a)) (B.drop (mid - i)) R (by have := LL.out; have := HF.out; have := HM.out; have := HB.out; have := HEN.out; omega) (by have := LL.out; have := HEN.out; omega) (by have := LL.out; omega) (HSA.out.drop _) (HSB.out.drop _) (by have h2 := hd1.out; simpa only [List.append_assoc] using h2)
                        (by have := LL.out; have := HL.out; have := HA.out; have := HM.out; have := HB.out; have := HEN.out; have := lc1.out; simp only [List.length_append]; omega) (by have := lc1.out; have := HA.out; rw [List.length_append]; omega) (by have := LL.out; have := HEN.out; omega) (by have := LL.out; omega)
                      have HC := Lib.hid hcall
                      clear hcall
                      go_wp2_with fail
                      refine HC.out.mono ?_
                      rintro e w1 ⟨rfl, C2, hm2, hd2, hg2⟩
                      have HM2 := Lib.hid (HBO.out C1 C2 hm1.out hm2)
                      have HD3 := Lib.hid hd2
                      have HG3 := Lib.hid (hg1.out.trans hg2)
                      clear hm2 hd2 hg2
                      go_wp2_with fail
                      go_end0
                      exact ⟨rfl, _, HM2.out, (by have h2 := HD3.out; simpa only [List.append_assoc] using h2), HG3.out⟩
                    · as_aux_lemma =>
                      have hm2 : Mrg (ltOR cmp) A B (C1 ++ A.drop (i - a)) := by
                        have e : B.drop (mid - i) = [] := List.eq_nil_of_length_eq_zero (by have := LL.out; omega)
                        refine HBO.out _ _ hm1.out ?_
                        rw [e]
                        exact Mrg.nil_right (HSA.out.drop _)
                      have hd2 : DatR wc g (P ++ (C1 ++ A.drop (i - a)) ++ R) rest := by
                        have e : B.drop (mid - i) = [] := List.eq_nil_of_length_eq_zero (by have := LL.out; omega)
                        have h2 := hd1.out
                        rw [e] at h2
                        simpa only [List.append_assoc, List.nil_append] using h2
                      have HM2 := Lib.hid hm2
                      have HD3 := Lib.hid hd2
                      clear hm2 hd2
                      go_wp2_with fail
                      go_end0
                      exact ⟨rfl, _, HM2.out, HD3.out, hg1.out⟩
                  · as_aux_lemma =>
                    have e : A.drop (i - a) = [] := List.eq_nil_of_length_eq_zero (by have := LL.out; have := HEN.out; omega)
                    have hm2 : Mrg (ltOR cmp) A B (C1 ++ B.drop (mid - i)) := by
                      refine HBO.out _ _ hm1.out ?_
                      rw [e]
                      exact Mrg.nil_left (HSB.out.drop _)
                    have hd2 : DatR wc g (P ++ (C1 ++ B.drop (mid - i)) ++ R) rest := by
                      have h2 := hd1.out
                      rw [e] at h2
                      simpa only [List.append_assoc, List.nil_append] using h2
                    have HM2 := Lib.hid hm2
                    have HD3 := Lib.hid hd2
                    clear hm2 hd2 e
                    go_wp2_with fail
                    go_end0
                    exact ⟨rfl, _, HM2.out, HD3.out, hg1.out⟩
end Go.Proofs.Ytdpohibgipkhnaa
namespace Go.Proofs.Ytdpohibgipkhnaa
open Go.RowKit Go.Sort Go.Proofs.Ytdpohibgipkhnaa.St

set_option maxRecDepth 100000 in
set_option maxHeartbeats 6400000 in
theorem stbR_any (q : Nat) (cmp : ElR → ElR → Int) (hq : CmpR q cmp) (ho : St.SWO (ltOR cmp)) (w : World) (g n c : Nat) (L : List ElR) (rest : List Value) (h : DatR w g L rest) (hn : n = L.length) (hbig : n ≤ 1000000000000) :
    Calls Try.prog 129 #[.slice (some ⟨g, 0, none⟩) n c, .int .i64 n, .func (.func q) #[] #[]] w fun e w' => e = .returned (.tuple #[]) ∧ ∃ L', Sts (ltOR cmp) L L' ∧ DatR w' g L' rest ∧ w.grownBy w' (some g) := by
  have hpost : ∀ L' w', Srt (ltOR cmp) L' → Alk (ltOR cmp) L L' → DatR w' g L' rest → w.grownBy w' (some g) → ∃ L', Sts (ltOR cmp) L L' ∧ DatR w' g L' rest ∧ w.grownBy w' (some g) := fun L' w' h1 h2 h3 h4 => ⟨L', ⟨h1, h2⟩, h3, h4⟩
  have HPOST := Lib.hid hpost
  have HQ := Lib.hid hq
  have HO := Lib.hid ho
  have HN := Lib.hid hn
  have HH := Lib.hid h
  clear hn h hq ho hpost
  go_enter Try.func129, Try.ntmps129
  go_wp2_with fail
  go_loopg [7, 8] (n + 1) (fun gg s7 s8 wr => ∃ D U : List ElR, D.length ≤ n ∧ n - D.length + 1 ≤ gg ∧ s7 = .int .i64 D.length ∧ s8 = .int .i64 (D.length + 20 : Nat) ∧ Hid (Chk (ltOR cmp) 20 D) ∧ Hid (∃ k, D.length = k * 20) ∧ Hid (Alk (ltOR cmp) L (D ++ U)) ∧ Hid (DatR wr g (D ++ U) rest) ∧ Hid (w.grownBy wr (some g)))
  case atStart => exact ⟨[], L, Nat.zero_le _, Nat.le_refl _, rfl, rfl, Chk.nil _, ⟨0, by simp⟩, Alk.refl _, HH.out, World.grownBy.refl _ _⟩
  case round =>
    obtain ⟨D, U, hD, hg1, rfl, rfl, hch, hkk, hal, hd, hgr⟩ := hrel
    have hlen : D.length + U.length = n := by have := hal.out.1; rw [List.length_append] at this; have := HN.out; omega
    by_cases hlt : D.length + 20 ≤ n
    · have lS : (U.take 20).length = 20 := by rw [List.length_take]; omega
      have hcall := insR_any q cmp HQ.out HO.out wr g n c D.length (D.length + 20) D (U.take 20) (U.drop 20) rest (by have := hd.out; rwa [List.append_assoc, List.take_append_drop]) (by have := HN.out; simp; omega) (by omega) rfl (by omega)
      have HC := Lib.hid hcall
      have LS := Lib.hid lS
      clear hcall lS
      go_wp2_with fail
      refine HC.out.mono ?_
      rintro e w1 ⟨rfl, S', hs', hd1, hg2⟩
      have lS' : S'.length = 20 := by rw [← hs'.2.1, LS.out]
      have HCH : Hid (Chk (ltOR cmp) 20 (D ++ S')) := by obtain ⟨k, hk⟩ := hkk.out; exact hch.out.snoc hk hs'.1 (by omega)
      have HKK : Hid (∃ k, (D ++ S').length = k * 20) := by obtain ⟨k, hk⟩ := hkk.out; exact ⟨k + 1, by rw [List.length_append, lS', hk]; omega⟩
      have HAL : Hid (Alk (ltOR cmp) L ((D ++ S') ++ U.drop 20)) := by
        have h1 := ((Alk.refl (lt := ltOR cmp) D).app hs'.2).app (Alk.refl (U.drop 20))
        rw [List.append_assoc, List.take_append_drop] at h1
        exact hal.out.trans h1
      have HD1 := Lib.hid hd1
      have HG2 := Lib.hid (hgr.out.trans hg2)
      have HLS : Hid ((D ++ S').length = D.length + 20) := by show _ = _; rw [List.length_append, lS']
      clear hs' hd1 hg2 lS'
      go_wp2_with fail
      go_roundg (n - (D.length + 20) + 1)
      case measure => omega
      case rel => exact ⟨D ++ S', U.drop 20, by rw [HLS.out]; exact hlt, by rw [HLS.out]; exact Nat.le_refl _, by rw [HLS.out]; go_num, by rw [HLS.out]; go_num, HCH.out, HKK.out, HAL.out, HD1.out, HG2.out⟩
    · have hcall := insR_any q cmp HQ.out HO.out wr g n c D.length n D U [] rest (by have := hd.out; rwa [List.append_nil]) (by simp; omega) (by omega) rfl (by omega)
      have HC := Lib.hid hcall
      clear hcall
      go_wp2_with fail
      refine HC.out.mono ?_
      rintro e w1 ⟨rfl, S', hs', hd1, hg2⟩
      have lS' : S'.length = U.length := hs'.2.1.symm
      have HCH : Hid (Chk (ltOR cmp) 20 (D ++ S')) := by obtain ⟨k, hk⟩ := hkk.out; exact hch.out.snoc hk hs'.1 (by omega)
      have HAL : Hid (Alk (ltOR cmp) L (D ++ S')) := hal.out.trans ((Alk.refl (lt := ltOR cmp) D).app hs'.2)
      have HD1 : Hid (DatR w1 g (D ++ S') rest) := by show DatR _ _ _ _; rwa [List.append_nil] at hd1
      have HG2 := Lib.hid (hgr.out.trans hg2)
      have HLN : Hid ((D ++ S').length = n) := by show _ = _; rw [List.length_append, lS']; exact hlen
      obtain ⟨M, hM⟩ : ∃ M, M = D ++ S' := ⟨_, rfl⟩
      rw [← hM] at HCH HAL HD1 HLN
      clear hs' hd1 hg2 lS' hM hch hkk hal hd hgr hlt hD hg1 hlen
      go_wp2_with fail
      go_loopg [6] (n + 1) (fun gg s6 wr => ∃ (bs : Nat) (M : List ElR), 20 ≤ bs ∧ bs ≤ 2 * n + 20 ∧ n - bs + 1 ≤ gg ∧ s6 = .int .i64 bs ∧ Hid (Chk (ltOR cmp) bs M) ∧ Hid (Alk (ltOR cmp) L M) ∧ Hid (M.length = n) ∧ Hid (DatR wr g M rest) ∧ Hid (w.grownBy wr (some g)))
      case atStart => exact ⟨20, M, Nat.le_refl _, by omega, by omega, rfl, HCH.out, HAL.out, HLN.out, HD1.out, HG2.out⟩
      case round =>
        clear HCH HAL HLN HD1 HG2
        obtain ⟨bs, M, hb1, hb2, hgb, rfl, hch, hal, hln, hd, hgr⟩ := hrel
        by_cases hbn : bs < n
        · go_wp2_with fail
          go_loopg [7, 8] (n + 1) (fun gg s7 s8 wr => ∃ D U : List ElR, D.length ≤ n ∧ n - D.length + 1 ≤ gg ∧ s7 = .int .i64 D.length ∧ s8 = .int .i64 (D.length + 2 * bs : Nat) ∧ Hid (Chk (ltOR cmp) (2 * bs) D) ∧ Hid (∃ k, D.length = k * (2 * bs)) ∧ Hid (Chk (ltOR cmp) bs U) ∧ Hid (Alk (ltOR cmp) L (D ++ U)) ∧ Hid (DatR wr g (D ++ U) rest) ∧ Hid (w.grownBy wr (some g)))
          case atStart => exact ⟨[], M, Nat.zero_le _, Nat.le_refl _, rfl, by (first | rfl | simp | go_num), Chk.nil _, ⟨0, by simp⟩, hch, hal, hd, hgr⟩
          case round =>
            clear hch hal hln hd hgr
            obtain ⟨D, U, hD, hg1, rfl, rfl, hch, hkk, hcu, hal, hd, hgr⟩ := hrel
            have hlen : D.length + U.length = n := by have := hal.out.1; rw [List.length_append] at this; have := HN.out; omega
            by_cases hlt : D.length + 2 * bs ≤ n
            · have lA : (U.take bs).length = bs := by rw [List.length_take]; omega
              have lB : ((U.drop bs).take bs).length = bs := by rw [List.length_take, List.length_drop]; omega
              have eU : U = U.take bs ++ ((U.drop bs).take bs ++ (U.drop bs).drop bs) := by rw [List.take_append_drop, List.take_append_drop]
              have hcall := symR_any q cmp HQ.out HO.out g n c rest (by omega) (bs + bs) wr D.length (D.length + bs) (D.length + 2 * bs) D (U.take bs) ((U.drop bs).take bs) ((U.drop bs).drop bs) (by omega) (by omega) (by omega) hcu.out.head hcu.out.drop.head
                (by have := hd.out; rw [eU] at this; simpa only [List.append_assoc] using this) (by have h1 := congrArg List.length eU; simp only [List.length_append] at h1 ⊢; omega) rfl (by omega) (by omega)
              have e1 : ((D.length + bs : Nat) : Int) = (D.length : Int) + (bs : Int) := by omega
              rw [e1] at hcall
              have HC := Lib.hid hcall
              have LAB := Lib.hid (And.intro lA (And.intro lB eU))
              clear hcall lA lB eU e1
              go_wp2_with fail
              refine HC.out.mono ?_
              rintro e w1 ⟨rfl, C, hm, hd1, hg2⟩
              have lC : C.length = 2 * bs := by have := hm.length; have := LAB.out; omega
              have HCH : Hid (Chk (ltOR cmp) (2 * bs) (D ++ C)) := by obtain ⟨k, hk⟩ := hkk.out; exact hch.out.snoc hk hm.1 (by omega)
              have HKK : Hid (∃ k, (D ++ C).length = k * (2 * bs)) := by obtain ⟨k, hk⟩ := hkk.out; exact ⟨k + 1, by rw [List.length_append, lC, hk, Nat.add_mul, Nat.one_mul]⟩
              have HAL : Hid (Alk (ltOR cmp) L ((D ++ C) ++ (U.drop bs).drop bs)) := by
                have h1 := ((Alk.refl (lt := ltOR cmp) D).app hm.2).app (Alk.refl ((U.drop bs).drop bs))
                have h2 : D ++ (U.take bs ++ (U.drop bs).take bs) ++ (U.drop bs).drop bs = D ++ U := by
                  rw [List.append_assoc, List.append_assoc, ← LAB.out.2.2]
                rw [h2] at h1
                exact hal.out.trans h1
              have HCU : Hid (Chk (ltOR cmp) bs ((U.drop bs).drop bs)) := hcu.out.drop.drop
              have HD1 := Lib.hid hd1
              have HG2 := Lib.hid (hgr.out.trans hg2)
              have HLS : Hid ((D ++ C).length = D.length + 2 * bs) := by show _ = _; rw [List.length_append, lC]
              clear hm hd1 hg2 lC
              go_wp2_with fail
              go_roundg (n - (D.length + 2 * bs) + 1)
              case measure => omega
              case rel => exact ⟨D ++ C, (U.drop bs).drop bs, by rw [HLS.out]; exact hlt, by rw [HLS.out]; exact Nat.le_refl _, by rw [HLS.out]; go_num, by rw [HLS.out]; go_num, HCH.out, HKK.out, HCU.out, HAL.out, HD1.out, HG2.out⟩
            · by_cases hlt2 : D.length + bs < n
              · have lA : (U.take bs).length = bs := by rw [List.length_take]; omega
                have lB : (U.drop bs).length = n - (D.length + bs) := by rw [List.length_drop]; omega
                have hsB : Srt (ltOR cmp) (U.drop bs) := hcu.out.drop.all (by omega)
                have hcall := symR_any q cmp HQ.out HO.out g n c rest (by omega) n wr D.length (D.length + bs) n D (U.take bs) (U.drop bs) [] (by omega) (by omega) (by omega) hcu.out.head hsB
                  (by have := hd.out; rw [List.append_nil, List.append_assoc, List.take_append_drop]; exact this) (by simp only [List.length_append, List.length_nil]; omega) rfl (by omega) (by omega)
                have e1 : ((D.length + bs : Nat) : Int) = (D.length : Int) + (bs : Int) := by omega
                rw [e1] at hcall
                have HC := Lib.hid hcall
                have LAB := Lib.hid (And.intro lA lB)
                clear hcall lA lB e1 hsB
                go_wp2_with fail
                refine HC.out.mono ?_
                rintro e w1 ⟨rfl, C, hm, hd1, hg2⟩
                have lC : C.length = n - D.length := by have := hm.length; have := LAB.out; omega
                have HCH : Hid (Chk (ltOR cmp) (2 * bs) (D ++ C)) := by obtain ⟨k, hk⟩ := hkk.out; exact hch.out.snoc hk hm.1 (by omega)
                have HAL : Hid (Alk (ltOR cmp) L (D ++ C)) := by
                  have h1 := (Alk.refl (lt := ltOR cmp) D).app hm.2
                  rw [List.take_append_drop] at h1
                  exact hal.out.trans h1
                have HD1 : Hid (DatR w1 g (D ++ C) rest) := by show DatR _ _ _ _; rwa [List.append_nil] at hd1
                have HG2 := Lib.hid (hgr.out.trans hg2)
                have HLS : Hid ((D ++ C).length = n) := by show _ = _; rw [List.length_append, lC]; omega
                clear hm hd1 hg2 lC
                go_wp2_with fail
                go_roundg (n - 2 * bs + 1)
                case measure => omega
                case rel => exact ⟨2 * bs, D ++ C, by omega, by omega, Nat.le_refl _, by go_num, HCH.out, HAL.out, HLS.out, HD1.out, HG2.out⟩
              · have HCH : Hid (Chk (ltOR cmp) (2 * bs) (D ++ U)) := by obtain ⟨k, hk⟩ := hkk.out; exact hch.out.snoc hk (hcu.out.all (by omega)) (by omega)
                have HLS : Hid ((D ++ U).length = n) := by show _ = _; rw [List.length_append]; exact hlen
                go_wp2_with fail
                go_roundg (n - 2 * bs + 1)
                case measure => omega
                case rel => exact ⟨2 * bs, D ++ U, by omega, by omega, Nat.le_refl _, by go_num, HCH.out, hal.out, HLS.out, hd.out, hgr.out⟩
        · have hsrt := hch.out.all (by have := hln.out; omega)
          have HSR := Lib.hid hsrt
          clear hsrt
          go_wp2_with fail
          go_end0
          exact ⟨rfl, HPOST.out _ _ HSR.out hal.out hd.out hgr.out⟩

set_option maxRecDepth 100000 in
set_option maxHeartbeats 1600000 in
theorem ssfR_any (q : Nat) (cmp : ElR → ElR → Int) (hq : CmpR q cmp) (ho : St.SWO (ltOR cmp)) (w : World) (g n c : Nat) (L : List ElR) (rest : List Value) (h : DatR w g L rest) (hn : n = L.length) (hbig : n ≤ 1000000000000) :
    Calls Try.prog 113 #[.slice (some ⟨g, 0, none⟩) n c, .func (.func q) #[] #[]] w fun e w' => e = .returned (.tuple #[]) ∧ ∃ L', Sts (ltOR cmp) L L' ∧ DatR w' g L' rest ∧ w.grownBy w' (some g) := by
  have HC := Lib.hid (stbR_any q cmp hq ho w g n c L rest h hn hbig)
  clear h hn hq ho
  go_enter Try.func113, Try.ntmps113
  go_wp2_with fail
  refine HC.out.mono ?_
  rintro e w1 ⟨rfl, L', h1, h2, h3⟩
  have H := Lib.hid (And.intro h1 (And.intro h2 h3))
  clear h1 h2 h3
  go_wp2_with fail
  go_end0
  exact ⟨rfl, L', H.out⟩
set_option maxRecDepth 100000 in
set_option maxHeartbeats 1600000 in
theorem insR_nil (q : Nat) (w : World) : Calls Try.prog 150 #[.slice none 0 0, .int .i64 0, .int .i64 0, .func (.func q) #[] #[]] w fun e w' => e = .returned (.tuple #[]) ∧ w' = w := by
  go_enter Try.func150, Try.ntmps150
  go_wp2_with fail
  go_loop [8] (fun i => i = .int .i64 1) (fun _ => 0)
  case atStart => rfl
  case round =>
    obtain rfl := hrel
    go_wp2_with fail
    go_end0
    exact ⟨rfl, rfl⟩
set_option maxRecDepth 100000 in
set_option maxHeartbeats 1600000 in
theorem stbR_nil (q : Nat) (w : World) : Calls Try.prog 129 #[.slice none 0 0, .int .i64 0, .func (.func q) #[] #[]] w fun e w' => e = .returned (.tuple #[]) ∧ w' = w := by
  go_enter Try.func129, Try.ntmps129
  go_wp2_with fail
  go_loop [7, 8] (fun i j => i = .int .i64 0 ∧ j = .int .i64 20) (fun _ _ => 0)
  case atStart => exact ⟨rfl, rfl⟩
  case round =>
    obtain ⟨rfl, rfl⟩ := hrel
    go_wp2_with fail
    refine (insR_nil q w).mono ?_
    rintro e w1 ⟨rfl, rfl⟩
    go_wp2_with fail
    go_loop [6] (fun i => i = .int .i64 20) (fun _ => 0)
    case atStart => rfl
    case round =>
      obtain rfl := hrel
      go_wp2_with fail
      go_end0
      exact ⟨rfl, rfl⟩
set_option maxRecDepth 100000 in
set_option maxHeartbeats 1600000 in
/-- .. of a nil slice. -/
theorem ssfR_nil (q : Nat) (w : World) :
    Calls Try.prog 113 #[.slice none 0 0, .func (.func q) #[] #[]] w fun e w' => e = .returned (.tuple #[]) ∧ w' = w := by
  go_enter Try.func113, Try.ntmps113
  go_wp2_with fail
  refine (stbR_nil q w).mono ?_
  rintro e w1 ⟨rfl, rfl⟩
  go_wp2_with fail
  go_end0
  exact ⟨rfl, rfl⟩
end Go.Proofs.Ytdpohibgipkhnaa
