/-
  A STABLE SORT OF A ROW OF STRUCTS (api.Field): the walk of symMerge.
  PLAIN: a list whose blocks are sorted.
  A STABLE SORT OF A ROW OF STRUCTS (api.Field): the walks of stable and of SortStableFunc.
  PLAIN: texts in their order; fields by their names.
  PLAIN: when two lists of fields in one form are the same: sorted they are one list, just where each has the fields of a name that the other has.
  THE SHELF's CONTRACTS OF strings.Compare AND cmp.Compare[int] AT THIS SEAT's TRANSLATION, in plain declarations (written by the kit's lay-plain.mjs).
  THE WALKS of canon.sorted and canon.Same.
  THE WALK of the document's Fields.
  THE WALKS of canon.Lines, and of the document's Lines and Same.
  THE WALK of the document's Same (layer 50).
  THE WALK of CanonFields.
  PLAIN: neighbours of unlike names change places, a field stands twice, or once with both values: in one form the same.
-/
import Derived.Test.YtdpohibgipkhnaaCsM4
import Derived.Deep.DeepCutAuto
import Derived.Lib.Bytealg
import Derived.Shelf.Small.Strs
import Derived.Shelf.Small.Wraps
import Derived.Test.YtdpohibgipkhnaaProg
import Derived.Deep.AppendLies
namespace Go.Proofs.Ytdpohibgipkhnaa
open Go.RowKit Go.Sort Go.Proofs.Ytdpohibgipkhnaa.St

set_option maxRecDepth 100000 in
set_option maxHeartbeats 6400000 in
theorem symF_any (q : Nat) (cmp : ElF → ElF → Int) (hq : CmpF q cmp) (ho : St.SWO (ltOF cmp)) (g n c : Nat) (rest : List Value) (hbig : n ≤ 2305843009213693952) : ∀ (f : Nat) (w : World) (a m b : Nat) (P A B R : List ElF), A.length + B.length ≤ f → 1 ≤ A.length → 1 ≤ B.length → Srt (ltOF cmp) A → Srt (ltOF cmp) B → DatF w g (P ++ A ++ B ++ R) rest → n = (P ++ A ++ B ++ R).length →
    a = P.length → m = a + A.length → b = m + B.length →
    Calls Try.prog 134 #[.slice (some ⟨g, 0, none⟩) n c, .int .i64 a, .int .i64 m, .int .i64 b, .func (.func q) #[] #[]] w (SymPostF cmp w g P A B R rest) := by
  intro f
  induction f with
  | zero => intro w a m b P A B R h1 h2; omega
  | succ f ih =>
    intro w a m b P A B R hf hA1 hB1 hsA hsB h hn ha hm hb
    by_cases hA2 : A.length = 1
    · obtain ⟨⟨x1, x2⟩, rfl⟩ := List.length_eq_one_iff.1 hA2
      exact symF_one q cmp hq ho w g n c a m b P B R x1 x2 rest h hn (by omega) ha (by simpa using hm) hb hsB
    by_cases hB2 : B.length = 1
    · obtain ⟨⟨x1, x2⟩, rfl⟩ := List.length_eq_one_iff.1 hB2
      exact symF_last q cmp hq ho w g n c a m b P A R x1 x2 rest h hn (by omega) ha hm (by simpa using hb) (by omega) hsA
    have hlen : n = P.length + A.length + B.length + R.length := by simp at hn; omega
    obtain ⟨mid, hmid⟩ : ∃ mid, mid = (a + b) / 2 := ⟨_, rfl⟩
    obtain ⟨lo, hlo⟩ : ∃ lo, lo = if mid < m then mid + m - b else a := ⟨_, rfl⟩
    obtain ⟨hi, hhi⟩ : ∃ hi, hi = if mid < m then mid else m := ⟨_, rfl⟩
    obtain ⟨pp, hpp⟩ : ∃ pp, pp = mid + m - 1 := ⟨_, rfl⟩
    have z1 : a + 2 ≤ m := by omega
    have z2 : m + 2 ≤ b := by omega
    have z3 : b ≤ n := by omega
    have z4 : a < mid := by omega
    have z5 : mid < b := by omega
    have q1 : a ≤ lo := by rw [hlo]; split <;> omega
    have q2 : mid + m ≤ lo + b := by rw [hlo]; split <;> omega
    have q3 : lo = a ∨ lo + b = mid + m := by rw [hlo]; split <;> omega
    have q4 : hi ≤ mid := by rw [hhi]; split <;> omega
    have q5 : hi ≤ m := by rw [hhi]; split <;> omega
    have q6 : hi = mid ∨ hi = m := by rw [hhi]; split <;> omega
    have q7 : lo ≤ hi := by rw [hhi, hlo]; split <;> omega
    have e1 : ((a : Int) + (b : Int)) / 2 = (mid : Int) := by omega
    have e2 : (mid : Int) + (m : Int) - 1 = (pp : Int) := by omega
    have e3 : ((m : Int) - (a : Int) == 1) = false := by simp; omega
    have e4 : ((b : Int) - (m : Int) == 1) = false := by simp; omega
    have E1 := Lib.hid (And.intro e1 (And.intro e2 (And.intro e3 e4)))
    have Q3 := Lib.hid (And.intro q3 q6)
    have HMD := Lib.hid hmid
    have HLO := Lib.hid hlo
    have HHI := Lib.hid hhi
    have HPP := Lib.hid hpp
    have HQ := Lib.hid hq
    have HO := Lib.hid ho
    have HL := Lib.hid hlen
    have HN := Lib.hid hn
    have HA := Lib.hid ha
    have HM := Lib.hid hm
    have HB := Lib.hid hb
    have HSA := Lib.hid hsA
    have HSB := Lib.hid hsB
    have HH := Lib.hid h
    have HIH := Lib.hid ih
    have HF := Lib.hid hf
    have hen := hq.enter
    clear hlen hn ha hb h hsA hsB hm hmid hlo hhi hpp e1 e2 e3 e4 q3 q6 ih hf hA2 hB2 hA1 hB1
    go_enter Try.func134, Try.ntmps134
    obtain ⟨e1, e2, e3, e4⟩ := E1.out
    go_upto_if 140 with fail
    clear e3 e4 e1
    go_cut [20, 21] (fun s20 s21 wx => s20 = .int .i64 lo ∧ s21 = .int .i64 hi ∧ w = wx)
    case first => as_aux_lemma =>
      by_cases hmm : mid < m
      · have l1 : (mid : Int) + (m : Int) - (b : Int) = (lo : Int) := by have h9 := HLO.out; have h8 := HMD.out; rw [if_pos hmm] at h9; omega
        have l2 : hi = mid := by have := HHI.out; rw [if_pos hmm] at this; exact this
        have L2 := Lib.hid l2
        clear l2
        go_wp2_with fail
        go_meet
        exact ⟨rfl, by rw [L2.out], rfl⟩
      · have l1 : lo = a := by have := HLO.out; rw [if_neg hmm] at this; exact this
        have l2 : hi = m := by have := HHI.out; rw [if_neg hmm] at this; exact this
        have L2 := Lib.hid (And.intro l1 l2)
        clear l1 l2
        go_wp2_with fail
        go_meet
        exact ⟨by rw [L2.out.1], by rw [L2.out.2], rfl⟩
    case rest =>
      obtain ⟨rfl, rfl, rfl⟩ := hcut
      go_wp2_with fail
      clear e2
      have zpp : pp < n + n := by have := HPP.out; omega
      go_loopg [20, 21] (b + 1) (fun gg s20 s21 wr => ∃ i j : Nat, lo ≤ i ∧ i ≤ j ∧ j ≤ hi ∧ j - i + 1 ≤ gg ∧ s20 = .int .i64 i ∧ s21 = .int .i64 j ∧ Hid (lo < i → ∀ x y, B[mid - i]? = some y → A[i - 1 - a]? = some x → ltOF cmp y x = false) ∧ Hid (j < hi → ∀ x y, B[mid - 1 - j]? = some y → A[j - a]? = some x → ltOF cmp y x = true) ∧ Hid (DatF wr g (P ++ A ++ B ++ R) rest) ∧ Hid (w.grownBy wr (some g)))
      case atStart => exact ⟨lo, hi, Nat.le_refl _, q7, Nat.le_refl _, by omega, rfl, rfl, (fun h => absurd h (Nat.lt_irrefl _)), (fun h => absurd h (Nat.lt_irrefl _)), HH.out, World.grownBy.refl _ _⟩
      case round =>
        obtain ⟨i, j, hi1, hij, hj, hg, rfl, rfl, hlo, hhi, hd, hgr⟩ := hrel
        by_cases hlt : i < j
        · obtain ⟨k, hk⟩ : ∃ k, k = (i + j) / 2 := ⟨_, rfl⟩
          obtain ⟨d, hd0⟩ : ∃ d, d = pp - k := ⟨_, rfl⟩
          have k1 : i ≤ k := by omega
          have k2 : k < j := by omega
          have d1 : m ≤ d := by have := HPP.out; omega
          have d2 : d < b := by have := HPP.out; omega
          have kat := at_foreF P A B R k (by have := HA.out; omega) (by have := HA.out; have := HM.out; omega)
          have kA : k - a < A.length := by have := HM.out; omega
          rw [show k - P.length = k - a by have := HA.out; omega, List.getElem?_eq_getElem kA] at kat
          obtain ⟨⟨x1, x2⟩, hx⟩ : ∃ x, x = A[k - a] := ⟨_, rfl⟩
          rw [← hx] at kat
          have dat := at_midF P A B R d (by have := HA.out; have := HM.out; omega) (by have := HA.out; have := HM.out; have := HB.out; omega)
          have dB : d - m < B.length := by have := HB.out; omega
          rw [show d - (P.length + A.length) = d - m by have := HA.out; have := HM.out; omega, List.getElem?_eq_getElem dB] at dat
          obtain ⟨⟨y1, y2⟩, hy⟩ : ∃ y, y = B[d - m] := ⟨_, rfl⟩
          rw [← hy] at dat
          have HX : Hid (A[k - a]? = some (x1, x2)) := by show _ = _; rw [hx]; exact List.getElem?_eq_getElem kA
          have HY : Hid (B[mid - 1 - k]? = some (y1, y2)) := by show _ = _; rw [hy, show mid - 1 - k = d - m by have := HPP.out; omega]; exact List.getElem?_eq_getElem dB
          obtain ⟨c11, c12⟩ := hd.out.at_ _ _ kat
          obtain ⟨c21, c22⟩ := hd.out.at_ _ _ dat
          simp only at c11 c12 c21 c22
          have hcmp := HQ.out.call y1 y2 x1 x2
          have qc1 := cell_regrown c11
          have qc2 := cell_regrown c12
          have qc3 := cell_regrown c21
          have qc4 := cell_regrown c22
          have cL : ∀ d os, Calls Try.prog q #[.agg #[.string y1, .string y2], .agg #[.string x1, .string x2]] (grow (redrawn wr d) os) fun e w'' => e = .returned (.int .i64 (cmp (y1, y2) (x1, x2))) ∧ ∃ p : Regrown, w'' = grow (redrawn wr p.d) p.os := fun d os => Calls.regrown_of (hcmp _)
          have hk2 : ((i : Int) + (j : Int)) / 2 = (k : Int) := by omega
          have hd3 : IntKind.i64.wrap (d : Int) = (d : Int) := IntWalk.i64_in _ (by omega)
          have hd4 : (pp : Int) - (k : Int) = (d : Int) := by omega
          have k3 : k < n := by omega
          have d3 : d < n := by omega
          have HK := Lib.hid (And.intro hk hd0)
          clear hk kat dat hx hy c11 c12 c21 c22 hcmp hd0
          cases hlt2 : ltOF cmp (y1, y2) (x1, x2)
          · as_aux_lemma =>
            have hno : decide (cmp (y1, y2) (x1, x2) < 0) = false := hlt2
            have HLT := Lib.hid hlt2
            clear hlt2
            go_wp2_with fail
            refine wp_region_quiet_below (by kernel_rfl) (by kernel_rfl) ?_
            repeat (quiet_step (exact cL _ _))
            refine wpQuiet_nil ?_
            intro wq hw'
            obtain ⟨⟨dq, osq⟩, hw''⟩ := hw'
            have hbl := below_regrown wr dq osq
            rw [← hw''] at hbl
            clear hw''
            have HG2 := Lib.hid (hgr.out.trans (below_grownF hbl (some g)))
            have HDr := Lib.hid (hd.out.below hbl)
            clear qc1 qc2 qc3 qc4 cL hk2 hbl hd3 hd4
            go_wp2_with fail
            go_roundg (j - (k + 1) + 1)
            case measure => omega
            case rel => exact ⟨k + 1, j, by omega, by omega, hj, Nat.le_refl _, by go_num, rfl, (fun _ x y hy hx => by rw [show mid - (k + 1) = mid - 1 - k by omega, HY.out] at hy; rw [show k + 1 - 1 - a = k - a by omega, HX.out] at hx; injection hy with hy; injection hx with hx; subst hy; subst hx; exact HLT.out), hhi, HDr.out, HG2.out⟩
          · as_aux_lemma =>
            have hyes : decide (cmp (y1, y2) (x1, x2) < 0) = true := hlt2
            have HLT := Lib.hid hlt2
            clear hlt2
            go_wp2_with fail
            refine wp_region_quiet_below (by kernel_rfl) (by kernel_rfl) ?_
            repeat (quiet_step (exact cL _ _))
            refine wpQuiet_nil ?_
            intro wq hw'
            obtain ⟨⟨dq, osq⟩, hw''⟩ := hw'
            have hbl := below_regrown wr dq osq
            rw [← hw''] at hbl
            clear hw''
            have HG2 := Lib.hid (hgr.out.trans (below_grownF hbl (some g)))
            have HDr := Lib.hid (hd.out.below hbl)
            clear qc1 qc2 qc3 qc4 cL hk2 hbl hd3 hd4
            go_wp2_with fail
            go_roundg (k - i + 1)
            case measure => omega
            case rel => exact ⟨i, k, hi1, k1, by omega, by omega, rfl, rfl, hlo, (fun _ x y hy hx => by rw [HY.out] at hy; rw [HX.out] at hx; injection hy with hy; injection hx with hx; subst hy; subst hx; exact HLT.out), HDr.out, HG2.out⟩
        · obtain rfl : i = j := by omega
          obtain ⟨en, hen2⟩ : ∃ en, en = mid + m - i := ⟨_, rfl⟩
          have y1 : (mid : Int) + (m : Int) - (i : Int) = (en : Int) := by omega
          have t1 : m ≤ en := by omega
          have t2 : mid ≤ en := by omega
          have t3 : en ≤ b := by omega
          have t4 : en ≤ n := by omega
          have t5 : i ≤ m := by omega
          have t6 : i ≤ mid := by omega
          have t7 : a ≤ i := by omega
          have la : (A.take (i - a)).length = i - a := by have := HM.out; simp; omega
          have la2 : (A.drop (i - a)).length = m - i := by have := HM.out; simp; omega
          have lb : (B.take (mid - i)).length = mid - i := by have := HB.out; simp; omega
          have lb2 : (B.drop (mid - i)).length = b - en := by have := HB.out; simp; omega
          have hboth : ∀ C1 C2, Mrg (ltOF cmp) (A.take (i - a)) (B.take (mid - i)) C1 → Mrg (ltOF cmp) (A.drop (i - a)) (B.drop (mid - i)) C2 → Mrg (ltOF cmp) A B (C1 ++ C2) := by
            intro C1 C2 m1 m2
            have ek : mid - i = (mid - a) - (i - a) := by omega
            rw [ek] at m1 m2
            refine Mrg.both HO.out HSA.out HSB.out (mid - a) (i - a) (by have := HM.out; omega) (by have := HB.out; omega) ?_ ?_ m1 m2
            · intro u1 u2 u3
              have v1 : lo < i := by have := Q3.out; have := HB.out; omega
              refine hlo.out v1 _ _ ?_ ?_
              · exact (show B[mid - i]? = B[mid - a - (i - a)]? by rw [← ek]).trans (List.getElem?_eq_getElem u2)
              · exact (show A[i - 1 - a]? = A[i - a - 1]? by rw [show i - 1 - a = i - a - 1 by omega]).trans (List.getElem?_eq_getElem u1)
            · intro u1 u2 u3
              have v1 : i < hi := by have := Q3.out; have := HM.out; omega
              refine hhi.out v1 _ _ ?_ ?_
              · exact (show B[mid - 1 - i]? = B[mid - a - 1 - (i - a)]? by rw [show mid - 1 - i = mid - a - 1 - (i - a) by omega]).trans (List.getElem?_eq_getElem u2)
              · exact List.getElem?_eq_getElem u1
          have HBO := Lib.hid hboth
          have hd2 : DatF wr g ((P ++ A.take (i - a)) ++ A.drop (i - a) ++ B.take (mid - i) ++ (B.drop (mid - i) ++ R)) rest := by
            have := hd.out
            rw [← List.take_append_drop (i - a) A, ← List.take_append_drop (mid - i) B] at this
            simpa only [List.append_assoc] using this
          have HD2 := Lib.hid hd2
          have HEN := Lib.hid hen2
          have LL := Lib.hid (And.intro la (And.intro la2 (And.intro lb lb2)))
          clear hboth hd2 hd hlo hhi hen2 la la2 lb lb2
          go_upto_region 39 with fail
          clear y1
          obtain ⟨c1, hc1⟩ : ∃ c1, c1 = decide (i < m ∧ m < en) := ⟨_, rfl⟩
          have HC1 := Lib.hid hc1
          clear hc1
          go_cut [185] (fun s185 wx => s185 = .bool c1 ∧ wr = wx)
          case first => as_aux_lemma =>
            by_cases u1 : i < m
            · by_cases u2 : m < en
              · have h1 : c1 = true := by rw [HC1.out]; simp [u1, u2]
                have H1 := Lib.hid h1
                clear h1
                go_wp2_with fail
                go_meet
                exact ⟨by rw [H1.out], rfl⟩
              · have h1 : c1 = false := by rw [HC1.out]; simp [u2]
                have H1 := Lib.hid h1
                clear h1
                go_wp2_with fail
                go_meet
                exact ⟨by rw [H1.out], rfl⟩
            · have h1 : c1 = false := by rw [HC1.out]; simp [u1]
              have H1 := Lib.hid h1
              clear h1
              go_wp2_with fail
              go_meet
              exact ⟨by rw [H1.out], rfl⟩
          case rest =>
            obtain ⟨rfl, rfl⟩ := hcut
            go_upto_if 185 with fail
            go_cut [185] (fun s185 wx => Hid (s185 = s185) ∧ Hid (DatF wx g (P ++ A.take (i - a) ++ B.take (mid - i) ++ (A.drop (i - a) ++ B.drop (mid - i) ++ R)) rest) ∧ Hid (w.grownBy wx (some g)))
            case first => as_aux_lemma =>
              cases c1
              · have hx : m ≤ i ∨ mid ≤ i := by
                  have h1 := of_decide_eq_false HC1.out.symm
                  have := HEN.out
                  omega
                have hd3 : DatF wr g (P ++ A.take (i - a) ++ B.take (mid - i) ++ (A.drop (i - a) ++ B.drop (mid - i) ++ R)) rest := by
                  have h2 := HD2.out
                  rcases hx with hx | hx
                  · have : A.drop (i - a) = [] := List.eq_nil_of_length_eq_zero (by have := LL.out.2.1; omega)
                    rw [this] at h2 ⊢
                    simpa only [List.append_assoc, List.append_nil, List.nil_append] using h2
                  · have : B.take (mid - i) = [] := List.eq_nil_of_length_eq_zero (by have := LL.out.2.2.1; omega)
                    rw [this] at h2 ⊢
                    simpa only [List.append_assoc, List.append_nil, List.nil_append] using h2
                have HD3 := Lib.hid hd3
                clear hd3 hx
                go_wp2_with fail
                go_meet
                exact ⟨rfl, HD3.out, hgr.out⟩
              · have hx : i < m ∧ m < en := of_decide_eq_true HC1.out.symm
                obtain ⟨x1, x2⟩ := hx
                have hcall := rotF_any q wr g n c i m en (P ++ A.take (i - a)) (A.drop (i - a)) (B.take (mid - i)) (B.drop (mid - i) ++ R) rest HD2.out
                  (by have := LL.out; have := HL.out; have := HA.out; have := HM.out; have := HB.out; have := HEN.out; simp only [List.length_append]; omega) (by omega)
                  (by have := LL.out; have := HA.out; rw [List.length_append]; omega) (by have := LL.out; have := HA.out; rw [List.length_append]; omega)
                  (by have := LL.out; have := HA.out; have := HEN.out; rw [List.length_append]; omega) (by have := LL.out; omega) (by have := LL.out; have := HEN.out; omega)
                have HC := Lib.hid hcall
                clear hcall
                go_wp2_with fail
                refine HC.out.mono ?_
                rintro e w1 ⟨rfl, hd1, hg1⟩
                have HD3 := Lib.hid hd1
                have HG3 := Lib.hid (hgr.out.trans hg1)
                clear hd1 hg1
                go_wp2_with fail
                go_meet
                exact ⟨rfl, (by show DatF _ _ _ _; have h2 := HD3.out; simpa only [List.append_assoc] using h2), HG3.out⟩
            case rest =>
              obtain ⟨-, hd1, hg1⟩ := hcut
              clear HC1 hgr HD2
              go_upto_region 41 with fail
              obtain ⟨c2, hc2⟩ : ∃ c2, c2 = decide (a < i ∧ i < mid) := ⟨_, rfl⟩
              have HC2 := Lib.hid hc2
              clear hc2
              go_cut [199] (fun s199 wx => s199 = .bool c2 ∧ wc = wx)
              case first => as_aux_lemma =>
                by_cases u1 : a < i
                · by_cases u2 : i < mid
                  · have h1 : c2 = true := by rw [HC2.out]; simp [u1, u2]
                    have H1 := Lib.hid h1
                    clear h1
                    go_wp2_with fail
                    go_meet
                    exact ⟨by rw [H1.out], rfl⟩
                  · have h1 : c2 = false := by rw [HC2.out]; simp [u2]
                    have H1 := Lib.hid h1
                    clear h1
                    go_wp2_with fail
                    go_meet
                    exact ⟨by rw [H1.out], rfl⟩
                · have h1 : c2 = false := by rw [HC2.out]; simp [u1]
                  have H1 := Lib.hid h1
                  clear h1
                  go_wp2_with fail
                  go_meet
                  exact ⟨by rw [H1.out], rfl⟩
              case rest =>
                obtain ⟨rfl, rfl⟩ := hcut
                go_upto_if 199 with fail
                go_cut [199] (fun s199 wx => Hid (s199 = s199) ∧ ∃ C1, Hid (Mrg (ltOF cmp) (A.take (i - a)) (B.take (mid - i)) C1) ∧ Hid (DatF wx g (P ++ C1 ++ (A.drop (i - a) ++ B.drop (mid - i) ++ R)) rest) ∧ Hid (w.grownBy wx (some g)))
                case first => as_aux_lemma =>
                  cases c2
                  · have hx : i ≤ a ∨ mid ≤ i := by
                      have h1 := of_decide_eq_false HC2.out.symm
                      omega
                    have hm1 : Mrg (ltOF cmp) (A.take (i - a)) (B.take (mid - i)) (A.take (i - a) ++ B.take (mid - i)) := by
                      rcases hx with hx | hx
                      · have : A.take (i - a) = [] := List.eq_nil_of_length_eq_zero (by have := LL.out.1; omega)
                        rw [this]
                        exact Mrg.nil_left (HSB.out.take _)
                      · have : B.take (mid - i) = [] := List.eq_nil_of_length_eq_zero (by have := LL.out.2.2.1; omega)
                        rw [this, List.append_nil]
                        exact Mrg.nil_right (HSA.out.take _)
                    have HM1 := Lib.hid hm1
                    clear hm1 hx
                    go_wp2_with fail
                    go_meet
                    exact ⟨rfl, _, HM1.out, (by show DatF _ _ _ _; have h2 := hd1.out; simpa only [List.append_assoc] using h2), hg1.out⟩
                  · have hx : a < i ∧ i < mid := of_decide_eq_true HC2.out.symm
                    obtain ⟨x1, x2⟩ := hx
                    have hcall := HIH.out wc a i mid P (A.take (i - a)) (B.take (mid - i)) (A.drop (i - a) ++ B.drop (mid - i) ++ R) (by have := LL.out; have := HF.out; have := HM.out; have := HB.out; omega) (by have := LL.out; omega) (by have := LL.out; omega) (HSA.out.take _) (HSB.out.take _) hd1.out
                      (by have := LL.out; have := HL.out; have := HA.out; have := HM.out; have := HB.out; have := HEN.out; simp only [List.length_append]; omega) HA.out (by have := LL.out; omega) (by have := LL.out; omega)
                    have HC := Lib.hid hcall
                    clear hcall
                    go_wp2_with fail
                    refine HC.out.mono ?_
                    rintro e w1 ⟨rfl, C1, hm1, hd2, hg2⟩
                    have HM1 := Lib.hid hm1
                    have HD3 := Lib.hid hd2
                    have HG3 := Lib.hid (hg1.out.trans hg2)
                    clear hm1 hd2 hg2
                    go_wp2_with fail
                    go_meet
                    exact ⟨rfl, C1, HM1.out, HD3.out, HG3.out⟩
                case rest =>
                  clear hd1 hg1 HC2
                  obtain ⟨-, C1, hm1, hd1, hg1⟩ := hcut
                  have lc1 : Hid (C1.length = mid - a) := by have := hm1.out.length; have := LL.out; show _ = _; omega
                  by_cases u1 : mid < en
                  · by_cases u2 : en < b
                    · as_aux_lemma =>
                      have hcall := HIH.out wc mid en b (P ++ C1) (A.drop (i - a)) (B.drop (mid - i)) R (by have := LL.out; have := HF.out; have := HM.out; have := HB.out; have := HEN.out; omega) (by have := LL.out; have := HEN.out; omega) (by have := LL.out; omega) (HSA.out.drop _) (HSB.out.drop _) (by have h2 := hd1.out; simpa only [List.append_assoc] using h2)
                        (by have := LL.out; have := HL.out; have := HA.out; have := HM.out; have := HB.out; have := HEN.out; have := lc1.out; simp only [List.length_append]; omega) (by have := lc1.out; have := HA.out; rw [List.length_append]; omega) (by have := LL.out; have := HEN.out; omega) (by have := LL.out; omega)
                      have HC := Lib.hid hcall
                      clear hcall
                      go_wp2_with fail
                      refine HC.out.mono ?_
                      rintro e w1 ⟨rfl, C2, hm2, hd2, hg2⟩
                      have HM2 := Lib.hid (HBO.out C1 C2 hm1.out hm2)
                      have HD3 := Lib.hid hd2
                      have HG3 := Lib.hid (hg1.out.trans hg2)
                      clear hm2 hd2 hg2
                      go_wp2_with fail
                      go_end0
                      exact ⟨rfl, _, HM2.out, (by have h2 := HD3.out; simpa only [List.append_assoc] using h2), HG3.out⟩
                    · as_aux_lemma =>
                      have hm2 : Mrg (ltOF cmp) A B (C1 ++ A.drop (i - a)) := by
                        have e : B.drop (mid - i) = [] := List.eq_nil_of_length_eq_zero (by have := LL.out; omega)
                        refine HBO.out _ _ hm1.out ?_
                        rw [e]
                        exact Mrg.nil_right (HSA.out.drop _)
                      have hd2 : DatF wc g (P ++ (C1 ++ A.drop (i - a)) ++ R) rest := by
                        have e : B.drop (mid - i) = [] := List.eq_nil_of_length_eq_zero (by have := LL.out; omega)
                        have h2 := hd1.out
                        rw [e] at h2
                        simpa only [List.append_assoc, List.nil_append] using h2
                      have HM2 := Lib.hid hm2
                      have HD3 := Lib.hid hd2
                      clear hm2 hd2
                      go_wp2_with fail
                      go_end0
                      exact ⟨rfl, _, HM2.out, HD3.out, hg1.out⟩
                  · as_aux_lemma =>
                    have e : A.drop (i - a) = [] := List.eq_nil_of_length_eq_zero (by have := LL.out; have := HEN.out; omega)
                    have hm2 : Mrg (ltOF cmp) A B (C1 ++ B.drop (mid - i)) := by
                      refine HBO.out _ _ hm1.out ?_
                      rw [e]
                      exact Mrg.nil_left (HSB.out.drop _)
                    have hd2 : DatF wc g (P ++ (C1 ++ B.drop (mid - i)) ++ R) rest := by
                      have h2 := hd1.out
                      rw [e] at h2
                      simpa only [List.append_assoc, List.nil_append] using h2
                    have HM2 := Lib.hid hm2
                    have HD3 := Lib.hid hd2
                    clear hm2 hd2 e
                    go_wp2_with fail
                    go_end0
                    exact ⟨rfl, _, HM2.out, HD3.out, hg1.out⟩
end Go.Proofs.Ytdpohibgipkhnaa
namespace Go.Proofs.Ytdpohibgipkhnaa
namespace St
section
variable {α : Type} {lt : α → α → Bool}
/-- Each block of m is sorted. -/
def Chk (lt : α → α → Bool) (m : Nat) (l : List α) : Prop := ∀ i, Srt lt (blk m i l)
theorem Srt.nil : Srt lt ([] : List α) := List.Pairwise.nil
theorem Chk.nil (m : Nat) : Chk lt m ([] : List α) := fun i => by unfold blk; rw [List.drop_nil, List.take_nil]; exact Srt.nil
theorem Chk.head {m : Nat} {l : List α} (h : Chk lt m l) : Srt lt (l.take m) := by
  have := h 0
  unfold blk at this
  rwa [Nat.zero_mul, List.drop_zero] at this
theorem Chk.drop {m : Nat} {l : List α} (h : Chk lt m l) : Chk lt m (l.drop m) := fun i => by
  have := h (i + 1)
  unfold blk at this ⊢
  rw [List.drop_drop]
  rwa [Nat.add_mul, Nat.one_mul, Nat.add_comm] at this
theorem Chk.all {m : Nat} {l : List α} (h : Chk lt m l) (hl : l.length ≤ m) : Srt lt l := by
  have := h.head
  rwa [List.take_of_length_le hl] at this
theorem Chk.snoc {m k : Nat} {d c : List α} (h : Chk lt m d) (hd : d.length = k * m) (hc : Srt lt c) (hl : c.length ≤ m) : Chk lt m (d ++ c) := fun i => by
  rcases Nat.lt_trichotomy i k with hi | hi | hi
  · have h1 : (i + 1) * m ≤ k * m := Nat.mul_le_mul_right m hi
    rw [Nat.add_mul, Nat.one_mul] at h1
    have := part_left d c [] (i * m) m (by omega)
    unfold blk
    rw [this, List.append_nil]
    exact h i
  · subst hi
    unfold blk
    rw [← hd, List.drop_left]
    exact hc.take m
  · have h1 : (k + 1) * m ≤ i * m := Nat.mul_le_mul_right m hi
    rw [Nat.add_mul, Nat.one_mul] at h1
    unfold blk
    rw [List.drop_eq_nil_of_le (by rw [List.length_append]; omega), List.take_nil]
    exact Srt.nil
end
end St
end Go.Proofs.Ytdpohibgipkhnaa
namespace Go.Proofs.Ytdpohibgipkhnaa
open Go.RowKit Go.Sort Go.Proofs.Ytdpohibgipkhnaa.St

set_option maxRecDepth 100000 in
set_option maxHeartbeats 6400000 in
theorem stbF_any (q : Nat) (cmp : ElF → ElF → Int) (hq : CmpF q cmp) (ho : St.SWO (ltOF cmp)) (w : World) (g n c : Nat) (L : List ElF) (rest : List Value) (h : DatF w g L rest) (hn : n = L.length) (hbig : n ≤ 1000000000000) :
    Calls Try.prog 121 #[.slice (some ⟨g, 0, none⟩) n c, .int .i64 n, .func (.func q) #[] #[]] w fun e w' => e = .returned (.tuple #[]) ∧ ∃ L', Sts (ltOF cmp) L L' ∧ DatF w' g L' rest ∧ w.grownBy w' (some g) := by
  have hpost : ∀ L' w', Srt (ltOF cmp) L' → Alk (ltOF cmp) L L' → DatF w' g L' rest → w.grownBy w' (some g) → ∃ L', Sts (ltOF cmp) L L' ∧ DatF w' g L' rest ∧ w.grownBy w' (some g) := fun L' w' h1 h2 h3 h4 => ⟨L', ⟨h1, h2⟩, h3, h4⟩
  have HPOST := Lib.hid hpost
  have HQ := Lib.hid hq
  have HO := Lib.hid ho
  have HN := Lib.hid hn
  have HH := Lib.hid h
  clear hn h hq ho hpost
  go_enter Try.func121, Try.ntmps121
  go_wp2_with fail
  go_loopg [7, 8] (n + 1) (fun gg s7 s8 wr => ∃ D U : List ElF, D.length ≤ n ∧ n - D.length + 1 ≤ gg ∧ s7 = .int .i64 D.length ∧ s8 = .int .i64 (D.length + 20 : Nat) ∧ Hid (Chk (ltOF cmp) 20 D) ∧ Hid (∃ k, D.length = k * 20) ∧ Hid (Alk (ltOF cmp) L (D ++ U)) ∧ Hid (DatF wr g (D ++ U) rest) ∧ Hid (w.grownBy wr (some g)))
  case atStart => exact ⟨[], L, Nat.zero_le _, Nat.le_refl _, rfl, rfl, Chk.nil _, ⟨0, by simp⟩, Alk.refl _, HH.out, World.grownBy.refl _ _⟩
  case round =>
    obtain ⟨D, U, hD, hg1, rfl, rfl, hch, hkk, hal, hd, hgr⟩ := hrel
    have hlen : D.length + U.length = n := by have := hal.out.1; rw [List.length_append] at this; have := HN.out; omega
    by_cases hlt : D.length + 20 ≤ n
    · have lS : (U.take 20).length = 20 := by rw [List.length_take]; omega
      have hcall := insF_any q cmp HQ.out HO.out wr g n c D.length (D.length + 20) D (U.take 20) (U.drop 20) rest (by have := hd.out; rwa [List.append_assoc, List.take_append_drop]) (by have := HN.out; simp; omega) (by omega) rfl (by omega)
      have HC := Lib.hid hcall
      have LS := Lib.hid lS
      clear hcall lS
      go_wp2_with fail
      refine HC.out.mono ?_
      rintro e w1 ⟨rfl, S', hs', hd1, hg2⟩
      have lS' : S'.length = 20 := by rw [← hs'.2.1, LS.out]
      have HCH : Hid (Chk (ltOF cmp) 20 (D ++ S')) := by obtain ⟨k, hk⟩ := hkk.out; exact hch.out.snoc hk hs'.1 (by omega)
      have HKK : Hid (∃ k, (D ++ S').length = k * 20) := by obtain ⟨k, hk⟩ := hkk.out; exact ⟨k + 1, by rw [List.length_append, lS', hk]; omega⟩
      have HAL : Hid (Alk (ltOF cmp) L ((D ++ S') ++ U.drop 20)) := by
        have h1 := ((Alk.refl (lt := ltOF cmp) D).app hs'.2).app (Alk.refl (U.drop 20))
        rw [List.append_assoc, List.take_append_drop] at h1
        exact hal.out.trans h1
      have HD1 := Lib.hid hd1
      have HG2 := Lib.hid (hgr.out.trans hg2)
      have HLS : Hid ((D ++ S').length = D.length + 20) := by show _ = _; rw [List.length_append, lS']
      clear hs' hd1 hg2 lS'
      go_wp2_with fail
      go_roundg (n - (D.length + 20) + 1)
      case measure => omega
      case rel => exact ⟨D ++ S', U.drop 20, by rw [HLS.out]; exact hlt, by rw [HLS.out]; exact Nat.le_refl _, by rw [HLS.out]; go_num, by rw [HLS.out]; go_num, HCH.out, HKK.out, HAL.out, HD1.out, HG2.out⟩
    · have hcall := insF_any q cmp HQ.out HO.out wr g n c D.length n D U [] rest (by have := hd.out; rwa [List.append_nil]) (by simp; omega) (by omega) rfl (by omega)
      have HC := Lib.hid hcall
      clear hcall
      go_wp2_with fail
      refine HC.out.mono ?_
      rintro e w1 ⟨rfl, S', hs', hd1, hg2⟩
      have lS' : S'.length = U.length := hs'.2.1.symm
      have HCH : Hid (Chk (ltOF cmp) 20 (D ++ S')) := by obtain ⟨k, hk⟩ := hkk.out; exact hch.out.snoc hk hs'.1 (by omega)
      have HAL : Hid (Alk (ltOF cmp) L (D ++ S')) := hal.out.trans ((Alk.refl (lt := ltOF cmp) D).app hs'.2)
      have HD1 : Hid (DatF w1 g (D ++ S') rest) := by show DatF _ _ _ _; rwa [List.append_nil] at hd1
      have HG2 := Lib.hid (hgr.out.trans hg2)
      have HLN : Hid ((D ++ S').length = n) := by show _ = _; rw [List.length_append, lS']; exact hlen
      obtain ⟨M, hM⟩ : ∃ M, M = D ++ S' := ⟨_, rfl⟩
      rw [← hM] at HCH HAL HD1 HLN
      clear hs' hd1 hg2 lS' hM hch hkk hal hd hgr hlt hD hg1 hlen
      go_wp2_with fail
      go_loopg [6] (n + 1) (fun gg s6 wr => ∃ (bs : Nat) (M : List ElF), 20 ≤ bs ∧ bs ≤ 2 * n + 20 ∧ n - bs + 1 ≤ gg ∧ s6 = .int .i64 bs ∧ Hid (Chk (ltOF cmp) bs M) ∧ Hid (Alk (ltOF cmp) L M) ∧ Hid (M.length = n) ∧ Hid (DatF wr g M rest) ∧ Hid (w.grownBy wr (some g)))
      case atStart => exact ⟨20, M, Nat.le_refl _, by omega, by omega, rfl, HCH.out, HAL.out, HLN.out, HD1.out, HG2.out⟩
      case round =>
        clear HCH HAL HLN HD1 HG2
        obtain ⟨bs, M, hb1, hb2, hgb, rfl, hch, hal, hln, hd, hgr⟩ := hrel
        by_cases hbn : bs < n
        · go_wp2_with fail
          go_loopg [7, 8] (n + 1) (fun gg s7 s8 wr => ∃ D U : List ElF, D.length ≤ n ∧ n - D.length + 1 ≤ gg ∧ s7 = .int .i64 D.length ∧ s8 = .int .i64 (D.length + 2 * bs : Nat) ∧ Hid (Chk (ltOF cmp) (2 * bs) D) ∧ Hid (∃ k, D.length = k * (2 * bs)) ∧ Hid (Chk (ltOF cmp) bs U) ∧ Hid (Alk (ltOF cmp) L (D ++ U)) ∧ Hid (DatF wr g (D ++ U) rest) ∧ Hid (w.grownBy wr (some g)))
          case atStart => exact ⟨[], M, Nat.zero_le _, Nat.le_refl _, rfl, by (first | rfl | simp | go_num), Chk.nil _, ⟨0, by simp⟩, hch, hal, hd, hgr⟩
          case round =>
            clear hch hal hln hd hgr
            obtain ⟨D, U, hD, hg1, rfl, rfl, hch, hkk, hcu, hal, hd, hgr⟩ := hrel
            have hlen : D.length + U.length = n := by have := hal.out.1; rw [List.length_append] at this; have := HN.out; omega
            by_cases hlt : D.length + 2 * bs ≤ n
            · have lA : (U.take bs).length = bs := by rw [List.length_take]; omega
              have lB : ((U.drop bs).take bs).length = bs := by rw [List.length_take, List.length_drop]; omega
              have eU : U = U.take bs ++ ((U.drop bs).take bs ++ (U.drop bs).drop bs) := by rw [List.take_append_drop, List.take_append_drop]
              have hcall := symF_any q cmp HQ.out HO.out g n c rest (by omega) (bs + bs) wr D.length (D.length + bs) (D.length + 2 * bs) D (U.take bs) ((U.drop bs).take bs) ((U.drop bs).drop bs) (by omega) (by omega) (by omega) hcu.out.head hcu.out.drop.head
                (by have := hd.out; rw [eU] at this; simpa only [List.append_assoc] using this) (by have h1 := congrArg List.length eU; simp only [List.length_append] at h1 ⊢; omega) rfl (by omega) (by omega)
              have e1 : ((D.length + bs : Nat) : Int) = (D.length : Int) + (bs : Int) := by omega
              rw [e1] at hcall
              have HC := Lib.hid hcall
              have LAB := Lib.hid (And.intro lA (And.intro lB eU))
              clear hcall lA lB eU e1
              go_wp2_with fail
              refine HC.out.mono ?_
              rintro e w1 ⟨rfl, C, hm, hd1, hg2⟩
              have lC : C.length = 2 * bs := by have := hm.length; have := LAB.out; omega
              have HCH : Hid (Chk (ltOF cmp) (2 * bs) (D ++ C)) := by obtain ⟨k, hk⟩ := hkk.out; exact hch.out.snoc hk hm.1 (by omega)
              have HKK : Hid (∃ k, (D ++ C).length = k * (2 * bs)) := by obtain ⟨k, hk⟩ := hkk.out; exact ⟨k + 1, by rw [List.length_append, lC, hk, Nat.add_mul, Nat.one_mul]⟩
              have HAL : Hid (Alk (ltOF cmp) L ((D ++ C) ++ (U.drop bs).drop bs)) := by
                have h1 := ((Alk.refl (lt := ltOF cmp) D).app hm.2).app (Alk.refl ((U.drop bs).drop bs))
                have h2 : D ++ (U.take bs ++ (U.drop bs).take bs) ++ (U.drop bs).drop bs = D ++ U := by
                  rw [List.append_assoc, List.append_assoc, ← LAB.out.2.2]
                rw [h2] at h1
                exact hal.out.trans h1
              have HCU : Hid (Chk (ltOF cmp) bs ((U.drop bs).drop bs)) := hcu.out.drop.drop
              have HD1 := Lib.hid hd1
              have HG2 := Lib.hid (hgr.out.trans hg2)
              have HLS : Hid ((D ++ C).length = D.length + 2 * bs) := by show _ = _; rw [List.length_append, lC]
              clear hm hd1 hg2 lC
              go_wp2_with fail
              go_roundg (n - (D.length + 2 * bs) + 1)
              case measure => omega
              case rel => exact ⟨D ++ C, (U.drop bs).drop bs, by rw [HLS.out]; exact hlt, by rw [HLS.out]; exact Nat.le_refl _, by rw [HLS.out]; go_num, by rw [HLS.out]; go_num, HCH.out, HKK.out, HCU.out, HAL.out, HD1.out, HG2.out⟩
            · by_cases hlt2 : D.length + bs < n
              · have lA : (U.take bs).length = bs := by rw [List.length_take]; omega
                have lB : (U.drop bs).length = n - (D.length + bs) := by rw [List.length_drop]; omega
                have hsB : Srt (ltOF cmp) (U.drop bs) := hcu.out.drop.all (by omega)
                have hcall := symF_any q cmp HQ.out HO.out g n c rest (by omega) n wr D.length (D.length + bs) n D (U.take bs) (U.drop bs) [] (by omega) (by omega) (by omega) hcu.out.head hsB
                  (by have := hd.out; rw [List.append_nil, List.append_assoc, List.take_append_drop]; exact this) (by simp only [List.length_append, List.length_nil]; omega) rfl (by omega) (by omega)
                have e1 : ((D.length + bs : Nat) : Int) = (D.length : Int) + (bs : Int) := by omega
                rw [e1] at hcall
                have HC := Lib.hid hcall
                have LAB := Lib.hid (And.intro lA lB)
                clear hcall lA lB e1 hsB
                go_wp2_with fail
                refine HC.out.mono ?_
                rintro e w1 ⟨rfl, C, hm, hd1, hg2⟩
                have lC : C.length = n - D.length := by have := hm.length; have := LAB.out; omega
                have HCH : Hid (Chk (ltOF cmp) (2 * bs) (D ++ C)) := by obtain ⟨k, hk⟩ := hkk.out; exact hch.out.snoc hk hm.1 (by omega)
                have HAL : Hid (Alk (ltOF cmp) L (D ++ C)) := by
                  have h1 := (Alk.refl (lt := ltOF cmp) D).app hm.2
                  rw [List.take_append_drop] at h1
                  exact hal.out.trans h1
                have HD1 : Hid (DatF w1 g (D ++ C) rest) := by show DatF _ _ _ _; rwa [List.append_nil] at hd1
                have HG2 := Lib.hid (hgr.out.trans hg2)
                have HLS : Hid ((D ++ C).length = n) := by show _ = _; rw [List.length_append, lC]; omega
                clear hm hd1 hg2 lC
                go_wp2_with fail
                go_roundg (n - 2 * bs + 1)
                case measure => omega
                case rel => exact ⟨2 * bs, D ++ C, by omega, by omega, Nat.le_refl _, by go_num, HCH.out, HAL.out, HLS.out, HD1.out, HG2.out⟩
              · have HCH : Hid (Chk (ltOF cmp) (2 * bs) (D ++ U)) := by obtain ⟨k, hk⟩ := hkk.out; exact hch.out.snoc hk (hcu.out.all (by omega)) (by omega)
                have HLS : Hid ((D ++ U).length = n) := by show _ = _; rw [List.length_append]; exact hlen
                go_wp2_with fail
                go_roundg (n - 2 * bs + 1)
                case measure => omega
                case rel => exact ⟨2 * bs, D ++ U, by omega, by omega, Nat.le_refl _, by go_num, HCH.out, hal.out, HLS.out, hd.out, hgr.out⟩
        · have hsrt := hch.out.all (by have := hln.out; omega)
          have HSR := Lib.hid hsrt
          clear hsrt
          go_wp2_with fail
          go_end0
          exact ⟨rfl, HPOST.out _ _ HSR.out hal.out hd.out hgr.out⟩

set_option maxRecDepth 100000 in
set_option maxHeartbeats 1600000 in
theorem ssfF_any (q : Nat) (cmp : ElF → ElF → Int) (hq : CmpF q cmp) (ho : St.SWO (ltOF cmp)) (w : World) (g n c : Nat) (L : List ElF) (rest : List Value) (h : DatF w g L rest) (hn : n = L.length) (hbig : n ≤ 1000000000000) :
    Calls Try.prog 106 #[.slice (some ⟨g, 0, none⟩) n c, .func (.func q) #[] #[]] w fun e w' => e = .returned (.tuple #[]) ∧ ∃ L', Sts (ltOF cmp) L L' ∧ DatF w' g L' rest ∧ w.grownBy w' (some g) := by
  have HC := Lib.hid (stbF_any q cmp hq ho w g n c L rest h hn hbig)
  clear h hn hq ho
  go_enter Try.func106, Try.ntmps106
  go_wp2_with fail
  refine HC.out.mono ?_
  rintro e w1 ⟨rfl, L', h1, h2, h3⟩
  have H := Lib.hid (And.intro h1 (And.intro h2 h3))
  clear h1 h2 h3
  go_wp2_with fail
  go_end0
  exact ⟨rfl, L', H.out⟩
set_option maxRecDepth 100000 in
set_option maxHeartbeats 1600000 in
theorem insF_nil (q : Nat) (w : World) : Calls Try.prog 133 #[.slice none 0 0, .int .i64 0, .int .i64 0, .func (.func q) #[] #[]] w fun e w' => e = .returned (.tuple #[]) ∧ w' = w := by
  go_enter Try.func133, Try.ntmps133
  go_wp2_with fail
  go_loop [8] (fun i => i = .int .i64 1) (fun _ => 0)
  case atStart => rfl
  case round =>
    obtain rfl := hrel
    go_wp2_with fail
    go_end0
    exact ⟨rfl, rfl⟩
set_option maxRecDepth 100000 in
set_option maxHeartbeats 1600000 in
theorem stbF_nil (q : Nat) (w : World) : Calls Try.prog 121 #[.slice none 0 0, .int .i64 0, .func (.func q) #[] #[]] w fun e w' => e = .returned (.tuple #[]) ∧ w' = w := by
  go_enter Try.func121, Try.ntmps121
  go_wp2_with fail
  go_loop [7, 8] (fun i j => i = .int .i64 0 ∧ j = .int .i64 20) (fun _ _ => 0)
  case atStart => exact ⟨rfl, rfl⟩
  case round =>
    obtain ⟨rfl, rfl⟩ := hrel
    go_wp2_with fail
    refine (insF_nil q w).mono ?_
    rintro e w1 ⟨rfl, rfl⟩
    go_wp2_with fail
    go_loop [6] (fun i => i = .int .i64 20) (fun _ => 0)
    case atStart => rfl
    case round =>
      obtain rfl := hrel
      go_wp2_with fail
      go_end0
      exact ⟨rfl, rfl⟩
set_option maxRecDepth 100000 in
set_option maxHeartbeats 1600000 in
/-- .. of a nil slice. -/
theorem ssfF_nil (q : Nat) (w : World) :
    Calls Try.prog 106 #[.slice none 0 0, .func (.func q) #[] #[]] w fun e w' => e = .returned (.tuple #[]) ∧ w' = w := by
  go_enter Try.func106, Try.ntmps106
  go_wp2_with fail
  refine (stbF_nil q w).mono ?_
  rintro e w1 ⟨rfl, rfl⟩
  go_wp2_with fail
  go_end0
  exact ⟨rfl, rfl⟩
end Go.Proofs.Ytdpohibgipkhnaa
namespace Go.Proofs.Ytdpohibgipkhnaa
open Go.Proofs.Ytdpohibgipkhnaa.St

theorem cb_neg : ∀ a b : List UInt8, Lib.compareBytes a b = - Lib.compareBytes b a
  | [], [] => rfl
  | [], _ :: _ => rfl
  | _ :: _, [] => rfl
  | x :: a, y :: b => by
    unfold Lib.compareBytes
    have ih := cb_neg a b
    simp only [UInt8.lt_iff_toNat_lt]
    split <;> split <;> omega
theorem cb_zero : ∀ {a b : List UInt8}, Lib.compareBytes a b = 0 → a = b
  | [], [], _ => rfl
  | [], _ :: _, h => by simp [Lib.compareBytes] at h
  | _ :: _, [], h => by simp [Lib.compareBytes] at h
  | x :: a, y :: b, h => by
    unfold Lib.compareBytes at h
    simp only [UInt8.lt_iff_toNat_lt] at h
    split at h
    · omega
    · split at h
      · omega
      · rw [cb_zero h, UInt8.toNat_inj.1 (show x.toNat = y.toNat by omega)]
theorem cb_self (a : List UInt8) : Lib.compareBytes a a = 0 := by have := cb_neg a a; omega
theorem cb_trans : ∀ {a b c : List UInt8}, Lib.compareBytes a b < 0 → Lib.compareBytes b c < 0 → Lib.compareBytes a c < 0
  | [], [], _, h, _ => by simp [Lib.compareBytes] at h
  | [], _ :: _, [], _, h => by simp [Lib.compareBytes] at h
  | [], _ :: _, _ :: _, _, _ => by simp [Lib.compareBytes]
  | _ :: _, [], _, h, _ => by simp [Lib.compareBytes] at h
  | _ :: _, _ :: _, [], _, h => by simp [Lib.compareBytes] at h
  | x :: a, y :: b, z :: c, h, k => by
    unfold Lib.compareBytes at h k ⊢
    simp only [UInt8.lt_iff_toNat_lt] at h k ⊢
    by_cases h1 : x.toNat < y.toNat
    · by_cases h2 : y.toNat < z.toNat
      · rw [if_pos (by omega)]; omega
      · rw [if_neg h2] at k
        by_cases h3 : z.toNat < y.toNat
        · rw [if_pos h3] at k; omega
        · rw [if_pos (by omega)]; omega
    · rw [if_neg h1] at h
      by_cases h4 : y.toNat < x.toNat
      · rw [if_pos h4] at h; omega
      · rw [if_neg h4] at h
        by_cases h2 : y.toNat < z.toNat
        · rw [if_pos (by omega)]; omega
        · rw [if_neg h2] at k
          by_cases h3 : z.toNat < y.toNat
          · rw [if_pos h3] at k; omega
          · rw [if_neg h3] at k
            rw [if_neg (by omega), if_neg (by omega)]
            exact cb_trans h k
def ltL (a b : List UInt8) : Bool := decide (Lib.compareBytes a b < 0)
theorem ltL_swo : St.SWO ltL where
  asym x y h := by
    have h1 := of_decide_eq_true h
    have := cb_neg x y
    apply decide_eq_false
    omega
  ntr x y z h := by
    have h1 := of_decide_eq_true h
    by_cases hxy : Lib.compareBytes x y < 0
    · exact .inl (decide_eq_true hxy)
    · right
      apply decide_eq_true
      by_cases h0 : Lib.compareBytes x y = 0
      · rw [← cb_zero h0]; exact h1
      · have := cb_neg x y
        exact cb_trans (show Lib.compareBytes y x < 0 by omega) h1
theorem SWO.pull {α β : Type} {lt : α → α → Bool} (h : St.SWO lt) (f : β → α) : St.SWO (fun x y => lt (f x) (f y)) := ⟨fun _ _ => h.asym _ _, fun _ _ _ => h.ntr _ _ _⟩
theorem eqv_ltL (a b : List UInt8) : eqv ltL a b = decide (a = b) := by
  unfold eqv ltL
  by_cases h : a = b
  · subst h
    rw [cb_self]
    simp
  · rw [decide_eq_false h]
    have h0 : Lib.compareBytes a b ≠ 0 := fun e => h (cb_zero e)
    have := cb_neg a b
    by_cases h1 : Lib.compareBytes a b < 0
    · simp [h1]
    · have : Lib.compareBytes b a < 0 := by omega
      simp [this]
end Go.Proofs.Ytdpohibgipkhnaa
namespace Go.Proofs.Ytdpohibgipkhnaa
open Go.Proofs.Ytdpohibgipkhnaa.Oct Go.Proofs.Ytdpohibgipkhnaa.St

theorem ltF_swo : St.SWO ltF := SWO.pull ltL_swo (fun f : ByteArray × ByteArray => f.1.data.toList)
theorem eqv_ltF (a b : ByteArray × ByteArray) : eqv ltF a b = decide (a.1 = b.1) := by
  have h : eqv ltF a b = eqv ltL a.1.data.toList b.1.data.toList := rfl
  rw [h, eqv_ltL]
  exact decide_eq_decide.2 ⟨bytes_eq_of_list, fun h => by rw [h]⟩
def CanN (x : Flds) : Prop := ∀ p ∈ x, nameS p.1 = p.1
theorem fold_can {a b : ByteArray} (ha : nameS a = a) (hb : nameS b = b) : foldS a b = decide (a = b) := by
  unfold foldS
  refine decide_eq_decide.2 ⟨fun h => ?_, fun h => by rw [h]⟩
  have := nameS_of_low h
  rwa [ha, hb] at this
theorem filter_can {x : Flds} (hx : CanN x) {z : ByteArray × ByteArray} (hz : nameS z.1 = z.1) : x.filter (eqv ltF z) = x.filter (fun p => foldS z.1 p.1) :=
  List.filter_congr fun p hp => by rw [eqv_ltF, fold_can hz (hx p hp)]
theorem filter_out {x : Flds} (hx : CanN x) {z : ByteArray × ByteArray} (hz : nameS z.1 ≠ z.1) : x.filter (eqv ltF z) = [] := by
  rw [List.filter_eq_nil_iff]
  intro p hp h
  rw [eqv_ltF] at h
  have e := of_decide_eq_true h
  rw [e] at hz
  exact hz (hx p hp)
/-- All classes alike: as many. -/
theorem len_of_filters {x y : Flds} (h : ∀ z, x.filter (eqv ltF z) = y.filter (eqv ltF z)) : x.length = y.length := by
  letI : BEq (ByteArray × ByteArray) := instBEqOfDecidableEq
  refine (List.perm_iff_count.2 fun a => ?_).length_eq
  have ha : eqv ltF a a = true := eqv_self ltF_swo a
  rw [← List.count_filter (p := eqv ltF a) (l := x) ha, ← List.count_filter (p := eqv ltF a) (l := y) ha, h a]
theorem alk_of_filters {x y : Flds} (h : ∀ z, x.filter (eqv ltF z) = y.filter (eqv ltF z)) : Alk ltF x y := ⟨len_of_filters h, h⟩
theorem alk_of_fold {x y : Flds} (hx : CanN x) (hy : CanN y) (h : ∀ n, x.filter (fun p => foldS n p.1) = y.filter (fun p => foldS n p.1)) : Alk ltF x y := by
  refine alk_of_filters fun z => ?_
  by_cases hz : nameS z.1 = z.1
  · rw [filter_can hx hz, filter_can hy hz, h]
  · rw [filter_out hx hz, filter_out hy hz]
/-- The document's test. -/
def sameB (x y : Flds) : Bool := decide (x.length = y.length) && x.all fun p => decide (allV x p.1 = allV y p.1)
theorem filter_of_all {x y : Flds} (hx : CanN x) (hy : CanN y) {p : ByteArray × ByteArray} (hp : p ∈ x) (h : allV x p.1 = allV y p.1) : x.filter (eqv ltF p) = y.filter (eqv ltF p) := by
  have hz := hx p hp
  have key : ∀ l : Flds, CanN l → l.filter (eqv ltF p) = (allV l p.1).map fun v => (p.1, v) := by
    intro l hl
    unfold allV
    rw [List.map_map, ← filter_can hl hz]
    symm
    refine map_val _ _ fun q hq => ?_
    have h2 := (List.mem_filter.1 hq).2
    rw [eqv_ltF] at h2
    show (p.1, q.2) = q
    rw [of_decide_eq_true h2]
  rw [key x hx, key y hy, h]
theorem sameB_alk {x y : Flds} (hx : CanN x) (hy : CanN y) : sameB x y = true ↔ Alk ltF x y := by
  constructor
  · intro h
    unfold sameB at h
    rw [Bool.and_eq_true, decide_eq_true_eq, List.all_eq_true] at h
    obtain ⟨hlen, hall⟩ := h
    have hP : ∀ p ∈ x, x.filter (eqv ltF p) = y.filter (eqv ltF p) := fun p hp => filter_of_all hx hy hp (of_decide_eq_true (hall p hp))
    have hQ : ∀ z, x.filter (eqv ltF z) = (y.filter fun q => x.any fun p => decide (p.1 = q.1)).filter (eqv ltF z) := by
      intro z
      by_cases hz : ∃ p ∈ x, p.1 = z.1
      · obtain ⟨p, hp, e⟩ := hz
        have e1 : ∀ l : Flds, l.filter (eqv ltF z) = l.filter (eqv ltF p) := fun l => List.filter_congr fun q _ => by rw [eqv_ltF, eqv_ltF, e]
        rw [e1, e1, hP p hp, List.filter_filter]
        refine List.filter_congr fun q _ => ?_
        rw [eqv_ltF]
        by_cases h2 : p.1 = q.1
        · have : (x.any fun p => decide (p.1 = q.1)) = true := List.any_eq_true.2 ⟨p, hp, decide_eq_true h2⟩
          rw [this, Bool.and_true]
        · rw [decide_eq_false h2, Bool.false_and]
      · have e1 : x.filter (eqv ltF z) = [] := by
          rw [List.filter_eq_nil_iff]
          intro p hp h
          rw [eqv_ltF] at h
          exact hz ⟨p, hp, (of_decide_eq_true h).symm⟩
        rw [e1]
        symm
        rw [List.filter_eq_nil_iff]
        intro q hq h
        rw [eqv_ltF] at h
        obtain ⟨p, hp, h3⟩ := List.any_eq_true.1 (List.mem_filter.1 hq).2
        exact hz ⟨p, hp, (of_decide_eq_true h3).trans (of_decide_eq_true h).symm⟩
    have hl := len_of_filters hQ
    have hy2 : (y.filter fun q => x.any fun p => decide (p.1 = q.1)) = y := by
      rw [List.filter_eq_self]
      have := List.length_filter_eq_length_iff.1 (hl.symm.trans hlen)
      exact this
    rw [hy2] at hQ
    exact alk_of_filters hQ
  · intro h
    unfold sameB
    rw [Bool.and_eq_true, decide_eq_true_eq, List.all_eq_true]
    refine ⟨h.1, fun p hp => decide_eq_true ?_⟩
    have hz := hx p hp
    have h2 := h.2 p
    rw [filter_can hx hz, filter_can hy hz] at h2
    unfold allV
    rw [h2]
/-- Sorted, they are one list just then. -/
theorem sorted_eq {x y a b : Flds} (ha : Sts ltF x a) (hb : Sts ltF y b) : a = b ↔ Alk ltF x y := by
  constructor
  · intro h
    subst h
    exact ha.2.trans hb.2.symm
  · intro h
    exact Srt.unique ltF_swo ha.1 hb.1 (ha.2.symm.trans (h.trans hb.2))
theorem canF_can (l : Flds) : CanN (canF l) := fun _ hp => canF_names hp
theorem sorted_same {x y a b : Flds} (ha : Sts ltF (canF x) a) (hb : Sts ltF (canF y) b) : decide (a = b) = sameB (canF x) (canF y) := by
  rw [Bool.eq_iff_iff, decide_eq_true_eq, sorted_eq ha hb, sameB_alk (canF_can x) (canF_can y)]
end Go.Proofs.Ytdpohibgipkhnaa
namespace Go.Proofs.Ytdpohibgipkhnaa
open Go.Shelf
def Try.lays213_ren : Go.Shelf.Ren := ⟨fun | 213 => 122 | 265 => 135 | n => n, fun | 9 => 9 | 3 => 3 | n => n, fun | n => n⟩
theorem Try.lays213 : Go.Proofs.Lays.n213 Try.prog Try.lays213_ren := {
  mixed := by kernel_rfl
  f213 := Try.func122.trans (congrArg some (by kernel_rfl))
  f265 := Try.func135.trans (congrArg some (by kernel_rfl))
  t3 := Try.underlying3
  a3 := Try.isAgg3
  z3 := Try.sizeOf3
  v3 := Try.zeroValue3
  t9 := Try.underlying9
  a9 := Try.isAgg9
  z9 := Try.sizeOf9
  v9 := Try.zeroValue9 }
open Go.RowKit in
/-- internal/bytealg.CompareString (what strings.Compare calls): IT RETURNS 'Lib.compareBytes a b'; the world is as it was. (LAID: no walk: one application.) -/
theorem Try.bytealg_CompareString (a b : ByteArray) (w : World) :
    Calls Try.prog 122 #[.string a, .string b] w fun e w' => e = .returned (.int .i64 (Lib.compareBytes a.data.toList b.data.toList)) ∧ w' = w := Any.bytealg_CompareString Try.lays213 a b w
def Try.lays106_ren : Go.Shelf.Ren := ⟨fun | 106 => 108 | 213 => 122 | 265 => 135 | n => n, fun | 9 => 9 | 3 => 3 | n => n, fun | n => n⟩
theorem Try.lays106 : Go.Proofs.Lays.n106 Try.prog Try.lays106_ren := {
  mixed := by kernel_rfl
  f106 := Try.func108.trans (congrArg some (by kernel_rfl))
  f213 := Try.func122.trans (congrArg some (by kernel_rfl))
  f265 := Try.func135.trans (congrArg some (by kernel_rfl))
  t3 := Try.underlying3
  a3 := Try.isAgg3
  z3 := Try.sizeOf3
  v3 := Try.zeroValue3
  t9 := Try.underlying9
  a9 := Try.isAgg9
  z9 := Try.sizeOf9
  v9 := Try.zeroValue9 }
open Go.RowKit in
/-- strings.Compare: "Compare returns an integer comparing two strings lexicographically. The result will be 0 if a == b, -1 if a < b, and +1 if a > b.": IT RETURNS 'Lib.compareBytes a b'; the world is as it was. (LAID: no walk: one application.) -/
theorem Try.strings_Compare (a b : ByteArray) (w : World) :
    Calls Try.prog 108 #[.string a, .string b] w fun e w' => e = .returned (.int .i64 (Lib.compareBytes a.data.toList b.data.toList)) ∧ w' = w := Any.strings_Compare Try.lays106 a b w
def Try.lays215_ren : Go.Shelf.Ren := ⟨fun | 215 => 130 | n => n, fun | 3 => 3 | 4 => 4 | n => n, fun | n => n⟩
theorem Try.lays215 : Go.Proofs.Lays.n215 Try.prog Try.lays215_ren := {
  mixed := by kernel_rfl
  f215 := Try.func130.trans (congrArg some (by kernel_rfl))
  t3 := Try.underlying3
  a3 := Try.isAgg3
  z3 := Try.sizeOf3
  v3 := Try.zeroValue3
  t4 := Try.underlying4
  a4 := Try.isAgg4
  z4 := Try.sizeOf4
  v4 := Try.zeroValue4 }
open Go.RowKit in
/-- cmp.isNaN at int: 'x != x': false. (LAID: no walk: one application.) -/
theorem Try.cmp_isNaN_int (x : Int) (w : World) :
    Calls Try.prog 130 #[.int .i64 x] w fun e w' => e = .returned (.bool false) ∧ w' = w := Any.cmp_isNaN_int Try.lays215 x w
def Try.lays122_ren : Go.Shelf.Ren := ⟨fun | 122 => 115 | 215 => 130 | n => n, fun | 3 => 3 | 4 => 4 | n => n, fun | n => n⟩
theorem Try.lays122 : Go.Proofs.Lays.n122 Try.prog Try.lays122_ren := {
  mixed := by kernel_rfl
  f122 := Try.func115.trans (congrArg some (by kernel_rfl))
  f215 := Try.func130.trans (congrArg some (by kernel_rfl))
  t3 := Try.underlying3
  a3 := Try.isAgg3
  z3 := Try.sizeOf3
  v3 := Try.zeroValue3
  t4 := Try.underlying4
  a4 := Try.isAgg4
  z4 := Try.sizeOf4
  v4 := Try.zeroValue4 }
open Go.RowKit in
/-- cmp.Compare at int: "Compare returns -1 if x is less than y, 0 if x equals y, +1 if x is greater than y.": IT RETURNS 'Lib.compareInt x y'; the world is as it was. (LAID: no walk: one application.) -/
theorem Try.cmp_Compare_int (x y : Int) (w : World) :
    Calls Try.prog 115 #[.int .i64 x, .int .i64 y] w fun e w' => e = .returned (.int .i64 (Lib.compareInt x y)) ∧ w' = w := Any.cmp_Compare_int Try.lays122 x y w
end Go.Proofs.Ytdpohibgipkhnaa
namespace Go.Proofs.Ytdpohibgipkhnaa
open Go.RowKit Go.Sort Go.Proofs.Ytdpohibgipkhnaa.Oct Go.Proofs.Ytdpohibgipkhnaa.St

def cmpN (f g : ElF) : Int := Lib.compareBytes f.1.data.toList g.1.data.toList
theorem cmpN_lt : ltOF cmpN = ltF := rfl
theorem cmpN_any : CmpF 107 cmpN where
  enter := fun _ _ => by kernel_rfl
  call := by
    intro x1 x2 y1 y2 w
    go_enter Try.func107, Try.ntmps107
    go_wp2_with fail
    refine (Try.strings_Compare _ _ _).mono ?_
    rintro e w' ⟨rfl, hw⟩
    subst hw
    go_wp2_with fail
    go_ret
    exact ⟨rfl, (below_new w _).alloc (by simp) _⟩
theorem elVF_eq (l : Flds) : elVF l = fldVals l := rfl
theorem dat_of_own {w : World} {B g n cap : Nat} {l : Flds} (h : w.ownsRow B 31 2 (.slice (some ⟨g, 0, none⟩) n cap) n (fldVals l)) : ∃ rest, DatF w g l rest ∧ (∀ w' L, DatF w' g L rest → L.length = l.length → w'.ownsRow B 31 2 (.slice (some ⟨g, 0, none⟩) n cap) n (fldVals L)) := by
  have h1 := h.1
  rcases h.2 with ⟨he, _⟩ | ⟨g', cap', cur, he, hB, hh, hnc, hcm, hsz, htk⟩
  · cases he
  · injection he with he1 he2 he3
    injection he1 with he1
    injection he1 with he1
    subst he1 he3
    refine ⟨cur.toList.drop (n * 2), ?_, fun w' L hd hL => ?_⟩
    · unfold DatF Blk
      rw [hh, elVF_eq, ← htk, List.take_append_drop]
    · have hl : (fldVals L).length = n * 2 := by rw [fldVals_length, hL, ← fldVals_length l]; exact h1
      refine ⟨hl, .inr ⟨g, cap, _, rfl, hB, hd, hnc, hcm, ?_, ?_⟩⟩
      · rw [elVF_eq]
        simp only [List.size_toArray, List.length_append, hl, List.length_drop, Array.length_toList]
        omega
      · rw [elVF_eq]
        show (fldVals L ++ cur.toList.drop (n * 2)).take (n * 2) = fldVals L
        rw [← hl, List.take_left]
/-- What sorted hands back. -/
def SortedPost (w : World) (l : Flds) (e : Ending) (w' : World) : Prop :=
  ∃ v L, e = .returned v ∧ Sts ltF l L ∧ w'.ownsRow w.heap.size 31 2 v L.length (fldVals L) ∧ Below w.heap.size w w'

set_option maxRecDepth 100000 in
set_option maxHeartbeats 1600000 in
theorem sorted_any (w : World) (x : Option Addr) (n c : Nat) (l : Flds) (h : FldsAt w x n l) (hnc : n ≤ c) (hfew : n ≤ 2000) (hsm : ∀ p ∈ l, p.1.size ≤ 140737488355328) (hlen : (canF l).length < 60000) (hsum : SumLe l 1000000000) :
    Calls Try.prog 88 #[.slice x n c] w (SortedPost w (canF l)) := by
  have HC := Lib.hid (fields_any w x n c l h hnc hfew hsm hlen hsum)
  have HLE := Lib.hid hlen
  clear h hsm hlen hsum
  go_enter Try.func88, Try.ntmps88
  go_wp2_with fail
  refine HC.out.mono ?_
  rintro e w1 ⟨v, rfl, ho, hb1⟩
  have HO := Lib.hid ho
  have HB1 := Lib.hid hb1
  rcases ho.2 with ⟨rfl, h0⟩ | ⟨g, cap, cur, rfl, hg, _⟩
  · have he : canF l = [] := List.eq_nil_of_length_eq_zero h0
    have HE := Lib.hid he
    clear ho hb1 h0 he
    go_wp2_with fail
    refine (ssfF_nil 107 _).mono ?_
    rintro e w2 ⟨rfl, rfl⟩
    have HB2 := HB1
    go_wp2_with fail
    go_ret
    exact ⟨.slice none 0 0, [], rfl, by rw [HE.out]; exact ⟨Srt.nil, Alk.refl _⟩, World.ownsRow_nil _ _ _ _, HB2.out⟩
  · obtain ⟨rest, hd, hback⟩ := dat_of_own ho
    have HD := Lib.hid hd
    have HBK := Lib.hid hback
    have hlt := hd.lt
    clear ho hb1 hd hback
    go_wp2_with fail
    refine (ssfF_any 107 cmpN cmpN_any ltF_swo _ g _ _ (canF l) rest HD.out rfl (by have := HLE.out; omega)).mono ?_
    rintro e w2 ⟨rfl, L, hs, hd2, hg2⟩
    have HS := Lib.hid hs
    have HO2 := Lib.hid (HBK.out w2 L hd2 hs.2.1.symm)
    have HB2 := Lib.hid (HB1.out.grown hg2 HB1.out.size (fun k hk => by injection hk with hk; omega))
    clear hs hd2 hg2
    go_wp2_with fail
    go_ret
    refine ⟨_, L, rfl, HS.out, ?_, HB2.out⟩
    have h2 := HO2.out
    have h3 : (canF l).length = L.length := HS.out.2.1
    rw [h3] at h2 ⊢
    exact h2
theorem sts_str {l L : Flds} {a b : Nat} (h : Sts ltF l L) (hs : ∀ p ∈ l, p.1.size ≤ a ∧ p.2.size ≤ b) : ∀ p ∈ L, p.1.size ≤ a ∧ p.2.size ≤ b := fun p hp => hs p (h.2.symm.mem ltF_swo hp)

set_option maxRecDepth 100000 in
set_option maxHeartbeats 1600000 in
theorem csame_any (w : World) (x y : Option Addr) (n c m d : Nat) (l k : Flds) (h : FldsAt w x n l) (h2 : FldsAt w y m k) (hnc : n ≤ c) (hmd : m ≤ d) (hn : n ≤ 2000) (hm : m ≤ 2000) (hsl : ∀ p ∈ l, p.1.size ≤ 140737488355328) (hsk : ∀ p ∈ k, p.1.size ≤ 140737488355328)
    (hll : (canF l).length < 60000) (hlk : (canF k).length < 60000) (hul : SumLe l 1000000000) (huk : SumLe k 1000000000) :
    Calls Try.prog 47 #[.slice x n c, .slice y m d] w fun e w' => e = .returned (.bool (sameB (canF l) (canF k))) ∧ Below w.heap.size w w' := by
  have H1 := Lib.hid (sorted_any w x n c l h hnc hn hsl hll hul)
  have H2 := Lib.hid (fun w' (hb : Below w.heap.size w w') => sorted_any w' y m d k (h2.below hb) hmd hm hsk hlk huk)
  have S1 := Lib.hid (canTo_str (k := l.length) hsl hul)
  have S2 := Lib.hid (canTo_str (k := k.length) hsk huk)
  have L1 := Lib.hid hll
  have L2 := Lib.hid hlk
  clear h h2 hsl hsk hll hlk hul huk
  go_enter Try.func47, Try.ntmps47
  go_wp2_with fail
  refine H1.out.mono ?_
  rintro e w1 ⟨v1, A, rfl, hs1, ho1, hb1⟩
  have e1 : A.length = (canF l).length := hs1.2.1.symm
  obtain ⟨x1, c1, rfl, _, hF1⟩ := own_flds ho1 (by have := L1.out; omega) (fun p hp => by have := sts_str hs1 S1.out p hp; omega)
  have HF1 := Lib.hid hF1
  have HB1 := Lib.hid hb1
  have HS1 := Lib.hid hs1
  clear hs1 ho1 hb1 e1 hF1
  go_wp2_with fail
  refine (H2.out w1 HB1.out).mono ?_
  rintro e w2 ⟨v2, B, rfl, hs2, ho2, hb2⟩
  have e2 : B.length = (canF k).length := hs2.2.1.symm
  obtain ⟨x2, c2, rfl, _, hF2⟩ := own_flds ho2 (by have := L2.out; omega) (fun p hp => by have := sts_str hs2 S2.out p hp; omega)
  have HF2 := Lib.hid hF2
  have HF1b := Lib.hid (HF1.out.below hb2)
  have HB2 := Lib.hid (grow_trans HB1.out hb2)
  have HS2 := Lib.hid hs2
  clear hs2 ho2 hb2 e2 hF2
  go_wp2_with fail
  refine (eqf_any x1 x2 _ _ _ _ A B _ HF1b.out HF2.out).mono ?_
  rintro e w3 ⟨rfl, hd3⟩
  rw [sorted_same HS1.out HS2.out]
  have HB3 := Lib.hid (HB2.out.trans (hd3.below _))
  clear hd3
  go_wp2_with fail
  go_ret
  exact ⟨rfl, HB3.out⟩
end Go.Proofs.Ytdpohibgipkhnaa
namespace Go.Proofs.Ytdpohibgipkhnaa
open Go.RowKit Go.Sort Go.Proofs.Ytdpohibgipkhnaa.Oct
attribute [local go_sem ↓] Go.wp_at_zero Go.wp_at_succ

theorem kept_grown {w w1 w9 : World} {o : Obj} {r : Option Nat} (B1 : Below w.heap.size w w1) (hg : (w1.alloc o).grownBy w9 r) (b : Nat) : Kept w w9 b r := by
  have hz := B1.size
  refine ⟨hg.os.trans B1.os, hg.tape.trans B1.tape, hg.output.trans B1.output, ?_, fun k hk _ hr => ?_⟩
  · have := hg.size
    simp at this
    omega
  · exact (hg.block k (by simp; omega) hr).trans ((Below.heap_alloc _ _ _ (by omega)).trans (B1.block k hk))
theorem loc_grown {w w1 : World} {o : Obj} {v v' : Value} (B1 : Below w.heap.size w w1) (hat : v'.ownBlock = v.ownBlock ∨ v'.ownBlock = some (w1.alloc o).heap.size) : Loc v v' w.heap.size := by
  have hz := B1.size
  rcases hat with e | e
  · exact .inl e
  · exact .inr ⟨_, e, by simp; omega⟩

set_option maxRecDepth 100000 in
set_option maxHeartbeats 6400000 in
theorem rfields_any (w : World) (x : Option Addr) (n c : Nat) (l : Flds) (h : FldsAt w x n l) (hnc : n ≤ c) (hfew : n ≤ 2000) (hsm : ∀ p ∈ l, p.1.size ≤ 140737488355328) (hlen : (canF l).length < 60000) (hsum : SumLe l 1000000000) :
    Calls Try.prog 48 #[.slice x n c] w (FldsPost w (canF l)) := by
  obtain ⟨i0, hi, hz⟩ := info_hid info_field
  have hl := h.len
  subst hl
  have HA := Lib.hid h
  have HS := Lib.hid hsum
  have HSM := Lib.hid hsm
  have HLE := Lib.hid hlen
  clear h hsum hsm hlen
  go_enter Try.func48, Try.ntmps48
  go_wp2_with fail
  go_loopg [3, 4] l.length (fun gg s3 s4 wr => ∃ (k : Nat) (v : Value), k ≤ l.length ∧ l.length - k ≤ gg ∧ s4 = .int .i64 k ∧ v = s3 ∧ Hid (wr.ownsRow w.heap.size 31 2 v (canTo l k).length (fldVals (canTo l k))) ∧ Hid (Below w.heap.size w wr))
  case atStart => exact ⟨0, _, Nat.zero_le _, by omega, rfl, rfl, World.ownsRow_lit w #[] 0 (Nat.le_refl _) (by decide) rfl, below_new _ _⟩
  case round =>
    obtain ⟨wa, rfl⟩ : ∃ wa, wa = wr := ⟨_, rfl⟩
    obtain ⟨k, v, hk, hgk, rfl, rfl, hown, hbel⟩ := hrel
    by_cases hkl : k < l.length
    · obtain ⟨b, o, rfl, hblt, hcl⟩ := HA.out.at_.resolve_left (by omega)
      have hcw := (hcl k hkl).1
      obtain ⟨f1, hf1⟩ : ∃ f1, f1 = l[k].1 := ⟨_, rfl⟩
      rw [← hf1] at hcw
      have hsm1 : f1.size ≤ 140737488355328 := by rw [hf1]; exact HSM.out _ (List.getElem_mem hkl)
      have hcellAt : ∀ w', Below w.heap.size w w' → w'.cell? ⟨b, o + k * 2, none⟩ = some (.string f1) := fun w' hb' => (hb'.cell (p := ⟨b, o + k * 2, none⟩) hblt).trans hcw
      have HCA := Lib.hid hcellAt
      have HF1 := Lib.hid hf1
      have ca := hcellAt wa hbel.out
      have k1 : (0 : Int) ≤ (k : Int) := by omega
      have k2 : (k : Int) < (l.length : Int) := by omega
      have k3 : (k : Int) ≤ (c : Int) := by omega
      have hlow := hit_low f1 (l.take k)
      have hself : hitB f1 l = true := by
        unfold hitB
        rw [List.any_eq_true]
        exact ⟨l[k], List.getElem_mem hkl, by rw [← HF1.out]; exact fold_self2 f1⟩
      have HSF := Lib.hid hself
      clear hcl hcw hf1 hcellAt hself
      cases hh : hitB f1 (l.take k)
      · rw [hh] at hlow
        have hd0 := hlow.symm
        have HHO : Hid (canTo l (k + 1) = canTo l k ++ oneF l f1) := by
          show _ = _
          have := canTo_new hkl (by rw [← HF1.out]; exact hh)
          rwa [← HF1.out] at this
        clear hlow hh
        go_wp2_with fail
        go_region_held3 (fun w' => w'.cell? ⟨b, o + k * 2, none⟩ = some (.string f1)) (first | go_keep | exact (HCA.out _ B2.out))
          (first
            | (go_at_call 29; refine (rall_any _ _ k _ (l.take k) f1 hsm1 ((HA.out.below (by first | exact hbel.out | exact hbel.out.drew | exact below_drewN hbel.out _)).take k (by omega)) (by omega) (fun p hp => HSM.out p (List.mem_of_mem_take hp))).mono ?_; rintro e w2 ⟨g2, c2, rfl, ho2, hb2⟩; have hb2' : Below wa.heap.size wa w2 := ⟨hb2.os, hb2.tape, hb2.output, hb2.size, hb2.block⟩; have B2 := Lib.hid (grow_trans hbel.out hb2'); have HB2 := Lib.hid hb2'; clear ho2 hb2 hb2'))
        clear ca
        have ca2 := HCA.out _ B2.out
        go_wp2_with fail
        refine (rall_any w2 _ l.length _ l f1 hsm1 (HA.out.below B2.out) (by omega) HSM.out).mono ?_
        rintro e w3 ⟨g3, c3, rfl, ho3, hb3⟩
        have HO3 := Lib.hid ho3
        have B3 := Lib.hid (grow_trans B2.out hb3)
        have HB3 := Lib.hid (grow_trans HB2.out hb3)
        have ca3 := HCA.out _ B3.out
        clear ho3 hb3 ca2 hd0
        go_wp2_with fail
        refine (rsingle_any f1 _ hsm1).mono ?_
        rintro e w4 ⟨rfl, hb4⟩
        have HO4 := Lib.hid (own_below HO3.out hb4)
        have B4 := Lib.hid (grow_trans B3.out hb4)
        have HB4 := Lib.hid (grow_trans HB3.out hb4)
        have hz34 := hb4.size
        clear hb4 ca3
        have hpos : 0 < (allV l f1).length := List.length_pos_iff.2 (allV_hit_pos HSF.out)
        have hal : (allV l f1).length ≤ 2000 := Nat.le_trans (allV_le l f1) hfew
        have hg3 := HO4.out.lt g3 rfl
        have hz24 : w2.heap.size ≤ w4.heap.size := by have := HB4.out.size; have := hg3; omega
        have hmem : ∀ s ∈ allV l f1, s.size ≤ 9223372036854775807 := fun s hs => by
          obtain ⟨p, hp, he⟩ := allV_mem hs
          rw [← he]
          exact (HA.out.str p hp).2
        have HME := Lib.hid hmem
        have hsu := HS.out f1
        have hsu2 : sumS (allV l f1) + 2 * (allV l f1).length ≤ 1000000000 := hsu
        have hwa2 : wa.heap.size ≤ w2.heap.size := HB2.out.size
        clear hmem hsu
        cases hsg : singB f1
        case' false =>
          have HOE : Hid (oneF l f1 = [joinB (allV l f1)].map (fun s => (nameS f1, trimS s))) := by show _ = _; rw [oneF_join hsg]; rfl
          have hst := StrsArg.of_owned HO4.out (by omega) HME.out
          have HST := Lib.hid hst
          clear hsg hst
          go_wp2_with fail
          refine (rjoin_any _ _ _ _ (allV l f1) HST.out hsu2).mono ?_
          rintro e w5' ⟨rfl, rfl⟩
          go_wp2_with fail
          obtain ⟨ss, hss⟩ : ∃ ss, ss = [joinB (allV l f1)] := ⟨_, rfl⟩
          have hssl : ss.length = 1 := by rw [hss]; rfl
          obtain ⟨w5, hw5⟩ : ∃ w5, w5 = w4.alloc (.cells #[.string (joinB (allV l f1))] 9) := ⟨_, rfl⟩
          obtain ⟨ga, hga⟩ : ∃ ga, ga = w4.heap.size := ⟨_, rfl⟩
          have HSS : Hid (ga < w5.heap.size ∧ wa.heap.size ≤ ga ∧ (∀ j (hj : j < ss.length), w5.cell? ⟨ga, j, none⟩ = some (.string ss[j])) ∧ ∀ s ∈ ss, s.size ≤ 9223372036854775807) := by
            refine ⟨by rw [hw5, hga]; simp, by rw [hga]; exact HB4.out.size, fun j hj => ?_, fun s hs => ?_⟩
            · have hj0 : j = 0 := by omega
              subst hj0
              rw [hw5, hga]
              simp only [hss]
              exact (Blk.new w4 9 #[.string (joinB (allV l f1))]).cell 0
            · rw [hss, List.mem_singleton] at hs
              rw [hs]
              have := joinB_size (allV l f1)
              omega
          have BB5 : Hid (Below wa.heap.size wa w5) := by rw [hw5]; exact grow_trans HB4.out (below_new w4 _)
          rw [← hss] at HOE
          rw [← hw5, ← hga, show Value.slice (some ⟨ga, 0, none⟩) 1 1 = .slice (some ⟨ga, 0, none⟩) ss.length 1 by rw [hssl]]
          have hsl2 : ss.length ≤ 2000 := by omega
          clear HO4 HB4 hg3 HST hss hw5 hga hssl
        case' true =>
          have HOE : Hid (oneF l f1 = (allV l f1).map (fun s => (nameS f1, trimS s))) := by show _ = _; rw [oneF_sing hsg]
          clear hsg
          go_wp2_with fail
          obtain ⟨ss, hss⟩ : ∃ ss, ss = allV l f1 := ⟨_, rfl⟩
          obtain ⟨w5, hw5⟩ : ∃ w5, w5 = w4 := ⟨_, rfl⟩
          obtain ⟨ga, hga⟩ : ∃ ga, ga = g3 := ⟨_, rfl⟩
          rw [← hss, ← hga] at HO4
          have HSS : Hid (ga < w5.heap.size ∧ wa.heap.size ≤ ga ∧ (∀ j (hj : j < ss.length), w5.cell? ⟨ga, j, none⟩ = some (.string ss[j])) ∧ ∀ s ∈ ss, s.size ≤ 9223372036854775807) := by
            refine ⟨by rw [hw5, hga]; exact hg3.2, by rw [hga]; omega, fun j hj => ?_, by rw [hss]; exact HME.out⟩
            rw [hw5]
            refine (HO4.out.cellAt j (by omega)).trans ?_
            unfold strVals
            rw [List.getElem?_map, List.getElem?_eq_getElem hj]
            rfl
          have BB5 : Hid (Below wa.heap.size wa w5) := by rw [hw5]; exact HB4.out
          rw [← hss] at HOE hal
          rw [← hw5, ← hga, ← hss]
          have hsl2 : ss.length ≤ 2000 := hal
          clear HO4 HB4 hg3 hss hw5 hga
        all_goals
          have hrowv : ∀ g, v.ownBlock = some g → w.heap.size ≤ g ∧ g < wa.heap.size := fun g hg => hown.out.lt g hg
          have HRW := Lib.hid hrowv
          have HO5 := Lib.hid (own_below hown.out BB5.out)
          have hz5 := BB5.out.size
          have hz0 := hbel.out.size
          have B5 := Lib.hid (hbel.out.trans (BB5.out.mono hbel.out.size))
          have HCL : Hid ((canTo l k).length + ss.length < 60000) := by
            have h1 := canTo_le l (k + 1) (by omega)
            have h2 := HLE.out
            rw [HHO.out, HOE.out, List.length_append, List.length_map] at h1
            show _ < _
            omega
          clear hrowv
          go_wp2_with fail
          go_loopg [3, 6] ss.length (fun gg s3 s6 wr => ∃ (j : Nat) (v' : Value), j ≤ ss.length ∧ ss.length - j ≤ gg ∧ s6 = .int .i64 j ∧ v' = s3 ∧ Hid (wr.ownsRow w.heap.size 31 2 v' ((canTo l k).length + j) (fldVals (canTo l k ++ (ss.take j).map (fun s => (nameS f1, trimS s))))) ∧ Hid (Loc v v' w5.heap.size) ∧ Hid (Kept w5 wr w5.heap.size v.ownBlock))
          case atStart => exact ⟨0, v, Nat.zero_le _, by omega, rfl, rfl, (by show World.ownsRow _ _ _ _ _ _ _; simpa using HO5.out), Loc.refl _ _, Kept.refl _ _ _⟩
          case round =>
            obtain ⟨wb, rfl⟩ : ∃ wb, wb = wr := ⟨_, rfl⟩
            obtain ⟨j, v', hj, hgj, rfl, rfl, ho, hlc, hkp⟩ := hrel
            have hzq := hkp.out.size
            have HBW : Hid (Below w.heap.size w wb) := B5.out.trans (hkp.out.below (by omega) (by omega) (fun g hg => (HRW.out g hg).1))
            by_cases hjl : j < ss.length
            · obtain ⟨s, hs⟩ : ∃ s, s = ss[j] := ⟨_, rfl⟩
              obtain ⟨hgl, hgw, hgc, hgs⟩ := HSS.out
              have hss : s.size ≤ 9223372036854775807 := hgs s (by rw [hs]; exact List.getElem_mem hjl)
              have hcg : wb.cell? ⟨ga, j, none⟩ = some (.string s) := by
                have h1 := hkp.out.block ga hgl (by omega) (fun e => by have := HRW.out _ e.symm; omega)
                rw [hs]
                exact (World.cell?_of_block (w := w5) (a := ⟨ga, j, none⟩) h1).trans (hgc j hjl)
              have HCG : Hid (∀ w', Below wb.heap.size wb w' → w'.cell? ⟨ga, j, none⟩ = some (.string s)) := fun w' hb' => (hb'.cell (p := ⟨ga, j, none⟩) (by show ga < _; omega)).trans hcg
              have HCF : Hid (∀ w', Below wb.heap.size wb w' → w'.cell? ⟨b, o + k * 2, none⟩ = some (.string f1)) := fun w' hb' => HCA.out _ (HBW.out.trans (hb'.mono HBW.out.size))
              have hcf := HCA.out _ HBW.out
              have HTK : Hid (fldVals (canTo l k ++ (ss.take (j + 1)).map (fun s => (nameS f1, trimS s))) = fldVals (canTo l k ++ (ss.take j).map (fun s => (nameS f1, trimS s))) ++ [.string (nameS f1), .string (trimS s)]) := by
                show _ = _
                rw [List.take_succ_eq_append_getElem hjl, List.map_append, ← hs, ← List.append_assoc]
                exact fldVals_snoc _ _ _
              have HLL : Hid ((canTo l k).length + j + 1 < 60000) := by have := HCL.out; show _ < _; omega
              have j1 : (0 : Int) ≤ (j : Int) := by omega
              have j2 : (j : Int) < (ss.length : Int) := by omega
              clear hs hgc hgs
              go_wp2_with fail
              go_region_law (first
                | (refine step_append_any _ (by rfl) (.tmp 48) (.tmp 61) _ (by rfl) w.heap.size 31 i0 _ 2 32 Try.underlying22 hi.out hz.out.1 hz.out.2.1 hz.out.2.2 rfl (by omega) v' ((canTo l k).length + j) _ (by rfl) ((own_below ho.out B1.out).alloc _) _ _ 1 1 [.string (nameS f1), .string (trimS s)] (by rfl) (reads_new _ _ _ 2 rfl) (one_fld _ _) (by have := HLL.out; unfold maxLen; omega) (by have := HLL.out; omega) (Nat.le_trans HBW.out.size (Nat.le_trans B1.out.size (by simp))) ?_; intro v9 w9 hown9 hg9 hat9; have HO9 := Lib.hid hown9; have HG9 := Lib.hid hg9; have HA9 := Lib.hid hat9; clear hown9 hg9 hat9)
                | (go_simp; go_at_call 41; refine (rname_any f1 _ hsm1).mono ?_; rintro e w1 ⟨rfl, hb1⟩; have B1 : Hid (Below wb.heap.size wb w1) := (⟨hb1.os, hb1.tape, hb1.output, hb1.size, hb1.block⟩ : Below wb.heap.size wb w1); have hc1 := HCF.out _ B1.out; have hd1 := HCG.out _ B1.out; clear hb1)
                | (go_simp; go_at_call 89; refine (rtrim_any s _ hss).mono ?_; rintro e w2 ⟨rfl, rfl⟩))
              all_goals
                have HLC := Lib.hid (hlc.out.trans (loc_grown B1.out HA9.out) hzq)
                have HKP := Lib.hid (hkp.out.trans (kept_grown B1.out HG9.out w5.heap.size) hlc.out)
                have hox := HO9.out
                rw [← HTK.out] at hox
                have HOX := Lib.hid hox
                clear hox hc1 hd1
                go_wp2_with fail
                go_roundg (ss.length - (j + 1))
                case measure => omega
                case rel => exact ⟨j + 1, v9, by omega, Nat.le_refl _, by go_num, rfl, HOX.out, HLC.out, HKP.out⟩
            · obtain rfl : ss.length = j := by omega
              have HOF : Hid (wb.ownsRow w.heap.size 31 2 v' (canTo l (k + 1)).length (fldVals (canTo l (k + 1)))) := by
                show World.ownsRow _ _ _ _ _ _ _
                have h1 := ho.out
                rw [List.take_length, ← HOE.out, ← HHO.out] at h1
                have h2 : (canTo l k).length + ss.length = (canTo l (k + 1)).length := by rw [HHO.out, HOE.out, List.length_append, List.length_map]
                rwa [h2] at h1
              go_wp2_with fail
              go_roundg (l.length - (k + 1))
              case measure => omega
              case rel => exact ⟨k + 1, v', by omega, Nat.le_refl _, by go_num, rfl, HOF.out, HBW.out⟩
      · rw [hh] at hlow
        have hd0 := hlow.symm
        have HCT : Hid (canTo l (k + 1) = canTo l k) := by show _ = _; exact canTo_hit hkl (by rw [← HF1.out]; exact hh)
        clear hlow hh
        go_wp2_with fail
        go_region_held3 (fun w' => w'.cell? ⟨b, o + k * 2, none⟩ = some (.string f1)) (first | go_keep | exact (HCA.out _ B2.out))
          (first
            | (go_at_call 29; refine (rall_any _ _ k _ (l.take k) f1 hsm1 ((HA.out.below (by first | exact hbel.out | exact hbel.out.drew | exact below_drewN hbel.out _)).take k (by omega)) (by omega) (fun p hp => HSM.out p (List.mem_of_mem_take hp))).mono ?_; rintro e w2 ⟨g2, c2, rfl, ho2, hb2⟩; have hb2' : Below wa.heap.size wa w2 := ⟨hb2.os, hb2.tape, hb2.output, hb2.size, hb2.block⟩; have B2 := Lib.hid (grow_trans hbel.out hb2'); have HB2 := Lib.hid hb2'; clear ho2 hb2 hb2'))
        have HO2 := Lib.hid (own_below hown.out HB2.out)
        go_wp2_with fail
        go_roundg (l.length - (k + 1))
        case measure => omega
        case rel => exact ⟨k + 1, v, by omega, Nat.le_refl _, by go_num, rfl, (by rw [HCT.out]; exact HO2.out), B2.out⟩
    · obtain rfl : l.length = k := by omega
      go_wp2_with fail
      go_ret
      exact ⟨_, rfl, hown.out, hbel.out⟩
end Go.Proofs.Ytdpohibgipkhnaa
namespace Go.Proofs.Ytdpohibgipkhnaa
open Go.RowKit Go.Sort Go.Proofs.Ytdpohibgipkhnaa.Oct
attribute [local go_sem ↓] Go.wp_at_zero Go.wp_at_succ

def lineS (p : ByteArray × ByteArray) : ByteArray := p.1 ++ ⟨#[58, 32]⟩ ++ p.2
def linesS (l : Flds) : List ByteArray := l.map lineS
theorem linesS_take (l : Flds) (k : Nat) (hk : k < l.length) : linesS (l.take (k + 1)) = linesS (l.take k) ++ [lineS l[k]] := by
  unfold linesS
  rw [List.take_succ_eq_append_getElem hk, List.map_append]; rfl
theorem linesS_len (l : Flds) (k : Nat) (hk : k ≤ l.length) : (linesS (l.take k)).length = k := by unfold linesS; rw [List.length_map, List.length_take]; omega
theorem lineS_size (p : ByteArray × ByteArray) : (lineS p).size = p.1.size + 2 + p.2.size := by
  unfold lineS
  rw [ByteArray.size_append, ByteArray.size_append]; rfl
theorem linesS_str {l : Flds} {a b : Nat} (h : ∀ p ∈ l, p.1.size ≤ a ∧ p.2.size ≤ b) : ∀ s ∈ linesS l, s.size ≤ a + 2 + b := by
  intro s hs
  obtain ⟨p, hp, rfl⟩ := List.mem_map.1 hs
  have := h p hp
  rw [lineS_size]; omega
/-- What Lines hands back. -/
def LinesPost (w : World) (ss : List ByteArray) (e : Ending) (w' : World) : Prop :=
  ∃ v, e = .returned v ∧ w'.ownsRow w.heap.size 9 1 v ss.length (strVals ss) ∧ Below w.heap.size w w'

set_option maxRecDepth 100000 in
set_option maxHeartbeats 3200000 in
theorem lines_any (w : World) (x : Option Addr) (n c : Nat) (l : Flds) (h : FldsAt w x n l) (hnc : n ≤ c) (hfew : n ≤ 2000) (hsm : ∀ p ∈ l, p.1.size ≤ 1000000) (hlen : (canF l).length < 60000) (hsum : SumLe l 1000000000) :
    Calls Try.prog 50 #[.slice x n c] w (LinesPost w (linesS (canF l))) := by
  obtain ⟨i0, hi, hz⟩ := info_hid info_string
  have HC := Lib.hid (fields_any w x n c l h hnc hfew (fun p hp => by have := hsm p hp; omega) hlen hsum)
  have HST := Lib.hid (canTo_str (k := l.length) hsm hsum)
  have HLE := Lib.hid hlen
  clear h hsm hlen hsum
  go_enter Try.func50, Try.ntmps50
  go_wp2_with fail
  refine HC.out.mono ?_
  rintro e w1 ⟨v, rfl, ho, hb1⟩
  obtain ⟨X, hX⟩ : ∃ X, X = canF l := ⟨_, rfl⟩
  have hX2 : X = canTo l l.length := hX
  rw [← hX] at ho HLE ⊢
  rw [← hX2] at HST
  obtain ⟨x1, c1, rfl, hcc, hF1⟩ := own_flds ho (by have := HLE.out; omega) (fun p hp => by have := HST.out p hp; omega)
  have hXl := HLE.out
  have HF := Lib.hid hF1
  have HB1 := Lib.hid hb1
  have hz1 := hb1.size
  have HX := Lib.hid hX
  clear ho hb1 hF1 hX hX2 hcc
  go_wp2_with fail
  go_loopg [3, 9] X.length (fun gg s3 s9 wr => ∃ (k : Nat) (v : Value), k ≤ X.length ∧ X.length - k ≤ gg ∧ s9 = .int .i64 k ∧ v = s3 ∧ Hid (wr.ownsRow w1.heap.size 9 1 v k (strVals (linesS (X.take k)))) ∧ Hid (Below w1.heap.size w1 wr))
  case atStart => exact ⟨0, _, Nat.zero_le _, by omega, rfl, rfl, World.ownsRow_nil _ _ _ _, Below.refl _ _⟩
  case round =>
    obtain ⟨k, v, hk, hgk, rfl, rfl, hown, hbel⟩ := hrel
    by_cases hkl : k < X.length
    · obtain ⟨b, o, f, rfl, hl2, hf, hc1, hc2, hs1, hs2⟩ := (HF.out.below hbel.out).get k hkl
      have hss := HST.out f (by rw [hf]; exact List.getElem_mem hl2)
      have htk := linesS_take X k hl2
      rw [← hf] at htk
      obtain ⟨f1, f2⟩ := f
      simp only at hc1 hc2 hs1 hs2 hss
      have i2 : f1.size + 2 + f2.size ≤ 2000000000 := by omega
      have zr := hbel.out.size
      have HT : Hid (strVals (linesS (X.take k)) ++ [.string (f1 ++ (⟨#[58, 32]⟩ : ByteArray) ++ f2)] = strVals (linesS (X.take (k + 1)))) := by show _ = _; rw [htk, strVals_snoc]; rfl
      clear htk hf hss
      have hform : v = .slice none 0 0 ∨ ∃ g' c', v = .slice (some ⟨g', 0, none⟩) k c' := by
        rcases hown.out.2 with ⟨h, _⟩ | ⟨g', c', _, h, _⟩
        · exact .inl h
        · exact .inr ⟨g', c', h⟩
      have H5 : Hid (k + 1 ≤ maxLen) := by show _ ≤ _; unfold maxLen; omega
      have H6 : Hid ((k + 1) * 16 ≤ 140737488355328) := by show _ ≤ _; omega
      have HO := Lib.hid (hown.out.alloc (.cells #[.string f1, .string f2] 31))
      have z3 : w1.heap.size ≤ (wr.alloc (.cells #[.string f1, .string f2] 31)).heap.size := by simp; omega
      have Z3 := Lib.hid z3
      clear z3
      have HRD : Hid (Reads ((wr.alloc (.cells #[.string f1, .string f2] 31)).alloc (.cells #[.string (f1 ++ (⟨#[58, 32]⟩ : ByteArray) ++ f2)] 9)) (wr.heap.size + 1 + 1) 1 (some ⟨wr.heap.size + 1, 0, none⟩) 1 [.string (f1 ++ (⟨#[58, 32]⟩ : ByteArray) ++ f2)]) := by
        have := reads_new (wr.alloc (.cells #[.string f1, .string f2] 31)) [.string (f1 ++ (⟨#[58, 32]⟩ : ByteArray) ++ f2)] 9 1 rfl
        rw [World.size_alloc] at this
        exact this
      rcases hform with rfl | ⟨g', c', rfl⟩
      all_goals
        go_wp2_with (at_builtin; refine wpList_append_any _ rfl (.tmp 13) (.tmp 20) 35 rfl w1.heap.size 9 i0 _ 1 16 Try.underlying35 hi.out hz.out.1 hz.out.2.1 hz.out.2.2 rfl (by decide) _ k _ rfl (HO.out.alloc _) (wr.heap.size + 1 + 1) (some ⟨wr.heap.size + 1, 0, none⟩) 1 1 [.string (f1 ++ (⟨#[58, 32]⟩ : ByteArray) ++ f2)] rfl HRD.out (one_str _) H5.out H6.out (Nat.le_trans Z3.out (by simp)) ?_; intro v4 w4 hown4 hgrow4 hat4; obtain ⟨g4, cap4, rfl, _, _⟩ := hown4.form (Nat.succ_pos _); have O4 := Lib.hid hown4; have G4 := Lib.hid ((World.grownBy_alloc _ _ _).trans hgrow4); clear hown4 hgrow4 hat4)
        have HBW := Lib.hid (below_owned (hbel.out.alloc zr _) Z3.out HO.out G4.out)
        go_roundg (X.length - (k + 1))
        case measure => omega
        case rel => exact ⟨k + 1, _, by omega, Nat.le_refl _, by go_num, rfl, (by have := O4.out; rw [HT.out] at this; exact this), HBW.out⟩
    · obtain rfl : X.length = k := by omega
      have ho9 := hown.out
      rw [List.take_length] at ho9
      have HO9 := Lib.hid ho9
      clear ho9
      go_wp2_with fail
      go_ret
      refine ⟨_, rfl, own_mono ?_ hz1, HB1.out.trans (hbel.out.mono hz1)⟩
      have e : (linesS X).length = X.length := by unfold linesS; rw [List.length_map]
      rw [← HX.out, e]
      exact HO9.out

set_option maxRecDepth 100000 in
set_option maxHeartbeats 3200000 in
theorem rlines_any (w : World) (x : Option Addr) (n c : Nat) (l : Flds) (h : FldsAt w x n l) (hnc : n ≤ c) (hfew : n ≤ 2000) (hsm : ∀ p ∈ l, p.1.size ≤ 1000000) (hlen : (canF l).length < 60000) (hsum : SumLe l 1000000000) :
    Calls Try.prog 51 #[.slice x n c] w (LinesPost w (linesS (canF l))) := by
  obtain ⟨i0, hi, hz⟩ := info_hid info_string
  have HC := Lib.hid (rfields_any w x n c l h hnc hfew (fun p hp => by have := hsm p hp; omega) hlen hsum)
  have HST := Lib.hid (canTo_str (k := l.length) hsm hsum)
  have HLE := Lib.hid hlen
  clear h hsm hlen hsum
  go_enter Try.func51, Try.ntmps51
  go_wp2_with fail
  refine HC.out.mono ?_
  rintro e w1 ⟨v, rfl, ho, hb1⟩
  obtain ⟨X, hX⟩ : ∃ X, X = canF l := ⟨_, rfl⟩
  have hX2 : X = canTo l l.length := hX
  rw [← hX] at ho HLE ⊢
  rw [← hX2] at HST
  obtain ⟨x1, c1, rfl, hcc, hF1⟩ := own_flds ho (by have := HLE.out; omega) (fun p hp => by have := HST.out p hp; omega)
  have hXl := HLE.out
  have HF := Lib.hid hF1
  have HB1 := Lib.hid hb1
  have hz1 := hb1.size
  have HX := Lib.hid hX
  clear ho hb1 hF1 hX hX2 hcc
  go_wp2_with fail
  go_loopg [4, 5] X.length (fun gg s4 s5 wr => ∃ (k : Nat) (v : Value), k ≤ X.length ∧ X.length - k ≤ gg ∧ s5 = .int .i64 k ∧ v = s4 ∧ Hid (wr.ownsRow w1.heap.size 9 1 v k (strVals (linesS (X.take k)))) ∧ Hid (Below w1.heap.size w1 wr))
  case atStart => exact ⟨0, _, Nat.zero_le _, by omega, rfl, rfl, World.ownsRow_lit w1 #[] 0 (Nat.le_refl _) (by decide) rfl, below_new _ _⟩
  case round =>
    obtain ⟨k, v, hk, hgk, rfl, rfl, hown, hbel⟩ := hrel
    by_cases hkl : k < X.length
    · obtain ⟨b, o, rfl, hblt, hcl⟩ := HF.out.at_.resolve_left (by omega)
      obtain ⟨hc1, hc2⟩ := hcl k hkl
      have hss := HST.out _ (List.getElem_mem hkl)
      have htk := linesS_take X k hkl
      obtain ⟨⟨f1, f2⟩, hf⟩ : ∃ f, f = X[k] := ⟨_, rfl⟩
      rw [← hf] at htk hc1 hc2 hss
      simp only at hc1 hc2 hss
      have hd1 : wr.cell? ⟨b, o + k * 2, none⟩ = some (.string f1) := (hbel.out.cell (p := ⟨b, o + k * 2, none⟩) hblt).trans hc1
      have hd2 : wr.cell? ⟨b, o + k * 2 + 1, none⟩ = some (.string f2) := (hbel.out.cell (p := ⟨b, o + k * 2 + 1, none⟩) hblt).trans hc2
      have i2 : f1.size + 2 + f2.size ≤ 2000000000 := by omega
      have zr := hbel.out.size
      have hbw : b < wr.heap.size := by omega
      have HT : Hid (strVals (linesS (X.take k)) ++ [.string (f1 ++ (⟨#[58, 32]⟩ : ByteArray) ++ f2)] = strVals (linesS (X.take (k + 1)))) := by show _ = _; rw [htk, strVals_snoc]; rfl
      clear htk hf hss hcl hc1 hc2
      have i3 : ¬ 9223372036854775807 < f1.size + 2 := by omega
      have i4 : ¬ 9223372036854775807 < f1.size + 2 + f2.size := by omega
      have hform : v = .slice none 0 0 ∨ ∃ g' c', v = .slice (some ⟨g', 0, none⟩) k c' := by
        rcases hown.out.2 with ⟨h, _⟩ | ⟨g', c', _, h, _⟩
        · exact .inl h
        · exact .inr ⟨g', c', h⟩
      have H5 : Hid (k + 1 ≤ maxLen) := by show _ ≤ _; unfold maxLen; omega
      have H6 : Hid ((k + 1) * 16 ≤ 140737488355328) := by show _ ≤ _; omega
      have HOA : Hid ((wr.alloc (.cells #[.string (f1 ++ (⟨#[58, 32]⟩ : ByteArray) ++ f2)] 9)).drew.ownsRow w1.heap.size 9 1 v k (strVals (linesS (X.take k)))) := hown.out.alloc _
      have HRD : Hid (Reads (wr.alloc (.cells #[.string (f1 ++ (⟨#[58, 32]⟩ : ByteArray) ++ f2)] 9)).drew (wr.heap.size + 1) 1 (some ⟨wr.heap.size, 0, none⟩) 1 [.string (f1 ++ (⟨#[58, 32]⟩ : ByteArray) ++ f2)]) := (reads_new wr [.string (f1 ++ (⟨#[58, 32]⟩ : ByteArray) ++ f2)] 9 1 rfl).drew
      have HZR : Hid (w1.heap.size ≤ (wr.alloc (.cells #[.string (f1 ++ (⟨#[58, 32]⟩ : ByteArray) ++ f2)] 9)).drew.heap.size) := by show _ ≤ (wr.alloc _).heap.size; rw [World.size_alloc]; omega
      go_wp2_with fail
      go_region_law (first
        | (refine step_append_any _ (by rfl) (.tmp 15) (.tmp 28) _ (by rfl) w1.heap.size 9 i0 _ 1 16 Try.underlying35 hi.out hz.out.1 hz.out.2.1 hz.out.2.2 rfl (by decide) v k _ (by rfl) HOA.out (wr.heap.size + 1) (some ⟨wr.heap.size, 0, none⟩) 1 1 [.string (f1 ++ (⟨#[58, 32]⟩ : ByteArray) ++ f2)] (by rfl) HRD.out (one_str _) H5.out H6.out HZR.out ?_; intro v4 w4 hown4 hgrow4 hat4; have O4 := Lib.hid hown4; have G4 := Lib.hid hgrow4; clear hown4 hgrow4 hat4))
      all_goals
        have HGW : Hid (wr.grownBy w4 v.ownBlock) := (World.grownBy_alloc wr (.cells #[.string (f1 ++ (⟨#[58, 32]⟩ : ByteArray) ++ f2)] 9) v.ownBlock).trans ⟨G4.out.os, G4.out.tape, G4.out.output, G4.out.size, G4.out.block⟩
        have HBW := Lib.hid (below_owned hbel.out zr hown.out HGW.out)
        go_wp2_with fail
        go_roundg (X.length - (k + 1))
        case measure => omega
        case rel => exact ⟨k + 1, v4, by omega, Nat.le_refl _, by go_num, rfl, (by have := O4.out; rw [HT.out] at this; exact this), HBW.out⟩
    · obtain rfl : X.length = k := by omega
      have ho9 := hown.out
      rw [List.take_length] at ho9
      have HO9 := Lib.hid ho9
      clear ho9
      go_wp2_with fail
      go_ret
      refine ⟨_, rfl, own_mono ?_ hz1, HB1.out.trans (hbel.out.mono hz1)⟩
      have e : (linesS X).length = X.length := by unfold linesS; rw [List.length_map]
      rw [← HX.out, e]
      exact HO9.out
end Go.Proofs.Ytdpohibgipkhnaa
namespace Go.Proofs.Ytdpohibgipkhnaa
open Go.RowKit Go.Sort Go.Proofs.Ytdpohibgipkhnaa.Oct
attribute [local go_sem ↓] Go.wp_at_zero Go.wp_at_succ

theorem sameB_of {A B : Flds} (hl : A.length = B.length) (h : ∀ j (hj : j < A.length), allV A A[j].1 = allV B A[j].1) : sameB A B = true := by
  unfold sameB
  rw [Bool.and_eq_true, decide_eq_true_eq, List.all_eq_true]
  refine ⟨hl, fun p hp => ?_⟩
  obtain ⟨j, hj, rfl⟩ := List.mem_iff_getElem.1 hp
  exact decide_eq_true (h j hj)
theorem sameB_len {A B : Flds} (hl : A.length ≠ B.length) : sameB A B = false := by
  unfold sameB
  rw [decide_eq_false hl]; rfl
theorem sameB_not {A B : Flds} {j : Nat} (hj : j < A.length) (h : allV A A[j].1 ≠ allV B A[j].1) : sameB A B = false := by
  unfold sameB
  have : (A.all fun p => decide (allV A p.1 = allV B p.1)) = false := by
    rw [List.all_eq_false]
    exact ⟨A[j], List.getElem_mem hj, by simpa using h⟩
  rw [this, Bool.and_false]

set_option maxRecDepth 100000 in
set_option maxHeartbeats 6400000 in
theorem rcsame_any (w : World) (x y : Option Addr) (n c m d : Nat) (l k : Flds) (h : FldsAt w x n l) (h2 : FldsAt w y m k) (hnc : n ≤ c) (hmd : m ≤ d) (hn : n ≤ 2000) (hm : m ≤ 2000) (hsl : ∀ p ∈ l, p.1.size ≤ 140737488355328) (hsk : ∀ p ∈ k, p.1.size ≤ 140737488355328)
    (hll : (canF l).length < 60000) (hlk : (canF k).length < 60000) (hul : SumLe l 1000000000) (huk : SumLe k 1000000000) :
    Calls Try.prog 49 #[.slice x n c, .slice y m d] w fun e w' => e = .returned (.bool (sameB (canF l) (canF k))) ∧ Below w.heap.size w w' := by
  have H1 := Lib.hid (rfields_any w x n c l h hnc hn hsl hll hul)
  have H2 := Lib.hid (fun w' (hb : Below w.heap.size w w') => rfields_any w' y m d k (h2.below hb) hmd hm hsk hlk huk)
  have S1 := Lib.hid (canTo_str (k := l.length) hsl hul)
  have S2 := Lib.hid (canTo_str (k := k.length) hsk huk)
  obtain ⟨A, hA⟩ : ∃ A, A = canF l := ⟨_, rfl⟩
  obtain ⟨B, hB⟩ : ∃ B, B = canF k := ⟨_, rfl⟩
  have hA' : A = canTo l l.length := hA
  have hB' : B = canTo k k.length := hB
  rw [← hA] at H1 hll ⊢
  rw [← hB] at H2 hlk ⊢
  rw [← hA'] at S1
  rw [← hB'] at S2
  clear h h2 hsl hsk hul huk hA hB hA' hB'
  go_enter Try.func49, Try.ntmps49
  go_wp2_with fail
  refine H1.out.mono ?_
  rintro e w1 ⟨v1, rfl, ho1, hb1⟩
  obtain ⟨x1, c1, rfl, _, hF1⟩ := own_flds ho1 (by omega) (fun p hp => by have := S1.out p hp; omega)
  have HF1 := Lib.hid hF1
  have HB1 := Lib.hid hb1
  clear ho1 hb1 hF1
  go_wp2_with fail
  refine (H2.out w1 HB1.out).mono ?_
  rintro e w2 ⟨v2, rfl, ho2, hb2⟩
  obtain ⟨x2, c2, rfl, _, hF2⟩ := own_flds ho2 (by omega) (fun p hp => by have := S2.out p hp; omega)
  have HF2 := Lib.hid hF2
  have HF1b := Lib.hid (HF1.out.below hb2)
  have HB2 := Lib.hid (grow_trans HB1.out hb2)
  have P1 := Lib.hid (fun p (hp : p ∈ A) => (S1.out p hp).1)
  have P2 := Lib.hid (fun p (hp : p ∈ B) => (S2.out p hp).1)
  have Q1 : Hid (∀ f, ∀ s ∈ allV A f, s.size ≤ 9223372036854775807) := fun f s hs => by
    obtain ⟨p, hp, rfl⟩ := allV_mem hs
    have := S1.out p hp; omega
  have Q2 : Hid (∀ f, ∀ s ∈ allV B f, s.size ≤ 9223372036854775807) := fun f s hs => by
    obtain ⟨p, hp, rfl⟩ := allV_mem hs
    have := S2.out p hp; omega
  clear ho2 hb2 hF2 HF1 H1 H2 S1 S2
  by_cases hlen : A.length = B.length
  · have hi1 : ((A.length : Int) != (B.length : Int)) = false := by rw [hlen]; simp
    have HLN := Lib.hid hlen
    clear hlen
    go_wp2_with fail
    go_loopg [7] A.length (fun gg s7 wr => ∃ q : Nat, q ≤ A.length ∧ A.length - q ≤ gg ∧ s7 = .int .i64 q ∧ Hid (∀ j (hj : j < A.length), j < q → allV A A[j].1 = allV B A[j].1) ∧ Hid (Below w2.heap.size w2 wr))
    case atStart => exact ⟨0, Nat.zero_le _, by omega, rfl, fun j _ hj => absurd hj (Nat.not_lt_zero _), Below.refl _ _⟩
    case round =>
      obtain ⟨q, hq, hgq, rfl, hall, hbel⟩ := hrel
      by_cases hql : q < A.length
      · obtain ⟨b, o, f, rfl, hl2, hf, hc1, _, hs1, _⟩ := (HF1b.out.below hbel.out).get q hql
        have hsm1 : f.1.size ≤ 140737488355328 := by rw [hf]; exact P1.out _ (List.getElem_mem hl2)
        have hblt : b < w2.heap.size := by
          rcases HF1b.out.at_ with e | ⟨b', o', e, hb', _⟩
          · omega
          · injection e with e; injection e with e; omega
        have HLT : Hid (b < wr.heap.size) := by have := hbel.out.size; show _ < _; omega
        obtain ⟨f1, f2⟩ := f
        simp only at hc1 hs1 hsm1
        have HF : Hid (A[q].1 = f1) := by show _ = _; rw [← hf]
        have LA : Hid ((allV A f1).length ≤ 9223372036854775807) := by show _ ≤ _; have := allV_le A f1; omega
        have LB : Hid ((allV B f1).length ≤ 9223372036854775807) := by show _ ≤ _; have := allV_le B f1; omega
        have B0 := Lib.hid (Below.refl wr.heap.size wr)
        clear hf
        by_cases heq : allV A f1 = allV B f1
        · have HE : Hid (∀ j (hj : j < A.length), j < q + 1 → allV A A[j].1 = allV B A[j].1) := fun j hj hjq => by
            by_cases e : j = q
            · subst e; rw [HF.out]; exact heq
            · exact hall.out j hj (by omega)
          have HD := Lib.hid (decide_eq_true heq)
          clear heq
          go_wp2_with fail
          go_region_held3 (fun w' => w'.cell? ⟨b, o + q * 2, none⟩ = some (.string f1)) (go_keep)
            (first
              | (go_at_call 30; have hg := G3; clear hg; refine (rsame_any _ _ _ _ _ _ (allV A f1) (allV B f1) _ (by first | exact G2.out | exact G2.out.below (Below.refl _ _).drew | exact G2.out.below (below_drewN (Below.refl _ _) _)) (by first | exact G3.out | exact G3.out.below (Below.refl _ _).drew | exact G3.out.below (below_drewN (Below.refl _ _) _))).mono ?_; rintro e w5 ⟨rfl, hd5⟩; rw [HD.out]; have B5 := Lib.hid (grow_trans (by first | exact B4.out | exact B4.out.drew | exact below_drewN B4.out _) hd5.grow); have kc5 := (B5.out.cell (p := ⟨b, o + q * 2, none⟩) HLT.out).trans hc1; clear hd5)
              | (go_at_call 29; have hg := G1; refine (rall_any _ x2 _ c2 B f1 hsm1 ((HF2.out.below hbel.out).below (by first | exact B3.out | exact B3.out.drew | exact below_drewN B3.out _)) (by omega) P2.out).mono ?_; rintro e w4 ⟨g4, c4, rfl, ho4, hb4⟩; have G2 := Lib.hid (StrsArg.below (by first | exact G1.out | exact G1.out.below (Below.refl _ _).drew | exact G1.out.below (below_drewN (Below.refl _ _) _)) hb4); have G3 := Lib.hid (StrsArg.of_owned ho4 LB.out (Q2.out _)); have B4 := Lib.hid (grow_trans (by first | exact B3.out | exact B3.out.drew | exact below_drewN B3.out _) hb4); have kc4 := (B4.out.cell (p := ⟨b, o + q * 2, none⟩) HLT.out).trans hc1; clear hg G1 ho4 hb4)
              | (go_at_call 29; refine (rall_any _ _ _ c1 A f1 hsm1 ((HF1b.out.below hbel.out).below (by first | exact B0.out | exact B0.out.drew | exact below_drewN B0.out _)) (by omega) P1.out).mono ?_; rintro e w3 ⟨g3, c3, rfl, ho3, hb3⟩; have G1 := Lib.hid (StrsArg.of_owned ho3 LA.out (Q1.out _)); have B3 := Lib.hid (grow_trans (by first | exact B0.out | exact B0.out.drew | exact below_drewN B0.out _) hb3); have kc3 := (B3.out.cell (p := ⟨b, o + q * 2, none⟩) HLT.out).trans hc1; clear ho3 hb3)
              | fail)
          have HB9 := Lib.hid (grow_trans hbel.out B5.out)
          go_wp2_with fail
          go_roundg (A.length - (q + 1))
          case measure => omega
          case rel => exact ⟨q + 1, by omega, Nat.le_refl _, by go_num, HE.out, HB9.out⟩
        · have HN : Hid (sameB A B = false) := sameB_not hql (by rw [HF.out]; exact heq)
          have HD := Lib.hid (decide_eq_false heq)
          clear heq
          go_wp2_with fail
          go_region_held3 (fun w' => w'.cell? ⟨b, o + q * 2, none⟩ = some (.string f1)) (go_keep)
            (first
              | (go_at_call 30; have hg := G3; clear hg; refine (rsame_any _ _ _ _ _ _ (allV A f1) (allV B f1) _ (by first | exact G2.out | exact G2.out.below (Below.refl _ _).drew | exact G2.out.below (below_drewN (Below.refl _ _) _)) (by first | exact G3.out | exact G3.out.below (Below.refl _ _).drew | exact G3.out.below (below_drewN (Below.refl _ _) _))).mono ?_; rintro e w5 ⟨rfl, hd5⟩; rw [HD.out]; have B5 := Lib.hid (grow_trans (by first | exact B4.out | exact B4.out.drew | exact below_drewN B4.out _) hd5.grow); have kc5 := (B5.out.cell (p := ⟨b, o + q * 2, none⟩) HLT.out).trans hc1; clear hd5)
              | (go_at_call 29; have hg := G1; refine (rall_any _ x2 _ c2 B f1 hsm1 ((HF2.out.below hbel.out).below (by first | exact B3.out | exact B3.out.drew | exact below_drewN B3.out _)) (by omega) P2.out).mono ?_; rintro e w4 ⟨g4, c4, rfl, ho4, hb4⟩; have G2 := Lib.hid (StrsArg.below (by first | exact G1.out | exact G1.out.below (Below.refl _ _).drew | exact G1.out.below (below_drewN (Below.refl _ _) _)) hb4); have G3 := Lib.hid (StrsArg.of_owned ho4 LB.out (Q2.out _)); have B4 := Lib.hid (grow_trans (by first | exact B3.out | exact B3.out.drew | exact below_drewN B3.out _) hb4); have kc4 := (B4.out.cell (p := ⟨b, o + q * 2, none⟩) HLT.out).trans hc1; clear hg G1 ho4 hb4)
              | (go_at_call 29; refine (rall_any _ _ _ c1 A f1 hsm1 ((HF1b.out.below hbel.out).below (by first | exact B0.out | exact B0.out.drew | exact below_drewN B0.out _)) (by omega) P1.out).mono ?_; rintro e w3 ⟨g3, c3, rfl, ho3, hb3⟩; have G1 := Lib.hid (StrsArg.of_owned ho3 LA.out (Q1.out _)); have B3 := Lib.hid (grow_trans (by first | exact B0.out | exact B0.out.drew | exact below_drewN B0.out _) hb3); have kc3 := (B3.out.cell (p := ⟨b, o + q * 2, none⟩) HLT.out).trans hc1; clear ho3 hb3)
              | fail)
          have HB9 := Lib.hid (HB2.out.trans ((grow_trans hbel.out B5.out).mono HB2.out.size))
          go_wp2_with fail
          go_ret
          exact ⟨by rw [HN.out]; rfl, HB9.out⟩
      · obtain rfl : A.length = q := by omega
        have HY := Lib.hid (sameB_of HLN.out (fun j hj => hall.out j hj hj))
        have HB9 := Lib.hid (HB2.out.trans (hbel.out.mono HB2.out.size))
        clear hall
        go_wp2_with fail
        go_ret
        exact ⟨by rw [HY.out]; rfl, HB9.out⟩
  · have HN := Lib.hid (sameB_len hlen)
    have hi1 : ((A.length : Int) != (B.length : Int)) = true := by rw [bne_iff_ne]; omega
    clear hlen
    go_wp2_with fail
    go_ret
    exact ⟨by rw [HN.out]; rfl, HB2.out⟩
end Go.Proofs.Ytdpohibgipkhnaa
namespace Go.Proofs.Ytdpohibgipkhnaa
open Go.RowKit Go.Sort Go.Proofs.Ytdpohibgipkhnaa.Oct

theorem few_can {l : Flds} (h : fewB l = true) : l.length ≤ 40 ∧ (∀ p ∈ l, p.1.size ≤ 1000) ∧ SumLe l 20000 ∧ (canF l).length ≤ 1600 := by
  obtain ⟨h1, h2⟩ := fewB_of h
  refine ⟨h1, fun p hp => by have := h2 p hp; omega, SumLe.of (a := 40) (b := 300) h1 (fun p hp => (h2 p hp).2) (by decide), ?_⟩
  have h3 := canTo_len l l.length
  have h4 : l.length * l.length ≤ 40 * 40 := Nat.mul_le_mul h1 h1
  show (canTo l l.length).length ≤ 1600
  omega
theorem SumLe.more {l : Flds} {a b : Nat} (h : SumLe l a) (hab : a ≤ b) : SumLe l b := fun n => Nat.le_trans (h n) hab

set_option maxRecDepth 100000 in
set_option maxHeartbeats 3200000 in
theorem cfields_yes (x y : Option Addr) (n c m d : Nat) (l k : Flds) (w : World) (h : FldsAt w x n l) (hnc : n ≤ c) (h2 : FldsAt w y m k) (hmd : m ≤ d) (hl : fewB l = true) (hk : fewB k = true) :
    Calls Try.prog 10 #[.slice x n c, .slice y m d] w fun e w' => e = .returned (.bool true) ∧ Below w.heap.size w w' := by
  obtain ⟨a1, a2, a3, a4⟩ := few_can hl
  obtain ⟨b1, b2, b3, b4⟩ := few_can hk
  have e1 := h.len
  have e2 := h2.len
  have AS := a3.more (show 20000 ≤ 1000000000 by decide)
  have BS := b3.more (show 20000 ≤ 1000000000 by decide)
  have a5 : ∀ p ∈ l, p.1.size ≤ 140737488355328 := fun p hp => by have := a2 p hp; omega
  have a6 : ∀ p ∈ l, p.1.size ≤ 1000000 := fun p hp => by have := a2 p hp; omega
  have b5 : ∀ p ∈ k, p.1.size ≤ 140737488355328 := fun p hp => by have := b2 p hp; omega
  have ST := Lib.hid (canTo_str (k := l.length) a2 a3)
  have HX := Lib.hid (fun w' (hb : Below w.heap.size w w') => h.below hb)
  have HY := Lib.hid (fun w' (hb : Below w.heap.size w w') => h2.below hb)
  have HL := Lib.hid hl
  have HK := Lib.hid hk
  have B0 := Lib.hid (Below.refl w.heap.size w)
  have C1 := Lib.hid (fun w' hb => fields_any w' x n c l (HX.out w' hb) hnc (by omega) a5 (by omega) AS)
  have C2 := Lib.hid (fun w' hb => rfields_any w' x n c l (HX.out w' hb) hnc (by omega) a5 (by omega) AS)
  have C3 := Lib.hid (fun w' hb => csame_any w' x y n c m d l k (HX.out w' hb) (HY.out w' hb) hnc hmd (by omega) (by omega) a5 b5 (by omega) (by omega) AS BS)
  have C4 := Lib.hid (fun w' hb => rcsame_any w' x y n c m d l k (HX.out w' hb) (HY.out w' hb) hnc hmd (by omega) (by omega) a5 b5 (by omega) (by omega) AS BS)
  have C5 := Lib.hid (fun w' hb => lines_any w' x n c l (HX.out w' hb) hnc (by omega) a6 (by omega) AS)
  have C6 := Lib.hid (fun w' hb => rlines_any w' x n c l (HX.out w' hb) hnc (by omega) a6 (by omega) AS)
  have SL : Hid (∀ s ∈ linesS (canF l), s.size ≤ 9223372036854775807) := fun s hs => by have := linesS_str ST.out s hs; omega
  have LL : (linesS (canF l)).length ≤ 9223372036854775807 := by unfold linesS; rw [List.length_map]; omega
  clear h h2 hl hk a1 a2 a3 b1 b2 b3 AS BS a5 a6 b5 b4 e1 e2
  go_enter Try.func10, Try.ntmps10
  go_wp2_with fail
  refine (few_any _ x n c l (HX.out _ B0.out)).mono ?_
  rintro e w1 ⟨rfl, hb1⟩
  rw [HL.out]
  have B1 := Lib.hid hb1
  clear hb1
  go_wp2_with fail
  refine (few_any _ y m d k (HY.out _ B1.out)).mono ?_
  rintro e w2 ⟨rfl, hb2⟩
  rw [HK.out]
  have B2 := Lib.hid (grow_trans B1.out hb2)
  clear hb2
  go_wp2_with fail
  refine (C1.out _ B2.out).mono ?_
  rintro e w3 ⟨v3, rfl, ho3, hb3⟩
  obtain ⟨x3, c3, rfl, _, hF3⟩ := own_flds ho3 (by omega) (fun p hp => by have := ST.out p hp; omega)
  have F3 := Lib.hid hF3
  have B3 := Lib.hid (grow_trans B2.out hb3)
  clear hb3 ho3 hF3
  go_wp2_with fail
  refine (C2.out _ B3.out).mono ?_
  rintro e w4 ⟨v4, rfl, ho4, hb4⟩
  obtain ⟨x4, c4, rfl, _, hF4⟩ := own_flds ho4 (by omega) (fun p hp => by have := ST.out p hp; omega)
  have F4 := Lib.hid hF4
  have F3b := Lib.hid (F3.out.below hb4)
  have B4 := Lib.hid (grow_trans B3.out hb4)
  clear hb4 ho4 hF4
  go_wp2_with fail
  refine (rsamef_any _ _ _ _ _ _ (canF l) (canF l) _ F3b.out F4.out).mono ?_
  rintro e w5 ⟨rfl, hd5⟩
  rw [show decide (canF l = canF l) = true from decide_eq_true rfl]
  have B5 := Lib.hid (grow_trans B4.out hd5.grow)
  clear hd5 F3 F4 F3b
  go_wp2_with fail
  refine (C3.out _ B5.out).mono ?_
  rintro e w6 ⟨rfl, hb6⟩
  have B6 := Lib.hid (grow_trans B5.out hb6)
  clear hb6
  go_wp2_with fail
  refine (C4.out _ B6.out).mono ?_
  rintro e w7 ⟨rfl, hb7⟩
  have B7 := Lib.hid (grow_trans B6.out hb7)
  have hbb : (sameB (canF l) (canF k) == sameB (canF l) (canF k)) = true := beq_self_eq_true _
  clear hb7
  go_wp2_with fail
  refine (C5.out _ B7.out).mono ?_
  rintro e w8 ⟨v8, rfl, ho8, hb8⟩
  obtain ⟨x8, c8, rfl, hF8⟩ := own_strs ho8 LL SL.out
  have F8 := Lib.hid hF8
  have B8 := Lib.hid (grow_trans B7.out hb8)
  clear hb8 ho8 hF8
  go_wp2_with fail
  refine (C6.out _ B8.out).mono ?_
  rintro e w9 ⟨v9, rfl, ho9, hb9⟩
  obtain ⟨x9, c9, rfl, hF9⟩ := own_strs ho9 LL SL.out
  have F9 := Lib.hid hF9
  have F8b := Lib.hid (F8.out.below hb9)
  have B9 := Lib.hid (grow_trans B8.out hb9)
  clear hb9 ho9 hF9
  go_wp2_with fail
  refine (rsame_any _ _ _ _ _ _ (linesS (canF l)) (linesS (canF l)) _ F8b.out F9.out).mono ?_
  rintro e w10 ⟨rfl, hd10⟩
  rw [show decide (linesS (canF l) = linesS (canF l)) = true from decide_eq_true rfl]
  have B10 := Lib.hid (grow_trans B9.out hd10.grow)
  clear hd10 F8 F9 F8b
  go_wp2_with fail
  refine (clives_any _).mono ?_
  rintro e w11 ⟨rfl, hb11⟩
  have B11 := Lib.hid (grow_trans B10.out hb11)
  clear hb11
  go_wp2_with fail
  go_ret
  exact ⟨rfl, B11.out⟩

set_option maxRecDepth 100000 in
set_option maxHeartbeats 1600000 in
theorem cfields_any (x y : Option Addr) (n c m d : Nat) (l k : Flds) (w : World) (h : FldsAt w x n l) (hnc : n ≤ c) (h2 : FldsAt w y m k) (hmd : m ≤ d) :
    Calls Try.prog 10 #[.slice x n c, .slice y m d] w fun e w' => e = .returned (.bool true) ∧ Below w.heap.size w w' := by
  cases hl : fewB l
  · have HL := Lib.hid hl
    clear hl h2
    go_enter Try.func10, Try.ntmps10
    go_wp2_with fail
    refine (few_any _ x n c l h).mono ?_
    rintro e w1 ⟨rfl, hb1⟩
    rw [HL.out]
    have B1 := Lib.hid hb1
    clear hb1
    go_wp2_with fail
    refine (clives_any _).mono ?_
    rintro e w2 ⟨rfl, hb2⟩
    have B2 := Lib.hid (grow_trans B1.out hb2)
    clear hb2
    go_wp2_with fail
    go_ret
    exact ⟨rfl, B2.out⟩
  · cases hk : fewB k
    · have HL := Lib.hid hl
      have HK := Lib.hid hk
      clear hl hk
      go_enter Try.func10, Try.ntmps10
      go_wp2_with fail
      refine (few_any _ x n c l h).mono ?_
      rintro e w1 ⟨rfl, hb1⟩
      rw [HL.out]
      have B1 := Lib.hid hb1
      clear hb1
      go_wp2_with fail
      refine (few_any _ y m d k (h2.below B1.out)).mono ?_
      rintro e w2 ⟨rfl, hb2⟩
      rw [HK.out]
      have B2 := Lib.hid (grow_trans B1.out hb2)
      clear hb2
      go_wp2_with fail
      refine (clives_any _).mono ?_
      rintro e w3 ⟨rfl, hb3⟩
      have B3 := Lib.hid (grow_trans B2.out hb3)
      clear hb3
      go_wp2_with fail
      go_ret
      exact ⟨rfl, B3.out⟩
    · exact cfields_yes x y n c m d l k w h hnc h2 hmd hl hk
end Go.Proofs.Ytdpohibgipkhnaa
namespace Go.Proofs.Ytdpohibgipkhnaa
open Go.Proofs.Ytdpohibgipkhnaa.Oct Go.Proofs.Ytdpohibgipkhnaa.St

theorem joinB_two (A B : List ByteArray) (x v : ByteArray) : joinB (A ++ x :: v :: B) = joinB (A ++ (x ++ ⟨#[44, 32]⟩ ++ v) :: B) := by
  unfold joinB joinL
  cases A with
  | nil => simp [Lib.join_cons, Lib.joinTail, ByteArray.data_append]
  | cons a r => simp [Lib.join_cons, Lib.joinTail, ByteArray.data_append]
theorem sameB_of_one {a b : Flds} (h : ∀ n, oneF a n = oneF b n ∧ hitB n a = hitB n b) : sameB (canF a) (canF b) = true :=
  (sameB_alk (canF_can a) (canF_can b)).2 (alk_of_fold (canF_can a) (canF_can b) (canF_alike h))
theorem sameB_of_all {a b : Flds} (h : ∀ n, allV a n = allV b n) : sameB (canF a) (canF b) = true :=
  sameB_of_one fun n => ⟨by unfold oneF; rw [h n], by rw [hit_low, hit_low, h n]⟩
theorem sameB_canF (l : Flds) : sameB (canF l) (canF (canF l)) = true ∧ sameB (canF (canF l)) (canF l) = true := by
  rw [canF_idem]
  exact ⟨sameB_of_all fun _ => rfl, sameB_of_all fun _ => rfl⟩
theorem allV_app (a b : Flds) (n : ByteArray) : allV (a ++ b) n = allV a n ++ allV b n := by
  unfold allV
  rw [List.filter_append, List.map_append]
theorem allV_cons2 (p : ByteArray × ByteArray) (b : Flds) (n : ByteArray) : allV (p :: b) n = (if foldS n p.1 = true then [p.2] else []) ++ allV b n := by
  unfold allV
  cases h : foldS n p.1 <;> simp [h]
theorem same_turned (A B : Flds) (x y : ByteArray × ByteArray) (h : foldS x.1 y.1 = false) : sameB (canF (A ++ x :: y :: B)) (canF (A ++ y :: x :: B)) = true := by
  refine sameB_of_all fun n => ?_
  rw [allV_app, allV_app, allV_cons2, allV_cons2, allV_cons2, allV_cons2]
  cases h1 : foldS n x.1
  · simp
  · cases h2 : foldS n y.1
    · simp
    · exfalso
      rw [foldS_congr (fold_eqn.1 h1).symm, h2] at h
      cases h
theorem same_two (A B : Flds) (n x v : ByteArray) (h : singB n = false) : sameB (canF (A ++ (n, x ++ ⟨#[44, 32]⟩ ++ v) :: B)) (canF (A ++ (n, x) :: (n, v) :: B)) = true := by
  refine sameB_of_one fun m => ?_
  cases hm : foldS m n
  · have e : allV (A ++ (n, x ++ ⟨#[44, 32]⟩ ++ v) :: B) m = allV (A ++ (n, x) :: (n, v) :: B) m := by
      rw [allV_app, allV_app, allV_cons2, allV_cons2, allV_cons2]
      simp [hm]
    exact ⟨by unfold oneF; rw [e], by rw [hit_low, hit_low, e]⟩
  · have e1 : allV (A ++ (n, x ++ ⟨#[44, 32]⟩ ++ v) :: B) m = allV A m ++ (x ++ ⟨#[44, 32]⟩ ++ v) :: allV B m := by
      rw [allV_app, allV_cons2]
      simp [hm]
    have e2 : allV (A ++ (n, x) :: (n, v) :: B) m = allV A m ++ x :: v :: allV B m := by
      rw [allV_app, allV_cons2, allV_cons2]
      simp [hm]
    have hs : singB m = false := by rw [singB_congr (fold_eqn.1 hm), h]
    refine ⟨?_, ?_⟩
    · rw [oneF_join hs, oneF_join hs, e1, e2, joinB_two]
    · rw [hit_low, hit_low, e1, e2]
      apply decide_eq_decide.2
      rw [List.length_append, List.length_append, List.length_cons, List.length_cons, List.length_cons]
      omega
end Go.Proofs.Ytdpohibgipkhnaa
