
/-
  THE WALK of the law TallyParts.
-/
import Derived.Test.YtdpohibgipkhnaaTP29
import Derived.Test.YtdpohibgipkhnaaTP26
set_option linter.unusedVariables false
set_option linter.unusedSimpArgs false
namespace Go.Proofs.Ytdpohibgipkhnaa
open Go.RowKit Go.Sort Go.Proofs.Ytdpohibgipkhnaa.Oct

set_option maxRecDepth 100000 in
set_option maxHeartbeats 6400000 in
theorem tparts_yes (w : World) (x y : Option Addr) (n c m d : Nat) (la lb : Flds) (h : FldsAt w x n la) (h2 : FldsAt w y m lb) (hla : fewB la = true) (hlb : fewB lb = true) :
    Calls Try.prog 12 #[.slice x n c, .slice y m d] w fun e w' => e = .returned (.bool true) ∧ Below w.heap.size w w' := by
  obtain ⟨i0, hi, hz⟩ := info_hid info_field
  obtain ⟨i1, hi1, hz1⟩ := info_hid info_row
  have hl := h.len
  have hl2 := h2.len
  subst hl hl2
  have HA := Lib.hid h
  have HB := Lib.hid h2
  have F1 := Lib.hid hla
  have F2 := Lib.hid hlb
  have n1 := (fewB_of hla).1
  have n2 := (fewB_of hlb).1
  have HS3 : Hid (∀ p ∈ la ++ lb, p.1.size ≤ 9223372036854775807 ∧ p.2.size ≤ 9223372036854775807) := fun p hp => by
    rcases List.mem_append.1 hp with h3 | h3
    · exact h.str p h3
    · exact h2.str p h3
  have H1 : Hid (0 + la.length ≤ maxLen) := by show _ ≤ _; unfold maxLen; omega
  have H2 : Hid ((0 + la.length) * 32 ≤ 140737488355328) := by show _ ≤ _; omega
  have H3 : Hid (la.length + lb.length ≤ maxLen) := by show _ ≤ _; unfold maxLen; omega
  have H4 : Hid ((la.length + lb.length) * 32 ≤ 140737488355328) := by show _ ≤ _; omega
  have HOa := Lib.hid (fld_one la)
  have HOb := Lib.hid (fld_one lb)
  clear h h2 hla hlb
  go_enter Try.func12, Try.ntmps12
  go_wp2_with fail
  refine (few_any w x la.length c la HA.out).mono ?_
  rintro e w1 ⟨he, hb1⟩
  rw [F1.out] at he
  subst he
  have B1 := Lib.hid hb1
  clear hb1
  go_wp2_with fail
  refine (few_any w1 y lb.length d lb (HB.out.below B1.out)).mono ?_
  rintro e w2 ⟨he, hb2⟩
  rw [F2.out] at he
  subst he
  have B2 := Lib.hid (grow_trans B1.out hb2)
  have HLit := Lib.hid (World.ownsRow_lit (base := w2.heap.size) (e := 31) (size := 2) w2 #[] 0 (Nat.le_refl _) (by decide) rfl)
  have HR := Lib.hid ((HA.out.below B2.out).reads.alloc (Nat.le_refl _) (.cells #[] 31))
  have HB2 := Lib.hid (HB.out.below B2.out)
  clear hb2
  go_wp2_with (first
    | (at_builtin; refine wpList_append_any _ rfl (.tmp 21) (.tmp 22) _ rfl w2.heap.size 31 i0 _ 2 32 Try.underlying22 hi.out hz.out.1 hz.out.2.1 hz.out.2.2 rfl (by omega) _ 0 [] (by rfl) HLit.out w2.heap.size _ la.length c (fldVals la) rfl HR.out HOa.out H1.out H2.out (by simp) ?_; intro v3 w3 hown3 hg3 hat3; (rw [Nat.zero_add, List.nil_append] at hown3); have O3 := Lib.hid hown3; have B3 : Hid (Below w2.heap.size w2 w3) := ((below_new w2 _).grown hg3 (by simp) (by simp [Value.ownBlock])); have R3 := Lib.hid (HB2.out.below B3.out).reads; have Z3 := B3.out.size; clear hown3 hg3 hat3)
    | (at_builtin; refine wpList_append_any _ rfl (.tmp 23) (.tmp 24) _ rfl w2.heap.size 31 i0 _ 2 32 Try.underlying22 hi.out hz.out.1 hz.out.2.1 hz.out.2.2 rfl (by omega) _ _ _ rfl O3.out w3.heap.size _ lb.length d (fldVals lb) rfl R3.out HOb.out H3.out H4.out Z3 ?_; intro v4 w4 hown4 hg4 hat4; have O4 := Lib.hid hown4; have G4 := Lib.hid hg4; clear hown4 hg4 hat4))
  have hb4 : Below w2.heap.size w2 w4 := below_owned B3.out Z3 O3.out G4.out
  have ho4 := O4.out
  rw [← List.length_append, ← fldVals_append] at ho4
  have hlen : (la ++ lb).length = la.length + lb.length := List.length_append
  obtain ⟨N, hN⟩ : ∃ N, N = (la ++ lb).length := ⟨_, rfl⟩
  obtain ⟨x4, c4, rfl, _, hF4⟩ := own_flds ho4 (by omega) HS3.out
  have B4 := Lib.hid (grow_trans B2.out hb4)
  have F4 := Lib.hid hF4
  rw [← hN] at F4 ⊢
  have n4 : N ≤ 80 := by omega
  have HNN := Lib.hid hN
  clear hN hlen
  clear ho4 hb4 hF4 HLit HR HB2 O3 B3 R3 Z3 O4 G4
  go_wp2_with fail
  refine (tfields_any w4 x4 N c4 (la ++ lb) F4.out n4).mono ?_
  rintro e w5 ⟨v5, L, rfl, hcr, hown, hb5⟩
  have B5 := Lib.hid (grow_trans B4.out hb5)
  obtain ⟨x5, c5, rfl, _, hR5⟩ := own_rws hown
  have hks : (fldK (la ++ lb)).length = N := by unfold fldK; rw [List.length_map, HNN.out]
  have hLn := hcr.len
  rw [hks] at hLn
  have R5 := Lib.hid hR5
  have CR := Lib.hid hcr
  have KS := Lib.hid hks
  clear hb5 hown hR5 hcr hks
  go_wp2_with fail
  go_loopg [6, 29] (L.length + 1) (fun gg s6 s29 wr => ∃ k : Nat, k ≤ L.length ∧ L.length - k + 1 ≤ gg ∧ s6 = .int .i64 (sumL (L.take k)) ∧ s29 = .int .i64 k ∧ Hid (Below w5.heap.size w5 wr))
  case atStart => exact ⟨0, Nat.zero_le _, Nat.le_refl _, rfl, rfl, Below.refl _ w5⟩
  case round =>
    obtain ⟨k, hk, hgk, h6, rfl, hbe⟩ := hrel
    obtain ⟨S, hS⟩ : ∃ S, S = sumL (L.take k) := ⟨_, rfl⟩
    have hSr := CR.out.sum_rng k
    rw [← hS, KS.out] at hSr
    by_cases hkl : k < L.length
    · obtain ⟨b, o, p, rfl, hblt, ⟨hl5, hp⟩, hc1, hc2⟩ := (R5.out.below hbe.out).get k hkl
      have hst := sumL_take L k hkl
      have hpr := CR.out.rng L[k] (List.getElem_mem hkl)
      have hpm := (CR.out.mem L[k]).1 (List.getElem_mem hkl)
      rw [← hp, ← hS] at hst
      rw [← hp, KS.out] at hpr
      rw [← hp] at hpm
      rw [← hS] at h6
      subst h6
      obtain ⟨p1, p2⟩ := p
      simp only at hc1 hc2 hst hpr hpm
      have HST := Lib.hid hst
      have HPM := Lib.hid hpm.2
      have HA1 := Lib.hid ((HA.out.below B5.out).below hbe.out |>.below (below_new wr (.cells #[.string p1, .int .i64 p2] 65)))
      have hbk := Blk.new wr 65 #[.string p1, .int .i64 p2]
      have HK := Lib.hid hbk
      clear hst hpm hp hS hbk
      go_wp2_with fail
      refine (tfields_any _ x la.length c la HA1.out (by omega)).mono ?_
      rintro e w6 ⟨v6, A, rfl, hcA, hoA, hb6⟩
      obtain ⟨x6, c6, rfl, _, _⟩ := own_rws hoA
      have HB6 := Lib.hid hb6
      have OA6 := Lib.hid hoA
      have CA := Lib.hid hcA
      have HB1 := Lib.hid ((((HB.out.below B5.out).below hbe.out |>.below (below_new wr (.cells #[.string p1, .int .i64 p2] 65)))).below hb6)
      clear hcA hoA hb6
      go_wp2_with fail
      refine (tfields_any w6 y lb.length d lb HB1.out (by omega)).mono ?_
      rintro e w7 ⟨v7, B, rfl, hcB, hoB, hb7⟩
      have OA7 := Lib.hid (own_below OA6.out hb7)
      have HB7 := Lib.hid (grow_trans HB6.out hb7)
      obtain ⟨x7, c7, rfl, _, hR7⟩ := own_rws hoB
      have RB := Lib.hid hR7.reads
      have kla : (fldK la).length = la.length := by unfold fldK; rw [List.length_map]
      have klb : (fldK lb).length = lb.length := by unfold fldK; rw [List.length_map]
      obtain ⟨hmn, hmr, hmS, hmj⟩ := two_rows CA.out hcB
      have hlA := CA.out.len
      have hlB := hcB.len
      rw [kla, klb] at hmn hmr hmj
      rw [← fldK_append] at hmS
      rw [kla] at hlA
      rw [klb] at hlB
      have H5 : Hid (A.length + B.length ≤ maxLen) := by show _ ≤ _; unfold maxLen; omega
      have H6 : Hid ((A.length + B.length) * 24 ≤ 140737488355328) := by show _ ≤ _; omega
      have HOB := Lib.hid (row_one B)
      have Z7 := Lib.hid HB7.out.size
      have HMS : Hid (mS (A ++ B) p1 = p2) := by show _ = _; rw [hmS, HPM.out]
      have HMR := Lib.hid hmr
      have HMJ := Lib.hid (hmj p1)
      clear hcB hoB hb7 hR7 hmr hmS hmj hlA hlB kla klb
      go_wp2_with (at_builtin; refine wpList_append_any _ rfl (.tmp 35) (.tmp 37) _ rfl (wr.alloc (.cells #[.string p1, .int .i64 p2] 65)).heap.size 65 i1 _ 2 24 Try.underlying62 hi1.out hz1.out.1 hz1.out.2.1 hz1.out.2.2 rfl (by omega) _ _ _ rfl OA7.out w7.heap.size _ B.length c7 (elVR B) rfl RB.out HOB.out H5.out H6.out Z7.out ?_; intro v8 w8 hown8 hg8 hat8; (rw [← List.length_append, ← elVR_append] at hown8); obtain ⟨M, hM⟩ : ∃ M, M = A ++ B := ⟨_, rfl⟩; (rw [← hM] at hown8 hmn HMS HMR HMJ); obtain ⟨x8, c8, rfl, _, hR8⟩ := own_rws hown8; have R8 := Lib.hid hR8; have B8 := Lib.hid (below_owned HB7.out Z7.out OA7.out hg8); clear hown8 hg8 hat8 hR8 hM)
      go_loopg [9, 40] (M.length + 1) (fun gg s9 s40 ws => ∃ j : Nat, j ≤ M.length ∧ M.length - j + 1 ≤ gg ∧ s9 = .int .i64 (mS (M.take j) p1) ∧ s40 = .int .i64 j ∧ Hid (Below w8.heap.size w8 ws))
      case atStart => exact ⟨0, Nat.zero_le _, Nat.le_refl _, rfl, rfl, Below.refl _ w8⟩
      case round =>
        obtain ⟨j, hj, hgj, h9, rfl, hbj⟩ := hrel
        have hmj := HMJ.out j
        by_cases hjl : j < M.length
        · obtain ⟨b9, o9, q, rfl, hb9, ⟨hl9, hq⟩, hd1, hd2⟩ := (R8.out.below hbj.out).get j hjl
          have hmt := mS_take M j hjl p1
          have hqr := HMR.out M[j] (List.getElem_mem hjl)
          have hmj1 := HMJ.out (j + 1)
          rw [← hq] at hqr hmt
          obtain ⟨T, hT⟩ : ∃ T, T = mS (M.take j) p1 := ⟨_, rfl⟩
          rw [← hT] at hmt h9 hmj
          subst h9
          obtain ⟨q1, q2⟩ := q
          simp only at hd1 hd2 hmt hqr
          have KW := (HK.out.below ((B8.out.trans (hbj.out.mono B8.out.size))) HK.out.lt)
          have x0 := KW.cell 0
          have xl := KW.lt
          clear hT hq KW
          cases hqe : (q1.toList == p1.toList)
          rotate_left
          · have heq : q1 = p1 := Decidable.byContradiction fun hne => by rw [toList_ne hne] at hqe; cases hqe
            rw [if_pos heq] at hmt
            clear heq
            have HMT := Lib.hid hmt
            rw [hmt] at hmj1
            clear hmt
            go_wp2_with fail
            go_roundg (M.length - (j + 1) + 1)
            case measure => omega
            case rel => exact ⟨j + 1, by omega, Nat.le_refl _, by rw [HMT.out], by go_num, hbj.out.alloc hbj.out.size _⟩
          · have heq : ¬ q1 = p1 := fun e => by rw [e] at hqe; simp at hqe
            rw [if_neg heq, Int.add_zero] at hmt
            have HMT := Lib.hid hmt
            clear hmt
            go_wp2_with fail
            go_roundg (M.length - (j + 1) + 1)
            case measure => omega
            case rel => exact ⟨j + 1, by omega, Nat.le_refl _, by rw [HMT.out], by go_num, hbj.out.alloc hbj.out.size _⟩
        · obtain rfl : M.length = j := by omega
          rw [List.take_length, HMS.out] at h9
          subst h9
          have KW := (HK.out.below ((B8.out.trans (hbj.out.mono B8.out.size))) HK.out.lt)
          have x0 := KW.cell 0
          have x1 := KW.cell 1
          have xl := KW.lt
          have hBW := Lib.hid (grow_trans hbe.out (grow_trans (below_new _ _) (B8.out.trans (hbj.out.mono B8.out.size))))
          have hnr : ¬ (p2 < 1) := by omega
          have hkN : ¬ ((N : Int) < (k : Int)) := by omega
          clear KW
          go_wp2_with fail
          go_roundg (L.length - (k + 1) + 1)
          case measure => omega
          case rel => exact ⟨k + 1, by omega, Nat.le_refl _, by rw [HST.out], by go_num, hBW.out⟩
    · obtain rfl : L.length = k := by omega
      rw [List.take_length, CR.out.sum, KS.out] at h6
      subst h6
      clear hS hSr
      have BW := Lib.hid (B5.out.trans (hbe.out.mono B5.out.size))
      go_wp2_with fail
      refine (tlives_any wr).mono ?_
      rintro e w9 ⟨rfl, hb9⟩
      have BW9 := Lib.hid (grow_trans BW.out hb9)
      clear hb9
      go_wp2_with fail
      go_ret
      exact ⟨rfl, BW9.out⟩
set_option maxRecDepth 100000 in
set_option maxHeartbeats 1600000 in
theorem tparts_any (w : World) (x y : Option Addr) (n c m d : Nat) (la lb : Flds) (h : FldsAt w x n la) (h2 : FldsAt w y m lb) :
    Calls Try.prog 12 #[.slice x n c, .slice y m d] w fun e w' => e = .returned (.bool true) ∧ Below w.heap.size w w' := by
  cases hla : fewB la
  · go_enter Try.func12, Try.ntmps12
    go_wp2_with fail
    refine (few_any w x n c la h).mono ?_
    rintro e w1 ⟨he, hb1⟩
    rw [hla] at he
    subst he
    have B1 := Lib.hid hb1
    clear hb1
    go_wp2_with fail
    refine (tlives_any w1).mono ?_
    rintro e w9 ⟨rfl, hb9⟩
    have BW9 := Lib.hid (grow_trans B1.out hb9)
    clear hb9
    go_wp2_with fail
    go_ret
    exact ⟨rfl, BW9.out⟩
  · cases hlb : fewB lb
    · go_enter Try.func12, Try.ntmps12
      go_wp2_with fail
      refine (few_any w x n c la h).mono ?_
      rintro e w1 ⟨he, hb1⟩
      rw [hla] at he
      subst he
      have B1 := Lib.hid hb1
      clear hb1
      go_wp2_with fail
      refine (few_any w1 y m d lb (h2.below B1.out)).mono ?_
      rintro e w2 ⟨he, hb2⟩
      rw [hlb] at he
      subst he
      have B2 := Lib.hid (grow_trans B1.out hb2)
      clear hb2
      go_wp2_with fail
      refine (tlives_any w2).mono ?_
      rintro e w9 ⟨rfl, hb9⟩
      have BW9 := Lib.hid (grow_trans B2.out hb9)
      clear hb9
      go_wp2_with fail
      go_ret
      exact ⟨rfl, BW9.out⟩
    · exact tparts_yes w x y n c m d la lb h h2 hla hlb
end Go.Proofs.Ytdpohibgipkhnaa
