/-
  THE WALKS of abutmentref16.Read and abutmentlaw16.LinesFeed.
-/
import Derived.Test.YtgbjndlaonalcaaLinesCuts
import Derived.Test.YtgbjndlaonalcaaLinesRead
namespace Go.Proofs.Ytgbjndlaonalcaa
open Go.RowKit Go.Proofs.Ytgbjndlaonalcaa.Lin

def ReadLeft (w : World) (R : List (List UInt8) × Nat × Nat × St) (e : Ending) (w' : World) : Prop :=
  ∃ g cap, e = .returned (.tuple #[.slice (some ⟨g, 0, none⟩) R.1.length cap, .bool R.2.2.2.within, .int .i64 R.2.1, .int .i64 R.2.2.1]) ∧
    w'.ownsRow w.heap.size 9 1 (.slice (some ⟨g, 0, none⟩) R.1.length cap) R.1.length (strVals (mkLines R.1)) ∧ Below w.heap.size w w'
theorem extract_bytes (s : ByteArray) (a b : Nat) : s.extract a b = ⟨((s.data.toList.drop a).take (b - a)).toArray⟩ := by
  apply ByteArray.ext
  apply Array.ext'
  rw [ByteArray.data_extract, Array.toList_extract]

set_option maxRecDepth 100000 in
set_option maxHeartbeats 1600000 in
theorem read_any (s : ByteArray) (most : Nat) (w : World) (hs : s.size ≤ 4000) :
    Calls Try.prog 19 #[.string s, .int .i64 most] w (ReadLeft w (run (Lin.start most) s.data.toList)) := by
  obtain ⟨i0, hi, hz⟩ := info_hid info_str
  have hL : s.data.toList.length = s.size := by simp
  have HL := Lib.hid hL
  clear hL
  go_enter Try.func19, Try.ntmps19
  go_wp2
  go_loopw [8, 9, 10] (fun v8 v9 v10 wr => ∃ (i fr : Nat) (outs : List (List UInt8)) (sk : St) (g c : Nat), i ≤ s.size ∧ fr ≤ i ∧ outs.length ≤ i ∧ v10 = .int .i64 i ∧ v9 = .int .i64 fr ∧ v8 = .slice (some ⟨g, 0, none⟩) outs.length c ∧
    wr.ownsRow w.heap.size 9 1 (.slice (some ⟨g, 0, none⟩) outs.length c) outs.length (strVals (mkLines outs)) ∧ Below w.heap.size w wr ∧ Hid (At s.data.toList most i fr sk) ∧
    Hid (run (Lin.start most) s.data.toList = (outs ++ (run sk (s.data.toList.drop i)).1, i + (run sk (s.data.toList.drop i)).2.1, (run sk (s.data.toList.drop i)).2.2))) (fun _ _ v10 _ => s.size - (intOf v10).toNat)
  case atStart => exact ⟨0, 0, [], Lin.start most, _, _, Nat.zero_le _, Nat.le_refl _, Nat.le_refl _, rfl, rfl, rfl, World.ownsRow_lit w #[] 0 (Nat.le_refl _) (by decide) rfl, (Below.refl _ _).alloc (Nat.le_refl _) _, At.start _ _, by simp [Hid]⟩
  case round =>
    obtain ⟨i, fr, outs, sk, g, c, hi0, hfr, hout, rfl, rfl, rfl, hown, hbel, hat, hrun⟩ := hrel
    have HO := Lib.hid hown
    have HB := Lib.hid hbel
    have zi : w.heap.size ≤ wr.heap.size := hbel.size
    clear hown hbel
    by_cases hlt : i < s.size
    · have hiL : i < s.data.toList.length := by rw [HL.out]; exact hlt
      have hdrop : s.data.toList.drop i = s.data.toList[i] :: s.data.toList.drop (i + 1) := List.drop_eq_getElem_cons hiL
      have hgi : s.data.toList[i] = s[i] := rfl
      have hse := hat.out.seeE hiL
      have hwi := hat.out.within
      by_cases him : i = most
      · have b1 : ((i : Int) == (most : Int)) = true := by simp [him]
        have hend : run (Lin.start most) s.data.toList = (outs, i, 4, fail sk 4) := by
          rw [if_pos him] at hse
          rw [hrun.out, hdrop, run, hse]
          simp
        have HE := Lib.hid hend
        have HW := Lib.hid hwi
        clear hend hse hdrop hgi him hwi
        go_wp2
        go_returns
        unfold ReadLeft
        rw [HE.out]
        exact ⟨g, c, by simp [fail, HW.out] <;> omega, HO.out, HB.out⟩
      · have b1 : ((i : Int) == (most : Int)) = false := by simp; omega
        have h10e : ((s[i].toNat : Int) == 10) = (s[i].toNat == 10) := by rw [Bool.eq_iff_iff]; simp; omega
        have hpre : (sk.turn = true ∧ (fr : Int) < (i : Int) ∧ ∃ h : i - 1 < s.size, ((s[i - 1].toNat : Int) == 13) = true) ∨ (sk.turn = false ∧ ¬ (fr : Int) < (i : Int)) ∨ (sk.turn = false ∧ (fr : Int) < (i : Int) ∧ ∃ h : i - 1 < s.size, ((s[i - 1].toNat : Int) == 13) = false) := by
          have ht := hat.out.turn
          have hi1 : i - 1 < s.size := by omega
          have hg : s.data.toList[i - 1]? = some s[i - 1] := List.getElem?_eq_getElem (by rw [HL.out]; exact hi1)
          rw [hg] at ht
          cases h1 : sk.turn
          · by_cases h2 : fr < i
            · refine .inr (.inr ⟨rfl, by omega, hi1, ?_⟩)
              cases h3 : ((s[i - 1].toNat : Int) == 13)
              · rfl
              · exfalso
                have h5 : s[i - 1].toNat = 13 := by simp at h3; omega
                have h4 : s[i - 1] = 13 := UInt8.toNat_inj.1 h5
                rw [h1] at ht
                exact absurd (ht.2 ⟨h2, by rw [h4]⟩) (by simp)
            · exact .inr (.inl ⟨rfl, by omega⟩)
          · obtain ⟨h2, h3⟩ := ht.1 h1
            refine .inl ⟨rfl, by omega, hi1, ?_⟩
            have h4 : s[i - 1] = 13 := Option.some.inj h3
            rw [h4]
            rfl
        cases h10 : ((s[i].toNat : Int) == 10)
        · have h10n : (s[i].toNat == 10) = false := by rw [← h10e]; exact h10
          have h10x : s.data.toList[i].toNat ≠ 10 := by rw [hgi]; simpa using h10n
          clear h10e
          rcases hpre with ⟨ht, hf, h1, h13⟩ | ⟨ht, hf⟩ | ⟨ht, hf, h1, h13⟩
          · have hend : run (Lin.start most) s.data.toList = (outs, i, 8, fail sk 8) := by
              have h8 : seeE sk s.data.toList[i] = 8 := by
                rw [hse, if_neg him]
                have e2 : (sk.turn != (s.data.toList[i].toNat == 10)) = true := by rw [hgi, ht, h10n]; rfl
                rw [e2]; rfl
              rw [hrun.out, hdrop, run, h8]
              simp
            have HE := Lib.hid hend
            have HW := Lib.hid hwi
            clear hend hse hdrop hgi hwi h10x h10n ht him
            go_wp2
            go_returns
            unfold ReadLeft
            rw [HE.out]
            exact ⟨g, c, by simp [fail, HW.out] <;> omega, HO.out, HB.out⟩
          all_goals
            have hoth := hat.out.other hiL him ht h10x
            have hstep : run (Lin.start most) s.data.toList = (outs ++ (run (seeS sk s.data.toList[i]) (s.data.toList.drop (i + 1))).1, (i + 1) + (run (seeS sk s.data.toList[i]) (s.data.toList.drop (i + 1))).2.1, (run (seeS sk s.data.toList[i]) (s.data.toList.drop (i + 1))).2.2) := by
              have h0 : Lin.seeE sk s.data.toList[i] = 0 := by
                rw [hse, if_neg him]
                have e2 : (sk.turn != (s.data.toList[i].toNat == 10)) = false := by rw [hgi, ht, h10n]; rfl
                rw [e2]; rfl
              rw [hrun.out, hdrop, run, h0, hoth.1]
              simp
              omega
            have HS := Lib.hid hstep
            have HA := Lib.hid hoth.2
            clear hstep hoth hse hdrop hgi hwi h10x h10n ht him
            go_wp2
            go_roundw
            case rel => exact ⟨i + 1, fr, outs, _, g, c, by omega, by omega, by omega, by go_num, rfl, rfl, HO.out, HB.out, HA.out, HS.out⟩
            case measure => simp [intOf]; omega
        · have h10n : (s[i].toNat == 10) = true := by rw [← h10e]; exact h10
          have h10x : s.data.toList[i].toNat = 10 := by rw [hgi]; simpa using h10n
          clear h10e
          rcases hpre with ⟨ht, hf, h1, h13⟩ | ⟨ht, hf⟩ | ⟨ht, hf, h1, h13⟩
          · have hlf := hat.out.lf hiL him ht h10x
            have hstep : run (Lin.start most) s.data.toList = ((outs ++ [(seeS sk s.data.toList[i]).line]) ++ (run (took (seeS sk s.data.toList[i])) (s.data.toList.drop (i + 1))).1, (i + 1) + (run (took (seeS sk s.data.toList[i])) (s.data.toList.drop (i + 1))).2.1, (run (took (seeS sk s.data.toList[i])) (s.data.toList.drop (i + 1))).2.2) := by
              have h0 : Lin.seeE sk s.data.toList[i] = 0 := by
                rw [hse, if_neg him]
                have e2 : (sk.turn != (s.data.toList[i].toNat == 10)) = false := by rw [hgi, ht, h10n]; rfl
                rw [e2]; rfl
              rw [hrun.out, hdrop, run, h0, hlf.1]
              simp
              omega
            rw [hlf.2.1] at hstep
            have HS := Lib.hid hstep
            have HA := Lib.hid hlf.2.2
            have H5 : Hid (outs.length + 1 ≤ maxLen) := by show _ ≤ _; unfold maxLen; omega
            have H6 : Hid ((outs.length + 1) * 16 ≤ 140737488355328) := by show _ ≤ _; omega
            have hcut : Hid (strVals (mkLines (outs ++ [(s.data.toList.drop fr).take (i - 1 - fr)])) = strVals (mkLines outs) ++ [.string (s.extract fr (i - 1))]) := by
              show _ = _
              rw [extract_bytes]
              simp [strVals, mkLines]
            have hi1 : (fr : Int) ≤ (i : Int) - 1 := by omega
            have HI1 : ((i : Int) - 1).toNat = i - 1 := by omega
            have HII := Lib.hid HI1
            clear hstep hlf hse hdrop hgi hwi h10x h10n ht him HI1
            go_wp2_with (at_builtin; refine wpList_append_new rfl (.tmp 52) (.tmp 58) 22 rfl w.heap.size 9 Try.underlying22 hi hz rfl (by decide) wr [.string (s.extract fr (i - 1))] HO.out rfl rfl rfl (one_str _) H5.out H6.out zi ?_; intro g3 c3 w3 hown3 hgrow3; have O3 := Lib.hid hown3; have G3 := Lib.hid hgrow3; clear hown3 hgrow3)
            go_roundw
            case rel =>
              refine ⟨i + 1, i + 1, outs ++ [(s.data.toList.drop fr).take (i - 1 - fr)], _, g3, c3, by omega, by omega, by simp; omega, by go_num, by go_num, by simp, ?_, below_owned HB.out zi HO.out G3.out, HA.out, HS.out⟩
              rw [hcut.out]
              simpa using O3.out
            case measure => simp [intOf]; omega
          · have hend : run (Lin.start most) s.data.toList = (outs, i, 8, fail sk 8) := by
              have h8 : seeE sk s.data.toList[i] = 8 := by
                rw [hse, if_neg him]
                have e2 : (sk.turn != (s.data.toList[i].toNat == 10)) = true := by rw [hgi, ht, h10n]; rfl
                rw [e2]; rfl
              rw [hrun.out, hdrop, run, h8]
              simp
            have HE := Lib.hid hend
            have HW := Lib.hid hwi
            clear hend hse hdrop hgi hwi h10x h10n ht him
            go_wp2
            go_returns
            unfold ReadLeft
            rw [HE.out]
            exact ⟨g, c, by simp [fail, HW.out] <;> omega, HO.out, HB.out⟩
          · have hend : run (Lin.start most) s.data.toList = (outs, i, 8, fail sk 8) := by
              have h8 : seeE sk s.data.toList[i] = 8 := by
                rw [hse, if_neg him]
                have e2 : (sk.turn != (s.data.toList[i].toNat == 10)) = true := by rw [hgi, ht, h10n]; rfl
                rw [e2]; rfl
              rw [hrun.out, hdrop, run, h8]
              simp
            have HE := Lib.hid hend
            have HW := Lib.hid hwi
            clear hend hse hdrop hgi hwi h10x h10n ht him
            go_wp2
            go_returns
            unfold ReadLeft
            rw [HE.out]
            exact ⟨g, c, by simp [fail, HW.out] <;> omega, HO.out, HB.out⟩
    · obtain rfl : i = s.size := by omega
      have hend : run (Lin.start most) s.data.toList = (outs, s.size, 0, sk) := by
        rw [hrun.out, List.drop_of_length_le (by rw [HL.out]; exact Nat.le_refl _)]
        simp [run]
      have HE := Lib.hid hend
      have HW := Lib.hid hat.out.within
      clear hend
      go_wp2
      go_returns
      unfold ReadLeft
      rw [HE.out]
      exact ⟨g, c, by simp [HW.out], HO.out, HB.out⟩

set_option maxRecDepth 100000 in
set_option maxHeartbeats 1600000 in
theorem linfeed_any (most : Int) (x : Option Addr) (len cap : Nat) (ss : List ByteArray) (w : World) (hx : StrsArg w x len ss) :
    Calls Try.prog 3 #[.int .i64 most, .slice x len cap] w fun e w' => e = .returned (.bool true) ∧ Below w.heap.size w w' := by
  have HX := Lib.hid hx
  have hjoin := joined_any x len cap ss w hx
  have HJ := Lib.hid hjoin
  clear hx hjoin
  by_cases hm : 0 ≤ most ∧ most ≤ 65536
  · obtain ⟨m0, m1⟩ := hm
    obtain ⟨n, rfl⟩ := Int.eq_ofNat_of_zero_le m0
    have hn : n ≤ 65536 := by omega
    by_cases hok : okJ ss
    · have HO := Lib.hid hok
      have hsize : (joinTo ss ss.length).size ≤ 4000 := joinTo_size ss ss.length (fun j hj => hok j hj)
      obtain ⟨S, hS⟩ : ∃ S, S = joinTo ss ss.length := ⟨_, rfl⟩
      have HS := Lib.hid hS
      have HZ := Lib.hid hsize
      clear hok hS hsize
      go_enter Try.func3, Try.ntmps3
      go_wp2_with fail
      refine (HJ.out.1 HO.out).mono ?_
      rintro e w' ⟨rfl, rfl⟩
      rw [← HS.out]
      go_wp2_with fail
      refine (new_yes2 n w hn).mono ?_
      rintro e w1 ⟨rfl, hi1, hb1⟩
      have P1 := Lib.hid (nil_is hi1 hn w.heap.size (Nat.le_refl _))
      have B1 := Lib.hid hb1
      have z1 : w.heap.size < w1.heap.size := lt_of_block hi1
      clear hi1 hb1
      go_wp2_with fail
      have X2 := Lib.hid (HX.out.below B1.out)
      have K2 : Hid (len = 0 ∨ Keeps w1 w.heap.size w.heap.size x) := by
        obtain ⟨_, _, _, h4⟩ := HX.out
        rcases h4 with h4 | ⟨b, o, h5, h6, _⟩
        · exact .inl h4
        · exact .inr (Keeps.of_low (fun p hp => by rw [h5] at hp; cases hp; exact h6))
      have F := feedlaw_any x len cap ss w1 w.heap.size w.heap.size _ (by omega) X2.out K2.out P1.out rfl rfl HZ.out
      obtain ⟨R, hR⟩ : ∃ R, R = run (Lin.start n) (catTo ss ss.length) := ⟨_, rfl⟩
      rw [← hR] at F
      have HR := Lib.hid hR
      clear hR
      refine F.mono ?_
      clear F
      rintro e w3 ⟨g3, c3, rfl, ho3, hl3⟩
      have O3 := Lib.hid ho3
      have L3 := Lib.hid hl3
      have z3 : w1.heap.size ≤ w3.heap.size := hl3.size
      clear ho3 hl3
      go_wp2_with fail
      have F2 := read_any S n w3 (by rw [HS.out]; exact HZ.out)
      have hcat : S.data.toList = catTo ss ss.length := by rw [HS.out]; rfl
      rw [hcat, ← HR.out] at F2
      clear hcat
      refine F2.mono ?_
      clear F2
      rintro e w5 ⟨g5, c5, rfl, ho5, hb5⟩
      have O5 := Lib.hid ho5
      have B5 := Lib.hid hb5
      have z5 : w3.heap.size ≤ w5.heap.size := hb5.size
      clear ho5 hb5
      have hsm : (∀ y ∈ mkLines R.1, y.size ≤ 9223372036854775807) ∧ R.1.length ≤ 9223372036854775807 := by
        have hcl : (catTo ss ss.length).length ≤ 4000 := by
          have h1 : (catTo ss ss.length).length = (joinTo ss ss.length).size := by unfold catTo; simp
          rw [h1]; exact HZ.out
        rw [HR.out]
        refine ⟨mkLines_small _ _ hcl (Ok_start hn), ?_⟩
        have := (run_lines (catTo ss ss.length) (Lin.start n)).1
        omega
      have PP := Lib.hid ((L3.out.1).below B5.out)
      have OO := Lib.hid (own_below O3.out B5.out)
      have S1 := Lib.hid (StrsArg.of_owned (cap := c3) OO.out hsm.2 hsm.1)
      have S2 := Lib.hid (StrsArg.of_owned (cap := c5) O5.out hsm.2 hsm.1)
      have hwh : R.2.2.2.whole = false := by rw [HR.out]; exact (run_whole _ _ rfl).1
      have hsp : R.2.2.2.spent = R.2.1 := by
        rw [HR.out, (run_whole (catTo ss ss.length) (Lin.start n) rfl).2]
        show 0 + _ = _
        omega
      clear hsm
      have hbel : Hid (Below w.heap.size w w5) := ((B1.out).trans L3.out.2.1).trans (B5.out.mono (by omega))
      go_wp2_with (first
        | (go_at_call 20; refine (rsame_any _ _ _ _ _ _ _ _ _ S1.out S2.out).mono ?_; rintro e w6 ⟨rfl, hd6⟩; have D6 := Lib.hid hd6; have PP6 := Lib.hid (PP.out.below (hd6.below _)); have z6 : w5.heap.size ≤ w6.heap.size := (hd6.below 0).size; clear hd6)
        | (go_at_call 21; refine (spent_has _ _ _ PP6.out.has).mono ?_; rintro e w' ⟨rfl, rfl⟩)
        | (go_at_call 22; refine (within_has _ _ _ PP6.out.has).mono ?_; rintro e w' ⟨rfl, rfl⟩)
        | (go_at_call 23; refine (whole_any _ _ _ _ PP6.out).mono ?_; rintro e w' ⟨rfl, rfl⟩)
        | (go_at_call 17; refine (linlives_any _).mono ?_; rintro e w9 ⟨rfl, hv⟩; have V9 := Lib.hid hv; clear hv))
      go_ret
      exact ⟨rfl, hbel.out.trans ((D6.out.below w.heap.size).trans (V9.out.mono (by omega)))⟩
    · have HO := Lib.hid hok
      have d1 : decide ((n : Int) < 0) = false := by simp
      have d2 : decide ((65536 : Int) < (n : Int)) = false := by simp; omega
      clear hok
      go_enter Try.func3, Try.ntmps3
      go_wp2_with fail
      refine (HJ.out.2 HO.out).mono ?_
      rintro e w' ⟨rfl, rfl⟩
      go_wp2_with fail
      refine (new_yes2 n w hn).mono ?_
      rintro e w1 ⟨rfl, hi1, hb1⟩
      have B1 := Lib.hid hb1
      have z1 : w.heap.size < w1.heap.size := lt_of_block hi1
      clear hi1 hb1
      go_wp2_with (go_at_call 17; refine (linlives_any _).mono ?_; rintro e w9 ⟨rfl, hv⟩; have V9 := Lib.hid hv; clear hv)
      go_ret
      exact ⟨rfl, B1.out.trans (V9.out.mono (by omega))⟩
  · have hm2 : most < 0 ∨ (0 ≤ most ∧ 65536 < most) := by omega
    have hm3 : most < 0 ∨ 65536 < most := by omega
    by_cases hok : okJ ss
    · have HO := Lib.hid hok
      obtain ⟨S, hS⟩ : ∃ S, S = joinTo ss ss.length := ⟨_, rfl⟩
      have HS := Lib.hid hS
      have HM := Lib.hid hm3
      clear hok hS hm hm3
      rcases hm2 with h1 | ⟨h1, h2⟩
      all_goals
        go_enter Try.func3, Try.ntmps3
        go_wp2_with fail
        refine (HJ.out.1 HO.out).mono ?_
        rintro e w' ⟨rfl, rfl⟩
        rw [← HS.out]
        go_wp2_with fail
        refine (new_none _ w HM.out).mono ?_
        rintro e w' ⟨rfl, rfl⟩
        go_wp2_with (go_at_call 17; refine (linlives_any _).mono ?_; rintro e w9 ⟨rfl, hv⟩)
        go_ret
        exact ⟨rfl, hv⟩
    · have HO := Lib.hid hok
      have HM := Lib.hid hm3
      clear hok hm hm3
      rcases hm2 with h1 | ⟨h1, h2⟩
      all_goals
        go_enter Try.func3, Try.ntmps3
        go_wp2_with fail
        refine (HJ.out.2 HO.out).mono ?_
        rintro e w' ⟨rfl, rfl⟩
        go_wp2_with fail
        refine (new_none _ w HM.out).mono ?_
        rintro e w' ⟨rfl, rfl⟩
        go_wp2_with (go_at_call 17; refine (linlives_any _).mono ?_; rintro e w9 ⟨rfl, hv⟩)
        go_ret
        exact ⟨rfl, hv⟩
end Go.Proofs.Ytgbjndlaonalcaa
