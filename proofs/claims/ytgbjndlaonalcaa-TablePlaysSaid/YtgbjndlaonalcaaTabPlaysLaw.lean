
/-
  THE WALK of the law TablePlays, whole.
-/
import Derived.Test.YtgbjndlaonalcaaTabPlays
import Derived.Deep.DeepCutAuto
namespace Go.Proofs.Ytgbjndlaonalcaa
open Go.RowKit Go.Proofs.Ytgbjndlaonalcaa.Tab

theorem newTab_size (w : World) (n : Nat) : (newTab w n).heap.size = w.heap.size + 2 := by simp [newTab]
theorem rslots_new (w : World) (B n : Nat) (hn : n ≤ 1000) (hB : B ≤ w.heap.size) : RSlots (w.alloc (.cells (slotVals (List.replicate n (0, false))).toArray 124)) B w.heap.size n n (List.replicate n (0, false)) := by
  refine ⟨by simp; exact hn, by simp, ?_⟩
  have := World.ownsRow_lit (base := B) (e := 124) (size := 2) w (slotVals (List.replicate n (0, false))).toArray n hB (by unfold maxLen; omega) (by simp [slotVals_length])
  simpa using this
theorem newtab2 (w : World) (n : Nat) (hn : n ≤ 1000) : IsTab (newTab (w.alloc (.cells (slotVals (List.replicate n (0, false))).toArray 124)).drew n) (w.heap.size + 1 + 1) (w.heap.size + 1) (List.replicate n (0, false)) := by
  have := newTab_is (w.alloc (.cells (slotVals (List.replicate n (0, false))).toArray 124)).drew n hn
  rw [show (w.alloc (.cells (slotVals (List.replicate n (0, false))).toArray 124)).drew.heap.size = w.heap.size + 1 from by simp] at this
  exact this
theorem newTab_drew (w : World) (n : Nat) : Below w.heap.size w (newTab w.drew n) := ((Below.refl _ w).drew).trans (newTab_below w.drew n)
theorem rget_in (l : Slots) (p : Int) : (rgetV l p).2 = (getV l p).2 := by
  unfold rgetV
  cases h : (getV l p).2 <;> simp [h]
theorem rget_same {l : Slots} {p : Int} (h : (getV l p).2 = true) : rgetV l p = getV l p := by unfold rgetV; rw [if_pos h]
theorem getV_at {l : Slots} {p : Int} (h : (getV l p).2 = true) : ∃ i : Nat, p = i ∧ ∃ hi : i < l.length, l[i].2 = true := by
  unfold getV at h
  split at h
  · rename_i hp
    refine ⟨p.toNat, by omega, hp.2, h⟩
  · cases h

set_option maxRecDepth 100000 in
set_option maxHeartbeats 6400000 in
theorem tplays_go (n : Nat) (x : Option Addr) (len cap : Nat) (acts : List (Int × Int × Int)) (w : World) (h : ActsAt w x len acts) (hn : n ≤ 200) (hlen : len ≤ 100) :
    Calls Try.prog 11 #[.int .i64 n, .slice x len cap] w fun e w' => e = .returned (.bool true) ∧ Below w.heap.size w w' := by
  obtain ⟨i0, hi, hz, hs, hb⟩ := info_parts info_rslot
  have hmk : ∀ W : World, (Instr.makeSlice 77 (.int .i64 (n : Int)) (.int .i64 (n : Int))).run Try.prog W = .ok (.slice (some ⟨W.heap.size, 0, none⟩) n n) (W.alloc (.cells (slotVals (List.replicate n (0, false))).toArray 124)) := by
    intro W
    have := run_make (P := Try.prog) W 77 124 i0 _ Try.underlying77 hi hz .i64 .i64 n n (by omega) (by omega) (by rw [hb]; omega) (by omega)
    rw [hs] at this
    simp only [Int.toNat_natCast] at this
    rw [replicate_cells] at this
    exact this
  have HM := Lib.hid hmk
  have HX := Lib.hid h
  have hL := h.len
  clear hi hz hs hb hmk h
  have hmk := HM.out
  go_enter Try.func11, Try.ntmps11
  go_upto_region 3 with fail
  go_cut [5, 6] (fun s5 s6 wx => ∃ b g rg : Nat, s5 = .pointer (some ⟨b, 0, none⟩) ∧ s6 = .slice (some ⟨rg, 0, none⟩) n n ∧ Hid (PlaySt w b g rg n n (List.replicate n (0, false)) wx))
  case first =>
    go_region_with (go_at_call 46; refine (tnew_some n _ (by omega)).mono ?_; rintro e w' ⟨rfl, rfl⟩)
    · go_wp2_with fail
      go_meet
      case rel => exact ⟨_, w.heap.size, _, rfl, rfl, (newTab_is w.drew n (by omega)).below (below_new _ _), rslots_new _ _ n (by omega) (by rw [newTab_size]; exact Nat.le_add_right _ _), ((newTab_drew w n).trans ((below_new _ _).mono (by rw [newTab_size]; exact Nat.le_add_right _ _))), ⟨Nat.le_succ _, Nat.le_refl _⟩⟩
    · go_wp2_with fail
      go_meet
      case rel => exact ⟨_, w.heap.size + 1, _, rfl, rfl, newtab2 w n (by omega), (rslots_new w _ n (by omega) (Nat.le_refl _)).below (newTab_drew (w.alloc (.cells (slotVals (List.replicate n (0, false))).toArray 124)) n), (below_new w _).trans ((newTab_drew (w.alloc (.cells (slotVals (List.replicate n (0, false))).toArray 124)) n).mono (by rw [World.size_alloc]; exact Nat.le_succ _)), ⟨by omega, by omega⟩⟩
  case rest =>
    clear hmk
    obtain ⟨b, g, rg, rfl, rfl, hp⟩ := hcut
    have HP := Lib.hid hp.out
    clear hp
    have hlx : (len : Int) ≤ 100 := by omega
    go_wp2_with fail
    go_loopg [6, 51] len (fun gg s6 s51 wr => ∃ (k rg c : Nat) (L : Slots), k ≤ len ∧ len - k ≤ gg ∧ s51 = .int .i64 k ∧ s6 = .slice (some ⟨rg, 0, none⟩) n c ∧ Hid (PlaySt w b g rg n c L wr))
    case atStart => exact ⟨0, rg, n, _, Nat.zero_le _, by omega, rfl, rfl, HP.out⟩
    case round =>
      obtain ⟨k, rg, c, L, hk, hg, rfl, rfl, hp⟩ := hrel
      by_cases hkl : k < len
      · obtain ⟨ab, ao, p, q, r, rfl, hc0, hc1, hc2, hk2, hact⟩ := (HX.out.below (Nat.le_refl _) hp.out.below).get k hkl
        have P1 := Lib.hid (hp.out.later (below_new wr (.cells #[.int .i64 p, .int .i64 q, .int .i64 r] 79)))
        have K1 := Lib.hid (Blk.new wr 79 #[.int .i64 p, .int .i64 q, .int .i64 r])
        clear hact
        by_cases h1 : p = 1
        · subst h1
          by_cases hf : full L < L.length
          · have HF := Lib.hid hf
            clear hf
            go_wp2_with fail
            refine (rput_room _ _ rg n c L r P1.out.slots HF.out).mono ?_
            rintro e w2 ⟨rg2, c2, rfl, hs2, hb2⟩
            have S2 := Lib.hid (hs2.mono P1.out.below.size)
            have B2 := Lib.hid (P1.out.below.trans (hb2.mono P1.out.below.size))
            have T2 := Lib.hid (P1.out.tab.below hb2)
            have d2 : w2.cell? ⟨wr.heap.size, 2, none⟩ = some (.int .i64 r) := (K1.out.below hb2 K1.out.lt).cell 2
            have N2 : Hid (rg2 ≠ b ∧ rg2 ≠ g) := ⟨fun e => by have := hs2.lt.1; have := P1.out.tab.lt.1; omega, fun e => by have := hs2.lt.1; have := P1.out.tab.lt.2; omega⟩
            clear hs2 hb2
            go_wp2_with fail
            refine (lput_room w2 b g L r T2.out HF.out).mono ?_
            rintro e w3 ⟨rfl, ht3, ho3⟩
            have P3 := Lib.hid (PlaySt.only S2.out N2.out B2.out P1.out.old ht3 ho3)
            clear ht3 ho3
            go_wp2_with fail
            refine (tsame_any w3 b g _ rg2 n c2 _ P3.out.tab P3.out.slots).mono ?_
            rintro e w4 ⟨rfl, hb4⟩
            have P4 := Lib.hid (P3.out.later hb4)
            clear hb4
            go_wp2
            go_roundg (len - (k + 1))
            case measure => omega
            case rel => exact ⟨k + 1, rg2, c2, _, by omega, by omega, by go_num, rfl, P4.out⟩
          · have hfe : full L = L.length := by have := full_le L; omega
            have HF := Lib.hid hfe
            clear hf hfe
            go_wp2_with fail
            refine (rput_full _ _ rg n c L r P1.out.slots HF.out).mono ?_
            rintro e w2 ⟨rfl, rfl⟩
            go_wp2_with fail
            refine (lput_full _ b g L r P1.out.tab HF.out).mono ?_
            rintro e w3 ⟨rfl, hd3⟩
            have P3 := Lib.hid (P1.out.later hd3.grow)
            clear hd3
            go_wp2_with fail
            refine (tsame_any w3 b g _ rg n c _ P3.out.tab P3.out.slots).mono ?_
            rintro e w4 ⟨rfl, hb4⟩
            have P4 := Lib.hid (P3.out.later hb4)
            clear hb4
            go_wp2
            go_roundg (len - (k + 1))
            case measure => omega
            case rel => exact ⟨k + 1, rg, c, _, by omega, by omega, by go_num, rfl, P4.out⟩
        · have e1 : (p == 1) = false := by simpa using h1
          by_cases h2 : p = 2
          · subst h2
            clear h1
            go_wp2_with fail
            refine (tget_some _ b g L q P1.out.tab).mono ?_
            rintro e w2 ⟨rfl, hd2⟩
            have P2 := Lib.hid (P1.out.later hd2.grow)
            have d2 : w2.cell? ⟨wr.heap.size, 1, none⟩ = some (.int .i64 q) := (K1.out.below hd2.grow K1.out.lt).cell 1
            clear hd2
            go_wp2_with fail
            refine (rget_any _ _ rg n c L q P2.out.slots).mono ?_
            rintro e w3 ⟨rfl, rfl⟩
            rw [rget_in]
            cases hin : (getV L q).2
            · go_wp2_with fail
              refine (tsame_any w2 b g _ rg n c _ P2.out.tab P2.out.slots).mono ?_
              rintro e w4 ⟨rfl, hb4⟩
              have P4 := Lib.hid (P2.out.later hb4)
              clear hb4
              go_wp2
              go_roundg (len - (k + 1))
              case measure => omega
              case rel => exact ⟨k + 1, rg, c, _, by omega, by omega, by go_num, rfl, P4.out⟩
            · rw [rget_same hin]
              go_wp2_with fail
              refine (tsame_any w2 b g _ rg n c _ P2.out.tab P2.out.slots).mono ?_
              rintro e w4 ⟨rfl, hb4⟩
              have P4 := Lib.hid (P2.out.later hb4)
              clear hb4
              go_wp2
              go_roundg (len - (k + 1))
              case measure => omega
              case rel => exact ⟨k + 1, rg, c, _, by omega, by omega, by go_num, rfl, P4.out⟩
          · have e2 : (p == 2) = false := by simpa using h2
            clear h1 h2
            cases hin : (getV L q).2
            · have HI := Lib.hid hin
              clear hin
              go_wp2_with fail
              refine (rdrop_no _ _ rg n c L q P1.out.slots HI.out).mono ?_
              rintro e w2 ⟨rfl, rfl⟩
              go_wp2_with fail
              refine (tdrop_no _ b g L q P1.out.tab HI.out).mono ?_
              rintro e w3 ⟨rfl, hd3⟩
              have P3 := Lib.hid (P1.out.later hd3.grow)
              clear hd3
              go_wp2_with fail
              refine (tsame_any w3 b g _ rg n c _ P3.out.tab P3.out.slots).mono ?_
              rintro e w4 ⟨rfl, hb4⟩
              have P4 := Lib.hid (P3.out.later hb4)
              clear hb4
              go_wp2
              go_roundg (len - (k + 1))
              case measure => omega
              case rel => exact ⟨k + 1, rg, c, _, by omega, by omega, by go_num, rfl, P4.out⟩
            · obtain ⟨i, rfl, hil, hli⟩ := getV_at hin
              have HLi := Lib.hid hli
              clear hin hli
              go_wp2_with fail
              refine (rdrop_yes _ _ rg n c L i P1.out.slots hil HLi.out).mono ?_
              rintro e w2 ⟨rg2, c2, rfl, hs2, hb2⟩
              have S2 := Lib.hid (hs2.mono P1.out.below.size)
              have B2 := Lib.hid (P1.out.below.trans (hb2.mono P1.out.below.size))
              have T2 := Lib.hid (P1.out.tab.below hb2)
              have d2 : w2.cell? ⟨wr.heap.size, 1, none⟩ = some (.int .i64 i) := (K1.out.below hb2 K1.out.lt).cell 1
              have N2 : Hid (rg2 ≠ b ∧ rg2 ≠ g) := ⟨fun e => by have := hs2.lt.1; have := P1.out.tab.lt.1; omega, fun e => by have := hs2.lt.1; have := P1.out.tab.lt.2; omega⟩
              clear hs2 hb2
              go_wp2_with fail
              refine (tdrop_yes w2 b g L i T2.out hil HLi.out).mono ?_
              rintro e w3 ⟨rfl, ht3, ho3⟩
              have P3 := Lib.hid (PlaySt.only S2.out N2.out B2.out P1.out.old ht3 ho3)
              clear ht3 ho3
              go_wp2_with fail
              refine (tsame_any w3 b g _ rg2 n c2 _ P3.out.tab P3.out.slots).mono ?_
              rintro e w4 ⟨rfl, hb4⟩
              have P4 := Lib.hid (P3.out.later hb4)
              clear hb4
              go_wp2
              go_roundg (len - (k + 1))
              case measure => omega
              case rel => exact ⟨k + 1, rg2, c2, _, by omega, by omega, by go_num, rfl, P4.out⟩
      · obtain rfl : k = len := by omega
        go_wp2_with fail
        refine (tablives_any wr).mono ?_
        rintro e w2 ⟨rfl, hb2⟩
        go_wp2
        go_ret
        exact ⟨rfl, hp.out.below.trans (hb2.mono hp.out.below.size)⟩

set_option maxRecDepth 100000 in
set_option maxHeartbeats 3200000 in
theorem tplays_any (most : Int) (x : Option Addr) (len cap : Nat) (acts : List (Int × Int × Int)) (w : World) (h : ActsAt w x len acts) :
    Calls Try.prog 11 #[.int .i64 most, .slice x len cap] w fun e w' => e = .returned (.bool true) ∧ Below w.heap.size w w' := by
  by_cases hgo : 0 ≤ most ∧ most ≤ 200 ∧ len ≤ 100
  · obtain ⟨h0, h1, h2⟩ := hgo
    obtain ⟨n, rfl⟩ := Int.eq_ofNat_of_zero_le h0
    exact tplays_go n x len cap acts w h (by omega) h2
  · have hbig := h.big
    clear h
    by_cases hin : 0 ≤ most ∧ most ≤ 1000
    · obtain ⟨h0, h1⟩ := hin
      have h0' : ¬ most < 0 := by omega
      by_cases h2 : most ≤ 200
      · have h3 : (100 : Int) < (len : Int) := by omega
        have h4 : ¬ 200 < most := by omega
        clear hgo
        go_enter Try.func11, Try.ntmps11
        go_wp2_with fail
        refine (tablives_any _).mono ?_
        rintro e w2 ⟨rfl, hb2⟩
        go_wp2
        go_ret
        exact ⟨rfl, hb2⟩
      · have h4 : 200 < most := by omega
        clear hgo h2
        go_enter Try.func11, Try.ntmps11
        go_wp2_with fail
        refine (tablives_any _).mono ?_
        rintro e w2 ⟨rfl, hb2⟩
        go_wp2
        go_ret
        exact ⟨rfl, hb2⟩
    · have HN := Lib.hid (tnew_none most w (by omega))
      clear hgo
      by_cases h0 : most < 0
      · clear hin
        go_enter Try.func11, Try.ntmps11
        go_wp2_with fail
        refine HN.out.mono ?_
        rintro e w1 ⟨rfl, rfl⟩
        go_wp2_with fail
        refine (tablives_any _).mono ?_
        rintro e w2 ⟨rfl, hb2⟩
        go_wp2
        go_ret
        exact ⟨rfl, hb2⟩
      · have h1 : 1000 < most := by omega
        clear hin
        go_enter Try.func11, Try.ntmps11
        go_wp2_with fail
        refine HN.out.mono ?_
        rintro e w1 ⟨rfl, rfl⟩
        go_wp2_with fail
        refine (tablives_any _).mono ?_
        rintro e w2 ⟨rfl, hb2⟩
        go_wp2
        go_ret
        exact ⟨rfl, hb2⟩
end Go.Proofs.Ytgbjndlaonalcaa
