/-
  THE WALKS of octet: lower, blank, Fold, Trim and the reference's Trim: what each call answers, for every text.
  THE WALKS of octet.Lower and the reference's Lower: the text with small letters; what was there before stays.
-/
import Derived.Test.YtdpohibgipkhnaaTT2
import Derived.Test.YtdpohibgipkhnaaTT7
set_option linter.unusedVariables false
set_option linter.unusedSimpArgs false
namespace Go.Proofs.Ytdpohibgipkhnaa
open Go.RowKit Go.Proofs.Ytdpohibgipkhnaa.Oct

set_option maxHeartbeats 400000 in
theorem lower_any (c : Int) (w : World) (h0 : 0 ≤ c) (h1 : c ≤ 255) :
    Calls Try.prog 85 #[.int .u8 c] w fun e w' => e = .returned (.int .u8 (lowI c)) ∧ w' = w := by
  by_cases ha : 65 ≤ c
  · by_cases hb : c ≤ 90
    · have e : lowI c = c + 32 := by unfold lowI; rw [if_pos ⟨ha, hb⟩]
      rw [e]; clear e
      go_enter Try.func85, Try.ntmps85
      go_wp2
      go_ret
      exact ⟨ret_int (by omega), rfl⟩
    · have e : lowI c = c := by unfold lowI; rw [if_neg (by omega)]
      rw [e]; clear e
      go_enter Try.func85, Try.ntmps85
      go_wp2
      go_ret
      exact ⟨rfl, rfl⟩
  · have e : lowI c = c := by unfold lowI; rw [if_neg (by omega)]
    rw [e]; clear e
    go_enter Try.func85, Try.ntmps85
    go_wp2
    go_ret
    exact ⟨rfl, rfl⟩

set_option maxHeartbeats 400000 in
theorem blank_any (c : Int) (w : World) :
    Calls Try.prog 105 #[.int .u8 c] w fun e w' => e = .returned (.bool (blI c)) ∧ w' = w := by
  by_cases h1 : c = 32
  · subst h1
    go_enter Try.func105, Try.ntmps105
    go_wp2
    go_ret
    exact ⟨rfl, rfl⟩
  · have g1 : (c == 32) = false := by simpa using h1
    have e : blI c = (c == 9) := by unfold blI; rw [g1]; rfl
    rw [e]; clear e
    go_enter Try.func105, Try.ntmps105
    go_wp2
    go_ret
    exact ⟨rfl, rfl⟩

set_option maxHeartbeats 400000 in
theorem fold_any (a b : ByteArray) (w : World) (ha : a.size ≤ 9223372036854775807) (_hb : b.size ≤ 9223372036854775807) :
    Calls Try.prog 44 #[.string a, .string b] w fun e w' => e = .returned (.bool (foldS a b)) ∧ Drawn w w' := by
  by_cases hs : a.size = b.size
  · have h1 : ((a.size : Int) != (b.size : Int)) = false := by simp [hs]
    have HS := Lib.hid hs
    clear hs
    go_enter Try.func44, Try.ntmps44
    go_wp2
    go_loopw [13] (fun i wr => ∃ k : Nat, k ≤ a.size ∧ i = .int .i64 k ∧ Hid (∀ j (ha : j < a.size) (_hb : j < b.size), j < k → lowI (a[j].toNat) = lowI (b[j].toNat)) ∧ Drawn w wr) (fun i _ => a.size - (intOf i).toNat)
    case atStart => exact ⟨0, Nat.zero_le _, rfl, fun j _ _ h => absurd h (Nat.not_lt_zero _), Drawn.refl _⟩
    case round =>
      obtain ⟨k, hk, rfl, hall, hwr⟩ := hrel
      by_cases hlt : k < a.size
      · have hlb : k < b.size := by have := HS.out; omega
        have c1 := a[k].toNat_lt
        have c2 := b[k].toNat_lt
        by_cases he : lowI (a[k].toNat) = lowI (b[k].toNat)
        · have hne : (lowI (a[k].toNat) != lowI (b[k].toNat)) = false := by simp [he]
          have HE := Lib.hid he
          clear he
          go_wp2
          go_quiet ((go_at_call 85; exact Calls.quiet_of_same (lower_any _ _ (by omega) (by omega))))
          go_wp2
          go_roundw
          case rel => exact ⟨k + 1, by omega, by go_num, (fun j hj1 hj2 hj => by
            by_cases hjk : j < k
            · exact hall.out j hj1 hj2 hjk
            · obtain rfl : j = k := by omega
              exact HE.out), hwr.drewN _⟩
          case measure => simp [intOf]; omega
        · have hne : (lowI (a[k].toNat) != lowI (b[k].toNat)) = true := by simpa using he
          have hf := foldS_at k hlt hlb he
          clear he
          go_wp2
          go_quiet ((go_at_call 85; exact Calls.quiet_of_same (lower_any _ _ (by omega) (by omega))))
          go_wp2
          go_ret
          exact ⟨ret_bool hf.symm, hwr.drewN _⟩
      · have hf : foldS a b = true := foldS_true HS.out fun j hj1 hj2 => hall.out j hj1 hj2 (by omega)
        go_wp2
        go_ret
        exact ⟨ret_bool hf.symm, hwr⟩
  · have h1 : ((a.size : Int) != (b.size : Int)) = true := by simp; omega
    have hf := foldS_size hs
    clear hs
    go_enter Try.func44, Try.ntmps44
    go_wp2
    go_ret
    exact ⟨ret_bool hf.symm, Drawn.refl _⟩

/-- Trim: blanks and tabs are cut off at both ends. -/
theorem trim_any (s : ByteArray) (w : World) (hs : s.size ≤ 9223372036854775807) :
    Calls Try.prog 87 #[.string s] w fun e w' => e = .returned (.string (trimS s)) ∧ w = w' := by
  go_enter Try.func87, Try.ntmps87
  go_wp2
  go_loop [3] (fun i => ∃ k : Nat, k ≤ s.size ∧ i = .int .i64 k ∧ Hid (trimS s = trimS (s.extract k s.size))) (fun i => s.size - (intOf i).toNat)
  case atStart => exact ⟨0, Nat.zero_le _, rfl, by rw [extract_all]; exact rfl⟩
  case round =>
    obtain ⟨k, hk, rfl, he⟩ := hrel
    by_cases hlt : k < s.size
    · cases hb : blI (s[k].toNat)
      · have hd0 : ∀ h : k < s.size, blI (s[k]'h).toNat = false := fun _ => hb
        have HD := Lib.hid hd0
        clear hd0
        go_wp2_with (go_at_call 105; refine (blank_any _ _).mono ?_; rintro e w' ⟨rfl, rfl⟩)
        go_loop [4] (fun i => ∃ m : Nat, k ≤ m ∧ m ≤ s.size ∧ i = .int .i64 m ∧ Hid (trimS s = trimS (s.extract k m))) (fun i => (intOf i).toNat)
        case atStart => exact ⟨s.size, by omega, Nat.le_refl _, rfl, he⟩
        case round =>
          obtain ⟨m, hkm, hm, rfl, he2⟩ := hrel
          clear hb
          by_cases hlm : k < m
          · have hm1 : m - 1 < s.size := by omega
            have em : ((m : Int) - 1).toNat = m - 1 := by omega
            have EM := Lib.hid em
            clear em
            cases hb2 : blI (s[m - 1].toNat)
            · have hfin : trimS s = s.extract k m := by
                rw [he2.out]
                exact trimS_self s k m hkm hm (fun h => HD.out (by omega)) (fun _ => hb2)
              have HF := Lib.hid hfin
              clear hfin
              go_wp2_with (go_at_call 105; refine (blank_any _ _).mono ?_; rintro e w' ⟨rfl, rfl⟩)
              go_ret
              exact ⟨ret_str HF.out.symm, rfl⟩
            · go_wp2_with (go_at_call 105; refine (blank_any _ _).mono ?_; rintro e w' ⟨rfl, rfl⟩)
              go_round
              case rel => exact ⟨m - 1, by omega, by omega, by go_num, he2.out.trans (trimS_last s k m hlm hm hb2)⟩
              case measure => simp [intOf]; omega
          · have hfin : trimS s = s.extract k m := by
              rw [he2.out]
              exact trimS_self s k m hkm hm (fun h => absurd h hlm) (fun h => absurd h hlm)
            have HF := Lib.hid hfin
            clear hfin
            go_wp2
            go_ret
            exact ⟨ret_str HF.out.symm, rfl⟩
      · go_wp2_with (go_at_call 105; refine (blank_any _ _).mono ?_; rintro e w' ⟨rfl, rfl⟩)
        go_round
        case rel => exact ⟨k + 1, by omega, by go_num, he.out.trans (trimS_first s k s.size hlt (Nat.le_refl _) hb)⟩
        case measure => simp [intOf]; omega
    · have hfin : trimS s = s.extract k s.size := by
        rw [he.out]
        exact trimS_self s k s.size hk (Nat.le_refl _) (fun h => absurd h hlt) (fun h => absurd h hlt)
      have HF := Lib.hid hfin
      clear hfin
      go_wp2
      refine wp_loop_rounds 1 ?_
      rw [rounds_succ]
      go_wp2
      go_ret
      exact ⟨ret_str HF.out.symm, rfl⟩

theorem blI_cases (c : Int) : ((c == 32) = true ∧ blI c = true) ∨ ((c == 32) = false ∧ (c == 9) = true ∧ blI c = true) ∨ ((c == 32) = false ∧ (c == 9) = false ∧ blI c = false) := by
  unfold blI
  cases h1 : (c == 32) <;> cases h2 : (c == 9) <;> simp
/-- How long the text in a slot is. -/
def strSize : Value → Nat | .string t => t.size | _ => 0

/-- The reference's Trim: the same. -/
theorem rtrim_any (s : ByteArray) (w : World) (hs : s.size ≤ 9223372036854775807) :
    Calls Try.prog 89 #[.string s] w fun e w' => e = .returned (.string (trimS s)) ∧ w = w' := by
  go_enter Try.func89, Try.ntmps89
  go_wp2
  go_loop [0] (fun x => ∃ t : ByteArray, t.size ≤ s.size ∧ x = .string t ∧ Hid (trimS s = trimS t)) (fun x => strSize x)
  case atStart => exact ⟨s, Nat.le_refl _, rfl, rfl⟩
  case round =>
    obtain ⟨t, ht, rfl, he⟩ := hrel
    by_cases h0 : 0 < t.size
    · have hstep : blI (t[0].toNat) = true → Hid (trimS s = trimS (t.extract 1 t.size)) := fun hb => by
        have := trimS_first t 0 t.size h0 (Nat.le_refl _) hb
        rw [extract_all] at this
        exact he.out.trans this
      rcases blI_cases (t[0].toNat) with ⟨g1, hb⟩ | ⟨g1, g2, hb⟩ | ⟨g1, g2, hb⟩
      · have HS := hstep hb
        clear hstep hb
        go_wp2
        go_round
        case rel => exact ⟨t.extract 1 t.size, by simp; omega, rfl, HS⟩
        case measure => simp [strSize]; omega
      · have HS := hstep hb
        clear hstep hb
        go_wp2
        go_round
        case rel => exact ⟨t.extract 1 t.size, by simp; omega, rfl, HS⟩
        case measure => simp [strSize]; omega
      · have HD := Lib.hid hb
        clear hstep hb
        go_wp2
        go_loop [0] (fun x => ∃ m : Nat, m ≤ t.size ∧ x = .string (t.extract 0 m) ∧ Hid (trimS s = trimS (t.extract 0 m))) (fun x => strSize x)
        case atStart => exact ⟨t.size, Nat.le_refl _, by rw [extract_all], by rw [extract_all]; exact he⟩
        case round =>
          clear g1 g2
          obtain ⟨m, hm, hx, he2⟩ := hrel
          obtain ⟨y, hy⟩ : ∃ y, y = t.extract 0 m := ⟨_, rfl⟩
          rw [← hy] at hx he2
          subst hx
          have hys : y.size = m := by rw [hy]; simp; omega
          have hyb : y.size ≤ 9223372036854775807 := by omega
          have HY := Lib.hid hy
          have HYS := Lib.hid hys
          by_cases hlm : 0 < m
          · have hy0 : 0 < y.size := by omega
            have hym : y.size - 1 < y.size := by omega
            have hcut : Hid (y.extract 0 (y.size - 1) = t.extract 0 (m - 1)) := by
              show y.extract 0 (y.size - 1) = t.extract 0 (m - 1)
              rw [hy]
              exact extract_cut t m hm
            clear hy hys
            have hlast : blI (y[y.size - 1].toNat) = true → Hid (trimS s = trimS (y.extract 0 (y.size - 1))) := fun hb => by
              have := trimS_last y 0 y.size (by omega) (Nat.le_refl _) hb
              rw [extract_all] at this
              exact he2.out.trans this
            rcases blI_cases (y[y.size - 1].toNat) with ⟨g1, hb⟩ | ⟨g1, g2, hb⟩ | ⟨g1, g2, hb⟩
            · have HS := hlast hb
              clear hlast hb
              go_wp2
              go_round
              case rel => exact ⟨m - 1, by omega, congrArg Value.string hcut.out, by rw [← hcut.out]; exact HS⟩
              case measure => simp [strSize]; omega
            · have HS := hlast hb
              clear hlast hb
              go_wp2
              go_round
              case rel => exact ⟨m - 1, by omega, congrArg Value.string hcut.out, by rw [← hcut.out]; exact HS⟩
              case measure => simp [strSize]; omega
            · have hfin : trimS s = y := by
                rw [he2.out]
                have hhd : ∀ h : 0 < y.size, blI (y[0]'h).toNat = false := by
                  rw [HY.out]
                  intro h
                  rw [extract_head t m h h0]
                  exact HD.out
                have := trimS_self y 0 y.size (by omega) (Nat.le_refl _) hhd (fun _ => hb)
                rwa [extract_all] at this
              have HF := Lib.hid hfin
              clear hfin hlast hb
              go_wp2
              go_ret
              exact ⟨ret_str HF.out.symm, rfl⟩
          · have hfin : trimS s = y := by
              rw [he2.out]
              have := trimS_self y 0 y.size (by omega) (Nat.le_refl _) (fun h => by omega) (fun h => by omega)
              rwa [extract_all] at this
            have HF := Lib.hid hfin
            have hy0 : ¬ 0 < y.size := by omega
            clear hfin hy hys
            go_wp2
            go_ret
            exact ⟨ret_str HF.out.symm, rfl⟩
    · have hfin : trimS s = t := by
        rw [he.out]
        have := trimS_self t 0 t.size (by omega) (Nat.le_refl _) (fun h => by omega) (fun h => by omega)
        rwa [extract_all] at this
      have HF := Lib.hid hfin
      clear hfin
      go_wp2
      refine wp_loop_rounds 1 ?_
      rw [rounds_succ]
      go_wp2
      go_ret
      exact ⟨ret_str HF.out.symm, rfl⟩
end Go.Proofs.Ytdpohibgipkhnaa
namespace Go.Proofs.Ytdpohibgipkhnaa
open Go.RowKit Go.Proofs.Ytdpohibgipkhnaa.Oct

theorem info_u8 : (Try.prog.info? 5).map (fun i => (i.zero, i.size, i.bytes)) = some (some (.int .u8 0), 1, 1) := by kernel_rfl

/-- The text's octets made small, as far as k. -/
def lowTo (s : ByteArray) (k : Nat) : List UInt8 := (s.data.toList.take k).map lowB
theorem lowTo_succ (s : ByteArray) (k : Nat) (h : k < s.size) : lowTo s (k + 1) = lowTo s k ++ [lowB s[k]] := by
  unfold lowTo; rw [take_snoc s k h, List.map_append]; rfl
theorem lowTo_all (s : ByteArray) : lowTo s s.size = s.data.toList.map lowB := by
  unfold lowTo; rw [List.take_of_length_le (by simp)]
theorem lowTo_length (s : ByteArray) (k : Nat) (h : k ≤ s.size) : (lowTo s k).length = k := by
  unfold lowTo; simp; omega
theorem lowB_val (c : UInt8) (n : Int) (h : n = lowI c.toNat) : Value.int .u8 n = .int .u8 (lowB c).toNat := by rw [h, lowB_toNat]

set_option maxHeartbeats 400000 in
/-- The reference's Lower. -/
theorem rlower_any (s : ByteArray) (w : World) (hs : s.size ≤ 140737488355328) :
    Calls Try.prog 67 #[.string s] w fun e w' => e = .returned (.string (lowS s)) ∧ Below w.heap.size w w' := by
  obtain ⟨i0, hi, hz⟩ := info_hid info_u8
  go_enter Try.func67, Try.ntmps67
  go_wp2
  go_loopw [3, 4] (fun v i wr => ∃ k : Nat, k ≤ s.size ∧ i = .int .i64 k ∧ (∃ g cap, v = .slice (some ⟨g, 0, none⟩) k cap) ∧ wr.ownsRow w.heap.size 5 1 v k (byteVals (lowTo s k)) ∧ Below w.heap.size w wr) (fun _ i _ => s.size - (intOf i).toNat)
  case atStart => exact ⟨0, Nat.zero_le _, rfl, ⟨_, _, rfl⟩, World.ownsRow_lit w #[] 0 (Nat.le_refl _) (by decide) rfl, (Below.refl _ _).alloc (Nat.le_refl _) _⟩
  case round =>
    obtain ⟨k, hk, rfl, ⟨g, cap, rfl⟩, hown, hbel⟩ := hrel
    by_cases hlt : k < s.size
    · have c1 : (s[k].toNat : Int) ≤ 255 := by have := s[k].toNat_lt; omega
      have hsz := hbel.size
      have hlo := hown.lt g rfl
      have hstep : ∀ n : Int, n = lowI (s[k].toNat) → Hid (byteVals (lowTo s k) ++ [.int .u8 n] = byteVals (lowTo s (k + 1))) := fun n hn => by
        show _ = _
        rw [lowTo_succ s k hlt, byteVals_snoc, lowB_val _ n hn]
      by_cases ha : (65 : Int) ≤ (s[k].toNat : Int)
      · by_cases hb : (s[k].toNat : Int) ≤ 90
        · have HS := hstep (s[k].toNat + 32) (by unfold lowI; rw [if_pos (by omega)])
          clear hstep
          go_wp2_with (at_builtin; refine wpList_append_new rfl (.tmp 24) (.tmp 26) 90 rfl w.heap.size 5 Try.underlying90 hi hz rfl (by decide) wr [.int .u8 (s[k].toNat + 32)] hown rfl rfl rfl (one_int _ _) (by unfold maxLen; omega) (by omega) (by omega) ?_; intro g' cap' w1 hown1 hgrow1)
          have R := below_owned hbel hsz hown hgrow1
          rw [HS.out] at hown1
          go_roundw
          case rel => exact ⟨k + 1, by omega, by go_num, ⟨_, _, rfl⟩, hown1, R⟩
          case measure => simp [intOf]; omega
        · have HS := hstep (s[k].toNat) (by unfold lowI; rw [if_neg (by omega)])
          clear hstep
          go_wp2_with (at_builtin; refine wpList_append_new rfl (.tmp 24) (.tmp 26) 90 rfl w.heap.size 5 Try.underlying90 hi hz rfl (by decide) wr [.int .u8 (s[k].toNat)] hown rfl rfl rfl (one_int _ _) (by unfold maxLen; omega) (by omega) (by omega) ?_; intro g' cap' w1 hown1 hgrow1)
          have R := below_owned hbel hsz hown hgrow1
          rw [HS.out] at hown1
          go_roundw
          case rel => exact ⟨k + 1, by omega, by go_num, ⟨_, _, rfl⟩, hown1, R⟩
          case measure => simp [intOf]; omega
      · have HS := hstep (s[k].toNat) (by unfold lowI; rw [if_neg (by omega)])
        clear hstep
        go_wp2_with (at_builtin; refine wpList_append_new rfl (.tmp 24) (.tmp 26) 90 rfl w.heap.size 5 Try.underlying90 hi hz rfl (by decide) wr [.int .u8 (s[k].toNat)] hown rfl rfl rfl (one_int _ _) (by unfold maxLen; omega) (by omega) (by omega) ?_; intro g' cap' w1 hown1 hgrow1)
        have R := below_owned hbel hsz hown hgrow1
        rw [HS.out] at hown1
        go_roundw
        case rel => exact ⟨k + 1, by omega, by go_num, ⟨_, _, rfl⟩, hown1, R⟩
        case measure => simp [intOf]; omega
    · obtain rfl : k = s.size := by omega
      have hback := fun wx => back_of_cells (P := Try.prog) (w := wr) (cap := cap) 90 9 Try.underlying90 Try.underlying5 Try.underlying9 (CellsAt.of_owned hown) s.size wx
      have hback2 := hback (lowTo_length s _ (Nat.le_refl _)).symm
      clear hback
      go_wp2
      go_ret
      exact ⟨ret_str (by rw [lowTo_all]; rfl), hbel⟩

/-- The text's octets, the first k of them made small. -/
def lowMix (s : ByteArray) (k : Nat) : List UInt8 := (s.data.toList.take k).map lowB ++ s.data.toList.drop k
theorem lowMix_zero (s : ByteArray) : lowMix s 0 = s.data.toList := by simp [lowMix]
theorem lowMix_all (s : ByteArray) : lowMix s s.size = s.data.toList.map lowB := by
  unfold lowMix; rw [List.take_of_length_le (by simp), List.drop_of_length_le (by simp), List.append_nil]
theorem lowMix_length (s : ByteArray) (k : Nat) : (lowMix s k).length = s.size := by
  unfold lowMix; simp; omega
theorem lowMix_at (s : ByteArray) (k : Nat) (h : k < s.size) (h2 : k < (lowMix s k).length) : (lowMix s k)[k] = s[k] := by
  apply Option.some.inj
  rw [← List.getElem?_eq_getElem h2]
  unfold lowMix
  have hl : ((s.data.toList.take k).map lowB).length = k := by simp; omega
  rw [List.getElem?_append_right (by omega), hl, Nat.sub_self, List.getElem?_drop, Nat.add_zero, List.getElem?_eq_getElem (by simpa using h)]
  rfl
theorem lowMix_set (s : ByteArray) (k : Nat) (h : k < s.size) : (lowMix s k).set k (lowB s[k]) = lowMix s (k + 1) := by
  unfold lowMix
  have hl : ((s.data.toList.take k).map lowB).length = k := by simp; omega
  rw [List.set_append_right _ _ (by omega), hl, Nat.sub_self, take_snoc s k h, List.map_append, List.append_assoc]
  rw [List.drop_eq_getElem_cons (show k < s.data.toList.length by simpa using h)]
  rfl

set_option maxHeartbeats 400000 in
/-- octet.Lower. -/
theorem lowerS_any (s : ByteArray) (w : World) (hs : s.size ≤ 9223372036854775807) :
    Calls Try.prog 81 #[.string s] w fun e w' => e = .returned (.string (lowS s)) ∧ Below w.heap.size w w' := by
  have hconv := fun wx => run_bytes_of_string (P := Try.prog) wx 9 90 5 s Try.underlying9 Try.underlying90 Try.underlying5
  go_enter Try.func81, Try.ntmps81
  go_wp2
  clear hconv
  go_loopw [10] (fun i wr => ∃ k : Nat, k ≤ s.size ∧ i = .int .i64 k ∧ CellsAt wr w.heap.size (byteVals (lowMix s k)) ∧ Below w.heap.size w wr) (fun i _ => s.size - (intOf i).toNat)
  case atStart => exact ⟨0, Nat.zero_le _, rfl, by rw [lowMix_zero]; exact CellsAt.of_bytes w s _ _, ((Below.refl _ _).alloc (Nat.le_refl _) _).drew⟩
  case round =>
    obtain ⟨k, hk, rfl, hcells, hbel⟩ := hrel
    have HC := Lib.hid hcells
    have hlen : (byteVals (lowMix s k)).length = s.size := by rw [byteVals_length, lowMix_length]
    have HL := Lib.hid hlen
    clear hcells hlen
    by_cases hlt : k < s.size
    · have c1 : (s[k].toNat : Int) ≤ 255 := by have := s[k].toNat_lt; omega
      have hcell : wr.cell? ⟨w.heap.size, k, none⟩ = some (.int .u8 s[k].toNat) := by
        have h2 : k < (lowMix s k).length := by rw [lowMix_length]; exact hlt
        have := HC.out.cell k (by rw [HL.out]; exact hlt)
        rw [this, byteVals_get, lowMix_at s k hlt h2]
      have hfree : wr.frozen? ⟨w.heap.size, k, none⟩ = false := HC.out.free k (by rw [HL.out]; exact hlt)
      go_wp2_with (go_at_call 85; refine (lower_any _ _ (by omega) (by omega)).mono ?_; rintro e w' ⟨rfl, hw⟩; subst hw)
      go_roundw
      case rel =>
        refine ⟨k + 1, by omega, by go_num, ?_, hbel.setCell (Nat.le_refl _) _⟩
        have := HC.out.set k (.int .u8 (lowB s[k]).toNat)
        rw [byteVals_set, lowMix_set s k hlt] at this
        rw [lowB_val (s[k]) _ rfl]
        exact this
      case measure => simp [intOf]; omega
    · obtain rfl : k = s.size := by omega
      have hback := fun cap => back_of_cells (P := Try.prog) (cap := cap) 90 9 Try.underlying90 Try.underlying5 Try.underlying9 HC.out s.size (lowMix_length s _).symm
      go_wp2
      go_ret
      exact ⟨ret_str (by rw [lowMix_all]; rfl), hbel⟩
end Go.Proofs.Ytdpohibgipkhnaa
