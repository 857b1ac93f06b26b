
/-
  THE WALKS of trailer.barred, trailer.Allowed and the document's Allowed.
-/
import Derived.Test.YtdpohibgipkhnaaTT20
import Derived.Test.YtdpohibgipkhnaaTT11
import Derived.Test.YtdpohibgipkhnaaTT21
set_option linter.unusedVariables false
set_option linter.unusedSimpArgs false
namespace Go.Proofs.Ytdpohibgipkhnaa
open Go.RowKit Go.Sort Go.Proofs.Ytdpohibgipkhnaa.Oct

/-- The names that may not be. -/
def barN : List ByteArray := [⟨#[65, 103, 101]⟩, ⟨#[65, 117, 116, 104, 111, 114, 105, 122, 97, 116, 105, 111, 110]⟩, ⟨#[67, 97, 99, 104, 101, 45, 67, 111, 110, 116, 114, 111, 108]⟩, ⟨#[67, 111, 110, 110, 101, 99, 116, 105, 111, 110]⟩, ⟨#[67, 111, 110, 116, 101, 110, 116, 45, 69, 110, 99, 111, 100, 105, 110, 103]⟩, ⟨#[67, 111, 110, 116, 101, 110, 116, 45, 76, 101, 110, 103, 116, 104]⟩, ⟨#[67, 111, 110, 116, 101, 110, 116, 45, 82, 97, 110, 103, 101]⟩, ⟨#[67, 111, 110, 116, 101, 110, 116, 45, 84, 121, 112, 101]⟩, ⟨#[67, 111, 111, 107, 105, 101]⟩, ⟨#[68, 97, 116, 101]⟩, ⟨#[69, 120, 112, 101, 99, 116]⟩, ⟨#[69, 120, 112, 105, 114, 101, 115]⟩, ⟨#[72, 111, 115, 116]⟩, ⟨#[73, 102, 45, 77, 97, 116, 99, 104]⟩, ⟨#[73, 102, 45, 77, 111, 100, 105, 102, 105, 101, 100, 45, 83, 105, 110, 99, 101]⟩, ⟨#[73, 102, 45, 78, 111, 110, 101, 45, 77, 97, 116, 99, 104]⟩, ⟨#[73, 102, 45, 82, 97, 110, 103, 101]⟩, ⟨#[73, 102, 45, 85, 110, 109, 111, 100, 105, 102, 105, 101, 100, 45, 83, 105, 110, 99, 101]⟩, ⟨#[75, 101, 101, 112, 45, 65, 108, 105, 118, 101]⟩, ⟨#[76, 111, 99, 97, 116, 105, 111, 110]⟩, ⟨#[77, 97, 120, 45, 70, 111, 114, 119, 97, 114, 100, 115]⟩, ⟨#[80, 114, 97, 103, 109, 97]⟩, ⟨#[80, 114, 111, 120, 121, 45, 65, 117, 116, 104, 101, 110, 116, 105, 99, 97, 116, 101]⟩, ⟨#[80, 114, 111, 120, 121, 45, 65, 117, 116, 104, 111, 114, 105, 122, 97, 116, 105, 111, 110]⟩, ⟨#[80, 114, 111, 120, 121, 45, 67, 111, 110, 110, 101, 99, 116, 105, 111, 110]⟩, ⟨#[82, 97, 110, 103, 101]⟩, ⟨#[82, 101, 116, 114, 121, 45, 65, 102, 116, 101, 114]⟩, ⟨#[83, 101, 116, 45, 67, 111, 111, 107, 105, 101]⟩, ⟨#[84, 69]⟩, ⟨#[84, 114, 97, 105, 108, 101, 114]⟩, ⟨#[84, 114, 97, 110, 115, 102, 101, 114, 45, 69, 110, 99, 111, 100, 105, 110, 103]⟩, ⟨#[85, 112, 103, 114, 97, 100, 101]⟩, ⟨#[86, 97, 114, 121]⟩, ⟨#[86, 105, 97]⟩, ⟨#[87, 87, 87, 45, 65, 117, 116, 104, 101, 110, 116, 105, 99, 97, 116, 101]⟩]
def barLow : List ByteArray := [⟨#[97, 103, 101]⟩, ⟨#[97, 117, 116, 104, 111, 114, 105, 122, 97, 116, 105, 111, 110]⟩, ⟨#[99, 97, 99, 104, 101, 45, 99, 111, 110, 116, 114, 111, 108]⟩, ⟨#[99, 111, 110, 110, 101, 99, 116, 105, 111, 110]⟩, ⟨#[99, 111, 110, 116, 101, 110, 116, 45, 101, 110, 99, 111, 100, 105, 110, 103]⟩, ⟨#[99, 111, 110, 116, 101, 110, 116, 45, 108, 101, 110, 103, 116, 104]⟩, ⟨#[99, 111, 110, 116, 101, 110, 116, 45, 114, 97, 110, 103, 101]⟩, ⟨#[99, 111, 110, 116, 101, 110, 116, 45, 116, 121, 112, 101]⟩, ⟨#[99, 111, 111, 107, 105, 101]⟩, ⟨#[100, 97, 116, 101]⟩, ⟨#[101, 120, 112, 101, 99, 116]⟩, ⟨#[101, 120, 112, 105, 114, 101, 115]⟩, ⟨#[104, 111, 115, 116]⟩, ⟨#[105, 102, 45, 109, 97, 116, 99, 104]⟩, ⟨#[105, 102, 45, 109, 111, 100, 105, 102, 105, 101, 100, 45, 115, 105, 110, 99, 101]⟩, ⟨#[105, 102, 45, 110, 111, 110, 101, 45, 109, 97, 116, 99, 104]⟩, ⟨#[105, 102, 45, 114, 97, 110, 103, 101]⟩, ⟨#[105, 102, 45, 117, 110, 109, 111, 100, 105, 102, 105, 101, 100, 45, 115, 105, 110, 99, 101]⟩, ⟨#[107, 101, 101, 112, 45, 97, 108, 105, 118, 101]⟩, ⟨#[108, 111, 99, 97, 116, 105, 111, 110]⟩, ⟨#[109, 97, 120, 45, 102, 111, 114, 119, 97, 114, 100, 115]⟩, ⟨#[112, 114, 97, 103, 109, 97]⟩, ⟨#[112, 114, 111, 120, 121, 45, 97, 117, 116, 104, 101, 110, 116, 105, 99, 97, 116, 101]⟩, ⟨#[112, 114, 111, 120, 121, 45, 97, 117, 116, 104, 111, 114, 105, 122, 97, 116, 105, 111, 110]⟩, ⟨#[112, 114, 111, 120, 121, 45, 99, 111, 110, 110, 101, 99, 116, 105, 111, 110]⟩, ⟨#[114, 97, 110, 103, 101]⟩, ⟨#[114, 101, 116, 114, 121, 45, 97, 102, 116, 101, 114]⟩, ⟨#[115, 101, 116, 45, 99, 111, 111, 107, 105, 101]⟩, ⟨#[116, 101]⟩, ⟨#[116, 114, 97, 105, 108, 101, 114]⟩, ⟨#[116, 114, 97, 110, 115, 102, 101, 114, 45, 101, 110, 99, 111, 100, 105, 110, 103]⟩, ⟨#[117, 112, 103, 114, 97, 100, 101]⟩, ⟨#[118, 97, 114, 121]⟩, ⟨#[118, 105, 97]⟩, ⟨#[119, 119, 119, 45, 97, 117, 116, 104, 101, 110, 116, 105, 99, 97, 116, 101]⟩]
theorem barLow_is : barN.map lowS = barLow := by decide +kernel
theorem barN_len : barN.length = 35 := rfl
/-- May a name be a trailer's? -/
def allowS (s : ByteArray) : Bool := !(barN.any fun b => foldS b s) && tokenS s

def barA : Array Value := (barN.map Value.string).toArray
def zeroA : Array Value := (List.replicate 35 (Value.string ⟨#[]⟩)).toArray
theorem info35 : (Try.prog.info? 80).map (·.size) = some barA.size := by kernel_rfl
theorem barA_one : ∀ v ∈ barA.toList, v.oneCell' = true := by
  intro v hv
  unfold barA at hv
  rw [List.toList_toArray] at hv
  obtain ⟨s, _, rfl⟩ := List.mem_map.1 hv
  rfl
set_option maxRecDepth 100000 in
set_option maxHeartbeats 1600000 in
theorem barred_any (w : World) : Calls Try.prog 65 #[] w fun e w' => e = .returned (.agg barA) ∧ Below w.heap.size w w' := by
  go_enter Try.func65, Try.ntmps65
  go_wp2_with (first
    | (refine wpList_run_known (o := ⟨some 1, _, _, _, _, _⟩) rfl (.agg barA) (by kernel_rfl) ?_)
    | (refine wpList_store_all (o := ⟨none, _, _, _, _, _⟩) rfl 80 (.tmp 0) (.tmp 1) rfl w.heap.size barA 80 _ rfl rfl (Blk.new w _ _) rfl info35 barA_one ?_; intro w1 hb1 hk1 hbl1 hz1; have HB := Lib.hid hb1; have HBl := Lib.hid hbl1; clear hb1 hk1 hbl1 hz1))
  refine bodyPost_ret (results_cell_row rfl _ _ w.heap.size _ barA (0, 0) _ rfl HB.out Try.underlying80 rfl info35) rfl ?_
  exact ⟨rfl, (below_new _ _).trans HBl.out⟩

theorem barA_at (k : Nat) (h : k < barN.length) : barA[k]? = some (.string barN[k]) := by
  unfold barA
  rw [List.getElem?_toArray, List.getElem?_map, List.getElem?_eq_getElem h]
  rfl
theorem barN_small : ∀ b ∈ barN, b.size ≤ 9223372036854775807 := by decide +kernel

set_option maxRecDepth 100000 in
set_option maxHeartbeats 3200000 in
theorem allowed_any (s : ByteArray) (w : World) (hs : s.size ≤ 9223372036854775807) :
    Calls Try.prog 16 #[.string s] w fun e w' => e = .returned (.bool (allowS s)) ∧ Below w.heap.size w w' := by
  have HAl : Hid (allowS s = (!(barN.any fun b => foldS b s) && tokenS s)) := rfl
  go_enter Try.func16, Try.ntmps16
  go_wp2_with fail
  refine (barred_any _).mono ?_
  rintro e w1 ⟨rfl, hb1⟩
  have B1 := Lib.hid hb1
  clear hb1
  go_wp2_with (refine wpList_store_all (o := ⟨none, _, _, _, _, _⟩) rfl 80 (.tmp 3) (.tmp 5) rfl w1.heap.size barA 80 _ rfl rfl (Blk.new w1 _ _) rfl info35 barA_one ?_; intro w2 hb2 hk2 hbl2 hz2; have HK := Lib.hid hb2; have B2 := Lib.hid (grow_trans B1.out ((below_new _ _).trans hbl2)); have z2 : w1.heap.size < w2.heap.size := (hb2.lt); clear hb2 hk2 hbl2 hz2)
  go_loopw [4, 6] (fun _ s6 wr => ∃ k : Nat, k ≤ 35 ∧ s6 = .int .i64 k ∧ Hid (∀ j (hj : j < barN.length), j < k → foldS barN[j] s = false) ∧ Hid (Below w2.heap.size w2 wr)) (fun _ s6 _ => 35 - (intOf s6).toNat)
  case atStart => exact ⟨0, by omega, rfl, fun j _ hj => absurd hj (Nat.not_lt_zero _), Below.refl _ _⟩
  case round =>
    obtain ⟨k, hk, rfl, hall, hb⟩ := hrel
    by_cases hkl : k < 35
    · have hkb : k < barN.length := hkl
      have hcell : wr.cell? ⟨w1.heap.size, k, none⟩ = some (.string barN[k]) := (hb.out.cell (p := ⟨w1.heap.size, k, none⟩) z2).trans ((HK.out.cell k).trans (barA_at k hkb))
      have hbs := barN_small _ (List.getElem_mem hkb)
      obtain ⟨bn, hbn⟩ : ∃ bn, bn = barN[k] := ⟨_, rfl⟩
      rw [← hbn] at hcell hbs
      have HN := Lib.hid hbn
      clear hbn
      cases hf : foldS bn s
      · have HF := Lib.hid hf
        clear hf
        go_wp2_with fail
        refine (fold_any bn s _ hbs hs).mono ?_
        rintro e w3 ⟨rfl, hd⟩
        rw [HF.out]
        have HB := Lib.hid (hb.out.trans (hd.below _))
        clear hd
        go_wp2
        go_roundw
        case rel => exact ⟨k + 1, by omega, by go_num, (fun j hj hjk => by
          by_cases e : j = k
          · subst e; rw [← HN.out]; exact HF.out
          · exact hall.out j hj (by omega)), HB.out⟩
        case measure => simp [intOf]; omega
      · have hno : allowS s = false := by
          have : barN.any (fun b => foldS b s) = true := List.any_eq_true.2 ⟨bn, by rw [HN.out]; exact List.getElem_mem hkb, hf⟩
          rw [HAl.out, this]; rfl
        have HNo := Lib.hid hno
        have HF := Lib.hid hf
        clear hf hno
        go_wp2_with fail
        refine (fold_any bn s _ hbs hs).mono ?_
        rintro e w3 ⟨rfl, hd⟩
        rw [HF.out]
        have HB := Lib.hid (hb.out.trans (hd.below _))
        clear hd
        go_wp2
        go_ret
        exact ⟨ret_bool HNo.out.symm, grow_trans B2.out HB.out⟩
    · obtain rfl : k = 35 := by omega
      have hyes : allowS s = tokenS s := by
        have : barN.any (fun b => foldS b s) = false := by
          rw [Bool.eq_false_iff]
          intro h
          obtain ⟨b, hb2, hf⟩ := List.any_eq_true.1 h
          obtain ⟨j, hj, rfl⟩ := List.mem_iff_getElem.1 hb2
          rw [hall.out j hj hj] at hf
          cases hf
        rw [HAl.out, this]; rfl
      have HY := Lib.hid hyes
      clear hyes
      go_wp2_with fail
      refine (token_any s _).mono ?_
      rintro e w3 ⟨rfl, hd⟩
      have HB := Lib.hid (grow_trans B2.out (grow_trans hb.out hd))
      clear hd
      go_wp2
      go_ret
      exact ⟨ret_bool HY.out.symm, HB.out⟩

/-! ### the document's -/
def lowA : Array Value := (barLow.map Value.string).toArray
theorem lowA_at (k : Nat) (h : k < barN.length) : lowA[k]? = some (.string (lowS barN[k])) := by
  unfold lowA
  rw [← barLow_is, List.getElem?_toArray, List.getElem?_map, List.getElem?_map, List.getElem?_eq_getElem h]
  rfl

set_option maxRecDepth 100000 in
set_option maxHeartbeats 3200000 in
theorem rallowed_any (s : ByteArray) (w : World) (hs : s.size ≤ 140737488355328) :
    Calls Try.prog 17 #[.string s] w fun e w' => e = .returned (.bool (allowS s)) ∧ Below w.heap.size w w' := by
  have HAl : Hid (allowS s = (!(barN.any fun b => foldS b s) && tokenS s)) := rfl
  have hs2 : s.size ≤ 9223372036854775807 := by omega
  go_enter Try.func17, Try.ntmps17
  go_wp2_with (refine wpList_build_known (o := ⟨some 5, _, _, _, _, _⟩) rfl (.slice (some ⟨w.heap.size, 0, none⟩) 35 35) (w.alloc (.cells lowA 9)) (by kernel_rfl) ?_)
  obtain ⟨w2, hw2⟩ : ∃ w2, w2 = w.alloc (.cells lowA 9) := ⟨_, rfl⟩
  rw [← hw2]
  have HK : Hid (Blk w2 w.heap.size 9 lowA) := by rw [hw2]; exact Blk.new _ _ _
  have B2 : Hid (Below w.heap.size w w2) := by rw [hw2]; exact below_new _ _
  have z2 : w.heap.size < w2.heap.size := HK.out.lt
  clear hw2
  go_loopw [4] (fun s4 wr => ∃ k : Nat, k ≤ 35 ∧ s4 = .int .i64 k ∧ Hid (∀ j (hj : j < barN.length), j < k → foldS barN[j] s = false) ∧ Hid (Below w2.heap.size w2 wr)) (fun s4 _ => 35 - (intOf s4).toNat)
  case atStart => exact ⟨0, by omega, rfl, fun j _ hj => absurd hj (Nat.not_lt_zero _), Below.refl _ _⟩
  case round =>
    obtain ⟨k, hk, rfl, hall, hb⟩ := hrel
    by_cases hkl : k < 35
    · have hkb : k < barN.length := hkl
      have hcell : wr.cell? ⟨w.heap.size, k, none⟩ = some (.string (lowS barN[k])) := (hb.out.cell (p := ⟨w.heap.size, k, none⟩) z2).trans ((HK.out.cell k).trans (lowA_at k hkb))
      have hle := low_eq barN[k] s
      obtain ⟨bn, hbn⟩ : ∃ bn, bn = barN[k] := ⟨_, rfl⟩
      rw [← hbn] at hcell hle
      have HN := Lib.hid hbn
      have qc := cell_regrown hcell
      have cL : ∀ d os, Calls Try.prog 67 #[.string s] (grow (redrawn wr d) os) fun e w'' => e = .returned (.string (lowS s)) ∧ ∃ p : Regrown, w'' = grow (redrawn wr p.d) p.os := fun d os => Calls.regrown_of (rlower_any s _ hs)
      clear hbn hcell
      cases hf : foldS bn s
      · rw [hf] at hle
        have HF := Lib.hid hf
        clear hf
        go_wp2_with fail
        refine wp_region_quiet_below (by kernel_rfl) (by kernel_rfl) ?_
        repeat (quiet_step (exact cL _ _))
        refine wpQuiet_nil ?_
        intro _ hw'
        obtain ⟨⟨dq, osq⟩, hw''⟩ := hw'
        subst hw''
        have HB := Lib.hid (hb.out.trans ((below_regrown wr dq osq).mono hb.out.size))
        clear qc cL
        go_wp2
        go_roundw
        case rel => exact ⟨k + 1, by omega, by go_num, (fun j hj hjk => by
          by_cases e : j = k
          · subst e; rw [← HN.out]; exact HF.out
          · exact hall.out j hj (by omega)), HB.out⟩
        case measure => simp [intOf]; omega
      · have hno : allowS s = false := by
          have : barN.any (fun b => foldS b s) = true := List.any_eq_true.2 ⟨bn, by rw [HN.out]; exact List.getElem_mem hkb, hf⟩
          rw [HAl.out, this]; rfl
        rw [hf] at hle
        have HNo := Lib.hid hno
        clear hf hno
        go_wp2_with fail
        refine wp_region_quiet_below (by kernel_rfl) (by kernel_rfl) ?_
        repeat (quiet_step (exact cL _ _))
        refine wpQuiet_nil ?_
        intro _ hw'
        obtain ⟨⟨dq, osq⟩, hw''⟩ := hw'
        subst hw''
        have HB := Lib.hid (hb.out.trans ((below_regrown wr dq osq).mono hb.out.size))
        clear qc cL
        go_wp2
        go_ret
        exact ⟨ret_bool HNo.out.symm, grow_trans B2.out HB.out⟩
    · obtain rfl : k = 35 := by omega
      have hyes : allowS s = tokenS s := by
        have : barN.any (fun b => foldS b s) = false := by
          rw [Bool.eq_false_iff]
          intro h
          obtain ⟨b, hb2, hf⟩ := List.any_eq_true.1 h
          obtain ⟨j, hj, rfl⟩ := List.mem_iff_getElem.1 hb2
          rw [hall.out j hj hj] at hf
          cases hf
        rw [HAl.out, this]; rfl
      have HY := Lib.hid hyes
      clear hyes
      go_wp2_with fail
      refine (rtoken_any s hs2 _).mono ?_
      rintro e w3 ⟨rfl, rfl⟩
      go_wp2
      go_ret
      exact ⟨ret_bool HY.out.symm, grow_trans B2.out hb.out⟩
end Go.Proofs.Ytdpohibgipkhnaa
