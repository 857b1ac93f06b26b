
/-
  THE WALKS of trailer.only, Keep, Merge, and of the document's Keep and Merge.
-/
import Derived.Test.YtdpohibgipkhnaaTT26
import Derived.Test.YtdpohibgipkhnaaTT25
set_option linter.unusedVariables false
set_option linter.unusedSimpArgs false
namespace Go.Proofs.Ytdpohibgipkhnaa
open Go.RowKit Go.Sort Go.Proofs.Ytdpohibgipkhnaa.Oct

theorem one_fld (x y : ByteArray) : ∀ u ∈ [Value.string x, Value.string y], u.oneCell' = true := by
  intro u hu
  simp only [List.mem_cons, List.not_mem_nil, or_false] at hu
  rcases hu with rfl | rfl <;> rfl
theorem fldVals_snoc (l : Flds) (x y : ByteArray) : fldVals (l ++ [(x, y)]) = fldVals l ++ [.string x, .string y] := by rw [fldVals_append]; rfl
theorem filter_take {α : Type} (p : α → Bool) (l : List α) (k : Nat) (hk : k < l.length) : (l.take (k + 1)).filter p = (l.take k).filter p ++ (if p l[k] = true then [l[k]] else []) := by
  rw [List.take_succ_eq_append_getElem hk, List.filter_append]
  congr 1
  cases h : p l[k] <;> simp [h]
theorem filter_len {α : Type} (p : α → Bool) (l : List α) (k : Nat) : ((l.take k).filter p).length ≤ k := by
  have := List.length_filter_le p (l.take k)
  have h2 := List.length_take_le k l
  omega
/-- What a call leaves that hands back a list of fields in a row of its own, nil where there is none. -/
def FldsNil (w : World) (l : Flds) (e : Ending) (w' : World) : Prop :=
  ∃ v, e = .returned v ∧ w'.ownsRow w.heap.size 31 2 v l.length (fldVals l) ∧ Below w.heap.size w w'
/-- A row of fields, as one that is read. -/
theorem own_flds {w : World} {B : Nat} {v : Value} {l : Flds} (ho : w.ownsRow B 31 2 v l.length (fldVals l)) (hn : l.length ≤ 65536) (hs : ∀ p ∈ l, p.1.size ≤ 9223372036854775807 ∧ p.2.size ≤ 9223372036854775807) : ∃ x c, v = .slice x l.length c ∧ l.length ≤ c ∧ FldsAt w x l.length l := by
  rcases ho.2 with ⟨rfl, h0⟩ | ⟨g, cap, cur, rfl, hg, hh, hcap, _⟩
  · exact ⟨none, 0, by rw [h0], by omega, rfl, by omega, hs, .inl h0⟩
  · exact ⟨_, cap, rfl, hcap, FldsAt.of_own ho (by omega) hs⟩

set_option maxRecDepth 100000 in
set_option maxHeartbeats 3200000 in
theorem only_any (q : Nat) (lb : Array Value) (eq : ∀ args w, (callFunc q args).run Try.prog w = .ok (.enter q args) w) (p : ByteArray × ByteArray → Bool) (w : World) (x : Option Addr) (n c : Nat) (l : Flds) (h : FldsAt w x n l) (hfew : n ≤ 65536)
    (hp : ∀ W f, Below w.heap.size w W → f ∈ l → Calls Try.prog q (#[.agg #[.string f.1, .string f.2]] ++ lb) W fun e w' => e = .returned (.bool (p f)) ∧ Below W.heap.size W w') :
    Calls Try.prog 69 #[.slice x n c, .func (.func q) #[] lb] w (FldsNil w (l.filter p)) := by
  obtain ⟨i0, hi, hz⟩ := info_hid info_field
  have hl := h.len
  subst hl
  have hbig := h.big
  have HP := Lib.hid hp
  have HA := Lib.hid h
  clear hp h
  go_enter Try.func69, Try.ntmps69
  go_wp2
  go_loopg [5, 6, 9] l.length (fun gg s5 _ s9 wr => ∃ k : Nat, k ≤ l.length ∧ l.length - k ≤ gg ∧ s9 = .int .i64 k ∧ ((s5 = .slice none 0 0 ∧ Hid ((l.take k).filter p = [])) ∨ (∃ g' c', s5 = .slice (some ⟨g', 0, none⟩) ((l.take k).filter p).length c')) ∧ Hid (wr.ownsRow w.heap.size 31 2 s5 ((l.take k).filter p).length (fldVals ((l.take k).filter p))) ∧ Hid (Below w.heap.size w wr))
  case atStart => exact ⟨0, Nat.zero_le _, by omega, rfl, .inl ⟨rfl, rfl⟩, World.ownsRow_nil _ _ _ _, Below.refl _ w⟩
  case round =>
    obtain ⟨k, hk, hg, rfl, hform, hown, hb⟩ := hrel
    by_cases hkl : k < l.length
    · obtain ⟨b, o, f, rfl, hl2, hf, hc1, hc2, hs1, hs2⟩ := (HA.out.below hb.out).get k hkl
      have hcall := HP.out wr f hb.out (by rw [hf]; exact List.getElem_mem hkl)
      have htk := filter_take p l k hkl
      have hle := filter_len p l k
      have hbl : b < wr.heap.size := by
        rcases (HA.out.below hb.out).at_ with h0 | ⟨b', o', he, hlt, _⟩
        · omega
        · cases he; exact hlt
      rw [← hf] at htk
      obtain ⟨f1, f2⟩ := f
      simp only at hc1 hc2 hcall htk
      obtain ⟨A, hA⟩ : ∃ A, A = (l.take k).filter p := ⟨_, rfl⟩
      rw [← hA] at hown htk hle hform
      have HT := Lib.hid htk
      have zr : w.heap.size ≤ wr.heap.size := hb.out.size
      clear htk hA hf
      cases hps : p (f1, f2)
      · rw [hps] at hcall
        have HC := Lib.hid hcall
        have HPS := Lib.hid hps
        clear hcall hps
        go_wp2_with fail
        refine HC.out.mono ?_
        rintro e w3 ⟨rfl, hb3⟩
        have HB3 := Lib.hid hb3
        clear hb3
        go_wp2
        go_roundg (l.length - (k + 1))
        case measure => omega
        case rel =>
          have e9 : (l.take (k + 1)).filter p = A := by rw [HT.out, HPS.out]; simp
          refine ⟨k + 1, by omega, by omega, by go_num, ?_⟩
          rw [e9]
          exact ⟨hform, own_below hown.out HB3.out, grow_trans hb.out HB3.out⟩
      · rw [hps] at hcall
        have HC := Lib.hid hcall
        have HPS := Lib.hid hps
        clear hcall hps
        go_wp2_with fail
        refine HC.out.mono ?_
        rintro e w3 ⟨rfl, hb3⟩
        have d1 : w3.cell? ⟨b, o + k * 2, none⟩ = some (.string f1) := (hb3.cell (p := ⟨b, o + k * 2, none⟩) hbl).trans hc1
        have d2 : w3.cell? ⟨b, o + k * 2 + 1, none⟩ = some (.string f2) := (hb3.cell (p := ⟨b, o + k * 2 + 1, none⟩) hbl).trans hc2
        have HB3 := Lib.hid hb3
        have HO3 := Lib.hid (own_below hown.out HB3.out)
        have z3 : w.heap.size ≤ w3.heap.size := Nat.le_trans zr HB3.out.size
        have H5 : Hid (A.length + 1 ≤ maxLen) := by show _ ≤ _; unfold maxLen; omega
        have H6 : Hid ((A.length + 1) * 32 ≤ 140737488355328) := by show _ ≤ _; omega
        clear hb3
        rcases hform with ⟨rfl, _⟩ | ⟨g', c', rfl⟩
        all_goals
          go_wp2_with (at_builtin; refine wpList_append_new rfl (.tmp 18) (.tmp 23) 22 rfl w.heap.size 31 Try.underlying22 hi hz rfl (by decide) w3 [.string f1, .string f2] HO3.out rfl rfl rfl (one_fld _ _) H5.out H6.out z3 ?_; intro g4 c4 w4 hown4 hgrow4; have O4 := Lib.hid hown4; have G4 := Lib.hid hgrow4; clear hown4 hgrow4)
          go_roundg (l.length - (k + 1))
          case measure => omega
          case rel =>
            have e9 : (l.take (k + 1)).filter p = A ++ [(f1, f2)] := by rw [HT.out, HPS.out]; simp
            have e11 : (A ++ [(f1, f2)]).length = A.length + 1 := by simp
            have hbw := below_owned (grow_trans hb.out HB3.out) z3 HO3.out G4.out
            refine ⟨k + 1, by omega, by omega, by go_num, ?_⟩
            rw [e9, fldVals_snoc, e11]
            exact ⟨.inr ⟨g4, c4, rfl⟩, O4.out, hbw⟩
    · obtain rfl : k = l.length := by omega
      rw [List.take_length] at hform hown
      rcases hform with ⟨rfl, hn0⟩ | ⟨g', c', rfl⟩
      all_goals
        go_wp2
        go_ret
        exact ⟨_, rfl, hown.out, hb.out⟩

theorem keep1_any (a b : ByteArray) (w : World) (hs : a.size ≤ 9223372036854775807) : Calls Try.prog 70 #[.agg #[.string a, .string b]] w fun e w' => e = .returned (.bool (allowS a)) ∧ Below w.heap.size w w' := by
  go_enter Try.func70, Try.ntmps70
  go_wp2_with fail
  refine (allowed_any a _ hs).mono ?_
  rintro e w1 ⟨rfl, hb⟩
  go_wp2
  go_ret
  exact ⟨rfl, (below_new _ _).trans (hb.mono (by simp))⟩
theorem merge1_any (a b : ByteArray) (w : World) : Calls Try.prog 71 #[.agg #[.string a, .string b]] w fun e w' => e = .returned (.bool true) ∧ Below w.heap.size w w' := by
  go_enter Try.func71, Try.ntmps71
  go_wp2
  go_ret
  exact ⟨rfl, below_new _ _⟩

/-- The fields that may be a trailer's. -/
def keepF (l : Flds) : Flds := l.filter fun p => allowS p.1
set_option maxRecDepth 100000 in
set_option maxHeartbeats 800000 in
theorem tkeep_any (w : World) (x : Option Addr) (n c : Nat) (l : Flds) (h : FldsAt w x n l) (hfew : n ≤ 65536) :
    Calls Try.prog 19 #[.slice x n c] w (FldsNil w (keepF l)) := by
  have H := Lib.hid (only_any 70 #[] (fun _ _ => by kernel_rfl) (fun p => allowS p.1) w x n c l h hfew (fun W f hW hf => keep1_any f.1 f.2 W (h.str f hf).1))
  clear h
  go_enter Try.func19, Try.ntmps19
  go_wp2_with fail
  refine H.out.mono ?_
  rintro e w1 ⟨v, rfl, ho, hb⟩
  have HO := Lib.hid ho
  have HB := Lib.hid hb
  rcases ho.2 with ⟨rfl, h0⟩ | ⟨g, cap, cur, rfl, _⟩
  all_goals
    clear ho hb
    go_wp2
    go_ret
    exact ⟨_, rfl, HO.out, HB.out⟩

/-! ### the document's Keep -/
set_option maxRecDepth 100000 in
set_option maxHeartbeats 3200000 in
theorem rkeep_any (w : World) (x : Option Addr) (n c : Nat) (l : Flds) (h : FldsAt w x n l) (hfew : n ≤ 65536) (hsm : ∀ p ∈ l, p.1.size ≤ 140737488355328) :
    Calls Try.prog 20 #[.slice x n c] w (FldsNil w (keepF l)) := by
  obtain ⟨i0, hi, hz⟩ := info_hid info_field
  have hl := h.len
  subst hl
  have hbig := h.big
  have HSm := Lib.hid hsm
  have HA := Lib.hid h
  obtain ⟨p, hp⟩ : ∃ p : ByteArray × ByteArray → Bool, p = fun f => allowS f.1 := ⟨_, rfl⟩
  have HPe : Hid (∀ f, p f = allowS f.1) := by rw [hp]; exact fun _ => rfl
  have HK : Hid (keepF l = l.filter p) := by rw [hp]; exact rfl
  clear hsm h hp
  go_enter Try.func20, Try.ntmps20
  go_wp2
  go_loopg [3, 4] l.length (fun gg s3 s4 wr => ∃ (k g' c' : Nat), k ≤ l.length ∧ l.length - k ≤ gg ∧ s4 = .int .i64 k ∧ s3 = .slice (some ⟨g', 0, none⟩) ((l.take k).filter p).length c' ∧ Hid (wr.ownsRow w.heap.size 31 2 (.slice (some ⟨g', 0, none⟩) ((l.take k).filter p).length c') ((l.take k).filter p).length (fldVals ((l.take k).filter p))) ∧ Hid (Below w.heap.size w wr))
  case atStart => exact ⟨0, _, _, Nat.zero_le _, by omega, rfl, rfl, World.ownsRow_lit w #[] 0 (Nat.le_refl _) (by decide) rfl, below_new _ _⟩
  case round =>
    obtain ⟨k, g', c', hk, hg, rfl, rfl, hown, hb⟩ := hrel
    by_cases hkl : k < l.length
    · obtain ⟨b, o, f, rfl, hl2, hf, hc1, hc2, hs1, hs2⟩ := (HA.out.below hb.out).get k hkl
      have hsf : f.1.size ≤ 140737488355328 := by rw [hf]; exact HSm.out _ (List.getElem_mem hl2)
      have htk := filter_take p l k hkl
      have hle := filter_len p l k
      have hbl : b < wr.heap.size := by
        rcases (HA.out.below hb.out).at_ with h0 | ⟨b', o', he, hlt, _⟩
        · omega
        · cases he; exact hlt
      rw [← hf] at htk
      rw [HPe.out] at htk
      obtain ⟨f1, f2⟩ := f
      simp only at hc1 hc2 htk hsf
      obtain ⟨A, hA⟩ : ∃ A, A = (l.take k).filter p := ⟨_, rfl⟩
      rw [← hA] at hown htk hle ⊢
      have HT := Lib.hid htk
      have zr : w.heap.size ≤ wr.heap.size := hb.out.size
      clear htk hA hf
      cases hps : allowS f1
      · have HPS := Lib.hid hps
        clear hps
        go_wp2_with fail
        refine (rallowed_any f1 _ hsf).mono ?_
        rintro e w3 ⟨rfl, hb3⟩
        rw [HPS.out]
        have HB3 := Lib.hid hb3
        clear hb3
        go_wp2
        go_roundg (l.length - (k + 1))
        case measure => omega
        case rel =>
          have e9 : (l.take (k + 1)).filter p = A := by rw [HT.out, HPS.out]; simp
          refine ⟨k + 1, g', c', by omega, by omega, by go_num, ?_⟩
          rw [e9]
          exact ⟨rfl, own_below hown.out HB3.out, grow_trans hb.out HB3.out⟩
      · have HPS := Lib.hid hps
        clear hps
        go_wp2_with fail
        refine (rallowed_any f1 _ hsf).mono ?_
        rintro e w3 ⟨rfl, hb3⟩
        rw [HPS.out]
        have d1 : w3.cell? ⟨b, o + k * 2, none⟩ = some (.string f1) := (hb3.cell (p := ⟨b, o + k * 2, none⟩) hbl).trans hc1
        have d2 : w3.cell? ⟨b, o + k * 2 + 1, none⟩ = some (.string f2) := (hb3.cell (p := ⟨b, o + k * 2 + 1, none⟩) hbl).trans hc2
        have HB3 := Lib.hid hb3
        have HO3 := Lib.hid (own_below hown.out HB3.out)
        have z3 : w.heap.size ≤ w3.heap.size := Nat.le_trans zr HB3.out.size
        have H5 : Hid (A.length + 1 ≤ maxLen) := by show _ ≤ _; unfold maxLen; omega
        have H6 : Hid ((A.length + 1) * 32 ≤ 140737488355328) := by show _ ≤ _; omega
        clear hb3
        go_wp2_with (at_builtin; refine wpList_append_new rfl (.tmp 18) (.tmp 23) 22 rfl w.heap.size 31 Try.underlying22 hi hz rfl (by decide) w3 [.string f1, .string f2] HO3.out rfl rfl rfl (one_fld _ _) H5.out H6.out z3 ?_; intro g4 c4 w4 hown4 hgrow4; have O4 := Lib.hid hown4; have G4 := Lib.hid hgrow4; clear hown4 hgrow4)
        go_roundg (l.length - (k + 1))
        case measure => omega
        case rel =>
          have e9 : (l.take (k + 1)).filter p = A ++ [(f1, f2)] := by rw [HT.out, HPS.out]; simp
          have e11 : (A ++ [(f1, f2)]).length = A.length + 1 := by simp
          have hbw := below_owned (grow_trans hb.out HB3.out) z3 HO3.out G4.out
          refine ⟨k + 1, g4, c4, by omega, by omega, by go_num, ?_⟩
          rw [e9, fldVals_snoc, e11]
          exact ⟨rfl, O4.out, hbw⟩
    · obtain rfl : k = l.length := by omega
      rw [List.take_length] at hown ⊢
      go_wp2
      go_ret
      refine ⟨_, rfl, ?_, hb.out⟩
      rw [HK.out]
      exact hown.out
end Go.Proofs.Ytdpohibgipkhnaa
