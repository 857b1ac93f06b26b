
/-
  THE WALKS of header: Get, Count; of the document's Is, All, Get, Join; of Few and of the document's Same on fields.
-/
import Derived.Test.YtdpohibgipkhnaaHdr
namespace Go.Proofs.Ytdpohibgipkhnaa
open Go.RowKit Go.Proofs.Ytdpohibgipkhnaa.Oct

/-- The value of the first field of a name. -/
def getF (l : Flds) (name : ByteArray) : ByteArray × Bool :=
  match allV l name with
  | [] => (⟨#[]⟩, false)
  | s :: _ => (s, true)
theorem getF_none {l : Flds} {name : ByteArray} (h : l.any (fun p => foldS name p.1) = false) : getF l name = (⟨#[]⟩, false) := by
  have : allV l name = [] := by
    unfold allV
    rw [List.map_eq_nil_iff, List.filter_eq_nil_iff]
    intro p hp hf
    have : l.any (fun p => foldS name p.1) = true := List.any_eq_true.2 ⟨p, hp, hf⟩
    rw [h] at this
    cases this
  unfold getF
  rw [this]
theorem allV_first {name : ByteArray} : ∀ (l : Flds) (k : Nat) (hk : k < l.length), foldS name l[k].1 = true → (∀ j (hj : j < k), foldS name (l[j]'(by omega)).1 = false) → ∃ r, allV l name = l[k].2 :: r
  | [], k, hk, _, _ => absurd hk (Nat.not_lt_zero _)
  | p :: l, 0, _, h, _ => ⟨allV l name, by
    have h' : foldS name p.1 = true := h
    unfold allV; simp [h']⟩
  | p :: l, k + 1, hk, h, hb => by
    have h0 : foldS name p.1 = false := hb 0 (by omega)
    obtain ⟨r, hr⟩ := allV_first l k (by simpa using hk) h (fun j hj => hb (j + 1) (by omega))
    refine ⟨r, ?_⟩
    have e : allV (p :: l) name = allV l name := by unfold allV; simp [h0]
    rw [e, hr]
    rfl
theorem getF_some {l : Flds} {name : ByteArray} {k : Nat} (hk : k < l.length) (h : foldS name l[k].1 = true) (hb : ∀ j (hj : j < k), foldS name (l[j]'(by omega)).1 = false) : getF l name = (l[k].2, true) := by
  obtain ⟨r, hr⟩ := allV_first l k hk h hb
  unfold getF
  rw [hr]

set_option maxRecDepth 100000 in
set_option maxHeartbeats 1600000 in
theorem hget_any (w : World) (x : Option Addr) (n c : Nat) (l : Flds) (name : ByteArray) (hn : name.size ≤ 9223372036854775807) (h : FldsAt w x n l) :
    Calls Try.prog 25 #[.slice x n c, .string name] w fun e w' => e = .returned (.tuple #[.string (getF l name).1, .bool (getF l name).2]) ∧ Below w.heap.size w w' := by
  have hl := h.len
  subst hl
  have hbig := h.big
  have HA := Lib.hid h
  clear h
  go_enter Try.func25, Try.ntmps25
  go_wp2_with fail
  refine (named_any _ _ _ _).mono ?_
  rintro e w1 ⟨rfl, hw1⟩
  have hn1 := named_one w name hn
  rw [hw1] at hn1
  obtain ⟨hN, hB⟩ := hn1
  have HN := Lib.hid hN
  have HB := Lib.hid hB
  rw [World.size_alloc]
  clear hw1 hN hB
  go_wp2_with fail
  refine (idxfld_any 101 #[.pointer (some ⟨w.heap.size + 1, 0, none⟩)] (fun _ _ => by kernel_rfl) (fun p => foldS name p.1) w1 x _ c l (HA.out.below HB.out) (fun W f hW hf => ?_)).mono ?_
  · have := named1_any [name] f.1 f.2 (w.heap.size + 1) W (HA.out.str f hf).1 (HN.out.below hW)
    rw [isB_one] at this
    exact this
  rintro e w2 ⟨rfl, hb2⟩
  have HB2 := Lib.hid (grow_trans HB.out hb2)
  clear hb2
  rcases idxB_cases (fun p : ByteArray × ByteArray => foldS name p.1) l with ⟨hi, hno⟩ | ⟨k, hi, hk, hy, hbef, _⟩
  · rw [hi]
    have HG := Lib.hid (getF_none hno)
    clear hi hno
    go_wp2
    go_ret2
    exact ⟨by rw [HG.out]; rfl, HB2.out⟩
  · rw [hi]
    have hg := getF_some hk hy hbef
    obtain ⟨b, o, f, rfl, hl2, hf, hc1, hc2, hs1, hs2⟩ := (HA.out.below HB2.out).get k hk
    rw [← hf] at hg
    have HG := Lib.hid hg
    have i1 : (k : Int) < (l.length : Int) := by omega
    clear hi hy hbef hg hf
    go_wp2
    go_ret2
    exact ⟨by rw [HG.out]; rfl, HB2.out⟩

set_option maxRecDepth 100000 in
set_option maxHeartbeats 800000 in
theorem hcount_any (w : World) (x : Option Addr) (n c : Nat) (l : Flds) (name : ByteArray) (hn : name.size ≤ 9223372036854775807) (h : FldsAt w x n l) (hfew : n ≤ 65536) :
    Calls Try.prog 23 #[.slice x n c, .string name] w fun e w' => e = .returned (.int .i64 (allV l name).length) ∧ Below w.heap.size w w' := by
  have H := Lib.hid (all_any w x n c l name hn h hfew)
  clear h
  go_enter Try.func23, Try.ntmps23
  go_wp2_with fail
  refine H.out.mono ?_
  rintro e w1 ⟨v, rfl, ho, hnil, hb⟩
  rcases ho.2 with ⟨rfl, h0⟩ | ⟨g, cap, cur, rfl, _⟩
  · have H0 := Lib.hid h0
    clear h0 ho hnil
    go_wp2
    go_ret
    exact ⟨ret_int (by rw [H0.out]; rfl), hb⟩
  · clear ho hnil
    go_wp2
    go_ret
    exact ⟨rfl, hb⟩

/-! ### the document's -/
theorem low_eq (a b : ByteArray) : ((lowS a).toList == (lowS b).toList) = foldS a b := by
  unfold foldS
  rw [ByteArray.toList_eq, ByteArray.toList_eq, Bool.eq_iff_iff]
  simp only [beq_iff_eq, decide_eq_true_eq]
  exact ⟨bytes_eq_of_list, fun h => by rw [h]⟩
theorem fold_symm (a b : ByteArray) : foldS a b = foldS b a := by
  unfold foldS
  exact decide_eq_decide.2 eq_comm

set_option maxRecDepth 100000 in
set_option maxHeartbeats 800000 in
theorem ris_any (a b : ByteArray) (w : World) (ha : a.size ≤ 140737488355328) (hb : b.size ≤ 140737488355328) :
    Calls Try.prog 39 #[.string a, .string b] w fun e w' => e = .returned (.bool (foldS b a)) ∧ Below w.heap.size w w' := by
  have HE := Lib.hid (low_eq a b)
  go_enter Try.func39, Try.ntmps39
  go_wp2_with fail
  refine (rlower_any a _ ha).mono ?_
  rintro e w1 ⟨rfl, h1⟩
  have H1 := Lib.hid h1
  clear h1
  go_wp2_with fail
  refine (rlower_any b _ hb).mono ?_
  rintro e w2 ⟨rfl, h2⟩
  have H2 := Lib.hid (grow_trans H1.out h2)
  clear h2
  go_wp2
  go_ret
  exact ⟨ret_bool (by rw [HE.out, fold_symm]), H2.out⟩

set_option maxRecDepth 100000 in
set_option maxHeartbeats 3200000 in
theorem rall_any (w : World) (x : Option Addr) (n c : Nat) (l : Flds) (name : ByteArray) (hn : name.size ≤ 140737488355328) (h : FldsAt w x n l) (hfew : n ≤ 65536) (hsm : ∀ p ∈ l, p.1.size ≤ 140737488355328) :
    Calls Try.prog 29 #[.slice x n c, .string name] w fun e w' => ∃ g c', e = .returned (.slice (some ⟨g, 0, none⟩) (allV l name).length c') ∧ w'.ownsRow w.heap.size 9 1 (.slice (some ⟨g, 0, none⟩) (allV l name).length c') (allV l name).length (strVals (allV l name)) ∧ Below w.heap.size w w' := by
  obtain ⟨i0, hi, hz⟩ := info_hid info_string
  have hl := h.len
  subst hl
  have HA := Lib.hid h
  have HSm := Lib.hid hsm
  clear h hsm
  go_enter Try.func29, Try.ntmps29
  go_wp2
  go_loopg [5, 6, 8, 9, 10, 11, 12, 13, 14, 15, 16, 17, 18, 19, 20, 21, 22, 23, 24, 25, 26, 27, 28] l.length (fun gg s5 s6 s8 s9 s10 s11 s12 s13 s14 s15 s16 s17 s18 s19 s20 s21 s22 s23 s24 s25 s26 s27 s28 wr => ∃ (k g' c' : Nat), k ≤ l.length ∧ l.length - k ≤ gg ∧ s6 = .int .i64 k ∧ s5 = .slice (some ⟨g', 0, none⟩) (allV (l.take k) name).length c' ∧ Hid (wr.ownsRow w.heap.size 9 1 (.slice (some ⟨g', 0, none⟩) (allV (l.take k) name).length c') (allV (l.take k) name).length (strVals (allV (l.take k) name))) ∧ Hid (Below w.heap.size w wr))
  case atStart => exact ⟨0, _, _, Nat.zero_le _, by omega, rfl, rfl, World.ownsRow_lit w #[] 0 (Nat.le_refl _) (by decide) rfl, below_new _ _⟩
  case round =>
    obtain ⟨k, g', c', hk, hg, rfl, rfl, hown, hb⟩ := hrel
    by_cases hkl : k < l.length
    · obtain ⟨b, o, f, rfl, hl2, hf, hc1, hc2, hs1, hs2⟩ := (HA.out.below hb.out).get k hkl
      have htk := allV_take l name k hkl
      have hle := allV_len l name k
      have hsf : f.1.size ≤ 140737488355328 := by rw [hf]; exact HSm.out _ (List.getElem_mem hl2)
      have hbl : b < wr.heap.size := by
        rcases (HA.out.below hb.out).at_ with h0 | ⟨b', o', he, hlt, _⟩
        · omega
        · cases he; exact hlt
      rw [← hf] at htk
      obtain ⟨f1, f2⟩ := f
      simp only at hc1 hc2 hs1 hs2 htk hsf
      have HF := Lib.hid hf
      clear hf
      obtain ⟨A, hA⟩ : ∃ A, A = allV (l.take k) name := ⟨_, rfl⟩
      rw [← hA] at hown htk hle ⊢
      have HT := Lib.hid htk
      have HAe := Lib.hid hA
      clear htk hA
      have zr : w.heap.size ≤ wr.heap.size := hb.out.size
      cases hps : foldS name f1
      · have HPS := Lib.hid hps
        clear hps
        go_wp2_with fail
        refine (ris_any f1 name _ hsf hn).mono ?_
        rintro e w3 ⟨rfl, hb3⟩
        rw [HPS.out]
        have HB3 := Lib.hid hb3
        clear hb3
        go_wp2
        go_roundg (l.length - (k + 1))
        case measure => omega
        case rel =>
          have e9 : allV (l.take (k + 1)) name = A := by rw [HT.out, HPS.out]; simp
          refine ⟨k + 1, g', c', by omega, by omega, by go_num, ?_⟩
          rw [e9]
          exact ⟨rfl, own_below hown.out HB3.out, grow_trans hb.out HB3.out⟩
      · have HPS := Lib.hid hps
        clear hps
        go_wp2_with fail
        refine (ris_any f1 name _ hsf hn).mono ?_
        rintro e w3 ⟨rfl, hb3⟩
        rw [HPS.out]
        have HB3 := Lib.hid hb3
        have d2 : w3.cell? ⟨b, o + k * 2 + 1, none⟩ = some (.string f2) := (hb3.cell (p := ⟨b, o + k * 2 + 1, none⟩) hbl).trans hc2
        have HO3 := Lib.hid (own_below hown.out HB3.out)
        have z3 : w.heap.size ≤ w3.heap.size := Nat.le_trans zr HB3.out.size
        have H5 : Hid (A.length + 1 ≤ maxLen) := by show _ ≤ _; unfold maxLen; omega
        have H6 : Hid ((A.length + 1) * 16 ≤ 140737488355328) := by show _ ≤ _; omega
        clear hb3
        go_wp2_with (at_builtin; refine wpList_append_new rfl (.tmp 21) (.tmp 27) 35 rfl w.heap.size 9 Try.underlying35 hi hz rfl (by decide) w3 [.string f2] HO3.out rfl rfl rfl (one_str _) H5.out H6.out z3 ?_; intro g4 c4 w4 hown4 hgrow4; have O4 := Lib.hid hown4; have G4 := Lib.hid hgrow4; clear hown4 hgrow4)
        go_roundg (l.length - (k + 1))
        case measure => omega
        case rel =>
          have e9 : allV (l.take (k + 1)) name = A ++ [f2] := by rw [HT.out, HPS.out]; simp
          have e11 : (A ++ [f2]).length = A.length + 1 := by simp
          have e10 : strVals (A ++ [f2]) = strVals A ++ [.string f2] := by simp [strVals]
          have hbw := below_owned (grow_trans hb.out HB3.out) z3 HO3.out G4.out
          refine ⟨k + 1, g4, c4, by omega, by omega, by go_num, ?_⟩
          rw [e9, e10, e11]
          exact ⟨rfl, O4.out, hbw⟩
    · obtain rfl : k = l.length := by omega
      rw [List.take_length] at hown ⊢
      go_wp2
      go_ret
      exact ⟨g', c', rfl, hown.out, hb.out⟩

set_option maxRecDepth 100000 in
set_option maxHeartbeats 800000 in
theorem hrget_any (w : World) (x : Option Addr) (n c : Nat) (l : Flds) (name : ByteArray) (hn : name.size ≤ 140737488355328) (h : FldsAt w x n l) (hfew : n ≤ 65536) (hsm : ∀ p ∈ l, p.1.size ≤ 140737488355328) :
    Calls Try.prog 26 #[.slice x n c, .string name] w fun e w' => e = .returned (.tuple #[.string (getF l name).1, .bool (getF l name).2]) ∧ Below w.heap.size w w' := by
  have H := Lib.hid (rall_any w x n c l name hn h hfew hsm)
  have hlen : (allV l name).length ≤ 65536 := by
    have := allV_len l name l.length
    rw [List.take_length] at this
    have := h.len
    omega
  clear h hsm
  go_enter Try.func26, Try.ntmps26
  go_wp2_with fail
  refine H.out.mono ?_
  rintro e w1 ⟨g, c', rfl, ho, hb⟩
  cases hA : allV l name with
  | nil =>
    have HG : Hid (getF l name = (⟨#[]⟩, false)) := by show _ = _; unfold getF; rw [hA]
    clear ho hA
    go_wp2
    go_ret2
    exact ⟨by rw [HG.out]; rfl, hb⟩
  | cons s r =>
    have HG : Hid (getF l name = (s, true)) := by show _ = _; unfold getF; rw [hA]
    rw [hA] at ho hlen
    have c0 : w1.cell? ⟨g, 0, none⟩ = some (.string s) := by rw [ho.cellAt 0 (by simp)]; rfl
    obtain ⟨m, hm⟩ : ∃ m : Nat, m = r.length := ⟨_, rfl⟩
    have e1 : (s :: r).length = m + 1 := by simp [hm]
    rw [e1]
    have i1 : (1 : Int) ≤ (m : Int) + 1 := by omega
    have i2 : (((m + 1 : Nat) : Int) == 0) = false := by simp; omega
    have i3 : ((m : Int) + 1 == 0) = false := by simp; omega
    clear ho hA hlen e1 hm
    go_wp2
    go_ret2
    exact ⟨by rw [HG.out]; rfl, hb⟩
end Go.Proofs.Ytdpohibgipkhnaa
