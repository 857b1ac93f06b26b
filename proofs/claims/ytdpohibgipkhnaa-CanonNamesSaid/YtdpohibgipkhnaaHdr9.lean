
/-
  THE WALK of the document's Without.
-/
import Derived.Test.YtdpohibgipkhnaaHdr8
namespace Go.Proofs.Ytdpohibgipkhnaa
open Go.RowKit Go.Sort Go.Proofs.Ytdpohibgipkhnaa.Oct

theorem isB_take (ns : List ByteArray) (a : ByteArray) (k : Nat) (hk : k < ns.length) : isB (ns.take (k + 1)) a = (isB (ns.take k) a || foldS ns[k] a) := by
  unfold isB
  rw [List.take_succ_eq_append_getElem hk, List.any_append]
  simp
theorem withoutF_take (l : Flds) (ns : List ByteArray) (k : Nat) (hk : k < l.length) : withoutF (l.take (k + 1)) ns = withoutF (l.take k) ns ++ (if isB ns l[k].1 = true then [] else [l[k]]) := by
  unfold withoutF
  rw [filter_take _ _ _ hk]
  congr 1
  cases isB ns l[k].1 <;> rfl
theorem withoutF_le (l : Flds) (ns : List ByteArray) (k : Nat) : (withoutF (l.take k) ns).length ≤ k := filter_len _ _ _

set_option maxRecDepth 100000 in
set_option maxHeartbeats 3200000 in
theorem rwithout_any (w : World) (x y : Option Addr) (n c m d : Nat) (l : Flds) (ns : List ByteArray) (h : FldsAt w x n l) (h2 : StrsArg w y m ns) (hfew : n ≤ 65536) (hm : m ≤ 65536) (hsm : ∀ p ∈ l, p.1.size ≤ 140737488355328) (hsn : ∀ s ∈ ns, s.size ≤ 140737488355328) :
    Calls Try.prog 34 #[.slice x n c, .slice y m d] w (FldsPost w (withoutF l ns)) := by
  obtain ⟨i0, hi, hz⟩ := info_hid info_field
  have hl := h.len
  subst hl
  have hl2 := h2.1
  subst hl2
  have HA := Lib.hid h
  have HN := Lib.hid h2
  have HSm := Lib.hid hsm
  have HSn := Lib.hid hsn
  clear h h2 hsm hsn
  go_enter Try.func34, Try.ntmps34
  go_wp2
  go_loopg [5, 6] l.length (fun gg s5 s6 wr => ∃ (k g' c' : Nat), k ≤ l.length ∧ l.length - k ≤ gg ∧ s6 = .int .i64 k ∧ s5 = .slice (some ⟨g', 0, none⟩) (withoutF (l.take k) ns).length c' ∧ Hid (wr.ownsRow w.heap.size 31 2 (.slice (some ⟨g', 0, none⟩) (withoutF (l.take k) ns).length c') (withoutF (l.take k) ns).length (fldVals (withoutF (l.take k) ns))) ∧ Hid (Below w.heap.size w wr))
  case atStart => exact ⟨0, _, _, Nat.zero_le _, by omega, rfl, rfl, World.ownsRow_lit w #[] 0 (Nat.le_refl _) (by decide) rfl, below_new _ _⟩
  case round =>
    obtain ⟨k, g', c', hk, hg, rfl, rfl, hown, hb⟩ := hrel
    by_cases hkl : k < l.length
    · obtain ⟨b, o, f, rfl, hl2, hf, hc1, hc2, hs1, hs2⟩ := (HA.out.below hb.out).get k hkl
      have htk := withoutF_take l ns k hkl
      have hle := withoutF_le l ns k
      have hsf : f.1.size ≤ 140737488355328 := by rw [hf]; exact HSm.out _ (List.getElem_mem hl2)
      have hbl : b < wr.heap.size := by
        rcases (HA.out.below hb.out).at_ with h0 | ⟨b', o', he, hlt, _⟩
        · omega
        · cases he; exact hlt
      rw [← hf] at htk
      obtain ⟨f1, f2⟩ := f
      simp only at hc1 hc2 hs1 hs2 htk hsf
      clear hf
      obtain ⟨A, hA⟩ : ∃ A, A = withoutF (l.take k) ns := ⟨_, rfl⟩
      rw [← hA] at hown htk hle ⊢
      have HT := Lib.hid htk
      clear htk hA
      have zr : w.heap.size ≤ wr.heap.size := hb.out.size
      have C1 := Lib.hid hc1
      have C2 := Lib.hid hc2
      go_wp2_with fail
      go_loopg [7, 8] ns.length (fun gg s7 s8 wx => ∃ (j : Nat), j ≤ ns.length ∧ ns.length - j ≤ gg ∧ s8 = .int .i64 j ∧ s7 = .bool (isB (ns.take j) f1) ∧ Hid (Below wr.heap.size wr wx))
      case atStart => exact ⟨0, Nat.zero_le _, by omega, rfl, rfl, Below.refl _ _⟩
      case round =>
        obtain ⟨j, hj, hgj, rfl, rfl, hbx⟩ := hrel
        by_cases hjl : j < ns.length
        · obtain ⟨nb, no, s, rfl, hl3, hs, hn1, hss⟩ := ((HN.out.below hb.out).below hbx.out).get j hjl
          have hss2 : s.size ≤ 140737488355328 := by rw [hs]; exact HSn.out _ (List.getElem_mem hl3)
          have HI : Hid (isB (ns.take (j + 1)) f1 = (isB (ns.take j) f1 || foldS s f1)) := by show _ = _; rw [isB_take ns f1 j hl3, ← hs]
          have e1 : wr.cell? ⟨b, o + k * 2, none⟩ = some (.string f1) := (hbx.out.cell (p := ⟨b, o + k * 2, none⟩) hbl).trans C1.out
          have i1 : (k : Int) < (l.length : Int) := by omega
          have i2 : (j : Int) < (ns.length : Int) := by omega
          clear hs
          cases hps : isB (ns.take j) f1
          · have HI2 : Hid (isB (ns.take (j + 1)) f1 = foldS s f1) := by show _ = _; rw [HI.out, hps]; rfl
            clear hps
            go_wp2_with fail
            go_still_tail 11, (by kernel_rfl)
            change wpList _ _ _ _ _ wr.drew
            go_wp2_with (go_at_call 39; refine (ris_any f1 s _ hsf hss2).mono ?_; rintro e w3 ⟨rfl, hb3⟩; have HB3 := Lib.hid hb3; clear hb3)
            go_roundg (ns.length - (j + 1))
            case measure => omega
            case rel => exact ⟨j + 1, by omega, by omega, by go_num, by rw [HI2.out], (hbx.out.drew).trans (HB3.out.mono hbx.out.size)⟩
          · have HI2 : Hid (isB (ns.take (j + 1)) f1 = true) := by show _ = _; rw [HI.out, hps]; rfl
            clear hps
            go_wp2_with fail
            go_quiet (fail)
            go_wp2
            go_roundg (ns.length - (j + 1))
            case measure => omega
            case rel => exact ⟨j + 1, by omega, by omega, by go_num, by rw [HI2.out], below_drewN hbx.out _⟩
        · obtain rfl : j = ns.length := by omega
          rw [List.take_length]
          have HB3 := Lib.hid hbx.out
          have d1 : wr.cell? ⟨b, o + k * 2, none⟩ = some (.string f1) := (hbx.out.cell (p := ⟨b, o + k * 2, none⟩) hbl).trans C1.out
          have d2 : wr.cell? ⟨b, o + k * 2 + 1, none⟩ = some (.string f2) := (hbx.out.cell (p := ⟨b, o + k * 2 + 1, none⟩) hbl).trans C2.out
          have HO3 := Lib.hid (own_above hown.out HB3.out)
          have z3 : w.heap.size ≤ wr.heap.size := Nat.le_trans zr HB3.out.size
          have H5 : Hid (A.length + 1 ≤ maxLen) := by show _ ≤ _; unfold maxLen; omega
          have H6 : Hid ((A.length + 1) * 32 ≤ 140737488355328) := by show _ ≤ _; omega
          cases hps : isB ns f1
          · have HPS := Lib.hid hps
            clear hps
            go_wp2_with (at_builtin; refine wpList_append_at rfl (.tmp 37) (.tmp 42) 22 rfl w.heap.size 31 Try.underlying22 hi hz rfl (by decide) wr [.string f1, .string f2] HO3.out rfl rfl rfl (one_fld _ _) H5.out H6.out z3 ?_; intro g4 c4 w4 hown4 hgrow4 hat4; have O4 := Lib.hid hown4; have G4 := Lib.hid hgrow4; clear hown4 hgrow4 hat4)
            go_roundg (l.length - (k + 1))
            case measure => omega
            case rel =>
              have e9 : withoutF (l.take (k + 1)) ns = A ++ [(f1, f2)] := by rw [HT.out, HPS.out]; simp
              have e11 : (A ++ [(f1, f2)]).length = A.length + 1 := by simp
              have hbw := below_owned (grow_trans hb.out HB3.out) z3 HO3.out G4.out
              refine ⟨k + 1, g4, c4, by omega, by omega, by go_num, ?_⟩
              rw [e9, fldVals_snoc, e11]
              exact ⟨rfl, O4.out, hbw⟩
          · have HPS := Lib.hid hps
            clear hps
            go_wp2
            go_roundg (l.length - (k + 1))
            case measure => omega
            case rel =>
              have e9 : withoutF (l.take (k + 1)) ns = A := by rw [HT.out, HPS.out]; simp
              refine ⟨k + 1, g', c', by omega, by omega, by go_num, ?_⟩
              rw [e9]
              exact ⟨rfl, HO3.out, grow_trans hb.out HB3.out⟩
    · obtain rfl : k = l.length := by omega
      rw [List.take_length] at hown ⊢
      go_wp2
      go_ret
      exact ⟨_, rfl, hown.out, hb.out⟩
end Go.Proofs.Ytdpohibgipkhnaa
