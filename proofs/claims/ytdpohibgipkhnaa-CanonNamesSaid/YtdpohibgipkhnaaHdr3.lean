
/-
  THE WALKS of Few, of the document's Same on fields, of slices.Equal and header.Same.
-/
import Derived.Test.YtdpohibgipkhnaaHdr2
namespace Go.Proofs.Ytdpohibgipkhnaa
open Go.RowKit Go.Proofs.Ytdpohibgipkhnaa.Oct

/-- Are there so few fields, and are they so short? -/
def fewB (l : Flds) : Bool := decide (l.length ≤ 40 ∧ ∀ p ∈ l, p.1.size ≤ 100 ∧ p.2.size ≤ 300)
theorem fewB_of {l : Flds} (h : fewB l = true) : l.length ≤ 40 ∧ ∀ p ∈ l, p.1.size ≤ 100 ∧ p.2.size ≤ 300 := of_decide_eq_true h

set_option maxRecDepth 100000 in
set_option maxHeartbeats 1600000 in
theorem few_any (w : World) (x : Option Addr) (n c : Nat) (l : Flds) (h : FldsAt w x n l) :
    Calls Try.prog 14 #[.slice x n c] w fun e w' => e = .returned (.bool (fewB l)) ∧ Below w.heap.size w w' := by
  have hl := h.len
  subst hl
  have hbig := h.big
  have HA := Lib.hid h
  clear h
  by_cases hn : (40 : Int) < (l.length : Int)
  · have hf : fewB l = false := decide_eq_false (fun h => by omega)
    have HF := Lib.hid hf
    clear hf
    go_enter Try.func14, Try.ntmps14
    go_wp2
    go_ret
    exact ⟨ret_bool HF.out.symm, Below.refl _ _⟩
  · go_enter Try.func14, Try.ntmps14
    go_wp2
    go_loopg [4, 10, 11, 12, 13, 14, 15, 16, 17, 18, 19, 20, 21, 22, 23, 24] l.length (fun gg s4 s10 s11 s12 s13 s14 s15 s16 s17 s18 s19 s20 s21 s22 s23 s24 wr => ∃ k : Nat, k ≤ l.length ∧ l.length - k ≤ gg ∧ s10 = .int .i64 k ∧ Hid (Below w.heap.size w wr) ∧ Hid (∀ j (hj : j < l.length), j < k → l[j].1.size ≤ 100 ∧ l[j].2.size ≤ 300))
    case atStart => exact ⟨0, Nat.zero_le _, by omega, rfl, Below.refl _ w, fun j _ hj => absurd hj (Nat.not_lt_zero _)⟩
    case round =>
      obtain ⟨k, hk, hg, rfl, hb, hall⟩ := hrel
      by_cases hkl : k < l.length
      · obtain ⟨b, o, f, rfl, hl2, hf, hc1, hc2, hs1, hs2⟩ := (HA.out.below hb.out).get k hkl
        have HS := Lib.hid hf
        obtain ⟨f1, f2⟩ := f
        simp only at hc1 hc2 hs1 hs2
        clear hf
        by_cases h1 : (100 : Int) < (f1.size : Int)
        · have hf : fewB l = false := decide_eq_false (fun h => by
            have := (h.2 _ (List.getElem_mem hl2)).1
            rw [← HS.out] at this
            simp only at this
            omega)
          have HF := Lib.hid hf
          clear hf
          go_wp2
          go_ret
          exact ⟨ret_bool HF.out.symm, hb.out.trans ((below_new _ _).mono hb.out.size)⟩
        · by_cases h2 : (300 : Int) < (f2.size : Int)
          · have hf : fewB l = false := decide_eq_false (fun h => by
              have := (h.2 _ (List.getElem_mem hl2)).2
              rw [← HS.out] at this
              simp only at this
              omega)
            have HF := Lib.hid hf
            clear hf
            go_wp2
            go_ret
            exact ⟨ret_bool HF.out.symm, hb.out.trans ((below_new _ _).mono hb.out.size)⟩
          · go_wp2
            go_roundg (l.length - (k + 1))
            case measure => omega
            case rel =>
              refine ⟨k + 1, by omega, by omega, by go_num, hb.out.trans ((below_new _ _).mono hb.out.size), fun j hj hjk => ?_⟩
              by_cases e : j = k
              · subst e; rw [← HS.out]; exact ⟨by show f1.size ≤ 100; omega, by show f2.size ≤ 300; omega⟩
              · exact hall.out j hj (by omega)
      · obtain rfl : k = l.length := by omega
        have hf : fewB l = true := decide_eq_true ⟨by omega, fun p hp => by
          obtain ⟨j, hj, rfl⟩ := List.mem_iff_getElem.1 hp
          exact hall.out j hj hj⟩
        have HF := Lib.hid hf
        clear hf
        go_wp2
        go_ret
        exact ⟨ret_bool HF.out.symm, hb.out⟩

theorem toList_ne {a b : ByteArray} (h : a ≠ b) : (a.toList == b.toList) = false := by
  simpa using fun h2 => h (toList_inj h2)
/-- Two fields that differ. -/
theorem fld_ne {a b c d : ByteArray} (h : (a, b) ≠ (c, d)) : (a.toList == c.toList) = false ∨ (a = c ∧ (b.toList == d.toList) = false) := by
  by_cases e : a = c
  · subst e
    exact .inr ⟨rfl, toList_ne (fun e2 => h (by rw [e2]))⟩
  · exact .inl (toList_ne e)

set_option maxRecDepth 100000 in
set_option maxHeartbeats 1600000 in
theorem rsamef_any (x y : Option Addr) (la ca lb cb : Nat) (A B : Flds) (w : World) (ha : FldsAt w x la A) (hb : FldsAt w y lb B) :
    Calls Try.prog 18 #[.slice x la ca, .slice y lb cb] w fun e w' => e = .returned (.bool (decide (A = B))) ∧ Drawn w w' := by
  have al := ha.len
  have bl := hb.len
  have alm := ha.big
  have blm := hb.big
  by_cases hll : la = lb
  · subst hll
    have h1 : ((la : Int) != (la : Int)) = false := by simp
    have AL := Lib.hid al
    have BL := Lib.hid bl
    have AX := Lib.hid ha
    have BX := Lib.hid hb
    clear al bl ha hb
    go_enter Try.func18, Try.ntmps18
    go_wp2
    go_loopw [5] (fun i wr => ∃ k : Nat, k ≤ la ∧ i = .int .i64 k ∧ Hid (∀ j (h : j < A.length) (h' : j < B.length), j < k → A[j] = B[j]) ∧ Drawn w wr) (fun i _ => la - (intOf i).toNat)
    case atStart => exact ⟨0, Nat.zero_le _, rfl, fun j _ _ h => absurd h (Nat.not_lt_zero _), Drawn.refl _⟩
    case round =>
      obtain ⟨k, hk, rfl, hall, hwr⟩ := hrel
      by_cases hlt : k < la
      · obtain ⟨b, o, f, rfl, hl2, hf, hc1, hc2, hs1, hs2⟩ := (AX.out.below hwr.grow).get k hlt
        obtain ⟨b', o', g, rfl, hl3, hg, hd1, hd2, hs3, hs4⟩ := (BX.out.below hwr.grow).get k hlt
        have HS := Lib.hid hf
        have HT := Lib.hid hg
        obtain ⟨f1, f2⟩ := f
        obtain ⟨g1, g2⟩ := g
        simp only at hc1 hc2 hs1 hs2 hd1 hd2 hs3 hs4
        clear hf hg
        by_cases hst : (f1, f2) = (g1, g2)
        · obtain ⟨rfl, rfl⟩ := Prod.mk.inj hst
          clear hst
          go_wp2
          go_quiet (fail)
          go_wp2
          go_roundw
          case rel => exact ⟨k + 1, by omega, by go_num, (fun j h h' hj => by
            by_cases hjk : j < k
            · exact hall.out j h h' hjk
            · obtain rfl : j = k := by omega
              exact HS.out.symm.trans HT.out), hwr.drewN _⟩
          case measure => simp [intOf]; omega
        · have hd : decide (A = B) = false := by
            apply decide_eq_false
            intro h
            apply hst
            rw [HS.out, HT.out]
            simp only [h]
          have HD := Lib.hid hd
          clear hd
          rcases fld_ne hst with hne | ⟨rfl, hne⟩
          all_goals
            clear hst
            go_wp2
            go_quiet (fail)
            go_wp2
            go_ret
            exact ⟨ret_bool HD.out.symm, hwr.drewN _⟩
      · have hd : decide (A = B) = true := by
          apply decide_eq_true
          apply List.ext_getElem
          · rw [AL.out, BL.out]
          · intro j h h'
            exact hall.out j h h' (by rw [AL.out] at h; omega)
        have HD := Lib.hid hd
        clear hd
        go_wp2
        go_ret
        exact ⟨ret_bool HD.out.symm, hwr⟩
  · have h1 : ((la : Int) != (lb : Int)) = true := by simp; omega
    have hd : decide (A = B) = false := by
      apply decide_eq_false
      intro h
      apply hll
      rw [← al, ← bl, h]
    have HD := Lib.hid hd
    clear hd hll al bl ha hb
    go_enter Try.func18, Try.ntmps18
    go_wp2
    go_ret
    exact ⟨ret_bool HD.out.symm, Drawn.refl _⟩
end Go.Proofs.Ytdpohibgipkhnaa
