/-
  THE WALK of abutmentlaw16.LinesCuts: it returns true.
-/
import Derived.Test.YtgbjndlaonalcaaLinesLaw
namespace Go.Proofs.Ytgbjndlaonalcaa
open Go.RowKit Go.Proofs.Ytgbjndlaonalcaa.Lin

/-- The object's own cells alone. -/
def HasLines (w : World) (b : Nat) (s : St) : Prop := ∃ v, w.heap[b]? = some (.cells (linCells s v) 38 (0, 0))
theorem IsLines.has {w : World} {B b : Nat} {s : St} (h : IsLines w B b s) : HasLines w b s := by
  obtain ⟨_, _, v, h3, _⟩ := h
  exact ⟨v, h3⟩
theorem HasLines.others {w w' : World} {b b' : Nat} {s : St} (h : HasLines w b s) (ho : Lib.OthersKept 5 (some b') w w') (hne : b ≠ b') : HasLines w' b s := by
  obtain ⟨v, h3⟩ := h
  exact ⟨v, ho b _ h3 (fun e => hne (Option.some.inj e)) (fun c fz e => by simp at e)⟩
theorem HasLines.below {w w' : World} {b : Nat} {s : St} (h : HasLines w b s) (hb : Below w.heap.size w w') : HasLines w' b s := by
  obtain ⟨v, h3⟩ := h
  exact ⟨v, (hb.block b (lt_of_block h3)).trans h3⟩
theorem within_has (w : World) (b : Nat) (s : St) (his : HasLines w b s) :
    Calls Try.prog 22 #[.pointer (some ⟨b, 0, none⟩)] w fun e w' => e = .returned (.bool s.within) ∧ w = w' := by
  obtain ⟨v, hb⟩ := his
  obtain ⟨c0, c1, c2, c3, c4, c5, c6, cf⟩ := linCells_at hb
  clear hb
  go_enter Try.func22, Try.ntmps22
  go_wp2
  go_ret
  exact ⟨rfl, rfl⟩
theorem spent_has (w : World) (b : Nat) (s : St) (his : HasLines w b s) :
    Calls Try.prog 21 #[.pointer (some ⟨b, 0, none⟩)] w fun e w' => e = .returned (.int .i64 s.spent) ∧ w = w' := by
  obtain ⟨v, hb⟩ := his
  obtain ⟨c0, c1, c2, c3, c4, c5, c6, cf⟩ := linCells_at hb
  clear hb
  go_enter Try.func21, Try.ntmps21
  go_wp2
  go_ret
  exact ⟨rfl, rfl⟩

theorem new_yes2 (n : Nat) (w : World) (h1 : n ≤ 65536) :
    Calls Try.prog 16 #[.int .i64 n] w fun e w' => e = .returned (.pointer (some ⟨w.heap.size, 0, none⟩)) ∧ w'.heap[w.heap.size]? = some (.cells (linCells (Lin.start n) (.slice none 0 0)) 38 (0, 0)) ∧ Below w.heap.size w w' :=
  (new_some n w (by omega) (by omega)).mono fun e w' ⟨he, hw⟩ => by
    subst hw
    exact ⟨he, heap_alloc_new w _, (Below.refl _ _).alloc (Nat.le_refl _) _⟩
theorem nil_is {w : World} {b n : Nat} (h : w.heap[b]? = some (.cells (linCells (Lin.start n) (.slice none 0 0)) 38 (0, 0))) (hn : n ≤ 65536) (B : Nat) (hB : B ≤ b) : IsLines w B b (Lin.start n) :=
  ⟨hB, Ok_start hn, _, h, World.ownsRow_nil _ _ _ _⟩
theorem one_strs (w : World) (S : ByteArray) (hS : S.size ≤ 9223372036854775807) : StrsArg (w.alloc (.cells #[.string S] 9)) (some ⟨w.heap.size, 0, none⟩) 1 [S] := by
  refine ⟨rfl, by decide, fun s hs => ?_, .inr ⟨w.heap.size, 0, rfl, by simp, fun i hi => ?_⟩⟩
  · obtain rfl := List.mem_singleton.1 hs; exact hS
  · have : i = 0 := by simp at hi; omega
    subst this
    rw [World.cell?_alloc_new]
    rfl
theorem catTo_one (s : ByteArray) : catTo [s] 1 = s.data.toList := by
  rw [catTo_succ]
  rfl
theorem mkLines_small (l : List UInt8) (s : St) (h : l.length ≤ 4000) (hs : Ok s) : ∀ x ∈ mkLines (run s l).1, x.size ≤ 9223372036854775807 := by
  have main : ∀ (l : List UInt8) (s : St), ∀ x ∈ (run s l).1, x.length ≤ s.line.length + l.length := by
    intro l
    induction l with
    | nil => intro s x hx; simp [run] at hx
    | cons c l ih =>
      intro s x hx
      rw [run] at hx
      have hsl := seeS_line s c
      split at hx
      · split at hx
        · simp only [List.mem_cons] at hx
          rcases hx with rfl | hx
          · simp; omega
          · have := ih _ x hx
            simp [took] at this
            simp; omega
        · have := ih _ x hx
          simp; omega
      · simp at hx
  intro x hx
  simp only [mkLines, List.mem_map] at hx
  obtain ⟨y, hy, rfl⟩ := hx
  have h1 := main l s y hy
  have h2 := hs.1
  have h3 := hs.2
  show y.toArray.size ≤ _
  rw [List.size_toArray]
  omega
theorem mkLines_length (l : List (List UInt8)) : (mkLines l).length = l.length := by simp [mkLines]

set_option maxRecDepth 100000 in
set_option maxHeartbeats 1600000 in
theorem lincuts_any (most : Int) (x : Option Addr) (len cap : Nat) (ss : List ByteArray) (w : World) (hx : StrsArg w x len ss) :
    Calls Try.prog 4 #[.int .i64 most, .slice x len cap] w fun e w' => e = .returned (.bool true) ∧ Below w.heap.size w w' := by
  have HX := Lib.hid hx
  have hjoin := joined_any x len cap ss w hx
  have HJ := Lib.hid hjoin
  clear hx hjoin
  by_cases hok : okJ ss
  · by_cases hm : 0 ≤ most ∧ most ≤ 65536
    · obtain ⟨m0, m1⟩ := hm
      have HO := Lib.hid hok
      obtain ⟨n, rfl⟩ := Int.eq_ofNat_of_zero_le m0
      have hn : n ≤ 65536 := by omega
      have hsize : (joinTo ss ss.length).size ≤ 4000 := joinTo_size ss ss.length (fun j hj => hok j hj)
      obtain ⟨S, hS⟩ : ∃ S, S = joinTo ss ss.length := ⟨_, rfl⟩
      have HS := Lib.hid hS
      have HZ := Lib.hid hsize
      clear hok hS hsize
      go_enter Try.func4, Try.ntmps4
      go_wp2_with fail
      refine (HJ.out.1 HO.out).mono ?_
      rintro e w' ⟨rfl, rfl⟩
      rw [← HS.out]
      go_wp2_with fail
      refine (new_yes2 n w hn).mono ?_
      rintro e w1 ⟨rfl, hi1, hb1⟩
      have I1 := Lib.hid hi1
      have B1 := Lib.hid hb1
      have z1 : w.heap.size < w1.heap.size := lt_of_block hi1
      clear hi1 hb1
      go_wp2_with fail
      refine (new_yes2 n w1 hn).mono ?_
      rintro e w2 ⟨rfl, hi2, hb2⟩
      have I2 := Lib.hid hi2
      have B2 := Lib.hid hb2
      have z2 : w1.heap.size < w2.heap.size := lt_of_block hi2
      have P2 := Lib.hid (nil_is ((hb2.block _ z1).trans I1.out) hn w.heap.size (Nat.le_refl _))
      clear hi2 hb2
      go_wp2_with fail
      have X2 := Lib.hid ((HX.out.below B1.out).below B2.out)
      have K2 : Hid (len = 0 ∨ Keeps w2 w.heap.size w.heap.size x) := by
        obtain ⟨_, _, _, h4⟩ := HX.out
        rcases h4 with h4 | ⟨b, o, h5, h6, _⟩
        · exact .inl h4
        · exact .inr (Keeps.of_low (fun p hp => by rw [h5] at hp; cases hp; exact h6))
      have F := feedlaw_any x len cap ss w2 w.heap.size w.heap.size _ (by omega) X2.out K2.out P2.out rfl rfl HZ.out
      obtain ⟨R, hR⟩ : ∃ R, R = run (Lin.start n) (catTo ss ss.length) := ⟨_, rfl⟩
      rw [← hR] at F
      have HR := Lib.hid hR
      clear hR
      refine F.mono ?_
      clear F
      rintro e w3 ⟨g3, c3, rfl, ho3, hl3⟩
      have O3 := Lib.hid ho3
      have L3 := Lib.hid hl3
      have z3 : w2.heap.size ≤ w3.heap.size := hl3.size
      clear ho3 hl3
      have hSz : S.size ≤ 9223372036854775807 := by rw [HS.out]; have := HZ.out; omega
      have HSz := Lib.hid hSz
      clear hSz
      go_wp2_with fail
      have a3 : Below w3.heap.size w3 (w3.alloc (.cells #[.string S] 9)) := (Below.refl _ _).alloc (Nat.le_refl _) _
      have s4 : Hid (StrsArg (w3.alloc (.cells #[.string S] 9)) (some ⟨w3.heap.size, 0, none⟩) 1 [S]) := one_strs w3 S HSz.out
      have k4 : Hid (Keeps (w3.alloc (.cells #[.string S] 9)) w.heap.size w1.heap.size (some ⟨w3.heap.size, 0, none⟩)) := Keeps.of_new (heap_alloc_new w3 _) (by omega)
      generalize w3.alloc (.cells #[.string S] 9) = w4 at a3 s4 k4 ⊢
      have A4 := Lib.hid a3
      have z4 : w3.heap.size ≤ w4.heap.size := a3.size
      clear a3
      have Q4 := Lib.hid (nil_is ((A4.out.block _ (by omega)).trans (L3.out.2.2 _ _ I2.out (fun e => by have := Option.some.inj e; omega) (fun c fz e => by simp at e))) hn w.heap.size (by omega))
      have hcat : catTo [S] [S].length = catTo ss ss.length := by
        show catTo [S] 1 = _
        rw [catTo_one, HS.out]
        rfl
      have F2 := feedlaw_any (some ⟨w3.heap.size, 0, none⟩) 1 1 [S] w4 w.heap.size w1.heap.size _ (by omega) s4.out (.inr k4.out) Q4.out rfl rfl (by
        show (joinTo [S] 1).size ≤ 4000
        have h1 : (catTo [S] 1).length = (joinTo [S] 1).size := by unfold catTo; simp
        rw [← h1, catTo_one, HS.out]
        have := HZ.out
        simpa using this)
      rw [hcat, ← HR.out] at F2
      clear hcat
      refine F2.mono ?_
      clear F2
      rintro e w5 ⟨g5, c5, rfl, ho5, hl5⟩
      have O5 := Lib.hid ho5
      have L5 := Lib.hid hl5
      have z5 : w4.heap.size ≤ w5.heap.size := hl5.size
      clear ho5 hl5
      have hsm : (∀ y ∈ mkLines R.1, y.size ≤ 9223372036854775807) ∧ R.1.length ≤ 9223372036854775807 := by
        have hcl : (catTo ss ss.length).length ≤ 4000 := by
          have h1 : (catTo ss ss.length).length = (joinTo ss ss.length).size := by unfold catTo; simp
          rw [h1]; exact HZ.out
        rw [HR.out]
        refine ⟨mkLines_small _ _ hcl (Ok_start hn), ?_⟩
        have := (run_lines (catTo ss ss.length) (Lin.start n)).1
        omega
      have PP := Lib.hid (((L3.out.1.has).below A4.out).others L5.out.2.2 (by omega))
      have QQ := Lib.hid (L5.out.1.has)
      have OO := Lib.hid (own_others (own_below O3.out A4.out) L5.out.2.2 Q4.out)
      have S1 := Lib.hid (StrsArg.of_owned (cap := c3) OO.out hsm.2 hsm.1)
      have S2 := Lib.hid (StrsArg.of_owned (cap := c5) O5.out hsm.2 hsm.1)
      clear hsm
      have hbel : Hid (Below w.heap.size w w5) := (((B1.out.trans (B2.out.mono (by omega))).trans L3.out.2.1).trans (A4.out.mono (by omega))).trans L5.out.2.1
      go_wp2_with (first
        | (go_at_call 20; refine (rsame_any _ _ _ _ _ _ _ _ _ S1.out S2.out).mono ?_; rintro e w6 ⟨rfl, hd6⟩; have D6 := Lib.hid hd6; have PP6 := Lib.hid (PP.out.below (hd6.below _)); have QQ6 := Lib.hid (QQ.out.below (hd6.below _)); have z6 : w5.heap.size ≤ w6.heap.size := (hd6.below 0).size; clear hd6)
        | (go_at_call_of 21 (w1.heap.size); refine (spent_has _ _ _ QQ6.out).mono ?_; rintro e w' ⟨rfl, rfl⟩)
        | (go_at_call 21; refine (spent_has _ _ _ PP6.out).mono ?_; rintro e w' ⟨rfl, rfl⟩)
        | (go_at_call_of 22 (w1.heap.size); refine (within_has _ _ _ QQ6.out).mono ?_; rintro e w' ⟨rfl, rfl⟩)
        | (go_at_call 22; refine (within_has _ _ _ PP6.out).mono ?_; rintro e w' ⟨rfl, rfl⟩)
        | (go_at_call 17; refine (linlives_any _).mono ?_; rintro e w9 ⟨rfl, hv⟩; have V9 := Lib.hid hv; clear hv))
      go_ret
      exact ⟨rfl, hbel.out.trans ((D6.out.below w.heap.size).trans (V9.out.mono (by omega)))⟩
    · have hm2 : most < 0 ∨ (0 ≤ most ∧ 65536 < most) := by omega
      have HO := Lib.hid hok
      obtain ⟨S, hS⟩ : ∃ S, S = joinTo ss ss.length := ⟨_, rfl⟩
      have HS := Lib.hid hS
      clear hok hS hm
      rcases hm2 with h1 | ⟨h1, h2⟩
      all_goals
        go_enter Try.func4, Try.ntmps4
        go_wp2_with fail
        refine (HJ.out.1 HO.out).mono ?_
        rintro e w' ⟨rfl, rfl⟩
        rw [← HS.out]
        go_wp2_with (go_at_call 17; refine (linlives_any _).mono ?_; rintro e w9 ⟨rfl, hv⟩)
        go_ret
        exact ⟨rfl, hv⟩
  · have HO := Lib.hid hok
    clear hok
    go_enter Try.func4, Try.ntmps4
    go_wp2_with fail
    refine (HJ.out.2 HO.out).mono ?_
    rintro e w' ⟨rfl, rfl⟩
    go_wp2_with (go_at_call 17; refine (linlives_any _).mono ?_; rintro e w9 ⟨rfl, hv⟩)
    go_ret
    exact ⟨rfl, hv⟩
end Go.Proofs.Ytgbjndlaonalcaa
