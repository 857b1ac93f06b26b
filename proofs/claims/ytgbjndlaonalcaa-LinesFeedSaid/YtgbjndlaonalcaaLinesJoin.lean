/-
  THE WALKS of abutmentlaw16.joined and abutmentref01.Same.
-/
import Derived.Test.YtgbjndlaonalcaaStrs
namespace Go.Proofs.Ytgbjndlaonalcaa
open Go.RowKit

/-- Texts as one. -/
def joinTo (ss : List ByteArray) : Nat → ByteArray
  | 0 => ⟨#[]⟩
  | k + 1 => joinTo ss k ++ ss.getD k ⟨#[]⟩
/-- May the text at k be joined? -/
def okAt (ss : List ByteArray) (k : Nat) : Prop := k < 200 ∧ (ss.getD k ⟨#[]⟩).size ≤ 2000 ∧ (joinTo ss k).size ≤ 2000
def okJ (ss : List ByteArray) : Prop := ∀ k, k < ss.length → okAt ss k

theorem joinTo_size (ss : List ByteArray) (k : Nat) (h : ∀ j, j < k → okAt ss j) : (joinTo ss k).size ≤ 4000 := by
  cases k with
  | zero => show 0 ≤ 4000; omega
  | succ k =>
    have := h k (by omega)
    unfold okAt at this
    show (joinTo ss k ++ ss.getD k ⟨#[]⟩).size ≤ 4000
    rw [ByteArray.size_append]
    omega
theorem getD_lt (ss : List ByteArray) (k : Nat) (h : k < ss.length) : ss.getD k ⟨#[]⟩ = ss[k] := by
  rw [List.getD_eq_getElem?_getD, List.getElem?_eq_getElem h]; rfl

set_option maxRecDepth 100000 in
set_option maxHeartbeats 800000 in
theorem joined_any (x : Option Addr) (len cap : Nat) (ss : List ByteArray) (w : World) (hx : StrsArg w x len ss) :
    (okJ ss → Calls Try.prog 15 #[.slice x len cap] w fun e w' => e = .returned (.tuple #[.string (joinTo ss ss.length), .bool true]) ∧ w = w') ∧
    (¬ okJ ss → Calls Try.prog 15 #[.slice x len cap] w fun e w' => e = .returned (.tuple #[.string ⟨#[]⟩, .bool false]) ∧ w = w') := by
  obtain ⟨hl, hlm, hsz, hx⟩ := hx
  have main : ∀ res, Hid ((okJ ss → res = .tuple #[.string (joinTo ss ss.length), .bool true]) ∧ (¬ okJ ss → res = .tuple #[.string ⟨#[]⟩, .bool false])) →
      Calls Try.prog 15 #[.slice x len cap] w fun e w' => e = .returned res ∧ w = w' := by
    intro res hres
    have HL := Lib.hid hl
    have HX := Lib.hid hx
    have HZ := Lib.hid hsz
    clear hl hx hsz
    go_enter Try.func15, Try.ntmps15
    go_wp2
    go_loop [4, 9] (fun s i => ∃ k : Nat, k ≤ len ∧ i = .int .i64 k ∧ s = .string (joinTo ss k) ∧ Hid (∀ j, j < k → okAt ss j)) (fun _ i => len - (intOf i).toNat)
    case atStart => exact ⟨0, Nat.zero_le _, rfl, rfl, fun j h => absurd h (Nat.not_lt_zero _)⟩
    case round =>
      obtain ⟨k, hk, rfl, rfl, hall⟩ := hrel
      by_cases hlt : k < len
      · obtain ⟨b, o, hx0, hbl, hc⟩ := HX.out.resolve_left (by omega)
        have hks : k < ss.length := by rw [HL.out]; exact hlt
        have hcell := hc k hks
        obtain ⟨s, hs⟩ : ∃ s, s = ss[k] := ⟨_, rfl⟩
        rw [← hs] at hcell
        have hgd : ss.getD k ⟨#[]⟩ = s := by rw [getD_lt ss k hks, hs]
        have hss : s.size ≤ 9223372036854775807 := by rw [hs]; exact HZ.out _ (List.getElem_mem hks)
        obtain ⟨J, hJ⟩ : ∃ J, J = joinTo ss k := ⟨_, rfl⟩
        rw [← hJ]
        have HG := Lib.hid hgd
        have HJ := Lib.hid hJ
        have HC := Lib.hid hc
        clear hgd hs hJ hc
        subst hx0
        by_cases hok : okAt ss k
        · obtain ⟨h1, h2, h3⟩ := hok
          rw [HG.out] at h2
          rw [← HJ.out] at h3
          have i1 : (k : Int) < 200 := by omega
          have i2 : (s.size : Int) ≤ 2000 := by omega
          have i3 : (J.size : Int) ≤ 2000 := by omega
          clear h1 h2 h3
          go_wp2
          go_round
          case rel =>
            refine ⟨k + 1, by omega, by go_num, ?_, fun j hj => ?_⟩
            · show _ = Value.string (joinTo ss k ++ ss.getD k ⟨#[]⟩)
              rw [HG.out, HJ.out]
            · by_cases hjk : j < k
              · exact hall.out j hjk
              · obtain rfl : j = k := by omega
                unfold okAt
                rw [HG.out, ← HJ.out]
                omega
          case measure => simp [intOf]; omega
        · have hno : res = .tuple #[.string ⟨#[]⟩, .bool false] := hres.out.2 (fun h => hok (h k hks))
          have hcase : (200 : Int) ≤ (k : Int) ∨ ((k : Int) < 200 ∧ (2000 : Int) < (s.size : Int)) ∨ ((k : Int) < 200 ∧ (s.size : Int) ≤ 2000 ∧ (2000 : Int) < (J.size : Int)) := by
            unfold okAt at hok
            rw [HG.out, ← HJ.out] at hok
            omega
          have HN := Lib.hid hno
          clear hok hno hres
          rcases hcase with h1 | ⟨h1, h2⟩ | ⟨h1, h2, h3⟩
          all_goals
            go_wp2
            go_ret2
            rw [HN.out]
            exact ⟨rfl, rfl⟩
      · obtain rfl : k = len := by omega
        have hyes : res = .tuple #[.string (joinTo ss k), .bool true] := by
          have := hres.out.1 (fun j hj => hall.out j (by rw [HL.out] at hj; exact hj))
          rwa [HL.out] at this
        have HY := Lib.hid hyes
        clear hyes hres
        go_wp2
        go_ret2
        rw [HY.out]
        exact ⟨rfl, rfl⟩
  refine ⟨fun h => main _ ⟨fun _ => rfl, fun h2 => absurd h h2⟩, fun h => main _ ⟨fun h2 => absurd h2 h, fun _ => rfl⟩⟩

/-- The cells of a list of texts. -/
def strVals (ss : List ByteArray) : List Value := ss.map Value.string
theorem strVals_length (ss : List ByteArray) : (strVals ss).length = ss.length := by simp [strVals]
theorem strVals_snoc (ss : List ByteArray) (s : ByteArray) : strVals (ss ++ [s]) = strVals ss ++ [.string s] := by simp [strVals]
theorem StrsArg.of_owned {w : World} {B g n cap : Nat} {ss : List ByteArray} (h : w.ownsRow B 9 1 (.slice (some ⟨g, 0, none⟩) n cap) n (strVals ss)) (hn : n ≤ 9223372036854775807) (hz : ∀ s ∈ ss, s.size ≤ 9223372036854775807) : StrsArg w (some ⟨g, 0, none⟩) n ss := by
  have hl : ss.length = n := by have := h.1; rw [strVals_length] at this; omega
  refine ⟨hl, hn, hz, .inr ⟨g, 0, rfl, ?_, fun i hi => ?_⟩⟩
  · have := h.lt g rfl; exact this.2
  · rw [Nat.zero_add, h.cellAt i (by omega)]
    simp [strVals, hi]
theorem toList_inj {a b : ByteArray} (h : a.toList = b.toList) : a = b := by
  rw [ByteArray.toList_eq, ByteArray.toList_eq] at h
  apply ByteArray.ext; apply Array.ext'; exact h

set_option maxRecDepth 100000 in
set_option maxHeartbeats 800000 in
theorem rsame_any (x y : Option Addr) (la ca lb cb : Nat) (A B : List ByteArray) (w : World) (ha : StrsArg w x la A) (hb : StrsArg w y lb B) :
    Calls Try.prog 20 #[.slice x la ca, .slice y lb cb] w fun e w' => e = .returned (.bool (decide (A = B))) ∧ Drawn w w' := by
  obtain ⟨al, alm, _, ax⟩ := ha
  obtain ⟨bl, blm, _, bx⟩ := hb
  by_cases hll : la = lb
  · subst hll
    have h1 : ((la : Int) != (la : Int)) = false := by simp
    have AL := Lib.hid al
    have BL := Lib.hid bl
    have AX := Lib.hid ax
    have BX := Lib.hid bx
    clear al bl ax bx
    go_enter Try.func20, Try.ntmps20
    go_wp2
    go_loopw [5] (fun i wr => ∃ k : Nat, k ≤ la ∧ i = .int .i64 k ∧ Hid (∀ j (h : j < A.length) (h' : j < B.length), j < k → A[j] = B[j]) ∧ Drawn w wr) (fun i _ => la - (intOf i).toNat)
    case atStart => exact ⟨0, Nat.zero_le _, rfl, fun j _ _ h => absurd h (Nat.not_lt_zero _), Drawn.refl _⟩
    case round =>
      obtain ⟨k, hk, rfl, hall, hwr⟩ := hrel
      by_cases hlt : k < la
      · obtain ⟨b, o, rfl, hbl, hc⟩ := AX.out.resolve_left (by omega)
        obtain ⟨b', o', rfl, hbl', hc'⟩ := BX.out.resolve_left (by omega)
        have hkA : k < A.length := by rw [AL.out]; exact hlt
        have hkB : k < B.length := by rw [BL.out]; exact hlt
        have c1 : wr.cell? ⟨b, o + k, none⟩ = some (.string A[k]) := ((hwr.below (b + 1)).cell (p := ⟨b, o + k, none⟩) (Nat.lt_succ_self _)).trans (hc k hkA)
        have c2 : wr.cell? ⟨b', o' + k, none⟩ = some (.string B[k]) := ((hwr.below (b' + 1)).cell (p := ⟨b', o' + k, none⟩) (Nat.lt_succ_self _)).trans (hc' k hkB)
        obtain ⟨s, hs⟩ : ∃ s, s = A[k] := ⟨_, rfl⟩
        obtain ⟨t, ht⟩ : ∃ t, t = B[k] := ⟨_, rfl⟩
        rw [← hs] at c1
        rw [← ht] at c2
        have HS := Lib.hid hs
        have HT := Lib.hid ht
        have HC := Lib.hid hc
        have HC' := Lib.hid hc'
        clear hs ht hc hc'
        by_cases hst : s = t
        · subst hst
          go_wp2
          go_quiet (fail)
          go_wp2
          go_roundw
          case rel => exact ⟨k + 1, by omega, by go_num, (fun j h h' hj => by
            by_cases hjk : j < k
            · exact hall.out j h h' hjk
            · obtain rfl : j = k := by omega
              exact HS.out.symm.trans HT.out), hwr.drewN _⟩
          case measure => simp [intOf]; omega
        · have hne : (s.toList == t.toList) = false := by simpa using fun h => hst (toList_inj h)
          have hd : decide (A = B) = false := by
            apply decide_eq_false
            intro h
            apply hst
            rw [HS.out, HT.out]
            simp only [h]
          have HD := Lib.hid hd
          clear hd hst
          go_wp2
          go_quiet (fail)
          go_wp2
          go_ret
          exact ⟨ret_bool HD.out.symm, hwr.drewN _⟩
      · have hd : decide (A = B) = true := by
          apply decide_eq_true
          apply List.ext_getElem
          · rw [AL.out, BL.out]
          · intro j h h'
            exact hall.out j h h' (by rw [AL.out] at h; omega)
        have HD := Lib.hid hd
        clear hd
        go_wp2
        go_ret
        exact ⟨ret_bool HD.out.symm, hwr⟩
  · have h1 : ((la : Int) != (lb : Int)) = true := by simp; omega
    have hd : decide (A = B) = false := by
      apply decide_eq_false
      intro h
      apply hll
      rw [← al, ← bl, h]
    have HD := Lib.hid hd
    clear hd hll al bl ax bx
    go_enter Try.func20, Try.ntmps20
    go_wp2
    go_ret
    exact ⟨ret_bool HD.out.symm, Drawn.refl _⟩
end Go.Proofs.Ytgbjndlaonalcaa
