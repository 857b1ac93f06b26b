/-
  A []string THAT CAME IN: what the walks are told of it; and that the reader's word gives it.
  A LIST OF TEXTS IN A ROW; THE WALK of abutmentref01.Same.
-/
import Derived.Test.YtdpohibgipkhnaaTT7
import Derived.ProofKit
import Derived.SliceStrings
set_option linter.unusedVariables false
set_option linter.unusedSimpArgs false
namespace Go.Proofs.Ytdpohibgipkhnaa
open Go.RowKit Go.ChangeShapes

/-- The slice's elements are the texts ss; they lie in a block that is there. -/
def StrsArg (w : World) (x : Option Addr) (len : Nat) (ss : List ByteArray) : Prop :=
  ss.length = len ∧ len ≤ 9223372036854775807 ∧ (∀ s ∈ ss, s.size ≤ 9223372036854775807) ∧
  (len = 0 ∨ ∃ b o, x = some ⟨b, o, none⟩ ∧ b < w.heap.size ∧ ∀ i (h : i < ss.length), w.cell? ⟨b, o + i, none⟩ = some (.string ss[i]))

theorem strs_open {H : Type} {enc : TypeId × Value → H} {P : Program} {w : World} {base : Nat} {spare : Nat → Bool} {held : Bool} {t e : TypeId} {x : Option Addr} {len cap : Nat} {d : DataW H} {ps : List MemPlace}
    (ht : P.underlying t = some (.slice e)) (he : P.underlying e = some .string) (hc : P.cellsOf e = 1) (h : ∃ fuel, DataW.trod enc P w base spare held fuel t (Value.slice x len cap).cells.toList = some (d, ps)) : ∃ ss, StrsArg w x len ss := by
  obtain ⟨fuel, hf⟩ := h
  rcases open_strings ht he hc hf with ⟨hcs, _⟩ | ⟨a, l, c, zs, hcs, _, hl, hm, hz, _, hcell, hsz⟩
  · simp [Value.cells] at hcs
    obtain ⟨rfl, rfl, rfl⟩ := hcs
    exact ⟨[], rfl, by omega, by simp, .inl rfl⟩
  · simp [Value.cells] at hcs
    obtain ⟨rfl, rfl, rfl⟩ := hcs
    have hzl : len ≤ zs.length := by rw [hz]; split <;> omega
    refine ⟨zs.take len, by simp; omega, by unfold maxLen at hm; omega, fun s hs => ?_, ?_⟩
    · have := hsz s (List.mem_of_mem_take hs); unfold maxLen at this; omega
    · by_cases h0 : len = 0
      · exact .inl h0
      · right
        have c0 := hcell 0 (by omega)
        obtain ⟨b, o, spot⟩ := a
        have hspot : spot = none := by simpa [Addr.add] using World.cell?_spot c0
        subst hspot
        refine ⟨b, o, rfl, by have := World.block_lt_of_cell? w _ c0; simpa [Addr.add] using this, fun i hi => ?_⟩
        have hi2 : i < len := by simp at hi; omega
        have := hcell i (by omega)
        have hadd : (⟨b, o, none⟩ : Addr).add i = ⟨b, o + i, none⟩ := Addr.add_lit b o i
        rw [hadd] at this
        rw [this, List.getElem_take, List.getD_eq_getElem?_getD, List.getElem?_eq_getElem (by omega)]
        rfl
theorem StrsArg.below {w w' : World} {x : Option Addr} {len : Nat} {ss : List ByteArray} (h : StrsArg w x len ss) (hb : Below w.heap.size w w') : StrsArg w' x len ss := by
  obtain ⟨h1, h2, h3, h4⟩ := h
  refine ⟨h1, h2, h3, ?_⟩
  rcases h4 with h4 | ⟨b, o, hx, hlt, hc⟩
  · exact .inl h4
  · exact .inr ⟨b, o, hx, Nat.lt_of_lt_of_le hlt hb.size, fun i hi => (hb.cell (p := ⟨b, o + i, none⟩) hlt).trans (hc i hi)⟩
end Go.Proofs.Ytdpohibgipkhnaa
namespace Go.Proofs.Ytdpohibgipkhnaa
open Go.RowKit

/-- The cells of a list of texts. -/
def strVals (ss : List ByteArray) : List Value := ss.map Value.string
theorem strVals_length (ss : List ByteArray) : (strVals ss).length = ss.length := by simp [strVals]
theorem strVals_snoc (ss : List ByteArray) (s : ByteArray) : strVals (ss ++ [s]) = strVals ss ++ [.string s] := by simp [strVals]
theorem StrsArg.of_owned {w : World} {B g n cap : Nat} {ss : List ByteArray} (h : w.ownsRow B 9 1 (.slice (some ⟨g, 0, none⟩) n cap) n (strVals ss)) (hn : n ≤ 9223372036854775807) (hz : ∀ s ∈ ss, s.size ≤ 9223372036854775807) : StrsArg w (some ⟨g, 0, none⟩) n ss := by
  have hl : ss.length = n := by have := h.1; rw [strVals_length] at this; omega
  refine ⟨hl, hn, hz, .inr ⟨g, 0, rfl, ?_, fun i hi => ?_⟩⟩
  · have := h.lt g rfl; exact this.2
  · rw [Nat.zero_add, h.cellAt i (by omega)]
    simp [strVals, hi]
theorem toList_inj {a b : ByteArray} (h : a.toList = b.toList) : a = b := by
  rw [ByteArray.toList_eq, ByteArray.toList_eq] at h
  apply ByteArray.ext; apply Array.ext'; exact h

set_option maxRecDepth 100000 in
set_option maxHeartbeats 800000 in
theorem rsame_any (x y : Option Addr) (la ca lb cb : Nat) (A B : List ByteArray) (w : World) (ha : StrsArg w x la A) (hb : StrsArg w y lb B) :
    Calls Try.prog 30 #[.slice x la ca, .slice y lb cb] w fun e w' => e = .returned (.bool (decide (A = B))) ∧ Drawn w w' := by
  obtain ⟨al, alm, _, ax⟩ := ha
  obtain ⟨bl, blm, _, bx⟩ := hb
  by_cases hll : la = lb
  · subst hll
    have h1 : ((la : Int) != (la : Int)) = false := by simp
    have AL := Lib.hid al
    have BL := Lib.hid bl
    have AX := Lib.hid ax
    have BX := Lib.hid bx
    clear al bl ax bx
    go_enter Try.func30, Try.ntmps30
    go_wp2
    go_loopw [5] (fun i wr => ∃ k : Nat, k ≤ la ∧ i = .int .i64 k ∧ Hid (∀ j (h : j < A.length) (h' : j < B.length), j < k → A[j] = B[j]) ∧ Drawn w wr) (fun i _ => la - (intOf i).toNat)
    case atStart => exact ⟨0, Nat.zero_le _, rfl, fun j _ _ h => absurd h (Nat.not_lt_zero _), Drawn.refl _⟩
    case round =>
      obtain ⟨k, hk, rfl, hall, hwr⟩ := hrel
      by_cases hlt : k < la
      · obtain ⟨b, o, rfl, hbl, hc⟩ := AX.out.resolve_left (by omega)
        obtain ⟨b', o', rfl, hbl', hc'⟩ := BX.out.resolve_left (by omega)
        have hkA : k < A.length := by rw [AL.out]; exact hlt
        have hkB : k < B.length := by rw [BL.out]; exact hlt
        have c1 : wr.cell? ⟨b, o + k, none⟩ = some (.string A[k]) := ((hwr.below (b + 1)).cell (p := ⟨b, o + k, none⟩) (Nat.lt_succ_self _)).trans (hc k hkA)
        have c2 : wr.cell? ⟨b', o' + k, none⟩ = some (.string B[k]) := ((hwr.below (b' + 1)).cell (p := ⟨b', o' + k, none⟩) (Nat.lt_succ_self _)).trans (hc' k hkB)
        obtain ⟨s, hs⟩ : ∃ s, s = A[k] := ⟨_, rfl⟩
        obtain ⟨t, ht⟩ : ∃ t, t = B[k] := ⟨_, rfl⟩
        rw [← hs] at c1
        rw [← ht] at c2
        have HS := Lib.hid hs
        have HT := Lib.hid ht
        have HC := Lib.hid hc
        have HC' := Lib.hid hc'
        clear hs ht hc hc'
        by_cases hst : s = t
        · subst hst
          go_wp2
          go_quiet (fail)
          go_wp2
          go_roundw
          case rel => exact ⟨k + 1, by omega, by go_num, (fun j h h' hj => by
            by_cases hjk : j < k
            · exact hall.out j h h' hjk
            · obtain rfl : j = k := by omega
              exact HS.out.symm.trans HT.out), hwr.drewN _⟩
          case measure => simp [intOf]; omega
        · have hne : (s.toList == t.toList) = false := by simpa using fun h => hst (toList_inj h)
          have hd : decide (A = B) = false := by
            apply decide_eq_false
            intro h
            apply hst
            rw [HS.out, HT.out]
            simp only [h]
          have HD := Lib.hid hd
          clear hd hst
          go_wp2
          go_quiet (fail)
          go_wp2
          go_ret
          exact ⟨ret_bool HD.out.symm, hwr.drewN _⟩
      · have hd : decide (A = B) = true := by
          apply decide_eq_true
          apply List.ext_getElem
          · rw [AL.out, BL.out]
          · intro j h h'
            exact hall.out j h h' (by rw [AL.out] at h; omega)
        have HD := Lib.hid hd
        clear hd
        go_wp2
        go_ret
        exact ⟨ret_bool HD.out.symm, hwr⟩
  · have h1 : ((la : Int) != (lb : Int)) = true := by simp; omega
    have hd : decide (A = B) = false := by
      apply decide_eq_false
      intro h
      apply hll
      rw [← al, ← bl, h]
    have HD := Lib.hid hd
    clear hd hll al bl ax bx
    go_enter Try.func30, Try.ntmps30
    go_wp2
    go_ret
    exact ⟨ret_bool HD.out.symm, Drawn.refl _⟩
end Go.Proofs.Ytdpohibgipkhnaa
