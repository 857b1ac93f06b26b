
/-
  THE WALK of the law HeaderKeeps, whole.
-/
import Derived.Test.YtdpohibgipkhnaaHdr14
namespace Go.Proofs.Ytdpohibgipkhnaa
open Go.RowKit Go.Sort Go.Proofs.Ytdpohibgipkhnaa.Oct

set_option maxRecDepth 100000 in
set_option maxHeartbeats 3200000 in
theorem hkeeps_no (x : Option Addr) (n c : Nat) (l : Flds) (s t o : ByteArray) (w : World) (h : FldsAt w x n l) (hs : s.size ≤ 9223372036854775807) (ht : t.size ≤ 9223372036854775807) (ho : o.size ≤ 9223372036854775807) (hno : fewB l = false ∨ 100 < s.size ∨ 300 < t.size ∨ 100 < o.size) :
    Calls Try.prog 7 #[.slice x n c, .agg #[.string s, .string t], .string o] w fun e w' => e = .returned (.bool true) ∧ Below w.heap.size w w' := by
  have HA0 := Lib.hid (h.below (below_new w (.cells #[.string s, .string t] 31)))
  cases hl : fewB l
  · have HL := Lib.hid hl
    clear h hl hno
    go_enter Try.func7, Try.ntmps7
    go_wp2_with fail
    refine (few_any _ x n c l HA0.out).mono ?_
    rintro e w1 ⟨rfl, hb1⟩
    rw [HL.out]
    have K1 := (Blk.new w 31 #[.string s, .string t]).below hb1 (by simp)
    have C0 : w1.cell? ⟨w.heap.size, 0, none⟩ = some (.string s) := K1.cell 0
    have C1 : w1.cell? ⟨w.heap.size, 1, none⟩ = some (.string t) := K1.cell 1
    have BW := Lib.hid (grow_trans (below_new w (.cells #[.string s, .string t] 31)) hb1)
    clear hb1
    go_wp2_with fail
    refine (hlives_any w1).mono ?_
    rintro e w2 ⟨rfl, hb2⟩
    go_wp2
    go_ret
    exact ⟨rfl, grow_trans BW.out hb2⟩
  · have hno2 : 100 < s.size ∨ (s.size ≤ 100 ∧ (300 < t.size ∨ (t.size ≤ 300 ∧ 100 < o.size))) := by
      rcases hno with h1 | h1 | h1 | h1
      · rw [hl] at h1; cases h1
      · exact .inl h1
      · omega
      · omega
    have HL := Lib.hid hl
    clear h hl hno
    rcases hno2 with h1 | ⟨h0, h1 | ⟨h2, h1⟩⟩
    · have i1 : (100 : Int) < (s.size : Int) := by omega
      go_enter Try.func7, Try.ntmps7
      go_wp2_with fail
      refine (few_any _ x n c l HA0.out).mono ?_
      rintro e w1 ⟨rfl, hb1⟩
      rw [HL.out]
      have K1 := (Blk.new w 31 #[.string s, .string t]).below hb1 (by simp)
      have C0 : w1.cell? ⟨w.heap.size, 0, none⟩ = some (.string s) := K1.cell 0
      have C1 : w1.cell? ⟨w.heap.size, 1, none⟩ = some (.string t) := K1.cell 1
      have BW := Lib.hid (grow_trans (below_new w (.cells #[.string s, .string t] 31)) hb1)
      clear hb1
      go_wp2_with fail
      refine (hlives_any w1).mono ?_
      rintro e w2 ⟨rfl, hb2⟩
      go_wp2
      go_ret
      exact ⟨rfl, grow_trans BW.out hb2⟩
    · have i0 : ¬ (100 : Int) < (s.size : Int) := by omega
      have i1 : (300 : Int) < (t.size : Int) := by omega
      go_enter Try.func7, Try.ntmps7
      go_wp2_with fail
      refine (few_any _ x n c l HA0.out).mono ?_
      rintro e w1 ⟨rfl, hb1⟩
      rw [HL.out]
      have K1 := (Blk.new w 31 #[.string s, .string t]).below hb1 (by simp)
      have C0 : w1.cell? ⟨w.heap.size, 0, none⟩ = some (.string s) := K1.cell 0
      have C1 : w1.cell? ⟨w.heap.size, 1, none⟩ = some (.string t) := K1.cell 1
      have BW := Lib.hid (grow_trans (below_new w (.cells #[.string s, .string t] 31)) hb1)
      clear hb1
      go_wp2_with fail
      refine (hlives_any w1).mono ?_
      rintro e w2 ⟨rfl, hb2⟩
      go_wp2
      go_ret
      exact ⟨rfl, grow_trans BW.out hb2⟩
    · have i0 : ¬ (100 : Int) < (s.size : Int) := by omega
      have i1 : ¬ (300 : Int) < (t.size : Int) := by omega
      have i2 : (100 : Int) < (o.size : Int) := by omega
      go_enter Try.func7, Try.ntmps7
      go_wp2_with fail
      refine (few_any _ x n c l HA0.out).mono ?_
      rintro e w1 ⟨rfl, hb1⟩
      rw [HL.out]
      have K1 := (Blk.new w 31 #[.string s, .string t]).below hb1 (by simp)
      have C0 : w1.cell? ⟨w.heap.size, 0, none⟩ = some (.string s) := K1.cell 0
      have C1 : w1.cell? ⟨w.heap.size, 1, none⟩ = some (.string t) := K1.cell 1
      have BW := Lib.hid (grow_trans (below_new w (.cells #[.string s, .string t] 31)) hb1)
      clear hb1
      go_wp2_with fail
      refine (hlives_any w1).mono ?_
      rintro e w2 ⟨rfl, hb2⟩
      go_wp2
      go_ret
      exact ⟨rfl, grow_trans BW.out hb2⟩

theorem hkeeps_any (x : Option Addr) (n c : Nat) (l : Flds) (s t o : ByteArray) (w : World) (h : FldsAt w x n l) (hnc : n ≤ c) (hs : s.size ≤ 9223372036854775807) (ht : t.size ≤ 9223372036854775807) (ho : o.size ≤ 9223372036854775807) :
    Calls Try.prog 7 #[.slice x n c, .agg #[.string s, .string t], .string o] w fun e w' => e = .returned (.bool true) ∧ Below w.heap.size w w' := by
  by_cases hyes : fewB l = true ∧ s.size ≤ 100 ∧ t.size ≤ 300 ∧ o.size ≤ 100
  · exact hkeeps_yes x n c l s t o w h hnc hyes.1 hyes.2.1 hyes.2.2.1 hyes.2.2.2
  · refine hkeeps_no x n c l s t o w h hs ht ho ?_
    cases hl : fewB l
    · exact .inl rfl
    · rw [hl] at hyes
      simp only [true_and] at hyes
      omega
end Go.Proofs.Ytdpohibgipkhnaa
