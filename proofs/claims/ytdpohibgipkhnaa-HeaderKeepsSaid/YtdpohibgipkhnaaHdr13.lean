
/-
  THE WALK of the law HeaderChanges, whole.
-/
import Derived.Test.YtdpohibgipkhnaaHdr12
namespace Go.Proofs.Ytdpohibgipkhnaa
open Go.RowKit Go.Sort Go.Proofs.Ytdpohibgipkhnaa.Oct

set_option maxRecDepth 100000 in
set_option maxHeartbeats 3200000 in
theorem hchanges_no (x y : Option Addr) (n c m d : Nat) (l : Flds) (s t : ByteArray) (w : World) (h : FldsAt w x n l) (hm : m ≤ 9223372036854775807) (hs : s.size ≤ 9223372036854775807) (ht : t.size ≤ 9223372036854775807) (hno : fewB l = false ∨ 20 < m ∨ 100 < s.size ∨ 300 < t.size) :
    Calls Try.prog 6 #[.slice x n c, .slice y m d, .agg #[.string s, .string t]] w fun e w' => e = .returned (.bool true) ∧ Below w.heap.size w w' := by
  have HA0 := Lib.hid (h.below (below_new w (.cells #[.string s, .string t] 31)))
  have hlm : ∀ b : Bool, b = fewB l → Hid (b = fewB l) := fun _ h => h
  cases hl : fewB l
  · have HL := Lib.hid hl
    clear h hl hno
    go_enter Try.func6, Try.ntmps6
    go_wp2_with fail
    refine (few_any _ x n c l HA0.out).mono ?_
    rintro e w1 ⟨rfl, hb1⟩
    rw [HL.out]
    have BW := Lib.hid (grow_trans (below_new w (.cells #[.string s, .string t] 31)) hb1)
    clear hb1
    go_wp2_with fail
    refine (hlives_any w1).mono ?_
    rintro e w2 ⟨rfl, hb2⟩
    go_wp2
    go_ret
    exact ⟨rfl, grow_trans BW.out hb2⟩
  · have hno2 : 20 < m ∨ (m ≤ 20 ∧ (100 < s.size ∨ (s.size ≤ 100 ∧ 300 < t.size))) := by
      rcases hno with h1 | h1 | h1 | h1
      · rw [hl] at h1; cases h1
      · exact .inl h1
      · omega
      · omega
    have HL := Lib.hid hl
    clear h hl hno
    rcases hno2 with h1 | ⟨h0, h1 | ⟨h2, h1⟩⟩
    · have i1 : (20 : Int) < (m : Int) := by omega
      go_enter Try.func6, Try.ntmps6
      go_wp2_with fail
      refine (few_any _ x n c l HA0.out).mono ?_
      rintro e w1 ⟨rfl, hb1⟩
      rw [HL.out]
      have BW := Lib.hid (grow_trans (below_new w (.cells #[.string s, .string t] 31)) hb1)
      clear hb1
      go_wp2_with fail
      refine (hlives_any w1).mono ?_
      rintro e w2 ⟨rfl, hb2⟩
      go_wp2
      go_ret
      exact ⟨rfl, grow_trans BW.out hb2⟩
    · have i0 : ¬ (20 : Int) < (m : Int) := by omega
      have i1 : (100 : Int) < (s.size : Int) := by omega
      go_enter Try.func6, Try.ntmps6
      go_wp2_with fail
      refine (few_any _ x n c l HA0.out).mono ?_
      rintro e w1 ⟨rfl, hb1⟩
      rw [HL.out]
      have K1 := (Blk.new w 31 #[.string s, .string t]).below hb1 (by simp)
      have C0 : w1.cell? ⟨w.heap.size, 0, none⟩ = some (.string s) := K1.cell 0
      have BW := Lib.hid (grow_trans (below_new w (.cells #[.string s, .string t] 31)) hb1)
      clear hb1
      go_wp2_with fail
      refine (hlives_any w1).mono ?_
      rintro e w2 ⟨rfl, hb2⟩
      go_wp2
      go_ret
      exact ⟨rfl, grow_trans BW.out hb2⟩
    · have i0 : ¬ (20 : Int) < (m : Int) := by omega
      have i1 : ¬ (100 : Int) < (s.size : Int) := by omega
      have i2 : (300 : Int) < (t.size : Int) := by omega
      go_enter Try.func6, Try.ntmps6
      go_wp2_with fail
      refine (few_any _ x n c l HA0.out).mono ?_
      rintro e w1 ⟨rfl, hb1⟩
      rw [HL.out]
      have K1 := (Blk.new w 31 #[.string s, .string t]).below hb1 (by simp)
      have C0 : w1.cell? ⟨w.heap.size, 0, none⟩ = some (.string s) := K1.cell 0
      have C1 : w1.cell? ⟨w.heap.size, 1, none⟩ = some (.string t) := K1.cell 1
      have BW := Lib.hid (grow_trans (below_new w (.cells #[.string s, .string t] 31)) hb1)
      clear hb1
      go_wp2_with fail
      refine (hlives_any w1).mono ?_
      rintro e w2 ⟨rfl, hb2⟩
      go_wp2
      go_ret
      exact ⟨rfl, grow_trans BW.out hb2⟩

theorem hchanges_any (x y : Option Addr) (n c m d : Nat) (l : Flds) (ns : List ByteArray) (s t : ByteArray) (w : World) (h : FldsAt w x n l) (hnc : n ≤ c) (h2 : StrsArg w y m ns) (hs : s.size ≤ 9223372036854775807) (ht : t.size ≤ 9223372036854775807) :
    Calls Try.prog 6 #[.slice x n c, .slice y m d, .agg #[.string s, .string t]] w fun e w' => e = .returned (.bool true) ∧ Below w.heap.size w w' := by
  by_cases hyes : fewB l = true ∧ m ≤ 20 ∧ s.size ≤ 100 ∧ t.size ≤ 300
  · exact hchanges_yes x y n c m d l ns s t w h hnc h2 hyes.1 hyes.2.1 hyes.2.2.1 hyes.2.2.2
  · refine hchanges_no x y n c m d l s t w h h2.2.1 hs ht ?_
    cases hl : fewB l
    · exact .inl rfl
    · rw [hl] at hyes
      simp only [true_and] at hyes
      omega
end Go.Proofs.Ytdpohibgipkhnaa
