/-
  THE WALKS of the package lines: New, see, Feed, Whole, Line, Spent, Within: what each call answers, and what becomes of the object.
-/
import Derived.Test.YtgbjndlaonalcaaLinesPlain
import Derived.Test.YtgbjndlaonalcaaBase
import Derived.Lib.OthersKept
namespace Go.Proofs.Ytgbjndlaonalcaa
open Go.RowKit Go.Proofs.Ytgbjndlaonalcaa.Lin

theorem info_byte : (Try.prog.info? 5).map (fun i => (i.zero, i.size, i.bytes)) = some (some (.int .u8 0), 1, 1) := by kernel_rfl

/-- The object's cells. -/
def linCells (s : St) (v : Value) : Array Value := #[.int .i64 s.left, .int .i64 s.spent, v, .bool s.within, .bool s.turn, .bool s.whole, .int .i64 s.e]
/-- Block b is an object of the package lines in state s; its octets lie in a row of the call's own, from block B on. -/
def IsLines (w : World) (B b : Nat) (s : St) : Prop := B ≤ b ∧ Ok s ∧ ∃ v, w.heap[b]? = some (.cells (linCells s v) 38 (0, 0)) ∧ w.ownsRow B 5 1 v s.line.length (byteVals s.line)

set_option maxHeartbeats 400000 in
theorem new_some (n : Int) (w : World) (h0 : 0 ≤ n) (h1 : n ≤ 65536) :
    Calls Try.prog 16 #[.int .i64 n] w fun e w' => e = .returned (.pointer (some ⟨w.heap.size, 0, none⟩)) ∧ w' = w.alloc (.cells #[.int .i64 n, .int .i64 0, .slice none 0 0, .bool false, .bool false, .bool false, .int .i64 0] 38) := by
  go_enter Try.func16, Try.ntmps16
  go_wp2
  go_ret
  exact ⟨rfl, rfl⟩
set_option maxHeartbeats 400000 in
theorem new_none (n : Int) (w : World) (h : n < 0 ∨ 65536 < n) :
    Calls Try.prog 16 #[.int .i64 n] w fun e w' => e = .returned (.pointer none) ∧ w = w' := by
  rcases h with h | h
  · go_enter Try.func16, Try.ntmps16
    go_wp2
    go_ret
    exact ⟨rfl, rfl⟩
  · have h2 : ¬ n < 0 := by omega
    go_enter Try.func16, Try.ntmps16
    go_wp2
    go_ret
    exact ⟨rfl, rfl⟩
theorem new_is (w : World) (n : Nat) (hn : n ≤ 65536) (B : Nat) (hB : B ≤ w.heap.size) : IsLines (w.alloc (.cells #[.int .i64 n, .int .i64 0, .slice none 0 0, .bool false, .bool false, .bool false, .int .i64 0] 38)) B w.heap.size (Lin.start n) :=
  ⟨hB, Ok_start hn, _, heap_alloc_new w _, World.ownsRow_nil _ _ _ _⟩

/-- What the walk wants to know of the object's cells. -/
theorem linCells_at {w : World} {b : Nat} {s : St} {v : Value} (h : w.heap[b]? = some (.cells (linCells s v) 38 (0, 0))) :
    w.cell? ⟨b, 0, none⟩ = some (.int .i64 s.left) ∧ w.cell? ⟨b, 1, none⟩ = some (.int .i64 s.spent) ∧ w.cell? ⟨b, 2, none⟩ = some v ∧ w.cell? ⟨b, 3, none⟩ = some (.bool s.within) ∧
    w.cell? ⟨b, 4, none⟩ = some (.bool s.turn) ∧ w.cell? ⟨b, 5, none⟩ = some (.bool s.whole) ∧ w.cell? ⟨b, 6, none⟩ = some (.int .i64 s.e) ∧ ∀ j, w.frozen? ⟨b, j, none⟩ = false :=
  ⟨cell_of_row w b 0 _ _ _ h, cell_of_row w b 1 _ _ _ h, cell_of_row w b 2 _ _ _ h, cell_of_row w b 3 _ _ _ h, cell_of_row w b 4 _ _ _ h, cell_of_row w b 5 _ _ _ h, cell_of_row w b 6 _ _ _ h, fun j => frozen_of_row w b j _ _ h⟩

theorem int_eq10 (c : UInt8) (k : Nat) : ((c.toNat : Int) == (k : Int)) = (c.toNat == k) := by rw [Bool.eq_iff_iff]; simp; omega
theorem turn_bad {s : St} {c : UInt8} (hl : ¬ s.left = 0) (hbad : ¬ seeE s c = 0) : (((c.toNat : Int) == 10) = true ∧ s.turn = false) ∨ (((c.toNat : Int) == 10) = false ∧ s.turn = true) := by
  have e := int_eq10 c 10
  have e2 : ((c.toNat : Int) == 10) = (c.toNat == 10) := e
  rw [e2]
  unfold seeE at hbad
  rw [if_neg hl] at hbad
  cases h1 : (c.toNat == 10) <;> cases h2 : s.turn <;> simp [h1, h2] at hbad ⊢
theorem turn_ok {s : St} {c : UInt8} (hok : seeE s c = 0) : ¬ s.left = 0 ∧ ((((c.toNat : Int) == 10) = true ∧ s.turn = true) ∨ (((c.toNat : Int) == 10) = false ∧ s.turn = false)) := by
  have e := int_eq10 c 10
  have e2 : ((c.toNat : Int) == 10) = (c.toNat == 10) := e
  rw [e2]
  unfold seeE at hok
  by_cases hl : s.left = 0
  · rw [if_pos hl] at hok; cases hok
  · rw [if_neg hl] at hok
    refine ⟨hl, ?_⟩
    cases h1 : (c.toNat == 10) <;> cases h2 : s.turn <;> simp [h1, h2] at hok ⊢

set_option maxHeartbeats 400000 in
/-- see, an octet with which something is wrong: nothing turns. -/
theorem see_bad (w : World) (b : Nat) (s : St) (v : Value) (c : UInt8) (hb : w.heap[b]? = some (.cells (linCells s v) 38 (0, 0))) (hbad : ¬ seeE s c = 0) :
    Calls Try.prog 69 #[.pointer (some ⟨b, 0, none⟩), .int .u8 c.toNat] w fun e w' => e = .returned (.int .i64 (seeE s c)) ∧ w = w' := by
  obtain ⟨c0, c1, c2, c3, c4, c5, c6, cf⟩ := linCells_at hb
  clear hb
  have h8 : Hid (s.left ≠ 0 → seeE s c = 8) := fun h => by
    rcases seeE_cases s c with h2 | h2 | h2
    · exact absurd h2 hbad
    · unfold seeE at h2; rw [if_neg h] at h2; split at h2 <;> omega
    · exact h2
  by_cases hl : s.left = 0
  · have h4 : seeE s c = 4 := by unfold seeE; rw [if_pos hl]
    have H4 := Lib.hid h4
    have hl2 : ((s.left : Int) == 0) = true := by simp [hl]
    clear h4 hl h8 hbad
    go_enter Try.func69, Try.ntmps69
    go_wp2
    go_ret
    exact ⟨ret_int (by rw [H4.out]; rfl), rfl⟩
  · have h8' := h8.out hl
    have hl2 : ((s.left : Int) == 0) = false := by simp; omega
    have ht : (((c.toNat : Int) == 10) = true ∧ s.turn = false) ∨ (((c.toNat : Int) == 10) = false ∧ s.turn = true) := turn_bad hl hbad
    have H8 := Lib.hid h8'
    clear h8' h8 hl hbad
    rcases ht with ⟨t1, t2⟩ | ⟨t1, t2⟩
    all_goals
      go_enter Try.func69, Try.ntmps69
      go_wp2
      go_ret
      exact ⟨ret_int (by rw [H8.out]; rfl), rfl⟩

/-- A row of octets is no object of the package. -/
theorem own_ne {w : World} {B b : Nat} {v : Value} {n : Nat} {xs : List Value} {cs : Array Value} {fr : Nat × Nat} (h : w.ownsRow B 5 1 v n xs) (hb : w.heap[b]? = some (.cells cs 38 fr)) : v.ownBlock ≠ some b := by
  intro e
  rcases h.2 with ⟨rfl, _⟩ | ⟨g, cap, cur, rfl, _, hg, _⟩
  · cases e
  · simp [Value.ownBlock] at e
    subst e
    rw [hg] at hb
    simp at hb
theorem own_slice {w : World} {B e size : Nat} {v : Value} {n : Nat} {xs : List Value} (h : w.ownsRow B e size v n xs) : ∃ x cap, v = .slice x n cap := by
  rcases h.2 with ⟨rfl, rfl⟩ | ⟨g, cap, cur, rfl, _⟩
  · exact ⟨_, _, rfl⟩
  · exact ⟨_, _, rfl⟩
/-- Stores into one block, one behind the other. -/
def stores (w : World) (b : Nat) : List (Nat × Value) → World
  | [] => w
  | (j, u) :: l => stores (w.setCell ⟨b, j, none⟩ u) b l
def storesC (cs : Array Value) : List (Nat × Value) → Array Value
  | [] => cs
  | (j, u) :: l => storesC (cs.setIfInBounds j u) l
theorem stores_heap {b : Nat} {t : TypeId} : ∀ (l : List (Nat × Value)) (w : World) (cs : Array Value), w.heap[b]? = some (.cells cs t (0, 0)) → (stores w b l).heap[b]? = some (.cells (storesC cs l) t (0, 0))
  | [], _, _, h => h
  | (j, u) :: l, w, cs, h => stores_heap l _ _ (heap_setCell_same w b j cs t u h)
theorem stores_own {b B e size : Nat} {v : Value} {n : Nat} {xs : List Value} : ∀ (l : List (Nat × Value)) (w : World), w.ownsRow B e size v n xs → v.ownBlock ≠ some b → (stores w b l).ownsRow B e size v n xs
  | [], _, h, _ => h
  | (_, u) :: l, _, h, hne => stores_own l _ (ownsRow_setCell_other h hne u) hne
theorem stores_below {B b : Nat} (hB : B ≤ b) {a : World} : ∀ (l : List (Nat × Value)) (w : World), Below B a w → Below B a (stores w b l)
  | [], _, h => h
  | (_, u) :: l, _, h => stores_below hB l _ (h.setCell hB u)
theorem stores_others {e b : Nat} {a : World} : ∀ (l : List (Nat × Value)) (w : World), Lib.OthersKept e (some b) a w → Lib.OthersKept e (some b) a (stores w b l)
  | [], _, h => h
  | (j, u) :: l, _, h => stores_others l _ (h.setCell ⟨b, j, none⟩ rfl u)

/-- What a call leaves: the object in its new state, all else as it was. -/
def LinLeft (w w' : World) (B b : Nat) (s : St) : Prop := IsLines w' B b s ∧ Below B w w' ∧ Lib.OthersKept 5 (some b) w w'
theorem LinLeft.of_stores {a w : World} {B b : Nat} {s s' : St} {v v' : Value} (hB : B ≤ b) (hok : Ok s') (hb : w.heap[b]? = some (.cells (linCells s v) 38 (0, 0))) (hbel : Below B a w) (hoth : Lib.OthersKept 5 (some b) a w) (l : List (Nat × Value))
    (he : storesC (linCells s v) l = linCells s' v') (hown : w.ownsRow B 5 1 v' s'.line.length (byteVals s'.line)) : LinLeft a (stores w b l) B b s' :=
  ⟨⟨hB, hok, v', by rw [← he]; exact stores_heap l w _ hb, stores_own l w hown (own_ne hown hb)⟩, stores_below hB l w hbel, stores_others l w hoth⟩
theorem own_kind {w : World} {B e size : Nat} {v : Value} {n : Nat} {xs : List Value} (h : w.ownsRow B e size v n xs) : ∀ g, v.ownBlock = some g → ∃ c fz, w.heap[g]? = some (.cells c e fz) := by
  intro g hg
  rcases h.2 with ⟨rfl, _⟩ | ⟨g', cap, cur, rfl, _, hgg, _⟩
  · cases hg
  · simp [Value.ownBlock] at hg
    subst hg
    exact ⟨cur, _, hgg⟩

set_option maxHeartbeats 800000 in
/-- see, an octet with which nothing is wrong. -/
theorem see_ok (w : World) (B b : Nat) (s : St) (c : UInt8) (hB0 : B ≤ w.heap.size) (his : IsLines w B b s) (hok : seeE s c = 0) :
    Calls Try.prog 69 #[.pointer (some ⟨b, 0, none⟩), .int .u8 c.toNat] w fun e w' => e = .returned (.int .i64 0) ∧ LinLeft w w' B b (seeS s c) := by
  obtain ⟨hBb, hOk, v, hb, hown⟩ := his
  obtain ⟨c0, c1, c2, c3, c4, c5, c6, cf⟩ := linCells_at hb
  obtain ⟨hl, ht⟩ := turn_ok hok
  have hOk2 := Ok_see (c := c) hOk hl
  have hl2 : ((s.left : Int) == 0) = false := by simp; omega
  have b1 : (1 : Int) ≤ (s.left : Int) := by omega
  have b2 : s.left + s.spent ≤ 65536 := hOk.1
  have HB := Lib.hid hb
  have HW := Lib.hid hown
  have HK := Lib.hid hOk2
  clear hb hown hOk hOk2 hok
  by_cases h13 : c.toNat = 13
  · have t13 : ((c.toNat : Int) == 13) = true := by simp [h13]
    have hs : seeS s c = { s with left := s.left - 1, spent := s.spent + 1, turn := true, within := !s.whole } := by unfold seeS; rw [if_pos h13]
    rcases ht with ⟨t1, t2⟩ | ⟨t1, t2⟩
    · simp at t1; omega
    have HS := Lib.hid hs
    clear hs h13 hl
    go_enter Try.func69, Try.ntmps69
    go_wp2
    go_ret
    refine ⟨rfl, ?_⟩
    rw [HS.out]
    rw [HS.out] at HK
    have e1 : ((s.left : Int) - 1) = ((s.left - 1 : Nat) : Int) := by omega
    refine LinLeft.of_stores hBb HK.out HB.out (Below.refl _ _) (Lib.OthersKept.refl _ _ _) [(4, .bool true), (0, .int .i64 ((s.left : Int) - 1)), (1, .int .i64 ((s.spent : Int) + 1)), (3, .bool !s.whole)] ?_ HW.out
    rw [e1]
    rfl
  · have t13 : ((c.toNat : Int) == 13) = false := by simp; omega
    rcases ht with ⟨t1, t2⟩ | ⟨t1, t2⟩
    · have h10 : c.toNat = 10 := by simp at t1; omega
      have hs : seeS s c = { s with left := s.left - 1, spent := s.spent + 1, turn := false, whole := true, within := false } := by unfold seeS; rw [if_neg h13, if_pos h10]
      have HS := Lib.hid hs
      clear hs h13 h10 hl
      go_enter Try.func69, Try.ntmps69
      go_wp2
      go_ret
      refine ⟨rfl, ?_⟩
      rw [HS.out]
      rw [HS.out] at HK
      have e1 : ((s.left : Int) - 1) = ((s.left - 1 : Nat) : Int) := by omega
      refine LinLeft.of_stores hBb HK.out HB.out (Below.refl _ _) (Lib.OthersKept.refl _ _ _) [(4, .bool false), (5, .bool true), (0, .int .i64 ((s.left : Int) - 1)), (1, .int .i64 ((s.spent : Int) + 1)), (3, .bool false)] ?_ HW.out
      rw [e1]
      rfl
    · have h10 : ¬ c.toNat = 10 := by simp at t1; omega
      have hs : seeS s c = { s with left := s.left - 1, spent := s.spent + 1, line := s.line ++ [c], within := !s.whole } := by unfold seeS; rw [if_neg h13, if_neg h10]
      have HS := Lib.hid hs
      clear hs h13 h10 hl
      obtain ⟨i0, hi, hz⟩ := info_hid info_byte
      obtain ⟨x, cap, rfl⟩ := own_slice HW.out
      have hbl : b < w.heap.size := lt_of_block HB.out
      have hlen : s.line.length ≤ 65536 := by have := HK.out.2; rw [HS.out] at this; simp at this; omega
      have H5 : Hid (s.line.length + 1 ≤ maxLen) := by show _ ≤ _; unfold maxLen; omega
      have H6 : Hid ((s.line.length + 1) * 1 ≤ 140737488355328) := by show _ ≤ _; omega
      go_enter Try.func69, Try.ntmps69
      go_wp2_with (at_builtin; refine wpList_append_new rfl (.tmp 9) (.tmp 11) 36 rfl B 5 Try.underlying36 hi hz rfl (by decide) w [.int .u8 c.toNat] HW.out rfl rfl rfl (one_int _ _) H5.out H6.out hB0 ?_; intro g' cap' w1 hown1 hgrow1; have HB1 := Lib.hid ((hgrow1.block b hbl (Ne.symm (own_ne HW.out HB.out))).trans HB.out); obtain ⟨d0, d1, d2, d3, d4, d5, d6, df⟩ := linCells_at HB1.out; have HW1 := Lib.hid hown1; have HG1 := Lib.hid hgrow1; clear hown1 hgrow1)
      go_ret
      refine ⟨rfl, ?_⟩
      rw [HS.out]
      rw [HS.out] at HK
      have e1 : ((s.left : Int) - 1) = ((s.left - 1 : Nat) : Int) := by omega
      have hown2 := HW1.out
      rw [← byteVals_snoc] at hown2
      refine LinLeft.of_stores hBb HK.out HB1.out (below_owned (Below.refl _ _) hB0 HW.out HG1.out) ((Lib.OthersKept.refl _ _ _).grown HG1.out (own_kind HW.out))
        [(2, .slice (some ⟨g', 0, none⟩) (s.line.length + 1) cap'), (0, .int .i64 ((s.left : Int) - 1)), (1, .int .i64 ((s.spent : Int) + 1)), (3, .bool !s.whole)] (v' := .slice (some ⟨g', 0, none⟩) (s.line.length + 1) cap') ?_ ?_
      · rw [e1]
        rfl
      · have e2 : (s.line ++ [c]).length = s.line.length + 1 := by simp
        simp only [e2]
        exact hown2
end Go.Proofs.Ytgbjndlaonalcaa
