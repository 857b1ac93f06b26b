
/-
  THE WALKS of a tally's Add, Of and Rows (string).
-/
import Derived.Test.YtdpohibgipkhnaaTT12
import Derived.Test.YtdpohibgipkhnaaTT2
import Derived.Deep.DeepCutAuto
import Derived.Maps.OwnOps
import Derived.Maps.OwnSet
import Derived.Maps.Views
import Derived.StillTailTactics
import Derived.IntWalk
set_option linter.unusedVariables false
set_option linter.unusedSimpArgs false
namespace Go.Proofs.Ytdpohibgipkhnaa
open Go.RowKit Go.Maps Go.Proofs.Ytdpohibgipkhnaa.Oct

abbrev KyS := ByteArray
abbrev kySV (k : KyS) : Value := .string k
abbrev kySL (k : KyS) : Lit := .string k.data.toList
abbrev kySO (k : KyS) : Prop := k.size ≤ maxLen
theorem kyS_inj {k k' : KyS} (h : kySL k = kySL k') : k = k' := by injection h with h1; exact bytes_eq_of_list h1
theorem key_talS : Keyed Try.prog 9 := string_keyed Try.underlying9
theorem keylitS (k : KyS) : WideAt.IsKeyLit (kySL k) := by first | trivial | exact True.intro
theorem zintS (w : World) : (zeroValue 3).run Try.prog w = .ok (.int .i64 0) w := by kernel_rfl
theorem mblockS {w w' : World} {P : Program} {k : TypeId} {R : Value → Option (DataW Unit × List MemPlace)} {b n : Nat} {D : DataW Unit} (h : w.ownsMap P k R b n D) (hb : w'.heap[b]? = w.heap[b]?) : w'.ownsMap P k R b n D := by
  unfold World.ownsMap at h ⊢
  rw [hb]
  exact h
/-- What is counted, one more time with m. -/
def addSN (c : Nat) (m : Int) : Nat := min (c + m.toNat) mostN
def updS (f : KyS → Nat) (k : KyS) (v : Nat) : KyS → Nat := fun x => if x = k then v else f x

/-- The tally in block a counts f: its map is nil, or lies in a block of the call's own, from base on. -/
def TalS (w : World) (base a n : Nat) (f : KyS → Nat) : Prop :=
  ∃ mo : Option Nat, Blk w a 102 #[.map mo] ∧ (∀ k, f k ≤ mostN) ∧ ((mo = none ∧ ∀ k, f k = 0) ∨ ∃ (mb : Nat) (D : DataW Unit), mo = some mb ∧ base ≤ mb ∧ mb ≠ a ∧ w.ownsMap Try.prog 9 (plainElem Try.prog 3) mb n D ∧ ∀ k, D.atKey (kySL k) (.lit (.int .i64 0)) = .lit (.int .i64 (f k)))
section
variable {w w' : World} {base a n : Nat} {f : KyS → Nat}
theorem TalS.lt (h : TalS w base a n f) : a < w.heap.size := by
  obtain ⟨mo, h1, _⟩ := h
  exact h1.lt
theorem TalS.le (h : TalS w base a n f) : ∀ k, f k ≤ mostN := by
  obtain ⟨mo, _, h1, _⟩ := h
  exact h1
theorem TalS.below (h : TalS w base a n f) (hb : Below w.heap.size w w') : TalS w' base a n f := by
  obtain ⟨mo, h1, h2, h3⟩ := h
  refine ⟨mo, h1.below hb h1.lt, h2, ?_⟩
  rcases h3 with h3 | ⟨mb, D, e, h4, h5, h6, h7⟩
  · exact .inl h3
  · exact .inr ⟨mb, D, e, h4, h5, mblockS h6 (hb.block _ h6.lt), h7⟩
theorem TalS.grown (h : TalS w base a n f) (hb : w.grownBy w' none) : TalS w' base a n f := h.below ⟨hb.os, hb.tape, hb.output, hb.size, fun k hk => hb.block k hk (by simp)⟩
end
theorem TalS.new (w : World) (base : Nat) : TalS (w.alloc (.cells #[.map none] 102)) base w.heap.size 0 (fun _ => 0) :=
  ⟨none, Blk.new w _ _, fun _ => Nat.zero_le _, .inl ⟨rfl, fun _ => rfl⟩⟩

theorem mapnilS (w : World) : (binOp .eql 95 (.map none) (.map none)).run Try.prog w = .ok (.bool true) w := by kernel_rfl
theorem mapsomeS (b : Nat) (w : World) : (binOp .eql 95 (.map (some b)) (.map none)).run Try.prog w = .ok (.bool false) w := by kernel_rfl

set_option maxRecDepth 100000 in
set_option maxHeartbeats 3200000 in
theorem addS_all (w : World) (base a n : Nat) (f : KyS → Nat) (k : KyS) (m : Int) (h : TalS w base a n f) (hb : base ≤ w.heap.size) (hba : base ≤ a) (hn : n < 100000) (hk : kySO k) (hm : -9223372036854775808 ≤ m ∧ m ≤ 9223372036854775807) :
    Calls Try.prog 93 #[.pointer (some ⟨a, 0, none⟩), kySV k, .int .i64 m] w fun e w' => e = .returned (.int .i64 (addSN (f k) m : Nat)) ∧ TalS w' base a (n + 1) (updS f k (addSN (f k) m)) ∧ Below base w w' ∧ (∀ b T cs, Blk w b T cs → b ≠ a → Blk w' b T cs) := by
  have hkey : keyOf Try.prog 9 (kySV k) = some (kySL k) := Go.WideMaps.keyOf_string_mk Try.underlying9 hk
  have hle := h.le
  have hfk : ((f k : Nat) : Int) ≤ 1099511627776 := by have := hle k; unfold mostN at this; omega
  have hmm := @run_makeMap Try.prog
  have he1 := mapnilS
  have he2 := mapsomeS
  obtain ⟨mo, hblk, _, hcase⟩ := h
  have hlt := hblk.lt
  have hc := hblk.cell 0
  have hf := hblk.frozen 0
  rcases hcase with ⟨rfl, h0⟩ | ⟨mb, D, rfl, hmb, hne, hown, hat⟩
  case' inl =>
    go_enter Try.func93, Try.ntmps93
    go_upto_region 5 with fail
    obtain ⟨mb, hmb0⟩ : ∃ mb, mb = w.heap.size := ⟨_, rfl⟩
    obtain ⟨wb, hwb⟩ : ∃ wb, wb = ((w.setCell ⟨a, 0, none⟩ (.map (some w.heap.size))).alloc (.map #[] 0)) := ⟨_, rfl⟩
    rw [← hwb, ← hmb0]
    obtain ⟨D, hD⟩ : ∃ D : DataW Unit, D = .map [] := ⟨_, rfl⟩
    have HB : Hid (Blk wb a 102 #[.map (some mb)]) := by
      rw [hwb, hmb0]
      exact (hblk.set_ 0 (.map (some w.heap.size))).alloc _
    have HO : Hid (wb.ownsMap Try.prog 9 (plainElem Try.prog 3) mb n D) := by
      have h1 := World.ownsMap_made (H := Unit) (w.setCell ⟨a, 0, none⟩ (.map (some w.heap.size))) Try.prog 9 (plainElem Try.prog 3)
      rw [World.size_setCell] at h1
      rw [hwb, hmb0, hD]
      exact h1.mono (Nat.zero_le n)
    have HAT : Hid (∀ k, D.atKey (kySL k) (.lit (.int .i64 0)) = .lit (.int .i64 (f k))) := by
      intro k
      rw [hD, h0 k]
      rfl
    have HBW : Hid (Below base w wb) := by
      rw [hwb]
      exact ((Below.refl base w).setCell (p := ⟨a, 0, none⟩) hba _).alloc (by rw [World.size_setCell]; exact hb) _
    have HKB : Hid (∀ b T cs, Blk w b T cs → b ≠ a → Blk wb b T cs) := by
      intro b T cs h1 h2
      rw [hwb]
      exact (Below.heap_alloc _ _ b (by rw [World.size_setCell]; exact h1.lt)).trans ((Below.heap_setCell w ⟨a, 0, none⟩ _ b h2).trans h1)
    have hmb : base ≤ mb := by omega
    have hne : mb ≠ a := by omega
    clear hwb hmb0 hD h0 hblk hc hf
  case' inr =>
    go_enter Try.func93, Try.ntmps93
    go_upto_region 5 with fail
    obtain ⟨wb, hwb⟩ : ∃ wb, wb = w := ⟨_, rfl⟩
    have HB : Hid (Blk wb a 102 #[.map (some mb)]) := by rw [hwb]; exact hblk
    have HO : Hid (wb.ownsMap Try.prog 9 (plainElem Try.prog 3) mb n D) := by rw [hwb]; exact hown
    have HAT := Lib.hid hat
    have HBW : Hid (Below base w wb) := by rw [hwb]; exact Below.refl _ _
    have HKB : Hid (∀ b T cs, Blk w b T cs → b ≠ a → Blk wb b T cs) := by rw [hwb]; exact fun b T cs h1 _ => h1
    have hgw : ∀ X : World → Prop, X wb → X w := fun X h => hwb ▸ h
    refine hgw (fun w' => Code.wp _ _ _ _ w') ?_
    clear hwb hblk hown hat hc hf hgw
  all_goals
    have HLE := Lib.hid hle
    clear he1 he2 hmm hle
    have hIM := HO.out.isMap
    have HIM := Lib.hid hIM
    obtain ⟨c, hrun, hat2, _⟩ := HO.out.lookup_int key_talS Try.underlying95 Try.underlying3 (zintS wb) hkey
    obtain rfl : c = ((f k : Nat) : Int) := by have h := hat2.symm.trans (HAT.out k); injection h with h; injection h
    obtain ⟨c2, hrun2, hat3, _⟩ := (show (wb.drew.ownsMap Try.prog 9 (plainElem Try.prog 3) mb n D) from HO.out).lookup_int key_talS Try.underlying95 Try.underlying3 (zintS wb.drew) hkey
    obtain rfl : c2 = ((f k : Nat) : Int) := by have h := hat3.symm.trans (HAT.out k); injection h with h; injection h
    have hrun3 : (Instr.lookup 95 (.map (some mb)) (kySV k) false).run Try.prog { heap := wb.heap, tape := wb.tape, drawn := wb.drawn + 1, os := wb.os, output := wb.output } = .ok (.int .i64 ((f k : Nat) : Int)) { heap := wb.heap, tape := wb.tape, drawn := wb.drawn + 1, os := wb.os, output := wb.output } := hrun2
    have hcw := HB.out.cell 0
    have HX : Hid (((addSN (f k) m : Nat) : Int) = ((f k : Nat) : Int) + min (max m 0) (1099511627776 - ((f k : Nat) : Int))) := by show _ = _; unfold addSN mostN; omega
    have HX2 : Hid (addSN (f k) m ≤ mostN) := Nat.min_le_right _ _
    have jw1 : IntKind.i64.wrap (1099511627776 - ((f k : Nat) : Int)) = 1099511627776 - ((f k : Nat) : Int) := IntWalk.i64_in _ (by omega)
    have jw2 : IntKind.i64.wrap (((f k : Nat) : Int) + min (max m 0) (1099511627776 - ((f k : Nat) : Int))) = ((addSN (f k) m : Nat) : Int) := (IntWalk.i64_in _ (by omega)).trans HX.out.symm
    clear hat2 hIM
    have HXI : Hid (((addSN (f k) m : Nat) : Int) = ((f k : Nat) : Int) + if 1099511627776 - ((f k : Nat) : Int) < (if m < 0 then 0 else m) then 1099511627776 - ((f k : Nat) : Int) else (if m < 0 then 0 else m)) := by
      show _ = _
      unfold addSN mostN
      split <;> split <;> omega
    have jw3 : IntKind.i64.wrap (((f k : Nat) : Int) + if 1099511627776 - ((f k : Nat) : Int) < (if m < 0 then 0 else m) then 1099511627776 - ((f k : Nat) : Int) else (if m < 0 then 0 else m)) = ((addSN (f k) m : Nat) : Int) := (IntWalk.i64_in _ (by rw [← HXI.out]; have := HX2.out; unfold mostN at this; omega)).trans HXI.out.symm
    go_still_tail 17, (by kernel_rfl)
    all_goals
      change wpList _ _ _ _ _ wb.drew
      have HBq : Hid (Blk wb.drew a 102 #[.map (some mb)]) := HB.out
      have HOq : Hid (wb.drew.ownsMap Try.prog 9 (plainElem Try.prog 3) mb n D) := HO.out
      have HWq : Hid (Below base w wb.drew) := HBW.out.drew
      have HKq : Hid (∀ b T cs, Blk w b T cs → b ≠ a → Blk wb.drew b T cs) := HKB.out
      have HATq := HAT
      generalize wb.drew = wq at HBq HOq HWq HKq ⊢
      clear hrun hrun2 hrun3 hcw jw1 jw2 hat3 HB HO HBW HKB
      go_wp2_with (at_mapUpdate; refine wpList_mapUpdate_own _ rfl _ _ _ 95 rfl 9 3 key_talS Try.underlying95 _ mb n _ rfl HOq.out (by unfold maxLen; omega) _ _ _ rfl rfl hkey _ [] (plainElem_int Try.underlying3 (WalkArith.wf_i64 (by have := HX2.out; unfold mostN at this; omega))) ?_; intro w3 hown3 hgrow3; have HB3 : Hid (Blk w3 a 102 #[.map (some mb)]) := ((hgrow3.block a HBq.out.lt (fun e => by injection e with e; omega)).trans HBq.out); have hc3 := HB3.out.cell 0; have HO3 := Lib.hid hown3; have HG3 := Lib.hid hgrow3; obtain ⟨c4, hrun4, hat4, _⟩ := hown3.lookup_int key_talS Try.underlying95 Try.underlying3 (zintS w3) hkey; obtain rfl : c4 = ((addSN (f k) m : Nat) : Int) := (by have h := hat4.symm.trans (atKey_put_same HIM.out (keylitS k) _ _); injection h with h; injection h); have HAT4 := Lib.hid hat4; clear hown3 hgrow3 hat4)
      all_goals
        go_ret
        refine ⟨rfl, ⟨some mb, HB3.out, fun x => ?_, .inr ⟨mb, _, rfl, hmb, hne, HO3.out, fun x => ?_⟩⟩, HWq.out.grown HG3.out (by have := HWq.out.size; omega) (fun j e => by injection e with e; omega), fun b T cs h1 h2 => (HG3.out.block b (HKq.out b T cs h1 h2).lt (fun e => by injection e with e; subst e; obtain ⟨es, cl, hh, _⟩ := HOq.out; have h3 := (HKq.out b T cs h1 h2).symm.trans hh; injection h3 with h3; cases h3)).trans (HKq.out b T cs h1 h2)⟩
        · unfold updS
          split
          · exact HX2.out
          · exact HLE.out x
        · unfold updS
          by_cases e : x = k
          · rw [if_pos e, e]; exact HAT4.out
          · rw [if_neg e, atKey_put_other (fun h => e (kyS_inj h))]; exact HAT.out x

theorem addS_any (w : World) (base a n : Nat) (f : KyS → Nat) (k : KyS) (m : Int) (h : TalS w base a n f) (hb : base ≤ w.heap.size) (hba : base ≤ a) (hn : n < 100000) (hk : kySO k) (hm : -9223372036854775808 ≤ m ∧ m ≤ 9223372036854775807) :
    Calls Try.prog 93 #[.pointer (some ⟨a, 0, none⟩), kySV k, .int .i64 m] w fun e w' => e = .returned (.int .i64 (addSN (f k) m : Nat)) ∧ TalS w' base a (n + 1) (updS f k (addSN (f k) m)) ∧ Below base w w' :=
  (addS_all w base a n f k m h hb hba hn hk hm).mono fun _ _ ⟨h1, h2, h3, _⟩ => ⟨h1, h2, h3⟩

theorem addS_nil (w : World) (k : KyS) (m : Int) :
    Calls Try.prog 93 #[.pointer none, kySV k, .int .i64 m] w fun e w' => e = .returned (.int .i64 0) ∧ w = w' := by
  go_enter Try.func93, Try.ntmps93
  go_wp2_with fail
  go_ret
  exact ⟨rfl, rfl⟩
/-- Rows hands back a closure over a new block that holds the pointer. -/
theorem rowsS_any (w : World) (p : Option Addr) :
    Calls Try.prog 112 #[.pointer p] w fun e w' => e = .returned (.func (.func 126) #[] #[.pointer (some ⟨w.heap.size, 0, none⟩)]) ∧ w' = w.alloc (.cells #[.pointer p] 105) := by
  go_enter Try.func112, Try.ntmps112
  go_wp2_with fail
  go_ret
  exact ⟨rfl, rfl⟩
end Go.Proofs.Ytdpohibgipkhnaa
