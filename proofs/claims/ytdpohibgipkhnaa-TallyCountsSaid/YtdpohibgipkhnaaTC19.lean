/-
  THE WALKS of tally.Fields, tally.Methods and tally.Statuses.
  THE WALK of layer 49's example.
  THE WALK of TallyCounts: what is counted.
  THE WALKS of TallyCounts' two functions.
  WHAT TallyCounts' calls of the iterator leave.
  THE WALK of TallyCounts.
-/
import Derived.Test.YtdpohibgipkhnaaTC18
import Derived.Test.YtdpohibgipkhnaaTC11
import Derived.Test.YtdpohibgipkhnaaTC6
import Derived.Test.YtdpohibgipkhnaaTC15
import Derived.Test.YtdpohibgipkhnaaTC17
import Derived.Deep.RegionHeld3
import Derived.Lib.QuietBelow
set_option linter.unusedVariables false
set_option linter.unusedSimpArgs false
namespace Go.Proofs.Ytdpohibgipkhnaa
open Go.RowKit Go.Proofs.Ytdpohibgipkhnaa.Oct

/-- A message's cells. -/
structure Msg where
  me : ByteArray
  tg : ByteArray
  mi : Int
  st : Int
  re : ByteArray
  fx : Option Addr
  fn : Nat
  fc : Nat
  ki : Int
  le : Int
  bo : ByteArray
  sx : Option Addr
  sn : Nat
  sc : Nat
  tx : Option Addr
  tn : Nat
  tc : Nat
def msgV (m : Msg) : Array Value := #[.string m.me, .string m.tg, .int .i64 m.mi, .int .i64 m.st, .string m.re, .slice m.fx m.fn m.fc, .int .i64 m.ki, .int .i64 m.le, .string m.bo, .slice m.sx m.sn m.sc, .slice m.tx m.tn m.tc]
structure MsgsAt (w : World) (x : Option Addr) (n : Nat) (l : List Msg) : Prop where
  len : l.length = n
  big : n ≤ 9223372036854775807
  str : ∀ m ∈ l, m.me.size ≤ 9223372036854775807 ∧ -9223372036854775808 ≤ m.st ∧ m.st ≤ 9223372036854775807
  at_ : n = 0 ∨ ∃ b o, x = some ⟨b, o, none⟩ ∧ b < w.heap.size ∧ ∀ i (h : i < l.length) j, j < 11 → w.cell? ⟨b, o + i * 11 + j, none⟩ = (msgV l[i])[j]?
theorem MsgsAt.below {w w' : World} {x : Option Addr} {n : Nat} {l : List Msg} (h : MsgsAt w x n l) (hb : Below w.heap.size w w') : MsgsAt w' x n l := by
  refine ⟨h.len, h.big, h.str, ?_⟩
  rcases h.at_ with h4 | ⟨b, o, hx, hlt, hc⟩
  · exact .inl h4
  · exact .inr ⟨b, o, hx, Nat.lt_of_lt_of_le hlt hb.size, fun i hi j hj => (hb.cell (p := ⟨b, o + i * 11 + j, none⟩) hlt).trans (hc i hi j hj)⟩
def xxB : ByteArray := ⟨#[120, 120]⟩
def metK (l : List Msg) : List ByteArray := l.filterMap fun m => if m.me = ⟨#[]⟩ then none else some m.me
def staK (l : List Msg) : List ByteArray := l.filterMap fun m => if m.me = ⟨#[]⟩ then some (decB (m.st.tdiv 100) ++ xxB) else none
def fldK (l : Flds) : List ByteArray := l.map fun p => lowS p.1
theorem staK_take (l : List Msg) (k : Nat) (h : k < l.length) : staK (l.take (k + 1)) = staK (l.take k) ++ (if l[k].me = ⟨#[]⟩ then [decB (l[k].st.tdiv 100) ++ xxB] else []) := by
  unfold staK
  rw [List.take_succ_eq_append_getElem h, List.filterMap_append]
  by_cases e : l[k].me = ⟨#[]⟩ <;> simp [e]
theorem metK_take (l : List Msg) (k : Nat) (h : k < l.length) : metK (l.take (k + 1)) = metK (l.take k) ++ (if l[k].me = ⟨#[]⟩ then [] else [l[k].me]) := by
  unfold metK
  rw [List.take_succ_eq_append_getElem h, List.filterMap_append]
  by_cases e : l[k].me = ⟨#[]⟩ <;> simp [e]
theorem fldK_take (l : Flds) (k : Nat) (h : k < l.length) : fldK (l.take (k + 1)) = fldK (l.take k) ++ [lowS l[k].1] := by
  unfold fldK
  rw [List.take_succ_eq_append_getElem h, List.map_append]; rfl
theorem staK_len (l : List Msg) : (staK l).length ≤ l.length := List.length_filterMap_le _ _
theorem metK_len (l : List Msg) : (metK l).length ≤ l.length := List.length_filterMap_le _ _
theorem TalS.mono {w : World} {base a n m : Nat} {f : KyS → Nat} (h : TalS w base a n f) (hm : n ≤ m) : TalS w base a m f := by
  obtain ⟨mo, h1, h2, h3⟩ := h
  refine ⟨mo, h1, h2, ?_⟩
  rcases h3 with h3 | ⟨mb, D, e, h4, h5, h6, h7⟩
  · exact .inl h3
  · exact .inr ⟨mb, D, e, h4, h5, h6.mono hm, h7⟩
theorem txt_ne {s : ByteArray} (h : s ≠ ⟨#[]⟩) : s.toList.isEmpty = false := by
  rw [ByteArray.toList_eq]
  cases e : s.data.toList with
  | nil => exact absurd (bytes_eq_of_list (b := ⟨#[]⟩) e) h
  | cons a r => rfl
theorem decB_size2 (n : Int) (hn : -9223372036854775808 ≤ n ∧ n ≤ 9223372036854775807) : (decB n).size ≤ 101 := by
  have h := decB_size n hn
  unfold decB
  split
  · rw [ByteArray.size_append]
    show 1 + _ ≤ 101
    omega
  · omega
theorem cnt_start : (fun _ => 0 : KyS → Nat) = cntK [] := rfl

set_option maxRecDepth 100000 in
set_option maxHeartbeats 3200000 in
theorem statuses_any (w : World) (x : Option Addr) (n c : Nat) (l : List Msg) (h : MsgsAt w x n l) (hn : n ≤ 60) :
    Calls Try.prog 64 #[.slice x n c] w (CntPost w (staK l)) := by
  have hl := h.len
  subst hl
  have HA := Lib.hid h
  clear h
  go_enter Try.func64, Try.ntmps64
  go_wp2_with fail
  go_loopg [8] (l.length + 1) (fun gg s8 wr => ∃ k : Nat, k ≤ l.length ∧ l.length - k + 1 ≤ gg ∧ s8 = .int .i64 k ∧ Hid (TalS wr w.heap.size w.heap.size k (cntK (staK (l.take k)))) ∧ Hid (Below w.heap.size w wr))
  case atStart => exact ⟨0, Nat.zero_le _, Nat.le_refl _, rfl, TalS.new w w.heap.size, below_new w _⟩
  case round =>
    obtain ⟨k, hk, hgk, rfl, htl, hbe⟩ := hrel
    by_cases hkl : k < l.length
    · obtain ⟨b, o, rfl, hlt, hcl⟩ := (HA.out.below hbe.out).at_.resolve_left (by omega)
      obtain ⟨m, hm⟩ : ∃ m, m = l[k] := ⟨_, rfl⟩
      have hs := HA.out.str l[k] (List.getElem_mem hkl)
      have htk := staK_take l k hkl
      have hc := hcl k hkl
      rw [← hm] at hs htk hc
      have c0 := hc 0 (by decide)
      have c1 := hc 1 (by decide)
      have c2 := hc 2 (by decide)
      have c3 := hc 3 (by decide)
      have c4 := hc 4 (by decide)
      have c5 := hc 5 (by decide)
      have c6 := hc 6 (by decide)
      have c7 := hc 7 (by decide)
      have c8 := hc 8 (by decide)
      have c9 := hc 9 (by decide)
      have c10 := hc 10 (by decide)
      simp only [msgV, Nat.add_zero] at c0 c1 c2 c3 c4 c5 c6 c7 c8 c9 c10
      have HTK := Lib.hid htk
      have z0 := hbe.out.size
      clear hc hcl htk hm
      by_cases he : m.me = ⟨#[]⟩
      · have HKY : Hid (staK (l.take (k + 1)) = staK (l.take k) ++ [decB (m.st.tdiv 100) ++ xxB]) := by show _ = _; rw [HTK.out, if_pos he]
        have htd : -9223372036854775808 ≤ m.st.tdiv 100 ∧ m.st.tdiv 100 ≤ 9223372036854775807 := by
          have e : (m.st.tdiv 100).natAbs = m.st.natAbs / 100 := by rw [Int.natAbs_tdiv]; rfl
          omega
        have HDT := Lib.hid (fun W => dtext_any (m.st.tdiv 100) W htd)
        have HSZ := Lib.hid (decB_size2 (m.st.tdiv 100) htd)
        have jw : IntKind.i64.wrap (m.st.tdiv 100) = m.st.tdiv 100 := IntWalk.i64_in _ htd
        clear htd HTK
        go_wp2_with fail
        refine (HDT.out _).mono ?_
        rintro e w2 ⟨rfl, hb2⟩
        have HB2 := Lib.hid (grow_trans (below_new wr _) hb2)
        obtain ⟨T, hT⟩ : ∃ T, T = decB (m.st.tdiv 100) := ⟨_, rfl⟩
        have hsz := HSZ.out
        rw [← hT] at hsz HKY ⊢
        have HT2 := Lib.hid (htl.out.below (by exact HB2.out))
        have HKO : Hid (kySO (T ++ xxB)) := by show (T ++ xxB).size ≤ maxLen; rw [ByteArray.size_append]; show T.size + 2 ≤ maxLen; unfold maxLen; omega
        have js : ¬ 9223372036854775807 < T.size + 2 := by omega
        have HW2 := Lib.hid (hbe.out.trans (HB2.out.mono z0))
        clear hT hsz hb2 jw
        go_wp2_with fail
        refine (addS_any w2 w.heap.size w.heap.size k (cntK (staK (l.take k))) (T ++ xxB) 1 HT2.out HW2.out.size (Nat.le_refl _) (by omega) HKO.out (by decide)).mono ?_
        rintro e w3 ⟨rfl, ht3, hb3⟩
        have hkl2 : (staK (l.take k)).length < 1000000 := by have := staK_len (l.take k); have := List.length_take_le k l; omega
        rw [upd_cnt _ _ hkl2, ← HKY.out] at ht3
        have HT3 := Lib.hid ht3
        have HB3 := Lib.hid (HW2.out.trans hb3)
        clear ht3 hb3
        go_wp2_with fail
        go_roundg (l.length - (k + 1) + 1)
        case measure => omega
        case rel => exact ⟨k + 1, by omega, Nat.le_refl _, by go_num, HT3.out, HB3.out⟩
      · have HKY : Hid (staK (l.take (k + 1)) = staK (l.take k)) := by show _ = _; rw [HTK.out, if_neg he, List.append_nil]
        have he2 : m.me.toList.isEmpty = false := txt_ne he
        clear HTK he
        go_wp2_with fail
        have HT3 : Hid (TalS (wr.alloc (.cells (msgV m) 73)) w.heap.size w.heap.size (k + 1) (cntK (staK (l.take (k + 1))))) := by
          show TalS _ _ _ _ _
          rw [HKY.out]
          exact (htl.out.below (below_new wr _)).mono (by omega)
        have HB3 : Hid (Below w.heap.size w (wr.alloc (.cells (msgV m) 73))) := hbe.out.alloc z0 _
        go_roundg (l.length - (k + 1) + 1)
        case measure => omega
        case rel => exact ⟨k + 1, by omega, Nat.le_refl _, by go_num, HT3.out, HB3.out⟩
    · obtain rfl : l.length = k := by omega
      have ht9 := htl.out
      rw [List.take_length] at ht9
      have HT9 := Lib.hid ht9
      clear ht9
      go_wp2_with fail
      refine (trows_any wr w.heap.size l.length w.heap.size (cntK (staK l)) (by omega) HT9.out).mono ?_
      rintro e w3 ⟨v, xs, L, rfl, hir, hst, hown, hb3⟩
      have HCR := Lib.hid (CountR.of_rows hir hst)
      have HOW := Lib.hid (own_mono hown hbe.out.size)
      have HB3 := Lib.hid (hbe.out.trans (hb3.mono hbe.out.size))
      clear hir hst hown hb3
      go_wp2_with fail
      go_ret
      exact ⟨v, L, rfl, HCR.out, HOW.out, HB3.out⟩
end Go.Proofs.Ytdpohibgipkhnaa
namespace Go.Proofs.Ytdpohibgipkhnaa
open Go.RowKit Go.Proofs.Ytdpohibgipkhnaa.Oct

def lvM (s : Int) : Msg := ⟨⟨#[]⟩, ⟨#[]⟩, 0, s, ⟨#[]⟩, none, 0, 0, 0, 0, ⟨#[]⟩, none, 0, 0, none, 0, 0⟩
def lvMs : List Msg := [lvM 200, lvM 404, lvM 204]
def x2 : ByteArray := ⟨#[50, 120, 120]⟩
def x4 : ByteArray := ⟨#[52, 120, 120]⟩
theorem lvMs_k : staK lvMs = [x2, x4, x2] := by
  have h2 : decB ((200 : Int).tdiv 100) ++ xxB = x2 := by
    show decB 2 ++ xxB = x2
    unfold decB
    rw [if_neg (by decide), show (2 : Int).natAbs = 2 from rfl, decL_lt (by decide)]
    rfl
  have h4 : decB ((404 : Int).tdiv 100) ++ xxB = x4 := by
    show decB 4 ++ xxB = x4
    unfold decB
    rw [if_neg (by decide), show (4 : Int).natAbs = 4 from rfl, decL_lt (by decide)]
    rfl
  have h5 : decB ((204 : Int).tdiv 100) ++ xxB = x2 := h2
  unfold staK lvMs
  simp only [List.filterMap_cons, List.filterMap_nil, lvM, if_true, h2, h4, h5]
theorem x24 : x2 ≠ x4 := by decide
theorem lvMs_c : CountR [x2, x4, x2] [(x2, 2), (x4, 1)] where
  ord := List.pairwise_cons.2 ⟨fun p hp => by rw [List.mem_singleton] at hp; subst hp; exact .inl (by decide), List.pairwise_cons.2 ⟨fun p hp => by simp at hp, List.Pairwise.nil⟩⟩
  mem := fun p => by
    obtain ⟨k, n⟩ := p
    by_cases h2 : k = x2
    · subst h2
      have hc : cntK [x2, x4, x2] x2 = 2 := by decide
      rw [hc]
      constructor
      · intro h
        rcases List.mem_cons.1 h with h | h
        · injection h with _ h; exact ⟨by decide, h⟩
        · rw [List.mem_singleton] at h; injection h with h; exact absurd h x24
      · rintro ⟨_, h⟩
        have h' : n = 2 := h
        rw [h']; exact List.mem_cons_self
    · by_cases h4 : k = x4
      · subst h4
        have hc : cntK [x2, x4, x2] x4 = 1 := by decide
        rw [hc]
        constructor
        · intro h
          rcases List.mem_cons.1 h with h | h
          · injection h with h; exact absurd h.symm x24
          · rw [List.mem_singleton] at h; injection h with _ h; exact ⟨by decide, h⟩
        · rintro ⟨_, h⟩
          have h' : n = 1 := h
          rw [h']; exact List.mem_cons_of_mem _ List.mem_cons_self
      · constructor
        · intro h
          rcases List.mem_cons.1 h with h | h
          · injection h with h; exact absurd h h2
          · rw [List.mem_singleton] at h; injection h with h; exact absurd h h4
        · rintro ⟨h, _⟩
          have := cntK_mem.1 h
          simp at this
          rcases this with e | e | e
          · exact absurd e h2
          · exact absurd e h4
          · exact absurd e h2
def lvCs : Array Value := msgV (lvM 200) ++ msgV (lvM 404) ++ msgV (lvM 204)
theorem lv_msgs (w : World) : MsgsAt (w.alloc (.cells lvCs 73)) (some ⟨w.heap.size, 0, none⟩) 3 lvMs := by
  refine ⟨rfl, by decide, fun m hm => ?_, .inr ⟨w.heap.size, 0, rfl, by simp, fun i hi j hj => ?_⟩⟩
  · have : m = lvM 200 ∨ m = lvM 404 ∨ m = lvM 204 := by simpa [lvMs] using hm
    rcases this with rfl | rfl | rfl <;> decide
  · rw [(Blk.new w 73 lvCs).cell]
    have hi3 : i < 3 := hi
    have h1 : i = 0 ∨ i = 1 ∨ i = 2 := by omega
    have h2 : j = 0 ∨ j = 1 ∨ j = 2 ∨ j = 3 ∨ j = 4 ∨ j = 5 ∨ j = 6 ∨ j = 7 ∨ j = 8 ∨ j = 9 ∨ j = 10 := by omega
    rcases h1 with rfl | rfl | rfl <;> rcases h2 with rfl | rfl | rfl | rfl | rfl | rfl | rfl | rfl | rfl | rfl | rfl <;> rfl

set_option maxRecDepth 100000 in
set_option maxHeartbeats 1600000 in
theorem tlives_any (w : World) : Calls Try.prog 55 #[] w fun e w' => e = .returned (.bool true) ∧ Below w.heap.size w w' := by
  have HS := Lib.hid (statuses_any _ _ 3 3 lvMs (lv_msgs w) (by decide))
  go_enter Try.func55, Try.ntmps55
  go_wp2_with fail
  refine HS.out.mono ?_
  rintro e w1 ⟨v, L, rfl, hcr, hown, hb1⟩
  rw [lvMs_k] at hcr
  obtain rfl : L = [(x2, 2), (x4, 1)] := hcr.unique lvMs_c
  obtain ⟨g, cap, rfl, _, hglt⟩ := hown.form (by decide)
  have c0 := hown.cellAt 0 (by decide)
  have c1 := hown.cellAt 1 (by decide)
  have c2 := hown.cellAt 2 (by decide)
  have c3 := hown.cellAt 3 (by decide)
  simp only [elVR_cons, List.getElem?_cons_zero, List.getElem?_cons_succ, x2, x4] at c0 c1 c2 c3
  have HB1 := Lib.hid ((below_new w (.cells lvCs 73)).trans (hb1.mono (by simp)))
  clear hcr hown hb1
  go_wp2_with fail
  go_ret
  exact ⟨rfl, HB1.out⟩
end Go.Proofs.Ytdpohibgipkhnaa
namespace Go.Proofs.Ytdpohibgipkhnaa
open Go.RowKit Go.Maps Go.Sort Go.Shelf Go.Proofs.Ytdpohibgipkhnaa.Oct

abbrev Acts := List (Int × Int)
structure ActsAt (w : World) (x : Option Addr) (n : Nat) (l : Acts) : Prop where
  len : l.length = n
  big : n ≤ 9223372036854775807
  wf : ∀ p ∈ l, (-9223372036854775808 ≤ p.1 ∧ p.1 ≤ 9223372036854775807) ∧ (-9223372036854775808 ≤ p.2 ∧ p.2 ≤ 9223372036854775807)
  at_ : n = 0 ∨ ∃ b o, x = some ⟨b, o, none⟩ ∧ b < w.heap.size ∧ ∀ i (h : i < l.length), w.cell? ⟨b, o + i * 2, none⟩ = some (.int .i64 l[i].1) ∧ w.cell? ⟨b, o + i * 2 + 1, none⟩ = some (.int .i64 l[i].2)
theorem ActsAt.below {w w' : World} {x : Option Addr} {n : Nat} {l : Acts} (h : ActsAt w x n l) (hb : Below w.heap.size w w') : ActsAt w' x n l := by
  refine ⟨h.len, h.big, h.wf, ?_⟩
  rcases h.at_ with h4 | ⟨b, o, hx, hlt, hc⟩
  · exact .inl h4
  · exact .inr ⟨b, o, hx, Nat.lt_of_lt_of_le hlt hb.size, fun i hi => ⟨(hb.cell (p := ⟨b, o + i * 2, none⟩) hlt).trans (hc i hi).1, (hb.cell (p := ⟨b, o + i * 2 + 1, none⟩) hlt).trans (hc i hi).2⟩⟩
theorem wf_i64 {k : Int} (h : -9223372036854775808 ≤ k ∧ k ≤ 9223372036854775807) : kyIO k := WalkArith.wf_i64 h
/-- How often a key is counted. -/
def cntA (l : Acts) (k : Int) : Nat := l.foldl (fun c b => if b.1 = k then addIN c b.2 else c) 0
theorem cntA_snoc (l : Acts) (b : Int × Int) (k : Int) : cntA (l ++ [b]) k = if b.1 = k then addIN (cntA l k) b.2 else cntA l k := by
  unfold cntA
  rw [List.foldl_append]; rfl
theorem cntA_take (l : Acts) (j : Nat) (h : j < l.length) (k : Int) : cntA (l.take (j + 1)) k = if l[j].1 = k then addIN (cntA (l.take j) k) l[j].2 else cntA (l.take j) k := by
  rw [List.take_succ_eq_append_getElem h, cntA_snoc]
theorem cntA_le (l : Acts) (k : Int) : cntA l k ≤ mostN := by
  unfold cntA
  have h : ∀ (l : Acts) (c : Nat), c ≤ mostN → l.foldl (fun c b => if b.1 = k then addIN c b.2 else c) c ≤ mostN := by
    intro l
    induction l with
    | nil => intro c hc; exact hc
    | cons b l ih =>
      intro c hc
      rw [List.foldl_cons]
      apply ih
      split
      · exact Nat.min_le_right _ _
      · exact hc
  exact h l 0 (Nat.zero_le _)
theorem upd_cntA (l : Acts) (j : Nat) (h : j < l.length) : updI (cntA (l.take j)) l[j].1 (addIN (cntA (l.take j) l[j].1) l[j].2) = cntA (l.take (j + 1)) := by
  funext k
  rw [cntA_take l j h]
  unfold updI
  by_cases e : k = l[j].1
  · rw [if_pos e, if_pos e.symm, e]
  · rw [if_neg e, if_neg (fun h => e h.symm)]

end Go.Proofs.Ytdpohibgipkhnaa
namespace Go.Proofs.Ytdpohibgipkhnaa
open Go.RowKit Go.Maps Go.Sort Go.Shelf Go.Proofs.Ytdpohibgipkhnaa.Oct

set_option maxRecDepth 100000 in
set_option maxHeartbeats 1600000 in
/-- The first: all is as it should be. -/
theorem tc1_any (W : World) (base a nn : Nat) (f : KyI → Nat) (bo bm bl bs : Nat) (many sum : Nat) (last k : Int) (n : Nat) (hT : TalI W base a nn f) (h1 : Blk W bo 4 #[.bool true]) (h2 : Blk W bm 3 #[.int .i64 many]) (h3 : Blk W bl 3 #[.int .i64 last]) (h4 : Blk W bs 3 #[.int .i64 sum])
    (hd : bo ≠ bm ∧ bo ≠ bl ∧ bo ≠ bs ∧ bm ≠ bl ∧ bm ≠ bs ∧ bl ≠ bs) (hmany : many < 1000000) (hsum : sum + n ≤ 4611686018427387904) (hk : kyIO k) (hn : n = f k) (hn0 : 0 < n) (hlast : many = 0 ∨ last < k) :
    Calls Try.prog 57 #[.int .i64 k, .int .i64 (n : Nat), .pointer (some ⟨bo, 0, none⟩), .pointer (some ⟨a, 0, none⟩), .pointer (some ⟨bm, 0, none⟩), .pointer (some ⟨bl, 0, none⟩), .pointer (some ⟨bs, 0, none⟩)] W fun e W' => e = .returned (.bool true) ∧
      W' = ((((W.setCell ⟨bo, 0, none⟩ (.bool true)).setCell ⟨bl, 0, none⟩ (.int .i64 k)).setCell ⟨bm, 0, none⟩ (.int .i64 (many + 1 : Nat))).setCell ⟨bs, 0, none⟩ (.int .i64 (sum + n : Nat))) := by
  have c1 := h1.cell 0
  have c2 := h2.cell 0
  have c3 := h3.cell 0
  have c4 := h4.cell 0
  have f1 := h1.frozen 0
  have f2 := h2.frozen 0
  have f3 := h3.frozen 0
  have f4 := h4.frozen 0
  obtain ⟨d1, d2, d3, d4, d5, d6⟩ := hd
  have HOF := Lib.hid (ofI_any W base a nn f k hT hk)
  have hn1 : (0 : Int) < (n : Int) := by omega
  have hne : ((n : Int) == ((f k : Nat) : Int)) = true := by rw [hn]; simp
  have HN := Lib.hid hn
  have jw1 : IntKind.i64.wrap ((many : Int) + 1) = (many : Int) + 1 := IntWalk.i64_in _ (by omega)
  have jw2 : IntKind.i64.wrap ((sum : Int) + (n : Int)) = (sum : Int) + (n : Int) := IntWalk.i64_in _ (by omega)
  clear hn h1 h2 h3 h4 hT
  by_cases hm0 : many = 0
  · subst hm0
    go_enter Try.func57, Try.ntmps57
    go_wp2_with fail
    refine HOF.out.mono ?_
    rintro e w' ⟨rfl, rfl⟩
    go_wp2_with fail
    go_ret
    exact ⟨rfl, by simp [Int.natCast_add]⟩
  · have hlt : last < k := hlast.resolve_left hm0
    have hm1 : ((many : Int) == 0) = false := by simp; omega
    go_enter Try.func57, Try.ntmps57
    go_wp2_with fail
    refine HOF.out.mono ?_
    rintro e w' ⟨rfl, rfl⟩
    go_wp2_with fail
    go_ret
    exact ⟨rfl, by simp [Int.natCast_add]⟩

set_option maxRecDepth 100000 in
set_option maxHeartbeats 1600000 in
/-- The second: some are asked for. -/
theorem tc2_any (W : World) (bf bm : Nat) (few : Nat) (mo k n : Int) (h1 : Blk W bf 3 #[.int .i64 few]) (h2 : Blk W bm 3 #[.int .i64 mo]) (hd : bf ≠ bm) (hfew : few < 1000000) :
    Calls Try.prog 58 #[.int .i64 k, .int .i64 n, .pointer (some ⟨bf, 0, none⟩), .pointer (some ⟨bm, 0, none⟩)] W fun e W' => e = .returned (.bool (decide ((few : Int) + 1 < mo))) ∧ W' = W.setCell ⟨bf, 0, none⟩ (.int .i64 (few + 1 : Nat)) := by
  have c1 := h1.cell 0
  have c2 := h2.cell 0
  have f1 := h1.frozen 0
  have jw1 : IntKind.i64.wrap ((few : Int) + 1) = (few : Int) + 1 := IntWalk.i64_in _ (by omega)
  clear h1 h2
  go_enter Try.func58, Try.ntmps58
  go_wp2_with fail
  go_ret
  exact ⟨rfl, by simp [Int.natCast_add]⟩

/-- Rows are told in one way alone. -/
theorem IsRowsI.unique {f : KyI → Nat} {xs ys : List RwI} (h : IsRowsI f xs) (k : IsRowsI f ys) : xs = ys := by
  have key : ∀ {us vs : List RwI}, IsRowsI f us → IsRowsI f vs → ∀ p, p ∈ us → p ∈ vs := by
    intro us vs ha hb p hp
    obtain ⟨q, hq, e⟩ := hb.all p.1.1 (ha.val p hp).2
    have h1 := (ha.val p hp).1
    have h2 := (hb.val q hq).1
    have : p = q := by
      apply Subtype.ext
      apply Prod.ext
      · exact e.symm
      · rw [h1, h2, e]
    rw [this]; exact hq
  exact pw_unique (R := fun x y : RwI => ltI x.1.1 y.1.1) (fun x hx => by unfold ltI toRI at hx; omega) (fun x y z h1 h2 => by unfold ltI toRI at *; omega) h.rise k.rise (fun p => ⟨key h k p, key k h p⟩)
def lastK (pre : List RwI) : Int := match pre.getLast? with | some x => x.1.1 | none => 0
theorem lastK_snoc (pre : List RwI) (x : RwI) : lastK (pre ++ [x]) = x.1.1 := by simp [lastK]
theorem lastK_lt {f : KyI → Nat} {xs pre : List RwI} {x : RwI} (h : IsRowsI f xs) (hp : pre ++ [x] <+: xs) (hne : pre ≠ []) : lastK pre < x.1.1 := by
  obtain ⟨t, ht⟩ := hp
  have h1 := h.rise
  rw [← ht, List.append_assoc] at h1
  have h2 := (List.pairwise_append.1 h1).2.2 (pre.getLast hne) (List.getLast_mem hne) x (by simp)
  have e : lastK pre = (pre.getLast hne).1.1 := by unfold lastK; rw [List.getLast?_eq_some_getLast hne]
  rw [e]
  exact h2

/-- What the first function has seen. -/
structure Saw1 (B : Nat) (W0 : World) (bo bm bl bs : Nat) (pre : List RwI) (W : World) : Prop where
  bel : Below B W0 W
  oth : ∀ b o, W0.heap[b]? = some o → b ≠ bo → b ≠ bm → b ≠ bl → b ≠ bs → W.heap[b]? = some o
  ok : Blk W bo 4 #[.bool true]
  many : Blk W bm 3 #[.int .i64 (pre.length : Nat)]
  last : Blk W bl 3 #[.int .i64 (lastK pre)]
  sum : Blk W bs 3 #[.int .i64 (sumI pre : Nat)]
theorem Saw1.abides {B : Nat} {W0 : World} {bo bm bl bs : Nat} (h1 : bo < W0.heap.size) (h2 : bm < W0.heap.size) (h3 : bl < W0.heap.size) (h4 : bs < W0.heap.size) (hB : B ≤ W0.heap.size) : AbidesFrom W0.heap.size (Saw1 B W0 bo bm bl bs) := by
  intro s W W' row h hg hr
  have hk : ∀ b, b < W0.heap.size → W'.heap[b]? = W.heap[b]? := fun b hb => by
    have hsz := h.bel.size
    exact hg.block b (by omega) (fun e => by have := (hr b e.symm).1; omega)
  exact ⟨h.bel.grown hg (Nat.le_trans hB h.bel.size) (fun k e => Nat.le_trans hB (hr k e).1),
    fun b o hb n1 n2 n3 n4 => (hk b (Array.getElem?_eq_some_iff.1 hb).1).trans (h.oth b o hb n1 n2 n3 n4),
    (hk bo h1).trans h.ok, (hk bm h2).trans h.many, (hk bl h3).trans h.last, (hk bs h4).trans h.sum⟩
structure Saw2 (B : Nat) (W0 : World) (bf : Nat) (pre : List RwI) (W : World) : Prop where
  bel : Below B W0 W
  oth : ∀ b o, W0.heap[b]? = some o → b ≠ bf → W.heap[b]? = some o
  few : Blk W bf 3 #[.int .i64 (pre.length : Nat)]
theorem Saw2.abides {B : Nat} {W0 : World} {bf : Nat} (h1 : bf < W0.heap.size) (hB : B ≤ W0.heap.size) : AbidesFrom W0.heap.size (Saw2 B W0 bf) := by
  intro s W W' row h hg hr
  have hk : ∀ b, b < W0.heap.size → W'.heap[b]? = W.heap[b]? := fun b hb => by
    have hsz := h.bel.size
    exact hg.block b (by omega) (fun e => by have := (hr b e.symm).1; omega)
  exact ⟨h.bel.grown hg (Nat.le_trans hB h.bel.size) (fun k e => Nat.le_trans hB (hr k e).1),
    fun b o hb n1 => (hk b (Array.getElem?_eq_some_iff.1 hb).1).trans (h.oth b o hb n1), (hk bf h1).trans h.few⟩
end Go.Proofs.Ytdpohibgipkhnaa
namespace Go.Proofs.Ytdpohibgipkhnaa
open Go.RowKit Go.Maps Go.Sort Go.Shelf Go.Proofs.Ytdpohibgipkhnaa.Oct

theorem TalI.others {W0 W : World} {base a n : Nat} {f : KyI → Nat} (h : TalI W0 base a n f) (hk : ∀ b o, W0.heap[b]? = some o → (b = a ∨ o.isCells = false) → W.heap[b]? = some o) : TalI W base a n f := by
  obtain ⟨mo, h1, h2, h3⟩ := h
  refine ⟨mo, hk a _ h1 (.inl rfl), h2, ?_⟩
  rcases h3 with h3 | ⟨mb, D, e, h4, h5, h6, h7⟩
  · exact .inl h3
  · refine .inr ⟨mb, D, e, h4, h5, ?_, h7⟩
    obtain ⟨es, clock, hb, F, hs, hD⟩ := h6
    exact ⟨es, clock, hk mb _ hb (.inr rfl), F, hs, hD⟩
theorem blk_cells {W : World} {b : Nat} {T : TypeId} {cs : Array Value} {o : Obj} (h : Blk W b T cs) (hb : W.heap[b]? = some o) : o = .cells cs T := by
  have h2 := hb.symm.trans h
  injection h2

theorem Blk.setOther {w : World} {g : Nat} {T : TypeId} {cs : Array Value} (h : Blk w g T cs) {p : Addr} {u : Value} (hne : g ≠ p.block) : Blk (w.setCell p u) g T cs := (Below.heap_setCell w p u g hne).trans h

set_option maxRecDepth 100000 in
set_option maxHeartbeats 1600000 in
theorem told1 (W0 : World) (base a nn bt bo bm bl bs B : Nat) (f : KyI → Nat) (hnn : nn ≤ 100000) (hbt : Blk W0 bt 48 #[.pointer (some ⟨a, 0, none⟩)]) (hT : TalI W0 base a nn f)
    (h1 : Blk W0 bo 4 #[.bool true]) (h2 : Blk W0 bm 3 #[.int .i64 0]) (h3 : Blk W0 bl 3 #[.int .i64 0]) (h4 : Blk W0 bs 3 #[.int .i64 0])
    (hd : bo ≠ bm ∧ bo ≠ bl ∧ bo ≠ bs ∧ bm ≠ bl ∧ bm ≠ bs ∧ bl ≠ bs) (hda : a ≠ bo ∧ a ≠ bm ∧ a ≠ bl ∧ a ≠ bs) (hdt : bt ≠ bo ∧ bt ≠ bm ∧ bt ≠ bl ∧ bt ≠ bs) (hB : B ≤ bo ∧ B ≤ bm ∧ B ≤ bl ∧ B ≤ bs) :
    Calls Try.prog 90 #[.func (.func 57) #[] #[.pointer (some ⟨bo, 0, none⟩), .pointer (some ⟨a, 0, none⟩), .pointer (some ⟨bm, 0, none⟩), .pointer (some ⟨bl, 0, none⟩), .pointer (some ⟨bs, 0, none⟩)], .pointer (some ⟨bt, 0, none⟩)] W0
      fun e W' => (∃ v, e = .returned v) ∧ ∃ xs, IsRowsI f xs ∧ xs.length ≤ nn ∧ Saw1 B W0 bo bm bl bs xs W' := by
  have z1 := h1.lt
  have z2 := h2.lt
  have z3 := h3.lt
  have z4 := h4.lt
  obtain ⟨d1, d2, d3, d4, d5, d6⟩ := hd
  obtain ⟨a1, a2, a3, a4⟩ := hda
  obtain ⟨t1, t2, t3, t4⟩ := hdt
  obtain ⟨b1, b2, b3, b4⟩ := hB
  refine ((callsIn_wide (n := 6)).1 (ritcI_in (fun b o => (b = bo ∨ b = bm ∨ b = bl ∨ b = bs) ∧ ((∃ cs, o = .cells cs 3) ∨ ∃ cs, o = .cells cs 4)) 57 #[.pointer (some ⟨bo, 0, none⟩), .pointer (some ⟨a, 0, none⟩), .pointer (some ⟨bm, 0, none⟩), .pointer (some ⟨bl, 0, none⟩), .pointer (some ⟨bs, 0, none⟩)] (fun _ _ => by kernel_rfl) bt base nn (some ⟨a, 0, none⟩) f (by omega) (Saw1 B W0 bo bm bl bs) (fun _ _ => False)
    ?_ W0 hbt (.inr ⟨a, rfl, hT⟩) (Saw1.abides z1 z2 z3 z4 (by omega)) (fun cs h => ?_) (fun b cs h => ?_) (fun b es c h => ?_) (fun b cs hb h => ?_) ?_)).mono ?_
  · rintro pre x W hS ⟨xs, ⟨hir, hle⟩, hpx⟩ hlen
    have hxm : x ∈ xs := by
      obtain ⟨t, ht⟩ := hpx
      rw [← ht]; simp
    have hx := hir.val x hxm
    have hTW : TalI W base a nn f := hT.others (fun b o hb hc => by
      have hn : ∀ g T cs, Blk W0 g T cs → a ≠ g → b ≠ g := fun g T cs hg hag e => by
        subst e
        rcases hc with rfl | hc
        · exact hag rfl
        · have := blk_cells hg hb
          rw [this] at hc
          cases hc
      exact hS.oth b o hb (hn _ _ _ h1 a1) (hn _ _ _ h2 a2) (hn _ _ _ h3 a3) (hn _ _ _ h4 a4))
    have hsl := sumI_le pre
    have hmul : pre.length * mostN ≤ 100000 * mostN := Nat.mul_le_mul_right _ (by omega)
    have hxb := x.2.2
    refine (tc1_any W base a nn f bo bm bl bs pre.length (sumI pre) (lastK pre) x.1.1 x.1.2 hTW hS.ok hS.many hS.last hS.sum ⟨d1, d2, d3, d4, d5, d6⟩ (by omega) (by unfold mostN at hsl hmul hxb; omega) x.2.1 hx.1 (by rw [hx.1]; exact hx.2) ?_).mono ?_
    · by_cases hp : pre = []
      · left; rw [hp]; rfl
      · right; exact lastK_lt hir hpx hp
    · rintro e W' ⟨rfl, rfl⟩
      have k1 := (((hS.ok.set_ 0 (.bool true)).setOther (p := ⟨bl, 0, none⟩) (u := .int .i64 x.1.1) d2).setOther (p := ⟨bm, 0, none⟩) (u := .int .i64 (pre.length + 1 : Nat)) d1).setOther (p := ⟨bs, 0, none⟩) (u := .int .i64 (sumI pre + x.1.2 : Nat)) d3
      have k2 := (((hS.many.setOther (p := ⟨bo, 0, none⟩) (u := .bool true) d1.symm).setOther (p := ⟨bl, 0, none⟩) (u := .int .i64 x.1.1) d4).set_ 0 (.int .i64 (pre.length + 1 : Nat))).setOther (p := ⟨bs, 0, none⟩) (u := .int .i64 (sumI pre + x.1.2 : Nat)) d5
      have k3 := (((hS.last.setOther (p := ⟨bo, 0, none⟩) (u := .bool true) d2.symm).set_ 0 (.int .i64 x.1.1)).setOther (p := ⟨bm, 0, none⟩) (u := .int .i64 (pre.length + 1 : Nat)) d4.symm).setOther (p := ⟨bs, 0, none⟩) (u := .int .i64 (sumI pre + x.1.2 : Nat)) d6
      have k4 := (((hS.sum.setOther (p := ⟨bo, 0, none⟩) (u := .bool true) d3.symm).setOther (p := ⟨bl, 0, none⟩) (u := .int .i64 x.1.1) d6.symm).setOther (p := ⟨bm, 0, none⟩) (u := .int .i64 (pre.length + 1 : Nat)) d5.symm).set_ 0 (.int .i64 (sumI pre + x.1.2 : Nat))
      have hoth : ∀ b, b ≠ bo → b ≠ bm → b ≠ bl → b ≠ bs → ((((W.setCell ⟨bo, 0, none⟩ (.bool true)).setCell ⟨bl, 0, none⟩ (.int .i64 x.1.1)).setCell ⟨bm, 0, none⟩ (.int .i64 (pre.length + 1 : Nat))).setCell ⟨bs, 0, none⟩ (.int .i64 (sumI pre + x.1.2 : Nat))).heap[b]? = W.heap[b]? := fun b n1 n2 n3 n4 =>
        (Below.heap_setCell _ ⟨bs, 0, none⟩ _ b n4).trans ((Below.heap_setCell _ ⟨bm, 0, none⟩ _ b n2).trans ((Below.heap_setCell _ ⟨bl, 0, none⟩ _ b n3).trans (Below.heap_setCell _ ⟨bo, 0, none⟩ _ b n1)))
      refine .inl ⟨rfl, ⟨(((hS.bel.setCell (p := ⟨bo, 0, none⟩) b1 _).setCell (p := ⟨bl, 0, none⟩) b3 _).setCell (p := ⟨bm, 0, none⟩) b2 _).setCell (p := ⟨bs, 0, none⟩) b4 _, fun b o hb n1 n2 n3 n4 => (hoth b n1 n2 n3 n4).trans (hS.oth b o hb n1 n2 n3 n4), k1, ?_, ?_, ?_⟩, ?_⟩
      · rw [List.length_append]; exact k2
      · rw [lastK_snoc]; exact k3
      · rw [sumI_snoc]; exact k4
      · intro b o hb _ hX
        have hn : ∀ g T cs, Blk W g T cs → (T = 3 ∨ T = 4) → (g = bo ∨ g = bm ∨ g = bl ∨ g = bs) → b ≠ g := fun g T cs hg hT2 hgb e => by
          subst e
          refine hX ⟨hgb, ?_⟩
          rw [blk_cells hg hb]
          rcases hT2 with rfl | rfl
          · exact .inl ⟨_, rfl⟩
          · exact .inr ⟨_, rfl⟩
        exact (hoth b (hn _ _ _ hS.ok (.inr rfl) (.inl rfl)) (hn _ _ _ hS.many (.inl rfl) (.inr (.inl rfl))) (hn _ _ _ hS.last (.inl rfl) (.inr (.inr (.inl rfl)))) (hn _ _ _ hS.sum (.inl rfl) (.inr (.inr (.inr rfl))))).trans hb
  · rcases h.1 with e | e | e | e
    · exact t1 e
    · exact t2 e
    · exact t3 e
    · exact t4 e
  · rcases h.2 with ⟨cs', e⟩ | ⟨cs', e⟩ <;> (injection e with _ e; cases e)
  · rcases h.2 with ⟨cs', e⟩ | ⟨cs', e⟩ <;> cases e
  · rcases h.1 with e | e | e | e <;> omega
  · exact ⟨Below.refl _ _, fun b o hb _ _ _ _ => hb, h1, h2, h3, h4⟩
  · rintro e W' ⟨hv, ⟨xs, ⟨hir, hle⟩, hS⟩ | ⟨_, _, hF⟩⟩
    · exact ⟨hv, xs, hir, hle, hS⟩
    · exact hF.elim

set_option maxRecDepth 100000 in
set_option maxHeartbeats 1600000 in
theorem told2 (W0 : World) (base a nn bt bf bm B : Nat) (f : KyI → Nat) (mo : Int) (hnn : nn ≤ 100000) (hbt : Blk W0 bt 48 #[.pointer (some ⟨a, 0, none⟩)]) (hT : TalI W0 base a nn f)
    (h1 : Blk W0 bf 3 #[.int .i64 0]) (h2 : Blk W0 bm 3 #[.int .i64 mo]) (hd : bf ≠ bm) (hdt : bt ≠ bf) (hB : B ≤ bf) :
    Calls Try.prog 90 #[.func (.func 58) #[] #[.pointer (some ⟨bf, 0, none⟩), .pointer (some ⟨bm, 0, none⟩)], .pointer (some ⟨bt, 0, none⟩)] W0
      fun e W' => (∃ v, e = .returned v) ∧ ∃ xs pre, IsRowsI f xs ∧ pre <+: xs ∧ Saw2 B W0 bf pre W' ∧ (pre.length : Int) = min (xs.length : Int) (max mo 1) := by
  have z1 := h1.lt
  refine ((callsIn_wide (n := 6)).1 (ritcI_in (fun b o => b = bf ∧ ∃ cs, o = .cells cs 3) 58 #[.pointer (some ⟨bf, 0, none⟩), .pointer (some ⟨bm, 0, none⟩)] (fun _ _ => by kernel_rfl) bt base nn (some ⟨a, 0, none⟩) f (by omega)
    (fun pre W => Saw2 B W0 bf pre W ∧ (pre = [] ∨ (pre.length : Int) < mo)) (fun pre W => Saw2 B W0 bf pre W ∧ pre ≠ [] ∧ mo ≤ (pre.length : Int) ∧ (pre.length = 1 ∨ (pre.length : Int) - 1 < mo))
    ?_ W0 hbt (.inr ⟨a, rfl, hT⟩) (fun s W W' row h hg hr => ⟨Saw2.abides z1 (by omega) s W W' row h.1 hg hr, h.2⟩) (fun cs h => hdt h.1) (fun b cs h => ?_) (fun b es c h => ?_) (fun b cs hb h => ?_) ?_)).mono ?_
  · rintro pre x W ⟨hS, hpm⟩ _ hlen
    refine (tc2_any W bf bm pre.length mo x.1.1 (x.1.2 : Nat) hS.few (hS.oth bm _ h2 hd.symm) hd (by omega)).mono ?_
    rintro e W' ⟨rfl, rfl⟩
    have hS2 : Saw2 B W0 bf (pre ++ [x]) (W.setCell ⟨bf, 0, none⟩ (.int .i64 (pre.length + 1 : Nat))) := ⟨hS.bel.setCell (p := ⟨bf, 0, none⟩) hB _, fun b o hb n1 => (Below.heap_setCell _ ⟨bf, 0, none⟩ _ b n1).trans (hS.oth b o hb n1), by rw [List.length_append]; exact hS.few.set_ 0 _⟩
    have hln : ((pre ++ [x]).length : Int) = (pre.length : Int) + 1 := by rw [List.length_append]; simp
    have hKX : KeepXI (fun b o => b = bf ∧ ∃ cs, o = .cells cs 3) W (W.setCell ⟨bf, 0, none⟩ (.int .i64 (pre.length + 1 : Nat))) := by
      intro b o hb _ hX
      refine (Below.heap_setCell _ ⟨bf, 0, none⟩ _ b (fun e => ?_)).trans hb
      have e2 : b = bf := e
      subst e2
      exact hX ⟨rfl, _, blk_cells hS.few hb⟩
    by_cases hc : (pre.length : Int) + 1 < mo
    · rw [decide_eq_true hc]
      exact .inl ⟨rfl, ⟨hS2, .inr (by rw [hln]; exact hc)⟩, hKX⟩
    · rw [decide_eq_false hc]
      refine .inr ⟨rfl, hS2, by simp, by rw [hln]; omega, ?_⟩
      rcases hpm with hp | hp
      · left; rw [hp]; rfl
      · right; rw [hln]; omega
  · obtain ⟨_, cs', e⟩ := h
    injection e with _ e; cases e
  · obtain ⟨_, cs', e⟩ := h
    cases e
  · omega
  · exact ⟨⟨Below.refl _ _, fun b o hb _ => hb, h1⟩, .inl rfl⟩
  · rintro e W' ⟨hv, ⟨xs, ⟨hir, hle⟩, hS, hx⟩ | ⟨pre, ⟨xs, hir, hpx⟩, hS, hne, hm1, hm2⟩⟩
    · refine ⟨hv, xs, xs, hir, List.prefix_rfl, hS, ?_⟩
      rcases hx with rfl | hx
      · simp; omega
      · omega
    · refine ⟨hv, xs, pre, hir, hpx, hS, ?_⟩
      have h5 := hpx.length_le
      have h6 : pre.length ≠ 0 := fun e => hne (List.eq_nil_of_length_eq_zero e)
      omega
end Go.Proofs.Ytdpohibgipkhnaa
namespace Go.Proofs.Ytdpohibgipkhnaa
open Go.RowKit Go.Maps Go.Sort Go.Shelf Go.Proofs.Ytdpohibgipkhnaa.Oct


theorem rowsI_some (lb : Array Value) (W : World) : (binOp .eql 58 (.func (.func 90) #[] lb) .nilFunc).run Try.prog W = .ok (.bool false) W := by kernel_rfl

set_option maxRecDepth 100000 in
set_option maxHeartbeats 3200000 in
theorem tcounts_yes (w : World) (x : Option Addr) (n c : Nat) (l : Acts) (mo : Int) (h : ActsAt w x n l) (hnc : n ≤ c) (hn : n ≤ 100) (hm : -9223372036854775808 ≤ mo ∧ mo ≤ 9223372036854775807) :
    Calls Try.prog 11 #[.slice x n c, .int .i64 mo] w fun e w' => e = .returned (.bool true) ∧ Below w.heap.size w w' := by
  have hl := h.len
  subst hl
  have HA := Lib.hid h
  have hn2 : ¬ (100 : Int) < (l.length : Int) := by omega
  clear h
  go_enter Try.func11, Try.ntmps11
  go_wp2_with fail
  refine (addI_nil _ 1 1).mono ?_
  rintro e w' ⟨rfl, rfl⟩
  go_wp2_with fail
  refine (ofI_nil _ 1).mono ?_
  rintro e w' ⟨rfl, rfl⟩
  go_wp2_with fail
  refine (tsum_any _ 0 0 none (fun _ => 0) (by decide) (.inl ⟨rfl, fun _ => rfl⟩)).mono ?_
  rintro e w1 ⟨⟨xs, hir, rfl⟩, hb1⟩
  have hxs : xs = [] := by
    cases xs with
    | nil => rfl
    | cons x xs => have := (hir.val x List.mem_cons_self).2; omega
  subst hxs
  rw [show ((sumI [] : Nat) : Int) = 0 from rfl]
  have HBX : Hid (Blk w1 w.heap.size 3 #[.int .i64 mo]) := (Blk.new w 3 #[.int .i64 mo]).below hb1 (by simp)
  have HB1 := Lib.hid (grow_trans (below_new w _) hb1)
  have hz1 : w.heap.size + 1 ≤ w1.heap.size := by have := hb1.size; simp at this; exact this
  clear hir hb1
  go_wp2_with fail
  go_loopg [40] (l.length + 1) (fun gg s40 wr => ∃ k : Nat, k ≤ l.length ∧ l.length - k + 1 ≤ gg ∧ s40 = .int .i64 k ∧ Hid (TalI wr w1.heap.size w1.heap.size k (cntA (l.take k))) ∧ Hid (Below w1.heap.size w1 wr))
  case atStart => exact ⟨0, Nat.zero_le _, Nat.le_refl _, rfl, TalI.new w1 w1.heap.size, below_new w1 _⟩
  case round =>
    obtain ⟨wa, rfl⟩ : ∃ wa, wa = wr := ⟨_, rfl⟩
    obtain ⟨k, hk, hgk, rfl, htl, hbe⟩ := hrel
    by_cases hkl : k < l.length
    · have HBA : Hid (Below w.heap.size w wa) := HB1.out.trans (hbe.out.mono (by omega))
      obtain ⟨b, o, rfl, hlt, hcl⟩ := (HA.out.below HBA.out).at_.resolve_left (by omega)
      obtain ⟨⟨p1, p2⟩, hp⟩ : ∃ p, p = l[k] := ⟨_, rfl⟩
      obtain ⟨hc1, hc2⟩ := hcl k hkl
      have hwf := HA.out.wf l[k] (List.getElem_mem hkl)
      rw [← hp] at hc1 hc2 hwf
      simp only at hc1 hc2 hwf
      have HP := Lib.hid hp
      have HC : Hid (∀ j (hj : j < l.length) W, Below wa.heap.size wa W → W.cell? ⟨b, o + j * 2, none⟩ = some (.int .i64 l[j].1) ∧ W.cell? ⟨b, o + j * 2 + 1, none⟩ = some (.int .i64 l[j].2)) := fun j hj W hW => ⟨(hW.cell (p := ⟨b, o + j * 2, none⟩) hlt).trans (hcl j hj).1, (hW.cell (p := ⟨b, o + j * 2 + 1, none⟩) hlt).trans (hcl j hj).2⟩
      have j5 : (k : Int) + 1 ≤ (c : Int) := by omega
      have j6 : (k : Int) + 1 ≤ (l.length : Int) := by omega
      have z0 := hbe.out.size
      clear hcl hlt hp
      go_wp2_with fail
      go_loopg [9, 50] (k + 2) (fun gg s9 s50 wz => ∃ j : Nat, j ≤ k + 1 ∧ k + 1 - j + 1 ≤ gg ∧ s50 = .int .i64 j ∧ s9 = .int .i64 (cntA (l.take j) p1 : Nat) ∧ Hid (Below (wa.alloc (.cells #[.int .i64 p1, .int .i64 p2] 56)).heap.size (wa.alloc (.cells #[.int .i64 p1, .int .i64 p2] 56)) wz))
      case atStart => exact ⟨0, Nat.zero_le _, by omega, rfl, rfl, Below.refl _ _⟩
      case round =>
        obtain ⟨wq, rfl⟩ : ∃ wq, wq = wr := ⟨_, rfl⟩
        obtain ⟨j, hj, hgj, rfl, rfl, hbq⟩ := hrel
        have HBQ : Hid (Below wa.heap.size wa wq) := (below_new wa _).trans (hbq.out.mono (by simp))
        have hbx : Blk wq wa.heap.size 56 #[.int .i64 p1, .int .i64 p2] := (Blk.new wa 56 #[.int .i64 p1, .int .i64 p2]).below hbq.out (by simp)
        have cx0 := hbx.cell 0
        have cx1 := hbx.cell 1
        have hltx := hbx.lt
        by_cases hjk : j < k + 1
        · have hjl : j < l.length := by omega
          obtain ⟨⟨q1, q2⟩, hq⟩ : ∃ q, q = l[j] := ⟨_, rfl⟩
          obtain ⟨hd1, hd2⟩ := HC.out j hjl wq HBQ.out
          have hwq := HA.out.wf l[j] (List.getElem_mem hjl)
          have htk := cntA_take l j hjl p1
          rw [← hq] at hd1 hd2 hwq htk
          simp only at hd1 hd2 hwq htk
          have HTK := Lib.hid htk
          have hcw := cntA_le (l.take j) p1
          unfold mostN at hcw
          have k1 : (0 : Int) ≤ (j : Int) := by omega
          have k2 : (j : Int) < (k : Int) + 1 := by omega
          have cy0 : (wq.alloc (.cells #[.int .i64 q1, .int .i64 q2] 56)).cell? ⟨wa.heap.size, 0, none⟩ = some (.int .i64 p1) := (World.cell?_alloc_lt wq _ ⟨wa.heap.size, 0, none⟩ hltx).trans cx0
          clear htk hq
          by_cases he : q1 = p1
          · have HX : Hid (((cntA (l.take (j + 1)) p1 : Nat) : Int) = min (((cntA (l.take j) p1 : Nat) : Int) + max 0 (min q2 1099511627776)) 1099511627776) := by
              show _ = _
              rw [HTK.out, if_pos he]
              unfold addIN mostN
              omega
            go_wp2_with fail
            go_roundg (k + 1 - (j + 1) + 1)
            case measure => omega
            case rel => exact ⟨j + 1, by omega, Nat.le_refl _, by go_num, by rw [HX.out], hbq.out.alloc (by have := hbq.out.size; exact this) _⟩
          · have HX : Hid (((cntA (l.take (j + 1)) p1 : Nat) : Int) = ((cntA (l.take j) p1 : Nat) : Int)) := by show _ = _; rw [HTK.out, if_neg he]
            go_wp2_with fail
            go_roundg (k + 1 - (j + 1) + 1)
            case measure => omega
            case rel => exact ⟨j + 1, by omega, Nat.le_refl _, by go_num, by rw [HX.out], hbq.out.alloc (by have := hbq.out.size; exact this) _⟩
        · obtain rfl : k + 1 = j := by omega
          have hpk : l[k].1 = p1 ∧ l[k].2 = p2 := by rw [← HP.out]; exact ⟨rfl, rfl⟩
          have htk := cntA_take l k hkl p1
          rw [hpk.1, hpk.2, if_pos rfl] at htk
          have HTK := Lib.hid htk
          have hup := upd_cntA l k hkl
          rw [hpk.1, hpk.2] at hup
          have HUP := Lib.hid hup
          have HT2 := Lib.hid (htl.out.below HBQ.out)
          have HW2 : Hid (Below w1.heap.size w1 wq) := hbe.out.trans (HBQ.out.mono z0)
          clear htk hup hpk
          go_wp2_with fail
          refine (addI_all wq w1.heap.size w1.heap.size k (cntA (l.take k)) p1 p2 HT2.out HW2.out.size (Nat.le_refl _) (by omega) (wf_i64 hwf.1) hwf.2).mono ?_
          rintro e w3 ⟨rfl, ht3, hb3, hkb⟩
          rw [HUP.out] at ht3
          rw [← HTK.out]
          have HT3 := Lib.hid ht3
          have HB3 := Lib.hid (HW2.out.trans hb3)
          have hbx3 : Blk w3 wa.heap.size 56 #[.int .i64 p1, .int .i64 p2] := hkb _ _ _ hbx (by have := htl.out.lt; omega)
          have cz0 := hbx3.cell 0
          have hne1 : (((cntA (l.take (k + 1)) p1 : Nat) : Int) != ((cntA (l.take (k + 1)) p1 : Nat) : Int)) = false := by simp
          clear ht3 hb3 hkb
          go_wp2_with fail
          refine (ofI_any w3 w1.heap.size w1.heap.size (k + 1) (cntA (l.take (k + 1))) p1 HT3.out (wf_i64 hwf.1)).mono ?_
          rintro e w4 ⟨rfl, rfl⟩
          go_wp2_with fail
          go_roundg (l.length - (k + 1) + 1)
          case measure => omega
          case rel => exact ⟨k + 1, by omega, Nat.le_refl _, by go_num, HT3.out, HB3.out⟩
    · obtain rfl : l.length = k := by omega
      have ht9 := htl.out
      rw [List.take_length] at ht9
      have HT9 := Lib.hid ht9
      have HBX2 : Hid (Blk wa w.heap.size 3 #[.int .i64 mo]) := (hbe.out.block _ (by have := HBX.out.lt; exact this)).trans HBX.out
      have hla := htl.out.lt
      clear ht9
      go_wp2_with fail
      refine (rowsI_any _ _).mono ?_
      rintro e w5 ⟨rfl, hw5⟩
      have hz4 : ((((wa.alloc (.cells #[.int .i64 0] 3)).alloc (.cells #[.int .i64 0] 3)).alloc (.cells #[.int .i64 0] 3)).alloc (.cells #[.bool true] 4)).heap.size = wa.heap.size + 4 := by simp
      rw [hz4]
      have q1 : Blk w5 wa.heap.size 3 #[.int .i64 0] := by rw [hw5]; exact ((((Blk.new wa 3 #[.int .i64 0]).alloc _).alloc _).alloc _).alloc _
      have q2 : Blk w5 (wa.heap.size + 1) 3 #[.int .i64 0] := by
        have h1 := Blk.new (wa.alloc (.cells #[.int .i64 0] 3)) 3 #[.int .i64 0]
        rw [World.size_alloc] at h1
        rw [hw5]; exact ((h1.alloc _).alloc _).alloc _
      have q3 : Blk w5 (wa.heap.size + 1 + 1) 3 #[.int .i64 0] := by
        have h1 := Blk.new ((wa.alloc (.cells #[.int .i64 0] 3)).alloc (.cells #[.int .i64 0] 3)) 3 #[.int .i64 0]
        rw [World.size_alloc, World.size_alloc] at h1
        rw [hw5]; exact (h1.alloc _).alloc _
      have q4 : Blk w5 (wa.heap.size + 1 + 1 + 1) 4 #[.bool true] := by
        have h1 := Blk.new (((wa.alloc (.cells #[.int .i64 0] 3)).alloc (.cells #[.int .i64 0] 3)).alloc (.cells #[.int .i64 0] 3)) 4 #[.bool true]
        rw [World.size_alloc, World.size_alloc, World.size_alloc] at h1
        rw [hw5]; exact h1.alloc _
      have q5 : Blk w5 (wa.heap.size + 4) 48 #[.pointer (some ⟨w1.heap.size, 0, none⟩)] := by
        have h1 := Blk.new ((((wa.alloc (.cells #[.int .i64 0] 3)).alloc (.cells #[.int .i64 0] 3)).alloc (.cells #[.int .i64 0] 3)).alloc (.cells #[.bool true] 4)) 48 #[.pointer (some ⟨w1.heap.size, 0, none⟩)]
        rw [hz4] at h1
        rw [hw5]; exact h1
      have hbw : Below wa.heap.size wa w5 := by rw [hw5]; exact (((((below_new wa _).alloc (by simp) _).alloc (by simp; omega) _).alloc (by simp; omega) _).alloc (by rw [hz4]; omega) _)
      have HBW := Lib.hid hbw
      have HT5 := Lib.hid (HT9.out.below hbw)
      have HX5 : Hid (Blk w5 w.heap.size 3 #[.int .i64 mo]) := HBX2.out.below hbw HBX2.out.lt
      have H1 := Lib.hid (told1 w5 w1.heap.size w1.heap.size l.length (wa.heap.size + 4) (wa.heap.size + 1 + 1 + 1) (wa.heap.size + 1 + 1) (wa.heap.size + 1) wa.heap.size wa.heap.size (cntA l) (by omega) q5 HT5.out q4 q3 q2 q1 ⟨by omega, by omega, by omega, by omega, by omega, by omega⟩ ⟨by omega, by omega, by omega, by omega⟩ ⟨by omega, by omega, by omega, by omega⟩ ⟨by omega, by omega, by omega, by omega⟩)
      have HQ5 := Lib.hid q5
      have HQ1 := Lib.hid q1
      have HQ2 := Lib.hid q2
      have HQ3 := Lib.hid q3
      have HQ4 := Lib.hid q4
      have hzw : wa.heap.size + 5 ≤ w5.heap.size := by rw [hw5, World.size_alloc, hz4]; omega
      have hnf := rowsI_some
      clear hw5 hz4 q1 q2 q3 q4 q5 hbw
      go_wp2_with fail
      refine H1.out.mono ?_
      rintro e w6 ⟨⟨v6, rfl⟩, xs, hir, hle, hS⟩
      have HIR := Lib.hid hir
      have HS := Lib.hid hS
      have hbt6 : Blk w6 (wa.heap.size + 4) 48 #[.pointer (some ⟨w1.heap.size, 0, none⟩)] := hS.oth _ _ HQ5.out (by omega) (by omega) (by omega) (by omega)
      have hT6 : TalI w6 w1.heap.size w1.heap.size l.length (cntA l) := HT5.out.others (fun b o hb hc => by
        have hn : ∀ g T cs, Blk w5 g T cs → w1.heap.size ≠ g → b ≠ g := fun g T cs hg hag e => by
          subst e
          rcases hc with e2 | hc
          · exact hag e2.symm
          · rw [blk_cells hg hb] at hc
            cases hc
        exact hS.oth b o hb (hn _ _ _ HQ4.out (by omega)) (hn _ _ _ HQ3.out (by omega)) (hn _ _ _ HQ2.out (by omega)) (hn _ _ _ HQ1.out (by omega)))
      have HT6 := Lib.hid hT6
      have hX6 : Blk w6 w.heap.size 3 #[.int .i64 mo] := hS.oth _ _ HX5.out (by omega) (by omega) (by omega) (by omega)
      have HX6 := Lib.hid hX6
      have HBT6 := Lib.hid hbt6
      have hz6 := hS.bel.size
      clear hir hle hS hbt6 hT6 hX6 hnf
      have H2 := Lib.hid (told2 (w6.alloc (.cells #[.int .i64 0] 3)) w1.heap.size w1.heap.size l.length (wa.heap.size + 4) w6.heap.size w.heap.size w6.heap.size (cntA l) mo (by omega) (HBT6.out.alloc _) (HT6.out.below (below_new w6 _)) (Blk.new w6 _ _) (HX6.out.alloc _) (by omega) (by omega) (Nat.le_refl _))
      go_wp2_with fail
      refine H2.out.mono ?_
      rintro e w8 ⟨⟨v8, rfl⟩, xs2, pre, hir2, hpx, hS2, hfew⟩
      obtain rfl : xs2 = xs := hir2.unique HIR.out
      have o8 : ∀ b T cs, Blk w6 b T cs → Blk w8 b T cs := fun b T cs h => hS2.oth b _ (h.alloc _) (by have := h.lt; omega)
      have q1 := o8 _ _ _ HS.out.sum
      have q3 := o8 _ _ _ HS.out.many
      have q4 := o8 _ _ _ HS.out.ok
      have q6 := o8 _ _ _ HX6.out
      have q7 := hS2.few
      have HT8 := Lib.hid (HT6.out.below ((below_new w6 (.cells #[.int .i64 0] 3)).trans (hS2.bel.mono (Nat.le_refl _))))
      have HB8 : Hid (Below w.heap.size w w8) := HB1.out.trans (((hbe.out.trans (HBW.out.mono (by omega))).trans ((HS.out.bel.mono (by omega)).trans (((below_new w6 _).trans (hS2.bel.mono (Nat.le_refl _))).mono (by omega)))).mono (by omega))
      have c1 := q1.cell 0
      have c3 := q3.cell 0
      have c4 := q4.cell 0
      have c6 := q6.cell 0
      have c7 := q7.cell 0
      simp only [List.getElem?_toArray, List.getElem?_cons_zero] at c1 c3 c4 c6 c7
      have z8 := hS2.bel.size
      have z6 := HX6.out.lt
      have HL := Lib.hid (And.intro q1.lt (And.intro q3.lt (And.intro q4.lt (And.intro q6.lt q7.lt))))
      have HCK : Hid (∀ W, Below w8.heap.size w8 W → W.cell? ⟨wa.heap.size + 1 + 1 + 1, 0, none⟩ = some (.bool true) ∧ W.cell? ⟨wa.heap.size, 0, none⟩ = some (.int .i64 (sumI xs2 : Nat)) ∧ W.cell? ⟨w6.heap.size, 0, none⟩ = some (.int .i64 (pre.length : Nat)) ∧ W.cell? ⟨wa.heap.size + 1 + 1, 0, none⟩ = some (.int .i64 (xs2.length : Nat)) ∧ W.cell? ⟨w.heap.size, 0, none⟩ = some (.int .i64 mo)) :=
        fun W hW => ⟨(hW.cell (p := ⟨wa.heap.size + 1 + 1 + 1, 0, none⟩) HL.out.2.2.1).trans c4, (hW.cell (p := ⟨wa.heap.size, 0, none⟩) HL.out.1).trans c1, (hW.cell (p := ⟨w6.heap.size, 0, none⟩) HL.out.2.2.2.2).trans c7, (hW.cell (p := ⟨wa.heap.size + 1 + 1, 0, none⟩) HL.out.2.1).trans c3, (hW.cell (p := ⟨w.heap.size, 0, none⟩) HL.out.2.2.2.1).trans c6⟩
      have HPB : Hid (∀ W, Below w8.heap.size w8 W → TalPI W w1.heap.size (some ⟨w1.heap.size, 0, none⟩) l.length (cntA l)) := fun W hW => .inr ⟨_, rfl, HT8.out.below hW⟩
      have B8 := Lib.hid (Below.refl w8.heap.size w8)
      have hfe : ((pre.length : Int) == min (xs2.length : Int) (max mo 1)) = true := by rw [hfew]; simp
      have hfi : ((pre.length : Int) == (if (if mo < 1 then 1 else mo) < (xs2.length : Int) then (if mo < 1 then 1 else mo) else (xs2.length : Int))) = true := by
        rw [beq_iff_eq, hfew]
        split <;> split <;> omega
      have hse : (((sumI xs2 : Nat) : Int) == ((sumI xs2 : Nat) : Int)) = true := beq_self_eq_true _
      clear hir2 hpx hS2 hfew o8 q1 q3 q4 q6 q7 H2 H1
      go_wp2_with fail
      go_region_held3 (fun w' => w'.cell? ⟨wa.heap.size + 1 + 1 + 1, 0, none⟩ = some (.bool true) ∧ w'.cell? ⟨wa.heap.size, 0, none⟩ = some (.int .i64 (sumI xs2 : Nat)) ∧ w'.cell? ⟨w6.heap.size, 0, none⟩ = some (.int .i64 (pre.length : Nat)) ∧ w'.cell? ⟨wa.heap.size + 1 + 1, 0, none⟩ = some (.int .i64 (xs2.length : Nat)) ∧ w'.cell? ⟨w.heap.size, 0, none⟩ = some (.int .i64 mo)) (first | go_keep | exact HCK.out _ B9.out | exact HCK.out _ B10.out)
        (first
          | (go_at_call 55; refine (tlives_any _).mono ?_; rintro e w10 ⟨rfl, hb10⟩; have B10 := Lib.hid (grow_trans (by first | exact B9.out | exact B9.out.drew | exact below_drewN B9.out _) hb10); clear hb10)
          | (go_at_call 54; refine (tsum_any _ w1.heap.size l.length _ (cntA l) (by omega) (HPB.out _ (by first | exact B8.out | exact B8.out.drew | exact below_drewN B8.out _))).mono ?_; rintro e w9 ⟨⟨xs3, hir3, rfl⟩, hb9⟩; obtain rfl : xs3 = xs2 := hir3.unique HIR.out; have B9 := Lib.hid (grow_trans (by first | exact B8.out | exact B8.out.drew | exact below_drewN B8.out _) hb9); clear hb9 hir3)
          | fail)
      have HBZ := Lib.hid (HB8.out.trans (B10.out.mono HB8.out.size))
      go_wp2_with fail
      go_ret
      exact ⟨rfl, HBZ.out⟩

set_option maxRecDepth 100000 in
set_option maxHeartbeats 1600000 in
theorem tcounts_any (w : World) (x : Option Addr) (n c : Nat) (l : Acts) (mo : Int) (h : ActsAt w x n l) (hnc : n ≤ c) (hm : -9223372036854775808 ≤ mo ∧ mo ≤ 9223372036854775807) :
    Calls Try.prog 11 #[.slice x n c, .int .i64 mo] w fun e w' => e = .returned (.bool true) ∧ Below w.heap.size w w' := by
  by_cases hn : n ≤ 100
  · exact tcounts_yes w x n c l mo h hnc hn hm
  · have hn2 : (100 : Int) < (n : Int) := by omega
    have hbig := h.big
    clear h
    go_enter Try.func11, Try.ntmps11
    go_wp2_with fail
    refine (tlives_any _).mono ?_
    rintro e w1 ⟨rfl, hb1⟩
    have HB1 := Lib.hid (grow_trans (below_new w _) hb1)
    clear hb1
    go_wp2_with fail
    go_ret
    exact ⟨rfl, HB1.out⟩
end Go.Proofs.Ytdpohibgipkhnaa
