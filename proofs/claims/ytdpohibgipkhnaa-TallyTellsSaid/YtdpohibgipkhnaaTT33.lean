/-
  THE WALKS of tally.Fields, tally.Methods and tally.Statuses.
  THE WALK of layer 49's example.
  PLAIN, for TallyParts: what is counted in parts is counted as the whole. And a list of rows that lies in memory.
  THE WALKS of tally.Fields and tally.Methods.
-/
import Derived.Test.YtdpohibgipkhnaaTT32
import Derived.Test.YtdpohibgipkhnaaTT14
import Derived.Test.YtdpohibgipkhnaaTT8
import Derived.Test.YtdpohibgipkhnaaTT19
set_option linter.unusedVariables false
set_option linter.unusedSimpArgs false
namespace Go.Proofs.Ytdpohibgipkhnaa
open Go.RowKit Go.Proofs.Ytdpohibgipkhnaa.Oct

/-- A message's cells. -/
structure Msg where
  me : ByteArray
  tg : ByteArray
  mi : Int
  st : Int
  re : ByteArray
  fx : Option Addr
  fn : Nat
  fc : Nat
  ki : Int
  le : Int
  bo : ByteArray
  sx : Option Addr
  sn : Nat
  sc : Nat
  tx : Option Addr
  tn : Nat
  tc : Nat
def msgV (m : Msg) : Array Value := #[.string m.me, .string m.tg, .int .i64 m.mi, .int .i64 m.st, .string m.re, .slice m.fx m.fn m.fc, .int .i64 m.ki, .int .i64 m.le, .string m.bo, .slice m.sx m.sn m.sc, .slice m.tx m.tn m.tc]
structure MsgsAt (w : World) (x : Option Addr) (n : Nat) (l : List Msg) : Prop where
  len : l.length = n
  big : n ≤ 9223372036854775807
  str : ∀ m ∈ l, m.me.size ≤ 9223372036854775807 ∧ -9223372036854775808 ≤ m.st ∧ m.st ≤ 9223372036854775807
  at_ : n = 0 ∨ ∃ b o, x = some ⟨b, o, none⟩ ∧ b < w.heap.size ∧ ∀ i (h : i < l.length) j, j < 11 → w.cell? ⟨b, o + i * 11 + j, none⟩ = (msgV l[i])[j]?
theorem MsgsAt.below {w w' : World} {x : Option Addr} {n : Nat} {l : List Msg} (h : MsgsAt w x n l) (hb : Below w.heap.size w w') : MsgsAt w' x n l := by
  refine ⟨h.len, h.big, h.str, ?_⟩
  rcases h.at_ with h4 | ⟨b, o, hx, hlt, hc⟩
  · exact .inl h4
  · exact .inr ⟨b, o, hx, Nat.lt_of_lt_of_le hlt hb.size, fun i hi j hj => (hb.cell (p := ⟨b, o + i * 11 + j, none⟩) hlt).trans (hc i hi j hj)⟩
def xxB : ByteArray := ⟨#[120, 120]⟩
def metK (l : List Msg) : List ByteArray := l.filterMap fun m => if m.me = ⟨#[]⟩ then none else some m.me
def staK (l : List Msg) : List ByteArray := l.filterMap fun m => if m.me = ⟨#[]⟩ then some (decB (m.st.tdiv 100) ++ xxB) else none
def fldK (l : Flds) : List ByteArray := l.map fun p => lowS p.1
theorem staK_take (l : List Msg) (k : Nat) (h : k < l.length) : staK (l.take (k + 1)) = staK (l.take k) ++ (if l[k].me = ⟨#[]⟩ then [decB (l[k].st.tdiv 100) ++ xxB] else []) := by
  unfold staK
  rw [List.take_succ_eq_append_getElem h, List.filterMap_append]
  by_cases e : l[k].me = ⟨#[]⟩ <;> simp [e]
theorem metK_take (l : List Msg) (k : Nat) (h : k < l.length) : metK (l.take (k + 1)) = metK (l.take k) ++ (if l[k].me = ⟨#[]⟩ then [] else [l[k].me]) := by
  unfold metK
  rw [List.take_succ_eq_append_getElem h, List.filterMap_append]
  by_cases e : l[k].me = ⟨#[]⟩ <;> simp [e]
theorem fldK_take (l : Flds) (k : Nat) (h : k < l.length) : fldK (l.take (k + 1)) = fldK (l.take k) ++ [lowS l[k].1] := by
  unfold fldK
  rw [List.take_succ_eq_append_getElem h, List.map_append]; rfl
theorem staK_len (l : List Msg) : (staK l).length ≤ l.length := List.length_filterMap_le _ _
theorem metK_len (l : List Msg) : (metK l).length ≤ l.length := List.length_filterMap_le _ _
theorem TalS.mono {w : World} {base a n m : Nat} {f : KyS → Nat} (h : TalS w base a n f) (hm : n ≤ m) : TalS w base a m f := by
  obtain ⟨mo, h1, h2, h3⟩ := h
  refine ⟨mo, h1, h2, ?_⟩
  rcases h3 with h3 | ⟨mb, D, e, h4, h5, h6, h7⟩
  · exact .inl h3
  · exact .inr ⟨mb, D, e, h4, h5, h6.mono hm, h7⟩
theorem txt_ne {s : ByteArray} (h : s ≠ ⟨#[]⟩) : s.toList.isEmpty = false := by
  rw [ByteArray.toList_eq]
  cases e : s.data.toList with
  | nil => exact absurd (bytes_eq_of_list (b := ⟨#[]⟩) e) h
  | cons a r => rfl
theorem decB_size2 (n : Int) (hn : -9223372036854775808 ≤ n ∧ n ≤ 9223372036854775807) : (decB n).size ≤ 101 := by
  have h := decB_size n hn
  unfold decB
  split
  · rw [ByteArray.size_append]
    show 1 + _ ≤ 101
    omega
  · omega
theorem cnt_start : (fun _ => 0 : KyS → Nat) = cntK [] := rfl

set_option maxRecDepth 100000 in
set_option maxHeartbeats 3200000 in
theorem statuses_any (w : World) (x : Option Addr) (n c : Nat) (l : List Msg) (h : MsgsAt w x n l) (hn : n ≤ 60) :
    Calls Try.prog 64 #[.slice x n c] w (CntPost w (staK l)) := by
  have hl := h.len
  subst hl
  have HA := Lib.hid h
  clear h
  go_enter Try.func64, Try.ntmps64
  go_wp2_with fail
  go_loopg [8] (l.length + 1) (fun gg s8 wr => ∃ k : Nat, k ≤ l.length ∧ l.length - k + 1 ≤ gg ∧ s8 = .int .i64 k ∧ Hid (TalS wr w.heap.size w.heap.size k (cntK (staK (l.take k)))) ∧ Hid (Below w.heap.size w wr))
  case atStart => exact ⟨0, Nat.zero_le _, Nat.le_refl _, rfl, TalS.new w w.heap.size, below_new w _⟩
  case round =>
    obtain ⟨k, hk, hgk, rfl, htl, hbe⟩ := hrel
    by_cases hkl : k < l.length
    · obtain ⟨b, o, rfl, hlt, hcl⟩ := (HA.out.below hbe.out).at_.resolve_left (by omega)
      obtain ⟨m, hm⟩ : ∃ m, m = l[k] := ⟨_, rfl⟩
      have hs := HA.out.str l[k] (List.getElem_mem hkl)
      have htk := staK_take l k hkl
      have hc := hcl k hkl
      rw [← hm] at hs htk hc
      have c0 := hc 0 (by decide)
      have c1 := hc 1 (by decide)
      have c2 := hc 2 (by decide)
      have c3 := hc 3 (by decide)
      have c4 := hc 4 (by decide)
      have c5 := hc 5 (by decide)
      have c6 := hc 6 (by decide)
      have c7 := hc 7 (by decide)
      have c8 := hc 8 (by decide)
      have c9 := hc 9 (by decide)
      have c10 := hc 10 (by decide)
      simp only [msgV, Nat.add_zero] at c0 c1 c2 c3 c4 c5 c6 c7 c8 c9 c10
      have HTK := Lib.hid htk
      have z0 := hbe.out.size
      clear hc hcl htk hm
      by_cases he : m.me = ⟨#[]⟩
      · have HKY : Hid (staK (l.take (k + 1)) = staK (l.take k) ++ [decB (m.st.tdiv 100) ++ xxB]) := by show _ = _; rw [HTK.out, if_pos he]
        have htd : -9223372036854775808 ≤ m.st.tdiv 100 ∧ m.st.tdiv 100 ≤ 9223372036854775807 := by
          have e : (m.st.tdiv 100).natAbs = m.st.natAbs / 100 := by rw [Int.natAbs_tdiv]; rfl
          omega
        have HDT := Lib.hid (fun W => dtext_any (m.st.tdiv 100) W htd)
        have HSZ := Lib.hid (decB_size2 (m.st.tdiv 100) htd)
        have jw : IntKind.i64.wrap (m.st.tdiv 100) = m.st.tdiv 100 := IntWalk.i64_in _ htd
        clear htd HTK
        go_wp2_with fail
        refine (HDT.out _).mono ?_
        rintro e w2 ⟨rfl, hb2⟩
        have HB2 := Lib.hid (grow_trans (below_new wr _) hb2)
        obtain ⟨T, hT⟩ : ∃ T, T = decB (m.st.tdiv 100) := ⟨_, rfl⟩
        have hsz := HSZ.out
        rw [← hT] at hsz HKY ⊢
        have HT2 := Lib.hid (htl.out.below (by exact HB2.out))
        have HKO : Hid (kySO (T ++ xxB)) := by show (T ++ xxB).size ≤ maxLen; rw [ByteArray.size_append]; show T.size + 2 ≤ maxLen; unfold maxLen; omega
        have js : ¬ 9223372036854775807 < T.size + 2 := by omega
        have HW2 := Lib.hid (hbe.out.trans (HB2.out.mono z0))
        clear hT hsz hb2 jw
        go_wp2_with fail
        refine (addS_any w2 w.heap.size w.heap.size k (cntK (staK (l.take k))) (T ++ xxB) 1 HT2.out HW2.out.size (Nat.le_refl _) (by omega) HKO.out (by decide)).mono ?_
        rintro e w3 ⟨rfl, ht3, hb3⟩
        have hkl2 : (staK (l.take k)).length < 1000000 := by have := staK_len (l.take k); have := List.length_take_le k l; omega
        rw [upd_cnt _ _ hkl2, ← HKY.out] at ht3
        have HT3 := Lib.hid ht3
        have HB3 := Lib.hid (HW2.out.trans hb3)
        clear ht3 hb3
        go_wp2_with fail
        go_roundg (l.length - (k + 1) + 1)
        case measure => omega
        case rel => exact ⟨k + 1, by omega, Nat.le_refl _, by go_num, HT3.out, HB3.out⟩
      · have HKY : Hid (staK (l.take (k + 1)) = staK (l.take k)) := by show _ = _; rw [HTK.out, if_neg he, List.append_nil]
        have he2 : m.me.toList.isEmpty = false := txt_ne he
        clear HTK he
        go_wp2_with fail
        have HT3 : Hid (TalS (wr.alloc (.cells (msgV m) 73)) w.heap.size w.heap.size (k + 1) (cntK (staK (l.take (k + 1))))) := by
          show TalS _ _ _ _ _
          rw [HKY.out]
          exact (htl.out.below (below_new wr _)).mono (by omega)
        have HB3 : Hid (Below w.heap.size w (wr.alloc (.cells (msgV m) 73))) := hbe.out.alloc z0 _
        go_roundg (l.length - (k + 1) + 1)
        case measure => omega
        case rel => exact ⟨k + 1, by omega, Nat.le_refl _, by go_num, HT3.out, HB3.out⟩
    · obtain rfl : l.length = k := by omega
      have ht9 := htl.out
      rw [List.take_length] at ht9
      have HT9 := Lib.hid ht9
      clear ht9
      go_wp2_with fail
      refine (trows_any wr w.heap.size l.length w.heap.size (cntK (staK l)) (by omega) HT9.out).mono ?_
      rintro e w3 ⟨v, xs, L, rfl, hir, hst, hown, hb3⟩
      have HCR := Lib.hid (CountR.of_rows hir hst)
      have HOW := Lib.hid (own_mono hown hbe.out.size)
      have HB3 := Lib.hid (hbe.out.trans (hb3.mono hbe.out.size))
      clear hir hst hown hb3
      go_wp2_with fail
      go_ret
      exact ⟨v, L, rfl, HCR.out, HOW.out, HB3.out⟩
end Go.Proofs.Ytdpohibgipkhnaa
namespace Go.Proofs.Ytdpohibgipkhnaa
open Go.RowKit Go.Proofs.Ytdpohibgipkhnaa.Oct

def lvM (s : Int) : Msg := ⟨⟨#[]⟩, ⟨#[]⟩, 0, s, ⟨#[]⟩, none, 0, 0, 0, 0, ⟨#[]⟩, none, 0, 0, none, 0, 0⟩
def lvMs : List Msg := [lvM 200, lvM 404, lvM 204]
def x2 : ByteArray := ⟨#[50, 120, 120]⟩
def x4 : ByteArray := ⟨#[52, 120, 120]⟩
theorem lvMs_k : staK lvMs = [x2, x4, x2] := by
  have h2 : decB ((200 : Int).tdiv 100) ++ xxB = x2 := by
    show decB 2 ++ xxB = x2
    unfold decB
    rw [if_neg (by decide), show (2 : Int).natAbs = 2 from rfl, decL_lt (by decide)]
    rfl
  have h4 : decB ((404 : Int).tdiv 100) ++ xxB = x4 := by
    show decB 4 ++ xxB = x4
    unfold decB
    rw [if_neg (by decide), show (4 : Int).natAbs = 4 from rfl, decL_lt (by decide)]
    rfl
  have h5 : decB ((204 : Int).tdiv 100) ++ xxB = x2 := h2
  unfold staK lvMs
  simp only [List.filterMap_cons, List.filterMap_nil, lvM, if_true, h2, h4, h5]
theorem x24 : x2 ≠ x4 := by decide
theorem lvMs_c : CountR [x2, x4, x2] [(x2, 2), (x4, 1)] where
  ord := List.pairwise_cons.2 ⟨fun p hp => by rw [List.mem_singleton] at hp; subst hp; exact .inl (by decide), List.pairwise_cons.2 ⟨fun p hp => by simp at hp, List.Pairwise.nil⟩⟩
  mem := fun p => by
    obtain ⟨k, n⟩ := p
    by_cases h2 : k = x2
    · subst h2
      have hc : cntK [x2, x4, x2] x2 = 2 := by decide
      rw [hc]
      constructor
      · intro h
        rcases List.mem_cons.1 h with h | h
        · injection h with _ h; exact ⟨by decide, h⟩
        · rw [List.mem_singleton] at h; injection h with h; exact absurd h x24
      · rintro ⟨_, h⟩
        have h' : n = 2 := h
        rw [h']; exact List.mem_cons_self
    · by_cases h4 : k = x4
      · subst h4
        have hc : cntK [x2, x4, x2] x4 = 1 := by decide
        rw [hc]
        constructor
        · intro h
          rcases List.mem_cons.1 h with h | h
          · injection h with h; exact absurd h.symm x24
          · rw [List.mem_singleton] at h; injection h with _ h; exact ⟨by decide, h⟩
        · rintro ⟨_, h⟩
          have h' : n = 1 := h
          rw [h']; exact List.mem_cons_of_mem _ List.mem_cons_self
      · constructor
        · intro h
          rcases List.mem_cons.1 h with h | h
          · injection h with h; exact absurd h h2
          · rw [List.mem_singleton] at h; injection h with h; exact absurd h h4
        · rintro ⟨h, _⟩
          have := cntK_mem.1 h
          simp at this
          rcases this with e | e | e
          · exact absurd e h2
          · exact absurd e h4
          · exact absurd e h2
def lvCs : Array Value := msgV (lvM 200) ++ msgV (lvM 404) ++ msgV (lvM 204)
theorem lv_msgs (w : World) : MsgsAt (w.alloc (.cells lvCs 73)) (some ⟨w.heap.size, 0, none⟩) 3 lvMs := by
  refine ⟨rfl, by decide, fun m hm => ?_, .inr ⟨w.heap.size, 0, rfl, by simp, fun i hi j hj => ?_⟩⟩
  · have : m = lvM 200 ∨ m = lvM 404 ∨ m = lvM 204 := by simpa [lvMs] using hm
    rcases this with rfl | rfl | rfl <;> decide
  · rw [(Blk.new w 73 lvCs).cell]
    have hi3 : i < 3 := hi
    have h1 : i = 0 ∨ i = 1 ∨ i = 2 := by omega
    have h2 : j = 0 ∨ j = 1 ∨ j = 2 ∨ j = 3 ∨ j = 4 ∨ j = 5 ∨ j = 6 ∨ j = 7 ∨ j = 8 ∨ j = 9 ∨ j = 10 := by omega
    rcases h1 with rfl | rfl | rfl <;> rcases h2 with rfl | rfl | rfl | rfl | rfl | rfl | rfl | rfl | rfl | rfl | rfl <;> rfl

set_option maxRecDepth 100000 in
set_option maxHeartbeats 1600000 in
theorem tlives_any (w : World) : Calls Try.prog 55 #[] w fun e w' => e = .returned (.bool true) ∧ Below w.heap.size w w' := by
  have HS := Lib.hid (statuses_any _ _ 3 3 lvMs (lv_msgs w) (by decide))
  go_enter Try.func55, Try.ntmps55
  go_wp2_with fail
  refine HS.out.mono ?_
  rintro e w1 ⟨v, L, rfl, hcr, hown, hb1⟩
  rw [lvMs_k] at hcr
  obtain rfl : L = [(x2, 2), (x4, 1)] := hcr.unique lvMs_c
  obtain ⟨g, cap, rfl, _, hglt⟩ := hown.form (by decide)
  have c0 := hown.cellAt 0 (by decide)
  have c1 := hown.cellAt 1 (by decide)
  have c2 := hown.cellAt 2 (by decide)
  have c3 := hown.cellAt 3 (by decide)
  simp only [elVR_cons, List.getElem?_cons_zero, List.getElem?_cons_succ, x2, x4] at c0 c1 c2 c3
  have HB1 := Lib.hid ((below_new w (.cells lvCs 73)).trans (hb1.mono (by simp)))
  clear hcr hown hb1
  go_wp2_with fail
  go_ret
  exact ⟨rfl, HB1.out⟩
end Go.Proofs.Ytdpohibgipkhnaa
namespace Go.Proofs.Ytdpohibgipkhnaa
open Go.RowKit Go.Proofs.Ytdpohibgipkhnaa.Oct Go.Proofs.Ytdpohibgipkhnaa.St

/-- How much rows of this name tell together. -/
def mS : List ElR → ByteArray → Int
  | [], _ => 0
  | p :: l, k => (if p.1 = k then p.2 else 0) + mS l k
theorem mS_append (l m : List ElR) (k : ByteArray) : mS (l ++ m) k = mS l k + mS m k := by
  induction l with
  | nil => simp [mS]
  | cons p l ih => simp only [List.cons_append, mS, ih]; omega
theorem mS_take (l : List ElR) (j : Nat) (hj : j < l.length) (k : ByteArray) : mS (l.take (j + 1)) k = mS (l.take j) k + (if l[j].1 = k then l[j].2 else 0) := by
  rw [List.take_succ_eq_append_getElem hj, mS_append]
  simp [mS]
theorem mS_none (l : List ElR) (k : ByteArray) (h : ∀ p ∈ l, p.1 ≠ k) : mS l k = 0 := by
  induction l with
  | nil => rfl
  | cons p l ih =>
    simp only [mS, if_neg (h p List.mem_cons_self), ih (fun q hq => h q (List.mem_cons_of_mem _ hq))]
    rfl
theorem mS_one (l : List ElR) (h : (l.map (·.1)).Nodup) (p : ElR) (hp : p ∈ l) : mS l p.1 = p.2 := by
  induction l with
  | nil => cases hp
  | cons q l ih =>
    rw [List.map_cons, List.nodup_cons] at h
    rcases List.mem_cons.1 hp with rfl | hp
    · simp only [mS, if_pos rfl, mS_none l p.1 (fun r hr e => h.1 (e ▸ List.mem_map.2 ⟨r, hr, rfl⟩))]
      simp
    · have hne : q.1 ≠ p.1 := fun e => h.1 (e ▸ List.mem_map.2 ⟨p, hp, rfl⟩)
      simp only [mS, if_neg hne, ih h.2 hp]
      omega
theorem CountR.nodup {ks : List ByteArray} {L : List ElR} (h : CountR ks L) : (L.map (·.1)).Nodup := by
  refine List.pairwise_map.2 (h.ord.imp_of_mem fun {x y} hx hy hxy e => ?_)
  have h2 := (h.mem x).1 hx
  have h3 := (h.mem y).1 hy
  rw [e] at h2
  rcases hxy with h4 | ⟨_, h4⟩
  · omega
  · rw [e] at h4; exact List.lt_irrefl _ h4
theorem CountR.mS {ks : List ByteArray} {L : List ElR} (h : CountR ks L) (k : ByteArray) : mS L k = (cntK ks k : Int) := by
  by_cases hk : 0 < cntK ks k
  · have hp : (k, (cntK ks k : Int)) ∈ L := (h.mem _).2 ⟨hk, rfl⟩
    exact mS_one L h.nodup _ hp
  · rw [mS_none L k (fun p hp e => hk (e ▸ ((h.mem p).1 hp).1))]
    omega
theorem cntK_append (a b : List ByteArray) (k : ByteArray) : cntK (a ++ b) k = cntK a k + cntK b k := by
  unfold cntK
  rw [List.filter_append, List.length_append]
def sumL : List ElR → Int
  | [] => 0
  | p :: l => p.2 + sumL l
theorem sumL_append (l m : List ElR) : sumL (l ++ m) = sumL l + sumL m := by
  induction l with
  | nil => simp [sumL]
  | cons p l ih => simp only [List.cons_append, sumL, ih]; omega
theorem sumL_take (l : List ElR) (j : Nat) (hj : j < l.length) : sumL (l.take (j + 1)) = sumL (l.take j) + l[j].2 := by
  rw [List.take_succ_eq_append_getElem hj, sumL_append]
  simp [sumL]
def sumC (ks : List ByteArray) : List ByteArray → Nat
  | [] => 0
  | k :: N => cntK ks k + sumC ks N
theorem sumC_nil (N : List ByteArray) : sumC [] N = 0 := by
  induction N with
  | nil => rfl
  | cons k N ih => simp only [sumC, ih]; rfl
theorem cntK_cons (k x : ByteArray) (ks : List ByteArray) : cntK (k :: ks) x = (if k = x then 1 else 0) + cntK ks x := by
  unfold cntK
  by_cases h : k = x
  · rw [List.filter_cons_of_pos (by simpa using h), if_pos h, List.length_cons]; omega
  · rw [List.filter_cons_of_neg (by simpa using h), if_neg h]; omega
theorem sumC_cons_out (k : ByteArray) (ks N : List ByteArray) (h : k ∉ N) : sumC (k :: ks) N = sumC ks N := by
  induction N with
  | nil => rfl
  | cons x N ih =>
    rw [List.mem_cons, not_or] at h
    simp only [sumC, ih h.2, cntK_cons, if_neg h.1]
    omega
theorem sumC_cons (k : ByteArray) (ks N : List ByteArray) (hn : N.Nodup) (h : k ∈ N) : sumC (k :: ks) N = sumC ks N + 1 := by
  induction N with
  | nil => cases h
  | cons x N ih =>
    rw [List.nodup_cons] at hn
    rcases List.mem_cons.1 h with rfl | h
    · simp only [sumC, sumC_cons_out _ ks N hn.1, cntK_cons]
      simp
      omega
    · have hne : k ≠ x := fun e => hn.1 (e ▸ h)
      simp only [sumC, ih hn.2 h, cntK_cons, if_neg hne]
      omega
theorem sumC_all (ks N : List ByteArray) (hn : N.Nodup) (h : ∀ k ∈ ks, k ∈ N) : sumC ks N = ks.length := by
  induction ks with
  | nil => exact sumC_nil N
  | cons k ks ih =>
    rw [sumC_cons k ks N hn (h k List.mem_cons_self), ih (fun x hx => h x (List.mem_cons_of_mem _ hx)), List.length_cons]
theorem sumL_cnt (ks : List ByteArray) (L : List ElR) (h : ∀ p ∈ L, p.2 = (cntK ks p.1 : Int)) : sumL L = (sumC ks (L.map (·.1)) : Int) := by
  induction L with
  | nil => rfl
  | cons p L ih =>
    simp only [List.map_cons, sumL, sumC, ih (fun q hq => h q (List.mem_cons_of_mem _ hq)), h p List.mem_cons_self]
    omega
theorem CountR.sum {ks : List ByteArray} {L : List ElR} (h : CountR ks L) : sumL L = (ks.length : Int) := by
  rw [sumL_cnt ks L (fun p hp => ((h.mem p).1 hp).2), sumC_all ks _ h.nodup]
  intro k hk
  exact List.mem_map.2 ⟨(k, (cntK ks k : Int)), (h.mem _).2 ⟨cntK_mem.2 hk, rfl⟩, rfl⟩
theorem CountR.rng {ks : List ByteArray} {L : List ElR} (h : CountR ks L) : ∀ p ∈ L, 1 ≤ p.2 ∧ p.2 ≤ (ks.length : Int) := by
  intro p hp
  obtain ⟨h1, h2⟩ := (h.mem p).1 hp
  have := cntK_le ks p.1
  omega
theorem CountR.mS_rng {ks : List ByteArray} {L : List ElR} (h : CountR ks L) (k : ByteArray) (j : Nat) : 0 ≤ Go.Proofs.Ytdpohibgipkhnaa.mS (L.take j) k ∧ Go.Proofs.Ytdpohibgipkhnaa.mS (L.take j) k ≤ (ks.length : Int) := by
  have pos : ∀ M : List ElR, (∀ p ∈ M, 1 ≤ p.2) → 0 ≤ Go.Proofs.Ytdpohibgipkhnaa.mS M k := by
    intro M
    induction M with
    | nil => intro _; exact Int.le_refl _
    | cons p M ih =>
      intro hM
      have h1 := hM p List.mem_cons_self
      have h2 := ih (fun q hq => hM q (List.mem_cons_of_mem _ hq))
      simp only [Go.Proofs.Ytdpohibgipkhnaa.mS]
      split <;> omega
  have h1 := pos (L.take j) (fun p hp => (h.rng p (List.mem_of_mem_take hp)).1)
  have h2 := pos (L.drop j) (fun p hp => (h.rng p (List.mem_of_mem_drop hp)).1)
  have h3 := h.mS k
  rw [← List.take_append_drop j L, mS_append] at h3
  have := cntK_le ks k
  exact ⟨h1, by omega⟩
theorem sumL_pos (M : List ElR) (h : ∀ p ∈ M, 1 ≤ p.2) : 0 ≤ sumL M := by
  induction M with
  | nil => exact Int.le_refl _
  | cons p M ih =>
    have h1 := h p List.mem_cons_self
    have h2 := ih (fun q hq => h q (List.mem_cons_of_mem _ hq))
    simp only [sumL]
    omega
theorem CountR.sum_rng {ks : List ByteArray} {L : List ElR} (h : CountR ks L) (j : Nat) : 0 ≤ sumL (L.take j) ∧ sumL (L.take j) ≤ (ks.length : Int) := by
  have h1 := sumL_pos (L.take j) (fun p hp => (h.rng p (List.mem_of_mem_take hp)).1)
  have h2 := sumL_pos (L.drop j) (fun p hp => (h.rng p (List.mem_of_mem_drop hp)).1)
  have h3 := h.sum
  rw [← List.take_append_drop j L, sumL_append] at h3
  exact ⟨h1, by omega⟩
theorem mS_pos (M : List ElR) (k : ByteArray) (h : ∀ p ∈ M, 1 ≤ p.2) : 0 ≤ mS M k := by
  induction M with
  | nil => exact Int.le_refl _
  | cons p M ih =>
    have h1 := h p List.mem_cons_self
    have h2 := ih (fun q hq => h q (List.mem_cons_of_mem _ hq))
    simp only [mS]
    split <;> omega
/-- The rows of two lists, one behind the other. -/
theorem two_rows {a b : List ByteArray} {A B : List ElR} (ha : CountR a A) (hb : CountR b B) :
    (A ++ B).length ≤ a.length + b.length ∧ (∀ p ∈ A ++ B, 1 ≤ p.2 ∧ p.2 ≤ (a.length : Int) + b.length) ∧ (∀ k, mS (A ++ B) k = (cntK (a ++ b) k : Int)) ∧ ∀ k j, 0 ≤ mS ((A ++ B).take j) k ∧ mS ((A ++ B).take j) k ≤ (a.length : Int) + b.length := by
  have hr : ∀ p ∈ A ++ B, 1 ≤ p.2 ∧ p.2 ≤ (a.length : Int) + b.length := by
    intro p hp
    rcases List.mem_append.1 hp with h | h
    · have := ha.rng p h; omega
    · have := hb.rng p h; omega
  have hm : ∀ k, mS (A ++ B) k = (cntK (a ++ b) k : Int) := by
    intro k
    rw [mS_append, ha.mS, hb.mS, cntK_append]
    omega
  refine ⟨?_, hr, hm, fun k j => ?_⟩
  · have h1 := ha.len; have h2 := hb.len; rw [List.length_append]; omega
  · have h1 := mS_pos ((A ++ B).take j) k (fun p hp => (hr p (List.mem_of_mem_take hp)).1)
    have h2 := mS_pos ((A ++ B).drop j) k (fun p hp => (hr p (List.mem_of_mem_drop hp)).1)
    have h3 := hm k
    rw [← List.take_append_drop j (A ++ B), mS_append] at h3
    have h4 := cntK_le (a ++ b) k
    rw [List.length_append] at h4
    exact ⟨h1, by omega⟩
theorem fldK_append (a b : Flds) : fldK (a ++ b) = fldK a ++ fldK b := by unfold fldK; rw [List.map_append]

/-- Rows that lie at x. -/
structure RwsAt (w : World) (x : Option Addr) (n : Nat) (l : List ElR) : Prop where
  len : l.length = n
  at_ : n = 0 ∨ ∃ b o, x = some ⟨b, o, none⟩ ∧ b < w.heap.size ∧ ∀ i (h : i < l.length), w.cell? ⟨b, o + i * 2, none⟩ = some (.string l[i].1) ∧ w.cell? ⟨b, o + i * 2 + 1, none⟩ = some (.int .i64 l[i].2)
theorem RwsAt.below {w w' : World} {x : Option Addr} {n : Nat} {l : List ElR} (h : RwsAt w x n l) (hb : Below w.heap.size w w') : RwsAt w' x n l := by
  refine ⟨h.len, ?_⟩
  rcases h.at_ with h4 | ⟨b, o, hx, hlt, hc⟩
  · exact .inl h4
  · exact .inr ⟨b, o, hx, Nat.lt_of_lt_of_le hlt hb.size, fun i hi => ⟨(hb.cell (p := ⟨b, o + i * 2, none⟩) hlt).trans (hc i hi).1, (hb.cell (p := ⟨b, o + i * 2 + 1, none⟩) hlt).trans (hc i hi).2⟩⟩
theorem RwsAt.get {w : World} {x : Option Addr} {n : Nat} {l : List ElR} (h : RwsAt w x n l) (i : Nat) (hi : i < n) :
    ∃ b o p, x = some ⟨b, o, none⟩ ∧ b < w.heap.size ∧ (∃ hl : i < l.length, p = l[i]) ∧ w.cell? ⟨b, o + i * 2, none⟩ = some (.string p.1) ∧ w.cell? ⟨b, o + i * 2 + 1, none⟩ = some (.int .i64 p.2) := by
  obtain ⟨b, o, hx, hlt, hc⟩ := h.at_.resolve_left (by omega)
  have hl : i < l.length := by rw [h.len]; exact hi
  have := hc i hl
  exact ⟨b, o, _, hx, hlt, ⟨hl, rfl⟩, this.1, this.2⟩
theorem own_rws {w : World} {B : Nat} {v : Value} {l : List ElR} (ho : w.ownsRow B 65 2 v l.length (elVR l)) : ∃ x c, v = .slice x l.length c ∧ l.length ≤ c ∧ RwsAt w x l.length l := by
  rcases ho.2 with ⟨rfl, h0⟩ | ⟨g, cap, cur, rfl, hg, hh, hcap, _⟩
  · exact ⟨none, 0, by rw [h0], by omega, rfl, .inl h0⟩
  · refine ⟨_, cap, rfl, hcap, rfl, ?_⟩
    obtain ⟨rest, hd, _⟩ := datR_of_own ho
    have hlt : g < w.heap.size := (ho.lt g rfl).2
    refine .inr ⟨g, 0, rfl, hlt, fun i hi => ?_⟩
    have := hd.at_ i l[i] (List.getElem?_eq_getElem hi)
    simpa using this
theorem RwsAt.reads {w : World} {x : Option Addr} {n : Nat} {l : List ElR} (h : RwsAt w x n l) : Reads w w.heap.size 2 x n (elVR l) := by
  refine ⟨by rw [elVR_length, h.len], fun hn => ?_⟩
  obtain ⟨b, o, hx, hlt, hc⟩ := h.at_.resolve_left (by omega)
  refine ⟨_, hx, hlt, fun j u hu => ?_⟩
  have hj : j < l.length * 2 := by have := (List.getElem?_eq_some_iff.1 hu).1; rwa [elVR_length] at this
  have hi : j / 2 < l.length := by omega
  have h2 := elVR_x l (j / 2) l[j / 2] (List.getElem?_eq_getElem hi)
  rw [Addr.add_lit]
  rcases Nat.mod_two_eq_zero_or_one j with hm | hm
  · have e : j = j / 2 * 2 := by omega
    rw [← e, hu] at h2
    rw [Option.some.inj h2.1]
    have := (hc _ hi).1
    rwa [← e] at this
  · have e : j = j / 2 * 2 + 1 := by omega
    rw [← e, hu] at h2
    rw [Option.some.inj h2.2]
    have := (hc _ hi).2
    rwa [Nat.add_assoc, ← e] at this
theorem row_one (l : List ElR) : ∀ u ∈ elVR l, u.oneCell' = true := by
  intro u hu
  obtain ⟨p, _, hp⟩ := List.mem_flatMap.1 hu
  exact one_row p.1 p.2 u hp
end Go.Proofs.Ytdpohibgipkhnaa
namespace Go.Proofs.Ytdpohibgipkhnaa
open Go.RowKit Go.Proofs.Ytdpohibgipkhnaa.Oct

set_option maxRecDepth 100000 in
set_option maxHeartbeats 3200000 in
theorem methods_any (w : World) (x : Option Addr) (n c : Nat) (l : List Msg) (h : MsgsAt w x n l) (hn : n ≤ 60) :
    Calls Try.prog 62 #[.slice x n c] w (CntPost w (metK l)) := by
  have hl := h.len
  subst hl
  have HA := Lib.hid h
  clear h
  go_enter Try.func62, Try.ntmps62
  go_wp2_with fail
  go_loopg [8] (l.length + 1) (fun gg s8 wr => ∃ k : Nat, k ≤ l.length ∧ l.length - k + 1 ≤ gg ∧ s8 = .int .i64 k ∧ Hid (TalS wr w.heap.size w.heap.size k (cntK (metK (l.take k)))) ∧ Hid (Below w.heap.size w wr))
  case atStart => exact ⟨0, Nat.zero_le _, Nat.le_refl _, rfl, TalS.new w w.heap.size, below_new w _⟩
  case round =>
    obtain ⟨k, hk, hgk, rfl, htl, hbe⟩ := hrel
    by_cases hkl : k < l.length
    · obtain ⟨b, o, rfl, hlt, hcl⟩ := (HA.out.below hbe.out).at_.resolve_left (by omega)
      obtain ⟨m, hm⟩ : ∃ m, m = l[k] := ⟨_, rfl⟩
      have hs := HA.out.str l[k] (List.getElem_mem hkl)
      have htk := metK_take l k hkl
      have hc := hcl k hkl
      rw [← hm] at hs htk hc
      have c0 := hc 0 (by decide)
      have c1 := hc 1 (by decide)
      have c2 := hc 2 (by decide)
      have c3 := hc 3 (by decide)
      have c4 := hc 4 (by decide)
      have c5 := hc 5 (by decide)
      have c6 := hc 6 (by decide)
      have c7 := hc 7 (by decide)
      have c8 := hc 8 (by decide)
      have c9 := hc 9 (by decide)
      have c10 := hc 10 (by decide)
      simp only [msgV, Nat.add_zero] at c0 c1 c2 c3 c4 c5 c6 c7 c8 c9 c10
      have HTK := Lib.hid htk
      have z0 := hbe.out.size
      clear hc hcl htk hm
      by_cases he : m.me = ⟨#[]⟩
      · have HKY : Hid (metK (l.take (k + 1)) = metK (l.take k)) := by show _ = _; rw [HTK.out, if_pos he, List.append_nil]
        have HT3 : Hid (∀ W, Below wr.heap.size wr W → TalS W w.heap.size w.heap.size (k + 1) (cntK (metK (l.take (k + 1))))) := fun W hW => by
          rw [HKY.out]
          exact (htl.out.below hW).mono (by omega)
        clear HTK
        go_wp2_with fail
        go_roundg (l.length - (k + 1) + 1)
        case measure => omega
        case rel => exact ⟨k + 1, by omega, Nat.le_refl _, by go_num, HT3.out _ (below_new wr _), hbe.out.alloc z0 _⟩
      · have HKY : Hid (metK (l.take (k + 1)) = metK (l.take k) ++ [m.me]) := by show _ = _; rw [HTK.out, if_neg he]
        have he2 : m.me.toList.isEmpty = false := txt_ne he
        have HKO : Hid (kySO m.me) := by show m.me.size ≤ maxLen; unfold maxLen; omega
        have HT2 := Lib.hid (htl.out.below (below_new wr (.cells (msgV m) 73)))
        have HW2 : Hid (Below w.heap.size w (wr.alloc (.cells (msgV m) 73))) := hbe.out.alloc z0 _
        clear HTK he
        go_wp2_with fail
        refine (addS_any _ w.heap.size w.heap.size k (cntK (metK (l.take k))) m.me 1 HT2.out HW2.out.size (Nat.le_refl _) (by omega) HKO.out (by decide)).mono ?_
        rintro e w3 ⟨rfl, ht3, hb3⟩
        have hkl2 : (metK (l.take k)).length < 1000000 := by have := metK_len (l.take k); have := List.length_take_le k l; omega
        rw [upd_cnt _ _ hkl2, ← HKY.out] at ht3
        have HT3 := Lib.hid ht3
        have HB3 := Lib.hid (HW2.out.trans hb3)
        clear ht3 hb3
        go_wp2_with fail
        go_roundg (l.length - (k + 1) + 1)
        case measure => omega
        case rel => exact ⟨k + 1, by omega, Nat.le_refl _, by go_num, HT3.out, HB3.out⟩
    · obtain rfl : l.length = k := by omega
      have ht9 := htl.out
      rw [List.take_length] at ht9
      have HT9 := Lib.hid ht9
      clear ht9
      go_wp2_with fail
      refine (trows_any wr w.heap.size l.length w.heap.size (cntK (metK l)) (by omega) HT9.out).mono ?_
      rintro e w3 ⟨v, xs, L, rfl, hir, hst, hown, hb3⟩
      have HCR := Lib.hid (CountR.of_rows hir hst)
      have HOW := Lib.hid (own_mono hown hbe.out.size)
      have HB3 := Lib.hid (hbe.out.trans (hb3.mono hbe.out.size))
      clear hir hst hown hb3
      go_wp2_with fail
      go_ret
      exact ⟨v, L, rfl, HCR.out, HOW.out, HB3.out⟩
set_option maxRecDepth 100000 in
set_option maxHeartbeats 3200000 in
theorem tfields_any (w : World) (x : Option Addr) (n c : Nat) (l : Flds) (h : FldsAt w x n l) (hn : n ≤ 80) :
    Calls Try.prog 59 #[.slice x n c] w (CntPost w (fldK l)) := by
  have hl := h.len
  subst hl
  have HA := Lib.hid h
  clear h
  go_enter Try.func59, Try.ntmps59
  go_wp2_with fail
  go_loopg [8] (l.length + 1) (fun gg s8 wr => ∃ k : Nat, k ≤ l.length ∧ l.length - k + 1 ≤ gg ∧ s8 = .int .i64 k ∧ Hid (TalS wr w.heap.size w.heap.size k (cntK (fldK (l.take k)))) ∧ Hid (Below w.heap.size w wr))
  case atStart => exact ⟨0, Nat.zero_le _, Nat.le_refl _, rfl, TalS.new w w.heap.size, below_new w _⟩
  case round =>
    obtain ⟨k, hk, hgk, rfl, htl, hbe⟩ := hrel
    by_cases hkl : k < l.length
    · obtain ⟨b, o, p, rfl, hl2, hp, hc1, hc2, hs1, hs2⟩ := (HA.out.below hbe.out).get k hkl
      obtain ⟨p1, p2⟩ := p
      simp only at hc1 hc2 hs1 hs2
      have htk := fldK_take l k hkl
      rw [← hp] at htk
      have HKY : Hid (fldK (l.take (k + 1)) = fldK (l.take k) ++ [lowS p1]) := htk
      have HKO : Hid (kySO (lowS p1)) := by show (lowS p1).size ≤ maxLen; rw [lowS_size]; unfold maxLen; omega
      have z0 := hbe.out.size
      clear htk hp
      go_wp2_with fail
      refine (lowerS_any p1 _ hs1).mono ?_
      rintro e w2 ⟨rfl, hb2⟩
      have HB2 := Lib.hid (grow_trans (below_new wr _) hb2)
      have HT2 := Lib.hid (htl.out.below (by exact HB2.out))
      have HW2 := Lib.hid (hbe.out.trans (HB2.out.mono z0))
      clear hb2
      go_wp2_with fail
      refine (addS_any w2 w.heap.size w.heap.size k (cntK (fldK (l.take k))) (lowS p1) 1 HT2.out HW2.out.size (Nat.le_refl _) (by omega) HKO.out (by decide)).mono ?_
      rintro e w3 ⟨rfl, ht3, hb3⟩
      have hkl2 : (fldK (l.take k)).length < 1000000 := by unfold fldK; rw [List.length_map]; have := List.length_take_le k l; omega
      rw [upd_cnt _ _ hkl2, ← HKY.out] at ht3
      have HT3 := Lib.hid ht3
      have HB3 := Lib.hid (HW2.out.trans hb3)
      clear ht3 hb3
      go_wp2_with fail
      go_roundg (l.length - (k + 1) + 1)
      case measure => omega
      case rel => exact ⟨k + 1, by omega, Nat.le_refl _, by go_num, HT3.out, HB3.out⟩
    · obtain rfl : l.length = k := by omega
      have ht9 := htl.out
      rw [List.take_length] at ht9
      have HT9 := Lib.hid ht9
      clear ht9
      go_wp2_with fail
      refine (trows_any wr w.heap.size l.length w.heap.size (cntK (fldK l)) (by omega) HT9.out).mono ?_
      rintro e w3 ⟨v, xs, L, rfl, hir, hst, hown, hb3⟩
      have HCR := Lib.hid (CountR.of_rows hir hst)
      have HOW := Lib.hid (own_mono hown hbe.out.size)
      have HB3 := Lib.hid (hbe.out.trans (hb3.mono hbe.out.size))
      clear hir hst hown hb3
      go_wp2_with fail
      go_ret
      exact ⟨v, L, rfl, HCR.out, HOW.out, HB3.out⟩
end Go.Proofs.Ytdpohibgipkhnaa
