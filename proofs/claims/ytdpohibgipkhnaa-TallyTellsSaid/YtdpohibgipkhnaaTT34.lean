/-
  PLAIN, for TallyTells: the document's count, one by one the best that is left.
  THE WALK of the document's Count.
  THE WALKS of the document's Fields and Heads.
  THE WALK of the law TallyTells.
  THE WALK of the law TallyTells, joined.
-/
import Derived.Test.YtdpohibgipkhnaaTT33
import Derived.Test.YtdpohibgipkhnaaTT30
import Derived.Test.YtdpohibgipkhnaaTT16
import Derived.Test.YtdpohibgipkhnaaTT27
import Derived.Deep.RegionHeld3
set_option linter.unusedVariables false
set_option linter.unusedSimpArgs false
namespace Go.Proofs.Ytdpohibgipkhnaa
open Go.RowKit Go.Proofs.Ytdpohibgipkhnaa.Oct

/-- O is told, R is left. -/
structure LeftI (ks : List ByteArray) (O : List ElR) (R : List ByteArray) : Prop where
  ord : O.Pairwise RwLt
  val : ∀ p ∈ O, 0 < cntK ks p.1 ∧ p.2 = (cntK ks p.1 : Int)
  out : ∀ p ∈ O, cntK R p.1 = 0
  rest : ∀ k, (∀ p ∈ O, p.1 ≠ k) → cntK R k = cntK ks k
  far : ∀ p ∈ O, ∀ k ∈ R, RwLt p (k, (cntK R k : Int))
theorem LeftI.start (ks : List ByteArray) : LeftI ks [] ks :=
  ⟨List.Pairwise.nil, fun p h => (by cases h), fun p h => (by cases h), fun _ _ => rfl, fun p h => (by cases h)⟩
theorem LeftI.stop {ks : List ByteArray} {O : List ElR} (h : LeftI ks O []) : CountR ks O := by
  refine ⟨h.ord, fun p => ⟨h.val p, fun ⟨h1, h2⟩ => ?_⟩⟩
  by_cases hq : ∃ q ∈ O, q.1 = p.1
  · obtain ⟨q, hqO, hq1⟩ := hq
    have h3 := (h.val q hqO).2
    rw [hq1, ← h2] at h3
    have : q = p := Prod.ext hq1 h3
    exact this ▸ hqO
  · have h3 := h.rest p.1 (fun q hq1 e => hq ⟨q, hq1, e⟩)
    have h4 : cntK [] p.1 = 0 := rfl
    omega
theorem cntK_filter (R : List ByteArray) (b k : ByteArray) : cntK (R.filter fun x => decide (x ≠ b)) k = if k = b then 0 else cntK R k := by
  unfold cntK
  rw [List.filter_filter]
  by_cases h : k = b
  · subst h
    rw [if_pos rfl, List.length_eq_zero_iff, List.filter_eq_nil_iff]
    intro x _
    simp
  · rw [if_neg h]
    congr 1
    refine List.filter_congr fun x _ => ?_
    by_cases hx : x = k
    · subst hx; simp [h]
    · simp [hx]
theorem LeftI.step {ks : List ByteArray} {O : List ElR} {R : List ByteArray} {b : ByteArray} {many : Nat} (h : LeftI ks O R) (hb : b ∈ R) (hm : many = cntK R b) (hbest : ∀ k ∈ R, k = b ∨ RwLt (b, (many : Int)) (k, (cntK R k : Int))) :
    LeftI ks (O ++ [(b, (many : Int))]) (R.filter fun x => decide (x ≠ b)) := by
  subst hm
  have hpos : 0 < cntK R b := cntK_mem.2 hb
  have hno : ∀ p ∈ O, p.1 ≠ b := fun p hp e => by
    have := h.out p hp
    rw [e] at this
    omega
  have hr := h.rest b hno
  refine ⟨?_, ?_, ?_, ?_, ?_⟩
  · refine List.pairwise_append.2 ⟨h.ord, List.pairwise_singleton _ _, fun p hp q hq => ?_⟩
    rw [List.mem_singleton] at hq
    subst hq
    exact h.far p hp b hb
  · intro p hp
    rcases List.mem_append.1 hp with hp | hp
    · exact h.val p hp
    · rw [List.mem_singleton] at hp
      subst hp
      exact ⟨by simp only; omega, by simp only; omega⟩
  · intro p hp
    rw [cntK_filter]
    rcases List.mem_append.1 hp with hp | hp
    · rw [h.out p hp]; split <;> rfl
    · rw [List.mem_singleton] at hp
      subst hp
      rw [if_pos rfl]
  · intro k hk
    have hkb : k ≠ b := fun e => hk _ (List.mem_append_right _ (List.mem_singleton.2 rfl)) e.symm
    rw [cntK_filter, if_neg hkb]
    exact h.rest k (fun p hp => hk p (List.mem_append_left _ hp))
  · intro p hp k hk
    obtain ⟨hkR, hkb⟩ := List.mem_filter.1 hk
    have hkb2 : k ≠ b := by simpa using hkb
    rw [cntK_filter, if_neg hkb2]
    rcases List.mem_append.1 hp with hp | hp
    · exact h.far p hp k hkR
    · rw [List.mem_singleton] at hp
      subst hp
      exact (hbest k hkR).resolve_left hkb2
/-- The best of the first i. -/
def BestI (R : List ByteArray) (i : Nat) (best : ByteArray) (many : Nat) : Prop :=
  (i = 0 ∧ best = ⟨#[]⟩ ∧ many = 0) ∨ (0 < i ∧ best ∈ R ∧ many = cntK R best ∧ ∀ k ∈ R.take i, k = best ∨ RwLt (best, (many : Int)) (k, (cntK R k : Int)))
theorem BestI.take {R : List ByteArray} {i : Nat} {best : ByteArray} {many : Nat} (h : BestI R i best many) (hi : i < R.length) (hc : many < cntK R R[i] ∨ (cntK R R[i] = many ∧ R[i].data.toList < best.data.toList)) : BestI R (i + 1) R[i] (cntK R R[i]) := by
  refine .inr ⟨by omega, List.getElem_mem hi, rfl, fun k hk => ?_⟩
  rw [List.take_succ_eq_append_getElem hi] at hk
  rcases List.mem_append.1 hk with hk | hk
  · rcases h with ⟨h0, _⟩ | ⟨_, hb, hm, hall⟩
    · subst h0
      simp at hk
    · right
      have hnew : RwLt (R[i], (cntK R R[i] : Int)) (best, (many : Int)) := by
        rcases hc with h1 | ⟨h1, h2⟩
        · exact .inl (by show (many : Int) < (cntK R R[i] : Int); omega)
        · exact .inr ⟨by show (cntK R R[i] : Int) = (many : Int); omega, h2⟩
      rcases hall k hk with e | e
      · subst e
        rw [← hm]
        exact hnew
      · exact hnew.trans e
  · rw [List.mem_singleton] at hk
    exact .inl hk
theorem BestI.keep {R : List ByteArray} {i : Nat} {best : ByteArray} {many : Nat} (h : BestI R i best many) (hi : i < R.length) (hc : ¬ many < cntK R R[i]) (hc2 : ¬ (cntK R R[i] = many ∧ R[i].data.toList < best.data.toList)) : BestI R (i + 1) best many := by
  have hpos : 0 < cntK R R[i] := cntK_mem.2 (List.getElem_mem hi)
  rcases h with ⟨_, _, h0⟩ | ⟨_, hb, hm, hall⟩
  · omega
  · refine .inr ⟨by omega, hb, hm, fun k hk => ?_⟩
    rw [List.take_succ_eq_append_getElem hi] at hk
    rcases List.mem_append.1 hk with hk | hk
    · exact hall k hk
    · rw [List.mem_singleton] at hk
      subst hk
      by_cases hlt : cntK R R[i] < many
      · exact .inr (.inl (by show (cntK R R[i] : Int) < (many : Int); omega))
      · have he : cntK R R[i] = many := by omega
        have hnl : ¬ R[i].data.toList < best.data.toList := fun hl => hc2 ⟨he, hl⟩
        by_cases hne : R[i] = best
        · exact .inl hne
        · right
          refine .inr ⟨by show (many : Int) = (cntK R R[i] : Int); omega, ?_⟩
          show best.data.toList < R[i].data.toList
          rcases Std.lt_trichotomy (α := List UInt8) best.data.toList R[i].data.toList with h1 | h1 | h1
          · exact h1
          · exact absurd (ByteArray.ext (Array.toList_inj.1 h1)).symm hne
          · exact absurd h1 hnl
theorem BestI.stop {R : List ByteArray} {best : ByteArray} {many : Nat} (h : BestI R R.length best many) (hR : 0 < R.length) : best ∈ R ∧ many = cntK R best ∧ ∀ k ∈ R, k = best ∨ RwLt (best, (many : Int)) (k, (cntK R k : Int)) := by
  rcases h with ⟨h0, _⟩ | ⟨_, hb, hm, hall⟩
  · omega
  · rw [List.take_length] at hall
    exact ⟨hb, hm, hall⟩
theorem filter_lt (R : List ByteArray) (b : ByteArray) (hb : b ∈ R) : (R.filter fun x => decide (x ≠ b)).length < R.length := by
  rcases Nat.lt_or_eq_of_le (List.length_filter_le (fun x => decide (x ≠ b)) R) with h | h
  · exact h
  · have := (List.length_filter_eq_length_iff.1 h) b hb
    simp at this
theorem cntK_take (R : List ByteArray) (k : Nat) (hk : k < R.length) (x : ByteArray) : cntK (R.take (k + 1)) x = cntK (R.take k) x + (if x = R[k] then 1 else 0) := by
  rw [List.take_succ_eq_append_getElem hk, cntK_snoc]
theorem filterT (p : ByteArray → Bool) (R : List ByteArray) (k : Nat) (hk : k < R.length) : (R.take (k + 1)).filter p = (R.take k).filter p ++ (if p R[k] = true then [R[k]] else []) := by
  rw [List.take_succ_eq_append_getElem hk, List.filter_append]
  congr 1
  cases h : p R[k] <;> simp [h]
theorem StrsArg.reads {w : World} {x : Option Addr} {n : Nat} {l : List ByteArray} (h : StrsArg w x n l) : Reads w w.heap.size 1 x n (strVals l) := by
  refine ⟨by rw [strVals_length, h.1, Nat.mul_one], fun hn => ?_⟩
  obtain ⟨b, o, hx, hlt, hc⟩ := h.2.2.2.resolve_left (by omega)
  refine ⟨_, hx, hlt, fun j u hu => ?_⟩
  have hj : j < l.length := by have := (List.getElem?_eq_some_iff.1 hu).1; rwa [strVals_length] at this
  rw [Addr.add_lit, hc j hj]
  unfold strVals at hu
  rw [List.getElem?_map, List.getElem?_eq_getElem hj] at hu
  exact hu
theorem str_one (l : List ByteArray) : ∀ u ∈ strVals l, u.oneCell' = true := by
  intro u hu
  obtain ⟨s, _, rfl⟩ := List.mem_map.1 hu
  rfl
end Go.Proofs.Ytdpohibgipkhnaa
namespace Go.Proofs.Ytdpohibgipkhnaa
open Go.RowKit Go.Sort Go.Proofs.Ytdpohibgipkhnaa.Oct

theorem below_dr3 {B : Nat} {w w' : World} (h : Below B w w') : Below B w w'.drew := ⟨h.os, h.tape, h.output, h.size, h.block⟩
theorem info_rrow : (Try.prog.info? 106).map (fun i => (i.zero, i.size, i.bytes)) = some (some (.agg #[.string ⟨#[]⟩, .int .i64 0]), 2, 24) := by kernel_rfl
theorem bytesLess_iff : ∀ x y : List UInt8, Op.bytesLess x y = true ↔ x < y
  | x, [] => by cases x <;> simp [Op.bytesLess]
  | [], b :: y => by simp [Op.bytesLess]
  | a :: x, b :: y => by simp [Op.bytesLess, List.cons_lt_cons_iff, bytesLess_iff x y]
theorem less_data {a b : ByteArray} (h : Op.bytesLess a.toList b.toList = true) : a.data.toList < b.data.toList := by
  rw [bytesLess_iff, ByteArray.toList_eq, ByteArray.toList_eq] at h
  exact h
theorem nless_data {a b : ByteArray} (h : Op.bytesLess a.toList b.toList = false) : ¬ a.data.toList < b.data.toList := by
  intro hl
  rw [← ByteArray.toList_eq, ← ByteArray.toList_eq, ← bytesLess_iff, h] at hl
  cases hl
/-- What the document's count leaves. -/
def RCntPost (w : World) (ks : List ByteArray) (e : Ending) (w' : World) : Prop :=
  ∃ v L, e = .returned v ∧ CountR ks L ∧ w'.ownsRow w.heap.size 106 2 v L.length (elVR L) ∧ Below w.heap.size w w'

set_option maxRecDepth 100000 in
set_option maxHeartbeats 6400000 in
theorem rcount_any (w : World) (x : Option Addr) (n c : Nat) (ks : List ByteArray) (h : StrsArg w x n ks) (hn : n ≤ 1000) :
    Calls Try.prog 95 #[.slice x n c] w (RCntPost w ks) := by
  obtain ⟨i0, hi, hz⟩ := info_hid info_string
  obtain ⟨i1, hi1, hz1⟩ := info_hid info_rrow
  have hl := h.1
  subst hl
  have HSK := Lib.hid h.2.2.1
  have H1 : Hid (0 + ks.length ≤ maxLen) := by show _ ≤ _; unfold maxLen; omega
  have H2 : Hid ((0 + ks.length) * 16 ≤ 140737488355328) := by show _ ≤ _; omega
  have HOs := Lib.hid (str_one ks)
  have HR := Lib.hid (((h.below (below_new w (.cells #[] 106))).below (below_new _ (.cells #[] 9))).reads)
  rw [Hid, World.size_alloc, World.size_alloc] at HR
  replace HR := Lib.hid HR
  have HLit := Lib.hid (World.ownsRow_lit (base := w.heap.size + 1) (e := 9) (size := 1) (w.alloc (.cells #[] 106)) #[] 0 (by simp) (by decide) rfl)
  rw [Hid, World.size_alloc] at HLit
  replace HLit := Lib.hid HLit
  have HLo := Lib.hid (World.ownsRow_lit (base := w.heap.size) (e := 106) (size := 2) w #[] 0 (Nat.le_refl _) (by decide) rfl)
  clear h
  go_enter Try.func95, Try.ntmps95
  go_wp2_with (at_builtin; refine wpList_append_any _ rfl (.tmp 13) (.tmp 14) _ rfl (w.heap.size + 1) 9 i0 _ 1 16 Try.underlying35 hi.out hz.out.1 hz.out.2.1 hz.out.2.2 rfl (by omega) _ 0 [] (by rfl) HLit.out (w.heap.size + 1 + 1) _ ks.length c (strVals ks) rfl HR.out HOs.out H1.out H2.out (by simp) ?_; intro v3 w3 hown3 hg3 hat3; (rw [Nat.zero_add, List.nil_append] at hown3); have O3a := Lib.hid hown3; have G3 := Lib.hid hg3; clear hown3 hg3 hat3)
  obtain ⟨x3, c3, rfl, hS3⟩ := own_strs O3a.out (by omega) HSK.out
  have S3 := Lib.hid hS3
  have hb2 : Below (w.heap.size + 1) (w.alloc (.cells #[] 106)) ((w.alloc (.cells #[] 106)).alloc (.cells #[] 9)) := by have := below_new (w.alloc (.cells #[] 106)) (.cells #[] 9); simpa using this
  have B3 : Hid (Below (w.heap.size + 1) (w.alloc (.cells #[] 106)) w3) := hb2.grown G3.out (by simp) (by simp [Value.ownBlock])
  have HN3 : Hid (∀ ad, x3 = some ad → ad.block ≠ w.heap.size) := fun ad e => by
    subst e
    have := (O3a.out.lt ad.block rfl).1
    omega
  clear hS3 hb2 O3a G3
  have ho3 := own_below HLo.out (by have := B3.out; simpa using this)
  have hb3 : Below w.heap.size w w3 := (below_new w (.cells #[] 106)).trans (B3.out.mono (by omega))
  have O3 := Lib.hid ho3
  have BB3 := Lib.hid hb3
  clear ho3 hb3 HLo HLit HR B3
  go_loopg [3, 4] (ks.length + 1) (fun gg s3 s4 wr => ∃ (O : List ElR) (R : List ByteArray) (g0 c0 : Nat) (xl : Option Addr) (cl : Nat), R.length + 1 ≤ gg ∧ O.length ≤ 100000 ∧ O.length + R.length ≤ ks.length ∧ s3 = .slice (some ⟨g0, 0, none⟩) O.length c0 ∧ s4 = .slice xl R.length cl ∧ Hid (LeftI ks O R) ∧ Hid (wr.ownsRow w.heap.size 106 2 (.slice (some ⟨g0, 0, none⟩) O.length c0) O.length (elVR O)) ∧ Hid (StrsArg wr xl R.length R) ∧ Hid (∀ ad, xl = some ad → ad.block ≠ g0) ∧ Hid (∀ s ∈ R, s.size ≤ 9223372036854775807) ∧ Hid (Below w.heap.size w wr))
  case atStart => exact ⟨[], ks, _, _, _, _, Nat.le_refl _, by simp, by simp, rfl, rfl, LeftI.start ks, O3.out, S3.out, HN3.out, HSK.out, BB3.out⟩
  case round =>
    obtain ⟨O, R, g0, c0, xl, cl, hgg, hO, hOR, rfl, rfl, hLI, hOW, hST, hNE, hSZ, hBE⟩ := hrel
    by_cases hR0 : 0 < R.length
    · go_wp2_with fail
      go_loopg [5, 6, 7] (R.length + 1) (fun gg s5 s6 s7 ws => ∃ (i : Nat) (best : ByteArray) (many : Nat), i ≤ R.length ∧ R.length - i + 1 ≤ gg ∧ many ≤ R.length ∧ s5 = .string best ∧ s6 = .int .i64 many ∧ s7 = .int .i64 i ∧ Hid (BestI R i best many) ∧ Hid (Below wr.heap.size wr ws))
      case atStart => exact ⟨0, ⟨#[]⟩, 0, Nat.zero_le _, Nat.le_refl _, Nat.zero_le _, rfl, rfl, rfl, .inl ⟨rfl, rfl, rfl⟩, Below.refl _ wr⟩
      case round =>
        obtain ⟨i, best, many, hi9, hgi, hmany, rfl, rfl, rfl, hBI, hBE2⟩ := hrel
        by_cases hiR : i < R.length
        · obtain ⟨b, o, rfl, hblt, hcl⟩ := (hST.out.below hBE2.out).2.2.2.resolve_left (by omega)
          have hsi := hcl i hiR
          obtain ⟨s, hs⟩ : ∃ s, s = R[i] := ⟨_, rfl⟩
          rw [← hs] at hsi
          have HCL := Lib.hid hcl
          have HSI := Lib.hid hsi
          have HS := Lib.hid hs
          clear hcl hsi hs
          go_wp2_with fail
          go_loopg [8, 9] (R.length + 1) (fun gg s8 s9 wt => ∃ k : Nat, k ≤ R.length ∧ R.length - k + 1 ≤ gg ∧ s8 = .int .i64 (cntK (R.take k) s) ∧ s9 = .int .i64 k ∧ Hid (Below wr.heap.size wr wt))
          case atStart => exact ⟨0, Nat.zero_le _, Nat.le_refl _, rfl, rfl, Below.refl _ _⟩
          case round =>
            obtain ⟨k, hk9, hgk, rfl, rfl, hBE3⟩ := hrel
            have hi9 := (hBE3.out.cell (p := ⟨b, o + i, none⟩) hblt).trans HSI.out
            by_cases hkR : k < R.length
            · have hk9 := (hBE3.out.cell (p := ⟨b, o + k, none⟩) hblt).trans (HCL.out k hkR)
              have htk := cntK_take R k hkR s
              obtain ⟨s2, hs2⟩ : ∃ s2, s2 = R[k] := ⟨_, rfl⟩
              rw [← hs2] at hk9 htk
              have hcle := cntK_le (R.take k) s
              have hcl2 := List.length_take_le k R
              obtain ⟨C, hC⟩ : ∃ C, C = cntK (R.take k) s := ⟨_, rfl⟩
              rw [← hC] at htk hcle ⊢
              clear hs2 hC
              cases hqe : (s2.toList == s.toList)
              · have HT : Hid (cntK (R.take (k + 1)) s = C) := by show _ = _; rw [htk, if_neg (fun e => by rw [e] at hqe; simp at hqe)]; rfl
                clear htk
                go_wp2_with fail
                go_region?
                all_goals
                  go_wp2
                  go_roundg (R.length - (k + 1) + 1)
                  case measure => omega
                  case rel => exact ⟨k + 1, by omega, Nat.le_refl _, by rw [HT.out], by go_num, below_dr3 hBE3.out⟩
              · have HT : Hid (cntK (R.take (k + 1)) s = C + 1) := by show _ = _; rw [htk, if_pos (toList_inj (eq_of_beq hqe)).symm]
                clear htk
                go_wp2_with fail
                go_region?
                all_goals
                  go_wp2
                  go_roundg (R.length - (k + 1) + 1)
                  case measure => omega
                  case rel => exact ⟨k + 1, by omega, Nat.le_refl _, by rw [HT.out]; go_num, by go_num, below_dr3 hBE3.out⟩
            · obtain rfl : R.length = k := by omega
              rw [List.take_length]
              obtain ⟨C, hC⟩ : ∃ C, C = cntK R s := ⟨_, rfl⟩
              have hCl := cntK_le R s
              rw [← hC] at hCl ⊢
              have HC := Lib.hid hC
              have hBB := Lib.hid (grow_trans hBE2.out hBE3.out)
              clear hC
              by_cases hA : many < C
              · have HB1 : Hid (BestI R (i + 1) s C) := by
                  have := hBI.out.take hiR (.inl (by rw [← HS.out, ← HC.out]; exact hA))
                  rwa [← HS.out, ← HC.out] at this
                have hA2 : ¬ C ≤ many := by omega
                go_wp2_with fail
                go_roundg (R.length - (i + 1) + 1)
                case measure => omega
                case rel => exact ⟨i + 1, s, C, by omega, Nat.le_refl _, hCl, rfl, rfl, by go_num, HB1.out, hBB.out⟩
              · by_cases hB : C = many
                · subst hB
                  cases hls : Op.bytesLess s.toList best.toList
                  · have HB1 : Hid (BestI R (i + 1) best C) := hBI.out.keep hiR (by rw [← HS.out, ← HC.out]; exact hA) (fun h => nless_data hls (by rw [HS.out]; exact h.2))
                    go_wp2_with fail
                    go_roundg (R.length - (i + 1) + 1)
                    case measure => omega
                    case rel => exact ⟨i + 1, best, C, by omega, Nat.le_refl _, hmany, rfl, rfl, by go_num, HB1.out, hBB.out⟩
                  · have HB1 : Hid (BestI R (i + 1) s C) := by
                      have := hBI.out.take hiR (.inr ⟨by rw [← HS.out, ← HC.out], by rw [← HS.out]; exact less_data hls⟩)
                      rwa [← HS.out, ← HC.out] at this
                    go_wp2_with fail
                    go_roundg (R.length - (i + 1) + 1)
                    case measure => omega
                    case rel => exact ⟨i + 1, s, C, by omega, Nat.le_refl _, hmany, rfl, rfl, by go_num, HB1.out, hBB.out⟩
                · have HB1 : Hid (BestI R (i + 1) best many) := hBI.out.keep hiR (by rw [← HS.out, ← HC.out]; exact hA) (fun h => hB (by rw [HC.out, HS.out]; exact h.1))
                  have hB2 : ¬ ((C : Int) = (many : Int)) := by omega
                  go_wp2_with fail
                  go_roundg (R.length - (i + 1) + 1)
                  case measure => omega
                  case rel => exact ⟨i + 1, best, many, by omega, Nat.le_refl _, hmany, rfl, rfl, by go_num, HB1.out, hBB.out⟩
        · obtain rfl : R.length = i := by omega
          obtain ⟨hbR, hmy, hball⟩ := hBI.out.stop hR0
          have HLN := Lib.hid (hLI.out.step hbR hmy hball)
          have HFL := Lib.hid (filter_lt R best hbR)
          have HST2 := Lib.hid (hST.out.below hBE2.out)
          have HL0 := Lib.hid (World.ownsRow_lit (base := wr.heap.size) (e := 9) (size := 1) wr #[] 0 (Nat.le_refl _) (by decide) rfl)
          have HOW2 := Lib.hid (own_below hOW.out hBE2.out)
          have HBA := Lib.hid (hBE.out.trans (hBE2.out.mono hBE.out.size))
          have HN2 := Lib.hid (fun (ad : Addr) (e : xl = some ad) => hNE.out ad e)
          have hg0 : g0 < wr.heap.size := (HOW2.out.lt g0 rfl).2
          clear hBI hball hbR hmy
          obtain ⟨p, hp⟩ : ∃ p : ByteArray → Bool, p = fun x => decide (x ≠ best) := ⟨_, rfl⟩
          rw [← hp] at HLN HFL
          have HP := Lib.hid hp
          clear hp hi9 hgi hBE2
          obtain ⟨Wm, hWm⟩ : ∃ Wm, Wm = wr := ⟨_, rfl⟩
          subst hWm
          go_wp2_with fail
          go_loopg [10, 11] (R.length + 1) (fun gg s10 s11 ws => ∃ (j g' c' : Nat), j ≤ R.length ∧ R.length - j + 1 ≤ gg ∧ s10 = .slice (some ⟨g', 0, none⟩) ((R.take j).filter p).length c' ∧ s11 = .int .i64 j ∧ Hid (ws.ownsRow Wm.heap.size 9 1 (.slice (some ⟨g', 0, none⟩) ((R.take j).filter p).length c') ((R.take j).filter p).length (strVals ((R.take j).filter p))) ∧ Hid (Below Wm.heap.size Wm ws))
          case atStart => exact ⟨0, _, _, Nat.zero_le _, Nat.le_refl _, rfl, rfl, HL0.out, below_new Wm _⟩
          case round =>
            obtain ⟨j, g', c', hj, hgj, rfl, rfl, hOR2, hBR⟩ := hrel
            have zr := hBR.out.size
            by_cases hjR : j < R.length
            · obtain ⟨b, o, s, rfl, hl9, hs, hc9, hsz9⟩ := (HST2.out.below hBR.out).get j hjR
              have hft := filterT p R j hjR
              have hlef := List.length_filter_le p (R.take j)
              have hlet := List.length_take_le j R
              rw [← hs] at hft
              obtain ⟨A, hA⟩ : ∃ A, A = (R.take j).filter p := ⟨_, rfl⟩
              rw [← hA] at hft hlef hOR2 ⊢
              have HFT := Lib.hid hft
              clear hft hA hs
              cases hqe : (s.toList == best.toList)
              · have hps : p s = true := by rw [HP.out]; exact decide_eq_true (fun e => by rw [e] at hqe; simp at hqe)
                have HF2 : Hid ((R.take (j + 1)).filter p = A ++ [s]) := by show _ = _; rw [HFT.out, if_pos hps]
                have H5 : Hid (A.length + 1 ≤ maxLen) := by show _ ≤ _; unfold maxLen; omega
                have H6 : Hid ((A.length + 1) * 16 ≤ 140737488355328) := by show _ ≤ _; omega
                clear hps
                go_wp2_with (at_builtin; refine wpList_append_new rfl (.tmp 76) (.tmp 81) 35 rfl Wm.heap.size 9 Try.underlying35 hi hz rfl (by decide) wr [.string s] hOR2.out rfl rfl rfl (one_str _) H5.out H6.out zr ?_; intro g4 c4 w4 hown4 hgrow4; have O4 := Lib.hid hown4; have G4 := Lib.hid hgrow4; clear hown4 hgrow4)
                go_roundg (R.length - (j + 1) + 1)
                case measure => omega
                case rel =>
                  refine ⟨j + 1, g4, c4, by omega, Nat.le_refl _, ?_, by go_num, ?_, below_owned hBR.out zr hOR2.out G4.out⟩
                  · rw [HF2.out, List.length_append]; rfl
                  · rw [HF2.out, List.length_append, strVals_snoc]; exact O4.out
              · have hps : p s = false := by rw [HP.out]; exact decide_eq_false (fun hne => hne (toList_inj (eq_of_beq hqe)))
                have HF2 : Hid ((R.take (j + 1)).filter p = A) := by show _ = _; rw [HFT.out, hps]; simp
                clear hps
                go_wp2_with fail
                go_roundg (R.length - (j + 1) + 1)
                case measure => omega
                case rel =>
                  refine ⟨j + 1, g', c', by omega, Nat.le_refl _, ?_, by go_num, ?_, hBR.out⟩
                  · rw [HF2.out]
                  · rw [HF2.out]; exact hOR2.out
            · obtain rfl : R.length = j := by omega
              rw [List.take_length] at hOR2 ⊢
              have hfl := HFL.out
              obtain ⟨A, hA⟩ : ∃ A, A = R.filter p := ⟨_, rfl⟩
              rw [← hA] at hOR2 HLN hfl ⊢
              have HA9 := Lib.hid hA
              have HO9 := Lib.hid (own_below HOW2.out hBR.out)
              have H5 : Hid (O.length + 1 ≤ maxLen) := by show _ ≤ _; unfold maxLen; omega
              have H6 : Hid ((O.length + 1) * 24 ≤ 140737488355328) := by show _ ≤ _; omega
              have Z9 : Hid (w.heap.size ≤ wr.heap.size) := Nat.le_trans HBA.out.size hBR.out.size
              clear hA
              go_wp2_with (at_builtin; refine wpList_append_at rfl (.tmp 83) (.tmp 87) 75 rfl w.heap.size 106 Try.underlying75 hi1 hz1 rfl (by decide) wr [.string best, .int .i64 many] HO9.out rfl rfl rfl (one_row _ _) H5.out H6.out Z9.out ?_; intro g4 c4 w4 hown4 hgrow4 hat4; have O4 := Lib.hid hown4; have G4 := Lib.hid hgrow4; have A4 := Lib.hid hat4; clear hown4 hgrow4 hat4)
              go_roundg (A.length + 1)
              case measure => omega
              case rel =>
                have hgl : Wm.heap.size ≤ g' ∧ g' < wr.heap.size := hOR2.out.lt g' rfl
                have hne : g' ≠ g4 := by
                  rcases A4.out with h | h
                  · simp [Value.ownBlock] at h; omega
                  · omega
                have hSA : ∀ s ∈ A, s.size ≤ 9223372036854775807 := fun s hs => hSZ.out s (by rw [HA9.out] at hs; exact (List.mem_filter.1 hs).1)
                have hO2 := hOR2.out.kept G4.out (.inr (by simp [Value.ownBlock]; omega))
                refine ⟨O ++ [(best, (many : Int))], A, g4, c4, _, c', Nat.le_refl _, by rw [List.length_append]; simp; omega, by rw [List.length_append]; simp; omega, by rw [List.length_append]; rfl, rfl, HLN.out, ?_, StrsArg.of_owned hO2 (by omega) hSA, ?_, hSA, ?_⟩
                · rw [List.length_append, elVR_snoc]; exact O4.out
                · intro ad e
                  injection e with e
                  subst e
                  exact hne
                · exact below_owned (HBA.out.trans (hBR.out.mono HBA.out.size)) Z9.out HO9.out G4.out
    · have hR1 : R = [] := List.length_eq_zero_iff.1 (by omega)
      subst hR1
      have HCR := Lib.hid hLI.out.stop
      go_wp2_with fail
      go_ret
      exact ⟨_, O, rfl, HCR.out, hOW.out, hBE.out⟩
end Go.Proofs.Ytdpohibgipkhnaa
namespace Go.Proofs.Ytdpohibgipkhnaa
open Go.RowKit Go.Sort Go.Proofs.Ytdpohibgipkhnaa.Oct

theorem rcnt_mono {w w1 : World} {ks : List ByteArray} {e : Ending} {w' : World} (hb : Below w.heap.size w w1) (h : RCntPost w1 ks e w') : RCntPost w ks e w' := by
  obtain ⟨v, L, rfl, h1, h2, h3⟩ := h
  exact ⟨v, L, rfl, h1, own_mono h2 hb.size, grow_trans hb h3⟩
theorem fldK_len (l : Flds) : (fldK l).length = l.length := by unfold fldK; rw [List.length_map]

set_option maxRecDepth 100000 in
set_option maxHeartbeats 3200000 in
theorem rfields_any (w : World) (x : Option Addr) (n c : Nat) (l : Flds) (h : FldsAt w x n l) (hn : n ≤ 80) (hsz : ∀ p ∈ l, p.1.size ≤ 140737488355328) :
    Calls Try.prog 61 #[.slice x n c] w (RCntPost w (fldK l)) := by
  obtain ⟨i0, hi, hz⟩ := info_hid info_string
  have hl := h.len
  subst hl
  have HA := Lib.hid h
  have HLit := Lib.hid (World.ownsRow_lit (base := w.heap.size) (e := 9) (size := 1) w #[] 0 (Nat.le_refl _) (by decide) rfl)
  have HSK : Hid (∀ s ∈ fldK l, s.size ≤ 9223372036854775807) := fun s hs => by
    obtain ⟨p, hp, rfl⟩ := List.mem_map.1 hs
    rw [lowS_size]
    exact (h.str p hp).1
  have HSZ := Lib.hid hsz
  clear h hsz
  go_enter Try.func61, Try.ntmps61
  go_wp2_with fail
  go_loopg [3, 4] (l.length + 1) (fun gg s3 s4 wr => ∃ k g c : Nat, k ≤ l.length ∧ l.length - k + 1 ≤ gg ∧ s3 = .slice (some ⟨g, 0, none⟩) k c ∧ s4 = .int .i64 k ∧ Hid (wr.ownsRow w.heap.size 9 1 (.slice (some ⟨g, 0, none⟩) k c) k (strVals (fldK (l.take k)))) ∧ Hid (Below w.heap.size w wr))
  case atStart => exact ⟨0, _, _, Nat.zero_le _, Nat.le_refl _, rfl, rfl, HLit.out, below_new w _⟩
  case round =>
    obtain ⟨k, g, c', hk, hgk, rfl, rfl, hOW, hbe⟩ := hrel
    by_cases hkl : k < l.length
    · obtain ⟨b, o, p, rfl, hl2, hp, hc1, hc2, hs1, hs2⟩ := (HA.out.below hbe.out).get k hkl
      obtain ⟨p1, p2⟩ := p
      simp only at hc1 hc2 hs1 hs2
      have htk := fldK_take l k hkl
      rw [← hp] at htk
      have HKY : Hid (fldK (l.take (k + 1)) = fldK (l.take k) ++ [lowS p1]) := htk
      have z0 := hbe.out.size
      have H5 : Hid (k + 1 ≤ maxLen) := by show _ ≤ _; unfold maxLen; omega
      have H6 : Hid ((k + 1) * 16 ≤ 140737488355328) := by show _ ≤ _; omega
      have hs9 : p1.size ≤ 140737488355328 := by have := HSZ.out l[k] (List.getElem_mem hl2); rw [← hp] at this; exact this
      clear htk hp
      go_wp2_with fail
      refine (rlower_any p1 wr hs9).mono ?_
      rintro e w2 ⟨rfl, hb2⟩
      have HO2 := Lib.hid (own_below hOW.out hb2)
      have HB2 := Lib.hid (hbe.out.trans (hb2.mono z0))
      have Z2 := HB2.out.size
      clear hb2
      go_wp2_with (at_builtin; refine wpList_append_new rfl (.tmp 12) (.tmp 19) 35 rfl w.heap.size 9 Try.underlying35 hi hz rfl (by decide) w2 [.string (lowS p1)] HO2.out rfl rfl rfl (one_str _) H5.out H6.out Z2 ?_; intro g4 c4 w4 hown4 hgrow4; have O4 := Lib.hid hown4; have G4 := Lib.hid hgrow4; clear hown4 hgrow4)
      go_roundg (l.length - (k + 1) + 1)
      case measure => omega
      case rel =>
        refine ⟨k + 1, g4, c4, by omega, Nat.le_refl _, rfl, by go_num, ?_, below_owned HB2.out Z2 HO2.out G4.out⟩
        rw [HKY.out, strVals_snoc]
        exact O4.out
    · obtain rfl : l.length = k := by omega
      rw [List.take_length] at hOW
      have HS := Lib.hid (StrsArg.of_owned hOW.out (by omega) HSK.out)
      go_wp2_with fail
      refine (rcount_any wr _ l.length c' (fldK l) HS.out (by omega)).mono ?_
      intro e w3 h3
      have H3 := rcnt_mono hbe.out h3
      obtain ⟨v, L, rfl, hcr, hown, hb⟩ := H3
      have HCR := Lib.hid hcr
      have HOWN := Lib.hid hown
      have HB := Lib.hid hb
      clear hcr hown hb h3
      go_wp2_with fail
      go_ret
      exact ⟨v, L, rfl, HCR.out, HOWN.out, HB.out⟩
abbrev hedV (m : Msg) : Array Value := #[.string m.me, .string m.tg, .int .i64 m.mi, .int .i64 m.st, .string m.re, .slice m.fx m.fn m.fc]

set_option maxRecDepth 100000 in
set_option maxHeartbeats 3200000 in
theorem rmet_any (w : World) (x : Option Addr) (n c : Nat) (l : List Msg) (h : MsgsAt w x n l) (hn : n ≤ 60) :
    Calls Try.prog 63 #[.slice x n c, .bool true] w (RCntPost w (metK l)) := by
  obtain ⟨i0, hi, hz⟩ := info_hid info_string
  have hl := h.len
  subst hl
  have HA := Lib.hid h
  have HLit := Lib.hid (World.ownsRow_lit (base := w.heap.size) (e := 9) (size := 1) w #[] 0 (Nat.le_refl _) (by decide) rfl)
  have HSK : Hid (∀ s ∈ metK l, s.size ≤ 9223372036854775807) := fun s hs => by
    obtain ⟨m, hm, hs2⟩ := List.mem_filterMap.1 hs
    by_cases he : m.me = ⟨#[]⟩
    · rw [if_pos he] at hs2; cases hs2
    · rw [if_neg he] at hs2
      injection hs2 with hs2
      rw [← hs2]
      exact (h.str m hm).1
  clear h
  go_enter Try.func63, Try.ntmps63
  go_wp2_with fail
  go_loopg [5, 6] (l.length + 1) (fun gg s5 s6 wr => ∃ k g c : Nat, k ≤ l.length ∧ l.length - k + 1 ≤ gg ∧ s5 = .slice (some ⟨g, 0, none⟩) (metK (l.take k)).length c ∧ s6 = .int .i64 k ∧ Hid (wr.ownsRow w.heap.size 9 1 (.slice (some ⟨g, 0, none⟩) (metK (l.take k)).length c) (metK (l.take k)).length (strVals (metK (l.take k)))) ∧ Hid (Below w.heap.size w wr))
  case atStart => exact ⟨0, _, _, Nat.zero_le _, Nat.le_refl _, rfl, rfl, HLit.out, below_new w _⟩
  case round =>
    obtain ⟨k, g, c', hk, hgk, rfl, rfl, hOW, hbe⟩ := hrel
    have hA1 := metK_len (l.take k)
    have hA2 := List.length_take_le k l
    by_cases hkl : k < l.length
    · obtain ⟨b, o, rfl, hlt, hcl⟩ := (HA.out.below hbe.out).at_.resolve_left (by omega)
      obtain ⟨m, hm⟩ : ∃ m, m = l[k] := ⟨_, rfl⟩
      have hs := HA.out.str l[k] (List.getElem_mem hkl)
      have htk := metK_take l k hkl
      have hc := hcl k hkl
      rw [← hm] at hs htk hc
      have c0 := hc 0 (by decide)
      have c1 := hc 1 (by decide)
      have c2 := hc 2 (by decide)
      have c3 := hc 3 (by decide)
      have c4 := hc 4 (by decide)
      have c5 := hc 5 (by decide)
      have c6 := hc 6 (by decide)
      have c7 := hc 7 (by decide)
      simp only [msgV, Nat.add_zero] at c0 c1 c2 c3 c4 c5 c6 c7
      have z0 := hbe.out.size
      obtain ⟨A, hA⟩ : ∃ A, A = metK (l.take k) := ⟨_, rfl⟩
      rw [← hA] at hOW htk hA1 ⊢
      have HTK := Lib.hid htk
      clear hc hcl htk hm hA
      by_cases he : m.me = ⟨#[]⟩
      · have HKY : Hid (metK (l.take (k + 1)) = A) := by show _ = _; rw [HTK.out, if_pos he, List.append_nil]
        clear HTK
        go_wp2_with fail
        go_roundg (l.length - (k + 1) + 1)
        case measure => omega
        case rel =>
          refine ⟨k + 1, g, c', by omega, Nat.le_refl _, ?_, by go_num, ?_, hbe.out.alloc z0 _⟩
          · rw [HKY.out]
          · rw [HKY.out]; exact hOW.out.alloc _
      · have HKY : Hid (metK (l.take (k + 1)) = A ++ [m.me]) := by show _ = _; rw [HTK.out, if_neg he]
        have he2 : m.me.toList.isEmpty = false := txt_ne he
        have H5 : Hid (A.length + 1 ≤ maxLen) := by show _ ≤ _; unfold maxLen; omega
        have H6 : Hid ((A.length + 1) * 16 ≤ 140737488355328) := by show _ ≤ _; omega
        have HW1 : Hid (Below w.heap.size w (wr.alloc (.cells (hedV m) 68))) := hbe.out.alloc z0 _
        have HO1 : Hid ((wr.alloc (.cells (hedV m) 68)).ownsRow w.heap.size 9 1 (.slice (some ⟨g, 0, none⟩) A.length c') A.length (strVals A)) := hOW.out.alloc _
        have Z1 : Hid (w.heap.size ≤ (wr.alloc (.cells (hedV m) 68)).heap.size) := HW1.out.size
        clear HTK he
        go_wp2_with (at_builtin; refine wpList_append_new rfl (.tmp 26) (.tmp 29) 35 rfl w.heap.size 9 Try.underlying35 hi hz rfl (by decide) (wr.alloc (.cells (hedV m) 68)) [.string m.me] HO1.out rfl (by rw [World.size_alloc]; rfl) rfl (one_str _) H5.out H6.out Z1.out ?_; intro g4 c4 w4 hown4 hgrow4; have O4 := Lib.hid hown4; have G4 := Lib.hid hgrow4; clear hown4 hgrow4)
        go_roundg (l.length - (k + 1) + 1)
        case measure => omega
        case rel =>
          refine ⟨k + 1, g4, c4, by omega, Nat.le_refl _, ?_, by go_num, ?_, below_owned HW1.out Z1.out HO1.out G4.out⟩
          · rw [HKY.out, List.length_append]; rfl
          · rw [HKY.out, List.length_append, strVals_snoc]; exact O4.out
    · obtain rfl : l.length = k := by omega
      rw [List.take_length] at hOW hA1 ⊢
      have HS := Lib.hid (StrsArg.of_owned hOW.out (by omega) HSK.out)
      go_wp2_with fail
      refine (rcount_any wr _ (metK l).length c' (metK l) HS.out (by omega)).mono ?_
      intro e w3 h3
      have H3 := rcnt_mono hbe.out h3
      obtain ⟨v, L, rfl, hcr, hown, hb⟩ := H3
      have HCR := Lib.hid hcr
      have HOWN := Lib.hid hown
      have HB := Lib.hid hb
      clear hcr hown hb h3
      go_wp2_with fail
      go_ret
      exact ⟨v, L, rfl, HCR.out, HOWN.out, HB.out⟩
set_option maxRecDepth 100000 in
set_option maxHeartbeats 3200000 in
theorem rsta_any (w : World) (x : Option Addr) (n c : Nat) (l : List Msg) (h : MsgsAt w x n l) (hn : n ≤ 60) :
    Calls Try.prog 63 #[.slice x n c, .bool false] w (RCntPost w (staK l)) := by
  obtain ⟨i0, hi, hz⟩ := info_hid info_string
  have hl := h.len
  subst hl
  have HA := Lib.hid h
  have HLit := Lib.hid (World.ownsRow_lit (base := w.heap.size) (e := 9) (size := 1) w #[] 0 (Nat.le_refl _) (by decide) rfl)
  have HSK : Hid (∀ s ∈ staK l, s.size ≤ 9223372036854775807) := fun s hs => by
    obtain ⟨m, hm, hs2⟩ := List.mem_filterMap.1 hs
    by_cases he : m.me = ⟨#[]⟩
    · rw [if_pos he] at hs2
      injection hs2 with hs2
      rw [← hs2]
      have h3 := (h.str m hm).2
      have e : (m.st.tdiv 100).natAbs = m.st.natAbs / 100 := by rw [Int.natAbs_tdiv]; rfl
      have := decB_size2 (m.st.tdiv 100) (by omega)
      rw [ByteArray.size_append]
      show _ + 2 ≤ _
      omega
    · rw [if_neg he] at hs2; cases hs2
  clear h
  go_enter Try.func63, Try.ntmps63
  go_wp2_with fail
  go_loopg [5, 6] (l.length + 1) (fun gg s5 s6 wr => ∃ k g c : Nat, k ≤ l.length ∧ l.length - k + 1 ≤ gg ∧ s5 = .slice (some ⟨g, 0, none⟩) (staK (l.take k)).length c ∧ s6 = .int .i64 k ∧ Hid (wr.ownsRow w.heap.size 9 1 (.slice (some ⟨g, 0, none⟩) (staK (l.take k)).length c) (staK (l.take k)).length (strVals (staK (l.take k)))) ∧ Hid (Below w.heap.size w wr))
  case atStart => exact ⟨0, _, _, Nat.zero_le _, Nat.le_refl _, rfl, rfl, HLit.out, below_new w _⟩
  case round =>
    obtain ⟨k, g, c', hk, hgk, rfl, rfl, hOW, hbe⟩ := hrel
    have hA1 := staK_len (l.take k)
    have hA2 := List.length_take_le k l
    by_cases hkl : k < l.length
    · obtain ⟨b, o, rfl, hlt, hcl⟩ := (HA.out.below hbe.out).at_.resolve_left (by omega)
      obtain ⟨m, hm⟩ : ∃ m, m = l[k] := ⟨_, rfl⟩
      have hs := HA.out.str l[k] (List.getElem_mem hkl)
      have htk := staK_take l k hkl
      have hc := hcl k hkl
      rw [← hm] at hs htk hc
      have c0 := hc 0 (by decide)
      have c1 := hc 1 (by decide)
      have c2 := hc 2 (by decide)
      have c3 := hc 3 (by decide)
      have c4 := hc 4 (by decide)
      have c5 := hc 5 (by decide)
      have c6 := hc 6 (by decide)
      have c7 := hc 7 (by decide)
      simp only [msgV, Nat.add_zero] at c0 c1 c2 c3 c4 c5 c6 c7
      have z0 := hbe.out.size
      obtain ⟨A, hA⟩ : ∃ A, A = staK (l.take k) := ⟨_, rfl⟩
      rw [← hA] at hOW htk hA1 ⊢
      have HTK := Lib.hid htk
      clear hc hcl htk hm hA
      by_cases he : m.me = ⟨#[]⟩
      · have HKY : Hid (staK (l.take (k + 1)) = A ++ [decB (m.st.tdiv 100) ++ xxB]) := by show _ = _; rw [HTK.out, if_pos he]
        have htd : -9223372036854775808 ≤ m.st.tdiv 100 ∧ m.st.tdiv 100 ≤ 9223372036854775807 := by
          have e : (m.st.tdiv 100).natAbs = m.st.natAbs / 100 := by rw [Int.natAbs_tdiv]; rfl
          omega
        have HDT := Lib.hid (fun W => rtext_any (m.st.tdiv 100) W htd)
        have HSZ := Lib.hid (decB_size2 (m.st.tdiv 100) htd)
        have jw : IntKind.i64.wrap (m.st.tdiv 100) = m.st.tdiv 100 := IntWalk.i64_in _ htd
        have H5 : Hid (A.length + 1 ≤ maxLen) := by show _ ≤ _; unfold maxLen; omega
        have H6 : Hid ((A.length + 1) * 16 ≤ 140737488355328) := by show _ ≤ _; omega
        clear htd HTK
        go_wp2_with fail
        refine (HDT.out _).mono ?_
        rintro e w2 ⟨rfl, hb2⟩
        have HB2 := Lib.hid (grow_trans (below_new wr _) hb2)
        obtain ⟨T, hT⟩ : ∃ T, T = decB (m.st.tdiv 100) := ⟨_, rfl⟩
        have hsz := HSZ.out
        rw [← hT] at hsz HKY ⊢
        have js : ¬ 9223372036854775807 < T.size + 2 := by omega
        have HW2 := Lib.hid (hbe.out.trans (HB2.out.mono z0))
        have HO2 := Lib.hid (own_below hOW.out HB2.out)
        have Z2 : Hid (w.heap.size ≤ w2.heap.size) := HW2.out.size
        clear hT hsz hb2 jw
        go_wp2_with (at_builtin; refine wpList_append_new rfl (.tmp 38) (.tmp 44) 35 rfl w.heap.size 9 Try.underlying35 hi hz rfl (by decide) w2 [.string (T ++ xxB)] HO2.out rfl rfl rfl (one_str _) H5.out H6.out Z2.out ?_; intro g4 c4 w4 hown4 hgrow4; have O4 := Lib.hid hown4; have G4 := Lib.hid hgrow4; clear hown4 hgrow4)
        go_roundg (l.length - (k + 1) + 1)
        case measure => omega
        case rel =>
          refine ⟨k + 1, g4, c4, by omega, Nat.le_refl _, ?_, by go_num, ?_, below_owned HW2.out Z2.out HO2.out G4.out⟩
          · rw [HKY.out, List.length_append]; rfl
          · rw [HKY.out, List.length_append, strVals_snoc]; exact O4.out
      · have HKY : Hid (staK (l.take (k + 1)) = A) := by show _ = _; rw [HTK.out, if_neg he, List.append_nil]
        have he2 : m.me.toList.isEmpty = false := txt_ne he
        clear HTK he
        go_wp2_with fail
        go_roundg (l.length - (k + 1) + 1)
        case measure => omega
        case rel =>
          refine ⟨k + 1, g, c', by omega, Nat.le_refl _, ?_, by go_num, ?_, hbe.out.alloc z0 _⟩
          · rw [HKY.out]
          · rw [HKY.out]; exact hOW.out.alloc _
    · obtain rfl : l.length = k := by omega
      rw [List.take_length] at hOW hA1 ⊢
      have HS := Lib.hid (StrsArg.of_owned hOW.out (by omega) HSK.out)
      go_wp2_with fail
      refine (rcount_any wr _ (staK l).length c' (staK l) HS.out (by omega)).mono ?_
      intro e w3 h3
      have H3 := rcnt_mono hbe.out h3
      obtain ⟨v, L, rfl, hcr, hown, hb⟩ := H3
      have HCR := Lib.hid hcr
      have HOWN := Lib.hid hown
      have HB := Lib.hid hb
      clear hcr hown hb h3
      go_wp2_with fail
      go_ret
      exact ⟨v, L, rfl, HCR.out, HOWN.out, HB.out⟩
end Go.Proofs.Ytdpohibgipkhnaa
namespace Go.Proofs.Ytdpohibgipkhnaa
open Go.RowKit Go.Sort Go.Proofs.Ytdpohibgipkhnaa.Oct

theorem own_rws2 {w : World} {B e : Nat} {v : Value} {l : List ElR} (ho : w.ownsRow B e 2 v l.length (elVR l)) : ∃ x c, v = .slice x l.length c ∧ RwsAt w x l.length l := by
  rcases ho.2 with ⟨rfl, h0⟩ | ⟨g, cap, cur, rfl, hg, hh, hcap, _⟩
  · exact ⟨none, 0, by rw [h0], rfl, .inl h0⟩
  · refine ⟨_, cap, rfl, rfl, .inr ⟨g, 0, rfl, lt_of_block hh, fun i hi => ?_⟩⟩
    rw [Nat.zero_add]
    have h2 := elVR_x l i l[i] (List.getElem?_eq_getElem hi)
    exact ⟨(ho.cellAt _ (by omega)).trans h2.1, (ho.cellAt _ (by omega)).trans h2.2⟩

set_option maxRecDepth 100000 in
set_option maxHeartbeats 3200000 in
theorem rwsame_any (w : World) (x y : Option Addr) (n c d : Nat) (L : List ElR) (h : RwsAt w x n L) (h2 : RwsAt w y n L) (hn : n ≤ 1000) :
    Calls Try.prog 60 #[.slice x n c, .slice y n d] w fun e w' => e = .returned (.bool true) ∧ Below w.heap.size w w' := by
  have HA := Lib.hid h
  have HB := Lib.hid h2
  clear h h2
  go_enter Try.func60, Try.ntmps60
  go_wp2_with fail
  go_loopg [13] (n + 1) (fun gg s13 wr => ∃ k : Nat, k ≤ n ∧ n - k + 1 ≤ gg ∧ s13 = .int .i64 k ∧ Hid (Below w.heap.size w wr))
  case atStart => exact ⟨0, Nat.zero_le _, Nat.le_refl _, rfl, Below.refl _ w⟩
  case round =>
    obtain ⟨k, hk, hgk, rfl, hbe⟩ := hrel
    by_cases hkl : k < n
    · obtain ⟨b, o, p, rfl, hb1, ⟨hl1, hp1⟩, hc1, hc2⟩ := (HA.out.below hbe.out).get k hkl
      obtain ⟨b2, o2, q, rfl, hb2, ⟨hl2, hq1⟩, hd1, hd2⟩ := (HB.out.below hbe.out).get k hkl
      obtain rfl : q = p := hq1.trans hp1.symm
      obtain ⟨q1, q2⟩ := q
      simp only at hc1 hc2 hd1 hd2
      clear hp1 hq1
      go_wp2_with fail
      go_region_held3 (fun w' => w'.cell? ⟨b, o + k * 2, none⟩ = some (.string q1) ∧ w'.cell? ⟨b, o + k * 2 + 1, none⟩ = some (.int .i64 q2) ∧ w'.cell? ⟨b2, o2 + k * 2, none⟩ = some (.string q1) ∧ w'.cell? ⟨b2, o2 + k * 2 + 1, none⟩ = some (.int .i64 q2)) (go_keep) (fail)
      all_goals
        go_wp2_with fail
        go_roundg (n - (k + 1) + 1)
        case measure => omega
        case rel => exact ⟨k + 1, by omega, Nat.le_refl _, by go_num, below_dr3 hbe.out⟩
    · obtain rfl : n = k := by omega
      go_wp2_with fail
      go_ret
      exact ⟨rfl, hbe.out⟩
end Go.Proofs.Ytdpohibgipkhnaa
namespace Go.Proofs.Ytdpohibgipkhnaa
open Go.RowKit Go.Sort Go.Proofs.Ytdpohibgipkhnaa.Oct

set_option maxRecDepth 100000 in
set_option maxHeartbeats 6400000 in
theorem ttells_yes (w : World) (x y : Option Addr) (n c m d : Nat) (l : Flds) (ms : List Msg) (h : FldsAt w x n l) (h2 : MsgsAt w y m ms) (hl : fewB l = true) (hm : m ≤ 60) :
    Calls Try.prog 13 #[.slice x n c, .slice y m d] w fun e w' => e = .returned (.bool true) ∧ Below w.heap.size w w' := by
  have hl1 := h.len
  have hl2 := h2.len
  subst hl1 hl2
  have HA := Lib.hid h
  have HB := Lib.hid h2
  have F1 := Lib.hid hl
  have n1 := (fewB_of hl).1
  have HSZ : Hid (∀ p ∈ l, p.1.size ≤ 140737488355328) := fun p hp => by have := (fewB_of F1.out).2 p hp; omega
  clear h h2 hl
  go_enter Try.func13, Try.ntmps13
  go_wp2_with fail
  refine (few_any w x l.length c l HA.out).mono ?_
  rintro e w1 ⟨he, hb1⟩
  rw [F1.out] at he
  subst he
  have B1 := Lib.hid hb1
  clear hb1
  go_wp2_with fail
  go_loopg [18] (ms.length + 1) (fun gg s18 wr => ∃ k : Nat, k ≤ ms.length ∧ ms.length - k + 1 ≤ gg ∧ s18 = .int .i64 k ∧ Hid (Below w.heap.size w wr))
  case atStart => exact ⟨0, Nat.zero_le _, Nat.le_refl _, rfl, B1.out⟩
  case round =>
    obtain ⟨k, hk, hgk, rfl, hbe⟩ := hrel
    by_cases hkl : k < ms.length
    · obtain ⟨b, o, rfl, hlt, hcl⟩ := (HB.out.below hbe.out).at_.resolve_left (by omega)
      obtain ⟨q, hq⟩ : ∃ q, q = ms[k] := ⟨_, rfl⟩
      have hc := hcl k hkl
      rw [← hq] at hc
      have c0 := hc 0 (by decide)
      have c1 := hc 1 (by decide)
      have c2 := hc 2 (by decide)
      have c3 := hc 3 (by decide)
      have c4 := hc 4 (by decide)
      have c5 := hc 5 (by decide)
      have c6 := hc 6 (by decide)
      have c7 := hc 7 (by decide)
      have c8 := hc 8 (by decide)
      have c9 := hc 9 (by decide)
      have c10 := hc 10 (by decide)
      simp only [msgV, Nat.add_zero] at c0 c1 c2 c3 c4 c5 c6 c7 c8 c9 c10
      have z0 := hbe.out.size
      have HW2 : Hid (Below w.heap.size w (wr.alloc (.cells (msgV q) 73))) := hbe.out.alloc z0 _
      clear hc hcl hq
      by_cases hbig : (100 : Int) < (q.me.size : Int)
      · go_wp2_with fail
        refine (tlives_any (wr.alloc (.cells (msgV q) 73))).mono ?_
        rintro e w9 ⟨rfl, hb9⟩
        have BW9 := Lib.hid (grow_trans HW2.out hb9)
        clear hb9
        go_wp2_with fail
        go_ret
        exact ⟨rfl, BW9.out⟩
      · go_wp2_with fail
        go_roundg (ms.length - (k + 1) + 1)
        case measure => omega
        case rel => exact ⟨k + 1, by omega, Nat.le_refl _, by go_num, HW2.out⟩
    · obtain rfl : ms.length = k := by omega
      have FA := Lib.hid (HA.out.below hbe.out)
      go_wp2_with fail
      refine (tfields_any wr x l.length c l FA.out (by omega)).mono ?_
      rintro e w2 ⟨v2, L, rfl, hcr, hown, hb2⟩
      obtain ⟨x2, c2, rfl, hR2⟩ := own_rws2 hown
      have CR := Lib.hid hcr
      have R2 := Lib.hid hR2
      have B2 := Lib.hid (grow_trans hbe.out hb2)
      have FA2 := Lib.hid (HA.out.below B2.out)
      have hLn := hcr.len
      rw [fldK_len] at hLn
      clear hcr hown hb2 hR2
      go_wp2_with fail
      refine (rfields_any w2 x l.length c l FA2.out (by omega) HSZ.out).mono ?_
      rintro e w3 ⟨v3, L', rfl, hcr, hown, hb3⟩
      obtain rfl : L' = L := hcr.unique CR.out
      obtain ⟨x3, c3, rfl, hR3⟩ := own_rws2 hown
      have R2b := Lib.hid (R2.out.below hb3)
      have R3 := Lib.hid hR3
      have B3 := Lib.hid (grow_trans B2.out hb3)
      clear hcr hown hb3 hR3
      go_wp2_with fail
      refine (rwsame_any w3 x2 x3 _ c2 c3 L' R2b.out R3.out (by omega)).mono ?_
      rintro e w4 ⟨rfl, hb4⟩
      have B4 := Lib.hid (grow_trans B3.out hb4)
      clear hb4
      have M4 := Lib.hid (HB.out.below B4.out)
      clear R2 R3 R2b FA FA2 CR
      go_wp2_with fail
      refine (methods_any w4 y ms.length d ms M4.out hm).mono ?_
      rintro e w5 ⟨v5, K, rfl, hcr, hown, hb5⟩
      obtain ⟨x5, c5, rfl, hR5⟩ := own_rws2 hown
      have CR := Lib.hid hcr
      have R5 := Lib.hid hR5
      have B5 := Lib.hid (grow_trans B4.out hb5)
      have M5 := Lib.hid (HB.out.below B5.out)
      have hKn := hcr.len
      have hKn2 := metK_len ms
      clear hcr hown hb5 hR5
      go_wp2_with fail
      refine (rmet_any w5 y ms.length d ms M5.out hm).mono ?_
      rintro e w6 ⟨v6, K', rfl, hcr, hown, hb6⟩
      obtain rfl : K' = K := hcr.unique CR.out
      obtain ⟨x6, c6, rfl, hR6⟩ := own_rws2 hown
      have R5b := Lib.hid (R5.out.below hb6)
      have R6 := Lib.hid hR6
      have B6 := Lib.hid (grow_trans B5.out hb6)
      clear hcr hown hb6 hR6
      go_wp2_with fail
      refine (rwsame_any w6 x5 x6 _ c5 c6 K' R5b.out R6.out (by omega)).mono ?_
      rintro e w7 ⟨rfl, hb7⟩
      have B7 := Lib.hid (grow_trans B6.out hb7)
      clear hb7
      have M7 := Lib.hid (HB.out.below B7.out)
      clear R5 R6 R5b CR M4 M5
      go_wp2_with fail
      refine (statuses_any w7 y ms.length d ms M7.out hm).mono ?_
      rintro e w8 ⟨v8, J, rfl, hcr, hown, hb8⟩
      obtain ⟨x8, c8, rfl, hR8⟩ := own_rws2 hown
      have CR := Lib.hid hcr
      have R8 := Lib.hid hR8
      have B8 := Lib.hid (grow_trans B7.out hb8)
      have M8 := Lib.hid (HB.out.below B8.out)
      have hJn := hcr.len
      have hJn2 := staK_len ms
      clear hcr hown hb8 hR8
      go_wp2_with fail
      refine (rsta_any w8 y ms.length d ms M8.out hm).mono ?_
      rintro e wa ⟨va, J', rfl, hcr, hown, hba⟩
      obtain rfl : J' = J := hcr.unique CR.out
      obtain ⟨xa, ca, rfl, hRa⟩ := own_rws2 hown
      have R8b := Lib.hid (R8.out.below hba)
      have Ra := Lib.hid hRa
      have Ba := Lib.hid (grow_trans B8.out hba)
      clear hcr hown hba hRa
      go_wp2_with fail
      refine (rwsame_any wa x8 xa _ c8 ca J' R8b.out Ra.out (by omega)).mono ?_
      rintro e wb ⟨rfl, hbb⟩
      have Bb := Lib.hid (grow_trans Ba.out hbb)
      clear hbb R8 Ra R8b CR M7 M8
      go_wp2_with fail
      refine (tlives_any _).mono ?_
      rintro e w9 ⟨rfl, hb9⟩
      have BW9 := Lib.hid (grow_trans Bb.out hb9)
      clear hb9
      go_wp2_with fail
      go_ret
      exact ⟨rfl, BW9.out⟩

set_option maxRecDepth 100000 in
set_option maxHeartbeats 3200000 in
theorem ttells_any (w : World) (x y : Option Addr) (n c m d : Nat) (l : Flds) (ms : List Msg) (h : FldsAt w x n l) (h2 : MsgsAt w y m ms) :
    Calls Try.prog 13 #[.slice x n c, .slice y m d] w fun e w' => e = .returned (.bool true) ∧ Below w.heap.size w w' := by
  have hbig := h2.big
  cases hl : fewB l
  · go_enter Try.func13, Try.ntmps13
    go_wp2_with fail
    refine (few_any w x n c l h).mono ?_
    rintro e w1 ⟨he, hb1⟩
    rw [hl] at he
    subst he
    have B1 := Lib.hid hb1
    clear hb1
    go_wp2_with fail
    refine (tlives_any _).mono ?_
    rintro e w9 ⟨rfl, hb9⟩
    have BW9 := Lib.hid (grow_trans B1.out hb9)
    clear hb9
    go_wp2_with fail
    go_ret
    exact ⟨rfl, BW9.out⟩
  · by_cases hm : m ≤ 60
    · exact ttells_yes w x y n c m d l ms h h2 hl hm
    · have hm2 : (60 : Int) < (m : Int) := by omega
      go_enter Try.func13, Try.ntmps13
      go_wp2_with fail
      refine (few_any w x n c l h).mono ?_
      rintro e w1 ⟨he, hb1⟩
      rw [hl] at he
      subst he
      have B1 := Lib.hid hb1
      clear hb1
      go_wp2_with fail
      refine (tlives_any _).mono ?_
      rintro e w9 ⟨rfl, hb9⟩
      have BW9 := Lib.hid (grow_trans B1.out hb9)
      clear hb9
      go_wp2_with fail
      go_ret
      exact ⟨rfl, BW9.out⟩
end Go.Proofs.Ytdpohibgipkhnaa
