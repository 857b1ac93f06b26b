/-
  THE WALK of tally.rows.
  PLAIN: how often each of some texts is there, the most ahead, of one number by name: one list alone is so.
-/
import Derived.Test.YtdpohibgipkhnaaTT31
import Derived.Test.YtdpohibgipkhnaaTT17
import Derived.Test.YtdpohibgipkhnaaTT4
import Derived.Maps.AppendAt
import Derived.RangeFuncBox
set_option linter.unusedVariables false
set_option linter.unusedSimpArgs false
namespace Go.Proofs.Ytdpohibgipkhnaa
open Go.RowKit Go.Maps Go.Sort Go.Shelf Go.Proofs.Ytdpohibgipkhnaa.Oct
attribute [local go_sem] Oper.semAt_some

theorem info_row : (Try.prog.info? 65).map (fun i => (i.zero, i.size, i.bytes)) = some (some (.agg #[.string ⟨#[]⟩, .int .i64 0]), 2, 24) := by kernel_rfl
/-- A row as a name and a number. -/
def nm (x : RwS) : ElR := (x.1.1, (x.1.2 : Int))
abbrev nms (xs : List RwS) : List ElR := xs.map nm
theorem one_row (k : ByteArray) (n : Int) : ∀ u ∈ [Value.string k, Value.int .i64 n], u.oneCell' = true := by
  intro u hu
  simp at hu
  rcases hu with rfl | rfl <;> rfl
theorem elVR_snoc (l : List ElR) (p : ElR) : elVR (l ++ [p]) = elVR l ++ [.string p.1, .int .i64 p.2] := by rw [elVR_append]; rfl
/-- The rows lie in a row of the call's own, which the variable in block b holds. -/
def RowBox (b B : Nat) (pre : List RwS) (W : World) : Prop := ∃ v, Blk W b 62 #[v] ∧ W.ownsRow B 65 2 v pre.length (elVR (nms pre))
theorem rowBox_own (b B : Nat) : Own (RowBox b B) := fun s A C row h hg hr => by
  obtain ⟨v, h1, h2⟩ := h
  refine ⟨v, blk_keptS h1 hg hr, h2.kept hg ?_⟩
  rcases h2.2 with ⟨rfl, _⟩ | ⟨g, cap, cur, rfl, _, hgb, _⟩
  · exact .inl rfl
  · refine .inr fun e => ?_
    obtain ⟨o, ho, hco⟩ := hr g e.symm
    have h3 := ho.symm.trans hgb
    injection h3 with h3
    subst h3
    cases hco


def cmpR (x y : ElR) : Int := Lib.compareInt y.2 x.2
theorem cmpR_lt (x y : ElR) : ltOR cmpR x y = decide (y.2 < x.2) := by
  unfold ltOR cmpR Lib.compareInt
  apply decide_eq_decide.2
  split
  · omega
  · split <;> omega
theorem cmpR_swo : St.SWO (ltOR cmpR) where
  asym x y h := by rw [cmpR_lt] at h ⊢; simp at h ⊢; omega
  ntr x y z h := by rw [cmpR_lt] at h; rw [cmpR_lt, cmpR_lt]; simp at h ⊢; omega
set_option maxRecDepth 100000 in
set_option maxHeartbeats 1600000 in
theorem cmpR_any : CmpR 114 cmpR where
  enter := fun _ _ => by kernel_rfl
  call := by
    intro x1 x2 y1 y2 w
    go_enter Try.func114, Try.ntmps114
    go_wp2_with fail
    refine (Try.cmp_Compare_int _ _ _).mono ?_
    rintro e w' ⟨rfl, hw⟩
    subst hw
    go_wp2_with fail
    go_ret
    exact ⟨rfl, (below_new w _).alloc (by simp) _⟩
theorem datR_of_own {w : World} {B g n cap : Nat} {l : List ElR} (h : w.ownsRow B 65 2 (.slice (some ⟨g, 0, none⟩) n cap) n (elVR l)) : ∃ rest, DatR w g l rest ∧ (∀ w' L, DatR w' g L rest → L.length = l.length → w'.ownsRow B 65 2 (.slice (some ⟨g, 0, none⟩) n cap) n (elVR L)) := by
  have h1 := h.1
  rcases h.2 with ⟨he, _⟩ | ⟨g', cap', cur, he, hB, hh, hnc, hcm, hsz, htk⟩
  · cases he
  · injection he with he1 he2 he3
    injection he1 with he1
    injection he1 with he1
    subst he1 he3
    refine ⟨cur.toList.drop (n * 2), ?_, fun w' L hd hL => ?_⟩
    · unfold DatR Blk
      rw [hh, ← htk, List.take_append_drop]
    · have hl : (elVR L).length = n * 2 := by rw [elVR_length, hL, ← elVR_length l]; exact h1
      refine ⟨hl, .inr ⟨g, cap, _, rfl, hB, hd, hnc, hcm, ?_, ?_⟩⟩
      · simp only [List.size_toArray, List.length_append, hl, List.length_drop, Array.length_toList]
        omega
      · show (elVR L ++ cur.toList.drop (n * 2)).take (n * 2) = elVR L
        rw [← hl, List.take_left]

set_option maxRecDepth 100000 in
set_option maxHeartbeats 6400000 in
theorem trows_any (w : World) (base nn a : Nat) (f : KyS → Nat) (hnn : nn ≤ 100000) (hT : TalS w base a nn f) :
    Calls Try.prog 94 #[.pointer (some ⟨a, 0, none⟩)] w fun e W' => ∃ v xs L, e = .returned v ∧ IsRowsS f xs ∧ St.Sts (ltOR cmpR) (nms xs) L ∧ W'.ownsRow w.heap.size 65 2 v L.length (elVR L) ∧ Below w.heap.size w W' := by
  obtain ⟨i0, hi, hzz⟩ := info_hid info_row
  refine (callsIn_wide (n := 7)).1 ?_
  have h1 : 1 ≤ 7 := by decide
  have cR : ∀ W, CallsIn Fence.wide 6 Try.prog 112 #[.pointer (some ⟨a, 0, none⟩)] W fun e w' => e = .returned (.func (.func 126) #[] #[.pointer (some ⟨W.heap.size, 0, none⟩)]) ∧ w' = W.alloc (.cells #[.pointer (some ⟨a, 0, none⟩)] 105) := fun W => callsIn_wide.2 (rowsS_any W _)
  have hfR : Fence.wide.fn 112 := trivial
  have hfS : Fence.wide.fn 113 := trivial
  refine callsIn_of_wp_marks Try.func94 rfl trivial ?_ rfl
  simp only [Try.ntmps94, List.size_toArray, List.length_cons, List.length_nil, Nat.reduceAdd, Nat.reduceSub, Array.replicate_succ, Array.replicate_zero, List.push_toArray, List.append_toArray, List.nil_append, List.cons_append]
  gi_wp2_with (gi_at_call 112; refine (cR _).mono ?_; rintro e w' ⟨rfl, rfl⟩)
  obtain ⟨W1, hW1⟩ : ∃ W1, W1 = ((w.alloc (.cells #[.slice none 0 0] 62)).alloc (.cells #[.pointer (some ⟨a, 0, none⟩)] 105)) := ⟨_, rfl⟩
  have hz1 : W1.heap.size = w.heap.size + 1 + 1 := by rw [hW1]; simp
  have hs : Blk W1 w.heap.size 62 #[.slice none 0 0] := by rw [hW1]; exact (Blk.new w _ _).alloc _
  have hbx : Blk W1 (w.heap.size + 1) 105 #[.pointer (some ⟨a, 0, none⟩)] := by
    have := Blk.new (w.alloc (.cells #[.slice none 0 0] 62)) 105 #[.pointer (some ⟨a, 0, none⟩)]
    rw [World.size_alloc] at this
    rw [hW1]; exact this
  have hB0 : Below w.heap.size w W1 := by rw [hW1]; exact ((Below.refl _ w).alloc (Nat.le_refl _) _).alloc (by simp) _
  rw [← hW1]
  clear hW1
  refine wpIn_rangeFunc_ownF rfl h1 (gf := 126) (lb := #[.pointer (some ⟨w.heap.size + 1, 0, none⟩)]) rfl trivial (enters_of Try.func126 (by kernel_rfl) rfl)
    (ritS_stops (fun b o => ∃ cs, o = .cells cs 62 ∨ o = .cells cs 65) (w.heap.size + 1) base nn (some ⟨a, 0, none⟩) f (by omega) W1 hbx (.inr ⟨a, rfl, hT.below hB0⟩)
      (fun cs h => by obtain ⟨cs', h | h⟩ := h <;> (injection h with _ h; cases h)) (fun b cs h => by obtain ⟨cs', h | h⟩ := h <;> (injection h with _ h; cases h)) (fun b es c h => by obtain ⟨cs', h | h⟩ := h <;> cases h) (fun b cs hb h => by obtain ⟨cs', h | h⟩ := h <;> (injection h with _ h; cases h)))
    KeepXS.trans (fun W l o o' => keepXS_b (w0 := W1) W l o o') (Below.refl _ _) (fun _ => rfl)
    (fun pre W => RowBox w.heap.size (w.heap.size + 1) pre W ∧ Below w.heap.size w W)
    (fun _ _ _ => False)
    (OwnFrom.and (Own.from (rowBox_own w.heap.size (w.heap.size + 1)) _) (ownFrom_below (Nat.le_refl _) (by rw [hz1]; omega)))
    (fun _ _ _ _ _ hs _ _ => hs)
    ⟨⟨_, hs, World.ownsRow_nil _ _ _ _⟩, hB0⟩
    (fun x => { tmps := #[.pointer (some ⟨a, 0, none⟩), undef, .slice none 0 0, .pointer (some ⟨w.heap.size, 0, none⟩), .string x.1.1, .int .i64 (x.1.2 : Nat), .pointer (some ⟨a, 0, none⟩), .func (.func 126) #[] #[.pointer (some ⟨w.heap.size + 1, 0, none⟩)], .string x.1.1, .int .i64 (x.1.2 : Nat), undef, undef, undef, undef, undef, undef, undef, undef, undef], defers := [] }) ?assign ?body ?done ?stop
  case assign =>
    intro l x W K hK
    dsimp only [rwVS]
    gi_wp2
    exact hK
  case body =>
    rintro l pre x W ⟨⟨v, hk, hown⟩, hB⟩ hlen
    have hc := hk.cell 0
    have hf := hk.frozen 0
    have HK := Lib.hid hk
    have HOW := Lib.hid hown
    have HBL := Lib.hid hB
    have hz := hB.size
    have hlt := hk.lt
    have H5 : Hid (pre.length + 1 ≤ maxLen ∧ (pre.length + 1) * 24 ≤ 140737488355328) := ⟨by unfold maxLen; omega, by omega⟩
    have HZ : Hid (w.heap.size + 1 ≤ (W.alloc (.cells #[.string x.1.1, .int .i64 (x.1.2 : Nat)] 65)).heap.size) := by show _ ≤ _; simp; omega
    have HNE : Hid (some w.heap.size ≠ v.ownBlock) := fun e => by have := (HOW.out.lt _ e.symm).1; omega
    have hform : v = .slice none 0 0 ∨ ∃ g' c', v = .slice (some ⟨g', 0, none⟩) pre.length c' := by
      rcases hown.2 with ⟨h, _⟩ | ⟨g', c', _, h, _⟩
      · exact .inl h
      · exact .inr ⟨g', c', h⟩
    clear hk hown hB
    rcases hform with rfl | ⟨g', c', rfl⟩
    all_goals
      gi_wp2_with (gi_at_builtin; refine wpListIn_append_own _ rfl _ _ 62 rfl (w.heap.size + 1) 65 i0 _ 2 24 Try.underlying62 hi.out hzz.out.1 hzz.out.2.1 hzz.out.2.2 rfl (by decide) _ pre.length _ rfl (HOW.out.alloc _) ⟨W.heap.size, 0, none⟩ 1 1 [.string x.1.1, .int .i64 (x.1.2 : Nat)] rfl rfl (by intro j u hj; rw [add_head, World.cell?_alloc_new]; simpa using hj) (one_row _ _) H5.out.1 H5.out.2 HZ.out ?_; intro v' w1 hown' hgrow _; obtain ⟨g9, cap9, rfl, hg9, _⟩ := hown'.form (Nat.succ_pos _); have HO9 := Lib.hid hown'; have HG9 := Lib.hid ((World.grownBy_alloc W _ _).trans hgrow); have hk9 : Blk w1 w.heap.size 62 #[_] := ((World.grownBy_alloc W _ _).trans hgrow).block _ hlt HNE.out |>.trans HK.out; have hc9 := hk9.cell 0; have hf9 := hk9.frozen 0; have HK9 := Lib.hid hk9; clear hown' hgrow hk9)
      have hne9 : g9 ≠ w.heap.size := by omega
      have hown9 := HO9.out.kept (grown_setR w.heap.size 0 (.slice (some ⟨g9, 0, none⟩) (pre.length + 1) cap9)) (.inr (by simp [Value.ownBlock]; exact hne9))
      have hB1 : Below w.heap.size w w1 := HBL.out.grown HG9.out hz (fun k hk => by have := (HOW.out.lt k hk).1; omega)
      have hel : elVR (nms (pre ++ [x])) = elVR (nms pre) ++ [.string x.1.1, .int .i64 (x.1.2 : Nat)] := by
        unfold nms
        rw [List.map_append, List.map_singleton, elVR_snoc]; rfl
      refine ⟨(KeepsOthers.of_grownBy HG9.out fun k o hk ho => ?_).trans (KeepsOthers.setCell _ _ _), ?_, ⟨_, HK9.out.set_ 0 _, ?_⟩, hB1.setCell (p := ⟨w.heap.size, 0, none⟩) (Nat.le_refl _) _⟩
      · rcases HOW.out.2 with ⟨e, _⟩ | ⟨g5, c5, cur5, e, _, hgb5, _⟩
        · rw [e] at hk; cases hk
        · rw [e] at hk; injection hk with hk; subst hk; have h2 := ho.symm.trans hgb5; injection h2 with h2; subst h2; rfl
      · intro b o hb _ hX
        have hb1 : b ≠ w.heap.size := fun e => by
          subst e
          have h2 := hb.symm.trans HK.out
          injection h2 with h2
          exact hX ⟨_, .inl h2⟩
        refine (Below.heap_setCell _ _ _ _ hb1).trans ((HG9.out.block b (Array.getElem?_eq_some_iff.1 hb).1 (fun e => ?_)).trans hb)
        rcases HOW.out.2 with ⟨e5, _⟩ | ⟨g5, c5, cur5, e5, _, hgb5, _⟩
        · rw [e5] at e; cases e
        · rw [e5] at e
          injection e with e
          subst e
          have h2 := hb.symm.trans hgb5
          injection h2 with h2
          exact hX ⟨_, .inr h2⟩
      · rw [hel, List.length_append]
        exact hown9
  case done =>
    rintro D ys W hD hS ⟨⟨v, hk, hown⟩, hB⟩ hK
    have hc := hk.cell 0
    have HK := Lib.hid hk
    have HB := Lib.hid hB
    have HD := Lib.hid hK
    have HZD : Hid (w.heap.size ≤ D) := by rw [hz1] at hD; show _ ≤ _; omega
    rcases hown.2 with ⟨rfl, h0⟩ | ⟨g, cap, cur, rfl, hg, hgb, _⟩
    · have hys : ys = [] := List.eq_nil_of_length_eq_zero h0
      subst hys
      have hn1 : CallsIn Fence.wide 6 Try.prog 113 #[.slice none 0 0, .func (.func 114) #[] #[]] W fun e w' => e = .returned (.tuple #[]) ∧ w' = W := callsIn_wide.2 (ssfR_nil 114 W)
      have HN1 := Lib.hid hn1
      clear hn1 hown hk hB h0
      gi_wp2_with (gi_at_call 113; refine HN1.out.mono ?_; rintro e w' ⟨rfl, rfl⟩)
      refine ⟨by simp, .inl ⟨_, _, rfl, run_takeDeferred hK, ?_⟩⟩
      exact ⟨_, results_tmp rfl _ _ _, .slice none 0 0, [], [], rfl, hS.1, ⟨List.Pairwise.nil, St.Alk.refl _⟩, World.ownsRow_nil _ _ _ _, HB.out.trans (belowK_b (w := w) (Nat.le_refl _) _ D _ _ HZD.out hK rfl rfl)⟩
    · obtain ⟨rest, hd, hback⟩ := datR_of_own hown
      have hlen : ys.length ≤ 1000000000000 := by have := hS.2; omega
      have hn1 : CallsIn Fence.wide 6 Try.prog 113 #[.slice (some ⟨g, 0, none⟩) ys.length cap, .func (.func 114) #[] #[]] W fun e w' => e = .returned (.tuple #[]) ∧ ∃ L', St.Sts (ltOR cmpR) (nms ys) L' ∧ DatR w' g L' rest ∧ W.grownBy w' (some g) :=
        callsIn_wide.2 (ssfR_any 114 cmpR cmpR_any cmpR_swo W g ys.length cap (nms ys) rest hd (by simp) hlen)
      have HN1 := Lib.hid hn1
      have HBK := Lib.hid hback
      have hDg : D ≠ g := fun e => by
        subst e
        have h2 := HD.out.symm.trans hgb
        injection h2 with h2
        cases h2
      clear hn1 hown hk hB hd hback
      gi_wp2_with (gi_at_call 113; refine HN1.out.mono ?_; rintro e w2 ⟨rfl, L, hst, hd2, hg2⟩; have hk2 : Blk w2 w.heap.size 62 #[_] := (hg2.block _ HK.out.lt (by simp; omega)).trans HK.out; have hc2 := hk2.cell 0; have HST := Lib.hid hst; have HD2 := Lib.hid hd2; have HG2 := Lib.hid hg2; clear hst hd2 hg2 hk2)
      have hK2 : w2.heap[D]? = some (.deferred (some [])) := (HG2.out.block D (Array.getElem?_eq_some_iff.1 HD.out).1 (by simpa using hDg)).trans HD.out
      have hLy : L.length = ys.length := by have := HST.out.2.1; rw [List.length_map] at this; exact this.symm
      have hown2 := HBK.out w2 L HD2.out (by rw [List.length_map]; exact hLy)
      rw [← hLy] at hown2 ⊢
      refine ⟨by simp, .inl ⟨_, _, rfl, run_takeDeferred hK2, ?_⟩⟩
      exact ⟨_, results_tmp rfl _ _ _, _, ys, L, rfl, hS.1, HST.out, ownsRow_putObj (own_mono hown2 (Nat.le_succ _)) _ hK2 rfl, (HB.out.grown HG2.out HB.out.size (fun k hk => by injection hk with hk; omega)).trans (belowK_b (w := w) (Nat.le_refl _) _ D _ _ HZD.out hK2 rfl rfl)⟩
  case stop =>
    rintro D c pre W _ _ h _
    exact h.elim
end Go.Proofs.Ytdpohibgipkhnaa
namespace Go.Proofs.Ytdpohibgipkhnaa
open Go.RowKit Go.Proofs.Ytdpohibgipkhnaa.Oct Go.Proofs.Ytdpohibgipkhnaa.St

def cntK (ks : List ByteArray) (k : ByteArray) : Nat := (ks.filter fun x => decide (x = k)).length
theorem cntK_snoc (ks : List ByteArray) (k x : ByteArray) : cntK (ks ++ [k]) x = cntK ks x + (if x = k then 1 else 0) := by
  unfold cntK
  rw [List.filter_append, List.length_append]
  congr 1
  by_cases h : x = k
  · subst h; simp
  · rw [if_neg h, List.filter_cons_of_neg (by simpa using fun e => h e.symm)]; rfl
theorem cntK_le (ks : List ByteArray) (k : ByteArray) : cntK ks k ≤ ks.length := List.length_filter_le _ _
theorem cntK_mem {ks : List ByteArray} {k : ByteArray} : 0 < cntK ks k ↔ k ∈ ks := by
  unfold cntK
  rw [List.length_pos_iff_exists_mem]
  constructor
  · rintro ⟨x, hx⟩
    obtain ⟨h1, h2⟩ := List.mem_filter.1 hx
    rw [← of_decide_eq_true h2]; exact h1
  · intro h
    exact ⟨k, List.mem_filter.2 ⟨h, by simp⟩⟩
theorem upd_cnt (ks : List ByteArray) (k : ByteArray) (h : ks.length < 1000000) : updS (cntK ks) k (addSN (cntK ks k) 1) = cntK (ks ++ [k]) := by
  funext x
  unfold updS addSN mostN
  rw [cntK_snoc]
  have h1 := cntK_le ks k
  by_cases e : x = k
  · subst e
    rw [if_pos rfl, if_pos rfl]
    show min (cntK ks x + 1) _ = _
    omega
  · rw [if_neg e, if_neg e]; rfl
/-- The order of rows. -/
def RwLt (x y : ElR) : Prop := y.2 < x.2 ∨ (x.2 = y.2 ∧ x.1.data.toList < y.1.data.toList)
theorem RwLt.irr {x : ElR} (h : RwLt x x) : False := by
  rcases h with h | ⟨_, h⟩
  · omega
  · exact List.lt_irrefl _ h
theorem RwLt.trans {x y z : ElR} (h : RwLt x y) (k : RwLt y z) : RwLt x z := by
  rcases h with h | ⟨h1, h2⟩ <;> rcases k with k | ⟨k1, k2⟩
  · exact .inl (by omega)
  · exact .inl (by omega)
  · exact .inl (by omega)
  · exact .inr ⟨by omega, List.lt_trans h2 k2⟩
/-- L tells how often each of ks is there. -/
structure CountR (ks : List ByteArray) (L : List ElR) : Prop where
  ord : L.Pairwise RwLt
  mem : ∀ p, p ∈ L ↔ (0 < cntK ks p.1 ∧ p.2 = (cntK ks p.1 : Int))
theorem pw_unique {α : Type} {R : α → α → Prop} (irr : ∀ x, ¬ R x x) (tr : ∀ x y z, R x y → R y z → R x z) : ∀ {l r : List α}, l.Pairwise R → r.Pairwise R → (∀ p, p ∈ l ↔ p ∈ r) → l = r
  | [], [], _, _, _ => rfl
  | [], y :: r, _, _, h => absurd ((h y).2 List.mem_cons_self) (by simp)
  | x :: l, [], _, _, h => absurd ((h x).1 List.mem_cons_self) (by simp)
  | x :: l, y :: r, hl, hr, h => by
    have h1 := List.pairwise_cons.1 hl
    have h2 := List.pairwise_cons.1 hr
    have hxy : x = y := by
      rcases List.mem_cons.1 ((h x).1 List.mem_cons_self) with e | e
      · exact e
      · rcases List.mem_cons.1 ((h y).2 List.mem_cons_self) with e2 | e2
        · exact e2.symm
        · exact absurd (tr _ _ _ (h1.1 y e2) (h2.1 x e)) (irr x)
    subst hxy
    have := pw_unique irr tr h1.2 h2.2 (fun p => by
      have hp := h p
      constructor
      · intro hpl
        rcases List.mem_cons.1 (hp.1 (List.mem_cons_of_mem _ hpl)) with e | e
        · subst e; exact absurd (h1.1 p hpl) (irr p)
        · exact e
      · intro hpr
        rcases List.mem_cons.1 (hp.2 (List.mem_cons_of_mem _ hpr)) with e | e
        · subst e; exact absurd (h2.1 p hpr) (irr p)
        · exact e)
    rw [this]
theorem CountR.unique {ks : List ByteArray} {L M : List ElR} (h : CountR ks L) (k : CountR ks M) : L = M :=
  pw_unique (fun _ h => h.irr) (fun _ _ _ h k => h.trans k) h.ord k.ord (fun p => (h.mem p).trans (k.mem p).symm)
theorem CountR.of_rows {ks : List ByteArray} {xs : List RwS} {L : List ElR} (h : IsRowsS (cntK ks) xs) (hs : Sts (ltOR cmpR) (nms xs) L) : CountR ks L where
  ord := by
    rw [List.pairwise_iff_forall_sublist]
    intro x y hxy
    have h1 : ltOR cmpR y x = false := (List.pairwise_iff_forall_sublist.1 hs.1) hxy
    rw [cmpR_lt] at h1
    have h2 : y.2 ≤ x.2 := by simpa using h1
    by_cases h3 : y.2 < x.2
    · exact .inl h3
    · right
      have h4 : x.2 = y.2 := by omega
      refine ⟨h4, ?_⟩
      have e1 : eqv (ltOR cmpR) x x = true := eqv_self cmpR_swo x
      have e2 : eqv (ltOR cmpR) x y = true := by
        unfold eqv
        rw [cmpR_lt, cmpR_lt]
        simp; omega
      have h5 : [x, y].Sublist ((nms xs).filter (eqv (ltOR cmpR) x)) := by
        rw [hs.2.2 x]
        have := hxy.filter (eqv (ltOR cmpR) x)
        rwa [List.filter_cons_of_pos e1, List.filter_cons_of_pos e2, List.filter_nil] at this
      have h6 : (nms xs).Pairwise (fun p q => p.1.data.toList < q.1.data.toList) := List.pairwise_map.2 (h.rise.imp fun hh => hh)
      exact (List.pairwise_iff_forall_sublist.1 h6) (h5.trans List.filter_sublist)
  mem := fun p => by
    have h1 : p ∈ L ↔ p ∈ nms xs := ⟨fun hp => hs.2.symm.mem cmpR_swo hp, fun hp => hs.2.mem cmpR_swo hp⟩
    rw [h1]
    constructor
    · intro hp
      obtain ⟨x, hx, rfl⟩ := List.mem_map.1 hp
      have h2 := h.val x hx
      refine ⟨h2.2, ?_⟩
      show (x.1.2 : Int) = _
      rw [h2.1]; rfl
    · rintro ⟨h2, h3⟩
      obtain ⟨x, hx, e⟩ := h.all p.1 h2
      refine List.mem_map.2 ⟨x, hx, ?_⟩
      have h4 := (h.val x hx).1
      show (x.1.1, (x.1.2 : Int)) = p
      rw [h4, e, ← h3]
/-- What a list of rows that is told leaves. -/
def CntPost (w : World) (ks : List ByteArray) (e : Ending) (w' : World) : Prop :=
  ∃ v L, e = .returned v ∧ CountR ks L ∧ w'.ownsRow w.heap.size 65 2 v L.length (elVR L) ∧ Below w.heap.size w w'
theorem CountR.len {ks : List ByteArray} {L : List ElR} (h : CountR ks L) : L.length ≤ ks.length := by
  have h1 : (L.map (·.1)).Nodup := by
    refine List.pairwise_map.2 (h.ord.imp_of_mem fun {x y} hx hy hxy e => ?_)
    have h2 := (h.mem x).1 hx
    have h3 := (h.mem y).1 hy
    rw [e] at h2
    rcases hxy with h4 | ⟨_, h4⟩
    · omega
    · rw [e] at h4; exact List.lt_irrefl _ h4
  have h2 := List.Nodup.length_le_of_subset h1 (l₂ := ks) (fun k hk => by
    obtain ⟨p, hp, rfl⟩ := List.mem_map.1 hk
    exact cntK_mem.1 ((h.mem p).1 hp).1)
  rwa [List.length_map] at h2
end Go.Proofs.Ytdpohibgipkhnaa
