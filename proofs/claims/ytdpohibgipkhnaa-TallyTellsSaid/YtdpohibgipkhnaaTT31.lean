/-
  THE WALK of a tally's iterator (string): Rows$1, whatever the loop's body is.
  A TALLY's ITERATOR BY ITS CONTRACT (string).
-/
import Derived.Test.YtdpohibgipkhnaaTT24
import Derived.RangeFuncNested
import Derived.RangeFuncBound
import Derived.RangeFuncCalls
import Derived.RangeFuncLeaves
import Derived.Shelf.Abstract
import Derived.Shelf.RegionOpen
import Derived.WalkKit
import Derived.OwnWalkIn
import Derived.TacticsInMore
import Derived.LoopNIn
import Derived.LoopIn
set_option linter.unusedVariables false
set_option linter.unusedSimpArgs false
namespace Go.Proofs.Ytdpohibgipkhnaa
open Go.RowKit Go.Maps Go.Sort Go.Shelf Go.Proofs.Ytdpohibgipkhnaa.Oct
attribute [local go_sem] Oper.semAt_some

/-- What a body that goes on keeps: all cells, maps and walks but those of X. -/
def KeepXS (X : Nat → Obj → Prop) (W W' : World) : Prop := ∀ b o, W.heap[b]? = some o → (o.isCells = true ∨ o.isWalk = true) → ¬ X b o → W'.heap[b]? = some o
section
variable {X : Nat → Obj → Prop} {w w' : World}
theorem KeepXS.trans {A B C : World} (h : KeepXS X A B) (k : KeepXS X B C) : KeepXS X A C := fun b o h1 h2 h3 => k b o (h b o h1 h2 h3) h2 h3
theorem keepXS_b {w0 : World} (W : World) (l : Nat) (o o' : Obj) (_ : w0.heap.size ≤ l) (h : W.heap[l]? = some o) (hc : o.isCells = false) (hw : o.isWalk = false) : KeepXS X W (W.putObj l o') := by
  intro b p hb hp _
  by_cases e : b = l
  · subst e
    rw [h] at hb
    injection hb with hb
    subst hb
    rcases hp with hp | hp
    · rw [hc] at hp; cases hp
    · rw [hw] at hp; cases hp
  · rw [(grownBy_putObj' W l o').block b (Array.getElem?_eq_some_iff.1 hb).1 (by simpa using e)]
    exact hb
theorem KeepXS.of_below {B : Nat} (h : Below B w w') (hX : ∀ b o, ¬ X b o → w.heap[b]? = some o → b < B) : KeepXS X w w' := fun b o hb _ hx => (h.block b (hX b o hx hb)).trans hb
theorem KeepXS.blk {g : Nat} {T : TypeId} {cs : Array Value} (h : KeepXS X w w') (hb : Blk w g T cs) (hx : ¬ X g (.cells cs T)) : Blk w' g T cs := h g _ hb (.inl rfl) hx
theorem KeepXS.map {P : Program} {k : TypeId} {R : Value → Option (DataW Unit × List MemPlace)} {b n : Nat} {D : DataW Unit} (h : KeepXS X w w') (hm : w.ownsMap P k R b n D) (hx : ∀ es c, ¬ X b (.map es c)) : w'.ownsMap P k R b n D := by
  obtain ⟨es, clock, hb, F, hs, hD⟩ := hm
  exact ⟨es, clock, h b _ hb (.inr rfl) (hx _ _), F, hs, hD⟩
end

/-- A row that is told: a key, and how often. -/
abbrev RwS := { x : KyS × Nat // kySO x.1 ∧ x.2 ≤ mostN }
def rwVS (x : RwS) : Array Value := #[kySV x.1.1, .int .i64 (x.1.2 : Nat)]
open Classical in
noncomputable def rwOfS (f : KyS → Nat) (k : KyS) : Option RwS := if h : 0 < f k ∧ kySO k ∧ f k ≤ mostN then some ⟨(k, f k), h.2⟩ else none
theorem rwOfS_some {f : KyS → Nat} {k : KyS} (h : 0 < f k) (ho : kySO k) (hm : f k ≤ mostN) : rwOfS f k = some ⟨(k, f k), ho, hm⟩ := by unfold rwOfS; rw [dif_pos ⟨h, ho, hm⟩]
theorem rwOfS_none {f : KyS → Nat} {k : KyS} (h : f k = 0) : rwOfS f k = none := by unfold rwOfS; rw [dif_neg (fun h2 => by omega)]
/-- All that is counted, the keys rising. -/
structure IsRowsS (f : KyS → Nat) (xs : List RwS) : Prop where
  rise : xs.Pairwise (fun x y => ltS x.1.1 y.1.1)
  val : ∀ x ∈ xs, x.1.2 = f x.1.1 ∧ 0 < f x.1.1
  all : ∀ k, 0 < f k → ∃ x ∈ xs, x.1.1 = k
noncomputable def rwsS (f : KyS → Nat) (L : List KyS) : List RwS := L.filterMap (rwOfS f)
theorem rwsS_mem {f : KyS → Nat} {L : List KyS} {x : RwS} (h : x ∈ rwsS f L) : x.1.1 ∈ L ∧ x.1.2 = f x.1.1 ∧ 0 < f x.1.1 := by
  obtain ⟨k, hk, he⟩ := List.mem_filterMap.1 h
  unfold rwOfS at he
  split at he
  · rename_i h3
    injection he with he
    subst he
    exact ⟨hk, rfl, h3.1⟩
  · cases he
theorem rwsS_rise {f : KyS → Nat} : ∀ {L : List KyS}, L.Pairwise ltS → (rwsS f L).Pairwise (fun x y => ltS x.1.1 y.1.1)
  | [], _ => List.Pairwise.nil
  | k :: L, h => by
    have ih := rwsS_rise (f := f) (List.pairwise_cons.1 h).2
    unfold rwsS at ih ⊢
    rw [List.filterMap_cons]
    split
    · exact ih
    · rename_i x hx
      refine List.pairwise_cons.2 ⟨fun y hy => ?_, ih⟩
      have h1 := (rwsS_mem (L := L) hy).1
      have h2 : x.1.1 = k := by
        unfold rwOfS at hx
        split at hx
        · injection hx with hx; rw [← hx]
        · cases hx
      rw [h2]
      exact (List.pairwise_cons.1 h).1 _ h1
theorem rwsS_is {f : KyS → Nat} {L : List KyS} (h1 : L.Pairwise ltS) (h2 : ∀ k, 0 < f k → k ∈ L) (h3 : ∀ k ∈ L, kySO k) (h4 : ∀ k, f k ≤ mostN) : IsRowsS f (rwsS f L) where
  rise := rwsS_rise h1
  val := fun x hx => ⟨(rwsS_mem hx).2.1, (rwsS_mem hx).2.2⟩
  all := fun k hk => ⟨⟨(k, f k), h3 k (h2 k hk), h4 k⟩, List.mem_filterMap.2 ⟨k, h2 k hk, rwOfS_some hk (h3 k (h2 k hk)) (h4 k)⟩, rfl⟩
theorem rwsS_take {f : KyS → Nat} {L : List KyS} (j : Nat) (hj : j < L.length) : rwsS f (L.take (j + 1)) = rwsS f (L.take j) ++ (rwOfS f L[j]).toList := by
  unfold rwsS
  rw [List.take_succ_eq_append_getElem hj, List.filterMap_append]
  cases h : rwOfS f L[j] <;> simp [h]
theorem rwsS_len (f : KyS → Nat) (L : List KyS) : (rwsS f L).length ≤ L.length := List.length_filterMap_le _ _
theorem rwsS_pre (f : KyS → Nat) (L : List KyS) (j : Nat) : rwsS f (L.take j) <+: rwsS f L := by
  refine ⟨rwsS f (L.drop j), ?_⟩
  unfold rwsS
  rw [← List.filterMap_append, List.take_append_drop]

/-- A tally by its pointer, nil too. -/
def TalPS (w : World) (base : Nat) (po : Option Addr) (n : Nat) (f : KyS → Nat) : Prop := (po = none ∧ ∀ k, f k = 0) ∨ ∃ a, po = some ⟨a, 0, none⟩ ∧ TalS w base a n f
/-- What the iterator reads between two rounds. -/
structure ItrS (w : World) (bt a mb g base n : Nat) (f : KyS → Nat) (L : List KyS) (D : DataW Unit) : Prop where
  box : Blk w bt 105 #[.pointer (some ⟨a, 0, none⟩)]
  tal : Blk w a 102 #[.map (some mb)]
  map : w.ownsMap Try.prog 9 (plainElem Try.prog 3) mb n D
  hat : ∀ k, D.atKey (kySL k) (.lit (.int .i64 0)) = .lit (.int .i64 (f k))
  key : ∃ cs, Blk w g 9 cs ∧ ∀ j (h : j < L.length), cs[j]? = some (kySV L[j])

set_option maxRecDepth 100000 in
set_option maxHeartbeats 3200000 in
theorem ritS_in (X : Nat → Obj → Prop) (l bt base nn : Nat) (po : Option Addr) (f : KyS → Nat) (hnn : nn ≤ 1000000) (J Jx : List RwS → World → Prop)
    (hY : ∀ pre x W, J pre W → pre.length < nn → YieldAt Fence.wide 5 Try.prog l (rwVS x) W fun e W' =>
      (e = .returned (.bool true) ∧ J (pre ++ [x]) W' ∧ KeepXS X W W') ∨ (e = .returned (.bool false) ∧ Jx (pre ++ [x]) W'))
    (W : World) (hbt : Blk W bt 105 #[.pointer po]) (hT : TalPS W base po nn f) (hJ : AbidesFrom W.heap.size J)
    (hX1 : ∀ cs, ¬ X bt (.cells cs 105)) (hX2 : ∀ b cs, ¬ X b (.cells cs 102)) (hX3 : ∀ b es c, ¬ X b (.map es c)) (hX4 : ∀ b cs, W.heap.size ≤ b → ¬ X b (.cells cs 9)) (h0 : J [] W) :
    CallsIn Fence.wide 6 Try.prog 126 #[.func (.yield l) #[] #[], .pointer (some ⟨bt, 0, none⟩)] W fun e W' => (∃ v, e = .returned v) ∧
      ((∃ xs, (IsRowsS f xs ∧ xs.length ≤ nn) ∧ J xs W') ∨ (∃ pre, (∃ xs, IsRowsS f xs ∧ pre <+: xs) ∧ Jx pre W')) := by
  have cK : ∀ mb W', CallsIn Fence.wide 5 Try.prog 128 #[.map mb] W' fun e w' => e = .returned (.func (.func 149) #[] #[.pointer (some ⟨W'.heap.size, 0, none⟩)]) ∧ w' = W'.alloc (.cells #[.map mb] 95) := mkeysS_in
  have hfK : Fence.wide.fn 128 := trivial
  have hfS : Fence.wide.fn 127 := trivial
  have hcb := hbt.cell 0
  have hfb := hbt.frozen 0
  rcases hT with ⟨rfl, hf0⟩ | ⟨a, rfl, hT⟩
  · refine callsIn_of_wp Try.func126 rfl trivial ?_ rfl
    simp only [Try.ntmps126, List.size_toArray, List.length_cons, List.length_nil, Nat.reduceAdd, Nat.reduceSub, Array.replicate_succ, Array.replicate_zero, List.push_toArray, List.append_toArray, List.nil_append, List.cons_append]
    gi_wp2
    refine bodyPost_ret (results_none rfl _ _ _) rfl ?_
    exact ⟨⟨_, rfl⟩, .inl ⟨[], ⟨⟨List.Pairwise.nil, fun x hx => by simp at hx, fun k hk => by rw [hf0 k] at hk; omega⟩, Nat.zero_le _⟩, h0⟩⟩
  · have hT0 := hT
    have hle := hT.le
    obtain ⟨mo, hta, _, hcase⟩ := hT
    have hca := hta.cell 0
    have cS := tkeysS_in W base a nn f hnn hT0 mo hca
    have HcS := Lib.hid cS
    have HY := Lib.hid hY
    have HJ := Lib.hid hJ
    have HJ0 := Lib.hid h0
    clear cS hY hJ h0 hT0
    refine callsIn_of_wp Try.func126 rfl trivial ?_ rfl
    simp only [Try.ntmps126, List.size_toArray, List.length_cons, List.length_nil, Nat.reduceAdd, Nat.reduceSub, Array.replicate_succ, Array.replicate_zero, List.push_toArray, List.append_toArray, List.nil_append, List.cons_append]
    gi_wp2_with (gi_at_call 128; refine (cK _ _).mono ?_; rintro e w' ⟨rfl, rfl⟩)
    refine HcS.out.mono ?_
    rintro e w1 ⟨v, L, rfl, hrow, hri, hal, hok, hln, hnl, hb1⟩
    have HOK := Lib.hid hok
    have HLE := Lib.hid hle
    have hIR := rwsS_is hri hal hok hle
    have HIR := Lib.hid hIR
    have HLN : Hid ((rwsS f L).length ≤ nn) := Nat.le_trans (rwsS_len f L) hln
    have hBW : Below W.heap.size W w1 := ((Below.refl _ W).alloc (Nat.le_refl _) _).trans (hb1.mono (by simp))
    have HBW := Lib.hid hBW
    have hJ1 : J [] w1 := HJ.out _ _ _ none HJ0.out ⟨hBW.os, hBW.tape, hBW.output, hBW.size, fun k hk _ => hBW.block k hk⟩ (fun r e => by cases e)
    have HJ1 := Lib.hid hJ1
    rcases hrow.2 with ⟨rfl, hL0⟩ | ⟨g, cap, cur, rfl, hg, hgb, hnc, hcm, hsz, htk⟩
    · have hLn : L = [] := List.eq_nil_of_length_eq_zero hL0
      subst hLn
      have hxs : rwsS f ([] : List KyS) = [] := rfl
      rw [hxs] at HIR
      clear hrow hri hal hok hle hb1 hIR hBW hJ1 hL0 hcase
      gi_wp2
      gi_loopw [14] (fun i wr => i = .int .i64 0 ∧ wr = w1) (fun _ _ => 0)
      case atStart => exact ⟨rfl, rfl⟩
      case round =>
        obtain ⟨rfl, rfl⟩ := hrel
        gi_wp2
        go_end0
        exact ⟨⟨_, rfl⟩, .inl ⟨[], ⟨HIR.out, Nat.zero_le _⟩, HJ1.out⟩⟩
    · by_cases hLn : L = []
      · subst hLn
        have hxs : rwsS f ([] : List KyS) = [] := rfl
        rw [hxs] at HIR
        clear hrow hri hal hok hle hb1 hIR hBW hJ1 hcase hsz htk
        gi_wp2
        gi_loopw [14] (fun i wr => i = .int .i64 0 ∧ wr = w1) (fun _ _ => 0)
        case atStart => exact ⟨rfl, rfl⟩
        case round =>
          obtain ⟨rfl, rfl⟩ := hrel
          gi_wp2
          go_end0
          exact ⟨⟨_, rfl⟩, .inl ⟨[], ⟨HIR.out, Nat.zero_le _⟩, HJ1.out⟩⟩
      · rcases hcase with ⟨rfl, _⟩ | ⟨mb, D, rfl, hmb, hne, hown, hat⟩
        · exact absurd (hnl rfl) hLn
        · have hkc : ∀ j (h : j < L.length), cur[j]? = some (kySV L[j]) := by
            intro j h
            have h1 := congrArg (fun l => l[j]?) htk
            simp only [Nat.mul_one] at h1
            rw [List.getElem?_take_of_lt h, List.getElem?_map, List.getElem?_eq_getElem h] at h1
            simpa using h1
          have hIt : ItrS w1 bt a mb g base nn f L D := ⟨hbt.below hBW hbt.lt, hta.below hBW hta.lt, mblockS hown (hBW.block _ hown.lt), hat, cur, hgb, hkc⟩
          have HIT := Lib.hid hIt
          have HX4 : Hid (∀ cs, ¬ X g (.cells cs 9)) := fun cs => hX4 g cs (by have := hg; simp at this; omega)
          have HX1 := Lib.hid hX1
          have HX2 := Lib.hid hX2
          have HX3 := Lib.hid hX3
          have hlen1 : L.length ≤ 1000000 := by omega
          clear hrow hri hal hok hle hb1 hIR hBW hJ1 hsz htk hat hown hkc hIt hX1 hX2 hX3 hX4 hgb hta hbt hca hcb hfb hLn hnl
          gi_wp2
          gi_loopw [14] (fun i wr => ∃ q : Nat, q ≤ L.length ∧ i = .int .i64 q ∧ Hid (J (rwsS f (L.take q)) wr) ∧ Hid (ItrS wr bt a mb g base nn f L D)) (fun i _ => L.length - (intOf i).toNat)
          case atStart => exact ⟨0, Nat.zero_le _, rfl, HJ1.out, HIT.out⟩
          case round =>
            clear HIT HJ1
            obtain ⟨q, hq, rfl, hJq, hit⟩ := hrel
            by_cases hql : q < L.length
            · obtain ⟨k, hk⟩ : ∃ k, k = L[q] := ⟨_, rfl⟩
              have hko : kySO k := HOK.out k (by rw [hk]; exact List.getElem_mem hql)
              have hkey : keyOf Try.prog 9 (kySV k) = some (kySL k) := Go.WideMaps.keyOf_string_mk Try.underlying9 hko
              obtain ⟨cs, hgb, hcs⟩ := hit.out.key
              have c1 := hit.out.box.cell 0
              have c2 := hit.out.tal.cell 0
              have c3 : wr.cell? ⟨g, q, none⟩ = some (kySV k) := (hgb.cell q).trans (by rw [hk]; exact hcs q hql)
              obtain ⟨c, hrun, hat2, _⟩ := hit.out.map.lookup_int key_talS Try.underlying95 Try.underlying3 (zintS wr) hkey
              obtain rfl : c = ((f k : Nat) : Int) := by have h := hat2.symm.trans (hit.out.hat k); injection h with h; injection h
              have htk := rwsS_take (f := f) q hql
              rw [← hk] at htk
              have hlr : (rwsS f (L.take q)).length < nn := by have := rwsS_len f (L.take q); have := List.length_take_le q L; omega
              have k1 : (0 : Int) ≤ (q : Int) := by omega
              have k2 : (q : Int) < (L.length : Int) := by omega
              by_cases hf0 : 0 < f k
              · rw [rwOfS_some hf0 hko (HLE.out k)] at htk
                have HTK : Hid (rwsS f (L.take (q + 1)) = rwsS f (L.take q) ++ [⟨(k, f k), hko, HLE.out k⟩]) := htk
                obtain ⟨fn, tmps, assign, body, hy, hR⟩ := HY.out (rwsS f (L.take q)) ⟨(k, f k), hko, HLE.out k⟩ wr hJq.out hlr
                dsimp only [rwVS] at hy
                have HPRE : Hid (rwsS f (L.take (q + 1)) <+: rwsS f L) := rwsS_pre f L (q + 1)
                have k3 : (0 : Int) < ((f k : Nat) : Int) := by omega
                clear htk hk hcs hat2 hgb hkey
                gi_wp2
                refine hR.mono ?_
                rintro e W3 (⟨rfl, hJ3, hk3⟩ | ⟨rfl, hJx3⟩)
                · have HJ3 : Hid (J (rwsS f (L.take (q + 1))) W3) := by show J _ _; rw [HTK.out]; exact hJ3
                  have HIT3 : Hid (ItrS W3 bt a mb g base nn f L D) := by
                    obtain ⟨cs, hgb, hcs⟩ := hit.out.key
                    exact ⟨hk3.blk hit.out.box (HX1.out _), hk3.blk hit.out.tal (HX2.out _ _), hk3.map hit.out.map (HX3.out _), hit.out.hat, cs, hk3.blk hgb (HX4.out _), hcs⟩
                  clear hJ3 hk3 hy hR
                  gi_wp2
                  go_roundw
                  case rel => exact ⟨q + 1, by omega, by go_num, HJ3.out, HIT3.out⟩
                  case measure => simp [intOf]; omega
                · have HJX : Hid (Jx (rwsS f (L.take (q + 1))) W3) := by show Jx _ _; rw [HTK.out]; exact hJx3
                  clear hJx3 hy hR
                  gi_wp2
                  refine bodyPost_ret (results_none rfl _ _ _) rfl ?_
                  exact ⟨⟨_, rfl⟩, .inr ⟨_, ⟨_, HIR.out, HPRE.out⟩, HJX.out⟩⟩
              · obtain hf0' : f k = 0 := by omega
                rw [rwOfS_none hf0'] at htk
                have HTK : Hid (rwsS f (L.take (q + 1)) = rwsS f (L.take q)) := by show _ = _; rw [htk]; simp
                have k3 : ((f k : Nat) : Int) = 0 := by omega
                clear htk hk hcs hat2 hgb hkey
                have HJ3 : Hid (J (rwsS f (L.take (q + 1))) wr) := by show J _ _; rw [HTK.out]; exact hJq.out
                gi_wp2
                refine ⟨fun _ h => (by cases h), ?_⟩
                gi_wp2
                go_roundw
                case rel => exact ⟨q + 1, by omega, by go_num, HJ3.out, hit.out⟩
                case measure => simp [intOf]; omega
            · obtain rfl : L.length = q := by omega
              have hJ9 := hJq.out
              rw [List.take_length] at hJ9
              have HJ9 := Lib.hid hJ9
              clear hJ9
              gi_wp2
              go_end0
              exact ⟨⟨_, rfl⟩, .inl ⟨_, ⟨HIR.out, HLN.out⟩, HJ9.out⟩⟩
end Go.Proofs.Ytdpohibgipkhnaa
namespace Go.Proofs.Ytdpohibgipkhnaa
open Go.RowKit Go.Maps Go.Sort Go.Shelf Go.Proofs.Ytdpohibgipkhnaa.Oct
attribute [local go_sem] Oper.semAt_some

theorem TalPS.below {w w' : World} {base n : Nat} {po : Option Addr} {f : KyS → Nat} (h : TalPS w base po n f) (hb : Below w.heap.size w w') : TalPS w' base po n f := by
  rcases h with h | ⟨a, h1, h2⟩
  · exact .inl h
  · exact .inr ⟨a, h1, h2.below hb⟩
theorem ritS_stops (X : Nat → Obj → Prop) (bt base nn : Nat) (po : Option Addr) (f : KyS → Nat) (hnn : nn ≤ 1000000) (w : World) (hbt : Blk w bt 105 #[.pointer po]) (hT : TalPS w base po nn f)
    (hX1 : ∀ cs, ¬ X bt (.cells cs 105)) (hX2 : ∀ b cs, ¬ X b (.cells cs 102)) (hX3 : ∀ b es c, ¬ X b (.map es c)) (hX4 : ∀ b cs, w.heap.size ≤ b → ¬ X b (.cells cs 9)) :
    SeqStopsK Fence.wide 6 Try.prog 126 #[.pointer (some ⟨bt, 0, none⟩)] rwVS (KeepXS X) (fun xs => IsRowsS f xs ∧ xs.length ≤ nn) (fun pre => ∃ xs, IsRowsS f xs ∧ pre <+: xs) nn w :=
  fun l J Jx W hW hJ _ hY h0 => ritS_in X l bt base nn po f hnn J Jx hY W (hbt.below hW hbt.lt) (hT.below hW) hJ hX1 hX2 hX3 (fun b cs hb => hX4 b cs (Nat.le_trans hW.size hb)) h0
/-- What rows come to. -/
def sumRS (xs : List RwS) : Nat := (xs.map fun x => x.1.2).sum
theorem sumRS_snoc (xs : List RwS) (x : RwS) : sumRS (xs ++ [x]) = sumRS xs + x.1.2 := by simp [sumRS]
theorem sumRS_le (xs : List RwS) : sumRS xs ≤ xs.length * mostN := by
  induction xs with
  | nil => simp [sumRS]
  | cons x xs ih =>
    have h1 := x.2.2
    have h2 : sumRS (x :: xs) = x.1.2 + sumRS xs := by simp [sumRS]
    rw [h2, List.length_cons, Nat.add_mul]
    omega
theorem blk_keptS {A B : World} {row : Option Nat} {g : Nat} {T : TypeId} {cs : Array Value} (h : Blk A g T cs) (hg : A.grownBy B row) (hr : ∀ r, row = some r → ∃ o : Obj, A.heap[r]? = some o ∧ o.isCells = false) : Blk B g T cs :=
  (hg.block g h.lt (fun e => by
    obtain ⟨o, ho, hco⟩ := hr _ e.symm
    have h2 := ho.symm.trans h
    injection h2 with h2
    subst h2
    cases hco)).trans h
end Go.Proofs.Ytdpohibgipkhnaa
