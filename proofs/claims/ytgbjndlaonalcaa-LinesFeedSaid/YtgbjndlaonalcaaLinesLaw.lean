/-
  THE WALK of abutmentlaw16.feed: all lines of some texts, one behind the other.
-/
import Derived.Test.YtgbjndlaonalcaaLinesLives
import Derived.Test.YtgbjndlaonalcaaLinesJoin
namespace Go.Proofs.Ytgbjndlaonalcaa
open Go.RowKit Go.Proofs.Ytgbjndlaonalcaa.Lin

theorem info_str : (Try.prog.info? 9).map (fun i => (i.zero, i.size, i.bytes)) = some (some (.string ⟨#[]⟩), 1, 16) := by kernel_rfl

/-- The texts' octets, as far as k. -/
def catTo (ss : List ByteArray) (k : Nat) : List UInt8 := (joinTo ss k).data.toList
theorem catTo_zero (ss : List ByteArray) : catTo ss 0 = [] := rfl
theorem catTo_succ (ss : List ByteArray) (k : Nat) : catTo ss (k + 1) = catTo ss k ++ (ss.getD k ⟨#[]⟩).data.toList := by
  show (joinTo ss k ++ ss.getD k ⟨#[]⟩).data.toList = _
  rw [ByteArray.data_append, Array.toList_append]
  rfl
theorem catTo_mono (ss : List ByteArray) (k : Nat) : ∀ n, k ≤ n → (catTo ss k).length ≤ (catTo ss n).length := by
  intro n h
  induction n with
  | zero => obtain rfl : k = 0 := by omega
            exact Nat.le_refl _
  | succ n ih =>
    by_cases hk : k = n + 1
    · rw [hk]; exact Nat.le_refl _
    · have := ih (by omega)
      rw [catTo_succ, List.length_append]
      omega
def mkLines (l : List (List UInt8)) : List ByteArray := l.map fun x => ⟨x.toArray⟩

/-- The texts handed in stay as they are while the object b is fed. -/
def Keeps (w : World) (B b : Nat) (x : Option Addr) : Prop := ∀ wr, Below B w wr → Lib.OthersKept 5 (some b) w wr → ∀ pb po, x = some ⟨pb, po, none⟩ → ∀ i, wr.cell? ⟨pb, po + i, none⟩ = w.cell? ⟨pb, po + i, none⟩
theorem Keeps.of_low {w : World} {B b : Nat} {x : Option Addr} (h : ∀ p, x = some p → p.block < B) : Keeps w B b x := fun _ hb _ pb po hx i => hb.cell (p := ⟨pb, po + i, none⟩) (show pb < B from h _ hx)
theorem Keeps.of_new {w : World} {B b g : Nat} {cs : Array Value} {fr : Nat × Nat} (hg : w.heap[g]? = some (.cells cs 9 fr)) (hne : g ≠ b) : Keeps w B b (some ⟨g, 0, none⟩) := by
  intro wr _ ho pb po hx i
  cases hx
  exact World.cell?_of_block (w := w) (a := ⟨g, 0 + i, none⟩) ((ho g _ hg (fun e => hne (Option.some.inj e)) (fun c fz e => by simp at e)).trans hg.symm)

/-- What feed leaves. -/
def FedLeft (w : World) (B b : Nat) (R : List (List UInt8) × Nat × Nat × St) (e : Ending) (w' : World) : Prop :=
  ∃ g cap, e = .returned (.tuple #[.slice (some ⟨g, 0, none⟩) R.1.length cap, .int .i64 R.2.1, .int .i64 R.2.2.1]) ∧
    w'.ownsRow w.heap.size 9 1 (.slice (some ⟨g, 0, none⟩) R.1.length cap) R.1.length (strVals (mkLines R.1)) ∧ LinLeft w w' B b R.2.2.2

/-- What is kept of the old stays kept while a row of the call's own, new since, is written. -/
theorem others_grown {e b : Nat} {w a a' : World} {row : Option Nat} (h : Lib.OthersKept e (some b) w a) (hg : a.grownBy a' row) (hr : ∀ g, row = some g → w.heap.size ≤ g) : Lib.OthersKept e (some b) w a' := by
  intro k o hk hb ho
  have h1 := h k o hk hb ho
  have hlt : k < a.heap.size := lt_of_block h1
  have hkw : k < w.heap.size := lt_of_block hk
  rw [hg.block k hlt (fun e => by have := hr k e.symm; omega)]
  exact h1
theorem IsLines.kept {w w' : World} {B b : Nat} {s : St} {row : Option Nat} (h : IsLines w B b s) (hg : w.grownBy w' row) (hr : ∀ g, row = some g → ∃ c fz, w.heap[g]? = some (.cells c 9 fz)) : IsLines w' B b s := by
  obtain ⟨h1, h2, v, h3, h4⟩ := h
  refine ⟨h1, h2, v, (hg.block b (lt_of_block h3) (fun e => ?_)).trans h3, h4.kept hg ?_⟩
  · obtain ⟨c, fz, hc⟩ := hr b e.symm
    rw [hc] at h3
    simp at h3
  · cases hv : v.ownBlock with
    | none => exact .inl rfl
    | some g =>
      right
      intro e
      obtain ⟨c, fz, hc⟩ := hr g e.symm
      obtain ⟨c2, fz2, hc2⟩ := own_kind h4 g hv
      rw [hc] at hc2
      simp at hc2

theorem own_others {w w' : World} {B b n : Nat} {v : Value} {xs : List Value} {s : St} {B' : Nat} (h : w.ownsRow B 9 1 v n xs) (ho : Lib.OthersKept 5 (some b) w w') (hi : IsLines w B' b s) : w'.ownsRow B 9 1 v n xs := by
  refine ⟨h.1, ?_⟩
  rcases h.2 with h2 | ⟨g, cap, cur, hv, hg, hh, r⟩
  · exact .inl h2
  · refine .inr ⟨g, cap, cur, hv, hg, ho g _ hh ?_ ?_, r⟩
    · intro e
      obtain ⟨_, _, v2, h3, _⟩ := hi
      rw [← Option.some.inj e, hh] at h3
      simp at h3
    · intro c fz e
      simp at e
theorem LinLeft.grown {w a a' : World} {B b : Nat} {s : St} {v : Value} {n : Nat} {xs : List Value} (h : LinLeft w a B b s) (hB : B ≤ w.heap.size) (hown : a.ownsRow w.heap.size 9 1 v n xs) (hg : a.grownBy a' v.ownBlock) : LinLeft w a' B b s := by
  have hr : ∀ k, v.ownBlock = some k → w.heap.size ≤ k := fun k hk => (hown.lt k hk).1
  exact ⟨h.1.kept hg (own_kind hown), h.2.1.grown hg (Nat.le_trans hB h.size) (fun k hk => Nat.le_trans hB (hr k hk)), others_grown h.2.2 hg hr⟩
theorem run_stop (ss : List ByteArray) (s : St) (k : Nat) (h : (run s (catTo ss k)).2.2.1 ≠ 0) : ∀ n, k ≤ n → run s (catTo ss n) = run s (catTo ss k) := by
  intro n hn
  induction n with
  | zero => obtain rfl : k = 0 := by omega
            rfl
  | succ n ih =>
    by_cases hk : k = n + 1
    · rw [hk]
    · have e := ih (by omega)
      rw [catTo_succ, run_append, e, if_neg h]
theorem extract_rest (u : ByteArray) (n : Nat) : (u.extract n u.size).data.toList = u.data.toList.drop n := by
  rw [ByteArray.data_extract, Array.toList_extract]
  simp only [List.extract_eq_take_drop]
  rw [List.take_of_length_le (by simp)]

set_option maxRecDepth 100000 in
set_option maxHeartbeats 1600000 in
theorem feedlaw_any (x : Option Addr) (len cap : Nat) (ss : List ByteArray) (w : World) (B b : Nat) (s : St) (hB0 : B ≤ w.heap.size) (hx : StrsArg w x len ss) (hxB : len = 0 ∨ Keeps w B b x)
    (his : IsLines w B b s) (hw0 : s.whole = false) (he0 : s.e = 0) (hsmall : (joinTo ss ss.length).size ≤ 4000) :
    Calls Try.prog 18 #[.pointer (some ⟨b, 0, none⟩), .slice x len cap] w (FedLeft w B b (run s (catTo ss ss.length))) := by
  obtain ⟨hl, hlm, hsz, hx⟩ := hx
  obtain ⟨i0, hi, hz⟩ := info_hid info_str
  have HL := Lib.hid hl
  have HX := Lib.hid hx
  have HZ := Lib.hid hsz
  have HI := Lib.hid his
  have HS := Lib.hid hsmall
  have HW := Lib.hid hw0
  have HE := Lib.hid he0
  have HXB := Lib.hid hxB
  clear hl hx hsz his hsmall hw0 he0 hxB
  go_enter Try.func18, Try.ntmps18
  go_wp2
  go_loopg [7, 8, 16] len (fun g v7 v8 v16 wr => ∃ (k : Nat) (outs : List (List UInt8)) (used : Nat) (sk : St) (g' c' : Nat), k + g = len ∧ v16 = .int .i64 k ∧ v7 = .slice (some ⟨g', 0, none⟩) outs.length c' ∧ v8 = .int .i64 used ∧
    wr.ownsRow w.heap.size 9 1 (.slice (some ⟨g', 0, none⟩) outs.length c') outs.length (strVals (mkLines outs)) ∧ LinLeft w wr B b sk ∧ Hid (run s (catTo ss k) = (outs, used, 0, sk)))
  case atStart =>
    refine ⟨0, [], 0, s, _, _, by omega, rfl, rfl, rfl, World.ownsRow_lit w #[] 0 (Nat.le_refl _) (by decide) rfl, ?_, rfl⟩
    exact ⟨HI.out.below ((Below.refl _ _).alloc (Nat.le_refl _) _), (Below.refl _ _).alloc hB0 _, (Lib.OthersKept.refl _ _ _).alloc _⟩
  case round =>
    obtain ⟨k, outs, used, sk, g', c', hkg, rfl, rfl, rfl, hown, hleft, hrun⟩ := hrel
    have HO := Lib.hid hown
    have HLf := Lib.hid hleft
    clear hown hleft
    obtain ⟨wo, hwo⟩ : ∃ wo, wo = wr := ⟨_, rfl⟩
    subst hwo
    obtain ⟨go, hgo⟩ : ∃ go, go = gk := ⟨_, rfl⟩
    subst hgo
    by_cases hlt : k < len
    · obtain ⟨pb, po, hx0, hbl, hc⟩ := HX.out.resolve_left (by omega)
      have hks : k < ss.length := by rw [HL.out]; exact hlt
      obtain ⟨t, ht⟩ : ∃ t, t = ss[k] := ⟨_, rfl⟩
      have hcell : wo.cell? ⟨pb, po + k, none⟩ = some (.string t) := by
        rw [ht]
        exact (HXB.out.resolve_left (by omega) _ HLf.out.2.1 HLf.out.2.2 _ _ hx0 k).trans (hc k hks)
      have hgd : ss.getD k ⟨#[]⟩ = t := by rw [getD_lt ss k hks, ht]
      have htz : t.size ≤ 9223372036854775807 := by rw [ht]; exact HZ.out _ (List.getElem_mem hks)
      have hclean := run_clean (catTo ss k) s HW.out HE.out (by rw [hrun.out])
      rw [hrun.out] at hclean
      have hrun1 : run s (catTo ss (k + 1)) = (outs ++ (run sk t.data.toList).1, used + (run sk t.data.toList).2.1, (run sk t.data.toList).2.2) := by
        rw [catTo_succ, hgd, run_append, hrun.out]
        rfl
      have hlen1 : (catTo ss (k + 1)).length ≤ 4000 := by
        have h1 := catTo_mono ss (k + 1) ss.length (by omega)
        have h2 : (catTo ss ss.length).length = (joinTo ss ss.length).size := by unfold catTo; simp
        have := HS.out
        omega
      have hfew := run_few (catTo ss (k + 1)) s HW.out
      have hlin := run_lines (catTo ss (k + 1)) s
      have HR := Lib.hid hrun1
      have HC := Lib.hid hclean
      have HN := Lib.hid (And.intro hlen1 (And.intro hfew hlin))
      clear hrun1 hclean hlen1 hfew hlin ht hgd hc
      subst hx0
      go_wp2
      go_loopg [7, 8, 10] t.size (fun g v7 v8 v10 wi => ∃ (u : ByteArray) (outs' : List (List UInt8)) (used' : Nat) (sk' : St) (g'' c'' : Nat), u.size ≤ g ∧ u.size ≤ t.size ∧ v10 = .string u ∧ v7 = .slice (some ⟨g'', 0, none⟩) outs'.length c'' ∧ v8 = .int .i64 used' ∧
        wi.ownsRow w.heap.size 9 1 (.slice (some ⟨g'', 0, none⟩) outs'.length c'') outs'.length (strVals (mkLines outs')) ∧ LinLeft w wi B b sk' ∧ Hid (sk'.whole = false ∧ sk'.e = 0) ∧
        Hid (run s (catTo ss (k + 1)) = (outs' ++ (run sk' u.data.toList).1, used' + (run sk' u.data.toList).2.1, (run sk' u.data.toList).2.2)))
      case atStart => exact ⟨t, outs, used, sk, _, _, Nat.le_refl _, Nat.le_refl _, rfl, rfl, rfl, HO.out, HLf.out, ⟨HC.out.1, HC.out.2.1⟩, HR.out⟩
      case round =>
        obtain ⟨u, outs', used', sk', g'', c'', hug, hut, rfl, rfl, rfl, hown', hleft', hwe, hrun'⟩ := hrel
        have HO' := Lib.hid hown'
        have HL' := Lib.hid hleft'
        have zi : w.heap.size ≤ wr.heap.size := hleft'.size
        clear hown' hleft'
        have hle1 : outs'.length + (run sk' u.data.toList).1.length ≤ 2000 := by
          have := HN.out.2.1
          rw [hrun'.out] at this
          have := HN.out.1
          simp only [List.length_append] at *
          have : (if s.turn = true then 1 else 0) ≤ 1 := by split <;> omega
          omega
        have hle2 : used' + (run sk' u.data.toList).2.1 ≤ 4000 := by
          have := HN.out.2.2.2
          rw [hrun'.out] at this
          have := HN.out.1
          simp only at *
          omega
        have husz : u.size ≤ 9223372036854775807 := by
          omega
        by_cases h0 : 0 < u.size
        · have n1 := toList_some u h0
          obtain ⟨n, st1, hU⟩ : ∃ n st1, feedSt sk' u.data.toList = (n, st1) := ⟨_, _, rfl⟩
          have F := feed_any wr B b sk' u (by omega) HL'.out.1 husz
          have hcase := feed_run u.data.toList sk' hwe.out.1 hwe.out.2
          have hnle := feedSt_le u.data.toList sk'
          rw [hU] at F hcase hnle
          have hnl : n ≤ u.size := by simpa using hnle
          have FF := Lib.hid F
          have HU := Lib.hid hU
          clear F hU hnle
          rcases hcase with ⟨a1, a2, a3, a4⟩ | ⟨a1, a2, a3⟩ | ⟨a1, a2, a3, a4⟩
          · have A4 := Lib.hid a4
            have A2 := Lib.hid a2
            have i1 : (outs'.length : Int) ≤ 3000 := by omega
            have i2 : (n : Int) ≤ (u.size : Int) := by omega
            have i3 : (used' : Int) + (n : Int) ≤ 4000 := by
              rw [a4] at hle2
              simp only at hle2
              omega
            have hlen2 : outs'.length + 1 ≤ 2000 := by
              rw [a4] at hle1
              simp only [List.length_cons] at hle1
              omega
            simp only at a1 a3
            clear a4 a2 hle1 hle2
            go_wp2_with fail
            refine FF.out.mono ?_
            rintro e w1 ⟨rfl, hl1⟩
            have L1 := Lib.hid hl1
            have z1 : wr.heap.size ≤ w1.heap.size := hl1.size
            clear hl1
            have e2 : ((st1.e : Nat) : Int) = 0 := by rw [A2.out]; rfl
            go_wp2_with (go_at_call 23; refine (whole_any _ B b _ L1.out.1).mono ?_; rintro e w' ⟨rfl, rfl⟩)
            refine (line_yes _ B b st1 L1.out.1 a1).mono ?_
            rintro e w2 ⟨rfl, hl2⟩
            have L2 := Lib.hid hl2
            have z2 : w1.heap.size ≤ w2.heap.size := hl2.size
            clear hl2
            have O2 := Lib.hid (own_others (own_others HO'.out L1.out.2.2 HL'.out.1) L2.out.2.2 L1.out.1)
            have H5 : Hid (outs'.length + 1 ≤ maxLen) := by show _ ≤ _; unfold maxLen; omega
            have H6 : Hid ((outs'.length + 1) * 16 ≤ 140737488355328) := by show _ ≤ _; omega
            have H7 : Hid (w.heap.size ≤ w2.heap.size) := by show _ ≤ _; omega
            go_wp2_with (at_builtin; refine wpList_append_new rfl (.tmp 46) (.tmp 49) 22 rfl w.heap.size 9 Try.underlying22 hi hz rfl (by decide) w2 [.string ⟨st1.line.toArray⟩] O2.out rfl rfl rfl (one_str _) H5.out H6.out H7.out ?_; intro g3 c3 w3 hown3 hgrow3; have O3 := Lib.hid hown3; have G3 := Lib.hid hgrow3; clear hown3 hgrow3)
            go_roundg (gk - 1)
            case measure => omega
            case rel =>
              refine ⟨u.extract n u.size, outs' ++ [st1.line], used' + n, took st1, g3, c3, by simp; omega, by simp; omega, rfl, by simp, by go_num, ?_, (((HL'.out.trans L1.out).trans L2.out).grown hB0 O2.out G3.out), ⟨rfl, A2.out⟩, ?_⟩
              · have e9 : strVals (mkLines (outs' ++ [st1.line])) = strVals (mkLines outs') ++ [.string ⟨st1.line.toArray⟩] := by simp [strVals, mkLines]
                rw [e9]
                simpa using O3.out
              · show _ = _
                rw [hrun'.out, A4.out, extract_rest]
                simp [List.append_assoc, Nat.add_assoc]
          · have A3 := Lib.hid a3
            have hne : ¬ st1.e = 0 := a2
            have hne2 : (((st1.e : Nat) : Int) == 0) = false := by simp; omega
            have i1 : (outs'.length : Int) ≤ 3000 := by omega
            have i2 : (n : Int) ≤ (u.size : Int) := by omega
            have i3 : (used' : Int) + (n : Int) ≤ 4000 := by
              rw [a3] at hle2
              simp only at hle2
              omega
            simp only at a1 a2
            have hend : run s (catTo ss ss.length) = (outs', used' + n, st1.e, st1) := by
              have e1 : run s (catTo ss (k + 1)) = (outs', used' + n, st1.e, st1) := by
                rw [hrun'.out, a3]
                simp
              rw [run_stop ss s (k + 1) (by rw [e1]; exact hne) ss.length (by omega), e1]
            have HEnd := Lib.hid hend
            clear a3 hle1 hle2 hend a2
            go_wp2_with fail
            refine FF.out.mono ?_
            rintro e w1 ⟨rfl, hl1⟩
            have L1 := Lib.hid hl1
            clear hl1
            go_wp2_with (go_at_call 23; refine (whole_any _ B b _ L1.out.1).mono ?_; rintro e w' ⟨rfl, rfl⟩)
            go_ret3
            unfold FedLeft
            rw [HEnd.out]
            exact ⟨g'', c'', by simp, own_others HO'.out L1.out.2.2 HL'.out.1, HL'.out.trans L1.out⟩
          · have A4 := Lib.hid a4
            have A2 := Lib.hid a2
            have i1 : (outs'.length : Int) ≤ 3000 := by omega
            have i2 : ((u.size : Nat) : Int) ≤ (u.size : Int) := by omega
            have hns : n = u.size := by simpa using a3
            have i3 : (used' : Int) + (u.size : Int) ≤ 4000 := by
              rw [a4] at hle2
              simp only at hle2
              simp at hle2
              omega
            subst hns
            simp only at a1
            have e2 : ((st1.e : Nat) : Int) = 0 := by have := A2.out; simp only at this; rw [this]; rfl
            clear a4 a2 a3 hle1 hle2
            go_wp2_with fail
            refine FF.out.mono ?_
            rintro e w1 ⟨rfl, hl1⟩
            have L1 := Lib.hid hl1
            clear hl1
            go_wp2_with (go_at_call 23; refine (whole_any _ B b _ L1.out.1).mono ?_; rintro e w' ⟨rfl, rfl⟩)
            go_roundg (gk - 1)
            case measure => omega
            case rel =>
              refine ⟨ByteArray.empty, outs', used' + u.size, st1, g'', c'', by simp, by simp, rfl, rfl, by go_num, own_others HO'.out L1.out.2.2 HL'.out.1, HL'.out.trans L1.out, ⟨a1, A2.out⟩, ?_⟩
              show _ = _
              have e0 : ByteArray.empty.data.toList = [] := rfl
              rw [hrun'.out, A4.out, e0]
              simp [run]
        · have n1 := toList_empty u (by omega)
          have hu : u.data.toList = [] := by
            apply List.eq_nil_of_length_eq_zero
            have hul : u.data.toList.length = u.size := by simp
            omega
          have hr : run s (catTo ss (k + 1)) = (outs', used', 0, sk') := by
            rw [hrun'.out, hu]
            simp [run]
          have HRr := Lib.hid hr
          clear hr hu hle1 hle2
          go_wp2
          go_roundg (go - 1)
          case measure => omega
          case rel => exact ⟨k + 1, outs', used', sk', g'', c'', by omega, by go_num, rfl, rfl, HO'.out, HL'.out, HRr.out⟩
    · obtain rfl : k = len := by omega
      have hend : run s (catTo ss ss.length) = (outs, used, 0, sk) := by rw [HL.out]; exact hrun.out
      have HEnd := Lib.hid hend
      clear hend
      go_wp2
      go_ret3
      unfold FedLeft
      rw [HEnd.out]
      exact ⟨g', c', rfl, HO.out, HLf.out⟩
end Go.Proofs.Ytgbjndlaonalcaa
