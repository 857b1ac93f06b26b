
/-
  THE WALK of the law TablePool.
-/
import Derived.Test.YtgbjndlaonalcaaPoolRef
import Derived.Test.YtgbjndlaonalcaaTabPlays
namespace Go.Proofs.Ytgbjndlaonalcaa
open Go.RowKit Go.Proofs.Ytgbjndlaonalcaa.Tab

/-- What lies there at the head of a round: the pool and the document's row hold the same entries. -/
structure PoolSt (w0 : World) (b g o c : Nat) (l : List (Int × Int)) (W : World) : Prop where
  pool : ∃ v, IsPool W w0.heap.size b v l
  row : OffRow W w0.heap.size 102 2 (.slice (some ⟨g, o, none⟩) l.length c) l.length (entVals l)
  below : Below w0.heap.size w0 W

section
variable {w0 W W' : World} {b g o c : Nat} {l l' : List (Int × Int)}
theorem PoolSt.later (h : PoolSt w0 b g o c l W) (hb : Below W.heap.size W W') : PoolSt w0 b g o c l W' := by
  obtain ⟨v, hv⟩ := h.pool
  exact ⟨⟨v, hv.below hb⟩, h.row.below hb, h.below.trans (hb.mono h.below.size)⟩
theorem PoolSt.g_is (h : PoolSt w0 b g o c l W) : w0.heap.size ≤ g ∧ g < W.heap.size ∧ l.length ≤ c ∧ ∃ cur, W.heap[g]? = some (.cells cur 102 (0, 0)) := by
  obtain ⟨g', o', c', hv, h1, h2, h3, h4⟩ := h.row.form
  injection hv with hv _ hc
  injection hv with hv
  injection hv with hv
  subst hv hc
  exact ⟨h1, h2, h3, h4⟩
theorem PoolSt.ne (h : PoolSt w0 b g o c l W) : g ≠ b := by
  rintro rfl
  obtain ⟨_, _, _, cur, hc⟩ := h.g_is
  obtain ⟨v, hv⟩ := h.pool
  exact Blk.ne_ (show Blk _ _ _ _ from hc) hv.blk (by decide) rfl
/-- Behind a call that changes the pool the document's row is as it was. -/
theorem PoolSt.row_kept (h : PoolSt w0 b g o c l W) (hp : PoolPost W w0.heap.size b l' W') : OffRow W' w0.heap.size 102 2 (.slice (some ⟨g, o, none⟩) l.length c) l.length (entVals l) := by
  obtain ⟨h1, h2, _, cur, hc⟩ := h.g_is
  refine h.row.block (hp.2.1.block g h2 h.ne fun cur' e => ?_)
  rw [hc] at e
  simp at e
/-- The pool and the document's row, both changed. -/
theorem PoolSt.turn {g' o' c' : Nat} (h : PoolSt w0 b g o c l W) (hp : PoolPost W w0.heap.size b l' W') (hr : OffRow W' w0.heap.size 102 2 (.slice (some ⟨g', o', none⟩) l'.length c') l'.length (entVals l')) : PoolSt w0 b g' o' c' l' W' :=
  ⟨hp.1, hr, h.below.trans hp.2.2⟩
/-- The document's row has been appended to. -/
theorem pool_grown {v : Value} (h : IsPool W w0.heap.size b v l) {g : Nat} (hg : ∃ cur, W.heap[g]? = some (.cells cur 102 (0, 0))) (hgr : W.grownBy W' (some g)) : IsPool W' w0.heap.size b v l := by
  obtain ⟨cur, hc⟩ := hg
  have hgb : Blk W g 102 cur := hc
  exact ⟨h.few, h.blk.grown hgr (fun e => Blk.ne_ h.blk hgb (by decide) (by injection e)), h.own.kept hgr (.inr (own_blk_ne h.own hgb (by decide))), h.base⟩
theorem kept_act (hk : PoolKept b W W') {k : Nat} {cs : Array Value} (h : Blk W k 79 cs) (hb : k ≠ b) : Blk W' k 79 cs :=
  (hk.block k h.lt hb (fun cur e => by unfold Blk at h; rw [h] at e; simp at e)).trans h
theorem OffRow.mono {w : World} {B B' e size n : Nat} {v : Value} {xs : List Value} (h : OffRow w B e size v n xs) (hB : B' ≤ B) : OffRow w B' e size v n xs := by
  obtain ⟨h1, g, o, cap, cur, hv, hg, r⟩ := h
  exact ⟨h1, g, o, cap, cur, hv, Nat.le_trans hB hg, r⟩
end

set_option maxRecDepth 100000 in
set_option maxHeartbeats 6400000 in
theorem tpool_go (x : Option Addr) (len cap : Nat) (acts : List (Int × Int × Int)) (w : World) (h : ActsAt w x len acts) (hlen : len ≤ 100) :
    Calls Try.prog 13 #[.slice x len cap] w fun e w' => e = .returned (.bool true) ∧ Below w.heap.size w w' := by
  obtain ⟨i0, hi, hz⟩ := info_hid info_rentry
  have HX := Lib.hid h
  have hL := h.len
  clear h
  have hlx : (len : Int) ≤ 100 := by omega
  go_enter Try.func13, Try.ntmps13
  go_wp2_with fail
  have P0 : Hid (PoolSt w w.heap.size (w.heap.size + 1) 0 0 [] ((w.alloc (.cells #[.slice none 0 0] 98)).alloc (.cells #[] 102))) := by
    refine ⟨⟨_, by simp, (Blk.new w _ _).alloc _, World.ownsRow_nil _ _ _ _, Nat.le_refl _⟩, ?_, (below_new w _).alloc (by simp) _⟩
    have := World.ownsRow_lit (base := w.heap.size) (e := 102) (size := 2) (w.alloc (.cells #[.slice none 0 0] 98)) #[] 0 (by simp) (by decide) rfl
    exact OffRow.of_own (by simpa [entVals] using this) (by simp)
  have hB0 : w.heap.size ≤ w.heap.size := Nat.le_refl _
  obtain ⟨b, hb⟩ : ∃ b, b = w.heap.size := ⟨_, rfl⟩
  obtain ⟨g0, hg0⟩ : ∃ g0, g0 = w.heap.size + 1 := ⟨_, rfl⟩
  have PB := Lib.hid (show PoolSt w b g0 0 0 [] ((w.alloc (.cells #[.slice none 0 0] 98)).alloc (.cells #[] 102)) from by rw [hb, hg0]; exact P0.out)
  rw [show (Value.pointer (some (⟨w.heap.size, 0, none⟩ : Addr))) = .pointer (some ⟨b, 0, none⟩) from by rw [hb], show (Value.slice (some (⟨w.heap.size + 1, 0, none⟩ : Addr)) 0 0) = .slice (some ⟨g0, 0, none⟩) 0 0 from by rw [hg0]]
  clear P0 hb hg0
  go_loopg [4, 22] len (fun gg s4 s22 wr => ∃ (k g o c : Nat) (L : List (Int × Int)), k ≤ len ∧ len - k ≤ gg ∧ L.length ≤ k ∧ s22 = .int .i64 k ∧ s4 = .slice (some ⟨g, o, none⟩) L.length c ∧ Hid (PoolSt w b g o c L wr))
  case atStart => exact ⟨0, g0, 0, 0, [], Nat.zero_le _, by omega, Nat.zero_le _, rfl, rfl, PB.out⟩
  case round =>
    obtain ⟨k, g, o, c, L, hk, hgg, hLk, rfl, rfl, hp⟩ := hrel
    by_cases hkl : k < len
    · obtain ⟨ab, ao, p, q, r, rfl, hc0, hc1, hc2, hk2, hact⟩ := (HX.out.below (Nat.le_refl _) hp.out.below).get k hkl
      have P1 := Lib.hid (hp.out.later (below_new wr (.cells #[.int .i64 p, .int .i64 q, .int .i64 r] 79)))
      have K1 := Lib.hid (Blk.new wr 79 #[.int .i64 p, .int .i64 q, .int .i64 r])
      have hsz : w.heap.size ≤ wr.heap.size := hp.out.below.size
      have hbl : b < wr.heap.size := by obtain ⟨v, hv⟩ := hp.out.pool; exact hv.blk.lt
      have hL1 : L.length ≤ 100 := by omega
      clear hact
      by_cases h1 : p = 1
      · subst h1
        obtain ⟨v, hv⟩ := P1.out.pool
        have HV := Lib.hid hv
        clear hv
        go_wp2_with fail
        refine (pput_any _ w.heap.size b v L q r HV.out (by omega) (by simp; omega)).mono ?_
        rintro e w2 ⟨⟨z2, rfl⟩, hp2⟩
        have hsz2 : w.heap.size ≤ w2.heap.size := Nat.le_trans P1.out.below.size hp2.2.2.size
        have K2 := Lib.hid (kept_act hp2.2.1 K1.out (Nat.ne_of_gt hbl))
        have d1 : w2.cell? ⟨wr.heap.size, 1, none⟩ = some (.int .i64 q) := K2.out.cell 1
        have d2 : w2.cell? ⟨wr.heap.size, 2, none⟩ = some (.int .i64 r) := K2.out.cell 2
        have R2 := Lib.hid (P1.out.row_kept hp2)
        have HP2 := Lib.hid hp2
        have H5 : Hid (L.length + 1 ≤ maxLen) := by show _ ≤ _; unfold maxLen; omega
        have H6 : Hid ((L.length + 1) * 16 ≤ 140737488355328) := by show _ ≤ _; omega
        clear hp2
        go_wp2_with (first
          | (at_builtin; refine wpList_append_off rfl (.tmp 81) (.tmp 87) 99 rfl w.heap.size 102 Try.underlying99 hi hz rfl (by decide) w2 [.int .i64 q, .int .i64 r] g o L.length c _ R2.out (by rfl) (by rfl) rfl (one_ent _ _) H5.out H6.out hsz2 ?_; intro g3 o3 c3 w3 hr3 hg3; have R3 := Lib.hid hr3; have G3 := Lib.hid hg3; clear hr3 hg3)
          | fail)
        have hl2 : (L ++ [(q, r)]).length = L.length + 1 := by simp
        have P3 : Hid (PoolSt w b g3 o3 c3 (L ++ [(q, r)]) w3) := by
          obtain ⟨v2, hv2⟩ := HP2.out.1
          obtain ⟨g4, o4, c4, he4, _, _, _, hcur⟩ := R2.out.form
          injection he4 with he4
          injection he4 with he4
          injection he4 with he4
          subst he4
          refine ⟨⟨v2, pool_grown hv2 hcur G3.out⟩, ?_, (P1.out.below.trans HP2.out.2.2).grown G3.out hsz2 (fun j e => by injection e with e; subst e; exact P1.out.g_is.1)⟩
          rw [hl2, entVals_snoc]
          exact R3.out
        obtain ⟨v4, hv4⟩ := P3.out.pool
        have HV4 := Lib.hid hv4
        clear hv4
        go_wp2_with fail
        refine (plen_any _ _ b v4 _ HV4.out).mono ?_
        rintro e w4 ⟨rfl, rfl⟩
        rw [hl2]
        go_wp2
        go_roundg (len - (k + 1))
        case measure => omega
        case rel => exact ⟨k + 1, g3, o3, c3, L ++ [(q, r)], by omega, by omega, by rw [hl2]; omega, by go_num, by rw [hl2], P3.out⟩
      · have e1 : (p == 1) = false := by simpa using h1
        by_cases h2 : p = 2
        · subst h2
          clear h1
          rcases last_or L q with ⟨i, hi, hiq, hno⟩ | hno
          · obtain ⟨v, hv⟩ := P1.out.pool
            have HV := Lib.hid hv
            have HN := Lib.hid hno
            have HI := Lib.hid hi
            have HQ := Lib.hid hiq
            clear hv hno hiq
            go_wp2_with fail
            refine (ptake_yes _ w.heap.size b v L q i HV.out HI.out HQ.out HN.out (by simp; omega)).mono ?_
            rintro e w2 ⟨rfl, hp2⟩
            have hsz2 : w.heap.size ≤ w2.heap.size := Nat.le_trans P1.out.below.size hp2.2.2.size
            have R2 := Lib.hid (P1.out.row_kept hp2)
            have HP2 := Lib.hid hp2
            have d2 : w2.cell? ⟨wr.heap.size, 1, none⟩ = some (.int .i64 q) := (kept_act hp2.2.1 K1.out (Nat.ne_of_gt hbl)).cell 1
            clear hp2
            go_wp2_with fail
            refine (rtake_yes w2 _ g o _ c L q i R2.out (by omega) HI.out HQ.out HN.out).mono ?_
            rintro e w3 ⟨v3, rfl, hr3, hb3⟩
            obtain ⟨g3, o3, c3, rfl, _⟩ := hr3.form
            have hle : (L.eraseIdx i).length ≤ k := by rw [List.length_eraseIdx_of_lt hi]; omega
            have P3 : Hid (PoolSt w b g3 o3 c3 (L.eraseIdx i) w3) := P1.out.turn (HP2.out.later hb3) (hr3.mono hsz2)
            clear hr3 hb3
            obtain ⟨v4, hv4⟩ := P3.out.pool
            have HV4 := Lib.hid hv4
            clear hv4
            go_wp2_with fail
            refine (plen_any _ _ b v4 _ HV4.out).mono ?_
            rintro e w4 ⟨rfl, rfl⟩
            go_wp2
            go_roundg (len - (k + 1))
            case measure => omega
            case rel => exact ⟨k + 1, g3, o3, c3, _, by omega, by omega, by omega, by go_num, rfl, P3.out⟩
          · obtain ⟨v, hv⟩ := P1.out.pool
            have HV := Lib.hid hv
            have HN := Lib.hid hno
            clear hv hno
            go_wp2_with fail
            refine (ptake_no _ w.heap.size b v L q HV.out HN.out).mono ?_
            rintro e w2 ⟨rfl, rfl⟩
            go_wp2_with fail
            refine (rtake_no _ _ g o _ c L q P1.out.row (by omega) HN.out).mono ?_
            rintro e w3 ⟨rfl, rfl⟩
            go_wp2_with fail
            refine (plen_any _ _ b v L HV.out).mono ?_
            rintro e w4 ⟨rfl, rfl⟩
            go_wp2
            go_roundg (len - (k + 1))
            case measure => omega
            case rel => exact ⟨k + 1, g, o, c, L, by omega, by omega, by omega, by go_num, rfl, P1.out⟩
        · have e2 : (p == 2) = false := by simpa using h2
          clear h1 h2
          obtain ⟨v, hv⟩ := P1.out.pool
          have HV := Lib.hid hv
          clear hv
          cases L with
          | nil =>
            go_wp2_with fail
            refine (pold_no _ w.heap.size b v HV.out).mono ?_
            rintro e w2 ⟨rfl, rfl⟩
            go_wp2_with fail
            refine (plen_any _ _ b v _ HV.out).mono ?_
            rintro e w4 ⟨rfl, rfl⟩
            go_wp2
            go_roundg (len - (k + 1))
            case measure => omega
            case rel => exact ⟨k + 1, g, o, c, [], by omega, by omega, by simp, by go_num, rfl, P1.out⟩
          | cons y L =>
            obtain ⟨y1, y2⟩ := y
            have hl2 : ((y1, y2) :: L).length = L.length + 1 := rfl
            rw [hl2] at hLk hL1 ⊢
            go_wp2_with fail
            refine (pold_yes _ w.heap.size b v y1 y2 L HV.out (by simp; omega)).mono ?_
            rintro e w2 ⟨rfl, hp2⟩
            have R2 := Lib.hid (P1.out.row_kept hp2)
            have HP2 := Lib.hid hp2
            obtain ⟨d0, d1⟩ := off_entry R2.out 0 (by simp)
            rw [Nat.zero_mul, Nat.add_zero] at d0 d1
            have hD := R2.out.drop 1 (by simp)
            rw [hl2] at hD
            have hlc := P1.out.g_is.2.2.1
            rw [hl2] at hlc
            obtain ⟨v4, hv4⟩ := HP2.out.1
            have HV4 := Lib.hid hv4
            clear hp2 hv4
            have i1 : (0 : Int) < (L.length : Int) + 1 := by omega
            have i2 : (1 : Int) ≤ (L.length : Int) + 1 := by omega
            have i3 : (1 : Int) ≤ (c : Int) := by omega
            by_cases hc1 : c = 1
            · obtain rfl : L = [] := List.eq_nil_of_length_eq_zero (by omega)
              rw [if_pos hc1] at hD
              subst hc1
              have P3 : Hid (PoolSt w b g o 0 [] w2) := P1.out.turn HP2.out hD
              clear hD
              go_wp2_with fail
              refine (plen_any _ _ b v4 _ HV4.out).mono ?_
              rintro e w4 ⟨rfl, rfl⟩
              go_wp2
              go_roundg (len - (k + 1))
              case measure => omega
              case rel => exact ⟨k + 1, g, o, 0, [], by omega, by omega, by simp, by go_num, rfl, P3.out⟩
            · rw [if_neg hc1] at hD
              have P3 : Hid (PoolSt w b g (o + 2) (c - 1) L w2) := P1.out.turn HP2.out hD
              clear hD
              go_wp2_with fail
              refine (plen_any _ _ b v4 _ HV4.out).mono ?_
              rintro e w4 ⟨rfl, rfl⟩
              go_wp2
              go_roundg (len - (k + 1))
              case measure => omega
              case rel => exact ⟨k + 1, g, o + 2, c - 1, L, by omega, by omega, by omega, by go_num, rfl, P3.out⟩
    · obtain rfl : k = len := by omega
      go_wp2_with fail
      refine (tablives_any wr).mono ?_
      rintro e w2 ⟨rfl, hb2⟩
      go_wp2
      go_ret
      exact ⟨rfl, hp.out.below.trans (hb2.mono hp.out.below.size)⟩

set_option maxRecDepth 100000 in
set_option maxHeartbeats 3200000 in
theorem tpool_any (x : Option Addr) (len cap : Nat) (acts : List (Int × Int × Int)) (w : World) (h : ActsAt w x len acts) :
    Calls Try.prog 13 #[.slice x len cap] w fun e w' => e = .returned (.bool true) ∧ Below w.heap.size w w' := by
  by_cases hlen : len ≤ 100
  · exact tpool_go x len cap acts w h hlen
  · have hbig := h.big
    have h3 : (100 : Int) < (len : Int) := by omega
    clear h
    go_enter Try.func13, Try.ntmps13
    go_wp2_with fail
    refine (tablives_any _).mono ?_
    rintro e w2 ⟨rfl, hb2⟩
    go_wp2
    go_ret
    exact ⟨rfl, hb2⟩
end Go.Proofs.Ytgbjndlaonalcaa
