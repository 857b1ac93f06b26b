/-
  THE WALKS of lines: Feed, Whole, Line, Spent, Within.
-/
import Derived.Test.YtgbjndlaonalcaaLines
namespace Go.Proofs.Ytgbjndlaonalcaa
open Go.RowKit Go.Proofs.Ytgbjndlaonalcaa.Lin

theorem LinLeft.trans {a b c : World} {B n : Nat} {s s' : St} (h : LinLeft a b B n s) (k : LinLeft b c B n s') : LinLeft a c B n s' := ⟨k.1, h.2.1.trans k.2.1, h.2.2.trans k.2.2⟩
theorem LinLeft.refl {w : World} {B b : Nat} {s : St} (h : IsLines w B b s) : LinLeft w w B b s := ⟨h, Below.refl _ _, Lib.OthersKept.refl _ _ _⟩
theorem LinLeft.size {a w : World} {B b : Nat} {s : St} (h : LinLeft a w B b s) : a.heap.size ≤ w.heap.size := h.2.1.size

/-- p.e = n. -/
theorem store_e {w : World} {B b : Nat} {s : St} (h : IsLines w B b s) (n : Nat) : LinLeft w (w.setCell ⟨b, 6, none⟩ (.int .i64 n)) B b (fail s n) := by
  obtain ⟨hB, hok, v, hb, hown⟩ := h
  exact LinLeft.of_stores hB (Ok_fail hok n) hb (Below.refl _ _) (Lib.OthersKept.refl _ _ _) [(6, .int .i64 n)] rfl hown

set_option maxHeartbeats 800000 in
theorem feed_any (w : World) (B b : Nat) (s : St) (t : ByteArray) (hB0 : B ≤ w.heap.size) (his : IsLines w B b s) (ht : t.size ≤ 9223372036854775807) :
    Calls Try.prog 24 #[.pointer (some ⟨b, 0, none⟩), .string t] w fun e w' =>
      e = .returned (.tuple #[.int .i64 (feedSt s t.data.toList).1, .int .i64 (feedSt s t.data.toList).2.e]) ∧ LinLeft w w' B b (feedSt s t.data.toList).2 := by
  have HI := Lib.hid his
  clear his
  go_enter Try.func24, Try.ntmps24
  go_wp2
  go_loopg [4] (2 * t.size + 1) (fun g u wr => ∃ k : Nat, k ≤ t.size ∧ u = .int .i64 k ∧ ∃ sk : St, LinLeft w wr B b sk ∧ Hid (feedSt s t.data.toList = (k + (feedSt sk (t.data.toList.drop k)).1, (feedSt sk (t.data.toList.drop k)).2)) ∧ 2 * (t.size - k) + (if sk.e = 0 then 1 else 0) ≤ g)
  case atStart => exact ⟨0, Nat.zero_le _, rfl, s, LinLeft.refl HI.out, by simp [Hid], by split <;> omega⟩
  case round =>
    obtain ⟨k, hk, rfl, sk, hleft, hfeed, hg⟩ := hrel
    have hsz := hleft.size
    have hleft2 := hleft
    obtain ⟨⟨hBb, hOk, v, hb, hown⟩, hbel, hoth⟩ := hleft2
    obtain ⟨c0, c1, c2, c3, c4, c5, c6, cf⟩ := linCells_at hb
    clear hb hown hbel hoth
    have HL := Lib.hid hleft
    clear hleft
    by_cases hlt : k < t.size
    · by_cases hgo : sk.whole = false ∧ sk.e = 0
      · obtain ⟨hw, he⟩ := hgo
        have he2 : ((sk.e : Int) == 0) = true := by simp [he]
        have hdrop : t.data.toList.drop k = t[k] :: t.data.toList.drop (k + 1) := List.drop_eq_getElem_cons (show k < t.data.toList.length by simpa using hlt)
        have h0 : (sk.whole || sk.e != 0) = false := by simp [hw, he]
        have hg1 : 2 * (t.size - k) + 1 ≤ gk := by rw [if_pos he] at hg; exact hg
        have HE := Lib.hid he
        by_cases hok : seeE sk t[k] = 0
        · have hstep : feedSt s t.data.toList = ((k + 1) + (feedSt (seeS sk t[k]) (t.data.toList.drop (k + 1))).1, (feedSt (seeS sk t[k]) (t.data.toList.drop (k + 1))).2) := by
            rw [hfeed.out, hdrop, feedSt_ok sk _ _ h0 hok]
            simp only
            congr 1
            omega
          have HS := Lib.hid hstep
          have HO := Lib.hid hok
          clear hstep hdrop h0 hok he hg
          go_wp2_with (go_at_call 69; refine (see_ok _ B b sk t[k] (by omega) HL.out.1 HO.out).mono ?_; rintro e w2 ⟨rfl, hl2⟩; have HL2 := Lib.hid hl2; clear hl2; obtain ⟨⟨_, _, v2, hb2, _⟩, _, _⟩ := HL2.out; obtain ⟨d0, d1, d2, d3, d4, d5, d6, df⟩ := linCells_at hb2; clear hb2)
          go_roundg (2 * (t.size - (k + 1)) + 1)
          case measure => omega
          case rel =>
            have hs := store_e HL2.out.1 0
            have e0 : fail (seeS sk t[k]) 0 = seeS sk t[k] := by
              have := seeS_e sk t[k]
              rw [HE.out] at this
              unfold fail
              rw [← this]
            rw [e0] at hs
            exact ⟨k + 1, by omega, by go_num, seeS sk t[k], (HL.out.trans HL2.out).trans hs, HS, by split <;> omega⟩
        · have hstep : feedSt s t.data.toList = (k + (feedSt (fail sk (seeE sk t[k])) (t.data.toList.drop k)).1, (feedSt (fail sk (seeE sk t[k])) (t.data.toList.drop k)).2) := by
            rw [hfeed.out, hdrop, feedSt_bad sk _ _ h0 hok, feedSt_stop (fail sk (seeE sk t[k])) _ (by simp [fail, hok])]
          have HS := Lib.hid hstep
          have HO := Lib.hid hok
          have hne : (((seeE sk t[k] : Nat) : Int) == 0) = false := by simp; omega
          obtain ⟨v, hb⟩ : ∃ v, wr.heap[b]? = some (.cells (linCells sk v) 38 (0, 0)) := by obtain ⟨⟨_, _, v, hb, _⟩, _⟩ := HL.out; exact ⟨v, hb⟩
          have HB := Lib.hid hb
          clear hstep hdrop h0 hok he hg hb
          go_wp2_with (go_at_call 69; refine (see_bad _ b sk _ t[k] HB.out HO.out).mono ?_; rintro e w2 ⟨rfl, rfl⟩)
          go_roundg (2 * (t.size - k))
          case measure => omega
          case rel =>
            have hs := store_e HL.out.1 (seeE sk t[k])
            exact ⟨k, by omega, rfl, fail sk (seeE sk t[k]), HL.out.trans hs, HS, by rw [if_neg (by exact HO.out)]; omega⟩
      · have hstop : feedSt s t.data.toList = (k, sk) := by
          rw [hfeed.out, feedSt_stop sk _ (by
            cases hw : sk.whole
            · simp; intro h; exact hgo ⟨hw, h⟩
            · rfl)]
          rfl
        have HS := Lib.hid hstop
        clear hstop
        cases hw : sk.whole
        · have he2 : ((sk.e : Int) == 0) = false := by simp; intro h; exact hgo ⟨hw, h⟩
          clear hgo hg
          go_wp2
          go_quiet (fail)
          go_wp2
          go_ret2
          rw [HS.out]
          exact ⟨rfl, HL.out.1, below_drewN HL.out.2.1 _, fun k o h1 h2 h3 => HL.out.2.2 k o h1 h2 h3⟩
        · clear hgo hg
          go_wp2
          go_quiet (fail)
          go_wp2
          go_ret2
          rw [HS.out]
          exact ⟨rfl, HL.out.1, below_drewN HL.out.2.1 _, fun k o h1 h2 h3 => HL.out.2.2 k o h1 h2 h3⟩
    · have hstop : feedSt s t.data.toList = (k, sk) := by
        rw [hfeed.out, List.drop_of_length_le (by simp; omega)]
        rfl
      have HS := Lib.hid hstop
      clear hstop hg
      go_wp2
      go_quiet (fail)
      go_wp2
      go_ret2
      rw [HS.out]
      exact ⟨rfl, HL.out.1, below_drewN HL.out.2.1 _, fun k o h1 h2 h3 => HL.out.2.2 k o h1 h2 h3⟩
end Go.Proofs.Ytgbjndlaonalcaa
