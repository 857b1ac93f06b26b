
/-
  THE WALKS of lists.Join, header.Combined, the document's Join and Combined, slices.Equal and header.Same.
-/
import Derived.Test.YtdpohibgipkhnaaTT20
import Derived.Test.YtdpohibgipkhnaaTT3
set_option linter.unusedVariables false
set_option linter.unusedSimpArgs false
namespace Go.Proofs.Ytdpohibgipkhnaa
open Go.RowKit Go.Proofs.Ytdpohibgipkhnaa.Oct

/-- Texts joined by a comma and a blank. -/
def joinL (ss : List ByteArray) : List UInt8 := Lib.join (ss.map (·.data.toList)) [44, 32]
def joinB (ss : List ByteArray) : ByteArray := ⟨(joinL ss).toArray⟩
theorem joinL_snoc (ss : List ByteArray) (s : ByteArray) (h : ss ≠ []) : joinL (ss ++ [s]) = joinL ss ++ [44, 32] ++ s.data.toList := by
  cases ss with
  | nil => exact absurd rfl h
  | cons a r =>
    unfold joinL
    simp only [List.cons_append, List.map_cons, List.map_append, List.map_nil]
    rw [Lib.join_cons, Lib.join_cons]
    simp [Lib.joinTail, List.append_assoc]
theorem joinB_one (s : ByteArray) : joinB [s] = s := by
  apply bytes_eq_of_list
  show (joinL [s]).toArray.toList = _
  unfold joinL
  simp [Lib.join_one]
theorem joinB_snoc (ss : List ByteArray) (s : ByteArray) (h : ss ≠ []) : joinB (ss ++ [s]) = joinB ss ++ ⟨#[44, 32]⟩ ++ s := by
  apply bytes_eq_of_list
  show (joinL (ss ++ [s])).toArray.toList = _
  rw [joinL_snoc ss s h]
  simp [joinB, ByteArray.data_append]
theorem empty_app (s : ByteArray) : (⟨#[]⟩ : ByteArray) ++ s = s := by
  apply bytes_eq_of_list
  rw [ByteArray.data_append]
  simp
/-- The sum of the lengths. -/
def sumS (ss : List ByteArray) : Nat := (ss.map (·.size)).sum
theorem joinB_size (ss : List ByteArray) : (joinB ss).size ≤ sumS ss + 2 * ss.length := by
  show (joinL ss).toArray.size ≤ _
  rw [List.size_toArray]
  cases ss with
  | nil => simp [joinL, Lib.join_nil]
  | cons a r =>
    unfold joinL
    rw [List.map_cons, Lib.join_length]
    have e : Lib.lens (a.data.toList :: r.map (·.data.toList)) = sumS (a :: r) := by
      unfold Lib.lens sumS
      simp only [List.map_cons, List.map_map]
      congr 1
    rw [e]
    simp
    omega
theorem sumS_le (ss : List ByteArray) (m : Nat) (h : ∀ s ∈ ss, s.size ≤ m) : sumS ss ≤ ss.length * m := by
  induction ss with
  | nil => simp [sumS]
  | cons a r ih =>
    have h1 := h a List.mem_cons_self
    have h2 := ih (fun s hs => h s (List.mem_cons_of_mem _ hs))
    unfold sumS at h2 ⊢
    simp only [List.map_cons, List.sum_cons, List.length_cons, Nat.succ_mul]
    omega
theorem sumS_take (ss : List ByteArray) (k : Nat) : sumS (ss.take k) ≤ sumS ss := by
  have h : sumS ss = sumS (ss.take k) + sumS (ss.drop k) := by
    unfold sumS
    rw [← List.sum_append, ← List.map_append, List.take_append_drop]
  omega

set_option maxRecDepth 100000 in
set_option maxHeartbeats 800000 in
theorem ljoin_any (w : World) (B : Nat) (v : Value) (ss : List ByteArray) (ho : w.ownsRow B 9 1 v ss.length (strVals ss)) (hlen : sumS ss + 2 * ss.length ≤ 140737488355328) :
    Calls Try.prog 75 #[v] w fun e w' => e = .returned (.string (joinB ss)) ∧ Below w.heap.size w w' := by
  have hj := joinB_size ss
  rcases ho.2 with ⟨rfl, h0⟩ | ⟨g, cap, cur, rfl, hg, hh, hcap, _⟩
  · have hs : ss = [] := List.eq_nil_of_length_eq_zero h0
    subst hs
    clear ho
    go_enter Try.func75, Try.ntmps75
    go_wp2_with (go_at_call 103; refine (Try.strings_Join_none _ _ _ _).mono ?_; rintro e w' ⟨rfl, rfl⟩)
    go_ret
    exact ⟨rfl, Below.refl _ _⟩
  · have H := Try.strings_Join g 0 cap ss ⟨#[44, 32]⟩ w (fun j x hx => by
      rw [Nat.zero_add, ho.cellAt j (by have := (List.getElem?_eq_some_iff.1 hx).1; omega)]
      simp [strVals, hx]) (lt_of_block hh) (by omega) hcap (by
      show (joinL ss).length ≤ _
      have e : (joinB ss).size = (joinL ss).length := List.size_toArray
      omega)
    have HH := Lib.hid H
    clear H ho hh
    go_enter Try.func75, Try.ntmps75
    go_wp2_with fail
    refine HH.out.mono ?_
    rintro e w' ⟨rfl, hb⟩
    go_wp2
    go_ret
    exact ⟨rfl, hb⟩

theorem allV_sum {l : Flds} (hl : l.length ≤ 40) (hs : ∀ p ∈ l, p.2.size ≤ 700) (name : ByteArray) : sumS (allV l name) + 2 * (allV l name).length ≤ 40000 := by
  have h1 := allV_len l name l.length
  rw [List.take_length] at h1
  have h2 := sumS_le (allV l name) 700 (fun s h => by obtain ⟨p, hp, rfl⟩ := allV_mem h; exact hs p hp)
  have h3 : (allV l name).length * 700 ≤ 40 * 700 := Nat.mul_le_mul_right 700 (by omega)
  omega

/-- The texts of a name as one; whether there is one. -/
def combV (l : Flds) (name : ByteArray) : Value := .tuple #[.string (joinB (allV l name)), .bool (decide (0 < (allV l name).length))]
set_option maxRecDepth 100000 in
set_option maxHeartbeats 800000 in
theorem hcomb_any (w : World) (x : Option Addr) (n c : Nat) (l : Flds) (name : ByteArray) (hn : name.size ≤ 9223372036854775807) (h : FldsAt w x n l) (hl : l.length ≤ 40) (hs : ∀ p ∈ l, p.2.size ≤ 700) :
    Calls Try.prog 27 #[.slice x n c, .string name] w fun e w' => e = .returned (combV l name) ∧ Below w.heap.size w w' := by
  have H := Lib.hid (all_any w x n c l name hn h (by have := h.len; omega))
  have hsum := allV_sum hl hs name
  have HV : Hid (combV l name = .tuple #[.string (joinB (allV l name)), .bool (decide (0 < (allV l name).length))]) := rfl
  clear h hs
  go_enter Try.func27, Try.ntmps27
  go_wp2_with fail
  refine H.out.mono ?_
  rintro e w1 ⟨v, rfl, ho, hnil, hb⟩
  have HO := Lib.hid ho
  have HB := Lib.hid hb
  have HJ := Lib.hid (ljoin_any w1 _ v _ ho (by omega))
  clear hb
  rcases ho.2 with ⟨rfl, h0⟩ | ⟨g, cap, cur, rfl, _⟩
  · have H0 := Lib.hid h0
    clear h0 ho hnil
    go_wp2_with fail
    refine HJ.out.mono ?_
    rintro e w2 ⟨rfl, hb2⟩
    have HB2 := Lib.hid (grow_trans HB.out hb2)
    clear hb2
    go_wp2
    go_ret2
    refine ⟨?_, HB2.out⟩
    rw [HV.out, H0.out]
    rfl
  · clear ho hnil
    go_wp2_with fail
    refine HJ.out.mono ?_
    rintro e w2 ⟨rfl, hb2⟩
    have HB2 := Lib.hid (grow_trans HB.out hb2)
    clear hb2
    have hd : decide ((0 : Int) < ((allV l name).length : Int)) = decide (0 < (allV l name).length) := decide_eq_decide.2 (by omega)
    have HD := Lib.hid hd
    clear hd
    go_wp2
    go_ret2
    refine ⟨?_, HB2.out⟩
    rw [HV.out]
    first | rfl | (rw [← HD.out]; rfl) | (congr; done)

/-! ### the document's -/
set_option maxRecDepth 100000 in
set_option maxHeartbeats 1600000 in
theorem rjoin_any (w : World) (x : Option Addr) (n c : Nat) (ss : List ByteArray) (h : StrsArg w x n ss) (hsum : sumS ss + 2 * ss.length ≤ 1000000000) :
    Calls Try.prog 76 #[.slice x n c] w fun e w' => e = .returned (.string (joinB ss)) ∧ w = w' := by
  obtain ⟨hl, hbig, hstr, hat⟩ := h
  subst hl
  have HA := Lib.hid hat
  clear hat hstr
  go_enter Try.func76, Try.ntmps76
  go_wp2
  go_loop [3, 4] (fun s i => ∃ k : Nat, k ≤ ss.length ∧ i = .int .i64 k ∧ s = .string (joinB (ss.take k))) (fun _ i => ss.length - (intOf i).toNat)
  case atStart => exact ⟨0, Nat.zero_le _, rfl, rfl⟩
  case round =>
    obtain ⟨k, hk, rfl, rfl⟩ := hrel
    by_cases hkl : k < ss.length
    · obtain ⟨b, o, rfl, hlt, hc⟩ := HA.out.resolve_left (by omega)
      have hcell := hc k hkl
      have htk : ss.take (k + 1) = ss.take k ++ [ss[k]] := List.take_succ_eq_append_getElem hkl
      have hsz := joinB_size (ss.take k)
      have hsz1 := joinB_size (ss.take (k + 1))
      have hst := sumS_take ss k
      have hst1 := sumS_take ss (k + 1)
      have hll : (ss.take k).length ≤ ss.length := List.length_take_le' _ _
      have hll1 : (ss.take (k + 1)).length ≤ ss.length := List.length_take_le' _ _
      obtain ⟨s, hs⟩ : ∃ s, s = ss[k] := ⟨_, rfl⟩
      rw [← hs] at hcell htk
      clear hs hc
      by_cases hk0 : k = 0
      · subst hk0
        have hj : joinB (ss.take (0 + 1)) = s := by rw [htk]; exact joinB_one s
        rw [hj] at hsz1
        have HJ := Lib.hid hj
        have e0 : joinB (ss.take 0) = ⟨#[]⟩ := rfl
        rw [e0]
        have i2 : s.size ≤ 1000000000 := by omega
        clear hj htk hsz hsz1 hst hst1 hll hll1 e0
        rw [Nat.add_zero] at hcell
        go_wp2
        go_round
        case rel => exact ⟨0 + 1, by omega, by go_num, by rw [HJ.out, empty_app]⟩
        case measure => simp [intOf]; omega
      · have hne : ss.take k ≠ [] := by
          intro e
          have := congrArg List.length e
          rw [List.length_take, List.length_nil] at this
          omega
        have hj : joinB (ss.take (k + 1)) = joinB (ss.take k) ++ ⟨#[44, 32]⟩ ++ s := by rw [htk]; exact joinB_snoc _ s hne
        rw [hj] at hsz1
        obtain ⟨J, hJ⟩ : ∃ J, J = joinB (ss.take k) := ⟨_, rfl⟩
        rw [← hJ] at hj hsz1 hsz ⊢
        rw [ByteArray.size_append, ByteArray.size_append] at hsz1
        have i0 : (0 : Int) < (k : Int) := by omega
        have i1 : (⟨#[44, 32]⟩ : ByteArray).size = 2 := rfl
        rw [i1] at hsz1
        have i2 : J.size + 2 + s.size ≤ 1000000000 := by omega
        have HJ := Lib.hid hj
        clear hj hJ hne htk hsz hsz1 hst hst1 hll hll1 i1
        go_wp2
        go_round
        case rel => exact ⟨k + 1, by omega, by go_num, by rw [HJ.out]⟩
        case measure => simp [intOf]; omega
    · obtain rfl : k = ss.length := by omega
      have e : joinB (ss.take ss.length) = joinB ss := by rw [List.take_length]
      rw [e]
      clear e
      go_wp2
      go_ret
      exact ⟨rfl, rfl⟩

set_option maxRecDepth 100000 in
set_option maxHeartbeats 800000 in
theorem rcomb_any (w : World) (x : Option Addr) (n c : Nat) (l : Flds) (name : ByteArray) (hn : name.size ≤ 140737488355328) (h : FldsAt w x n l) (hl : l.length ≤ 40) (hs1 : ∀ p ∈ l, p.1.size ≤ 140737488355328) (hs : ∀ p ∈ l, p.2.size ≤ 700) :
    Calls Try.prog 28 #[.slice x n c, .string name] w fun e w' => e = .returned (combV l name) ∧ Below w.heap.size w w' := by
  have H := Lib.hid (rall_any w x n c l name hn h (by have := h.len; omega) hs1)
  have hsum := allV_sum hl hs name
  have hmem : ∀ s ∈ allV l name, s.size ≤ 9223372036854775807 := fun s hs2 => by obtain ⟨p, hp, rfl⟩ := allV_mem hs2; have := hs p hp; omega
  have hlen : (allV l name).length ≤ 9223372036854775807 := by omega
  have HV : Hid (combV l name = .tuple #[.string (joinB (allV l name)), .bool (decide (0 < (allV l name).length))]) := rfl
  have HM := Lib.hid hmem
  clear h hs hs1 hmem
  go_enter Try.func28, Try.ntmps28
  go_wp2_with fail
  refine H.out.mono ?_
  rintro e w1 ⟨g, c', rfl, ho, hb⟩
  have HB := Lib.hid hb
  have HJ := Lib.hid (rjoin_any w1 _ _ c' _ (StrsArg.of_owned ho hlen HM.out) (by omega))
  clear hb ho
  go_wp2_with fail
  refine HJ.out.mono ?_
  rintro e w2 ⟨rfl, rfl⟩
  have hd : decide ((0 : Int) < ((allV l name).length : Int)) = decide (0 < (allV l name).length) := decide_eq_decide.2 (by omega)
  have HD := Lib.hid hd
  clear hd
  go_wp2
  go_ret2
  refine ⟨?_, HB.out⟩
  rw [HV.out]
  first | rfl | (rw [← HD.out]; rfl) | (congr; done)

/-! ### slices.Equal, header.Same -/
set_option maxRecDepth 100000 in
set_option maxHeartbeats 1600000 in
theorem eqf_any (x y : Option Addr) (la ca lb cb : Nat) (A B : Flds) (w : World) (ha : FldsAt w x la A) (hb : FldsAt w y lb B) :
    Calls Try.prog 77 #[.slice x la ca, .slice y lb cb] w fun e w' => e = .returned (.bool (decide (A = B))) ∧ Drawn w w' := by
  have al := ha.len
  have bl := hb.len
  have alm := ha.big
  have blm := hb.big
  by_cases hll : la = lb
  · subst hll
    have h1 : ((la : Int) != (la : Int)) = false := by simp
    have AL := Lib.hid al
    have BL := Lib.hid bl
    have AX := Lib.hid ha
    have BX := Lib.hid hb
    clear al bl ha hb
    go_enter Try.func77, Try.ntmps77
    go_wp2
    go_loopw [5, 13] (fun _ i wr => ∃ k : Nat, k ≤ la ∧ i = .int .i64 k ∧ Hid (∀ j (h : j < A.length) (h' : j < B.length), j < k → A[j] = B[j]) ∧ Drawn w wr) (fun _ i _ => la - (intOf i).toNat)
    case atStart => exact ⟨0, Nat.zero_le _, rfl, fun j _ _ h => absurd h (Nat.not_lt_zero _), Drawn.refl _⟩
    case round =>
      obtain ⟨k, hk, rfl, hall, hwr⟩ := hrel
      by_cases hlt : k < la
      · obtain ⟨b, o, f, rfl, hl2, hf, hc1, hc2, hs1, hs2⟩ := (AX.out.below hwr.grow).get k hlt
        obtain ⟨b', o', g, rfl, hl3, hg, hd1, hd2, hs3, hs4⟩ := (BX.out.below hwr.grow).get k hlt
        have HS := Lib.hid hf
        have HT := Lib.hid hg
        obtain ⟨f1, f2⟩ := f
        obtain ⟨g1, g2⟩ := g
        simp only at hc1 hc2 hs1 hs2 hd1 hd2 hs3 hs4
        clear hf hg
        by_cases hst : (f1, f2) = (g1, g2)
        · obtain ⟨rfl, rfl⟩ := Prod.mk.inj hst
          clear hst
          go_wp2
          go_quiet (fail)
          go_wp2
          go_roundw
          case rel => exact ⟨k + 1, by omega, by go_num, (fun j h h' hj => by
            by_cases hjk : j < k
            · exact hall.out j h h' hjk
            · obtain rfl : j = k := by omega
              exact HS.out.symm.trans HT.out), hwr.drewN _⟩
          case measure => simp [intOf]; omega
        · have hd : decide (A = B) = false := by
            apply decide_eq_false
            intro h
            apply hst
            rw [HS.out, HT.out]
            simp only [h]
          have HD := Lib.hid hd
          clear hd
          rcases fld_ne hst with hne | ⟨rfl, hne⟩
          all_goals
            clear hst
            go_wp2
            go_quiet (fail)
            go_wp2
            go_ret
            exact ⟨ret_bool HD.out.symm, hwr.drewN _⟩
      · have hd : decide (A = B) = true := by
          apply decide_eq_true
          apply List.ext_getElem
          · rw [AL.out, BL.out]
          · intro j h h'
            exact hall.out j h h' (by rw [AL.out] at h; omega)
        have HD := Lib.hid hd
        clear hd
        go_wp2
        go_ret
        exact ⟨ret_bool HD.out.symm, hwr⟩
  · have h1 : ((la : Int) != (lb : Int)) = true := by simp; omega
    have hd : decide (A = B) = false := by
      apply decide_eq_false
      intro h
      apply hll
      rw [← al, ← bl, h]
    have HD := Lib.hid hd
    clear hd hll al bl ha hb
    go_enter Try.func77, Try.ntmps77
    go_wp2
    go_ret
    exact ⟨ret_bool HD.out.symm, Drawn.refl _⟩

theorem hsame_any (x y : Option Addr) (la ca lb cb : Nat) (A B : Flds) (w : World) (ha : FldsAt w x la A) (hb : FldsAt w y lb B) :
    Calls Try.prog 32 #[.slice x la ca, .slice y lb cb] w fun e w' => e = .returned (.bool (decide (A = B))) ∧ Drawn w w' := by
  have H := Lib.hid (eqf_any x y la ca lb cb A B w ha hb)
  clear ha hb
  go_enter Try.func32, Try.ntmps32
  go_wp2_with fail
  refine H.out.mono ?_
  rintro e w1 ⟨rfl, hd⟩
  go_wp2
  go_ret
  exact ⟨rfl, hd⟩
end Go.Proofs.Ytdpohibgipkhnaa
