
/-
  THE WALK of digits.Text: a number's figures.
-/
import Derived.Test.YtdpohibgipkhnaaTT12
import Derived.Test.YtdpohibgipkhnaaTT2
import Derived.IntWalk
import Derived.Deep.DeepCutAuto
set_option linter.unusedVariables false
set_option linter.unusedSimpArgs false
namespace Go.Proofs.Ytdpohibgipkhnaa
open Go.RowKit Go.Proofs.Ytdpohibgipkhnaa.Oct

def figB (n : Nat) : UInt8 := UInt8.ofNat (48 + n % 10)
/-- A number's figures. -/
def decL (n : Nat) : List UInt8 := if n < 10 then [figB n] else decL (n / 10) ++ [figB n]
termination_by n
decreasing_by omega
theorem decL_lt {n : Nat} (h : n < 10) : decL n = [figB n] := by rw [decL, if_pos h]
theorem decL_ge {n : Nat} (h : 10 ≤ n) : decL n = decL (n / 10) ++ [figB n] := by rw [decL, if_neg (by omega)]
/-- A number as a text, with its sign. -/
def decB (n : Int) : ByteArray := if n < 0 then ⟨#[45]⟩ ++ ⟨(decL n.natAbs).toArray⟩ else ⟨(decL n.natAbs).toArray⟩
/-- What is left, and what is told. -/
def FigI (N m : Nat) (ds : List UInt8) : Prop := m * 10 ^ ds.length ≤ N ∧ ((ds = [] ∧ m = N) ∨ (ds ≠ [] ∧ ((m = 0 ∧ ds = decL N) ∨ (0 < m ∧ decL N = decL m ++ ds))))
theorem FigI.start (N : Nat) : FigI N N [] := ⟨by simp, .inl ⟨rfl, rfl⟩⟩
theorem FigI.step {N m : Nat} {ds : List UInt8} (h : FigI N m ds) (hd : ds = [] ∨ m ≠ 0) : FigI N (m / 10) (figB m :: ds) := by
  have hdec : decL N = decL m ++ ds := by
    rcases h.2 with ⟨rfl, rfl⟩ | ⟨h1, ⟨h2, _⟩ | ⟨_, h3⟩⟩
    · simp
    · rcases hd with hd | hd
      · exact absurd hd h1
      · exact absurd h2 hd
    · exact h3
  refine ⟨?_, .inr ⟨by simp, ?_⟩⟩
  · have h1 := h.1
    rw [List.length_cons, Nat.pow_succ]
    have h2 : m / 10 * (10 ^ ds.length * 10) = (m / 10 * 10) * 10 ^ ds.length := by rw [Nat.mul_comm (10 ^ ds.length) 10, Nat.mul_assoc]
    rw [h2]
    exact Nat.le_trans (Nat.mul_le_mul_right _ (Nat.div_mul_le_self m 10)) h1
  · by_cases hm : m < 10
    · left
      exact ⟨Nat.div_eq_of_lt hm, by rw [hdec, decL_lt hm]; rfl⟩
    · right
      exact ⟨by omega, by rw [hdec, decL_ge (by omega), List.append_assoc]; rfl⟩
theorem FigI.done {N : Nat} {ds : List UInt8} (h : FigI N 0 ds) (hd : ds ≠ []) : ds = decL N := by
  rcases h.2 with ⟨h1, _⟩ | ⟨_, ⟨_, h2⟩ | ⟨h3, _⟩⟩
  · exact absurd h1 hd
  · exact h2
  · omega
theorem FigI.few {N m : Nat} {ds : List UInt8} (h : FigI N m ds) (hN : N ≤ 9223372036854775808) (hd : ds = [] ∨ m ≠ 0) : ds.length ≤ 20 := by
  rcases hd with rfl | hd
  · simp
  · refine Nat.le_of_not_lt fun h20 => ?_
    have h1 : 10 ^ 20 ≤ 10 ^ ds.length := Nat.pow_le_pow_right (by decide) (by omega)
    have h2 : 1 * 10 ^ ds.length ≤ m * 10 ^ ds.length := Nat.mul_le_mul_right _ (by omega)
    have h3 := h.1
    have h4 : (10 : Nat) ^ 20 = 100000000000000000000 := by decide
    omega
def figV (ds : List UInt8) : List Value := List.replicate (64 - ds.length) (.int .u8 0) ++ ds.map fun c => .int .u8 c.toNat
theorem figV_set (ds : List UInt8) (c : UInt8) (h : ds.length < 64) : (figV ds).set (63 - ds.length) (.int .u8 c.toNat) = figV (c :: ds) := by
  obtain ⟨k, hk⟩ : ∃ k, k = 63 - ds.length := ⟨_, rfl⟩
  have e1 : 64 - ds.length = k + 1 := by omega
  have e2 : 64 - (c :: ds).length = k := by rw [List.length_cons]; omega
  unfold figV
  rw [e1, e2, ← hk, List.replicate_succ', List.append_assoc, List.set_append_right _ _ (by simp), List.length_replicate, Nat.sub_self]
  rfl
theorem figV_length (ds : List UInt8) (h : ds.length ≤ 64) : (figV ds).length = 64 := by
  unfold figV
  rw [List.length_append, List.length_replicate, List.length_map]
  omega

theorem decL_len : ∀ (k : Nat) {n : Nat}, n < 10 ^ (k + 1) → (decL n).length ≤ k + 1
  | 0, n, h => by rw [decL_lt (by simpa using h)]; simp
  | k + 1, n, h => by
    by_cases h10 : n < 10
    · rw [decL_lt h10]; simp
    · rw [decL_ge (by omega), List.length_append]
      have := decL_len k (n := n / 10) (by rw [Nat.div_lt_iff_lt_mul (by decide)]; rw [← Nat.pow_succ]; exact h)
      simp only [List.length_cons, List.length_nil]
      omega
theorem decB_size (n : Int) (hn : -9223372036854775808 ≤ n ∧ n ≤ 9223372036854775807) : (⟨(decL n.natAbs).toArray⟩ : ByteArray).size ≤ 100 := by
  have h := decL_len 19 (n := n.natAbs) (by have : (10 : Nat) ^ 20 = 100000000000000000000 := by decide
                                            omega)
  show (decL n.natAbs).toArray.size ≤ 100
  rw [List.size_toArray]
  omega
theorem sgn_at (r : Nat) (h : r < 10) (h2 : r < (⟨#[48, 49, 50, 51, 52, 53, 54, 55, 56, 57, 97, 98, 99, 100, 101, 102]⟩ : ByteArray).size) : ((⟨#[48, 49, 50, 51, 52, 53, 54, 55, 56, 57, 97, 98, 99, 100, 101, 102]⟩ : ByteArray)[r]'h2).toNat = 48 + r := by
  have h3 : r = 0 ∨ r = 1 ∨ r = 2 ∨ r = 3 ∨ r = 4 ∨ r = 5 ∨ r = 6 ∨ r = 7 ∨ r = 8 ∨ r = 9 := by omega
  rcases h3 with rfl | rfl | rfl | rfl | rfl | rfl | rfl | rfl | rfl | rfl <;> rfl

set_option maxRecDepth 100000 in
set_option maxHeartbeats 3200000 in
theorem figures_any (n : Int) (w : World) (hn : -9223372036854775808 ≤ n ∧ n ≤ 9223372036854775807) :
    Calls Try.prog 117 #[.int .i64 n, .int .i64 10] w fun e w' => e = .returned (.string ⟨(decL n.natAbs).toArray⟩) ∧ Below w.heap.size w w' := by
  go_enter Try.func117, Try.ntmps117
  go_wp2_with fail
  obtain ⟨N, hN⟩ : ∃ N, N = n.natAbs := ⟨_, rfl⟩
  have hN2 : N ≤ 9223372036854775808 := by omega
  have HNN := Lib.hid hN
  go_loopg [0, 6] 65 (fun gg s0 s6 wr => ∃ (m : Int) (ds : List UInt8) (p : Nat), p + 1 ≤ gg ∧ s0 = .int .i64 m ∧ s6 = .int .i64 p ∧ p + ds.length = 64 ∧ (-9223372036854775808 ≤ m ∧ m ≤ 9223372036854775807) ∧ Hid (FigI N m.natAbs ds) ∧ Hid (Blk wr w.heap.size 147 (figV ds).toArray) ∧ Hid (Below w.heap.size w wr))
  case atStart => exact ⟨n, [], 64, by omega, rfl, by go_num, rfl, hn, by rw [← hN]; exact FigI.start N, Blk.new w 147 (figV []).toArray, below_new _ _⟩
  case round =>
    obtain ⟨m, ds, p, hg, rfl, rfl, hp, hm, hfi, hbk, hbe⟩ := hrel
    by_cases hct : ds = [] ∨ m ≠ 0
    · have hfew := hfi.out.few hN2 (by rcases hct with h | h; exact .inl h; exact .inr (by omega))
      have hst := hfi.out.step (by rcases hct with h | h; exact .inl h; exact .inr (by omega))
      obtain ⟨k, rfl⟩ : ∃ k, p = k + 1 := ⟨p - 1, by omega⟩
      have HST : Hid (FigI N (m.tdiv 10).natAbs (figB m.natAbs :: ds)) := by
        show FigI _ _ _
        have e : (m.tdiv 10).natAbs = m.natAbs / 10 := by rw [Int.natAbs_tdiv]; rfl
        rw [e]; exact hst
      have hset := figV_set ds (figB m.natAbs) (by omega)
      rw [show 63 - ds.length = k by omega] at hset
      have HSE := Lib.hid hset
      have hck := hbk.out.cell k
      rw [List.getElem?_toArray] at hck
      have hlt : k < (figV ds).length := by rw [figV_length ds (by omega)]; omega
      rw [List.getElem?_eq_getElem hlt] at hck
      have hfk := hbk.out.frozen k
      have hdg : (figB m.natAbs).toNat = 48 + m.natAbs % 10 := by unfold figB; rw [UInt8.toNat_ofNat']; omega
      have HDG := Lib.hid hdg
      obtain ⟨cv, hcv⟩ : ∃ cv, cv = (figV ds)[k] := ⟨_, rfl⟩
      rw [← hcv] at hck
      clear hset hst hcv hlt hdg
      have hd1 : ((k : Int) + 1 == 64) = decide (ds = []) := by
        by_cases h : ds = []
        · subst h; simp at hp; simp; omega
        · have : ds.length ≠ 0 := fun e => h (List.eq_nil_of_length_eq_zero e)
          rw [decide_eq_false h]; simp; omega
      by_cases hds : ds = []
      case' pos =>
        rw [decide_eq_true hds] at hd1
      case' neg =>
        rw [decide_eq_false hds] at hd1
        have hm0 : m ≠ 0 := hct.resolve_left hds
        have hm1 : (m != 0) = true := by simpa using hm0
      all_goals
        go_upto_region 6 with fail
        obtain ⟨d, hd⟩ : ∃ d, d = m.tmod 10 := ⟨_, rfl⟩
        have hda : d.natAbs = m.natAbs % 10 := by rw [hd, Int.natAbs_tmod]; rfl
        rw [← hd]
        obtain ⟨r, hr⟩ : ∃ r, r = m.natAbs % 10 := ⟨_, rfl⟩
        rw [← hr] at hda HDG
        have hr10 : r < 10 := by omega
        have HF := Lib.hid (And.intro hd hr)
        clear hd hr
        have hdr : d = (r : Int) ∨ (0 < r ∧ d = -(r : Int)) := by omega
        rcases hdr with rfl | ⟨hr0, rfl⟩
        all_goals
          go_upto_region 7 with fail
          have hsg := sgn_at r hr10 (by show r < 16; omega)
          rw [hsg]
          have HBK : Hid (Blk (wr.setCell ⟨w.heap.size, k, none⟩ (.int .u8 ((48 + r : Nat) : Int))) w.heap.size 147 (figV (figB m.natAbs :: ds)).toArray) := by
            have h1 := hbk.out.set_ k (.int .u8 ((48 + r : Nat) : Int))
            have h2 := HSE.out
            rw [HDG.out] at h2
            have e : (figV ds).toArray.setIfInBounds k (.int .u8 ((48 + r : Nat) : Int)) = ((figV ds).set k (.int .u8 ((48 + r : Nat) : Int))).toArray := by simp
            rw [e, h2] at h1
            exact h1
          have HBE : Hid (Below w.heap.size w (wr.setCell ⟨w.heap.size, k, none⟩ (.int .u8 ((48 + r : Nat) : Int)))) := hbe.out.setCell (p := ⟨w.heap.size, k, none⟩) (Nat.le_refl _) _
          generalize wr.setCell ⟨w.heap.size, k, none⟩ (.int .u8 ((48 + r : Nat) : Int)) = wv at HBK HBE ⊢
          have htd : -9223372036854775808 ≤ m.tdiv 10 ∧ m.tdiv 10 ≤ 9223372036854775807 := by
            have e : (m.tdiv 10).natAbs = m.natAbs / 10 := by rw [Int.natAbs_tdiv]; rfl
            omega
          have jw : IntKind.i64.wrap (m.tdiv 10) = m.tdiv 10 := IntWalk.i64_in _ htd
          clear hd1 hck hfk hsg
          go_wp2_with fail
          go_roundg (k + 1)
          case measure => omega
          case rel => exact ⟨m.tdiv 10, figB m.natAbs :: ds, k, Nat.le_refl _, rfl, rfl, by simp; omega, htd, HST.out, HBK.out, HBE.out⟩
    · have hds : ds ≠ [] := fun h => hct (.inl h)
      have hm0 : m = 0 := Classical.byContradiction fun h => hct (.inr h)
      subst hm0
      have hdn := hfi.out.done hds
      have hl0 : ds.length ≠ 0 := fun e => hds (List.eq_nil_of_length_eq_zero e)
      have hd1 : ((p : Int) == 64) = false := by simp; omega
      have HDN := Lib.hid hdn
      have hal : Try.prog.arrayLen 147 = 64 := by kernel_rfl
      have hsz : (sizeOf (Try.prog.elem 147)).run Try.prog wr = .ok 1 wr := by kernel_rfl
      have hp64 : p ≤ 64 := by omega
      have hsl : (Instr.sliceAt 147 (.pointer (some ⟨w.heap.size, 0, none⟩)) (some (.int .i64 p)) none none).run Try.prog wr = .ok (.slice (some ⟨w.heap.size, p, none⟩) (64 - p) (64 - p)) wr := by
        rw [run_sliceAt_array_l wr 147 ⟨w.heap.size, 0, none⟩ (by kernel_rfl) .i64 (p : Int) (by omega) (by rw [hal]; omega), hsz, hal]
        simp only [Result.andThen, slicedAt, Int.toNat_natCast, Nat.mul_one]
        rw [if_neg (by omega), add_head]
      have hle : 64 - p = ds.length := by omega
      have hcv : (convert 90 9 (.slice (some ⟨w.heap.size, p, none⟩) (64 - p) (64 - p))).run Try.prog wr = .ok (.string ⟨ds.toArray⟩) wr := by
        rw [hle]
        refine run_convert_bytes_back wr _ _ 5 ⟨w.heap.size, p, none⟩ _ ds Try.underlying90 Try.underlying5 Try.underlying9 fun j hj => ?_
        rw [Addr.add_lit]
        refine (hbk.out.cell (p + j)).trans ?_
        rw [List.getElem?_toArray]
        unfold figV
        rw [List.getElem?_append_right (by rw [List.length_replicate]; omega), List.length_replicate, show p + j - (64 - ds.length) = j by omega, List.getElem?_map, List.getElem?_eq_getElem hj]
        rfl
      clear hdn hct hal hsz hle
      go_wp2_with fail
      go_ret
      exact ⟨by rw [← HNN.out, ← HDN.out]; rfl, hbe.out⟩

set_option maxRecDepth 100000 in
set_option maxHeartbeats 1600000 in
theorem dtext_any (n : Int) (w : World) (hn : -9223372036854775808 ≤ n ∧ n ≤ 9223372036854775807) :
    Calls Try.prog 97 #[.int .i64 n] w fun e w' => e = .returned (.string (decB n)) ∧ Below w.heap.size w w' := by
  have hc := figures_any n w hn
  have HC := Lib.hid hc
  clear hc
  by_cases h0 : n < 0
  · have HD : Hid (decB n = ⟨#[45]⟩ ++ ⟨(decL n.natAbs).toArray⟩) := if_pos h0
    go_enter Try.func97, Try.ntmps97
    go_wp2_with fail
    refine HC.out.mono ?_
    rintro e w1 ⟨rfl, hb1⟩
    have hsm : (⟨(decL n.natAbs).toArray⟩ : ByteArray).size ≤ 100 := decB_size n hn
    obtain ⟨T, hT⟩ : ∃ T : ByteArray, T = ⟨(decL n.natAbs).toArray⟩ := ⟨_, rfl⟩
    rw [← hT] at hsm HD ⊢
    clear hT
    have js : ¬ 9223372036854775807 < 1 + T.size := by omega
    go_wp2_with fail
    go_ret
    exact ⟨by rw [HD.out]; rfl, hb1⟩
  · have HD : Hid (decB n = ⟨(decL n.natAbs).toArray⟩) := if_neg h0
    go_enter Try.func97, Try.ntmps97
    go_wp2_with fail
    refine HC.out.mono ?_
    rintro e w1 ⟨rfl, hb1⟩
    go_wp2_with fail
    go_ret
    exact ⟨by rw [HD.out]; rfl, hb1⟩
end Go.Proofs.Ytdpohibgipkhnaa
