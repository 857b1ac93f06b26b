
/-
  THE WALKS of canon: upper, special, Single.
-/
import Derived.Test.YtdpohibgipkhnaaCanPlain
import Derived.Test.YtdpohibgipkhnaaHdr11
namespace Go.Proofs.Ytdpohibgipkhnaa
open Go.RowKit Go.Sort Go.Proofs.Ytdpohibgipkhnaa.Oct

def upI (c : Int) : Int := if 97 ≤ c ∧ c ≤ 122 then c - 32 else c
set_option maxRecDepth 100000 in
theorem upper_any (c : Int) (w : World) (h0 : 0 ≤ c) (h1 : c ≤ 255) : Calls Try.prog 82 #[.int .i32 c] w fun e w' => e = .returned (.int .i32 (upI c)) ∧ w' = w := by
  by_cases ha : 97 ≤ c
  · by_cases hb : c ≤ 122
    · have e : upI c = c - 32 := by unfold upI; rw [if_pos ⟨ha, hb⟩]
      have HE := Lib.hid e
      have e2 : c + 65 - 97 = c - 32 := by omega
      clear e
      go_enter Try.func82, Try.ntmps82
      go_wp2
      go_ret
      exact ⟨by rw [HE.out, ← e2]; rfl, rfl⟩
    · have e : upI c = c := by unfold upI; rw [if_neg (by omega)]
      have HE := Lib.hid e
      clear e
      go_enter Try.func82, Try.ntmps82
      go_wp2
      go_ret
      exact ⟨by rw [HE.out]; rfl, rfl⟩
  · have e : upI c = c := by unfold upI; rw [if_neg (by omega)]
    have HE := Lib.hid e
    clear e
    go_enter Try.func82, Try.ntmps82
    go_wp2
    go_ret
    exact ⟨by rw [HE.out]; rfl, rfl⟩
def specA : Array Value := #[.string ⟨#[69, 84, 97, 103]⟩, .string ⟨#[84, 69]⟩, .string ⟨#[87, 87, 87, 45, 65, 117, 116, 104, 101, 110, 116, 105, 99, 97, 116, 101]⟩, .string ⟨#[68, 78, 84]⟩]
theorem specA_one : ∀ v ∈ specA.toList, v.oneCell' = true := by
  intro v hv
  simp [specA] at hv
  rcases hv with rfl | rfl | rfl | rfl <;> rfl
theorem info_spec : (Try.prog.info? 88).map (·.size) = some specA.size := by kernel_rfl
set_option maxRecDepth 100000 in
theorem special_any (w : World) : Calls Try.prog 80 #[] w fun e w' => e = .returned (.agg specA) ∧ Below w.heap.size w w' := by
  go_enter Try.func80, Try.ntmps80
  go_wp2_with (first
    | (refine wpList_run_known (o := ⟨some 1, _, _, _, _, _⟩) rfl (.agg specA) (by kernel_rfl) ?_)
    | (refine wpList_store_all (o := ⟨none, _, _, _, _, _⟩) rfl 88 (.tmp 0) (.tmp 1) rfl w.heap.size specA 88 _ rfl rfl (Blk.new w _ _) rfl info_spec specA_one ?_; intro w1 hb1 hk1 hbl1 hz1; have HB := Lib.hid hb1; have HBl := Lib.hid hbl1; clear hb1 hk1 hbl1 hz1))
  refine bodyPost_ret (results_cell_row rfl _ _ w.heap.size _ specA (0, 0) _ rfl HB.out Try.underlying88 rfl info_spec) rfl ?_
  exact ⟨rfl, (below_new _ _).trans HBl.out⟩

def singL : List ByteArray := [⟨#[83, 101, 116, 45, 67, 111, 111, 107, 105, 101]⟩, ⟨#[87, 87, 87, 45, 65, 117, 116, 104, 101, 110, 116, 105, 99, 97, 116, 101]⟩, ⟨#[80, 114, 111, 120, 121, 45, 65, 117, 116, 104, 101, 110, 116, 105, 99, 97, 116, 101]⟩]
def singB (s : ByteArray) : Bool := singL.any fun n => foldS n s
set_option maxRecDepth 100000 in
theorem single1_any (n a : ByteArray) (b : Nat) (w : World) (hn : n.size ≤ 9223372036854775807) (ha : a.size ≤ 9223372036854775807) (hc : w.cell? ⟨b, 0, none⟩ = some (.string a)) :
    Calls Try.prog 84 #[.string n, .pointer (some ⟨b, 0, none⟩)] w fun e w' => e = .returned (.bool (foldS n a)) ∧ Below w.heap.size w w' := by
  go_enter Try.func84, Try.ntmps84
  go_wp2_with (go_at_call 44; refine (fold_any _ _ _ hn ha).mono ?_; rintro e w' ⟨rfl, hd⟩)
  go_ret
  exact ⟨rfl, hd.below _⟩

def singA : Array Value := #[.string ⟨#[83, 101, 116, 45, 67, 111, 111, 107, 105, 101]⟩, .string ⟨#[87, 87, 87, 45, 65, 117, 116, 104, 101, 110, 116, 105, 99, 97, 116, 101]⟩, .string ⟨#[80, 114, 111, 120, 121, 45, 65, 117, 116, 104, 101, 110, 116, 105, 99, 97, 116, 101]⟩]
theorem singA_one : ∀ v ∈ singA.toList, v.oneCell' = true := by
  intro v hv
  simp [singA] at hv
  rcases hv with rfl | rfl | rfl <;> rfl
theorem info_sing : (Try.prog.info? 92).map (·.size) = some singA.size := by kernel_rfl
theorem sing_strs {w : World} {g : Nat} (h : Blk w g 92 singA) : StrsArg w (some ⟨g, 0, none⟩) 3 singL := by
  refine ⟨rfl, by omega, by decide, .inr ⟨g, 0, rfl, h.lt, fun i hi => ?_⟩⟩
  have hi3 : i < 3 := hi
  rw [h.cell]
  match i, hi3 with
  | 0, _ => rfl
  | 1, _ => rfl
  | 2, _ => rfl
set_option maxRecDepth 100000 in
set_option maxHeartbeats 1600000 in
theorem single_any (s : ByteArray) (w : World) (hs : s.size ≤ 9223372036854775807) : Calls Try.prog 42 #[.string s] w fun e w' => e = .returned (.bool (singB s)) ∧ Below w.heap.size w w' := by
  go_enter Try.func42, Try.ntmps42
  go_wp2_with (first
    | (refine wpList_run_known (o := ⟨some 4, _, _, _, _, _⟩) rfl (.agg singA) (by kernel_rfl) ?_)
    | (refine wpList_store_all (o := ⟨none, _, _, _, _, _⟩) rfl 92 (.tmp 3) (.tmp 4) rfl (w.heap.size + 1) singA 92 #[.string ⟨#[]⟩, .string ⟨#[]⟩, .string ⟨#[]⟩] rfl rfl (by have := Blk.new (w.alloc (.cells #[.string s] 9)) 92 (#[.string ⟨#[]⟩, .string ⟨#[]⟩, .string ⟨#[]⟩]); rw [World.size_alloc] at this; exact this) rfl info_sing singA_one ?_; intro w1 hb1 hk1 hbl1 hz1; have HB := Lib.hid hb1; have HBl := Lib.hid hbl1; have HK := Lib.hid hk1; clear hb1 hk1 hbl1 hz1))
  have hB1 : Below w.heap.size w w1 := ((below_new w _).alloc (by simp) _).trans (HBl.out.mono (Nat.le_succ _))
  have hbx : Blk w1 w.heap.size 9 #[.string s] := (HK.out _ (by omega)).trans ((Blk.new w 9 #[.string s]).alloc _)
  have HB1 := Lib.hid hB1
  have HX := Lib.hid hbx
  clear hB1 hbx
  go_wp2_with fail
  refine (contstr_any 84 #[.pointer (some ⟨w.heap.size, 0, none⟩)] (fun _ _ => by kernel_rfl) (fun n => foldS n s) w1 _ 3 3 singL (sing_strs HB.out) (fun W n hW hn => ?_)).mono ?_
  · exact single1_any n s w.heap.size W ((sing_strs HB.out).2.2.1 n hn) hs ((HX.out.below hW HX.out.lt).cell 0)
  rintro e w2 ⟨rfl, hb2⟩
  go_wp2
  go_ret
  exact ⟨rfl, grow_trans HB1.out hb2⟩
end Go.Proofs.Ytdpohibgipkhnaa
