
/-
  THE WALK of the document's Single.
-/
import Derived.Test.YtdpohibgipkhnaaCanon
namespace Go.Proofs.Ytdpohibgipkhnaa
open Go.RowKit Go.Sort Go.Proofs.Ytdpohibgipkhnaa.Oct

theorem low_is (s n c : ByteArray) (h : lowS n = c) : ((lowS s).toList == c.toList) = foldS n s := by rw [← h, low_eq, fold_symm]
set_option maxRecDepth 100000 in
set_option maxHeartbeats 1600000 in
theorem rsingle_any (s : ByteArray) (w : World) (hs : s.size ≤ 140737488355328) : Calls Try.prog 43 #[.string s] w fun e w' => e = .returned (.bool (singB s)) ∧ Below w.heap.size w w' := by
  have h1 := low_is s ⟨#[83, 101, 116, 45, 67, 111, 111, 107, 105, 101]⟩ ⟨#[115, 101, 116, 45, 99, 111, 111, 107, 105, 101]⟩ (by decide)
  have h2 := low_is s ⟨#[87, 87, 87, 45, 65, 117, 116, 104, 101, 110, 116, 105, 99, 97, 116, 101]⟩ ⟨#[119, 119, 119, 45, 97, 117, 116, 104, 101, 110, 116, 105, 99, 97, 116, 101]⟩ (by decide)
  have h3 := low_is s ⟨#[80, 114, 111, 120, 121, 45, 65, 117, 116, 104, 101, 110, 116, 105, 99, 97, 116, 101]⟩ ⟨#[112, 114, 111, 120, 121, 45, 97, 117, 116, 104, 101, 110, 116, 105, 99, 97, 116, 101]⟩ (by decide)
  have hb : singB s = (foldS ⟨#[83, 101, 116, 45, 67, 111, 111, 107, 105, 101]⟩ s || (foldS ⟨#[87, 87, 87, 45, 65, 117, 116, 104, 101, 110, 116, 105, 99, 97, 116, 101]⟩ s || (foldS ⟨#[80, 114, 111, 120, 121, 45, 65, 117, 116, 104, 101, 110, 116, 105, 99, 97, 116, 101]⟩ s || false))) := rfl
  rw [← h1, ← h2, ← h3] at hb
  have HB := Lib.hid hb
  clear h1 h2 h3 hb
  go_enter Try.func43, Try.ntmps43
  go_wp2_with fail
  refine (rlower_any s w hs).mono ?_
  rintro e w1 ⟨rfl, hb1⟩
  go_wp2
  all_goals
    go_ret
    refine ⟨ret_bool ?_, hb1⟩
    rw [HB.out]
    simp_all [ByteArray.toList_eq, Bool.or_assoc]
end Go.Proofs.Ytdpohibgipkhnaa
