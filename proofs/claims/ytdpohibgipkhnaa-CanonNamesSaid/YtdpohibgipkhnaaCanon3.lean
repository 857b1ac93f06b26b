
/-
  THE WALK of the document's Name.
-/
import Derived.Test.YtdpohibgipkhnaaCanon2
namespace Go.Proofs.Ytdpohibgipkhnaa
open Go.RowKit Go.Sort Go.Proofs.Ytdpohibgipkhnaa.Oct

theorem name_1 {s : ByteArray} (h : foldS ⟨#[69, 84, 97, 103]⟩ s = true) : nameS s = ⟨#[69, 84, 97, 103]⟩ := by simp [nameS, spec4, h]
theorem name_2 {s : ByteArray} (h1 : foldS ⟨#[69, 84, 97, 103]⟩ s = false) (h : foldS ⟨#[84, 69]⟩ s = true) : nameS s = ⟨#[84, 69]⟩ := by simp [nameS, spec4, h, h1]
theorem name_3 {s : ByteArray} (h1 : foldS ⟨#[69, 84, 97, 103]⟩ s = false) (h2 : foldS ⟨#[84, 69]⟩ s = false) (h : foldS ⟨#[87, 87, 87, 45, 65, 117, 116, 104, 101, 110, 116, 105, 99, 97, 116, 101]⟩ s = true) : nameS s = ⟨#[87, 87, 87, 45, 65, 117, 116, 104, 101, 110, 116, 105, 99, 97, 116, 101]⟩ := by simp [nameS, spec4, h, h1, h2]
theorem name_4 {s : ByteArray} (h1 : foldS ⟨#[69, 84, 97, 103]⟩ s = false) (h2 : foldS ⟨#[84, 69]⟩ s = false) (h3 : foldS ⟨#[87, 87, 87, 45, 65, 117, 116, 104, 101, 110, 116, 105, 99, 97, 116, 101]⟩ s = false) (h : foldS ⟨#[68, 78, 84]⟩ s = true) : nameS s = ⟨#[68, 78, 84]⟩ := by simp [nameS, spec4, h, h1, h2, h3]
theorem name_5 {s : ByteArray} (h1 : foldS ⟨#[69, 84, 97, 103]⟩ s = false) (h2 : foldS ⟨#[84, 69]⟩ s = false) (h3 : foldS ⟨#[87, 87, 87, 45, 65, 117, 116, 104, 101, 110, 116, 105, 99, 97, 116, 101]⟩ s = false) (h : foldS ⟨#[68, 78, 84]⟩ s = false) : nameS s = ⟨(capL true (lowS s).data.toList).toArray⟩ := by simp [nameS, spec4, h, h1, h2, h3]

theorem low_lit (s n c : ByteArray) (b : Bool) (h : lowS n = c) (hb : foldS n s = b) : ((lowS s).toList == c.data.toList) = b := by
  have := low_is s n c h
  rw [hb, ByteArray.toList_eq c] at this
  exact this
set_option maxRecDepth 100000 in
set_option maxHeartbeats 1600000 in
theorem rname_spec (s : ByteArray) (w : World) (hs : s.size ≤ 140737488355328) (h : ∃ n ∈ spec4, foldS n s = true) : Calls Try.prog 41 #[.string s] w fun e w' => e = .returned (.string (nameS s)) ∧ Below w.heap.size w w' := by
  have l1 := low_lit s ⟨#[69, 84, 97, 103]⟩ ⟨#[101, 116, 97, 103]⟩ _ (by decide) rfl
  have l2 := low_lit s ⟨#[84, 69]⟩ ⟨#[116, 101]⟩ _ (by decide) rfl
  have l3 := low_lit s ⟨#[87, 87, 87, 45, 65, 117, 116, 104, 101, 110, 116, 105, 99, 97, 116, 101]⟩ ⟨#[119, 119, 119, 45, 97, 117, 116, 104, 101, 110, 116, 105, 99, 97, 116, 101]⟩ _ (by decide) rfl
  have l4 := low_lit s ⟨#[68, 78, 84]⟩ ⟨#[100, 110, 116]⟩ _ (by decide) rfl
  cases f1 : foldS ⟨#[69, 84, 97, 103]⟩ s
  · cases f2 : foldS ⟨#[84, 69]⟩ s
    · cases f3 : foldS ⟨#[87, 87, 87, 45, 65, 117, 116, 104, 101, 110, 116, 105, 99, 97, 116, 101]⟩ s
      · cases f4 : foldS ⟨#[68, 78, 84]⟩ s
        · obtain ⟨n, hn, hf⟩ := h
          simp [spec4] at hn
          rcases hn with rfl | rfl | rfl | rfl <;> simp_all
        · rw [f1] at l1; rw [f2] at l2; rw [f3] at l3; rw [f4] at l4
          have HN := Lib.hid (name_4 f1 f2 f3 f4)
          clear f1 f2 f3 f4 h
          go_enter Try.func41, Try.ntmps41
          go_wp2_with fail
          refine (rlower_any s w hs).mono ?_
          rintro e w1 ⟨rfl, hb1⟩
          go_wp2
          go_ret
          exact ⟨by rw [HN.out]; rfl, hb1⟩
      · rw [f1] at l1; rw [f2] at l2; rw [f3] at l3
        have HN := Lib.hid (name_3 f1 f2 f3)
        clear f1 f2 f3 l4 h
        go_enter Try.func41, Try.ntmps41
        go_wp2_with fail
        refine (rlower_any s w hs).mono ?_
        rintro e w1 ⟨rfl, hb1⟩
        go_wp2
        go_ret
        exact ⟨by rw [HN.out]; rfl, hb1⟩
    · rw [f1] at l1; rw [f2] at l2
      have HN := Lib.hid (name_2 f1 f2)
      clear f1 f2 l3 l4 h
      go_enter Try.func41, Try.ntmps41
      go_wp2_with fail
      refine (rlower_any s w hs).mono ?_
      rintro e w1 ⟨rfl, hb1⟩
      go_wp2
      go_ret
      exact ⟨by rw [HN.out]; rfl, hb1⟩
  · rw [f1] at l1
    have HN := Lib.hid (name_1 f1)
    clear f1 l2 l3 l4 h
    go_enter Try.func41, Try.ntmps41
    go_wp2_with fail
    refine (rlower_any s w hs).mono ?_
    rintro e w1 ⟨rfl, hb1⟩
    go_wp2
    go_ret
    exact ⟨by rw [HN.out]; rfl, hb1⟩
end Go.Proofs.Ytdpohibgipkhnaa
