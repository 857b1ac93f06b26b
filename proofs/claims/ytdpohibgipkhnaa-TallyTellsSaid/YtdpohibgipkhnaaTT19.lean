
/-
  A LIST OF FIELDS IN MEMORY, and the walks that look through one: slices.IndexFunc, slices.ContainsFunc, header's named, Few.
-/
import Derived.Test.YtdpohibgipkhnaaTT8
import Derived.Test.YtdpohibgipkhnaaTT9
import Derived.Test.YtdpohibgipkhnaaTT12
import Derived.Test.YtdpohibgipkhnaaTT10
import Derived.Lib.QuietBelow
set_option linter.unusedVariables false
set_option linter.unusedSimpArgs false
namespace Go.Proofs.Ytdpohibgipkhnaa
open Go.RowKit Go.Proofs.Ytdpohibgipkhnaa.Oct

abbrev Flds := List (ByteArray × ByteArray)
/-- The fields l lie at x, n of them. -/
structure FldsAt (w : World) (x : Option Addr) (n : Nat) (l : Flds) : Prop where
  len : l.length = n
  big : n ≤ 9223372036854775807
  str : ∀ p ∈ l, p.1.size ≤ 9223372036854775807 ∧ p.2.size ≤ 9223372036854775807
  at_ : n = 0 ∨ ∃ b o, x = some ⟨b, o, none⟩ ∧ b < w.heap.size ∧ ∀ i (h : i < l.length), w.cell? ⟨b, o + i * 2, none⟩ = some (.string l[i].1) ∧ w.cell? ⟨b, o + i * 2 + 1, none⟩ = some (.string l[i].2)

theorem FldsAt.below {w w' : World} {x : Option Addr} {n : Nat} {l : Flds} (h : FldsAt w x n l) (hb : Below w.heap.size w w') : FldsAt w' x n l := by
  refine ⟨h.len, h.big, h.str, ?_⟩
  rcases h.at_ with h4 | ⟨b, o, hx, hlt, hc⟩
  · exact .inl h4
  · exact .inr ⟨b, o, hx, Nat.lt_of_lt_of_le hlt hb.size, fun i hi => ⟨(hb.cell (p := ⟨b, o + i * 2, none⟩) hlt).trans (hc i hi).1, (hb.cell (p := ⟨b, o + i * 2 + 1, none⟩) hlt).trans (hc i hi).2⟩⟩
theorem FldsAt.get {w : World} {x : Option Addr} {n : Nat} {l : Flds} (h : FldsAt w x n l) (i : Nat) (hi : i < n) :
    ∃ b o p, x = some ⟨b, o, none⟩ ∧ ∃ hl : i < l.length, p = l[i] ∧ w.cell? ⟨b, o + i * 2, none⟩ = some (.string p.1) ∧ w.cell? ⟨b, o + i * 2 + 1, none⟩ = some (.string p.2) ∧ p.1.size ≤ 9223372036854775807 ∧ p.2.size ≤ 9223372036854775807 := by
  obtain ⟨b, o, hx, hlt, hc⟩ := h.at_.resolve_left (by omega)
  have hl : i < l.length := by rw [h.len]; exact hi
  have := hc i hl
  have hs := h.str _ (List.getElem_mem hl)
  exact ⟨b, o, l[i], hx, hl, rfl, this.1, this.2, hs.1, hs.2⟩

/-- Where the first one is of which p holds, or -1. -/
def idxB {α : Type} (p : α → Bool) (l : List α) : Int := if l.any p = true then (l.findIdx p : Nat) else -1
theorem idxB_hit {α : Type} (p : α → Bool) (l : List α) (k : Nat) (hk : k < l.length) (h : p l[k] = true) (hb : ∀ j (hj : j < k) , p (l[j]'(by omega)) = false) : idxB p l = k := by
  unfold idxB
  rw [if_pos (List.any_eq_true.2 ⟨_, List.getElem_mem hk, h⟩)]
  have : l.findIdx p = k := by
    rw [List.findIdx_eq hk]
    exact ⟨h, fun j hj => by simpa using hb j hj⟩
  rw [this]
theorem idxB_miss {α : Type} (p : α → Bool) (l : List α) (hb : ∀ j (hj : j < l.length), p l[j] = false) : idxB p l = -1 := by
  unfold idxB
  rw [if_neg]
  rw [List.any_eq_true]
  rintro ⟨x, hx, hp⟩
  obtain ⟨j, hj, rfl⟩ := List.mem_iff_getElem.1 hx
  rw [hb j hj] at hp
  cases hp
theorem idxB_any {α : Type} (p : α → Bool) (l : List α) : decide ((0 : Int) ≤ idxB p l) = l.any p := by
  unfold idxB
  cases h : l.any p
  · rfl
  · simp
theorem idxB_cases {α : Type} (p : α → Bool) (l : List α) : (idxB p l = -1 ∧ l.any p = false) ∨ (∃ k : Nat, idxB p l = k ∧ ∃ hk : k < l.length, p l[k] = true ∧ (∀ j (hj : j < k), p (l[j]'(by omega)) = false) ∧ l.any p = true) := by
  unfold idxB
  cases h : l.any p
  · exact .inl ⟨rfl, rfl⟩
  · refine .inr ⟨l.findIdx p, rfl, ?_⟩
    have hk : l.findIdx p < l.length := by rw [List.findIdx_lt_length]; rw [List.any_eq_true] at h; exact h
    exact ⟨hk, List.findIdx_getElem (w := hk), fun j hj => by simpa using List.not_of_lt_findIdx hj, rfl⟩

set_option maxRecDepth 100000 in
set_option maxHeartbeats 1600000 in
/-- slices.IndexFunc on texts, with whatever tells of each text. -/
theorem idxstr_any (q : Nat) (lb : Array Value) (eq : ∀ args w, (callFunc q args).run Try.prog w = .ok (.enter q args) w) (p : ByteArray → Bool) (w : World) (x : Option Addr) (n c : Nat) (ns : List ByteArray) (h : StrsArg w x n ns)
    (hp : ∀ W s, Below w.heap.size w W → s ∈ ns → Calls Try.prog q (#[.string s] ++ lb) W fun e w' => e = .returned (.bool (p s)) ∧ Below W.heap.size W w') :
    Calls Try.prog 104 #[.slice x n c, .func (.func q) #[] lb] w fun e w' => e = .returned (.int .i64 (idxB p ns)) ∧ Below w.heap.size w w' := by
  obtain ⟨hl, hbig, hstr, hat⟩ := h
  subst hl
  have HP := Lib.hid hp
  have HA := Lib.hid hat
  clear hp hstr hat
  go_enter Try.func104, Try.ntmps104
  go_wp2
  go_loopg [5, 8] ns.length (fun gg _ s8 wr => ∃ k : Nat, k ≤ ns.length ∧ ns.length - k ≤ gg ∧ s8 = .int .i64 k ∧ Hid (Below w.heap.size w wr) ∧ Hid (∀ j (hj : j < ns.length), j < k → p ns[j] = false))
  case atStart => exact ⟨0, Nat.zero_le _, by omega, rfl, Below.refl _ w, fun j _ hj => absurd hj (Nat.not_lt_zero _)⟩
  case round =>
    obtain ⟨k, hk, hg, rfl, hb, hall⟩ := hrel
    by_cases hkl : k < ns.length
    · obtain ⟨b, o, rfl, hlt, hc⟩ := HA.out.resolve_left (by omega)
      have hcell := (hb.out.cell (p := ⟨b, o + k, none⟩) hlt).trans (hc k hkl)
      have hcall := HP.out wr ns[k] hb.out (List.getElem_mem hkl)
      obtain ⟨s, hs⟩ : ∃ s, s = ns[k] := ⟨_, rfl⟩
      rw [← hs] at hcell hcall
      have HS := Lib.hid hs
      have HCc := Lib.hid hc
      clear hs hc
      cases hps : p s
      · rw [hps] at hcall
        have HC := Lib.hid hcall
        have HPS := Lib.hid hps
        clear hcall hps
        go_wp2_with fail
        refine HC.out.mono ?_
        rintro e w' ⟨rfl, hb'⟩
        have HB' := Lib.hid (grow_trans hb.out hb')
        clear hb'
        go_wp2
        go_roundg (ns.length - (k + 1))
        case measure => omega
        case rel =>
          refine ⟨k + 1, by omega, by omega, by go_num, HB'.out, fun j hj hjk => ?_⟩
          by_cases e : j = k
          · subst e; rw [← HS.out]; exact HPS.out
          · exact hall.out j hj (by omega)
      · rw [hps] at hcall
        have HC := Lib.hid hcall
        have HI := Lib.hid (idxB_hit p ns k hkl (by rw [← HS.out]; exact hps) (fun j hj => hall.out j (by omega) hj))
        clear hcall hps
        go_wp2_with fail
        refine HC.out.mono ?_
        rintro e w' ⟨rfl, hb'⟩
        have HB' := Lib.hid (grow_trans hb.out hb')
        clear hb'
        go_wp2
        go_ret
        exact ⟨ret_int HI.out.symm, HB'.out⟩
    · obtain rfl : k = ns.length := by omega
      have HI := Lib.hid (idxB_miss p ns (fun j hj => hall.out j hj hj))
      go_wp2
      go_ret
      exact ⟨ret_int HI.out.symm, hb.out⟩

set_option maxRecDepth 100000 in
set_option maxHeartbeats 1600000 in
theorem contstr_any (q : Nat) (lb : Array Value) (eq : ∀ args w, (callFunc q args).run Try.prog w = .ok (.enter q args) w) (p : ByteArray → Bool) (w : World) (x : Option Addr) (n c : Nat) (ns : List ByteArray) (h : StrsArg w x n ns)
    (hp : ∀ W s, Below w.heap.size w W → s ∈ ns → Calls Try.prog q (#[.string s] ++ lb) W fun e w' => e = .returned (.bool (p s)) ∧ Below W.heap.size W w') :
    Calls Try.prog 83 #[.slice x n c, .func (.func q) #[] lb] w fun e w' => e = .returned (.bool (ns.any p)) ∧ Below w.heap.size w w' := by
  have H := Lib.hid (idxstr_any q lb eq p w x n c ns h hp)
  have HA := Lib.hid (idxB_any p ns)
  clear h hp
  go_enter Try.func83, Try.ntmps83
  go_wp2_with fail
  refine H.out.mono ?_
  rintro e w' ⟨rfl, hb'⟩
  go_wp2
  go_ret
  exact ⟨ret_bool HA.out, hb'⟩

set_option maxRecDepth 100000 in
set_option maxHeartbeats 1600000 in
/-- slices.IndexFunc on fields, with whatever tells of each field. -/
theorem idxfld_any (q : Nat) (lb : Array Value) (eq : ∀ args w, (callFunc q args).run Try.prog w = .ok (.enter q args) w) (p : ByteArray × ByteArray → Bool) (w : World) (x : Option Addr) (n c : Nat) (l : Flds) (h : FldsAt w x n l)
    (hp : ∀ W f, Below w.heap.size w W → f ∈ l → Calls Try.prog q (#[.agg #[.string f.1, .string f.2]] ++ lb) W fun e w' => e = .returned (.bool (p f)) ∧ Below W.heap.size W w') :
    Calls Try.prog 73 #[.slice x n c, .func (.func q) #[] lb] w fun e w' => e = .returned (.int .i64 (idxB p l)) ∧ Below w.heap.size w w' := by
  have hl := h.len
  subst hl
  have hbig := h.big
  have HP := Lib.hid hp
  have HA := Lib.hid h
  clear hp h
  go_enter Try.func73, Try.ntmps73
  go_wp2
  go_loopg [5, 8] l.length (fun gg _ s8 wr => ∃ k : Nat, k ≤ l.length ∧ l.length - k ≤ gg ∧ s8 = .int .i64 k ∧ Hid (Below w.heap.size w wr) ∧ Hid (∀ j (hj : j < l.length), j < k → p l[j] = false))
  case atStart => exact ⟨0, Nat.zero_le _, by omega, rfl, Below.refl _ w, fun j _ hj => absurd hj (Nat.not_lt_zero _)⟩
  case round =>
    obtain ⟨k, hk, hg, rfl, hb, hall⟩ := hrel
    by_cases hkl : k < l.length
    · obtain ⟨b, o, f, rfl, hl2, hf, hc1, hc2, hs1, hs2⟩ := (HA.out.below hb.out).get k hkl
      have hcall := HP.out wr f hb.out (by rw [hf]; exact List.getElem_mem hkl)
      have HS := Lib.hid hf
      obtain ⟨f1, f2⟩ := f
      simp only at hc1 hc2 hcall
      clear hf
      cases hps : p (f1, f2)
      · rw [hps] at hcall
        have HC := Lib.hid hcall
        have HPS := Lib.hid hps
        clear hcall hps
        go_wp2_with fail
        refine HC.out.mono ?_
        rintro e w' ⟨rfl, hb'⟩
        have HB' := Lib.hid (grow_trans hb.out hb')
        clear hb'
        go_wp2
        go_roundg (l.length - (k + 1))
        case measure => omega
        case rel =>
          refine ⟨k + 1, by omega, by omega, by go_num, HB'.out, fun j hj hjk => ?_⟩
          by_cases e : j = k
          · subst e; rw [← HS.out]; exact HPS.out
          · exact hall.out j hj (by omega)
      · rw [hps] at hcall
        have HC := Lib.hid hcall
        have HI := Lib.hid (idxB_hit p l k hkl (by rw [← HS.out]; exact hps) (fun j hj => hall.out j (by omega) hj))
        clear hcall hps
        go_wp2_with fail
        refine HC.out.mono ?_
        rintro e w' ⟨rfl, hb'⟩
        have HB' := Lib.hid (grow_trans hb.out hb')
        clear hb'
        go_wp2
        go_ret
        exact ⟨ret_int HI.out.symm, HB'.out⟩
    · obtain rfl : k = l.length := by omega
      have HI := Lib.hid (idxB_miss p l (fun j hj => hall.out j hj hj))
      go_wp2
      go_ret
      exact ⟨ret_int HI.out.symm, hb.out⟩
end Go.Proofs.Ytdpohibgipkhnaa
