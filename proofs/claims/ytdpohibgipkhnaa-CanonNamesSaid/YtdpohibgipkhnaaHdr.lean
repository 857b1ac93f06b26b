
/-
  THE WALKS of header: named, All, Get, Count; and of the document's Is, All, Get.
-/
import Derived.Test.YtdpohibgipkhnaaFld
import Derived.Test.YtdpohibgipkhnaaStrSame
import Derived.Test.YtdpohibgipkhnaaLower
import Derived.StillTailTactics
namespace Go.Proofs.Ytdpohibgipkhnaa
open Go.RowKit Go.Proofs.Ytdpohibgipkhnaa.Oct

/-- Has a name one of some names? -/
def isB (ns : List ByteArray) (a : ByteArray) : Bool := ns.any (fun n => foldS n a)
/-- The names that a closure of named's tells of lie at block b's slice. -/
def NamedAt (w : World) (b : Nat) (ns : List ByteArray) : Prop := ∃ x n c, Blk w b 35 #[.slice x n c] ∧ StrsArg w x n ns
theorem NamedAt.below {w w' : World} {b : Nat} {ns : List ByteArray} (h : NamedAt w b ns) (hb : Below w.heap.size w w') : NamedAt w' b ns := by
  obtain ⟨x, n, c, h1, h2⟩ := h
  exact ⟨x, n, c, h1.below hb h1.lt, h2.below hb⟩

set_option maxRecDepth 100000 in
set_option maxHeartbeats 1600000 in
theorem named11_any (n a : ByteArray) (b : Nat) (w : World) (hn : n.size ≤ 9223372036854775807) (ha : a.size ≤ 9223372036854775807) (hc : w.cell? ⟨b, 0, none⟩ = some (.string a)) :
    Calls Try.prog 102 #[.string n, .pointer (some ⟨b, 0, none⟩)] w fun e w' => e = .returned (.bool (foldS n a)) ∧ Below w.heap.size w w' := by
  go_enter Try.func102, Try.ntmps102
  go_wp2_with (go_at_call 44; refine (fold_any _ _ _ hn ha).mono ?_; rintro e w' ⟨rfl, hd⟩)
  go_ret
  exact ⟨rfl, hd.below _⟩

set_option maxRecDepth 100000 in
set_option maxHeartbeats 1600000 in
theorem named1_any (ns : List ByteArray) (a v : ByteArray) (b : Nat) (w : World) (ha : a.size ≤ 9223372036854775807) (h : NamedAt w b ns) :
    Calls Try.prog 101 #[.agg #[.string a, .string v], .pointer (some ⟨b, 0, none⟩)] w fun e w' => e = .returned (.bool (isB ns a)) ∧ Below w.heap.size w w' := by
  obtain ⟨x, n, c, hb, hs⟩ := h
  have c0 : ∀ o, (w.alloc o).cell? ⟨b, 0, none⟩ = some (.slice x n c) := fun o => ((below_new w o).cell (p := ⟨b, 0, none⟩) hb.lt).trans (hb.cell 0)
  have HB := Lib.hid hb
  have HS := Lib.hid hs
  clear hb hs
  go_enter Try.func101, Try.ntmps101
  go_wp2_with fail
  refine (contstr_any 102 #[.pointer (some ⟨w.heap.size, 0, none⟩)] (fun _ _ => by kernel_rfl) (fun n => foldS n a) _ x n c ns (HS.out.below (below_new _ _)) (fun W s hW hs => ?_)).mono ?_
  · have hbx := Blk.new w 31 #[.string a, .string v]
    exact named11_any s a w.heap.size W (HS.out.2.2.1 s hs) ha ((hbx.below hW hbx.lt).cell 0)
  rintro e w' ⟨rfl, hb'⟩
  go_wp2
  go_ret
  exact ⟨rfl, (below_new _ _).trans (hb'.mono (by simp))⟩

theorem named_any (x : Option Addr) (n c : Nat) (w : World) :
    Calls Try.prog 74 #[.slice x n c] w fun e w' => e = .returned (.func (.func 101) #[] #[.pointer (some ⟨w.heap.size, 0, none⟩)]) ∧ w.alloc (.cells #[.slice x n c] 35) = w' := by
  go_enter Try.func74, Try.ntmps74
  go_wp2
  go_ret
  exact ⟨rfl, rfl⟩
/-- named(name): the slice of one name, and the box of it. -/
theorem named_one (w : World) (n : ByteArray) (hn : n.size ≤ 9223372036854775807) :
    NamedAt ((w.alloc (.cells #[.string n] 9)).alloc (.cells #[.slice (some ⟨w.heap.size, 0, none⟩) 1 1] 35)) (w.heap.size + 1) [n] ∧ Below w.heap.size w ((w.alloc (.cells #[.string n] 9)).alloc (.cells #[.slice (some ⟨w.heap.size, 0, none⟩) 1 1] 35)) := by
  refine ⟨⟨some ⟨w.heap.size, 0, none⟩, 1, 1, ?_, ?_⟩, ?_⟩
  · have := Blk.new (w.alloc (.cells #[.string n] 9)) 35 #[.slice (some ⟨w.heap.size, 0, none⟩) 1 1]
    rwa [World.size_alloc] at this
  · refine ⟨rfl, by omega, by simpa using hn, .inr ⟨w.heap.size, 0, rfl, by simp; omega, fun i hi => ?_⟩⟩
    have h0 : i = 0 := by simpa using hi
    subst h0
    exact ((Blk.new w 9 #[.string n]).alloc _).cell 0
  · exact (below_new _ _).alloc (by simp) _

theorem info_string : (Try.prog.info? 9).map (fun i => (i.zero, i.size, i.bytes)) = some (some (.string ⟨#[]⟩), 1, 16) := by kernel_rfl

/-- The values of the fields of a name. -/
def allV (l : Flds) (name : ByteArray) : List ByteArray := (l.filter fun p => foldS name p.1).map (·.2)
theorem allV_take (l : Flds) (name : ByteArray) (k : Nat) (hk : k < l.length) : allV (l.take (k + 1)) name = allV (l.take k) name ++ (if foldS name l[k].1 = true then [l[k].2] else []) := by
  unfold allV
  rw [List.take_succ_eq_append_getElem hk, List.filter_append, List.map_append]
  congr 1
  cases h : foldS name l[k].1 <;> simp [h]
theorem allV_len (l : Flds) (name : ByteArray) (k : Nat) : (allV (l.take k) name).length ≤ k := by
  unfold allV
  rw [List.length_map]
  have := List.length_filter_le (fun p : ByteArray × ByteArray => foldS name p.1) (l.take k)
  have h2 := List.length_take_le k l
  omega
theorem isB_one (n a : ByteArray) : isB [n] a = foldS n a := by simp [isB]
theorem allV_mem {l : Flds} {name s : ByteArray} (h : s ∈ allV l name) : ∃ p ∈ l, p.2 = s := by
  unfold allV at h
  obtain ⟨p, hp, rfl⟩ := List.mem_map.1 h
  exact ⟨p, (List.mem_filter.1 hp).1, rfl⟩

/-- What a call leaves that hands back a list of texts in a row of its own. -/
def TextsPost (w : World) (ss : List ByteArray) (e : Ending) (w' : World) : Prop :=
  ∃ v, e = .returned v ∧ w'.ownsRow w.heap.size 9 1 v ss.length (strVals ss) ∧ (v = .slice none 0 0 ↔ ss = []) ∧ Below w.heap.size w w'

set_option maxRecDepth 100000 in
set_option maxHeartbeats 3200000 in
theorem all_any (w : World) (x : Option Addr) (n c : Nat) (l : Flds) (name : ByteArray) (hn : name.size ≤ 9223372036854775807) (h : FldsAt w x n l) (hfew : n ≤ 65536) :
    Calls Try.prog 31 #[.slice x n c, .string name] w (TextsPost w (allV l name)) := by
  obtain ⟨i0, hi, hz⟩ := info_hid info_string
  have hl := h.len
  subst hl
  have HA := Lib.hid h
  clear h
  go_enter Try.func31, Try.ntmps31
  go_wp2_with fail
  refine (named_any _ _ _ _).mono ?_
  rintro e w1 ⟨rfl, hw1⟩
  have hn1 := named_one w name hn
  rw [hw1] at hn1
  obtain ⟨hN, hB⟩ := hn1
  have HN := Lib.hid hN
  have HB := Lib.hid hB
  have z1 : w.heap.size ≤ w1.heap.size := hB.size
  rw [World.size_alloc]
  clear hw1 hN hB
  go_wp2
  go_loopg [6, 8, 14, 15, 16, 17, 18, 19, 20, 21, 22, 23, 24, 25, 26] l.length (fun gg s6 s8 s14 s15 s16 s17 s18 s19 s20 s21 s22 s23 s24 s25 s26 wr => ∃ k : Nat, k ≤ l.length ∧ l.length - k ≤ gg ∧ s14 = .int .i64 k ∧ ((s6 = .slice none 0 0 ∧ Hid (allV (l.take k) name = [])) ∨ (∃ g' c', s6 = .slice (some ⟨g', 0, none⟩) (allV (l.take k) name).length c' ∧ Hid (allV (l.take k) name ≠ []))) ∧ Hid (wr.ownsRow w1.heap.size 9 1 s6 (allV (l.take k) name).length (strVals (allV (l.take k) name))) ∧ Hid (Below w1.heap.size w1 wr))
  case atStart => exact ⟨0, Nat.zero_le _, by omega, rfl, .inl ⟨rfl, rfl⟩, World.ownsRow_nil _ _ _ _, Below.refl _ _⟩
  case round =>
    obtain ⟨k, hk, hg, rfl, hform, hown, hb1⟩ := hrel
    have hb : Hid (Below w.heap.size w wr) := grow_trans HB.out hb1.out
    have hnm := Lib.hid (HN.out.below hb1.out)
    by_cases hkl : k < l.length
    · obtain ⟨b, o, f, rfl, hl2, hf, hc1, hc2, hs1, hs2⟩ := (HA.out.below hb.out).get k hkl
      have htk := allV_take l name k hkl
      have hle := allV_len l name k
      rw [← hf] at htk
      obtain ⟨f1, f2⟩ := f
      simp only at hc1 hc2 hs1 hs2 htk
      have HF := Lib.hid hf
      clear hf
      obtain ⟨A, hA⟩ : ∃ A, A = allV (l.take k) name := ⟨_, rfl⟩
      rw [← hA] at hown htk hle hform
      have HT := Lib.hid htk
      have HAe := Lib.hid hA
      clear htk hA
      have zr : w1.heap.size ≤ wr.heap.size := hb1.out.size
      cases hps : foldS name f1
      · have HPS := Lib.hid hps
        clear hps
        go_wp2_with fail
        refine (named1_any [name] f1 f2 _ _ hs1 (hnm.out.below (below_new _ _))).mono ?_
        rintro e w3 ⟨rfl, hb3⟩
        rw [isB_one, HPS.out]
        have HB3 := Lib.hid (grow_trans (below_new wr (.cells #[.string f1, .string f2] 31)) hb3)
        clear hb3
        go_wp2
        go_roundg (l.length - (k + 1))
        case measure => omega
        case rel =>
          have e9 : allV (l.take (k + 1)) name = A := by rw [HT.out, HPS.out]; simp
          refine ⟨k + 1, by omega, by omega, by go_num, ?_⟩
          rw [e9]
          exact ⟨hform, own_below hown.out HB3.out, hb1.out.trans (HB3.out.mono zr)⟩
      · have HPS := Lib.hid hps
        clear hps
        go_wp2_with fail
        refine (named1_any [name] f1 f2 _ _ hs1 (hnm.out.below (below_new _ _))).mono ?_
        rintro e w3 ⟨rfl, hb3⟩
        rw [isB_one, HPS.out]
        have HB3 := Lib.hid (grow_trans (below_new wr (.cells #[.string f1, .string f2] 31)) hb3)
        have hbx := Blk.new wr 31 #[.string f1, .string f2]
        have d2 : w3.cell? ⟨wr.heap.size, 1, none⟩ = some (.string f2) := (hbx.below hb3 hbx.lt).cell 1
        have HO3 := Lib.hid (own_below hown.out HB3.out)
        have z3 : w1.heap.size ≤ w3.heap.size := Nat.le_trans zr HB3.out.size
        have H5 : Hid (A.length + 1 ≤ maxLen) := by show _ ≤ _; unfold maxLen; omega
        have H6 : Hid ((A.length + 1) * 16 ≤ 140737488355328) := by show _ ≤ _; omega
        clear hb3 hbx
        rcases hform with ⟨rfl, _⟩ | ⟨g', c', rfl, _⟩
        all_goals
          go_wp2_with (at_builtin; refine wpList_append_new rfl (.tmp 21) (.tmp 24) 35 rfl w1.heap.size 9 Try.underlying35 hi hz rfl (by decide) w3 [.string f2] HO3.out rfl rfl rfl (one_str _) H5.out H6.out z3 ?_; intro g4 c4 w4 hown4 hgrow4; have O4 := Lib.hid hown4; have G4 := Lib.hid hgrow4; clear hown4 hgrow4)
          go_roundg (l.length - (k + 1))
          case measure => omega
          case rel =>
            have e9 : allV (l.take (k + 1)) name = A ++ [f2] := by rw [HT.out, HPS.out]; simp
            have e11 : (A ++ [f2]).length = A.length + 1 := by simp
            have e10 : strVals (A ++ [f2]) = strVals A ++ [.string f2] := by simp [strVals]
            have hbw := below_owned (hb1.out.trans (HB3.out.mono zr)) z3 HO3.out G4.out
            refine ⟨k + 1, by omega, by omega, by go_num, ?_⟩
            rw [e9, e10, e11]
            exact ⟨.inr ⟨g4, c4, rfl, by simp [Hid]⟩, O4.out, hbw⟩
    · obtain rfl : k = l.length := by omega
      rw [List.take_length] at hform hown
      rcases hform with ⟨rfl, hn0⟩ | ⟨g', c', rfl, hn0⟩
      all_goals
        go_wp2
        go_ret
        have hn1 := hn0.out
        refine ⟨_, rfl, own_mono hown.out z1, ?_, grow_trans HB.out hb1.out⟩
        simp [hn1]
end Go.Proofs.Ytdpohibgipkhnaa
