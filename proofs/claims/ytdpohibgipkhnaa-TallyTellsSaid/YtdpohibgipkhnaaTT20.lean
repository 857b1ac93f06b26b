/-
  THE WALKS of header: named, All, Get, Count; and of the document's Is, All, Get.
  THE WALKS of header: Get, Count; of the document's Is, All, Get, Join; of Few and of the document's Same on fields.
  THE WALKS of Few, of the document's Same on fields, of slices.Equal and header.Same.
-/
import Derived.Test.YtdpohibgipkhnaaTT19
import Derived.Test.YtdpohibgipkhnaaTT9
import Derived.Test.YtdpohibgipkhnaaTT8
import Derived.StillTailTactics
set_option linter.unusedVariables false
set_option linter.unusedSimpArgs false
namespace Go.Proofs.Ytdpohibgipkhnaa
open Go.RowKit Go.Proofs.Ytdpohibgipkhnaa.Oct

/-- Has a name one of some names? -/
def isB (ns : List ByteArray) (a : ByteArray) : Bool := ns.any (fun n => foldS n a)
/-- The names that a closure of named's tells of lie at block b's slice. -/
def NamedAt (w : World) (b : Nat) (ns : List ByteArray) : Prop := ∃ x n c, Blk w b 35 #[.slice x n c] ∧ StrsArg w x n ns
theorem NamedAt.below {w w' : World} {b : Nat} {ns : List ByteArray} (h : NamedAt w b ns) (hb : Below w.heap.size w w') : NamedAt w' b ns := by
  obtain ⟨x, n, c, h1, h2⟩ := h
  exact ⟨x, n, c, h1.below hb h1.lt, h2.below hb⟩

set_option maxRecDepth 100000 in
set_option maxHeartbeats 1600000 in
theorem named11_any (n a : ByteArray) (b : Nat) (w : World) (hn : n.size ≤ 9223372036854775807) (ha : a.size ≤ 9223372036854775807) (hc : w.cell? ⟨b, 0, none⟩ = some (.string a)) :
    Calls Try.prog 102 #[.string n, .pointer (some ⟨b, 0, none⟩)] w fun e w' => e = .returned (.bool (foldS n a)) ∧ Below w.heap.size w w' := by
  go_enter Try.func102, Try.ntmps102
  go_wp2_with (go_at_call 44; refine (fold_any _ _ _ hn ha).mono ?_; rintro e w' ⟨rfl, hd⟩)
  go_ret
  exact ⟨rfl, hd.below _⟩

set_option maxRecDepth 100000 in
set_option maxHeartbeats 1600000 in
theorem named1_any (ns : List ByteArray) (a v : ByteArray) (b : Nat) (w : World) (ha : a.size ≤ 9223372036854775807) (h : NamedAt w b ns) :
    Calls Try.prog 101 #[.agg #[.string a, .string v], .pointer (some ⟨b, 0, none⟩)] w fun e w' => e = .returned (.bool (isB ns a)) ∧ Below w.heap.size w w' := by
  obtain ⟨x, n, c, hb, hs⟩ := h
  have c0 : ∀ o, (w.alloc o).cell? ⟨b, 0, none⟩ = some (.slice x n c) := fun o => ((below_new w o).cell (p := ⟨b, 0, none⟩) hb.lt).trans (hb.cell 0)
  have HB := Lib.hid hb
  have HS := Lib.hid hs
  clear hb hs
  go_enter Try.func101, Try.ntmps101
  go_wp2_with fail
  refine (contstr_any 102 #[.pointer (some ⟨w.heap.size, 0, none⟩)] (fun _ _ => by kernel_rfl) (fun n => foldS n a) _ x n c ns (HS.out.below (below_new _ _)) (fun W s hW hs => ?_)).mono ?_
  · have hbx := Blk.new w 31 #[.string a, .string v]
    exact named11_any s a w.heap.size W (HS.out.2.2.1 s hs) ha ((hbx.below hW hbx.lt).cell 0)
  rintro e w' ⟨rfl, hb'⟩
  go_wp2
  go_ret
  exact ⟨rfl, (below_new _ _).trans (hb'.mono (by simp))⟩

theorem named_any (x : Option Addr) (n c : Nat) (w : World) :
    Calls Try.prog 74 #[.slice x n c] w fun e w' => e = .returned (.func (.func 101) #[] #[.pointer (some ⟨w.heap.size, 0, none⟩)]) ∧ w.alloc (.cells #[.slice x n c] 35) = w' := by
  go_enter Try.func74, Try.ntmps74
  go_wp2
  go_ret
  exact ⟨rfl, rfl⟩
/-- named(name): the slice of one name, and the box of it. -/
theorem named_one (w : World) (n : ByteArray) (hn : n.size ≤ 9223372036854775807) :
    NamedAt ((w.alloc (.cells #[.string n] 9)).alloc (.cells #[.slice (some ⟨w.heap.size, 0, none⟩) 1 1] 35)) (w.heap.size + 1) [n] ∧ Below w.heap.size w ((w.alloc (.cells #[.string n] 9)).alloc (.cells #[.slice (some ⟨w.heap.size, 0, none⟩) 1 1] 35)) := by
  refine ⟨⟨some ⟨w.heap.size, 0, none⟩, 1, 1, ?_, ?_⟩, ?_⟩
  · have := Blk.new (w.alloc (.cells #[.string n] 9)) 35 #[.slice (some ⟨w.heap.size, 0, none⟩) 1 1]
    rwa [World.size_alloc] at this
  · refine ⟨rfl, by omega, by simpa using hn, .inr ⟨w.heap.size, 0, rfl, by simp; omega, fun i hi => ?_⟩⟩
    have h0 : i = 0 := by simpa using hi
    subst h0
    exact ((Blk.new w 9 #[.string n]).alloc _).cell 0
  · exact (below_new _ _).alloc (by simp) _

theorem info_string : (Try.prog.info? 9).map (fun i => (i.zero, i.size, i.bytes)) = some (some (.string ⟨#[]⟩), 1, 16) := by kernel_rfl

/-- The values of the fields of a name. -/
def allV (l : Flds) (name : ByteArray) : List ByteArray := (l.filter fun p => foldS name p.1).map (·.2)
theorem allV_take (l : Flds) (name : ByteArray) (k : Nat) (hk : k < l.length) : allV (l.take (k + 1)) name = allV (l.take k) name ++ (if foldS name l[k].1 = true then [l[k].2] else []) := by
  unfold allV
  rw [List.take_succ_eq_append_getElem hk, List.filter_append, List.map_append]
  congr 1
  cases h : foldS name l[k].1 <;> simp [h]
theorem allV_len (l : Flds) (name : ByteArray) (k : Nat) : (allV (l.take k) name).length ≤ k := by
  unfold allV
  rw [List.length_map]
  have := List.length_filter_le (fun p : ByteArray × ByteArray => foldS name p.1) (l.take k)
  have h2 := List.length_take_le k l
  omega
theorem isB_one (n a : ByteArray) : isB [n] a = foldS n a := by simp [isB]
theorem allV_mem {l : Flds} {name s : ByteArray} (h : s ∈ allV l name) : ∃ p ∈ l, p.2 = s := by
  unfold allV at h
  obtain ⟨p, hp, rfl⟩ := List.mem_map.1 h
  exact ⟨p, (List.mem_filter.1 hp).1, rfl⟩

/-- What a call leaves that hands back a list of texts in a row of its own. -/
def TextsPost (w : World) (ss : List ByteArray) (e : Ending) (w' : World) : Prop :=
  ∃ v, e = .returned v ∧ w'.ownsRow w.heap.size 9 1 v ss.length (strVals ss) ∧ (v = .slice none 0 0 ↔ ss = []) ∧ Below w.heap.size w w'

set_option maxRecDepth 100000 in
set_option maxHeartbeats 3200000 in
theorem all_any (w : World) (x : Option Addr) (n c : Nat) (l : Flds) (name : ByteArray) (hn : name.size ≤ 9223372036854775807) (h : FldsAt w x n l) (hfew : n ≤ 65536) :
    Calls Try.prog 31 #[.slice x n c, .string name] w (TextsPost w (allV l name)) := by
  obtain ⟨i0, hi, hz⟩ := info_hid info_string
  have hl := h.len
  subst hl
  have HA := Lib.hid h
  clear h
  go_enter Try.func31, Try.ntmps31
  go_wp2_with fail
  refine (named_any _ _ _ _).mono ?_
  rintro e w1 ⟨rfl, hw1⟩
  have hn1 := named_one w name hn
  rw [hw1] at hn1
  obtain ⟨hN, hB⟩ := hn1
  have HN := Lib.hid hN
  have HB := Lib.hid hB
  have z1 : w.heap.size ≤ w1.heap.size := hB.size
  rw [World.size_alloc]
  clear hw1 hN hB
  go_wp2
  go_loopg [6, 8, 14, 15, 16, 17, 18, 19, 20, 21, 22, 23, 24, 25, 26] l.length (fun gg s6 s8 s14 s15 s16 s17 s18 s19 s20 s21 s22 s23 s24 s25 s26 wr => ∃ k : Nat, k ≤ l.length ∧ l.length - k ≤ gg ∧ s14 = .int .i64 k ∧ ((s6 = .slice none 0 0 ∧ Hid (allV (l.take k) name = [])) ∨ (∃ g' c', s6 = .slice (some ⟨g', 0, none⟩) (allV (l.take k) name).length c' ∧ Hid (allV (l.take k) name ≠ []))) ∧ Hid (wr.ownsRow w1.heap.size 9 1 s6 (allV (l.take k) name).length (strVals (allV (l.take k) name))) ∧ Hid (Below w1.heap.size w1 wr))
  case atStart => exact ⟨0, Nat.zero_le _, by omega, rfl, .inl ⟨rfl, rfl⟩, World.ownsRow_nil _ _ _ _, Below.refl _ _⟩
  case round =>
    obtain ⟨k, hk, hg, rfl, hform, hown, hb1⟩ := hrel
    have hb : Hid (Below w.heap.size w wr) := grow_trans HB.out hb1.out
    have hnm := Lib.hid (HN.out.below hb1.out)
    by_cases hkl : k < l.length
    · obtain ⟨b, o, f, rfl, hl2, hf, hc1, hc2, hs1, hs2⟩ := (HA.out.below hb.out).get k hkl
      have htk := allV_take l name k hkl
      have hle := allV_len l name k
      rw [← hf] at htk
      obtain ⟨f1, f2⟩ := f
      simp only at hc1 hc2 hs1 hs2 htk
      have HF := Lib.hid hf
      clear hf
      obtain ⟨A, hA⟩ : ∃ A, A = allV (l.take k) name := ⟨_, rfl⟩
      rw [← hA] at hown htk hle hform
      have HT := Lib.hid htk
      have HAe := Lib.hid hA
      clear htk hA
      have zr : w1.heap.size ≤ wr.heap.size := hb1.out.size
      cases hps : foldS name f1
      · have HPS := Lib.hid hps
        clear hps
        go_wp2_with fail
        refine (named1_any [name] f1 f2 _ _ hs1 (hnm.out.below (below_new _ _))).mono ?_
        rintro e w3 ⟨rfl, hb3⟩
        rw [isB_one, HPS.out]
        have HB3 := Lib.hid (grow_trans (below_new wr (.cells #[.string f1, .string f2] 31)) hb3)
        clear hb3
        go_wp2
        go_roundg (l.length - (k + 1))
        case measure => omega
        case rel =>
          have e9 : allV (l.take (k + 1)) name = A := by rw [HT.out, HPS.out]; simp
          refine ⟨k + 1, by omega, by omega, by go_num, ?_⟩
          rw [e9]
          exact ⟨hform, own_below hown.out HB3.out, hb1.out.trans (HB3.out.mono zr)⟩
      · have HPS := Lib.hid hps
        clear hps
        go_wp2_with fail
        refine (named1_any [name] f1 f2 _ _ hs1 (hnm.out.below (below_new _ _))).mono ?_
        rintro e w3 ⟨rfl, hb3⟩
        rw [isB_one, HPS.out]
        have HB3 := Lib.hid (grow_trans (below_new wr (.cells #[.string f1, .string f2] 31)) hb3)
        have hbx := Blk.new wr 31 #[.string f1, .string f2]
        have d2 : w3.cell? ⟨wr.heap.size, 1, none⟩ = some (.string f2) := (hbx.below hb3 hbx.lt).cell 1
        have HO3 := Lib.hid (own_below hown.out HB3.out)
        have z3 : w1.heap.size ≤ w3.heap.size := Nat.le_trans zr HB3.out.size
        have H5 : Hid (A.length + 1 ≤ maxLen) := by show _ ≤ _; unfold maxLen; omega
        have H6 : Hid ((A.length + 1) * 16 ≤ 140737488355328) := by show _ ≤ _; omega
        clear hb3 hbx
        rcases hform with ⟨rfl, _⟩ | ⟨g', c', rfl, _⟩
        all_goals
          go_wp2_with (at_builtin; refine wpList_append_new rfl (.tmp 21) (.tmp 24) 35 rfl w1.heap.size 9 Try.underlying35 hi hz rfl (by decide) w3 [.string f2] HO3.out rfl rfl rfl (one_str _) H5.out H6.out z3 ?_; intro g4 c4 w4 hown4 hgrow4; have O4 := Lib.hid hown4; have G4 := Lib.hid hgrow4; clear hown4 hgrow4)
          go_roundg (l.length - (k + 1))
          case measure => omega
          case rel =>
            have e9 : allV (l.take (k + 1)) name = A ++ [f2] := by rw [HT.out, HPS.out]; simp
            have e11 : (A ++ [f2]).length = A.length + 1 := by simp
            have e10 : strVals (A ++ [f2]) = strVals A ++ [.string f2] := by simp [strVals]
            have hbw := below_owned (hb1.out.trans (HB3.out.mono zr)) z3 HO3.out G4.out
            refine ⟨k + 1, by omega, by omega, by go_num, ?_⟩
            rw [e9, e10, e11]
            exact ⟨.inr ⟨g4, c4, rfl, by simp [Hid]⟩, O4.out, hbw⟩
    · obtain rfl : k = l.length := by omega
      rw [List.take_length] at hform hown
      rcases hform with ⟨rfl, hn0⟩ | ⟨g', c', rfl, hn0⟩
      all_goals
        go_wp2
        go_ret
        have hn1 := hn0.out
        refine ⟨_, rfl, own_mono hown.out z1, ?_, grow_trans HB.out hb1.out⟩
        simp [hn1]
end Go.Proofs.Ytdpohibgipkhnaa
namespace Go.Proofs.Ytdpohibgipkhnaa
open Go.RowKit Go.Proofs.Ytdpohibgipkhnaa.Oct

/-- The value of the first field of a name. -/
def getF (l : Flds) (name : ByteArray) : ByteArray × Bool :=
  match allV l name with
  | [] => (⟨#[]⟩, false)
  | s :: _ => (s, true)
theorem getF_none {l : Flds} {name : ByteArray} (h : l.any (fun p => foldS name p.1) = false) : getF l name = (⟨#[]⟩, false) := by
  have : allV l name = [] := by
    unfold allV
    rw [List.map_eq_nil_iff, List.filter_eq_nil_iff]
    intro p hp hf
    have : l.any (fun p => foldS name p.1) = true := List.any_eq_true.2 ⟨p, hp, hf⟩
    rw [h] at this
    cases this
  unfold getF
  rw [this]
theorem allV_first {name : ByteArray} : ∀ (l : Flds) (k : Nat) (hk : k < l.length), foldS name l[k].1 = true → (∀ j (hj : j < k), foldS name (l[j]'(by omega)).1 = false) → ∃ r, allV l name = l[k].2 :: r
  | [], k, hk, _, _ => absurd hk (Nat.not_lt_zero _)
  | p :: l, 0, _, h, _ => ⟨allV l name, by
    have h' : foldS name p.1 = true := h
    unfold allV; simp [h']⟩
  | p :: l, k + 1, hk, h, hb => by
    have h0 : foldS name p.1 = false := hb 0 (by omega)
    obtain ⟨r, hr⟩ := allV_first l k (by simpa using hk) h (fun j hj => hb (j + 1) (by omega))
    refine ⟨r, ?_⟩
    have e : allV (p :: l) name = allV l name := by unfold allV; simp [h0]
    rw [e, hr]
    rfl
theorem getF_some {l : Flds} {name : ByteArray} {k : Nat} (hk : k < l.length) (h : foldS name l[k].1 = true) (hb : ∀ j (hj : j < k), foldS name (l[j]'(by omega)).1 = false) : getF l name = (l[k].2, true) := by
  obtain ⟨r, hr⟩ := allV_first l k hk h hb
  unfold getF
  rw [hr]

set_option maxRecDepth 100000 in
set_option maxHeartbeats 1600000 in
theorem hget_any (w : World) (x : Option Addr) (n c : Nat) (l : Flds) (name : ByteArray) (hn : name.size ≤ 9223372036854775807) (h : FldsAt w x n l) :
    Calls Try.prog 25 #[.slice x n c, .string name] w fun e w' => e = .returned (.tuple #[.string (getF l name).1, .bool (getF l name).2]) ∧ Below w.heap.size w w' := by
  have hl := h.len
  subst hl
  have hbig := h.big
  have HA := Lib.hid h
  clear h
  go_enter Try.func25, Try.ntmps25
  go_wp2_with fail
  refine (named_any _ _ _ _).mono ?_
  rintro e w1 ⟨rfl, hw1⟩
  have hn1 := named_one w name hn
  rw [hw1] at hn1
  obtain ⟨hN, hB⟩ := hn1
  have HN := Lib.hid hN
  have HB := Lib.hid hB
  rw [World.size_alloc]
  clear hw1 hN hB
  go_wp2_with fail
  refine (idxfld_any 101 #[.pointer (some ⟨w.heap.size + 1, 0, none⟩)] (fun _ _ => by kernel_rfl) (fun p => foldS name p.1) w1 x _ c l (HA.out.below HB.out) (fun W f hW hf => ?_)).mono ?_
  · have := named1_any [name] f.1 f.2 (w.heap.size + 1) W (HA.out.str f hf).1 (HN.out.below hW)
    rw [isB_one] at this
    exact this
  rintro e w2 ⟨rfl, hb2⟩
  have HB2 := Lib.hid (grow_trans HB.out hb2)
  clear hb2
  rcases idxB_cases (fun p : ByteArray × ByteArray => foldS name p.1) l with ⟨hi, hno⟩ | ⟨k, hi, hk, hy, hbef, _⟩
  · rw [hi]
    have HG := Lib.hid (getF_none hno)
    clear hi hno
    go_wp2
    go_ret2
    exact ⟨by rw [HG.out]; rfl, HB2.out⟩
  · rw [hi]
    have hg := getF_some hk hy hbef
    obtain ⟨b, o, f, rfl, hl2, hf, hc1, hc2, hs1, hs2⟩ := (HA.out.below HB2.out).get k hk
    rw [← hf] at hg
    have HG := Lib.hid hg
    have i1 : (k : Int) < (l.length : Int) := by omega
    clear hi hy hbef hg hf
    go_wp2
    go_ret2
    exact ⟨by rw [HG.out]; rfl, HB2.out⟩

set_option maxRecDepth 100000 in
set_option maxHeartbeats 800000 in
theorem hcount_any (w : World) (x : Option Addr) (n c : Nat) (l : Flds) (name : ByteArray) (hn : name.size ≤ 9223372036854775807) (h : FldsAt w x n l) (hfew : n ≤ 65536) :
    Calls Try.prog 23 #[.slice x n c, .string name] w fun e w' => e = .returned (.int .i64 (allV l name).length) ∧ Below w.heap.size w w' := by
  have H := Lib.hid (all_any w x n c l name hn h hfew)
  clear h
  go_enter Try.func23, Try.ntmps23
  go_wp2_with fail
  refine H.out.mono ?_
  rintro e w1 ⟨v, rfl, ho, hnil, hb⟩
  rcases ho.2 with ⟨rfl, h0⟩ | ⟨g, cap, cur, rfl, _⟩
  · have H0 := Lib.hid h0
    clear h0 ho hnil
    go_wp2
    go_ret
    exact ⟨ret_int (by rw [H0.out]; rfl), hb⟩
  · clear ho hnil
    go_wp2
    go_ret
    exact ⟨rfl, hb⟩

/-! ### the document's -/
theorem low_eq (a b : ByteArray) : ((lowS a).toList == (lowS b).toList) = foldS a b := by
  unfold foldS
  rw [ByteArray.toList_eq, ByteArray.toList_eq, Bool.eq_iff_iff]
  simp only [beq_iff_eq, decide_eq_true_eq]
  exact ⟨bytes_eq_of_list, fun h => by rw [h]⟩
theorem fold_symm (a b : ByteArray) : foldS a b = foldS b a := by
  unfold foldS
  exact decide_eq_decide.2 eq_comm

set_option maxRecDepth 100000 in
set_option maxHeartbeats 800000 in
theorem ris_any (a b : ByteArray) (w : World) (ha : a.size ≤ 140737488355328) (hb : b.size ≤ 140737488355328) :
    Calls Try.prog 39 #[.string a, .string b] w fun e w' => e = .returned (.bool (foldS b a)) ∧ Below w.heap.size w w' := by
  have HE := Lib.hid (low_eq a b)
  go_enter Try.func39, Try.ntmps39
  go_wp2_with fail
  refine (rlower_any a _ ha).mono ?_
  rintro e w1 ⟨rfl, h1⟩
  have H1 := Lib.hid h1
  clear h1
  go_wp2_with fail
  refine (rlower_any b _ hb).mono ?_
  rintro e w2 ⟨rfl, h2⟩
  have H2 := Lib.hid (grow_trans H1.out h2)
  clear h2
  go_wp2
  go_ret
  exact ⟨ret_bool (by rw [HE.out, fold_symm]), H2.out⟩

set_option maxRecDepth 100000 in
set_option maxHeartbeats 3200000 in
theorem rall_any (w : World) (x : Option Addr) (n c : Nat) (l : Flds) (name : ByteArray) (hn : name.size ≤ 140737488355328) (h : FldsAt w x n l) (hfew : n ≤ 65536) (hsm : ∀ p ∈ l, p.1.size ≤ 140737488355328) :
    Calls Try.prog 29 #[.slice x n c, .string name] w fun e w' => ∃ g c', e = .returned (.slice (some ⟨g, 0, none⟩) (allV l name).length c') ∧ w'.ownsRow w.heap.size 9 1 (.slice (some ⟨g, 0, none⟩) (allV l name).length c') (allV l name).length (strVals (allV l name)) ∧ Below w.heap.size w w' := by
  obtain ⟨i0, hi, hz⟩ := info_hid info_string
  have hl := h.len
  subst hl
  have HA := Lib.hid h
  have HSm := Lib.hid hsm
  clear h hsm
  go_enter Try.func29, Try.ntmps29
  go_wp2
  go_loopg [5, 6, 8, 9, 10, 11, 12, 13, 14, 15, 16, 17, 18, 19, 20, 21, 22, 23, 24, 25, 26, 27, 28] l.length (fun gg s5 s6 s8 s9 s10 s11 s12 s13 s14 s15 s16 s17 s18 s19 s20 s21 s22 s23 s24 s25 s26 s27 s28 wr => ∃ (k g' c' : Nat), k ≤ l.length ∧ l.length - k ≤ gg ∧ s6 = .int .i64 k ∧ s5 = .slice (some ⟨g', 0, none⟩) (allV (l.take k) name).length c' ∧ Hid (wr.ownsRow w.heap.size 9 1 (.slice (some ⟨g', 0, none⟩) (allV (l.take k) name).length c') (allV (l.take k) name).length (strVals (allV (l.take k) name))) ∧ Hid (Below w.heap.size w wr))
  case atStart => exact ⟨0, _, _, Nat.zero_le _, by omega, rfl, rfl, World.ownsRow_lit w #[] 0 (Nat.le_refl _) (by decide) rfl, below_new _ _⟩
  case round =>
    obtain ⟨k, g', c', hk, hg, rfl, rfl, hown, hb⟩ := hrel
    by_cases hkl : k < l.length
    · obtain ⟨b, o, f, rfl, hl2, hf, hc1, hc2, hs1, hs2⟩ := (HA.out.below hb.out).get k hkl
      have htk := allV_take l name k hkl
      have hle := allV_len l name k
      have hsf : f.1.size ≤ 140737488355328 := by rw [hf]; exact HSm.out _ (List.getElem_mem hl2)
      have hbl : b < wr.heap.size := by
        rcases (HA.out.below hb.out).at_ with h0 | ⟨b', o', he, hlt, _⟩
        · omega
        · cases he; exact hlt
      rw [← hf] at htk
      obtain ⟨f1, f2⟩ := f
      simp only at hc1 hc2 hs1 hs2 htk hsf
      have HF := Lib.hid hf
      clear hf
      obtain ⟨A, hA⟩ : ∃ A, A = allV (l.take k) name := ⟨_, rfl⟩
      rw [← hA] at hown htk hle ⊢
      have HT := Lib.hid htk
      have HAe := Lib.hid hA
      clear htk hA
      have zr : w.heap.size ≤ wr.heap.size := hb.out.size
      cases hps : foldS name f1
      · have HPS := Lib.hid hps
        clear hps
        go_wp2_with fail
        refine (ris_any f1 name _ hsf hn).mono ?_
        rintro e w3 ⟨rfl, hb3⟩
        rw [HPS.out]
        have HB3 := Lib.hid hb3
        clear hb3
        go_wp2
        go_roundg (l.length - (k + 1))
        case measure => omega
        case rel =>
          have e9 : allV (l.take (k + 1)) name = A := by rw [HT.out, HPS.out]; simp
          refine ⟨k + 1, g', c', by omega, by omega, by go_num, ?_⟩
          rw [e9]
          exact ⟨rfl, own_below hown.out HB3.out, grow_trans hb.out HB3.out⟩
      · have HPS := Lib.hid hps
        clear hps
        go_wp2_with fail
        refine (ris_any f1 name _ hsf hn).mono ?_
        rintro e w3 ⟨rfl, hb3⟩
        rw [HPS.out]
        have HB3 := Lib.hid hb3
        have d2 : w3.cell? ⟨b, o + k * 2 + 1, none⟩ = some (.string f2) := (hb3.cell (p := ⟨b, o + k * 2 + 1, none⟩) hbl).trans hc2
        have HO3 := Lib.hid (own_below hown.out HB3.out)
        have z3 : w.heap.size ≤ w3.heap.size := Nat.le_trans zr HB3.out.size
        have H5 : Hid (A.length + 1 ≤ maxLen) := by show _ ≤ _; unfold maxLen; omega
        have H6 : Hid ((A.length + 1) * 16 ≤ 140737488355328) := by show _ ≤ _; omega
        clear hb3
        go_wp2_with (at_builtin; refine wpList_append_new rfl (.tmp 21) (.tmp 27) 35 rfl w.heap.size 9 Try.underlying35 hi hz rfl (by decide) w3 [.string f2] HO3.out rfl rfl rfl (one_str _) H5.out H6.out z3 ?_; intro g4 c4 w4 hown4 hgrow4; have O4 := Lib.hid hown4; have G4 := Lib.hid hgrow4; clear hown4 hgrow4)
        go_roundg (l.length - (k + 1))
        case measure => omega
        case rel =>
          have e9 : allV (l.take (k + 1)) name = A ++ [f2] := by rw [HT.out, HPS.out]; simp
          have e11 : (A ++ [f2]).length = A.length + 1 := by simp
          have e10 : strVals (A ++ [f2]) = strVals A ++ [.string f2] := by simp [strVals]
          have hbw := below_owned (grow_trans hb.out HB3.out) z3 HO3.out G4.out
          refine ⟨k + 1, g4, c4, by omega, by omega, by go_num, ?_⟩
          rw [e9, e10, e11]
          exact ⟨rfl, O4.out, hbw⟩
    · obtain rfl : k = l.length := by omega
      rw [List.take_length] at hown ⊢
      go_wp2
      go_ret
      exact ⟨g', c', rfl, hown.out, hb.out⟩

set_option maxRecDepth 100000 in
set_option maxHeartbeats 800000 in
theorem hrget_any (w : World) (x : Option Addr) (n c : Nat) (l : Flds) (name : ByteArray) (hn : name.size ≤ 140737488355328) (h : FldsAt w x n l) (hfew : n ≤ 65536) (hsm : ∀ p ∈ l, p.1.size ≤ 140737488355328) :
    Calls Try.prog 26 #[.slice x n c, .string name] w fun e w' => e = .returned (.tuple #[.string (getF l name).1, .bool (getF l name).2]) ∧ Below w.heap.size w w' := by
  have H := Lib.hid (rall_any w x n c l name hn h hfew hsm)
  have hlen : (allV l name).length ≤ 65536 := by
    have := allV_len l name l.length
    rw [List.take_length] at this
    have := h.len
    omega
  clear h hsm
  go_enter Try.func26, Try.ntmps26
  go_wp2_with fail
  refine H.out.mono ?_
  rintro e w1 ⟨g, c', rfl, ho, hb⟩
  cases hA : allV l name with
  | nil =>
    have HG : Hid (getF l name = (⟨#[]⟩, false)) := by show _ = _; unfold getF; rw [hA]
    clear ho hA
    go_wp2
    go_ret2
    exact ⟨by rw [HG.out]; rfl, hb⟩
  | cons s r =>
    have HG : Hid (getF l name = (s, true)) := by show _ = _; unfold getF; rw [hA]
    rw [hA] at ho hlen
    have c0 : w1.cell? ⟨g, 0, none⟩ = some (.string s) := by rw [ho.cellAt 0 (by simp)]; rfl
    obtain ⟨m, hm⟩ : ∃ m : Nat, m = r.length := ⟨_, rfl⟩
    have e1 : (s :: r).length = m + 1 := by simp [hm]
    rw [e1]
    have i1 : (1 : Int) ≤ (m : Int) + 1 := by omega
    have i2 : (((m + 1 : Nat) : Int) == 0) = false := by simp; omega
    have i3 : ((m : Int) + 1 == 0) = false := by simp; omega
    clear ho hA hlen e1 hm
    go_wp2
    go_ret2
    exact ⟨by rw [HG.out]; rfl, hb⟩
end Go.Proofs.Ytdpohibgipkhnaa
namespace Go.Proofs.Ytdpohibgipkhnaa
open Go.RowKit Go.Proofs.Ytdpohibgipkhnaa.Oct

/-- Are there so few fields, and are they so short? -/
def fewB (l : Flds) : Bool := decide (l.length ≤ 40 ∧ ∀ p ∈ l, p.1.size ≤ 100 ∧ p.2.size ≤ 300)
theorem fewB_of {l : Flds} (h : fewB l = true) : l.length ≤ 40 ∧ ∀ p ∈ l, p.1.size ≤ 100 ∧ p.2.size ≤ 300 := of_decide_eq_true h

set_option maxRecDepth 100000 in
set_option maxHeartbeats 1600000 in
theorem few_any (w : World) (x : Option Addr) (n c : Nat) (l : Flds) (h : FldsAt w x n l) :
    Calls Try.prog 14 #[.slice x n c] w fun e w' => e = .returned (.bool (fewB l)) ∧ Below w.heap.size w w' := by
  have hl := h.len
  subst hl
  have hbig := h.big
  have HA := Lib.hid h
  clear h
  by_cases hn : (40 : Int) < (l.length : Int)
  · have hf : fewB l = false := decide_eq_false (fun h => by omega)
    have HF := Lib.hid hf
    clear hf
    go_enter Try.func14, Try.ntmps14
    go_wp2
    go_ret
    exact ⟨ret_bool HF.out.symm, Below.refl _ _⟩
  · go_enter Try.func14, Try.ntmps14
    go_wp2
    go_loopg [4, 10, 11, 12, 13, 14, 15, 16, 17, 18, 19, 20, 21, 22, 23, 24] l.length (fun gg s4 s10 s11 s12 s13 s14 s15 s16 s17 s18 s19 s20 s21 s22 s23 s24 wr => ∃ k : Nat, k ≤ l.length ∧ l.length - k ≤ gg ∧ s10 = .int .i64 k ∧ Hid (Below w.heap.size w wr) ∧ Hid (∀ j (hj : j < l.length), j < k → l[j].1.size ≤ 100 ∧ l[j].2.size ≤ 300))
    case atStart => exact ⟨0, Nat.zero_le _, by omega, rfl, Below.refl _ w, fun j _ hj => absurd hj (Nat.not_lt_zero _)⟩
    case round =>
      obtain ⟨k, hk, hg, rfl, hb, hall⟩ := hrel
      by_cases hkl : k < l.length
      · obtain ⟨b, o, f, rfl, hl2, hf, hc1, hc2, hs1, hs2⟩ := (HA.out.below hb.out).get k hkl
        have HS := Lib.hid hf
        obtain ⟨f1, f2⟩ := f
        simp only at hc1 hc2 hs1 hs2
        clear hf
        by_cases h1 : (100 : Int) < (f1.size : Int)
        · have hf : fewB l = false := decide_eq_false (fun h => by
            have := (h.2 _ (List.getElem_mem hl2)).1
            rw [← HS.out] at this
            simp only at this
            omega)
          have HF := Lib.hid hf
          clear hf
          go_wp2
          go_ret
          exact ⟨ret_bool HF.out.symm, hb.out.trans ((below_new _ _).mono hb.out.size)⟩
        · by_cases h2 : (300 : Int) < (f2.size : Int)
          · have hf : fewB l = false := decide_eq_false (fun h => by
              have := (h.2 _ (List.getElem_mem hl2)).2
              rw [← HS.out] at this
              simp only at this
              omega)
            have HF := Lib.hid hf
            clear hf
            go_wp2
            go_ret
            exact ⟨ret_bool HF.out.symm, hb.out.trans ((below_new _ _).mono hb.out.size)⟩
          · go_wp2
            go_roundg (l.length - (k + 1))
            case measure => omega
            case rel =>
              refine ⟨k + 1, by omega, by omega, by go_num, hb.out.trans ((below_new _ _).mono hb.out.size), fun j hj hjk => ?_⟩
              by_cases e : j = k
              · subst e; rw [← HS.out]; exact ⟨by show f1.size ≤ 100; omega, by show f2.size ≤ 300; omega⟩
              · exact hall.out j hj (by omega)
      · obtain rfl : k = l.length := by omega
        have hf : fewB l = true := decide_eq_true ⟨by omega, fun p hp => by
          obtain ⟨j, hj, rfl⟩ := List.mem_iff_getElem.1 hp
          exact hall.out j hj hj⟩
        have HF := Lib.hid hf
        clear hf
        go_wp2
        go_ret
        exact ⟨ret_bool HF.out.symm, hb.out⟩

theorem toList_ne {a b : ByteArray} (h : a ≠ b) : (a.toList == b.toList) = false := by
  simpa using fun h2 => h (toList_inj h2)
/-- Two fields that differ. -/
theorem fld_ne {a b c d : ByteArray} (h : (a, b) ≠ (c, d)) : (a.toList == c.toList) = false ∨ (a = c ∧ (b.toList == d.toList) = false) := by
  by_cases e : a = c
  · subst e
    exact .inr ⟨rfl, toList_ne (fun e2 => h (by rw [e2]))⟩
  · exact .inl (toList_ne e)

set_option maxRecDepth 100000 in
set_option maxHeartbeats 1600000 in
theorem rsamef_any (x y : Option Addr) (la ca lb cb : Nat) (A B : Flds) (w : World) (ha : FldsAt w x la A) (hb : FldsAt w y lb B) :
    Calls Try.prog 18 #[.slice x la ca, .slice y lb cb] w fun e w' => e = .returned (.bool (decide (A = B))) ∧ Drawn w w' := by
  have al := ha.len
  have bl := hb.len
  have alm := ha.big
  have blm := hb.big
  by_cases hll : la = lb
  · subst hll
    have h1 : ((la : Int) != (la : Int)) = false := by simp
    have AL := Lib.hid al
    have BL := Lib.hid bl
    have AX := Lib.hid ha
    have BX := Lib.hid hb
    clear al bl ha hb
    go_enter Try.func18, Try.ntmps18
    go_wp2
    go_loopw [5] (fun i wr => ∃ k : Nat, k ≤ la ∧ i = .int .i64 k ∧ Hid (∀ j (h : j < A.length) (h' : j < B.length), j < k → A[j] = B[j]) ∧ Drawn w wr) (fun i _ => la - (intOf i).toNat)
    case atStart => exact ⟨0, Nat.zero_le _, rfl, fun j _ _ h => absurd h (Nat.not_lt_zero _), Drawn.refl _⟩
    case round =>
      obtain ⟨k, hk, rfl, hall, hwr⟩ := hrel
      by_cases hlt : k < la
      · obtain ⟨b, o, f, rfl, hl2, hf, hc1, hc2, hs1, hs2⟩ := (AX.out.below hwr.grow).get k hlt
        obtain ⟨b', o', g, rfl, hl3, hg, hd1, hd2, hs3, hs4⟩ := (BX.out.below hwr.grow).get k hlt
        have HS := Lib.hid hf
        have HT := Lib.hid hg
        obtain ⟨f1, f2⟩ := f
        obtain ⟨g1, g2⟩ := g
        simp only at hc1 hc2 hs1 hs2 hd1 hd2 hs3 hs4
        clear hf hg
        by_cases hst : (f1, f2) = (g1, g2)
        · obtain ⟨rfl, rfl⟩ := Prod.mk.inj hst
          clear hst
          go_wp2
          go_quiet (fail)
          go_wp2
          go_roundw
          case rel => exact ⟨k + 1, by omega, by go_num, (fun j h h' hj => by
            by_cases hjk : j < k
            · exact hall.out j h h' hjk
            · obtain rfl : j = k := by omega
              exact HS.out.symm.trans HT.out), hwr.drewN _⟩
          case measure => simp [intOf]; omega
        · have hd : decide (A = B) = false := by
            apply decide_eq_false
            intro h
            apply hst
            rw [HS.out, HT.out]
            simp only [h]
          have HD := Lib.hid hd
          clear hd
          rcases fld_ne hst with hne | ⟨rfl, hne⟩
          all_goals
            clear hst
            go_wp2
            go_quiet (fail)
            go_wp2
            go_ret
            exact ⟨ret_bool HD.out.symm, hwr.drewN _⟩
      · have hd : decide (A = B) = true := by
          apply decide_eq_true
          apply List.ext_getElem
          · rw [AL.out, BL.out]
          · intro j h h'
            exact hall.out j h h' (by rw [AL.out] at h; omega)
        have HD := Lib.hid hd
        clear hd
        go_wp2
        go_ret
        exact ⟨ret_bool HD.out.symm, hwr⟩
  · have h1 : ((la : Int) != (lb : Int)) = true := by simp; omega
    have hd : decide (A = B) = false := by
      apply decide_eq_false
      intro h
      apply hll
      rw [← al, ← bl, h]
    have HD := Lib.hid hd
    clear hd hll al bl ha hb
    go_enter Try.func18, Try.ntmps18
    go_wp2
    go_ret
    exact ⟨ret_bool HD.out.symm, Drawn.refl _⟩
end Go.Proofs.Ytdpohibgipkhnaa
