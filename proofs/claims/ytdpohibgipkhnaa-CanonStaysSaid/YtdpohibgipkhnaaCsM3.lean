/-
  THE WALK of the document's Without.
  THE WALK of the document's Set, and what it gives.
  THE WALK of header.Set.
  THE WALKS of canon: upper, special, Single.
  THE WALK of the document's Single.
  THE WALK of the document's Name.
  THE WALK of the document's Name, where it is none of the special ones.
  THE WALK of canon.Name.
  THE WALK of the law HeaderChanges. (Written by wip/tools/mkchanges.py.)
  PLAIN: what Set and Without leave, asked by name.
  PLAIN: fields in one form.
  THE WALK of canon.Fields' put.
  PLAIN: what a stable sort leaves: the same elements, each class of equals in its old order, sorted; this fixes the list. The steps of insertion, rotation and merging keep it. No program in sight.
-/
import Derived.Test.YtdpohibgipkhnaaCsM2
import Derived.Deep.DeepCutAuto
import Derived.Deep.RegionHeld3
import Derived.Deep.AppendLies
import Derived.Deep.DrawnRows
import Derived.Lib.Strings
namespace Go.Proofs.Ytdpohibgipkhnaa
open Go.RowKit Go.Sort Go.Proofs.Ytdpohibgipkhnaa.Oct

theorem isB_take (ns : List ByteArray) (a : ByteArray) (k : Nat) (hk : k < ns.length) : isB (ns.take (k + 1)) a = (isB (ns.take k) a || foldS ns[k] a) := by
  unfold isB
  rw [List.take_succ_eq_append_getElem hk, List.any_append]
  simp
theorem withoutF_take (l : Flds) (ns : List ByteArray) (k : Nat) (hk : k < l.length) : withoutF (l.take (k + 1)) ns = withoutF (l.take k) ns ++ (if isB ns l[k].1 = true then [] else [l[k]]) := by
  unfold withoutF
  rw [filter_take _ _ _ hk]
  congr 1
  cases isB ns l[k].1 <;> rfl
theorem withoutF_le (l : Flds) (ns : List ByteArray) (k : Nat) : (withoutF (l.take k) ns).length ≤ k := filter_len _ _ _

set_option maxRecDepth 100000 in
set_option maxHeartbeats 3200000 in
theorem rwithout_any (w : World) (x y : Option Addr) (n c m d : Nat) (l : Flds) (ns : List ByteArray) (h : FldsAt w x n l) (h2 : StrsArg w y m ns) (hfew : n ≤ 65536) (hm : m ≤ 65536) (hsm : ∀ p ∈ l, p.1.size ≤ 140737488355328) (hsn : ∀ s ∈ ns, s.size ≤ 140737488355328) :
    Calls Try.prog 34 #[.slice x n c, .slice y m d] w (FldsPost w (withoutF l ns)) := by
  obtain ⟨i0, hi, hz⟩ := info_hid info_field
  have hl := h.len
  subst hl
  have hl2 := h2.1
  subst hl2
  have HA := Lib.hid h
  have HN := Lib.hid h2
  have HSm := Lib.hid hsm
  have HSn := Lib.hid hsn
  clear h h2 hsm hsn
  go_enter Try.func34, Try.ntmps34
  go_wp2
  go_loopg [5, 6] l.length (fun gg s5 s6 wr => ∃ (k g' c' : Nat), k ≤ l.length ∧ l.length - k ≤ gg ∧ s6 = .int .i64 k ∧ s5 = .slice (some ⟨g', 0, none⟩) (withoutF (l.take k) ns).length c' ∧ Hid (wr.ownsRow w.heap.size 31 2 (.slice (some ⟨g', 0, none⟩) (withoutF (l.take k) ns).length c') (withoutF (l.take k) ns).length (fldVals (withoutF (l.take k) ns))) ∧ Hid (Below w.heap.size w wr))
  case atStart => exact ⟨0, _, _, Nat.zero_le _, by omega, rfl, rfl, World.ownsRow_lit w #[] 0 (Nat.le_refl _) (by decide) rfl, below_new _ _⟩
  case round =>
    obtain ⟨k, g', c', hk, hg, rfl, rfl, hown, hb⟩ := hrel
    by_cases hkl : k < l.length
    · obtain ⟨b, o, f, rfl, hl2, hf, hc1, hc2, hs1, hs2⟩ := (HA.out.below hb.out).get k hkl
      have htk := withoutF_take l ns k hkl
      have hle := withoutF_le l ns k
      have hsf : f.1.size ≤ 140737488355328 := by rw [hf]; exact HSm.out _ (List.getElem_mem hl2)
      have hbl : b < wr.heap.size := by
        rcases (HA.out.below hb.out).at_ with h0 | ⟨b', o', he, hlt, _⟩
        · omega
        · cases he; exact hlt
      rw [← hf] at htk
      obtain ⟨f1, f2⟩ := f
      simp only at hc1 hc2 hs1 hs2 htk hsf
      clear hf
      obtain ⟨A, hA⟩ : ∃ A, A = withoutF (l.take k) ns := ⟨_, rfl⟩
      rw [← hA] at hown htk hle ⊢
      have HT := Lib.hid htk
      clear htk hA
      have zr : w.heap.size ≤ wr.heap.size := hb.out.size
      have C1 := Lib.hid hc1
      have C2 := Lib.hid hc2
      go_wp2_with fail
      go_loopg [7, 8] ns.length (fun gg s7 s8 wx => ∃ (j : Nat), j ≤ ns.length ∧ ns.length - j ≤ gg ∧ s8 = .int .i64 j ∧ s7 = .bool (isB (ns.take j) f1) ∧ Hid (Below wr.heap.size wr wx))
      case atStart => exact ⟨0, Nat.zero_le _, by omega, rfl, rfl, Below.refl _ _⟩
      case round =>
        obtain ⟨j, hj, hgj, rfl, rfl, hbx⟩ := hrel
        by_cases hjl : j < ns.length
        · obtain ⟨nb, no, s, rfl, hl3, hs, hn1, hss⟩ := ((HN.out.below hb.out).below hbx.out).get j hjl
          have hss2 : s.size ≤ 140737488355328 := by rw [hs]; exact HSn.out _ (List.getElem_mem hl3)
          have HI : Hid (isB (ns.take (j + 1)) f1 = (isB (ns.take j) f1 || foldS s f1)) := by show _ = _; rw [isB_take ns f1 j hl3, ← hs]
          have e1 : wr.cell? ⟨b, o + k * 2, none⟩ = some (.string f1) := (hbx.out.cell (p := ⟨b, o + k * 2, none⟩) hbl).trans C1.out
          have i1 : (k : Int) < (l.length : Int) := by omega
          have i2 : (j : Int) < (ns.length : Int) := by omega
          clear hs
          cases hps : isB (ns.take j) f1
          · have HI2 : Hid (isB (ns.take (j + 1)) f1 = foldS s f1) := by show _ = _; rw [HI.out, hps]; rfl
            clear hps
            go_wp2_with fail
            go_still_tail 11, (by kernel_rfl)
            change wpList _ _ _ _ _ wr.drew
            go_wp2_with (go_at_call 39; refine (ris_any f1 s _ hsf hss2).mono ?_; rintro e w3 ⟨rfl, hb3⟩; have HB3 := Lib.hid hb3; clear hb3)
            go_roundg (ns.length - (j + 1))
            case measure => omega
            case rel => exact ⟨j + 1, by omega, by omega, by go_num, by rw [HI2.out], (hbx.out.drew).trans (HB3.out.mono hbx.out.size)⟩
          · have HI2 : Hid (isB (ns.take (j + 1)) f1 = true) := by show _ = _; rw [HI.out, hps]; rfl
            clear hps
            go_wp2_with fail
            go_quiet (fail)
            go_wp2
            go_roundg (ns.length - (j + 1))
            case measure => omega
            case rel => exact ⟨j + 1, by omega, by omega, by go_num, by rw [HI2.out], below_drewN hbx.out _⟩
        · obtain rfl : j = ns.length := by omega
          rw [List.take_length]
          have HB3 := Lib.hid hbx.out
          have d1 : wr.cell? ⟨b, o + k * 2, none⟩ = some (.string f1) := (hbx.out.cell (p := ⟨b, o + k * 2, none⟩) hbl).trans C1.out
          have d2 : wr.cell? ⟨b, o + k * 2 + 1, none⟩ = some (.string f2) := (hbx.out.cell (p := ⟨b, o + k * 2 + 1, none⟩) hbl).trans C2.out
          have HO3 := Lib.hid (own_above hown.out HB3.out)
          have z3 : w.heap.size ≤ wr.heap.size := Nat.le_trans zr HB3.out.size
          have H5 : Hid (A.length + 1 ≤ maxLen) := by show _ ≤ _; unfold maxLen; omega
          have H6 : Hid ((A.length + 1) * 32 ≤ 140737488355328) := by show _ ≤ _; omega
          cases hps : isB ns f1
          · have HPS := Lib.hid hps
            clear hps
            go_wp2_with (at_builtin; refine wpList_append_at rfl (.tmp 37) (.tmp 42) 22 rfl w.heap.size 31 Try.underlying22 hi hz rfl (by decide) wr [.string f1, .string f2] HO3.out rfl rfl rfl (one_fld _ _) H5.out H6.out z3 ?_; intro g4 c4 w4 hown4 hgrow4 hat4; have O4 := Lib.hid hown4; have G4 := Lib.hid hgrow4; clear hown4 hgrow4 hat4)
            go_roundg (l.length - (k + 1))
            case measure => omega
            case rel =>
              have e9 : withoutF (l.take (k + 1)) ns = A ++ [(f1, f2)] := by rw [HT.out, HPS.out]; simp
              have e11 : (A ++ [(f1, f2)]).length = A.length + 1 := by simp
              have hbw := below_owned (grow_trans hb.out HB3.out) z3 HO3.out G4.out
              refine ⟨k + 1, g4, c4, by omega, by omega, by go_num, ?_⟩
              rw [e9, fldVals_snoc, e11]
              exact ⟨rfl, O4.out, hbw⟩
          · have HPS := Lib.hid hps
            clear hps
            go_wp2
            go_roundg (l.length - (k + 1))
            case measure => omega
            case rel =>
              have e9 : withoutF (l.take (k + 1)) ns = A := by rw [HT.out, HPS.out]; simp
              refine ⟨k + 1, g', c', by omega, by omega, by go_num, ?_⟩
              rw [e9]
              exact ⟨rfl, HO3.out, grow_trans hb.out HB3.out⟩
    · obtain rfl : k = l.length := by omega
      rw [List.take_length] at hown ⊢
      go_wp2
      go_ret
      exact ⟨_, rfl, hown.out, hb.out⟩
end Go.Proofs.Ytdpohibgipkhnaa
namespace Go.Proofs.Ytdpohibgipkhnaa
open Go.RowKit Go.Sort Go.Proofs.Ytdpohibgipkhnaa.Oct

/-- The fields with a name's first value set, its others left out; 'had': one has been set ahead. -/
def setR (name value : ByteArray) : Bool → Flds → Flds
  | _, [] => []
  | had, f :: r => if foldS name f.1 = true then (if had = true then setR name value true r else (f.1, value) :: setR name value true r) else f :: setR name value had r
def hitB (name : ByteArray) (l : Flds) : Bool := l.any fun f => foldS name f.1
def setF (l : Flds) (name value : ByteArray) : Flds := if hitB name l = true then setR name value false l else l ++ [(name, value)]

theorem setR_snoc (name value : ByteArray) (f : ByteArray × ByteArray) : ∀ (xs : Flds) (b : Bool), setR name value b (xs ++ [f]) = setR name value b xs ++ (if foldS name f.1 = true then (if (b || hitB name xs) = true then [] else [(f.1, value)]) else [f])
  | [], b => by
    cases b <;> cases h : foldS name f.1 <;> simp [setR, hitB, h]
  | g :: r, b => by
    have h1 := setR_snoc name value f r true
    have h2 := setR_snoc name value f r b
    cases hg : foldS name g.1
    · simp only [List.cons_append, setR, hg, Bool.false_eq_true, if_false, h2]
      have : hitB name (g :: r) = hitB name r := by simp [hitB, hg]
      rw [this]
    · have : hitB name (g :: r) = true := by simp [hitB, hg]
      rw [this]
      cases b <;> simp [setR, hg, h1]
theorem setR_true (name value : ByteArray) : ∀ l : Flds, setR name value true l = l.filter fun f => !foldS name f.1
  | [] => rfl
  | g :: r => by
    cases hg : foldS name g.1 <;> simp [setR, hg, setR_true name value r]
theorem setR_len (name value : ByteArray) : ∀ (l : Flds) (b : Bool), (setR name value b l).length ≤ l.length
  | [], _ => Nat.le_refl _
  | g :: r, b => by
    have h1 := setR_len name value r true
    have h2 := setR_len name value r b
    cases hg : foldS name g.1 <;> cases b <;> simp [setR, hg] <;> omega
theorem setR_mem (name value : ByteArray) : ∀ (l : Flds) (b : Bool), ∀ f ∈ setR name value b l, ∃ g ∈ l, f.1 = g.1 ∧ (f.2 = g.2 ∨ f.2 = value)
  | [], _, f, h => by simp [setR] at h
  | g :: r, b, f, h => by
    have h1 : f ∈ setR name value true r → ∃ g' ∈ g :: r, f.1 = g'.1 ∧ (f.2 = g'.2 ∨ f.2 = value) := fun hf => by
      obtain ⟨g', hg', e⟩ := setR_mem name value r true f hf
      exact ⟨g', List.mem_cons_of_mem _ hg', e⟩
    have h2 : f ∈ setR name value b r → ∃ g' ∈ g :: r, f.1 = g'.1 ∧ (f.2 = g'.2 ∨ f.2 = value) := fun hf => by
      obtain ⟨g', hg', e⟩ := setR_mem name value r b f hf
      exact ⟨g', List.mem_cons_of_mem _ hg', e⟩
    cases hg : foldS name g.1
    · simp [setR, hg] at h
      rcases h with rfl | h
      · exact ⟨f, List.mem_cons_self, rfl, .inl rfl⟩
      · exact h2 h
    · cases b
      · simp [setR, hg] at h
        rcases h with rfl | h
        · exact ⟨g, List.mem_cons_self, rfl, .inr rfl⟩
        · exact h1 h
      · simp [setR, hg] at h
        exact h1 h
theorem setR_none (name value : ByteArray) : ∀ (l : Flds) (b : Bool), hitB name l = false → setR name value b l = l
  | [], _, _ => rfl
  | g :: r, b, h => by
    simp [hitB] at h
    have h2 : hitB name r = false := by simp [hitB]; exact fun a x hx => h.2 a x hx
    simp [setR, h.1, setR_none name value r b h2]
theorem setR_first (name value : ByteArray) : ∀ (l : Flds) (i : Nat) (hi : i < l.length), foldS name l[i].1 = true → (∀ j (hj : j < i), foldS name (l[j]'(by omega)).1 = false) → setR name value false l = l.take i ++ [(l[i].1, value)] ++ (l.drop (i + 1)).filter fun f => !foldS name f.1
  | [], i, hi, _, _ => absurd hi (Nat.not_lt_zero _)
  | g :: r, 0, hi, h, _ => by
    have h' : foldS name g.1 = true := h
    simp [setR, h', setR_true]
  | g :: r, i + 1, hi, h, hb => by
    have h0 : foldS name g.1 = false := hb 0 (by omega)
    have := setR_first name value r i (by simpa using hi) h (fun j hj => hb (j + 1) (by omega))
    simp [setR, h0, this]
theorem hitB_take (name : ByteArray) (l : Flds) (k : Nat) (hk : k < l.length) : hitB name (l.take (k + 1)) = (hitB name (l.take k) || foldS name l[k].1) := by
  unfold hitB
  rw [List.take_succ_eq_append_getElem hk, List.any_append]
  simp
theorem setR_take (name value : ByteArray) (l : Flds) (k : Nat) (hk : k < l.length) : setR name value false (l.take (k + 1)) = setR name value false (l.take k) ++ (if foldS name l[k].1 = true then (if hitB name (l.take k) = true then [] else [(l[k].1, value)]) else [l[k]]) := by
  rw [List.take_succ_eq_append_getElem hk, setR_snoc, Bool.false_or]

set_option maxRecDepth 100000 in
set_option maxHeartbeats 3200000 in
theorem rset_any (w : World) (x : Option Addr) (n c : Nat) (l : Flds) (name value : ByteArray) (h : FldsAt w x n l) (hfew : n ≤ 65536) (hn : name.size ≤ 140737488355328) (hsm : ∀ p ∈ l, p.1.size ≤ 140737488355328) :
    Calls Try.prog 38 #[.slice x n c, .string name, .string value] w (FldsPost w (setF l name value)) := by
  obtain ⟨i0, hi, hz⟩ := info_hid info_field
  have hl := h.len
  subst hl
  have HA := Lib.hid h
  have HSm := Lib.hid hsm
  clear h hsm
  go_enter Try.func38, Try.ntmps38
  go_wp2
  go_loopg [7, 8, 9] l.length (fun gg s7 s8 s9 wr => ∃ (k g' c' : Nat), k ≤ l.length ∧ l.length - k ≤ gg ∧ s9 = .int .i64 k ∧ s8 = .bool (hitB name (l.take k)) ∧ s7 = .slice (some ⟨g', 0, none⟩) (setR name value false (l.take k)).length c' ∧ Hid (wr.ownsRow w.heap.size 31 2 (.slice (some ⟨g', 0, none⟩) (setR name value false (l.take k)).length c') (setR name value false (l.take k)).length (fldVals (setR name value false (l.take k)))) ∧ Hid (Below w.heap.size w wr))
  case atStart => exact ⟨0, _, _, Nat.zero_le _, by omega, rfl, rfl, rfl, World.ownsRow_lit w #[] 0 (Nat.le_refl _) (by decide) rfl, below_new _ _⟩
  case round =>
    obtain ⟨k, g', c', hk, hg, rfl, rfl, rfl, hown, hb⟩ := hrel
    by_cases hkl : k < l.length
    · obtain ⟨b, o, f, rfl, hl2, hf, hc1, hc2, hs1, hs2⟩ := (HA.out.below hb.out).get k hkl
      have htk := setR_take name value l k hkl
      have hht := hitB_take name l k hkl
      have hle : (setR name value false (l.take k)).length ≤ k := Nat.le_trans (setR_len _ _ _ _) (List.length_take_le k l)
      have hsf : f.1.size ≤ 140737488355328 := by rw [hf]; exact HSm.out _ (List.getElem_mem hl2)
      have hbl : b < wr.heap.size := by
        rcases (HA.out.below hb.out).at_ with h0 | ⟨b', o', he, hlt, _⟩
        · omega
        · cases he; exact hlt
      rw [← hf] at htk hht
      obtain ⟨f1, f2⟩ := f
      simp only at hc1 hc2 hs1 hs2 htk hsf hht
      clear hf
      obtain ⟨A, hA⟩ : ∃ A, A = setR name value false (l.take k) := ⟨_, rfl⟩
      obtain ⟨H, hH⟩ : ∃ H, H = hitB name (l.take k) := ⟨_, rfl⟩
      rw [← hA] at hown htk hle ⊢
      rw [← hH] at htk hht ⊢
      have HT := Lib.hid htk
      have HH := Lib.hid hht
      clear htk hA hH hht
      have zr : w.heap.size ≤ wr.heap.size := hb.out.size
      have H5 : Hid (A.length + 1 ≤ maxLen) := by show _ ≤ _; unfold maxLen; omega
      have H6 : Hid ((A.length + 1) * 32 ≤ 140737488355328) := by show _ ≤ _; omega
      go_wp2_with fail
      refine (ris_any f1 name _ hsf hn).mono ?_
      rintro e w3 ⟨rfl, hb3⟩
      have d1 : w3.cell? ⟨b, o + k * 2, none⟩ = some (.string f1) := (hb3.cell (p := ⟨b, o + k * 2, none⟩) hbl).trans hc1
      have d2 : w3.cell? ⟨b, o + k * 2 + 1, none⟩ = some (.string f2) := (hb3.cell (p := ⟨b, o + k * 2 + 1, none⟩) hbl).trans hc2
      have HB3 := Lib.hid hb3
      have HO3 := Lib.hid (own_below hown.out HB3.out)
      have z3 : w.heap.size ≤ w3.heap.size := Nat.le_trans zr HB3.out.size
      clear hb3
      cases hps : foldS name f1
      · have HPS := Lib.hid hps
        clear hps
        go_wp2_with (at_builtin; refine wpList_append_at rfl (.tmp 25) (.tmp 30) 22 rfl w.heap.size 31 Try.underlying22 hi hz rfl (by decide) w3 [.string f1, .string f2] HO3.out rfl rfl rfl (one_fld _ _) H5.out H6.out z3 ?_; intro g4 c4 w4 hown4 hgrow4 hat4; have O4 := Lib.hid hown4; have G4 := Lib.hid hgrow4; clear hown4 hgrow4 hat4)
        go_roundg (l.length - (k + 1))
        case measure => omega
        case rel =>
          have e9 : setR name value false (l.take (k + 1)) = A ++ [(f1, f2)] := by rw [HT.out, HPS.out]; simp
          have e8 : hitB name (l.take (k + 1)) = H := by rw [HH.out, HPS.out, Bool.or_false]
          have e11 : (A ++ [(f1, f2)]).length = A.length + 1 := by simp
          have hbw := below_owned (grow_trans hb.out HB3.out) z3 HO3.out G4.out
          refine ⟨k + 1, g4, c4, by omega, by omega, by go_num, by rw [e8], ?_⟩
          rw [e9, fldVals_snoc, e11]
          exact ⟨rfl, O4.out, hbw⟩
      · have HPS := Lib.hid hps
        clear hps
        cases H
        · go_wp2_with (at_builtin; refine wpList_append_at rfl (.tmp 34) (.tmp 42) 22 rfl w.heap.size 31 Try.underlying22 hi hz rfl (by decide) w3 [.string f1, .string value] HO3.out rfl rfl rfl (one_fld _ _) H5.out H6.out z3 ?_; intro g4 c4 w4 hown4 hgrow4 hat4; have O4 := Lib.hid hown4; have G4 := Lib.hid hgrow4; clear hown4 hgrow4 hat4)
          go_roundg (l.length - (k + 1))
          case measure => omega
          case rel =>
            have e9 : setR name value false (l.take (k + 1)) = A ++ [(f1, value)] := by rw [HT.out, HPS.out]; simp
            have e8 : hitB name (l.take (k + 1)) = true := by rw [HH.out, HPS.out, Bool.or_true]
            have e11 : (A ++ [(f1, value)]).length = A.length + 1 := by simp
            have hbw := below_owned (grow_trans hb.out HB3.out) z3 HO3.out G4.out
            refine ⟨k + 1, g4, c4, by omega, by omega, by go_num, by rw [e8], ?_⟩
            rw [e9, fldVals_snoc, e11]
            exact ⟨rfl, O4.out, hbw⟩
        · go_wp2
          go_roundg (l.length - (k + 1))
          case measure => omega
          case rel =>
            have e9 : setR name value false (l.take (k + 1)) = A := by rw [HT.out, HPS.out]; simp
            have e8 : hitB name (l.take (k + 1)) = true := by rw [HH.out, HPS.out, Bool.or_true]
            refine ⟨k + 1, g', c', by omega, by omega, by go_num, by rw [e8], ?_⟩
            rw [e9]
            exact ⟨rfl, HO3.out, grow_trans hb.out HB3.out⟩
    · obtain rfl : k = l.length := by omega
      rw [List.take_length] at hown ⊢
      cases hh : hitB name l
      · have HF : Hid (setF l name value = l ++ [(name, value)]) := by show _ = _; unfold setF; rw [hh]; rfl
        clear hh
        go_wp2_with fail
        refine (rwith_any wr x l.length c l name value (HA.out.below hb.out) hfew).mono ?_
        rintro e w3 ⟨v3, rfl, ho3, hb3⟩
        have HO3 := Lib.hid ho3
        have HB3 := Lib.hid hb3
        clear ho3 hb3
        go_wp2
        go_ret
        refine ⟨v3, rfl, ?_, grow_trans hb.out HB3.out⟩
        rw [HF.out]
        exact own_mono HO3.out hb.out.size
      · have HF : Hid (setF l name value = setR name value false l) := by show _ = _; unfold setF; rw [hh]; rfl
        clear hh
        go_wp2
        go_ret
        refine ⟨_, rfl, ?_, hb.out⟩
        rw [HF.out]
        exact hown.out
end Go.Proofs.Ytdpohibgipkhnaa
namespace Go.Proofs.Ytdpohibgipkhnaa
open Go.RowKit Go.Sort Go.Proofs.Ytdpohibgipkhnaa.Oct

theorem hit_any {l : Flds} {name : ByteArray} (h : l.any (fun p => foldS name p.1) = false) : hitB name l = false := h

set_option maxRecDepth 100000 in
set_option maxHeartbeats 3200000 in
theorem hset_any (w : World) (x : Option Addr) (n c : Nat) (l : Flds) (name value : ByteArray) (h : FldsAt w x n l) (hnc : n ≤ c) (hfew : n ≤ 65536) (hn : name.size ≤ 9223372036854775807) (_hv : value.size ≤ 9223372036854775807) :
    Calls Try.prog 37 #[.slice x n c, .string name, .string value] w (FldsPost w (setF l name value)) := by
  obtain ⟨i0, hi0, hz⟩ := info_hid info_field
  have hl := h.len
  subst hl
  have hbig := h.big
  have HA := Lib.hid h
  clear h
  go_enter Try.func37, Try.ntmps37
  go_wp2_with fail
  refine (named_any _ _ _ _).mono ?_
  rintro e w1 ⟨rfl, hw1⟩
  have hn1 := named_one w name hn
  rw [hw1] at hn1
  obtain ⟨hN, hB⟩ := hn1
  have HN := Lib.hid hN
  have HB := Lib.hid hB
  rw [World.size_alloc]
  clear hw1 hN hB
  go_wp2_with fail
  refine (idxfld_any 101 #[.pointer (some ⟨w.heap.size + 1, 0, none⟩)] (fun _ _ => by kernel_rfl) (fun p => foldS name p.1) w1 x _ c l (HA.out.below HB.out) (fun W f hW hf => ?_)).mono ?_
  · have := named1_any [name] f.1 f.2 (w.heap.size + 1) W (HA.out.str f hf).1 (HN.out.below hW)
    rw [isB_one] at this
    exact this
  rintro e w2 ⟨rfl, hb2⟩
  have HB12 := Lib.hid hb2
  have HB2 := Lib.hid (grow_trans HB.out hb2)
  clear hb2
  rcases idxB_cases (fun p : ByteArray × ByteArray => foldS name p.1) l with ⟨hi, hno⟩ | ⟨k, hi, hk, hy, hbef, _⟩
  · rw [hi]
    have HG : Hid (setF l name value = l ++ [(name, value)]) := by show _ = _; unfold setF; rw [hit_any hno]; rfl
    clear hi hno
    go_wp2_with fail
    refine (hwith_any w2 x _ c l name value (HA.out.below HB2.out) hfew).mono ?_
    rintro e w3 ⟨rfl, hb3, hbl3⟩
    have HB3 := Lib.hid hb3
    have HL3 := Lib.hid hbl3
    clear hb3 hbl3
    go_wp2
    go_ret
    refine ⟨_, rfl, ?_, grow_trans HB2.out HL3.out⟩
    rw [HG.out]
    have := own_of_blk (B := w.heap.size) HB3.out HB2.out.size (by rw [List.length_append]; unfold maxLen; simp; omega)
    rw [show (l ++ [(name, value)]).length = l.length + 1 by simp] at this ⊢
    exact this
  · rw [hi]
    obtain ⟨b, o, f, rfl, hl2, hf, hc1, hc2, hs1, hs2⟩ := (HA.out.below HB2.out).get k hk
    have hset := setR_first name value l k hk hy hbef
    rw [← hf] at hset
    have hany : hitB name l = true := by unfold hitB; exact List.any_eq_true.2 ⟨_, List.getElem_mem hk, hy⟩
    have HG : Hid (setF l name value = l.take k ++ [(f.1, value)] ++ (l.drop (k + 1)).filter fun f => !foldS name f.1) := by show _ = _; unfold setF; rw [hany, ← hset]; rfl
    have HT := Lib.hid ((HA.out.below HB2.out).take k (by omega))
    have HDr := Lib.hid ((HA.out.below HB2.out).drop (k + 1) c (by omega) hnc)
    have hm1 : l.length - (k + 1) ≤ 65536 := by omega
    have i1 : (k : Int) < (l.length : Int) := by omega
    have i2 : (k : Int) ≤ (l.length : Int) := by omega
    have i3 : (k : Int) ≤ (c : Int) := by omega
    have i4 : (k : Int) + 1 ≤ (l.length : Int) := by omega
    have i5 : (k : Int) + 1 ≤ (c : Int) := by omega
    have i6 : (0 : Int) ≤ (k : Int) + 1 := by omega
    obtain ⟨f1, f2⟩ := f
    simp only at hc1 hc2 hs1 hs2
    clear hi hy hbef hf hset hany
    go_upto_region 5 with fail
    go_still_tail 9, (by kernel_rfl)
    change wpList _ _ _ _ _ w2.drew
    go_wp2_with fail
    have HB2d := Lib.hid (HB2.out.drew)
    refine (hwith_any w2.drew _ k c (l.take k) f1 value (HT.out.below (Below.refl _ _).drew) (by omega)).mono ?_
    rintro e w3 ⟨rfl, hb3, hbl3⟩
    have HB3 := Lib.hid hb3
    have HL3 := Lib.hid hbl3
    clear hb3 hbl3
    by_cases hck : c = k + 1
    · have hd := HDr.out
      rw [if_pos hck] at hd
      have hz0 : l.length - (k + 1) = 0 := by omega
      rw [hz0] at hd
      have HD3 := Lib.hid ((hd.below (Below.refl _ _).drew).below HL3.out)
      subst hck
      have f1' : (k : Int) + 1 ≤ ((k + 1 : Nat) : Int) := by omega
      clear hd
      go_wp2_with fail
      refine (fclone_any w3 _ 0 0 _ HD3.out (by omega)).mono ?_
      rintro e w4 ⟨v4, rfl, ho4, hb4⟩
      have HO4 := Lib.hid ho4
      have HB4 := Lib.hid hb4
      have HK4 := Lib.hid (HB3.out.below hb4 HB3.out.lt)
      have hstr4 : Hid (∀ p ∈ l.drop (k + 1), p.1.size ≤ 9223372036854775807 ∧ p.2.size ≤ 9223372036854775807) := fun p hp => HA.out.str p (List.mem_of_mem_drop hp)
      clear ho4 hb4
      go_wp2_with fail
      refine (delfunc_any 101 #[.pointer (some ⟨w.heap.size + 1, 0, none⟩)] (fun _ _ => by kernel_rfl) (fun f => foldS name f.1) w4 w3.heap.size v4 (l.drop (k + 1)) HO4.out (by rw [List.length_drop]; omega) hstr4.out (fun W f hW hf => ?_)).mono ?_
      · have hbW : Below w1.heap.size w1 W := by
          have h12 : Below w1.heap.size w1 w2.drew := HB12.out.drew
          have h13 := h12.trans (HL3.out.mono HB12.out.size)
          have h14 := h13.trans (HB4.out.mono h13.size)
          exact h14.grown hW h14.size (fun j hj => Nat.le_trans h13.size (HO4.out.lt j hj).1)
        have := named1_any [name] f.1 f.2 (w.heap.size + 1) W (hstr4.out f hf).1 (HN.out.below hbW)
        rw [isB_one] at this
        exact this
      rintro e w5 ⟨v5, rfl, ho5, hg5, _⟩
      have hlen5 : ((l.drop (k + 1)).filter fun f => !foldS name f.1).length ≤ l.length - (k + 1) := by
        have := List.length_filter_le (fun f : ByteArray × ByteArray => !foldS name f.1) (l.drop (k + 1))
        rw [List.length_drop] at this
        exact this
      obtain ⟨x5, c5, rfl, _, hF5⟩ := own_flds ho5 (by omega) (fun p hp => hstr4.out p (List.mem_filter.1 hp).1)
      have hb05 : Below w.heap.size w w5 := by
        have h13 := HB2d.out.trans (HL3.out.mono HB2d.out.size)
        have h14 := h13.trans (HB4.out.mono h13.size)
        exact h14.grown hg5 h14.size (fun j hj => Nat.le_trans h13.size (HO4.out.lt j hj).1)
      have hK5 := HK4.out.grown hg5 (fun e => by have h1 := (HO4.out.lt _ e.symm).1; have h2 := HB3.out.lt; omega)
      have hOB := own_of_blk (B := w.heap.size) hK5 HB2d.out.size (by rw [List.length_append, List.length_take]; unfold maxLen; simp; omega)
      have hk1 : (l.take k ++ [(f1, value)]).length = k + 1 := by rw [List.length_append, List.length_take]; simp; omega
      rw [hk1] at hOB
      obtain ⟨T, hT⟩ : ∃ T, T = (l.drop (k + 1)).filter fun f => !foldS name f.1 := ⟨_, rfl⟩
      rw [← hT] at hlen5 hF5 HG ⊢
      have R5 := Lib.hid hF5.reads
      have O5 := Lib.hid hOB
      have B5 := Lib.hid hb05
      have H1 : Hid (k + 1 + T.length ≤ maxLen) := by show _ ≤ _; unfold maxLen; omega
      have H2 : Hid ((k + 1 + T.length) * 32 ≤ 140737488355328) := by show _ ≤ _; omega
      have HS5 := Lib.hid (fld_one T)
      have Z5 := Lib.hid hb05.size
      clear ho5 hg5 hF5 hb05 hK5 hOB hT
      go_wp2_with (at_builtin; refine wpList_append_any _ rfl (.tmp 32) (.tmp 39) _ rfl w.heap.size 31 i0 _ 2 32 Try.underlying22 hi0.out hz.out.1 hz.out.2.1 hz.out.2.2 rfl (by omega) _ (k + 1) _ (by rfl) O5.out w5.heap.size _ T.length c5 (fldVals T) rfl R5.out HS5.out H1.out H2.out Z5.out ?_; intro v6 w6 hown6 hg6 hat6; have O6 := Lib.hid hown6; have G6 := Lib.hid hg6; clear hown6 hg6 hat6)
      go_ret
      refine ⟨v6, rfl, ?_, below_owned B5.out B5.out.size O5.out G6.out⟩
      rw [HG.out, fldVals_append, List.length_append, hk1]
      exact O6.out
    · have hd := HDr.out
      rw [if_neg hck] at hd
      have HD3 := Lib.hid ((hd.below (Below.refl _ _).drew).below HL3.out)
      clear hd
      go_wp2_with fail
      refine (fclone_any w3 _ _ _ _ HD3.out (by omega)).mono ?_
      rintro e w4 ⟨v4, rfl, ho4, hb4⟩
      have HO4 := Lib.hid ho4
      have HB4 := Lib.hid hb4
      have HK4 := Lib.hid (HB3.out.below hb4 HB3.out.lt)
      have hstr4 : Hid (∀ p ∈ l.drop (k + 1), p.1.size ≤ 9223372036854775807 ∧ p.2.size ≤ 9223372036854775807) := fun p hp => HA.out.str p (List.mem_of_mem_drop hp)
      clear ho4 hb4
      go_wp2_with fail
      refine (delfunc_any 101 #[.pointer (some ⟨w.heap.size + 1, 0, none⟩)] (fun _ _ => by kernel_rfl) (fun f => foldS name f.1) w4 w3.heap.size v4 (l.drop (k + 1)) HO4.out (by rw [List.length_drop]; omega) hstr4.out (fun W f hW hf => ?_)).mono ?_
      · have hbW : Below w1.heap.size w1 W := by
          have h12 : Below w1.heap.size w1 w2.drew := HB12.out.drew
          have h13 := h12.trans (HL3.out.mono HB12.out.size)
          have h14 := h13.trans (HB4.out.mono h13.size)
          exact h14.grown hW h14.size (fun j hj => Nat.le_trans h13.size (HO4.out.lt j hj).1)
        have := named1_any [name] f.1 f.2 (w.heap.size + 1) W (hstr4.out f hf).1 (HN.out.below hbW)
        rw [isB_one] at this
        exact this
      rintro e w5 ⟨v5, rfl, ho5, hg5, _⟩
      have hlen5 : ((l.drop (k + 1)).filter fun f => !foldS name f.1).length ≤ l.length - (k + 1) := by
        have := List.length_filter_le (fun f : ByteArray × ByteArray => !foldS name f.1) (l.drop (k + 1))
        rw [List.length_drop] at this
        exact this
      obtain ⟨x5, c5, rfl, _, hF5⟩ := own_flds ho5 (by omega) (fun p hp => hstr4.out p (List.mem_filter.1 hp).1)
      have hb05 : Below w.heap.size w w5 := by
        have h13 := HB2d.out.trans (HL3.out.mono HB2d.out.size)
        have h14 := h13.trans (HB4.out.mono h13.size)
        exact h14.grown hg5 h14.size (fun j hj => Nat.le_trans h13.size (HO4.out.lt j hj).1)
      have hK5 := HK4.out.grown hg5 (fun e => by have h1 := (HO4.out.lt _ e.symm).1; have h2 := HB3.out.lt; omega)
      have hOB := own_of_blk (B := w.heap.size) hK5 HB2d.out.size (by rw [List.length_append, List.length_take]; unfold maxLen; simp; omega)
      have hk1 : (l.take k ++ [(f1, value)]).length = k + 1 := by rw [List.length_append, List.length_take]; simp; omega
      rw [hk1] at hOB
      obtain ⟨T, hT⟩ : ∃ T, T = (l.drop (k + 1)).filter fun f => !foldS name f.1 := ⟨_, rfl⟩
      rw [← hT] at hlen5 hF5 HG ⊢
      have R5 := Lib.hid hF5.reads
      have O5 := Lib.hid hOB
      have B5 := Lib.hid hb05
      have H1 : Hid (k + 1 + T.length ≤ maxLen) := by show _ ≤ _; unfold maxLen; omega
      have H2 : Hid ((k + 1 + T.length) * 32 ≤ 140737488355328) := by show _ ≤ _; omega
      have HS5 := Lib.hid (fld_one T)
      have Z5 := Lib.hid hb05.size
      clear ho5 hg5 hF5 hb05 hK5 hOB hT
      go_wp2_with (at_builtin; refine wpList_append_any _ rfl (.tmp 32) (.tmp 39) _ rfl w.heap.size 31 i0 _ 2 32 Try.underlying22 hi0.out hz.out.1 hz.out.2.1 hz.out.2.2 rfl (by omega) _ (k + 1) _ (by rfl) O5.out w5.heap.size _ T.length c5 (fldVals T) rfl R5.out HS5.out H1.out H2.out Z5.out ?_; intro v6 w6 hown6 hg6 hat6; have O6 := Lib.hid hown6; have G6 := Lib.hid hg6; clear hown6 hg6 hat6)
      go_ret
      refine ⟨v6, rfl, ?_, below_owned B5.out B5.out.size O5.out G6.out⟩
      rw [HG.out, fldVals_append, List.length_append, hk1]
      exact O6.out
end Go.Proofs.Ytdpohibgipkhnaa
namespace Go.Proofs.Ytdpohibgipkhnaa
open Go.RowKit Go.Sort Go.Proofs.Ytdpohibgipkhnaa.Oct

def upI (c : Int) : Int := if 97 ≤ c ∧ c ≤ 122 then c - 32 else c
set_option maxRecDepth 100000 in
theorem upper_any (c : Int) (w : World) (h0 : 0 ≤ c) (h1 : c ≤ 255) : Calls Try.prog 82 #[.int .i32 c] w fun e w' => e = .returned (.int .i32 (upI c)) ∧ w' = w := by
  by_cases ha : 97 ≤ c
  · by_cases hb : c ≤ 122
    · have e : upI c = c - 32 := by unfold upI; rw [if_pos ⟨ha, hb⟩]
      have HE := Lib.hid e
      have e2 : c + 65 - 97 = c - 32 := by omega
      clear e
      go_enter Try.func82, Try.ntmps82
      go_wp2
      go_ret
      exact ⟨by rw [HE.out, ← e2]; rfl, rfl⟩
    · have e : upI c = c := by unfold upI; rw [if_neg (by omega)]
      have HE := Lib.hid e
      clear e
      go_enter Try.func82, Try.ntmps82
      go_wp2
      go_ret
      exact ⟨by rw [HE.out]; rfl, rfl⟩
  · have e : upI c = c := by unfold upI; rw [if_neg (by omega)]
    have HE := Lib.hid e
    clear e
    go_enter Try.func82, Try.ntmps82
    go_wp2
    go_ret
    exact ⟨by rw [HE.out]; rfl, rfl⟩
def specA : Array Value := #[.string ⟨#[69, 84, 97, 103]⟩, .string ⟨#[84, 69]⟩, .string ⟨#[87, 87, 87, 45, 65, 117, 116, 104, 101, 110, 116, 105, 99, 97, 116, 101]⟩, .string ⟨#[68, 78, 84]⟩]
theorem specA_one : ∀ v ∈ specA.toList, v.oneCell' = true := by
  intro v hv
  simp [specA] at hv
  rcases hv with rfl | rfl | rfl | rfl <;> rfl
theorem info_spec : (Try.prog.info? 88).map (·.size) = some specA.size := by kernel_rfl
set_option maxRecDepth 100000 in
theorem special_any (w : World) : Calls Try.prog 80 #[] w fun e w' => e = .returned (.agg specA) ∧ Below w.heap.size w w' := by
  go_enter Try.func80, Try.ntmps80
  go_wp2_with (first
    | (refine wpList_run_known (o := ⟨some 1, _, _, _, _, _⟩) rfl (.agg specA) (by kernel_rfl) ?_)
    | (refine wpList_store_all (o := ⟨none, _, _, _, _, _⟩) rfl 88 (.tmp 0) (.tmp 1) rfl w.heap.size specA 88 _ rfl rfl (Blk.new w _ _) rfl info_spec specA_one ?_; intro w1 hb1 hk1 hbl1 hz1; have HB := Lib.hid hb1; have HBl := Lib.hid hbl1; clear hb1 hk1 hbl1 hz1))
  refine bodyPost_ret (results_cell_row rfl _ _ w.heap.size _ specA (0, 0) _ rfl HB.out Try.underlying88 rfl info_spec) rfl ?_
  exact ⟨rfl, (below_new _ _).trans HBl.out⟩

def singL : List ByteArray := [⟨#[83, 101, 116, 45, 67, 111, 111, 107, 105, 101]⟩, ⟨#[87, 87, 87, 45, 65, 117, 116, 104, 101, 110, 116, 105, 99, 97, 116, 101]⟩, ⟨#[80, 114, 111, 120, 121, 45, 65, 117, 116, 104, 101, 110, 116, 105, 99, 97, 116, 101]⟩]
def singB (s : ByteArray) : Bool := singL.any fun n => foldS n s
set_option maxRecDepth 100000 in
theorem single1_any (n a : ByteArray) (b : Nat) (w : World) (hn : n.size ≤ 9223372036854775807) (ha : a.size ≤ 9223372036854775807) (hc : w.cell? ⟨b, 0, none⟩ = some (.string a)) :
    Calls Try.prog 84 #[.string n, .pointer (some ⟨b, 0, none⟩)] w fun e w' => e = .returned (.bool (foldS n a)) ∧ Below w.heap.size w w' := by
  go_enter Try.func84, Try.ntmps84
  go_wp2_with (go_at_call 44; refine (fold_any _ _ _ hn ha).mono ?_; rintro e w' ⟨rfl, hd⟩)
  go_ret
  exact ⟨rfl, hd.below _⟩

def singA : Array Value := #[.string ⟨#[83, 101, 116, 45, 67, 111, 111, 107, 105, 101]⟩, .string ⟨#[87, 87, 87, 45, 65, 117, 116, 104, 101, 110, 116, 105, 99, 97, 116, 101]⟩, .string ⟨#[80, 114, 111, 120, 121, 45, 65, 117, 116, 104, 101, 110, 116, 105, 99, 97, 116, 101]⟩]
theorem singA_one : ∀ v ∈ singA.toList, v.oneCell' = true := by
  intro v hv
  simp [singA] at hv
  rcases hv with rfl | rfl | rfl <;> rfl
theorem info_sing : (Try.prog.info? 92).map (·.size) = some singA.size := by kernel_rfl
theorem sing_strs {w : World} {g : Nat} (h : Blk w g 92 singA) : StrsArg w (some ⟨g, 0, none⟩) 3 singL := by
  refine ⟨rfl, by omega, by decide, .inr ⟨g, 0, rfl, h.lt, fun i hi => ?_⟩⟩
  have hi3 : i < 3 := hi
  rw [h.cell]
  match i, hi3 with
  | 0, _ => rfl
  | 1, _ => rfl
  | 2, _ => rfl
set_option maxRecDepth 100000 in
set_option maxHeartbeats 1600000 in
theorem single_any (s : ByteArray) (w : World) (hs : s.size ≤ 9223372036854775807) : Calls Try.prog 42 #[.string s] w fun e w' => e = .returned (.bool (singB s)) ∧ Below w.heap.size w w' := by
  go_enter Try.func42, Try.ntmps42
  go_wp2_with (first
    | (refine wpList_run_known (o := ⟨some 4, _, _, _, _, _⟩) rfl (.agg singA) (by kernel_rfl) ?_)
    | (refine wpList_store_all (o := ⟨none, _, _, _, _, _⟩) rfl 92 (.tmp 3) (.tmp 4) rfl (w.heap.size + 1) singA 92 #[.string ⟨#[]⟩, .string ⟨#[]⟩, .string ⟨#[]⟩] rfl rfl (by have := Blk.new (w.alloc (.cells #[.string s] 9)) 92 (#[.string ⟨#[]⟩, .string ⟨#[]⟩, .string ⟨#[]⟩]); rw [World.size_alloc] at this; exact this) rfl info_sing singA_one ?_; intro w1 hb1 hk1 hbl1 hz1; have HB := Lib.hid hb1; have HBl := Lib.hid hbl1; have HK := Lib.hid hk1; clear hb1 hk1 hbl1 hz1))
  have hB1 : Below w.heap.size w w1 := ((below_new w _).alloc (by simp) _).trans (HBl.out.mono (Nat.le_succ _))
  have hbx : Blk w1 w.heap.size 9 #[.string s] := (HK.out _ (by omega)).trans ((Blk.new w 9 #[.string s]).alloc _)
  have HB1 := Lib.hid hB1
  have HX := Lib.hid hbx
  clear hB1 hbx
  go_wp2_with fail
  refine (contstr_any 84 #[.pointer (some ⟨w.heap.size, 0, none⟩)] (fun _ _ => by kernel_rfl) (fun n => foldS n s) w1 _ 3 3 singL (sing_strs HB.out) (fun W n hW hn => ?_)).mono ?_
  · exact single1_any n s w.heap.size W ((sing_strs HB.out).2.2.1 n hn) hs ((HX.out.below hW HX.out.lt).cell 0)
  rintro e w2 ⟨rfl, hb2⟩
  go_wp2
  go_ret
  exact ⟨rfl, grow_trans HB1.out hb2⟩
end Go.Proofs.Ytdpohibgipkhnaa
namespace Go.Proofs.Ytdpohibgipkhnaa
open Go.RowKit Go.Sort Go.Proofs.Ytdpohibgipkhnaa.Oct

theorem low_is (s n c : ByteArray) (h : lowS n = c) : ((lowS s).toList == c.toList) = foldS n s := by rw [← h, low_eq, fold_symm]
set_option maxRecDepth 100000 in
set_option maxHeartbeats 1600000 in
theorem rsingle_any (s : ByteArray) (w : World) (hs : s.size ≤ 140737488355328) : Calls Try.prog 43 #[.string s] w fun e w' => e = .returned (.bool (singB s)) ∧ Below w.heap.size w w' := by
  have h1 := low_is s ⟨#[83, 101, 116, 45, 67, 111, 111, 107, 105, 101]⟩ ⟨#[115, 101, 116, 45, 99, 111, 111, 107, 105, 101]⟩ (by decide)
  have h2 := low_is s ⟨#[87, 87, 87, 45, 65, 117, 116, 104, 101, 110, 116, 105, 99, 97, 116, 101]⟩ ⟨#[119, 119, 119, 45, 97, 117, 116, 104, 101, 110, 116, 105, 99, 97, 116, 101]⟩ (by decide)
  have h3 := low_is s ⟨#[80, 114, 111, 120, 121, 45, 65, 117, 116, 104, 101, 110, 116, 105, 99, 97, 116, 101]⟩ ⟨#[112, 114, 111, 120, 121, 45, 97, 117, 116, 104, 101, 110, 116, 105, 99, 97, 116, 101]⟩ (by decide)
  have hb : singB s = (foldS ⟨#[83, 101, 116, 45, 67, 111, 111, 107, 105, 101]⟩ s || (foldS ⟨#[87, 87, 87, 45, 65, 117, 116, 104, 101, 110, 116, 105, 99, 97, 116, 101]⟩ s || (foldS ⟨#[80, 114, 111, 120, 121, 45, 65, 117, 116, 104, 101, 110, 116, 105, 99, 97, 116, 101]⟩ s || false))) := rfl
  rw [← h1, ← h2, ← h3] at hb
  have HB := Lib.hid hb
  clear h1 h2 h3 hb
  go_enter Try.func43, Try.ntmps43
  go_wp2_with fail
  refine (rlower_any s w hs).mono ?_
  rintro e w1 ⟨rfl, hb1⟩
  go_wp2
  all_goals
    go_ret
    refine ⟨ret_bool ?_, hb1⟩
    rw [HB.out]
    simp_all [ByteArray.toList_eq, Bool.or_assoc]
end Go.Proofs.Ytdpohibgipkhnaa
namespace Go.Proofs.Ytdpohibgipkhnaa
open Go.RowKit Go.Sort Go.Proofs.Ytdpohibgipkhnaa.Oct

theorem name_1 {s : ByteArray} (h : foldS ⟨#[69, 84, 97, 103]⟩ s = true) : nameS s = ⟨#[69, 84, 97, 103]⟩ := by simp [nameS, spec4, h]
theorem name_2 {s : ByteArray} (h1 : foldS ⟨#[69, 84, 97, 103]⟩ s = false) (h : foldS ⟨#[84, 69]⟩ s = true) : nameS s = ⟨#[84, 69]⟩ := by simp [nameS, spec4, h, h1]
theorem name_3 {s : ByteArray} (h1 : foldS ⟨#[69, 84, 97, 103]⟩ s = false) (h2 : foldS ⟨#[84, 69]⟩ s = false) (h : foldS ⟨#[87, 87, 87, 45, 65, 117, 116, 104, 101, 110, 116, 105, 99, 97, 116, 101]⟩ s = true) : nameS s = ⟨#[87, 87, 87, 45, 65, 117, 116, 104, 101, 110, 116, 105, 99, 97, 116, 101]⟩ := by simp [nameS, spec4, h, h1, h2]
theorem name_4 {s : ByteArray} (h1 : foldS ⟨#[69, 84, 97, 103]⟩ s = false) (h2 : foldS ⟨#[84, 69]⟩ s = false) (h3 : foldS ⟨#[87, 87, 87, 45, 65, 117, 116, 104, 101, 110, 116, 105, 99, 97, 116, 101]⟩ s = false) (h : foldS ⟨#[68, 78, 84]⟩ s = true) : nameS s = ⟨#[68, 78, 84]⟩ := by simp [nameS, spec4, h, h1, h2, h3]
theorem name_5 {s : ByteArray} (h1 : foldS ⟨#[69, 84, 97, 103]⟩ s = false) (h2 : foldS ⟨#[84, 69]⟩ s = false) (h3 : foldS ⟨#[87, 87, 87, 45, 65, 117, 116, 104, 101, 110, 116, 105, 99, 97, 116, 101]⟩ s = false) (h : foldS ⟨#[68, 78, 84]⟩ s = false) : nameS s = ⟨(capL true (lowS s).data.toList).toArray⟩ := by simp [nameS, spec4, h, h1, h2, h3]

theorem low_lit (s n c : ByteArray) (b : Bool) (h : lowS n = c) (hb : foldS n s = b) : ((lowS s).toList == c.data.toList) = b := by
  have := low_is s n c h
  rw [hb, ByteArray.toList_eq c] at this
  exact this
set_option maxRecDepth 100000 in
set_option maxHeartbeats 1600000 in
theorem rname_spec (s : ByteArray) (w : World) (hs : s.size ≤ 140737488355328) (h : ∃ n ∈ spec4, foldS n s = true) : Calls Try.prog 41 #[.string s] w fun e w' => e = .returned (.string (nameS s)) ∧ Below w.heap.size w w' := by
  have l1 := low_lit s ⟨#[69, 84, 97, 103]⟩ ⟨#[101, 116, 97, 103]⟩ _ (by decide) rfl
  have l2 := low_lit s ⟨#[84, 69]⟩ ⟨#[116, 101]⟩ _ (by decide) rfl
  have l3 := low_lit s ⟨#[87, 87, 87, 45, 65, 117, 116, 104, 101, 110, 116, 105, 99, 97, 116, 101]⟩ ⟨#[119, 119, 119, 45, 97, 117, 116, 104, 101, 110, 116, 105, 99, 97, 116, 101]⟩ _ (by decide) rfl
  have l4 := low_lit s ⟨#[68, 78, 84]⟩ ⟨#[100, 110, 116]⟩ _ (by decide) rfl
  cases f1 : foldS ⟨#[69, 84, 97, 103]⟩ s
  · cases f2 : foldS ⟨#[84, 69]⟩ s
    · cases f3 : foldS ⟨#[87, 87, 87, 45, 65, 117, 116, 104, 101, 110, 116, 105, 99, 97, 116, 101]⟩ s
      · cases f4 : foldS ⟨#[68, 78, 84]⟩ s
        · obtain ⟨n, hn, hf⟩ := h
          simp [spec4] at hn
          rcases hn with rfl | rfl | rfl | rfl <;> simp_all
        · rw [f1] at l1; rw [f2] at l2; rw [f3] at l3; rw [f4] at l4
          have HN := Lib.hid (name_4 f1 f2 f3 f4)
          clear f1 f2 f3 f4 h
          go_enter Try.func41, Try.ntmps41
          go_wp2_with fail
          refine (rlower_any s w hs).mono ?_
          rintro e w1 ⟨rfl, hb1⟩
          go_wp2
          go_ret
          exact ⟨by rw [HN.out]; rfl, hb1⟩
      · rw [f1] at l1; rw [f2] at l2; rw [f3] at l3
        have HN := Lib.hid (name_3 f1 f2 f3)
        clear f1 f2 f3 l4 h
        go_enter Try.func41, Try.ntmps41
        go_wp2_with fail
        refine (rlower_any s w hs).mono ?_
        rintro e w1 ⟨rfl, hb1⟩
        go_wp2
        go_ret
        exact ⟨by rw [HN.out]; rfl, hb1⟩
    · rw [f1] at l1; rw [f2] at l2
      have HN := Lib.hid (name_2 f1 f2)
      clear f1 f2 l3 l4 h
      go_enter Try.func41, Try.ntmps41
      go_wp2_with fail
      refine (rlower_any s w hs).mono ?_
      rintro e w1 ⟨rfl, hb1⟩
      go_wp2
      go_ret
      exact ⟨by rw [HN.out]; rfl, hb1⟩
  · rw [f1] at l1
    have HN := Lib.hid (name_1 f1)
    clear f1 l2 l3 l4 h
    go_enter Try.func41, Try.ntmps41
    go_wp2_with fail
    refine (rlower_any s w hs).mono ?_
    rintro e w1 ⟨rfl, hb1⟩
    go_wp2
    go_ret
    exact ⟨by rw [HN.out]; rfl, hb1⟩
end Go.Proofs.Ytdpohibgipkhnaa
namespace Go.Proofs.Ytdpohibgipkhnaa
open Go.RowKit Go.Sort Go.Proofs.Ytdpohibgipkhnaa.Oct

/-- The octets made great as far as k. -/
def capTo (T : ByteArray) (k : Nat) : List UInt8 := capL true (T.data.toList.take k)
theorem capTo_length (T : ByteArray) (k : Nat) (h : k ≤ T.size) : (capTo T k).length = k := by
  unfold capTo
  rw [capL_length, List.length_take]
  have : T.data.toList.length = T.size := by simp
  omega
theorem capTo_succ (T : ByteArray) (k : Nat) (h : k < T.size) (n : Int) (hn : n = (if begL true (T.data.toList.take k) = true then upB T[k] else T[k]).toNat) : byteVals (capTo T k) ++ [.int .u8 n] = byteVals (capTo T (k + 1)) := by
  unfold capTo
  rw [take_snoc T k h, capL_snoc, byteVals_snoc, hn]
theorem beg_at (T : ByteArray) (k : Nat) (h : k < T.size) (h0 : 0 < k) : begL true (T.data.toList.take k) = (T[k - 1] == 45) := by
  have hl : T.data.toList.length = T.size := by simp
  have := beg_take T.data.toList true (k - 1) (by omega)
  rw [show k - 1 + 1 = k by omega] at this
  rw [this]
  rfl
theorem upB_small (c : UInt8) (h : 97 ≤ (c.toNat : Int)) (h2 : (c.toNat : Int) ≤ 122) : ((upB c).toNat : Int) = c.toNat - 32 := by
  unfold upB
  rw [if_pos (by omega), UInt8.toNat_ofNat']
  omega
theorem upB_none (c : UInt8) (h : ¬ (97 ≤ (c.toNat : Int) ∧ (c.toNat : Int) ≤ 122)) : upB c = c := by unfold upB; rw [if_neg (by omega)]

set_option maxRecDepth 100000 in
set_option maxHeartbeats 3200000 in
theorem rname_loop (s : ByteArray) (w : World) (hs : s.size ≤ 140737488355328) (h : ∀ n ∈ spec4, foldS n s = false) : Calls Try.prog 41 #[.string s] w fun e w' => e = .returned (.string (nameS s)) ∧ Below w.heap.size w w' := by
  have f1 := h ⟨#[69, 84, 97, 103]⟩ (by simp [spec4])
  have f2 := h ⟨#[84, 69]⟩ (by simp [spec4])
  have f3 := h ⟨#[87, 87, 87, 45, 65, 117, 116, 104, 101, 110, 116, 105, 99, 97, 116, 101]⟩ (by simp [spec4])
  have f4 := h ⟨#[68, 78, 84]⟩ (by simp [spec4])
  have l1 := low_lit s ⟨#[69, 84, 97, 103]⟩ ⟨#[101, 116, 97, 103]⟩ _ (by decide) f1
  have l2 := low_lit s ⟨#[84, 69]⟩ ⟨#[116, 101]⟩ _ (by decide) f2
  have l3 := low_lit s ⟨#[87, 87, 87, 45, 65, 117, 116, 104, 101, 110, 116, 105, 99, 97, 116, 101]⟩ ⟨#[119, 119, 119, 45, 97, 117, 116, 104, 101, 110, 116, 105, 99, 97, 116, 101]⟩ _ (by decide) f3
  have l4 := low_lit s ⟨#[68, 78, 84]⟩ ⟨#[100, 110, 116]⟩ _ (by decide) f4
  have HN := Lib.hid (name_5 f1 f2 f3 f4)
  clear f1 f2 f3 f4 h
  obtain ⟨i0, hi, hz⟩ := info_hid info_u8
  have hts := lowS_size s
  have hlow := rlower_any s w hs
  obtain ⟨T, hT⟩ : ∃ T, T = lowS s := ⟨_, rfl⟩
  rw [← hT] at l1 l2 l3 l4 HN hts hlow
  have HTS := Lib.hid hts
  have hs2 : T.size ≤ 140737488355328 := by omega
  have HLW := Lib.hid hlow
  clear hT hts hlow
  go_enter Try.func41, Try.ntmps41
  go_wp2_with fail
  refine HLW.out.mono ?_
  rintro e w1 ⟨rfl, hb1⟩
  have HB1 := Lib.hid hb1
  clear hb1
  go_wp2_with fail
  clear l1 l2 l3 l4
  go_loopg [4, 5] T.size (fun gg v i wr => ∃ k : Nat, k ≤ T.size ∧ T.size - k ≤ gg ∧ i = .int .i64 k ∧ (∃ g cap, v = .slice (some ⟨g, 0, none⟩) k cap) ∧ Hid (wr.ownsRow w1.heap.size 5 1 v k (byteVals (capTo T k))) ∧ Hid (Below w1.heap.size w1 wr))
  case atStart => exact ⟨0, Nat.zero_le _, by omega, rfl, ⟨_, _, rfl⟩, World.ownsRow_lit w1 #[] 0 (Nat.le_refl _) (by decide) rfl, (Below.refl _ _).alloc (Nat.le_refl _) _⟩
  case round =>
    obtain ⟨k, hk, hgk, rfl, ⟨g, cap, rfl⟩, hown, hbel⟩ := hrel
    by_cases hlt : k < T.size
    · have c1 : (T[k].toNat : Int) ≤ 255 := by have := T[k].toNat_lt; omega
      have hsz := hbel.out.size
      have hlo := hown.out.lt g rfl
      have hstep := capTo_succ T k hlt
      by_cases ha : (97 : Int) ≤ (T[k].toNat : Int)
      · by_cases hb : (T[k].toNat : Int) ≤ 122
        · have hup := upB_small T[k] ha hb
          by_cases h0 : k = 0
          · have kd : ((k : Int) == 0) = true := by simp [h0]
            have hbt : begL true (T.data.toList.take k) = true := by rw [h0]; rfl
            clear h0
            have HS := Lib.hid (hstep (T[k].toNat - 32) (by rw [if_pos hbt, hup]))
            clear hstep
            go_wp2_with (at_builtin; refine wpList_append_new rfl (.tmp 46) (.tmp 48) 90 rfl w1.heap.size 5 Try.underlying90 hi hz rfl (by decide) wr [.int .u8 ((T[k].toNat - 32))] hown.out rfl rfl rfl (one_int _ _) (by unfold maxLen; omega) (by omega) (by omega) ?_; intro g' cap' w2 hown1 hgrow1)
            have R := Lib.hid (below_owned hbel.out hsz hown.out hgrow1)
            rw [HS.out] at hown1
            have HOW := Lib.hid hown1
            clear hown1 hgrow1
            go_roundg (T.size - (k + 1))
            case measure => omega
            case rel => exact ⟨k + 1, by omega, Nat.le_refl _, by go_num, ⟨_, _, rfl⟩, HOW.out, R.out⟩
          · have kp : 1 ≤ k := by omega
            have kp0 : 0 < k := by omega
            have hbe := beg_at T k hlt kp0
            have kb : (0 : Int) ≤ (k : Int) - 1 := by omega
            have kc : ((k : Int) - 1).toNat = k - 1 := by omega
            have kd : ((k : Int) == 0) = false := by simp; omega
            have ke : k - 1 < T.size := by omega
            have kf : (1 : Int) ≤ (k : Int) := by omega
            by_cases h45 : ((T[k - 1].toNat : Int) = 45)
            · have hbt : begL true (T.data.toList.take k) = true := by rw [hbe]; have : T[k - 1] = 45 := UInt8.toNat_inj.1 (by simpa using Int.ofNat.inj h45); rw [this]; rfl
              clear hbe
              have HS := Lib.hid (hstep (T[k].toNat - 32) (by rw [if_pos hbt, hup]))
              clear hstep
              go_wp2_with (at_builtin; refine wpList_append_new rfl (.tmp 46) (.tmp 48) 90 rfl w1.heap.size 5 Try.underlying90 hi hz rfl (by decide) wr [.int .u8 ((T[k].toNat - 32))] hown.out rfl rfl rfl (one_int _ _) (by unfold maxLen; omega) (by omega) (by omega) ?_; intro g' cap' w2 hown1 hgrow1)
              have R := Lib.hid (below_owned hbel.out hsz hown.out hgrow1)
              rw [HS.out] at hown1
              have HOW := Lib.hid hown1
              clear hown1 hgrow1
              go_roundg (T.size - (k + 1))
              case measure => omega
              case rel => exact ⟨k + 1, by omega, Nat.le_refl _, by go_num, ⟨_, _, rfl⟩, HOW.out, R.out⟩
            · have hbt : begL true (T.data.toList.take k) = false := by
                rw [hbe, beq_eq_false_iff_ne]
                intro e
                apply h45
                rw [e]
                rfl
              have h46 : ((T[k - 1].toNat : Int) == 45) = false := by simpa using h45
              clear hbe
              have HS := Lib.hid (hstep T[k].toNat (by rw [if_neg (by rw [hbt]; simp)]))
              clear hstep
              go_wp2_with (at_builtin; refine wpList_append_new rfl (.tmp 46) (.tmp 48) 90 rfl w1.heap.size 5 Try.underlying90 hi hz rfl (by decide) wr [.int .u8 (T[k].toNat)] hown.out rfl rfl rfl (one_int _ _) (by unfold maxLen; omega) (by omega) (by omega) ?_; intro g' cap' w2 hown1 hgrow1)
              have R := Lib.hid (below_owned hbel.out hsz hown.out hgrow1)
              rw [HS.out] at hown1
              have HOW := Lib.hid hown1
              clear hown1 hgrow1
              go_roundg (T.size - (k + 1))
              case measure => omega
              case rel => exact ⟨k + 1, by omega, Nat.le_refl _, by go_num, ⟨_, _, rfl⟩, HOW.out, R.out⟩
        · have hup := upB_none T[k] (by omega)
          have HS := Lib.hid (hstep T[k].toNat (by split <;> simp [hup]))
          clear hstep
          go_wp2_with (at_builtin; refine wpList_append_new rfl (.tmp 46) (.tmp 48) 90 rfl w1.heap.size 5 Try.underlying90 hi hz rfl (by decide) wr [.int .u8 (T[k].toNat)] hown.out rfl rfl rfl (one_int _ _) (by unfold maxLen; omega) (by omega) (by omega) ?_; intro g' cap' w2 hown1 hgrow1)
          have R := Lib.hid (below_owned hbel.out hsz hown.out hgrow1)
          rw [HS.out] at hown1
          have HOW := Lib.hid hown1
          clear hown1 hgrow1
          go_roundg (T.size - (k + 1))
          case measure => omega
          case rel => exact ⟨k + 1, by omega, Nat.le_refl _, by go_num, ⟨_, _, rfl⟩, HOW.out, R.out⟩
      · have hup := upB_none T[k] (by omega)
        have HS := Lib.hid (hstep T[k].toNat (by split <;> simp [hup]))
        clear hstep
        go_wp2_with (at_builtin; refine wpList_append_new rfl (.tmp 46) (.tmp 48) 90 rfl w1.heap.size 5 Try.underlying90 hi hz rfl (by decide) wr [.int .u8 (T[k].toNat)] hown.out rfl rfl rfl (one_int _ _) (by unfold maxLen; omega) (by omega) (by omega) ?_; intro g' cap' w2 hown1 hgrow1)
        have R := Lib.hid (below_owned hbel.out hsz hown.out hgrow1)
        rw [HS.out] at hown1
        have HOW := Lib.hid hown1
        clear hown1 hgrow1
        go_roundg (T.size - (k + 1))
        case measure => omega
        case rel => exact ⟨k + 1, by omega, Nat.le_refl _, by go_num, ⟨_, _, rfl⟩, HOW.out, R.out⟩
    · obtain rfl : T.size = k := by omega
      have hback := fun wx => back_of_cells (P := Try.prog) (w := wr) (cap := cap) 90 9 Try.underlying90 Try.underlying5 Try.underlying9 (CellsAt.of_owned hown.out) T.size wx
      have hback2 := hback (capTo_length T _ (Nat.le_refl _)).symm
      clear hback
      have HFN : Hid (capTo T T.size = capL true T.data.toList) := by
        show _ = _
        unfold capTo
        rw [List.take_of_length_le (by simp)]
      go_wp2_with fail
      go_ret
      exact ⟨ret_str (by rw [HN.out, HFN.out]), grow_trans HB1.out hbel.out⟩
/-- The document's Name. -/
theorem rname_any (s : ByteArray) (w : World) (hs : s.size ≤ 140737488355328) : Calls Try.prog 41 #[.string s] w fun e w' => e = .returned (.string (nameS s)) ∧ Below w.heap.size w w' := by
  by_cases h : ∃ n ∈ spec4, foldS n s = true
  · exact rname_spec s w hs h
  · refine rname_loop s w hs fun n hn => ?_
    cases hf : foldS n s
    · rfl
    · exact absurd ⟨n, hn, hf⟩ h
end Go.Proofs.Ytdpohibgipkhnaa
namespace Go.Proofs.Ytdpohibgipkhnaa
open Go.RowKit Go.Sort Go.Proofs.Ytdpohibgipkhnaa.Oct

theorem specA_at (k : Nat) (h : k < spec4.length) : specA[k]? = some (.string spec4[k]) := by
  have h4 : k < 4 := h
  rcases (show k = 0 ∨ k = 1 ∨ k = 2 ∨ k = 3 from by omega) with rfl | rfl | rfl | rfl <;> rfl
theorem index_spec (k : Nat) (h : k < spec4.length) (w : World) : (Instr.index 88 (.agg specA) (.int .i64 k)).run Try.prog w = .ok (.string spec4[k]) w := by
  have h4 : k < 4 := h
  rcases (show k = 0 ∨ k = 1 ∨ k = 2 ∨ k = 3 from by omega) with rfl | rfl | rfl | rfl <;> simp [Instr.index, run_underlying Try.underlying88, asIntOf, part, Try.isAgg9, Try.sizeOf9, specA, spec4, go_sem]
theorem spec4_small : ∀ b ∈ spec4, b.size ≤ 9223372036854775807 := by decide +kernel
theorem low_get (s : ByteArray) (k : Nat) (h : k < s.size) (h2 : k < (lowS s).data.toList.length) : (lowS s).data.toList[k] = lowB s[k] := by
  simp only [lowS_data, List.getElem_map]
  rfl
theorem lowB_high (c : UInt8) (h : 128 ≤ c.toNat) : lowB c = c := by unfold lowB; rw [if_neg (by omega)]
theorem low_len (s : ByteArray) : (lowS s).data.toList.length = s.size := by rw [lowS_data, List.length_map]; simp
theorem lowB_dash (c : UInt8) : (lowB c == 45) = (c == 45) := by
  rw [Bool.eq_iff_iff, beq_iff_eq, beq_iff_eq]
  constructor
  · intro h
    have h1 := lowB_toNat c
    rw [h] at h1
    have e : ((45 : UInt8).toNat : Int) = 45 := rfl
    rw [e] at h1
    unfold lowI at h1
    apply UInt8.toNat_inj.1
    show c.toNat = 45
    split at h1 <;> omega
  · intro h; subst h; rfl
theorem capMix_skips (s : ByteArray) (k : Nat) : ∀ n, k + n ≤ s.size → (∀ j (hj : k + j < s.size), j < n → 128 ≤ (s[k + j]).toNat) → capMix s (k + n) = capMix s k
  | 0, _, _ => rfl
  | n + 1, hn, hall => by
    have hl := low_len s
    rw [← capMix_skips s k n (by omega) (fun j hj h => hall j hj (by omega)), ← Nat.add_assoc]
    refine capMix_skip s (k + n) (by omega) (.inr ?_)
    rw [low_get s (k + n) (by omega), lowB_high _ (hall n (by omega) (by omega))]
    exact upB_high _ (hall n (by omega) (by omega))
theorem beg_low (s : ByteArray) (k : Nat) (h : k < s.size) : begL true ((lowS s).data.toList.take (k + 1)) = (s[k] == 45) := by
  have hl := low_len s
  rw [beg_take _ true k (by omega), low_get s k h, lowB_dash]
theorem upI_upB (c : UInt8) : upI c.toNat = (upB c).toNat := by
  have := c.toNat_lt
  unfold upI upB
  by_cases h : 97 ≤ c.toNat ∧ c.toNat ≤ 122
  · rw [if_pos h, if_pos (by omega), UInt8.toNat_ofNat']
    omega
  · rw [if_neg h, if_neg (by omega)]
theorem dash_eq (c : UInt8) : ((c.toNat : Int) == 45) = (c == 45) := by
  rw [Bool.eq_iff_iff, beq_iff_eq, beq_iff_eq]
  constructor
  · intro h
    apply UInt8.toNat_inj.1
    show c.toNat = 45
    omega
  · intro h; subst h; rfl
theorem lowB_small (c : UInt8) (h : c.toNat < 128) : (lowB c).toNat < 128 := by
  have h1 := lowB_toNat c
  unfold lowI at h1
  split at h1 <;> omega
theorem upI_range (c : Int) (h0 : 0 ≤ c) (h1 : c ≤ 255) : 0 ≤ upI c ∧ upI c ≤ 255 := by unfold upI; split <;> omega

set_option maxRecDepth 100000 in
set_option maxHeartbeats 3200000 in
theorem name_any (s : ByteArray) (w : World) (hs : s.size ≤ 140737488355328) : Calls Try.prog 40 #[.string s] w fun e w' => e = .returned (.string (nameS s)) ∧ Below w.heap.size w w' := by
  have hs2 : s.size ≤ 9223372036854775807 := by omega
  have hlow := fun w => lowerS_any s w hs2
  have HLW := Lib.hid hlow
  clear hlow
  have hconv := fun wx => run_bytes_of_string (P := Try.prog) wx 9 90 5 (lowS s) Try.underlying9 Try.underlying90 Try.underlying5
  have HCV := Lib.hid hconv
  clear hconv
  go_enter Try.func40, Try.ntmps40
  go_wp2_with fail
  refine (special_any _).mono ?_
  rintro e w1 ⟨rfl, hb1⟩
  have HB1 := Lib.hid hb1
  clear hb1
  go_wp2_with fail
  go_loopg [11] 4 (fun gg s11 wr => ∃ k : Nat, k ≤ 4 ∧ 4 - k ≤ gg ∧ s11 = .int .i64 k ∧ Hid (∀ j (hj : j < spec4.length), j < k → foldS spec4[j] s = false) ∧ Hid (Below w1.heap.size w1 wr))
  case atStart => exact ⟨0, by omega, by omega, rfl, fun j _ hj => absurd hj (Nat.not_lt_zero _), Below.refl _ _⟩
  case round =>
    obtain ⟨k, hk, hgk, rfl, hall, hb⟩ := hrel
    by_cases hkl : k < 4
    · have hkb : k < spec4.length := hkl
      have hcell := index_spec k hkb
      have hbs := spec4_small _ (List.getElem_mem hkb)
      obtain ⟨bn, hbn⟩ : ∃ bn, bn = spec4[k] := ⟨_, rfl⟩
      rw [← hbn] at hcell hbs
      have HN := Lib.hid hbn
      clear hbn
      cases hf : foldS bn s
      · have HF := Lib.hid hf
        clear hf
        go_wp2_with fail
        refine (fold_any bn s _ hbs hs2).mono ?_
        rintro e w3 ⟨rfl, hd⟩
        rw [HF.out]
        have HB := Lib.hid (hb.out.trans (hd.below _))
        clear hd hcell
        go_wp2_with fail
        go_roundg (4 - (k + 1))
        case measure => omega
        case rel => exact ⟨k + 1, by omega, Nat.le_refl _, by go_num, (fun j hj hjk => by
          by_cases e : j = k
          · subst e; rw [← HN.out]; exact HF.out
          · exact hall.out j hj (by omega)), HB.out⟩
      · have hres : nameS s = bn := by
          unfold nameS
          have : spec4.find? (fun n => foldS n s) = some bn := by
            rw [List.find?_eq_some_iff_getElem]
            exact ⟨hf, k, hkb, HN.out.symm, fun j hj => by rw [hall.out j (by omega) hj]; rfl⟩
          rw [this]
        have HR := Lib.hid hres
        have HF := Lib.hid hf
        clear hf hres
        go_wp2_with fail
        refine (fold_any bn s _ hbs hs2).mono ?_
        rintro e w3 ⟨rfl, hd⟩
        rw [HF.out]
        have HB := Lib.hid (hb.out.trans (hd.below _))
        clear hd hcell
        go_wp2_with fail
        go_ret
        exact ⟨ret_str HR.out.symm, grow_trans HB1.out HB.out⟩
    · obtain rfl : 4 = k := by omega
      have hres : nameS s = ⟨(capL true (lowS s).data.toList).toArray⟩ := by
        unfold nameS
        have : spec4.find? (fun n => foldS n s) = none := by
          rw [List.find?_eq_none]
          intro b hb2
          obtain ⟨j, hj, rfl⟩ := List.mem_iff_getElem.1 hb2
          rw [hall.out j hj hj]
          simp
        rw [this]
      have HR := Lib.hid hres
      clear hres hall
      go_wp2_with fail
      refine (HLW.out _).mono ?_
      rintro e w2 ⟨rfl, hb2⟩
      have HB2 := Lib.hid (hb.out.trans (hb2.mono hb.out.size))
      clear hb2
      have hcv := HCV.out
      go_wp2_with fail
      clear hcv
      have hcells0 : CellsAt ((w2.alloc (Obj.cells (bytesRow (lowS s) (grownCap w2 (lowS s).size 0 5)) 5 ((bytesRow (lowS s) (grownCap w2 (lowS s).size 0 5)).size, (bytesRow (lowS s) (grownCap w2 (lowS s).size 0 5)).size + 1))).drew.iter s 0) w2.heap.size (byteVals (capMix s 0)) := by
        rw [capMix_zero]
        exact (CellsAt.of_bytes w2 (lowS s) _ 5).block (Below.heap_alloc _ _ _ (by simp))
      have HC0 := Lib.hid hcells0
      have hls := low_len s
      have HLS := Lib.hid hls
      clear hcells0 hls
      go_loopg [6] (s.size + 1) (fun gg s6 wr => ∃ pos : Nat, pos ≤ s.size ∧ s.size - pos + 1 ≤ gg ∧ wr.heap[w2.heap.size + 1]? = some (.stringIter s pos) ∧ s6 = .bool (begL true ((lowS s).data.toList.take pos)) ∧ Hid (CellsAt wr w2.heap.size (byteVals (capMix s pos))) ∧ Hid (Below w2.heap.size w2 wr))
      case atStart => exact ⟨0, Nat.zero_le _, by omega, (by have := World.iter_heap (w2.alloc (Obj.cells (bytesRow (lowS s) (grownCap w2 (lowS s).size 0 5)) 5 ((bytesRow (lowS s) (grownCap w2 (lowS s).size 0 5)).size, (bytesRow (lowS s) (grownCap w2 (lowS s).size 0 5)).size + 1))).drew s 0; simpa using this), rfl, HC0.out, (((Below.refl _ _).alloc (Nat.le_refl _) _).drew).alloc (by simp) _⟩
      case round =>
        obtain ⟨pos, hpos, hgp, hit, rfl, hcs, hbel⟩ := hrel
        have hlt0 : w2.heap.size + 1 < wr.heap.size := (Array.getElem?_eq_some_iff.1 hit).1
        by_cases hlt : pos < s.size
        · have hnx := fun ty => Lib.run_next_any_at (P := Try.prog) wr (w2.heap.size + 1) s pos ty hit hlt
          have hrest := decode_rest s pos hlt
          have hit1 := Lib.iterAt_heap wr (w2.heap.size + 1) s pos (pos + (Utf8.decode s pos).2) hit
          have hbel1 : Below w2.heap.size w2 (wr.iterAt (w2.heap.size + 1) s (pos + (Utf8.decode s pos).2)) := Lib.below_iterAt hbel.out (Nat.le_succ _) _ _
          have hcs1 : CellsAt (wr.iterAt (w2.heap.size + 1) s (pos + (Utf8.decode s pos).2)) w2.heap.size (byteVals (capMix s pos)) := hcs.out.block ((Lib.below_iterAt (Below.refl (w2.heap.size + 1) wr) (Nat.le_refl _) _ _).block _ (Nat.lt_succ_self _))
          have hlen : (byteVals (capMix s pos)).length = s.size := by rw [byteVals_length, capMix_length, HLS.out]
          have hcell : (wr.iterAt (w2.heap.size + 1) s (pos + (Utf8.decode s pos).2)).cell? ⟨w2.heap.size, pos, none⟩ = some (.int .u8 (lowB s[pos]).toNat) := by
            have := hcs1.cell pos (by rw [hlen]; exact hlt)
            rw [this, byteVals_get]
            congr 3
            have h1 := capMix_at s pos (by rw [HLS.out]; exact hlt)
            rw [List.getElem?_eq_getElem (by rw [capMix_length, HLS.out]; exact hlt)] at h1
            rw [Option.some.inj h1, low_get s pos hlt]
          have hfree : (wr.iterAt (w2.heap.size + 1) s (pos + (Utf8.decode s pos).2)).frozen? ⟨w2.heap.size, pos, none⟩ = false := hcs1.free pos (by rw [hlen]; exact hlt)
          have hlow1 := (lowB s[pos]).toNat_lt
          obtain ⟨ww, hww⟩ : ∃ ww, ww = wr.iterAt (w2.heap.size + 1) s (pos + (Utf8.decode s pos).2) := ⟨_, rfl⟩
          rw [← hww] at hnx hit1 hbel1 hcs1 hcell hfree
          have hzw : w2.heap.size + 1 < ww.heap.size := (Array.getElem?_eq_some_iff.1 hit1).1
          have hlow1 := (lowB s[pos]).toNat_lt
          have hps : pos < (lowS s).size := by rw [lowS_size]; exact hlt
          have HI := Lib.hid hit1
          have HB := Lib.hid hbel1
          have HCS := Lib.hid hcs1
          have HRS := Lib.hid hrest
          have HLN := Lib.hid hlen
          clear hit1 hbel1 hcs1 hrest hit hlen hww
          by_cases ha : (s[pos]).toNat < 128
          · have hdec := decode_ascii s pos hlt ha
            rw [hdec] at hnx HI
            have h128 : ((lowB s[pos]).toNat : Int) < 128 := by have := lowB_small _ ha; omega
            have hb45 : (((s[pos].toNat : Nat) : Int) == 45) = begL true ((lowS s).data.toList.take (pos + 1)) := by rw [beg_low s pos hlt, dash_eq]
            have HB45 := Lib.hid hb45
            clear hdec hb45
            cases hbg : begL true ((lowS s).data.toList.take pos)
            · have hmix : capMix s (pos + 1) = capMix s pos := capMix_skip s pos (by rw [HLS.out]; exact hlt) (.inl hbg)
              have HMX := Lib.hid hmix
              clear hmix
              go_wp2_with fail
              clear hnx
              go_roundg (s.size - (pos + 1) + 1)
              case measure => omega
              case rel => exact ⟨pos + 1, by omega, Nat.le_refl _, HI.out, by rw [← HB45.out], (by show CellsAt _ _ _; rw [HMX.out]; exact HCS.out), HB.out⟩
            · have hur := upI_range ((lowB s[pos]).toNat : Int) (by omega) (by omega)
              obtain ⟨hu0, hu1⟩ := hur
              have hmix := capMix_set s pos (by rw [HLS.out]; exact hlt) hbg
              rw [low_get s pos hlt] at hmix
              have hset := HCS.out.set pos (.int .u8 (upB (lowB s[pos])).toNat)
              rw [byteVals_set, hmix, ← upI_upB] at hset
              have HST := Lib.hid hset
              have hbel2 : Below w2.heap.size w2 (ww.setCell ⟨w2.heap.size, pos, none⟩ (.int .u8 (upI (lowB s[pos]).toNat))) := HB.out.setCell (Nat.le_refl _) _
              have hit2 : (ww.setCell ⟨w2.heap.size, pos, none⟩ (.int .u8 (upI (lowB s[pos]).toNat))).heap[w2.heap.size + 1]? = some (.stringIter s (pos + 1)) := (Below.heap_setCell _ _ _ _ (by simp)).trans HI.out
              have HB2' := Lib.hid hbel2
              have HI2 := Lib.hid hit2
              clear hmix hset hbel2 hit2
              go_wp2_with (go_at_call 82; refine (upper_any _ _ (by omega) (by omega)).mono ?_; rintro e w5 ⟨rfl, rfl⟩)
              clear hnx
              go_roundg (s.size - (pos + 1) + 1)
              case measure => omega
              case rel => exact ⟨pos + 1, by omega, Nat.le_refl _, HI2.out, by rw [← HB45.out], HST.out, HB2'.out⟩
          · have hdec := decode_high s pos hlt (by omega)
            have h128 : ¬ ((lowB s[pos]).toNat : Int) < 128 := by rw [lowB_high _ (by omega)]; omega
            have hmix : capMix s (pos + (Utf8.decode s pos).2) = capMix s pos := capMix_skips s pos _ HRS.out.1 (fun j hj hjn => by
              by_cases hj0 : j = 0
              · subst hj0; simp only [Nat.add_zero]; omega
              · exact HRS.out.2 j hj (by omega) hjn)
            have hbe : begL true ((lowS s).data.toList.take (pos + (Utf8.decode s pos).2)) = false := by
              obtain ⟨v, hv⟩ : ∃ v, (Utf8.decode s pos).2 = v + 1 := ⟨(Utf8.decode s pos).2 - 1, by omega⟩
              have hlast : 128 ≤ (s[pos + v]'(by have := HRS.out.1; omega)).toNat := by
                by_cases hj0 : v = 0
                · subst hj0; simp only [Nat.add_zero]; omega
                · exact HRS.out.2 v (by have := HRS.out.1; omega) (by omega) (by omega)
              rw [hv, ← Nat.add_assoc, beg_low s (pos + v) (by have := HRS.out.1; omega), beq_eq_false_iff_ne]
              intro e
              rw [e] at hlast
              have : (45 : UInt8).toNat = 45 := rfl
              omega
            have h45 : (((Utf8.decode s pos).1 : Int) == 45) = false := by
              have := hdec.1
              rw [beq_eq_false_iff_ne]
              omega
            have hge : 1 ≤ (Utf8.decode s pos).2 := hdec.2
            have hle := HRS.out.1
            have HMX := Lib.hid hmix
            have HBE := Lib.hid hbe
            clear hmix hbe hdec
            obtain ⟨rr, wd, hrw⟩ : ∃ rr wd, Utf8.decode s pos = (rr, wd) := ⟨_, _, rfl⟩
            rw [hrw] at hnx HI h45 hge hle HMX HBE
            simp only at hnx HI h45 hge hle HMX HBE
            clear hrw HRS
            cases hbg : begL true ((lowS s).data.toList.take pos)
            all_goals
              go_wp2_with fail
              clear hnx
              go_roundg (s.size - (pos + wd) + 1)
              case measure => omega
              case rel => exact ⟨pos + wd, hle, Nat.le_refl _, HI.out, by rw [HBE.out], (by show CellsAt _ _ _; rw [HMX.out]; exact HCS.out), HB.out⟩
        · obtain rfl : s.size = pos := by omega
          have hnx := fun ty => Lib.run_next_end_at (P := Try.prog) wr (w2.heap.size + 1) s s.size ty hit hlt
          have hall : capMix s s.size = capL true (lowS s).data.toList := capMix_all s s.size (by rw [HLS.out]; exact Nat.le_refl _)
          have hback := fun cap => back_of_cells (P := Try.prog) (cap := cap) 90 9 Try.underlying90 Try.underlying5 Try.underlying9 hcs.out (lowS s).size (by rw [capMix_length, HLS.out, lowS_size])
          have HAL := Lib.hid hall
          clear hall hit
          go_wp2_with fail
          go_ret
          exact ⟨ret_str (by rw [HR.out, HAL.out]), grow_trans HB1.out (grow_trans HB2.out hbel.out)⟩
end Go.Proofs.Ytdpohibgipkhnaa
namespace Go.Proofs.Ytdpohibgipkhnaa
open Go.RowKit Go.Sort Go.Proofs.Ytdpohibgipkhnaa.Oct

theorem with_flds {w : World} {g n : Nat} {l : Flds} {s t : ByteArray} (h : Blk w g 31 (fldVals (l ++ [(s, t)])).toArray) (hn : n + 1 = (l ++ [(s, t)]).length ∧ n + 1 ≤ 65536) (hs : ∀ p ∈ l ++ [(s, t)], p.1.size ≤ 9223372036854775807 ∧ p.2.size ≤ 9223372036854775807) : FldsAt w (some ⟨g, 0, none⟩) (n + 1) (l ++ [(s, t)]) := by
  have h1 := own_of_blk (B := 0) h (Nat.zero_le _) (by rw [← hn.1]; unfold maxLen; omega)
  rw [← hn.1] at h1
  exact FldsAt.of_own h1 (by omega) hs
theorem own_flds_n {w : World} {B n : Nat} {v : Value} {l : Flds} (ho : w.ownsRow B 31 2 v l.length (fldVals l)) (hn : n = l.length ∧ n ≤ 65536) (hs : ∀ p ∈ l, p.1.size ≤ 9223372036854775807 ∧ p.2.size ≤ 9223372036854775807) : ∃ x c, v = .slice x n c ∧ FldsAt w x n l := by
  obtain ⟨x, c, h1, _, h2⟩ := own_flds ho (by omega) hs
  rw [← hn.1] at h1 h2
  exact ⟨x, c, h1, h2⟩
theorem setF_len (l : Flds) (s t : ByteArray) : (setF l s t).length ≤ l.length + 1 := by
  unfold setF
  split
  · have := setR_len s t l false; omega
  · simp
theorem setF_str {l : Flds} {s t : ByteArray} {B : Nat} (h : ∀ p ∈ l, p.1.size ≤ B ∧ p.2.size ≤ B) (hs : s.size ≤ B) (ht : t.size ≤ B) : ∀ p ∈ setF l s t, p.1.size ≤ B ∧ p.2.size ≤ B := by
  intro p hp
  unfold setF at hp
  split at hp
  · obtain ⟨g, hg, e1, e2⟩ := setR_mem s t l false p hp
    refine ⟨by rw [e1]; exact (h g hg).1, ?_⟩
    rcases e2 with e2 | e2
    · rw [e2]; exact (h g hg).2
    · rw [e2]; exact ht
  · rcases List.mem_append.1 hp with hp | hp
    · exact h p hp
    · simp at hp
      subst hp
      exact ⟨hs, ht⟩
theorem with_str {l : Flds} {s t : ByteArray} {B : Nat} (h : ∀ p ∈ l, p.1.size ≤ B ∧ p.2.size ≤ B) (hs : s.size ≤ B) (ht : t.size ≤ B) : ∀ p ∈ l ++ [(s, t)], p.1.size ≤ B ∧ p.2.size ≤ B := by
  intro p hp
  rcases List.mem_append.1 hp with hp | hp
  · exact h p hp
  · simp at hp
    subst hp
    exact ⟨hs, ht⟩

set_option maxRecDepth 100000 in
set_option maxHeartbeats 6400000 in
theorem hchanges_yes (x y : Option Addr) (n c m d : Nat) (l : Flds) (ns : List ByteArray) (s t : ByteArray) (w : World) (h : FldsAt w x n l) (hnc : n ≤ c) (h2 : StrsArg w y m ns) (hl : fewB l = true) (hm : m ≤ 20) (hs : s.size ≤ 100) (ht : t.size ≤ 300) :
    Calls Try.prog 6 #[.slice x n c, .slice y m d, .agg #[.string s, .string t]] w fun e w' => e = .returned (.bool true) ∧ Below w.heap.size w w' := by
  obtain ⟨f1, f2, f3⟩ := few_names hl
  have hnl : n ≤ 65536 := by have := h.len; omega
  have hnm : m ≤ 65536 := by omega
  have hs9 : s.size ≤ 9223372036854775807 := by omega
  have ht9 : t.size ≤ 9223372036854775807 := by omega
  have hs14 : s.size ≤ 140737488355328 := by omega
  have HWs := Lib.hid (with_str h.str hs9 ht9)
  have HSo := Lib.hid (setF_str h.str hs9 ht9)
  have HWo : Hid (∀ p ∈ withoutF l ns, p.1.size ≤ 9223372036854775807 ∧ p.2.size ≤ 9223372036854775807) := fun p hp => h.str p (withoutF_sub hp)
  have hWl : (withoutF l ns).length ≤ 65536 := by have := withoutF_len l ns; omega
  have hVl : (l ++ [(s, t)]).length ≤ 65536 := by rw [List.length_append]; simp; omega
  have hSl : (setF l s t).length ≤ 65536 := by have := setF_len l s t; omega
  have HNf : Hid (n + 1 = (l ++ [(s, t)]).length ∧ n + 1 ≤ 65536) := ⟨by rw [List.length_append, h.len]; rfl, by have := h.len; omega⟩
  have HA0 := Lib.hid (h.below (below_new w (.cells #[.string s, .string t] 31)))
  have HN0 := Lib.hid (h2.below (below_new w (.cells #[.string s, .string t] 31)))
  have HL := Lib.hid hl
  have F2s := Lib.hid f2
  have i1 : ¬ (100 : Int) < (s.size : Int) := by omega
  have i2 : ¬ (300 : Int) < (t.size : Int) := by omega
  have i3 : ¬ (20 : Int) < (m : Int) := by omega
  have hml := h2.1
  clear h h2 hl f1 f2 f3
  go_enter Try.func6, Try.ntmps6
  go_wp2_with fail
  refine (few_any _ x n c l HA0.out).mono ?_
  rintro e w1 ⟨rfl, hb1⟩
  rw [HL.out]
  have K1 := (Blk.new w 31 #[.string s, .string t]).below hb1 (by simp)
  have C0 : w1.cell? ⟨w.heap.size, 0, none⟩ = some (.string s) := K1.cell 0
  have C1 : w1.cell? ⟨w.heap.size, 1, none⟩ = some (.string t) := K1.cell 1
  have HLt : w.heap.size < w1.heap.size := K1.lt
  have HA := Lib.hid (HA0.out.below hb1)
  have HN := Lib.hid (HN0.out.below hb1)
  have BW := Lib.hid (grow_trans (below_new w (.cells #[.string s, .string t] 31)) hb1)
  have B1 := Lib.hid (Below.refl w1.heap.size w1)
  clear hb1 K1 HA0 HN0
  go_wp2_with fail
  go_loop [32] (fun i => ∃ k : Nat, k ≤ m ∧ i = .int .i64 k ∧ Hid (∀ j (hj : j < ns.length), j < k → ns[j].size ≤ 100)) (fun i => m - (intOf i).toNat)
  case atStart => exact ⟨0, Nat.zero_le _, rfl, fun j _ hj => absurd hj (Nat.not_lt_zero _)⟩
  case round =>
    obtain ⟨k, hk, rfl, hall⟩ := hrel
    by_cases hkm : k < m
    · obtain ⟨b, o, q, rfl, hl2, hq, hc, hqs⟩ := HN.out.get k hkm
      have i4 : (k : Int) < (m : Int) := by omega
      by_cases hq1 : q.size ≤ 100
      · have i5 : ¬ (100 : Int) < (q.size : Int) := by omega
        have HQ := Lib.hid hq
        clear hq
        go_wp2
        go_round
        case rel =>
          refine ⟨k + 1, by omega, by go_num, fun j hj hjk => ?_⟩
          by_cases e : j = k
          · subst e; rw [← HQ.out]; exact hq1
          · exact hall.out j hj (by omega)
        case measure => simp [intOf]; omega
      · have i5 : (100 : Int) < (q.size : Int) := by omega
        clear hq
        go_wp2_with fail
        refine (hlives_any w1).mono ?_
        rintro e w2 ⟨rfl, hb2⟩
        go_wp2
        go_ret
        exact ⟨rfl, grow_trans BW.out hb2⟩
    · obtain rfl : m = k := by omega
      have HNs : Hid (∀ q ∈ ns, q.size ≤ 140737488355328) := fun q hq => by
        obtain ⟨j, hj, rfl⟩ := List.mem_iff_getElem.1 hq
        have := hall.out j hj (by omega)
        omega
      clear hall
      go_wp2_with fail
      go_region_held3 (fun w' => w'.cell? ⟨w.heap.size, 0, none⟩ = some (.string s) ∧ w'.cell? ⟨w.heap.size, 1, none⟩ = some (.string t)) (go_keep)
        (first
          | (go_at_call 24; refine (hlives_any _).mono ?_; rintro e w11 ⟨rfl, hb11⟩; have B11 := Lib.hid (grow_trans (by first | exact B10.out | exact B10.out.drew | exact below_drewN B10.out _) hb11); have kc0 := (B11.out.cell (p := ⟨w.heap.size, 0, none⟩) HLt).trans C0; have kc1 := (B11.out.cell (p := ⟨w.heap.size, 1, none⟩) HLt).trans C1; clear hb11)
          | (go_at_call 18; have hg1 := G8; have hg2 := F9; clear hg1 hg2; refine (rsamef_any _ x9 _ _ _ _ (setF l s t) (setF l s t) _ (by first | exact G8.out | exact G8.out.below (Below.refl _ _).drew | exact G8.out.below (below_drewN (Below.refl _ _) _)) (by first | exact F9.out | exact F9.out.below (Below.refl _ _).drew | exact F9.out.below (below_drewN (Below.refl _ _) _))).mono ?_; rintro e w10 ⟨rfl, hd10⟩; (rw [show decide ((setF l s t) = (setF l s t)) = true from decide_eq_true rfl]); have B10 := Lib.hid (grow_trans (by first | exact B9.out | exact B9.out.drew | exact below_drewN B9.out _) hd10.grow); have k10c0 := (B10.out.cell (p := ⟨w.heap.size, 0, none⟩) HLt).trans C0; have k10c1 := (B10.out.cell (p := ⟨w.heap.size, 1, none⟩) HLt).trans C1; clear hd10)
          | (go_at_call 38; refine (rset_any _ x n c l s t (HA.out.below (by first | exact B8.out | exact B8.out.drew | exact below_drewN B8.out _)) hnl hs14 F2s.out).mono ?_; rintro e w9 ⟨v9, rfl, ho9, hb9⟩; obtain ⟨x9, c9, rfl, hF9⟩ := own_flds_n ho9 ⟨rfl, hSl⟩ HSo.out; have B9 := Lib.hid (grow_trans (by first | exact B8.out | exact B8.out.drew | exact below_drewN B8.out _) hb9); have F9 := Lib.hid hF9; have G8 := Lib.hid (FldsAt.below (by first | exact F8.out | exact F8.out.below (Below.refl _ _).drew | exact F8.out.below (below_drewN (Below.refl _ _) _)) hb9); have k9c0 := (B9.out.cell (p := ⟨w.heap.size, 0, none⟩) HLt).trans C0; have k9c1 := (B9.out.cell (p := ⟨w.heap.size, 1, none⟩) HLt).trans C1; clear ho9 hF9 hb9)
          | (go_at_call 37; refine (hset_any _ x n c l s t (HA.out.below (by first | exact B7.out | exact B7.out.drew | exact below_drewN B7.out _)) hnc hnl hs9 ht9).mono ?_; rintro e w8 ⟨v8, rfl, ho8, hb8⟩; obtain ⟨x8, c8, rfl, hF8⟩ := own_flds_n ho8 ⟨rfl, hSl⟩ HSo.out; have B8 := Lib.hid (grow_trans (by first | exact B7.out | exact B7.out.drew | exact below_drewN B7.out _) hb8); have F8 := Lib.hid hF8; have k8c0 := (B8.out.cell (p := ⟨w.heap.size, 0, none⟩) HLt).trans C0; have k8c1 := (B8.out.cell (p := ⟨w.heap.size, 1, none⟩) HLt).trans C1; clear ho8 hF8 hb8; clear F5 G5 F6)
          | (go_at_call 18; have hg1 := G5; have hg2 := F6; clear hg1 hg2; refine (rsamef_any _ x6 _ _ _ _ (l ++ [(s, t)]) (l ++ [(s, t)]) _ (by first | exact G5.out | exact G5.out.below (Below.refl _ _).drew | exact G5.out.below (below_drewN (Below.refl _ _) _)) (by first | exact F6.out | exact F6.out.below (Below.refl _ _).drew | exact F6.out.below (below_drewN (Below.refl _ _) _))).mono ?_; rintro e w7 ⟨rfl, hd7⟩; (rw [show decide ((l ++ [(s, t)]) = (l ++ [(s, t)])) = true from decide_eq_true rfl]); have B7 := Lib.hid (grow_trans (by first | exact B6.out | exact B6.out.drew | exact below_drewN B6.out _) hd7.grow); have k7c0 := (B7.out.cell (p := ⟨w.heap.size, 0, none⟩) HLt).trans C0; have k7c1 := (B7.out.cell (p := ⟨w.heap.size, 1, none⟩) HLt).trans C1; clear hd7)
          | (go_at_call 36; refine (rwith_any _ x n c l s t (HA.out.below (by first | exact B5.out | exact B5.out.drew | exact below_drewN B5.out _)) hnl).mono ?_; rintro e w6 ⟨v6, rfl, ho6, hb6⟩; obtain ⟨x6, c6, rfl, hF6⟩ := own_flds_n ho6 HNf.out HWs.out; have B6 := Lib.hid (grow_trans (by first | exact B5.out | exact B5.out.drew | exact below_drewN B5.out _) hb6); have F6 := Lib.hid hF6; have G5 := Lib.hid (FldsAt.below (by first | exact F5.out | exact F5.out.below (Below.refl _ _).drew | exact F5.out.below (below_drewN (Below.refl _ _) _)) hb6); have k6c0 := (B6.out.cell (p := ⟨w.heap.size, 0, none⟩) HLt).trans C0; have k6c1 := (B6.out.cell (p := ⟨w.heap.size, 1, none⟩) HLt).trans C1; clear ho6 hF6 hb6)
          | (go_at_call 35; refine (hwith_any _ x n c l s t (HA.out.below (by first | exact B4.out | exact B4.out.drew | exact below_drewN B4.out _)) hnl).mono ?_; rintro e w5 ⟨rfl, hk5, hb5⟩; have B5 := Lib.hid (grow_trans (by first | exact B4.out | exact B4.out.drew | exact below_drewN B4.out _) hb5); have F5 := Lib.hid (with_flds hk5 HNf.out HWs.out); have k5c0 := (B5.out.cell (p := ⟨w.heap.size, 0, none⟩) HLt).trans C0; have k5c1 := (B5.out.cell (p := ⟨w.heap.size, 1, none⟩) HLt).trans C1; clear hk5 hb5; clear F2 G2 F3)
          | (go_at_call 18; have hg1 := G2; have hg2 := F3; clear hg1 hg2; refine (rsamef_any _ x3 _ _ _ _ (withoutF l ns) (withoutF l ns) _ (by first | exact G2.out | exact G2.out.below (Below.refl _ _).drew | exact G2.out.below (below_drewN (Below.refl _ _) _)) (by first | exact F3.out | exact F3.out.below (Below.refl _ _).drew | exact F3.out.below (below_drewN (Below.refl _ _) _))).mono ?_; rintro e w4 ⟨rfl, hd4⟩; (rw [show decide ((withoutF l ns) = (withoutF l ns)) = true from decide_eq_true rfl]); have B4 := Lib.hid (grow_trans (by first | exact B3.out | exact B3.out.drew | exact below_drewN B3.out _) hd4.grow); have k4c0 := (B4.out.cell (p := ⟨w.heap.size, 0, none⟩) HLt).trans C0; have k4c1 := (B4.out.cell (p := ⟨w.heap.size, 1, none⟩) HLt).trans C1; clear hd4)
          | (go_at_call 34; refine (rwithout_any _ x y n c m d l ns (HA.out.below (by first | exact B2.out | exact B2.out.drew | exact below_drewN B2.out _)) (HN.out.below (by first | exact B2.out | exact B2.out.drew | exact below_drewN B2.out _)) hnl hnm F2s.out HNs.out).mono ?_; rintro e w3 ⟨v3, rfl, ho3, hb3⟩; obtain ⟨x3, c3, rfl, hF3⟩ := own_flds_n ho3 ⟨rfl, hWl⟩ HWo.out; have B3 := Lib.hid (grow_trans (by first | exact B2.out | exact B2.out.drew | exact below_drewN B2.out _) hb3); have F3 := Lib.hid hF3; have G2 := Lib.hid (FldsAt.below (by first | exact F2.out | exact F2.out.below (Below.refl _ _).drew | exact F2.out.below (below_drewN (Below.refl _ _) _)) hb3); have k3c0 := (B3.out.cell (p := ⟨w.heap.size, 0, none⟩) HLt).trans C0; have k3c1 := (B3.out.cell (p := ⟨w.heap.size, 1, none⟩) HLt).trans C1; clear ho3 hF3 hb3)
          | (go_at_call 33; refine (hwithout_any _ x y n c m d l ns (HA.out.below (by first | exact B1.out | exact B1.out.drew | exact below_drewN B1.out _)) (HN.out.below (by first | exact B1.out | exact B1.out.drew | exact below_drewN B1.out _)) hnl).mono ?_; rintro e w2 ⟨v2, rfl, ho2, hb2⟩; obtain ⟨x2, c2, rfl, hF2⟩ := own_flds_n ho2 ⟨rfl, hWl⟩ HWo.out; have B2 := Lib.hid (grow_trans (by first | exact B1.out | exact B1.out.drew | exact below_drewN B1.out _) hb2); have F2 := Lib.hid hF2; have k2c0 := (B2.out.cell (p := ⟨w.heap.size, 0, none⟩) HLt).trans C0; have k2c1 := (B2.out.cell (p := ⟨w.heap.size, 1, none⟩) HLt).trans C1; clear ho2 hF2 hb2)
          | fail)
      go_wp2
      go_ret
      exact ⟨rfl, grow_trans BW.out B11.out⟩
end Go.Proofs.Ytdpohibgipkhnaa
namespace Go.Proofs.Ytdpohibgipkhnaa
open Go.RowKit Go.Sort Go.Proofs.Ytdpohibgipkhnaa.Oct

theorem allV_cons (f : ByteArray × ByteArray) (r : Flds) (name : ByteArray) : allV (f :: r) name = (if foldS name f.1 = true then [f.2] else []) ++ allV r name := by
  unfold allV
  cases h : foldS name f.1 <;> simp [h]
theorem allV_append (a b : Flds) (name : ByteArray) : allV (a ++ b) name = allV a name ++ allV b name := by simp [allV]
theorem fold_is {a b : ByteArray} (h : foldS a b = true) : lowS a = lowS b := of_decide_eq_true h
theorem fold_self2 (a : ByteArray) : foldS a a = true := decide_eq_true rfl
/-- A field of the one name is none of another. -/
theorem fold_other {s o a : ByteArray} (h : foldS s o = false) (ha : foldS s a = true) : foldS o a = false := by
  cases hb : foldS o a
  · rfl
  · have e1 := fold_is ha
    have e2 := fold_is hb
    have : foldS s o = true := decide_eq_true (e1.trans e2.symm)
    rw [h] at this
    cases this
theorem allV_nohit {l : Flds} {s : ByteArray} (h : hitB s l = false) : allV l s = [] := by
  unfold allV
  rw [List.map_eq_nil_iff, List.filter_eq_nil_iff]
  intro p hp hf
  have : hitB s l = true := List.any_eq_true.2 ⟨p, hp, hf⟩
  rw [h] at this
  cases this
theorem allV_setR (s t : ByteArray) : ∀ (l : Flds) (b : Bool), allV (setR s t b l) s = if b = true then [] else if hitB s l = true then [t] else []
  | [], b => by cases b <;> rfl
  | f :: r, b => by
    have h1 := allV_setR s t r true
    have h2 := allV_setR s t r b
    cases hf : foldS s f.1
    · have e : hitB s (f :: r) = hitB s r := by simp [hitB, hf]
      rw [e]
      simp only [setR, hf, Bool.false_eq_true, if_false, allV_cons, List.nil_append]
      exact h2
    · have e : hitB s (f :: r) = true := by simp [hitB, hf]
      rw [e]
      cases b
      · simp only [setR, hf, Bool.false_eq_true, if_true, if_false, allV_cons]
        rw [h1]
        rfl
      · simp only [setR, hf, if_true]
        rw [h1]
        rfl
theorem allV_set (l : Flds) (s t : ByteArray) : allV (setF l s t) s = [t] := by
  unfold setF
  cases h : hitB s l
  · simp only [Bool.false_eq_true, if_false]
    rw [allV_append, allV_nohit h, allV_cons, fold_self2]
    rfl
  · simp only [if_true]
    rw [allV_setR, h]
    rfl
theorem getF_set (l : Flds) (s t : ByteArray) : getF (setF l s t) s = (t, true) := by
  unfold getF
  rw [allV_set]
theorem allV_setR_other (s t o : ByteArray) (h : foldS s o = false) : ∀ (l : Flds) (b : Bool), allV (setR s t b l) o = allV l o
  | [], _ => rfl
  | f :: r, b => by
    have h1 := allV_setR_other s t o h r true
    have h2 := allV_setR_other s t o h r b
    cases hf : foldS s f.1
    · simp only [setR, hf, Bool.false_eq_true, if_false, allV_cons]
      rw [h2]
    · have e := fold_other h hf
      cases b
      · simp only [setR, hf, Bool.false_eq_true, if_true, if_false, allV_cons, e]
        rw [h1]
      · simp only [setR, hf, if_true, allV_cons, e, Bool.false_eq_true, if_false]
        rw [h1]
        rfl
theorem allV_set_other (l : Flds) (s t o : ByteArray) (h : foldS s o = false) : allV (setF l s t) o = allV l o := by
  unfold setF
  cases hh : hitB s l
  · simp only [Bool.false_eq_true, if_false]
    have e : foldS o s = false := by rw [fold_symm]; exact h
    rw [allV_append, allV_cons]
    simp only [e, Bool.false_eq_true, if_false, List.nil_append]
    exact List.append_nil _
  · simp only [if_true]
    exact allV_setR_other s t o h l false
theorem allV_gone (s : ByteArray) : ∀ l : Flds, allV (withoutF l [s]) s = []
  | [] => rfl
  | f :: r => by
    have h := allV_gone s r
    unfold withoutF at h ⊢
    cases hf : foldS s f.1
    · have e : isB [s] f.1 = false := by rw [isB_one, hf]
      simp only [List.filter_cons, e, Bool.not_false, if_true, allV_cons, hf, Bool.false_eq_true, if_false, List.nil_append]
      exact h
    · have e : isB [s] f.1 = true := by rw [isB_one, hf]
      simp only [List.filter_cons, e, Bool.not_true, Bool.false_eq_true, if_false]
      exact h
theorem allV_gone_other (s o : ByteArray) (h : foldS s o = false) : ∀ l : Flds, allV (withoutF l [s]) o = allV l o
  | [] => rfl
  | f :: r => by
    have h1 := allV_gone_other s o h r
    unfold withoutF at h1 ⊢
    cases hf : foldS s f.1
    · have e : isB [s] f.1 = false := by rw [isB_one, hf]
      simp only [List.filter_cons, e, Bool.not_false, if_true, allV_cons]
      rw [h1]
    · have e : isB [s] f.1 = true := by rw [isB_one, hf]
      simp only [List.filter_cons, e, Bool.not_true, Bool.false_eq_true, if_false, allV_cons, fold_other h hf, List.nil_append]
      exact h1
theorem strs_lit (w : World) (s : ByteArray) (hs : s.size ≤ 9223372036854775807) : StrsArg (w.alloc (.cells #[.string s] 9)) (some ⟨w.heap.size, 0, none⟩) 1 [s] := by
  refine ⟨rfl, by omega, by simpa using hs, .inr ⟨w.heap.size, 0, rfl, by simp, fun i hi => ?_⟩⟩
  have h0 : i = 0 := by simpa using hi
  subst h0
  exact (Blk.new w 9 #[.string s]).cell 0
/-- A row of texts, as one that is read. -/
theorem own_strs {w : World} {B : Nat} {v : Value} {ss : List ByteArray} (ho : w.ownsRow B 9 1 v ss.length (strVals ss)) (hn : ss.length ≤ 9223372036854775807) (hs : ∀ s ∈ ss, s.size ≤ 9223372036854775807) : ∃ y c, v = .slice y ss.length c ∧ StrsArg w y ss.length ss := by
  rcases ho.2 with ⟨rfl, h0⟩ | ⟨g, cap, cur, rfl, _⟩
  · exact ⟨none, 0, by rw [h0], rfl, hn, hs, .inl h0⟩
  · exact ⟨_, cap, rfl, StrsArg.of_owned ho hn hs⟩
end Go.Proofs.Ytdpohibgipkhnaa
namespace Go.Proofs.Ytdpohibgipkhnaa
open Go.Proofs.Ytdpohibgipkhnaa.Oct

/-- What a name's fields come to. -/
def oneF (l : Flds) (name : ByteArray) : Flds :=
  if singB name = true then (allV l name).map (fun v => (nameS name, trimS v)) else [(nameS name, trimS (joinB (allV l name)))]
/-- .. those whose first field is the k-th, or one ahead of it. -/
def canTo (l : Flds) : Nat → Flds
  | 0 => []
  | k + 1 => canTo l k ++ (match l[k]? with | some f => if hitB f.1 (l.take k) = true then [] else oneF l f.1 | none => [])
def canF (l : Flds) : Flds := canTo l l.length
theorem canTo_hit {l : Flds} {k : Nat} (hk : k < l.length) (h : hitB l[k].1 (l.take k) = true) : canTo l (k + 1) = canTo l k := by
  simp [canTo, List.getElem?_eq_getElem hk, h]
theorem canTo_new {l : Flds} {k : Nat} (hk : k < l.length) (h : hitB l[k].1 (l.take k) = false) : canTo l (k + 1) = canTo l k ++ oneF l l[k].1 := by
  simp [canTo, List.getElem?_eq_getElem hk, h]
theorem oneF_sing {l : Flds} {n : ByteArray} (h : singB n = true) : oneF l n = (allV l n).map (fun v => (nameS n, trimS v)) := if_pos h
theorem oneF_join {l : Flds} {n : ByteArray} (h : singB n = false) : oneF l n = [(nameS n, trimS (joinB (allV l n)))] := if_neg (by rw [h]; simp)
theorem allV_le (l : Flds) (n : ByteArray) : (allV l n).length ≤ l.length := by
  have := allV_len l n l.length
  rwa [List.take_length] at this
theorem oneF_len (l : Flds) (n : ByteArray) (h : 0 < l.length) : (oneF l n).length ≤ l.length := by
  unfold oneF
  split
  · rw [List.length_map]; exact allV_le l n
  · show 1 ≤ l.length; omega
theorem canTo_len (l : Flds) : ∀ k, (canTo l k).length ≤ k * l.length
  | 0 => by simp [canTo]
  | k + 1 => by
    have ih := canTo_len l k
    have e : (k + 1) * l.length = k * l.length + l.length := by rw [Nat.add_mul, Nat.one_mul]
    by_cases hk : k < l.length
    · cases h : hitB l[k].1 (l.take k)
      · rw [canTo_new hk h, List.length_append]
        have := oneF_len l l[k].1 (by omega)
        omega
      · rw [canTo_hit hk h]; omega
    · have : canTo l (k + 1) = canTo l k := by
        simp [canTo, List.getElem?_eq_none (show l.length ≤ k by omega)]
      rw [this]; omega
theorem nameS_size (s : ByteArray) : (nameS s).size = s.size := by
  have := congrArg ByteArray.size (nameS_low s)
  rwa [lowS_size, lowS_size] at this
theorem mem_sum : ∀ (ss : List ByteArray) {v : ByteArray}, v ∈ ss → v.size ≤ (ss.map (·.size)).sum
  | [], v, h => by simp at h
  | s :: ss, v, h => by
    rw [List.map_cons, List.sum_cons]
    rcases List.mem_cons.1 h with rfl | h
    · omega
    · have := mem_sum ss h; omega
/-- Each of them has a name of l's, and a value that is no longer than a name's values together. -/
theorem oneF_mem {l : Flds} {n : ByteArray} {p : ByteArray × ByteArray} (h : p ∈ oneF l n) : p.1 = nameS n ∧ p.2.size ≤ sumS (allV l n) + 2 * (allV l n).length := by
  unfold oneF at h
  split at h
  · obtain ⟨v, hv, rfl⟩ := List.mem_map.1 h
    refine ⟨rfl, ?_⟩
    have h1 := trimS_size v
    have h2 : v.size ≤ sumS (allV l n) := by
      unfold sumS
      exact mem_sum (allV l n) hv
    show (trimS v).size ≤ _
    omega
  · rw [List.mem_singleton] at h
    subst h
    refine ⟨rfl, ?_⟩
    have h1 := trimS_size (joinB (allV l n))
    have h2 := joinB_size (allV l n)
    show (trimS (joinB (allV l n))).size ≤ _
    omega
theorem canTo_mem {l : Flds} {p : ByteArray × ByteArray} : ∀ {k : Nat}, p ∈ canTo l k → ∃ i, ∃ hi : i < l.length, i < k ∧ hitB l[i].1 (l.take i) = false ∧ p ∈ oneF l l[i].1
  | 0, h => by simp [canTo] at h
  | k + 1, h => by
    by_cases hk : k < l.length
    · cases hh : hitB l[k].1 (l.take k)
      · rw [canTo_new hk hh] at h
        rcases List.mem_append.1 h with h | h
        · obtain ⟨i, hi, h1, h2, h3⟩ := canTo_mem h
          exact ⟨i, hi, by omega, h2, h3⟩
        · exact ⟨k, hk, by omega, hh, h⟩
      · rw [canTo_hit hk hh] at h
        obtain ⟨i, hi, h1, h2, h3⟩ := canTo_mem h
        exact ⟨i, hi, by omega, h2, h3⟩
    · have : canTo l (k + 1) = canTo l k := by
        simp [canTo, List.getElem?_eq_none (show l.length ≤ k by omega)]
      rw [this] at h
      obtain ⟨i, hi, h1, h2, h3⟩ := canTo_mem h
      exact ⟨i, hi, by omega, h2, h3⟩
/-- The values of one name are together so long at most. -/
def SumLe (l : Flds) (m : Nat) : Prop := ∀ n, sumS (allV l n) + 2 * (allV l n).length ≤ m
theorem SumLe.of {l : Flds} {a b m : Nat} (hl : l.length ≤ a) (hs : ∀ p ∈ l, p.2.size ≤ b) (hm : a * (b + 2) ≤ m) : SumLe l m := by
  intro n
  have h1 := sumS_le (allV l n) b (fun s hs' => by obtain ⟨p, hp, rfl⟩ := allV_mem hs'; exact hs p hp)
  have h2 := allV_le l n
  have h3 : (allV l n).length * b ≤ a * b := Nat.mul_le_mul_right b (by omega)
  have h4 : a * (b + 2) = a * b + 2 * a := by rw [Nat.mul_add]; omega
  omega
theorem canTo_str {l : Flds} {k a m : Nat} (hn : ∀ p ∈ l, p.1.size ≤ a) (hs : SumLe l m) : ∀ p ∈ canTo l k, p.1.size ≤ a ∧ p.2.size ≤ m := by
  intro p hp
  obtain ⟨i, hi, _, _, h⟩ := canTo_mem hp
  obtain ⟨h1, h2⟩ := oneF_mem h
  have := hs l[i].1
  exact ⟨by rw [h1, nameS_size]; exact hn _ (List.getElem_mem hi), by omega⟩
/-- A name has come before, told by small letters. -/
theorem hit_low (n : ByteArray) (l : Flds) : hitB n l = decide (0 < (allV l n).length) := by
  unfold hitB allV
  induction l with
  | nil => rfl
  | cons f r ih =>
    rw [List.any_cons, ih]
    cases h : foldS n f.1 <;> simp [h]
/-- How often a name has come, told by small letters. -/
def lowCnt (l : Flds) (key : List UInt8) : Nat := (l.filter fun p => decide ((lowS p.1).data.toList = key)).length
theorem lowCnt_take (l : Flds) (key : List UInt8) (k : Nat) (hk : k < l.length) : lowCnt (l.take (k + 1)) key = lowCnt (l.take k) key + (if (lowS l[k].1).data.toList = key then 1 else 0) := by
  unfold lowCnt
  rw [List.take_succ_eq_append_getElem hk, List.filter_append, List.length_append]
  congr 1
  obtain ⟨f, hf⟩ : ∃ f, f = l[k] := ⟨_, rfl⟩
  rw [← hf]
  by_cases h : (lowS f.1).data.toList = key
  · rw [if_pos h]
    have : [f].filter (fun p => decide ((lowS p.1).data.toList = key)) = [f] := List.filter_cons_of_pos (by simp [h])
    rw [this]; rfl
  · rw [if_neg h]
    have : [f].filter (fun p => decide ((lowS p.1).data.toList = key)) = [] := List.filter_cons_of_neg (by simpa using h)
    rw [this]; rfl
theorem lowCnt_le (l : Flds) (key : List UInt8) (k : Nat) : lowCnt (l.take k) key ≤ k := by
  unfold lowCnt
  have := List.length_filter_le (fun p : ByteArray × ByteArray => decide ((lowS p.1).data.toList = key)) (l.take k)
  have h2 := List.length_take_le k l
  omega
theorem lowCnt_is (l : Flds) (n : ByteArray) : lowCnt l (lowS n).data.toList = (allV l n).length := by
  unfold lowCnt allV
  rw [List.length_map]
  congr 1
  apply List.filter_congr
  intro p _
  unfold foldS
  apply decide_eq_decide.2
  exact ⟨fun h => (bytes_eq_of_list h).symm, fun h => by rw [h]⟩
theorem lowCnt_hit (l : Flds) (n : ByteArray) : hitB n l = decide (0 < lowCnt l (lowS n).data.toList) := by
  rw [lowCnt_is, hit_low]
end Go.Proofs.Ytdpohibgipkhnaa
namespace Go.Proofs.Ytdpohibgipkhnaa
open Go.RowKit Go.Sort Go.Proofs.Ytdpohibgipkhnaa.Oct
attribute [local go_sem ↓] Go.wp_at_zero Go.wp_at_succ

/-- All stands as it stood but block b and row r. -/
structure Kept (w w' : World) (b : Nat) (r : Option Nat) : Prop where
  os : w'.os = w.os
  tape : w'.tape = w.tape
  output : w'.output = w.output
  size : w.heap.size ≤ w'.heap.size
  block : ∀ k, k < w.heap.size → k ≠ b → some k ≠ r → w'.heap[k]? = w.heap[k]?
/-- The row lies where it lay, or from block N on. -/
def Loc (v v' : Value) (N : Nat) : Prop := v'.ownBlock = v.ownBlock ∨ ∃ k, v'.ownBlock = some k ∧ N ≤ k
theorem Loc.refl (v : Value) (N : Nat) : Loc v v N := .inl rfl
theorem Loc.trans {v v1 v2 : Value} {N M : Nat} (h : Loc v v1 N) (k : Loc v1 v2 M) (hm : N ≤ M) : Loc v v2 N := by
  rcases k with k | ⟨g, k, hg⟩
  · rcases h with h | ⟨g, h, hg⟩
    · exact .inl (k.trans h)
    · exact .inr ⟨g, k.trans h, hg⟩
  · exact .inr ⟨g, k, by omega⟩
theorem Loc.ne {v v' : Value} {N k : Nat} (h : Loc v v' N) (hk : k < N) (hne : some k ≠ v.ownBlock) : some k ≠ v'.ownBlock := by
  rcases h with h | ⟨g, h, hg⟩
  · rw [h]; exact hne
  · rw [h]; intro e; injection e with e; omega
theorem Kept.refl (w : World) (b : Nat) (r : Option Nat) : Kept w w b r := ⟨rfl, rfl, rfl, Nat.le_refl _, fun _ _ _ _ => rfl⟩
theorem Kept.of_below {w w' : World} (h : Below w.heap.size w w') (b : Nat) (r : Option Nat) : Kept w w' b r := ⟨h.os, h.tape, h.output, h.size, fun k hk _ _ => h.block k hk⟩
theorem Kept.trans {w w1 w2 : World} {b : Nat} {v v1 : Value} (h : Kept w w1 b v.ownBlock) (k : Kept w1 w2 b v1.ownBlock) (hl : Loc v v1 w.heap.size) : Kept w w2 b v.ownBlock :=
  ⟨k.os.trans h.os, k.tape.trans h.tape, k.output.trans h.output, Nat.le_trans h.size k.size, fun j hj hb hr =>
    (k.block j (Nat.lt_of_lt_of_le hj h.size) hb (hl.ne hj hr)).trans (h.block j hj hb hr)⟩
theorem Kept.below {w w' : World} {b B : Nat} {r : Option Nat} (h : Kept w w' b r) (hB : B ≤ w.heap.size) (hb : B ≤ b) (hr : ∀ k, r = some k → B ≤ k) : Below B w w' :=
  ⟨h.os, h.tape, h.output, h.size, fun k hk => h.block k (by omega) (by omega) (fun e => by have := hr k e.symm; omega)⟩

/-- The variable in block b holds v, a row of the call's own (from base on) that reads as l. -/
def OutAt (w : World) (base b : Nat) (v : Value) (l : Flds) : Prop := Blk w b 22 #[v] ∧ w.ownsRow base 31 2 v l.length (fldVals l)
theorem OutAt.ne {w : World} {base b : Nat} {v : Value} {l : Flds} (h : OutAt w base b v l) (hb : b < base) : some b ≠ v.ownBlock := by
  intro e
  rcases h.2.2 with ⟨rfl, _⟩ | ⟨g, cap, cur, rfl, hg, _⟩
  · cases e
  · injection e with e
    simp at e
    omega
theorem OutAt.row {w : World} {base b : Nat} {v : Value} {l : Flds} (h : OutAt w base b v l) : ∀ k, v.ownBlock = some k → base ≤ k ∧ k < w.heap.size := fun k hk => h.2.lt k hk
theorem OutAt.below {w w' : World} {base b : Nat} {v : Value} {l : Flds} (h : OutAt w base b v l) (hb : Below w.heap.size w w') : OutAt w' base b v l := ⟨h.1.below hb h.1.lt, own_below h.2 hb⟩
theorem reads_new (w : World) (cs : List Value) (T : TypeId) (size : Nat) (hl : cs.length = size) : Reads (w.alloc (.cells cs.toArray T)) (w.heap.size + 1) size (some ⟨w.heap.size, 0, none⟩) 1 cs := by
  refine ⟨by rw [hl, Nat.one_mul], fun _ => ⟨_, rfl, Nat.lt_succ_self _, fun j u hj => ?_⟩⟩
  rw [add_head, World.cell?_alloc_new]
  simpa using hj

def PutPost (w : World) (base b : Nat) (v : Value) (l' : Flds) (e : Ending) (w' : World) : Prop :=
  e = .returned (.tuple #[]) ∧ ∃ v', OutAt w' base b v' l' ∧ Loc v v' w.heap.size ∧ Kept w w' b v.ownBlock
theorem put_end {w w1 w9 : World} {base b : Nat} {v v' : Value} {l : Flds} {p : ByteArray × ByteArray} {o : Obj} (h : OutAt w base b v l) (hb : b < base) (B1 : Below w.heap.size w w1) (hgrow : (w1.alloc o).grownBy w9 v.ownBlock)
    {m : Nat} (hm : m = (l ++ [p]).length) (hown : w9.ownsRow base 31 2 v' m (fldVals (l ++ [p]))) (hat : v'.ownBlock = v.ownBlock ∨ v'.ownBlock = some (w1.alloc o).heap.size) :
    OutAt (w9.setCell ⟨b, 0, none⟩ v') base b v' (l ++ [p]) ∧ Loc v v' w.heap.size ∧ Kept w (w9.setCell ⟨b, 0, none⟩ v') b v.ownBlock := by
  subst hm
  have hz1 := B1.size
  have hlt := h.1.lt
  have hblk : Blk w9 b 22 #[v] := (hgrow.block b (by simp; omega) (h.ne hb)).trans ((Below.heap_alloc _ _ _ (by omega)).trans ((B1.block b hlt).trans h.1))
  have hne' : some b ≠ v'.ownBlock := by
    rcases hat with e | e
    · rw [e]; exact h.ne hb
    · rw [e]; intro e2; injection e2 with e2; simp at e2; omega
  refine ⟨⟨?_, ?_⟩, ?_, ?_⟩
  · have := hblk.set_ 0 v'
    exact this
  · have hk := hown.kept (grown_set (o := 0) (World.grownBy.refl w9 (some b)) v') (.inr (Ne.symm hne'))
    exact hk
  · rcases hat with e | e
    · exact .inl e
    · exact .inr ⟨_, e, by simp; omega⟩
  · refine ⟨hgrow.os.trans B1.os, hgrow.tape.trans B1.tape, hgrow.output.trans B1.output, ?_, fun k hk hkb hkr => ?_⟩
    · have := hgrow.size
      simp at this ⊢
      omega
    · exact (Below.heap_setCell _ _ _ _ hkb).trans ((hgrow.block k (by simp; omega) hkr).trans ((Below.heap_alloc _ _ _ (by omega)).trans (B1.block k hk)))

set_option maxRecDepth 100000 in
set_option maxHeartbeats 6400000 in
theorem put_any (w : World) (base b : Nat) (v : Value) (l : Flds) (name value : ByteArray) (h : OutAt w base b v l) (hb : b < base) (hbase : base ≤ w.heap.size) (hn : name.size ≤ 140737488355328) (hv : value.size ≤ 9223372036854775807) (hl : l.length < 100000) :
    Calls Try.prog 86 #[.string name, .string value, .pointer (some ⟨b, 0, none⟩)] w (PutPost w base b v (l ++ [(nameS name, trimS value)])) := by
  obtain ⟨i0, hi, hz⟩ := info_hid info_field
  have hcell := h.1.cell 0
  have hfree := h.1.frozen 0
  have hlt := h.1.lt
  have HH := Lib.hid h
  have HE := Lib.hid (fldVals_snoc l (nameS name) (trimS value))
  have HLN : Hid ((l ++ [(nameS name, trimS value)]).length = l.length + 1) := by show _ = _; simp
  clear h
  go_enter Try.func86, Try.ntmps86
  go_wp2_with fail
  go_region_law (first
    | (refine step_append_any _ (by rfl) (.tmp 5) (.tmp 11) _ (by rfl) base 31 i0 _ 2 32 Try.underlying22 hi.out hz.out.1 hz.out.2.1 hz.out.2.2 rfl (by omega) v l.length (fldVals l) (by rfl) ((own_below HH.out.2 B1.out).alloc _) _ _ 1 1 [.string (nameS name), .string (trimS value)] (by rfl) (reads_new _ _ _ 2 rfl) (one_fld _ _) (by unfold maxLen; omega) (by omega) (Nat.le_trans hbase (Nat.le_trans B1.out.size (by simp))) ?_; intro v9 w9 hown9 hg9 hat9; obtain ⟨g9, cap9, rfl, _, _⟩ := hown9.form (Nat.succ_pos _); have HO9 := Lib.hid hown9; have HG9 := Lib.hid hg9; have HA9 := Lib.hid hat9; have hb9 : Blk w9 b 22 #[v] := ((hg9.block b (by have := B1.out.size; simp; omega) (HH.out.ne hb)).trans ((Below.heap_alloc _ _ _ (by have := B1.out.size; omega)).trans ((B1.out.block b hlt).trans HH.out.1))); have hc9 := hb9.cell 0; have hf9 := hb9.frozen 0; clear hown9 hg9 hat9 hb9)
    | (go_simp; go_at_call 40; refine (name_any _ _ hn).mono ?_; rintro e w1 ⟨rfl, hb1⟩; have B1 : Hid (Below w.heap.size w w1) := (⟨hb1.os, hb1.tape, hb1.output, hb1.size, hb1.block⟩ : Below w.heap.size w w1); have hc1 := (B1.out.cell (p := ⟨b, 0, none⟩) hlt).trans hcell; have hf1 := (B1.out.frozen (p := ⟨b, 0, none⟩) hlt).trans hfree; have hca : ∀ o, (w1.alloc o).cell? ⟨b, 0, none⟩ = some v := (fun o => (World.cell?_alloc_lt w1 o ⟨b, 0, none⟩ (Nat.lt_of_lt_of_le hlt B1.out.size)).trans hc1); clear hb1)
    | (go_simp; go_at_call 87; refine (trim_any _ _ hv).mono ?_; rintro e w2 ⟨rfl, rfl⟩))
  all_goals
    have hown10 := HO9.out
    rw [← HE.out] at hown10
    have HFN := Lib.hid (put_end HH.out hb B1.out HG9.out HLN.out.symm hown10 HA9.out)
    clear hown10
    go_end0
    exact ⟨rfl, _, HFN.out⟩
end Go.Proofs.Ytdpohibgipkhnaa
namespace Go.Proofs.Ytdpohibgipkhnaa
namespace St

/-- A strict weak order. -/
structure SWO {α : Type} (lt : α → α → Bool) : Prop where
  asym : ∀ x y, lt x y = true → lt y x = false
  ntr : ∀ x y z, lt x z = true → lt x y = true ∨ lt y z = true

section
variable {α : Type} {lt : α → α → Bool}
theorem SWO.irr (h : SWO lt) (x : α) : lt x x = false := by
  cases e : lt x x
  · rfl
  · have := h.asym x x e; rw [e] at this; exact this
theorem SWO.le_trans (h : SWO lt) {x y z : α} (h1 : lt y x = false) (h2 : lt z y = false) : lt z x = false := by
  cases e : lt z x
  · rfl
  · rcases h.ntr z y x e with k | k
    · rw [h2] at k; cases k
    · rw [h1] at k; cases k
theorem SWO.lt_le (h : SWO lt) {x y z : α} (h1 : lt x y = true) (h2 : lt z y = false) : lt x z = true := by
  rcases h.ntr x z y h1 with k | k
  · exact k
  · rw [h2] at k; cases k
theorem SWO.le_lt (h : SWO lt) {x y z : α} (h1 : lt y x = false) (h2 : lt y z = true) : lt x z = true := by
  rcases h.ntr y x z h2 with k | k
  · rw [h1] at k; cases k
  · exact k

/-- Neither is less. -/
def eqv (lt : α → α → Bool) (z y : α) : Bool := !lt y z && !lt z y
/-- The same elements, equals in one order. -/
def Alk (lt : α → α → Bool) (l r : List α) : Prop := l.length = r.length ∧ ∀ z, l.filter (eqv lt z) = r.filter (eqv lt z)
def Srt (lt : α → α → Bool) (l : List α) : Prop := l.Pairwise fun x y => lt y x = false

theorem Alk.refl (l : List α) : Alk lt l l := ⟨rfl, fun _ => rfl⟩
theorem Alk.symm {l r : List α} (h : Alk lt l r) : Alk lt r l := ⟨h.1.symm, fun z => (h.2 z).symm⟩
theorem Alk.trans {l m r : List α} (h : Alk lt l m) (k : Alk lt m r) : Alk lt l r := ⟨h.1.trans k.1, fun z => (h.2 z).trans (k.2 z)⟩
theorem Alk.app {l r m n : List α} (h : Alk lt l r) (k : Alk lt m n) : Alk lt (l ++ m) (r ++ n) :=
  ⟨by rw [List.length_append, List.length_append, h.1, k.1], fun z => by rw [List.filter_append, List.filter_append, h.2 z, k.2 z]⟩
theorem eqv_self (h : SWO lt) (x : α) : eqv lt x x = true := by simp [eqv, h.irr x]
theorem Alk.mem (h : SWO lt) {l r : List α} (k : Alk lt l r) {x : α} (hx : x ∈ l) : x ∈ r := by
  have h1 : x ∈ l.filter (eqv lt x) := List.mem_filter.2 ⟨hx, eqv_self h x⟩
  rw [k.2 x] at h1
  exact (List.mem_filter.1 h1).1
theorem eqv_of {z y : α} (h : eqv lt z y = true) : lt y z = false ∧ lt z y = false := by
  unfold eqv at h
  cases h1 : lt y z <;> cases h2 : lt z y <;> simp_all
/-- Two parts change places, where all of the second are less. -/
theorem Alk.swap (h : SWO lt) {a b : List α} (hl : ∀ x ∈ a, ∀ y ∈ b, lt y x = true) : Alk lt (a ++ b) (b ++ a) := by
  refine ⟨by rw [List.length_append, List.length_append, Nat.add_comm], fun z => ?_⟩
  rw [List.filter_append, List.filter_append]
  cases ha : a.filter (eqv lt z) with
  | nil => simp
  | cons x xs =>
    cases hb : b.filter (eqv lt z) with
    | nil => simp
    | cons y ys =>
      exfalso
      have hx := List.mem_filter.1 (show x ∈ a.filter (eqv lt z) by rw [ha]; exact List.mem_cons_self)
      have hy := List.mem_filter.1 (show y ∈ b.filter (eqv lt z) by rw [hb]; exact List.mem_cons_self)
      have hx2 := eqv_of hx.2
      have hy2 := eqv_of hy.2
      rcases h.ntr y z x (hl x hx.1 y hy.1) with k | k
      · rw [hy2.1] at k; cases k
      · rw [hx2.2] at k; cases k
/-- Sorted, and the same elements with equals in one order: the same list. -/
theorem Srt.unique (h : SWO lt) : ∀ {l r : List α}, Srt lt l → Srt lt r → Alk lt l r → l = r
  | [], r, _, _, k => by
    have := k.1
    exact (List.eq_nil_of_length_eq_zero (by simpa using this.symm)).symm
  | x :: l, [], _, _, k => by
    have := k.1
    simp at this
  | x :: l, y :: r, hl, hr, k => by
    have hxy : x = y := by
      cases e : eqv lt x y
      · exfalso
        have hx : x ∈ y :: r := k.mem h List.mem_cons_self
        have hy : y ∈ x :: l := k.symm.mem h List.mem_cons_self
        have hne : x ≠ y := by
          intro e2; subst e2; rw [eqv_self h] at e; cases e
        have hx' : x ∈ r := (List.mem_cons.1 hx).resolve_left hne
        have hy' : y ∈ l := (List.mem_cons.1 hy).resolve_left (fun e2 => hne e2.symm)
        have h1 := (List.pairwise_cons.1 hr).1 x hx'
        have h2 := (List.pairwise_cons.1 hl).1 y hy'
        simp [eqv, h1, h2] at e
      · have := k.2 x
        rw [List.filter_cons_of_pos (eqv_self h x), List.filter_cons_of_pos e] at this
        exact (List.cons.inj this).1
    subst hxy
    have := Srt.unique h (List.pairwise_cons.1 hl).2 (List.pairwise_cons.1 hr).2 ⟨by have := k.1; simpa using this, fun z => by
      have := k.2 z
      cases e : eqv lt z x
      · rwa [List.filter_cons_of_neg (by simp [e]), List.filter_cons_of_neg (by simp [e])] at this
      · rw [List.filter_cons_of_pos e, List.filter_cons_of_pos e] at this
        exact (List.cons.inj this).2⟩
    rw [this]
theorem Srt.app {a b : List α} (ha : Srt lt a) (hb : Srt lt b) (h : ∀ x ∈ a, ∀ y ∈ b, lt y x = false) : Srt lt (a ++ b) := List.pairwise_append.2 ⟨ha, hb, h⟩
theorem Srt.left {a b : List α} (h : Srt lt (a ++ b)) : Srt lt a := (List.pairwise_append.1 h).1
theorem Srt.right {a b : List α} (h : Srt lt (a ++ b)) : Srt lt b := (List.pairwise_append.1 h).2.1
theorem Srt.cross {a b : List α} (h : Srt lt (a ++ b)) : ∀ x ∈ a, ∀ y ∈ b, lt y x = false := (List.pairwise_append.1 h).2.2
/-- One more comes in behind those that are no greater, ahead of those that are greater. -/
theorem Srt.insert {a b : List α} {x : α} (h : Srt lt (a ++ b)) (h1 : ∀ y ∈ a, lt x y = false) (h2 : ∀ y ∈ b, lt y x = false) : Srt lt (a ++ x :: b) := by
  refine h.left.app (List.pairwise_cons.2 ⟨h2, h.right⟩) ?_
  intro y hy z hz
  rcases List.mem_cons.1 hz with rfl | hz
  · exact h1 y hy
  · exact h.cross y hy z hz
/-- x is no less than the last of what is sorted: than none. -/
theorem le_all (h : SWO lt) {a : List α} {y x : α} (hs : Srt lt (a ++ [y])) (hx : lt x y = false) : ∀ z ∈ a ++ [y], lt x z = false := by
  intro z hz
  rcases List.mem_append.1 hz with hz | hz
  · exact h.le_trans (hs.cross z hz y (List.mem_singleton.2 rfl)) hx
  · rw [List.mem_singleton.1 hz]; exact hx
/-- x goes on beyond y, which it is less than. -/
theorem Alk.step (h : SWO lt) {a b : List α} {x y : α} (hl : lt x y = true) : Alk lt (a ++ y :: x :: b) (a ++ x :: y :: b) := by
  have := (Alk.refl (lt := lt) a).app (((Alk.swap h (a := [y]) (b := [x]) (by simpa using hl))).app (Alk.refl b))
  simpa using this
/-- x moves behind those that are less. -/
theorem Alk.back (h : SWO lt) {x : α} {a b : List α} (hl : ∀ y ∈ a, lt y x = true) : Alk lt (x :: (a ++ b)) (a ++ x :: b) := by
  have := (Alk.swap h (a := [x]) (b := a) (by simpa using hl)).app (Alk.refl (lt := lt) b)
  simpa using this
/-- x moves ahead of those that are greater. -/
theorem Alk.fore (h : SWO lt) {x : α} {a b : List α} (hl : ∀ y ∈ b, lt x y = true) : Alk lt (a ++ b ++ [x]) (a ++ x :: b) := by
  have := (Alk.refl (lt := lt) a).app (Alk.swap h (a := b) (b := [x]) (by simpa using hl))
  simpa using this
/-- The merge's middle: the four parts in their new order. -/
theorem Alk.turn (h : SWO lt) {a1 a2 b1 b2 : List α} (hl : ∀ x ∈ a2, ∀ y ∈ b1, lt y x = true) : Alk lt ((a1 ++ a2) ++ (b1 ++ b2)) ((a1 ++ b1) ++ (a2 ++ b2)) := by
  have := (Alk.refl (lt := lt) a1).app ((Alk.swap h hl).app (Alk.refl (lt := lt) b2))
  simpa using this

theorem Srt.at_ (h : SWO lt) {l : List α} (hs : Srt lt l) (i j : Nat) (hij : i ≤ j) (hj : j < l.length) : lt l[j] (l[i]'(by omega)) = false := by
  rcases Nat.lt_or_ge i j with k | k
  · exact List.pairwise_iff_getElem.1 hs i j (by omega) hj k
  · have e : i = j := by omega
    subst e
    exact h.irr _
theorem Srt.take {l : List α} (hs : Srt lt l) (k : Nat) : Srt lt (l.take k) := hs.sublist (List.take_sublist _ _)
theorem Srt.drop {l : List α} (hs : Srt lt l) (k : Nat) : Srt lt (l.drop k) := hs.sublist (List.drop_sublist _ _)
theorem mem_take {l : List α} {k : Nat} {x : α} (h : x ∈ l.take k) : ∃ i, ∃ hi : i < l.length, i < k ∧ x = l[i] := by
  obtain ⟨i, hi, rfl⟩ := List.mem_iff_getElem.1 h
  rw [List.length_take] at hi
  exact ⟨i, by omega, by omega, by rw [List.getElem_take]⟩
theorem mem_drop {l : List α} {k : Nat} {x : α} (h : x ∈ l.drop k) : ∃ i, ∃ hi : i < l.length, k ≤ i ∧ x = l[i] := by
  obtain ⟨i, hi, rfl⟩ := List.mem_iff_getElem.1 h
  rw [List.length_drop] at hi
  exact ⟨k + i, by omega, by omega, by rw [List.getElem_drop]⟩

/-- c is the stable merge of a and b. -/
def Mrg (lt : α → α → Bool) (a b c : List α) : Prop := Srt lt c ∧ Alk lt (a ++ b) c
theorem Mrg.one (h : SWO lt) {b : List α} {x : α} (hb : Srt lt b) (t : Nat) (ht : t ≤ b.length) (h1 : ∀ k : t - 1 < b.length, 0 < t → lt b[t - 1] x = true) (h2 : ∀ k : t < b.length, lt b[t] x = false) : Mrg lt [x] b (b.take t ++ x :: b.drop t) := by
  have e1 : ∀ y ∈ b.take t, lt y x = true := by
    intro y hy
    obtain ⟨i, hi, hik, rfl⟩ := mem_take hy
    exact h.le_lt (hb.at_ h i (t - 1) (by omega) (by omega)) (h1 (by omega) (by omega))
  have e2 : ∀ y ∈ b.drop t, lt y x = false := by
    intro y hy
    obtain ⟨i, hi, hik, rfl⟩ := mem_drop hy
    exact h.le_trans (h2 (by omega)) (hb.at_ h t i hik hi)
  refine ⟨Srt.insert (by rw [List.take_append_drop]; exact hb) (fun y hy => h.asym _ _ (e1 y hy)) e2, ?_⟩
  have := Alk.back (a := b.take t) (b := b.drop t) h e1
  rw [List.take_append_drop] at this
  exact this
theorem Mrg.last (h : SWO lt) {a : List α} {x : α} (ha : Srt lt a) (t : Nat) (ht : t ≤ a.length) (h1 : ∀ k : t - 1 < a.length, 0 < t → lt x a[t - 1] = false) (h2 : ∀ k : t < a.length, lt x a[t] = true) : Mrg lt a [x] (a.take t ++ x :: a.drop t) := by
  have e1 : ∀ y ∈ a.take t, lt x y = false := by
    intro y hy
    obtain ⟨i, hi, hik, rfl⟩ := mem_take hy
    exact h.le_trans (ha.at_ h i (t - 1) (by omega) (by omega)) (h1 (by omega) (by omega))
  have e2 : ∀ y ∈ a.drop t, lt x y = true := by
    intro y hy
    obtain ⟨i, hi, hik, rfl⟩ := mem_drop hy
    exact h.lt_le (h2 (by omega)) (ha.at_ h t i hik hi)
  refine ⟨Srt.insert (by rw [List.take_append_drop]; exact ha) e1 (fun y hy => h.asym _ _ (e2 y hy)), ?_⟩
  have := Alk.fore (a := a.take t) (b := a.drop t) h e2
  rw [List.take_append_drop] at this
  exact this
/-- The merge's middle, found from both sides: what changes places, and what lies across. -/
theorem mid_lt (h : SWO lt) {a b : List α} (ha : Srt lt a) (hb : Srt lt b) (k s : Nat) (hk : k - s ≤ b.length) (h2 : ∀ (_ : s < a.length) (_ : k - 1 - s < b.length), s < k → lt b[k - 1 - s] a[s] = true) : ∀ x ∈ a.drop s, ∀ y ∈ b.take (k - s), lt y x = true := by
  intro x hx y hy
  obtain ⟨i, hi, hik, rfl⟩ := mem_drop hx
  obtain ⟨j, hj, hjk, rfl⟩ := mem_take hy
  have hb2 : k - 1 - s < b.length := by omega
  exact h.le_lt (hb.at_ h j (k - 1 - s) (by omega) hb2) (h.lt_le (h2 (by omega) hb2 (by omega)) (ha.at_ h s i hik hi))
theorem mid_le (h : SWO lt) {a b : List α} (ha : Srt lt a) (hb : Srt lt b) (k s : Nat) (hs : s ≤ a.length) (h1 : ∀ (_ : s - 1 < a.length) (_ : k - s < b.length), 0 < s → lt b[k - s] a[s - 1] = false) : ∀ x ∈ a.take s, ∀ y ∈ b.drop (k - s), lt y x = false := by
  intro x hx y hy
  obtain ⟨i, hi, hik, rfl⟩ := mem_take hx
  obtain ⟨j, hj, hjk, rfl⟩ := mem_drop hy
  exact h.le_trans (ha.at_ h i (s - 1) (by omega) (by omega)) (h.le_trans (h1 (by omega) (by omega) (by omega)) (hb.at_ h (k - s) j hjk hj))
theorem Mrg.both (h : SWO lt) {a b c d : List α} (ha : Srt lt a) (hb : Srt lt b) (k s : Nat) (hs : s ≤ a.length) (hk : k - s ≤ b.length)
    (h1 : ∀ (_ : s - 1 < a.length) (_ : k - s < b.length), 0 < s → lt b[k - s] a[s - 1] = false) (h2 : ∀ (_ : s < a.length) (_ : k - 1 - s < b.length), s < k → lt b[k - 1 - s] a[s] = true)
    (hc : Mrg lt (a.take s) (b.take (k - s)) c) (hd : Mrg lt (a.drop s) (b.drop (k - s)) d) : Mrg lt a b (c ++ d) := by
  have e1 := mid_lt h ha hb k s hk h2
  have e2 := mid_le h ha hb k s hs h1
  have sa : Srt lt (a.take s ++ a.drop s) := by rw [List.take_append_drop]; exact ha
  have sb : Srt lt (b.take (k - s) ++ b.drop (k - s)) := by rw [List.take_append_drop]; exact hb
  refine ⟨hc.1.app hd.1 fun x hx y hy => ?_, ?_⟩
  · have hx' := hc.2.symm.mem h hx
    have hy' := hd.2.symm.mem h hy
    rcases List.mem_append.1 hx' with hx' | hx' <;> rcases List.mem_append.1 hy' with hy' | hy'
    · exact sa.cross x hx' y hy'
    · exact e2 x hx' y hy'
    · exact h.asym _ _ (e1 y hy' x hx')
    · exact sb.cross x hx' y hy'
  · have := (Alk.turn (a1 := a.take s) (b2 := b.drop (k - s)) h e1).trans (hc.2.app hd.2)
    rwa [List.take_append_drop, List.take_append_drop] at this
theorem Mrg.nil_left {b : List α} (hb : Srt lt b) : Mrg lt [] b b := ⟨hb, Alk.refl _⟩
theorem Mrg.nil_right {a : List α} (ha : Srt lt a) : Mrg lt a [] a := ⟨ha, by rw [List.append_nil]; exact Alk.refl _⟩
theorem Mrg.length {a b c : List α} (h : Mrg lt a b c) : c.length = a.length + b.length := by rw [← h.2.1, List.length_append]
/-- c is a stably sorted. -/
def Sts (lt : α → α → Bool) (a c : List α) : Prop := Srt lt c ∧ Alk lt a c

/-! ### blocks -/
/-- The i-th block of m. -/
def blk (m i : Nat) (l : List α) : List α := (l.drop (i * m)).take m
theorem part_left (a b c : List α) (s m : Nat) (h : s + m ≤ a.length) : ((a ++ b).drop s).take m = ((a ++ c).drop s).take m := by
  rw [List.drop_append_of_le_length (by omega), List.drop_append_of_le_length (by omega), List.take_append_of_le_length (by rw [List.length_drop]; omega), List.take_append_of_le_length (by rw [List.length_drop]; omega)]
theorem part_right (a b c : List α) (s m : Nat) (h : a.length = b.length) (h2 : a.length ≤ s) : ((a ++ c).drop s).take m = ((b ++ c).drop s).take m := by
  rw [List.drop_append, List.drop_append, List.drop_eq_nil_of_le h2, List.drop_eq_nil_of_le (show b.length ≤ s by omega), h]
theorem part_mid (a b c : List α) : ((a ++ (b ++ c)).drop a.length).take b.length = b := by
  rw [List.drop_left, List.take_left]
end
end St
end Go.Proofs.Ytdpohibgipkhnaa
