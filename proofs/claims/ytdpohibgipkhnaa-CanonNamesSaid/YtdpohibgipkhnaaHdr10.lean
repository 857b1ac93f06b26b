
/-
  THE WALK of the document's Set, and what it gives.
-/
import Derived.Test.YtdpohibgipkhnaaHdr9
namespace Go.Proofs.Ytdpohibgipkhnaa
open Go.RowKit Go.Sort Go.Proofs.Ytdpohibgipkhnaa.Oct

/-- The fields with a name's first value set, its others left out; 'had': one has been set ahead. -/
def setR (name value : ByteArray) : Bool → Flds → Flds
  | _, [] => []
  | had, f :: r => if foldS name f.1 = true then (if had = true then setR name value true r else (f.1, value) :: setR name value true r) else f :: setR name value had r
def hitB (name : ByteArray) (l : Flds) : Bool := l.any fun f => foldS name f.1
def setF (l : Flds) (name value : ByteArray) : Flds := if hitB name l = true then setR name value false l else l ++ [(name, value)]

theorem setR_snoc (name value : ByteArray) (f : ByteArray × ByteArray) : ∀ (xs : Flds) (b : Bool), setR name value b (xs ++ [f]) = setR name value b xs ++ (if foldS name f.1 = true then (if (b || hitB name xs) = true then [] else [(f.1, value)]) else [f])
  | [], b => by
    cases b <;> cases h : foldS name f.1 <;> simp [setR, hitB, h]
  | g :: r, b => by
    have h1 := setR_snoc name value f r true
    have h2 := setR_snoc name value f r b
    cases hg : foldS name g.1
    · simp only [List.cons_append, setR, hg, Bool.false_eq_true, if_false, h2]
      have : hitB name (g :: r) = hitB name r := by simp [hitB, hg]
      rw [this]
    · have : hitB name (g :: r) = true := by simp [hitB, hg]
      rw [this]
      cases b <;> simp [setR, hg, h1]
theorem setR_true (name value : ByteArray) : ∀ l : Flds, setR name value true l = l.filter fun f => !foldS name f.1
  | [] => rfl
  | g :: r => by
    cases hg : foldS name g.1 <;> simp [setR, hg, setR_true name value r]
theorem setR_len (name value : ByteArray) : ∀ (l : Flds) (b : Bool), (setR name value b l).length ≤ l.length
  | [], _ => Nat.le_refl _
  | g :: r, b => by
    have h1 := setR_len name value r true
    have h2 := setR_len name value r b
    cases hg : foldS name g.1 <;> cases b <;> simp [setR, hg] <;> omega
theorem setR_mem (name value : ByteArray) : ∀ (l : Flds) (b : Bool), ∀ f ∈ setR name value b l, ∃ g ∈ l, f.1 = g.1 ∧ (f.2 = g.2 ∨ f.2 = value)
  | [], _, f, h => by simp [setR] at h
  | g :: r, b, f, h => by
    have h1 : f ∈ setR name value true r → ∃ g' ∈ g :: r, f.1 = g'.1 ∧ (f.2 = g'.2 ∨ f.2 = value) := fun hf => by
      obtain ⟨g', hg', e⟩ := setR_mem name value r true f hf
      exact ⟨g', List.mem_cons_of_mem _ hg', e⟩
    have h2 : f ∈ setR name value b r → ∃ g' ∈ g :: r, f.1 = g'.1 ∧ (f.2 = g'.2 ∨ f.2 = value) := fun hf => by
      obtain ⟨g', hg', e⟩ := setR_mem name value r b f hf
      exact ⟨g', List.mem_cons_of_mem _ hg', e⟩
    cases hg : foldS name g.1
    · simp [setR, hg] at h
      rcases h with rfl | h
      · exact ⟨f, List.mem_cons_self, rfl, .inl rfl⟩
      · exact h2 h
    · cases b
      · simp [setR, hg] at h
        rcases h with rfl | h
        · exact ⟨g, List.mem_cons_self, rfl, .inr rfl⟩
        · exact h1 h
      · simp [setR, hg] at h
        exact h1 h
theorem setR_none (name value : ByteArray) : ∀ (l : Flds) (b : Bool), hitB name l = false → setR name value b l = l
  | [], _, _ => rfl
  | g :: r, b, h => by
    simp [hitB] at h
    have h2 : hitB name r = false := by simp [hitB]; exact fun a x hx => h.2 a x hx
    simp [setR, h.1, setR_none name value r b h2]
theorem setR_first (name value : ByteArray) : ∀ (l : Flds) (i : Nat) (hi : i < l.length), foldS name l[i].1 = true → (∀ j (hj : j < i), foldS name (l[j]'(by omega)).1 = false) → setR name value false l = l.take i ++ [(l[i].1, value)] ++ (l.drop (i + 1)).filter fun f => !foldS name f.1
  | [], i, hi, _, _ => absurd hi (Nat.not_lt_zero _)
  | g :: r, 0, hi, h, _ => by
    have h' : foldS name g.1 = true := h
    simp [setR, h', setR_true]
  | g :: r, i + 1, hi, h, hb => by
    have h0 : foldS name g.1 = false := hb 0 (by omega)
    have := setR_first name value r i (by simpa using hi) h (fun j hj => hb (j + 1) (by omega))
    simp [setR, h0, this]
theorem hitB_take (name : ByteArray) (l : Flds) (k : Nat) (hk : k < l.length) : hitB name (l.take (k + 1)) = (hitB name (l.take k) || foldS name l[k].1) := by
  unfold hitB
  rw [List.take_succ_eq_append_getElem hk, List.any_append]
  simp
theorem setR_take (name value : ByteArray) (l : Flds) (k : Nat) (hk : k < l.length) : setR name value false (l.take (k + 1)) = setR name value false (l.take k) ++ (if foldS name l[k].1 = true then (if hitB name (l.take k) = true then [] else [(l[k].1, value)]) else [l[k]]) := by
  rw [List.take_succ_eq_append_getElem hk, setR_snoc, Bool.false_or]

set_option maxRecDepth 100000 in
set_option maxHeartbeats 3200000 in
theorem rset_any (w : World) (x : Option Addr) (n c : Nat) (l : Flds) (name value : ByteArray) (h : FldsAt w x n l) (hfew : n ≤ 65536) (hn : name.size ≤ 140737488355328) (hsm : ∀ p ∈ l, p.1.size ≤ 140737488355328) :
    Calls Try.prog 38 #[.slice x n c, .string name, .string value] w (FldsPost w (setF l name value)) := by
  obtain ⟨i0, hi, hz⟩ := info_hid info_field
  have hl := h.len
  subst hl
  have HA := Lib.hid h
  have HSm := Lib.hid hsm
  clear h hsm
  go_enter Try.func38, Try.ntmps38
  go_wp2
  go_loopg [7, 8, 9] l.length (fun gg s7 s8 s9 wr => ∃ (k g' c' : Nat), k ≤ l.length ∧ l.length - k ≤ gg ∧ s9 = .int .i64 k ∧ s8 = .bool (hitB name (l.take k)) ∧ s7 = .slice (some ⟨g', 0, none⟩) (setR name value false (l.take k)).length c' ∧ Hid (wr.ownsRow w.heap.size 31 2 (.slice (some ⟨g', 0, none⟩) (setR name value false (l.take k)).length c') (setR name value false (l.take k)).length (fldVals (setR name value false (l.take k)))) ∧ Hid (Below w.heap.size w wr))
  case atStart => exact ⟨0, _, _, Nat.zero_le _, by omega, rfl, rfl, rfl, World.ownsRow_lit w #[] 0 (Nat.le_refl _) (by decide) rfl, below_new _ _⟩
  case round =>
    obtain ⟨k, g', c', hk, hg, rfl, rfl, rfl, hown, hb⟩ := hrel
    by_cases hkl : k < l.length
    · obtain ⟨b, o, f, rfl, hl2, hf, hc1, hc2, hs1, hs2⟩ := (HA.out.below hb.out).get k hkl
      have htk := setR_take name value l k hkl
      have hht := hitB_take name l k hkl
      have hle : (setR name value false (l.take k)).length ≤ k := Nat.le_trans (setR_len _ _ _ _) (List.length_take_le k l)
      have hsf : f.1.size ≤ 140737488355328 := by rw [hf]; exact HSm.out _ (List.getElem_mem hl2)
      have hbl : b < wr.heap.size := by
        rcases (HA.out.below hb.out).at_ with h0 | ⟨b', o', he, hlt, _⟩
        · omega
        · cases he; exact hlt
      rw [← hf] at htk hht
      obtain ⟨f1, f2⟩ := f
      simp only at hc1 hc2 hs1 hs2 htk hsf hht
      clear hf
      obtain ⟨A, hA⟩ : ∃ A, A = setR name value false (l.take k) := ⟨_, rfl⟩
      obtain ⟨H, hH⟩ : ∃ H, H = hitB name (l.take k) := ⟨_, rfl⟩
      rw [← hA] at hown htk hle ⊢
      rw [← hH] at htk hht ⊢
      have HT := Lib.hid htk
      have HH := Lib.hid hht
      clear htk hA hH hht
      have zr : w.heap.size ≤ wr.heap.size := hb.out.size
      have H5 : Hid (A.length + 1 ≤ maxLen) := by show _ ≤ _; unfold maxLen; omega
      have H6 : Hid ((A.length + 1) * 32 ≤ 140737488355328) := by show _ ≤ _; omega
      go_wp2_with fail
      refine (ris_any f1 name _ hsf hn).mono ?_
      rintro e w3 ⟨rfl, hb3⟩
      have d1 : w3.cell? ⟨b, o + k * 2, none⟩ = some (.string f1) := (hb3.cell (p := ⟨b, o + k * 2, none⟩) hbl).trans hc1
      have d2 : w3.cell? ⟨b, o + k * 2 + 1, none⟩ = some (.string f2) := (hb3.cell (p := ⟨b, o + k * 2 + 1, none⟩) hbl).trans hc2
      have HB3 := Lib.hid hb3
      have HO3 := Lib.hid (own_below hown.out HB3.out)
      have z3 : w.heap.size ≤ w3.heap.size := Nat.le_trans zr HB3.out.size
      clear hb3
      cases hps : foldS name f1
      · have HPS := Lib.hid hps
        clear hps
        go_wp2_with (at_builtin; refine wpList_append_at rfl (.tmp 25) (.tmp 30) 22 rfl w.heap.size 31 Try.underlying22 hi hz rfl (by decide) w3 [.string f1, .string f2] HO3.out rfl rfl rfl (one_fld _ _) H5.out H6.out z3 ?_; intro g4 c4 w4 hown4 hgrow4 hat4; have O4 := Lib.hid hown4; have G4 := Lib.hid hgrow4; clear hown4 hgrow4 hat4)
        go_roundg (l.length - (k + 1))
        case measure => omega
        case rel =>
          have e9 : setR name value false (l.take (k + 1)) = A ++ [(f1, f2)] := by rw [HT.out, HPS.out]; simp
          have e8 : hitB name (l.take (k + 1)) = H := by rw [HH.out, HPS.out, Bool.or_false]
          have e11 : (A ++ [(f1, f2)]).length = A.length + 1 := by simp
          have hbw := below_owned (grow_trans hb.out HB3.out) z3 HO3.out G4.out
          refine ⟨k + 1, g4, c4, by omega, by omega, by go_num, by rw [e8], ?_⟩
          rw [e9, fldVals_snoc, e11]
          exact ⟨rfl, O4.out, hbw⟩
      · have HPS := Lib.hid hps
        clear hps
        cases H
        · go_wp2_with (at_builtin; refine wpList_append_at rfl (.tmp 34) (.tmp 42) 22 rfl w.heap.size 31 Try.underlying22 hi hz rfl (by decide) w3 [.string f1, .string value] HO3.out rfl rfl rfl (one_fld _ _) H5.out H6.out z3 ?_; intro g4 c4 w4 hown4 hgrow4 hat4; have O4 := Lib.hid hown4; have G4 := Lib.hid hgrow4; clear hown4 hgrow4 hat4)
          go_roundg (l.length - (k + 1))
          case measure => omega
          case rel =>
            have e9 : setR name value false (l.take (k + 1)) = A ++ [(f1, value)] := by rw [HT.out, HPS.out]; simp
            have e8 : hitB name (l.take (k + 1)) = true := by rw [HH.out, HPS.out, Bool.or_true]
            have e11 : (A ++ [(f1, value)]).length = A.length + 1 := by simp
            have hbw := below_owned (grow_trans hb.out HB3.out) z3 HO3.out G4.out
            refine ⟨k + 1, g4, c4, by omega, by omega, by go_num, by rw [e8], ?_⟩
            rw [e9, fldVals_snoc, e11]
            exact ⟨rfl, O4.out, hbw⟩
        · go_wp2
          go_roundg (l.length - (k + 1))
          case measure => omega
          case rel =>
            have e9 : setR name value false (l.take (k + 1)) = A := by rw [HT.out, HPS.out]; simp
            have e8 : hitB name (l.take (k + 1)) = true := by rw [HH.out, HPS.out, Bool.or_true]
            refine ⟨k + 1, g', c', by omega, by omega, by go_num, by rw [e8], ?_⟩
            rw [e9]
            exact ⟨rfl, HO3.out, grow_trans hb.out HB3.out⟩
    · obtain rfl : k = l.length := by omega
      rw [List.take_length] at hown ⊢
      cases hh : hitB name l
      · have HF : Hid (setF l name value = l ++ [(name, value)]) := by show _ = _; unfold setF; rw [hh]; rfl
        clear hh
        go_wp2_with fail
        refine (rwith_any wr x l.length c l name value (HA.out.below hb.out) hfew).mono ?_
        rintro e w3 ⟨v3, rfl, ho3, hb3⟩
        have HO3 := Lib.hid ho3
        have HB3 := Lib.hid hb3
        clear ho3 hb3
        go_wp2
        go_ret
        refine ⟨v3, rfl, ?_, grow_trans hb.out HB3.out⟩
        rw [HF.out]
        exact own_mono HO3.out hb.out.size
      · have HF : Hid (setF l name value = setR name value false l) := by show _ = _; unfold setF; rw [hh]; rfl
        clear hh
        go_wp2
        go_ret
        refine ⟨_, rfl, ?_, hb.out⟩
        rw [HF.out]
        exact hown.out
end Go.Proofs.Ytdpohibgipkhnaa
