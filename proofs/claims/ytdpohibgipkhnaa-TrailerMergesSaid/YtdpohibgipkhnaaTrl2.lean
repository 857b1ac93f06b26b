
/-
  THE WALKS of trailer.Merge and of the document's Merge.
-/
import Derived.Test.YtdpohibgipkhnaaTrl1
namespace Go.Proofs.Ytdpohibgipkhnaa
open Go.RowKit Go.Sort Go.Proofs.Ytdpohibgipkhnaa.Oct

/-- Has no field of l this name? -/
def newB (l : Flds) (f : ByteArray × ByteArray) : Bool := ((allV l f.1).length : Int) == 0
/-- The fields with what is joined to them. -/
def mergeF (l t : Flds) : Flds := l ++ (keepF t).filter (newB l)
theorem keepF_sub {l : Flds} {p : ByteArray × ByteArray} (h : p ∈ keepF l) : p ∈ l := (List.mem_filter.1 h).1
theorem keepF_len (l : Flds) : (keepF l).length ≤ l.length := List.length_filter_le _ _

theorem FldsAt.block {w w' : World} {x : Option Addr} {n b : Nat} {l : Flds} (h : FldsAt w x n l) (hx : x.map (·.block) = some b) (hb : w'.heap[b]? = w.heap[b]?) : FldsAt w' x n l := by
  refine ⟨h.len, h.big, h.str, ?_⟩
  rcases h.at_ with h4 | ⟨b', o, hx', hlt, hc⟩
  · exact .inl h4
  · subst hx'
    simp at hx
    subst hx
    have hlt' : b' < w'.heap.size := by
      rw [Array.getElem?_eq_getElem hlt] at hb
      exact (Array.getElem?_eq_some_iff.1 hb).1
    exact .inr ⟨b', o, rfl, hlt', fun i hi => ⟨(World.cell?_of_block (w := w) (a := ⟨b', o + i * 2, none⟩) hb).trans (hc i hi).1, (World.cell?_of_block (w := w) (a := ⟨b', o + i * 2 + 1, none⟩) hb).trans (hc i hi).2⟩⟩

set_option maxRecDepth 100000 in
set_option maxHeartbeats 800000 in
theorem merge2_any (a b : ByteArray) (bx : Nat) (x : Option Addr) (n c : Nat) (l : Flds) (w : World) (ha : a.size ≤ 9223372036854775807) (hb : Blk w bx 22 #[.slice x n c]) (h : FldsAt w x n l) (hfew : n ≤ 65536) :
    Calls Try.prog 72 #[.agg #[.string a, .string b], .pointer (some ⟨bx, 0, none⟩)] w fun e w' => e = .returned (.bool (newB l (a, b))) ∧ Below w.heap.size w w' := by
  have c0 : ∀ o, (w.alloc o).cell? ⟨bx, 0, none⟩ = some (.slice x n c) := fun o => ((below_new w o).cell (p := ⟨bx, 0, none⟩) hb.lt).trans (hb.cell 0)
  have HA := Lib.hid h
  have HE : Hid (newB l (a, b) = (((allV l a).length : Int) == 0)) := rfl
  clear hb h
  go_enter Try.func72, Try.ntmps72
  go_wp2_with fail
  refine (hcount_any _ x n c l a ha (HA.out.below (below_new _ _)) hfew).mono ?_
  rintro e w1 ⟨rfl, hb1⟩
  have HB := Lib.hid hb1
  clear hb1
  go_wp2
  go_ret
  exact ⟨ret_bool HE.out.symm, (below_new _ _).trans (HB.out.mono (by simp))⟩

set_option maxRecDepth 100000 in
set_option maxHeartbeats 3200000 in
theorem tmerge_any (w : World) (x y : Option Addr) (n c m d : Nat) (l t : Flds) (h : FldsAt w x n l) (h2 : FldsAt w y m t) (hn : n ≤ 1000) (hm : m ≤ 1000) :
    Calls Try.prog 21 #[.slice x n c, .slice y m d] w (FldsNil w (mergeF l t)) := by
  obtain ⟨i0, hi, hz⟩ := info_hid info_field
  have hl := h.len
  have hl2 := h2.len
  have hkl := keepF_len t
  have hfl := List.length_filter_le (newB l) (keepF t)
  have HL := Lib.hid hl
  have HA := Lib.hid h
  have HB := Lib.hid h2
  have hS1 : ∀ p ∈ l, p.1.size ≤ 9223372036854775807 ∧ p.2.size ≤ 9223372036854775807 := h.str
  have hS2 : ∀ p ∈ keepF t, p.1.size ≤ 9223372036854775807 ∧ p.2.size ≤ 9223372036854775807 := fun p hp => h2.str p (keepF_sub hp)
  have hS3 : ∀ p ∈ (keepF t).filter (newB l), p.1.size ≤ 9223372036854775807 ∧ p.2.size ≤ 9223372036854775807 := fun p hp => hS2 p (List.mem_filter.1 hp).1
  have HS1 := Lib.hid hS1
  have HS2 := Lib.hid hS2
  have HS3 := Lib.hid hS3
  have n1 : l.length ≤ 1000 := by omega
  have n2 : (keepF t).length ≤ 1000 := by omega
  have n3 : ((keepF t).filter (newB l)).length ≤ 1000 := by omega
  clear h h2 hS1 hS2 hS3 hl hl2
  go_enter Try.func21, Try.ntmps21
  go_wp2_with fail
  obtain ⟨w0, hw0⟩ : ∃ w0, w0 = w.alloc (.cells #[.slice x n c] 22) := ⟨_, rfl⟩
  rw [← hw0]
  have hK0 : Blk w0 w.heap.size 22 #[.slice x n c] := by rw [hw0]; exact Blk.new _ _ _
  have hB0 : Below w.heap.size w w0 := by rw [hw0]; exact below_new _ _
  have K0 := Lib.hid hK0
  have B0 := Lib.hid hB0
  clear hw0 hK0 hB0
  refine (only_any 71 #[] (fun _ _ => by kernel_rfl) (fun _ => true) w0 x n c l (HA.out.below B0.out) (by omega) (fun W f hW hf => merge1_any f.1 f.2 W)).mono ?_
  rintro e w1 ⟨v1, rfl, ho1, hb1⟩
  rw [show l.filter (fun _ => true) = l from List.filter_eq_self.2 (fun _ _ => rfl)] at ho1
  have O1 := Lib.hid (own_mono ho1 B0.out.size)
  have B1 := Lib.hid (grow_trans B0.out hb1)
  have K1 := Lib.hid (K0.out.below hb1 K0.out.lt)
  obtain ⟨x1, c1, rfl, _, _⟩ := own_flds ho1 (by omega) HS1.out
  clear ho1 hb1
  go_wp2_with fail
  refine (tkeep_any w1 y m d t (HB.out.below B1.out) (by omega)).mono ?_
  rintro e w2 ⟨v2, rfl, ho2, hb2⟩
  have B2 := Lib.hid (grow_trans B1.out hb2)
  have K2 := Lib.hid (K1.out.below hb2 K1.out.lt)
  have O2 := Lib.hid (own_below O1.out hb2)
  obtain ⟨x2, c2, rfl, _, hF2⟩ := own_flds ho2 (by omega) HS2.out
  have F2 := Lib.hid hF2
  clear ho2 hb2 hF2
  go_wp2_with fail
  refine (only_any 72 #[.pointer (some ⟨w.heap.size, 0, none⟩)] (fun _ _ => by kernel_rfl) (newB l) w2 x2 _ c2 (keepF t) F2.out (by omega) (fun W f hW hf => merge2_any f.1 f.2 w.heap.size x n c l W (HS2.out f hf).1 (K2.out.below hW K2.out.lt) ((HA.out.below B2.out).below hW) (by omega))).mono ?_
  rintro e w3 ⟨v3, rfl, ho3, hb3⟩
  have B3 := Lib.hid (grow_trans B2.out hb3)
  have O3 := Lib.hid (own_below O2.out hb3)
  obtain ⟨x3, c3, rfl, _, hF3⟩ := own_flds ho3 (by omega) HS3.out
  have R3 := Lib.hid hF3.reads
  have H1 : Hid (l.length + ((keepF t).filter (newB l)).length ≤ maxLen) := by show _ ≤ _; unfold maxLen; omega
  have H2 : Hid ((l.length + ((keepF t).filter (newB l)).length) * 32 ≤ 140737488355328) := by show _ ≤ _; omega
  have HO := Lib.hid (fld_one ((keepF t).filter (newB l)))
  clear ho3 hb3 hF3
  go_wp2_with (at_builtin; refine wpList_append_any _ rfl (.tmp 8) (.tmp 12) _ rfl w.heap.size 31 i0 _ 2 32 Try.underlying22 hi.out hz.out.1 hz.out.2.1 hz.out.2.2 rfl (by omega) _ _ _ rfl O3.out w3.heap.size _ _ c3 _ rfl R3.out HO.out H1.out H2.out B3.out.size ?_; intro v4 w4 hown4 hg4 hat4; have O4 := Lib.hid hown4; have G4 := Lib.hid hg4; clear hown4 hg4 hat4)
  go_ret
  refine ⟨v4, rfl, ?_, below_owned B3.out B3.out.size O3.out G4.out⟩
  unfold mergeF
  rw [List.length_append, fldVals_append]
  exact O4.out

set_option maxRecDepth 100000 in
set_option maxHeartbeats 3200000 in
theorem rmerge_any (w : World) (x y : Option Addr) (n c m d : Nat) (l t : Flds) (h : FldsAt w x n l) (h2 : FldsAt w y m t) (hn : n ≤ 1000) (hm : m ≤ 1000) (hsl : ∀ p ∈ l, p.1.size ≤ 140737488355328) (hst : ∀ p ∈ t, p.1.size ≤ 140737488355328) :
    Calls Try.prog 22 #[.slice x n c, .slice y m d] w (FldsNil w (mergeF l t)) := by
  obtain ⟨i0, hi, hz⟩ := info_hid info_field
  have hl := h.len
  have hl2 := h2.len
  have hkl := keepF_len t
  subst hl
  have HA := Lib.hid h
  have HB := Lib.hid h2
  have HR := Lib.hid (h.reads.alloc (Nat.le_refl _) (.cells #[] 31))
  have HS2 : Hid (∀ p ∈ keepF t, p.1.size ≤ 9223372036854775807 ∧ p.2.size ≤ 9223372036854775807) := fun p hp => h2.str p (keepF_sub hp)
  have HSl := Lib.hid hsl
  have HSa := Lib.hid hst
  have HSt : Hid (∀ p ∈ keepF t, p.1.size ≤ 140737488355328) := fun p hp => hst p (keepF_sub hp)
  have n2 : (keepF t).length ≤ 1000 := by omega
  have H1 : Hid (0 + l.length ≤ maxLen) := by show _ ≤ _; unfold maxLen; omega
  have H2 : Hid ((0 + l.length) * 32 ≤ 140737488355328) := by show _ ≤ _; omega
  have HO := Lib.hid (fld_one l)
  have HLit := Lib.hid (World.ownsRow_lit (base := w.heap.size) (e := 31) (size := 2) w #[] 0 (Nat.le_refl _) (by decide) rfl)
  clear h h2 hsl hst
  go_enter Try.func22, Try.ntmps22
  go_wp2_with (at_builtin; refine wpList_append_any _ rfl (.tmp 8) (.tmp 9) _ rfl w.heap.size 31 i0 _ 2 32 Try.underlying22 hi.out hz.out.1 hz.out.2.1 hz.out.2.2 rfl (by omega) _ 0 [] (by rfl) HLit.out w.heap.size _ l.length c (fldVals l) rfl HR.out HO.out H1.out H2.out (by simp) ?_; intro v1 w1 hown1 hg1 hat1; (rw [Nat.zero_add, List.nil_append] at hown1); have O1 := Lib.hid hown1; have B1 : Hid (Below w.heap.size w w1) := ((below_new w _).grown hg1 (by simp) (by simp [Value.ownBlock])); have A1 := Lib.hid hat1; clear hown1 hg1 hat1)
  have hv1 : ∃ g c1, v1 = .slice (some ⟨g, 0, none⟩) l.length c1 := by
    rcases O1.out.2 with ⟨rfl, h0⟩ | ⟨g, cap, cur, rfl, _⟩
    · rcases A1.out with h | h <;> simp [Value.ownBlock] at h
    · exact ⟨g, cap, rfl⟩
  obtain ⟨g1, c1, rfl⟩ := hv1
  refine (rkeep_any w1 y m d t (HB.out.below B1.out) (by omega) HSa.out).mono ?_
  rintro e w2 ⟨v2, rfl, ho2, hb2⟩
  have B2 := Lib.hid (grow_trans B1.out hb2)
  have O2 := Lib.hid (own_below O1.out hb2)
  have hlt2 := ho2.lt
  have hg1 : g1 < w1.heap.size := (O1.out.lt g1 rfl).2
  obtain ⟨x2, c2, rfl, _, hF2⟩ := own_flds ho2 (by omega) HS2.out
  have HNe : Hid (∀ ad, x2 = some ad → ad.block ≠ g1) := fun ad e => by
    subst e
    have := (hlt2 ad.block rfl).1
    omega
  have F2 := Lib.hid hF2
  clear ho2 hb2 hF2 A1 hlt2 hg1
  obtain ⟨K, hK⟩ : ∃ K, K = keepF t := ⟨_, rfl⟩
  rw [← hK] at F2 HSt n2 ⊢
  obtain ⟨p, hp⟩ : ∃ p : ByteArray × ByteArray → Bool, p = newB l := ⟨_, rfl⟩
  have HPe : Hid (∀ f, p f = (((allV l f.1).length : Int) == 0)) := by rw [hp]; exact fun _ => rfl
  have HM : Hid (mergeF l t = l ++ K.filter p) := by rw [hp, hK]; exact rfl
  clear hK hp
  go_wp2
  go_loopg [5, 7] K.length (fun gg s5 s7 wr => ∃ (k g' c' : Nat), k ≤ K.length ∧ K.length - k ≤ gg ∧ s7 = .int .i64 k ∧ s5 = .slice (some ⟨g', 0, none⟩) (l ++ (K.take k).filter p).length c' ∧ Hid (wr.ownsRow w.heap.size 31 2 (.slice (some ⟨g', 0, none⟩) (l ++ (K.take k).filter p).length c') (l ++ (K.take k).filter p).length (fldVals (l ++ (K.take k).filter p))) ∧ Hid (Below w.heap.size w wr) ∧ Hid (FldsAt wr x2 K.length K) ∧ Hid (∀ ad, x2 = some ad → ad.block ≠ g'))
  case atStart => exact ⟨0, g1, c1, Nat.zero_le _, by omega, rfl, by simp, by simpa [Hid] using O2.out, B2.out, F2.out, HNe.out⟩
  case round =>
    obtain ⟨k, g', c', hk, hg, rfl, rfl, hown, hb, hF, hne⟩ := hrel
    by_cases hkl : k < K.length
    · obtain ⟨b, o, f, rfl, hl3, hf, hc1, hc2, hs1, hs2⟩ := hF.out.get k hkl
      have hsf : f.1.size ≤ 140737488355328 := by rw [hf]; exact HSt.out _ (List.getElem_mem hl3)
      have htk := filter_take p K k hkl
      have hle := filter_len p K k
      have hbl : b < wr.heap.size := by
        rcases hF.out.at_ with h0 | ⟨b', o', he, hlt, _⟩
        · omega
        · cases he; exact hlt
      rw [← hf] at htk
      rw [HPe.out] at htk
      obtain ⟨f1, f2⟩ := f
      simp only at hc1 hc2 htk hsf
      have hAl : (l ++ (K.take k).filter p).length ≤ 2000 := by rw [List.length_append]; omega
      have htk2 : l ++ (K.take (k + 1)).filter p = (l ++ (K.take k).filter p) ++ (if (((allV l f1).length : Int) == 0) = true then [(f1, f2)] else []) := by rw [htk, List.append_assoc]
      obtain ⟨A, hA⟩ : ∃ A, A = l ++ (K.take k).filter p := ⟨_, rfl⟩
      rw [← hA] at hown htk2 hAl ⊢
      have HT := Lib.hid htk2
      have zr : w.heap.size ≤ wr.heap.size := hb.out.size
      clear htk htk2 hA hf
      cases hps : (((allV l f1).length : Int) == 0)
      · have HPS := Lib.hid hps
        clear hps
        go_wp2_with fail
        refine (rall_any wr x _ c l f1 hsf (HA.out.below hb.out) (by omega) HSl.out).mono ?_
        rintro e w3 ⟨g3, c3, rfl, ho3, hb3⟩
        have HB3 := Lib.hid hb3
        have hps := HPS.out
        clear hb3 ho3
        go_wp2
        go_roundg (K.length - (k + 1))
        case measure => omega
        case rel =>
          have e9 : l ++ (K.take (k + 1)).filter p = A := by rw [HT.out, HPS.out]; simp
          refine ⟨k + 1, g', c', by omega, by omega, by go_num, ?_⟩
          rw [e9]
          exact ⟨rfl, own_below hown.out HB3.out, grow_trans hb.out HB3.out, hF.out.below HB3.out, hne.out⟩
      · have HPS := Lib.hid hps
        clear hps
        go_wp2_with fail
        refine (rall_any wr x _ c l f1 hsf (HA.out.below hb.out) (by omega) HSl.out).mono ?_
        rintro e w3 ⟨g3, c3, rfl, ho3, hb3⟩
        have d1 : w3.cell? ⟨b, o + k * 2, none⟩ = some (.string f1) := (hb3.cell (p := ⟨b, o + k * 2, none⟩) hbl).trans hc1
        have d2 : w3.cell? ⟨b, o + k * 2 + 1, none⟩ = some (.string f2) := (hb3.cell (p := ⟨b, o + k * 2 + 1, none⟩) hbl).trans hc2
        have HB3 := Lib.hid hb3
        have HO3 := Lib.hid (own_below hown.out HB3.out)
        have z3 : w.heap.size ≤ w3.heap.size := Nat.le_trans zr HB3.out.size
        have H5 : Hid (A.length + 1 ≤ maxLen) := by show _ ≤ _; unfold maxLen; omega
        have H6 : Hid ((A.length + 1) * 32 ≤ 140737488355328) := by show _ ≤ _; omega
        have hps := HPS.out
        clear hb3 ho3
        go_wp2_with (at_builtin; refine wpList_append_at rfl (.tmp 28) (.tmp 33) 22 rfl w.heap.size 31 Try.underlying22 hi hz rfl (by decide) w3 [.string f1, .string f2] HO3.out rfl rfl rfl (one_fld _ _) H5.out H6.out z3 ?_; intro g4 c4 w4 hown4 hgrow4 hat4; have O4 := Lib.hid hown4; have G4 := Lib.hid hgrow4; have A4 := Lib.hid hat4; clear hown4 hgrow4 hat4)
        go_roundg (K.length - (k + 1))
        case measure => omega
        case rel =>
          have e9 : l ++ (K.take (k + 1)).filter p = A ++ [(f1, f2)] := by rw [HT.out, HPS.out]; simp
          have e11 : (A ++ [(f1, f2)]).length = A.length + 1 := by simp
          have hbw := below_owned (grow_trans hb.out HB3.out) z3 HO3.out G4.out
          have hbb : b ≠ g' := hne.out _ rfl
          have hF3 := hF.out.below HB3.out
          have hF4 : FldsAt w4 (some ⟨b, o, none⟩) K.length K := hF3.block (b := b) rfl (G4.out.block b (by have := HB3.out.size; omega) (by simp [Value.ownBlock, hbb]))
          have hne4 : b ≠ g4 := by
            rcases A4.out with h | h
            · simp [Value.ownBlock] at h; omega
            · have := HB3.out.size; omega
          refine ⟨k + 1, g4, c4, by omega, by omega, by go_num, ?_⟩
          rw [e9, fldVals_snoc, e11]
          exact ⟨rfl, O4.out, hbw, hF4, fun ad e => by cases e; exact hne4⟩
    · obtain rfl : k = K.length := by omega
      rw [List.take_length] at hown ⊢
      go_wp2
      go_ret
      refine ⟨_, rfl, ?_, hb.out⟩
      rw [HM.out]
      exact hown.out
end Go.Proofs.Ytdpohibgipkhnaa
