
/-
  THE WALKS of header.Without, and of the document's Without and With.
-/
import Derived.Test.YtdpohibgipkhnaaHdr7
namespace Go.Proofs.Ytdpohibgipkhnaa
open Go.RowKit Go.Sort Go.Proofs.Ytdpohibgipkhnaa.Oct

/-- The fields without some names. -/
def withoutF (l : Flds) (ns : List ByteArray) : Flds := l.filter fun f => !isB ns f.1
theorem withoutF_len (l : Flds) (ns : List ByteArray) : (withoutF l ns).length ≤ l.length := List.length_filter_le _ _
theorem withoutF_sub {l : Flds} {ns : List ByteArray} {f : ByteArray × ByteArray} (h : f ∈ withoutF l ns) : f ∈ l := (List.mem_filter.1 h).1
theorem StrsArg.get {w : World} {x : Option Addr} {n : Nat} {ns : List ByteArray} (h : StrsArg w x n ns) (k : Nat) (hk : k < n) : ∃ b o s, x = some ⟨b, o, none⟩ ∧ ∃ hl : k < ns.length, s = ns[k] ∧ w.cell? ⟨b, o + k, none⟩ = some (.string s) ∧ s.size ≤ 9223372036854775807 := by
  obtain ⟨h1, h2, h3, h4⟩ := h
  obtain ⟨b, o, hx, hlt, hc⟩ := h4.resolve_left (by omega)
  have hl : k < ns.length := by omega
  exact ⟨b, o, _, hx, hl, rfl, hc k hl, h3 _ (List.getElem_mem hl)⟩
theorem StrsArg.old {w w' : World} {x : Option Addr} {n : Nat} {ns : List ByteArray} (h : StrsArg w x n ns) {B : Nat} (hB : w.heap.size ≤ B) (hb : Below B w w') : StrsArg w' x n ns := h.below (hb.mono hB)
theorem one_blk_ne {w : World} {B e size n : Nat} {v : Value} {xs : List Value} (h : w.ownsRow B e size v n xs) : ∀ k, v.ownBlock = some k → B ≤ k ∧ k < w.heap.size := fun k hk => h.lt k hk

set_option maxRecDepth 100000 in
set_option maxHeartbeats 1600000 in
theorem hwithout_any (w : World) (x y : Option Addr) (n c m d : Nat) (l : Flds) (ns : List ByteArray) (h : FldsAt w x n l) (h2 : StrsArg w y m ns) (hfew : n ≤ 65536) :
    Calls Try.prog 33 #[.slice x n c, .slice y m d] w (FldsPost w (withoutF l ns)) := by
  have hl := h.len
  have HS := Lib.hid h.str
  have HC := Lib.hid (fclone_any w x n c l h hfew)
  have HN := Lib.hid h2
  clear h h2
  go_enter Try.func33, Try.ntmps33
  go_wp2_with fail
  refine HC.out.mono ?_
  rintro e w1 ⟨v1, rfl, ho1, hb1⟩
  have HO1 := Lib.hid ho1
  have HB1 := Lib.hid hb1
  clear ho1 hb1
  go_wp2_with fail
  refine (named_any y m d w1).mono ?_
  rintro e w2 ⟨rfl, rfl⟩
  go_wp2_with fail
  refine (delfunc_any 101 #[.pointer (some ⟨w1.heap.size, 0, none⟩)] (fun _ _ => by kernel_rfl) (fun f => isB ns f.1) _ w.heap.size v1 l (own_above HO1.out (below_new w1 _)) (by omega) HS.out (fun W f hW hf => ?_)).mono ?_
  · refine named1_any ns f.1 f.2 w1.heap.size W (HS.out f hf).1 ⟨y, m, d, (Blk.new w1 35 #[.slice y m d]).grown hW (fun e => ?_), ?_⟩
    · have := (HO1.out.lt _ e.symm).2
      omega
    · have hb : Below w.heap.size w W := (HB1.out.alloc HB1.out.size _).grown hW (by have := HB1.out.size; simp; omega) (fun k hk => (HO1.out.lt k hk).1)
      exact HN.out.below hb
  rintro e w3 ⟨v3, rfl, ho3, hg3, _⟩
  have HO3 := Lib.hid ho3
  have HG3 := Lib.hid hg3
  clear ho3 hg3
  go_wp2
  go_ret
  exact ⟨v3, rfl, HO3.out, (HB1.out.alloc HB1.out.size _).grown HG3.out (by have := HB1.out.size; simp; omega) (fun k hk => (HO1.out.lt k hk).1)⟩

set_option maxRecDepth 100000 in
set_option maxHeartbeats 1600000 in
theorem rwith_any (w : World) (x : Option Addr) (n c : Nat) (l : Flds) (name value : ByteArray) (h : FldsAt w x n l) (hfew : n ≤ 65536) :
    Calls Try.prog 36 #[.slice x n c, .string name, .string value] w (FldsPost w (l ++ [(name, value)])) := by
  have hl := h.len
  subst hl
  obtain ⟨i0, hi0, hz⟩ := info_hid info_field
  have H1 : Hid (0 + l.length ≤ maxLen) := by show _ ≤ _; unfold maxLen; omega
  have H2 : Hid ((0 + l.length) * 32 ≤ 140737488355328) := by show _ ≤ _; omega
  have H3 : Hid (l.length + 1 ≤ maxLen) := by show _ ≤ _; unfold maxLen; omega
  have H4 : Hid ((l.length + 1) * 32 ≤ 140737488355328) := by show _ ≤ _; omega
  have HS := Lib.hid (fld_one l)
  have HL := Lib.hid (World.ownsRow_lit (base := w.heap.size) (e := 31) (size := 2) w #[] 0 (Nat.le_refl _) (by decide) rfl)
  have HRa := Lib.hid (h.reads.alloc (Nat.le_refl _) (.cells #[] 31))
  clear h
  go_enter Try.func36, Try.ntmps36
  go_wp2_with (first
    | (at_builtin; refine wpList_append_any _ rfl (.tmp 7) (.tmp 8) _ rfl w.heap.size 31 i0 _ 2 32 Try.underlying22 hi0.out hz.out.1 hz.out.2.1 hz.out.2.2 rfl (by omega) _ 0 [] (by rfl) HL.out w.heap.size _ l.length c (fldVals l) rfl HRa.out HS.out H1.out H2.out (by simp) ?_; intro v1 w1 hown1 hg1 hat1; (rw [Nat.zero_add, List.nil_append] at hown1); have HO := Lib.hid hown1; have HB1 : Hid (Below w.heap.size w w1) := ((Below.refl _ w).alloc (Nat.le_refl _) _).grown hg1 (by simp) (by simp [Value.ownBlock]); have Z1 := HB1.out.size; clear hown1 hg1 hat1)
    | (at_builtin; refine wpList_append_at rfl (.tmp 9) (.tmp 13) 22 rfl w.heap.size 31 Try.underlying22 hi0 hz rfl (by decide) w1 [.string name, .string value] HO.out rfl rfl rfl (one_fld _ _) H3.out H4.out Z1 ?_; intro g4 c4 w4 hown4 hgrow4 hat4; have O4 := Lib.hid hown4; have G4 := Lib.hid hgrow4; clear hown4 hgrow4 hat4))
  go_ret
  refine ⟨_, rfl, ?_, below_owned HB1.out HB1.out.size HO.out G4.out⟩
  rw [fldVals_snoc, List.length_append]
  exact O4.out
end Go.Proofs.Ytdpohibgipkhnaa
