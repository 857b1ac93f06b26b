
/-
  A TALLY's KEYS, SORTED (string): the library's contracts in the tally's words.
-/
import Derived.Test.YtdpohibgipkhnaaTT18
import Derived.Test.YtdpohibgipkhnaaTT6
import Derived.Shelf.AbstractIn
import Derived.OwnWalkIn
set_option linter.unusedVariables false
set_option linter.unusedSimpArgs false
namespace Go.Proofs.Ytdpohibgipkhnaa
open Go.RowKit Go.Maps Go.Sort Go.Shelf Go.Proofs.Ytdpohibgipkhnaa.Oct

def toRS (k : KyS) : (List UInt8) := k.data.toList
def ofRS (r : (List UInt8)) : KyS := ⟨r.toArray⟩
theorem ofRS_V (r : (List UInt8)) : kySV (ofRS r) = encStr r := rfl
theorem toRS_of (r : (List UInt8)) : toRS (ofRS r) = r := by simp [toRS, ofRS]
theorem ofRS_to (k : KyS) : ofRS (toRS k) = k := by simp [toRS, ofRS]
/-- The order of keys. -/
def ltS (x y : KyS) : Prop := toRS x < toRS y

section
variable {w : World} {b n : Nat} {D : DataW Unit}
theorem rawS_es (h : w.ownsMap Try.prog 9 (plainElem Try.prog 3) b n D) : ∃ es, D = .map es ∧ es.Pairwise (fun p q => p.1 ≠ q.1) ∧ ∀ p ∈ es, ∃ r : (List UInt8), p.1 = kySL (ofRS r) ∧ kySO (ofRS r) := by
  obtain ⟨es, hD, hpw⟩ := h.tidy key_talS
  obtain ⟨es', hD', hko⟩ := h.keysOf
  obtain rfl : es = es' := by rw [hD] at hD'; injection hD'
  refine ⟨es, hD, hpw, fun p hp => ?_⟩
  obtain ⟨v, hv⟩ := hko p hp
  obtain ⟨x, _, hx, hl⟩ := Maps.keyOf_str Try.underlying9 hv
  exact ⟨x, by rw [hx]; simp [kySL, ofRS], by show (ofRS x).size ≤ maxLen; unfold ofRS; show x.toArray.size ≤ maxLen; simpa using hl⟩
theorem rawS_keys {es : List (Lit × DataW Unit)} : strKeys (DataW.map es) = es.map fun p => strOf p.1 := rfl
theorem rawS_nodup (h : w.ownsMap Try.prog 9 (plainElem Try.prog 3) b n D) : (strKeys D).Nodup := by
  obtain ⟨es, rfl, hpw, hk⟩ := rawS_es h
  rw [rawS_keys]
  refine List.pairwise_map.2 (hpw.imp_of_mem fun {p q} hp hq hne e => hne ?_)
  obtain ⟨a, ha, _⟩ := hk p hp
  obtain ⟨c, hc, _⟩ := hk q hq
  rw [ha, hc] at e ⊢
  have e' : a = c := by simpa [kySL, ofRS, strOf] using e
  rw [e']
theorem rawS_ok (h : w.ownsMap Try.prog 9 (plainElem Try.prog 3) b n D) : ∀ r ∈ strKeys D, kySO (ofRS r) := by
  obtain ⟨es, rfl, hpw, hk⟩ := rawS_es h
  rw [rawS_keys]
  intro r hr
  obtain ⟨p, hp, rfl⟩ := List.mem_map.1 hr
  obtain ⟨a, ha, ho⟩ := hk p hp
  rw [ha]
  have e : strOf (kySL (ofRS a)) = a := by simp [kySL, ofRS, strOf]
  rw [e]; exact ho
theorem rawS_mem (h : w.ownsMap Try.prog 9 (plainElem Try.prog 3) b n D) {k : KyS} {c : Nat} (hc : 0 < c) (hat : D.atKey (kySL k) (.lit (.int .i64 0)) = .lit (.int .i64 (c : Nat))) : toRS k ∈ strKeys D := by
  obtain ⟨es, rfl, hpw, hk⟩ := rawS_es h
  rw [rawS_keys]
  have h2 := hat
  unfold DataW.atKey at h2
  cases hf : es.find? (fun p => p.1.sameKey (kySL k)) with
  | none =>
    simp only [hf] at h2
    injection h2 with h2
    injection h2 with _ h2
    omega
  | some p =>
    have hp := List.mem_of_find?_eq_some hf
    have hs := WideAt.sameKey_eq (List.find?_some (p := fun p : Lit × DataW Unit => p.1.sameKey (kySL k)) hf)
    exact List.mem_map.2 ⟨p, hp, by rw [hs]; rfl⟩
theorem rawS_len (h : w.ownsMap Try.prog 9 (plainElem Try.prog 3) b n D) : (strKeys D).length ≤ n := by
  have h1 := h.size_le
  obtain ⟨es, rfl, _⟩ := rawS_es h
  rw [rawS_keys, List.length_map]
  exact h1
end
theorem sortS_pw {ss l : List (List UInt8)} (h : ss.Perm l) (hn : l.Nodup) : (ss.mergeSort (fun x y => decide (x ≤ y))).Pairwise (fun x y => x < y) := by
  have hp := List.pairwise_mergeSort (le := fun x y : (List UInt8) => decide (x ≤ y)) (fun a b c h1 h2 => by simp only [decide_eq_true_eq] at *; exact List.le_trans h1 h2) (fun a b => by simp only [Bool.or_eq_true, decide_eq_true_eq]; exact List.le_total a b) ss
  have hd : (ss.mergeSort (fun x y => decide (x ≤ y))).Nodup := ((List.mergeSort_perm ss _).nodup_iff).2 (h.nodup_iff.2 hn)
  refine (hp.and hd).imp fun {x y} hxy => ?_
  have h1 : x ≤ y := of_decide_eq_true hxy.1
  exact Classical.byContradiction fun h => hxy.2 (List.le_antisymm h1 (List.not_lt.1 h))

/-- slices.Sort's two contracts at this translation. -/
theorem sortsS_in (m : Nat) : AnyZ.SortsIn Try.prog Try.sortedS_ren Fence.wide m :=
  ⟨fun blk off cap ss W hH hblk hsz => callsIn_wide.2 (AnyM.slices_Sort_string Try.sortS blk off cap ss W hH hblk hsz),
   fun p cap W => callsIn_wide.2 (AnyM.slices_Sort_string_none Try.sortS p cap W)⟩
theorem mkeysS_in (mb : Option Nat) (W : World) : CallsIn Fence.wide 5 Try.prog 128 #[.map mb] W fun e w' => e = .returned (.func (.func 149) #[] #[.pointer (some ⟨W.heap.size, 0, none⟩)]) ∧ w' = W.alloc (.cells #[.map mb] 95) :=
  AnyZ.keys_in Try.keysS Fence.wide 5 trivial rfl mb W
set_option maxHeartbeats 1000000 in
theorem skeysS_in (b nn : Nat) (D0 : DataW Unit) (w : World) (hown : w.ownsMap Try.prog 9 (plainElem Try.prog 3) b nn D0) (hmax : Maps.size D0 ≤ maxLen) (hbytes : Maps.size D0 * 16 ≤ 140737488355328) :
    CallsIn Fence.wide 5 Try.prog 127 #[.func (.func 149) #[] #[.pointer (some ⟨w.heap.size, 0, none⟩)]] (w.alloc (.cells #[.map (some b)] 95)) fun e w' => ∃ (v : Value) (ss : List (List UInt8)), e = .returned v ∧ ss.Perm (strKeys D0) ∧
      w'.ownsRow (w.alloc (.cells #[.map (some b)] 95)).heap.size 9 1 v ss.length ((ss.mergeSort (fun x y => decide (x ≤ y))).map encStr) ∧ (v = .slice none 0 0 ↔ ss = []) ∧ Below (w.alloc (.cells #[.map (some b)] 95)).heap.size (w.alloc (.cells #[.map (some b)] 95)) w' := by
  have hbl := hown.lt
  have hseq : SeqGives Fence.wide 2 Try.prog 149 #[.pointer (some ⟨w.heap.size, 0, none⟩)] encStr (fun ss => ss.Perm (strKeys D0)) (Maps.size D0) (w.alloc (.cells #[.map (some b)] 95)) :=
    AnyZ.keys_gives (ρ := Try.keysS_ren) { Try.keysS with } Fence.wide _ trivial rfl (by omega) w.heap.size b nn D0 _ (by simp) (by simp) (by
      obtain ⟨es, clock, hb, Ft, hs, hD⟩ := hown
      exact ⟨es, clock, (Below.heap_alloc _ _ b hbl).trans hb, Ft, hs, hD⟩)
  exact AnyZ.sorted_in Try.sortedS Fence.wide 5 trivial trivial trivial trivial rfl (by omega) (sortsS_in _) (enters_of Try.func148 (by kernel_rfl) rfl) 149 #[.pointer (some ⟨w.heap.size, 0, none⟩)] trivial (enters_of Try.func149 (by kernel_rfl) rfl) _ _ hmax hbytes _ hseq
set_option maxHeartbeats 1000000 in
theorem skeysS_nil (w : World) :
    CallsIn Fence.wide 5 Try.prog 127 #[.func (.func 149) #[] #[.pointer (some ⟨w.heap.size, 0, none⟩)]] (w.alloc (.cells #[.map none] 95)) fun e w' => ∃ (v : Value) (ss : List (List UInt8)), e = .returned v ∧ ss = [] ∧
      w'.ownsRow (w.alloc (.cells #[.map none] 95)).heap.size 9 1 v ss.length ((ss.mergeSort (fun x y => decide (x ≤ y))).map encStr) ∧ (v = .slice none 0 0 ↔ ss = []) ∧ Below (w.alloc (.cells #[.map none] 95)).heap.size (w.alloc (.cells #[.map none] 95)) w' := by
  have hseq : SeqGives Fence.wide 2 Try.prog 149 #[.pointer (some ⟨w.heap.size, 0, none⟩)] encStr (fun ss : List (List UInt8) => ss = []) 0 (w.alloc (.cells #[.map none] 95)) :=
    AnyZ.keys_gives_nil (ρ := Try.keysS_ren) { Try.keysS with } Fence.wide _ trivial rfl w.heap.size _ (by simp) (by simp)
  exact AnyZ.sorted_in Try.sortedS Fence.wide 5 trivial trivial trivial trivial rfl (by omega) (sortsS_in _) (enters_of Try.func148 (by kernel_rfl) rfl) 149 #[.pointer (some ⟨w.heap.size, 0, none⟩)] trivial (enters_of Try.func149 (by kernel_rfl) rfl) _ 0 (Nat.zero_le _) (by omega) _ hseq

/-- What slices.Sorted hands back: the keys, rising; all that is counted is among them. -/
def KeysSPost (w : World) (f : KyS → Nat) (n : Nat) (mo : Option Nat) (e : Ending) (w' : World) : Prop :=
  ∃ (v : Value) (L : List KyS), e = .returned v ∧ w'.ownsRow w.heap.size 9 1 v L.length (L.map kySV) ∧ L.Pairwise ltS ∧ (∀ k, 0 < f k → k ∈ L) ∧ (∀ k ∈ L, kySO k) ∧ L.length ≤ n ∧ (mo = none → L = []) ∧ Below w.heap.size w w'
theorem tkeysS_in (w : World) (base a n : Nat) (f : KyS → Nat) (hn : n ≤ 1000000) (h : TalS w base a n f) (mo : Option Nat) (hmo : w.cell? ⟨a, 0, none⟩ = some (.map mo)) :
    CallsIn Fence.wide 5 Try.prog 127 #[.func (.func 149) #[] #[.pointer (some ⟨w.heap.size, 0, none⟩)]] (w.alloc (.cells #[.map mo] 95)) (KeysSPost (w.alloc (.cells #[.map mo] 95)) f n mo) := by
  obtain ⟨mo', hblk, _, hcase⟩ := h
  obtain rfl : mo = mo' := by have := hmo.symm.trans (hblk.cell 0); injection this with this; injection this
  rcases hcase with ⟨rfl, h0⟩ | ⟨mb, D, rfl, hmb, hne, hown, hat⟩
  · refine (skeysS_nil w).mono ?_
    rintro e w' ⟨v, ss, rfl, rfl, hrow, _, hb⟩
    exact ⟨v, [], rfl, by simpa using hrow, List.Pairwise.nil, fun k hk => by rw [h0 k] at hk; omega, fun k hk => by simp at hk, Nat.zero_le _, fun _ => rfl, hb⟩
  · have hsz := hown.size_le
    refine (skeysS_in mb n D w hown (by unfold maxLen; omega) (by omega)).mono ?_
    rintro e w' ⟨v, ss, rfl, hS, hrow, _, hb⟩
    have hlen : (ss.mergeSort (fun x y => decide (x ≤ y))).length = ss.length := (List.mergeSort_perm ss _).length_eq
    have hmem : ∀ r, r ∈ ss.mergeSort (fun x y => decide (x ≤ y)) ↔ r ∈ strKeys D := fun r => ((List.mergeSort_perm ss _).trans hS).mem_iff
    refine ⟨v, (ss.mergeSort (fun x y => decide (x ≤ y))).map ofRS, rfl, ?_, ?_, fun k hk => ?_, fun k hk => ?_, ?_, fun h => (by cases h), hb⟩
    · have e1 : ((ss.mergeSort (fun x y => decide (x ≤ y))).map ofRS).map kySV = (ss.mergeSort (fun x y => decide (x ≤ y))).map encStr := by rw [List.map_map]; rfl
      rw [e1, List.length_map, hlen]
      exact hrow
    · refine List.pairwise_map.2 ((sortS_pw hS (rawS_nodup hown)).imp fun {x y} hxy => ?_)
      unfold ltS
      rw [toRS_of, toRS_of]
      exact hxy
    · exact List.mem_map.2 ⟨toRS k, (hmem _).2 (rawS_mem hown hk (hat k)), ofRS_to k⟩
    · obtain ⟨r, hr, rfl⟩ := List.mem_map.1 hk
      exact rawS_ok hown r ((hmem r).1 hr)
    · rw [List.length_map, hlen, hS.length_eq]
      exact rawS_len hown
end Go.Proofs.Ytdpohibgipkhnaa
