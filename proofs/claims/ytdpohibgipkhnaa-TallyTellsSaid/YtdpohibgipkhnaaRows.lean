/-
  No cell of these rows narrows 'for every input' (looked for: loops, veiled, ifaces, maps, wideKeys, modest, calm, conditions, laid).
  DERIVED. THE GIVEN ROWS OF THIS SEAT. 11 by the template 'for every input the law returns true; each argument reads behind the call as it read before'; 0 by the template 'total and deterministic' (their statements: YtdpohibgipkhnaaTotals.lean).
  GIVEN WITH THE SEED: the statements are not yours to turn. If you find one false, say at which input.
  Laid BY PROGRAM, IN A SANDBOX (cutbox-rows.mjs): the forced cells as the released guide's own fill.sh prints them over the translation f2e26002b1df8bc1… (all of the seat's roots in one cut). By AI agents, Wed Nov 11 2026. No macro, syntax, notation, axiom, sorry.
-/
import Derived.Test.YtdpohibgipkhnaaChecked
import GoSem.Claim
import GoSem.ClaimJoined
import GoSem.ClaimMapViews
import Derived.JoinedTies
import Derived.KernelRfl
namespace Go.Proofs.Ytdpohibgipkhnaa
/- THE CELL 'sum', in the pinned program and in every row, IS THE sha256 OF THE DUMP (.gsa) THAT YtdpohibgipkhnaaProg.lean LOADS. Nothing in Lean hashes anything: it is a label: what it is worth is what the hold of that sum in a sandbox is worth. -/
noncomputable def Try.pinned : Pinned := { name := "ytdpohibgipkhnaa", sum := "f2e26002b1df8bc10e0f975a1e220de1e30d694e4f2b583cb04767e3404415f2", checked := Try.checked }
namespace Rows
def none {H : Type} : Left H := { results := [], args := [] }

/-- 'abutmentlaw26.TrailerKeeps': WHATEVER THE INPUT: true; the input reads as it did. -/
def trailerKeepsSpec : ChangeSpec := { name := "trailerKeeps", fn := fun _ => fun
  | [d1, d2, d3] => { results := [.lit (.bool true)], args := [d1, d2, d3] }
  | _ => none }
def trailerKeepsRow : OpenClaim := { program := "ytdpohibgipkhnaa", sum := "f2e26002b1df8bc10e0f975a1e220de1e30d694e4f2b583cb04767e3404415f2", func := "abutment/abutmentlaw26.TrailerKeeps", spec := "trailerKeeps", unfollowed := true, recurses := true, apart := false }
def TrailerKeepsSaid : Prop := trailerKeepsRow.holds Try.pinned (OpenSpec.ofChange trailerKeepsSpec)

/-- ITS FALSE NEIGHBOUR: 'it returns false'. Refute it at one input. -/
def trailerKeepsWrong : ChangeSpec := { name := "trailerKeeps", fn := fun _ => fun
  | [d1, d2, d3] => { results := [.lit (.bool false)], args := [d1, d2, d3] }
  | _ => none }
def TrailerKeepsWrongFalsely : Prop := trailerKeepsRow.holds Try.pinned (OpenSpec.ofChange trailerKeepsWrong)

/-- 'abutmentlaw26.TrailerMerges': WHATEVER THE INPUT: true; the input reads as it did. -/
def trailerMergesSpec : ChangeSpec := { name := "trailerMerges", fn := fun _ => fun
  | [d1, d2] => { results := [.lit (.bool true)], args := [d1, d2] }
  | _ => none }
def trailerMergesRow : OpenClaim := { program := "ytdpohibgipkhnaa", sum := "f2e26002b1df8bc10e0f975a1e220de1e30d694e4f2b583cb04767e3404415f2", func := "abutment/abutmentlaw26.TrailerMerges", spec := "trailerMerges", unfollowed := true, recurses := true, apart := false }
def TrailerMergesSaid : Prop := trailerMergesRow.holds Try.pinned (OpenSpec.ofChange trailerMergesSpec)

/-- ITS FALSE NEIGHBOUR: 'it returns false'. Refute it at one input. -/
def trailerMergesWrong : ChangeSpec := { name := "trailerMerges", fn := fun _ => fun
  | [d1, d2] => { results := [.lit (.bool false)], args := [d1, d2] }
  | _ => none }
def TrailerMergesWrongFalsely : Prop := trailerMergesRow.holds Try.pinned (OpenSpec.ofChange trailerMergesWrong)

/-- 'abutmentlaw10.HeaderTells': WHATEVER THE INPUT: true; the input reads as it did. -/
def headerTellsSpec : ChangeSpec := { name := "headerTells", fn := fun _ => fun
  | [d1, d2, d3] => { results := [.lit (.bool true)], args := [d1, d2, d3] }
  | _ => none }
def headerTellsRow : OpenClaim := { program := "ytdpohibgipkhnaa", sum := "f2e26002b1df8bc10e0f975a1e220de1e30d694e4f2b583cb04767e3404415f2", func := "abutment/abutmentlaw10.HeaderTells", spec := "headerTells", inPlace := ["internal/abi.NoEscape", "internal/bytealg.MakeNoZero"], unfollowed := true, recurses := true, apart := false }
def HeaderTellsSaid : Prop := headerTellsRow.holds Try.pinned (OpenSpec.ofChange headerTellsSpec)

/-- ITS FALSE NEIGHBOUR: 'it returns false'. Refute it at one input. -/
def headerTellsWrong : ChangeSpec := { name := "headerTells", fn := fun _ => fun
  | [d1, d2, d3] => { results := [.lit (.bool false)], args := [d1, d2, d3] }
  | _ => none }
def HeaderTellsWrongFalsely : Prop := headerTellsRow.holds Try.pinned (OpenSpec.ofChange headerTellsWrong)

/-- 'abutmentlaw10.HeaderChanges': WHATEVER THE INPUT: true; the input reads as it did. -/
def headerChangesSpec : ChangeSpec := { name := "headerChanges", fn := fun _ => fun
  | [d1, d2, d3] => { results := [.lit (.bool true)], args := [d1, d2, d3] }
  | _ => none }
def headerChangesRow : OpenClaim := { program := "ytdpohibgipkhnaa", sum := "f2e26002b1df8bc10e0f975a1e220de1e30d694e4f2b583cb04767e3404415f2", func := "abutment/abutmentlaw10.HeaderChanges", spec := "headerChanges", inPlace := ["internal/abi.NoEscape", "internal/bytealg.MakeNoZero"], unfollowed := true, recurses := true, apart := false }
def HeaderChangesSaid : Prop := headerChangesRow.holds Try.pinned (OpenSpec.ofChange headerChangesSpec)

/-- ITS FALSE NEIGHBOUR: 'it returns false'. Refute it at one input. -/
def headerChangesWrong : ChangeSpec := { name := "headerChanges", fn := fun _ => fun
  | [d1, d2, d3] => { results := [.lit (.bool false)], args := [d1, d2, d3] }
  | _ => none }
def HeaderChangesWrongFalsely : Prop := headerChangesRow.holds Try.pinned (OpenSpec.ofChange headerChangesWrong)

/-- 'abutmentlaw10.HeaderKeeps': WHATEVER THE INPUT: true; the input reads as it did. -/
def headerKeepsSpec : ChangeSpec := { name := "headerKeeps", fn := fun _ => fun
  | [d1, d2, d3] => { results := [.lit (.bool true)], args := [d1, d2, d3] }
  | _ => none }
def headerKeepsRow : OpenClaim := { program := "ytdpohibgipkhnaa", sum := "f2e26002b1df8bc10e0f975a1e220de1e30d694e4f2b583cb04767e3404415f2", func := "abutment/abutmentlaw10.HeaderKeeps", spec := "headerKeeps", inPlace := ["internal/abi.NoEscape", "internal/bytealg.MakeNoZero"], unfollowed := true, recurses := true, apart := false }
def HeaderKeepsSaid : Prop := headerKeepsRow.holds Try.pinned (OpenSpec.ofChange headerKeepsSpec)

/-- ITS FALSE NEIGHBOUR: 'it returns false'. Refute it at one input. -/
def headerKeepsWrong : ChangeSpec := { name := "headerKeeps", fn := fun _ => fun
  | [d1, d2, d3] => { results := [.lit (.bool false)], args := [d1, d2, d3] }
  | _ => none }
def HeaderKeepsWrongFalsely : Prop := headerKeepsRow.holds Try.pinned (OpenSpec.ofChange headerKeepsWrong)

/-- 'abutmentlaw50.CanonNames': WHATEVER THE INPUT: true; the input reads as it did. -/
def canonNamesSpec : ChangeSpec := { name := "canonNames", fn := fun _ => fun
  | [d] => { results := [.lit (.bool true)], args := [d] }
  | _ => none }
def canonNamesRow : OpenClaim := { program := "ytdpohibgipkhnaa", sum := "f2e26002b1df8bc10e0f975a1e220de1e30d694e4f2b583cb04767e3404415f2", func := "abutment/abutmentlaw50.CanonNames", spec := "canonNames", inPlace := ["internal/abi.NoEscape", "internal/bytealg.MakeNoZero"], unfollowed := true, recurses := true, apart := false }
def CanonNamesSaid : Prop := canonNamesRow.holds Try.pinned (OpenSpec.ofChange canonNamesSpec)

/-- ITS FALSE NEIGHBOUR: 'it returns false'. Refute it at one input. -/
def canonNamesWrong : ChangeSpec := { name := "canonNames", fn := fun _ => fun
  | [d] => { results := [.lit (.bool false)], args := [d] }
  | _ => none }
def CanonNamesWrongFalsely : Prop := canonNamesRow.holds Try.pinned (OpenSpec.ofChange canonNamesWrong)

/-- 'abutmentlaw50.CanonStays': WHATEVER THE INPUT: true; the input reads as it did. -/
def canonStaysSpec : ChangeSpec := { name := "canonStays", fn := fun _ => fun
  | [d1, d2, d3] => { results := [.lit (.bool true)], args := [d1, d2, d3] }
  | _ => none }
def canonStaysRow : OpenClaim := { program := "ytdpohibgipkhnaa", sum := "f2e26002b1df8bc10e0f975a1e220de1e30d694e4f2b583cb04767e3404415f2", func := "abutment/abutmentlaw50.CanonStays", spec := "canonStays", inPlace := ["internal/abi.NoEscape", "internal/bytealg.MakeNoZero", "internal/bytealg.abigen_runtime_cmpstring"], unfollowed := true, recurses := true, apart := false }
def CanonStaysSaid : Prop := canonStaysRow.holds Try.pinned (OpenSpec.ofChange canonStaysSpec)

/-- ITS FALSE NEIGHBOUR: 'it returns false'. Refute it at one input. -/
def canonStaysWrong : ChangeSpec := { name := "canonStays", fn := fun _ => fun
  | [d1, d2, d3] => { results := [.lit (.bool false)], args := [d1, d2, d3] }
  | _ => none }
def CanonStaysWrongFalsely : Prop := canonStaysRow.holds Try.pinned (OpenSpec.ofChange canonStaysWrong)

/-- 'abutmentlaw50.CanonFields': WHATEVER THE INPUT: true; the input reads as it did. -/
def canonFieldsSpec : ChangeSpec := { name := "canonFields", fn := fun _ => fun
  | [d1, d2] => { results := [.lit (.bool true)], args := [d1, d2] }
  | _ => none }
def canonFieldsRow : OpenClaim := { program := "ytdpohibgipkhnaa", sum := "f2e26002b1df8bc10e0f975a1e220de1e30d694e4f2b583cb04767e3404415f2", func := "abutment/abutmentlaw50.CanonFields", spec := "canonFields", inPlace := ["internal/abi.NoEscape", "internal/bytealg.MakeNoZero", "internal/bytealg.abigen_runtime_cmpstring"], unfollowed := true, recurses := true, apart := false }
def CanonFieldsSaid : Prop := canonFieldsRow.holds Try.pinned (OpenSpec.ofChange canonFieldsSpec)

/-- ITS FALSE NEIGHBOUR: 'it returns false'. Refute it at one input. -/
def canonFieldsWrong : ChangeSpec := { name := "canonFields", fn := fun _ => fun
  | [d1, d2] => { results := [.lit (.bool false)], args := [d1, d2] }
  | _ => none }
def CanonFieldsWrongFalsely : Prop := canonFieldsRow.holds Try.pinned (OpenSpec.ofChange canonFieldsWrong)

/-- 'abutmentlaw49.TallyCounts': WHATEVER THE INPUT: true; the input reads as it did. -/
def tallyCountsSpec : ChangeSpec := { name := "tallyCounts", fn := fun _ => fun
  | [d1, d2] => { results := [.lit (.bool true)], args := [d1, d2] }
  | _ => none }
def tallyCountsRow : OpenClaim := { program := "ytdpohibgipkhnaa", sum := "f2e26002b1df8bc10e0f975a1e220de1e30d694e4f2b583cb04767e3404415f2", func := "abutment/abutmentlaw49.TallyCounts", spec := "tallyCounts", unfollowed := true, recurses := true, apart := false }
def TallyCountsSaid : Prop := tallyCountsRow.holds Try.pinned (OpenSpec.ofChange tallyCountsSpec)

/-- ITS FALSE NEIGHBOUR: 'it returns false'. Refute it at one input. -/
def tallyCountsWrong : ChangeSpec := { name := "tallyCounts", fn := fun _ => fun
  | [d1, d2] => { results := [.lit (.bool false)], args := [d1, d2] }
  | _ => none }
def TallyCountsWrongFalsely : Prop := tallyCountsRow.holds Try.pinned (OpenSpec.ofChange tallyCountsWrong)

/-- 'abutmentlaw49.TallyParts': WHATEVER THE INPUT: true; the input reads as it did. -/
def tallyPartsSpec : ChangeSpec := { name := "tallyParts", fn := fun _ => fun
  | [d1, d2] => { results := [.lit (.bool true)], args := [d1, d2] }
  | _ => none }
def tallyPartsRow : OpenClaim := { program := "ytdpohibgipkhnaa", sum := "f2e26002b1df8bc10e0f975a1e220de1e30d694e4f2b583cb04767e3404415f2", func := "abutment/abutmentlaw49.TallyParts", spec := "tallyParts", unfollowed := true, recurses := true, apart := false }
def TallyPartsSaid : Prop := tallyPartsRow.holds Try.pinned (OpenSpec.ofChange tallyPartsSpec)

/-- ITS FALSE NEIGHBOUR: 'it returns false'. Refute it at one input. -/
def tallyPartsWrong : ChangeSpec := { name := "tallyParts", fn := fun _ => fun
  | [d1, d2] => { results := [.lit (.bool false)], args := [d1, d2] }
  | _ => none }
def TallyPartsWrongFalsely : Prop := tallyPartsRow.holds Try.pinned (OpenSpec.ofChange tallyPartsWrong)

/-- 'abutmentlaw49.TallyTells': WHATEVER THE INPUT: true; the input reads as it did. -/
def tallyTellsSpec : ChangeSpec := { name := "tallyTells", fn := fun _ => fun
  | [d1, d2] => { results := [.lit (.bool true)], args := [d1, d2] }
  | _ => none }
def tallyTellsRow : OpenClaim := { program := "ytdpohibgipkhnaa", sum := "f2e26002b1df8bc10e0f975a1e220de1e30d694e4f2b583cb04767e3404415f2", func := "abutment/abutmentlaw49.TallyTells", spec := "tallyTells", unfollowed := true, recurses := true, apart := false }
def TallyTellsSaid : Prop := tallyTellsRow.holds Try.pinned (OpenSpec.ofChange tallyTellsSpec)

/-- ITS FALSE NEIGHBOUR: 'it returns false'. Refute it at one input. -/
def tallyTellsWrong : ChangeSpec := { name := "tallyTells", fn := fun _ => fun
  | [d1, d2] => { results := [.lit (.bool false)], args := [d1, d2] }
  | _ => none }
def TallyTellsWrongFalsely : Prop := tallyTellsRow.holds Try.pinned (OpenSpec.ofChange tallyTellsWrong)

/- THE SECOND FORM. 'bulk': how many values and letters a reading holds, each counted each time it is reached (what is shared counts as often as it is met; a slice's spare places count too). A statement '..UptoSaid' is the law's where the arguments, and the package variables that the reading takes, are together of bulk at most 1048576: NARROWER than '..Said'. Prove '..Said' where nothing that the law and all that it calls make is longer than what came in: it says more and counts as full. Else prove '..UptoSaid'. A law counts once. -/
mutual
def uptoBulk {H : Type} : DataW H → Nat
  | .lit (.string bytes) => bytes.length + 1
  | .lit _ => 1
  | .nil => 1
  | .ptr d => uptoBulk d + 1
  | .slice elems spare => uptoBulkAll elems + uptoBulkAll spare + 1
  | .agg parts => uptoBulkAll parts + 1
  | .iface _ d => uptoBulk d + 1
  | .map entries => uptoBulkEntries entries + 1
  | .held _ => 1
def uptoBulkAll {H : Type} : List (DataW H) → Nat
  | [] => 0
  | d :: r => uptoBulk d + uptoBulkAll r
def uptoBulkEntries {H : Type} : List (Lit × DataW H) → Nat
  | [] => 0
  | x :: r => uptoBulkEntry x + uptoBulkEntries r
def uptoBulkEntry {H : Type} : Lit × DataW H → Nat
  | (.string bytes, d) => bytes.length + uptoBulk d + 1
  | (_, d) => uptoBulk d + 1
 end
def uptoSmall : (H : Type) → List (DataW H) → Bool := fun _ ds => decide (uptoBulkAll ds ≤ 1048576)
def OpenSpec.upto (s : _root_.Go.ChangeSpec) : _root_.Go.OpenSpec := { _root_.Go.OpenSpec.ofChange s with cond := some uptoSmall }

/-- 'abutmentlaw26.TrailerKeeps', WHERE WHAT IT READS IS OF BULK AT MOST 1048576: true; the input reads as it did. -/
def trailerKeepsUptoRow : OpenClaim := { program := "ytdpohibgipkhnaa", sum := "f2e26002b1df8bc10e0f975a1e220de1e30d694e4f2b583cb04767e3404415f2", func := "abutment/abutmentlaw26.TrailerKeeps", spec := "trailerKeeps", unfollowed := true, recurses := true, apart := false, narrowed := true }
def TrailerKeepsUptoSaid : Prop := trailerKeepsUptoRow.holds Try.pinned (OpenSpec.upto trailerKeepsSpec)

/-- 'abutmentlaw26.TrailerMerges', WHERE WHAT IT READS IS OF BULK AT MOST 1048576: true; the input reads as it did. -/
def trailerMergesUptoRow : OpenClaim := { program := "ytdpohibgipkhnaa", sum := "f2e26002b1df8bc10e0f975a1e220de1e30d694e4f2b583cb04767e3404415f2", func := "abutment/abutmentlaw26.TrailerMerges", spec := "trailerMerges", unfollowed := true, recurses := true, apart := false, narrowed := true }
def TrailerMergesUptoSaid : Prop := trailerMergesUptoRow.holds Try.pinned (OpenSpec.upto trailerMergesSpec)

/-- 'abutmentlaw10.HeaderTells', WHERE WHAT IT READS IS OF BULK AT MOST 1048576: true; the input reads as it did. -/
def headerTellsUptoRow : OpenClaim := { program := "ytdpohibgipkhnaa", sum := "f2e26002b1df8bc10e0f975a1e220de1e30d694e4f2b583cb04767e3404415f2", func := "abutment/abutmentlaw10.HeaderTells", spec := "headerTells", inPlace := ["internal/abi.NoEscape", "internal/bytealg.MakeNoZero"], unfollowed := true, recurses := true, apart := false, narrowed := true }
def HeaderTellsUptoSaid : Prop := headerTellsUptoRow.holds Try.pinned (OpenSpec.upto headerTellsSpec)

/-- 'abutmentlaw10.HeaderChanges', WHERE WHAT IT READS IS OF BULK AT MOST 1048576: true; the input reads as it did. -/
def headerChangesUptoRow : OpenClaim := { program := "ytdpohibgipkhnaa", sum := "f2e26002b1df8bc10e0f975a1e220de1e30d694e4f2b583cb04767e3404415f2", func := "abutment/abutmentlaw10.HeaderChanges", spec := "headerChanges", inPlace := ["internal/abi.NoEscape", "internal/bytealg.MakeNoZero"], unfollowed := true, recurses := true, apart := false, narrowed := true }
def HeaderChangesUptoSaid : Prop := headerChangesUptoRow.holds Try.pinned (OpenSpec.upto headerChangesSpec)

/-- 'abutmentlaw10.HeaderKeeps', WHERE WHAT IT READS IS OF BULK AT MOST 1048576: true; the input reads as it did. -/
def headerKeepsUptoRow : OpenClaim := { program := "ytdpohibgipkhnaa", sum := "f2e26002b1df8bc10e0f975a1e220de1e30d694e4f2b583cb04767e3404415f2", func := "abutment/abutmentlaw10.HeaderKeeps", spec := "headerKeeps", inPlace := ["internal/abi.NoEscape", "internal/bytealg.MakeNoZero"], unfollowed := true, recurses := true, apart := false, narrowed := true }
def HeaderKeepsUptoSaid : Prop := headerKeepsUptoRow.holds Try.pinned (OpenSpec.upto headerKeepsSpec)

/-- 'abutmentlaw50.CanonNames', WHERE WHAT IT READS IS OF BULK AT MOST 1048576: true; the input reads as it did. -/
def canonNamesUptoRow : OpenClaim := { program := "ytdpohibgipkhnaa", sum := "f2e26002b1df8bc10e0f975a1e220de1e30d694e4f2b583cb04767e3404415f2", func := "abutment/abutmentlaw50.CanonNames", spec := "canonNames", inPlace := ["internal/abi.NoEscape", "internal/bytealg.MakeNoZero"], unfollowed := true, recurses := true, apart := false, narrowed := true }
def CanonNamesUptoSaid : Prop := canonNamesUptoRow.holds Try.pinned (OpenSpec.upto canonNamesSpec)

/-- 'abutmentlaw50.CanonStays', WHERE WHAT IT READS IS OF BULK AT MOST 1048576: true; the input reads as it did. -/
def canonStaysUptoRow : OpenClaim := { program := "ytdpohibgipkhnaa", sum := "f2e26002b1df8bc10e0f975a1e220de1e30d694e4f2b583cb04767e3404415f2", func := "abutment/abutmentlaw50.CanonStays", spec := "canonStays", inPlace := ["internal/abi.NoEscape", "internal/bytealg.MakeNoZero", "internal/bytealg.abigen_runtime_cmpstring"], unfollowed := true, recurses := true, apart := false, narrowed := true }
def CanonStaysUptoSaid : Prop := canonStaysUptoRow.holds Try.pinned (OpenSpec.upto canonStaysSpec)

/-- 'abutmentlaw50.CanonFields', WHERE WHAT IT READS IS OF BULK AT MOST 1048576: true; the input reads as it did. -/
def canonFieldsUptoRow : OpenClaim := { program := "ytdpohibgipkhnaa", sum := "f2e26002b1df8bc10e0f975a1e220de1e30d694e4f2b583cb04767e3404415f2", func := "abutment/abutmentlaw50.CanonFields", spec := "canonFields", inPlace := ["internal/abi.NoEscape", "internal/bytealg.MakeNoZero", "internal/bytealg.abigen_runtime_cmpstring"], unfollowed := true, recurses := true, apart := false, narrowed := true }
def CanonFieldsUptoSaid : Prop := canonFieldsUptoRow.holds Try.pinned (OpenSpec.upto canonFieldsSpec)

/-- 'abutmentlaw49.TallyCounts', WHERE WHAT IT READS IS OF BULK AT MOST 1048576: true; the input reads as it did. -/
def tallyCountsUptoRow : OpenClaim := { program := "ytdpohibgipkhnaa", sum := "f2e26002b1df8bc10e0f975a1e220de1e30d694e4f2b583cb04767e3404415f2", func := "abutment/abutmentlaw49.TallyCounts", spec := "tallyCounts", unfollowed := true, recurses := true, apart := false, narrowed := true }
def TallyCountsUptoSaid : Prop := tallyCountsUptoRow.holds Try.pinned (OpenSpec.upto tallyCountsSpec)

/-- 'abutmentlaw49.TallyParts', WHERE WHAT IT READS IS OF BULK AT MOST 1048576: true; the input reads as it did. -/
def tallyPartsUptoRow : OpenClaim := { program := "ytdpohibgipkhnaa", sum := "f2e26002b1df8bc10e0f975a1e220de1e30d694e4f2b583cb04767e3404415f2", func := "abutment/abutmentlaw49.TallyParts", spec := "tallyParts", unfollowed := true, recurses := true, apart := false, narrowed := true }
def TallyPartsUptoSaid : Prop := tallyPartsUptoRow.holds Try.pinned (OpenSpec.upto tallyPartsSpec)

/-- 'abutmentlaw49.TallyTells', WHERE WHAT IT READS IS OF BULK AT MOST 1048576: true; the input reads as it did. -/
def tallyTellsUptoRow : OpenClaim := { program := "ytdpohibgipkhnaa", sum := "f2e26002b1df8bc10e0f975a1e220de1e30d694e4f2b583cb04767e3404415f2", func := "abutment/abutmentlaw49.TallyTells", spec := "tallyTells", unfollowed := true, recurses := true, apart := false, narrowed := true }
def TallyTellsUptoSaid : Prop := tallyTellsUptoRow.holds Try.pinned (OpenSpec.upto tallyTellsSpec)

end Rows
end Go.Proofs.Ytdpohibgipkhnaa
