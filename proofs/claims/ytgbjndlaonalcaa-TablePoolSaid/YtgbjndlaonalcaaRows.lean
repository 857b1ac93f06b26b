/-
  No cell of these rows narrows 'for every input' (looked for: loops, veiled, ifaces, maps, wideKeys, modest, calm, conditions, laid).
  DERIVED. THE GIVEN ROWS OF THIS SEAT. 12 by the template 'for every input the law returns true; each argument reads behind the call as it read before'; 0 by the template 'total and deterministic' (their statements: YtgbjndlaonalcaaTotals.lean).
  GIVEN WITH THE SEED: the statements are not yours to turn. If you find one false, say at which input.
  Laid BY PROGRAM, IN A SANDBOX (cutbox-rows.mjs): the forced cells as the released guide's own fill.sh prints them over the translation 066c70872fc1aa36… (all of the seat's roots in one cut). By AI agents, Wed Nov 11 2026. No macro, syntax, notation, axiom, sorry.
-/
import Derived.Test.YtgbjndlaonalcaaChecked
import GoSem.Claim
import GoSem.ClaimJoined
import GoSem.ClaimMapViews
import Derived.JoinedTies
import Derived.KernelRfl
namespace Go.Proofs.Ytgbjndlaonalcaa
/- THE CELL 'sum', in the pinned program and in every row, IS THE sha256 OF THE DUMP (.gsa) THAT YtgbjndlaonalcaaProg.lean LOADS. Nothing in Lean hashes anything: it is a label: what it is worth is what the hold of that sum in a sandbox is worth. -/
noncomputable def Try.pinned : Pinned := { name := "ytgbjndlaonalcaa", sum := "066c70872fc1aa366c532d63317e6d96ff505b5b497ddccaa1342871e8fb131c", checked := Try.checked }
namespace Rows
def none {H : Type} : Left H := { results := [], args := [] }

/-- 'abutmentlaw16.LinesFeed': WHATEVER THE INPUT: true; the input reads as it did. -/
def linesFeedSpec : ChangeSpec := { name := "linesFeed", fn := fun _ => fun
  | [d1, d2] => { results := [.lit (.bool true)], args := [d1, d2] }
  | _ => none }
def linesFeedRow : OpenClaim := { program := "ytgbjndlaonalcaa", sum := "066c70872fc1aa366c532d63317e6d96ff505b5b497ddccaa1342871e8fb131c", func := "abutment/abutmentlaw16.LinesFeed", spec := "linesFeed", unfollowed := true, recurses := true, apart := false }
def LinesFeedSaid : Prop := linesFeedRow.holds Try.pinned (OpenSpec.ofChange linesFeedSpec)

/-- ITS FALSE NEIGHBOUR: 'it returns false'. Refute it at one input. -/
def linesFeedWrong : ChangeSpec := { name := "linesFeed", fn := fun _ => fun
  | [d1, d2] => { results := [.lit (.bool false)], args := [d1, d2] }
  | _ => none }
def LinesFeedWrongFalsely : Prop := linesFeedRow.holds Try.pinned (OpenSpec.ofChange linesFeedWrong)

/-- 'abutmentlaw16.LinesCuts': WHATEVER THE INPUT: true; the input reads as it did. -/
def linesCutsSpec : ChangeSpec := { name := "linesCuts", fn := fun _ => fun
  | [d1, d2] => { results := [.lit (.bool true)], args := [d1, d2] }
  | _ => none }
def linesCutsRow : OpenClaim := { program := "ytgbjndlaonalcaa", sum := "066c70872fc1aa366c532d63317e6d96ff505b5b497ddccaa1342871e8fb131c", func := "abutment/abutmentlaw16.LinesCuts", spec := "linesCuts", unfollowed := true, recurses := true, apart := false }
def LinesCutsSaid : Prop := linesCutsRow.holds Try.pinned (OpenSpec.ofChange linesCutsSpec)

/-- ITS FALSE NEIGHBOUR: 'it returns false'. Refute it at one input. -/
def linesCutsWrong : ChangeSpec := { name := "linesCuts", fn := fun _ => fun
  | [d1, d2] => { results := [.lit (.bool false)], args := [d1, d2] }
  | _ => none }
def LinesCutsWrongFalsely : Prop := linesCutsRow.holds Try.pinned (OpenSpec.ofChange linesCutsWrong)

/-- 'abutmentlaw16.LinesNone': WHATEVER THE INPUT: true; the input reads as it did. -/
def linesNoneSpec : ChangeSpec := { name := "linesNone", fn := fun _ => fun
  | [d] => { results := [.lit (.bool true)], args := [d] }
  | _ => none }
def linesNoneRow : OpenClaim := { program := "ytgbjndlaonalcaa", sum := "066c70872fc1aa366c532d63317e6d96ff505b5b497ddccaa1342871e8fb131c", func := "abutment/abutmentlaw16.LinesNone", spec := "linesNone", unfollowed := true, recurses := true, apart := false }
def LinesNoneSaid : Prop := linesNoneRow.holds Try.pinned (OpenSpec.ofChange linesNoneSpec)

/-- ITS FALSE NEIGHBOUR: 'it returns false'. Refute it at one input. -/
def linesNoneWrong : ChangeSpec := { name := "linesNone", fn := fun _ => fun
  | [d] => { results := [.lit (.bool false)], args := [d] }
  | _ => none }
def LinesNoneWrongFalsely : Prop := linesNoneRow.holds Try.pinned (OpenSpec.ofChange linesNoneWrong)

/-- 'abutmentlaw01.OctetFolds': WHATEVER THE INPUT: true; the input reads as it did. -/
def octetFoldsSpec : ChangeSpec := { name := "octetFolds", fn := fun _ => fun
  | [d1, d2] => { results := [.lit (.bool true)], args := [d1, d2] }
  | _ => none }
def octetFoldsRow : OpenClaim := { program := "ytgbjndlaonalcaa", sum := "066c70872fc1aa366c532d63317e6d96ff505b5b497ddccaa1342871e8fb131c", func := "abutment/abutmentlaw01.OctetFolds", spec := "octetFolds", unfollowed := true, recurses := true, apart := false }
def OctetFoldsSaid : Prop := octetFoldsRow.holds Try.pinned (OpenSpec.ofChange octetFoldsSpec)

/-- ITS FALSE NEIGHBOUR: 'it returns false'. Refute it at one input. -/
def octetFoldsWrong : ChangeSpec := { name := "octetFolds", fn := fun _ => fun
  | [d1, d2] => { results := [.lit (.bool false)], args := [d1, d2] }
  | _ => none }
def OctetFoldsWrongFalsely : Prop := octetFoldsRow.holds Try.pinned (OpenSpec.ofChange octetFoldsWrong)

/-- 'abutmentlaw44.ActTells': WHATEVER THE INPUT: true; the input reads as it did. -/
def actTellsSpec : ChangeSpec := { name := "actTells", fn := fun _ => fun
  | [d1, d2] => { results := [.lit (.bool true)], args := [d1, d2] }
  | _ => none }
def actTellsRow : OpenClaim := { program := "ytgbjndlaonalcaa", sum := "066c70872fc1aa366c532d63317e6d96ff505b5b497ddccaa1342871e8fb131c", func := "abutment/abutmentlaw44.ActTells", spec := "actTells", unfollowed := true, recurses := true, apart := false }
def ActTellsSaid : Prop := actTellsRow.holds Try.pinned (OpenSpec.ofChange actTellsSpec)

/-- ITS FALSE NEIGHBOUR: 'it returns false'. Refute it at one input. -/
def actTellsWrong : ChangeSpec := { name := "actTells", fn := fun _ => fun
  | [d1, d2] => { results := [.lit (.bool false)], args := [d1, d2] }
  | _ => none }
def ActTellsWrongFalsely : Prop := actTellsRow.holds Try.pinned (OpenSpec.ofChange actTellsWrong)

/-- 'abutmentlaw44.ActEvents': WHATEVER THE INPUT: true; the input reads as it did. -/
def actEventsSpec : ChangeSpec := { name := "actEvents", fn := fun _ => fun
  | [d1, d2, d3] => { results := [.lit (.bool true)], args := [d1, d2, d3] }
  | _ => none }
def actEventsRow : OpenClaim := { program := "ytgbjndlaonalcaa", sum := "066c70872fc1aa366c532d63317e6d96ff505b5b497ddccaa1342871e8fb131c", func := "abutment/abutmentlaw44.ActEvents", spec := "actEvents", unfollowed := true, recurses := true, apart := false }
def ActEventsSaid : Prop := actEventsRow.holds Try.pinned (OpenSpec.ofChange actEventsSpec)

/-- ITS FALSE NEIGHBOUR: 'it returns false'. Refute it at one input. -/
def actEventsWrong : ChangeSpec := { name := "actEvents", fn := fun _ => fun
  | [d1, d2, d3] => { results := [.lit (.bool false)], args := [d1, d2, d3] }
  | _ => none }
def ActEventsWrongFalsely : Prop := actEventsRow.holds Try.pinned (OpenSpec.ofChange actEventsWrong)

/-- 'abutmentlaw01.OctetKeeps': WHATEVER THE INPUT: true; the input reads as it did. -/
def octetKeepsSpec : ChangeSpec := { name := "octetKeeps", fn := fun _ => fun
  | [d1, d2, d3] => { results := [.lit (.bool true)], args := [d1, d2, d3] }
  | _ => none }
def octetKeepsRow : OpenClaim := { program := "ytgbjndlaonalcaa", sum := "066c70872fc1aa366c532d63317e6d96ff505b5b497ddccaa1342871e8fb131c", func := "abutment/abutmentlaw01.OctetKeeps", spec := "octetKeeps", unfollowed := true, recurses := true, apart := false }
def OctetKeepsSaid : Prop := octetKeepsRow.holds Try.pinned (OpenSpec.ofChange octetKeepsSpec)

/-- ITS FALSE NEIGHBOUR: 'it returns false'. Refute it at one input. -/
def octetKeepsWrong : ChangeSpec := { name := "octetKeeps", fn := fun _ => fun
  | [d1, d2, d3] => { results := [.lit (.bool false)], args := [d1, d2, d3] }
  | _ => none }
def OctetKeepsWrongFalsely : Prop := octetKeepsRow.holds Try.pinned (OpenSpec.ofChange octetKeepsWrong)

/-- 'abutmentlaw01.OctetClasses': WHATEVER THE INPUT: true; the input reads as it did. -/
def octetClassesSpec : ChangeSpec := { name := "octetClasses", fn := fun _ => fun
  | [d1, d2] => { results := [.lit (.bool true)], args := [d1, d2] }
  | _ => none }
def octetClassesRow : OpenClaim := { program := "ytgbjndlaonalcaa", sum := "066c70872fc1aa366c532d63317e6d96ff505b5b497ddccaa1342871e8fb131c", func := "abutment/abutmentlaw01.OctetClasses", spec := "octetClasses", unfollowed := true, recurses := true, apart := false }
def OctetClassesSaid : Prop := octetClassesRow.holds Try.pinned (OpenSpec.ofChange octetClassesSpec)

/-- ITS FALSE NEIGHBOUR: 'it returns false'. Refute it at one input. -/
def octetClassesWrong : ChangeSpec := { name := "octetClasses", fn := fun _ => fun
  | [d1, d2] => { results := [.lit (.bool false)], args := [d1, d2] }
  | _ => none }
def OctetClassesWrongFalsely : Prop := octetClassesRow.holds Try.pinned (OpenSpec.ofChange octetClassesWrong)

/-- 'abutmentlaw40.TablePlays': WHATEVER THE INPUT: true; the input reads as it did. -/
def tablePlaysSpec : ChangeSpec := { name := "tablePlays", fn := fun _ => fun
  | [d1, d2] => { results := [.lit (.bool true)], args := [d1, d2] }
  | _ => none }
def tablePlaysRow : OpenClaim := { program := "ytgbjndlaonalcaa", sum := "066c70872fc1aa366c532d63317e6d96ff505b5b497ddccaa1342871e8fb131c", func := "abutment/abutmentlaw40.TablePlays", spec := "tablePlays", unfollowed := true, recurses := true, apart := false }
def TablePlaysSaid : Prop := tablePlaysRow.holds Try.pinned (OpenSpec.ofChange tablePlaysSpec)

/-- ITS FALSE NEIGHBOUR: 'it returns false'. Refute it at one input. -/
def tablePlaysWrong : ChangeSpec := { name := "tablePlays", fn := fun _ => fun
  | [d1, d2] => { results := [.lit (.bool false)], args := [d1, d2] }
  | _ => none }
def TablePlaysWrongFalsely : Prop := tablePlaysRow.holds Try.pinned (OpenSpec.ofChange tablePlaysWrong)

/-- 'abutmentlaw44.ActAsserts': WHATEVER THE INPUT: true; the input reads as it did. -/
def actAssertsSpec : ChangeSpec := { name := "actAsserts", fn := fun _ => fun
  | [d] => { results := [.lit (.bool true)], args := [d] }
  | _ => none }
def actAssertsRow : OpenClaim := { program := "ytgbjndlaonalcaa", sum := "066c70872fc1aa366c532d63317e6d96ff505b5b497ddccaa1342871e8fb131c", func := "abutment/abutmentlaw44.ActAsserts", spec := "actAsserts", unfollowed := true, recurses := true, apart := false }
def ActAssertsSaid : Prop := actAssertsRow.holds Try.pinned (OpenSpec.ofChange actAssertsSpec)

/-- ITS FALSE NEIGHBOUR: 'it returns false'. Refute it at one input. -/
def actAssertsWrong : ChangeSpec := { name := "actAsserts", fn := fun _ => fun
  | [d] => { results := [.lit (.bool false)], args := [d] }
  | _ => none }
def ActAssertsWrongFalsely : Prop := actAssertsRow.holds Try.pinned (OpenSpec.ofChange actAssertsWrong)

/-- 'abutmentlaw40.TablePool': WHATEVER THE INPUT: true; the input reads as it did. -/
def tablePoolSpec : ChangeSpec := { name := "tablePool", fn := fun _ => fun
  | [d] => { results := [.lit (.bool true)], args := [d] }
  | _ => none }
def tablePoolRow : OpenClaim := { program := "ytgbjndlaonalcaa", sum := "066c70872fc1aa366c532d63317e6d96ff505b5b497ddccaa1342871e8fb131c", func := "abutment/abutmentlaw40.TablePool", spec := "tablePool", unfollowed := true, recurses := true, apart := false }
def TablePoolSaid : Prop := tablePoolRow.holds Try.pinned (OpenSpec.ofChange tablePoolSpec)

/-- ITS FALSE NEIGHBOUR: 'it returns false'. Refute it at one input. -/
def tablePoolWrong : ChangeSpec := { name := "tablePool", fn := fun _ => fun
  | [d] => { results := [.lit (.bool false)], args := [d] }
  | _ => none }
def TablePoolWrongFalsely : Prop := tablePoolRow.holds Try.pinned (OpenSpec.ofChange tablePoolWrong)

/-- 'abutmentlaw40.TableNone': WHATEVER THE INPUT: true; the input reads as it did. -/
def tableNoneSpec : ChangeSpec := { name := "tableNone", fn := fun _ => fun
  | [d1, d2] => { results := [.lit (.bool true)], args := [d1, d2] }
  | _ => none }
def tableNoneRow : OpenClaim := { program := "ytgbjndlaonalcaa", sum := "066c70872fc1aa366c532d63317e6d96ff505b5b497ddccaa1342871e8fb131c", func := "abutment/abutmentlaw40.TableNone", spec := "tableNone", unfollowed := true, recurses := true, apart := false }
def TableNoneSaid : Prop := tableNoneRow.holds Try.pinned (OpenSpec.ofChange tableNoneSpec)

/-- ITS FALSE NEIGHBOUR: 'it returns false'. Refute it at one input. -/
def tableNoneWrong : ChangeSpec := { name := "tableNone", fn := fun _ => fun
  | [d1, d2] => { results := [.lit (.bool false)], args := [d1, d2] }
  | _ => none }
def TableNoneWrongFalsely : Prop := tableNoneRow.holds Try.pinned (OpenSpec.ofChange tableNoneWrong)

/- THE SECOND FORM. 'bulk': how many values and letters a reading holds, each counted each time it is reached (what is shared counts as often as it is met; a slice's spare places count too). A statement '..UptoSaid' is the law's where the arguments, and the package variables that the reading takes, are together of bulk at most 1048576: NARROWER than '..Said'. Prove '..Said' where nothing that the law and all that it calls make is longer than what came in: it says more and counts as full. Else prove '..UptoSaid'. A law counts once. -/
mutual
def uptoBulk {H : Type} : DataW H → Nat
  | .lit (.string bytes) => bytes.length + 1
  | .lit _ => 1
  | .nil => 1
  | .ptr d => uptoBulk d + 1
  | .slice elems spare => uptoBulkAll elems + uptoBulkAll spare + 1
  | .agg parts => uptoBulkAll parts + 1
  | .iface _ d => uptoBulk d + 1
  | .map entries => uptoBulkEntries entries + 1
  | .held _ => 1
def uptoBulkAll {H : Type} : List (DataW H) → Nat
  | [] => 0
  | d :: r => uptoBulk d + uptoBulkAll r
def uptoBulkEntries {H : Type} : List (Lit × DataW H) → Nat
  | [] => 0
  | x :: r => uptoBulkEntry x + uptoBulkEntries r
def uptoBulkEntry {H : Type} : Lit × DataW H → Nat
  | (.string bytes, d) => bytes.length + uptoBulk d + 1
  | (_, d) => uptoBulk d + 1
 end
def uptoSmall : (H : Type) → List (DataW H) → Bool := fun _ ds => decide (uptoBulkAll ds ≤ 1048576)
def OpenSpec.upto (s : _root_.Go.ChangeSpec) : _root_.Go.OpenSpec := { _root_.Go.OpenSpec.ofChange s with cond := some uptoSmall }

/-- 'abutmentlaw16.LinesFeed', WHERE WHAT IT READS IS OF BULK AT MOST 1048576: true; the input reads as it did. -/
def linesFeedUptoRow : OpenClaim := { program := "ytgbjndlaonalcaa", sum := "066c70872fc1aa366c532d63317e6d96ff505b5b497ddccaa1342871e8fb131c", func := "abutment/abutmentlaw16.LinesFeed", spec := "linesFeed", unfollowed := true, recurses := true, apart := false, narrowed := true }
def LinesFeedUptoSaid : Prop := linesFeedUptoRow.holds Try.pinned (OpenSpec.upto linesFeedSpec)

/-- 'abutmentlaw16.LinesCuts', WHERE WHAT IT READS IS OF BULK AT MOST 1048576: true; the input reads as it did. -/
def linesCutsUptoRow : OpenClaim := { program := "ytgbjndlaonalcaa", sum := "066c70872fc1aa366c532d63317e6d96ff505b5b497ddccaa1342871e8fb131c", func := "abutment/abutmentlaw16.LinesCuts", spec := "linesCuts", unfollowed := true, recurses := true, apart := false, narrowed := true }
def LinesCutsUptoSaid : Prop := linesCutsUptoRow.holds Try.pinned (OpenSpec.upto linesCutsSpec)

/-- 'abutmentlaw16.LinesNone', WHERE WHAT IT READS IS OF BULK AT MOST 1048576: true; the input reads as it did. -/
def linesNoneUptoRow : OpenClaim := { program := "ytgbjndlaonalcaa", sum := "066c70872fc1aa366c532d63317e6d96ff505b5b497ddccaa1342871e8fb131c", func := "abutment/abutmentlaw16.LinesNone", spec := "linesNone", unfollowed := true, recurses := true, apart := false, narrowed := true }
def LinesNoneUptoSaid : Prop := linesNoneUptoRow.holds Try.pinned (OpenSpec.upto linesNoneSpec)

/-- 'abutmentlaw01.OctetFolds', WHERE WHAT IT READS IS OF BULK AT MOST 1048576: true; the input reads as it did. -/
def octetFoldsUptoRow : OpenClaim := { program := "ytgbjndlaonalcaa", sum := "066c70872fc1aa366c532d63317e6d96ff505b5b497ddccaa1342871e8fb131c", func := "abutment/abutmentlaw01.OctetFolds", spec := "octetFolds", unfollowed := true, recurses := true, apart := false, narrowed := true }
def OctetFoldsUptoSaid : Prop := octetFoldsUptoRow.holds Try.pinned (OpenSpec.upto octetFoldsSpec)

/-- 'abutmentlaw44.ActTells', WHERE WHAT IT READS IS OF BULK AT MOST 1048576: true; the input reads as it did. -/
def actTellsUptoRow : OpenClaim := { program := "ytgbjndlaonalcaa", sum := "066c70872fc1aa366c532d63317e6d96ff505b5b497ddccaa1342871e8fb131c", func := "abutment/abutmentlaw44.ActTells", spec := "actTells", unfollowed := true, recurses := true, apart := false, narrowed := true }
def ActTellsUptoSaid : Prop := actTellsUptoRow.holds Try.pinned (OpenSpec.upto actTellsSpec)

/-- 'abutmentlaw44.ActEvents', WHERE WHAT IT READS IS OF BULK AT MOST 1048576: true; the input reads as it did. -/
def actEventsUptoRow : OpenClaim := { program := "ytgbjndlaonalcaa", sum := "066c70872fc1aa366c532d63317e6d96ff505b5b497ddccaa1342871e8fb131c", func := "abutment/abutmentlaw44.ActEvents", spec := "actEvents", unfollowed := true, recurses := true, apart := false, narrowed := true }
def ActEventsUptoSaid : Prop := actEventsUptoRow.holds Try.pinned (OpenSpec.upto actEventsSpec)

/-- 'abutmentlaw01.OctetKeeps', WHERE WHAT IT READS IS OF BULK AT MOST 1048576: true; the input reads as it did. -/
def octetKeepsUptoRow : OpenClaim := { program := "ytgbjndlaonalcaa", sum := "066c70872fc1aa366c532d63317e6d96ff505b5b497ddccaa1342871e8fb131c", func := "abutment/abutmentlaw01.OctetKeeps", spec := "octetKeeps", unfollowed := true, recurses := true, apart := false, narrowed := true }
def OctetKeepsUptoSaid : Prop := octetKeepsUptoRow.holds Try.pinned (OpenSpec.upto octetKeepsSpec)

/-- 'abutmentlaw01.OctetClasses', WHERE WHAT IT READS IS OF BULK AT MOST 1048576: true; the input reads as it did. -/
def octetClassesUptoRow : OpenClaim := { program := "ytgbjndlaonalcaa", sum := "066c70872fc1aa366c532d63317e6d96ff505b5b497ddccaa1342871e8fb131c", func := "abutment/abutmentlaw01.OctetClasses", spec := "octetClasses", unfollowed := true, recurses := true, apart := false, narrowed := true }
def OctetClassesUptoSaid : Prop := octetClassesUptoRow.holds Try.pinned (OpenSpec.upto octetClassesSpec)

/-- 'abutmentlaw40.TablePlays', WHERE WHAT IT READS IS OF BULK AT MOST 1048576: true; the input reads as it did. -/
def tablePlaysUptoRow : OpenClaim := { program := "ytgbjndlaonalcaa", sum := "066c70872fc1aa366c532d63317e6d96ff505b5b497ddccaa1342871e8fb131c", func := "abutment/abutmentlaw40.TablePlays", spec := "tablePlays", unfollowed := true, recurses := true, apart := false, narrowed := true }
def TablePlaysUptoSaid : Prop := tablePlaysUptoRow.holds Try.pinned (OpenSpec.upto tablePlaysSpec)

/-- 'abutmentlaw44.ActAsserts', WHERE WHAT IT READS IS OF BULK AT MOST 1048576: true; the input reads as it did. -/
def actAssertsUptoRow : OpenClaim := { program := "ytgbjndlaonalcaa", sum := "066c70872fc1aa366c532d63317e6d96ff505b5b497ddccaa1342871e8fb131c", func := "abutment/abutmentlaw44.ActAsserts", spec := "actAsserts", unfollowed := true, recurses := true, apart := false, narrowed := true }
def ActAssertsUptoSaid : Prop := actAssertsUptoRow.holds Try.pinned (OpenSpec.upto actAssertsSpec)

/-- 'abutmentlaw40.TablePool', WHERE WHAT IT READS IS OF BULK AT MOST 1048576: true; the input reads as it did. -/
def tablePoolUptoRow : OpenClaim := { program := "ytgbjndlaonalcaa", sum := "066c70872fc1aa366c532d63317e6d96ff505b5b497ddccaa1342871e8fb131c", func := "abutment/abutmentlaw40.TablePool", spec := "tablePool", unfollowed := true, recurses := true, apart := false, narrowed := true }
def TablePoolUptoSaid : Prop := tablePoolUptoRow.holds Try.pinned (OpenSpec.upto tablePoolSpec)

/-- 'abutmentlaw40.TableNone', WHERE WHAT IT READS IS OF BULK AT MOST 1048576: true; the input reads as it did. -/
def tableNoneUptoRow : OpenClaim := { program := "ytgbjndlaonalcaa", sum := "066c70872fc1aa366c532d63317e6d96ff505b5b497ddccaa1342871e8fb131c", func := "abutment/abutmentlaw40.TableNone", spec := "tableNone", unfollowed := true, recurses := true, apart := false, narrowed := true }
def TableNoneUptoSaid : Prop := tableNoneUptoRow.holds Try.pinned (OpenSpec.upto tableNoneSpec)

end Rows
end Go.Proofs.Ytgbjndlaonalcaa
