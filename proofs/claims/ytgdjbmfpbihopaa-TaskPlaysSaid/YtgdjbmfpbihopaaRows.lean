/-
  No cell of these rows narrows 'for every input' (looked for: loops, veiled, ifaces, maps, wideKeys, modest, calm, conditions, laid).
  DERIVED. THE GIVEN ROWS OF THIS SEAT. 6 by the template 'for every input the law returns true; each argument reads behind the call as it read before'; 0 by the template 'total and deterministic' (their statements: YtgdjbmfpbihopaaTotals.lean).
  GIVEN WITH THE SEED: the statements are not yours to turn. If you find one false, say at which input.
  Laid BY PROGRAM, IN A SANDBOX (cutbox-rows.mjs): the forced cells as the released guide's own fill.sh prints them over the translation 621fcc7e3528eae2… (all of the seat's roots in one cut). By AI agents, Wed Nov 11 2026. No macro, syntax, notation, axiom, sorry.
-/
import Derived.Test.YtgdjbmfpbihopaaChecked
import GoSem.Claim
import GoSem.ClaimJoined
import GoSem.ClaimMapViews
import Derived.JoinedTies
import Derived.KernelRfl
namespace Go.Proofs.Ytgdjbmfpbihopaa
/- THE CELL 'sum', in the pinned program and in every row, IS THE sha256 OF THE DUMP (.gsa) THAT YtgdjbmfpbihopaaProg.lean LOADS. Nothing in Lean hashes anything: it is a label: what it is worth is what the hold of that sum in a sandbox is worth. -/
noncomputable def Try.pinned : Pinned := { name := "ytgdjbmfpbihopaa", sum := "621fcc7e3528eae21b36c655d406e32485d768641291d693f9907ede39c08cfd", checked := Try.checked }
namespace Rows
def none {H : Type} : Left H := { results := [], args := [] }

/-- 'gatepostlaw18.TaskNobody': WHATEVER THE INPUT: true; the input reads as it did. -/
def taskNobodySpec : ChangeSpec := { name := "taskNobody", fn := fun _ => fun
  | [d] => { results := [.lit (.bool true)], args := [d] }
  | _ => none }
def taskNobodyRow : OpenClaim := { program := "ytgdjbmfpbihopaa", sum := "621fcc7e3528eae21b36c655d406e32485d768641291d693f9907ede39c08cfd", func := "gatepost/gatepostlaw18.TaskNobody", spec := "taskNobody", unfollowed := true, recurses := true, apart := false }
def TaskNobodySaid : Prop := taskNobodyRow.holds Try.pinned (OpenSpec.ofChange taskNobodySpec)

/-- ITS FALSE NEIGHBOUR: 'it returns false'. Refute it at one input. -/
def taskNobodyWrong : ChangeSpec := { name := "taskNobody", fn := fun _ => fun
  | [d] => { results := [.lit (.bool false)], args := [d] }
  | _ => none }
def TaskNobodyWrongFalsely : Prop := taskNobodyRow.holds Try.pinned (OpenSpec.ofChange taskNobodyWrong)

/-- 'gatepostlaw18.TaskCross': WHATEVER THE INPUT: true; the input reads as it did. -/
def taskCrossSpec : ChangeSpec := { name := "taskCross", fn := fun _ => fun
  | [d1, d2] => { results := [.lit (.bool true)], args := [d1, d2] }
  | _ => none }
def taskCrossRow : OpenClaim := { program := "ytgdjbmfpbihopaa", sum := "621fcc7e3528eae21b36c655d406e32485d768641291d693f9907ede39c08cfd", func := "gatepost/gatepostlaw18.TaskCross", spec := "taskCross", unfollowed := true, recurses := true, apart := false }
def TaskCrossSaid : Prop := taskCrossRow.holds Try.pinned (OpenSpec.ofChange taskCrossSpec)

/-- ITS FALSE NEIGHBOUR: 'it returns false'. Refute it at one input. -/
def taskCrossWrong : ChangeSpec := { name := "taskCross", fn := fun _ => fun
  | [d1, d2] => { results := [.lit (.bool false)], args := [d1, d2] }
  | _ => none }
def TaskCrossWrongFalsely : Prop := taskCrossRow.holds Try.pinned (OpenSpec.ofChange taskCrossWrong)

/-- 'gatepostlaw18.TaskOrder': WHATEVER THE INPUT: true; the input reads as it did. -/
def taskOrderSpec : ChangeSpec := { name := "taskOrder", fn := fun _ => fun
  | [d1, d2] => { results := [.lit (.bool true)], args := [d1, d2] }
  | _ => none }
def taskOrderRow : OpenClaim := { program := "ytgdjbmfpbihopaa", sum := "621fcc7e3528eae21b36c655d406e32485d768641291d693f9907ede39c08cfd", func := "gatepost/gatepostlaw18.TaskOrder", spec := "taskOrder", unfollowed := true, recurses := true, apart := false }
def TaskOrderSaid : Prop := taskOrderRow.holds Try.pinned (OpenSpec.ofChange taskOrderSpec)

/-- ITS FALSE NEIGHBOUR: 'it returns false'. Refute it at one input. -/
def taskOrderWrong : ChangeSpec := { name := "taskOrder", fn := fun _ => fun
  | [d1, d2] => { results := [.lit (.bool false)], args := [d1, d2] }
  | _ => none }
def TaskOrderWrongFalsely : Prop := taskOrderRow.holds Try.pinned (OpenSpec.ofChange taskOrderWrong)

/-- 'gatepostlaw18.TaskPipes': WHATEVER THE INPUT: true; the input reads as it did. -/
def taskPipesSpec : ChangeSpec := { name := "taskPipes", fn := fun _ => fun
  | [d1, d2, d3] => { results := [.lit (.bool true)], args := [d1, d2, d3] }
  | _ => none }
def taskPipesRow : OpenClaim := { program := "ytgdjbmfpbihopaa", sum := "621fcc7e3528eae21b36c655d406e32485d768641291d693f9907ede39c08cfd", func := "gatepost/gatepostlaw18.TaskPipes", spec := "taskPipes", unfollowed := true, recurses := true, apart := false }
def TaskPipesSaid : Prop := taskPipesRow.holds Try.pinned (OpenSpec.ofChange taskPipesSpec)

/-- ITS FALSE NEIGHBOUR: 'it returns false'. Refute it at one input. -/
def taskPipesWrong : ChangeSpec := { name := "taskPipes", fn := fun _ => fun
  | [d1, d2, d3] => { results := [.lit (.bool false)], args := [d1, d2, d3] }
  | _ => none }
def TaskPipesWrongFalsely : Prop := taskPipesRow.holds Try.pinned (OpenSpec.ofChange taskPipesWrong)

/-- 'gatepostlaw18.TaskWords': WHATEVER THE INPUT: true; the input reads as it did. -/
def taskWordsSpec : ChangeSpec := { name := "taskWords", fn := fun _ => fun
  | [d1, d2] => { results := [.lit (.bool true)], args := [d1, d2] }
  | _ => none }
def taskWordsRow : OpenClaim := { program := "ytgdjbmfpbihopaa", sum := "621fcc7e3528eae21b36c655d406e32485d768641291d693f9907ede39c08cfd", func := "gatepost/gatepostlaw18.TaskWords", spec := "taskWords", unfollowed := true, recurses := true, apart := false }
def TaskWordsSaid : Prop := taskWordsRow.holds Try.pinned (OpenSpec.ofChange taskWordsSpec)

/-- ITS FALSE NEIGHBOUR: 'it returns false'. Refute it at one input. -/
def taskWordsWrong : ChangeSpec := { name := "taskWords", fn := fun _ => fun
  | [d1, d2] => { results := [.lit (.bool false)], args := [d1, d2] }
  | _ => none }
def TaskWordsWrongFalsely : Prop := taskWordsRow.holds Try.pinned (OpenSpec.ofChange taskWordsWrong)

/-- 'gatepostlaw18.TaskPlays': WHATEVER THE INPUT: true; the input reads as it did. -/
def taskPlaysSpec : ChangeSpec := { name := "taskPlays", fn := fun _ => fun
  | [d1, d2, d3] => { results := [.lit (.bool true)], args := [d1, d2, d3] }
  | _ => none }
def taskPlaysRow : OpenClaim := { program := "ytgdjbmfpbihopaa", sum := "621fcc7e3528eae21b36c655d406e32485d768641291d693f9907ede39c08cfd", func := "gatepost/gatepostlaw18.TaskPlays", spec := "taskPlays", unfollowed := true, recurses := true, apart := false }
def TaskPlaysSaid : Prop := taskPlaysRow.holds Try.pinned (OpenSpec.ofChange taskPlaysSpec)

/-- ITS FALSE NEIGHBOUR: 'it returns false'. Refute it at one input. -/
def taskPlaysWrong : ChangeSpec := { name := "taskPlays", fn := fun _ => fun
  | [d1, d2, d3] => { results := [.lit (.bool false)], args := [d1, d2, d3] }
  | _ => none }
def TaskPlaysWrongFalsely : Prop := taskPlaysRow.holds Try.pinned (OpenSpec.ofChange taskPlaysWrong)

/- THE SECOND FORM. 'bulk': how many values and letters a reading holds, each counted each time it is reached (what is shared counts as often as it is met; a slice's spare places count too). A statement '..UptoSaid' is the law's where the arguments, and the package variables that the reading takes, are together of bulk at most 1048576: NARROWER than '..Said'. Prove '..Said' where nothing that the law and all that it calls make is longer than what came in: it says more and counts as full. Else prove '..UptoSaid'. A law counts once. -/
mutual
def uptoBulk {H : Type} : DataW H → Nat
  | .lit (.string bytes) => bytes.length + 1
  | .lit _ => 1
  | .nil => 1
  | .ptr d => uptoBulk d + 1
  | .slice elems spare => uptoBulkAll elems + uptoBulkAll spare + 1
  | .agg parts => uptoBulkAll parts + 1
  | .iface _ d => uptoBulk d + 1
  | .map entries => uptoBulkEntries entries + 1
  | .held _ => 1
def uptoBulkAll {H : Type} : List (DataW H) → Nat
  | [] => 0
  | d :: r => uptoBulk d + uptoBulkAll r
def uptoBulkEntries {H : Type} : List (Lit × DataW H) → Nat
  | [] => 0
  | x :: r => uptoBulkEntry x + uptoBulkEntries r
def uptoBulkEntry {H : Type} : Lit × DataW H → Nat
  | (.string bytes, d) => bytes.length + uptoBulk d + 1
  | (_, d) => uptoBulk d + 1
 end
def uptoSmall : (H : Type) → List (DataW H) → Bool := fun _ ds => decide (uptoBulkAll ds ≤ 1048576)
def OpenSpec.upto (s : _root_.Go.ChangeSpec) : _root_.Go.OpenSpec := { _root_.Go.OpenSpec.ofChange s with cond := some uptoSmall }

/-- 'gatepostlaw18.TaskNobody', WHERE WHAT IT READS IS OF BULK AT MOST 1048576: true; the input reads as it did. -/
def taskNobodyUptoRow : OpenClaim := { program := "ytgdjbmfpbihopaa", sum := "621fcc7e3528eae21b36c655d406e32485d768641291d693f9907ede39c08cfd", func := "gatepost/gatepostlaw18.TaskNobody", spec := "taskNobody", unfollowed := true, recurses := true, apart := false, narrowed := true }
def TaskNobodyUptoSaid : Prop := taskNobodyUptoRow.holds Try.pinned (OpenSpec.upto taskNobodySpec)

/-- 'gatepostlaw18.TaskCross', WHERE WHAT IT READS IS OF BULK AT MOST 1048576: true; the input reads as it did. -/
def taskCrossUptoRow : OpenClaim := { program := "ytgdjbmfpbihopaa", sum := "621fcc7e3528eae21b36c655d406e32485d768641291d693f9907ede39c08cfd", func := "gatepost/gatepostlaw18.TaskCross", spec := "taskCross", unfollowed := true, recurses := true, apart := false, narrowed := true }
def TaskCrossUptoSaid : Prop := taskCrossUptoRow.holds Try.pinned (OpenSpec.upto taskCrossSpec)

/-- 'gatepostlaw18.TaskOrder', WHERE WHAT IT READS IS OF BULK AT MOST 1048576: true; the input reads as it did. -/
def taskOrderUptoRow : OpenClaim := { program := "ytgdjbmfpbihopaa", sum := "621fcc7e3528eae21b36c655d406e32485d768641291d693f9907ede39c08cfd", func := "gatepost/gatepostlaw18.TaskOrder", spec := "taskOrder", unfollowed := true, recurses := true, apart := false, narrowed := true }
def TaskOrderUptoSaid : Prop := taskOrderUptoRow.holds Try.pinned (OpenSpec.upto taskOrderSpec)

/-- 'gatepostlaw18.TaskPipes', WHERE WHAT IT READS IS OF BULK AT MOST 1048576: true; the input reads as it did. -/
def taskPipesUptoRow : OpenClaim := { program := "ytgdjbmfpbihopaa", sum := "621fcc7e3528eae21b36c655d406e32485d768641291d693f9907ede39c08cfd", func := "gatepost/gatepostlaw18.TaskPipes", spec := "taskPipes", unfollowed := true, recurses := true, apart := false, narrowed := true }
def TaskPipesUptoSaid : Prop := taskPipesUptoRow.holds Try.pinned (OpenSpec.upto taskPipesSpec)

/-- 'gatepostlaw18.TaskWords', WHERE WHAT IT READS IS OF BULK AT MOST 1048576: true; the input reads as it did. -/
def taskWordsUptoRow : OpenClaim := { program := "ytgdjbmfpbihopaa", sum := "621fcc7e3528eae21b36c655d406e32485d768641291d693f9907ede39c08cfd", func := "gatepost/gatepostlaw18.TaskWords", spec := "taskWords", unfollowed := true, recurses := true, apart := false, narrowed := true }
def TaskWordsUptoSaid : Prop := taskWordsUptoRow.holds Try.pinned (OpenSpec.upto taskWordsSpec)

/-- 'gatepostlaw18.TaskPlays', WHERE WHAT IT READS IS OF BULK AT MOST 1048576: true; the input reads as it did. -/
def taskPlaysUptoRow : OpenClaim := { program := "ytgdjbmfpbihopaa", sum := "621fcc7e3528eae21b36c655d406e32485d768641291d693f9907ede39c08cfd", func := "gatepost/gatepostlaw18.TaskPlays", spec := "taskPlays", unfollowed := true, recurses := true, apart := false, narrowed := true }
def TaskPlaysUptoSaid : Prop := taskPlaysUptoRow.holds Try.pinned (OpenSpec.upto taskPlaysSpec)

end Rows
end Go.Proofs.Ytgdjbmfpbihopaa
