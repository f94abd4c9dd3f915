/-
  No cell of these rows narrows 'for every input' (looked for: loops, veiled, ifaces, maps, wideKeys, modest, calm, conditions, laid).
  DERIVED. THE GIVEN ROWS OF THIS SEAT. 5 by the template 'for every input the law returns true; each argument reads behind the call as it read before'; 0 by the template 'total and deterministic' (their statements: YtffockkdiimneaaTotals.lean).
  GIVEN WITH THE SEED: the statements are not yours to turn. If you find one false, say at which input.
  Laid BY PROGRAM, IN A SANDBOX (cutbox-rows.mjs): the forced cells as the released guide's own fill.sh prints them over the translation e37c4cccf7e1e794… (all of the seat's roots in one cut). By AI agents, Wed Nov 11 2026. No macro, syntax, notation, axiom, sorry.
-/
import Derived.Test.YtffockkdiimneaaChecked
import GoSem.Claim
import GoSem.ClaimJoined
import GoSem.ClaimMapViews
import Derived.JoinedTies
import Derived.KernelRfl
namespace Go.Proofs.Ytffockkdiimneaa
/- THE CELL 'sum', in the pinned program and in every row, IS THE sha256 OF THE DUMP (.gsa) THAT YtffockkdiimneaaProg.lean LOADS. Nothing in Lean hashes anything: it is a label: what it is worth is what the hold of that sum in a sandbox is worth. -/
noncomputable def Try.pinned : Pinned := { name := "ytffockkdiimneaa", sum := "e37c4cccf7e1e7945285ca726c0ec42c7f7c465da197229201155f979b6dfbb3", checked := Try.checked }
namespace Rows
def none {H : Type} : Left H := { results := [], args := [] }

/-- 'gatepostlaw22.FillOnce': WHATEVER THE INPUT: true; the input reads as it did. -/
def fillOnceSpec : ChangeSpec := { name := "fillOnce", fn := fun _ => fun
  | [d1, d2] => { results := [.lit (.bool true)], args := [d1, d2] }
  | _ => none }
def fillOnceRow : OpenClaim := { program := "ytffockkdiimneaa", sum := "e37c4cccf7e1e7945285ca726c0ec42c7f7c465da197229201155f979b6dfbb3", func := "gatepost/gatepostlaw22.FillOnce", spec := "fillOnce", unfollowed := true, recurses := true, apart := false }
def FillOnceSaid : Prop := fillOnceRow.holds Try.pinned (OpenSpec.ofChange fillOnceSpec)

/-- ITS FALSE NEIGHBOUR: 'it returns false'. Refute it at one input. -/
def fillOnceWrong : ChangeSpec := { name := "fillOnce", fn := fun _ => fun
  | [d1, d2] => { results := [.lit (.bool false)], args := [d1, d2] }
  | _ => none }
def FillOnceWrongFalsely : Prop := fillOnceRow.holds Try.pinned (OpenSpec.ofChange fillOnceWrong)

/-- 'gatepostlaw22.FillLost': WHATEVER THE INPUT: true; the input reads as it did. -/
def fillLostSpec : ChangeSpec := { name := "fillLost", fn := fun _ => fun
  | [d1, d2] => { results := [.lit (.bool true)], args := [d1, d2] }
  | _ => none }
def fillLostRow : OpenClaim := { program := "ytffockkdiimneaa", sum := "e37c4cccf7e1e7945285ca726c0ec42c7f7c465da197229201155f979b6dfbb3", func := "gatepost/gatepostlaw22.FillLost", spec := "fillLost", unfollowed := true, recurses := true, apart := false }
def FillLostSaid : Prop := fillLostRow.holds Try.pinned (OpenSpec.ofChange fillLostSpec)

/-- ITS FALSE NEIGHBOUR: 'it returns false'. Refute it at one input. -/
def fillLostWrong : ChangeSpec := { name := "fillLost", fn := fun _ => fun
  | [d1, d2] => { results := [.lit (.bool false)], args := [d1, d2] }
  | _ => none }
def FillLostWrongFalsely : Prop := fillLostRow.holds Try.pinned (OpenSpec.ofChange fillLostWrong)

/-- 'gatepostlaw22.FillReaders': WHATEVER THE INPUT: true; the input reads as it did. -/
def fillReadersSpec : ChangeSpec := { name := "fillReaders", fn := fun _ => fun
  | [d1, d2, d3] => { results := [.lit (.bool true)], args := [d1, d2, d3] }
  | _ => none }
def fillReadersRow : OpenClaim := { program := "ytffockkdiimneaa", sum := "e37c4cccf7e1e7945285ca726c0ec42c7f7c465da197229201155f979b6dfbb3", func := "gatepost/gatepostlaw22.FillReaders", spec := "fillReaders", unfollowed := true, recurses := true, apart := false }
def FillReadersSaid : Prop := fillReadersRow.holds Try.pinned (OpenSpec.ofChange fillReadersSpec)

/-- ITS FALSE NEIGHBOUR: 'it returns false'. Refute it at one input. -/
def fillReadersWrong : ChangeSpec := { name := "fillReaders", fn := fun _ => fun
  | [d1, d2, d3] => { results := [.lit (.bool false)], args := [d1, d2, d3] }
  | _ => none }
def FillReadersWrongFalsely : Prop := fillReadersRow.holds Try.pinned (OpenSpec.ofChange fillReadersWrong)

/-- 'gatepostlaw22.FillNobody': WHATEVER THE INPUT: true; the input reads as it did. -/
def fillNobodySpec : ChangeSpec := { name := "fillNobody", fn := fun _ => fun
  | [d] => { results := [.lit (.bool true)], args := [d] }
  | _ => none }
def fillNobodyRow : OpenClaim := { program := "ytffockkdiimneaa", sum := "e37c4cccf7e1e7945285ca726c0ec42c7f7c465da197229201155f979b6dfbb3", func := "gatepost/gatepostlaw22.FillNobody", spec := "fillNobody", unfollowed := true, recurses := true, apart := false }
def FillNobodySaid : Prop := fillNobodyRow.holds Try.pinned (OpenSpec.ofChange fillNobodySpec)

/-- ITS FALSE NEIGHBOUR: 'it returns false'. Refute it at one input. -/
def fillNobodyWrong : ChangeSpec := { name := "fillNobody", fn := fun _ => fun
  | [d] => { results := [.lit (.bool false)], args := [d] }
  | _ => none }
def FillNobodyWrongFalsely : Prop := fillNobodyRow.holds Try.pinned (OpenSpec.ofChange fillNobodyWrong)

/-- 'gatepostlaw22.FillPlays': WHATEVER THE INPUT: true; the input reads as it did. -/
def fillPlaysSpec : ChangeSpec := { name := "fillPlays", fn := fun _ => fun
  | [d] => { results := [.lit (.bool true)], args := [d] }
  | _ => none }
def fillPlaysRow : OpenClaim := { program := "ytffockkdiimneaa", sum := "e37c4cccf7e1e7945285ca726c0ec42c7f7c465da197229201155f979b6dfbb3", func := "gatepost/gatepostlaw22.FillPlays", spec := "fillPlays", unfollowed := true, recurses := true, apart := false }
def FillPlaysSaid : Prop := fillPlaysRow.holds Try.pinned (OpenSpec.ofChange fillPlaysSpec)

/-- ITS FALSE NEIGHBOUR: 'it returns false'. Refute it at one input. -/
def fillPlaysWrong : ChangeSpec := { name := "fillPlays", fn := fun _ => fun
  | [d] => { results := [.lit (.bool false)], args := [d] }
  | _ => none }
def FillPlaysWrongFalsely : Prop := fillPlaysRow.holds Try.pinned (OpenSpec.ofChange fillPlaysWrong)

/- THE SECOND FORM. 'bulk': how many values and letters a reading holds, each counted each time it is reached (what is shared counts as often as it is met; a slice's spare places count too). A statement '..UptoSaid' is the law's where the arguments, and the package variables that the reading takes, are together of bulk at most 1048576: NARROWER than '..Said'. Prove '..Said' where nothing that the law and all that it calls make is longer than what came in: it says more and counts as full. Else prove '..UptoSaid'. A law counts once. -/
mutual
def uptoBulk {H : Type} : DataW H → Nat
  | .lit (.string bytes) => bytes.length + 1
  | .lit _ => 1
  | .nil => 1
  | .ptr d => uptoBulk d + 1
  | .slice elems spare => uptoBulkAll elems + uptoBulkAll spare + 1
  | .agg parts => uptoBulkAll parts + 1
  | .iface _ d => uptoBulk d + 1
  | .map entries => uptoBulkEntries entries + 1
  | .held _ => 1
def uptoBulkAll {H : Type} : List (DataW H) → Nat
  | [] => 0
  | d :: r => uptoBulk d + uptoBulkAll r
def uptoBulkEntries {H : Type} : List (Lit × DataW H) → Nat
  | [] => 0
  | x :: r => uptoBulkEntry x + uptoBulkEntries r
def uptoBulkEntry {H : Type} : Lit × DataW H → Nat
  | (.string bytes, d) => bytes.length + uptoBulk d + 1
  | (_, d) => uptoBulk d + 1
 end
def uptoSmall : (H : Type) → List (DataW H) → Bool := fun _ ds => decide (uptoBulkAll ds ≤ 1048576)
def OpenSpec.upto (s : _root_.Go.ChangeSpec) : _root_.Go.OpenSpec := { _root_.Go.OpenSpec.ofChange s with cond := some uptoSmall }

/-- 'gatepostlaw22.FillOnce', WHERE WHAT IT READS IS OF BULK AT MOST 1048576: true; the input reads as it did. -/
def fillOnceUptoRow : OpenClaim := { program := "ytffockkdiimneaa", sum := "e37c4cccf7e1e7945285ca726c0ec42c7f7c465da197229201155f979b6dfbb3", func := "gatepost/gatepostlaw22.FillOnce", spec := "fillOnce", unfollowed := true, recurses := true, apart := false, narrowed := true }
def FillOnceUptoSaid : Prop := fillOnceUptoRow.holds Try.pinned (OpenSpec.upto fillOnceSpec)

/-- 'gatepostlaw22.FillLost', WHERE WHAT IT READS IS OF BULK AT MOST 1048576: true; the input reads as it did. -/
def fillLostUptoRow : OpenClaim := { program := "ytffockkdiimneaa", sum := "e37c4cccf7e1e7945285ca726c0ec42c7f7c465da197229201155f979b6dfbb3", func := "gatepost/gatepostlaw22.FillLost", spec := "fillLost", unfollowed := true, recurses := true, apart := false, narrowed := true }
def FillLostUptoSaid : Prop := fillLostUptoRow.holds Try.pinned (OpenSpec.upto fillLostSpec)

/-- 'gatepostlaw22.FillReaders', WHERE WHAT IT READS IS OF BULK AT MOST 1048576: true; the input reads as it did. -/
def fillReadersUptoRow : OpenClaim := { program := "ytffockkdiimneaa", sum := "e37c4cccf7e1e7945285ca726c0ec42c7f7c465da197229201155f979b6dfbb3", func := "gatepost/gatepostlaw22.FillReaders", spec := "fillReaders", unfollowed := true, recurses := true, apart := false, narrowed := true }
def FillReadersUptoSaid : Prop := fillReadersUptoRow.holds Try.pinned (OpenSpec.upto fillReadersSpec)

/-- 'gatepostlaw22.FillNobody', WHERE WHAT IT READS IS OF BULK AT MOST 1048576: true; the input reads as it did. -/
def fillNobodyUptoRow : OpenClaim := { program := "ytffockkdiimneaa", sum := "e37c4cccf7e1e7945285ca726c0ec42c7f7c465da197229201155f979b6dfbb3", func := "gatepost/gatepostlaw22.FillNobody", spec := "fillNobody", unfollowed := true, recurses := true, apart := false, narrowed := true }
def FillNobodyUptoSaid : Prop := fillNobodyUptoRow.holds Try.pinned (OpenSpec.upto fillNobodySpec)

/-- 'gatepostlaw22.FillPlays', WHERE WHAT IT READS IS OF BULK AT MOST 1048576: true; the input reads as it did. -/
def fillPlaysUptoRow : OpenClaim := { program := "ytffockkdiimneaa", sum := "e37c4cccf7e1e7945285ca726c0ec42c7f7c465da197229201155f979b6dfbb3", func := "gatepost/gatepostlaw22.FillPlays", spec := "fillPlays", unfollowed := true, recurses := true, apart := false, narrowed := true }
def FillPlaysUptoSaid : Prop := fillPlaysUptoRow.holds Try.pinned (OpenSpec.upto fillPlaysSpec)

end Rows
end Go.Proofs.Ytffockkdiimneaa
