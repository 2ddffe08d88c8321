/-
  No cell of these rows narrows 'for every input' (looked for: loops, veiled, ifaces, maps, wideKeys, modest, calm, conditions, laid).
  DERIVED. THE GIVEN ROWS OF THIS SEAT. 5 by the template 'for every input the law returns true; each argument reads behind the call as it read before'; 0 by the template 'total and deterministic' (their statements: YtghnljoaklmakaaTotals.lean).
  GIVEN WITH THE SEED: the statements are not yours to turn. If you find one false, say at which input.
  Laid BY PROGRAM, IN A SANDBOX (cutbox-rows.mjs): the forced cells as the released guide's own fill.sh prints them over the translation 40db1db365b47c6a… (all of the seat's roots in one cut). By AI agents, Wed Nov 11 2026. No macro, syntax, notation, axiom, sorry.
-/
import Derived.Test.YtghnljoaklmakaaChecked
import GoSem.Claim
import GoSem.ClaimJoined
import GoSem.ClaimMapViews
import Derived.JoinedTies
import Derived.KernelRfl
namespace Go.Proofs.Ytghnljoaklmakaa
/- THE CELL 'sum', in the pinned program and in every row, IS THE sha256 OF THE DUMP (.gsa) THAT YtghnljoaklmakaaProg.lean LOADS. Nothing in Lean hashes anything: it is a label: what it is worth is what the hold of that sum in a sandbox is worth. -/
noncomputable def Try.pinned : Pinned := { name := "ytghnljoaklmakaa", sum := "40db1db365b47c6ac2942625be0a0d2188953e9a2ddb3453b0be87932d392e37", checked := Try.checked }
namespace Rows
def none {H : Type} : Left H := { results := [], args := [] }

/-- 'laws.FnExactIsValidNote': WHATEVER THE INPUT: true; the input reads as it did. -/
def fnExactIsValidNoteSpec : ChangeSpec := { name := "fnExactIsValidNote", fn := fun _ => fun
  | [d] => { results := [.lit (.bool true)], args := [d] }
  | _ => none }
def fnExactIsValidNoteRow : OpenClaim := { program := "ytghnljoaklmakaa", sum := "40db1db365b47c6ac2942625be0a0d2188953e9a2ddb3453b0be87932d392e37", func := "loop.example/g00906/laws.FnExactIsValidNote", spec := "fnExactIsValidNote", apart := false }
def FnExactIsValidNoteSaid : Prop := fnExactIsValidNoteRow.holds Try.pinned (OpenSpec.ofChange fnExactIsValidNoteSpec)

/-- ITS FALSE NEIGHBOUR: 'it returns false'. Refute it at one input. -/
def fnExactIsValidNoteWrong : ChangeSpec := { name := "fnExactIsValidNote", fn := fun _ => fun
  | [d] => { results := [.lit (.bool false)], args := [d] }
  | _ => none }
def FnExactIsValidNoteWrongFalsely : Prop := fnExactIsValidNoteRow.holds Try.pinned (OpenSpec.ofChange fnExactIsValidNoteWrong)

/-- 'laws.FnExactDebtOf': WHATEVER THE INPUT: true; the input reads as it did. -/
def fnExactDebtOfSpec : ChangeSpec := { name := "fnExactDebtOf", fn := fun _ => fun
  | [d1, d2] => { results := [.lit (.bool true)], args := [d1, d2] }
  | _ => none }
def fnExactDebtOfRow : OpenClaim := { program := "ytghnljoaklmakaa", sum := "40db1db365b47c6ac2942625be0a0d2188953e9a2ddb3453b0be87932d392e37", func := "loop.example/g00906/laws.FnExactDebtOf", spec := "fnExactDebtOf", unfollowed := true, recurses := true, apart := false }
def FnExactDebtOfSaid : Prop := fnExactDebtOfRow.holds Try.pinned (OpenSpec.ofChange fnExactDebtOfSpec)

/-- ITS FALSE NEIGHBOUR: 'it returns false'. Refute it at one input. -/
def fnExactDebtOfWrong : ChangeSpec := { name := "fnExactDebtOf", fn := fun _ => fun
  | [d1, d2] => { results := [.lit (.bool false)], args := [d1, d2] }
  | _ => none }
def FnExactDebtOfWrongFalsely : Prop := fnExactDebtOfRow.holds Try.pinned (OpenSpec.ofChange fnExactDebtOfWrong)

/-- 'laws.FnExactLastStack': WHATEVER THE INPUT: true; the input reads as it did. -/
def fnExactLastStackSpec : ChangeSpec := { name := "fnExactLastStack", fn := fun _ => fun
  | [d1, d2] => { results := [.lit (.bool true)], args := [d1, d2] }
  | _ => none }
def fnExactLastStackRow : OpenClaim := { program := "ytghnljoaklmakaa", sum := "40db1db365b47c6ac2942625be0a0d2188953e9a2ddb3453b0be87932d392e37", func := "loop.example/g00906/laws.FnExactLastStack", spec := "fnExactLastStack", unfollowed := true, recurses := true, apart := false }
def FnExactLastStackSaid : Prop := fnExactLastStackRow.holds Try.pinned (OpenSpec.ofChange fnExactLastStackSpec)

/-- ITS FALSE NEIGHBOUR: 'it returns false'. Refute it at one input. -/
def fnExactLastStackWrong : ChangeSpec := { name := "fnExactLastStack", fn := fun _ => fun
  | [d1, d2] => { results := [.lit (.bool false)], args := [d1, d2] }
  | _ => none }
def FnExactLastStackWrongFalsely : Prop := fnExactLastStackRow.holds Try.pinned (OpenSpec.ofChange fnExactLastStackWrong)

/-- 'laws.FnExactNotesFor': WHATEVER THE INPUT: true; the input reads as it did. -/
def fnExactNotesForSpec : ChangeSpec := { name := "fnExactNotesFor", fn := fun _ => fun
  | [d1, d2] => { results := [.lit (.bool true)], args := [d1, d2] }
  | _ => none }
def fnExactNotesForRow : OpenClaim := { program := "ytghnljoaklmakaa", sum := "40db1db365b47c6ac2942625be0a0d2188953e9a2ddb3453b0be87932d392e37", func := "loop.example/g00906/laws.FnExactNotesFor", spec := "fnExactNotesFor", unfollowed := true, recurses := true, apart := false }
def FnExactNotesForSaid : Prop := fnExactNotesForRow.holds Try.pinned (OpenSpec.ofChange fnExactNotesForSpec)

/-- ITS FALSE NEIGHBOUR: 'it returns false'. Refute it at one input. -/
def fnExactNotesForWrong : ChangeSpec := { name := "fnExactNotesFor", fn := fun _ => fun
  | [d1, d2] => { results := [.lit (.bool false)], args := [d1, d2] }
  | _ => none }
def FnExactNotesForWrongFalsely : Prop := fnExactNotesForRow.holds Try.pinned (OpenSpec.ofChange fnExactNotesForWrong)

/-- 'laws.FnReports': WHATEVER THE INPUT: true; the input reads as it did. -/
def fnReportsSpec : ChangeSpec := { name := "fnReports", fn := fun _ => fun
  | [d] => { results := [.lit (.bool true)], args := [d] }
  | _ => none }
def fnReportsRow : OpenClaim := { program := "ytghnljoaklmakaa", sum := "40db1db365b47c6ac2942625be0a0d2188953e9a2ddb3453b0be87932d392e37", func := "loop.example/g00906/laws.FnReports", spec := "fnReports", unfollowed := true, recurses := true, apart := false }
def FnReportsSaid : Prop := fnReportsRow.holds Try.pinned (OpenSpec.ofChange fnReportsSpec)

/-- ITS FALSE NEIGHBOUR: 'it returns false'. Refute it at one input. -/
def fnReportsWrong : ChangeSpec := { name := "fnReports", fn := fun _ => fun
  | [d] => { results := [.lit (.bool false)], args := [d] }
  | _ => none }
def FnReportsWrongFalsely : Prop := fnReportsRow.holds Try.pinned (OpenSpec.ofChange fnReportsWrong)

/- THE SECOND FORM. 'bulk': how many values and letters a reading holds, each counted each time it is reached (what is shared counts as often as it is met; a slice's spare places count too). A statement '..UptoSaid' is the law's where the arguments, and the package variables that the reading takes, are together of bulk at most 1048576: NARROWER than '..Said'. Prove '..Said' where nothing that the law and all that it calls make is longer than what came in: it says more and counts as full. Else prove '..UptoSaid'. A law counts once. -/
mutual
def uptoBulk {H : Type} : DataW H → Nat
  | .lit (.string bytes) => bytes.length + 1
  | .lit _ => 1
  | .nil => 1
  | .ptr d => uptoBulk d + 1
  | .slice elems spare => uptoBulkAll elems + uptoBulkAll spare + 1
  | .agg parts => uptoBulkAll parts + 1
  | .iface _ d => uptoBulk d + 1
  | .map entries => uptoBulkEntries entries + 1
  | .held _ => 1
def uptoBulkAll {H : Type} : List (DataW H) → Nat
  | [] => 0
  | d :: r => uptoBulk d + uptoBulkAll r
def uptoBulkEntries {H : Type} : List (Lit × DataW H) → Nat
  | [] => 0
  | x :: r => uptoBulkEntry x + uptoBulkEntries r
def uptoBulkEntry {H : Type} : Lit × DataW H → Nat
  | (.string bytes, d) => bytes.length + uptoBulk d + 1
  | (_, d) => uptoBulk d + 1
 end
def uptoSmall : (H : Type) → List (DataW H) → Bool := fun _ ds => decide (uptoBulkAll ds ≤ 1048576)
def OpenSpec.upto (s : _root_.Go.ChangeSpec) : _root_.Go.OpenSpec := { _root_.Go.OpenSpec.ofChange s with cond := some uptoSmall }

/-- 'laws.FnExactIsValidNote', WHERE WHAT IT READS IS OF BULK AT MOST 1048576: true; the input reads as it did. -/
def fnExactIsValidNoteUptoRow : OpenClaim := { program := "ytghnljoaklmakaa", sum := "40db1db365b47c6ac2942625be0a0d2188953e9a2ddb3453b0be87932d392e37", func := "loop.example/g00906/laws.FnExactIsValidNote", spec := "fnExactIsValidNote", apart := false, narrowed := true }
def FnExactIsValidNoteUptoSaid : Prop := fnExactIsValidNoteUptoRow.holds Try.pinned (OpenSpec.upto fnExactIsValidNoteSpec)

/-- 'laws.FnExactDebtOf', WHERE WHAT IT READS IS OF BULK AT MOST 1048576: true; the input reads as it did. -/
def fnExactDebtOfUptoRow : OpenClaim := { program := "ytghnljoaklmakaa", sum := "40db1db365b47c6ac2942625be0a0d2188953e9a2ddb3453b0be87932d392e37", func := "loop.example/g00906/laws.FnExactDebtOf", spec := "fnExactDebtOf", unfollowed := true, recurses := true, apart := false, narrowed := true }
def FnExactDebtOfUptoSaid : Prop := fnExactDebtOfUptoRow.holds Try.pinned (OpenSpec.upto fnExactDebtOfSpec)

/-- 'laws.FnExactLastStack', WHERE WHAT IT READS IS OF BULK AT MOST 1048576: true; the input reads as it did. -/
def fnExactLastStackUptoRow : OpenClaim := { program := "ytghnljoaklmakaa", sum := "40db1db365b47c6ac2942625be0a0d2188953e9a2ddb3453b0be87932d392e37", func := "loop.example/g00906/laws.FnExactLastStack", spec := "fnExactLastStack", unfollowed := true, recurses := true, apart := false, narrowed := true }
def FnExactLastStackUptoSaid : Prop := fnExactLastStackUptoRow.holds Try.pinned (OpenSpec.upto fnExactLastStackSpec)

/-- 'laws.FnExactNotesFor', WHERE WHAT IT READS IS OF BULK AT MOST 1048576: true; the input reads as it did. -/
def fnExactNotesForUptoRow : OpenClaim := { program := "ytghnljoaklmakaa", sum := "40db1db365b47c6ac2942625be0a0d2188953e9a2ddb3453b0be87932d392e37", func := "loop.example/g00906/laws.FnExactNotesFor", spec := "fnExactNotesFor", unfollowed := true, recurses := true, apart := false, narrowed := true }
def FnExactNotesForUptoSaid : Prop := fnExactNotesForUptoRow.holds Try.pinned (OpenSpec.upto fnExactNotesForSpec)

/-- 'laws.FnReports', WHERE WHAT IT READS IS OF BULK AT MOST 1048576: true; the input reads as it did. -/
def fnReportsUptoRow : OpenClaim := { program := "ytghnljoaklmakaa", sum := "40db1db365b47c6ac2942625be0a0d2188953e9a2ddb3453b0be87932d392e37", func := "loop.example/g00906/laws.FnReports", spec := "fnReports", unfollowed := true, recurses := true, apart := false, narrowed := true }
def FnReportsUptoSaid : Prop := fnReportsUptoRow.holds Try.pinned (OpenSpec.upto fnReportsSpec)

end Rows
end Go.Proofs.Ytghnljoaklmakaa
