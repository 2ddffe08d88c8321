/-
  No cell of these rows narrows 'for every input' (looked for: loops, veiled, ifaces, maps, wideKeys, modest, calm, conditions, laid).
  DERIVED. THE GIVEN ROWS OF THIS SEAT. 5 by the template 'for every input the law returns true; each argument reads behind the call as it read before'; 0 by the template 'total and deterministic' (their statements: YtpalafegcndccaaTotals.lean).
  GIVEN WITH THE SEED: the statements are not yours to turn. If you find one false, say at which input.
  Laid BY PROGRAM, IN A SANDBOX (cutbox-rows.mjs): the forced cells as the released guide's own fill.sh prints them over the translation 75ef559e6c03f8eb… (all of the seat's roots in one cut). By AI agents, Wed Nov 11 2026. No macro, syntax, notation, axiom, sorry.
-/
import Derived.Test.YtpalafegcndccaaChecked
import GoSem.Claim
import GoSem.ClaimJoined
import GoSem.ClaimMapViews
import Derived.JoinedTies
import Derived.KernelRfl
namespace Go.Proofs.Ytpalafegcndccaa
/- THE CELL 'sum', in the pinned program and in every row, IS THE sha256 OF THE DUMP (.gsa) THAT YtpalafegcndccaaProg.lean LOADS. Nothing in Lean hashes anything: it is a label: what it is worth is what the hold of that sum in a sandbox is worth. -/
noncomputable def Try.pinned : Pinned := { name := "ytpalafegcndccaa", sum := "75ef559e6c03f8eb696b264fde842b58a47cd6a92c22b518a161757309f7cd8c", checked := Try.checked }
namespace Rows
def none {H : Type} : Left H := { results := [], args := [] }

/-- 'laws.FnExactNextKinds': WHATEVER THE INPUT: true; the input reads as it did. -/
def fnExactNextKindsSpec : ChangeSpec := { name := "fnExactNextKinds", fn := fun _ => fun
  | [d] => { results := [.lit (.bool true)], args := [d] }
  | _ => none }
def fnExactNextKindsRow : OpenClaim := { program := "ytpalafegcndccaa", sum := "75ef559e6c03f8eb696b264fde842b58a47cd6a92c22b518a161757309f7cd8c", func := "loop.example/g00906/laws.FnExactNextKinds", spec := "fnExactNextKinds", apart := false }
def FnExactNextKindsSaid : Prop := fnExactNextKindsRow.holds Try.pinned (OpenSpec.ofChange fnExactNextKindsSpec)

/-- ITS FALSE NEIGHBOUR: 'it returns false'. Refute it at one input. -/
def fnExactNextKindsWrong : ChangeSpec := { name := "fnExactNextKinds", fn := fun _ => fun
  | [d] => { results := [.lit (.bool false)], args := [d] }
  | _ => none }
def FnExactNextKindsWrongFalsely : Prop := fnExactNextKindsRow.holds Try.pinned (OpenSpec.ofChange fnExactNextKindsWrong)

/-- 'laws.FnExactDaysInside': WHATEVER THE INPUT: true; the input reads as it did. -/
def fnExactDaysInsideSpec : ChangeSpec := { name := "fnExactDaysInside", fn := fun _ => fun
  | [d1, d2] => { results := [.lit (.bool true)], args := [d1, d2] }
  | _ => none }
def fnExactDaysInsideRow : OpenClaim := { program := "ytpalafegcndccaa", sum := "75ef559e6c03f8eb696b264fde842b58a47cd6a92c22b518a161757309f7cd8c", func := "loop.example/g00906/laws.FnExactDaysInside", spec := "fnExactDaysInside", apart := false }
def FnExactDaysInsideSaid : Prop := fnExactDaysInsideRow.holds Try.pinned (OpenSpec.ofChange fnExactDaysInsideSpec)

/-- ITS FALSE NEIGHBOUR: 'it returns false'. Refute it at one input. -/
def fnExactDaysInsideWrong : ChangeSpec := { name := "fnExactDaysInside", fn := fun _ => fun
  | [d1, d2] => { results := [.lit (.bool false)], args := [d1, d2] }
  | _ => none }
def FnExactDaysInsideWrongFalsely : Prop := fnExactDaysInsideRow.holds Try.pinned (OpenSpec.ofChange fnExactDaysInsideWrong)

/-- 'laws.FnExactVisitsOf': WHATEVER THE INPUT: true; the input reads as it did. -/
def fnExactVisitsOfSpec : ChangeSpec := { name := "fnExactVisitsOf", fn := fun _ => fun
  | [d] => { results := [.lit (.bool true)], args := [d] }
  | _ => none }
def fnExactVisitsOfRow : OpenClaim := { program := "ytpalafegcndccaa", sum := "75ef559e6c03f8eb696b264fde842b58a47cd6a92c22b518a161757309f7cd8c", func := "loop.example/g00906/laws.FnExactVisitsOf", spec := "fnExactVisitsOf", apart := false }
def FnExactVisitsOfSaid : Prop := fnExactVisitsOfRow.holds Try.pinned (OpenSpec.ofChange fnExactVisitsOfSpec)

/-- ITS FALSE NEIGHBOUR: 'it returns false'. Refute it at one input. -/
def fnExactVisitsOfWrong : ChangeSpec := { name := "fnExactVisitsOf", fn := fun _ => fun
  | [d] => { results := [.lit (.bool false)], args := [d] }
  | _ => none }
def FnExactVisitsOfWrongFalsely : Prop := fnExactVisitsOfRow.holds Try.pinned (OpenSpec.ofChange fnExactVisitsOfWrong)

/-- 'laws.FnVisits': WHATEVER THE INPUT: true; the input reads as it did. -/
def fnVisitsSpec : ChangeSpec := { name := "fnVisits", fn := fun _ => fun
  | [d] => { results := [.lit (.bool true)], args := [d] }
  | _ => none }
def fnVisitsRow : OpenClaim := { program := "ytpalafegcndccaa", sum := "75ef559e6c03f8eb696b264fde842b58a47cd6a92c22b518a161757309f7cd8c", func := "loop.example/g00906/laws.FnVisits", spec := "fnVisits", apart := false }
def FnVisitsSaid : Prop := fnVisitsRow.holds Try.pinned (OpenSpec.ofChange fnVisitsSpec)

/-- ITS FALSE NEIGHBOUR: 'it returns false'. Refute it at one input. -/
def fnVisitsWrong : ChangeSpec := { name := "fnVisits", fn := fun _ => fun
  | [d] => { results := [.lit (.bool false)], args := [d] }
  | _ => none }
def FnVisitsWrongFalsely : Prop := fnVisitsRow.holds Try.pinned (OpenSpec.ofChange fnVisitsWrong)

/-- 'laws.FnExactFirstGap': WHATEVER THE INPUT: true; the input reads as it did. -/
def fnExactFirstGapSpec : ChangeSpec := { name := "fnExactFirstGap", fn := fun _ => fun
  | [d] => { results := [.lit (.bool true)], args := [d] }
  | _ => none }
def fnExactFirstGapRow : OpenClaim := { program := "ytpalafegcndccaa", sum := "75ef559e6c03f8eb696b264fde842b58a47cd6a92c22b518a161757309f7cd8c", func := "loop.example/g00906/laws.FnExactFirstGap", spec := "fnExactFirstGap", unfollowed := true, recurses := true, apart := false }
def FnExactFirstGapSaid : Prop := fnExactFirstGapRow.holds Try.pinned (OpenSpec.ofChange fnExactFirstGapSpec)

/-- ITS FALSE NEIGHBOUR: 'it returns false'. Refute it at one input. -/
def fnExactFirstGapWrong : ChangeSpec := { name := "fnExactFirstGap", fn := fun _ => fun
  | [d] => { results := [.lit (.bool false)], args := [d] }
  | _ => none }
def FnExactFirstGapWrongFalsely : Prop := fnExactFirstGapRow.holds Try.pinned (OpenSpec.ofChange fnExactFirstGapWrong)

/- THE SECOND FORM. 'bulk': how many values and letters a reading holds, each counted each time it is reached (what is shared counts as often as it is met; a slice's spare places count too). A statement '..UptoSaid' is the law's where the arguments, and the package variables that the reading takes, are together of bulk at most 1048576: NARROWER than '..Said'. Prove '..Said' where nothing that the law and all that it calls make is longer than what came in: it says more and counts as full. Else prove '..UptoSaid'. A law counts once. -/
mutual
def uptoBulk {H : Type} : DataW H → Nat
  | .lit (.string bytes) => bytes.length + 1
  | .lit _ => 1
  | .nil => 1
  | .ptr d => uptoBulk d + 1
  | .slice elems spare => uptoBulkAll elems + uptoBulkAll spare + 1
  | .agg parts => uptoBulkAll parts + 1
  | .iface _ d => uptoBulk d + 1
  | .map entries => uptoBulkEntries entries + 1
  | .held _ => 1
def uptoBulkAll {H : Type} : List (DataW H) → Nat
  | [] => 0
  | d :: r => uptoBulk d + uptoBulkAll r
def uptoBulkEntries {H : Type} : List (Lit × DataW H) → Nat
  | [] => 0
  | x :: r => uptoBulkEntry x + uptoBulkEntries r
def uptoBulkEntry {H : Type} : Lit × DataW H → Nat
  | (.string bytes, d) => bytes.length + uptoBulk d + 1
  | (_, d) => uptoBulk d + 1
 end
def uptoSmall : (H : Type) → List (DataW H) → Bool := fun _ ds => decide (uptoBulkAll ds ≤ 1048576)
def OpenSpec.upto (s : _root_.Go.ChangeSpec) : _root_.Go.OpenSpec := { _root_.Go.OpenSpec.ofChange s with cond := some uptoSmall }

/-- 'laws.FnExactNextKinds', WHERE WHAT IT READS IS OF BULK AT MOST 1048576: true; the input reads as it did. -/
def fnExactNextKindsUptoRow : OpenClaim := { program := "ytpalafegcndccaa", sum := "75ef559e6c03f8eb696b264fde842b58a47cd6a92c22b518a161757309f7cd8c", func := "loop.example/g00906/laws.FnExactNextKinds", spec := "fnExactNextKinds", apart := false, narrowed := true }
def FnExactNextKindsUptoSaid : Prop := fnExactNextKindsUptoRow.holds Try.pinned (OpenSpec.upto fnExactNextKindsSpec)

/-- 'laws.FnExactDaysInside', WHERE WHAT IT READS IS OF BULK AT MOST 1048576: true; the input reads as it did. -/
def fnExactDaysInsideUptoRow : OpenClaim := { program := "ytpalafegcndccaa", sum := "75ef559e6c03f8eb696b264fde842b58a47cd6a92c22b518a161757309f7cd8c", func := "loop.example/g00906/laws.FnExactDaysInside", spec := "fnExactDaysInside", apart := false, narrowed := true }
def FnExactDaysInsideUptoSaid : Prop := fnExactDaysInsideUptoRow.holds Try.pinned (OpenSpec.upto fnExactDaysInsideSpec)

/-- 'laws.FnExactVisitsOf', WHERE WHAT IT READS IS OF BULK AT MOST 1048576: true; the input reads as it did. -/
def fnExactVisitsOfUptoRow : OpenClaim := { program := "ytpalafegcndccaa", sum := "75ef559e6c03f8eb696b264fde842b58a47cd6a92c22b518a161757309f7cd8c", func := "loop.example/g00906/laws.FnExactVisitsOf", spec := "fnExactVisitsOf", apart := false, narrowed := true }
def FnExactVisitsOfUptoSaid : Prop := fnExactVisitsOfUptoRow.holds Try.pinned (OpenSpec.upto fnExactVisitsOfSpec)

/-- 'laws.FnVisits', WHERE WHAT IT READS IS OF BULK AT MOST 1048576: true; the input reads as it did. -/
def fnVisitsUptoRow : OpenClaim := { program := "ytpalafegcndccaa", sum := "75ef559e6c03f8eb696b264fde842b58a47cd6a92c22b518a161757309f7cd8c", func := "loop.example/g00906/laws.FnVisits", spec := "fnVisits", apart := false, narrowed := true }
def FnVisitsUptoSaid : Prop := fnVisitsUptoRow.holds Try.pinned (OpenSpec.upto fnVisitsSpec)

/-- 'laws.FnExactFirstGap', WHERE WHAT IT READS IS OF BULK AT MOST 1048576: true; the input reads as it did. -/
def fnExactFirstGapUptoRow : OpenClaim := { program := "ytpalafegcndccaa", sum := "75ef559e6c03f8eb696b264fde842b58a47cd6a92c22b518a161757309f7cd8c", func := "loop.example/g00906/laws.FnExactFirstGap", spec := "fnExactFirstGap", unfollowed := true, recurses := true, apart := false, narrowed := true }
def FnExactFirstGapUptoSaid : Prop := fnExactFirstGapUptoRow.holds Try.pinned (OpenSpec.upto fnExactFirstGapSpec)

end Rows
end Go.Proofs.Ytpalafegcndccaa
