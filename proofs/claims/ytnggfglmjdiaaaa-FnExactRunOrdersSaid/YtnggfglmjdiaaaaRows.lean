/-
  No cell of these rows narrows 'for every input' (looked for: loops, veiled, ifaces, maps, wideKeys, modest, calm, conditions, laid).
  DERIVED. THE GIVEN ROWS OF THIS SEAT. 7 by the template 'for every input the law returns true; each argument reads behind the call as it read before'; 0 by the template 'total and deterministic' (their statements: YtnggfglmjdiaaaaTotals.lean).
  GIVEN WITH THE SEED: the statements are not yours to turn. If you find one false, say at which input.
  Laid BY PROGRAM, IN A SANDBOX (cutbox-rows.mjs): the forced cells as the released guide's own fill.sh prints them over the translation 243417461d3e2f13… (all of the seat's roots in one cut). By AI agents, Wed Nov 11 2026. No macro, syntax, notation, axiom, sorry.
-/
import Derived.Test.YtnggfglmjdiaaaaChecked
import GoSem.Claim
import GoSem.ClaimJoined
import GoSem.ClaimMapViews
import Derived.JoinedTies
import Derived.KernelRfl
namespace Go.Proofs.Ytnggfglmjdiaaaa
/- THE CELL 'sum', in the pinned program and in every row, IS THE sha256 OF THE DUMP (.gsa) THAT YtnggfglmjdiaaaaProg.lean LOADS. Nothing in Lean hashes anything: it is a label: what it is worth is what the hold of that sum in a sandbox is worth. -/
noncomputable def Try.pinned : Pinned := { name := "ytnggfglmjdiaaaa", sum := "243417461d3e2f1304c908c02e2a7eb2bf293e5f728c04f15dbccf1ec57597fa", checked := Try.checked }
namespace Rows
def none {H : Type} : Left H := { results := [], args := [] }

/-- 'laws.FnExactIsValidTerminal': WHATEVER THE INPUT: true; the input reads as it did. -/
def fnExactIsValidTerminalSpec : ChangeSpec := { name := "fnExactIsValidTerminal", fn := fun _ => fun
  | [d] => { results := [.lit (.bool true)], args := [d] }
  | _ => none }
def fnExactIsValidTerminalRow : OpenClaim := { program := "ytnggfglmjdiaaaa", sum := "243417461d3e2f1304c908c02e2a7eb2bf293e5f728c04f15dbccf1ec57597fa", func := "loop.example/g00906/laws.FnExactIsValidTerminal", spec := "fnExactIsValidTerminal", apart := false }
def FnExactIsValidTerminalSaid : Prop := fnExactIsValidTerminalRow.holds Try.pinned (OpenSpec.ofChange fnExactIsValidTerminalSpec)

/-- ITS FALSE NEIGHBOUR: 'it returns false'. Refute it at one input. -/
def fnExactIsValidTerminalWrong : ChangeSpec := { name := "fnExactIsValidTerminal", fn := fun _ => fun
  | [d] => { results := [.lit (.bool false)], args := [d] }
  | _ => none }
def FnExactIsValidTerminalWrongFalsely : Prop := fnExactIsValidTerminalRow.holds Try.pinned (OpenSpec.ofChange fnExactIsValidTerminalWrong)

/-- 'laws.FnExactWhereIs': WHATEVER THE INPUT: true; the input reads as it did. -/
def fnExactWhereIsSpec : ChangeSpec := { name := "fnExactWhereIs", fn := fun _ => fun
  | [d1, d2] => { results := [.lit (.bool true)], args := [d1, d2] }
  | _ => none }
def fnExactWhereIsRow : OpenClaim := { program := "ytnggfglmjdiaaaa", sum := "243417461d3e2f1304c908c02e2a7eb2bf293e5f728c04f15dbccf1ec57597fa", func := "loop.example/g00906/laws.FnExactWhereIs", spec := "fnExactWhereIs", apart := false }
def FnExactWhereIsSaid : Prop := fnExactWhereIsRow.holds Try.pinned (OpenSpec.ofChange fnExactWhereIsSpec)

/-- ITS FALSE NEIGHBOUR: 'it returns false'. Refute it at one input. -/
def fnExactWhereIsWrong : ChangeSpec := { name := "fnExactWhereIs", fn := fun _ => fun
  | [d1, d2] => { results := [.lit (.bool false)], args := [d1, d2] }
  | _ => none }
def FnExactWhereIsWrongFalsely : Prop := fnExactWhereIsRow.holds Try.pinned (OpenSpec.ofChange fnExactWhereIsWrong)

/-- 'laws.FnExactInverseOrder': WHATEVER THE INPUT: true; the input reads as it did. -/
def fnExactInverseOrderSpec : ChangeSpec := { name := "fnExactInverseOrder", fn := fun _ => fun
  | [d1, d2] => { results := [.lit (.bool true)], args := [d1, d2] }
  | _ => none }
def fnExactInverseOrderRow : OpenClaim := { program := "ytnggfglmjdiaaaa", sum := "243417461d3e2f1304c908c02e2a7eb2bf293e5f728c04f15dbccf1ec57597fa", func := "loop.example/g00906/laws.FnExactInverseOrder", spec := "fnExactInverseOrder", unfollowed := true, recurses := true, apart := false }
def FnExactInverseOrderSaid : Prop := fnExactInverseOrderRow.holds Try.pinned (OpenSpec.ofChange fnExactInverseOrderSpec)

/-- ITS FALSE NEIGHBOUR: 'it returns false'. Refute it at one input. -/
def fnExactInverseOrderWrong : ChangeSpec := { name := "fnExactInverseOrder", fn := fun _ => fun
  | [d1, d2] => { results := [.lit (.bool false)], args := [d1, d2] }
  | _ => none }
def FnExactInverseOrderWrongFalsely : Prop := fnExactInverseOrderRow.holds Try.pinned (OpenSpec.ofChange fnExactInverseOrderWrong)

/-- 'laws.FnExactMakeOrder': WHATEVER THE INPUT: true; the input reads as it did. -/
def fnExactMakeOrderSpec : ChangeSpec := { name := "fnExactMakeOrder", fn := fun _ => fun
  | [d1, d2] => { results := [.lit (.bool true)], args := [d1, d2] }
  | _ => none }
def fnExactMakeOrderRow : OpenClaim := { program := "ytnggfglmjdiaaaa", sum := "243417461d3e2f1304c908c02e2a7eb2bf293e5f728c04f15dbccf1ec57597fa", func := "loop.example/g00906/laws.FnExactMakeOrder", spec := "fnExactMakeOrder", unfollowed := true, recurses := true, apart := false }
def FnExactMakeOrderSaid : Prop := fnExactMakeOrderRow.holds Try.pinned (OpenSpec.ofChange fnExactMakeOrderSpec)

/-- ITS FALSE NEIGHBOUR: 'it returns false'. Refute it at one input. -/
def fnExactMakeOrderWrong : ChangeSpec := { name := "fnExactMakeOrder", fn := fun _ => fun
  | [d1, d2] => { results := [.lit (.bool false)], args := [d1, d2] }
  | _ => none }
def FnExactMakeOrderWrongFalsely : Prop := fnExactMakeOrderRow.holds Try.pinned (OpenSpec.ofChange fnExactMakeOrderWrong)

/-- 'laws.FnExactPossibleOrders': WHATEVER THE INPUT: true; the input reads as it did. -/
def fnExactPossibleOrdersSpec : ChangeSpec := { name := "fnExactPossibleOrders", fn := fun _ => fun
  | [d] => { results := [.lit (.bool true)], args := [d] }
  | _ => none }
def fnExactPossibleOrdersRow : OpenClaim := { program := "ytnggfglmjdiaaaa", sum := "243417461d3e2f1304c908c02e2a7eb2bf293e5f728c04f15dbccf1ec57597fa", func := "loop.example/g00906/laws.FnExactPossibleOrders", spec := "fnExactPossibleOrders", unfollowed := true, recurses := true, apart := false }
def FnExactPossibleOrdersSaid : Prop := fnExactPossibleOrdersRow.holds Try.pinned (OpenSpec.ofChange fnExactPossibleOrdersSpec)

/-- ITS FALSE NEIGHBOUR: 'it returns false'. Refute it at one input. -/
def fnExactPossibleOrdersWrong : ChangeSpec := { name := "fnExactPossibleOrders", fn := fun _ => fun
  | [d] => { results := [.lit (.bool false)], args := [d] }
  | _ => none }
def FnExactPossibleOrdersWrongFalsely : Prop := fnExactPossibleOrdersRow.holds Try.pinned (OpenSpec.ofChange fnExactPossibleOrdersWrong)

/-- 'laws.FnOrders': WHATEVER THE INPUT: true; the input reads as it did. -/
def fnOrdersSpec : ChangeSpec := { name := "fnOrders", fn := fun _ => fun
  | [d] => { results := [.lit (.bool true)], args := [d] }
  | _ => none }
def fnOrdersRow : OpenClaim := { program := "ytnggfglmjdiaaaa", sum := "243417461d3e2f1304c908c02e2a7eb2bf293e5f728c04f15dbccf1ec57597fa", func := "loop.example/g00906/laws.FnOrders", spec := "fnOrders", unfollowed := true, recurses := true, apart := false }
def FnOrdersSaid : Prop := fnOrdersRow.holds Try.pinned (OpenSpec.ofChange fnOrdersSpec)

/-- ITS FALSE NEIGHBOUR: 'it returns false'. Refute it at one input. -/
def fnOrdersWrong : ChangeSpec := { name := "fnOrders", fn := fun _ => fun
  | [d] => { results := [.lit (.bool false)], args := [d] }
  | _ => none }
def FnOrdersWrongFalsely : Prop := fnOrdersRow.holds Try.pinned (OpenSpec.ofChange fnOrdersWrong)

/-- 'laws.FnExactRunOrders': WHATEVER THE INPUT: true; the input reads as it did. -/
def fnExactRunOrdersSpec : ChangeSpec := { name := "fnExactRunOrders", fn := fun _ => fun
  | [d1, d2] => { results := [.lit (.bool true)], args := [d1, d2] }
  | _ => none }
def fnExactRunOrdersRow : OpenClaim := { program := "ytnggfglmjdiaaaa", sum := "243417461d3e2f1304c908c02e2a7eb2bf293e5f728c04f15dbccf1ec57597fa", func := "loop.example/g00906/laws.FnExactRunOrders", spec := "fnExactRunOrders", unfollowed := true, recurses := true, apart := false }
def FnExactRunOrdersSaid : Prop := fnExactRunOrdersRow.holds Try.pinned (OpenSpec.ofChange fnExactRunOrdersSpec)

/-- ITS FALSE NEIGHBOUR: 'it returns false'. Refute it at one input. -/
def fnExactRunOrdersWrong : ChangeSpec := { name := "fnExactRunOrders", fn := fun _ => fun
  | [d1, d2] => { results := [.lit (.bool false)], args := [d1, d2] }
  | _ => none }
def FnExactRunOrdersWrongFalsely : Prop := fnExactRunOrdersRow.holds Try.pinned (OpenSpec.ofChange fnExactRunOrdersWrong)

/- THE SECOND FORM. 'bulk': how many values and letters a reading holds, each counted each time it is reached (what is shared counts as often as it is met; a slice's spare places count too). A statement '..UptoSaid' is the law's where the arguments, and the package variables that the reading takes, are together of bulk at most 1048576: NARROWER than '..Said'. Prove '..Said' where nothing that the law and all that it calls make is longer than what came in: it says more and counts as full. Else prove '..UptoSaid'. A law counts once. -/
mutual
def uptoBulk {H : Type} : DataW H → Nat
  | .lit (.string bytes) => bytes.length + 1
  | .lit _ => 1
  | .nil => 1
  | .ptr d => uptoBulk d + 1
  | .slice elems spare => uptoBulkAll elems + uptoBulkAll spare + 1
  | .agg parts => uptoBulkAll parts + 1
  | .iface _ d => uptoBulk d + 1
  | .map entries => uptoBulkEntries entries + 1
  | .held _ => 1
def uptoBulkAll {H : Type} : List (DataW H) → Nat
  | [] => 0
  | d :: r => uptoBulk d + uptoBulkAll r
def uptoBulkEntries {H : Type} : List (Lit × DataW H) → Nat
  | [] => 0
  | x :: r => uptoBulkEntry x + uptoBulkEntries r
def uptoBulkEntry {H : Type} : Lit × DataW H → Nat
  | (.string bytes, d) => bytes.length + uptoBulk d + 1
  | (_, d) => uptoBulk d + 1
 end
def uptoSmall : (H : Type) → List (DataW H) → Bool := fun _ ds => decide (uptoBulkAll ds ≤ 1048576)
def OpenSpec.upto (s : _root_.Go.ChangeSpec) : _root_.Go.OpenSpec := { _root_.Go.OpenSpec.ofChange s with cond := some uptoSmall }

/-- 'laws.FnExactIsValidTerminal', WHERE WHAT IT READS IS OF BULK AT MOST 1048576: true; the input reads as it did. -/
def fnExactIsValidTerminalUptoRow : OpenClaim := { program := "ytnggfglmjdiaaaa", sum := "243417461d3e2f1304c908c02e2a7eb2bf293e5f728c04f15dbccf1ec57597fa", func := "loop.example/g00906/laws.FnExactIsValidTerminal", spec := "fnExactIsValidTerminal", apart := false, narrowed := true }
def FnExactIsValidTerminalUptoSaid : Prop := fnExactIsValidTerminalUptoRow.holds Try.pinned (OpenSpec.upto fnExactIsValidTerminalSpec)

/-- 'laws.FnExactWhereIs', WHERE WHAT IT READS IS OF BULK AT MOST 1048576: true; the input reads as it did. -/
def fnExactWhereIsUptoRow : OpenClaim := { program := "ytnggfglmjdiaaaa", sum := "243417461d3e2f1304c908c02e2a7eb2bf293e5f728c04f15dbccf1ec57597fa", func := "loop.example/g00906/laws.FnExactWhereIs", spec := "fnExactWhereIs", apart := false, narrowed := true }
def FnExactWhereIsUptoSaid : Prop := fnExactWhereIsUptoRow.holds Try.pinned (OpenSpec.upto fnExactWhereIsSpec)

/-- 'laws.FnExactInverseOrder', WHERE WHAT IT READS IS OF BULK AT MOST 1048576: true; the input reads as it did. -/
def fnExactInverseOrderUptoRow : OpenClaim := { program := "ytnggfglmjdiaaaa", sum := "243417461d3e2f1304c908c02e2a7eb2bf293e5f728c04f15dbccf1ec57597fa", func := "loop.example/g00906/laws.FnExactInverseOrder", spec := "fnExactInverseOrder", unfollowed := true, recurses := true, apart := false, narrowed := true }
def FnExactInverseOrderUptoSaid : Prop := fnExactInverseOrderUptoRow.holds Try.pinned (OpenSpec.upto fnExactInverseOrderSpec)

/-- 'laws.FnExactMakeOrder', WHERE WHAT IT READS IS OF BULK AT MOST 1048576: true; the input reads as it did. -/
def fnExactMakeOrderUptoRow : OpenClaim := { program := "ytnggfglmjdiaaaa", sum := "243417461d3e2f1304c908c02e2a7eb2bf293e5f728c04f15dbccf1ec57597fa", func := "loop.example/g00906/laws.FnExactMakeOrder", spec := "fnExactMakeOrder", unfollowed := true, recurses := true, apart := false, narrowed := true }
def FnExactMakeOrderUptoSaid : Prop := fnExactMakeOrderUptoRow.holds Try.pinned (OpenSpec.upto fnExactMakeOrderSpec)

/-- 'laws.FnExactPossibleOrders', WHERE WHAT IT READS IS OF BULK AT MOST 1048576: true; the input reads as it did. -/
def fnExactPossibleOrdersUptoRow : OpenClaim := { program := "ytnggfglmjdiaaaa", sum := "243417461d3e2f1304c908c02e2a7eb2bf293e5f728c04f15dbccf1ec57597fa", func := "loop.example/g00906/laws.FnExactPossibleOrders", spec := "fnExactPossibleOrders", unfollowed := true, recurses := true, apart := false, narrowed := true }
def FnExactPossibleOrdersUptoSaid : Prop := fnExactPossibleOrdersUptoRow.holds Try.pinned (OpenSpec.upto fnExactPossibleOrdersSpec)

/-- 'laws.FnOrders', WHERE WHAT IT READS IS OF BULK AT MOST 1048576: true; the input reads as it did. -/
def fnOrdersUptoRow : OpenClaim := { program := "ytnggfglmjdiaaaa", sum := "243417461d3e2f1304c908c02e2a7eb2bf293e5f728c04f15dbccf1ec57597fa", func := "loop.example/g00906/laws.FnOrders", spec := "fnOrders", unfollowed := true, recurses := true, apart := false, narrowed := true }
def FnOrdersUptoSaid : Prop := fnOrdersUptoRow.holds Try.pinned (OpenSpec.upto fnOrdersSpec)

/-- 'laws.FnExactRunOrders', WHERE WHAT IT READS IS OF BULK AT MOST 1048576: true; the input reads as it did. -/
def fnExactRunOrdersUptoRow : OpenClaim := { program := "ytnggfglmjdiaaaa", sum := "243417461d3e2f1304c908c02e2a7eb2bf293e5f728c04f15dbccf1ec57597fa", func := "loop.example/g00906/laws.FnExactRunOrders", spec := "fnExactRunOrders", unfollowed := true, recurses := true, apart := false, narrowed := true }
def FnExactRunOrdersUptoSaid : Prop := fnExactRunOrdersUptoRow.holds Try.pinned (OpenSpec.upto fnExactRunOrdersSpec)

end Rows
end Go.Proofs.Ytnggfglmjdiaaaa
