/-
  No cell of these rows narrows 'for every input' (looked for: loops, veiled, ifaces, maps, wideKeys, modest, calm, conditions, laid).
  DERIVED. THE GIVEN ROWS OF THIS SEAT. 11 by the template 'for every input the law returns true; each argument reads behind the call as it read before'; 0 by the template 'total and deterministic' (their statements: YtolaplcjbmjlmaaTotals.lean).
  GIVEN WITH THE SEED: the statements are not yours to turn. If you find one false, say at which input.
  Laid BY PROGRAM, IN A SANDBOX (cutbox-rows.mjs): the forced cells as the released guide's own fill.sh prints them over the translation 90bbf404b4df7ca4… (all of the seat's roots in one cut). By AI agents, Wed Nov 11 2026. No macro, syntax, notation, axiom, sorry.
-/
import Derived.Test.YtolaplcjbmjlmaaChecked
import GoSem.Claim
import GoSem.ClaimJoined
import GoSem.ClaimMapViews
import Derived.JoinedTies
import Derived.KernelRfl
namespace Go.Proofs.Ytolaplcjbmjlmaa
/- THE CELL 'sum', in the pinned program and in every row, IS THE sha256 OF THE DUMP (.gsa) THAT YtolaplcjbmjlmaaProg.lean LOADS. Nothing in Lean hashes anything: it is a label: what it is worth is what the hold of that sum in a sandbox is worth. -/
noncomputable def Try.pinned : Pinned := { name := "ytolaplcjbmjlmaa", sum := "90bbf404b4df7ca4b0e376a59baf1c472c164866101f28d8c61923ffaa45816d", checked := Try.checked }
namespace Rows
def none {H : Type} : Left H := { results := [], args := [] }

/-- 'laws.FnExactCompareRates': WHATEVER THE INPUT: true; the input reads as it did. -/
def fnExactCompareRatesSpec : ChangeSpec := { name := "fnExactCompareRates", fn := fun _ => fun
  | [d1, d2, d3, d4] => { results := [.lit (.bool true)], args := [d1, d2, d3, d4] }
  | _ => none }
def fnExactCompareRatesRow : OpenClaim := { program := "ytolaplcjbmjlmaa", sum := "90bbf404b4df7ca4b0e376a59baf1c472c164866101f28d8c61923ffaa45816d", func := "loop.example/g00906/laws.FnExactCompareRates", spec := "fnExactCompareRates", apart := false }
def FnExactCompareRatesSaid : Prop := fnExactCompareRatesRow.holds Try.pinned (OpenSpec.ofChange fnExactCompareRatesSpec)

/-- ITS FALSE NEIGHBOUR: 'it returns false'. Refute it at one input. -/
def fnExactCompareRatesWrong : ChangeSpec := { name := "fnExactCompareRates", fn := fun _ => fun
  | [d1, d2, d3, d4] => { results := [.lit (.bool false)], args := [d1, d2, d3, d4] }
  | _ => none }
def FnExactCompareRatesWrongFalsely : Prop := fnExactCompareRatesRow.holds Try.pinned (OpenSpec.ofChange fnExactCompareRatesWrong)

/-- 'laws.FnExactIsValidStays': WHATEVER THE INPUT: true; the input reads as it did. -/
def fnExactIsValidStaysSpec : ChangeSpec := { name := "fnExactIsValidStays", fn := fun _ => fun
  | [d] => { results := [.lit (.bool true)], args := [d] }
  | _ => none }
def fnExactIsValidStaysRow : OpenClaim := { program := "ytolaplcjbmjlmaa", sum := "90bbf404b4df7ca4b0e376a59baf1c472c164866101f28d8c61923ffaa45816d", func := "loop.example/g00906/laws.FnExactIsValidStays", spec := "fnExactIsValidStays", unfollowed := true, recurses := true, apart := false }
def FnExactIsValidStaysSaid : Prop := fnExactIsValidStaysRow.holds Try.pinned (OpenSpec.ofChange fnExactIsValidStaysSpec)

/-- ITS FALSE NEIGHBOUR: 'it returns false'. Refute it at one input. -/
def fnExactIsValidStaysWrong : ChangeSpec := { name := "fnExactIsValidStays", fn := fun _ => fun
  | [d] => { results := [.lit (.bool false)], args := [d] }
  | _ => none }
def FnExactIsValidStaysWrongFalsely : Prop := fnExactIsValidStaysRow.holds Try.pinned (OpenSpec.ofChange fnExactIsValidStaysWrong)

/-- 'laws.FnExactBusyHours': WHATEVER THE INPUT: true; the input reads as it did. -/
def fnExactBusyHoursSpec : ChangeSpec := { name := "fnExactBusyHours", fn := fun _ => fun
  | [d1, d2] => { results := [.lit (.bool true)], args := [d1, d2] }
  | _ => none }
def fnExactBusyHoursRow : OpenClaim := { program := "ytolaplcjbmjlmaa", sum := "90bbf404b4df7ca4b0e376a59baf1c472c164866101f28d8c61923ffaa45816d", func := "loop.example/g00906/laws.FnExactBusyHours", spec := "fnExactBusyHours", unfollowed := true, recurses := true, apart := false }
def FnExactBusyHoursSaid : Prop := fnExactBusyHoursRow.holds Try.pinned (OpenSpec.ofChange fnExactBusyHoursSpec)

/-- ITS FALSE NEIGHBOUR: 'it returns false'. Refute it at one input. -/
def fnExactBusyHoursWrong : ChangeSpec := { name := "fnExactBusyHours", fn := fun _ => fun
  | [d1, d2] => { results := [.lit (.bool false)], args := [d1, d2] }
  | _ => none }
def FnExactBusyHoursWrongFalsely : Prop := fnExactBusyHoursRow.holds Try.pinned (OpenSpec.ofChange fnExactBusyHoursWrong)

/-- 'laws.FnExactPeakHour': WHATEVER THE INPUT: true; the input reads as it did. -/
def fnExactPeakHourSpec : ChangeSpec := { name := "fnExactPeakHour", fn := fun _ => fun
  | [d] => { results := [.lit (.bool true)], args := [d] }
  | _ => none }
def fnExactPeakHourRow : OpenClaim := { program := "ytolaplcjbmjlmaa", sum := "90bbf404b4df7ca4b0e376a59baf1c472c164866101f28d8c61923ffaa45816d", func := "loop.example/g00906/laws.FnExactPeakHour", spec := "fnExactPeakHour", unfollowed := true, recurses := true, apart := false }
def FnExactPeakHourSaid : Prop := fnExactPeakHourRow.holds Try.pinned (OpenSpec.ofChange fnExactPeakHourSpec)

/-- ITS FALSE NEIGHBOUR: 'it returns false'. Refute it at one input. -/
def fnExactPeakHourWrong : ChangeSpec := { name := "fnExactPeakHour", fn := fun _ => fun
  | [d] => { results := [.lit (.bool false)], args := [d] }
  | _ => none }
def FnExactPeakHourWrongFalsely : Prop := fnExactPeakHourRow.holds Try.pinned (OpenSpec.ofChange fnExactPeakHourWrong)

/-- 'laws.FnExactOccupancy': WHATEVER THE INPUT: true; the input reads as it did. -/
def fnExactOccupancySpec : ChangeSpec := { name := "fnExactOccupancy", fn := fun _ => fun
  | [d1, d2, d3, d4] => { results := [.lit (.bool true)], args := [d1, d2, d3, d4] }
  | _ => none }
def fnExactOccupancyRow : OpenClaim := { program := "ytolaplcjbmjlmaa", sum := "90bbf404b4df7ca4b0e376a59baf1c472c164866101f28d8c61923ffaa45816d", func := "loop.example/g00906/laws.FnExactOccupancy", spec := "fnExactOccupancy", unfollowed := true, recurses := true, apart := false }
def FnExactOccupancySaid : Prop := fnExactOccupancyRow.holds Try.pinned (OpenSpec.ofChange fnExactOccupancySpec)

/-- ITS FALSE NEIGHBOUR: 'it returns false'. Refute it at one input. -/
def fnExactOccupancyWrong : ChangeSpec := { name := "fnExactOccupancy", fn := fun _ => fun
  | [d1, d2, d3, d4] => { results := [.lit (.bool false)], args := [d1, d2, d3, d4] }
  | _ => none }
def FnExactOccupancyWrongFalsely : Prop := fnExactOccupancyRow.holds Try.pinned (OpenSpec.ofChange fnExactOccupancyWrong)

/-- 'laws.FnExactMeanStay': WHATEVER THE INPUT: true; the input reads as it did. -/
def fnExactMeanStaySpec : ChangeSpec := { name := "fnExactMeanStay", fn := fun _ => fun
  | [d] => { results := [.lit (.bool true)], args := [d] }
  | _ => none }
def fnExactMeanStayRow : OpenClaim := { program := "ytolaplcjbmjlmaa", sum := "90bbf404b4df7ca4b0e376a59baf1c472c164866101f28d8c61923ffaa45816d", func := "loop.example/g00906/laws.FnExactMeanStay", spec := "fnExactMeanStay", unfollowed := true, recurses := true, apart := false }
def FnExactMeanStaySaid : Prop := fnExactMeanStayRow.holds Try.pinned (OpenSpec.ofChange fnExactMeanStaySpec)

/-- ITS FALSE NEIGHBOUR: 'it returns false'. Refute it at one input. -/
def fnExactMeanStayWrong : ChangeSpec := { name := "fnExactMeanStay", fn := fun _ => fun
  | [d] => { results := [.lit (.bool false)], args := [d] }
  | _ => none }
def FnExactMeanStayWrongFalsely : Prop := fnExactMeanStayRow.holds Try.pinned (OpenSpec.ofChange fnExactMeanStayWrong)

/-- 'laws.FnExactPortShares': WHATEVER THE INPUT: true; the input reads as it did. -/
def fnExactPortSharesSpec : ChangeSpec := { name := "fnExactPortShares", fn := fun _ => fun
  | [d] => { results := [.lit (.bool true)], args := [d] }
  | _ => none }
def fnExactPortSharesRow : OpenClaim := { program := "ytolaplcjbmjlmaa", sum := "90bbf404b4df7ca4b0e376a59baf1c472c164866101f28d8c61923ffaa45816d", func := "loop.example/g00906/laws.FnExactPortShares", spec := "fnExactPortShares", unfollowed := true, recurses := true, apart := false }
def FnExactPortSharesSaid : Prop := fnExactPortSharesRow.holds Try.pinned (OpenSpec.ofChange fnExactPortSharesSpec)

/-- ITS FALSE NEIGHBOUR: 'it returns false'. Refute it at one input. -/
def fnExactPortSharesWrong : ChangeSpec := { name := "fnExactPortShares", fn := fun _ => fun
  | [d] => { results := [.lit (.bool false)], args := [d] }
  | _ => none }
def FnExactPortSharesWrongFalsely : Prop := fnExactPortSharesRow.holds Try.pinned (OpenSpec.ofChange fnExactPortSharesWrong)

/-- 'laws.FnOccupancy': WHATEVER THE INPUT: true; the input reads as it did. -/
def fnOccupancySpec : ChangeSpec := { name := "fnOccupancy", fn := fun _ => fun
  | [d] => { results := [.lit (.bool true)], args := [d] }
  | _ => none }
def fnOccupancyRow : OpenClaim := { program := "ytolaplcjbmjlmaa", sum := "90bbf404b4df7ca4b0e376a59baf1c472c164866101f28d8c61923ffaa45816d", func := "loop.example/g00906/laws.FnOccupancy", spec := "fnOccupancy", unfollowed := true, recurses := true, apart := false }
def FnOccupancySaid : Prop := fnOccupancyRow.holds Try.pinned (OpenSpec.ofChange fnOccupancySpec)

/-- ITS FALSE NEIGHBOUR: 'it returns false'. Refute it at one input. -/
def fnOccupancyWrong : ChangeSpec := { name := "fnOccupancy", fn := fun _ => fun
  | [d] => { results := [.lit (.bool false)], args := [d] }
  | _ => none }
def FnOccupancyWrongFalsely : Prop := fnOccupancyRow.holds Try.pinned (OpenSpec.ofChange fnOccupancyWrong)

/-- 'laws.FnExactLongStays': WHATEVER THE INPUT: true; the input reads as it did. -/
def fnExactLongStaysSpec : ChangeSpec := { name := "fnExactLongStays", fn := fun _ => fun
  | [d1, d2] => { results := [.lit (.bool true)], args := [d1, d2] }
  | _ => none }
def fnExactLongStaysRow : OpenClaim := { program := "ytolaplcjbmjlmaa", sum := "90bbf404b4df7ca4b0e376a59baf1c472c164866101f28d8c61923ffaa45816d", func := "loop.example/g00906/laws.FnExactLongStays", spec := "fnExactLongStays", unfollowed := true, recurses := true, apart := false }
def FnExactLongStaysSaid : Prop := fnExactLongStaysRow.holds Try.pinned (OpenSpec.ofChange fnExactLongStaysSpec)

/-- ITS FALSE NEIGHBOUR: 'it returns false'. Refute it at one input. -/
def fnExactLongStaysWrong : ChangeSpec := { name := "fnExactLongStays", fn := fun _ => fun
  | [d1, d2] => { results := [.lit (.bool false)], args := [d1, d2] }
  | _ => none }
def FnExactLongStaysWrongFalsely : Prop := fnExactLongStaysRow.holds Try.pinned (OpenSpec.ofChange fnExactLongStaysWrong)

/-- 'laws.FnExactMedianStay': WHATEVER THE INPUT: true; the input reads as it did. -/
def fnExactMedianStaySpec : ChangeSpec := { name := "fnExactMedianStay", fn := fun _ => fun
  | [d] => { results := [.lit (.bool true)], args := [d] }
  | _ => none }
def fnExactMedianStayRow : OpenClaim := { program := "ytolaplcjbmjlmaa", sum := "90bbf404b4df7ca4b0e376a59baf1c472c164866101f28d8c61923ffaa45816d", func := "loop.example/g00906/laws.FnExactMedianStay", spec := "fnExactMedianStay", unfollowed := true, recurses := true, apart := false }
def FnExactMedianStaySaid : Prop := fnExactMedianStayRow.holds Try.pinned (OpenSpec.ofChange fnExactMedianStaySpec)

/-- ITS FALSE NEIGHBOUR: 'it returns false'. Refute it at one input. -/
def fnExactMedianStayWrong : ChangeSpec := { name := "fnExactMedianStay", fn := fun _ => fun
  | [d] => { results := [.lit (.bool false)], args := [d] }
  | _ => none }
def FnExactMedianStayWrongFalsely : Prop := fnExactMedianStayRow.holds Try.pinned (OpenSpec.ofChange fnExactMedianStayWrong)

/-- 'laws.FnStays': WHATEVER THE INPUT: true; the input reads as it did. -/
def fnStaysSpec : ChangeSpec := { name := "fnStays", fn := fun _ => fun
  | [d] => { results := [.lit (.bool true)], args := [d] }
  | _ => none }
def fnStaysRow : OpenClaim := { program := "ytolaplcjbmjlmaa", sum := "90bbf404b4df7ca4b0e376a59baf1c472c164866101f28d8c61923ffaa45816d", func := "loop.example/g00906/laws.FnStays", spec := "fnStays", unfollowed := true, recurses := true, apart := false }
def FnStaysSaid : Prop := fnStaysRow.holds Try.pinned (OpenSpec.ofChange fnStaysSpec)

/-- ITS FALSE NEIGHBOUR: 'it returns false'. Refute it at one input. -/
def fnStaysWrong : ChangeSpec := { name := "fnStays", fn := fun _ => fun
  | [d] => { results := [.lit (.bool false)], args := [d] }
  | _ => none }
def FnStaysWrongFalsely : Prop := fnStaysRow.holds Try.pinned (OpenSpec.ofChange fnStaysWrong)

/- THE SECOND FORM. 'bulk': how many values and letters a reading holds, each counted each time it is reached (what is shared counts as often as it is met; a slice's spare places count too). A statement '..UptoSaid' is the law's where the arguments, and the package variables that the reading takes, are together of bulk at most 1048576: NARROWER than '..Said'. Prove '..Said' where nothing that the law and all that it calls make is longer than what came in: it says more and counts as full. Else prove '..UptoSaid'. A law counts once. -/
mutual
def uptoBulk {H : Type} : DataW H → Nat
  | .lit (.string bytes) => bytes.length + 1
  | .lit _ => 1
  | .nil => 1
  | .ptr d => uptoBulk d + 1
  | .slice elems spare => uptoBulkAll elems + uptoBulkAll spare + 1
  | .agg parts => uptoBulkAll parts + 1
  | .iface _ d => uptoBulk d + 1
  | .map entries => uptoBulkEntries entries + 1
  | .held _ => 1
def uptoBulkAll {H : Type} : List (DataW H) → Nat
  | [] => 0
  | d :: r => uptoBulk d + uptoBulkAll r
def uptoBulkEntries {H : Type} : List (Lit × DataW H) → Nat
  | [] => 0
  | x :: r => uptoBulkEntry x + uptoBulkEntries r
def uptoBulkEntry {H : Type} : Lit × DataW H → Nat
  | (.string bytes, d) => bytes.length + uptoBulk d + 1
  | (_, d) => uptoBulk d + 1
 end
def uptoSmall : (H : Type) → List (DataW H) → Bool := fun _ ds => decide (uptoBulkAll ds ≤ 1048576)
def OpenSpec.upto (s : _root_.Go.ChangeSpec) : _root_.Go.OpenSpec := { _root_.Go.OpenSpec.ofChange s with cond := some uptoSmall }

/-- 'laws.FnExactCompareRates', WHERE WHAT IT READS IS OF BULK AT MOST 1048576: true; the input reads as it did. -/
def fnExactCompareRatesUptoRow : OpenClaim := { program := "ytolaplcjbmjlmaa", sum := "90bbf404b4df7ca4b0e376a59baf1c472c164866101f28d8c61923ffaa45816d", func := "loop.example/g00906/laws.FnExactCompareRates", spec := "fnExactCompareRates", apart := false, narrowed := true }
def FnExactCompareRatesUptoSaid : Prop := fnExactCompareRatesUptoRow.holds Try.pinned (OpenSpec.upto fnExactCompareRatesSpec)

/-- 'laws.FnExactIsValidStays', WHERE WHAT IT READS IS OF BULK AT MOST 1048576: true; the input reads as it did. -/
def fnExactIsValidStaysUptoRow : OpenClaim := { program := "ytolaplcjbmjlmaa", sum := "90bbf404b4df7ca4b0e376a59baf1c472c164866101f28d8c61923ffaa45816d", func := "loop.example/g00906/laws.FnExactIsValidStays", spec := "fnExactIsValidStays", unfollowed := true, recurses := true, apart := false, narrowed := true }
def FnExactIsValidStaysUptoSaid : Prop := fnExactIsValidStaysUptoRow.holds Try.pinned (OpenSpec.upto fnExactIsValidStaysSpec)

/-- 'laws.FnExactBusyHours', WHERE WHAT IT READS IS OF BULK AT MOST 1048576: true; the input reads as it did. -/
def fnExactBusyHoursUptoRow : OpenClaim := { program := "ytolaplcjbmjlmaa", sum := "90bbf404b4df7ca4b0e376a59baf1c472c164866101f28d8c61923ffaa45816d", func := "loop.example/g00906/laws.FnExactBusyHours", spec := "fnExactBusyHours", unfollowed := true, recurses := true, apart := false, narrowed := true }
def FnExactBusyHoursUptoSaid : Prop := fnExactBusyHoursUptoRow.holds Try.pinned (OpenSpec.upto fnExactBusyHoursSpec)

/-- 'laws.FnExactPeakHour', WHERE WHAT IT READS IS OF BULK AT MOST 1048576: true; the input reads as it did. -/
def fnExactPeakHourUptoRow : OpenClaim := { program := "ytolaplcjbmjlmaa", sum := "90bbf404b4df7ca4b0e376a59baf1c472c164866101f28d8c61923ffaa45816d", func := "loop.example/g00906/laws.FnExactPeakHour", spec := "fnExactPeakHour", unfollowed := true, recurses := true, apart := false, narrowed := true }
def FnExactPeakHourUptoSaid : Prop := fnExactPeakHourUptoRow.holds Try.pinned (OpenSpec.upto fnExactPeakHourSpec)

/-- 'laws.FnExactOccupancy', WHERE WHAT IT READS IS OF BULK AT MOST 1048576: true; the input reads as it did. -/
def fnExactOccupancyUptoRow : OpenClaim := { program := "ytolaplcjbmjlmaa", sum := "90bbf404b4df7ca4b0e376a59baf1c472c164866101f28d8c61923ffaa45816d", func := "loop.example/g00906/laws.FnExactOccupancy", spec := "fnExactOccupancy", unfollowed := true, recurses := true, apart := false, narrowed := true }
def FnExactOccupancyUptoSaid : Prop := fnExactOccupancyUptoRow.holds Try.pinned (OpenSpec.upto fnExactOccupancySpec)

/-- 'laws.FnExactMeanStay', WHERE WHAT IT READS IS OF BULK AT MOST 1048576: true; the input reads as it did. -/
def fnExactMeanStayUptoRow : OpenClaim := { program := "ytolaplcjbmjlmaa", sum := "90bbf404b4df7ca4b0e376a59baf1c472c164866101f28d8c61923ffaa45816d", func := "loop.example/g00906/laws.FnExactMeanStay", spec := "fnExactMeanStay", unfollowed := true, recurses := true, apart := false, narrowed := true }
def FnExactMeanStayUptoSaid : Prop := fnExactMeanStayUptoRow.holds Try.pinned (OpenSpec.upto fnExactMeanStaySpec)

/-- 'laws.FnExactPortShares', WHERE WHAT IT READS IS OF BULK AT MOST 1048576: true; the input reads as it did. -/
def fnExactPortSharesUptoRow : OpenClaim := { program := "ytolaplcjbmjlmaa", sum := "90bbf404b4df7ca4b0e376a59baf1c472c164866101f28d8c61923ffaa45816d", func := "loop.example/g00906/laws.FnExactPortShares", spec := "fnExactPortShares", unfollowed := true, recurses := true, apart := false, narrowed := true }
def FnExactPortSharesUptoSaid : Prop := fnExactPortSharesUptoRow.holds Try.pinned (OpenSpec.upto fnExactPortSharesSpec)

/-- 'laws.FnOccupancy', WHERE WHAT IT READS IS OF BULK AT MOST 1048576: true; the input reads as it did. -/
def fnOccupancyUptoRow : OpenClaim := { program := "ytolaplcjbmjlmaa", sum := "90bbf404b4df7ca4b0e376a59baf1c472c164866101f28d8c61923ffaa45816d", func := "loop.example/g00906/laws.FnOccupancy", spec := "fnOccupancy", unfollowed := true, recurses := true, apart := false, narrowed := true }
def FnOccupancyUptoSaid : Prop := fnOccupancyUptoRow.holds Try.pinned (OpenSpec.upto fnOccupancySpec)

/-- 'laws.FnExactLongStays', WHERE WHAT IT READS IS OF BULK AT MOST 1048576: true; the input reads as it did. -/
def fnExactLongStaysUptoRow : OpenClaim := { program := "ytolaplcjbmjlmaa", sum := "90bbf404b4df7ca4b0e376a59baf1c472c164866101f28d8c61923ffaa45816d", func := "loop.example/g00906/laws.FnExactLongStays", spec := "fnExactLongStays", unfollowed := true, recurses := true, apart := false, narrowed := true }
def FnExactLongStaysUptoSaid : Prop := fnExactLongStaysUptoRow.holds Try.pinned (OpenSpec.upto fnExactLongStaysSpec)

/-- 'laws.FnExactMedianStay', WHERE WHAT IT READS IS OF BULK AT MOST 1048576: true; the input reads as it did. -/
def fnExactMedianStayUptoRow : OpenClaim := { program := "ytolaplcjbmjlmaa", sum := "90bbf404b4df7ca4b0e376a59baf1c472c164866101f28d8c61923ffaa45816d", func := "loop.example/g00906/laws.FnExactMedianStay", spec := "fnExactMedianStay", unfollowed := true, recurses := true, apart := false, narrowed := true }
def FnExactMedianStayUptoSaid : Prop := fnExactMedianStayUptoRow.holds Try.pinned (OpenSpec.upto fnExactMedianStaySpec)

/-- 'laws.FnStays', WHERE WHAT IT READS IS OF BULK AT MOST 1048576: true; the input reads as it did. -/
def fnStaysUptoRow : OpenClaim := { program := "ytolaplcjbmjlmaa", sum := "90bbf404b4df7ca4b0e376a59baf1c472c164866101f28d8c61923ffaa45816d", func := "loop.example/g00906/laws.FnStays", spec := "fnStays", unfollowed := true, recurses := true, apart := false, narrowed := true }
def FnStaysUptoSaid : Prop := fnStaysUptoRow.holds Try.pinned (OpenSpec.upto fnStaysSpec)

end Rows
end Go.Proofs.Ytolaplcjbmjlmaa
