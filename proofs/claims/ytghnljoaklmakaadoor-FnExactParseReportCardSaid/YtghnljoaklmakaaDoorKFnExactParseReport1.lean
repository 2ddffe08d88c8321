/- Texts that the proof of the law FnExactParseReport leans on, part 2 of 6. -/
import Derived.Test.YtghnljoaklmakaaDoorProg
import Derived.Lib.LaidTab
import Derived.Lib.AppendIntMem
import Derived.WalkSmall
import Derived.Stop.LaidErr
import Derived.Below
import Derived.Deep.Draws
import Derived.Deep.AppendLies
import Derived.Maps.AppendAt
import Derived.OwnWalk
import Derived.Laws.BytesArg
import Derived.Laws.MakeOwn
import Derived.Laws.OwnMore
import Derived.Deep.OwnRows
import Derived.Tactics
import Derived.Lib.ConvBytes
import Derived.Laws.Slices
import Derived.WalkKit
import Derived.KernelRfl
import Derived.RowKit3
import Derived.Deep.LoopGhost
import Derived.Deep.QuietTactic
import Derived.BigQuiet
import Derived.WideLaws
import Derived.Deep.DeepCutAuto
import Derived.Deep.CutBlock
import Derived.Deep.RegionHeld3
import Derived.Laws.Rows
import Derived.Lib.AppendStr
import Derived.ArgAppend
import Derived.Laws.IdiomCopy
import Derived.OrdersHeld
import Derived.Laws.BitsLemmas
import Derived.RowKit
import Derived.Test.YtghnljoaklmakaaDoorKFnExactParseReport0
set_option linter.unusedVariables false
set_option linter.unusedSimpArgs false
namespace Go.Proofs.YtghnljoaklmakaaDoorG
open Go.RowKit Go.Proofs.YtghnljoaklmakaaDoorW.PrintWords
/-- A variable that holds an error. -/
def ErrAt (w : World) (n : String) : Prop := ∃ g a b, Tryd.prog.globalNamed n = some g ∧ g < w.heap.size ∧ w.var? Tryd.prog n = some #[.iface a b]
theorem ErrAt.below {w w' : World} {n : String} (h : ErrAt w n) (hb : Below w.heap.size w w') : ErrAt w' n := by
  obtain ⟨g, a, b, hg, hlt, ht⟩ := h
  exact ⟨g, a, b, hg, Nat.lt_of_lt_of_le hlt hb.size, var?_below hb hg hlt ht⟩
theorem ErrAt.of_laid {W : World} {n : String} {text : List UInt8} {g : Nat} (h : laidMet Tryd.prog [(n, .iface "*errors.errorString" (.ptr (.agg [.lit (.string text)])))] W) (hn : Tryd.prog.globalNamed n = some g) (ht : (Tryd.prog.globals[g]?).map (·.type) = some 66) : ErrAt W n := by
  obtain ⟨a0, s0, hv0, -, -, -⟩ := laid_sentinel h hn ht Tryd.underlying66 (fun u hu => typeName_ptr_named (nm := "errors.errorString") (tp := 119) (by rw [show "*" ++ "errors.errorString" = "*errors.errorString" from by decide]; kernel_rfl) (by kernel_rfl) (by decide) u (by rw [show "*" ++ "errors.errorString" = "*errors.errorString" from by decide]; exact hu)) Tryd.underlying119 Tryd.underlying121 rfl rfl Tryd.underlying9 (by kernel_rfl) (by kernel_rfl)
  refine ⟨g, _, _, hn, ?_, hv0⟩
  have h := hv0
  unfold World.var? at h
  rw [hn] at h
  simp only [Option.bind_some] at h
  cases hh : W.heap[g]? with
  | none => rw [hh] at h; cases h
  | some o => exact (Array.getElem?_eq_some_iff.1 hh).1
/-- internal/strconv.uint64pow10 reads as the powers of ten. -/
def GlobT (w : World) : Prop := (∃ g, Tryd.prog.globalNamed "internal/strconv.uint64pow10" = some g ∧ g < w.heap.size) ∧ Lib.TabIs Tryd.prog w "internal/strconv.uint64pow10" .u64 Lib.pow10Tab
theorem GlobT.below {w w' : World} (h : GlobT w) (hb : Below w.heap.size w w') : GlobT w' := by
  obtain ⟨⟨g, hg, hlt⟩, ht⟩ := h
  exact ⟨⟨g, hg, Nat.lt_of_lt_of_le hlt hb.size⟩, var?_below hb hg hlt ht⟩
/-- From the table as it is read to the fact. -/
theorem GlobT.of_tab {W : World} (h0 : laidMet Tryd.prog [("internal/strconv.uint64pow10", Lib.tabData .u64 Lib.pow10Tab)] W) : GlobT W := by
  have h : Lib.TabIs Tryd.prog W "internal/strconv.uint64pow10" .u64 Lib.pow10Tab := Lib.tabIs_of_head (g := 3) (t := 114) (e := 102) (n := 20) (by kernel_rfl) (by kernel_rfl) (by kernel_rfl) (by kernel_rfl) (by kernel_rfl) (by kernel_rfl) h0
  refine ⟨?_, h⟩
  have hn : Tryd.prog.globalNamed "internal/strconv.uint64pow10" = some 3 := by kernel_rfl
  refine ⟨_, hn, ?_⟩
  unfold Lib.TabIs World.var? at h
  rw [hn] at h
  simp only [Option.bind_some] at h
  cases hh : W.heap[3]? with
  | none => rw [hh] at h; cases h
  | some o => exact (Array.getElem?_eq_some_iff.1 hh).1
/-- A number of the library's: some whole number. -/
def MaxAt (w : World) : Prop := ∃ m, w.cell? ⟨0, 0, none⟩ = some (.int .i64 m)
theorem MaxAt.below {w w' : World} (h : MaxAt w) (hb : Below w.heap.size w w') : MaxAt w' := by
  obtain ⟨m, h⟩ := h
  exact ⟨m, (hb.cell (World.block_lt_of_cell? w _ h)).trans h⟩
/-- All four. -/
def Eo (w : World) : Prop := GlobT w ∧ ErrAt w "strconv.ErrSyntax" ∧ ErrAt w "strconv.ErrRange" ∧ MaxAt w
theorem Eo.below {w w' : World} (h : Eo w) (hb : Below w.heap.size w w') : Eo w' := ⟨h.1.below hb, h.2.1.below hb, h.2.2.1.below hb, h.2.2.2.below hb⟩
theorem Eo.tab {w : World} (h : Eo w) : Lib.TabIs Tryd.prog w "internal/strconv.uint64pow10" .u64 Lib.pow10Tab := h.1.2
theorem Eo.esyn {w : World} (h : Eo w) : ErrAt w "strconv.ErrSyntax" := h.2.1
theorem Eo.erng {w : World} (h : Eo w) : ErrAt w "strconv.ErrRange" := h.2.2.1
theorem Eo.max {w : World} (h : Eo w) : MaxAt w := h.2.2.2
theorem Eo.of_tabs {W : World} {ts tr : List UInt8} (h0 : laidMet Tryd.prog [("internal/strconv.uint64pow10", Lib.tabData .u64 Lib.pow10Tab)] W) (h1 : laidMet Tryd.prog [("strconv.ErrSyntax", .iface "*errors.errorString" (.ptr (.agg [.lit (.string ts)])))] W) (h2 : laidMet Tryd.prog [("strconv.ErrRange", .iface "*errors.errorString" (.ptr (.agg [.lit (.string tr)])))] W) (h3 : MaxAt W) : Eo W :=
  ⟨GlobT.of_tab h0, ErrAt.of_laid (g := 1) h1 (by kernel_rfl) (by kernel_rfl), ErrAt.of_laid (g := 2) h2 (by kernel_rfl) (by kernel_rfl), h3⟩
end Go.Proofs.YtghnljoaklmakaaDoorG

namespace Go.Proofs.YtghnljoaklmakaaDoor.X
open Go.RowKit Go.Proofs.YtghnljoaklmakaaDoorW.PrintWords Go.Proofs.YtghnljoaklmakaaDoorW.PrintLast Go.Proofs.YtghnljoaklmakaaDoorW.PrintMore
attribute [local go_sem] Ea Eb Eh Eg Dz D5 Ec D9
open Go.Proofs.YtghnljoaklmakaaDoorG

def errW : Option Int → Value
  | none => .nilIface
  | some c => .iface 92 (.int .i64 c)
theorem Aq : errW none = .nilIface := rfl
theorem Ar (c : Int) : errW (some c) = .iface 92 (.int .i64 c) := rfl
theorem info3 : (Tryd.prog.info? 3).map (fun i => (i.zero, i.size, i.bytes)) = some (some (.int .i64 0), 1, 8) := by kernel_rfl
theorem info9 : (Tryd.prog.info? 9).map (fun i => (i.zero, i.size, i.bytes)) = some (some (.string ⟨#[]⟩), 1, 16) := by kernel_rfl
theorem info27 : (Tryd.prog.info? 27).map (fun i => (i.zero, i.size, i.bytes)) = some (some (.agg #[(.int .i64 0), (.string ⟨#[]⟩), (.int .i64 0), (.int .i64 0)]), 4, 40) := by kernel_rfl
-- the values' own types
structure S23 where
  f0 : Int
  f1 : ByteArray
  f2 : Int
  f3 : Int
def z23 : S23 := ⟨(0 : Int), (⟨#[]⟩ : ByteArray), (0 : Int), (0 : Int)⟩
def k23 : Kd S23 := Kd.iso (Kd.pair (Kd.int .i64) (Kd.pair Kd.string (Kd.pair (Kd.int .i64) (Kd.int .i64)))) (fun x : S23 => (x.f0, x.f1, x.f2, x.f3))
theorem k23_open {w : World} {x : S23} {cs : List Value} (h : k23.K w x cs) : cs = [.int .i64 x.f0, .string x.f1, .int .i64 x.f2, .int .i64 x.f3] := by
  obtain ⟨_, _, rfl, rfl, ⟨_, _, rfl, rfl, ⟨_, _, rfl, rfl, rfl⟩⟩⟩ := h
  exact rfl
def E5 (xs : List S23) (i : Int) : S23 := xs.getD i.toNat z23
theorem at_T23 {w : World} {A : Option Addr} {n : Nat} {xs : List S23} (h : Kd.C k23 w A n xs) (i : Int) (h0 : 0 ≤ i) (h1 : i < n) : ∃ ad , A = some ad ∧ w.cell? (ad.add (i.toNat * 4)) = some (.int .i64 (E5 xs i).f0) ∧ w.cell? ⟨(ad.add (i.toNat * 4)).block, (ad.add (i.toNat * 4)).off + 1, none⟩ = some (.string (E5 xs i).f1) ∧ w.cell? ⟨(ad.add (i.toNat * 4)).block, (ad.add (i.toNat * 4)).off + 2, none⟩ = some (.int .i64 (E5 xs i).f2) ∧ w.cell? ⟨(ad.add (i.toNat * 4)).block, (ad.add (i.toNat * 4)).off + 3, none⟩ = some (.int .i64 (E5 xs i).f3) := by
  obtain ⟨ad, c, e, _, hK, hc0⟩ := Kd.C_get h z23 i h0 h1
  have hc : ∀ j u, c[j]? = some u → w.cell? (ad.add (i.toNat * 4 + j)) = some u := hc0
  obtain rfl := k23_open hK
  exact ⟨ad, e, hc 0 _ rfl, by rw [← Ia _ _ 1 (by omega)]; exact hc 1 _ rfl, by rw [← Ia _ _ 2 (by omega)]; exact hc 2 _ rfl, by rw [← Ia _ _ 3 (by omega)]; exact hc 3 _ rfl⟩
structure S27 where
  f0 : Int
  f1 : ByteArray
  f2 : Int
  f3 : Int
def z27 : S27 := ⟨(0 : Int), (⟨#[]⟩ : ByteArray), (0 : Int), (0 : Int)⟩
def k27 : Kd S27 := Kd.iso (Kd.pair (Kd.int .i64) (Kd.pair Kd.string (Kd.pair (Kd.int .i64) (Kd.int .i64)))) (fun x : S27 => (x.f0, x.f1, x.f2, x.f3))
theorem k27_open {w : World} {x : S27} {cs : List Value} (h : k27.K w x cs) : cs = [.int .i64 x.f0, .string x.f1, .int .i64 x.f2, .int .i64 x.f3] := by
  obtain ⟨_, _, rfl, rfl, ⟨_, _, rfl, rfl, ⟨_, _, rfl, rfl, rfl⟩⟩⟩ := h
  exact rfl
theorem G8 {w : World} {base : Nat} {ok : Nat → Prop} {x : S27} {cs : List Value} (h : k27.M w base ok x cs) : cs = [.int .i64 x.f0, .string x.f1, .int .i64 x.f2, .int .i64 x.f3] := by
  obtain ⟨_, _, rfl, rfl, ⟨_, _, rfl, rfl, ⟨_, _, rfl, rfl, rfl⟩⟩⟩ := h
  exact rfl
theorem G6 (w : World) (base : Nat) (ok : Nat → Prop) (x : S27)  : k27.M w base ok x [.int .i64 x.f0, .string x.f1, .int .i64 x.f2, .int .i64 x.f3] := ⟨[.int .i64 x.f0], [.string x.f1, .int .i64 x.f2, .int .i64 x.f3], rfl, rfl, ⟨[.string x.f1], [.int .i64 x.f2, .int .i64 x.f3], rfl, rfl, ⟨[.int .i64 x.f2], [.int .i64 x.f3], rfl, rfl, rfl⟩⟩⟩
def Ak (xs : List S27) (i : Int) : S27 := xs.getD i.toNat z27
theorem Fp {w : World} {A : Option Addr} {n : Nat} {xs : List S27} (h : Kd.C k27 w A n xs) (i : Int) (h0 : 0 ≤ i) (h1 : i < n) : ∃ ad , A = some ad ∧ w.cell? (ad.add (i.toNat * 4)) = some (.int .i64 (Ak xs i).f0) ∧ w.cell? ⟨(ad.add (i.toNat * 4)).block, (ad.add (i.toNat * 4)).off + 1, none⟩ = some (.string (Ak xs i).f1) ∧ w.cell? ⟨(ad.add (i.toNat * 4)).block, (ad.add (i.toNat * 4)).off + 2, none⟩ = some (.int .i64 (Ak xs i).f2) ∧ w.cell? ⟨(ad.add (i.toNat * 4)).block, (ad.add (i.toNat * 4)).off + 3, none⟩ = some (.int .i64 (Ak xs i).f3) := by
  obtain ⟨ad, c, e, _, hK, hc0⟩ := Kd.C_get h z27 i h0 h1
  have hc : ∀ j u, c[j]? = some u → w.cell? (ad.add (i.toNat * 4 + j)) = some u := hc0
  obtain rfl := k27_open hK
  exact ⟨ad, e, hc 0 _ rfl, by rw [← Ia _ _ 1 (by omega)]; exact hc 1 _ rfl, by rw [← Ia _ _ 2 (by omega)]; exact hc 2 _ rfl, by rw [← Ia _ _ 3 (by omega)]; exact hc 3 _ rfl⟩
end Go.Proofs.YtghnljoaklmakaaDoor.X

namespace Go.Proofs.YtghnljoaklmakaaDoor.X
open Go.RowKit Go.Proofs.YtghnljoaklmakaaDoorW.PrintWords Go.Proofs.YtghnljoaklmakaaDoorW.PrintLast Go.Proofs.YtghnljoaklmakaaDoorW.PrintMore
theorem Ya_ {p : Prop} (h : p := by repeat (first | (with_reducible first | exact HB.out | apply Ae | apply Aa | apply Ad) | exact HB.out)) : p := h
theorem Yb_ {p : Prop} (h : p := by (try simp only [List.map_toArray, List.map_cons, List.map_nil]); first | done | rfl | (simp only [List.length_drop, List.length_take]; rfl)) : p := h
theorem Yc_ {p : Prop} (h : p := by first | (with_reducible assumption) | assumption) : p := h
theorem Yd_ {p : Prop} (h : p := by repeat (first | (with_reducible first | exact HB.out | apply Ae | apply Aa | apply Ad | refine Am ?_ GE0.out) | exact HB.out)) : p := h
theorem Ye_ {p : Prop} (h : p := by (with_reducible repeat (first | refine Ah ?_ _ | refine Aj ?_ | refine Ai ?_ _)); exact BK0.out) : p := h
theorem Yf_ {p : Prop} (h : p := by first | rfl | (simp; done) | (simp [*]; done)) : p := h
theorem Yg_ {p : Prop} (h : p := by (with_reducible repeat (first | apply Kd.Bg | apply Kd.Bh | apply Kd.Bl)); exact HO_4.out) : p := h
theorem Yh_ {p : Prop} (h : p := by (with_reducible repeat (first | refine Ah ?_ _ | refine Aj ?_ | refine Ai ?_ _)); refine Bo (cs := #[.int .i64 0, .string (t266.extract 0 8), .int .i64 0, .int .i64 0]) ?_ 0 _ rfl; (with_reducible repeat (first | refine Ah ?_ _ | refine Aj ?_ | refine Ai ?_ _)); refine Bo (cs := #[.int .i64 0, .string (t266.extract 0 8), .int .i64 0, .int .i64 0]) ?_ 3 _ rfl; (with_reducible repeat (first | refine Ah ?_ _ | refine Aj ?_ | refine Ai ?_ _)); refine Bo (cs := #[.int .i64 0, .string (t266.extract 0 8), .int .i64 0, .int .i64 0]) ?_ 2 _ rfl; (with_reducible repeat (first | refine Ah ?_ _ | refine Aj ?_ | refine Ai ?_ _)); refine Bo (cs := #[.int .i64 0, .string (⟨#[]⟩ : ByteArray), .int .i64 0, .int .i64 0]) ?_ 1 _ rfl; (with_reducible repeat (first | refine Ah ?_ _ | refine Aj ?_ | refine Ai ?_ _)); refine Bo (cs := #[.int .i64 0, .string (⟨#[]⟩ : ByteArray), .int .i64 0, .int .i64 0]) ?_ 0 _ rfl; (with_reducible repeat (first | refine Ah ?_ _ | refine Aj ?_ | refine Ai ?_ _)); exact BK2.out) : p := h
theorem Yi_ {p : Prop} (h : p := by (with_reducible repeat (first | refine Ah ?_ _ | refine Aj ?_ | refine Ai ?_ _)); refine Bo (cs := #[.int .i64 0, .string (⟨#[]⟩ : ByteArray), .int .i64 0, .int .i64 0]) ?_ 3 _ rfl; (with_reducible repeat (first | refine Ah ?_ _ | refine Aj ?_ | refine Ai ?_ _)); refine Bo (cs := #[.int .i64 0, .string (⟨#[]⟩ : ByteArray), .int .i64 0, .int .i64 0]) ?_ 2 _ rfl; (with_reducible repeat (first | refine Ah ?_ _ | refine Aj ?_ | refine Ai ?_ _)); refine Bo (cs := #[.int .i64 0, .string (⟨#[]⟩ : ByteArray), .int .i64 0, .int .i64 0]) ?_ 1 _ rfl; (with_reducible repeat (first | refine Ah ?_ _ | refine Aj ?_ | refine Ai ?_ _)); refine Bo (cs := #[.int .i64 0, .string (⟨#[]⟩ : ByteArray), .int .i64 0, .int .i64 0]) ?_ 0 _ rfl; (with_reducible repeat (first | refine Ah ?_ _ | refine Aj ?_ | refine Ai ?_ _)); exact BK0.out) : p := h
theorem Yj_ {p : Prop} (h : p := by (with_reducible repeat (first | refine Ah ?_ _ | refine Aj ?_ | refine Ai ?_ _)); refine Bo (cs := #[.int .i64 t384, .string t385, .int .i64 t386, .int .i64 0]) ?_ 3 _ rfl; (with_reducible repeat (first | refine Ah ?_ _ | refine Aj ?_ | refine Ai ?_ _)); refine Bo (cs := #[.int .i64 t384, .string t385, .int .i64 0, .int .i64 0]) ?_ 2 _ rfl; (with_reducible repeat (first | refine Ah ?_ _ | refine Aj ?_ | refine Ai ?_ _)); refine Bo (cs := #[.int .i64 t384, .string (⟨#[]⟩ : ByteArray), .int .i64 0, .int .i64 0]) ?_ 1 _ rfl; (with_reducible repeat (first | refine Ah ?_ _ | refine Aj ?_ | refine Ai ?_ _)); refine Bo (cs := #[.int .i64 0, .string (⟨#[]⟩ : ByteArray), .int .i64 0, .int .i64 0]) ?_ 0 _ rfl; (with_reducible repeat (first | refine Ah ?_ _ | refine Aj ?_ | refine Ai ?_ _)); exact BK0.out) : p := h
theorem Yba_ {p : Prop} (h : p := by repeat (first | (with_reducible first | exact HB.out | apply Ae | apply Aa | apply Ad | refine Am ?_ GE0.out | refine Am ?_ GE1.out | refine Am ?_ GE2.out) | exact HB.out)) : p := h
theorem Ybb_ {p : Prop} (h : p := by (with_reducible repeat (first | refine Ah ?_ _ | refine Aj ?_ | refine Ai ?_ _)); refine Dc ?_ NB0_2.out _; (with_reducible repeat (first | refine Ah ?_ _ | refine Aj ?_ | refine Ai ?_ _)); refine Dc ?_ NB0_2.out _; (with_reducible repeat (first | refine Ah ?_ _ | refine Aj ?_ | refine Ai ?_ _)); refine Dc ?_ NB0_2.out _; (with_reducible repeat (first | refine Ah ?_ _ | refine Aj ?_ | refine Ai ?_ _)); refine Dc ?_ NB0_2.out _; (with_reducible repeat (first | refine Ah ?_ _ | refine Aj ?_ | refine Ai ?_ _)); refine Dc ?_ NB0_2.out _; (with_reducible repeat (first | refine Ah ?_ _ | refine Aj ?_ | refine Ai ?_ _)); exact BK0.out) : p := h
theorem Ybc_ {p : Prop} (h : p := by (with_reducible repeat (first | refine Ah ?_ _ | refine Aj ?_ | refine Ai ?_ _)); refine Dc ?_ NB1_2.out _; (with_reducible repeat (first | refine Ah ?_ _ | refine Aj ?_ | refine Ai ?_ _)); refine Dc ?_ NB1_2.out _; (with_reducible repeat (first | refine Ah ?_ _ | refine Aj ?_ | refine Ai ?_ _)); refine Dc ?_ NB1_2.out _; (with_reducible repeat (first | refine Ah ?_ _ | refine Aj ?_ | refine Ai ?_ _)); refine Dc ?_ NB1_2.out _; (with_reducible repeat (first | refine Ah ?_ _ | refine Aj ?_ | refine Ai ?_ _)); refine Dc ?_ NB1_2.out _; (with_reducible repeat (first | refine Ah ?_ _ | refine Aj ?_ | refine Ai ?_ _)); exact BK1.out) : p := h
theorem Ybd_ {p : Prop} (h : p := by repeat (first | (with_reducible first | exact HB.out | apply Ae | apply Aa | apply Ad | refine Am ?_ GE0.out | refine Am ?_ GE1.out) | exact HB.out)) : p := h
theorem Ybe_ {p : Prop} (h : p := by (with_reducible repeat (first | refine Ah ?_ _ | refine Aj ?_ | refine Ai ?_ _)); exact BK1.out) : p := h
theorem Ybf_ {p : Prop} (h : p := by (with_reducible repeat (first | apply Kd.Bg | apply Kd.Bh | apply Kd.Bl)); exact HO_3.out) : p := h
theorem Ybg_ {p : Prop} (h : p := by (with_reducible repeat (first | refine Ah ?_ _ | refine Aj ?_ | refine Ai ?_ _)); refine Bo (cs := #[.int .i64 t409, .string t410, .int .i64 t411, .int .i64 0]) ?_ 3 _ rfl; (with_reducible repeat (first | refine Ah ?_ _ | refine Aj ?_ | refine Ai ?_ _)); refine Bo (cs := #[.int .i64 t409, .string t410, .int .i64 0, .int .i64 0]) ?_ 2 _ rfl; (with_reducible repeat (first | refine Ah ?_ _ | refine Aj ?_ | refine Ai ?_ _)); refine Bo (cs := #[.int .i64 t409, .string (⟨#[]⟩ : ByteArray), .int .i64 0, .int .i64 0]) ?_ 1 _ rfl; (with_reducible repeat (first | refine Ah ?_ _ | refine Aj ?_ | refine Ai ?_ _)); refine Bo (cs := #[.int .i64 0, .string (⟨#[]⟩ : ByteArray), .int .i64 0, .int .i64 0]) ?_ 0 _ rfl; (with_reducible repeat (first | refine Ah ?_ _ | refine Aj ?_ | refine Ai ?_ _)); exact BK0.out) : p := h
theorem Ybh_ {p : Prop} (h : p := by (with_reducible repeat (first | refine Ah ?_ _ | refine Aj ?_ | refine Ai ?_ _)); refine Bo (cs := #[.int .i64 t418, .string t419, .int .i64 t420, .int .i64 0]) ?_ 3 _ rfl; (with_reducible repeat (first | refine Ah ?_ _ | refine Aj ?_ | refine Ai ?_ _)); refine Bo (cs := #[.int .i64 t418, .string t419, .int .i64 0, .int .i64 0]) ?_ 2 _ rfl; (with_reducible repeat (first | refine Ah ?_ _ | refine Aj ?_ | refine Ai ?_ _)); refine Bo (cs := #[.int .i64 t418, .string (⟨#[]⟩ : ByteArray), .int .i64 0, .int .i64 0]) ?_ 1 _ rfl; (with_reducible repeat (first | refine Ah ?_ _ | refine Aj ?_ | refine Ai ?_ _)); refine Bo (cs := #[.int .i64 0, .string (⟨#[]⟩ : ByteArray), .int .i64 0, .int .i64 0]) ?_ 0 _ rfl; (with_reducible repeat (first | refine Ah ?_ _ | refine Aj ?_ | refine Ai ?_ _)); exact BK1.out) : p := h
theorem Ybi_ {p : Prop} (h : p := by (with_reducible repeat (first | apply Kd.Bg | apply Kd.Bh | apply Kd.Bl)); exact HO_59.out) : p := h
theorem Ybj_ {p : Prop} (h : p := by (with_reducible repeat (first | refine Ah ?_ _ | refine Aj ?_ | refine Ai ?_ _)); exact BK2.out) : p := h
theorem Yca_ {p : Prop} (h : p := by repeat (first | (with_reducible first | exact HK.out | apply Kept.alloc | apply Kept.drewN | apply Kept.drew) | exact HK.out)) : p := h
theorem Ycb_ {p : Prop} (h : p := by (with_reducible repeat (first | apply Kd.Bg | apply Kd.Bh | apply Kd.Bl)); exact (Kd.R_mono (Kd.Fe (p := ⟨gb0, 3, none⟩) (Kd.Fe (p := ⟨gb0, 2, none⟩) (Kd.Fe (p := ⟨gb0, 1, none⟩) (Kd.Fe (p := ⟨gb0, 0, none⟩) (Kd.R_mono HO_4.out (fun k_ hk => (⟨hk, hk.2⟩ : _ ∧ k_ ≠ gb0))) (fun _ hk => hk.2) (.int .i64 t384)) (fun _ hk => hk.2) (.string t385)) (fun _ hk => hk.2) (.int .i64 t386)) (fun _ hk => hk.2) (.int .i64 t387)) (fun _ h_ => h_.1))) : p := h
theorem Ycc_ {p : Prop} (h : p := by (with_reducible repeat (first | apply Kd.Bg | apply Kd.Bh | apply Kd.Bl)); exact HO_5.out) : p := h
theorem Ycd_ {p : Prop} (h : p := by (with_reducible repeat (first | apply Kd.Bg | apply Kd.Bh | apply Kd.Bl)); exact HO_10.out) : p := h
theorem Yce_ {p : Prop} (h : p := by (with_reducible repeat (first | apply Kd.Bg | apply Kd.Bh | apply Kd.Bl)); exact HO_0.out) : p := h
theorem Ycf_ {p : Prop} (h : p := by (with_reducible repeat (first | apply Kd.Bg | apply Kd.Bh | apply Kd.Bl)); exact HO443.out) : p := h
theorem Ycg_ {p : Prop} (h : p := by (with_reducible repeat (first | refine Ah ?_ _ | refine Aj ?_ | refine Ai ?_ _)); refine Dc ?_ NB0_2.out _; (with_reducible repeat (first | refine Ah ?_ _ | refine Aj ?_ | refine Ai ?_ _)); exact BK0.out) : p := h
theorem Ych_ {p : Prop} (h : p := by (with_reducible repeat (first | refine Ah ?_ _ | refine Aj ?_ | refine Ai ?_ _)); refine Dc ?_ NB1_2.out _; (with_reducible repeat (first | refine Ah ?_ _ | refine Aj ?_ | refine Ai ?_ _)); exact BK1.out) : p := h
theorem Yci_ {p : Prop} (h : p := by repeat (first | (with_reducible first | exact HB.out | apply Ae | apply Aa | apply Ad | refine Am ?_ GE1.out) | exact HB.out)) : p := h
end Go.Proofs.YtghnljoaklmakaaDoor.X

namespace Go.Proofs.YtghnljoaklmakaaDoor.X
open Go.RowKit Go.Proofs.YtghnljoaklmakaaDoorW.PrintWords Go.Proofs.YtghnljoaklmakaaDoorW.PrintLast Go.Proofs.YtghnljoaklmakaaDoorW.PrintMore
attribute [local go_sem] Ea Eb Eh Eg Dz D5 Ec D9
open Go.Proofs.YtghnljoaklmakaaDoorG
def Hy.f (a0_0 : Int) (a0_1 : ByteArray) (a0_2 : Int) (a0_3 : Int) (a1_0 : Int) (a1_1 : ByteArray) (a1_2 : Int) (a1_3 : Int) : Option (Bool) := if a0_0 = a1_0 then (if a0_1.toList = a1_1.toList then (if a0_2 = a1_2 then (if a0_3 = a1_3 then (some true) else (some false)) else (some false)) else (some false)) else (some false)
set_option maxHeartbeats 8000000 in
set_option maxRecDepth 100000 in
theorem Hy.calls (a0_0 : Int) (a0_1 : ByteArray) (a0_2 : Int) (a0_3 : Int) (a1_0 : Int) (a1_1 : ByteArray) (a1_2 : Int) (a1_3 : Int) (r : Bool) (w : World) (h : Hy.f a0_0 a0_1 a0_2 a0_3 a1_0 a1_1 a1_2 a1_3 = some r) :
    Calls Tryd.prog 18 #[.agg #[.int .i64 a0_0, .string a0_1, .int .i64 a0_2, .int .i64 a0_3], .agg #[.int .i64 a1_0, .string a1_1, .int .i64 a1_2, .int .i64 a1_3]] w fun e w' => e = .returned (.bool r) ∧ Below w.heap.size w w' := by
  have hu27 := Tryd.underlying27
  have HB := Ac.mk (Below.refl w.heap.size w)
  have H : (if a0_0 = a1_0 then (if a0_1.toList = a1_1.toList then (if a0_2 = a1_2 then (if a0_3 = a1_3 then (some true) else (some false)) else (some false)) else (some false)) else (some false)) = some r := h
  clear h
  by_cases c3 : a0_0 = a1_0
  · rw [if_pos c3] at H
    have c3b0 : (a0_0 == a1_0) = true := beq_iff_eq.mpr c3
    have c3b1 : (a0_0 != a1_0) = false := bne_eq_false_iff_eq.mpr c3
    clear c3
    by_cases c4 : a0_1.toList = a1_1.toList
    · rw [if_pos c4] at H
      have c4b0 : (a0_1.toList == a1_1.toList) = true := beq_iff_eq.mpr c4
      have c4b1 : (a0_1.toList != a1_1.toList) = false := bne_eq_false_iff_eq.mpr c4
      clear c4
      by_cases c5 : a0_2 = a1_2
      · rw [if_pos c5] at H
        have c5b0 : (a0_2 == a1_2) = true := beq_iff_eq.mpr c5
        have c5b1 : (a0_2 != a1_2) = false := bne_eq_false_iff_eq.mpr c5
        clear c5
        by_cases c6 : a0_3 = a1_3
        · rw [if_pos c6] at H
          have c6b0 : (a0_3 == a1_3) = true := beq_iff_eq.mpr c6
          have c6b1 : (a0_3 != a1_3) = false := bne_eq_false_iff_eq.mpr c6
          clear c6
          obtain rfl := Option.some.inj H
          go_enter Tryd.func18, Tryd.ntmps18
          go_wp2_with (first | ((with_reducible refine Dh (N := 2) rfl ?_); refine Dl ?hg (N := 2) ?hd (cs := #[.int .i64 a0_0, .string a0_1, .int .i64 a0_2, .int .i64 a0_3]) (t := 27) ?hr ?_; (case hd => rfl); (case hg => rfl); (case hr => first | (go_simp; done) | (go_simp; rfl)); intro gb0 hg w7 hbox hb; have n0_ := Ac.mk (Au Ya_ hb); have n1_ := Ac.mk (hbox); have n2_ := Ac.mk ((by rw [hg]; exact (Az Ya_) : w.heap.size ≤ gb0)); have n3_ := Ac.mk ((by rw [hg]; exact (Az Ya_) : w.heap.size ≤ gb0)); clear HB; have HB := n0_; have BK0 := n1_; have GW0 := n2_; have GE0 := n3_; clear n0_ n1_ n2_ n3_; clear hb hbox hg) | ((with_reducible refine Dh (N := 3) rfl ?_); refine Dl ?hg (N := 3) ?hd (cs := #[.int .i64 a1_0, .string a1_1, .int .i64 a1_2, .int .i64 a1_3]) (t := 27) ?hr ?_; (case hd => rfl); (case hg => rfl); (case hr => first | (go_simp; done) | (go_simp; rfl)); intro gb1 hg w8 hbox hb; have n0_ := Ac.mk (Ce (g := gb0) (o := .cells #[.int .i64 a0_0, .string a0_1, .int .i64 a0_2, .int .i64 a0_3] 27 (0, 0)) Ye_ hb); have n1_ := Ac.mk (Au Yd_ hb); have n2_ := Ac.mk (hbox); have n3_ := Ac.mk ((by rw [hg]; exact (Az Yd_) : w.heap.size ≤ gb1)); have n4_ := Ac.mk ((by rw [hg]; exact (Az Yd_) : w.heap.size ≤ gb1)); have n5_ := Ac.mk ((by rw [hg]; exact Nat.ne_of_lt (Fb (g := gb0) (o := .cells #[.int .i64 a0_0, .string a0_1, .int .i64 a0_2, .int .i64 a0_3] 27 (0, 0)) Ye_) : gb0 ≠ gb1)); have n6_ := Ac.mk ((by rw [hg]; exact Nat.ne_of_gt (Fb (g := gb0) (o := .cells #[.int .i64 a0_0, .string a0_1, .int .i64 a0_2, .int .i64 a0_3] 27 (0, 0)) Ye_) : gb1 ≠ gb0)); clear BK0; clear HB; have BK0 := n0_; have HB := n1_; have BK1 := n2_; have GW1 := n3_; have GE1 := n4_; have NB0_1 := n5_; have NB1_0 := n6_; clear n0_ n1_ n2_ n3_ n4_ n5_ n6_; clear hb hbox hg; have hnb9 := NB0_1.out; have hnc9 := NB1_0.out; have hcz10_0 : w8.cell? ⟨gb0, 0, none⟩ = some (.int .i64 a0_0) := (Af BK0.out 0).trans rfl; have hcz10_1 : w8.cell? ⟨gb0, 1, none⟩ = some (.string a0_1) := (Af BK0.out 1).trans rfl; have hcz10_2 : w8.cell? ⟨gb0, 2, none⟩ = some (.int .i64 a0_2) := (Af BK0.out 2).trans rfl; have hcz10_3 : w8.cell? ⟨gb0, 3, none⟩ = some (.int .i64 a0_3) := (Af BK0.out 3).trans rfl; have hfz10_0 := Ag BK0.out 0; have hfz10_1 := Ag BK0.out 1; have hfz10_2 := Ag BK0.out 2; have hfz10_3 := Ag BK0.out 3; have hcz11_0 : w8.cell? ⟨gb1, 0, none⟩ = some (.int .i64 a1_0) := (Af BK1.out 0).trans rfl; have hcz11_1 : w8.cell? ⟨gb1, 1, none⟩ = some (.string a1_1) := (Af BK1.out 1).trans rfl; have hcz11_2 : w8.cell? ⟨gb1, 2, none⟩ = some (.int .i64 a1_2) := (Af BK1.out 2).trans rfl; have hcz11_3 : w8.cell? ⟨gb1, 3, none⟩ = some (.int .i64 a1_3) := (Af BK1.out 3).trans rfl; have hfz11_0 := Ag BK1.out 0; have hfz11_1 := Ag BK1.out 1; have hfz11_2 := Ag BK1.out 2; have hfz11_3 := Ag BK1.out 3))
          go_ret
          exact ⟨by first | rfl | (simp [Aq, Ar] <;> rfl) | (simp [*, Aq, Ar] <;> rfl), by repeat (first | (with_reducible first | exact HB.out | apply Ae | apply Aa | apply Ad | refine Am ?_ GE0.out | refine Am ?_ GE1.out) | exact HB.out)⟩
        · rw [if_neg c6] at H
          have c6b0 : (a0_3 == a1_3) = false := beq_eq_false_iff_ne.mpr c6
          have c6b1 : (a0_3 != a1_3) = true := bne_iff_ne.mpr c6
          obtain rfl := Option.some.inj H
          go_enter Tryd.func18, Tryd.ntmps18
          go_wp2_with (first | ((with_reducible refine Dh (N := 2) rfl ?_); refine Dl ?hg (N := 2) ?hd (cs := #[.int .i64 a0_0, .string a0_1, .int .i64 a0_2, .int .i64 a0_3]) (t := 27) ?hr ?_; (case hd => rfl); (case hg => rfl); (case hr => first | (go_simp; done) | (go_simp; rfl)); intro gb0 hg w12 hbox hb; have n0_ := Ac.mk (Au Ya_ hb); have n1_ := Ac.mk (hbox); have n2_ := Ac.mk ((by rw [hg]; exact (Az Ya_) : w.heap.size ≤ gb0)); have n3_ := Ac.mk ((by rw [hg]; exact (Az Ya_) : w.heap.size ≤ gb0)); clear HB; have HB := n0_; have BK0 := n1_; have GW0 := n2_; have GE0 := n3_; clear n0_ n1_ n2_ n3_; clear hb hbox hg) | ((with_reducible refine Dh (N := 3) rfl ?_); refine Dl ?hg (N := 3) ?hd (cs := #[.int .i64 a1_0, .string a1_1, .int .i64 a1_2, .int .i64 a1_3]) (t := 27) ?hr ?_; (case hd => rfl); (case hg => rfl); (case hr => first | (go_simp; done) | (go_simp; rfl)); intro gb1 hg w13 hbox hb; have n0_ := Ac.mk (Ce (g := gb0) (o := .cells #[.int .i64 a0_0, .string a0_1, .int .i64 a0_2, .int .i64 a0_3] 27 (0, 0)) Ye_ hb); have n1_ := Ac.mk (Au Yd_ hb); have n2_ := Ac.mk (hbox); have n3_ := Ac.mk ((by rw [hg]; exact (Az Yd_) : w.heap.size ≤ gb1)); have n4_ := Ac.mk ((by rw [hg]; exact (Az Yd_) : w.heap.size ≤ gb1)); have n5_ := Ac.mk ((by rw [hg]; exact Nat.ne_of_lt (Fb (g := gb0) (o := .cells #[.int .i64 a0_0, .string a0_1, .int .i64 a0_2, .int .i64 a0_3] 27 (0, 0)) Ye_) : gb0 ≠ gb1)); have n6_ := Ac.mk ((by rw [hg]; exact Nat.ne_of_gt (Fb (g := gb0) (o := .cells #[.int .i64 a0_0, .string a0_1, .int .i64 a0_2, .int .i64 a0_3] 27 (0, 0)) Ye_) : gb1 ≠ gb0)); clear BK0; clear HB; have BK0 := n0_; have HB := n1_; have BK1 := n2_; have GW1 := n3_; have GE1 := n4_; have NB0_1 := n5_; have NB1_0 := n6_; clear n0_ n1_ n2_ n3_ n4_ n5_ n6_; clear hb hbox hg; have hnb14 := NB0_1.out; have hnc14 := NB1_0.out; have hcz15_0 : w13.cell? ⟨gb0, 0, none⟩ = some (.int .i64 a0_0) := (Af BK0.out 0).trans rfl; have hcz15_1 : w13.cell? ⟨gb0, 1, none⟩ = some (.string a0_1) := (Af BK0.out 1).trans rfl; have hcz15_2 : w13.cell? ⟨gb0, 2, none⟩ = some (.int .i64 a0_2) := (Af BK0.out 2).trans rfl; have hcz15_3 : w13.cell? ⟨gb0, 3, none⟩ = some (.int .i64 a0_3) := (Af BK0.out 3).trans rfl; have hfz15_0 := Ag BK0.out 0; have hfz15_1 := Ag BK0.out 1; have hfz15_2 := Ag BK0.out 2; have hfz15_3 := Ag BK0.out 3; have hcz16_0 : w13.cell? ⟨gb1, 0, none⟩ = some (.int .i64 a1_0) := (Af BK1.out 0).trans rfl; have hcz16_1 : w13.cell? ⟨gb1, 1, none⟩ = some (.string a1_1) := (Af BK1.out 1).trans rfl; have hcz16_2 : w13.cell? ⟨gb1, 2, none⟩ = some (.int .i64 a1_2) := (Af BK1.out 2).trans rfl; have hcz16_3 : w13.cell? ⟨gb1, 3, none⟩ = some (.int .i64 a1_3) := (Af BK1.out 3).trans rfl; have hfz16_0 := Ag BK1.out 0; have hfz16_1 := Ag BK1.out 1; have hfz16_2 := Ag BK1.out 2; have hfz16_3 := Ag BK1.out 3))
          go_ret
          exact ⟨by first | rfl | (simp [Aq, Ar] <;> rfl) | (simp [*, Aq, Ar] <;> rfl), by repeat (first | (with_reducible first | exact HB.out | apply Ae | apply Aa | apply Ad | refine Am ?_ GE0.out | refine Am ?_ GE1.out) | exact HB.out)⟩
      · rw [if_neg c5] at H
        have c5b0 : (a0_2 == a1_2) = false := beq_eq_false_iff_ne.mpr c5
        have c5b1 : (a0_2 != a1_2) = true := bne_iff_ne.mpr c5
        obtain rfl := Option.some.inj H
        go_enter Tryd.func18, Tryd.ntmps18
        go_wp2_with (first | ((with_reducible refine Dh (N := 2) rfl ?_); refine Dl ?hg (N := 2) ?hd (cs := #[.int .i64 a0_0, .string a0_1, .int .i64 a0_2, .int .i64 a0_3]) (t := 27) ?hr ?_; (case hd => rfl); (case hg => rfl); (case hr => first | (go_simp; done) | (go_simp; rfl)); intro gb0 hg w17 hbox hb; have n0_ := Ac.mk (Au Ya_ hb); have n1_ := Ac.mk (hbox); have n2_ := Ac.mk ((by rw [hg]; exact (Az Ya_) : w.heap.size ≤ gb0)); have n3_ := Ac.mk ((by rw [hg]; exact (Az Ya_) : w.heap.size ≤ gb0)); clear HB; have HB := n0_; have BK0 := n1_; have GW0 := n2_; have GE0 := n3_; clear n0_ n1_ n2_ n3_; clear hb hbox hg) | ((with_reducible refine Dh (N := 3) rfl ?_); refine Dl ?hg (N := 3) ?hd (cs := #[.int .i64 a1_0, .string a1_1, .int .i64 a1_2, .int .i64 a1_3]) (t := 27) ?hr ?_; (case hd => rfl); (case hg => rfl); (case hr => first | (go_simp; done) | (go_simp; rfl)); intro gb1 hg w18 hbox hb; have n0_ := Ac.mk (Ce (g := gb0) (o := .cells #[.int .i64 a0_0, .string a0_1, .int .i64 a0_2, .int .i64 a0_3] 27 (0, 0)) Ye_ hb); have n1_ := Ac.mk (Au Yd_ hb); have n2_ := Ac.mk (hbox); have n3_ := Ac.mk ((by rw [hg]; exact (Az Yd_) : w.heap.size ≤ gb1)); have n4_ := Ac.mk ((by rw [hg]; exact (Az Yd_) : w.heap.size ≤ gb1)); have n5_ := Ac.mk ((by rw [hg]; exact Nat.ne_of_lt (Fb (g := gb0) (o := .cells #[.int .i64 a0_0, .string a0_1, .int .i64 a0_2, .int .i64 a0_3] 27 (0, 0)) Ye_) : gb0 ≠ gb1)); have n6_ := Ac.mk ((by rw [hg]; exact Nat.ne_of_gt (Fb (g := gb0) (o := .cells #[.int .i64 a0_0, .string a0_1, .int .i64 a0_2, .int .i64 a0_3] 27 (0, 0)) Ye_) : gb1 ≠ gb0)); clear BK0; clear HB; have BK0 := n0_; have HB := n1_; have BK1 := n2_; have GW1 := n3_; have GE1 := n4_; have NB0_1 := n5_; have NB1_0 := n6_; clear n0_ n1_ n2_ n3_ n4_ n5_ n6_; clear hb hbox hg; have hnb19 := NB0_1.out; have hnc19 := NB1_0.out; have hcz20_0 : w18.cell? ⟨gb0, 0, none⟩ = some (.int .i64 a0_0) := (Af BK0.out 0).trans rfl; have hcz20_1 : w18.cell? ⟨gb0, 1, none⟩ = some (.string a0_1) := (Af BK0.out 1).trans rfl; have hcz20_2 : w18.cell? ⟨gb0, 2, none⟩ = some (.int .i64 a0_2) := (Af BK0.out 2).trans rfl; have hcz20_3 : w18.cell? ⟨gb0, 3, none⟩ = some (.int .i64 a0_3) := (Af BK0.out 3).trans rfl; have hfz20_0 := Ag BK0.out 0; have hfz20_1 := Ag BK0.out 1; have hfz20_2 := Ag BK0.out 2; have hfz20_3 := Ag BK0.out 3; have hcz21_0 : w18.cell? ⟨gb1, 0, none⟩ = some (.int .i64 a1_0) := (Af BK1.out 0).trans rfl; have hcz21_1 : w18.cell? ⟨gb1, 1, none⟩ = some (.string a1_1) := (Af BK1.out 1).trans rfl; have hcz21_2 : w18.cell? ⟨gb1, 2, none⟩ = some (.int .i64 a1_2) := (Af BK1.out 2).trans rfl; have hcz21_3 : w18.cell? ⟨gb1, 3, none⟩ = some (.int .i64 a1_3) := (Af BK1.out 3).trans rfl; have hfz21_0 := Ag BK1.out 0; have hfz21_1 := Ag BK1.out 1; have hfz21_2 := Ag BK1.out 2; have hfz21_3 := Ag BK1.out 3))
        go_ret
        exact ⟨by first | rfl | (simp [Aq, Ar] <;> rfl) | (simp [*, Aq, Ar] <;> rfl), by repeat (first | (with_reducible first | exact HB.out | apply Ae | apply Aa | apply Ad | refine Am ?_ GE0.out | refine Am ?_ GE1.out) | exact HB.out)⟩
    · rw [if_neg c4] at H
      have c4b0 : (a0_1.toList == a1_1.toList) = false := beq_eq_false_iff_ne.mpr c4
      have c4b1 : (a0_1.toList != a1_1.toList) = true := bne_iff_ne.mpr c4
      obtain rfl := Option.some.inj H
      go_enter Tryd.func18, Tryd.ntmps18
      go_wp2_with (first | ((with_reducible refine Dh (N := 2) rfl ?_); refine Dl ?hg (N := 2) ?hd (cs := #[.int .i64 a0_0, .string a0_1, .int .i64 a0_2, .int .i64 a0_3]) (t := 27) ?hr ?_; (case hd => rfl); (case hg => rfl); (case hr => first | (go_simp; done) | (go_simp; rfl)); intro gb0 hg w22 hbox hb; have n0_ := Ac.mk (Au Ya_ hb); have n1_ := Ac.mk (hbox); have n2_ := Ac.mk ((by rw [hg]; exact (Az Ya_) : w.heap.size ≤ gb0)); have n3_ := Ac.mk ((by rw [hg]; exact (Az Ya_) : w.heap.size ≤ gb0)); clear HB; have HB := n0_; have BK0 := n1_; have GW0 := n2_; have GE0 := n3_; clear n0_ n1_ n2_ n3_; clear hb hbox hg) | ((with_reducible refine Dh (N := 3) rfl ?_); refine Dl ?hg (N := 3) ?hd (cs := #[.int .i64 a1_0, .string a1_1, .int .i64 a1_2, .int .i64 a1_3]) (t := 27) ?hr ?_; (case hd => rfl); (case hg => rfl); (case hr => first | (go_simp; done) | (go_simp; rfl)); intro gb1 hg w23 hbox hb; have n0_ := Ac.mk (Ce (g := gb0) (o := .cells #[.int .i64 a0_0, .string a0_1, .int .i64 a0_2, .int .i64 a0_3] 27 (0, 0)) Ye_ hb); have n1_ := Ac.mk (Au Yd_ hb); have n2_ := Ac.mk (hbox); have n3_ := Ac.mk ((by rw [hg]; exact (Az Yd_) : w.heap.size ≤ gb1)); have n4_ := Ac.mk ((by rw [hg]; exact (Az Yd_) : w.heap.size ≤ gb1)); have n5_ := Ac.mk ((by rw [hg]; exact Nat.ne_of_lt (Fb (g := gb0) (o := .cells #[.int .i64 a0_0, .string a0_1, .int .i64 a0_2, .int .i64 a0_3] 27 (0, 0)) Ye_) : gb0 ≠ gb1)); have n6_ := Ac.mk ((by rw [hg]; exact Nat.ne_of_gt (Fb (g := gb0) (o := .cells #[.int .i64 a0_0, .string a0_1, .int .i64 a0_2, .int .i64 a0_3] 27 (0, 0)) Ye_) : gb1 ≠ gb0)); clear BK0; clear HB; have BK0 := n0_; have HB := n1_; have BK1 := n2_; have GW1 := n3_; have GE1 := n4_; have NB0_1 := n5_; have NB1_0 := n6_; clear n0_ n1_ n2_ n3_ n4_ n5_ n6_; clear hb hbox hg; have hnb24 := NB0_1.out; have hnc24 := NB1_0.out; have hcz25_0 : w23.cell? ⟨gb0, 0, none⟩ = some (.int .i64 a0_0) := (Af BK0.out 0).trans rfl; have hcz25_1 : w23.cell? ⟨gb0, 1, none⟩ = some (.string a0_1) := (Af BK0.out 1).trans rfl; have hcz25_2 : w23.cell? ⟨gb0, 2, none⟩ = some (.int .i64 a0_2) := (Af BK0.out 2).trans rfl; have hcz25_3 : w23.cell? ⟨gb0, 3, none⟩ = some (.int .i64 a0_3) := (Af BK0.out 3).trans rfl; have hfz25_0 := Ag BK0.out 0; have hfz25_1 := Ag BK0.out 1; have hfz25_2 := Ag BK0.out 2; have hfz25_3 := Ag BK0.out 3; have hcz26_0 : w23.cell? ⟨gb1, 0, none⟩ = some (.int .i64 a1_0) := (Af BK1.out 0).trans rfl; have hcz26_1 : w23.cell? ⟨gb1, 1, none⟩ = some (.string a1_1) := (Af BK1.out 1).trans rfl; have hcz26_2 : w23.cell? ⟨gb1, 2, none⟩ = some (.int .i64 a1_2) := (Af BK1.out 2).trans rfl; have hcz26_3 : w23.cell? ⟨gb1, 3, none⟩ = some (.int .i64 a1_3) := (Af BK1.out 3).trans rfl; have hfz26_0 := Ag BK1.out 0; have hfz26_1 := Ag BK1.out 1; have hfz26_2 := Ag BK1.out 2; have hfz26_3 := Ag BK1.out 3))
      go_ret
      exact ⟨by first | rfl | (simp [Aq, Ar] <;> rfl) | (simp [*, Aq, Ar] <;> rfl), by repeat (first | (with_reducible first | exact HB.out | apply Ae | apply Aa | apply Ad | refine Am ?_ GE0.out | refine Am ?_ GE1.out) | exact HB.out)⟩
  · rw [if_neg c3] at H
    have c3b0 : (a0_0 == a1_0) = false := beq_eq_false_iff_ne.mpr c3
    have c3b1 : (a0_0 != a1_0) = true := bne_iff_ne.mpr c3
    obtain rfl := Option.some.inj H
    go_enter Tryd.func18, Tryd.ntmps18
    go_wp2_with (first | ((with_reducible refine Dh (N := 2) rfl ?_); refine Dl ?hg (N := 2) ?hd (cs := #[.int .i64 a0_0, .string a0_1, .int .i64 a0_2, .int .i64 a0_3]) (t := 27) ?hr ?_; (case hd => rfl); (case hg => rfl); (case hr => first | (go_simp; done) | (go_simp; rfl)); intro gb0 hg w27 hbox hb; have n0_ := Ac.mk (Au Ya_ hb); have n1_ := Ac.mk (hbox); have n2_ := Ac.mk ((by rw [hg]; exact (Az Ya_) : w.heap.size ≤ gb0)); have n3_ := Ac.mk ((by rw [hg]; exact (Az Ya_) : w.heap.size ≤ gb0)); clear HB; have HB := n0_; have BK0 := n1_; have GW0 := n2_; have GE0 := n3_; clear n0_ n1_ n2_ n3_; clear hb hbox hg) | ((with_reducible refine Dh (N := 3) rfl ?_); refine Dl ?hg (N := 3) ?hd (cs := #[.int .i64 a1_0, .string a1_1, .int .i64 a1_2, .int .i64 a1_3]) (t := 27) ?hr ?_; (case hd => rfl); (case hg => rfl); (case hr => first | (go_simp; done) | (go_simp; rfl)); intro gb1 hg w28 hbox hb; have n0_ := Ac.mk (Ce (g := gb0) (o := .cells #[.int .i64 a0_0, .string a0_1, .int .i64 a0_2, .int .i64 a0_3] 27 (0, 0)) Ye_ hb); have n1_ := Ac.mk (Au Yd_ hb); have n2_ := Ac.mk (hbox); have n3_ := Ac.mk ((by rw [hg]; exact (Az Yd_) : w.heap.size ≤ gb1)); have n4_ := Ac.mk ((by rw [hg]; exact (Az Yd_) : w.heap.size ≤ gb1)); have n5_ := Ac.mk ((by rw [hg]; exact Nat.ne_of_lt (Fb (g := gb0) (o := .cells #[.int .i64 a0_0, .string a0_1, .int .i64 a0_2, .int .i64 a0_3] 27 (0, 0)) Ye_) : gb0 ≠ gb1)); have n6_ := Ac.mk ((by rw [hg]; exact Nat.ne_of_gt (Fb (g := gb0) (o := .cells #[.int .i64 a0_0, .string a0_1, .int .i64 a0_2, .int .i64 a0_3] 27 (0, 0)) Ye_) : gb1 ≠ gb0)); clear BK0; clear HB; have BK0 := n0_; have HB := n1_; have BK1 := n2_; have GW1 := n3_; have GE1 := n4_; have NB0_1 := n5_; have NB1_0 := n6_; clear n0_ n1_ n2_ n3_ n4_ n5_ n6_; clear hb hbox hg; have hnb29 := NB0_1.out; have hnc29 := NB1_0.out; have hcz30_0 : w28.cell? ⟨gb0, 0, none⟩ = some (.int .i64 a0_0) := (Af BK0.out 0).trans rfl; have hcz30_1 : w28.cell? ⟨gb0, 1, none⟩ = some (.string a0_1) := (Af BK0.out 1).trans rfl; have hcz30_2 : w28.cell? ⟨gb0, 2, none⟩ = some (.int .i64 a0_2) := (Af BK0.out 2).trans rfl; have hcz30_3 : w28.cell? ⟨gb0, 3, none⟩ = some (.int .i64 a0_3) := (Af BK0.out 3).trans rfl; have hfz30_0 := Ag BK0.out 0; have hfz30_1 := Ag BK0.out 1; have hfz30_2 := Ag BK0.out 2; have hfz30_3 := Ag BK0.out 3; have hcz31_0 : w28.cell? ⟨gb1, 0, none⟩ = some (.int .i64 a1_0) := (Af BK1.out 0).trans rfl; have hcz31_1 : w28.cell? ⟨gb1, 1, none⟩ = some (.string a1_1) := (Af BK1.out 1).trans rfl; have hcz31_2 : w28.cell? ⟨gb1, 2, none⟩ = some (.int .i64 a1_2) := (Af BK1.out 2).trans rfl; have hcz31_3 : w28.cell? ⟨gb1, 3, none⟩ = some (.int .i64 a1_3) := (Af BK1.out 3).trans rfl; have hfz31_0 := Ag BK1.out 0; have hfz31_1 := Ag BK1.out 1; have hfz31_2 := Ag BK1.out 2; have hfz31_3 := Ag BK1.out 3))
    go_ret
    exact ⟨by first | rfl | (simp [Aq, Ar] <;> rfl) | (simp [*, Aq, Ar] <;> rfl), by repeat (first | (with_reducible first | exact HB.out | apply Ae | apply Aa | apply Ad | refine Am ?_ GE0.out | refine Am ?_ GE1.out) | exact HB.out)⟩
end Go.Proofs.YtghnljoaklmakaaDoor.X

namespace Go.Proofs.YtghnljoaklmakaaDoor.X
open Go.RowKit Go.Proofs.YtghnljoaklmakaaDoorW.PrintWords Go.Proofs.YtghnljoaklmakaaDoorW.PrintLast Go.Proofs.YtghnljoaklmakaaDoorW.PrintMore
attribute [local go_sem] Ea Eb Eh Eg Dz D5 Ec D9
open Go.Proofs.YtghnljoaklmakaaDoorG
def Cm.l0 : Nat → List (S27) → List (S27) → Int → Option (Bool)
  | 0, _, _, _ => none
  | k + 1, x0, x1, x5 => if x5 < (x0.length : Int) then (if 0 ≤ x5 then (if x5 < (x1.length : Int) then ((Hy.f ((Ak x0 x5).f0) ((Ak x0 x5).f1) ((Ak x0 x5).f2) ((Ak x0 x5).f3) ((Ak x1 x5).f0) ((Ak x1 x5).f1) ((Ak x1 x5).f2) ((Ak x1 x5).f3)).bind fun t237 => (if t237 = true then (Cm.l0 k x0 x1 (wrap64 (x5 + 1))) else (some false))) else (none)) else (none)) else (some true)
def Cm.f (k : Nat) (l0 : List (S27)) (l1 : List (S27)) : Option (Bool) := if (l0.length : Int) = (l1.length : Int) then (Cm.l0 k l0 l1 0) else (some false)
theorem Cm.Ed : ∀ k, (∀ y0 y1 y2, LeO (Cm.l0 k y0 y1 y2) (Cm.l0 (k + 1) y0 y1 y2))
  | 0 => fun _ _ _ r h => by simp [Cm.l0] at h
  | k + 1 => by
    have ih0 := Cm.Ed k
    · intro y0 y1 y2
      unfold Cm.l0
      repeat' first
      | (with_reducible exact ih0 _ _ _)
      | (with_reducible exact LeO.refl _)
      | (with_reducible exact LeO.none _)
      | (with_reducible refine LeO.ite ?_ ?_)
      | (with_reducible refine LeO.bind ?_ (fun _ => ?_))
      | exact ih0 _ _ _
      | exact LeO.none _
      | refine LeO.ite ?_ ?_
      | refine LeO.bind ?_ (fun _ => ?_)
theorem Cm.mono : ∀ a0 a1 k, LeO (Cm.f k a0 a1) (Cm.f (k + 1) a0 a1) := by
  intro a0 a1 k
  have ih0 := Cm.Ed k
  unfold Cm.f
  repeat' first
      | (with_reducible exact ih0 _ _ _)
      | (with_reducible exact LeO.refl _)
      | (with_reducible exact LeO.none _)
      | (with_reducible refine LeO.ite ?_ ?_)
      | (with_reducible refine LeO.bind ?_ (fun _ => ?_))
      | exact ih0 _ _ _
      | exact LeO.none _
      | refine LeO.ite ?_ ?_
      | refine LeO.bind ?_ (fun _ => ?_)
def Cm.T6 : Bool × List (List Nat × List Nat) := (true, [([], []), ([], []), ([0, 1], [0, 1]), ([2], [2]), ([], []), ([], []), ([4, 5], [4, 5]), ([6], [6]), ([3, 7], [3, 7]), ([8], [8])])
def Cm.B6 : List Nat := [0, 0, 3, 7, 0, 0, 48, 112, 255, 511]
theorem Cm.tab6 : rtab .any (opsOf Tryd.f15 6) = Cm.T6 := by kernel_rfl
theorem Cm.bits6 : Hm Cm.T6.2 Cm.B6 = true := by kernel_rfl
set_option maxHeartbeats 8000000 in
set_option maxRecDepth 100000 in
theorem Cm.calls (k : Nat) (A0 : Option Addr) (c0 : Nat) (l0 : List (S27)) (A1 : Option Addr) (c1 : Nat) (l1 : List (S27)) (r : Bool) (w : World) (hr0 : Kd.C k27 w A0 l0.length l0) (hc0 : l0.length ≤ c0) (hr1 : Kd.C k27 w A1 l1.length l1) (hc1 : l1.length ≤ c1) (h : Cm.f k l0 l1 = some r) :
    Calls Tryd.prog 15 #[.slice A0 l0.length c0, .slice A1 l1.length c1] w fun e w' => e = .returned (.bool r) ∧ Below w.heap.size w w' := by
  have hu27 := Tryd.underlying27
  have HR0 := Ac.mk hr0
  have HC0 := Ac.mk hc0
  clear hr0 hc0
  have HR1 := Ac.mk hr1
  have HC1 := Ac.mk hc1
  clear hr1 hc1
  have HB := Ac.mk (Below.refl w.heap.size w)
  have H : (if (l0.length : Int) = (l1.length : Int) then (Cm.l0 k l0 l1 0) else (some false)) = some r := h
  clear h
  by_cases c3 : (l0.length : Int) = (l1.length : Int)
  · rw [if_pos c3] at H
    have c3b0 : ((l0.length : Int) == (l1.length : Int)) = true := beq_iff_eq.mpr c3
    have c3b1 : ((l0.length : Int) != (l1.length : Int)) = false := bne_eq_false_iff_eq.mpr c3
    have c3b2 : (l0.length == l1.length) = true := by first | simpa using c3 | (simp at c3 ⊢; omega)
    clear c3
    have H' := Ac.mk H
    clear H
    go_enter Tryd.func15, Tryd.ntmps15
    go_wp2
    go_loopg [5] k (fun kq v5 w' => ∃ (x5_1 : Int), v5 = .int .i64 x5_1 ∧ Ac (Cm.l0 kq l0 l1 x5_1 = some r) ∧ Ac (kq ≤ k) ∧ Ac (Below w.heap.size w w'))
    case atStart => exact ⟨(0), Yf_, H', ⟨Nat.le_refl _⟩, ⟨by repeat (first | (with_reducible first | exact HB.out | apply Ae | apply Aa | apply Ad) | exact HB.out)⟩⟩
    case round =>
      clear H'
      try clear c1
      try clear p2
      try clear c3
      try clear c3b0
      try clear c3b1
      try clear c3b2
      obtain ⟨x5_1, rfl, HA, HK1, HB⟩ := hrel
      cases gk with
      | zero => exact absurd HA.out (by simp [Cm.l0])
      | succ k1 =>
        have H := HA.out
        clear HA
        simp only [Cm.l0] at H
        by_cases c4 : x5_1 < (l0.length : Int)
        · rw [if_pos c4] at H
          have c4b0 : decide (x5_1 < (l0.length : Int)) = true := decide_eq_true c4
          clear c4
          by_cases c5 : 0 ≤ x5_1
          · rw [if_pos c5] at H
            have c5b0 : decide (0 ≤ x5_1) = true := decide_eq_true c5
            clear c5
            by_cases c6 : x5_1 < (l1.length : Int)
            · rw [if_pos c6] at H
              have c6b0 : decide (x5_1 < (l1.length : Int)) = true := decide_eq_true c6
              clear c6
              replace H := Option.bind_eq_some_iff.mp H
              obtain ⟨t237, A70, H⟩ := H
              replace H : (if t237 = true then (Cm.l0 k1 l0 l1 (wrap64 (x5_1 + 1))) else (some false)) = some r := H
              have A7 := Ac.mk A70
              clear A70
              by_cases c8 : t237 = true
              · subst c8
                have H1 : (Cm.l0 k1 l0 l1 (wrap64 (x5_1 + 1))) = some r := by rw [if_pos rfl] at H; exact H
                clear H
                have H := H1
                clear H1
                have H' := Ac.mk H
                clear H
                try go_wp2
                have n0_ := Ac.mk (Ad HB.out)
                clear HB
                have HB := n0_
                clear n0_
                have p235 : 0 ≤ (x5_1 : Int) := of_decide_eq_true Yc_
                have q235 : x5_1 < (l0.length : Int) := of_decide_eq_true Yc_
                obtain ⟨ad235, e235, hx235_0, hx235_1, hx235_2, hx235_3⟩ := Fp HR0.out x5_1 p235 q235
                have hw235_3 := hx235_3
                have hw235_2 := hx235_2
                have hw235_1 := hx235_1
                have hw235_0 := hx235_0
                cases e235
                replace hx235_0 := (HB.out.cell (World.block_lt_of_cell? w _ hx235_0)).trans hx235_0
                replace hx235_1 := (HB.out.cell (World.block_lt_of_cell? w _ hx235_1)).trans hx235_1
                replace hx235_2 := (HB.out.cell (World.block_lt_of_cell? w _ hx235_2)).trans hx235_2
                replace hx235_3 := (HB.out.cell (World.block_lt_of_cell? w _ hx235_3)).trans hx235_3
                replace p235 := eq_true p235
                replace q235 := eq_true q235
                have p236 : 0 ≤ (x5_1 : Int) := of_decide_eq_true Yc_
                have q236 : x5_1 < (l1.length : Int) := of_decide_eq_true Yc_
                obtain ⟨ad236, e236, hx236_0, hx236_1, hx236_2, hx236_3⟩ := Fp HR1.out x5_1 p236 q236
                have hw236_3 := hx236_3
                have hw236_2 := hx236_2
                have hw236_1 := hx236_1
                have hw236_0 := hx236_0
                cases e236
                replace hx236_0 := (HB.out.cell (World.block_lt_of_cell? w _ hx236_0)).trans hx236_0
                replace hx236_1 := (HB.out.cell (World.block_lt_of_cell? w _ hx236_1)).trans hx236_1
                replace hx236_2 := (HB.out.cell (World.block_lt_of_cell? w _ hx236_2)).trans hx236_2
                replace hx236_3 := (HB.out.cell (World.block_lt_of_cell? w _ hx236_3)).trans hx236_3
                replace p236 := eq_true p236
                replace q236 := eq_true q236
                refine G7 (n := 10) (S := fun w' => w'.cell? (ad235.add ((x5_1).toNat * 4)) = some (.int .i64 ((Ak l0 x5_1).f0)) ∧ w'.cell? ⟨(ad235.add ((x5_1).toNat * 4)).block, (ad235.add ((x5_1).toNat * 4)).off + 1, none⟩ = some (.string ((Ak l0 x5_1).f1)) ∧ w'.cell? ⟨(ad235.add ((x5_1).toNat * 4)).block, (ad235.add ((x5_1).toNat * 4)).off + 2, none⟩ = some (.int .i64 ((Ak l0 x5_1).f2)) ∧ w'.cell? ⟨(ad235.add ((x5_1).toNat * 4)).block, (ad235.add ((x5_1).toNat * 4)).off + 3, none⟩ = some (.int .i64 ((Ak l0 x5_1).f3)) ∧ w'.cell? (ad236.add ((x5_1).toNat * 4)) = some (.int .i64 ((Ak l1 x5_1).f0)) ∧ w'.cell? ⟨(ad236.add ((x5_1).toNat * 4)).block, (ad236.add ((x5_1).toNat * 4)).off + 1, none⟩ = some (.string ((Ak l1 x5_1).f1)) ∧ w'.cell? ⟨(ad236.add ((x5_1).toNat * 4)).block, (ad236.add ((x5_1).toNat * 4)).off + 2, none⟩ = some (.int .i64 ((Ak l1 x5_1).f2)) ∧ w'.cell? ⟨(ad236.add ((x5_1).toNat * 4)).block, (ad236.add ((x5_1).toNat * 4)).off + 3, none⟩ = some (.int .i64 ((Ak l1 x5_1).f3))) (ds := []) #[false, false, false, false, false, false, false, false, false, false] (by kernel_rfl) rfl rfl ⟨((HB.out.cell (World.block_lt_of_cell? w _ hw235_0)).trans hw235_0), ((HB.out.cell (World.block_lt_of_cell? w _ hw235_1)).trans hw235_1), ((HB.out.cell (World.block_lt_of_cell? w _ hw235_2)).trans hw235_2), ((HB.out.cell (World.block_lt_of_cell? w _ hw235_3)).trans hw235_3), ((HB.out.cell (World.block_lt_of_cell? w _ hw236_0)).trans hw236_0), ((HB.out.cell (World.block_lt_of_cell? w _ hw236_1)).trans hw236_1), ((HB.out.cell (World.block_lt_of_cell? w _ hw236_2)).trans hw236_2), ((HB.out.cell (World.block_lt_of_cell? w _ hw236_3)).trans hw236_3)⟩ (fun hHeld => ?_); refine Gf Cm.tab6 Cm.bits6 (fun HT_ HW_ => ?_)
                generalize wr.drew = w9 at HB hx235_0 hx235_1 hx235_2 hx235_3 hx236_0 hx236_1 hx236_2 hx236_3 hHeld ⊢
                refine Du (i := 0) (N := some 17) (v := ?_) (a' := ?_) #[true, false, false, false, false, false, false, false, false, false] rfl rfl (Di HT_.out (by kernel_rfl)) (fun _ _ _ h => h) (Or.inl ⟨by rfl, ?_⟩) ?_ ?_
                rotate_left
                · intro w'
                  go_simp
                  with_reducible rfl
                rotate_left
                · simp only [Act.put, List.setIfInBounds_toArray, List.set_cons_zero, List.set_cons_succ, Bz, Cb]
                  rfl
                refine Du (i := 1) (N := some 18) (v := ?_) (a' := ?_) #[true, true, false, false, false, false, false, false, false, false] rfl rfl (Di HT_.out (by kernel_rfl)) (fun _ _ _ h => h) (Or.inl ⟨by rfl, ?_⟩) ?_ ?_
                rotate_left
                · intro w'
                  go_simp
                  with_reducible rfl
                rotate_left
                · simp only [Act.put, List.setIfInBounds_toArray, List.set_cons_zero, List.set_cons_succ, Bz, Cb]
                  rfl
                refine Du (i := 2) (N := some 19) (v := ?_) (a' := ?_) #[true, true, true, false, false, false, false, false, false, false] rfl rfl (Di HT_.out (by kernel_rfl)) (fun _ _ _ h => h) (Or.inl ⟨by rfl, ?_⟩) ?_ ?_
                rotate_left
                · intro w'
                  go_simp
                  with_reducible rfl
                rotate_left
                · simp only [Act.put, List.setIfInBounds_toArray, List.set_cons_zero, List.set_cons_succ, Bz, Cb]
                  rfl
                refine Du (i := 4) (N := some 21) (v := ?_) (a' := ?_) #[true, true, true, false, true, false, false, false, false, false] rfl rfl (Di HT_.out (by kernel_rfl)) (fun _ _ _ h => h) (Or.inl ⟨by rfl, ?_⟩) ?_ ?_
                rotate_left
                · intro w'
                  go_simp
                  with_reducible rfl
                rotate_left
                · simp only [Act.put, List.setIfInBounds_toArray, List.set_cons_zero, List.set_cons_succ, Bz, Cb]
                  rfl
                refine Du (i := 5) (N := some 22) (v := ?_) (a' := ?_) #[true, true, true, false, true, true, false, false, false, false] rfl rfl (Di HT_.out (by kernel_rfl)) (fun _ _ _ h => h) (Or.inl ⟨by rfl, ?_⟩) ?_ ?_
                rotate_left
                · intro w'
                  go_simp
                  with_reducible rfl
                rotate_left
                · simp only [Act.put, List.setIfInBounds_toArray, List.set_cons_zero, List.set_cons_succ, Bz, Cb]
                  rfl
                refine Du (i := 6) (N := some 23) (v := ?_) (a' := ?_) #[true, true, true, false, true, true, true, false, false, false] rfl rfl (Di HT_.out (by kernel_rfl)) (fun _ _ _ h => h) (Or.inl ⟨by rfl, ?_⟩) ?_ ?_
                rotate_left
                · intro w'
                  go_simp
                  with_reducible rfl
                rotate_left
                · simp only [Act.put, List.setIfInBounds_toArray, List.set_cons_zero, List.set_cons_succ, Bz, Cb]
                  rfl
                refine Fv (i := 3) (N := some 20) (v := ?_) (a' := ?_) #[true, true, true, true, true, true, true, false, false, false] rfl rfl (Et HT_.out HW_.out (by kernel_rfl)) (fun _ _ _ h => h) (Or.inl ⟨by rfl, ?_⟩) hHeld ?_ ?_
                rotate_left
                · rintro w' ⟨s0, s1, s2, s3, s4, s5, s6, s7⟩
                  go_simp
                  with_reducible rfl
                rotate_left
                · simp only [Act.put, List.setIfInBounds_toArray, List.set_cons_zero, List.set_cons_succ, Bz, Cb]
                  rfl
                refine Fv (i := 7) (N := some 24) (v := ?_) (a' := ?_) #[true, true, true, true, true, true, true, true, false, false] rfl rfl (Et HT_.out HW_.out (by kernel_rfl)) (fun _ _ _ h => h) (Or.inl ⟨by rfl, ?_⟩) hHeld ?_ ?_
                rotate_left
                · rintro w' ⟨s0, s1, s2, s3, s4, s5, s6, s7⟩
                  go_simp
                  with_reducible rfl
                rotate_left
                · simp only [Act.put, List.setIfInBounds_toArray, List.set_cons_zero, List.set_cons_succ, Bz, Cb]
                  rfl
                refine one_ (i := 8) (N := some 25) #[true, true, true, true, true, true, true, true, true, false] rfl rfl (Gg HT_.out (by kernel_rfl)) (by decide) (fun K hK => ?_)
                refine Gn Tryd.func18 (by kernel_rfl) rfl #[.agg #[.int .i64 ((Ak l0 x5_1).f0), .string ((Ak l0 x5_1).f1), .int .i64 ((Ak l0 x5_1).f2), .int .i64 ((Ak l0 x5_1).f3)], .agg #[.int .i64 ((Ak l1 x5_1).f0), .string ((Ak l1 x5_1).f1), .int .i64 ((Ak l1 x5_1).f2), .int .i64 ((Ak l1 x5_1).f3)]] (by rfl) rfl rfl Yb_ ?_
                with_reducible refine (Hy.calls ((Ak l0 x5_1).f0) ((Ak l0 x5_1).f1) ((Ak l0 x5_1).f2) ((Ak l0 x5_1).f3) ((Ak l1 x5_1).f0) ((Ak l1 x5_1).f1) ((Ak l1 x5_1).f2) ((Ak l1 x5_1).f3) true _ A7.out).mono ?_
                rintro e w10 ⟨rfl, hb⟩
                refine ⟨_, rfl, ?_⟩
                have n0_ := Ac.mk (Au Ya_ hb)
                clear HB
                have HB := n0_
                clear n0_
                (try clear hb)
                (try clear hb2)
                (try clear hk)
                (try clear hi)
                refine hK.out _ _ ⟨((HB.out.cell (World.block_lt_of_cell? w _ hw235_0)).trans hw235_0), ((HB.out.cell (World.block_lt_of_cell? w _ hw235_1)).trans hw235_1), ((HB.out.cell (World.block_lt_of_cell? w _ hw235_2)).trans hw235_2), ((HB.out.cell (World.block_lt_of_cell? w _ hw235_3)).trans hw235_3), ((HB.out.cell (World.block_lt_of_cell? w _ hw236_0)).trans hw236_0), ((HB.out.cell (World.block_lt_of_cell? w _ hw236_1)).trans hw236_1), ((HB.out.cell (World.block_lt_of_cell? w _ hw236_2)).trans hw236_2), ((HB.out.cell (World.block_lt_of_cell? w _ hw236_3)).trans hw236_3)⟩ (fun hHeld => ?_)
                clear hK K
                refine Gp (a' := ?_) ?_ ?_
                rotate_left
                · show Act.put _ (some 25) _ = _
                  simp only [Act.put, List.setIfInBounds_toArray, List.set_cons_zero, List.set_cons_succ, Bz, Cb]
                  rfl
                refine Du (i := 9) (N := some 26) (v := ?_) (a' := ?_) #[true, true, true, true, true, true, true, true, true, true] rfl rfl (Di HT_.out (by kernel_rfl)) (fun _ _ _ h => h) (Or.inl ⟨by rfl, ?_⟩) ?_ ?_
                rotate_left
                · intro w'
                  go_simp
                  with_reducible rfl
                rotate_left
                · simp only [Act.put, List.setIfInBounds_toArray, List.set_cons_zero, List.set_cons_succ, Bz, Cb]
                  rfl
                refine done_ (Gv HT_.out (by kernel_rfl)) ?_
                try go_wp2
                go_roundg k1
                case measure => have := HK1.out; omega
                case rel => exact ⟨(wrap64 (x5_1 + 1)), Yf_, H', ⟨by have := HK1.out; omega⟩, ⟨by repeat (first | (with_reducible first | exact HB.out | apply Ae | apply Aa | apply Ad) | exact HB.out)⟩⟩
              · replace c8 := Bool.eq_false_iff.mpr c8
                subst c8
                have H1 : (some false) = some r := by rw [if_neg (show ¬ (false = true) by decide)] at H; exact H
                clear H
                have H := H1
                clear H1
                obtain rfl := Option.some.inj H
                try go_wp2
                have n0_ := Ac.mk (Ad HB.out)
                clear HB
                have HB := n0_
                clear n0_
                have p235 : 0 ≤ (x5_1 : Int) := of_decide_eq_true Yc_
                have q235 : x5_1 < (l0.length : Int) := of_decide_eq_true Yc_
                obtain ⟨ad235, e235, hx235_0, hx235_1, hx235_2, hx235_3⟩ := Fp HR0.out x5_1 p235 q235
                have hw235_3 := hx235_3
                have hw235_2 := hx235_2
                have hw235_1 := hx235_1
                have hw235_0 := hx235_0
                cases e235
                replace hx235_0 := (HB.out.cell (World.block_lt_of_cell? w _ hx235_0)).trans hx235_0
                replace hx235_1 := (HB.out.cell (World.block_lt_of_cell? w _ hx235_1)).trans hx235_1
                replace hx235_2 := (HB.out.cell (World.block_lt_of_cell? w _ hx235_2)).trans hx235_2
                replace hx235_3 := (HB.out.cell (World.block_lt_of_cell? w _ hx235_3)).trans hx235_3
                replace p235 := eq_true p235
                replace q235 := eq_true q235
                have p236 : 0 ≤ (x5_1 : Int) := of_decide_eq_true Yc_
                have q236 : x5_1 < (l1.length : Int) := of_decide_eq_true Yc_
                obtain ⟨ad236, e236, hx236_0, hx236_1, hx236_2, hx236_3⟩ := Fp HR1.out x5_1 p236 q236
                have hw236_3 := hx236_3
                have hw236_2 := hx236_2
                have hw236_1 := hx236_1
                have hw236_0 := hx236_0
                cases e236
                replace hx236_0 := (HB.out.cell (World.block_lt_of_cell? w _ hx236_0)).trans hx236_0
                replace hx236_1 := (HB.out.cell (World.block_lt_of_cell? w _ hx236_1)).trans hx236_1
                replace hx236_2 := (HB.out.cell (World.block_lt_of_cell? w _ hx236_2)).trans hx236_2
                replace hx236_3 := (HB.out.cell (World.block_lt_of_cell? w _ hx236_3)).trans hx236_3
                replace p236 := eq_true p236
                replace q236 := eq_true q236
                refine G7 (n := 10) (S := fun w' => w'.cell? (ad235.add ((x5_1).toNat * 4)) = some (.int .i64 ((Ak l0 x5_1).f0)) ∧ w'.cell? ⟨(ad235.add ((x5_1).toNat * 4)).block, (ad235.add ((x5_1).toNat * 4)).off + 1, none⟩ = some (.string ((Ak l0 x5_1).f1)) ∧ w'.cell? ⟨(ad235.add ((x5_1).toNat * 4)).block, (ad235.add ((x5_1).toNat * 4)).off + 2, none⟩ = some (.int .i64 ((Ak l0 x5_1).f2)) ∧ w'.cell? ⟨(ad235.add ((x5_1).toNat * 4)).block, (ad235.add ((x5_1).toNat * 4)).off + 3, none⟩ = some (.int .i64 ((Ak l0 x5_1).f3)) ∧ w'.cell? (ad236.add ((x5_1).toNat * 4)) = some (.int .i64 ((Ak l1 x5_1).f0)) ∧ w'.cell? ⟨(ad236.add ((x5_1).toNat * 4)).block, (ad236.add ((x5_1).toNat * 4)).off + 1, none⟩ = some (.string ((Ak l1 x5_1).f1)) ∧ w'.cell? ⟨(ad236.add ((x5_1).toNat * 4)).block, (ad236.add ((x5_1).toNat * 4)).off + 2, none⟩ = some (.int .i64 ((Ak l1 x5_1).f2)) ∧ w'.cell? ⟨(ad236.add ((x5_1).toNat * 4)).block, (ad236.add ((x5_1).toNat * 4)).off + 3, none⟩ = some (.int .i64 ((Ak l1 x5_1).f3))) (ds := []) #[false, false, false, false, false, false, false, false, false, false] (by kernel_rfl) rfl rfl ⟨((HB.out.cell (World.block_lt_of_cell? w _ hw235_0)).trans hw235_0), ((HB.out.cell (World.block_lt_of_cell? w _ hw235_1)).trans hw235_1), ((HB.out.cell (World.block_lt_of_cell? w _ hw235_2)).trans hw235_2), ((HB.out.cell (World.block_lt_of_cell? w _ hw235_3)).trans hw235_3), ((HB.out.cell (World.block_lt_of_cell? w _ hw236_0)).trans hw236_0), ((HB.out.cell (World.block_lt_of_cell? w _ hw236_1)).trans hw236_1), ((HB.out.cell (World.block_lt_of_cell? w _ hw236_2)).trans hw236_2), ((HB.out.cell (World.block_lt_of_cell? w _ hw236_3)).trans hw236_3)⟩ (fun hHeld => ?_); refine Gf Cm.tab6 Cm.bits6 (fun HT_ HW_ => ?_)
                generalize wr.drew = w11 at HB hx235_0 hx235_1 hx235_2 hx235_3 hx236_0 hx236_1 hx236_2 hx236_3 hHeld ⊢
                refine Du (i := 0) (N := some 17) (v := ?_) (a' := ?_) #[true, false, false, false, false, false, false, false, false, false] rfl rfl (Di HT_.out (by kernel_rfl)) (fun _ _ _ h => h) (Or.inl ⟨by rfl, ?_⟩) ?_ ?_
                rotate_left
                · intro w'
                  go_simp
                  with_reducible rfl
                rotate_left
                · simp only [Act.put, List.setIfInBounds_toArray, List.set_cons_zero, List.set_cons_succ, Bz, Cb]
                  rfl
                refine Du (i := 1) (N := some 18) (v := ?_) (a' := ?_) #[true, true, false, false, false, false, false, false, false, false] rfl rfl (Di HT_.out (by kernel_rfl)) (fun _ _ _ h => h) (Or.inl ⟨by rfl, ?_⟩) ?_ ?_
                rotate_left
                · intro w'
                  go_simp
                  with_reducible rfl
                rotate_left
                · simp only [Act.put, List.setIfInBounds_toArray, List.set_cons_zero, List.set_cons_succ, Bz, Cb]
                  rfl
                refine Du (i := 2) (N := some 19) (v := ?_) (a' := ?_) #[true, true, true, false, false, false, false, false, false, false] rfl rfl (Di HT_.out (by kernel_rfl)) (fun _ _ _ h => h) (Or.inl ⟨by rfl, ?_⟩) ?_ ?_
                rotate_left
                · intro w'
                  go_simp
                  with_reducible rfl
                rotate_left
                · simp only [Act.put, List.setIfInBounds_toArray, List.set_cons_zero, List.set_cons_succ, Bz, Cb]
                  rfl
                refine Du (i := 4) (N := some 21) (v := ?_) (a' := ?_) #[true, true, true, false, true, false, false, false, false, false] rfl rfl (Di HT_.out (by kernel_rfl)) (fun _ _ _ h => h) (Or.inl ⟨by rfl, ?_⟩) ?_ ?_
                rotate_left
                · intro w'
                  go_simp
                  with_reducible rfl
                rotate_left
                · simp only [Act.put, List.setIfInBounds_toArray, List.set_cons_zero, List.set_cons_succ, Bz, Cb]
                  rfl
                refine Du (i := 5) (N := some 22) (v := ?_) (a' := ?_) #[true, true, true, false, true, true, false, false, false, false] rfl rfl (Di HT_.out (by kernel_rfl)) (fun _ _ _ h => h) (Or.inl ⟨by rfl, ?_⟩) ?_ ?_
                rotate_left
                · intro w'
                  go_simp
                  with_reducible rfl
                rotate_left
                · simp only [Act.put, List.setIfInBounds_toArray, List.set_cons_zero, List.set_cons_succ, Bz, Cb]
                  rfl
                refine Du (i := 6) (N := some 23) (v := ?_) (a' := ?_) #[true, true, true, false, true, true, true, false, false, false] rfl rfl (Di HT_.out (by kernel_rfl)) (fun _ _ _ h => h) (Or.inl ⟨by rfl, ?_⟩) ?_ ?_
                rotate_left
                · intro w'
                  go_simp
                  with_reducible rfl
                rotate_left
                · simp only [Act.put, List.setIfInBounds_toArray, List.set_cons_zero, List.set_cons_succ, Bz, Cb]
                  rfl
                refine Fv (i := 3) (N := some 20) (v := ?_) (a' := ?_) #[true, true, true, true, true, true, true, false, false, false] rfl rfl (Et HT_.out HW_.out (by kernel_rfl)) (fun _ _ _ h => h) (Or.inl ⟨by rfl, ?_⟩) hHeld ?_ ?_
                rotate_left
                · rintro w' ⟨s0, s1, s2, s3, s4, s5, s6, s7⟩
                  go_simp
                  with_reducible rfl
                rotate_left
                · simp only [Act.put, List.setIfInBounds_toArray, List.set_cons_zero, List.set_cons_succ, Bz, Cb]
                  rfl
                refine Fv (i := 7) (N := some 24) (v := ?_) (a' := ?_) #[true, true, true, true, true, true, true, true, false, false] rfl rfl (Et HT_.out HW_.out (by kernel_rfl)) (fun _ _ _ h => h) (Or.inl ⟨by rfl, ?_⟩) hHeld ?_ ?_
                rotate_left
                · rintro w' ⟨s0, s1, s2, s3, s4, s5, s6, s7⟩
                  go_simp
                  with_reducible rfl
                rotate_left
                · simp only [Act.put, List.setIfInBounds_toArray, List.set_cons_zero, List.set_cons_succ, Bz, Cb]
                  rfl
                refine one_ (i := 8) (N := some 25) #[true, true, true, true, true, true, true, true, true, false] rfl rfl (Gg HT_.out (by kernel_rfl)) (by decide) (fun K hK => ?_)
                refine Gn Tryd.func18 (by kernel_rfl) rfl #[.agg #[.int .i64 ((Ak l0 x5_1).f0), .string ((Ak l0 x5_1).f1), .int .i64 ((Ak l0 x5_1).f2), .int .i64 ((Ak l0 x5_1).f3)], .agg #[.int .i64 ((Ak l1 x5_1).f0), .string ((Ak l1 x5_1).f1), .int .i64 ((Ak l1 x5_1).f2), .int .i64 ((Ak l1 x5_1).f3)]] (by rfl) rfl rfl Yb_ ?_
                with_reducible refine (Hy.calls ((Ak l0 x5_1).f0) ((Ak l0 x5_1).f1) ((Ak l0 x5_1).f2) ((Ak l0 x5_1).f3) ((Ak l1 x5_1).f0) ((Ak l1 x5_1).f1) ((Ak l1 x5_1).f2) ((Ak l1 x5_1).f3) false _ A7.out).mono ?_
                rintro e w12 ⟨rfl, hb⟩
                refine ⟨_, rfl, ?_⟩
                have n0_ := Ac.mk (Au Ya_ hb)
                clear HB
                have HB := n0_
                clear n0_
                (try clear hb)
                (try clear hb2)
                (try clear hk)
                (try clear hi)
                refine hK.out _ _ ⟨((HB.out.cell (World.block_lt_of_cell? w _ hw235_0)).trans hw235_0), ((HB.out.cell (World.block_lt_of_cell? w _ hw235_1)).trans hw235_1), ((HB.out.cell (World.block_lt_of_cell? w _ hw235_2)).trans hw235_2), ((HB.out.cell (World.block_lt_of_cell? w _ hw235_3)).trans hw235_3), ((HB.out.cell (World.block_lt_of_cell? w _ hw236_0)).trans hw236_0), ((HB.out.cell (World.block_lt_of_cell? w _ hw236_1)).trans hw236_1), ((HB.out.cell (World.block_lt_of_cell? w _ hw236_2)).trans hw236_2), ((HB.out.cell (World.block_lt_of_cell? w _ hw236_3)).trans hw236_3)⟩ (fun hHeld => ?_)
                clear hK K
                refine Gp (a' := ?_) ?_ ?_
                rotate_left
                · show Act.put _ (some 25) _ = _
                  simp only [Act.put, List.setIfInBounds_toArray, List.set_cons_zero, List.set_cons_succ, Bz, Cb]
                  rfl
                refine Du (i := 9) (N := some 26) (v := ?_) (a' := ?_) #[true, true, true, true, true, true, true, true, true, true] rfl rfl (Di HT_.out (by kernel_rfl)) (fun _ _ _ h => h) (Or.inl ⟨by rfl, ?_⟩) ?_ ?_
                rotate_left
                · intro w'
                  go_simp
                  with_reducible rfl
                rotate_left
                · simp only [Act.put, List.setIfInBounds_toArray, List.set_cons_zero, List.set_cons_succ, Bz, Cb]
                  rfl
                refine done_ (Gv HT_.out (by kernel_rfl)) ?_
                try go_wp2
                go_ret
                exact ⟨by first | rfl | (simp [Aq, Ar] <;> rfl) | (simp [*, Aq, Ar] <;> rfl), by repeat (first | (with_reducible first | exact HB.out | apply Ae | apply Aa | apply Ad) | exact HB.out)⟩
            · rw [if_neg c6] at H
              exact absurd H (by simp)
          · rw [if_neg c5] at H
            exact absurd H (by simp)
        · rw [if_neg c4] at H
          have c4b0 : decide (x5_1 < (l0.length : Int)) = false := decide_eq_false c4
          clear c4
          obtain rfl := Option.some.inj H
          go_wp2
          go_ret
          exact ⟨by first | rfl | (simp [Aq, Ar] <;> rfl) | (simp [*, Aq, Ar] <;> rfl), by repeat (first | (with_reducible first | exact HB.out | apply Ae | apply Aa | apply Ad) | exact HB.out)⟩
  · rw [if_neg c3] at H
    have c3b0 : ((l0.length : Int) == (l1.length : Int)) = false := beq_eq_false_iff_ne.mpr c3
    have c3b1 : ((l0.length : Int) != (l1.length : Int)) = true := bne_iff_ne.mpr c3
    have c3b2 : (l0.length == l1.length) = false := by first | simpa using c3 | (simp at c3 ⊢; omega)
    obtain rfl := Option.some.inj H
    go_enter Tryd.func15, Tryd.ntmps15
    go_wp2
    go_ret
    exact ⟨by first | rfl | (simp [Aq, Ar] <;> rfl) | (simp [*, Aq, Ar] <;> rfl), by repeat (first | (with_reducible first | exact HB.out | apply Ae | apply Aa | apply Ad) | exact HB.out)⟩
end Go.Proofs.YtghnljoaklmakaaDoor.X

namespace Go.Proofs.YtghnljoaklmakaaDoor.X
open Go.RowKit Go.Proofs.YtghnljoaklmakaaDoorW.PrintWords Go.Proofs.YtghnljoaklmakaaDoorW.PrintLast Go.Proofs.YtghnljoaklmakaaDoorW.PrintMore
attribute [local go_sem] Ea Eb Eh Eg Dz D5 Ec D9
open Go.Proofs.YtghnljoaklmakaaDoorG
def Dw.f (a0 : Int) (a1 : Int) (a2 : Int) : Option (Bool) := if a0 ≥ a1 then (some (decide (a0 ≤ a2))) else (some false)
set_option maxHeartbeats 8000000 in
set_option maxRecDepth 100000 in
theorem Dw.calls (a0 : Int) (a1 : Int) (a2 : Int) (r : Bool) (w : World) (h : Dw.f a0 a1 a2 = some r) :
    Calls Tryd.prog 38 #[.int .i64 a0, .int .i64 a1, .int .i64 a2] w fun e w' => e = .returned (.bool r) ∧ Cj w w' := by
  have H : (if a0 ≥ a1 then (some (decide (a0 ≤ a2))) else (some false)) = some r := h
  clear h
  by_cases c4 : a0 ≥ a1
  · rw [if_pos c4] at H
    have c4b0 : decide (a1 ≤ a0) = true := decide_eq_true c4
    clear c4
    obtain rfl := Option.some.inj H
    go_enter Tryd.func38, Tryd.ntmps38
    go_wp2
    go_ret
    exact ⟨by first | rfl | (simp; done) | (simp [*]; done), by repeat (first | exact Cj.refl _ | apply Cj.step)⟩
  · rw [if_neg c4] at H
    have c4b0 : decide (a1 ≤ a0) = false := decide_eq_false c4
    clear c4
    obtain rfl := Option.some.inj H
    go_enter Tryd.func38, Tryd.ntmps38
    go_wp2
    go_ret
    exact ⟨by first | rfl | (simp; done) | (simp [*]; done), by repeat (first | exact Cj.refl _ | apply Cj.step)⟩
end Go.Proofs.YtghnljoaklmakaaDoor.X

namespace Go.Proofs.YtghnljoaklmakaaDoor.X
open Go.RowKit Go.Proofs.YtghnljoaklmakaaDoorW.PrintWords Go.Proofs.YtghnljoaklmakaaDoorW.PrintLast Go.Proofs.YtghnljoaklmakaaDoorW.PrintMore
attribute [local go_sem] Ea Eb Eh Eg Dz D5 Ec D9
open Go.Proofs.YtghnljoaklmakaaDoorG
def Cc.l0 : Nat → Int → List ByteArray → ByteArray → Int → Option (ByteArray × Bool)
  | 0, _, _, _, _ => none
  | k + 1, x0, x4, x5, x6 => if x6 < 4 then (if 0 ≤ (IntKind.u64.wrap (x6)) then (if (Go.bits .and .i64 (shr .i64 x0 (IntKind.u64.wrap (x6))) 1) = 0 then (Cc.l0 k x0 x4 x5 (wrap64 (x6 + 1))) else (if x5.toList = ([] : List UInt8) then (if 0 ≤ x6 then (if x6 < (x4.length : Int) then (if x5.size + (rdOf ByteArray.empty x4 x6).size ≤ 9223372036854775807 then (Cc.l0 k x0 x4 (x5 ++ (rdOf ByteArray.empty x4 x6)) (wrap64 (x6 + 1))) else (none)) else (none)) else (none)) else (if x5.size + 2 ≤ 9223372036854775807 then (if 0 ≤ x6 then (if x6 < (x4.length : Int) then (if (x5 ++ (⟨#[44, 32]⟩ : ByteArray)).size + (rdOf ByteArray.empty x4 x6).size ≤ 9223372036854775807 then (Cc.l0 k x0 x4 ((x5 ++ (⟨#[44, 32]⟩ : ByteArray)) ++ (rdOf ByteArray.empty x4 x6)) (wrap64 (x6 + 1))) else (none)) else (none)) else (none)) else (none)))) else (none)) else (if x5.toList = ([] : List UInt8) then (some ((⟨#[110, 111, 110, 101]⟩ : ByteArray), true)) else (some (x5, true)))
def Cc.f (k : Nat) (a0 : Int) : Option (ByteArray × Bool) := (Dw.f a0 0 15).bind fun t113 => (if t113 = true then (Cc.l0 k a0 (([(⟨#[100, 111, 99, 117, 109, 101, 110, 116, 115]⟩ : ByteArray), (⟨#[105, 110, 115, 112, 101, 99, 116, 105, 111, 110]⟩ : ByteArray), (⟨#[100, 117, 116, 105, 101, 115]⟩ : ByteArray), (⟨#[113, 117, 97, 114, 97, 110, 116, 105, 110, 101]⟩ : ByteArray)] : List ByteArray)) (⟨#[]⟩ : ByteArray) 0) else (some ((⟨#[]⟩ : ByteArray), false)))
theorem Cc.Ed : ∀ k, (∀ y0 y1 y2 y3, LeO (Cc.l0 k y0 y1 y2 y3) (Cc.l0 (k + 1) y0 y1 y2 y3))
  | 0 => fun _ _ _ _ r h => by simp [Cc.l0] at h
  | k + 1 => by
    have ih0 := Cc.Ed k
    · intro y0 y1 y2 y3
      unfold Cc.l0
      repeat' first
      | (with_reducible exact ih0 _ _ _ _)
      | (with_reducible exact LeO.refl _)
      | (with_reducible exact LeO.none _)
      | (with_reducible refine LeO.ite ?_ ?_)
      | (with_reducible refine LeO.bind ?_ (fun _ => ?_))
      | exact ih0 _ _ _ _
      | exact LeO.none _
      | refine LeO.ite ?_ ?_
      | refine LeO.bind ?_ (fun _ => ?_)
theorem Cc.mono : ∀ a0 k, LeO (Cc.f k a0) (Cc.f (k + 1) a0) := by
  intro a0 k
  have ih0 := Cc.Ed k
  unfold Cc.f
  repeat' first
      | (with_reducible exact ih0 _ _ _ _)
      | (with_reducible exact LeO.refl _)
      | (with_reducible exact LeO.none _)
      | (with_reducible refine LeO.ite ?_ ?_)
      | (with_reducible refine LeO.bind ?_ (fun _ => ?_))
      | exact ih0 _ _ _ _
      | exact LeO.none _
      | refine LeO.ite ?_ ?_
      | refine LeO.bind ?_ (fun _ => ?_)
set_option maxHeartbeats 8000000 in
set_option maxRecDepth 100000 in
theorem Cc.calls (k : Nat) (a0 : Int) (r1 : ByteArray) (r2 : Bool) (w : World) (h : Cc.f k a0 = some (r1, r2)) :
    Calls Tryd.prog 32 #[.int .i64 a0] w fun e w' => e = .returned (.tuple #[.string r1, .bool r2]) ∧ Below w.heap.size w w' := by
  have HB := Ac.mk (Below.refl w.heap.size w)
  have H : ((Dw.f a0 0 15).bind fun t113 => (if t113 = true then (Cc.l0 k a0 (([(⟨#[100, 111, 99, 117, 109, 101, 110, 116, 115]⟩ : ByteArray), (⟨#[105, 110, 115, 112, 101, 99, 116, 105, 111, 110]⟩ : ByteArray), (⟨#[100, 117, 116, 105, 101, 115]⟩ : ByteArray), (⟨#[113, 117, 97, 114, 97, 110, 116, 105, 110, 101]⟩ : ByteArray)] : List ByteArray)) (⟨#[]⟩ : ByteArray) 0) else (some ((⟨#[]⟩ : ByteArray), false)))) = some (r1, r2) := h
  clear h
  replace H := Option.bind_eq_some_iff.mp H
  obtain ⟨t113, A20, H⟩ := H
  replace H : (if t113 = true then (Cc.l0 k a0 (([(⟨#[100, 111, 99, 117, 109, 101, 110, 116, 115]⟩ : ByteArray), (⟨#[105, 110, 115, 112, 101, 99, 116, 105, 111, 110]⟩ : ByteArray), (⟨#[100, 117, 116, 105, 101, 115]⟩ : ByteArray), (⟨#[113, 117, 97, 114, 97, 110, 116, 105, 110, 101]⟩ : ByteArray)] : List ByteArray)) (⟨#[]⟩ : ByteArray) 0) else (some ((⟨#[]⟩ : ByteArray), false))) = some (r1, r2) := H
  have A2 := Ac.mk A20
  clear A20
  by_cases c3 : t113 = true
  · subst c3
    have H1 : (Cc.l0 k a0 (([(⟨#[100, 111, 99, 117, 109, 101, 110, 116, 115]⟩ : ByteArray), (⟨#[105, 110, 115, 112, 101, 99, 116, 105, 111, 110]⟩ : ByteArray), (⟨#[100, 117, 116, 105, 101, 115]⟩ : ByteArray), (⟨#[113, 117, 97, 114, 97, 110, 116, 105, 110, 101]⟩ : ByteArray)] : List ByteArray)) (⟨#[]⟩ : ByteArray) 0) = some (r1, r2) := by rw [if_pos rfl] at H; exact H
    clear H
    have H := H1
    clear H1
    obtain ⟨y114, hy114⟩ : ∃ y_ : List ByteArray, y_ = (([(⟨#[100, 111, 99, 117, 109, 101, 110, 116, 115]⟩ : ByteArray), (⟨#[105, 110, 115, 112, 101, 99, 116, 105, 111, 110]⟩ : ByteArray), (⟨#[100, 117, 116, 105, 101, 115]⟩ : ByteArray), (⟨#[113, 117, 97, 114, 97, 110, 116, 105, 110, 101]⟩ : ByteArray)] : List ByteArray)) := ⟨_, rfl⟩
    replace H : (Cc.l0 k a0 y114 (⟨#[]⟩ : ByteArray) 0) = some (r1, r2) := by first | (rw [hy114]; with_reducible exact H) | (have H2_ := (Option.bind_some _ _).symm.trans H; rw [hy114]; with_reducible exact H2_) | (have H2_ := (Option.bind_some _ _).symm.trans H; with_reducible exact H2_) | with_reducible exact H | (rw [hy114]; exact H) | exact H
    have Ny114 := Ac.mk hy114
    clear hy114
    have H' := Ac.mk H
    clear H
    go_enter Tryd.func32, Tryd.ntmps32
    go_wp2_with (first | ((with_reducible refine Aw (f := 38) rfl ?_); refine Bj (some 8) rfl rfl Tryd.func38 (by kernel_rfl) rfl #[.int .i64 a0, .int .i64 0, .int .i64 15] rfl Yb_ ?_; (with_reducible refine (Dw.calls a0 0 15 true _ A2.out).mono ?_); rintro e w' ⟨rfl, ⟨nd, rfl⟩⟩; refine ⟨_, rfl, ?_⟩) | ((with_reducible refine Dh (N := 10) rfl ?_); refine Kd.R_lit Kd.string _ 9 ?hg (N := 10) ?hd (xs := ([(⟨#[100, 111, 99, 117, 109, 101, 110, 116, 115]⟩ : ByteArray), (⟨#[105, 110, 115, 112, 101, 99, 116, 105, 111, 110]⟩ : ByteArray), (⟨#[100, 117, 116, 105, 101, 115]⟩ : ByteArray), (⟨#[113, 117, 97, 114, 97, 110, 116, 105, 110, 101]⟩ : ByteArray)] : List ByteArray)) (inner := [.string (⟨#[100, 111, 99, 117, 109, 101, 110, 116, 115]⟩ : ByteArray), .string (⟨#[105, 110, 115, 112, 101, 99, 116, 105, 111, 110]⟩ : ByteArray), .string (⟨#[100, 117, 116, 105, 101, 115]⟩ : ByteArray), .string (⟨#[113, 117, 97, 114, 97, 110, 116, 105, 110, 101]⟩ : ByteArray)]) (ok := fun _ => True) (okp := fun _ => True) ?hr ?hp (fun _ hk => hk) trivial (Below.refl _ _) (Nat.le_refl _) (by simp) ?_; (case hd => rfl); (case hg => rfl); (case hr => first | (go_simp; done) | (go_simp; rfl)); (case hp => exact (Ee.one (show Kd.M Kd.string _ _ _ (⟨#[100, 111, 99, 117, 109, 101, 110, 116, 115]⟩ : ByteArray) [.string (⟨#[100, 111, 99, 117, 109, 101, 110, 116, 115]⟩ : ByteArray)] from rfl) (Ee.one (show Kd.M Kd.string _ _ _ (⟨#[105, 110, 115, 112, 101, 99, 116, 105, 111, 110]⟩ : ByteArray) [.string (⟨#[105, 110, 115, 112, 101, 99, 116, 105, 111, 110]⟩ : ByteArray)] from rfl) (Ee.one (show Kd.M Kd.string _ _ _ (⟨#[100, 117, 116, 105, 101, 115]⟩ : ByteArray) [.string (⟨#[100, 117, 116, 105, 101, 115]⟩ : ByteArray)] from rfl) (Ee.one (show Kd.M Kd.string _ _ _ (⟨#[113, 117, 97, 114, 97, 110, 116, 105, 110, 101]⟩ : ByteArray) [.string (⟨#[113, 117, 97, 114, 97, 110, 116, 105, 110, 101]⟩ : ByteArray)] from rfl) (Ee.none _ _)))))); intro v115 w4 ho5 hb hg_ hnew_; clear hg_ hnew_; (first | rw [← Ny114.out] at ho5 | (simp only [Int.reduceToNat] at ho5; rw [← Ny114.out] at ho5)); have n0_ := Ac.mk (Kd.F6 ho5 (Az Ya_)); have n1_ := Ac.mk (Au Ya_ hb); clear HB; have HO116 := n0_; have HB := n1_; clear n0_ n1_; clear hb ho5))
    go_loopg [5, 6] k (fun kq v5 v6 w' => ∃ (x5_1 : ByteArray) (x6_1 : Int), v5 = .string x5_1 ∧ v6 = .int .i64 x6_1 ∧ Ac (Cc.l0 kq a0 y114 x5_1 x6_1 = some (r1, r2)) ∧ Ac (kq ≤ k) ∧ Ac (Kd.R Kd.string 9 w' w.heap.size (fun _ => True) v115 y114) ∧ Ac (Below w.heap.size w w'))
    case atStart => exact ⟨((⟨#[]⟩ : ByteArray)), (0), Yf_, Yf_, H', ⟨Nat.le_refl _⟩, ⟨by (with_reducible repeat (first | apply Kd.Bg | apply Kd.Bh | apply Kd.Bl)); exact HO116.out⟩, ⟨by repeat (first | (with_reducible first | exact HB.out | apply Ae | apply Aa | apply Ad) | exact HB.out)⟩⟩
    case round =>
      clear H'
      try clear p2
      try clear c3
      obtain ⟨x5_1, x6_1, rfl, rfl, HA, HK1, HO_4, HB⟩ := hrel
      cases gk with
      | zero => exact absurd HA.out (by simp [Cc.l0])
      | succ k1 =>
        have H := HA.out
        clear HA
        simp only [Cc.l0] at H
        by_cases c6 : x6_1 < 4
        · rw [if_pos c6] at H
          have c6b0 : decide (x6_1 < 4) = true := decide_eq_true c6
          clear c6
          obtain ⟨ji7, hji7⟩ : ∃ j_ : Int, (IntKind.u64.wrap (x6_1)) = j_ := ⟨_, rfl⟩
          replace H : (if 0 ≤ (ji7) then (if (Go.bits .and .i64 (shr .i64 a0 (ji7)) 1) = 0 then (Cc.l0 k1 a0 y114 x5_1 (wrap64 (x6_1 + 1))) else (if x5_1.toList = ([] : List UInt8) then (if 0 ≤ x6_1 then (if x6_1 < (y114.length : Int) then (if x5_1.size + (rdOf ByteArray.empty y114 x6_1).size ≤ 9223372036854775807 then (Cc.l0 k1 a0 y114 (x5_1 ++ (rdOf ByteArray.empty y114 x6_1)) (wrap64 (x6_1 + 1))) else (none)) else (none)) else (none)) else (if x5_1.size + 2 ≤ 9223372036854775807 then (if 0 ≤ x6_1 then (if x6_1 < (y114.length : Int) then (if (x5_1 ++ (⟨#[44, 32]⟩ : ByteArray)).size + (rdOf ByteArray.empty y114 x6_1).size ≤ 9223372036854775807 then (Cc.l0 k1 a0 y114 ((x5_1 ++ (⟨#[44, 32]⟩ : ByteArray)) ++ (rdOf ByteArray.empty y114 x6_1)) (wrap64 (x6_1 + 1))) else (none)) else (none)) else (none)) else (none)))) else (none)) = some (r1, r2) := by first | (rw [hji7] at H; exact H) | (simp only [hji7] at H ⊢; exact H)
          by_cases c8 : 0 ≤ (ji7)
          · rw [if_pos c8] at H
            have c8b0 := eq_true c8
            have c8b1 : decide (0 ≤ (ji7)) = true := decide_eq_true c8
            clear c8
            obtain ⟨ji9, hji9⟩ : ∃ j_ : Int, (shr .i64 a0 (ji7)) = j_ := ⟨_, rfl⟩
            replace H : (if (Go.bits .and .i64 (ji9) 1) = 0 then (Cc.l0 k1 a0 y114 x5_1 (wrap64 (x6_1 + 1))) else (if x5_1.toList = ([] : List UInt8) then (if 0 ≤ x6_1 then (if x6_1 < (y114.length : Int) then (if x5_1.size + (rdOf ByteArray.empty y114 x6_1).size ≤ 9223372036854775807 then (Cc.l0 k1 a0 y114 (x5_1 ++ (rdOf ByteArray.empty y114 x6_1)) (wrap64 (x6_1 + 1))) else (none)) else (none)) else (none)) else (if x5_1.size + 2 ≤ 9223372036854775807 then (if 0 ≤ x6_1 then (if x6_1 < (y114.length : Int) then (if (x5_1 ++ (⟨#[44, 32]⟩ : ByteArray)).size + (rdOf ByteArray.empty y114 x6_1).size ≤ 9223372036854775807 then (Cc.l0 k1 a0 y114 ((x5_1 ++ (⟨#[44, 32]⟩ : ByteArray)) ++ (rdOf ByteArray.empty y114 x6_1)) (wrap64 (x6_1 + 1))) else (none)) else (none)) else (none)) else (none)))) = some (r1, r2) := by first | (rw [hji9] at H; exact H) | (simp only [hji9] at H ⊢; exact H)
            have hji9_ : (a0 / 2 ^ min (ji7).toNat 64) = ji9 := hji9
            have hji9z : (ji7) ≤ 64 → (a0 / 2 ^ (ji7).toNat) = ji9 := shr_small hji9
            by_cases c10 : (Go.bits .and .i64 (ji9) 1) = 0
            · rw [if_pos c10] at H
              have c10b0 : ((Go.bits .and .i64 (ji9) 1) == 0) = true := beq_iff_eq.mpr c10
              have c10b1 : ((Go.bits .and .i64 (ji9) 1) != 0) = false := bne_eq_false_iff_eq.mpr c10
              clear c10
              have H' := Ac.mk H
              clear H
              go_wp2
              go_roundg k1
              case measure => have := HK1.out; omega
              case rel => exact ⟨(x5_1), (wrap64 (x6_1 + 1)), Yf_, Yf_, H', ⟨by have := HK1.out; omega⟩, ⟨by (with_reducible repeat (first | apply Kd.Bg | apply Kd.Bh | apply Kd.Bl)); exact HO_4.out⟩, ⟨by repeat (first | (with_reducible first | exact HB.out | apply Ae | apply Aa | apply Ad) | exact HB.out)⟩⟩
            · rw [if_neg c10] at H
              have c10b0 : ((Go.bits .and .i64 (ji9) 1) == 0) = false := beq_eq_false_iff_ne.mpr c10
              have c10b1 : ((Go.bits .and .i64 (ji9) 1) != 0) = true := bne_iff_ne.mpr c10
              by_cases c11 : x5_1.toList = ([] : List UInt8)
              · rw [if_pos c11] at H
                have c11b0 : (x5_1.toList == ([] : List UInt8)) = true := beq_iff_eq.mpr c11
                have c11b1 : (x5_1.toList != ([] : List UInt8)) = false := bne_eq_false_iff_eq.mpr c11
                clear c11
                by_cases c12 : 0 ≤ x6_1
                · rw [if_pos c12] at H
                  have c12b0 : decide (0 ≤ x6_1) = true := decide_eq_true c12
                  clear c12
                  by_cases c13 : x6_1 < (y114.length : Int)
                  · rw [if_pos c13] at H
                    have c13b0 : decide (x6_1 < (y114.length : Int)) = true := decide_eq_true c13
                    clear c13
                    by_cases c14 : x5_1.size + (rdOf ByteArray.empty y114 x6_1).size ≤ 9223372036854775807
                    · rw [if_pos c14] at H
                      have c14b0 := eq_true c14
                      have c14b1 : decide (x5_1.size + (rdOf ByteArray.empty y114 x6_1).size ≤ 9223372036854775807) = true := decide_eq_true c14
                      try have c14b2 : (9223372036854775807 < x5_1.size + (rdOf ByteArray.empty y114 x6_1).size) = False := eq_false (Nat.not_lt.2 c14)
                      have H' := Ac.mk H
                      clear H
                      obtain ⟨Ao15, co15, eo15⟩ := Kd.Ff HO_4.out
                      subst eo15
                      have p117 : 0 ≤ (x6_1 : Int) := of_decide_eq_true Yc_
                      have q117 : x6_1 < (y114.length : Int) := of_decide_eq_true Yc_
                      obtain ⟨ad117, e117, hx117_0⟩ := Kd.H9 (Kd.Dv HO_4.out).2.2 x6_1 p117 q117
                      cases e117
                      replace p117 := eq_true p117
                      replace q117 := eq_true q117
                      go_wp2
                      go_roundg k1
                      case measure => have := HK1.out; omega
                      case rel => exact ⟨(x5_1 ++ (rdOf ByteArray.empty y114 x6_1)), (wrap64 (x6_1 + 1)), Yf_, Yf_, H', ⟨by have := HK1.out; omega⟩, ⟨by (with_reducible repeat (first | apply Kd.Bg | apply Kd.Bh | apply Kd.Bl)); exact HO_4.out⟩, ⟨by repeat (first | (with_reducible first | exact HB.out | apply Ae | apply Aa | apply Ad) | exact HB.out)⟩⟩
                    · rw [if_neg c14] at H
                      exact absurd H (by simp)
                  · rw [if_neg c13] at H
                    exact absurd H (by simp)
                · rw [if_neg c12] at H
                  exact absurd H (by simp)
              · rw [if_neg c11] at H
                have c11b0 : (x5_1.toList == ([] : List UInt8)) = false := beq_eq_false_iff_ne.mpr c11
                have c11b1 : (x5_1.toList != ([] : List UInt8)) = true := bne_iff_ne.mpr c11
                by_cases c16 : x5_1.size + 2 ≤ 9223372036854775807
                · rw [if_pos c16] at H
                  have c16b0 := eq_true c16
                  have c16b1 : decide (x5_1.size + 2 ≤ 9223372036854775807) = true := decide_eq_true c16
                  try have c16b2 : (9223372036854775807 < x5_1.size + 2) = False := eq_false (Nat.not_lt.2 c16)
                  by_cases c17 : 0 ≤ x6_1
                  · rw [if_pos c17] at H
                    have c17b0 : decide (0 ≤ x6_1) = true := decide_eq_true c17
                    clear c17
                    by_cases c18 : x6_1 < (y114.length : Int)
                    · rw [if_pos c18] at H
                      have c18b0 : decide (x6_1 < (y114.length : Int)) = true := decide_eq_true c18
                      clear c18
                      by_cases c19 : (x5_1 ++ (⟨#[44, 32]⟩ : ByteArray)).size + (rdOf ByteArray.empty y114 x6_1).size ≤ 9223372036854775807
                      · rw [if_pos c19] at H
                        have c19b0 := eq_true c19
                        have c19b1 : decide ((x5_1 ++ (⟨#[44, 32]⟩ : ByteArray)).size + (rdOf ByteArray.empty y114 x6_1).size ≤ 9223372036854775807) = true := decide_eq_true c19
                        try have c19b2 : (9223372036854775807 < (x5_1 ++ (⟨#[44, 32]⟩ : ByteArray)).size + (rdOf ByteArray.empty y114 x6_1).size) = False := eq_false (Nat.not_lt.2 c19)
                        have c19z0 : (⟨#[44, 32]⟩ : ByteArray).size = 2 := rfl
                        have c19b3 := c19
                        try simp only [ByteArray.size_extract, ByteArray.size_append, c19z0] at c19b3
                        have c19b4 := eq_false (Nat.not_lt.2 c19b3)
                        have H' := Ac.mk H
                        clear H
                        obtain ⟨Ao20, co20, eo20⟩ := Kd.Ff HO_4.out
                        subst eo20
                        have p118 : 0 ≤ (x6_1 : Int) := of_decide_eq_true Yc_
                        have q118 : x6_1 < (y114.length : Int) := of_decide_eq_true Yc_
                        obtain ⟨ad118, e118, hx118_0⟩ := Kd.H9 (Kd.Dv HO_4.out).2.2 x6_1 p118 q118
                        cases e118
                        replace p118 := eq_true p118
                        replace q118 := eq_true q118
                        go_wp2
                        go_roundg k1
                        case measure => have := HK1.out; omega
                        case rel => exact ⟨((x5_1 ++ (⟨#[44, 32]⟩ : ByteArray)) ++ (rdOf ByteArray.empty y114 x6_1)), (wrap64 (x6_1 + 1)), Yf_, Yf_, H', ⟨by have := HK1.out; omega⟩, ⟨by (with_reducible repeat (first | apply Kd.Bg | apply Kd.Bh | apply Kd.Bl)); exact HO_4.out⟩, ⟨by repeat (first | (with_reducible first | exact HB.out | apply Ae | apply Aa | apply Ad) | exact HB.out)⟩⟩
                      · rw [if_neg c19] at H
                        exact absurd H (by simp)
                    · rw [if_neg c18] at H
                      exact absurd H (by simp)
                  · rw [if_neg c17] at H
                    exact absurd H (by simp)
                · rw [if_neg c16] at H
                  exact absurd H (by simp)
          · rw [if_neg c8] at H
            exact absurd H (by simp)
        · rw [if_neg c6] at H
          have c6b0 : decide (x6_1 < 4) = false := decide_eq_false c6
          clear c6
          by_cases c21 : x5_1.toList = ([] : List UInt8)
          · rw [if_pos c21] at H
            have c21b0 : (x5_1.toList == ([] : List UInt8)) = true := beq_iff_eq.mpr c21
            have c21b1 : (x5_1.toList != ([] : List UInt8)) = false := bne_eq_false_iff_eq.mpr c21
            clear c21
            simp only [Option.some.injEq, Prod.mk.injEq] at H
            obtain ⟨rfl, rfl⟩ := H
            go_wp2
            go_ret2
            exact ⟨by first | rfl | (simp [Aq, Ar] <;> rfl) | (simp [*, Aq, Ar] <;> rfl), by repeat (first | (with_reducible first | exact HB.out | apply Ae | apply Aa | apply Ad) | exact HB.out)⟩
          · rw [if_neg c21] at H
            have c21b0 : (x5_1.toList == ([] : List UInt8)) = false := beq_eq_false_iff_ne.mpr c21
            have c21b1 : (x5_1.toList != ([] : List UInt8)) = true := bne_iff_ne.mpr c21
            simp only [Option.some.injEq, Prod.mk.injEq] at H
            obtain ⟨rfl, rfl⟩ := H
            go_wp2
            go_ret2
            exact ⟨by first | rfl | (simp [Aq, Ar] <;> rfl) | (simp [*, Aq, Ar] <;> rfl), by repeat (first | (with_reducible first | exact HB.out | apply Ae | apply Aa | apply Ad) | exact HB.out)⟩
  · replace c3 := Bool.eq_false_iff.mpr c3
    subst c3
    have H1 : (some ((⟨#[]⟩ : ByteArray), false)) = some (r1, r2) := by rw [if_neg (show ¬ (false = true) by decide)] at H; exact H
    clear H
    have H := H1
    clear H1
    simp only [Option.some.injEq, Prod.mk.injEq] at H
    obtain ⟨rfl, rfl⟩ := H
    go_enter Tryd.func32, Tryd.ntmps32
    go_wp2_with (first | ((with_reducible refine Aw (f := 38) rfl ?_); refine Bj (some 8) rfl rfl Tryd.func38 (by kernel_rfl) rfl #[.int .i64 a0, .int .i64 0, .int .i64 15] rfl Yb_ ?_; (with_reducible refine (Dw.calls a0 0 15 false _ A2.out).mono ?_); rintro e w' ⟨rfl, ⟨nd, rfl⟩⟩; refine ⟨_, rfl, ?_⟩))
    go_ret2
    exact ⟨by first | rfl | (simp [Aq, Ar] <;> rfl) | (simp [*, Aq, Ar] <;> rfl), by repeat (first | (with_reducible first | exact HB.out | apply Ae | apply Aa | apply Ad) | exact HB.out)⟩
end Go.Proofs.YtghnljoaklmakaaDoor.X

namespace Go.Proofs.YtghnljoaklmakaaDoor.X
open Go.RowKit Go.Proofs.YtghnljoaklmakaaDoorW.PrintWords Go.Proofs.YtghnljoaklmakaaDoorW.PrintLast Go.Proofs.YtghnljoaklmakaaDoorW.PrintMore
attribute [local go_sem] Ea Eb Eh Eg Dz D5 Ec D9
open Go.Proofs.YtghnljoaklmakaaDoorG
def Ci.f : Nat → Int → Option (ByteArray)
  | 0, _ => none
  | k + 1, a0 => if a0 < 0 then ((Ci.f k (wrap64 (-a0))).bind fun t119 => (if 1 + t119.size ≤ 9223372036854775807 then (some ((⟨#[45]⟩ : ByteArray) ++ t119)) else (none))) else (if a0 < 10 then (if 0 ≤ a0 then (if a0 ≤ (wrap64 (a0 + 1)) then (if (wrap64 (a0 + 1)) ≤ 10 then (some ((⟨#[48, 49, 50, 51, 52, 53, 54, 55, 56, 57]⟩ : ByteArray).extract (a0 : Int).toNat ((wrap64 (a0 + 1)) : Int).toNat)) else (none)) else (none)) else (none)) else ((Ci.f k (wrap64 (Int.tdiv a0 10))).bind fun t120 => (if 0 ≤ (Int.tmod a0 10) then (if (Int.tmod a0 10) ≤ (wrap64 ((Int.tmod a0 10) + 1)) then (if (wrap64 ((Int.tmod a0 10) + 1)) ≤ 10 then (if t120.size + ((⟨#[48, 49, 50, 51, 52, 53, 54, 55, 56, 57]⟩ : ByteArray).extract ((Int.tmod a0 10) : Int).toNat ((wrap64 ((Int.tmod a0 10) + 1)) : Int).toNat).size ≤ 9223372036854775807 then (some (t120 ++ ((⟨#[48, 49, 50, 51, 52, 53, 54, 55, 56, 57]⟩ : ByteArray).extract ((Int.tmod a0 10) : Int).toNat ((wrap64 ((Int.tmod a0 10) + 1)) : Int).toNat))) else (none)) else (none)) else (none)) else (none))))
theorem Ci.Ed : ∀ k, (∀ y0, LeO (Ci.f k y0) (Ci.f (k + 1) y0))
  | 0 => fun _ r h => by simp [Ci.f] at h
  | k + 1 => by
    have ih0 := Ci.Ed k
    · intro y0
      unfold Ci.f
      repeat' first
      | (with_reducible exact ih0 _)
      | (with_reducible exact LeO.refl _)
      | (with_reducible exact LeO.none _)
      | (with_reducible refine LeO.ite ?_ ?_)
      | (with_reducible refine LeO.bind ?_ (fun _ => ?_))
      | exact ih0 _
      | exact LeO.none _
      | refine LeO.ite ?_ ?_
      | refine LeO.bind ?_ (fun _ => ?_)
theorem Ci.mono : ∀ a0 k, LeO (Ci.f k a0) (Ci.f (k + 1) a0) := by
  intro a0 k
  have ih0 := Ci.Ed k
  exact ih0 a0
def Ci.T5 : Bool × List (List Nat × List Nat) := (true, [([], []), ([0], [0]), ([1], [1]), ([], []), ([3], [3]), ([], []), ([5], [5]), ([6], [6]), ([4, 7], [4, 7]), ([2, 8], [2, 8]), ([9, 2, 0, 1, 2, 3, 4, 5, 6, 7, 8, 9], [9])])
def Ci.B5 : List Nat := [0, 1, 3, 0, 8, 0, 32, 96, 248, 511, 1023]
theorem Ci.tab5 : rtab .any (opsOf Tryd.f39 5) = Ci.T5 := by kernel_rfl
theorem Ci.bits5 : Hm Ci.T5.2 Ci.B5 = true := by kernel_rfl
set_option maxHeartbeats 8000000 in
set_option maxRecDepth 100000 in
theorem Ci.calls (k : Nat) : ∀ (a0 : Int) (r : ByteArray) (w : World) (h : Ci.f k a0 = some r),
    Calls Tryd.prog 39 #[.int .i64 a0] w fun e w' => e = .returned (.string r) ∧ Below w.heap.size w w' := by
  induction k using Nat.strongRecOn with
  | _ k ih =>
  intro a0 r w h
  cases k with
  | zero => exact absurd h (by simp [Ci.f])
  | succ k =>
  simp only [Ci.f] at h
  have HB := Ac.mk (Below.refl w.heap.size w)
  have H : (if a0 < 0 then ((Ci.f k (wrap64 (-a0))).bind fun t119 => (if 1 + t119.size ≤ 9223372036854775807 then (some ((⟨#[45]⟩ : ByteArray) ++ t119)) else (none))) else (if a0 < 10 then (if 0 ≤ a0 then (if a0 ≤ (wrap64 (a0 + 1)) then (if (wrap64 (a0 + 1)) ≤ 10 then (some ((⟨#[48, 49, 50, 51, 52, 53, 54, 55, 56, 57]⟩ : ByteArray).extract (a0 : Int).toNat ((wrap64 (a0 + 1)) : Int).toNat)) else (none)) else (none)) else (none)) else ((Ci.f k (wrap64 (Int.tdiv a0 10))).bind fun t120 => (if 0 ≤ (Int.tmod a0 10) then (if (Int.tmod a0 10) ≤ (wrap64 ((Int.tmod a0 10) + 1)) then (if (wrap64 ((Int.tmod a0 10) + 1)) ≤ 10 then (if t120.size + ((⟨#[48, 49, 50, 51, 52, 53, 54, 55, 56, 57]⟩ : ByteArray).extract ((Int.tmod a0 10) : Int).toNat ((wrap64 ((Int.tmod a0 10) + 1)) : Int).toNat).size ≤ 9223372036854775807 then (some (t120 ++ ((⟨#[48, 49, 50, 51, 52, 53, 54, 55, 56, 57]⟩ : ByteArray).extract ((Int.tmod a0 10) : Int).toNat ((wrap64 ((Int.tmod a0 10) + 1)) : Int).toNat))) else (none)) else (none)) else (none)) else (none))))) = some r := h
  clear h
  by_cases c2 : a0 < 0
  · rw [if_pos c2] at H
    have c2b0 : decide (a0 < 0) = true := decide_eq_true c2
    clear c2
    replace H := Option.bind_eq_some_iff.mp H
    obtain ⟨t119, A30, H⟩ := H
    replace H : (if 1 + t119.size ≤ 9223372036854775807 then (some ((⟨#[45]⟩ : ByteArray) ++ t119)) else (none)) = some r := H
    have A3 := Ac.mk A30
    clear A30
    by_cases c4 : 1 + t119.size ≤ 9223372036854775807
    · rw [if_pos c4] at H
      have c4b0 := eq_true c4
      have c4b1 : decide (1 + t119.size ≤ 9223372036854775807) = true := decide_eq_true c4
      try have c4b2 : (9223372036854775807 < 1 + t119.size) = False := eq_false (Nat.not_lt.2 c4)
      obtain rfl := Option.some.inj H
      go_enter Tryd.func39, Tryd.ntmps39
      go_wp2_with (first | ((with_reducible refine Aw (f := 39) rfl ?_); refine Bj (some 7) rfl rfl Tryd.func39 (by kernel_rfl) rfl #[.int .i64 (wrap64 (-a0))] rfl Yb_ ?_; (with_reducible refine (ih k (by omega) (wrap64 (-a0)) t119 _ A3.out).mono ?_); rintro e w5 ⟨rfl, hb⟩; refine ⟨_, rfl, ?_⟩; have n0_ := Ac.mk (Au Ya_ hb); clear HB; have HB := n0_; clear n0_; (try clear hb); (try clear hb2); (try clear hk); (try clear hi)))
      go_ret
      exact ⟨by first | rfl | (simp [Aq, Ar] <;> rfl) | (simp [*, Aq, Ar] <;> rfl), by repeat (first | (with_reducible first | exact HB.out | apply Ae | apply Aa | apply Ad) | exact HB.out)⟩
    · rw [if_neg c4] at H
      exact absurd H (by simp)
  · rw [if_neg c2] at H
    have c2b0 : decide (a0 < 0) = false := decide_eq_false c2
    clear c2
    by_cases c6 : a0 < 10
    · rw [if_pos c6] at H
      have c6b0 : decide (a0 < 10) = true := decide_eq_true c6
      clear c6
      by_cases c7 : 0 ≤ a0
      · rw [if_pos c7] at H
        have c7b0 := eq_true c7
        have c7b1 : decide (0 ≤ a0) = true := decide_eq_true c7
        clear c7
        by_cases c8 : a0 ≤ (wrap64 (a0 + 1))
        · rw [if_pos c8] at H
          have c8b0 := eq_true c8
          have c8b1 : decide (a0 ≤ (wrap64 (a0 + 1))) = true := decide_eq_true c8
          by_cases c9 : (wrap64 (a0 + 1)) ≤ 10
          · rw [if_pos c9] at H
            have c9b0 := eq_true c9
            have c9b1 : decide ((wrap64 (a0 + 1)) ≤ 10) = true := decide_eq_true c9
            obtain rfl := Option.some.inj H
            go_enter Tryd.func39, Tryd.ntmps39
            go_wp2
            go_ret
            exact ⟨by first | rfl | (simp [Aq, Ar] <;> rfl) | (simp [*, Aq, Ar] <;> rfl), by repeat (first | (with_reducible first | exact HB.out | apply Ae | apply Aa | apply Ad) | exact HB.out)⟩
          · rw [if_neg c9] at H
            exact absurd H (by simp)
        · rw [if_neg c8] at H
          exact absurd H (by simp)
      · rw [if_neg c7] at H
        exact absurd H (by simp)
    · rw [if_neg c6] at H
      have c6b0 : decide (a0 < 10) = false := decide_eq_false c6
      clear c6
      replace H := Option.bind_eq_some_iff.mp H
      obtain ⟨t120, A100, H⟩ := H
      replace H : (if 0 ≤ (Int.tmod a0 10) then (if (Int.tmod a0 10) ≤ (wrap64 ((Int.tmod a0 10) + 1)) then (if (wrap64 ((Int.tmod a0 10) + 1)) ≤ 10 then (if t120.size + ((⟨#[48, 49, 50, 51, 52, 53, 54, 55, 56, 57]⟩ : ByteArray).extract ((Int.tmod a0 10) : Int).toNat ((wrap64 ((Int.tmod a0 10) + 1)) : Int).toNat).size ≤ 9223372036854775807 then (some (t120 ++ ((⟨#[48, 49, 50, 51, 52, 53, 54, 55, 56, 57]⟩ : ByteArray).extract ((Int.tmod a0 10) : Int).toNat ((wrap64 ((Int.tmod a0 10) + 1)) : Int).toNat))) else (none)) else (none)) else (none)) else (none)) = some r := H
      have A10 := Ac.mk A100
      clear A100
      obtain ⟨ji11, hji11⟩ : ∃ j_ : Int, (Int.tmod a0 10) = j_ := ⟨_, rfl⟩
      replace H : (if 0 ≤ (ji11) then (if (ji11) ≤ (wrap64 ((ji11) + 1)) then (if (wrap64 ((ji11) + 1)) ≤ 10 then (if t120.size + ((⟨#[48, 49, 50, 51, 52, 53, 54, 55, 56, 57]⟩ : ByteArray).extract ((ji11) : Int).toNat ((wrap64 ((ji11) + 1)) : Int).toNat).size ≤ 9223372036854775807 then (some (t120 ++ ((⟨#[48, 49, 50, 51, 52, 53, 54, 55, 56, 57]⟩ : ByteArray).extract ((ji11) : Int).toNat ((wrap64 ((ji11) + 1)) : Int).toNat))) else (none)) else (none)) else (none)) else (none)) = some r := by first | (rw [hji11] at H; exact H) | (simp only [hji11] at H ⊢; exact H)
      (try rw [hji11] at A10)
      by_cases c12 : 0 ≤ (ji11)
      · rw [if_pos c12] at H
        have c12b0 := eq_true c12
        have c12b1 : decide (0 ≤ (ji11)) = true := decide_eq_true c12
        clear c12
        by_cases c13 : (ji11) ≤ (wrap64 ((ji11) + 1))
        · rw [if_pos c13] at H
          have c13b0 := eq_true c13
          have c13b1 : decide ((ji11) ≤ (wrap64 ((ji11) + 1))) = true := decide_eq_true c13
          by_cases c14 : (wrap64 ((ji11) + 1)) ≤ 10
          · rw [if_pos c14] at H
            have c14b0 := eq_true c14
            have c14b1 : decide ((wrap64 ((ji11) + 1)) ≤ 10) = true := decide_eq_true c14
            by_cases c15 : t120.size + ((⟨#[48, 49, 50, 51, 52, 53, 54, 55, 56, 57]⟩ : ByteArray).extract ((ji11) : Int).toNat ((wrap64 ((ji11) + 1)) : Int).toNat).size ≤ 9223372036854775807
            · rw [if_pos c15] at H
              have c15b0 := eq_true c15
              have c15b1 : decide (t120.size + ((⟨#[48, 49, 50, 51, 52, 53, 54, 55, 56, 57]⟩ : ByteArray).extract ((ji11) : Int).toNat ((wrap64 ((ji11) + 1)) : Int).toNat).size ≤ 9223372036854775807) = true := decide_eq_true c15
              try have c15b2 : (9223372036854775807 < t120.size + ((⟨#[48, 49, 50, 51, 52, 53, 54, 55, 56, 57]⟩ : ByteArray).extract ((ji11) : Int).toNat ((wrap64 ((ji11) + 1)) : Int).toNat).size) = False := eq_false (Nat.not_lt.2 c15)
              have c15z0 : (⟨#[48, 49, 50, 51, 52, 53, 54, 55, 56, 57]⟩ : ByteArray).size = 10 := rfl
              have c15b3 := c15
              try simp only [ByteArray.size_extract, ByteArray.size_append, c15z0] at c15b3
              have c15b4 := eq_false (Nat.not_lt.2 c15b3)
              obtain rfl := Option.some.inj H
              go_enter Tryd.func39, Tryd.ntmps39
              try go_wp2
              have n0_ := Ac.mk (Ad HB.out)
              clear HB
              have HB := n0_
              clear n0_
              refine G7 (n := 11) (S := fun w' => True) (ds := []) #[false, false, false, false, false, false, false, false, false, false, false] (by kernel_rfl) rfl rfl trivial (fun hHeld => ?_); refine Gf Ci.tab5 Ci.bits5 (fun HT_ HW_ => ?_)
              generalize w.drew = w16 at HB hHeld ⊢
              refine Du (i := 0) (N := some 15) (v := ?_) (a' := ?_) #[true, false, false, false, false, false, false, false, false, false, false] rfl rfl (Di HT_.out (by kernel_rfl)) (fun _ _ _ h => h) (Or.inl ⟨by rfl, ?_⟩) ?_ ?_
              rotate_left
              · intro w'
                go_simp
                first | with_reducible rfl | (rw [if_neg (by omega)]; try with_reducible rfl)
              rotate_left
              · simp only [Act.put, List.setIfInBounds_toArray, List.set_cons_zero, List.set_cons_succ, Bz, Cb]
                rfl
              refine Du (i := 1) (N := some 16) (v := ?_) (a' := ?_) #[true, true, false, false, false, false, false, false, false, false, false] rfl rfl (Di HT_.out (by kernel_rfl)) (fun _ _ _ h => h) (Or.inl ⟨by rfl, ?_⟩) ?_ ?_
              rotate_left
              · intro w'
                go_simp
                first | with_reducible rfl | (rw [if_neg (by omega)]; try with_reducible rfl)
              rotate_left
              · simp only [Act.put, List.setIfInBounds_toArray, List.set_cons_zero, List.set_cons_succ, Bz, Cb]
                rfl
              refine Du (i := 3) (N := some 18) (v := ?_) (a' := ?_) #[true, true, false, true, false, false, false, false, false, false, false] rfl rfl (Di HT_.out (by kernel_rfl)) (fun _ _ _ h => h) (Or.inl ⟨by rfl, ?_⟩) ?_ ?_
              rotate_left
              · intro w'
                go_simp
                first | with_reducible rfl | (rw [if_neg (by omega)]; try with_reducible rfl)
              rotate_left
              · simp only [Act.put, List.setIfInBounds_toArray, List.set_cons_zero, List.set_cons_succ, Bz, Cb]
                rfl
              refine Du (i := 4) (N := some 19) (v := ?_) (a' := ?_) #[true, true, false, true, true, false, false, false, false, false, false] rfl rfl (Di HT_.out (by kernel_rfl)) (fun _ _ _ h => h) (Or.inl ⟨by rfl, ?_⟩) ?_ ?_
              rotate_left
              · intro w'
                go_simp
                first | with_reducible rfl | (rw [if_neg (by omega)]; try with_reducible rfl)
              rotate_left
              · simp only [Act.put, List.setIfInBounds_toArray, List.set_cons_zero, List.set_cons_succ, Bz, Cb]
                rfl
              refine Du (i := 5) (N := some 20) (v := ?_) (a' := ?_) #[true, true, false, true, true, true, false, false, false, false, false] rfl rfl (Di HT_.out (by kernel_rfl)) (fun _ _ _ h => h) (Or.inl ⟨by rfl, ?_⟩) ?_ ?_
              rotate_left
              · intro w'
                go_simp
                first | with_reducible rfl | (rw [if_neg (by omega)]; try with_reducible rfl)
              rotate_left
              · simp only [Act.put, List.setIfInBounds_toArray, List.set_cons_zero, List.set_cons_succ, Bz, Cb]
                rfl
              refine Du (i := 6) (N := some 21) (v := ?_) (a' := ?_) #[true, true, false, true, true, true, true, false, false, false, false] rfl rfl (Di HT_.out (by kernel_rfl)) (fun _ _ _ h => h) (Or.inl ⟨by rfl, ?_⟩) ?_ ?_
              rotate_left
              · intro w'
                go_simp
                first | with_reducible rfl | (rw [if_neg (by omega)]; try with_reducible rfl)
              rotate_left
              · simp only [Act.put, List.setIfInBounds_toArray, List.set_cons_zero, List.set_cons_succ, Bz, Cb]
                rfl
              refine Du (i := 7) (N := some 22) (v := ?_) (a' := ?_) #[true, true, false, true, true, true, true, true, false, false, false] rfl rfl (Di HT_.out (by kernel_rfl)) (fun _ _ _ h => h) (Or.inl ⟨by rfl, ?_⟩) ?_ ?_
              rotate_left
              · intro w'
                go_simp
                first | with_reducible rfl | (rw [if_neg (by omega)]; try with_reducible rfl)
              rotate_left
              · simp only [Act.put, List.setIfInBounds_toArray, List.set_cons_zero, List.set_cons_succ, Bz, Cb]
                rfl
              refine Du (i := 8) (N := some 23) (v := ?_) (a' := ?_) #[true, true, false, true, true, true, true, true, true, false, false] rfl rfl (Di HT_.out (by kernel_rfl)) (fun _ _ _ h => h) (Or.inl ⟨by rfl, ?_⟩) ?_ ?_
              rotate_left
              · intro w'
                go_simp
                first | with_reducible rfl | (rw [if_neg (by omega)]; try with_reducible rfl)
              rotate_left
              · simp only [Act.put, List.setIfInBounds_toArray, List.set_cons_zero, List.set_cons_succ, Bz, Cb]
                rfl
              refine one_ (i := 2) (N := some 17) #[true, true, true, true, true, true, true, true, true, false, false] rfl rfl (Gg HT_.out (by kernel_rfl)) (by decide) (fun K hK => ?_)
              refine Gn Tryd.func39 (by kernel_rfl) rfl #[.int .i64 (wrap64 (Int.tdiv a0 10))] (by rfl) rfl rfl Yb_ ?_
              with_reducible refine (ih k (by omega) (wrap64 (Int.tdiv a0 10)) t120 _ A10.out).mono ?_
              rintro e w17 ⟨rfl, hb⟩
              refine ⟨_, rfl, ?_⟩
              have n0_ := Ac.mk (Au Ya_ hb)
              clear HB
              have HB := n0_
              clear n0_
              (try clear hb)
              (try clear hb2)
              (try clear hk)
              (try clear hi)
              refine hK.out _ _ trivial (fun hHeld => ?_)
              clear hK K
              refine Gp (a' := ?_) ?_ ?_
              rotate_left
              · show Act.put _ (some 17) _ = _
                simp only [Act.put, List.setIfInBounds_toArray, List.set_cons_zero, List.set_cons_succ, Bz, Cb]
                rfl
              refine Du (i := 9) (N := some 24) (v := ?_) (a' := ?_) #[true, true, true, true, true, true, true, true, true, true, false] rfl rfl (Di HT_.out (by kernel_rfl)) (fun _ _ _ h => h) (Or.inl ⟨by rfl, ?_⟩) ?_ ?_
              rotate_left
              · intro w'
                go_simp
                first | with_reducible rfl | (rw [if_neg (by omega)]; try with_reducible rfl)
              rotate_left
              · simp only [Act.put, List.setIfInBounds_toArray, List.set_cons_zero, List.set_cons_succ, Bz, Cb]
                rfl
              refine Du (i := 10) (N := some 2) (v := ?_) (a' := ?_) #[true, true, true, true, true, true, true, true, true, true, true] rfl rfl (Di HT_.out (by kernel_rfl)) (fun _ _ _ h => h) (Or.inl ⟨by rfl, ?_⟩) ?_ ?_
              rotate_left
              · intro w'
                go_simp
                first | with_reducible rfl | (rw [if_neg (by omega)]; try with_reducible rfl)
              rotate_left
              · simp only [Act.put, List.setIfInBounds_toArray, List.set_cons_zero, List.set_cons_succ, Bz, Cb]
                rfl
              refine done_ (Gv HT_.out (by kernel_rfl)) ?_
              try go_wp2
              go_ret
              exact ⟨by first | rfl | (simp [Aq, Ar] <;> rfl) | (simp only [← hji11]; first | rfl | (simp [Aq, Ar] <;> rfl)) | (simp [*, Aq, Ar] <;> rfl), by repeat (first | (with_reducible first | exact HB.out | apply Ae | apply Aa | apply Ad) | exact HB.out)⟩
            · rw [if_neg c15] at H
              exact absurd H (by simp)
          · rw [if_neg c14] at H
            exact absurd H (by simp)
        · rw [if_neg c13] at H
          exact absurd H (by simp)
      · rw [if_neg c12] at H
        exact absurd H (by simp)
end Go.Proofs.YtghnljoaklmakaaDoor.X

namespace Go.Proofs.YtghnljoaklmakaaDoor.X
open Go.RowKit Go.Proofs.YtghnljoaklmakaaDoorW.PrintWords Go.Proofs.YtghnljoaklmakaaDoorW.PrintLast Go.Proofs.YtghnljoaklmakaaDoorW.PrintMore
attribute [local go_sem] Ea Eb Eh Eg Dz D5 Ec D9
open Go.Proofs.YtghnljoaklmakaaDoorG
def Fq.f (k : Nat) (a0 : Int) : Option (ByteArray) := if a0 = 1 then (some (⟨#[49, 32, 100, 97, 121]⟩ : ByteArray)) else ((Ci.f k a0).bind fun t121 => (if t121.size + 5 ≤ 9223372036854775807 then (some (t121 ++ (⟨#[32, 100, 97, 121, 115]⟩ : ByteArray))) else (none)))
theorem Fq.mono : ∀ a0 k, LeO (Fq.f k a0) (Fq.f (k + 1) a0) := by
  intro a0 k
  unfold Fq.f
  repeat' first
      | (with_reducible exact Ci.mono _ _)
      | (with_reducible exact LeO.refl _)
      | (with_reducible exact LeO.none _)
      | (with_reducible refine LeO.ite ?_ ?_)
      | (with_reducible refine LeO.bind ?_ (fun _ => ?_))
      | exact Ci.mono _ _
      | exact LeO.none _
      | refine LeO.ite ?_ ?_
      | refine LeO.bind ?_ (fun _ => ?_)
set_option maxHeartbeats 8000000 in
set_option maxRecDepth 100000 in
theorem Fq.calls (k : Nat) (a0 : Int) (r : ByteArray) (w : World) (h : Fq.f k a0 = some r) :
    Calls Tryd.prog 40 #[.int .i64 a0] w fun e w' => e = .returned (.string r) ∧ Below w.heap.size w w' := by
  have HB := Ac.mk (Below.refl w.heap.size w)
  have H : (if a0 = 1 then (some (⟨#[49, 32, 100, 97, 121]⟩ : ByteArray)) else ((Ci.f k a0).bind fun t121 => (if t121.size + 5 ≤ 9223372036854775807 then (some (t121 ++ (⟨#[32, 100, 97, 121, 115]⟩ : ByteArray))) else (none)))) = some r := h
  clear h
  by_cases c2 : a0 = 1
  · rw [if_pos c2] at H
    have c2b0 : (a0 == 1) = true := beq_iff_eq.mpr c2
    have c2b1 : (a0 != 1) = false := bne_eq_false_iff_eq.mpr c2
    clear c2
    obtain rfl := Option.some.inj H
    go_enter Tryd.func40, Tryd.ntmps40
    go_wp2
    go_ret
    exact ⟨by first | rfl | (simp [Aq, Ar] <;> rfl) | (simp [*, Aq, Ar] <;> rfl), by repeat (first | (with_reducible first | exact HB.out | apply Ae | apply Aa | apply Ad) | exact HB.out)⟩
  · rw [if_neg c2] at H
    have c2b0 : (a0 == 1) = false := beq_eq_false_iff_ne.mpr c2
    have c2b1 : (a0 != 1) = true := bne_iff_ne.mpr c2
    replace H := Option.bind_eq_some_iff.mp H
    obtain ⟨t121, A30, H⟩ := H
    replace H : (if t121.size + 5 ≤ 9223372036854775807 then (some (t121 ++ (⟨#[32, 100, 97, 121, 115]⟩ : ByteArray))) else (none)) = some r := H
    have A3 := Ac.mk A30
    clear A30
    by_cases c4 : t121.size + 5 ≤ 9223372036854775807
    · rw [if_pos c4] at H
      have c4b0 := eq_true c4
      have c4b1 : decide (t121.size + 5 ≤ 9223372036854775807) = true := decide_eq_true c4
      try have c4b2 : (9223372036854775807 < t121.size + 5) = False := eq_false (Nat.not_lt.2 c4)
      obtain rfl := Option.some.inj H
      go_enter Tryd.func40, Tryd.ntmps40
      go_wp2_with (first | ((with_reducible refine Aw (f := 39) rfl ?_); refine Bj (some 6) rfl rfl Tryd.func39 (by kernel_rfl) rfl #[.int .i64 a0] rfl Yb_ ?_; (with_reducible refine (Ci.calls k a0 t121 _ A3.out).mono ?_); rintro e w5 ⟨rfl, hb⟩; refine ⟨_, rfl, ?_⟩; have n0_ := Ac.mk (Au Ya_ hb); clear HB; have HB := n0_; clear n0_; (try clear hb); (try clear hb2); (try clear hk); (try clear hi)))
      go_ret
      exact ⟨by first | rfl | (simp [Aq, Ar] <;> rfl) | (simp [*, Aq, Ar] <;> rfl), by repeat (first | (with_reducible first | exact HB.out | apply Ae | apply Aa | apply Ad) | exact HB.out)⟩
    · rw [if_neg c4] at H
      exact absurd H (by simp)
end Go.Proofs.YtghnljoaklmakaaDoor.X

namespace Go.Proofs.YtghnljoaklmakaaDoor.X
open Go.RowKit Go.Proofs.YtghnljoaklmakaaDoorW.PrintWords Go.Proofs.YtghnljoaklmakaaDoorW.PrintLast Go.Proofs.YtghnljoaklmakaaDoorW.PrintMore
attribute [local go_sem] Ea Eb Eh Eg Dz D5 Ec D9
open Go.Proofs.YtghnljoaklmakaaDoorG
def Dn.f (k : Nat) (a0_0 : Int) (a0_1 : ByteArray) (a0_2 : Int) (a0_3 : Int) : Option (ByteArray) := if 10 + a0_1.size ≤ 9223372036854775807 then (if a0_0 = 1 then (if ((⟨#[67, 111, 110, 116, 97, 105, 110, 101, 114, 32]⟩ : ByteArray) ++ a0_1).size + 22 ≤ 9223372036854775807 then ((Ci.f k a0_2).bind fun t123 => (if (((⟨#[67, 111, 110, 116, 97, 105, 110, 101, 114, 32]⟩ : ByteArray) ++ a0_1) ++ (⟨#[32, 104, 97, 115, 32, 97, 114, 114, 105, 118, 101, 100, 32, 105, 110, 32, 115, 116, 97, 99, 107, 32]⟩ : ByteArray)).size + t123.size ≤ 9223372036854775807 then (if ((((⟨#[67, 111, 110, 116, 97, 105, 110, 101, 114, 32]⟩ : ByteArray) ++ a0_1) ++ (⟨#[32, 104, 97, 115, 32, 97, 114, 114, 105, 118, 101, 100, 32, 105, 110, 32, 115, 116, 97, 99, 107, 32]⟩ : ByteArray)) ++ t123).size + 1 ≤ 9223372036854775807 then (some (((((⟨#[67, 111, 110, 116, 97, 105, 110, 101, 114, 32]⟩ : ByteArray) ++ a0_1) ++ (⟨#[32, 104, 97, 115, 32, 97, 114, 114, 105, 118, 101, 100, 32, 105, 110, 32, 115, 116, 97, 99, 107, 32]⟩ : ByteArray)) ++ t123) ++ (⟨#[46]⟩ : ByteArray))) else (none)) else (none))) else (none)) else (if a0_0 = 2 then (if ((⟨#[67, 111, 110, 116, 97, 105, 110, 101, 114, 32]⟩ : ByteArray) ++ a0_1).size + 22 ≤ 9223372036854775807 then ((Ci.f k a0_2).bind fun t124 => (if (((⟨#[67, 111, 110, 116, 97, 105, 110, 101, 114, 32]⟩ : ByteArray) ++ a0_1) ++ (⟨#[32, 119, 97, 115, 32, 109, 111, 118, 101, 100, 32, 102, 114, 111, 109, 32, 115, 116, 97, 99, 107, 32]⟩ : ByteArray)).size + t124.size ≤ 9223372036854775807 then (if ((((⟨#[67, 111, 110, 116, 97, 105, 110, 101, 114, 32]⟩ : ByteArray) ++ a0_1) ++ (⟨#[32, 119, 97, 115, 32, 109, 111, 118, 101, 100, 32, 102, 114, 111, 109, 32, 115, 116, 97, 99, 107, 32]⟩ : ByteArray)) ++ t124).size + 10 ≤ 9223372036854775807 then ((Ci.f k a0_3).bind fun t125 => (if (((((⟨#[67, 111, 110, 116, 97, 105, 110, 101, 114, 32]⟩ : ByteArray) ++ a0_1) ++ (⟨#[32, 119, 97, 115, 32, 109, 111, 118, 101, 100, 32, 102, 114, 111, 109, 32, 115, 116, 97, 99, 107, 32]⟩ : ByteArray)) ++ t124) ++ (⟨#[32, 116, 111, 32, 115, 116, 97, 99, 107, 32]⟩ : ByteArray)).size + t125.size ≤ 9223372036854775807 then (if ((((((⟨#[67, 111, 110, 116, 97, 105, 110, 101, 114, 32]⟩ : ByteArray) ++ a0_1) ++ (⟨#[32, 119, 97, 115, 32, 109, 111, 118, 101, 100, 32, 102, 114, 111, 109, 32, 115, 116, 97, 99, 107, 32]⟩ : ByteArray)) ++ t124) ++ (⟨#[32, 116, 111, 32, 115, 116, 97, 99, 107, 32]⟩ : ByteArray)) ++ t125).size + 1 ≤ 9223372036854775807 then (some (((((((⟨#[67, 111, 110, 116, 97, 105, 110, 101, 114, 32]⟩ : ByteArray) ++ a0_1) ++ (⟨#[32, 119, 97, 115, 32, 109, 111, 118, 101, 100, 32, 102, 114, 111, 109, 32, 115, 116, 97, 99, 107, 32]⟩ : ByteArray)) ++ t124) ++ (⟨#[32, 116, 111, 32, 115, 116, 97, 99, 107, 32]⟩ : ByteArray)) ++ t125) ++ (⟨#[46]⟩ : ByteArray))) else (none)) else (none))) else (none)) else (none))) else (none)) else (if a0_0 = 3 then ((Cc.f k a0_2).bind fun bt126 => (if ((⟨#[67, 111, 110, 116, 97, 105, 110, 101, 114, 32]⟩ : ByteArray) ++ a0_1).size + 13 ≤ 9223372036854775807 then (if (((⟨#[67, 111, 110, 116, 97, 105, 110, 101, 114, 32]⟩ : ByteArray) ++ a0_1) ++ (⟨#[32, 105, 115, 32, 104, 101, 108, 100, 32, 102, 111, 114, 32]⟩ : ByteArray)).size + bt126.1.size ≤ 9223372036854775807 then (if ((((⟨#[67, 111, 110, 116, 97, 105, 110, 101, 114, 32]⟩ : ByteArray) ++ a0_1) ++ (⟨#[32, 105, 115, 32, 104, 101, 108, 100, 32, 102, 111, 114, 32]⟩ : ByteArray)) ++ bt126.1).size + 1 ≤ 9223372036854775807 then (some (((((⟨#[67, 111, 110, 116, 97, 105, 110, 101, 114, 32]⟩ : ByteArray) ++ a0_1) ++ (⟨#[32, 105, 115, 32, 104, 101, 108, 100, 32, 102, 111, 114, 32]⟩ : ByteArray)) ++ bt126.1) ++ (⟨#[46]⟩ : ByteArray))) else (none)) else (none)) else (none))) else (if a0_0 = 4 then (if ((⟨#[67, 111, 110, 116, 97, 105, 110, 101, 114, 32]⟩ : ByteArray) ++ a0_1).size + 29 ≤ 9223372036854775807 then ((Ci.f k a0_2).bind fun t128 => (if (((⟨#[67, 111, 110, 116, 97, 105, 110, 101, 114, 32]⟩ : ByteArray) ++ a0_1) ++ (⟨#[32, 105, 115, 32, 114, 101, 97, 100, 121, 32, 102, 111, 114, 32, 112, 105, 99, 107, 117, 112, 32, 105, 110, 32, 115, 108, 111, 116, 32]⟩ : ByteArray)).size + t128.size ≤ 9223372036854775807 then (if ((((⟨#[67, 111, 110, 116, 97, 105, 110, 101, 114, 32]⟩ : ByteArray) ++ a0_1) ++ (⟨#[32, 105, 115, 32, 114, 101, 97, 100, 121, 32, 102, 111, 114, 32, 112, 105, 99, 107, 117, 112, 32, 105, 110, 32, 115, 108, 111, 116, 32]⟩ : ByteArray)) ++ t128).size + 1 ≤ 9223372036854775807 then (some (((((⟨#[67, 111, 110, 116, 97, 105, 110, 101, 114, 32]⟩ : ByteArray) ++ a0_1) ++ (⟨#[32, 105, 115, 32, 114, 101, 97, 100, 121, 32, 102, 111, 114, 32, 112, 105, 99, 107, 117, 112, 32, 105, 110, 32, 115, 108, 111, 116, 32]⟩ : ByteArray)) ++ t128) ++ (⟨#[46]⟩ : ByteArray))) else (none)) else (none))) else (none)) else (if ((⟨#[67, 111, 110, 116, 97, 105, 110, 101, 114, 32]⟩ : ByteArray) ++ a0_1).size + 6 ≤ 9223372036854775807 then ((Ci.f k a0_2).bind fun t129 => (if (((⟨#[67, 111, 110, 116, 97, 105, 110, 101, 114, 32]⟩ : ByteArray) ++ a0_1) ++ (⟨#[32, 111, 119, 101, 115, 32]⟩ : ByteArray)).size + t129.size ≤ 9223372036854775807 then (if ((((⟨#[67, 111, 110, 116, 97, 105, 110, 101, 114, 32]⟩ : ByteArray) ++ a0_1) ++ (⟨#[32, 111, 119, 101, 115, 32]⟩ : ByteArray)) ++ t129).size + 5 ≤ 9223372036854775807 then ((Fq.f k a0_3).bind fun t130 => (if (((((⟨#[67, 111, 110, 116, 97, 105, 110, 101, 114, 32]⟩ : ByteArray) ++ a0_1) ++ (⟨#[32, 111, 119, 101, 115, 32]⟩ : ByteArray)) ++ t129) ++ (⟨#[32, 102, 111, 114, 32]⟩ : ByteArray)).size + t130.size ≤ 9223372036854775807 then (if ((((((⟨#[67, 111, 110, 116, 97, 105, 110, 101, 114, 32]⟩ : ByteArray) ++ a0_1) ++ (⟨#[32, 111, 119, 101, 115, 32]⟩ : ByteArray)) ++ t129) ++ (⟨#[32, 102, 111, 114, 32]⟩ : ByteArray)) ++ t130).size + 1 ≤ 9223372036854775807 then (some (((((((⟨#[67, 111, 110, 116, 97, 105, 110, 101, 114, 32]⟩ : ByteArray) ++ a0_1) ++ (⟨#[32, 111, 119, 101, 115, 32]⟩ : ByteArray)) ++ t129) ++ (⟨#[32, 102, 111, 114, 32]⟩ : ByteArray)) ++ t130) ++ (⟨#[46]⟩ : ByteArray))) else (none)) else (none))) else (none)) else (none))) else (none)))))) else (none)
theorem Dn.mono : ∀ a0 a1 a2 a3 k, LeO (Dn.f k a0 a1 a2 a3) (Dn.f (k + 1) a0 a1 a2 a3) := by
  intro a0 a1 a2 a3 k
  unfold Dn.f
  repeat' first
      | (with_reducible exact Cc.mono _ _)
      | (with_reducible exact Ci.mono _ _)
      | (with_reducible exact Fq.mono _ _)
      | (with_reducible exact LeO.refl _)
      | (with_reducible exact LeO.none _)
      | (with_reducible refine LeO.ite ?_ ?_)
      | (with_reducible refine LeO.bind ?_ (fun _ => ?_))
      | exact Cc.mono _ _
      | exact Ci.mono _ _
      | exact Fq.mono _ _
      | exact LeO.none _
      | refine LeO.ite ?_ ?_
      | refine LeO.bind ?_ (fun _ => ?_)
def Dn.T6 : Bool × List (List Nat × List Nat) := (true, [([], []), ([0], [0]), ([], []), ([2], [2]), ([3], [3]), ([1, 4], [1, 4]), ([5], [5]), ([], []), ([7], [7]), ([8, 4], [8]), ([6, 9], [6, 9]), ([10], [10]), ([11, 9, 0, 1, 2, 3, 4, 5, 6, 7, 8, 9, 10, 11], [11])])
def Dn.B6 : List Nat := [0, 1, 0, 4, 12, 31, 63, 0, 128, 412, 1023, 2047, 4095]
theorem Dn.tab6 : rtab .any (opsOf Tryd.f24 6) = Dn.T6 := by kernel_rfl
theorem Dn.bits6 : Hm Dn.T6.2 Dn.B6 = true := by kernel_rfl
def Dn.T12 : Bool × List (List Nat × List Nat) := (true, [([], []), ([0], [0]), ([], []), ([2], [2]), ([3], [3]), ([1, 4], [1, 4]), ([5], [5]), ([], []), ([7], [7]), ([8, 4], [8]), ([6, 9], [6, 9]), ([10], [10]), ([11, 9, 0, 1, 2, 3, 4, 5, 6, 7, 8, 9, 10, 11], [11])])
def Dn.B12 : List Nat := [0, 1, 0, 4, 12, 31, 63, 0, 128, 412, 1023, 2047, 4095]
theorem Dn.tab12 : rtab .any (opsOf Tryd.f24 12) = Dn.T12 := by kernel_rfl
theorem Dn.bits12 : Hm Dn.T12.2 Dn.B12 = true := by kernel_rfl
set_option maxHeartbeats 8000000 in
set_option maxRecDepth 100000 in
theorem Dn.calls (k : Nat) (a0_0 : Int) (a0_1 : ByteArray) (a0_2 : Int) (a0_3 : Int) (r : ByteArray) (w : World) (h : Dn.f k a0_0 a0_1 a0_2 a0_3 = some r) :
    Calls Tryd.prog 24 #[.agg #[.int .i64 a0_0, .string a0_1, .int .i64 a0_2, .int .i64 a0_3]] w fun e w' => e = .returned (.string r) ∧ Below w.heap.size w w' := by
  have hu27 := Tryd.underlying27
  have HB := Ac.mk (Below.refl w.heap.size w)
  have H : (if 10 + a0_1.size ≤ 9223372036854775807 then (if a0_0 = 1 then (if ((⟨#[67, 111, 110, 116, 97, 105, 110, 101, 114, 32]⟩ : ByteArray) ++ a0_1).size + 22 ≤ 9223372036854775807 then ((Ci.f k a0_2).bind fun t123 => (if (((⟨#[67, 111, 110, 116, 97, 105, 110, 101, 114, 32]⟩ : ByteArray) ++ a0_1) ++ (⟨#[32, 104, 97, 115, 32, 97, 114, 114, 105, 118, 101, 100, 32, 105, 110, 32, 115, 116, 97, 99, 107, 32]⟩ : ByteArray)).size + t123.size ≤ 9223372036854775807 then (if ((((⟨#[67, 111, 110, 116, 97, 105, 110, 101, 114, 32]⟩ : ByteArray) ++ a0_1) ++ (⟨#[32, 104, 97, 115, 32, 97, 114, 114, 105, 118, 101, 100, 32, 105, 110, 32, 115, 116, 97, 99, 107, 32]⟩ : ByteArray)) ++ t123).size + 1 ≤ 9223372036854775807 then (some (((((⟨#[67, 111, 110, 116, 97, 105, 110, 101, 114, 32]⟩ : ByteArray) ++ a0_1) ++ (⟨#[32, 104, 97, 115, 32, 97, 114, 114, 105, 118, 101, 100, 32, 105, 110, 32, 115, 116, 97, 99, 107, 32]⟩ : ByteArray)) ++ t123) ++ (⟨#[46]⟩ : ByteArray))) else (none)) else (none))) else (none)) else (if a0_0 = 2 then (if ((⟨#[67, 111, 110, 116, 97, 105, 110, 101, 114, 32]⟩ : ByteArray) ++ a0_1).size + 22 ≤ 9223372036854775807 then ((Ci.f k a0_2).bind fun t124 => (if (((⟨#[67, 111, 110, 116, 97, 105, 110, 101, 114, 32]⟩ : ByteArray) ++ a0_1) ++ (⟨#[32, 119, 97, 115, 32, 109, 111, 118, 101, 100, 32, 102, 114, 111, 109, 32, 115, 116, 97, 99, 107, 32]⟩ : ByteArray)).size + t124.size ≤ 9223372036854775807 then (if ((((⟨#[67, 111, 110, 116, 97, 105, 110, 101, 114, 32]⟩ : ByteArray) ++ a0_1) ++ (⟨#[32, 119, 97, 115, 32, 109, 111, 118, 101, 100, 32, 102, 114, 111, 109, 32, 115, 116, 97, 99, 107, 32]⟩ : ByteArray)) ++ t124).size + 10 ≤ 9223372036854775807 then ((Ci.f k a0_3).bind fun t125 => (if (((((⟨#[67, 111, 110, 116, 97, 105, 110, 101, 114, 32]⟩ : ByteArray) ++ a0_1) ++ (⟨#[32, 119, 97, 115, 32, 109, 111, 118, 101, 100, 32, 102, 114, 111, 109, 32, 115, 116, 97, 99, 107, 32]⟩ : ByteArray)) ++ t124) ++ (⟨#[32, 116, 111, 32, 115, 116, 97, 99, 107, 32]⟩ : ByteArray)).size + t125.size ≤ 9223372036854775807 then (if ((((((⟨#[67, 111, 110, 116, 97, 105, 110, 101, 114, 32]⟩ : ByteArray) ++ a0_1) ++ (⟨#[32, 119, 97, 115, 32, 109, 111, 118, 101, 100, 32, 102, 114, 111, 109, 32, 115, 116, 97, 99, 107, 32]⟩ : ByteArray)) ++ t124) ++ (⟨#[32, 116, 111, 32, 115, 116, 97, 99, 107, 32]⟩ : ByteArray)) ++ t125).size + 1 ≤ 9223372036854775807 then (some (((((((⟨#[67, 111, 110, 116, 97, 105, 110, 101, 114, 32]⟩ : ByteArray) ++ a0_1) ++ (⟨#[32, 119, 97, 115, 32, 109, 111, 118, 101, 100, 32, 102, 114, 111, 109, 32, 115, 116, 97, 99, 107, 32]⟩ : ByteArray)) ++ t124) ++ (⟨#[32, 116, 111, 32, 115, 116, 97, 99, 107, 32]⟩ : ByteArray)) ++ t125) ++ (⟨#[46]⟩ : ByteArray))) else (none)) else (none))) else (none)) else (none))) else (none)) else (if a0_0 = 3 then ((Cc.f k a0_2).bind fun bt126 => (if ((⟨#[67, 111, 110, 116, 97, 105, 110, 101, 114, 32]⟩ : ByteArray) ++ a0_1).size + 13 ≤ 9223372036854775807 then (if (((⟨#[67, 111, 110, 116, 97, 105, 110, 101, 114, 32]⟩ : ByteArray) ++ a0_1) ++ (⟨#[32, 105, 115, 32, 104, 101, 108, 100, 32, 102, 111, 114, 32]⟩ : ByteArray)).size + bt126.1.size ≤ 9223372036854775807 then (if ((((⟨#[67, 111, 110, 116, 97, 105, 110, 101, 114, 32]⟩ : ByteArray) ++ a0_1) ++ (⟨#[32, 105, 115, 32, 104, 101, 108, 100, 32, 102, 111, 114, 32]⟩ : ByteArray)) ++ bt126.1).size + 1 ≤ 9223372036854775807 then (some (((((⟨#[67, 111, 110, 116, 97, 105, 110, 101, 114, 32]⟩ : ByteArray) ++ a0_1) ++ (⟨#[32, 105, 115, 32, 104, 101, 108, 100, 32, 102, 111, 114, 32]⟩ : ByteArray)) ++ bt126.1) ++ (⟨#[46]⟩ : ByteArray))) else (none)) else (none)) else (none))) else (if a0_0 = 4 then (if ((⟨#[67, 111, 110, 116, 97, 105, 110, 101, 114, 32]⟩ : ByteArray) ++ a0_1).size + 29 ≤ 9223372036854775807 then ((Ci.f k a0_2).bind fun t128 => (if (((⟨#[67, 111, 110, 116, 97, 105, 110, 101, 114, 32]⟩ : ByteArray) ++ a0_1) ++ (⟨#[32, 105, 115, 32, 114, 101, 97, 100, 121, 32, 102, 111, 114, 32, 112, 105, 99, 107, 117, 112, 32, 105, 110, 32, 115, 108, 111, 116, 32]⟩ : ByteArray)).size + t128.size ≤ 9223372036854775807 then (if ((((⟨#[67, 111, 110, 116, 97, 105, 110, 101, 114, 32]⟩ : ByteArray) ++ a0_1) ++ (⟨#[32, 105, 115, 32, 114, 101, 97, 100, 121, 32, 102, 111, 114, 32, 112, 105, 99, 107, 117, 112, 32, 105, 110, 32, 115, 108, 111, 116, 32]⟩ : ByteArray)) ++ t128).size + 1 ≤ 9223372036854775807 then (some (((((⟨#[67, 111, 110, 116, 97, 105, 110, 101, 114, 32]⟩ : ByteArray) ++ a0_1) ++ (⟨#[32, 105, 115, 32, 114, 101, 97, 100, 121, 32, 102, 111, 114, 32, 112, 105, 99, 107, 117, 112, 32, 105, 110, 32, 115, 108, 111, 116, 32]⟩ : ByteArray)) ++ t128) ++ (⟨#[46]⟩ : ByteArray))) else (none)) else (none))) else (none)) else (if ((⟨#[67, 111, 110, 116, 97, 105, 110, 101, 114, 32]⟩ : ByteArray) ++ a0_1).size + 6 ≤ 9223372036854775807 then ((Ci.f k a0_2).bind fun t129 => (if (((⟨#[67, 111, 110, 116, 97, 105, 110, 101, 114, 32]⟩ : ByteArray) ++ a0_1) ++ (⟨#[32, 111, 119, 101, 115, 32]⟩ : ByteArray)).size + t129.size ≤ 9223372036854775807 then (if ((((⟨#[67, 111, 110, 116, 97, 105, 110, 101, 114, 32]⟩ : ByteArray) ++ a0_1) ++ (⟨#[32, 111, 119, 101, 115, 32]⟩ : ByteArray)) ++ t129).size + 5 ≤ 9223372036854775807 then ((Fq.f k a0_3).bind fun t130 => (if (((((⟨#[67, 111, 110, 116, 97, 105, 110, 101, 114, 32]⟩ : ByteArray) ++ a0_1) ++ (⟨#[32, 111, 119, 101, 115, 32]⟩ : ByteArray)) ++ t129) ++ (⟨#[32, 102, 111, 114, 32]⟩ : ByteArray)).size + t130.size ≤ 9223372036854775807 then (if ((((((⟨#[67, 111, 110, 116, 97, 105, 110, 101, 114, 32]⟩ : ByteArray) ++ a0_1) ++ (⟨#[32, 111, 119, 101, 115, 32]⟩ : ByteArray)) ++ t129) ++ (⟨#[32, 102, 111, 114, 32]⟩ : ByteArray)) ++ t130).size + 1 ≤ 9223372036854775807 then (some (((((((⟨#[67, 111, 110, 116, 97, 105, 110, 101, 114, 32]⟩ : ByteArray) ++ a0_1) ++ (⟨#[32, 111, 119, 101, 115, 32]⟩ : ByteArray)) ++ t129) ++ (⟨#[32, 102, 111, 114, 32]⟩ : ByteArray)) ++ t130) ++ (⟨#[46]⟩ : ByteArray))) else (none)) else (none))) else (none)) else (none))) else (none)))))) else (none)) = some r := h
  clear h
  by_cases c2 : 10 + a0_1.size ≤ 9223372036854775807
  · rw [if_pos c2] at H
    have c2b0 := eq_true c2
    have c2b1 : decide (10 + a0_1.size ≤ 9223372036854775807) = true := decide_eq_true c2
    try have c2b2 : (9223372036854775807 < 10 + a0_1.size) = False := eq_false (Nat.not_lt.2 c2)
    by_cases c3 : a0_0 = 1
    · rw [if_pos c3] at H
      have c3b0 : (a0_0 == 1) = true := beq_iff_eq.mpr c3
      have c3b1 : (a0_0 != 1) = false := bne_eq_false_iff_eq.mpr c3
      clear c3
      by_cases c4 : ((⟨#[67, 111, 110, 116, 97, 105, 110, 101, 114, 32]⟩ : ByteArray) ++ a0_1).size + 22 ≤ 9223372036854775807
      · rw [if_pos c4] at H
        have c4b0 := eq_true c4
        have c4b1 : decide (((⟨#[67, 111, 110, 116, 97, 105, 110, 101, 114, 32]⟩ : ByteArray) ++ a0_1).size + 22 ≤ 9223372036854775807) = true := decide_eq_true c4
        try have c4b2 : (9223372036854775807 < ((⟨#[67, 111, 110, 116, 97, 105, 110, 101, 114, 32]⟩ : ByteArray) ++ a0_1).size + 22) = False := eq_false (Nat.not_lt.2 c4)
        have c4z0 : (⟨#[67, 111, 110, 116, 97, 105, 110, 101, 114, 32]⟩ : ByteArray).size = 10 := rfl
        have c4b3 := c4
        try simp only [ByteArray.size_extract, ByteArray.size_append, c4z0] at c4b3
        have c4b4 := eq_false (Nat.not_lt.2 c4b3)
        replace H := Option.bind_eq_some_iff.mp H
        obtain ⟨t123, A50, H⟩ := H
        replace H : (if (((⟨#[67, 111, 110, 116, 97, 105, 110, 101, 114, 32]⟩ : ByteArray) ++ a0_1) ++ (⟨#[32, 104, 97, 115, 32, 97, 114, 114, 105, 118, 101, 100, 32, 105, 110, 32, 115, 116, 97, 99, 107, 32]⟩ : ByteArray)).size + t123.size ≤ 9223372036854775807 then (if ((((⟨#[67, 111, 110, 116, 97, 105, 110, 101, 114, 32]⟩ : ByteArray) ++ a0_1) ++ (⟨#[32, 104, 97, 115, 32, 97, 114, 114, 105, 118, 101, 100, 32, 105, 110, 32, 115, 116, 97, 99, 107, 32]⟩ : ByteArray)) ++ t123).size + 1 ≤ 9223372036854775807 then (some (((((⟨#[67, 111, 110, 116, 97, 105, 110, 101, 114, 32]⟩ : ByteArray) ++ a0_1) ++ (⟨#[32, 104, 97, 115, 32, 97, 114, 114, 105, 118, 101, 100, 32, 105, 110, 32, 115, 116, 97, 99, 107, 32]⟩ : ByteArray)) ++ t123) ++ (⟨#[46]⟩ : ByteArray))) else (none)) else (none)) = some r := H
        have A5 := Ac.mk A50
        clear A50
        by_cases c6 : (((⟨#[67, 111, 110, 116, 97, 105, 110, 101, 114, 32]⟩ : ByteArray) ++ a0_1) ++ (⟨#[32, 104, 97, 115, 32, 97, 114, 114, 105, 118, 101, 100, 32, 105, 110, 32, 115, 116, 97, 99, 107, 32]⟩ : ByteArray)).size + t123.size ≤ 9223372036854775807
        · rw [if_pos c6] at H
          have c6b0 := eq_true c6
          have c6b1 : decide ((((⟨#[67, 111, 110, 116, 97, 105, 110, 101, 114, 32]⟩ : ByteArray) ++ a0_1) ++ (⟨#[32, 104, 97, 115, 32, 97, 114, 114, 105, 118, 101, 100, 32, 105, 110, 32, 115, 116, 97, 99, 107, 32]⟩ : ByteArray)).size + t123.size ≤ 9223372036854775807) = true := decide_eq_true c6
          try have c6b2 : (9223372036854775807 < (((⟨#[67, 111, 110, 116, 97, 105, 110, 101, 114, 32]⟩ : ByteArray) ++ a0_1) ++ (⟨#[32, 104, 97, 115, 32, 97, 114, 114, 105, 118, 101, 100, 32, 105, 110, 32, 115, 116, 97, 99, 107, 32]⟩ : ByteArray)).size + t123.size) = False := eq_false (Nat.not_lt.2 c6)
          have c6z0 : (⟨#[32, 104, 97, 115, 32, 97, 114, 114, 105, 118, 101, 100, 32, 105, 110, 32, 115, 116, 97, 99, 107, 32]⟩ : ByteArray).size = 22 := rfl
          have c6z1 : (⟨#[67, 111, 110, 116, 97, 105, 110, 101, 114, 32]⟩ : ByteArray).size = 10 := rfl
          have c6b3 := c6
          try simp only [ByteArray.size_extract, ByteArray.size_append, c6z0, c6z1] at c6b3
          have c6b4 := eq_false (Nat.not_lt.2 c6b3)
          by_cases c7 : ((((⟨#[67, 111, 110, 116, 97, 105, 110, 101, 114, 32]⟩ : ByteArray) ++ a0_1) ++ (⟨#[32, 104, 97, 115, 32, 97, 114, 114, 105, 118, 101, 100, 32, 105, 110, 32, 115, 116, 97, 99, 107, 32]⟩ : ByteArray)) ++ t123).size + 1 ≤ 9223372036854775807
          · rw [if_pos c7] at H
            have c7b0 := eq_true c7
            have c7b1 : decide (((((⟨#[67, 111, 110, 116, 97, 105, 110, 101, 114, 32]⟩ : ByteArray) ++ a0_1) ++ (⟨#[32, 104, 97, 115, 32, 97, 114, 114, 105, 118, 101, 100, 32, 105, 110, 32, 115, 116, 97, 99, 107, 32]⟩ : ByteArray)) ++ t123).size + 1 ≤ 9223372036854775807) = true := decide_eq_true c7
            try have c7b2 : (9223372036854775807 < ((((⟨#[67, 111, 110, 116, 97, 105, 110, 101, 114, 32]⟩ : ByteArray) ++ a0_1) ++ (⟨#[32, 104, 97, 115, 32, 97, 114, 114, 105, 118, 101, 100, 32, 105, 110, 32, 115, 116, 97, 99, 107, 32]⟩ : ByteArray)) ++ t123).size + 1) = False := eq_false (Nat.not_lt.2 c7)
            have c7z0 : (⟨#[32, 104, 97, 115, 32, 97, 114, 114, 105, 118, 101, 100, 32, 105, 110, 32, 115, 116, 97, 99, 107, 32]⟩ : ByteArray).size = 22 := rfl
            have c7z1 : (⟨#[67, 111, 110, 116, 97, 105, 110, 101, 114, 32]⟩ : ByteArray).size = 10 := rfl
            have c7b3 := c7
            try simp only [ByteArray.size_extract, ByteArray.size_append, c7z0, c7z1] at c7b3
            have c7b4 := eq_false (Nat.not_lt.2 c7b3)
            obtain rfl := Option.some.inj H
            go_enter Tryd.func24, Tryd.ntmps24
            go_wp2_with (first | ((with_reducible refine Dh (N := 1) rfl ?_); refine Dl ?hg (N := 1) ?hd (cs := #[.int .i64 a0_0, .string a0_1, .int .i64 a0_2, .int .i64 a0_3]) (t := 27) ?hr ?_; (case hd => rfl); (case hg => rfl); (case hr => first | (go_simp; done) | (go_simp; rfl)); intro gb0 hg w8 hbox hb; have n0_ := Ac.mk (Au Ya_ hb); have n1_ := Ac.mk (hbox); have n2_ := Ac.mk ((by rw [hg]; exact (Az Ya_) : w.heap.size ≤ gb0)); have n3_ := Ac.mk ((by rw [hg]; exact (Az Ya_) : w.heap.size ≤ gb0)); clear HB; have HB := n0_; have BK0 := n1_; have GW0 := n2_; have GE0 := n3_; clear n0_ n1_ n2_ n3_; clear hb hbox hg; have hcz9_0 : w8.cell? ⟨gb0, 0, none⟩ = some (.int .i64 a0_0) := (Af BK0.out 0).trans rfl; have hcz9_1 : w8.cell? ⟨gb0, 1, none⟩ = some (.string a0_1) := (Af BK0.out 1).trans rfl; have hcz9_2 : w8.cell? ⟨gb0, 2, none⟩ = some (.int .i64 a0_2) := (Af BK0.out 2).trans rfl; have hcz9_3 : w8.cell? ⟨gb0, 3, none⟩ = some (.int .i64 a0_3) := (Af BK0.out 3).trans rfl; have hfz9_0 := Ag BK0.out 0; have hfz9_1 := Ag BK0.out 1; have hfz9_2 := Ag BK0.out 2; have hfz9_3 := Ag BK0.out 3) | ((with_reducible refine Aw (f := 39) rfl ?_); refine Bj (some 17) rfl rfl Tryd.func39 (by kernel_rfl) rfl #[.int .i64 a0_2] rfl Yb_ ?_; (with_reducible refine (Ci.calls k a0_2 t123 _ A5.out).mono ?_); rintro e w10 ⟨rfl, hb⟩; refine ⟨_, rfl, ?_⟩; have n0_ := Ac.mk (Ce (g := gb0) (o := .cells #[.int .i64 a0_0, .string a0_1, .int .i64 a0_2, .int .i64 a0_3] 27 (0, 0)) Ye_ hb); have n1_ := Ac.mk (Au Yd_ hb); clear BK0; clear HB; have BK0 := n0_; have HB := n1_; clear n0_ n1_; (try clear hb); (try clear hb2); (try clear hk); (try clear hi)))
            go_ret
            exact ⟨by first | rfl | (simp [Aq, Ar] <;> rfl) | (simp [*, Aq, Ar] <;> rfl), by repeat (first | (with_reducible first | exact HB.out | apply Ae | apply Aa | apply Ad | refine Am ?_ GE0.out) | exact HB.out)⟩
          · rw [if_neg c7] at H
            exact absurd H (by simp)
        · rw [if_neg c6] at H
          exact absurd H (by simp)
      · rw [if_neg c4] at H
        exact absurd H (by simp)
    · rw [if_neg c3] at H
      have c3b0 : (a0_0 == 1) = false := beq_eq_false_iff_ne.mpr c3
      have c3b1 : (a0_0 != 1) = true := bne_iff_ne.mpr c3
      by_cases c11 : a0_0 = 2
      · rw [if_pos c11] at H
        have c11b0 : (a0_0 == 2) = true := beq_iff_eq.mpr c11
        have c11b1 : (a0_0 != 2) = false := bne_eq_false_iff_eq.mpr c11
        clear c11
        by_cases c12 : ((⟨#[67, 111, 110, 116, 97, 105, 110, 101, 114, 32]⟩ : ByteArray) ++ a0_1).size + 22 ≤ 9223372036854775807
        · rw [if_pos c12] at H
          have c12b0 := eq_true c12
          have c12b1 : decide (((⟨#[67, 111, 110, 116, 97, 105, 110, 101, 114, 32]⟩ : ByteArray) ++ a0_1).size + 22 ≤ 9223372036854775807) = true := decide_eq_true c12
          try have c12b2 : (9223372036854775807 < ((⟨#[67, 111, 110, 116, 97, 105, 110, 101, 114, 32]⟩ : ByteArray) ++ a0_1).size + 22) = False := eq_false (Nat.not_lt.2 c12)
          have c12z0 : (⟨#[67, 111, 110, 116, 97, 105, 110, 101, 114, 32]⟩ : ByteArray).size = 10 := rfl
          have c12b3 := c12
          try simp only [ByteArray.size_extract, ByteArray.size_append, c12z0] at c12b3
          have c12b4 := eq_false (Nat.not_lt.2 c12b3)
          replace H := Option.bind_eq_some_iff.mp H
          obtain ⟨t124, A130, H⟩ := H
          replace H : (if (((⟨#[67, 111, 110, 116, 97, 105, 110, 101, 114, 32]⟩ : ByteArray) ++ a0_1) ++ (⟨#[32, 119, 97, 115, 32, 109, 111, 118, 101, 100, 32, 102, 114, 111, 109, 32, 115, 116, 97, 99, 107, 32]⟩ : ByteArray)).size + t124.size ≤ 9223372036854775807 then (if ((((⟨#[67, 111, 110, 116, 97, 105, 110, 101, 114, 32]⟩ : ByteArray) ++ a0_1) ++ (⟨#[32, 119, 97, 115, 32, 109, 111, 118, 101, 100, 32, 102, 114, 111, 109, 32, 115, 116, 97, 99, 107, 32]⟩ : ByteArray)) ++ t124).size + 10 ≤ 9223372036854775807 then ((Ci.f k a0_3).bind fun t125 => (if (((((⟨#[67, 111, 110, 116, 97, 105, 110, 101, 114, 32]⟩ : ByteArray) ++ a0_1) ++ (⟨#[32, 119, 97, 115, 32, 109, 111, 118, 101, 100, 32, 102, 114, 111, 109, 32, 115, 116, 97, 99, 107, 32]⟩ : ByteArray)) ++ t124) ++ (⟨#[32, 116, 111, 32, 115, 116, 97, 99, 107, 32]⟩ : ByteArray)).size + t125.size ≤ 9223372036854775807 then (if ((((((⟨#[67, 111, 110, 116, 97, 105, 110, 101, 114, 32]⟩ : ByteArray) ++ a0_1) ++ (⟨#[32, 119, 97, 115, 32, 109, 111, 118, 101, 100, 32, 102, 114, 111, 109, 32, 115, 116, 97, 99, 107, 32]⟩ : ByteArray)) ++ t124) ++ (⟨#[32, 116, 111, 32, 115, 116, 97, 99, 107, 32]⟩ : ByteArray)) ++ t125).size + 1 ≤ 9223372036854775807 then (some (((((((⟨#[67, 111, 110, 116, 97, 105, 110, 101, 114, 32]⟩ : ByteArray) ++ a0_1) ++ (⟨#[32, 119, 97, 115, 32, 109, 111, 118, 101, 100, 32, 102, 114, 111, 109, 32, 115, 116, 97, 99, 107, 32]⟩ : ByteArray)) ++ t124) ++ (⟨#[32, 116, 111, 32, 115, 116, 97, 99, 107, 32]⟩ : ByteArray)) ++ t125) ++ (⟨#[46]⟩ : ByteArray))) else (none)) else (none))) else (none)) else (none)) = some r := H
          have A13 := Ac.mk A130
          clear A130
          by_cases c14 : (((⟨#[67, 111, 110, 116, 97, 105, 110, 101, 114, 32]⟩ : ByteArray) ++ a0_1) ++ (⟨#[32, 119, 97, 115, 32, 109, 111, 118, 101, 100, 32, 102, 114, 111, 109, 32, 115, 116, 97, 99, 107, 32]⟩ : ByteArray)).size + t124.size ≤ 9223372036854775807
          · rw [if_pos c14] at H
            have c14b0 := eq_true c14
            have c14b1 : decide ((((⟨#[67, 111, 110, 116, 97, 105, 110, 101, 114, 32]⟩ : ByteArray) ++ a0_1) ++ (⟨#[32, 119, 97, 115, 32, 109, 111, 118, 101, 100, 32, 102, 114, 111, 109, 32, 115, 116, 97, 99, 107, 32]⟩ : ByteArray)).size + t124.size ≤ 9223372036854775807) = true := decide_eq_true c14
            try have c14b2 : (9223372036854775807 < (((⟨#[67, 111, 110, 116, 97, 105, 110, 101, 114, 32]⟩ : ByteArray) ++ a0_1) ++ (⟨#[32, 119, 97, 115, 32, 109, 111, 118, 101, 100, 32, 102, 114, 111, 109, 32, 115, 116, 97, 99, 107, 32]⟩ : ByteArray)).size + t124.size) = False := eq_false (Nat.not_lt.2 c14)
            have c14z0 : (⟨#[32, 119, 97, 115, 32, 109, 111, 118, 101, 100, 32, 102, 114, 111, 109, 32, 115, 116, 97, 99, 107, 32]⟩ : ByteArray).size = 22 := rfl
            have c14z1 : (⟨#[67, 111, 110, 116, 97, 105, 110, 101, 114, 32]⟩ : ByteArray).size = 10 := rfl
            have c14b3 := c14
            try simp only [ByteArray.size_extract, ByteArray.size_append, c14z0, c14z1] at c14b3
            have c14b4 := eq_false (Nat.not_lt.2 c14b3)
            by_cases c15 : ((((⟨#[67, 111, 110, 116, 97, 105, 110, 101, 114, 32]⟩ : ByteArray) ++ a0_1) ++ (⟨#[32, 119, 97, 115, 32, 109, 111, 118, 101, 100, 32, 102, 114, 111, 109, 32, 115, 116, 97, 99, 107, 32]⟩ : ByteArray)) ++ t124).size + 10 ≤ 9223372036854775807
            · rw [if_pos c15] at H
              have c15b0 := eq_true c15
              have c15b1 : decide (((((⟨#[67, 111, 110, 116, 97, 105, 110, 101, 114, 32]⟩ : ByteArray) ++ a0_1) ++ (⟨#[32, 119, 97, 115, 32, 109, 111, 118, 101, 100, 32, 102, 114, 111, 109, 32, 115, 116, 97, 99, 107, 32]⟩ : ByteArray)) ++ t124).size + 10 ≤ 9223372036854775807) = true := decide_eq_true c15
              try have c15b2 : (9223372036854775807 < ((((⟨#[67, 111, 110, 116, 97, 105, 110, 101, 114, 32]⟩ : ByteArray) ++ a0_1) ++ (⟨#[32, 119, 97, 115, 32, 109, 111, 118, 101, 100, 32, 102, 114, 111, 109, 32, 115, 116, 97, 99, 107, 32]⟩ : ByteArray)) ++ t124).size + 10) = False := eq_false (Nat.not_lt.2 c15)
              have c15z0 : (⟨#[32, 119, 97, 115, 32, 109, 111, 118, 101, 100, 32, 102, 114, 111, 109, 32, 115, 116, 97, 99, 107, 32]⟩ : ByteArray).size = 22 := rfl
              have c15z1 : (⟨#[67, 111, 110, 116, 97, 105, 110, 101, 114, 32]⟩ : ByteArray).size = 10 := rfl
              have c15b3 := c15
              try simp only [ByteArray.size_extract, ByteArray.size_append, c15z0, c15z1] at c15b3
              have c15b4 := eq_false (Nat.not_lt.2 c15b3)
              replace H := Option.bind_eq_some_iff.mp H
              obtain ⟨t125, A160, H⟩ := H
              replace H : (if (((((⟨#[67, 111, 110, 116, 97, 105, 110, 101, 114, 32]⟩ : ByteArray) ++ a0_1) ++ (⟨#[32, 119, 97, 115, 32, 109, 111, 118, 101, 100, 32, 102, 114, 111, 109, 32, 115, 116, 97, 99, 107, 32]⟩ : ByteArray)) ++ t124) ++ (⟨#[32, 116, 111, 32, 115, 116, 97, 99, 107, 32]⟩ : ByteArray)).size + t125.size ≤ 9223372036854775807 then (if ((((((⟨#[67, 111, 110, 116, 97, 105, 110, 101, 114, 32]⟩ : ByteArray) ++ a0_1) ++ (⟨#[32, 119, 97, 115, 32, 109, 111, 118, 101, 100, 32, 102, 114, 111, 109, 32, 115, 116, 97, 99, 107, 32]⟩ : ByteArray)) ++ t124) ++ (⟨#[32, 116, 111, 32, 115, 116, 97, 99, 107, 32]⟩ : ByteArray)) ++ t125).size + 1 ≤ 9223372036854775807 then (some (((((((⟨#[67, 111, 110, 116, 97, 105, 110, 101, 114, 32]⟩ : ByteArray) ++ a0_1) ++ (⟨#[32, 119, 97, 115, 32, 109, 111, 118, 101, 100, 32, 102, 114, 111, 109, 32, 115, 116, 97, 99, 107, 32]⟩ : ByteArray)) ++ t124) ++ (⟨#[32, 116, 111, 32, 115, 116, 97, 99, 107, 32]⟩ : ByteArray)) ++ t125) ++ (⟨#[46]⟩ : ByteArray))) else (none)) else (none)) = some r := H
              have A16 := Ac.mk A160
              clear A160
              by_cases c17 : (((((⟨#[67, 111, 110, 116, 97, 105, 110, 101, 114, 32]⟩ : ByteArray) ++ a0_1) ++ (⟨#[32, 119, 97, 115, 32, 109, 111, 118, 101, 100, 32, 102, 114, 111, 109, 32, 115, 116, 97, 99, 107, 32]⟩ : ByteArray)) ++ t124) ++ (⟨#[32, 116, 111, 32, 115, 116, 97, 99, 107, 32]⟩ : ByteArray)).size + t125.size ≤ 9223372036854775807
              · rw [if_pos c17] at H
                have c17b0 := eq_true c17
                have c17b1 : decide ((((((⟨#[67, 111, 110, 116, 97, 105, 110, 101, 114, 32]⟩ : ByteArray) ++ a0_1) ++ (⟨#[32, 119, 97, 115, 32, 109, 111, 118, 101, 100, 32, 102, 114, 111, 109, 32, 115, 116, 97, 99, 107, 32]⟩ : ByteArray)) ++ t124) ++ (⟨#[32, 116, 111, 32, 115, 116, 97, 99, 107, 32]⟩ : ByteArray)).size + t125.size ≤ 9223372036854775807) = true := decide_eq_true c17
                try have c17b2 : (9223372036854775807 < (((((⟨#[67, 111, 110, 116, 97, 105, 110, 101, 114, 32]⟩ : ByteArray) ++ a0_1) ++ (⟨#[32, 119, 97, 115, 32, 109, 111, 118, 101, 100, 32, 102, 114, 111, 109, 32, 115, 116, 97, 99, 107, 32]⟩ : ByteArray)) ++ t124) ++ (⟨#[32, 116, 111, 32, 115, 116, 97, 99, 107, 32]⟩ : ByteArray)).size + t125.size) = False := eq_false (Nat.not_lt.2 c17)
                have c17z0 : (⟨#[32, 116, 111, 32, 115, 116, 97, 99, 107, 32]⟩ : ByteArray).size = 10 := rfl
                have c17z1 : (⟨#[32, 119, 97, 115, 32, 109, 111, 118, 101, 100, 32, 102, 114, 111, 109, 32, 115, 116, 97, 99, 107, 32]⟩ : ByteArray).size = 22 := rfl
                have c17z2 : (⟨#[67, 111, 110, 116, 97, 105, 110, 101, 114, 32]⟩ : ByteArray).size = 10 := rfl
                have c17b3 := c17
                try simp only [ByteArray.size_extract, ByteArray.size_append, c17z0, c17z1, c17z2] at c17b3
                have c17b4 := eq_false (Nat.not_lt.2 c17b3)
                by_cases c18 : ((((((⟨#[67, 111, 110, 116, 97, 105, 110, 101, 114, 32]⟩ : ByteArray) ++ a0_1) ++ (⟨#[32, 119, 97, 115, 32, 109, 111, 118, 101, 100, 32, 102, 114, 111, 109, 32, 115, 116, 97, 99, 107, 32]⟩ : ByteArray)) ++ t124) ++ (⟨#[32, 116, 111, 32, 115, 116, 97, 99, 107, 32]⟩ : ByteArray)) ++ t125).size + 1 ≤ 9223372036854775807
                · rw [if_pos c18] at H
                  have c18b0 := eq_true c18
                  have c18b1 : decide (((((((⟨#[67, 111, 110, 116, 97, 105, 110, 101, 114, 32]⟩ : ByteArray) ++ a0_1) ++ (⟨#[32, 119, 97, 115, 32, 109, 111, 118, 101, 100, 32, 102, 114, 111, 109, 32, 115, 116, 97, 99, 107, 32]⟩ : ByteArray)) ++ t124) ++ (⟨#[32, 116, 111, 32, 115, 116, 97, 99, 107, 32]⟩ : ByteArray)) ++ t125).size + 1 ≤ 9223372036854775807) = true := decide_eq_true c18
                  try have c18b2 : (9223372036854775807 < ((((((⟨#[67, 111, 110, 116, 97, 105, 110, 101, 114, 32]⟩ : ByteArray) ++ a0_1) ++ (⟨#[32, 119, 97, 115, 32, 109, 111, 118, 101, 100, 32, 102, 114, 111, 109, 32, 115, 116, 97, 99, 107, 32]⟩ : ByteArray)) ++ t124) ++ (⟨#[32, 116, 111, 32, 115, 116, 97, 99, 107, 32]⟩ : ByteArray)) ++ t125).size + 1) = False := eq_false (Nat.not_lt.2 c18)
                  have c18z0 : (⟨#[32, 116, 111, 32, 115, 116, 97, 99, 107, 32]⟩ : ByteArray).size = 10 := rfl
                  have c18z1 : (⟨#[32, 119, 97, 115, 32, 109, 111, 118, 101, 100, 32, 102, 114, 111, 109, 32, 115, 116, 97, 99, 107, 32]⟩ : ByteArray).size = 22 := rfl
                  have c18z2 : (⟨#[67, 111, 110, 116, 97, 105, 110, 101, 114, 32]⟩ : ByteArray).size = 10 := rfl
                  have c18b3 := c18
                  try simp only [ByteArray.size_extract, ByteArray.size_append, c18z0, c18z1, c18z2] at c18b3
                  have c18b4 := eq_false (Nat.not_lt.2 c18b3)
                  obtain rfl := Option.some.inj H
                  go_enter Tryd.func24, Tryd.ntmps24
                  try go_wp2_with (first | ((with_reducible refine Dh (N := 1) rfl ?_); refine Dl ?hg (N := 1) ?hd (cs := #[.int .i64 a0_0, .string a0_1, .int .i64 a0_2, .int .i64 a0_3]) (t := 27) ?hr ?_; (case hd => rfl); (case hg => rfl); (case hr => first | (go_simp; done) | (go_simp; rfl)); intro gb0 hg w19 hbox hb; have n0_ := Ac.mk (Au Ya_ hb); have n1_ := Ac.mk (hbox); have n2_ := Ac.mk ((by rw [hg]; exact (Az Ya_) : w.heap.size ≤ gb0)); have n3_ := Ac.mk ((by rw [hg]; exact (Az Ya_) : w.heap.size ≤ gb0)); clear HB; have HB := n0_; have BK0 := n1_; have GW0 := n2_; have GE0 := n3_; clear n0_ n1_ n2_ n3_; clear hb hbox hg; have hcz20_0 : w19.cell? ⟨gb0, 0, none⟩ = some (.int .i64 a0_0) := (Af BK0.out 0).trans rfl; have hcz20_1 : w19.cell? ⟨gb0, 1, none⟩ = some (.string a0_1) := (Af BK0.out 1).trans rfl; have hcz20_2 : w19.cell? ⟨gb0, 2, none⟩ = some (.int .i64 a0_2) := (Af BK0.out 2).trans rfl; have hcz20_3 : w19.cell? ⟨gb0, 3, none⟩ = some (.int .i64 a0_3) := (Af BK0.out 3).trans rfl; have hfz20_0 := Ag BK0.out 0; have hfz20_1 := Ag BK0.out 1; have hfz20_2 := Ag BK0.out 2; have hfz20_3 := Ag BK0.out 3))
                  have n0_ := Ac.mk (Aj BK0.out)
                  have n1_ := Ac.mk (Ad HB.out)
                  clear BK0
                  clear HB
                  have BK0 := n0_
                  have HB := n1_
                  clear n0_ n1_
                  refine G7 (n := 13) (S := fun w' => w'.cell? ⟨gb0, 0, none⟩ = some (.int .i64 a0_0) ∧ w'.cell? ⟨gb0, 1, none⟩ = some (.string a0_1) ∧ w'.cell? ⟨gb0, 2, none⟩ = some (.int .i64 a0_2) ∧ w'.cell? ⟨gb0, 3, none⟩ = some (.int .i64 a0_3)) (ds := []) #[false, false, false, false, false, false, false, false, false, false, false, false, false] (by kernel_rfl) rfl rfl ⟨(Af BK0.out 0).trans rfl, (Af BK0.out 1).trans rfl, (Af BK0.out 2).trans rfl, (Af BK0.out 3).trans rfl⟩ (fun hHeld => ?_); refine Gf Dn.tab6 Dn.bits6 (fun HT_ HW_ => ?_)
                  generalize w19.drew = w21 at BK0 HB hHeld ⊢
                  refine Du (i := 0) (N := some 22) (v := ?_) (a' := ?_) #[true, false, false, false, false, false, false, false, false, false, false, false, false] rfl rfl (Di HT_.out (by kernel_rfl)) (fun _ _ _ h => h) (Or.inl ⟨by rfl, ?_⟩) ?_ ?_
                  rotate_left
                  · intro w'
                    go_simp
                    first | with_reducible rfl | (rw [if_neg (by omega)]; try with_reducible rfl)
                  rotate_left
                  · simp only [Act.put, List.setIfInBounds_toArray, List.set_cons_zero, List.set_cons_succ, Bz, Cb]
                    rfl
                  refine Du (i := 1) (N := some 23) (v := ?_) (a' := ?_) #[true, true, false, false, false, false, false, false, false, false, false, false, false] rfl rfl (Di HT_.out (by kernel_rfl)) (fun _ _ _ h => h) (Or.inl ⟨by rfl, ?_⟩) ?_ ?_
                  rotate_left
                  · intro w'
                    go_simp
                    first | with_reducible rfl | (rw [if_neg (by omega)]; try with_reducible rfl)
                  rotate_left
                  · simp only [Act.put, List.setIfInBounds_toArray, List.set_cons_zero, List.set_cons_succ, Bz, Cb]
                    rfl
                  refine Du (i := 2) (N := some 24) (v := ?_) (a' := ?_) #[true, true, true, false, false, false, false, false, false, false, false, false, false] rfl rfl (Di HT_.out (by kernel_rfl)) (fun _ _ _ h => h) (Or.inl ⟨by rfl, ?_⟩) ?_ ?_
                  rotate_left
                  · intro w'
                    go_simp
                    first | with_reducible rfl | (rw [if_neg (by omega)]; try with_reducible rfl)
                  rotate_left
                  · simp only [Act.put, List.setIfInBounds_toArray, List.set_cons_zero, List.set_cons_succ, Bz, Cb]
                    rfl
                  refine Du (i := 7) (N := some 29) (v := ?_) (a' := ?_) #[true, true, true, false, false, false, false, true, false, false, false, false, false] rfl rfl (Di HT_.out (by kernel_rfl)) (fun _ _ _ h => h) (Or.inl ⟨by rfl, ?_⟩) ?_ ?_
                  rotate_left
                  · intro w'
                    go_simp
                    first | with_reducible rfl | (rw [if_neg (by omega)]; try with_reducible rfl)
                  rotate_left
                  · simp only [Act.put, List.setIfInBounds_toArray, List.set_cons_zero, List.set_cons_succ, Bz, Cb]
                    rfl
                  refine Fv (i := 3) (N := some 25) (v := ?_) (a' := ?_) #[true, true, true, true, false, false, false, true, false, false, false, false, false] rfl rfl (Et HT_.out HW_.out (by kernel_rfl)) (fun _ _ _ h => h) (Or.inl ⟨by rfl, ?_⟩) hHeld ?_ ?_
                  rotate_left
                  · rintro w' ⟨s0, s1, s2, s3⟩
                    go_simp
                    first | with_reducible rfl | (rw [if_neg (by omega)]; try with_reducible rfl)
                  rotate_left
                  · simp only [Act.put, List.setIfInBounds_toArray, List.set_cons_zero, List.set_cons_succ, Bz, Cb]
                    rfl
                  refine Fv (i := 8) (N := some 30) (v := ?_) (a' := ?_) #[true, true, true, true, false, false, false, true, true, false, false, false, false] rfl rfl (Et HT_.out HW_.out (by kernel_rfl)) (fun _ _ _ h => h) (Or.inl ⟨by rfl, ?_⟩) hHeld ?_ ?_
                  rotate_left
                  · rintro w' ⟨s0, s1, s2, s3⟩
                    go_simp
                    first | with_reducible rfl | (rw [if_neg (by omega)]; try with_reducible rfl)
                  rotate_left
                  · simp only [Act.put, List.setIfInBounds_toArray, List.set_cons_zero, List.set_cons_succ, Bz, Cb]
                    rfl
                  refine one_ (i := 4) (N := some 26) #[true, true, true, true, true, false, false, true, true, false, false, false, false] rfl rfl (Gg HT_.out (by kernel_rfl)) (by decide) (fun K hK => ?_)
                  refine Gn Tryd.func39 (by kernel_rfl) rfl #[.int .i64 a0_2] (by rfl) rfl rfl Yb_ ?_
                  with_reducible refine (Ci.calls k a0_2 t124 _ A13.out).mono ?_
                  rintro e w22 ⟨rfl, hb⟩
                  refine ⟨_, rfl, ?_⟩
                  have n0_ := Ac.mk (Ce (g := gb0) (o := .cells #[.int .i64 a0_0, .string a0_1, .int .i64 a0_2, .int .i64 a0_3] 27 (0, 0)) Ye_ hb)
                  have n1_ := Ac.mk (Au Yd_ hb)
                  clear BK0
                  clear HB
                  have BK0 := n0_
                  have HB := n1_
                  clear n0_ n1_
                  (try clear hb)
                  (try clear hb2)
                  (try clear hk)
                  (try clear hi)
                  refine hK.out _ _ ⟨(Af BK0.out 0).trans rfl, (Af BK0.out 1).trans rfl, (Af BK0.out 2).trans rfl, (Af BK0.out 3).trans rfl⟩ (fun hHeld => ?_)
                  clear hK K
                  refine Gp (a' := ?_) ?_ ?_
                  rotate_left
                  · show Act.put _ (some 26) _ = _
                    simp only [Act.put, List.setIfInBounds_toArray, List.set_cons_zero, List.set_cons_succ, Bz, Cb]
                    rfl
                  refine Du (i := 5) (N := some 27) (v := ?_) (a' := ?_) #[true, true, true, true, true, true, false, true, true, false, false, false, false] rfl rfl (Di HT_.out (by kernel_rfl)) (fun _ _ _ h => h) (Or.inl ⟨by rfl, ?_⟩) ?_ ?_
                  rotate_left
                  · intro w'
                    go_simp
                    first | with_reducible rfl | (rw [if_neg (by omega)]; try with_reducible rfl)
                  rotate_left
                  · simp only [Act.put, List.setIfInBounds_toArray, List.set_cons_zero, List.set_cons_succ, Bz, Cb]
                    rfl
                  refine Du (i := 6) (N := some 28) (v := ?_) (a' := ?_) #[true, true, true, true, true, true, true, true, true, false, false, false, false] rfl rfl (Di HT_.out (by kernel_rfl)) (fun _ _ _ h => h) (Or.inl ⟨by rfl, ?_⟩) ?_ ?_
                  rotate_left
                  · intro w'
                    go_simp
                    first | with_reducible rfl | (rw [if_neg (by omega)]; try with_reducible rfl)
                  rotate_left
                  · simp only [Act.put, List.setIfInBounds_toArray, List.set_cons_zero, List.set_cons_succ, Bz, Cb]
                    rfl
                  refine one_ (i := 9) (N := some 31) #[true, true, true, true, true, true, true, true, true, true, false, false, false] rfl rfl (Gg HT_.out (by kernel_rfl)) (by decide) (fun K hK => ?_)
                  refine Gn Tryd.func39 (by kernel_rfl) rfl #[.int .i64 a0_3] (by rfl) rfl rfl Yb_ ?_
                  with_reducible refine (Ci.calls k a0_3 t125 _ A16.out).mono ?_
                  rintro e w23 ⟨rfl, hb⟩
                  refine ⟨_, rfl, ?_⟩
                  have n0_ := Ac.mk (Ce (g := gb0) (o := .cells #[.int .i64 a0_0, .string a0_1, .int .i64 a0_2, .int .i64 a0_3] 27 (0, 0)) Ye_ hb)
                  have n1_ := Ac.mk (Au Yd_ hb)
                  clear BK0
                  clear HB
                  have BK0 := n0_
                  have HB := n1_
                  clear n0_ n1_
                  (try clear hb)
                  (try clear hb2)
                  (try clear hk)
                  (try clear hi)
                  refine hK.out _ _ ⟨(Af BK0.out 0).trans rfl, (Af BK0.out 1).trans rfl, (Af BK0.out 2).trans rfl, (Af BK0.out 3).trans rfl⟩ (fun hHeld => ?_)
                  clear hK K
                  refine Gp (a' := ?_) ?_ ?_
                  rotate_left
                  · show Act.put _ (some 31) _ = _
                    simp only [Act.put, List.setIfInBounds_toArray, List.set_cons_zero, List.set_cons_succ, Bz, Cb]
                    rfl
                  refine Du (i := 10) (N := some 32) (v := ?_) (a' := ?_) #[true, true, true, true, true, true, true, true, true, true, true, false, false] rfl rfl (Di HT_.out (by kernel_rfl)) (fun _ _ _ h => h) (Or.inl ⟨by rfl, ?_⟩) ?_ ?_
                  rotate_left
                  · intro w'
                    go_simp
                    first | with_reducible rfl | (rw [if_neg (by omega)]; try with_reducible rfl)
                  rotate_left
                  · simp only [Act.put, List.setIfInBounds_toArray, List.set_cons_zero, List.set_cons_succ, Bz, Cb]
                    rfl
                  refine Du (i := 11) (N := some 33) (v := ?_) (a' := ?_) #[true, true, true, true, true, true, true, true, true, true, true, true, false] rfl rfl (Di HT_.out (by kernel_rfl)) (fun _ _ _ h => h) (Or.inl ⟨by rfl, ?_⟩) ?_ ?_
                  rotate_left
                  · intro w'
                    go_simp
                    first | with_reducible rfl | (rw [if_neg (by omega)]; try with_reducible rfl)
                  rotate_left
                  · simp only [Act.put, List.setIfInBounds_toArray, List.set_cons_zero, List.set_cons_succ, Bz, Cb]
                    rfl
                  refine Du (i := 12) (N := some 2) (v := ?_) (a' := ?_) #[true, true, true, true, true, true, true, true, true, true, true, true, true] rfl rfl (Di HT_.out (by kernel_rfl)) (fun _ _ _ h => h) (Or.inl ⟨by rfl, ?_⟩) ?_ ?_
                  rotate_left
                  · intro w'
                    go_simp
                    first | with_reducible rfl | (rw [if_neg (by omega)]; try with_reducible rfl)
                  rotate_left
                  · simp only [Act.put, List.setIfInBounds_toArray, List.set_cons_zero, List.set_cons_succ, Bz, Cb]
                    rfl
                  refine done_ (Gv HT_.out (by kernel_rfl)) ?_
                  try go_wp2
                  go_ret
                  exact ⟨by first | rfl | (simp [Aq, Ar] <;> rfl) | (simp [*, Aq, Ar] <;> rfl), by repeat (first | (with_reducible first | exact HB.out | apply Ae | apply Aa | apply Ad | refine Am ?_ GE0.out) | exact HB.out)⟩
                · rw [if_neg c18] at H
                  exact absurd H (by simp)
              · rw [if_neg c17] at H
                exact absurd H (by simp)
            · rw [if_neg c15] at H
              exact absurd H (by simp)
          · rw [if_neg c14] at H
            exact absurd H (by simp)
        · rw [if_neg c12] at H
          exact absurd H (by simp)
      · rw [if_neg c11] at H
        have c11b0 : (a0_0 == 2) = false := beq_eq_false_iff_ne.mpr c11
        have c11b1 : (a0_0 != 2) = true := bne_iff_ne.mpr c11
        by_cases c24 : a0_0 = 3
        · rw [if_pos c24] at H
          have c24b0 : (a0_0 == 3) = true := beq_iff_eq.mpr c24
          have c24b1 : (a0_0 != 3) = false := bne_eq_false_iff_eq.mpr c24
          clear c24
          replace H := Option.bind_eq_some_iff.mp H
          obtain ⟨⟨t126, t127⟩, A250, H⟩ := H
          replace H : (if ((⟨#[67, 111, 110, 116, 97, 105, 110, 101, 114, 32]⟩ : ByteArray) ++ a0_1).size + 13 ≤ 9223372036854775807 then (if (((⟨#[67, 111, 110, 116, 97, 105, 110, 101, 114, 32]⟩ : ByteArray) ++ a0_1) ++ (⟨#[32, 105, 115, 32, 104, 101, 108, 100, 32, 102, 111, 114, 32]⟩ : ByteArray)).size + t126.size ≤ 9223372036854775807 then (if ((((⟨#[67, 111, 110, 116, 97, 105, 110, 101, 114, 32]⟩ : ByteArray) ++ a0_1) ++ (⟨#[32, 105, 115, 32, 104, 101, 108, 100, 32, 102, 111, 114, 32]⟩ : ByteArray)) ++ t126).size + 1 ≤ 9223372036854775807 then (some (((((⟨#[67, 111, 110, 116, 97, 105, 110, 101, 114, 32]⟩ : ByteArray) ++ a0_1) ++ (⟨#[32, 105, 115, 32, 104, 101, 108, 100, 32, 102, 111, 114, 32]⟩ : ByteArray)) ++ t126) ++ (⟨#[46]⟩ : ByteArray))) else (none)) else (none)) else (none)) = some r := H
          have A25 := Ac.mk A250
          clear A250
          by_cases c26 : ((⟨#[67, 111, 110, 116, 97, 105, 110, 101, 114, 32]⟩ : ByteArray) ++ a0_1).size + 13 ≤ 9223372036854775807
          · rw [if_pos c26] at H
            have c26b0 := eq_true c26
            have c26b1 : decide (((⟨#[67, 111, 110, 116, 97, 105, 110, 101, 114, 32]⟩ : ByteArray) ++ a0_1).size + 13 ≤ 9223372036854775807) = true := decide_eq_true c26
            try have c26b2 : (9223372036854775807 < ((⟨#[67, 111, 110, 116, 97, 105, 110, 101, 114, 32]⟩ : ByteArray) ++ a0_1).size + 13) = False := eq_false (Nat.not_lt.2 c26)
            have c26z0 : (⟨#[67, 111, 110, 116, 97, 105, 110, 101, 114, 32]⟩ : ByteArray).size = 10 := rfl
            have c26b3 := c26
            try simp only [ByteArray.size_extract, ByteArray.size_append, c26z0] at c26b3
            have c26b4 := eq_false (Nat.not_lt.2 c26b3)
            by_cases c27 : (((⟨#[67, 111, 110, 116, 97, 105, 110, 101, 114, 32]⟩ : ByteArray) ++ a0_1) ++ (⟨#[32, 105, 115, 32, 104, 101, 108, 100, 32, 102, 111, 114, 32]⟩ : ByteArray)).size + t126.size ≤ 9223372036854775807
            · rw [if_pos c27] at H
              have c27b0 := eq_true c27
              have c27b1 : decide ((((⟨#[67, 111, 110, 116, 97, 105, 110, 101, 114, 32]⟩ : ByteArray) ++ a0_1) ++ (⟨#[32, 105, 115, 32, 104, 101, 108, 100, 32, 102, 111, 114, 32]⟩ : ByteArray)).size + t126.size ≤ 9223372036854775807) = true := decide_eq_true c27
              try have c27b2 : (9223372036854775807 < (((⟨#[67, 111, 110, 116, 97, 105, 110, 101, 114, 32]⟩ : ByteArray) ++ a0_1) ++ (⟨#[32, 105, 115, 32, 104, 101, 108, 100, 32, 102, 111, 114, 32]⟩ : ByteArray)).size + t126.size) = False := eq_false (Nat.not_lt.2 c27)
              have c27z0 : (⟨#[32, 105, 115, 32, 104, 101, 108, 100, 32, 102, 111, 114, 32]⟩ : ByteArray).size = 13 := rfl
              have c27z1 : (⟨#[67, 111, 110, 116, 97, 105, 110, 101, 114, 32]⟩ : ByteArray).size = 10 := rfl
              have c27b3 := c27
              try simp only [ByteArray.size_extract, ByteArray.size_append, c27z0, c27z1] at c27b3
              have c27b4 := eq_false (Nat.not_lt.2 c27b3)
              by_cases c28 : ((((⟨#[67, 111, 110, 116, 97, 105, 110, 101, 114, 32]⟩ : ByteArray) ++ a0_1) ++ (⟨#[32, 105, 115, 32, 104, 101, 108, 100, 32, 102, 111, 114, 32]⟩ : ByteArray)) ++ t126).size + 1 ≤ 9223372036854775807
              · rw [if_pos c28] at H
                have c28b0 := eq_true c28
                have c28b1 : decide (((((⟨#[67, 111, 110, 116, 97, 105, 110, 101, 114, 32]⟩ : ByteArray) ++ a0_1) ++ (⟨#[32, 105, 115, 32, 104, 101, 108, 100, 32, 102, 111, 114, 32]⟩ : ByteArray)) ++ t126).size + 1 ≤ 9223372036854775807) = true := decide_eq_true c28
                try have c28b2 : (9223372036854775807 < ((((⟨#[67, 111, 110, 116, 97, 105, 110, 101, 114, 32]⟩ : ByteArray) ++ a0_1) ++ (⟨#[32, 105, 115, 32, 104, 101, 108, 100, 32, 102, 111, 114, 32]⟩ : ByteArray)) ++ t126).size + 1) = False := eq_false (Nat.not_lt.2 c28)
                have c28z0 : (⟨#[32, 105, 115, 32, 104, 101, 108, 100, 32, 102, 111, 114, 32]⟩ : ByteArray).size = 13 := rfl
                have c28z1 : (⟨#[67, 111, 110, 116, 97, 105, 110, 101, 114, 32]⟩ : ByteArray).size = 10 := rfl
                have c28b3 := c28
                try simp only [ByteArray.size_extract, ByteArray.size_append, c28z0, c28z1] at c28b3
                have c28b4 := eq_false (Nat.not_lt.2 c28b3)
                obtain rfl := Option.some.inj H
                go_enter Tryd.func24, Tryd.ntmps24
                go_wp2_with (first | ((with_reducible refine Dh (N := 1) rfl ?_); refine Dl ?hg (N := 1) ?hd (cs := #[.int .i64 a0_0, .string a0_1, .int .i64 a0_2, .int .i64 a0_3]) (t := 27) ?hr ?_; (case hd => rfl); (case hg => rfl); (case hr => first | (go_simp; done) | (go_simp; rfl)); intro gb0 hg w29 hbox hb; have n0_ := Ac.mk (Au Ya_ hb); have n1_ := Ac.mk (hbox); have n2_ := Ac.mk ((by rw [hg]; exact (Az Ya_) : w.heap.size ≤ gb0)); have n3_ := Ac.mk ((by rw [hg]; exact (Az Ya_) : w.heap.size ≤ gb0)); clear HB; have HB := n0_; have BK0 := n1_; have GW0 := n2_; have GE0 := n3_; clear n0_ n1_ n2_ n3_; clear hb hbox hg; have hcz30_0 : w29.cell? ⟨gb0, 0, none⟩ = some (.int .i64 a0_0) := (Af BK0.out 0).trans rfl; have hcz30_1 : w29.cell? ⟨gb0, 1, none⟩ = some (.string a0_1) := (Af BK0.out 1).trans rfl; have hcz30_2 : w29.cell? ⟨gb0, 2, none⟩ = some (.int .i64 a0_2) := (Af BK0.out 2).trans rfl; have hcz30_3 : w29.cell? ⟨gb0, 3, none⟩ = some (.int .i64 a0_3) := (Af BK0.out 3).trans rfl; have hfz30_0 := Ag BK0.out 0; have hfz30_1 := Ag BK0.out 1; have hfz30_2 := Ag BK0.out 2; have hfz30_3 := Ag BK0.out 3) | ((with_reducible refine Aw (f := 32) rfl ?_); refine Bj (some 39) rfl rfl Tryd.func32 (by kernel_rfl) rfl #[.int .i64 a0_2] rfl Yb_ ?_; (with_reducible refine (Cc.calls k a0_2 t126 t127 _ A25.out).mono ?_); rintro e w31 ⟨rfl, hb⟩; refine ⟨_, rfl, ?_⟩; have n0_ := Ac.mk (Ce (g := gb0) (o := .cells #[.int .i64 a0_0, .string a0_1, .int .i64 a0_2, .int .i64 a0_3] 27 (0, 0)) Ye_ hb); have n1_ := Ac.mk (Au Yd_ hb); clear BK0; clear HB; have BK0 := n0_; have HB := n1_; clear n0_ n1_; (try clear hb); (try clear hb2); (try clear hk); (try clear hi)))
                go_ret
                exact ⟨by first | rfl | (simp [Aq, Ar] <;> rfl) | (simp [*, Aq, Ar] <;> rfl), by repeat (first | (with_reducible first | exact HB.out | apply Ae | apply Aa | apply Ad | refine Am ?_ GE0.out) | exact HB.out)⟩
              · rw [if_neg c28] at H
                exact absurd H (by simp)
            · rw [if_neg c27] at H
              exact absurd H (by simp)
          · rw [if_neg c26] at H
            exact absurd H (by simp)
        · rw [if_neg c24] at H
          have c24b0 : (a0_0 == 3) = false := beq_eq_false_iff_ne.mpr c24
          have c24b1 : (a0_0 != 3) = true := bne_iff_ne.mpr c24
          by_cases c32 : a0_0 = 4
          · rw [if_pos c32] at H
            have c32b0 : (a0_0 == 4) = true := beq_iff_eq.mpr c32
            have c32b1 : (a0_0 != 4) = false := bne_eq_false_iff_eq.mpr c32
            clear c32
            by_cases c33 : ((⟨#[67, 111, 110, 116, 97, 105, 110, 101, 114, 32]⟩ : ByteArray) ++ a0_1).size + 29 ≤ 9223372036854775807
            · rw [if_pos c33] at H
              have c33b0 := eq_true c33
              have c33b1 : decide (((⟨#[67, 111, 110, 116, 97, 105, 110, 101, 114, 32]⟩ : ByteArray) ++ a0_1).size + 29 ≤ 9223372036854775807) = true := decide_eq_true c33
              try have c33b2 : (9223372036854775807 < ((⟨#[67, 111, 110, 116, 97, 105, 110, 101, 114, 32]⟩ : ByteArray) ++ a0_1).size + 29) = False := eq_false (Nat.not_lt.2 c33)
              have c33z0 : (⟨#[67, 111, 110, 116, 97, 105, 110, 101, 114, 32]⟩ : ByteArray).size = 10 := rfl
              have c33b3 := c33
              try simp only [ByteArray.size_extract, ByteArray.size_append, c33z0] at c33b3
              have c33b4 := eq_false (Nat.not_lt.2 c33b3)
              replace H := Option.bind_eq_some_iff.mp H
              obtain ⟨t128, A340, H⟩ := H
              replace H : (if (((⟨#[67, 111, 110, 116, 97, 105, 110, 101, 114, 32]⟩ : ByteArray) ++ a0_1) ++ (⟨#[32, 105, 115, 32, 114, 101, 97, 100, 121, 32, 102, 111, 114, 32, 112, 105, 99, 107, 117, 112, 32, 105, 110, 32, 115, 108, 111, 116, 32]⟩ : ByteArray)).size + t128.size ≤ 9223372036854775807 then (if ((((⟨#[67, 111, 110, 116, 97, 105, 110, 101, 114, 32]⟩ : ByteArray) ++ a0_1) ++ (⟨#[32, 105, 115, 32, 114, 101, 97, 100, 121, 32, 102, 111, 114, 32, 112, 105, 99, 107, 117, 112, 32, 105, 110, 32, 115, 108, 111, 116, 32]⟩ : ByteArray)) ++ t128).size + 1 ≤ 9223372036854775807 then (some (((((⟨#[67, 111, 110, 116, 97, 105, 110, 101, 114, 32]⟩ : ByteArray) ++ a0_1) ++ (⟨#[32, 105, 115, 32, 114, 101, 97, 100, 121, 32, 102, 111, 114, 32, 112, 105, 99, 107, 117, 112, 32, 105, 110, 32, 115, 108, 111, 116, 32]⟩ : ByteArray)) ++ t128) ++ (⟨#[46]⟩ : ByteArray))) else (none)) else (none)) = some r := H
              have A34 := Ac.mk A340
              clear A340
              by_cases c35 : (((⟨#[67, 111, 110, 116, 97, 105, 110, 101, 114, 32]⟩ : ByteArray) ++ a0_1) ++ (⟨#[32, 105, 115, 32, 114, 101, 97, 100, 121, 32, 102, 111, 114, 32, 112, 105, 99, 107, 117, 112, 32, 105, 110, 32, 115, 108, 111, 116, 32]⟩ : ByteArray)).size + t128.size ≤ 9223372036854775807
              · rw [if_pos c35] at H
                have c35b0 := eq_true c35
                have c35b1 : decide ((((⟨#[67, 111, 110, 116, 97, 105, 110, 101, 114, 32]⟩ : ByteArray) ++ a0_1) ++ (⟨#[32, 105, 115, 32, 114, 101, 97, 100, 121, 32, 102, 111, 114, 32, 112, 105, 99, 107, 117, 112, 32, 105, 110, 32, 115, 108, 111, 116, 32]⟩ : ByteArray)).size + t128.size ≤ 9223372036854775807) = true := decide_eq_true c35
                try have c35b2 : (9223372036854775807 < (((⟨#[67, 111, 110, 116, 97, 105, 110, 101, 114, 32]⟩ : ByteArray) ++ a0_1) ++ (⟨#[32, 105, 115, 32, 114, 101, 97, 100, 121, 32, 102, 111, 114, 32, 112, 105, 99, 107, 117, 112, 32, 105, 110, 32, 115, 108, 111, 116, 32]⟩ : ByteArray)).size + t128.size) = False := eq_false (Nat.not_lt.2 c35)
                have c35z0 : (⟨#[32, 105, 115, 32, 114, 101, 97, 100, 121, 32, 102, 111, 114, 32, 112, 105, 99, 107, 117, 112, 32, 105, 110, 32, 115, 108, 111, 116, 32]⟩ : ByteArray).size = 29 := rfl
                have c35z1 : (⟨#[67, 111, 110, 116, 97, 105, 110, 101, 114, 32]⟩ : ByteArray).size = 10 := rfl
                have c35b3 := c35
                try simp only [ByteArray.size_extract, ByteArray.size_append, c35z0, c35z1] at c35b3
                have c35b4 := eq_false (Nat.not_lt.2 c35b3)
                by_cases c36 : ((((⟨#[67, 111, 110, 116, 97, 105, 110, 101, 114, 32]⟩ : ByteArray) ++ a0_1) ++ (⟨#[32, 105, 115, 32, 114, 101, 97, 100, 121, 32, 102, 111, 114, 32, 112, 105, 99, 107, 117, 112, 32, 105, 110, 32, 115, 108, 111, 116, 32]⟩ : ByteArray)) ++ t128).size + 1 ≤ 9223372036854775807
                · rw [if_pos c36] at H
                  have c36b0 := eq_true c36
                  have c36b1 : decide (((((⟨#[67, 111, 110, 116, 97, 105, 110, 101, 114, 32]⟩ : ByteArray) ++ a0_1) ++ (⟨#[32, 105, 115, 32, 114, 101, 97, 100, 121, 32, 102, 111, 114, 32, 112, 105, 99, 107, 117, 112, 32, 105, 110, 32, 115, 108, 111, 116, 32]⟩ : ByteArray)) ++ t128).size + 1 ≤ 9223372036854775807) = true := decide_eq_true c36
                  try have c36b2 : (9223372036854775807 < ((((⟨#[67, 111, 110, 116, 97, 105, 110, 101, 114, 32]⟩ : ByteArray) ++ a0_1) ++ (⟨#[32, 105, 115, 32, 114, 101, 97, 100, 121, 32, 102, 111, 114, 32, 112, 105, 99, 107, 117, 112, 32, 105, 110, 32, 115, 108, 111, 116, 32]⟩ : ByteArray)) ++ t128).size + 1) = False := eq_false (Nat.not_lt.2 c36)
                  have c36z0 : (⟨#[32, 105, 115, 32, 114, 101, 97, 100, 121, 32, 102, 111, 114, 32, 112, 105, 99, 107, 117, 112, 32, 105, 110, 32, 115, 108, 111, 116, 32]⟩ : ByteArray).size = 29 := rfl
                  have c36z1 : (⟨#[67, 111, 110, 116, 97, 105, 110, 101, 114, 32]⟩ : ByteArray).size = 10 := rfl
                  have c36b3 := c36
                  try simp only [ByteArray.size_extract, ByteArray.size_append, c36z0, c36z1] at c36b3
                  have c36b4 := eq_false (Nat.not_lt.2 c36b3)
                  obtain rfl := Option.some.inj H
                  go_enter Tryd.func24, Tryd.ntmps24
                  go_wp2_with (first | ((with_reducible refine Dh (N := 1) rfl ?_); refine Dl ?hg (N := 1) ?hd (cs := #[.int .i64 a0_0, .string a0_1, .int .i64 a0_2, .int .i64 a0_3]) (t := 27) ?hr ?_; (case hd => rfl); (case hg => rfl); (case hr => first | (go_simp; done) | (go_simp; rfl)); intro gb0 hg w37 hbox hb; have n0_ := Ac.mk (Au Ya_ hb); have n1_ := Ac.mk (hbox); have n2_ := Ac.mk ((by rw [hg]; exact (Az Ya_) : w.heap.size ≤ gb0)); have n3_ := Ac.mk ((by rw [hg]; exact (Az Ya_) : w.heap.size ≤ gb0)); clear HB; have HB := n0_; have BK0 := n1_; have GW0 := n2_; have GE0 := n3_; clear n0_ n1_ n2_ n3_; clear hb hbox hg; have hcz38_0 : w37.cell? ⟨gb0, 0, none⟩ = some (.int .i64 a0_0) := (Af BK0.out 0).trans rfl; have hcz38_1 : w37.cell? ⟨gb0, 1, none⟩ = some (.string a0_1) := (Af BK0.out 1).trans rfl; have hcz38_2 : w37.cell? ⟨gb0, 2, none⟩ = some (.int .i64 a0_2) := (Af BK0.out 2).trans rfl; have hcz38_3 : w37.cell? ⟨gb0, 3, none⟩ = some (.int .i64 a0_3) := (Af BK0.out 3).trans rfl; have hfz38_0 := Ag BK0.out 0; have hfz38_1 := Ag BK0.out 1; have hfz38_2 := Ag BK0.out 2; have hfz38_3 := Ag BK0.out 3) | ((with_reducible refine Aw (f := 39) rfl ?_); refine Bj (some 53) rfl rfl Tryd.func39 (by kernel_rfl) rfl #[.int .i64 a0_2] rfl Yb_ ?_; (with_reducible refine (Ci.calls k a0_2 t128 _ A34.out).mono ?_); rintro e w39 ⟨rfl, hb⟩; refine ⟨_, rfl, ?_⟩; have n0_ := Ac.mk (Ce (g := gb0) (o := .cells #[.int .i64 a0_0, .string a0_1, .int .i64 a0_2, .int .i64 a0_3] 27 (0, 0)) Ye_ hb); have n1_ := Ac.mk (Au Yd_ hb); clear BK0; clear HB; have BK0 := n0_; have HB := n1_; clear n0_ n1_; (try clear hb); (try clear hb2); (try clear hk); (try clear hi)))
                  go_ret
                  exact ⟨by first | rfl | (simp [Aq, Ar] <;> rfl) | (simp [*, Aq, Ar] <;> rfl), by repeat (first | (with_reducible first | exact HB.out | apply Ae | apply Aa | apply Ad | refine Am ?_ GE0.out) | exact HB.out)⟩
                · rw [if_neg c36] at H
                  exact absurd H (by simp)
              · rw [if_neg c35] at H
                exact absurd H (by simp)
            · rw [if_neg c33] at H
              exact absurd H (by simp)
          · rw [if_neg c32] at H
            have c32b0 : (a0_0 == 4) = false := beq_eq_false_iff_ne.mpr c32
            have c32b1 : (a0_0 != 4) = true := bne_iff_ne.mpr c32
            by_cases c40 : ((⟨#[67, 111, 110, 116, 97, 105, 110, 101, 114, 32]⟩ : ByteArray) ++ a0_1).size + 6 ≤ 9223372036854775807
            · rw [if_pos c40] at H
              have c40b0 := eq_true c40
              have c40b1 : decide (((⟨#[67, 111, 110, 116, 97, 105, 110, 101, 114, 32]⟩ : ByteArray) ++ a0_1).size + 6 ≤ 9223372036854775807) = true := decide_eq_true c40
              try have c40b2 : (9223372036854775807 < ((⟨#[67, 111, 110, 116, 97, 105, 110, 101, 114, 32]⟩ : ByteArray) ++ a0_1).size + 6) = False := eq_false (Nat.not_lt.2 c40)
              have c40z0 : (⟨#[67, 111, 110, 116, 97, 105, 110, 101, 114, 32]⟩ : ByteArray).size = 10 := rfl
              have c40b3 := c40
              try simp only [ByteArray.size_extract, ByteArray.size_append, c40z0] at c40b3
              have c40b4 := eq_false (Nat.not_lt.2 c40b3)
              replace H := Option.bind_eq_some_iff.mp H
              obtain ⟨t129, A410, H⟩ := H
              replace H : (if (((⟨#[67, 111, 110, 116, 97, 105, 110, 101, 114, 32]⟩ : ByteArray) ++ a0_1) ++ (⟨#[32, 111, 119, 101, 115, 32]⟩ : ByteArray)).size + t129.size ≤ 9223372036854775807 then (if ((((⟨#[67, 111, 110, 116, 97, 105, 110, 101, 114, 32]⟩ : ByteArray) ++ a0_1) ++ (⟨#[32, 111, 119, 101, 115, 32]⟩ : ByteArray)) ++ t129).size + 5 ≤ 9223372036854775807 then ((Fq.f k a0_3).bind fun t130 => (if (((((⟨#[67, 111, 110, 116, 97, 105, 110, 101, 114, 32]⟩ : ByteArray) ++ a0_1) ++ (⟨#[32, 111, 119, 101, 115, 32]⟩ : ByteArray)) ++ t129) ++ (⟨#[32, 102, 111, 114, 32]⟩ : ByteArray)).size + t130.size ≤ 9223372036854775807 then (if ((((((⟨#[67, 111, 110, 116, 97, 105, 110, 101, 114, 32]⟩ : ByteArray) ++ a0_1) ++ (⟨#[32, 111, 119, 101, 115, 32]⟩ : ByteArray)) ++ t129) ++ (⟨#[32, 102, 111, 114, 32]⟩ : ByteArray)) ++ t130).size + 1 ≤ 9223372036854775807 then (some (((((((⟨#[67, 111, 110, 116, 97, 105, 110, 101, 114, 32]⟩ : ByteArray) ++ a0_1) ++ (⟨#[32, 111, 119, 101, 115, 32]⟩ : ByteArray)) ++ t129) ++ (⟨#[32, 102, 111, 114, 32]⟩ : ByteArray)) ++ t130) ++ (⟨#[46]⟩ : ByteArray))) else (none)) else (none))) else (none)) else (none)) = some r := H
              have A41 := Ac.mk A410
              clear A410
              by_cases c42 : (((⟨#[67, 111, 110, 116, 97, 105, 110, 101, 114, 32]⟩ : ByteArray) ++ a0_1) ++ (⟨#[32, 111, 119, 101, 115, 32]⟩ : ByteArray)).size + t129.size ≤ 9223372036854775807
              · rw [if_pos c42] at H
                have c42b0 := eq_true c42
                have c42b1 : decide ((((⟨#[67, 111, 110, 116, 97, 105, 110, 101, 114, 32]⟩ : ByteArray) ++ a0_1) ++ (⟨#[32, 111, 119, 101, 115, 32]⟩ : ByteArray)).size + t129.size ≤ 9223372036854775807) = true := decide_eq_true c42
                try have c42b2 : (9223372036854775807 < (((⟨#[67, 111, 110, 116, 97, 105, 110, 101, 114, 32]⟩ : ByteArray) ++ a0_1) ++ (⟨#[32, 111, 119, 101, 115, 32]⟩ : ByteArray)).size + t129.size) = False := eq_false (Nat.not_lt.2 c42)
                have c42z0 : (⟨#[32, 111, 119, 101, 115, 32]⟩ : ByteArray).size = 6 := rfl
                have c42z1 : (⟨#[67, 111, 110, 116, 97, 105, 110, 101, 114, 32]⟩ : ByteArray).size = 10 := rfl
                have c42b3 := c42
                try simp only [ByteArray.size_extract, ByteArray.size_append, c42z0, c42z1] at c42b3
                have c42b4 := eq_false (Nat.not_lt.2 c42b3)
                by_cases c43 : ((((⟨#[67, 111, 110, 116, 97, 105, 110, 101, 114, 32]⟩ : ByteArray) ++ a0_1) ++ (⟨#[32, 111, 119, 101, 115, 32]⟩ : ByteArray)) ++ t129).size + 5 ≤ 9223372036854775807
                · rw [if_pos c43] at H
                  have c43b0 := eq_true c43
                  have c43b1 : decide (((((⟨#[67, 111, 110, 116, 97, 105, 110, 101, 114, 32]⟩ : ByteArray) ++ a0_1) ++ (⟨#[32, 111, 119, 101, 115, 32]⟩ : ByteArray)) ++ t129).size + 5 ≤ 9223372036854775807) = true := decide_eq_true c43
                  try have c43b2 : (9223372036854775807 < ((((⟨#[67, 111, 110, 116, 97, 105, 110, 101, 114, 32]⟩ : ByteArray) ++ a0_1) ++ (⟨#[32, 111, 119, 101, 115, 32]⟩ : ByteArray)) ++ t129).size + 5) = False := eq_false (Nat.not_lt.2 c43)
                  have c43z0 : (⟨#[32, 111, 119, 101, 115, 32]⟩ : ByteArray).size = 6 := rfl
                  have c43z1 : (⟨#[67, 111, 110, 116, 97, 105, 110, 101, 114, 32]⟩ : ByteArray).size = 10 := rfl
                  have c43b3 := c43
                  try simp only [ByteArray.size_extract, ByteArray.size_append, c43z0, c43z1] at c43b3
                  have c43b4 := eq_false (Nat.not_lt.2 c43b3)
                  replace H := Option.bind_eq_some_iff.mp H
                  obtain ⟨t130, A440, H⟩ := H
                  replace H : (if (((((⟨#[67, 111, 110, 116, 97, 105, 110, 101, 114, 32]⟩ : ByteArray) ++ a0_1) ++ (⟨#[32, 111, 119, 101, 115, 32]⟩ : ByteArray)) ++ t129) ++ (⟨#[32, 102, 111, 114, 32]⟩ : ByteArray)).size + t130.size ≤ 9223372036854775807 then (if ((((((⟨#[67, 111, 110, 116, 97, 105, 110, 101, 114, 32]⟩ : ByteArray) ++ a0_1) ++ (⟨#[32, 111, 119, 101, 115, 32]⟩ : ByteArray)) ++ t129) ++ (⟨#[32, 102, 111, 114, 32]⟩ : ByteArray)) ++ t130).size + 1 ≤ 9223372036854775807 then (some (((((((⟨#[67, 111, 110, 116, 97, 105, 110, 101, 114, 32]⟩ : ByteArray) ++ a0_1) ++ (⟨#[32, 111, 119, 101, 115, 32]⟩ : ByteArray)) ++ t129) ++ (⟨#[32, 102, 111, 114, 32]⟩ : ByteArray)) ++ t130) ++ (⟨#[46]⟩ : ByteArray))) else (none)) else (none)) = some r := H
                  have A44 := Ac.mk A440
                  clear A440
                  by_cases c45 : (((((⟨#[67, 111, 110, 116, 97, 105, 110, 101, 114, 32]⟩ : ByteArray) ++ a0_1) ++ (⟨#[32, 111, 119, 101, 115, 32]⟩ : ByteArray)) ++ t129) ++ (⟨#[32, 102, 111, 114, 32]⟩ : ByteArray)).size + t130.size ≤ 9223372036854775807
                  · rw [if_pos c45] at H
                    have c45b0 := eq_true c45
                    have c45b1 : decide ((((((⟨#[67, 111, 110, 116, 97, 105, 110, 101, 114, 32]⟩ : ByteArray) ++ a0_1) ++ (⟨#[32, 111, 119, 101, 115, 32]⟩ : ByteArray)) ++ t129) ++ (⟨#[32, 102, 111, 114, 32]⟩ : ByteArray)).size + t130.size ≤ 9223372036854775807) = true := decide_eq_true c45
                    try have c45b2 : (9223372036854775807 < (((((⟨#[67, 111, 110, 116, 97, 105, 110, 101, 114, 32]⟩ : ByteArray) ++ a0_1) ++ (⟨#[32, 111, 119, 101, 115, 32]⟩ : ByteArray)) ++ t129) ++ (⟨#[32, 102, 111, 114, 32]⟩ : ByteArray)).size + t130.size) = False := eq_false (Nat.not_lt.2 c45)
                    have c45z0 : (⟨#[32, 102, 111, 114, 32]⟩ : ByteArray).size = 5 := rfl
                    have c45z1 : (⟨#[32, 111, 119, 101, 115, 32]⟩ : ByteArray).size = 6 := rfl
                    have c45z2 : (⟨#[67, 111, 110, 116, 97, 105, 110, 101, 114, 32]⟩ : ByteArray).size = 10 := rfl
                    have c45b3 := c45
                    try simp only [ByteArray.size_extract, ByteArray.size_append, c45z0, c45z1, c45z2] at c45b3
                    have c45b4 := eq_false (Nat.not_lt.2 c45b3)
                    by_cases c46 : ((((((⟨#[67, 111, 110, 116, 97, 105, 110, 101, 114, 32]⟩ : ByteArray) ++ a0_1) ++ (⟨#[32, 111, 119, 101, 115, 32]⟩ : ByteArray)) ++ t129) ++ (⟨#[32, 102, 111, 114, 32]⟩ : ByteArray)) ++ t130).size + 1 ≤ 9223372036854775807
                    · rw [if_pos c46] at H
                      have c46b0 := eq_true c46
                      have c46b1 : decide (((((((⟨#[67, 111, 110, 116, 97, 105, 110, 101, 114, 32]⟩ : ByteArray) ++ a0_1) ++ (⟨#[32, 111, 119, 101, 115, 32]⟩ : ByteArray)) ++ t129) ++ (⟨#[32, 102, 111, 114, 32]⟩ : ByteArray)) ++ t130).size + 1 ≤ 9223372036854775807) = true := decide_eq_true c46
                      try have c46b2 : (9223372036854775807 < ((((((⟨#[67, 111, 110, 116, 97, 105, 110, 101, 114, 32]⟩ : ByteArray) ++ a0_1) ++ (⟨#[32, 111, 119, 101, 115, 32]⟩ : ByteArray)) ++ t129) ++ (⟨#[32, 102, 111, 114, 32]⟩ : ByteArray)) ++ t130).size + 1) = False := eq_false (Nat.not_lt.2 c46)
                      have c46z0 : (⟨#[32, 102, 111, 114, 32]⟩ : ByteArray).size = 5 := rfl
                      have c46z1 : (⟨#[32, 111, 119, 101, 115, 32]⟩ : ByteArray).size = 6 := rfl
                      have c46z2 : (⟨#[67, 111, 110, 116, 97, 105, 110, 101, 114, 32]⟩ : ByteArray).size = 10 := rfl
                      have c46b3 := c46
                      try simp only [ByteArray.size_extract, ByteArray.size_append, c46z0, c46z1, c46z2] at c46b3
                      have c46b4 := eq_false (Nat.not_lt.2 c46b3)
                      obtain rfl := Option.some.inj H
                      go_enter Tryd.func24, Tryd.ntmps24
                      try go_wp2_with (first | ((with_reducible refine Dh (N := 1) rfl ?_); refine Dl ?hg (N := 1) ?hd (cs := #[.int .i64 a0_0, .string a0_1, .int .i64 a0_2, .int .i64 a0_3]) (t := 27) ?hr ?_; (case hd => rfl); (case hg => rfl); (case hr => first | (go_simp; done) | (go_simp; rfl)); intro gb0 hg w47 hbox hb; have n0_ := Ac.mk (Au Ya_ hb); have n1_ := Ac.mk (hbox); have n2_ := Ac.mk ((by rw [hg]; exact (Az Ya_) : w.heap.size ≤ gb0)); have n3_ := Ac.mk ((by rw [hg]; exact (Az Ya_) : w.heap.size ≤ gb0)); clear HB; have HB := n0_; have BK0 := n1_; have GW0 := n2_; have GE0 := n3_; clear n0_ n1_ n2_ n3_; clear hb hbox hg; have hcz48_0 : w47.cell? ⟨gb0, 0, none⟩ = some (.int .i64 a0_0) := (Af BK0.out 0).trans rfl; have hcz48_1 : w47.cell? ⟨gb0, 1, none⟩ = some (.string a0_1) := (Af BK0.out 1).trans rfl; have hcz48_2 : w47.cell? ⟨gb0, 2, none⟩ = some (.int .i64 a0_2) := (Af BK0.out 2).trans rfl; have hcz48_3 : w47.cell? ⟨gb0, 3, none⟩ = some (.int .i64 a0_3) := (Af BK0.out 3).trans rfl; have hfz48_0 := Ag BK0.out 0; have hfz48_1 := Ag BK0.out 1; have hfz48_2 := Ag BK0.out 2; have hfz48_3 := Ag BK0.out 3))
                      have n0_ := Ac.mk (Aj BK0.out)
                      have n1_ := Ac.mk (Ad HB.out)
                      clear BK0
                      clear HB
                      have BK0 := n0_
                      have HB := n1_
                      clear n0_ n1_
                      refine G7 (n := 13) (S := fun w' => w'.cell? ⟨gb0, 0, none⟩ = some (.int .i64 a0_0) ∧ w'.cell? ⟨gb0, 1, none⟩ = some (.string a0_1) ∧ w'.cell? ⟨gb0, 2, none⟩ = some (.int .i64 a0_2) ∧ w'.cell? ⟨gb0, 3, none⟩ = some (.int .i64 a0_3)) (ds := []) #[false, false, false, false, false, false, false, false, false, false, false, false, false] (by kernel_rfl) rfl rfl ⟨(Af BK0.out 0).trans rfl, (Af BK0.out 1).trans rfl, (Af BK0.out 2).trans rfl, (Af BK0.out 3).trans rfl⟩ (fun hHeld => ?_); refine Gf Dn.tab12 Dn.bits12 (fun HT_ HW_ => ?_)
                      generalize w47.drew = w49 at BK0 HB hHeld ⊢
                      refine Du (i := 0) (N := some 56) (v := ?_) (a' := ?_) #[true, false, false, false, false, false, false, false, false, false, false, false, false] rfl rfl (Di HT_.out (by kernel_rfl)) (fun _ _ _ h => h) (Or.inl ⟨by rfl, ?_⟩) ?_ ?_
                      rotate_left
                      · intro w'
                        go_simp
                        first | with_reducible rfl | (rw [if_neg (by omega)]; try with_reducible rfl)
                      rotate_left
                      · simp only [Act.put, List.setIfInBounds_toArray, List.set_cons_zero, List.set_cons_succ, Bz, Cb]
                        rfl
                      refine Du (i := 1) (N := some 57) (v := ?_) (a' := ?_) #[true, true, false, false, false, false, false, false, false, false, false, false, false] rfl rfl (Di HT_.out (by kernel_rfl)) (fun _ _ _ h => h) (Or.inl ⟨by rfl, ?_⟩) ?_ ?_
                      rotate_left
                      · intro w'
                        go_simp
                        first | with_reducible rfl | (rw [if_neg (by omega)]; try with_reducible rfl)
                      rotate_left
                      · simp only [Act.put, List.setIfInBounds_toArray, List.set_cons_zero, List.set_cons_succ, Bz, Cb]
                        rfl
                      refine Du (i := 2) (N := some 58) (v := ?_) (a' := ?_) #[true, true, true, false, false, false, false, false, false, false, false, false, false] rfl rfl (Di HT_.out (by kernel_rfl)) (fun _ _ _ h => h) (Or.inl ⟨by rfl, ?_⟩) ?_ ?_
                      rotate_left
                      · intro w'
                        go_simp
                        first | with_reducible rfl | (rw [if_neg (by omega)]; try with_reducible rfl)
                      rotate_left
                      · simp only [Act.put, List.setIfInBounds_toArray, List.set_cons_zero, List.set_cons_succ, Bz, Cb]
                        rfl
                      refine Du (i := 7) (N := some 63) (v := ?_) (a' := ?_) #[true, true, true, false, false, false, false, true, false, false, false, false, false] rfl rfl (Di HT_.out (by kernel_rfl)) (fun _ _ _ h => h) (Or.inl ⟨by rfl, ?_⟩) ?_ ?_
                      rotate_left
                      · intro w'
                        go_simp
                        first | with_reducible rfl | (rw [if_neg (by omega)]; try with_reducible rfl)
                      rotate_left
                      · simp only [Act.put, List.setIfInBounds_toArray, List.set_cons_zero, List.set_cons_succ, Bz, Cb]
                        rfl
                      refine Fv (i := 3) (N := some 59) (v := ?_) (a' := ?_) #[true, true, true, true, false, false, false, true, false, false, false, false, false] rfl rfl (Et HT_.out HW_.out (by kernel_rfl)) (fun _ _ _ h => h) (Or.inl ⟨by rfl, ?_⟩) hHeld ?_ ?_
                      rotate_left
                      · rintro w' ⟨s0, s1, s2, s3⟩
                        go_simp
                        first | with_reducible rfl | (rw [if_neg (by omega)]; try with_reducible rfl)
                      rotate_left
                      · simp only [Act.put, List.setIfInBounds_toArray, List.set_cons_zero, List.set_cons_succ, Bz, Cb]
                        rfl
                      refine Fv (i := 8) (N := some 64) (v := ?_) (a' := ?_) #[true, true, true, true, false, false, false, true, true, false, false, false, false] rfl rfl (Et HT_.out HW_.out (by kernel_rfl)) (fun _ _ _ h => h) (Or.inl ⟨by rfl, ?_⟩) hHeld ?_ ?_
                      rotate_left
                      · rintro w' ⟨s0, s1, s2, s3⟩
                        go_simp
                        first | with_reducible rfl | (rw [if_neg (by omega)]; try with_reducible rfl)
                      rotate_left
                      · simp only [Act.put, List.setIfInBounds_toArray, List.set_cons_zero, List.set_cons_succ, Bz, Cb]
                        rfl
                      refine one_ (i := 4) (N := some 60) #[true, true, true, true, true, false, false, true, true, false, false, false, false] rfl rfl (Gg HT_.out (by kernel_rfl)) (by decide) (fun K hK => ?_)
                      refine Gn Tryd.func39 (by kernel_rfl) rfl #[.int .i64 a0_2] (by rfl) rfl rfl Yb_ ?_
                      with_reducible refine (Ci.calls k a0_2 t129 _ A41.out).mono ?_
                      rintro e w50 ⟨rfl, hb⟩
                      refine ⟨_, rfl, ?_⟩
                      have n0_ := Ac.mk (Ce (g := gb0) (o := .cells #[.int .i64 a0_0, .string a0_1, .int .i64 a0_2, .int .i64 a0_3] 27 (0, 0)) Ye_ hb)
                      have n1_ := Ac.mk (Au Yd_ hb)
                      clear BK0
                      clear HB
                      have BK0 := n0_
                      have HB := n1_
                      clear n0_ n1_
                      (try clear hb)
                      (try clear hb2)
                      (try clear hk)
                      (try clear hi)
                      refine hK.out _ _ ⟨(Af BK0.out 0).trans rfl, (Af BK0.out 1).trans rfl, (Af BK0.out 2).trans rfl, (Af BK0.out 3).trans rfl⟩ (fun hHeld => ?_)
                      clear hK K
                      refine Gp (a' := ?_) ?_ ?_
                      rotate_left
                      · show Act.put _ (some 60) _ = _
                        simp only [Act.put, List.setIfInBounds_toArray, List.set_cons_zero, List.set_cons_succ, Bz, Cb]
                        rfl
                      refine Du (i := 5) (N := some 61) (v := ?_) (a' := ?_) #[true, true, true, true, true, true, false, true, true, false, false, false, false] rfl rfl (Di HT_.out (by kernel_rfl)) (fun _ _ _ h => h) (Or.inl ⟨by rfl, ?_⟩) ?_ ?_
                      rotate_left
                      · intro w'
                        go_simp
                        first | with_reducible rfl | (rw [if_neg (by omega)]; try with_reducible rfl)
                      rotate_left
                      · simp only [Act.put, List.setIfInBounds_toArray, List.set_cons_zero, List.set_cons_succ, Bz, Cb]
                        rfl
                      refine Du (i := 6) (N := some 62) (v := ?_) (a' := ?_) #[true, true, true, true, true, true, true, true, true, false, false, false, false] rfl rfl (Di HT_.out (by kernel_rfl)) (fun _ _ _ h => h) (Or.inl ⟨by rfl, ?_⟩) ?_ ?_
                      rotate_left
                      · intro w'
                        go_simp
                        first | with_reducible rfl | (rw [if_neg (by omega)]; try with_reducible rfl)
                      rotate_left
                      · simp only [Act.put, List.setIfInBounds_toArray, List.set_cons_zero, List.set_cons_succ, Bz, Cb]
                        rfl
                      refine one_ (i := 9) (N := some 65) #[true, true, true, true, true, true, true, true, true, true, false, false, false] rfl rfl (Gg HT_.out (by kernel_rfl)) (by decide) (fun K hK => ?_)
                      refine Gn Tryd.func40 (by kernel_rfl) rfl #[.int .i64 a0_3] (by rfl) rfl rfl Yb_ ?_
                      with_reducible refine (Fq.calls k a0_3 t130 _ A44.out).mono ?_
                      rintro e w51 ⟨rfl, hb⟩
                      refine ⟨_, rfl, ?_⟩
                      have n0_ := Ac.mk (Ce (g := gb0) (o := .cells #[.int .i64 a0_0, .string a0_1, .int .i64 a0_2, .int .i64 a0_3] 27 (0, 0)) Ye_ hb)
                      have n1_ := Ac.mk (Au Yd_ hb)
                      clear BK0
                      clear HB
                      have BK0 := n0_
                      have HB := n1_
                      clear n0_ n1_
                      (try clear hb)
                      (try clear hb2)
                      (try clear hk)
                      (try clear hi)
                      refine hK.out _ _ ⟨(Af BK0.out 0).trans rfl, (Af BK0.out 1).trans rfl, (Af BK0.out 2).trans rfl, (Af BK0.out 3).trans rfl⟩ (fun hHeld => ?_)
                      clear hK K
                      refine Gp (a' := ?_) ?_ ?_
                      rotate_left
                      · show Act.put _ (some 65) _ = _
                        simp only [Act.put, List.setIfInBounds_toArray, List.set_cons_zero, List.set_cons_succ, Bz, Cb]
                        rfl
                      refine Du (i := 10) (N := some 66) (v := ?_) (a' := ?_) #[true, true, true, true, true, true, true, true, true, true, true, false, false] rfl rfl (Di HT_.out (by kernel_rfl)) (fun _ _ _ h => h) (Or.inl ⟨by rfl, ?_⟩) ?_ ?_
                      rotate_left
                      · intro w'
                        go_simp
                        first | with_reducible rfl | (rw [if_neg (by omega)]; try with_reducible rfl)
                      rotate_left
                      · simp only [Act.put, List.setIfInBounds_toArray, List.set_cons_zero, List.set_cons_succ, Bz, Cb]
                        rfl
                      refine Du (i := 11) (N := some 67) (v := ?_) (a' := ?_) #[true, true, true, true, true, true, true, true, true, true, true, true, false] rfl rfl (Di HT_.out (by kernel_rfl)) (fun _ _ _ h => h) (Or.inl ⟨by rfl, ?_⟩) ?_ ?_
                      rotate_left
                      · intro w'
                        go_simp
                        first | with_reducible rfl | (rw [if_neg (by omega)]; try with_reducible rfl)
                      rotate_left
                      · simp only [Act.put, List.setIfInBounds_toArray, List.set_cons_zero, List.set_cons_succ, Bz, Cb]
                        rfl
                      refine Du (i := 12) (N := some 2) (v := ?_) (a' := ?_) #[true, true, true, true, true, true, true, true, true, true, true, true, true] rfl rfl (Di HT_.out (by kernel_rfl)) (fun _ _ _ h => h) (Or.inl ⟨by rfl, ?_⟩) ?_ ?_
                      rotate_left
                      · intro w'
                        go_simp
                        first | with_reducible rfl | (rw [if_neg (by omega)]; try with_reducible rfl)
                      rotate_left
                      · simp only [Act.put, List.setIfInBounds_toArray, List.set_cons_zero, List.set_cons_succ, Bz, Cb]
                        rfl
                      refine done_ (Gv HT_.out (by kernel_rfl)) ?_
                      try go_wp2
                      go_ret
                      exact ⟨by first | rfl | (simp [Aq, Ar] <;> rfl) | (simp [*, Aq, Ar] <;> rfl), by repeat (first | (with_reducible first | exact HB.out | apply Ae | apply Aa | apply Ad | refine Am ?_ GE0.out) | exact HB.out)⟩
                    · rw [if_neg c46] at H
                      exact absurd H (by simp)
                  · rw [if_neg c45] at H
                    exact absurd H (by simp)
                · rw [if_neg c43] at H
                  exact absurd H (by simp)
              · rw [if_neg c42] at H
                exact absurd H (by simp)
            · rw [if_neg c40] at H
              exact absurd H (by simp)
  · rw [if_neg c2] at H
    exact absurd H (by simp)
end Go.Proofs.YtghnljoaklmakaaDoor.X

namespace Go.Proofs.YtghnljoaklmakaaDoor.X
open Go.RowKit Go.Proofs.YtghnljoaklmakaaDoorW.PrintWords Go.Proofs.YtghnljoaklmakaaDoorW.PrintLast Go.Proofs.YtghnljoaklmakaaDoorW.PrintMore
attribute [local go_sem] Ea Eb Eh Eg Dz D5 Ec D9
open Go.Proofs.YtghnljoaklmakaaDoorG
def Dy.l0 : Nat → ByteArray → Int → Option (Bool)
  | 0, _, _ => none
  | k + 1, x0, x3 => if x3 < 7 then (if x3 < 3 then (if 0 ≤ x3 then (if x3 < (x0.size : Int) then (if (bt x0 x3) < 65 then (some false) else (if (bt x0 x3) > 90 then (some false) else (if x3 > 2 then (if (bt x0 x3) < 48 then (some false) else (if (bt x0 x3) > 57 then (some false) else (Dy.l0 k x0 (wrap64 (x3 + 1))))) else (Dy.l0 k x0 (wrap64 (x3 + 1)))))) else (none)) else (none)) else (if x3 > 2 then (if 0 ≤ x3 then (if x3 < (x0.size : Int) then (if (bt x0 x3) < 48 then (some false) else (if (bt x0 x3) > 57 then (some false) else (Dy.l0 k x0 (wrap64 (x3 + 1))))) else (none)) else (none)) else (Dy.l0 k x0 (wrap64 (x3 + 1))))) else (some true)
def Dy.f (k : Nat) (a0 : ByteArray) : Option (Bool) := if (a0.size : Int) = 7 then (Dy.l0 k a0 0) else (some false)
theorem Dy.Ed : ∀ k, (∀ y0 y1, LeO (Dy.l0 k y0 y1) (Dy.l0 (k + 1) y0 y1))
  | 0 => fun _ _ r h => by simp [Dy.l0] at h
  | k + 1 => by
    have ih0 := Dy.Ed k
    · intro y0 y1
      unfold Dy.l0
      repeat' first
      | (with_reducible exact ih0 _ _)
      | (with_reducible exact LeO.refl _)
      | (with_reducible exact LeO.none _)
      | (with_reducible refine LeO.ite ?_ ?_)
      | (with_reducible refine LeO.bind ?_ (fun _ => ?_))
      | exact ih0 _ _
      | exact LeO.none _
      | refine LeO.ite ?_ ?_
      | refine LeO.bind ?_ (fun _ => ?_)
theorem Dy.mono : ∀ a0 k, LeO (Dy.f k a0) (Dy.f (k + 1) a0) := by
  intro a0 k
  have ih0 := Dy.Ed k
  unfold Dy.f
  repeat' first
      | (with_reducible exact ih0 _ _)
      | (with_reducible exact LeO.refl _)
      | (with_reducible exact LeO.none _)
      | (with_reducible refine LeO.ite ?_ ?_)
      | (with_reducible refine LeO.bind ?_ (fun _ => ?_))
      | exact ih0 _ _
      | exact LeO.none _
      | refine LeO.ite ?_ ?_
      | refine LeO.bind ?_ (fun _ => ?_)
set_option maxHeartbeats 8000000 in
set_option maxRecDepth 100000 in
theorem Dy.calls (k : Nat) (a0 : ByteArray) (r : Bool) (w : World) (h : Dy.f k a0 = some r) :
    Calls Tryd.prog 56 #[.string a0] w fun e w' => e = .returned (.bool r) ∧ Cj w w' := by
  have H : (if (a0.size : Int) = 7 then (Dy.l0 k a0 0) else (some false)) = some r := h
  clear h
  by_cases c2 : (a0.size : Int) = 7
  · rw [if_pos c2] at H
    have c2b0 : ((a0.size : Int) == 7) = true := beq_iff_eq.mpr c2
    have c2b1 : ((a0.size : Int) != 7) = false := bne_eq_false_iff_eq.mpr c2
    clear c2
    have H' := Ac.mk H
    clear H
    go_enter Tryd.func56, Tryd.ntmps56
    go_wp2
    go_loopg [3] k (fun kq v3 w' => ∃ (x3_1 : Int), v3 = .int .i64 x3_1 ∧ Ac (Dy.l0 kq a0 x3_1 = some r) ∧ Ac (kq ≤ k) ∧ Cj w w')
    case atStart => exact ⟨(0), Yf_, H', ⟨Nat.le_refl _⟩, by repeat (first | exact Cj.refl _ | apply Cj.step)⟩
    case round =>
      clear H'
      try clear c2
      try clear c2b0
      try clear c2b1
      try clear p2
      obtain ⟨x3_1, rfl, HA, HK1, ⟨m1, rfl⟩⟩ := hrel
      cases gk with
      | zero => exact absurd HA.out (by simp [Dy.l0])
      | succ k1 =>
        have H := HA.out
        clear HA
        simp only [Dy.l0] at H
        by_cases c3 : x3_1 < 7
        · rw [if_pos c3] at H
          have c3b0 : decide (x3_1 < 7) = true := decide_eq_true c3
          clear c3
          by_cases c4 : x3_1 < 3
          · rw [if_pos c4] at H
            have c4b0 : decide (x3_1 < 3) = true := decide_eq_true c4
            clear c4
            by_cases c5 : 0 ≤ x3_1
            · rw [if_pos c5] at H
              have c5b0 : decide (0 ≤ x3_1) = true := decide_eq_true c5
              clear c5
              by_cases c6 : x3_1 < (a0.size : Int)
              · rw [if_pos c6] at H
                have c6b0 : decide (x3_1 < (a0.size : Int)) = true := decide_eq_true c6
                clear c6
                by_cases c8 : (bt a0 x3_1) < 65
                · rw [if_pos c8] at H
                  have c8b0 : decide ((bt a0 x3_1) < 65) = true := decide_eq_true c8
                  clear c8
                  obtain rfl := Option.some.inj H
                  have p7 : 0 ≤ (x3_1 : Int) := of_decide_eq_true Yc_
                  have q7 : x3_1 < (a0.size : Int) := of_decide_eq_true Yc_
                  have hx7 := E8 a0 x3_1
                  replace p7 := eq_true p7
                  replace q7 := eq_true q7
                  go_wp2
                  go_ret
                  exact ⟨by first | rfl | (simp; done) | (simp [*]; done), by repeat (first | exact Cj.refl _ | apply Cj.step)⟩
                · rw [if_neg c8] at H
                  have c8b0 : decide ((bt a0 x3_1) < 65) = false := decide_eq_false c8
                  clear c8
                  by_cases c10 : (bt a0 x3_1) > 90
                  · rw [if_pos c10] at H
                    have c10b0 : decide (90 < (bt a0 x3_1)) = true := decide_eq_true c10
                    clear c10
                    obtain rfl := Option.some.inj H
                    have p7 : 0 ≤ (x3_1 : Int) := of_decide_eq_true Yc_
                    have q7 : x3_1 < (a0.size : Int) := of_decide_eq_true Yc_
                    have hx7 := E8 a0 x3_1
                    replace p7 := eq_true p7
                    replace q7 := eq_true q7
                    have p9 : 0 ≤ (x3_1 : Int) := of_decide_eq_true Yc_
                    have q9 : x3_1 < (a0.size : Int) := of_decide_eq_true Yc_
                    have hx9 := E8 a0 x3_1
                    replace p9 := eq_true p9
                    replace q9 := eq_true q9
                    go_wp2
                    go_ret
                    exact ⟨by first | rfl | (simp; done) | (simp [*]; done), by repeat (first | exact Cj.refl _ | apply Cj.step)⟩
                  · rw [if_neg c10] at H
                    have c10b0 : decide (90 < (bt a0 x3_1)) = false := decide_eq_false c10
                    clear c10
                    by_cases c11 : x3_1 > 2
                    · rw [if_pos c11] at H
                      have c11b0 : decide (2 < x3_1) = true := decide_eq_true c11
                      clear c11
                      by_cases c13 : (bt a0 x3_1) < 48
                      · rw [if_pos c13] at H
                        have c13b0 : decide ((bt a0 x3_1) < 48) = true := decide_eq_true c13
                        clear c13
                        obtain rfl := Option.some.inj H
                        have p7 : 0 ≤ (x3_1 : Int) := of_decide_eq_true Yc_
                        have q7 : x3_1 < (a0.size : Int) := of_decide_eq_true Yc_
                        have hx7 := E8 a0 x3_1
                        replace p7 := eq_true p7
                        replace q7 := eq_true q7
                        have p9 : 0 ≤ (x3_1 : Int) := of_decide_eq_true Yc_
                        have q9 : x3_1 < (a0.size : Int) := of_decide_eq_true Yc_
                        have hx9 := E8 a0 x3_1
                        replace p9 := eq_true p9
                        replace q9 := eq_true q9
                        have p12 : 0 ≤ (x3_1 : Int) := of_decide_eq_true Yc_
                        have q12 : x3_1 < (a0.size : Int) := of_decide_eq_true Yc_
                        have hx12 := E8 a0 x3_1
                        replace p12 := eq_true p12
                        replace q12 := eq_true q12
                        go_wp2
                        go_ret
                        exact ⟨by first | rfl | (simp; done) | (simp [*]; done), by repeat (first | exact Cj.refl _ | apply Cj.step)⟩
                      · rw [if_neg c13] at H
                        have c13b0 : decide ((bt a0 x3_1) < 48) = false := decide_eq_false c13
                        clear c13
                        by_cases c15 : (bt a0 x3_1) > 57
                        · rw [if_pos c15] at H
                          have c15b0 : decide (57 < (bt a0 x3_1)) = true := decide_eq_true c15
                          clear c15
                          obtain rfl := Option.some.inj H
                          have p7 : 0 ≤ (x3_1 : Int) := of_decide_eq_true Yc_
                          have q7 : x3_1 < (a0.size : Int) := of_decide_eq_true Yc_
                          have hx7 := E8 a0 x3_1
                          replace p7 := eq_true p7
                          replace q7 := eq_true q7
                          have p9 : 0 ≤ (x3_1 : Int) := of_decide_eq_true Yc_
                          have q9 : x3_1 < (a0.size : Int) := of_decide_eq_true Yc_
                          have hx9 := E8 a0 x3_1
                          replace p9 := eq_true p9
                          replace q9 := eq_true q9
                          have p12 : 0 ≤ (x3_1 : Int) := of_decide_eq_true Yc_
                          have q12 : x3_1 < (a0.size : Int) := of_decide_eq_true Yc_
                          have hx12 := E8 a0 x3_1
                          replace p12 := eq_true p12
                          replace q12 := eq_true q12
                          have p14 : 0 ≤ (x3_1 : Int) := of_decide_eq_true Yc_
                          have q14 : x3_1 < (a0.size : Int) := of_decide_eq_true Yc_
                          have hx14 := E8 a0 x3_1
                          replace p14 := eq_true p14
                          replace q14 := eq_true q14
                          go_wp2
                          go_ret
                          exact ⟨by first | rfl | (simp; done) | (simp [*]; done), by repeat (first | exact Cj.refl _ | apply Cj.step)⟩
                        · rw [if_neg c15] at H
                          have c15b0 : decide (57 < (bt a0 x3_1)) = false := decide_eq_false c15
                          clear c15
                          have H' := Ac.mk H
                          clear H
                          have p7 : 0 ≤ (x3_1 : Int) := of_decide_eq_true Yc_
                          have q7 : x3_1 < (a0.size : Int) := of_decide_eq_true Yc_
                          have hx7 := E8 a0 x3_1
                          replace p7 := eq_true p7
                          replace q7 := eq_true q7
                          have p9 : 0 ≤ (x3_1 : Int) := of_decide_eq_true Yc_
                          have q9 : x3_1 < (a0.size : Int) := of_decide_eq_true Yc_
                          have hx9 := E8 a0 x3_1
                          replace p9 := eq_true p9
                          replace q9 := eq_true q9
                          have p12 : 0 ≤ (x3_1 : Int) := of_decide_eq_true Yc_
                          have q12 : x3_1 < (a0.size : Int) := of_decide_eq_true Yc_
                          have hx12 := E8 a0 x3_1
                          replace p12 := eq_true p12
                          replace q12 := eq_true q12
                          have p14 : 0 ≤ (x3_1 : Int) := of_decide_eq_true Yc_
                          have q14 : x3_1 < (a0.size : Int) := of_decide_eq_true Yc_
                          have hx14 := E8 a0 x3_1
                          replace p14 := eq_true p14
                          replace q14 := eq_true q14
                          go_wp2
                          go_roundg k1
                          case measure => have := HK1.out; omega
                          case rel => exact ⟨(wrap64 (x3_1 + 1)), Yf_, H', ⟨by have := HK1.out; omega⟩, by repeat (first | exact Cj.refl _ | apply Cj.step)⟩
                    · rw [if_neg c11] at H
                      have c11b0 : decide (2 < x3_1) = false := decide_eq_false c11
                      clear c11
                      have H' := Ac.mk H
                      clear H
                      have p7 : 0 ≤ (x3_1 : Int) := of_decide_eq_true Yc_
                      have q7 : x3_1 < (a0.size : Int) := of_decide_eq_true Yc_
                      have hx7 := E8 a0 x3_1
                      replace p7 := eq_true p7
                      replace q7 := eq_true q7
                      have p9 : 0 ≤ (x3_1 : Int) := of_decide_eq_true Yc_
                      have q9 : x3_1 < (a0.size : Int) := of_decide_eq_true Yc_
                      have hx9 := E8 a0 x3_1
                      replace p9 := eq_true p9
                      replace q9 := eq_true q9
                      go_wp2
                      go_roundg k1
                      case measure => have := HK1.out; omega
                      case rel => exact ⟨(wrap64 (x3_1 + 1)), Yf_, H', ⟨by have := HK1.out; omega⟩, by repeat (first | exact Cj.refl _ | apply Cj.step)⟩
              · rw [if_neg c6] at H
                exact absurd H (by simp)
            · rw [if_neg c5] at H
              exact absurd H (by simp)
          · rw [if_neg c4] at H
            have c4b0 : decide (x3_1 < 3) = false := decide_eq_false c4
            clear c4
            by_cases c16 : x3_1 > 2
            · rw [if_pos c16] at H
              have c16b0 : decide (2 < x3_1) = true := decide_eq_true c16
              clear c16
              by_cases c17 : 0 ≤ x3_1
              · rw [if_pos c17] at H
                have c17b0 : decide (0 ≤ x3_1) = true := decide_eq_true c17
                clear c17
                by_cases c18 : x3_1 < (a0.size : Int)
                · rw [if_pos c18] at H
                  have c18b0 : decide (x3_1 < (a0.size : Int)) = true := decide_eq_true c18
                  clear c18
                  by_cases c20 : (bt a0 x3_1) < 48
                  · rw [if_pos c20] at H
                    have c20b0 : decide ((bt a0 x3_1) < 48) = true := decide_eq_true c20
                    clear c20
                    obtain rfl := Option.some.inj H
                    have p19 : 0 ≤ (x3_1 : Int) := of_decide_eq_true Yc_
                    have q19 : x3_1 < (a0.size : Int) := of_decide_eq_true Yc_
                    have hx19 := E8 a0 x3_1
                    replace p19 := eq_true p19
                    replace q19 := eq_true q19
                    go_wp2
                    go_ret
                    exact ⟨by first | rfl | (simp; done) | (simp [*]; done), by repeat (first | exact Cj.refl _ | apply Cj.step)⟩
                  · rw [if_neg c20] at H
                    have c20b0 : decide ((bt a0 x3_1) < 48) = false := decide_eq_false c20
                    clear c20
                    by_cases c22 : (bt a0 x3_1) > 57
                    · rw [if_pos c22] at H
                      have c22b0 : decide (57 < (bt a0 x3_1)) = true := decide_eq_true c22
                      clear c22
                      obtain rfl := Option.some.inj H
                      have p19 : 0 ≤ (x3_1 : Int) := of_decide_eq_true Yc_
                      have q19 : x3_1 < (a0.size : Int) := of_decide_eq_true Yc_
                      have hx19 := E8 a0 x3_1
                      replace p19 := eq_true p19
                      replace q19 := eq_true q19
                      have p21 : 0 ≤ (x3_1 : Int) := of_decide_eq_true Yc_
                      have q21 : x3_1 < (a0.size : Int) := of_decide_eq_true Yc_
                      have hx21 := E8 a0 x3_1
                      replace p21 := eq_true p21
                      replace q21 := eq_true q21
                      go_wp2
                      go_ret
                      exact ⟨by first | rfl | (simp; done) | (simp [*]; done), by repeat (first | exact Cj.refl _ | apply Cj.step)⟩
                    · rw [if_neg c22] at H
                      have c22b0 : decide (57 < (bt a0 x3_1)) = false := decide_eq_false c22
                      clear c22
                      have H' := Ac.mk H
                      clear H
                      have p19 : 0 ≤ (x3_1 : Int) := of_decide_eq_true Yc_
                      have q19 : x3_1 < (a0.size : Int) := of_decide_eq_true Yc_
                      have hx19 := E8 a0 x3_1
                      replace p19 := eq_true p19
                      replace q19 := eq_true q19
                      have p21 : 0 ≤ (x3_1 : Int) := of_decide_eq_true Yc_
                      have q21 : x3_1 < (a0.size : Int) := of_decide_eq_true Yc_
                      have hx21 := E8 a0 x3_1
                      replace p21 := eq_true p21
                      replace q21 := eq_true q21
                      go_wp2
                      go_roundg k1
                      case measure => have := HK1.out; omega
                      case rel => exact ⟨(wrap64 (x3_1 + 1)), Yf_, H', ⟨by have := HK1.out; omega⟩, by repeat (first | exact Cj.refl _ | apply Cj.step)⟩
                · rw [if_neg c18] at H
                  exact absurd H (by simp)
              · rw [if_neg c17] at H
                exact absurd H (by simp)
            · rw [if_neg c16] at H
              have c16b0 : decide (2 < x3_1) = false := decide_eq_false c16
              clear c16
              have H' := Ac.mk H
              clear H
              go_wp2
              go_roundg k1
              case measure => have := HK1.out; omega
              case rel => exact ⟨(wrap64 (x3_1 + 1)), Yf_, H', ⟨by have := HK1.out; omega⟩, by repeat (first | exact Cj.refl _ | apply Cj.step)⟩
        · rw [if_neg c3] at H
          have c3b0 : decide (x3_1 < 7) = false := decide_eq_false c3
          clear c3
          obtain rfl := Option.some.inj H
          go_wp2
          go_ret
          exact ⟨by first | rfl | (simp; done) | (simp [*]; done), by repeat (first | exact Cj.refl _ | apply Cj.step)⟩
  · rw [if_neg c2] at H
    have c2b0 : ((a0.size : Int) == 7) = false := beq_eq_false_iff_ne.mpr c2
    have c2b1 : ((a0.size : Int) != 7) = true := bne_iff_ne.mpr c2
    obtain rfl := Option.some.inj H
    go_enter Tryd.func56, Tryd.ntmps56
    go_wp2
    go_ret
    exact ⟨by first | rfl | (simp; done) | (simp [*]; done), by repeat (first | exact Cj.refl _ | apply Cj.step)⟩
end Go.Proofs.YtghnljoaklmakaaDoor.X

namespace Go.Proofs.YtghnljoaklmakaaDoor.X
open Go.RowKit Go.Proofs.YtghnljoaklmakaaDoorW.PrintWords Go.Proofs.YtghnljoaklmakaaDoorW.PrintLast Go.Proofs.YtghnljoaklmakaaDoorW.PrintMore
attribute [local go_sem] Ea Eb Eh Eg Dz D5 Ec D9
open Go.Proofs.YtghnljoaklmakaaDoorG
def D8.l0 : Nat → ByteArray → Int → Int → Option (Int)
  | 0, _, _, _ => none
  | k + 1, x0, x3, x4 => if x4 < 7 then (if 0 ≤ x4 then (if x4 < (x0.size : Int) then (if x4 < 3 then (D8.l0 k x0 (wrap64 (x3 + (wrap64 ((wrap64 ((wrap64 ((wrap64 (bt x0 x4)) - 65)) + 1)) * (wrap64 (x4 + 2)))))) (wrap64 (x4 + 1))) else (D8.l0 k x0 (wrap64 (x3 + (wrap64 ((wrap64 ((wrap64 (bt x0 x4)) - 48)) * (wrap64 (x4 + 2)))))) (wrap64 (x4 + 1)))) else (none)) else (none)) else (some ((65 + ((Int.tmod x3 23) % 256)) % 256))
def D8.f (k : Nat) (a0 : ByteArray) : Option (Int) := D8.l0 k a0 0 0
theorem D8.Ed : ∀ k, (∀ y0 y1 y2, LeO (D8.l0 k y0 y1 y2) (D8.l0 (k + 1) y0 y1 y2))
  | 0 => fun _ _ _ r h => by simp [D8.l0] at h
  | k + 1 => by
    have ih0 := D8.Ed k
    · intro y0 y1 y2
      unfold D8.l0
      repeat' first
      | (with_reducible exact ih0 _ _ _)
      | (with_reducible exact LeO.refl _)
      | (with_reducible exact LeO.none _)
      | (with_reducible refine LeO.ite ?_ ?_)
      | (with_reducible refine LeO.bind ?_ (fun _ => ?_))
      | exact ih0 _ _ _
      | exact LeO.none _
      | refine LeO.ite ?_ ?_
      | refine LeO.bind ?_ (fun _ => ?_)
theorem D8.mono : ∀ a0 k, LeO (D8.f k a0) (D8.f (k + 1) a0) := by
  intro a0 k
  have ih0 := D8.Ed k
  unfold D8.f
  repeat' first
      | (with_reducible exact ih0 _ _ _)
      | (with_reducible exact LeO.refl _)
      | (with_reducible exact LeO.none _)
      | (with_reducible refine LeO.ite ?_ ?_)
      | (with_reducible refine LeO.bind ?_ (fun _ => ?_))
      | exact ih0 _ _ _
      | exact LeO.none _
      | refine LeO.ite ?_ ?_
      | refine LeO.bind ?_ (fun _ => ?_)
set_option maxHeartbeats 8000000 in
set_option maxRecDepth 100000 in
theorem D8.calls (k : Nat) (a0 : ByteArray) (r : Int) (w : World) (h : D8.f k a0 = some r) :
    Calls Tryd.prog 57 #[.string a0] w fun e w' => e = .returned (.int .u8 r) ∧ Cj w w' := by
  have H : (D8.l0 k a0 0 0) = some r := h
  clear h
  have H' := Ac.mk H
  clear H
  go_enter Tryd.func57, Tryd.ntmps57
  go_wp2
  go_loopg [3, 4] k (fun kq v3 v4 w' => ∃ (x3_1 : Int) (x4_1 : Int), v3 = .int .i64 x3_1 ∧ v4 = .int .i64 x4_1 ∧ Ac (D8.l0 kq a0 x3_1 x4_1 = some r) ∧ Ac (kq ≤ k) ∧ Cj w w')
  case atStart => exact ⟨(0), (0), Yf_, Yf_, H', ⟨Nat.le_refl _⟩, by repeat (first | exact Cj.refl _ | apply Cj.step)⟩
  case round =>
    clear H'
    obtain ⟨x3_1, x4_1, rfl, rfl, HA, HK1, ⟨m1, rfl⟩⟩ := hrel
    cases gk with
    | zero => exact absurd HA.out (by simp [D8.l0])
    | succ k1 =>
      have H := HA.out
      clear HA
      simp only [D8.l0] at H
      by_cases c2 : x4_1 < 7
      · rw [if_pos c2] at H
        have c2b0 : decide (x4_1 < 7) = true := decide_eq_true c2
        clear c2
        by_cases c3 : 0 ≤ x4_1
        · rw [if_pos c3] at H
          have c3b0 : decide (0 ≤ x4_1) = true := decide_eq_true c3
          clear c3
          by_cases c4 : x4_1 < (a0.size : Int)
          · rw [if_pos c4] at H
            have c4b0 : decide (x4_1 < (a0.size : Int)) = true := decide_eq_true c4
            clear c4
            by_cases c6 : x4_1 < 3
            · rw [if_pos c6] at H
              have c6b0 : decide (x4_1 < 3) = true := decide_eq_true c6
              clear c6
              have H' := Ac.mk H
              clear H
              have p5 : 0 ≤ (x4_1 : Int) := of_decide_eq_true Yc_
              have q5 : x4_1 < (a0.size : Int) := of_decide_eq_true Yc_
              have hx5 := E8 a0 x4_1
              replace p5 := eq_true p5
              replace q5 := eq_true q5
              have p7 : 0 ≤ (x4_1 : Int) := of_decide_eq_true Yc_
              have q7 : x4_1 < (a0.size : Int) := of_decide_eq_true Yc_
              have hx7 := E8 a0 x4_1
              replace p7 := eq_true p7
              replace q7 := eq_true q7
              go_wp2
              go_roundg k1
              case measure => have := HK1.out; omega
              case rel => exact ⟨(wrap64 (x3_1 + (wrap64 ((wrap64 ((wrap64 ((wrap64 (bt a0 x4_1)) - 65)) + 1)) * (wrap64 (x4_1 + 2)))))), (wrap64 (x4_1 + 1)), Yf_, Yf_, H', ⟨by have := HK1.out; omega⟩, by repeat (first | exact Cj.refl _ | apply Cj.step)⟩
            · rw [if_neg c6] at H
              have c6b0 : decide (x4_1 < 3) = false := decide_eq_false c6
              clear c6
              have H' := Ac.mk H
              clear H
              have p5 : 0 ≤ (x4_1 : Int) := of_decide_eq_true Yc_
              have q5 : x4_1 < (a0.size : Int) := of_decide_eq_true Yc_
              have hx5 := E8 a0 x4_1
              replace p5 := eq_true p5
              replace q5 := eq_true q5
              go_wp2
              go_roundg k1
              case measure => have := HK1.out; omega
              case rel => exact ⟨(wrap64 (x3_1 + (wrap64 ((wrap64 ((wrap64 (bt a0 x4_1)) - 48)) * (wrap64 (x4_1 + 2)))))), (wrap64 (x4_1 + 1)), Yf_, Yf_, H', ⟨by have := HK1.out; omega⟩, by repeat (first | exact Cj.refl _ | apply Cj.step)⟩
          · rw [if_neg c4] at H
            exact absurd H (by simp)
        · rw [if_neg c3] at H
          exact absurd H (by simp)
      · rw [if_neg c2] at H
        have c2b0 : decide (x4_1 < 7) = false := decide_eq_false c2
        clear c2
        obtain rfl := Option.some.inj H
        go_wp2
        go_ret
        exact ⟨by first | rfl | (simp; done) | (simp [*]; done), by repeat (first | exact Cj.refl _ | apply Cj.step)⟩
end Go.Proofs.YtghnljoaklmakaaDoor.X

namespace Go.Proofs.YtghnljoaklmakaaDoor.X
open Go.RowKit Go.Proofs.YtghnljoaklmakaaDoorW.PrintWords Go.Proofs.YtghnljoaklmakaaDoorW.PrintLast Go.Proofs.YtghnljoaklmakaaDoorW.PrintMore
attribute [local go_sem] Ea Eb Eh Eg Dz D5 Ec D9
open Go.Proofs.YtghnljoaklmakaaDoorG
def Ey.f (k : Nat) (a0 : ByteArray) : Option (Bool) := if (a0.size : Int) = 8 then (if 0 ≤ 7 then (if 7 ≤ (a0.size : Int) then ((Dy.f k (a0.extract 0 7)).bind fun t102 => (if t102 = true then (if 7 < (a0.size : Int) then ((D8.f k (a0.extract 0 7)).bind fun t103 => (some ((bt a0 7) == t103))) else (none)) else (some false))) else (none)) else (none)) else (some false)
theorem Ey.mono : ∀ a0 k, LeO (Ey.f k a0) (Ey.f (k + 1) a0) := by
  intro a0 k
  unfold Ey.f
  repeat' first
      | (with_reducible exact D8.mono _ _)
      | (with_reducible exact Dy.mono _ _)
      | (with_reducible exact LeO.refl _)
      | (with_reducible exact LeO.none _)
      | (with_reducible refine LeO.ite ?_ ?_)
      | (with_reducible refine LeO.bind ?_ (fun _ => ?_))
      | exact D8.mono _ _
      | exact Dy.mono _ _
      | exact LeO.none _
      | refine LeO.ite ?_ ?_
      | refine LeO.bind ?_ (fun _ => ?_)
set_option maxHeartbeats 8000000 in
set_option maxRecDepth 100000 in
theorem Ey.calls (k : Nat) (a0 : ByteArray) (r : Bool) (w : World) (h : Ey.f k a0 = some r) :
    Calls Tryd.prog 37 #[.string a0] w fun e w' => e = .returned (.bool r) ∧ Cj w w' := by
  have H : (if (a0.size : Int) = 8 then (if 0 ≤ 7 then (if 7 ≤ (a0.size : Int) then ((Dy.f k (a0.extract 0 7)).bind fun t102 => (if t102 = true then (if 7 < (a0.size : Int) then ((D8.f k (a0.extract 0 7)).bind fun t103 => (some ((bt a0 7) == t103))) else (none)) else (some false))) else (none)) else (none)) else (some false)) = some r := h
  clear h
  by_cases c2 : (a0.size : Int) = 8
  · rw [if_pos c2] at H
    have c2b0 : ((a0.size : Int) == 8) = true := beq_iff_eq.mpr c2
    have c2b1 : ((a0.size : Int) != 8) = false := bne_eq_false_iff_eq.mpr c2
    clear c2
    by_cases c3 : 0 ≤ 7
    · rw [if_pos c3] at H
      have c3b0 := eq_true c3
      have c3b1 : decide (0 ≤ 7) = true := decide_eq_true c3
      clear c3
      by_cases c4 : 7 ≤ (a0.size : Int)
      · rw [if_pos c4] at H
        have c4b0 := eq_true c4
        have c4b1 : decide (7 ≤ (a0.size : Int)) = true := decide_eq_true c4
        clear c4
        replace H := Option.bind_eq_some_iff.mp H
        obtain ⟨t102, A50, H⟩ := H
        replace H : (if t102 = true then (if 7 < (a0.size : Int) then ((D8.f k (a0.extract 0 7)).bind fun t103 => (some ((bt a0 7) == t103))) else (none)) else (some false)) = some r := H
        have A5 := Ac.mk A50
        clear A50
        by_cases c6 : t102 = true
        · subst c6
          have H1 : (if 7 < (a0.size : Int) then ((D8.f k (a0.extract 0 7)).bind fun t103 => (some ((bt a0 7) == t103))) else (none)) = some r := by rw [if_pos rfl] at H; exact H
          clear H
          have H := H1
          clear H1
          by_cases c7 : 7 < (a0.size : Int)
          · rw [if_pos c7] at H
            have c7b0 : decide (7 < (a0.size : Int)) = true := decide_eq_true c7
            have c7b1 : decide (7 < a0.size) = true := decide_eq_true (by omega)
            clear c7
            have c9b0 := eq_true (of_decide_eq_true Yc_ : 0 ≤ 7)
            have c10b0 := eq_true (of_decide_eq_true Yc_ : 7 ≤ (a0.size : Int))
            replace H := Option.bind_eq_some_iff.mp H
            obtain ⟨t103, A110, H⟩ := H
            replace H : (some ((bt a0 7) == t103)) = some r := H
            have A11 := Ac.mk A110
            clear A110
            obtain rfl := Option.some.inj H
            go_enter Tryd.func37, Tryd.ntmps37
            go_wp2_with (first | (go_at_call 56; (with_reducible refine (Dy.calls k (a0.extract 0 7) true _ A5.out).mono ?_); rintro e w' ⟨rfl, ⟨nd, rfl⟩⟩; (try first | exact ⟨rfl, _, World.drewN_drewN _ _ _⟩ | exact ⟨rfl, _, Eq.trans (World.drewN_drewN _ _ _) (congrArg (World.drewN _) (Nat.add_assoc _ _ _))⟩); have p8 : 0 ≤ (7 : Int) := (by omega); have q8 : 7 < a0.size := (by have : (7 : Int) < (a0.size : Int) := of_decide_eq_true Yc_; omega); have hx8 : ∀ h : 7 < a0.size, ((a0[7]'h).toNat : Int) = bt a0 7 := E8 a0 7; clear p8; have qi8 : (7 < (a0.size : Int)) = True := eq_true (of_decide_eq_true Yc_); replace q8 := eq_true q8) | (go_at_call 57; (with_reducible refine (D8.calls k (a0.extract 0 7) t103 _ A11.out).mono ?_); rintro e w' ⟨rfl, ⟨nd, rfl⟩⟩; (try first | exact ⟨rfl, _, World.drewN_drewN _ _ _⟩ | exact ⟨rfl, _, Eq.trans (World.drewN_drewN _ _ _) (congrArg (World.drewN _) (Nat.add_assoc _ _ _))⟩)))
            repeat (go_quiet (first | (go_at_call 56; (with_reducible refine (Dy.calls k (a0.extract 0 7) true _ A5.out).mono ?_); rintro e w' ⟨rfl, ⟨nd, rfl⟩⟩; (try first | exact ⟨rfl, _, World.drewN_drewN _ _ _⟩ | exact ⟨rfl, _, Eq.trans (World.drewN_drewN _ _ _) (congrArg (World.drewN _) (Nat.add_assoc _ _ _))⟩); have p8 : 0 ≤ (7 : Int) := (by omega); have q8 : 7 < a0.size := (by have : (7 : Int) < (a0.size : Int) := of_decide_eq_true Yc_; omega); have hx8 : ∀ h : 7 < a0.size, ((a0[7]'h).toNat : Int) = bt a0 7 := E8 a0 7; clear p8; have qi8 : (7 < (a0.size : Int)) = True := eq_true (of_decide_eq_true Yc_); replace q8 := eq_true q8) | (go_at_call 57; (with_reducible refine (D8.calls k (a0.extract 0 7) t103 _ A11.out).mono ?_); rintro e w' ⟨rfl, ⟨nd, rfl⟩⟩; (try first | exact ⟨rfl, _, World.drewN_drewN _ _ _⟩ | exact ⟨rfl, _, Eq.trans (World.drewN_drewN _ _ _) (congrArg (World.drewN _) (Nat.add_assoc _ _ _))⟩))); try go_wp2_with (first | (go_at_call 56; (with_reducible refine (Dy.calls k (a0.extract 0 7) true _ A5.out).mono ?_); rintro e w' ⟨rfl, ⟨nd, rfl⟩⟩; (try first | exact ⟨rfl, _, World.drewN_drewN _ _ _⟩ | exact ⟨rfl, _, Eq.trans (World.drewN_drewN _ _ _) (congrArg (World.drewN _) (Nat.add_assoc _ _ _))⟩); have p8 : 0 ≤ (7 : Int) := (by omega); have q8 : 7 < a0.size := (by have : (7 : Int) < (a0.size : Int) := of_decide_eq_true Yc_; omega); have hx8 : ∀ h : 7 < a0.size, ((a0[7]'h).toNat : Int) = bt a0 7 := E8 a0 7; clear p8; have qi8 : (7 < (a0.size : Int)) = True := eq_true (of_decide_eq_true Yc_); replace q8 := eq_true q8) | (go_at_call 57; (with_reducible refine (D8.calls k (a0.extract 0 7) t103 _ A11.out).mono ?_); rintro e w' ⟨rfl, ⟨nd, rfl⟩⟩; (try first | exact ⟨rfl, _, World.drewN_drewN _ _ _⟩ | exact ⟨rfl, _, Eq.trans (World.drewN_drewN _ _ _) (congrArg (World.drewN _) (Nat.add_assoc _ _ _))⟩))))
            go_ret
            exact ⟨by first | rfl | (simp; done) | (simp [*]; done), by repeat (first | exact Cj.refl _ | apply Cj.step)⟩
          · rw [if_neg c7] at H
            exact absurd H (by simp)
        · replace c6 := Bool.eq_false_iff.mpr c6
          subst c6
          have H1 : (some false) = some r := by rw [if_neg (show ¬ (false = true) by decide)] at H; exact H
          clear H
          have H := H1
          clear H1
          obtain rfl := Option.some.inj H
          go_enter Tryd.func37, Tryd.ntmps37
          go_wp2_with (first | (go_at_call 56; (with_reducible refine (Dy.calls k (a0.extract 0 7) false _ A5.out).mono ?_); rintro e w' ⟨rfl, ⟨nd, rfl⟩⟩; (try first | exact ⟨rfl, _, World.drewN_drewN _ _ _⟩ | exact ⟨rfl, _, Eq.trans (World.drewN_drewN _ _ _) (congrArg (World.drewN _) (Nat.add_assoc _ _ _))⟩)))
          repeat (go_quiet (first | (go_at_call 56; (with_reducible refine (Dy.calls k (a0.extract 0 7) false _ A5.out).mono ?_); rintro e w' ⟨rfl, ⟨nd, rfl⟩⟩; (try first | exact ⟨rfl, _, World.drewN_drewN _ _ _⟩ | exact ⟨rfl, _, Eq.trans (World.drewN_drewN _ _ _) (congrArg (World.drewN _) (Nat.add_assoc _ _ _))⟩))); try go_wp2_with (first | (go_at_call 56; (with_reducible refine (Dy.calls k (a0.extract 0 7) false _ A5.out).mono ?_); rintro e w' ⟨rfl, ⟨nd, rfl⟩⟩; (try first | exact ⟨rfl, _, World.drewN_drewN _ _ _⟩ | exact ⟨rfl, _, Eq.trans (World.drewN_drewN _ _ _) (congrArg (World.drewN _) (Nat.add_assoc _ _ _))⟩))))
          go_ret
          exact ⟨by first | rfl | (simp; done) | (simp [*]; done), by repeat (first | exact Cj.refl _ | apply Cj.step)⟩
      · rw [if_neg c4] at H
        exact absurd H (by simp)
    · rw [if_neg c3] at H
      exact absurd H (by simp)
  · rw [if_neg c2] at H
    have c2b0 : ((a0.size : Int) == 8) = false := beq_eq_false_iff_ne.mpr c2
    have c2b1 : ((a0.size : Int) != 8) = true := bne_iff_ne.mpr c2
    obtain rfl := Option.some.inj H
    go_enter Tryd.func37, Tryd.ntmps37
    go_wp2
    repeat (go_quiet (fail); try go_wp2)
    go_ret
    exact ⟨by first | rfl | (simp; done) | (simp [*]; done), by repeat (first | exact Cj.refl _ | apply Cj.step)⟩
end Go.Proofs.YtghnljoaklmakaaDoor.X

namespace Go.Proofs.YtghnljoaklmakaaDoor.X
open Go.RowKit Go.Proofs.YtghnljoaklmakaaDoorW.PrintWords Go.Proofs.YtghnljoaklmakaaDoorW.PrintLast Go.Proofs.YtghnljoaklmakaaDoorW.PrintMore
attribute [local go_sem] Ea Eb Eh Eg Dz D5 Ec D9
open Go.Proofs.YtghnljoaklmakaaDoorG
def Ej.f (k : Nat) (a0_0 : Int) (a0_1 : ByteArray) (a0_2 : Int) (a0_3 : Int) : Option (Bool) := (Ey.f k a0_1).bind fun t105 => (if t105 = true then (if a0_0 = 1 then ((Dw.f a0_2 0 5).bind fun t106 => (if t106 = true then (some (a0_3 == 0)) else (some false))) else (if a0_0 = 2 then ((Dw.f a0_2 0 5).bind fun t107 => (if t107 = true then ((Dw.f a0_3 0 5).bind fun t108 => (if t108 = true then (some (a0_2 != a0_3)) else (some false))) else (some false))) else (if a0_0 = 3 then ((Dw.f a0_2 1 15).bind fun t109 => (if t109 = true then (some (a0_3 == 0)) else (some false))) else (if a0_0 = 4 then ((Dw.f a0_2 0 11).bind fun t110 => (if t110 = true then (some (a0_3 == 0)) else (some false))) else (if a0_0 = 5 then ((Dw.f a0_2 1 999999).bind fun t111 => (if t111 = true then ((Dw.f a0_3 1 400).bind fun t112 => (some t112)) else (some false))) else (some false)))))) else (some false))
theorem Ej.mono : ∀ a0 a1 a2 a3 k, LeO (Ej.f k a0 a1 a2 a3) (Ej.f (k + 1) a0 a1 a2 a3) := by
  intro a0 a1 a2 a3 k
  unfold Ej.f
  repeat' first
      | (with_reducible exact Ey.mono _ _)
      | (with_reducible exact LeO.refl _)
      | (with_reducible exact LeO.none _)
      | (with_reducible refine LeO.ite ?_ ?_)
      | (with_reducible refine LeO.bind ?_ (fun _ => ?_))
      | exact Ey.mono _ _
      | exact LeO.none _
      | refine LeO.ite ?_ ?_
      | refine LeO.bind ?_ (fun _ => ?_)
set_option maxHeartbeats 8000000 in
set_option maxRecDepth 100000 in
theorem Ej.calls (k : Nat) (a0_0 : Int) (a0_1 : ByteArray) (a0_2 : Int) (a0_3 : Int) (r : Bool) (w : World) (h : Ej.f k a0_0 a0_1 a0_2 a0_3 = some r) :
    Calls Tryd.prog 23 #[.agg #[.int .i64 a0_0, .string a0_1, .int .i64 a0_2, .int .i64 a0_3]] w fun e w' => e = .returned (.bool r) ∧ Below w.heap.size w w' := by
  have hu27 := Tryd.underlying27
  have HB := Ac.mk (Below.refl w.heap.size w)
  have H : ((Ey.f k a0_1).bind fun t105 => (if t105 = true then (if a0_0 = 1 then ((Dw.f a0_2 0 5).bind fun t106 => (if t106 = true then (some (a0_3 == 0)) else (some false))) else (if a0_0 = 2 then ((Dw.f a0_2 0 5).bind fun t107 => (if t107 = true then ((Dw.f a0_3 0 5).bind fun t108 => (if t108 = true then (some (a0_2 != a0_3)) else (some false))) else (some false))) else (if a0_0 = 3 then ((Dw.f a0_2 1 15).bind fun t109 => (if t109 = true then (some (a0_3 == 0)) else (some false))) else (if a0_0 = 4 then ((Dw.f a0_2 0 11).bind fun t110 => (if t110 = true then (some (a0_3 == 0)) else (some false))) else (if a0_0 = 5 then ((Dw.f a0_2 1 999999).bind fun t111 => (if t111 = true then ((Dw.f a0_3 1 400).bind fun t112 => (some t112)) else (some false))) else (some false)))))) else (some false))) = some r := h
  clear h
  replace H := Option.bind_eq_some_iff.mp H
  obtain ⟨t105, A20, H⟩ := H
  replace H : (if t105 = true then (if a0_0 = 1 then ((Dw.f a0_2 0 5).bind fun t106 => (if t106 = true then (some (a0_3 == 0)) else (some false))) else (if a0_0 = 2 then ((Dw.f a0_2 0 5).bind fun t107 => (if t107 = true then ((Dw.f a0_3 0 5).bind fun t108 => (if t108 = true then (some (a0_2 != a0_3)) else (some false))) else (some false))) else (if a0_0 = 3 then ((Dw.f a0_2 1 15).bind fun t109 => (if t109 = true then (some (a0_3 == 0)) else (some false))) else (if a0_0 = 4 then ((Dw.f a0_2 0 11).bind fun t110 => (if t110 = true then (some (a0_3 == 0)) else (some false))) else (if a0_0 = 5 then ((Dw.f a0_2 1 999999).bind fun t111 => (if t111 = true then ((Dw.f a0_3 1 400).bind fun t112 => (some t112)) else (some false))) else (some false)))))) else (some false)) = some r := H
  have A2 := Ac.mk A20
  clear A20
  by_cases c3 : t105 = true
  · subst c3
    have H1 : (if a0_0 = 1 then ((Dw.f a0_2 0 5).bind fun t106 => (if t106 = true then (some (a0_3 == 0)) else (some false))) else (if a0_0 = 2 then ((Dw.f a0_2 0 5).bind fun t107 => (if t107 = true then ((Dw.f a0_3 0 5).bind fun t108 => (if t108 = true then (some (a0_2 != a0_3)) else (some false))) else (some false))) else (if a0_0 = 3 then ((Dw.f a0_2 1 15).bind fun t109 => (if t109 = true then (some (a0_3 == 0)) else (some false))) else (if a0_0 = 4 then ((Dw.f a0_2 0 11).bind fun t110 => (if t110 = true then (some (a0_3 == 0)) else (some false))) else (if a0_0 = 5 then ((Dw.f a0_2 1 999999).bind fun t111 => (if t111 = true then ((Dw.f a0_3 1 400).bind fun t112 => (some t112)) else (some false))) else (some false)))))) = some r := by rw [if_pos rfl] at H; exact H
    clear H
    have H := H1
    clear H1
    by_cases c4 : a0_0 = 1
    · rw [if_pos c4] at H
      have c4b0 : (a0_0 == 1) = true := beq_iff_eq.mpr c4
      have c4b1 : (a0_0 != 1) = false := bne_eq_false_iff_eq.mpr c4
      clear c4
      replace H := Option.bind_eq_some_iff.mp H
      obtain ⟨t106, A50, H⟩ := H
      replace H : (if t106 = true then (some (a0_3 == 0)) else (some false)) = some r := H
      have A5 := Ac.mk A50
      clear A50
      by_cases c6 : t106 = true
      · subst c6
        have H1 : (some (a0_3 == 0)) = some r := by rw [if_pos rfl] at H; exact H
        clear H
        have H := H1
        clear H1
        obtain rfl := Option.some.inj H
        go_enter Tryd.func23, Tryd.ntmps23
        go_wp2_with (first | ((with_reducible refine Dh (N := 1) rfl ?_); refine Dl ?hg (N := 1) ?hd (cs := #[.int .i64 a0_0, .string a0_1, .int .i64 a0_2, .int .i64 a0_3]) (t := 27) ?hr ?_; (case hd => rfl); (case hg => rfl); (case hr => first | (go_simp; done) | (go_simp; rfl)); intro gb0 hg w7 hbox hb; have n0_ := Ac.mk (Au Ya_ hb); have n1_ := Ac.mk (hbox); have n2_ := Ac.mk ((by rw [hg]; exact (Az Ya_) : w.heap.size ≤ gb0)); have n3_ := Ac.mk ((by rw [hg]; exact (Az Ya_) : w.heap.size ≤ gb0)); clear HB; have HB := n0_; have BK0 := n1_; have GW0 := n2_; have GE0 := n3_; clear n0_ n1_ n2_ n3_; clear hb hbox hg; have hcz8_0 : w7.cell? ⟨gb0, 0, none⟩ = some (.int .i64 a0_0) := (Af BK0.out 0).trans rfl; have hcz8_1 : w7.cell? ⟨gb0, 1, none⟩ = some (.string a0_1) := (Af BK0.out 1).trans rfl; have hcz8_2 : w7.cell? ⟨gb0, 2, none⟩ = some (.int .i64 a0_2) := (Af BK0.out 2).trans rfl; have hcz8_3 : w7.cell? ⟨gb0, 3, none⟩ = some (.int .i64 a0_3) := (Af BK0.out 3).trans rfl; have hfz8_0 := Ag BK0.out 0; have hfz8_1 := Ag BK0.out 1; have hfz8_2 := Ag BK0.out 2; have hfz8_3 := Ag BK0.out 3) | ((with_reducible refine Aw (f := 37) rfl ?_); refine Bj (some 5) rfl rfl Tryd.func37 (by kernel_rfl) rfl #[.string a0_1] rfl Yb_ ?_; (with_reducible refine (Ey.calls k a0_1 true _ A2.out).mono ?_); rintro e w' ⟨rfl, ⟨nd, rfl⟩⟩; refine ⟨_, rfl, ?_⟩) | ((with_reducible refine Aw (f := 38) rfl ?_); refine Bj (some 13) rfl rfl Tryd.func38 (by kernel_rfl) rfl #[.int .i64 a0_2, .int .i64 0, .int .i64 5] rfl Yb_ ?_; (with_reducible refine (Dw.calls a0_2 0 5 true _ A5.out).mono ?_); rintro e w' ⟨rfl, ⟨nd, rfl⟩⟩; refine ⟨_, rfl, ?_⟩))
        go_ret
        exact ⟨by first | rfl | (simp [Aq, Ar] <;> rfl) | (simp [*, Aq, Ar] <;> rfl), by repeat (first | (with_reducible first | exact HB.out | apply Ae | apply Aa | apply Ad | refine Am ?_ GE0.out) | exact HB.out)⟩
      · replace c6 := Bool.eq_false_iff.mpr c6
        subst c6
        have H1 : (some false) = some r := by rw [if_neg (show ¬ (false = true) by decide)] at H; exact H
        clear H
        have H := H1
        clear H1
        obtain rfl := Option.some.inj H
        go_enter Tryd.func23, Tryd.ntmps23
        go_wp2_with (first | ((with_reducible refine Dh (N := 1) rfl ?_); refine Dl ?hg (N := 1) ?hd (cs := #[.int .i64 a0_0, .string a0_1, .int .i64 a0_2, .int .i64 a0_3]) (t := 27) ?hr ?_; (case hd => rfl); (case hg => rfl); (case hr => first | (go_simp; done) | (go_simp; rfl)); intro gb0 hg w9 hbox hb; have n0_ := Ac.mk (Au Ya_ hb); have n1_ := Ac.mk (hbox); have n2_ := Ac.mk ((by rw [hg]; exact (Az Ya_) : w.heap.size ≤ gb0)); have n3_ := Ac.mk ((by rw [hg]; exact (Az Ya_) : w.heap.size ≤ gb0)); clear HB; have HB := n0_; have BK0 := n1_; have GW0 := n2_; have GE0 := n3_; clear n0_ n1_ n2_ n3_; clear hb hbox hg; have hcz10_0 : w9.cell? ⟨gb0, 0, none⟩ = some (.int .i64 a0_0) := (Af BK0.out 0).trans rfl; have hcz10_1 : w9.cell? ⟨gb0, 1, none⟩ = some (.string a0_1) := (Af BK0.out 1).trans rfl; have hcz10_2 : w9.cell? ⟨gb0, 2, none⟩ = some (.int .i64 a0_2) := (Af BK0.out 2).trans rfl; have hcz10_3 : w9.cell? ⟨gb0, 3, none⟩ = some (.int .i64 a0_3) := (Af BK0.out 3).trans rfl; have hfz10_0 := Ag BK0.out 0; have hfz10_1 := Ag BK0.out 1; have hfz10_2 := Ag BK0.out 2; have hfz10_3 := Ag BK0.out 3) | ((with_reducible refine Aw (f := 37) rfl ?_); refine Bj (some 5) rfl rfl Tryd.func37 (by kernel_rfl) rfl #[.string a0_1] rfl Yb_ ?_; (with_reducible refine (Ey.calls k a0_1 true _ A2.out).mono ?_); rintro e w' ⟨rfl, ⟨nd, rfl⟩⟩; refine ⟨_, rfl, ?_⟩) | ((with_reducible refine Aw (f := 38) rfl ?_); refine Bj (some 13) rfl rfl Tryd.func38 (by kernel_rfl) rfl #[.int .i64 a0_2, .int .i64 0, .int .i64 5] rfl Yb_ ?_; (with_reducible refine (Dw.calls a0_2 0 5 false _ A5.out).mono ?_); rintro e w' ⟨rfl, ⟨nd, rfl⟩⟩; refine ⟨_, rfl, ?_⟩))
        go_ret
        exact ⟨by first | rfl | (simp [Aq, Ar] <;> rfl) | (simp [*, Aq, Ar] <;> rfl), by repeat (first | (with_reducible first | exact HB.out | apply Ae | apply Aa | apply Ad | refine Am ?_ GE0.out) | exact HB.out)⟩
    · rw [if_neg c4] at H
      have c4b0 : (a0_0 == 1) = false := beq_eq_false_iff_ne.mpr c4
      have c4b1 : (a0_0 != 1) = true := bne_iff_ne.mpr c4
      by_cases c11 : a0_0 = 2
      · rw [if_pos c11] at H
        have c11b0 : (a0_0 == 2) = true := beq_iff_eq.mpr c11
        have c11b1 : (a0_0 != 2) = false := bne_eq_false_iff_eq.mpr c11
        clear c11
        replace H := Option.bind_eq_some_iff.mp H
        obtain ⟨t107, A120, H⟩ := H
        replace H : (if t107 = true then ((Dw.f a0_3 0 5).bind fun t108 => (if t108 = true then (some (a0_2 != a0_3)) else (some false))) else (some false)) = some r := H
        have A12 := Ac.mk A120
        clear A120
        by_cases c13 : t107 = true
        · subst c13
          have H1 : ((Dw.f a0_3 0 5).bind fun t108 => (if t108 = true then (some (a0_2 != a0_3)) else (some false))) = some r := by rw [if_pos rfl] at H; exact H
          clear H
          have H := H1
          clear H1
          replace H := Option.bind_eq_some_iff.mp H
          obtain ⟨t108, A140, H⟩ := H
          replace H : (if t108 = true then (some (a0_2 != a0_3)) else (some false)) = some r := H
          have A14 := Ac.mk A140
          clear A140
          by_cases c15 : t108 = true
          · subst c15
            have H1 : (some (a0_2 != a0_3)) = some r := by rw [if_pos rfl] at H; exact H
            clear H
            have H := H1
            clear H1
            obtain rfl := Option.some.inj H
            go_enter Tryd.func23, Tryd.ntmps23
            go_wp2_with (first | ((with_reducible refine Dh (N := 1) rfl ?_); refine Dl ?hg (N := 1) ?hd (cs := #[.int .i64 a0_0, .string a0_1, .int .i64 a0_2, .int .i64 a0_3]) (t := 27) ?hr ?_; (case hd => rfl); (case hg => rfl); (case hr => first | (go_simp; done) | (go_simp; rfl)); intro gb0 hg w16 hbox hb; have n0_ := Ac.mk (Au Ya_ hb); have n1_ := Ac.mk (hbox); have n2_ := Ac.mk ((by rw [hg]; exact (Az Ya_) : w.heap.size ≤ gb0)); have n3_ := Ac.mk ((by rw [hg]; exact (Az Ya_) : w.heap.size ≤ gb0)); clear HB; have HB := n0_; have BK0 := n1_; have GW0 := n2_; have GE0 := n3_; clear n0_ n1_ n2_ n3_; clear hb hbox hg; have hcz17_0 : w16.cell? ⟨gb0, 0, none⟩ = some (.int .i64 a0_0) := (Af BK0.out 0).trans rfl; have hcz17_1 : w16.cell? ⟨gb0, 1, none⟩ = some (.string a0_1) := (Af BK0.out 1).trans rfl; have hcz17_2 : w16.cell? ⟨gb0, 2, none⟩ = some (.int .i64 a0_2) := (Af BK0.out 2).trans rfl; have hcz17_3 : w16.cell? ⟨gb0, 3, none⟩ = some (.int .i64 a0_3) := (Af BK0.out 3).trans rfl; have hfz17_0 := Ag BK0.out 0; have hfz17_1 := Ag BK0.out 1; have hfz17_2 := Ag BK0.out 2; have hfz17_3 := Ag BK0.out 3) | ((with_reducible refine Aw (f := 37) rfl ?_); refine Bj (some 5) rfl rfl Tryd.func37 (by kernel_rfl) rfl #[.string a0_1] rfl Yb_ ?_; (with_reducible refine (Ey.calls k a0_1 true _ A2.out).mono ?_); rintro e w' ⟨rfl, ⟨nd, rfl⟩⟩; refine ⟨_, rfl, ?_⟩) | ((with_reducible refine Aw (f := 38) rfl ?_); refine Bj (some 23) rfl rfl Tryd.func38 (by kernel_rfl) rfl #[.int .i64 a0_2, .int .i64 0, .int .i64 5] rfl Yb_ ?_; (with_reducible refine (Dw.calls a0_2 0 5 true _ A12.out).mono ?_); rintro e w' ⟨rfl, ⟨nd, rfl⟩⟩; refine ⟨_, rfl, ?_⟩) | (go_at_call 38; (with_reducible refine (Dw.calls a0_3 0 5 true _ A14.out).mono ?_); rintro e w' ⟨rfl, ⟨nd, rfl⟩⟩))
            go_ret
            exact ⟨by first | rfl | (simp [Aq, Ar] <;> rfl) | (simp [*, Aq, Ar] <;> rfl), by repeat (first | (with_reducible first | exact HB.out | apply Ae | apply Aa | apply Ad | refine Am ?_ GE0.out) | exact HB.out)⟩
          · replace c15 := Bool.eq_false_iff.mpr c15
            subst c15
            have H1 : (some false) = some r := by rw [if_neg (show ¬ (false = true) by decide)] at H; exact H
            clear H
            have H := H1
            clear H1
            obtain rfl := Option.some.inj H
            go_enter Tryd.func23, Tryd.ntmps23
            go_wp2_with (first | ((with_reducible refine Dh (N := 1) rfl ?_); refine Dl ?hg (N := 1) ?hd (cs := #[.int .i64 a0_0, .string a0_1, .int .i64 a0_2, .int .i64 a0_3]) (t := 27) ?hr ?_; (case hd => rfl); (case hg => rfl); (case hr => first | (go_simp; done) | (go_simp; rfl)); intro gb0 hg w18 hbox hb; have n0_ := Ac.mk (Au Ya_ hb); have n1_ := Ac.mk (hbox); have n2_ := Ac.mk ((by rw [hg]; exact (Az Ya_) : w.heap.size ≤ gb0)); have n3_ := Ac.mk ((by rw [hg]; exact (Az Ya_) : w.heap.size ≤ gb0)); clear HB; have HB := n0_; have BK0 := n1_; have GW0 := n2_; have GE0 := n3_; clear n0_ n1_ n2_ n3_; clear hb hbox hg; have hcz19_0 : w18.cell? ⟨gb0, 0, none⟩ = some (.int .i64 a0_0) := (Af BK0.out 0).trans rfl; have hcz19_1 : w18.cell? ⟨gb0, 1, none⟩ = some (.string a0_1) := (Af BK0.out 1).trans rfl; have hcz19_2 : w18.cell? ⟨gb0, 2, none⟩ = some (.int .i64 a0_2) := (Af BK0.out 2).trans rfl; have hcz19_3 : w18.cell? ⟨gb0, 3, none⟩ = some (.int .i64 a0_3) := (Af BK0.out 3).trans rfl; have hfz19_0 := Ag BK0.out 0; have hfz19_1 := Ag BK0.out 1; have hfz19_2 := Ag BK0.out 2; have hfz19_3 := Ag BK0.out 3) | ((with_reducible refine Aw (f := 37) rfl ?_); refine Bj (some 5) rfl rfl Tryd.func37 (by kernel_rfl) rfl #[.string a0_1] rfl Yb_ ?_; (with_reducible refine (Ey.calls k a0_1 true _ A2.out).mono ?_); rintro e w' ⟨rfl, ⟨nd, rfl⟩⟩; refine ⟨_, rfl, ?_⟩) | ((with_reducible refine Aw (f := 38) rfl ?_); refine Bj (some 23) rfl rfl Tryd.func38 (by kernel_rfl) rfl #[.int .i64 a0_2, .int .i64 0, .int .i64 5] rfl Yb_ ?_; (with_reducible refine (Dw.calls a0_2 0 5 true _ A12.out).mono ?_); rintro e w' ⟨rfl, ⟨nd, rfl⟩⟩; refine ⟨_, rfl, ?_⟩) | (go_at_call 38; (with_reducible refine (Dw.calls a0_3 0 5 false _ A14.out).mono ?_); rintro e w' ⟨rfl, ⟨nd, rfl⟩⟩))
            go_ret
            exact ⟨by first | rfl | (simp [Aq, Ar] <;> rfl) | (simp [*, Aq, Ar] <;> rfl), by repeat (first | (with_reducible first | exact HB.out | apply Ae | apply Aa | apply Ad | refine Am ?_ GE0.out) | exact HB.out)⟩
        · replace c13 := Bool.eq_false_iff.mpr c13
          subst c13
          have H1 : (some false) = some r := by rw [if_neg (show ¬ (false = true) by decide)] at H; exact H
          clear H
          have H := H1
          clear H1
          obtain rfl := Option.some.inj H
          go_enter Tryd.func23, Tryd.ntmps23
          go_wp2_with (first | ((with_reducible refine Dh (N := 1) rfl ?_); refine Dl ?hg (N := 1) ?hd (cs := #[.int .i64 a0_0, .string a0_1, .int .i64 a0_2, .int .i64 a0_3]) (t := 27) ?hr ?_; (case hd => rfl); (case hg => rfl); (case hr => first | (go_simp; done) | (go_simp; rfl)); intro gb0 hg w20 hbox hb; have n0_ := Ac.mk (Au Ya_ hb); have n1_ := Ac.mk (hbox); have n2_ := Ac.mk ((by rw [hg]; exact (Az Ya_) : w.heap.size ≤ gb0)); have n3_ := Ac.mk ((by rw [hg]; exact (Az Ya_) : w.heap.size ≤ gb0)); clear HB; have HB := n0_; have BK0 := n1_; have GW0 := n2_; have GE0 := n3_; clear n0_ n1_ n2_ n3_; clear hb hbox hg; have hcz21_0 : w20.cell? ⟨gb0, 0, none⟩ = some (.int .i64 a0_0) := (Af BK0.out 0).trans rfl; have hcz21_1 : w20.cell? ⟨gb0, 1, none⟩ = some (.string a0_1) := (Af BK0.out 1).trans rfl; have hcz21_2 : w20.cell? ⟨gb0, 2, none⟩ = some (.int .i64 a0_2) := (Af BK0.out 2).trans rfl; have hcz21_3 : w20.cell? ⟨gb0, 3, none⟩ = some (.int .i64 a0_3) := (Af BK0.out 3).trans rfl; have hfz21_0 := Ag BK0.out 0; have hfz21_1 := Ag BK0.out 1; have hfz21_2 := Ag BK0.out 2; have hfz21_3 := Ag BK0.out 3) | ((with_reducible refine Aw (f := 37) rfl ?_); refine Bj (some 5) rfl rfl Tryd.func37 (by kernel_rfl) rfl #[.string a0_1] rfl Yb_ ?_; (with_reducible refine (Ey.calls k a0_1 true _ A2.out).mono ?_); rintro e w' ⟨rfl, ⟨nd, rfl⟩⟩; refine ⟨_, rfl, ?_⟩) | ((with_reducible refine Aw (f := 38) rfl ?_); refine Bj (some 23) rfl rfl Tryd.func38 (by kernel_rfl) rfl #[.int .i64 a0_2, .int .i64 0, .int .i64 5] rfl Yb_ ?_; (with_reducible refine (Dw.calls a0_2 0 5 false _ A12.out).mono ?_); rintro e w' ⟨rfl, ⟨nd, rfl⟩⟩; refine ⟨_, rfl, ?_⟩))
          go_ret
          exact ⟨by first | rfl | (simp [Aq, Ar] <;> rfl) | (simp [*, Aq, Ar] <;> rfl), by repeat (first | (with_reducible first | exact HB.out | apply Ae | apply Aa | apply Ad | refine Am ?_ GE0.out) | exact HB.out)⟩
      · rw [if_neg c11] at H
        have c11b0 : (a0_0 == 2) = false := beq_eq_false_iff_ne.mpr c11
        have c11b1 : (a0_0 != 2) = true := bne_iff_ne.mpr c11
        by_cases c22 : a0_0 = 3
        · rw [if_pos c22] at H
          have c22b0 : (a0_0 == 3) = true := beq_iff_eq.mpr c22
          have c22b1 : (a0_0 != 3) = false := bne_eq_false_iff_eq.mpr c22
          clear c22
          replace H := Option.bind_eq_some_iff.mp H
          obtain ⟨t109, A230, H⟩ := H
          replace H : (if t109 = true then (some (a0_3 == 0)) else (some false)) = some r := H
          have A23 := Ac.mk A230
          clear A230
          by_cases c24 : t109 = true
          · subst c24
            have H1 : (some (a0_3 == 0)) = some r := by rw [if_pos rfl] at H; exact H
            clear H
            have H := H1
            clear H1
            obtain rfl := Option.some.inj H
            go_enter Tryd.func23, Tryd.ntmps23
            go_wp2_with (first | ((with_reducible refine Dh (N := 1) rfl ?_); refine Dl ?hg (N := 1) ?hd (cs := #[.int .i64 a0_0, .string a0_1, .int .i64 a0_2, .int .i64 a0_3]) (t := 27) ?hr ?_; (case hd => rfl); (case hg => rfl); (case hr => first | (go_simp; done) | (go_simp; rfl)); intro gb0 hg w25 hbox hb; have n0_ := Ac.mk (Au Ya_ hb); have n1_ := Ac.mk (hbox); have n2_ := Ac.mk ((by rw [hg]; exact (Az Ya_) : w.heap.size ≤ gb0)); have n3_ := Ac.mk ((by rw [hg]; exact (Az Ya_) : w.heap.size ≤ gb0)); clear HB; have HB := n0_; have BK0 := n1_; have GW0 := n2_; have GE0 := n3_; clear n0_ n1_ n2_ n3_; clear hb hbox hg; have hcz26_0 : w25.cell? ⟨gb0, 0, none⟩ = some (.int .i64 a0_0) := (Af BK0.out 0).trans rfl; have hcz26_1 : w25.cell? ⟨gb0, 1, none⟩ = some (.string a0_1) := (Af BK0.out 1).trans rfl; have hcz26_2 : w25.cell? ⟨gb0, 2, none⟩ = some (.int .i64 a0_2) := (Af BK0.out 2).trans rfl; have hcz26_3 : w25.cell? ⟨gb0, 3, none⟩ = some (.int .i64 a0_3) := (Af BK0.out 3).trans rfl; have hfz26_0 := Ag BK0.out 0; have hfz26_1 := Ag BK0.out 1; have hfz26_2 := Ag BK0.out 2; have hfz26_3 := Ag BK0.out 3) | ((with_reducible refine Aw (f := 37) rfl ?_); refine Bj (some 5) rfl rfl Tryd.func37 (by kernel_rfl) rfl #[.string a0_1] rfl Yb_ ?_; (with_reducible refine (Ey.calls k a0_1 true _ A2.out).mono ?_); rintro e w' ⟨rfl, ⟨nd, rfl⟩⟩; refine ⟨_, rfl, ?_⟩) | ((with_reducible refine Aw (f := 38) rfl ?_); refine Bj (some 40) rfl rfl Tryd.func38 (by kernel_rfl) rfl #[.int .i64 a0_2, .int .i64 1, .int .i64 15] rfl Yb_ ?_; (with_reducible refine (Dw.calls a0_2 1 15 true _ A23.out).mono ?_); rintro e w' ⟨rfl, ⟨nd, rfl⟩⟩; refine ⟨_, rfl, ?_⟩))
            go_ret
            exact ⟨by first | rfl | (simp [Aq, Ar] <;> rfl) | (simp [*, Aq, Ar] <;> rfl), by repeat (first | (with_reducible first | exact HB.out | apply Ae | apply Aa | apply Ad | refine Am ?_ GE0.out) | exact HB.out)⟩
          · replace c24 := Bool.eq_false_iff.mpr c24
            subst c24
            have H1 : (some false) = some r := by rw [if_neg (show ¬ (false = true) by decide)] at H; exact H
            clear H
            have H := H1
            clear H1
            obtain rfl := Option.some.inj H
            go_enter Tryd.func23, Tryd.ntmps23
            go_wp2_with (first | ((with_reducible refine Dh (N := 1) rfl ?_); refine Dl ?hg (N := 1) ?hd (cs := #[.int .i64 a0_0, .string a0_1, .int .i64 a0_2, .int .i64 a0_3]) (t := 27) ?hr ?_; (case hd => rfl); (case hg => rfl); (case hr => first | (go_simp; done) | (go_simp; rfl)); intro gb0 hg w27 hbox hb; have n0_ := Ac.mk (Au Ya_ hb); have n1_ := Ac.mk (hbox); have n2_ := Ac.mk ((by rw [hg]; exact (Az Ya_) : w.heap.size ≤ gb0)); have n3_ := Ac.mk ((by rw [hg]; exact (Az Ya_) : w.heap.size ≤ gb0)); clear HB; have HB := n0_; have BK0 := n1_; have GW0 := n2_; have GE0 := n3_; clear n0_ n1_ n2_ n3_; clear hb hbox hg; have hcz28_0 : w27.cell? ⟨gb0, 0, none⟩ = some (.int .i64 a0_0) := (Af BK0.out 0).trans rfl; have hcz28_1 : w27.cell? ⟨gb0, 1, none⟩ = some (.string a0_1) := (Af BK0.out 1).trans rfl; have hcz28_2 : w27.cell? ⟨gb0, 2, none⟩ = some (.int .i64 a0_2) := (Af BK0.out 2).trans rfl; have hcz28_3 : w27.cell? ⟨gb0, 3, none⟩ = some (.int .i64 a0_3) := (Af BK0.out 3).trans rfl; have hfz28_0 := Ag BK0.out 0; have hfz28_1 := Ag BK0.out 1; have hfz28_2 := Ag BK0.out 2; have hfz28_3 := Ag BK0.out 3) | ((with_reducible refine Aw (f := 37) rfl ?_); refine Bj (some 5) rfl rfl Tryd.func37 (by kernel_rfl) rfl #[.string a0_1] rfl Yb_ ?_; (with_reducible refine (Ey.calls k a0_1 true _ A2.out).mono ?_); rintro e w' ⟨rfl, ⟨nd, rfl⟩⟩; refine ⟨_, rfl, ?_⟩) | ((with_reducible refine Aw (f := 38) rfl ?_); refine Bj (some 40) rfl rfl Tryd.func38 (by kernel_rfl) rfl #[.int .i64 a0_2, .int .i64 1, .int .i64 15] rfl Yb_ ?_; (with_reducible refine (Dw.calls a0_2 1 15 false _ A23.out).mono ?_); rintro e w' ⟨rfl, ⟨nd, rfl⟩⟩; refine ⟨_, rfl, ?_⟩))
            go_ret
            exact ⟨by first | rfl | (simp [Aq, Ar] <;> rfl) | (simp [*, Aq, Ar] <;> rfl), by repeat (first | (with_reducible first | exact HB.out | apply Ae | apply Aa | apply Ad | refine Am ?_ GE0.out) | exact HB.out)⟩
        · rw [if_neg c22] at H
          have c22b0 : (a0_0 == 3) = false := beq_eq_false_iff_ne.mpr c22
          have c22b1 : (a0_0 != 3) = true := bne_iff_ne.mpr c22
          by_cases c29 : a0_0 = 4
          · rw [if_pos c29] at H
            have c29b0 : (a0_0 == 4) = true := beq_iff_eq.mpr c29
            have c29b1 : (a0_0 != 4) = false := bne_eq_false_iff_eq.mpr c29
            clear c29
            replace H := Option.bind_eq_some_iff.mp H
            obtain ⟨t110, A300, H⟩ := H
            replace H : (if t110 = true then (some (a0_3 == 0)) else (some false)) = some r := H
            have A30 := Ac.mk A300
            clear A300
            by_cases c31 : t110 = true
            · subst c31
              have H1 : (some (a0_3 == 0)) = some r := by rw [if_pos rfl] at H; exact H
              clear H
              have H := H1
              clear H1
              obtain rfl := Option.some.inj H
              go_enter Tryd.func23, Tryd.ntmps23
              go_wp2_with (first | ((with_reducible refine Dh (N := 1) rfl ?_); refine Dl ?hg (N := 1) ?hd (cs := #[.int .i64 a0_0, .string a0_1, .int .i64 a0_2, .int .i64 a0_3]) (t := 27) ?hr ?_; (case hd => rfl); (case hg => rfl); (case hr => first | (go_simp; done) | (go_simp; rfl)); intro gb0 hg w32 hbox hb; have n0_ := Ac.mk (Au Ya_ hb); have n1_ := Ac.mk (hbox); have n2_ := Ac.mk ((by rw [hg]; exact (Az Ya_) : w.heap.size ≤ gb0)); have n3_ := Ac.mk ((by rw [hg]; exact (Az Ya_) : w.heap.size ≤ gb0)); clear HB; have HB := n0_; have BK0 := n1_; have GW0 := n2_; have GE0 := n3_; clear n0_ n1_ n2_ n3_; clear hb hbox hg; have hcz33_0 : w32.cell? ⟨gb0, 0, none⟩ = some (.int .i64 a0_0) := (Af BK0.out 0).trans rfl; have hcz33_1 : w32.cell? ⟨gb0, 1, none⟩ = some (.string a0_1) := (Af BK0.out 1).trans rfl; have hcz33_2 : w32.cell? ⟨gb0, 2, none⟩ = some (.int .i64 a0_2) := (Af BK0.out 2).trans rfl; have hcz33_3 : w32.cell? ⟨gb0, 3, none⟩ = some (.int .i64 a0_3) := (Af BK0.out 3).trans rfl; have hfz33_0 := Ag BK0.out 0; have hfz33_1 := Ag BK0.out 1; have hfz33_2 := Ag BK0.out 2; have hfz33_3 := Ag BK0.out 3) | ((with_reducible refine Aw (f := 37) rfl ?_); refine Bj (some 5) rfl rfl Tryd.func37 (by kernel_rfl) rfl #[.string a0_1] rfl Yb_ ?_; (with_reducible refine (Ey.calls k a0_1 true _ A2.out).mono ?_); rintro e w' ⟨rfl, ⟨nd, rfl⟩⟩; refine ⟨_, rfl, ?_⟩) | ((with_reducible refine Aw (f := 38) rfl ?_); refine Bj (some 50) rfl rfl Tryd.func38 (by kernel_rfl) rfl #[.int .i64 a0_2, .int .i64 0, .int .i64 11] rfl Yb_ ?_; (with_reducible refine (Dw.calls a0_2 0 11 true _ A30.out).mono ?_); rintro e w' ⟨rfl, ⟨nd, rfl⟩⟩; refine ⟨_, rfl, ?_⟩))
              go_ret
              exact ⟨by first | rfl | (simp [Aq, Ar] <;> rfl) | (simp [*, Aq, Ar] <;> rfl), by repeat (first | (with_reducible first | exact HB.out | apply Ae | apply Aa | apply Ad | refine Am ?_ GE0.out) | exact HB.out)⟩
            · replace c31 := Bool.eq_false_iff.mpr c31
              subst c31
              have H1 : (some false) = some r := by rw [if_neg (show ¬ (false = true) by decide)] at H; exact H
              clear H
              have H := H1
              clear H1
              obtain rfl := Option.some.inj H
              go_enter Tryd.func23, Tryd.ntmps23
              go_wp2_with (first | ((with_reducible refine Dh (N := 1) rfl ?_); refine Dl ?hg (N := 1) ?hd (cs := #[.int .i64 a0_0, .string a0_1, .int .i64 a0_2, .int .i64 a0_3]) (t := 27) ?hr ?_; (case hd => rfl); (case hg => rfl); (case hr => first | (go_simp; done) | (go_simp; rfl)); intro gb0 hg w34 hbox hb; have n0_ := Ac.mk (Au Ya_ hb); have n1_ := Ac.mk (hbox); have n2_ := Ac.mk ((by rw [hg]; exact (Az Ya_) : w.heap.size ≤ gb0)); have n3_ := Ac.mk ((by rw [hg]; exact (Az Ya_) : w.heap.size ≤ gb0)); clear HB; have HB := n0_; have BK0 := n1_; have GW0 := n2_; have GE0 := n3_; clear n0_ n1_ n2_ n3_; clear hb hbox hg; have hcz35_0 : w34.cell? ⟨gb0, 0, none⟩ = some (.int .i64 a0_0) := (Af BK0.out 0).trans rfl; have hcz35_1 : w34.cell? ⟨gb0, 1, none⟩ = some (.string a0_1) := (Af BK0.out 1).trans rfl; have hcz35_2 : w34.cell? ⟨gb0, 2, none⟩ = some (.int .i64 a0_2) := (Af BK0.out 2).trans rfl; have hcz35_3 : w34.cell? ⟨gb0, 3, none⟩ = some (.int .i64 a0_3) := (Af BK0.out 3).trans rfl; have hfz35_0 := Ag BK0.out 0; have hfz35_1 := Ag BK0.out 1; have hfz35_2 := Ag BK0.out 2; have hfz35_3 := Ag BK0.out 3) | ((with_reducible refine Aw (f := 37) rfl ?_); refine Bj (some 5) rfl rfl Tryd.func37 (by kernel_rfl) rfl #[.string a0_1] rfl Yb_ ?_; (with_reducible refine (Ey.calls k a0_1 true _ A2.out).mono ?_); rintro e w' ⟨rfl, ⟨nd, rfl⟩⟩; refine ⟨_, rfl, ?_⟩) | ((with_reducible refine Aw (f := 38) rfl ?_); refine Bj (some 50) rfl rfl Tryd.func38 (by kernel_rfl) rfl #[.int .i64 a0_2, .int .i64 0, .int .i64 11] rfl Yb_ ?_; (with_reducible refine (Dw.calls a0_2 0 11 false _ A30.out).mono ?_); rintro e w' ⟨rfl, ⟨nd, rfl⟩⟩; refine ⟨_, rfl, ?_⟩))
              go_ret
              exact ⟨by first | rfl | (simp [Aq, Ar] <;> rfl) | (simp [*, Aq, Ar] <;> rfl), by repeat (first | (with_reducible first | exact HB.out | apply Ae | apply Aa | apply Ad | refine Am ?_ GE0.out) | exact HB.out)⟩
          · rw [if_neg c29] at H
            have c29b0 : (a0_0 == 4) = false := beq_eq_false_iff_ne.mpr c29
            have c29b1 : (a0_0 != 4) = true := bne_iff_ne.mpr c29
            by_cases c36 : a0_0 = 5
            · rw [if_pos c36] at H
              have c36b0 : (a0_0 == 5) = true := beq_iff_eq.mpr c36
              have c36b1 : (a0_0 != 5) = false := bne_eq_false_iff_eq.mpr c36
              clear c36
              replace H := Option.bind_eq_some_iff.mp H
              obtain ⟨t111, A370, H⟩ := H
              replace H : (if t111 = true then ((Dw.f a0_3 1 400).bind fun t112 => (some t112)) else (some false)) = some r := H
              have A37 := Ac.mk A370
              clear A370
              by_cases c38 : t111 = true
              · subst c38
                have H1 : ((Dw.f a0_3 1 400).bind fun t112 => (some t112)) = some r := by rw [if_pos rfl] at H; exact H
                clear H
                have H := H1
                clear H1
                replace H := Option.bind_eq_some_iff.mp H
                obtain ⟨t112, A390, H⟩ := H
                replace H : (some t112) = some r := H
                have A39 := Ac.mk A390
                clear A390
                obtain rfl := Option.some.inj H
                go_enter Tryd.func23, Tryd.ntmps23
                go_wp2_with (first | ((with_reducible refine Dh (N := 1) rfl ?_); refine Dl ?hg (N := 1) ?hd (cs := #[.int .i64 a0_0, .string a0_1, .int .i64 a0_2, .int .i64 a0_3]) (t := 27) ?hr ?_; (case hd => rfl); (case hg => rfl); (case hr => first | (go_simp; done) | (go_simp; rfl)); intro gb0 hg w40 hbox hb; have n0_ := Ac.mk (Au Ya_ hb); have n1_ := Ac.mk (hbox); have n2_ := Ac.mk ((by rw [hg]; exact (Az Ya_) : w.heap.size ≤ gb0)); have n3_ := Ac.mk ((by rw [hg]; exact (Az Ya_) : w.heap.size ≤ gb0)); clear HB; have HB := n0_; have BK0 := n1_; have GW0 := n2_; have GE0 := n3_; clear n0_ n1_ n2_ n3_; clear hb hbox hg; have hcz41_0 : w40.cell? ⟨gb0, 0, none⟩ = some (.int .i64 a0_0) := (Af BK0.out 0).trans rfl; have hcz41_1 : w40.cell? ⟨gb0, 1, none⟩ = some (.string a0_1) := (Af BK0.out 1).trans rfl; have hcz41_2 : w40.cell? ⟨gb0, 2, none⟩ = some (.int .i64 a0_2) := (Af BK0.out 2).trans rfl; have hcz41_3 : w40.cell? ⟨gb0, 3, none⟩ = some (.int .i64 a0_3) := (Af BK0.out 3).trans rfl; have hfz41_0 := Ag BK0.out 0; have hfz41_1 := Ag BK0.out 1; have hfz41_2 := Ag BK0.out 2; have hfz41_3 := Ag BK0.out 3) | ((with_reducible refine Aw (f := 37) rfl ?_); refine Bj (some 5) rfl rfl Tryd.func37 (by kernel_rfl) rfl #[.string a0_1] rfl Yb_ ?_; (with_reducible refine (Ey.calls k a0_1 true _ A2.out).mono ?_); rintro e w' ⟨rfl, ⟨nd, rfl⟩⟩; refine ⟨_, rfl, ?_⟩) | ((with_reducible refine Aw (f := 38) rfl ?_); refine Bj (some 60) rfl rfl Tryd.func38 (by kernel_rfl) rfl #[.int .i64 a0_2, .int .i64 1, .int .i64 999999] rfl Yb_ ?_; (with_reducible refine (Dw.calls a0_2 1 999999 true _ A37.out).mono ?_); rintro e w' ⟨rfl, ⟨nd, rfl⟩⟩; refine ⟨_, rfl, ?_⟩) | (go_at_call 38; (with_reducible refine (Dw.calls a0_3 1 400 t112 _ A39.out).mono ?_); rintro e w' ⟨rfl, ⟨nd, rfl⟩⟩))
                go_ret
                exact ⟨by first | rfl | (simp [Aq, Ar] <;> rfl) | (simp [*, Aq, Ar] <;> rfl), by repeat (first | (with_reducible first | exact HB.out | apply Ae | apply Aa | apply Ad | refine Am ?_ GE0.out) | exact HB.out)⟩
              · replace c38 := Bool.eq_false_iff.mpr c38
                subst c38
                have H1 : (some false) = some r := by rw [if_neg (show ¬ (false = true) by decide)] at H; exact H
                clear H
                have H := H1
                clear H1
                obtain rfl := Option.some.inj H
                go_enter Tryd.func23, Tryd.ntmps23
                go_wp2_with (first | ((with_reducible refine Dh (N := 1) rfl ?_); refine Dl ?hg (N := 1) ?hd (cs := #[.int .i64 a0_0, .string a0_1, .int .i64 a0_2, .int .i64 a0_3]) (t := 27) ?hr ?_; (case hd => rfl); (case hg => rfl); (case hr => first | (go_simp; done) | (go_simp; rfl)); intro gb0 hg w42 hbox hb; have n0_ := Ac.mk (Au Ya_ hb); have n1_ := Ac.mk (hbox); have n2_ := Ac.mk ((by rw [hg]; exact (Az Ya_) : w.heap.size ≤ gb0)); have n3_ := Ac.mk ((by rw [hg]; exact (Az Ya_) : w.heap.size ≤ gb0)); clear HB; have HB := n0_; have BK0 := n1_; have GW0 := n2_; have GE0 := n3_; clear n0_ n1_ n2_ n3_; clear hb hbox hg; have hcz43_0 : w42.cell? ⟨gb0, 0, none⟩ = some (.int .i64 a0_0) := (Af BK0.out 0).trans rfl; have hcz43_1 : w42.cell? ⟨gb0, 1, none⟩ = some (.string a0_1) := (Af BK0.out 1).trans rfl; have hcz43_2 : w42.cell? ⟨gb0, 2, none⟩ = some (.int .i64 a0_2) := (Af BK0.out 2).trans rfl; have hcz43_3 : w42.cell? ⟨gb0, 3, none⟩ = some (.int .i64 a0_3) := (Af BK0.out 3).trans rfl; have hfz43_0 := Ag BK0.out 0; have hfz43_1 := Ag BK0.out 1; have hfz43_2 := Ag BK0.out 2; have hfz43_3 := Ag BK0.out 3) | ((with_reducible refine Aw (f := 37) rfl ?_); refine Bj (some 5) rfl rfl Tryd.func37 (by kernel_rfl) rfl #[.string a0_1] rfl Yb_ ?_; (with_reducible refine (Ey.calls k a0_1 true _ A2.out).mono ?_); rintro e w' ⟨rfl, ⟨nd, rfl⟩⟩; refine ⟨_, rfl, ?_⟩) | ((with_reducible refine Aw (f := 38) rfl ?_); refine Bj (some 60) rfl rfl Tryd.func38 (by kernel_rfl) rfl #[.int .i64 a0_2, .int .i64 1, .int .i64 999999] rfl Yb_ ?_; (with_reducible refine (Dw.calls a0_2 1 999999 false _ A37.out).mono ?_); rintro e w' ⟨rfl, ⟨nd, rfl⟩⟩; refine ⟨_, rfl, ?_⟩))
                go_ret
                exact ⟨by first | rfl | (simp [Aq, Ar] <;> rfl) | (simp [*, Aq, Ar] <;> rfl), by repeat (first | (with_reducible first | exact HB.out | apply Ae | apply Aa | apply Ad | refine Am ?_ GE0.out) | exact HB.out)⟩
            · rw [if_neg c36] at H
              have c36b0 : (a0_0 == 5) = false := beq_eq_false_iff_ne.mpr c36
              have c36b1 : (a0_0 != 5) = true := bne_iff_ne.mpr c36
              obtain rfl := Option.some.inj H
              go_enter Tryd.func23, Tryd.ntmps23
              go_wp2_with (first | ((with_reducible refine Dh (N := 1) rfl ?_); refine Dl ?hg (N := 1) ?hd (cs := #[.int .i64 a0_0, .string a0_1, .int .i64 a0_2, .int .i64 a0_3]) (t := 27) ?hr ?_; (case hd => rfl); (case hg => rfl); (case hr => first | (go_simp; done) | (go_simp; rfl)); intro gb0 hg w44 hbox hb; have n0_ := Ac.mk (Au Ya_ hb); have n1_ := Ac.mk (hbox); have n2_ := Ac.mk ((by rw [hg]; exact (Az Ya_) : w.heap.size ≤ gb0)); have n3_ := Ac.mk ((by rw [hg]; exact (Az Ya_) : w.heap.size ≤ gb0)); clear HB; have HB := n0_; have BK0 := n1_; have GW0 := n2_; have GE0 := n3_; clear n0_ n1_ n2_ n3_; clear hb hbox hg; have hcz45_0 : w44.cell? ⟨gb0, 0, none⟩ = some (.int .i64 a0_0) := (Af BK0.out 0).trans rfl; have hcz45_1 : w44.cell? ⟨gb0, 1, none⟩ = some (.string a0_1) := (Af BK0.out 1).trans rfl; have hcz45_2 : w44.cell? ⟨gb0, 2, none⟩ = some (.int .i64 a0_2) := (Af BK0.out 2).trans rfl; have hcz45_3 : w44.cell? ⟨gb0, 3, none⟩ = some (.int .i64 a0_3) := (Af BK0.out 3).trans rfl; have hfz45_0 := Ag BK0.out 0; have hfz45_1 := Ag BK0.out 1; have hfz45_2 := Ag BK0.out 2; have hfz45_3 := Ag BK0.out 3) | ((with_reducible refine Aw (f := 37) rfl ?_); refine Bj (some 5) rfl rfl Tryd.func37 (by kernel_rfl) rfl #[.string a0_1] rfl Yb_ ?_; (with_reducible refine (Ey.calls k a0_1 true _ A2.out).mono ?_); rintro e w' ⟨rfl, ⟨nd, rfl⟩⟩; refine ⟨_, rfl, ?_⟩))
              go_ret
              exact ⟨by first | rfl | (simp [Aq, Ar] <;> rfl) | (simp [*, Aq, Ar] <;> rfl), by repeat (first | (with_reducible first | exact HB.out | apply Ae | apply Aa | apply Ad | refine Am ?_ GE0.out) | exact HB.out)⟩
  · replace c3 := Bool.eq_false_iff.mpr c3
    subst c3
    have H1 : (some false) = some r := by rw [if_neg (show ¬ (false = true) by decide)] at H; exact H
    clear H
    have H := H1
    clear H1
    obtain rfl := Option.some.inj H
    go_enter Tryd.func23, Tryd.ntmps23
    go_wp2_with (first | ((with_reducible refine Dh (N := 1) rfl ?_); refine Dl ?hg (N := 1) ?hd (cs := #[.int .i64 a0_0, .string a0_1, .int .i64 a0_2, .int .i64 a0_3]) (t := 27) ?hr ?_; (case hd => rfl); (case hg => rfl); (case hr => first | (go_simp; done) | (go_simp; rfl)); intro gb0 hg w46 hbox hb; have n0_ := Ac.mk (Au Ya_ hb); have n1_ := Ac.mk (hbox); have n2_ := Ac.mk ((by rw [hg]; exact (Az Ya_) : w.heap.size ≤ gb0)); have n3_ := Ac.mk ((by rw [hg]; exact (Az Ya_) : w.heap.size ≤ gb0)); clear HB; have HB := n0_; have BK0 := n1_; have GW0 := n2_; have GE0 := n3_; clear n0_ n1_ n2_ n3_; clear hb hbox hg; have hcz47_0 : w46.cell? ⟨gb0, 0, none⟩ = some (.int .i64 a0_0) := (Af BK0.out 0).trans rfl; have hcz47_1 : w46.cell? ⟨gb0, 1, none⟩ = some (.string a0_1) := (Af BK0.out 1).trans rfl; have hcz47_2 : w46.cell? ⟨gb0, 2, none⟩ = some (.int .i64 a0_2) := (Af BK0.out 2).trans rfl; have hcz47_3 : w46.cell? ⟨gb0, 3, none⟩ = some (.int .i64 a0_3) := (Af BK0.out 3).trans rfl; have hfz47_0 := Ag BK0.out 0; have hfz47_1 := Ag BK0.out 1; have hfz47_2 := Ag BK0.out 2; have hfz47_3 := Ag BK0.out 3) | ((with_reducible refine Aw (f := 37) rfl ?_); refine Bj (some 5) rfl rfl Tryd.func37 (by kernel_rfl) rfl #[.string a0_1] rfl Yb_ ?_; (with_reducible refine (Ey.calls k a0_1 false _ A2.out).mono ?_); rintro e w' ⟨rfl, ⟨nd, rfl⟩⟩; refine ⟨_, rfl, ?_⟩))
    go_ret
    exact ⟨by first | rfl | (simp [Aq, Ar] <;> rfl) | (simp [*, Aq, Ar] <;> rfl), by repeat (first | (with_reducible first | exact HB.out | apply Ae | apply Aa | apply Ad | refine Am ?_ GE0.out) | exact HB.out)⟩
end Go.Proofs.YtghnljoaklmakaaDoor.X

namespace Go.Proofs.YtghnljoaklmakaaDoor.X
open Go.RowKit Go.Proofs.YtghnljoaklmakaaDoorW.PrintWords Go.Proofs.YtghnljoaklmakaaDoorW.PrintLast Go.Proofs.YtghnljoaklmakaaDoorW.PrintMore
attribute [local go_sem] Ea Eb Eh Eg Dz D5 Ec D9
open Go.Proofs.YtghnljoaklmakaaDoorG
def Dx.l0 : Nat → List (S27) → Int → Option (Bool)
  | 0, _, _ => none
  | k + 1, x0, x3 => if x3 < (x0.length : Int) then (if 0 ≤ x3 then ((Ej.f k ((Ak x0 x3).f0) ((Ak x0 x3).f1) ((Ak x0 x3).f2) ((Ak x0 x3).f3)).bind fun t205 => (if t205 = true then (Dx.l0 k x0 (wrap64 (x3 + 1))) else (some false))) else (none)) else (some (decide ((x0.length : Int) ≤ 10)))
def Dx.f (k : Nat) (l0 : List (S27)) : Option (Bool) := Dx.l0 k l0 0
theorem Dx.Ed : ∀ k, (∀ y0 y1, LeO (Dx.l0 k y0 y1) (Dx.l0 (k + 1) y0 y1))
  | 0 => fun _ _ r h => by simp [Dx.l0] at h
  | k + 1 => by
    have ih0 := Dx.Ed k
    · intro y0 y1
      unfold Dx.l0
      repeat' first
      | (with_reducible exact ih0 _ _)
      | (with_reducible exact Ej.mono _ _ _ _ _)
      | (with_reducible exact LeO.refl _)
      | (with_reducible exact LeO.none _)
      | (with_reducible refine LeO.ite ?_ ?_)
      | (with_reducible refine LeO.bind ?_ (fun _ => ?_))
      | exact ih0 _ _
      | exact Ej.mono _ _ _ _ _
      | exact LeO.none _
      | refine LeO.ite ?_ ?_
      | refine LeO.bind ?_ (fun _ => ?_)
theorem Dx.mono : ∀ a0 k, LeO (Dx.f k a0) (Dx.f (k + 1) a0) := by
  intro a0 k
  have ih0 := Dx.Ed k
  unfold Dx.f
  repeat' first
      | (with_reducible exact ih0 _ _)
      | (with_reducible exact Ej.mono _ _ _ _ _)
      | (with_reducible exact LeO.refl _)
      | (with_reducible exact LeO.none _)
      | (with_reducible refine LeO.ite ?_ ?_)
      | (with_reducible refine LeO.bind ?_ (fun _ => ?_))
      | exact ih0 _ _
      | exact Ej.mono _ _ _ _ _
      | exact LeO.none _
      | refine LeO.ite ?_ ?_
      | refine LeO.bind ?_ (fun _ => ?_)
set_option maxHeartbeats 8000000 in
set_option maxRecDepth 100000 in
theorem Dx.calls (k : Nat) (A0 : Option Addr) (c0 : Nat) (l0 : List (S27)) (r : Bool) (w : World) (hr0 : Kd.C k27 w A0 l0.length l0) (hc0 : l0.length ≤ c0) (h : Dx.f k l0 = some r) :
    Calls Tryd.prog 27 #[.slice A0 l0.length c0] w fun e w' => e = .returned (.bool r) ∧ Below w.heap.size w w' := by
  have hu27 := Tryd.underlying27
  have HR0 := Ac.mk hr0
  have HC0 := Ac.mk hc0
  clear hr0 hc0
  have HB := Ac.mk (Below.refl w.heap.size w)
  have H : (Dx.l0 k l0 0) = some r := h
  clear h
  have H' := Ac.mk H
  clear H
  go_enter Tryd.func27, Tryd.ntmps27
  go_wp2
  go_loopg [3] k (fun kq v3 w' => ∃ (x3_1 : Int), v3 = .int .i64 x3_1 ∧ Ac (Dx.l0 kq l0 x3_1 = some r) ∧ Ac (kq ≤ k) ∧ Ac (Below w.heap.size w w'))
  case atStart => exact ⟨(0), Yf_, H', ⟨Nat.le_refl _⟩, ⟨by repeat (first | (with_reducible first | exact HB.out | apply Ae | apply Aa | apply Ad) | exact HB.out)⟩⟩
  case round =>
    clear H'
    obtain ⟨x3_1, rfl, HA, HK1, HB⟩ := hrel
    cases gk with
    | zero => exact absurd HA.out (by simp [Dx.l0])
    | succ k1 =>
      have H := HA.out
      clear HA
      simp only [Dx.l0] at H
      by_cases c2 : x3_1 < (l0.length : Int)
      · rw [if_pos c2] at H
        have c2b0 : decide (x3_1 < (l0.length : Int)) = true := decide_eq_true c2
        clear c2
        by_cases c3 : 0 ≤ x3_1
        · rw [if_pos c3] at H
          have c3b0 : decide (0 ≤ x3_1) = true := decide_eq_true c3
          clear c3
          replace H := Option.bind_eq_some_iff.mp H
          obtain ⟨t205, A40, H⟩ := H
          replace H : (if t205 = true then (Dx.l0 k1 l0 (wrap64 (x3_1 + 1))) else (some false)) = some r := H
          have A4 := Ac.mk A40
          clear A40
          by_cases c5 : t205 = true
          · subst c5
            have H1 : (Dx.l0 k1 l0 (wrap64 (x3_1 + 1))) = some r := by rw [if_pos rfl] at H; exact H
            clear H
            have H := H1
            clear H1
            have H' := Ac.mk H
            clear H
            have p204 : 0 ≤ (x3_1 : Int) := of_decide_eq_true Yc_
            have q204 : x3_1 < (l0.length : Int) := of_decide_eq_true Yc_
            obtain ⟨ad204, e204, hx204_0, hx204_1, hx204_2, hx204_3⟩ := Fp HR0.out x3_1 p204 q204
            cases e204
            replace hx204_0 := (HB.out.cell (World.block_lt_of_cell? w _ hx204_0)).trans hx204_0
            replace hx204_1 := (HB.out.cell (World.block_lt_of_cell? w _ hx204_1)).trans hx204_1
            replace hx204_2 := (HB.out.cell (World.block_lt_of_cell? w _ hx204_2)).trans hx204_2
            replace hx204_3 := (HB.out.cell (World.block_lt_of_cell? w _ hx204_3)).trans hx204_3
            replace p204 := eq_true p204
            replace q204 := eq_true q204
            go_wp2_with (first | ((with_reducible refine Aw (f := 23) rfl ?_); refine Bj (some 14) rfl rfl Tryd.func23 (by kernel_rfl) rfl #[.agg #[.int .i64 ((Ak l0 x3_1).f0), .string ((Ak l0 x3_1).f1), .int .i64 ((Ak l0 x3_1).f2), .int .i64 ((Ak l0 x3_1).f3)]] rfl Yb_ ?_; (with_reducible refine (Ej.calls k1 ((Ak l0 x3_1).f0) ((Ak l0 x3_1).f1) ((Ak l0 x3_1).f2) ((Ak l0 x3_1).f3) true _ A4.out).mono ?_); rintro e w6 ⟨rfl, hb⟩; refine ⟨_, rfl, ?_⟩; have n0_ := Ac.mk (Au Ya_ hb); clear HB; have HB := n0_; clear n0_; (try clear hb); (try clear hb2); (try clear hk); (try clear hi)))
            go_roundg k1
            case measure => have := HK1.out; omega
            case rel => exact ⟨(wrap64 (x3_1 + 1)), Yf_, H', ⟨by have := HK1.out; omega⟩, ⟨by repeat (first | (with_reducible first | exact HB.out | apply Ae | apply Aa | apply Ad) | exact HB.out)⟩⟩
          · replace c5 := Bool.eq_false_iff.mpr c5
            subst c5
            have H1 : (some false) = some r := by rw [if_neg (show ¬ (false = true) by decide)] at H; exact H
            clear H
            have H := H1
            clear H1
            obtain rfl := Option.some.inj H
            have p204 : 0 ≤ (x3_1 : Int) := of_decide_eq_true Yc_
            have q204 : x3_1 < (l0.length : Int) := of_decide_eq_true Yc_
            obtain ⟨ad204, e204, hx204_0, hx204_1, hx204_2, hx204_3⟩ := Fp HR0.out x3_1 p204 q204
            cases e204
            replace hx204_0 := (HB.out.cell (World.block_lt_of_cell? w _ hx204_0)).trans hx204_0
            replace hx204_1 := (HB.out.cell (World.block_lt_of_cell? w _ hx204_1)).trans hx204_1
            replace hx204_2 := (HB.out.cell (World.block_lt_of_cell? w _ hx204_2)).trans hx204_2
            replace hx204_3 := (HB.out.cell (World.block_lt_of_cell? w _ hx204_3)).trans hx204_3
            replace p204 := eq_true p204
            replace q204 := eq_true q204
            go_wp2_with (first | ((with_reducible refine Aw (f := 23) rfl ?_); refine Bj (some 14) rfl rfl Tryd.func23 (by kernel_rfl) rfl #[.agg #[.int .i64 ((Ak l0 x3_1).f0), .string ((Ak l0 x3_1).f1), .int .i64 ((Ak l0 x3_1).f2), .int .i64 ((Ak l0 x3_1).f3)]] rfl Yb_ ?_; (with_reducible refine (Ej.calls k1 ((Ak l0 x3_1).f0) ((Ak l0 x3_1).f1) ((Ak l0 x3_1).f2) ((Ak l0 x3_1).f3) false _ A4.out).mono ?_); rintro e w7 ⟨rfl, hb⟩; refine ⟨_, rfl, ?_⟩; have n0_ := Ac.mk (Au Ya_ hb); clear HB; have HB := n0_; clear n0_; (try clear hb); (try clear hb2); (try clear hk); (try clear hi)))
            go_ret
            exact ⟨by first | rfl | (simp [Aq, Ar] <;> rfl) | (simp [*, Aq, Ar] <;> rfl), by repeat (first | (with_reducible first | exact HB.out | apply Ae | apply Aa | apply Ad) | exact HB.out)⟩
        · rw [if_neg c3] at H
          exact absurd H (by simp)
      · rw [if_neg c2] at H
        have c2b0 : decide (x3_1 < (l0.length : Int)) = false := decide_eq_false c2
        clear c2
        obtain rfl := Option.some.inj H
        go_wp2
        go_ret
        exact ⟨by first | rfl | (simp [Aq, Ar] <;> rfl) | (simp [*, Aq, Ar] <;> rfl), by repeat (first | (with_reducible first | exact HB.out | apply Ae | apply Aa | apply Ad) | exact HB.out)⟩
end Go.Proofs.YtghnljoaklmakaaDoor.X

