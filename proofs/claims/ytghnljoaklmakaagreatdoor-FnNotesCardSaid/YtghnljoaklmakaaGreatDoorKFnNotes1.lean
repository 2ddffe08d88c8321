/- Texts that the proof of the law FnNotes leans on, part 2 of 6. -/
import Derived.Test.YtghnljoaklmakaaGreatDoorProg
import Derived.Lib.LaidTab
import Derived.Lib.AppendIntMem
import Derived.WalkSmall
import Derived.Stop.LaidErr
import Derived.Below
import Derived.Deep.Draws
import Derived.Deep.AppendLies
import Derived.Maps.AppendAt
import Derived.OwnWalk
import Derived.Laws.BytesArg
import Derived.Laws.MakeOwn
import Derived.Laws.OwnMore
import Derived.Deep.OwnRows
import Derived.Tactics
import Derived.Lib.ConvBytes
import Derived.Laws.Slices
import Derived.WalkKit
import Derived.KernelRfl
import Derived.RowKit3
import Derived.Deep.LoopGhost
import Derived.Deep.QuietTactic
import Derived.BigQuiet
import Derived.WideLaws
import Derived.Deep.DeepCutAuto
import Derived.Deep.CutBlock
import Derived.Deep.RegionHeld3
import Derived.Laws.Rows
import Derived.Lib.AppendStr
import Derived.ArgAppend
import Derived.Laws.IdiomCopy
import Derived.OrdersHeld
import Derived.Laws.BitsLemmas
import Derived.RowKit
import Derived.Test.YtghnljoaklmakaaGreatDoorKFnNotes0
set_option linter.unusedVariables false
set_option linter.unusedSimpArgs false
namespace Go.Proofs.YtghnljoaklmakaaGreatDoorG
open Go.RowKit Go.Proofs.YtghnljoaklmakaaGreatDoorW.PrintWords
/-- A variable that holds an error. -/
def ErrAt (w : World) (n : String) : Prop := ∃ g a b, Tryz.prog.globalNamed n = some g ∧ g < w.heap.size ∧ w.var? Tryz.prog n = some #[.iface a b]
theorem ErrAt.below {w w' : World} {n : String} (h : ErrAt w n) (hb : Below w.heap.size w w') : ErrAt w' n := by
 obtain ⟨g, a, b, hg, hlt, ht⟩ := h
 exact ⟨g, a, b, hg, Nat.lt_of_lt_of_le hlt hb.size, var?_below hb hg hlt ht⟩
theorem ErrAt.of_laid {W : World} {n : String} {text : List UInt8} {g : Nat} (h : laidMet Tryz.prog [(n, .iface "*errors.errorString" (.ptr (.agg [.lit (.string text)])))] W) (hn : Tryz.prog.globalNamed n = some g) (ht : (Tryz.prog.globals[g]?).map (·.type) = some 80) : ErrAt W n := by
 obtain ⟨a0, s0, hv0, -, -, -⟩ := laid_sentinel h hn ht Tryz.underlying80 (fun u hu => typeName_ptr_named (nm := "errors.errorString") (tp := 123) (by rw [show "*" ++ "errors.errorString" = "*errors.errorString" from by decide]; kernel_rfl) (by kernel_rfl) (by decide) u (by rw [show "*" ++ "errors.errorString" = "*errors.errorString" from by decide]; exact hu)) Tryz.underlying123 Tryz.underlying125 rfl rfl Tryz.underlying9 (by kernel_rfl) (by kernel_rfl)
 refine ⟨g, _, _, hn, ?_, hv0⟩
 have h := hv0
 unfold World.var? at h
 rw [hn] at h
 simp only [Option.bind_some] at h
 cases hh : W.heap[g]? with
 | none => rw [hh] at h; cases h
 | some o => exact (Array.getElem?_eq_some_iff.1 hh).1
/-- internal/strconv.uint64pow10 reads as the powers of ten. -/
def GlobT (w : World) : Prop := (∃ g, Tryz.prog.globalNamed "internal/strconv.uint64pow10" = some g ∧ g < w.heap.size) ∧ Lib.TabIs Tryz.prog w "internal/strconv.uint64pow10" .u64 Lib.pow10Tab
theorem GlobT.below {w w' : World} (h : GlobT w) (hb : Below w.heap.size w w') : GlobT w' := by
 obtain ⟨⟨g, hg, hlt⟩, ht⟩ := h
 exact ⟨⟨g, hg, Nat.lt_of_lt_of_le hlt hb.size⟩, var?_below hb hg hlt ht⟩
/-- From the table as it is read to the fact. -/
theorem GlobT.of_tab {W : World} (h0 : laidMet Tryz.prog [("internal/strconv.uint64pow10", Lib.tabData .u64 Lib.pow10Tab)] W) : GlobT W := by
 have h : Lib.TabIs Tryz.prog W "internal/strconv.uint64pow10" .u64 Lib.pow10Tab := Lib.tabIs_of_head (g := 3) (t := 119) (e := 46) (n := 20) (by kernel_rfl) (by kernel_rfl) (by kernel_rfl) (by kernel_rfl) (by kernel_rfl) (by kernel_rfl) h0
 refine ⟨?_, h⟩
 have hn : Tryz.prog.globalNamed "internal/strconv.uint64pow10" = some 3 := by kernel_rfl
 refine ⟨_, hn, ?_⟩
 unfold Lib.TabIs World.var? at h
 rw [hn] at h
 simp only [Option.bind_some] at h
 cases hh : W.heap[3]? with
 | none => rw [hh] at h; cases h
 | some o => exact (Array.getElem?_eq_some_iff.1 hh).1
/-- A number of the library's: some whole number. -/
def MaxAt (w : World) : Prop := ∃ m, w.cell? ⟨0, 0, none⟩ = some (.int .i64 m)
theorem MaxAt.below {w w' : World} (h : MaxAt w) (hb : Below w.heap.size w w') : MaxAt w' := by
 obtain ⟨m, h⟩ := h
 exact ⟨m, (hb.cell (World.block_lt_of_cell? w _ h)).trans h⟩
/-- All four. -/
def Fp (w : World) : Prop := GlobT w ∧ ErrAt w "strconv.ErrSyntax" ∧ ErrAt w "strconv.ErrRange" ∧ MaxAt w
theorem Fp.below {w w' : World} (h : Fp w) (hb : Below w.heap.size w w') : Fp w' := ⟨h.1.below hb, h.2.1.below hb, h.2.2.1.below hb, h.2.2.2.below hb⟩
theorem Fp.tab {w : World} (h : Fp w) : Lib.TabIs Tryz.prog w "internal/strconv.uint64pow10" .u64 Lib.pow10Tab := h.1.2
theorem Fp.esyn {w : World} (h : Fp w) : ErrAt w "strconv.ErrSyntax" := h.2.1
theorem Fp.erng {w : World} (h : Fp w) : ErrAt w "strconv.ErrRange" := h.2.2.1
theorem Fp.max {w : World} (h : Fp w) : MaxAt w := h.2.2.2
theorem Fp.of_tabs {W : World} {ts tr : List UInt8} (h0 : laidMet Tryz.prog [("internal/strconv.uint64pow10", Lib.tabData .u64 Lib.pow10Tab)] W) (h1 : laidMet Tryz.prog [("strconv.ErrSyntax", .iface "*errors.errorString" (.ptr (.agg [.lit (.string ts)])))] W) (h2 : laidMet Tryz.prog [("strconv.ErrRange", .iface "*errors.errorString" (.ptr (.agg [.lit (.string tr)])))] W) (h3 : MaxAt W) : Fp W :=
 ⟨GlobT.of_tab h0, ErrAt.of_laid (g := 1) h1 (by kernel_rfl) (by kernel_rfl), ErrAt.of_laid (g := 2) h2 (by kernel_rfl) (by kernel_rfl), h3⟩
end Go.Proofs.YtghnljoaklmakaaGreatDoorG

namespace Go.Proofs.YtghnljoaklmakaaGreatDoor.X
open Go.RowKit Go.Proofs.YtghnljoaklmakaaGreatDoorW.PrintWords Go.Proofs.YtghnljoaklmakaaGreatDoorW.PrintLast Go.Proofs.YtghnljoaklmakaaGreatDoorW.PrintMore
attribute [local go_sem] Ei Eh Ez Ey D7 D6 Ej Eg
open Go.Proofs.YtghnljoaklmakaaGreatDoorG

def errW : Option Int → Value
 | none => .nilIface
 | some c => .iface 98 (.int .i64 c)
theorem Au : errW none = .nilIface := rfl
theorem Aw (c : Int) : errW (some c) = .iface 98 (.int .i64 c) := rfl
theorem info3 : (Tryz.prog.info? 3).map (fun i => (i.zero, i.size, i.bytes)) = some (some (.int .i64 0), 1, 8) := by kernel_rfl
theorem info9 : (Tryz.prog.info? 9).map (fun i => (i.zero, i.size, i.bytes)) = some (some (.string ⟨#[]⟩), 1, 16) := by kernel_rfl
theorem info25 : (Tryz.prog.info? 25).map (fun i => (i.zero, i.size, i.bytes)) = some (some (.agg #[(.int .i64 0), (.string ⟨#[]⟩), (.int .i64 0), (.int .i64 0)]), 4, 40) := by kernel_rfl
-- the values' own types
structure S25 where
 f0 : Int
 f1 : ByteArray
 f2 : Int
 f3 : Int
def z25 : S25 := ⟨(0 : Int), (⟨#[]⟩ : ByteArray), (0 : Int), (0 : Int)⟩
def k25 : Kd S25 := Kd.iso (Kd.pair (Kd.int .i64) (Kd.pair Kd.string (Kd.pair (Kd.int .i64) (Kd.int .i64)))) (fun x : S25 => (x.f0, x.f1, x.f2, x.f3))
theorem k25_open {w : World} {x : S25} {cs : List Value} (h : k25.K w x cs) : cs = [.int .i64 x.f0, .string x.f1, .int .i64 x.f2, .int .i64 x.f3] := by
 obtain ⟨_, _, rfl, rfl, ⟨_, _, rfl, rfl, ⟨_, _, rfl, rfl, rfl⟩⟩⟩ := h
 exact rfl
theorem Ic (w : World) (base : Nat) (ok : Nat → Prop) (x : S25)  : k25.M w base ok x [.int .i64 x.f0, .string x.f1, .int .i64 x.f2, .int .i64 x.f3] := ⟨[.int .i64 x.f0], [.string x.f1, .int .i64 x.f2, .int .i64 x.f3], rfl, rfl, ⟨[.string x.f1], [.int .i64 x.f2, .int .i64 x.f3], rfl, rfl, ⟨[.int .i64 x.f2], [.int .i64 x.f3], rfl, rfl, rfl⟩⟩⟩
def Az (xs : List S25) (i : Int) : S25 := xs.getD i.toNat z25
theorem G9 {w : World} {A : Option Addr} {n : Nat} {xs : List S25} (h : Kd.C k25 w A n xs) (i : Int) (h0 : 0 ≤ i) (h1 : i < n) : ∃ ad , A = some ad ∧ w.cell? (ad.add (i.toNat * 4)) = some (.int .i64 (Az xs i).f0) ∧ w.cell? ⟨(ad.add (i.toNat * 4)).block, (ad.add (i.toNat * 4)).off + 1, none⟩ = some (.string (Az xs i).f1) ∧ w.cell? ⟨(ad.add (i.toNat * 4)).block, (ad.add (i.toNat * 4)).off + 2, none⟩ = some (.int .i64 (Az xs i).f2) ∧ w.cell? ⟨(ad.add (i.toNat * 4)).block, (ad.add (i.toNat * 4)).off + 3, none⟩ = some (.int .i64 (Az xs i).f3) := by
 obtain ⟨ad, c, e, _, hK, hc0⟩ := Kd.C_get h z25 i h0 h1
 have hc : ∀ j u, c[j]? = some u → w.cell? (ad.add (i.toNat * 4 + j)) = some u := hc0
 obtain rfl := k25_open hK
 exact ⟨ad, e, hc 0 _ rfl, by rw [← add_field _ _ 1 (by omega)]; exact hc 1 _ rfl, by rw [← add_field _ _ 2 (by omega)]; exact hc 2 _ rfl, by rw [← add_field _ _ 3 (by omega)]; exact hc 3 _ rfl⟩
end Go.Proofs.YtghnljoaklmakaaGreatDoor.X

namespace Go.Proofs.YtghnljoaklmakaaGreatDoor.X
open Go.RowKit Go.Proofs.YtghnljoaklmakaaGreatDoorW.PrintWords Go.Proofs.YtghnljoaklmakaaGreatDoorW.PrintLast Go.Proofs.YtghnljoaklmakaaGreatDoorW.PrintMore
theorem Ya_ {p : Prop} (h : p := by (try simp only [List.map_toArray, List.map_cons, List.map_nil]); first | done | rfl | (simp only [List.length_drop, List.length_take]; rfl)) : p := h
theorem Yb_ {p : Prop} (h : p := by repeat (first | (with_reducible first | exact HB.out | apply Ae | apply Aa | apply Ad) | exact HB.out)) : p := h
theorem Yc_ {p : Prop} (h : p := by repeat (first | (with_reducible first | exact HB.out | apply Ae | apply Aa | apply Ad | refine Am ?_ GE0.out) | exact HB.out)) : p := h
theorem Yd_ {p : Prop} (h : p := by (with_reducible repeat (first | refine Ag ?_ _ | refine Ah ?_ | refine Af ?_ _)); exact BK0.out) : p := h
theorem Ye_ {p : Prop} (h : p := by first | (with_reducible assumption) | assumption) : p := h
theorem Yf_ {p : Prop} (h : p := by first | rfl | (simp; done) | (simp [*]; done)) : p := h
theorem Yg_ {p : Prop} (h : p := by repeat (first | (with_reducible first | exact HK.out | apply A8.Eo | apply Bq | apply Ce | apply Bv | refine Dk ?_ GW126.out _ | refine Dk ?_ GW133.out _) | exact HK.out)) : p := h
theorem Yh_ {p : Prop} (h : p := by repeat (first | (with_reducible first | exact HK.out | apply A8.Eo | apply Bq | apply Ce | apply Bv) | exact HK.out)) : p := h
theorem Yi_ {p : Prop} (h : p := by (with_reducible repeat (first | refine Ag ?_ _ | refine Ah ?_ | refine Af ?_ _)); refine Be (cs := #[.int .i64 (wrap64 (1 + t127)), .string t130, .int .i64 0, .int .i64 0]) ?_ 3 _ rfl; (with_reducible repeat (first | refine Ag ?_ _ | refine Ah ?_ | refine Af ?_ _)); refine Be (cs := #[.int .i64 (wrap64 (1 + t127)), .string t130, .int .i64 0, .int .i64 0]) ?_ 2 _ rfl; (with_reducible repeat (first | refine Ag ?_ _ | refine Ah ?_ | refine Af ?_ _)); refine Be (cs := #[.int .i64 (wrap64 (1 + t127)), .string (⟨#[]⟩ : ByteArray), .int .i64 0, .int .i64 0]) ?_ 1 _ rfl; (with_reducible repeat (first | refine Ag ?_ _ | refine Ah ?_ | refine Af ?_ _)); refine Be (cs := #[.int .i64 0, .string (⟨#[]⟩ : ByteArray), .int .i64 0, .int .i64 0]) ?_ 0 _ rfl; (with_reducible repeat (first | refine Ag ?_ _ | refine Ah ?_ | refine Af ?_ _)); exact BK133.out) : p := h
theorem Yj_ {p : Prop} (h : p := by (with_reducible repeat (first | refine Ag ?_ _ | refine Ah ?_ | refine Af ?_ _)); exact BK1.out) : p := h
theorem Yba_ {p : Prop} (h : p := by (with_reducible repeat (first | apply Kd.Cb | apply Kd.Bz | apply Kd.Cm)); exact HO_4.out) : p := h
theorem Ybb_ {p : Prop} (h : p := by (with_reducible repeat (first | refine Ag ?_ _ | refine Ah ?_ | refine Af ?_ _)); refine Be (cs := #[.int .i64 0, .string (t373.extract 0 8), .int .i64 0, .int .i64 0]) ?_ 0 _ rfl; (with_reducible repeat (first | refine Ag ?_ _ | refine Ah ?_ | refine Af ?_ _)); refine Be (cs := #[.int .i64 0, .string (t373.extract 0 8), .int .i64 0, .int .i64 0]) ?_ 3 _ rfl; (with_reducible repeat (first | refine Ag ?_ _ | refine Ah ?_ | refine Af ?_ _)); refine Be (cs := #[.int .i64 0, .string (t373.extract 0 8), .int .i64 0, .int .i64 0]) ?_ 2 _ rfl; (with_reducible repeat (first | refine Ag ?_ _ | refine Ah ?_ | refine Af ?_ _)); refine Be (cs := #[.int .i64 0, .string (⟨#[]⟩ : ByteArray), .int .i64 0, .int .i64 0]) ?_ 1 _ rfl; (with_reducible repeat (first | refine Ag ?_ _ | refine Ah ?_ | refine Af ?_ _)); refine Be (cs := #[.int .i64 0, .string (⟨#[]⟩ : ByteArray), .int .i64 0, .int .i64 0]) ?_ 0 _ rfl; (with_reducible repeat (first | refine Ag ?_ _ | refine Ah ?_ | refine Af ?_ _)); exact BK2.out) : p := h
theorem Ybc_ {p : Prop} (h : p := by repeat (first | (with_reducible first | exact HB.out | apply Ae | apply Aa | apply Ad | refine Am ?_ GE0.out | refine Am ?_ GE1.out | refine Am ?_ GE2.out) | exact HB.out)) : p := h
theorem Ybd_ {p : Prop} (h : p := by repeat (first | (with_reducible first | exact HB.out | apply Ae | apply Aa | apply Ad | refine Am ?_ GE0.out | refine Am ?_ GE1.out | refine Am ?_ GE2.out | refine Am ?_ GE3.out) | exact HB.out)) : p := h
theorem Ybe_ {p : Prop} (h : p := by (with_reducible repeat (first | refine Ag ?_ _ | refine Ah ?_ | refine Af ?_ _)); refine Be (cs := #[.int .i64 0, .string (⟨#[]⟩ : ByteArray), .int .i64 0, .int .i64 0]) ?_ 3 _ rfl; (with_reducible repeat (first | refine Ag ?_ _ | refine Ah ?_ | refine Af ?_ _)); refine Be (cs := #[.int .i64 0, .string (⟨#[]⟩ : ByteArray), .int .i64 0, .int .i64 0]) ?_ 2 _ rfl; (with_reducible repeat (first | refine Ag ?_ _ | refine Ah ?_ | refine Af ?_ _)); refine Be (cs := #[.int .i64 0, .string (⟨#[]⟩ : ByteArray), .int .i64 0, .int .i64 0]) ?_ 1 _ rfl; (with_reducible repeat (first | refine Ag ?_ _ | refine Ah ?_ | refine Af ?_ _)); refine Be (cs := #[.int .i64 0, .string (⟨#[]⟩ : ByteArray), .int .i64 0, .int .i64 0]) ?_ 0 _ rfl; (with_reducible repeat (first | refine Ag ?_ _ | refine Ah ?_ | refine Af ?_ _)); exact BK0.out) : p := h
theorem Ybf_ {p : Prop} (h : p := by (with_reducible repeat (first | refine Ag ?_ _ | refine Ah ?_ | refine Af ?_ _)); refine Be (cs := #[.int .i64 t538, .string t539, .int .i64 t540, .int .i64 0]) ?_ 3 _ rfl; (with_reducible repeat (first | refine Ag ?_ _ | refine Ah ?_ | refine Af ?_ _)); refine Be (cs := #[.int .i64 t538, .string t539, .int .i64 0, .int .i64 0]) ?_ 2 _ rfl; (with_reducible repeat (first | refine Ag ?_ _ | refine Ah ?_ | refine Af ?_ _)); refine Be (cs := #[.int .i64 t538, .string (⟨#[]⟩ : ByteArray), .int .i64 0, .int .i64 0]) ?_ 1 _ rfl; (with_reducible repeat (first | refine Ag ?_ _ | refine Ah ?_ | refine Af ?_ _)); refine Be (cs := #[.int .i64 0, .string (⟨#[]⟩ : ByteArray), .int .i64 0, .int .i64 0]) ?_ 0 _ rfl; (with_reducible repeat (first | refine Ag ?_ _ | refine Ah ?_ | refine Af ?_ _)); exact BK0.out) : p := h
theorem Ybg_ {p : Prop} (h : p := by repeat (first | (with_reducible first | exact HB.out | apply Ae | apply Aa | apply Ad | refine Am ?_ GE0.out | refine Am ?_ GE1.out) | exact HB.out)) : p := h
theorem Ybh_ {p : Prop} (h : p := by (with_reducible repeat (first | refine Ag ?_ _ | refine Ah ?_ | refine Af ?_ _)); refine Bo ?_ NB126_133.out _; (with_reducible repeat (first | refine Ag ?_ _ | refine Ah ?_ | refine Af ?_ _)); refine Bo ?_ NB126_133.out _; (with_reducible repeat (first | refine Ag ?_ _ | refine Ah ?_ | refine Af ?_ _)); refine Bo ?_ NB126_133.out _; (with_reducible repeat (first | refine Ag ?_ _ | refine Ah ?_ | refine Af ?_ _)); refine Bo ?_ NB126_133.out _; (with_reducible repeat (first | refine Ag ?_ _ | refine Ah ?_ | refine Af ?_ _)); exact BK126.out) : p := h
theorem Ybi_ {p : Prop} (h : p := by (with_reducible repeat (first | refine Ag ?_ _ | refine Ah ?_ | refine Af ?_ _)); exact BK126.out) : p := h
theorem Ybj_ {p : Prop} (h : p := by (with_reducible repeat (first | refine Ag ?_ _ | refine Ah ?_ | refine Af ?_ _)); exact BK2.out) : p := h
theorem Yca_ {p : Prop} (h : p := by (with_reducible repeat (first | refine Ag ?_ _ | refine Ah ?_ | refine Af ?_ _)); refine Bo ?_ NB0_2.out _; (with_reducible repeat (first | refine Ag ?_ _ | refine Ah ?_ | refine Af ?_ _)); refine Bo ?_ NB0_2.out _; (with_reducible repeat (first | refine Ag ?_ _ | refine Ah ?_ | refine Af ?_ _)); refine Bo ?_ NB0_2.out _; (with_reducible repeat (first | refine Ag ?_ _ | refine Ah ?_ | refine Af ?_ _)); refine Bo ?_ NB0_2.out _; (with_reducible repeat (first | refine Ag ?_ _ | refine Ah ?_ | refine Af ?_ _)); refine Bo ?_ NB0_2.out _; (with_reducible repeat (first | refine Ag ?_ _ | refine Ah ?_ | refine Af ?_ _)); exact BK0.out) : p := h
theorem Ycb_ {p : Prop} (h : p := by (with_reducible repeat (first | refine Ag ?_ _ | refine Ah ?_ | refine Af ?_ _)); refine Bo ?_ NB1_2.out _; (with_reducible repeat (first | refine Ag ?_ _ | refine Ah ?_ | refine Af ?_ _)); refine Bo ?_ NB1_2.out _; (with_reducible repeat (first | refine Ag ?_ _ | refine Ah ?_ | refine Af ?_ _)); refine Bo ?_ NB1_2.out _; (with_reducible repeat (first | refine Ag ?_ _ | refine Ah ?_ | refine Af ?_ _)); refine Bo ?_ NB1_2.out _; (with_reducible repeat (first | refine Ag ?_ _ | refine Ah ?_ | refine Af ?_ _)); refine Bo ?_ NB1_2.out _; (with_reducible repeat (first | refine Ag ?_ _ | refine Ah ?_ | refine Af ?_ _)); exact BK1.out) : p := h
theorem Ycc_ {p : Prop} (h : p := by (with_reducible repeat (first | apply Kd.Cb | apply Kd.Bz | apply Kd.Cm)); exact HO_3.out) : p := h
theorem Ycd_ {p : Prop} (h : p := by (with_reducible repeat (first | refine Ag ?_ _ | refine Ah ?_ | refine Af ?_ _)); exact BK133.out) : p := h
theorem Yce_ {p : Prop} (h : p := by repeat (first | (with_reducible first | exact HK.out | apply A8.Eo | apply Bq | apply Ce | apply Bv | refine Dk ?_ GW422.out _) | exact HK.out)) : p := h
theorem Ycf_ {p : Prop} (h : p := by (with_reducible repeat (first | refine Ag ?_ _ | refine Ah ?_ | refine Af ?_ _)); exact BK3.out) : p := h
theorem Ycg_ {p : Prop} (h : p := by repeat (first | (with_reducible first | exact HB.out | apply Ae | apply Aa | apply Ad | refine Am ?_ (Aj.ge HI0.out) | refine Am ?_ GE126.out | refine Am ?_ GE133.out) | exact HB.out)) : p := h
theorem Ych_ {p : Prop} (h : p := by (with_reducible repeat (first | refine Ag ?_ _ | refine Ah ?_ | refine Af ?_ _)); refine Be (cs := #[.int .i64 t490, .string t491, .int .i64 t492, .int .i64 0]) ?_ 3 _ rfl; (with_reducible repeat (first | refine Ag ?_ _ | refine Ah ?_ | refine Af ?_ _)); refine Be (cs := #[.int .i64 t490, .string t491, .int .i64 0, .int .i64 0]) ?_ 2 _ rfl; (with_reducible repeat (first | refine Ag ?_ _ | refine Ah ?_ | refine Af ?_ _)); refine Be (cs := #[.int .i64 t490, .string (⟨#[]⟩ : ByteArray), .int .i64 0, .int .i64 0]) ?_ 1 _ rfl; (with_reducible repeat (first | refine Ag ?_ _ | refine Ah ?_ | refine Af ?_ _)); refine Be (cs := #[.int .i64 0, .string (⟨#[]⟩ : ByteArray), .int .i64 0, .int .i64 0]) ?_ 0 _ rfl; (with_reducible repeat (first | refine Ag ?_ _ | refine Ah ?_ | refine Af ?_ _)); exact BK0.out) : p := h
theorem Yci_ {p : Prop} (h : p := by (with_reducible repeat (first | refine Ag ?_ _ | refine Ah ?_ | refine Af ?_ _)); refine Be (cs := #[.int .i64 t499, .string t500, .int .i64 t501, .int .i64 0]) ?_ 3 _ rfl; (with_reducible repeat (first | refine Ag ?_ _ | refine Ah ?_ | refine Af ?_ _)); refine Be (cs := #[.int .i64 t499, .string t500, .int .i64 0, .int .i64 0]) ?_ 2 _ rfl; (with_reducible repeat (first | refine Ag ?_ _ | refine Ah ?_ | refine Af ?_ _)); refine Be (cs := #[.int .i64 t499, .string (⟨#[]⟩ : ByteArray), .int .i64 0, .int .i64 0]) ?_ 1 _ rfl; (with_reducible repeat (first | refine Ag ?_ _ | refine Ah ?_ | refine Af ?_ _)); refine Be (cs := #[.int .i64 0, .string (⟨#[]⟩ : ByteArray), .int .i64 0, .int .i64 0]) ?_ 0 _ rfl; (with_reducible repeat (first | refine Ag ?_ _ | refine Ah ?_ | refine Af ?_ _)); exact BK1.out) : p := h
theorem Ycj_ {p : Prop} (h : p := by repeat (first | (with_reducible first | exact HI0.out | apply Aj.alloc | apply Aj.drewN | apply Aj.drew | apply Aj.Dv | apply Aj.Du) | exact HI0.out)) : p := h
theorem Yda_ {p : Prop} (h : p := by repeat (first | (with_reducible first | exact HB.out | apply Ae | apply Aa | apply Ad | refine Am ?_ (Aj.ge HI0.out)) | exact HB.out)) : p := h
theorem Ydb_ {p : Prop} (h : p := by repeat (first | (with_reducible first | exact HI0.out | apply Aj.alloc | apply Aj.drewN | apply Aj.drew | apply Aj.Dv | apply Aj.Du | refine Aj.far ?_ NB0_126.out _ | refine Aj.far ?_ NB0_133.out _) | exact HI0.out)) : p := h
theorem Ydc_ {p : Prop} (h : p := by (with_reducible repeat (first | apply Kd.Cb | apply Kd.Bz | apply Kd.Cm)); exact HO_59.out) : p := h
theorem Ydd_ {p : Prop} (h : p := by repeat (first | (with_reducible first | exact HB.out | apply Ae | apply Aa | apply Ad | refine Am ?_ (Aj.ge HI0.out) | refine Am ?_ GE422.out) | exact HB.out)) : p := h
theorem Yde_ {p : Prop} (h : p := by (with_reducible repeat (first | refine Ag ?_ _ | refine Ah ?_ | refine Af ?_ _)); exact BK422.out) : p := h
theorem Ydf_ {p : Prop} (h : p := by repeat (first | (with_reducible first | exact HK.out | apply A8.Eo | apply Bq | apply Ce | apply Bv | refine Dk ?_ GW126.out _) | exact HK.out)) : p := h
theorem Ydg_ {p : Prop} (h : p := by repeat (first | (with_reducible first | exact HI0.out | apply Aj.alloc | apply Aj.drewN | apply Aj.drew | apply Aj.Dv | apply Aj.Du | refine Aj.far ?_ NB0_422.out _) | exact HI0.out)) : p := h
theorem Ydh_ {p : Prop} (h : p := by (with_reducible repeat (first | apply Kd.Cb | apply Kd.Bz | apply Kd.Cm)); exact (Kd.R_mono (Kd.F9 (p := ⟨gb0, 3, none⟩) (Kd.F9 (p := ⟨gb0, 2, none⟩) (Kd.F9 (p := ⟨gb0, 1, none⟩) (Kd.F9 (p := ⟨gb0, 0, none⟩) (Kd.R_mono HO_4.out (fun k_ hk => (⟨hk, hk.2⟩ : _ ∧ k_ ≠ gb0))) (fun _ hk => hk.2) (.int .i64 t538)) (fun _ hk => hk.2) (.string t539)) (fun _ hk => hk.2) (.int .i64 t540)) (fun _ hk => hk.2) (.int .i64 t541)) (fun _ h_ => h_.1))) : p := h
theorem Ydi_ {p : Prop} (h : p := by repeat (first | (with_reducible first | exact HB.out | apply Ae | apply Aa | apply Ad | refine Am ?_ (Aj.ge HI510.out)) | exact HB.out)) : p := h
theorem Ydj_ {p : Prop} (h : p := by (with_reducible repeat (first | apply Kd.Cb | apply Kd.Bz | apply Kd.Cm)); exact HO_10.out) : p := h
theorem Yea_ {p : Prop} (h : p := by (with_reducible repeat (first | apply Kd.Cb | apply Kd.Bz | apply Kd.Cm)); exact HO513.out) : p := h
theorem Yeb_ {p : Prop} (h : p := by (with_reducible repeat (first | refine Ag ?_ _ | refine Ah ?_ | refine Af ?_ _)); refine Be (cs := #[.int .i64 t416, .string t417, .int .i64 t418, .int .i64 t419]) ?_ 2 _ rfl; (with_reducible repeat (first | refine Ag ?_ _ | refine Ah ?_ | refine Af ?_ _)); exact BK422.out) : p := h
theorem Yec_ {p : Prop} (h : p := by (with_reducible repeat (first | apply Kd.Cb | apply Kd.Bz | apply Kd.Cm)); exact (Kd.R_mono (Kd.F9 (p := ⟨gb133, 2, none⟩) (Kd.R_types HO151.out BK133.out (by decide)) (fun _ hk => hk.2) (.int .i64 t152)) (fun _ h_ => h_.1))) : p := h
theorem Yed_ {p : Prop} (h : p := by (with_reducible repeat (first | refine Ag ?_ _ | refine Ah ?_ | refine Af ?_ _)); refine Bo ?_ NB0_2.out _; (with_reducible repeat (first | refine Ag ?_ _ | refine Ah ?_ | refine Af ?_ _)); exact BK0.out) : p := h
theorem Yee_ {p : Prop} (h : p := by (with_reducible repeat (first | refine Ag ?_ _ | refine Ah ?_ | refine Af ?_ _)); refine Bo ?_ NB1_2.out _; (with_reducible repeat (first | refine Ag ?_ _ | refine Ah ?_ | refine Af ?_ _)); exact BK1.out) : p := h
theorem Yef_ {p : Prop} (h : p := by repeat (first | (with_reducible first | exact HI510.out | apply Aj.alloc | apply Aj.drewN | apply Aj.drew | apply Aj.Dv | apply Aj.Du) | exact HI510.out)) : p := h
theorem Yeg_ {p : Prop} (h : p := by repeat (first | (with_reducible first | exact HB.out | apply Ae | apply Aa | apply Ad | refine Am ?_ GE1.out) | exact HB.out)) : p := h
theorem Yeh_ {p : Prop} (h : p := by first | (go_simp; done) | (go_simp; rfl)) : p := h
end Go.Proofs.YtghnljoaklmakaaGreatDoor.X

namespace Go.Proofs.YtghnljoaklmakaaGreatDoor.X
open Go.RowKit Go.Proofs.YtghnljoaklmakaaGreatDoorW.PrintWords Go.Proofs.YtghnljoaklmakaaGreatDoorW.PrintLast Go.Proofs.YtghnljoaklmakaaGreatDoorW.PrintMore
attribute [local go_sem] Ei Eh Ez Ey D7 D6 Ej Eg
open Go.Proofs.YtghnljoaklmakaaGreatDoorG
theorem eqA25 (d : Nat) (w : World) (x0 y0 : Int) (x1 y1 : ByteArray) (x2 y2 : Int) (x3 y3 : Int) :
  (Op.equalIn (d + 2) 25 (.agg #[.int .i64 x0, .string x1, .int .i64 x2, .int .i64 x3]) (.agg #[.int .i64 y0, .string y1, .int .i64 y2, .int .i64 y3])).run Tryz.prog w = .ok (x0 == y0 && (x1.toList == y1.toList && (x2 == y2 && (x3 == y3)))) w := by
 refine eqA_of Tryz.underlying25 (by kernel_rfl) ?_
 refine eqf_cons (by rfl) (by go_simp; rfl) (by go_simp; rfl) (by go_simp) ?_
 refine eqf_cons (by rfl) (by go_simp; rfl) (by go_simp; rfl) (by go_simp) ?_
 refine eqf_cons (by rfl) (by go_simp; rfl) (by go_simp; rfl) (by go_simp) ?_
 exact eqf_last (by rfl) (by go_simp; rfl) (by go_simp; rfl) (by go_simp)
/-- A state of type 48 at block g of W; what its slices lead to came in by w0. -/
def Aj (w0 W : World) (g : Nat) (f0 : List Int) (f1 : Int) (f2 : Int) : Prop := ∃ A0 c0, W.heap[g]? = some (.cells #[.slice A0 f0.length c0, .int .i64 f1, .int .u64 f2] 48 (0, 0)) ∧ w0.heap.size ≤ g ∧ Kd.C (Kd.int .u8) w0 A0 f0.length f0
theorem Aj.grown {w0 W : World} {g : Nat} {f0 : List Int} {f1 : Int} {f2 : Int} {W1 : World} {row : Option Nat} (h : Aj w0 W g f0 f1 f2) (hw : W.grownBy W1 row) (hne : some g ≠ row) : Aj w0 W1 g f0 f1 f2 := by
 obtain ⟨A0, c0, hb, hg, hr0⟩ := h
 exact ⟨A0, c0, Ib hb hw hne, hg, hr0⟩
theorem Aj.fresh {w0 W : World} {g : Nat} {f0 : List Int} {f1 : Int} {f2 : Int} (h : Aj w0 W g f0 f1 f2) : ∀ k, W.heap.size ≤ k → k ≠ g := by
 obtain ⟨A0, c0, hb, hg, hr0⟩ := h
 exact Kd.freshB hb
theorem Aj.kept {w0 W : World} {g : Nat} {f0 : List Int} {f1 : Int} {f2 : Int} {W1 : World} {S : Nat → Prop} (h : Aj w0 W g f0 f1 f2) (hk : Kept W W1 S) (hne : ¬ S g) : Aj w0 W1 g f0 f1 f2 := by
 obtain ⟨A0, c0, hb, hg, hr0⟩ := h
 exact ⟨A0, c0, blk_kept hb hk hne, hg, hr0⟩
theorem Aj.below {w0 W : World} {g : Nat} {f0 : List Int} {f1 : Int} {f2 : Int} {W1 : World} (h : Aj w0 W g f0 f1 f2) (hw : Below W.heap.size W W1) : Aj w0 W1 g f0 f1 f2 := h.grown (grown_of_below hw none) (by simp)
theorem Aj.alloc {w0 W : World} {g : Nat} {f0 : List Int} {f1 : Int} {f2 : Int} (h : Aj w0 W g f0 f1 f2) (o : Obj) : Aj w0 (W.alloc o) g f0 f1 f2 := h.below (Ae (Below.refl _ _) o)
theorem Aj.drewN {w0 W : World} {g : Nat} {f0 : List Int} {f1 : Int} {f2 : Int} (h : Aj w0 W g f0 f1 f2) (m : Nat) : Aj w0 (W.drewN m) g f0 f1 f2 := h
theorem Aj.drew {w0 W : World} {g : Nat} {f0 : List Int} {f1 : Int} {f2 : Int} (h : Aj w0 W g f0 f1 f2) : Aj w0 W.drew g f0 f1 f2 := h
theorem Aj.at_ {w0 W : World} {g : Nat} {f0 : List Int} {f1 : Int} {f2 : Int} {w' : World} {m : Nat} (hq : W.drewN m = w') (h : Aj w0 W g f0 f1 f2) : Aj w0 w' g f0 f1 f2 := by subst hq; exact Aj.drewN h m
theorem Aj.apart {w0 W : World} {g : Nat} {f0 : List Int} {f1 : Int} {f2 : Int} {α : Type} {d : Kd α} {e : Nat} {base : Nat} {ok : Nat → Prop} {v : Value} {xs : List α} (h : Aj w0 W g f0 f1 f2) (ho : d.R e W base ok v xs) (ht : ∀ q, q ∈ e :: d.E → q ≠ 48) : d.R e W base (fun k => ok k ∧ k ≠ g) v xs := by
 obtain ⟨A0, c0, hb, hg, hr0⟩ := h
 exact Kd.R_types ho hb ht
theorem Aj.own_ne {w0 W : World} {g : Nat} {f0 : List Int} {f1 : Int} {f2 : Int} {α : Type} {d : Kd α} {e : Nat} {base : Nat} {ok : Nat → Prop} {v : Value} {xs : List α} (h : Aj w0 W g f0 f1 f2) (ho : d.R e W base ok v xs) (ht : e ≠ 48) : some g ≠ v.ownBlock := by
 obtain ⟨A0, c0, hb, hg, hr0⟩ := h
 exact Kd.R_ne ho hb ht
theorem Aj.lt {w0 W : World} {g : Nat} {f0 : List Int} {f1 : Int} {f2 : Int} (h : Aj w0 W g f0 f1 f2) : g < W.heap.size := by
 obtain ⟨A0, c0, hb, hg, hr0⟩ := h
 exact Gl hb
theorem Aj.ge {w0 W : World} {g : Nat} {f0 : List Int} {f1 : Int} {f2 : Int} (h : Aj w0 W g f0 f1 f2) : w0.heap.size ≤ g := by
 obtain ⟨A0, c0, hb, hg, hr0⟩ := h
 exact hg
theorem Aj.far {w0 W : World} {g : Nat} {f0 : List Int} {f1 : Int} {f2 : Int} {p : Addr} (h : Aj w0 W g f0 f1 f2) (hne : g ≠ p.block) (u : Value) : Aj w0 (W.setCell p u) g f0 f1 f2 := by
 obtain ⟨A0, c0, hb, hg, hr0⟩ := h
 exact ⟨A0, c0, Bo hb hne u, hg, hr0⟩
theorem cellS48_0 {W : World} {g : Nat} {A0 : Option Addr} {c0 : Nat} {f0 : List Int} {f1 : Int} {f2 : Int} (h : W.heap[g]? = some (.cells #[.slice A0 f0.length c0, .int .i64 f1, .int .u64 f2] 48 (0, 0))) : W.cell? ⟨g, 0, none⟩ = some (.slice A0 f0.length c0) := (Ak h 0).trans rfl
theorem cellS48_1 {W : World} {g : Nat} {A0 : Option Addr} {c0 : Nat} {f0 : List Int} {f1 : Int} {f2 : Int} (h : W.heap[g]? = some (.cells #[.slice A0 f0.length c0, .int .i64 f1, .int .u64 f2] 48 (0, 0))) : W.cell? ⟨g, 1, none⟩ = some (.int .i64 f1) := (Ak h 1).trans rfl
theorem Aj.Dv {w0 W : World} {g : Nat} {f0 : List Int} {f1 : Int} {f2 : Int} (h : Aj w0 W g f0 f1 f2) (x : Int) : Aj w0 (W.setCell ⟨g, 1, none⟩ (.int .i64 x)) g f0 x f2 := by
 obtain ⟨A0, c0, hb, hg, hr0⟩ := h
 exact ⟨A0, c0, by simpa using blk_set hb 1 (.int .i64 x), hg, hr0⟩
theorem cellS48_2 {W : World} {g : Nat} {A0 : Option Addr} {c0 : Nat} {f0 : List Int} {f1 : Int} {f2 : Int} (h : W.heap[g]? = some (.cells #[.slice A0 f0.length c0, .int .i64 f1, .int .u64 f2] 48 (0, 0))) : W.cell? ⟨g, 2, none⟩ = some (.int .u64 f2) := (Ak h 2).trans rfl
theorem Aj.Du {w0 W : World} {g : Nat} {f0 : List Int} {f1 : Int} {f2 : Int} (h : Aj w0 W g f0 f1 f2) (x : Int) : Aj w0 (W.setCell ⟨g, 2, none⟩ (.int .u64 x)) g f0 f1 x := by
 obtain ⟨A0, c0, hb, hg, hr0⟩ := h
 exact ⟨A0, c0, by simpa using blk_set hb 2 (.int .u64 x), hg, hr0⟩
theorem Aj.new (w0 W : World) (A0 : Option Addr) (c0 : Nat) (f0 : List Int) (f1 : Int) (f2 : Int) (hB : Below w0.heap.size w0 W) (hr0 : Kd.C (Kd.int .u8) w0 A0 f0.length f0) : Aj w0 (W.alloc (.cells #[.slice A0 f0.length c0, .int .i64 f1, .int .u64 f2] 48)) W.heap.size f0 f1 f2 := ⟨A0, c0, by simpa using heap_alloc_new W _, hB.size, hr0⟩
def Gp.f (s0_0 : List Int) (s0_1 : Int) (s0_2 : Int) : Option (Int × Int × Int) := if s0_1 < (s0_0.length : Int) then (if 0 ≤ s0_1 then (if (wrap64 (s0_1 + 1)) ≤ (s0_0.length : Int) then (some (wrap64 (rd s0_0 s0_1), wrap64 (s0_1 + 1), IntKind.u64.wrap ((IntKind.u64.wrap ((IntKind.u64.wrap (s0_2 * 6364136223846793005)) + (IntKind.u64.wrap (wrap64 (rd s0_0 s0_1))))) + 906906))) else (some (wrap64 (Go.bits .and .u64 ((IntKind.u64.wrap ((IntKind.u64.wrap ((IntKind.u64.wrap (s0_2 * 6364136223846793005)) + (IntKind.u64.wrap (wrap64 (rd s0_0 s0_1))))) + 906906)) / 1099511627776) 255), wrap64 (s0_1 + 1), IntKind.u64.wrap ((IntKind.u64.wrap ((IntKind.u64.wrap (s0_2 * 6364136223846793005)) + (IntKind.u64.wrap (wrap64 (rd s0_0 s0_1))))) + 906906)))) else (none)) else (if (wrap64 (s0_1 + 1)) ≤ (s0_0.length : Int) then (some (0, wrap64 (s0_1 + 1), IntKind.u64.wrap ((IntKind.u64.wrap ((IntKind.u64.wrap (s0_2 * 6364136223846793005)))) + 906906))) else (some (wrap64 (Go.bits .and .u64 ((IntKind.u64.wrap ((IntKind.u64.wrap ((IntKind.u64.wrap (s0_2 * 6364136223846793005)))) + 906906)) / 1099511627776) 255), wrap64 (s0_1 + 1), IntKind.u64.wrap ((IntKind.u64.wrap ((IntKind.u64.wrap (s0_2 * 6364136223846793005)))) + 906906))))
set_option maxHeartbeats 8000000 in
set_option maxRecDepth 100000 in
theorem Gp.calls (g : Nat) (s0_0 : List Int) (s0_1 : Int) (s0_2 : Int) (r1 : Int) (r2 : Int) (r3 : Int) (w0 w : World) (hI : Aj w0 w g s0_0 s0_1 s0_2) (hB : Below w0.heap.size w0 w) (h : Gp.f s0_0 s0_1 s0_2 = some (r1, r2, r3)) :
  Calls Tryz.prog 66 #[.pointer (some ⟨g, 0, none⟩)] w fun e w' => e = .returned (.int .i64 r1) ∧ Aj w0 w' g s0_0 r2 r3 ∧ Below w0.heap.size w0 w' ∧ A8 w w' g none := by
 have HI0 := Ac.mk hI
 have HK := Ac.mk (A8.refl w g none)
 have HL := Ac.mk hB.size
 clear hI
 have HW0 := Ac.mk hB.size
 have HB := Ac.mk hB
 clear hB
 have H : (if s0_1 < (s0_0.length : Int) then (if 0 ≤ s0_1 then (if (wrap64 (s0_1 + 1)) ≤ (s0_0.length : Int) then (some (wrap64 (rd s0_0 s0_1), wrap64 (s0_1 + 1), IntKind.u64.wrap ((IntKind.u64.wrap ((IntKind.u64.wrap (s0_2 * 6364136223846793005)) + (IntKind.u64.wrap (wrap64 (rd s0_0 s0_1))))) + 906906))) else (some (wrap64 (Go.bits .and .u64 ((IntKind.u64.wrap ((IntKind.u64.wrap ((IntKind.u64.wrap (s0_2 * 6364136223846793005)) + (IntKind.u64.wrap (wrap64 (rd s0_0 s0_1))))) + 906906)) / 1099511627776) 255), wrap64 (s0_1 + 1), IntKind.u64.wrap ((IntKind.u64.wrap ((IntKind.u64.wrap (s0_2 * 6364136223846793005)) + (IntKind.u64.wrap (wrap64 (rd s0_0 s0_1))))) + 906906)))) else (none)) else (if (wrap64 (s0_1 + 1)) ≤ (s0_0.length : Int) then (some (0, wrap64 (s0_1 + 1), IntKind.u64.wrap ((IntKind.u64.wrap ((IntKind.u64.wrap (s0_2 * 6364136223846793005)))) + 906906))) else (some (wrap64 (Go.bits .and .u64 ((IntKind.u64.wrap ((IntKind.u64.wrap ((IntKind.u64.wrap (s0_2 * 6364136223846793005)))) + 906906)) / 1099511627776) 255), wrap64 (s0_1 + 1), IntKind.u64.wrap ((IntKind.u64.wrap ((IntKind.u64.wrap (s0_2 * 6364136223846793005)))) + 906906))))) = some (r1, r2, r3) := h
 clear h
 by_cases c2 : s0_1 < (s0_0.length : Int)
 ·rw [if_pos c2] at H
  have c2b0 : decide (s0_1 < (s0_0.length : Int)) = true := decide_eq_true c2
  clear c2
  by_cases c3 : 0 ≤ s0_1
  ·rw [if_pos c3] at H
   have c3b0 : decide (0 ≤ s0_1) = true := decide_eq_true c3
   clear c3
   by_cases c4 : (wrap64 (s0_1 + 1)) ≤ (s0_0.length : Int)
   ·rw [if_pos c4] at H
    have c4b0 : decide ((wrap64 (s0_1 + 1)) ≤ (s0_0.length : Int)) = true := decide_eq_true c4
    clear c4
    simp only [Option.some.injEq, Prod.mk.injEq] at H
    obtain ⟨rfl, rfl, rfl⟩ := H
    obtain ⟨ASz5_0, cSz5_0, HGz5, hgz5, HSz5_0⟩ := HI0.out
    have hcz5_0 := cellS48_0 HGz5
    have hcz5_1 := cellS48_1 HGz5
    have hcz5_2 := cellS48_2 HGz5
    have hfz5_1 := Ai HGz5 1
    have hfz5_2 := Ai HGz5 2
    clear HGz5 hgz5
    have p101 : 0 ≤ (s0_1 : Int) := of_decide_eq_true Ye_
    have q101 : s0_1 < (s0_0.length : Int) := of_decide_eq_true Ye_
    obtain ⟨ad101, e101, hx101_0⟩ := Kd.at_int HSz5_0 s0_1 p101 q101
    cases e101
    replace hx101_0 := Iw HB.out hx101_0
    replace p101 := eq_true p101
    replace q101 := eq_true q101
    go_enter Tryz.func66, Tryz.ntmps66
    go_wp2
    repeat (go_quiet (fail); try go_wp2)
    go_ret
    exact ⟨by first | rfl | (simp [Au, Aw] <;> rfl) | (simp [*, Au, Aw] <;> rfl), by repeat (first | (with_reducible first | exact HI0.out | apply Aj.alloc | apply Aj.drewN | apply Aj.drew | apply Aj.Dv | apply Aj.Du) | exact HI0.out), by repeat (first | (with_reducible first | exact HB.out | apply Ae | apply Aa | apply Ad | refine Am ?_ (Aj.ge HI0.out)) | exact HB.out), by repeat (first | (with_reducible first | exact HK.out | apply A8.Eo | apply Bq | apply Ce | apply Bv) | exact HK.out)⟩
   ·rw [if_neg c4] at H
    have c4b0 : decide ((wrap64 (s0_1 + 1)) ≤ (s0_0.length : Int)) = false := decide_eq_false c4
    clear c4
    simp only [Option.some.injEq, Prod.mk.injEq] at H
    obtain ⟨rfl, rfl, rfl⟩ := H
    obtain ⟨ASz6_0, cSz6_0, HGz6, hgz6, HSz6_0⟩ := HI0.out
    have hcz6_0 := cellS48_0 HGz6
    have hcz6_1 := cellS48_1 HGz6
    have hcz6_2 := cellS48_2 HGz6
    have hfz6_1 := Ai HGz6 1
    have hfz6_2 := Ai HGz6 2
    clear HGz6 hgz6
    have p101 : 0 ≤ (s0_1 : Int) := of_decide_eq_true Ye_
    have q101 : s0_1 < (s0_0.length : Int) := of_decide_eq_true Ye_
    obtain ⟨ad101, e101, hx101_0⟩ := Kd.at_int HSz6_0 s0_1 p101 q101
    cases e101
    replace hx101_0 := Iw HB.out hx101_0
    replace p101 := eq_true p101
    replace q101 := eq_true q101
    go_enter Tryz.func66, Tryz.ntmps66
    go_wp2
    repeat (go_quiet (fail); try go_wp2)
    go_ret
    exact ⟨by first | rfl | (simp [Au, Aw] <;> rfl) | (simp [*, Au, Aw] <;> rfl), by repeat (first | (with_reducible first | exact HI0.out | apply Aj.alloc | apply Aj.drewN | apply Aj.drew | apply Aj.Dv | apply Aj.Du) | exact HI0.out), by repeat (first | (with_reducible first | exact HB.out | apply Ae | apply Aa | apply Ad | refine Am ?_ (Aj.ge HI0.out)) | exact HB.out), by repeat (first | (with_reducible first | exact HK.out | apply A8.Eo | apply Bq | apply Ce | apply Bv) | exact HK.out)⟩
  ·rw [if_neg c3] at H
   exact absurd H (by simp)
 ·rw [if_neg c2] at H
  have c2b0 : decide (s0_1 < (s0_0.length : Int)) = false := decide_eq_false c2
  clear c2
  by_cases c7 : (wrap64 (s0_1 + 1)) ≤ (s0_0.length : Int)
  ·rw [if_pos c7] at H
   have c7b0 : decide ((wrap64 (s0_1 + 1)) ≤ (s0_0.length : Int)) = true := decide_eq_true c7
   clear c7
   simp only [Option.some.injEq, Prod.mk.injEq] at H
   obtain ⟨rfl, rfl, rfl⟩ := H
   obtain ⟨ASz8_0, cSz8_0, HGz8, hgz8, HSz8_0⟩ := HI0.out
   have hcz8_0 := cellS48_0 HGz8
   have hcz8_1 := cellS48_1 HGz8
   have hcz8_2 := cellS48_2 HGz8
   have hfz8_1 := Ai HGz8 1
   have hfz8_2 := Ai HGz8 2
   clear HGz8 hgz8
   go_enter Tryz.func66, Tryz.ntmps66
   go_wp2
   repeat (go_quiet (fail); try go_wp2)
   go_ret
   exact ⟨by first | rfl | (simp [Au, Aw] <;> rfl) | (simp [*, Au, Aw] <;> rfl), by repeat (first | (with_reducible first | exact HI0.out | apply Aj.alloc | apply Aj.drewN | apply Aj.drew | apply Aj.Dv | apply Aj.Du) | exact HI0.out), by repeat (first | (with_reducible first | exact HB.out | apply Ae | apply Aa | apply Ad | refine Am ?_ (Aj.ge HI0.out)) | exact HB.out), by repeat (first | (with_reducible first | exact HK.out | apply A8.Eo | apply Bq | apply Ce | apply Bv) | exact HK.out)⟩
  ·rw [if_neg c7] at H
   have c7b0 : decide ((wrap64 (s0_1 + 1)) ≤ (s0_0.length : Int)) = false := decide_eq_false c7
   clear c7
   simp only [Option.some.injEq, Prod.mk.injEq] at H
   obtain ⟨rfl, rfl, rfl⟩ := H
   obtain ⟨ASz9_0, cSz9_0, HGz9, hgz9, HSz9_0⟩ := HI0.out
   have hcz9_0 := cellS48_0 HGz9
   have hcz9_1 := cellS48_1 HGz9
   have hcz9_2 := cellS48_2 HGz9
   have hfz9_1 := Ai HGz9 1
   have hfz9_2 := Ai HGz9 2
   clear HGz9 hgz9
   go_enter Tryz.func66, Tryz.ntmps66
   go_wp2
   repeat (go_quiet (fail); try go_wp2)
   go_ret
   exact ⟨by first | rfl | (simp [Au, Aw] <;> rfl) | (simp [*, Au, Aw] <;> rfl), by repeat (first | (with_reducible first | exact HI0.out | apply Aj.alloc | apply Aj.drewN | apply Aj.drew | apply Aj.Dv | apply Aj.Du) | exact HI0.out), by repeat (first | (with_reducible first | exact HB.out | apply Ae | apply Aa | apply Ad | refine Am ?_ (Aj.ge HI0.out)) | exact HB.out), by repeat (first | (with_reducible first | exact HK.out | apply A8.Eo | apply Bq | apply Ce | apply Bv) | exact HK.out)⟩
def Cj.f (s0_0 : List Int) (s0_1 : Int) (s0_2 : Int) (a1 : Int) : Option (Int × Int × Int) := if a1 ≤ 1 then (some (0, s0_1, s0_2)) else ((Gp.f s0_0 s0_1 s0_2).bind fun bt102 => (if a1 > 200 then ((Gp.f s0_0 bt102.2.1 bt102.2.2).bind fun bt105 => (if a1 = 0 then (none) else (some (Int.tmod (wrap64 ((wrap64 (bt102.1 * 256)) + bt105.1)) a1, bt105.2.1, bt105.2.2)))) else (if a1 = 0 then (none) else (some (Int.tmod bt102.1 a1, bt102.2.1, bt102.2.2)))))
set_option maxHeartbeats 8000000 in
set_option maxRecDepth 100000 in
theorem Cj.calls (g : Nat) (s0_0 : List Int) (s0_1 : Int) (s0_2 : Int) (a1 : Int) (r1 : Int) (r2 : Int) (r3 : Int) (w0 w : World) (hI : Aj w0 w g s0_0 s0_1 s0_2) (hB : Below w0.heap.size w0 w) (h : Cj.f s0_0 s0_1 s0_2 a1 = some (r1, r2, r3)) :
  Calls Tryz.prog 49 #[.pointer (some ⟨g, 0, none⟩), .int .i64 a1] w fun e w' => e = .returned (.int .i64 r1) ∧ Aj w0 w' g s0_0 r2 r3 ∧ Below w0.heap.size w0 w' ∧ A8 w w' g none := by
 have HI0 := Ac.mk hI
 have HK := Ac.mk (A8.refl w g none)
 have HL := Ac.mk hB.size
 clear hI
 have HW0 := Ac.mk hB.size
 have HB := Ac.mk hB
 clear hB
 have H : (if a1 ≤ 1 then (some (0, s0_1, s0_2)) else ((Gp.f s0_0 s0_1 s0_2).bind fun bt102 => (if a1 > 200 then ((Gp.f s0_0 bt102.2.1 bt102.2.2).bind fun bt105 => (if a1 = 0 then (none) else (some (Int.tmod (wrap64 ((wrap64 (bt102.1 * 256)) + bt105.1)) a1, bt105.2.1, bt105.2.2)))) else (if a1 = 0 then (none) else (some (Int.tmod bt102.1 a1, bt102.2.1, bt102.2.2)))))) = some (r1, r2, r3) := h
 clear h
 by_cases c3 : a1 ≤ 1
 ·rw [if_pos c3] at H
  have c3b0 : decide (a1 ≤ 1) = true := decide_eq_true c3
  clear c3
  simp only [Option.some.injEq, Prod.mk.injEq] at H
  obtain ⟨rfl, rfl, rfl⟩ := H
  go_enter Tryz.func49, Tryz.ntmps49
  go_wp2
  go_ret
  exact ⟨by first | rfl | (simp [Au, Aw] <;> rfl) | (simp [*, Au, Aw] <;> rfl), by repeat (first | (with_reducible first | exact HI0.out | apply Aj.alloc | apply Aj.drewN | apply Aj.drew | apply Aj.Dv | apply Aj.Du) | exact HI0.out), by repeat (first | (with_reducible first | exact HB.out | apply Ae | apply Aa | apply Ad | refine Am ?_ (Aj.ge HI0.out)) | exact HB.out), by repeat (first | (with_reducible first | exact HK.out | apply A8.Eo | apply Bq | apply Ce | apply Bv) | exact HK.out)⟩
 ·rw [if_neg c3] at H
  have c3b0 : decide (a1 ≤ 1) = false := decide_eq_false c3
  clear c3
  replace H := Option.bind_eq_some_iff.mp H
  obtain ⟨⟨t102, t103, t104⟩, A40, H⟩ := H
  try dsimp only at H
  have A4 := Ac.mk A40
  clear A40
  by_cases c5 : a1 > 200
  ·rw [if_pos c5] at H
   have c5b0 : decide (200 < a1) = true := decide_eq_true c5
   clear c5
   replace H := Option.bind_eq_some_iff.mp H
   obtain ⟨⟨t105, t106, t107⟩, A60, H⟩ := H
   try dsimp only at H
   have A6 := Ac.mk A60
   clear A60
   by_cases c7 : a1 = 0
   ·rw [if_pos c7] at H
    exact absurd H (by simp)
   ·rw [if_neg c7] at H
    have c7b0 : (a1 == 0) = false := beq_eq_false_iff_ne.mpr c7
    have c7b1 : (a1 != 0) = true := bne_iff_ne.mpr c7
    simp only [Option.some.injEq, Prod.mk.injEq] at H
    obtain ⟨rfl, rfl, rfl⟩ := H
    go_enter Tryz.func49, Tryz.ntmps49
    go_wp2_with (first | ((with_reducible refine Ap (f := 66) rfl ?_); refine Bj (some 9) rfl rfl Tryz.func66 (by kernel_rfl) rfl #[.pointer (some ⟨g, 0, none⟩)] rfl Ya_ ?_; (with_reducible refine (Gp.calls g s0_0 s0_1 s0_2 t102 t103 t104 w0 _ ?side1 ?side2 A4.out).mono ?_); (case side1 => repeat (first | (with_reducible first | exact HI0.out | apply Aj.alloc | apply Aj.drewN | apply Aj.drew | apply Aj.Dv | apply Aj.Du) | exact HI0.out)); (case side2 => repeat (first | (with_reducible first | exact HB.out | apply Ae | apply Aa | apply Ad | refine Am ?_ (Aj.ge HI0.out)) | exact HB.out)); rintro e w8 ⟨rfl, hi, hb, hk⟩; refine ⟨_, rfl, ?_⟩; have n0_ := Ac.mk (A8.trans Yh_ hk (.inl rfl)); have n1_ := Ac.mk (hb); have n2_ := Ac.mk (hi); clear HK; clear HB; clear HI0; have HK := n0_; have HB := n1_; have HI0 := n2_; clear n0_ n1_ n2_; (try clear hb); (try clear hb2); (try clear hk); (try clear hi)) | ((with_reducible refine Ap (f := 66) rfl ?_); refine Bj (some 15) rfl rfl Tryz.func66 (by kernel_rfl) rfl #[.pointer (some ⟨g, 0, none⟩)] rfl Ya_ ?_; (with_reducible refine (Gp.calls g s0_0 t103 t104 t105 t106 t107 w0 _ ?side1 ?side2 A6.out).mono ?_); (case side1 => repeat (first | (with_reducible first | exact HI0.out | apply Aj.alloc | apply Aj.drewN | apply Aj.drew | apply Aj.Dv | apply Aj.Du) | exact HI0.out)); (case side2 => repeat (first | (with_reducible first | exact HB.out | apply Ae | apply Aa | apply Ad | refine Am ?_ (Aj.ge HI0.out)) | exact HB.out)); rintro e w9 ⟨rfl, hi, hb, hk⟩; refine ⟨_, rfl, ?_⟩; have n0_ := Ac.mk (A8.trans Yh_ hk (.inl rfl)); have n1_ := Ac.mk (hb); have n2_ := Ac.mk (hi); clear HK; clear HB; clear HI0; have HK := n0_; have HB := n1_; have HI0 := n2_; clear n0_ n1_ n2_; (try clear hb); (try clear hb2); (try clear hk); (try clear hi)))
    go_ret
    exact ⟨by first | rfl | (simp [Au, Aw] <;> rfl) | (simp [*, Au, Aw] <;> rfl), by repeat (first | (with_reducible first | exact HI0.out | apply Aj.alloc | apply Aj.drewN | apply Aj.drew | apply Aj.Dv | apply Aj.Du) | exact HI0.out), by repeat (first | (with_reducible first | exact HB.out | apply Ae | apply Aa | apply Ad | refine Am ?_ (Aj.ge HI0.out)) | exact HB.out), by repeat (first | (with_reducible first | exact HK.out | apply A8.Eo | apply Bq | apply Ce | apply Bv) | exact HK.out)⟩
  ·rw [if_neg c5] at H
   have c5b0 : decide (200 < a1) = false := decide_eq_false c5
   clear c5
   by_cases c10 : a1 = 0
   ·rw [if_pos c10] at H
    exact absurd H (by simp)
   ·rw [if_neg c10] at H
    have c10b0 : (a1 == 0) = false := beq_eq_false_iff_ne.mpr c10
    have c10b1 : (a1 != 0) = true := bne_iff_ne.mpr c10
    simp only [Option.some.injEq, Prod.mk.injEq] at H
    obtain ⟨rfl, rfl, rfl⟩ := H
    go_enter Tryz.func49, Tryz.ntmps49
    go_wp2_with (first | ((with_reducible refine Ap (f := 66) rfl ?_); refine Bj (some 9) rfl rfl Tryz.func66 (by kernel_rfl) rfl #[.pointer (some ⟨g, 0, none⟩)] rfl Ya_ ?_; (with_reducible refine (Gp.calls g s0_0 s0_1 s0_2 t102 t103 t104 w0 _ ?side1 ?side2 A4.out).mono ?_); (case side1 => repeat (first | (with_reducible first | exact HI0.out | apply Aj.alloc | apply Aj.drewN | apply Aj.drew | apply Aj.Dv | apply Aj.Du) | exact HI0.out)); (case side2 => repeat (first | (with_reducible first | exact HB.out | apply Ae | apply Aa | apply Ad | refine Am ?_ (Aj.ge HI0.out)) | exact HB.out)); rintro e w11 ⟨rfl, hi, hb, hk⟩; refine ⟨_, rfl, ?_⟩; have n0_ := Ac.mk (A8.trans Yh_ hk (.inl rfl)); have n1_ := Ac.mk (hb); have n2_ := Ac.mk (hi); clear HK; clear HB; clear HI0; have HK := n0_; have HB := n1_; have HI0 := n2_; clear n0_ n1_ n2_; (try clear hb); (try clear hb2); (try clear hk); (try clear hi)))
    go_ret
    exact ⟨by first | rfl | (simp [Au, Aw] <;> rfl) | (simp [*, Au, Aw] <;> rfl), by repeat (first | (with_reducible first | exact HI0.out | apply Aj.alloc | apply Aj.drewN | apply Aj.drew | apply Aj.Dv | apply Aj.Du) | exact HI0.out), by repeat (first | (with_reducible first | exact HB.out | apply Ae | apply Aa | apply Ad | refine Am ?_ (Aj.ge HI0.out)) | exact HB.out), by repeat (first | (with_reducible first | exact HK.out | apply A8.Eo | apply Bq | apply Ce | apply Bv) | exact HK.out)⟩
def Gx.f (s0_0 : List Int) (s0_1 : Int) (s0_2 : Int) (l1 : List ByteArray) : Option (ByteArray × Int × Int) := (Cj.f s0_0 s0_1 s0_2 (l1.length : Int)).bind fun bt108 => (if 0 ≤ bt108.1 then (if bt108.1 < (l1.length : Int) then (some (rdOf ByteArray.empty l1 bt108.1, bt108.2.1, bt108.2.2)) else (none)) else (none))
set_option maxHeartbeats 8000000 in
set_option maxRecDepth 100000 in
theorem Gx.calls (g : Nat) (s0_0 : List Int) (s0_1 : Int) (s0_2 : Int) (A1 : Option Addr) (c1 : Nat) (l1 : List ByteArray) (r1 : ByteArray) (r2 : Int) (r3 : Int) (w0 w : World) (hI : Aj w0 w g s0_0 s0_1 s0_2) (hB : Below w0.heap.size w0 w) (hr1 : Kd.C Kd.string w A1 l1.length l1) (hc1 : l1.length ≤ c1) (hf1 : ∀ ad, A1 = some ad → 0 < l1.length → ad.block ≠ g) (h : Gx.f s0_0 s0_1 s0_2 l1 = some (r1, r2, r3)) :
  Calls Tryz.prog 52 #[.pointer (some ⟨g, 0, none⟩), .slice A1 l1.length c1] w fun e w' => e = .returned (.string r1) ∧ Aj w0 w' g s0_0 r2 r3 ∧ Below w0.heap.size w0 w' ∧ A8 w w' g none := by
 have HR1 := Ac.mk hr1
 have HC1 := Ac.mk hc1
 clear hr1 hc1
 have HI0 := Ac.mk hI
 have HK := Ac.mk (A8.refl w g none)
 have HL := Ac.mk hB.size
 clear hI
 have HW0 := Ac.mk hB.size
 have HB := Ac.mk hB
 clear hB
 have H : ((Cj.f s0_0 s0_1 s0_2 (l1.length : Int)).bind fun bt108 => (if 0 ≤ bt108.1 then (if bt108.1 < (l1.length : Int) then (some (rdOf ByteArray.empty l1 bt108.1, bt108.2.1, bt108.2.2)) else (none)) else (none))) = some (r1, r2, r3) := h
 clear h
 replace H := Option.bind_eq_some_iff.mp H
 obtain ⟨⟨t108, t109, t110⟩, A30, H⟩ := H
 try dsimp only at H
 have A3 := Ac.mk A30
 clear A30
 by_cases c4 : 0 ≤ t108
 ·rw [if_pos c4] at H
  have c4b0 : decide (0 ≤ t108) = true := decide_eq_true c4
  clear c4
  by_cases c5 : t108 < (l1.length : Int)
  ·rw [if_pos c5] at H
   have c5b0 : decide (t108 < (l1.length : Int)) = true := decide_eq_true c5
   clear c5
   simp only [Option.some.injEq, Prod.mk.injEq] at H
   obtain ⟨rfl, rfl, rfl⟩ := H
   go_enter Tryz.func52, Tryz.ntmps52
   go_wp2_with (first | ((with_reducible refine Ap (f := 49) rfl ?_); refine Bj (some 9) rfl rfl Tryz.func49 (by kernel_rfl) rfl #[.pointer (some ⟨g, 0, none⟩), .int .i64 (l1.length : Int)] rfl Ya_ ?_; (with_reducible refine (Cj.calls g s0_0 s0_1 s0_2 (l1.length : Int) t108 t109 t110 w0 _ ?side1 ?side2 A3.out).mono ?_); (case side1 => repeat (first | (with_reducible first | exact HI0.out | apply Aj.alloc | apply Aj.drewN | apply Aj.drew | apply Aj.Dv | apply Aj.Du) | exact HI0.out)); (case side2 => repeat (first | (with_reducible first | exact HB.out | apply Ae | apply Aa | apply Ad | refine Am ?_ (Aj.ge HI0.out)) | exact HB.out)); rintro e w6 ⟨rfl, hi, hb, hk⟩; refine ⟨_, rfl, ?_⟩; have n0_ := Ac.mk (A8.trans Yh_ hk (.inl rfl)); have n1_ := Ac.mk (hb); have n2_ := Ac.mk (hi); clear HK; clear HB; clear HI0; have HK := n0_; have HB := n1_; have HI0 := n2_; clear n0_ n1_ n2_; (try clear hb); (try clear hb2); (try clear hk); (try clear hi); have p111 : 0 ≤ (t108 : Int) := of_decide_eq_true Ye_; have q111 : t108 < (l1.length : Int) := of_decide_eq_true Ye_; obtain ⟨ad111, e111, hx111_0⟩ := Kd.I8 HR1.out t108 p111 q111; cases e111; replace hx111_0 := keep_cell HK.out hx111_0 (by first | (rw [add_block]; exact hf1 _ rfl (by omega)) | exact hf1 _ rfl (by omega) | exact hf1 ad111 rfl (by omega)); replace p111 := eq_true p111; replace q111 := eq_true q111))
   go_ret
   exact ⟨by first | rfl | (simp [Au, Aw] <;> rfl) | (simp [*, Au, Aw] <;> rfl), by repeat (first | (with_reducible first | exact HI0.out | apply Aj.alloc | apply Aj.drewN | apply Aj.drew | apply Aj.Dv | apply Aj.Du) | exact HI0.out), by repeat (first | (with_reducible first | exact HB.out | apply Ae | apply Aa | apply Ad | refine Am ?_ (Aj.ge HI0.out)) | exact HB.out), by repeat (first | (with_reducible first | exact HK.out | apply A8.Eo | apply Bq | apply Ce | apply Bv) | exact HK.out)⟩
  ·rw [if_neg c5] at H
   exact absurd H (by simp)
 ·rw [if_neg c4] at H
  exact absurd H (by simp)
def Ee.l0 : Nat → ByteArray → Int → Int → Option (Int)
 | 0, _, _, _ => none
 | k + 1, x0, x3, x4 => if x4 < 7 then (if 0 ≤ x4 then (if x4 < (x0.size : Int) then (if x4 < 3 then (Ee.l0 k x0 (wrap64 (x3 + (wrap64 ((wrap64 ((wrap64 ((wrap64 (bt x0 x4)) - 65)) + 1)) * (wrap64 (x4 + 2)))))) (wrap64 (x4 + 1))) else (Ee.l0 k x0 (wrap64 (x3 + (wrap64 ((wrap64 ((wrap64 (bt x0 x4)) - 48)) * (wrap64 (x4 + 2)))))) (wrap64 (x4 + 1)))) else (none)) else (none)) else (some ((65 + ((Int.tmod x3 23) % 256)) % 256))
def Ee.f (k : Nat) (a0 : ByteArray) : Option (Int) := Ee.l0 k a0 0 0
theorem Ee.Fa : ∀ k, (∀ y0 y1 y2, LeO (Ee.l0 k y0 y1 y2) (Ee.l0 (k + 1) y0 y1 y2))
 | 0 => fun _ _ _ r h => by simp [Ee.l0] at h
 | k + 1 => by
  have ih0 := Ee.Fa k
  ·intro y0 y1 y2
   unfold Ee.l0
   repeat' first
   | (with_reducible exact ih0 _ _ _)
   | (with_reducible exact LeO.refl _)
   | (with_reducible exact LeO.none _)
   | (with_reducible refine LeO.ite ?_ ?_)
   | (with_reducible refine LeO.bind ?_ (fun _ => ?_))
   | exact ih0 _ _ _
   | exact LeO.none _
   | refine LeO.ite ?_ ?_
   | refine LeO.bind ?_ (fun _ => ?_)
theorem Ee.mono : ∀ a0 k, LeO (Ee.f k a0) (Ee.f (k + 1) a0) := by
 intro a0 k
 have ih0 := Ee.Fa k
 unfold Ee.f
 repeat' first
   | (with_reducible exact ih0 _ _ _)
   | (with_reducible exact LeO.refl _)
   | (with_reducible exact LeO.none _)
   | (with_reducible refine LeO.ite ?_ ?_)
   | (with_reducible refine LeO.bind ?_ (fun _ => ?_))
   | exact ih0 _ _ _
   | exact LeO.none _
   | refine LeO.ite ?_ ?_
   | refine LeO.bind ?_ (fun _ => ?_)
set_option maxHeartbeats 8000000 in
set_option maxRecDepth 100000 in
theorem Ee.calls (k : Nat) (a0 : ByteArray) (r : Int) (w : World) (h : Ee.f k a0 = some r) :
  Calls Tryz.prog 63 #[.string a0] w fun e w' => e = .returned (.int .u8 r) ∧ C9 w w' := by
 have H : (Ee.l0 k a0 0 0) = some r := h
 clear h
 have H' := Ac.mk H
 clear H
 go_enter Tryz.func63, Tryz.ntmps63
 go_wp2
 go_loopg [3, 4] k (fun kq v3 v4 w' => ∃ (x3_1 : Int) (x4_1 : Int), v3 = .int .i64 x3_1 ∧ v4 = .int .i64 x4_1 ∧ Ac (Ee.l0 kq a0 x3_1 x4_1 = some r) ∧ Ac (kq ≤ k) ∧ C9 w w')
 case atStart => exact ⟨(0), (0), Yf_, Yf_, H', ⟨Nat.le_refl _⟩, by repeat (first | exact C9.refl _ | apply C9.step)⟩
 case round =>
  clear H'
  obtain ⟨x3_1, x4_1, rfl, rfl, HA, HK1, ⟨m1, rfl⟩⟩ := hrel
  cases gk with
  | zero => exact absurd HA.out (by simp [Ee.l0])
  | succ k1 =>
   have H := HA.out
   clear HA
   simp only [Ee.l0] at H
   by_cases c2 : x4_1 < 7
   ·rw [if_pos c2] at H
    have c2b0 : decide (x4_1 < 7) = true := decide_eq_true c2
    clear c2
    by_cases c3 : 0 ≤ x4_1
    ·rw [if_pos c3] at H
     have c3b0 : decide (0 ≤ x4_1) = true := decide_eq_true c3
     clear c3
     by_cases c4 : x4_1 < (a0.size : Int)
     ·rw [if_pos c4] at H
      have c4b0 : decide (x4_1 < (a0.size : Int)) = true := decide_eq_true c4
      clear c4
      by_cases c6 : x4_1 < 3
      ·rw [if_pos c6] at H
       have c6b0 : decide (x4_1 < 3) = true := decide_eq_true c6
       clear c6
       have H' := Ac.mk H
       clear H
       have p5 : 0 ≤ (x4_1 : Int) := of_decide_eq_true Ye_
       have q5 : x4_1 < (a0.size : Int) := of_decide_eq_true Ye_
       have hx5 := Gm a0 x4_1
       replace p5 := eq_true p5
       replace q5 := eq_true q5
       have p7 : 0 ≤ (x4_1 : Int) := of_decide_eq_true Ye_
       have q7 : x4_1 < (a0.size : Int) := of_decide_eq_true Ye_
       have hx7 := Gm a0 x4_1
       replace p7 := eq_true p7
       replace q7 := eq_true q7
       go_wp2
       go_roundg k1
       case measure => have := HK1.out; omega
       case rel => exact ⟨(wrap64 (x3_1 + (wrap64 ((wrap64 ((wrap64 ((wrap64 (bt a0 x4_1)) - 65)) + 1)) * (wrap64 (x4_1 + 2)))))), (wrap64 (x4_1 + 1)), Yf_, Yf_, H', ⟨by have := HK1.out; omega⟩, by repeat (first | exact C9.refl _ | apply C9.step)⟩
      ·rw [if_neg c6] at H
       have c6b0 : decide (x4_1 < 3) = false := decide_eq_false c6
       clear c6
       have H' := Ac.mk H
       clear H
       have p5 : 0 ≤ (x4_1 : Int) := of_decide_eq_true Ye_
       have q5 : x4_1 < (a0.size : Int) := of_decide_eq_true Ye_
       have hx5 := Gm a0 x4_1
       replace p5 := eq_true p5
       replace q5 := eq_true q5
       go_wp2
       go_roundg k1
       case measure => have := HK1.out; omega
       case rel => exact ⟨(wrap64 (x3_1 + (wrap64 ((wrap64 ((wrap64 (bt a0 x4_1)) - 48)) * (wrap64 (x4_1 + 2)))))), (wrap64 (x4_1 + 1)), Yf_, Yf_, H', ⟨by have := HK1.out; omega⟩, by repeat (first | exact C9.refl _ | apply C9.step)⟩
     ·rw [if_neg c4] at H
      exact absurd H (by simp)
    ·rw [if_neg c3] at H
     exact absurd H (by simp)
   ·rw [if_neg c2] at H
    have c2b0 : decide (x4_1 < 7) = false := decide_eq_false c2
    clear c2
    obtain rfl := Option.some.inj H
    go_wp2
    go_ret
    exact ⟨by first | rfl | (simp; done) | (simp [*]; done), by repeat (first | exact C9.refl _ | apply C9.step)⟩
def E5.f (k : Nat) (s0_0 : List Int) (s0_1 : Int) (s0_2 : Int) : Option (ByteArray × Int × Int) := (Gx.f s0_0 s0_1 s0_2 (([(⟨#[65, 66, 67, 48, 48, 48, 49]⟩ : ByteArray), (⟨#[65, 66, 67, 48, 48, 48, 50]⟩ : ByteArray), (⟨#[88, 89, 90, 49, 50, 51, 52]⟩ : ByteArray)] : List ByteArray))).bind fun bt115 => ((Ee.f k bt115.1).bind fun t118 => ((some (([t118] : List Int) : List Int)).bind fun y119 => (if bt115.1.size + (strOfNums y119).size ≤ 9223372036854775807 then (some (bt115.1 ++ (strOfNums y119), bt115.2.1, bt115.2.2)) else (none))))
theorem E5.mono : ∀ a0 a1 a2 k, LeO (E5.f k a0 a1 a2) (E5.f (k + 1) a0 a1 a2) := by
 intro a0 a1 a2 k
 unfold E5.f
 repeat' first
   | (with_reducible exact Ee.mono _ _)
   | (with_reducible exact LeO.refl _)
   | (with_reducible exact LeO.none _)
   | (with_reducible refine LeO.ite ?_ ?_)
   | (with_reducible refine LeO.bind ?_ (fun _ => ?_))
   | exact Ee.mono _ _
   | exact LeO.none _
   | refine LeO.ite ?_ ?_
   | refine LeO.bind ?_ (fun _ => ?_)
set_option maxHeartbeats 8000000 in
set_option maxRecDepth 100000 in
theorem E5.calls (k : Nat) (g : Nat) (s0_0 : List Int) (s0_1 : Int) (s0_2 : Int) (r1 : ByteArray) (r2 : Int) (r3 : Int) (w0 w : World) (hI : Aj w0 w g s0_0 s0_1 s0_2) (hB : Below w0.heap.size w0 w) (h : E5.f k s0_0 s0_1 s0_2 = some (r1, r2, r3)) :
  Calls Tryz.prog 50 #[.pointer (some ⟨g, 0, none⟩)] w fun e w' => e = .returned (.string r1) ∧ Aj w0 w' g s0_0 r2 r3 ∧ Below w0.heap.size w0 w' ∧ A8 w w' g none := by
 have HI0 := Ac.mk hI
 have HK := Ac.mk (A8.refl w g none)
 have HL := Ac.mk hB.size
 clear hI
 have HW0 := Ac.mk hB.size
 have HB := Ac.mk hB
 clear hB
 have H : ((Gx.f s0_0 s0_1 s0_2 (([(⟨#[65, 66, 67, 48, 48, 48, 49]⟩ : ByteArray), (⟨#[65, 66, 67, 48, 48, 48, 50]⟩ : ByteArray), (⟨#[88, 89, 90, 49, 50, 51, 52]⟩ : ByteArray)] : List ByteArray))).bind fun bt115 => ((Ee.f k bt115.1).bind fun t118 => ((some (([t118] : List Int) : List Int)).bind fun y119 => (if bt115.1.size + (strOfNums y119).size ≤ 9223372036854775807 then (some (bt115.1 ++ (strOfNums y119), bt115.2.1, bt115.2.2)) else (none))))) = some (r1, r2, r3) := h
 clear h
 obtain ⟨y112, hy112⟩ : ∃ y_ : List ByteArray, y_ = (([(⟨#[65, 66, 67, 48, 48, 48, 49]⟩ : ByteArray), (⟨#[65, 66, 67, 48, 48, 48, 50]⟩ : ByteArray), (⟨#[88, 89, 90, 49, 50, 51, 52]⟩ : ByteArray)] : List ByteArray)) := ⟨_, rfl⟩
 replace H : ((Gx.f s0_0 s0_1 s0_2 y112).bind fun bt115 => ((Ee.f k bt115.1).bind fun t118 => ((some (([t118] : List Int) : List Int)).bind fun y119 => (if bt115.1.size + (strOfNums y119).size ≤ 9223372036854775807 then (some (bt115.1 ++ (strOfNums y119), bt115.2.1, bt115.2.2)) else (none))))) = some (r1, r2, r3) := by first | (rw [hy112]; with_reducible exact H) | (have H2_ := (Option.bind_some _ _).symm.trans H; rw [hy112]; with_reducible exact H2_) | (have H2_ := (Option.bind_some _ _).symm.trans H; with_reducible exact H2_) | with_reducible exact H | (rw [hy112]; exact H) | exact H
 have Ny112 := Ac.mk hy112
 clear hy112
 replace H := Option.bind_eq_some_iff.mp H
 obtain ⟨⟨t115, t116, t117⟩, A20, H⟩ := H
 try dsimp only at H
 have A2 := Ac.mk A20
 clear A20
 replace H := Option.bind_eq_some_iff.mp H
 obtain ⟨t118, A30, H⟩ := H
 try dsimp only at H
 have A3 := Ac.mk A30
 clear A30
 obtain ⟨y119, hy119⟩ : ∃ y_ : List Int, y_ = (([t118] : List Int)) := ⟨_, rfl⟩
 replace H : (if t115.size + (strOfNums y119).size ≤ 9223372036854775807 then (some (t115 ++ (strOfNums y119), t116, t117)) else (none)) = some (r1, r2, r3) := by first | (rw [hy119]; with_reducible exact H) | (have H2_ := (Option.bind_some _ _).symm.trans H; rw [hy119]; with_reducible exact H2_) | (have H2_ := (Option.bind_some _ _).symm.trans H; with_reducible exact H2_) | with_reducible exact H | (rw [hy119]; exact H) | exact H
 have Ny119 := Ac.mk hy119
 clear hy119
 by_cases c4 : t115.size + (strOfNums y119).size ≤ 9223372036854775807
 ·rw [if_pos c4] at H
  have c4b0 := eq_true c4
  have c4b1 : decide (t115.size + (strOfNums y119).size ≤ 9223372036854775807) = true := decide_eq_true c4
  try have c4b2 : (9223372036854775807 < t115.size + (strOfNums y119).size) = False := eq_false (Nat.not_lt.2 c4)
  simp only [Option.some.injEq, Prod.mk.injEq] at H
  obtain ⟨rfl, rfl, rfl⟩ := H
  go_enter Tryz.func50, Tryz.ntmps50
  go_wp2_with (first | ((with_reducible refine Dl (N := 5) rfl ?_); refine Kd.Hz Kd.string _ 9 ?hg (N := 5) ?hd (xs := ([(⟨#[65, 66, 67, 48, 48, 48, 49]⟩ : ByteArray), (⟨#[65, 66, 67, 48, 48, 48, 50]⟩ : ByteArray), (⟨#[88, 89, 90, 49, 50, 51, 52]⟩ : ByteArray)] : List ByteArray)) (inner := [.string (⟨#[65, 66, 67, 48, 48, 48, 49]⟩ : ByteArray), .string (⟨#[65, 66, 67, 48, 48, 48, 50]⟩ : ByteArray), .string (⟨#[88, 89, 90, 49, 50, 51, 52]⟩ : ByteArray)]) (ok := fun _ => True) (okp := fun _ => True) ?hr ?hp (fun _ hk => hk) trivial (Below.refl _ _) (Nat.le_refl _) (by simp) ?_; (case hd => rfl); (case hg => rfl); (case hr => first | (go_simp; done) | (go_simp; rfl)); (case hp => exact (Ed.one (show Kd.M Kd.string _ _ _ (⟨#[65, 66, 67, 48, 48, 48, 49]⟩ : ByteArray) [.string (⟨#[65, 66, 67, 48, 48, 48, 49]⟩ : ByteArray)] from rfl) (Ed.one (show Kd.M Kd.string _ _ _ (⟨#[65, 66, 67, 48, 48, 48, 50]⟩ : ByteArray) [.string (⟨#[65, 66, 67, 48, 48, 48, 50]⟩ : ByteArray)] from rfl) (Ed.one (show Kd.M Kd.string _ _ _ (⟨#[88, 89, 90, 49, 50, 51, 52]⟩ : ByteArray) [.string (⟨#[88, 89, 90, 49, 50, 51, 52]⟩ : ByteArray)] from rfl) (Ed.none _ _))))); intro v113 w5 ho6 hb hg_ hnew_; clear hg_ hnew_; (first | rw [← Ny112.out] at ho6 | (simp only [Int.reduceToNat] at ho6; rw [← Ny112.out] at ho6)); have n0_ := Ac.mk (Kd.Gg ho6 (Gt (w := w) (g := g) (row := none) Yh_)); have n1_ := Ac.mk (Aj.below Ycj_ hb); have n2_ := Ac.mk (A8.trans Yh_ (A8.of_below hb g none) (.inl rfl)); have n3_ := Ac.mk (Ar Yda_ hb); clear HI0; clear HK; clear HB; have HO114 := n0_; have HI0 := n1_; have HK := n2_; have HB := n3_; clear n0_ n1_ n2_ n3_; clear hb ho6; obtain ⟨Ao7, co7, eo7⟩ := Kd.Gh HO114.out; subst eo7) | ((with_reducible refine Ap (f := 52) rfl ?_); refine Bj (some 6) rfl rfl Tryz.func52 (by kernel_rfl) rfl #[.pointer (some ⟨g, 0, none⟩), .slice Ao7 y112.length co7] rfl Ya_ ?_; (with_reducible refine (Gx.calls g s0_0 s0_1 s0_2 _ _ y112 t115 t116 t117 w0 _ ?side1 ?side2 ?side3 ?side4 ?side5 A2.out).mono ?_); (case side1 => repeat (first | (with_reducible first | exact HI0.out | apply Aj.alloc | apply Aj.drewN | apply Aj.drew | apply Aj.Dv | apply Aj.Du) | exact HI0.out)); (case side2 => repeat (first | (with_reducible first | exact HB.out | apply Ae | apply Aa | apply Ad | refine Am ?_ (Aj.ge HI0.out)) | exact HB.out)); (case side3 => repeat (first | exact (Kd.Ec HO114.out).2.2 | (with_reducible refine Kd.F5 ?_ _) | (with_reducible refine Kd.F6 ?_ _) | (with_reducible refine Kd.Gj ?_))); (case side4 => exact (Kd.Ec HO114.out).2.1); (case side5 => exact Ja (Aj.own_ne HI0.out HO114.out (by decide))); rintro e w8 ⟨rfl, hi, hb, hk⟩; refine ⟨_, rfl, ?_⟩; have n0_ := Ac.mk (Kd.R_mono (Kd.Hr (Aj.apart (show Aj w0 _ g s0_0 s0_1 s0_2 from by repeat (first | (with_reducible first | exact HI0.out | apply Aj.alloc | apply Aj.drewN | apply Aj.drew | apply Aj.Dv | apply Aj.Du) | exact HI0.out)) (by (with_reducible repeat (first | apply Kd.Cb | apply Kd.Bz | apply Kd.Cm)); exact HO114.out) (by decide)) hk (fun _ h => h.2)) (fun _ h => h.1)); have n1_ := Ac.mk (A8.trans Yh_ hk (.inl rfl)); have n2_ := Ac.mk (hb); have n3_ := Ac.mk (hi); clear HO114; clear HK; clear HB; clear HI0; have HO114 := n0_; have HK := n1_; have HB := n2_; have HI0 := n3_; clear n0_ n1_ n2_ n3_; (try clear hb); (try clear hb2); (try clear hk); (try clear hi)) | ((with_reducible refine Ap (f := 63) rfl ?_); refine Bj (some 9) rfl rfl Tryz.func63 (by kernel_rfl) rfl #[.string t115] rfl Ya_ ?_; (with_reducible refine (Ee.calls k t115 t118 _ A3.out).mono ?_); rintro e w' ⟨rfl, ⟨nd, rfl⟩⟩; refine ⟨_, rfl, ?_⟩) | ((with_reducible refine Dl (N := 10) rfl ?_); refine Kd.Hz (Kd.int .u8) _ 5 ?hg (N := 10) ?hd (xs := ([t118] : List Int)) (inner := [.int .u8 t118]) (ok := fun _ => True) (okp := fun _ => True) ?hr ?hp (fun _ hk => hk) trivial (Below.refl _ _) (Nat.le_refl _) (by simp) ?_; (case hd => rfl); (case hg => rfl); (case hr => first | (go_simp; done) | (go_simp; rfl)); (case hp => exact (Ed.one (show Kd.M (Kd.int .u8) _ _ _ t118 [.int .u8 t118] from rfl) (Ed.none _ _))); intro v120 w9 ho10 hb hg_ hnew_; clear hg_ hnew_; (first | rw [← Ny119.out] at ho10 | (simp only [Int.reduceToNat] at ho10; rw [← Ny119.out] at ho10)); have n0_ := Ac.mk (Kd.Fe (by (with_reducible repeat (first | apply Kd.Cb | apply Kd.Bz | apply Kd.Cm)); exact HO114.out) hb); have n1_ := Ac.mk (Kd.Gg ho10 (Gt (w := w) (g := g) (row := none) Yh_)); have n2_ := Ac.mk (Aj.below Ycj_ hb); have n3_ := Ac.mk (A8.trans Yh_ (A8.of_below hb g none) (.inl rfl)); have n4_ := Ac.mk (Ar Yda_ hb); clear HO114; clear HI0; clear HK; clear HB; have HO114 := n0_; have HO121 := n1_; have HI0 := n2_; have HK := n3_; have HB := n4_; clear n0_ n1_ n2_ n3_ n4_; clear hb ho10; have hcv11 := own_string (P := Tryz.prog) Tryz.underlying22 Tryz.underlying5 Tryz.underlying9 (Kd.own_of_R HO121.out)))
  go_ret
  exact ⟨by first | rfl | (simp [Au, Aw] <;> rfl) | (simp [*, Au, Aw] <;> rfl), by repeat (first | (with_reducible first | exact HI0.out | apply Aj.alloc | apply Aj.drewN | apply Aj.drew | apply Aj.Dv | apply Aj.Du) | exact HI0.out), by repeat (first | (with_reducible first | exact HB.out | apply Ae | apply Aa | apply Ad | refine Am ?_ (Aj.ge HI0.out)) | exact HB.out), by repeat (first | (with_reducible first | exact HK.out | apply A8.Eo | apply Bq | apply Ce | apply Bv) | exact HK.out)⟩
 ·rw [if_neg c4] at H
  exact absurd H (by simp)
def Em.f (s0_0 : List Int) (s0_1 : Int) (s0_2 : Int) (l1 : List Int) : Option (Int × Int × Int) := (Cj.f s0_0 s0_1 s0_2 (l1.length : Int)).bind fun bt122 => (if 0 ≤ bt122.1 then (if bt122.1 < (l1.length : Int) then (some (rd l1 bt122.1, bt122.2.1, bt122.2.2)) else (none)) else (none))
set_option maxHeartbeats 8000000 in
set_option maxRecDepth 100000 in
theorem Em.calls (g : Nat) (s0_0 : List Int) (s0_1 : Int) (s0_2 : Int) (A1 : Option Addr) (c1 : Nat) (l1 : List Int) (r1 : Int) (r2 : Int) (r3 : Int) (w0 w : World) (hI : Aj w0 w g s0_0 s0_1 s0_2) (hB : Below w0.heap.size w0 w) (hr1 : Kd.C (Kd.int .i64) w A1 l1.length l1) (hc1 : l1.length ≤ c1) (hf1 : ∀ ad, A1 = some ad → 0 < l1.length → ad.block ≠ g) (h : Em.f s0_0 s0_1 s0_2 l1 = some (r1, r2, r3)) :
  Calls Tryz.prog 51 #[.pointer (some ⟨g, 0, none⟩), .slice A1 l1.length c1] w fun e w' => e = .returned (.int .i64 r1) ∧ Aj w0 w' g s0_0 r2 r3 ∧ Below w0.heap.size w0 w' ∧ A8 w w' g none := by
 have HR1 := Ac.mk hr1
 have HC1 := Ac.mk hc1
 clear hr1 hc1
 have HI0 := Ac.mk hI
 have HK := Ac.mk (A8.refl w g none)
 have HL := Ac.mk hB.size
 clear hI
 have HW0 := Ac.mk hB.size
 have HB := Ac.mk hB
 clear hB
 have H : ((Cj.f s0_0 s0_1 s0_2 (l1.length : Int)).bind fun bt122 => (if 0 ≤ bt122.1 then (if bt122.1 < (l1.length : Int) then (some (rd l1 bt122.1, bt122.2.1, bt122.2.2)) else (none)) else (none))) = some (r1, r2, r3) := h
 clear h
 replace H := Option.bind_eq_some_iff.mp H
 obtain ⟨⟨t122, t123, t124⟩, A30, H⟩ := H
 try dsimp only at H
 have A3 := Ac.mk A30
 clear A30
 by_cases c4 : 0 ≤ t122
 ·rw [if_pos c4] at H
  have c4b0 : decide (0 ≤ t122) = true := decide_eq_true c4
  clear c4
  by_cases c5 : t122 < (l1.length : Int)
  ·rw [if_pos c5] at H
   have c5b0 : decide (t122 < (l1.length : Int)) = true := decide_eq_true c5
   clear c5
   simp only [Option.some.injEq, Prod.mk.injEq] at H
   obtain ⟨rfl, rfl, rfl⟩ := H
   go_enter Tryz.func51, Tryz.ntmps51
   go_wp2_with (first | ((with_reducible refine Ap (f := 49) rfl ?_); refine Bj (some 9) rfl rfl Tryz.func49 (by kernel_rfl) rfl #[.pointer (some ⟨g, 0, none⟩), .int .i64 (l1.length : Int)] rfl Ya_ ?_; (with_reducible refine (Cj.calls g s0_0 s0_1 s0_2 (l1.length : Int) t122 t123 t124 w0 _ ?side1 ?side2 A3.out).mono ?_); (case side1 => repeat (first | (with_reducible first | exact HI0.out | apply Aj.alloc | apply Aj.drewN | apply Aj.drew | apply Aj.Dv | apply Aj.Du) | exact HI0.out)); (case side2 => repeat (first | (with_reducible first | exact HB.out | apply Ae | apply Aa | apply Ad | refine Am ?_ (Aj.ge HI0.out)) | exact HB.out)); rintro e w6 ⟨rfl, hi, hb, hk⟩; refine ⟨_, rfl, ?_⟩; have n0_ := Ac.mk (A8.trans Yh_ hk (.inl rfl)); have n1_ := Ac.mk (hb); have n2_ := Ac.mk (hi); clear HK; clear HB; clear HI0; have HK := n0_; have HB := n1_; have HI0 := n2_; clear n0_ n1_ n2_; (try clear hb); (try clear hb2); (try clear hk); (try clear hi); have p125 : 0 ≤ (t122 : Int) := of_decide_eq_true Ye_; have q125 : t122 < (l1.length : Int) := of_decide_eq_true Ye_; obtain ⟨ad125, e125, hx125_0⟩ := Kd.at_int HR1.out t122 p125 q125; cases e125; replace hx125_0 := keep_cell HK.out hx125_0 (by first | (rw [add_block]; exact hf1 _ rfl (by omega)) | exact hf1 _ rfl (by omega) | exact hf1 ad125 rfl (by omega)); replace p125 := eq_true p125; replace q125 := eq_true q125))
   go_ret
   exact ⟨by first | rfl | (simp [Au, Aw] <;> rfl) | (simp [*, Au, Aw] <;> rfl), by repeat (first | (with_reducible first | exact HI0.out | apply Aj.alloc | apply Aj.drewN | apply Aj.drew | apply Aj.Dv | apply Aj.Du) | exact HI0.out), by repeat (first | (with_reducible first | exact HB.out | apply Ae | apply Aa | apply Ad | refine Am ?_ (Aj.ge HI0.out)) | exact HB.out), by repeat (first | (with_reducible first | exact HK.out | apply A8.Eo | apply Bq | apply Ce | apply Bv) | exact HK.out)⟩
  ·rw [if_neg c5] at H
   exact absurd H (by simp)
 ·rw [if_neg c4] at H
  exact absurd H (by simp)
def Bh.j0 : Nat → List Int → Int → Int → Int → ByteArray → Int → Int → Option (Int × ByteArray × Int × Int × Int × Int)
 | 0, _, _, _, _, _, _, _ => none
 | k + 1, x1000, x1001, x1002, x134000, x134001, x134002, x134003 => (Cj.f x1000 x1001 x1002 40).bind fun bt161 => (if bt161.1 = 0 then ((Em.f x1000 bt161.2.1 bt161.2.2 (([0, 6, 1, 3] : List Int))).bind fun bt167 => (some (bt167.1, x134001, x134002, x134003, bt167.2.1, bt167.2.2))) else (if bt161.1 = 1 then ((Em.f x1000 bt161.2.1 bt161.2.2 (([(-1), 6, 16, 1000000] : List Int))).bind fun bt173 => (some (x134000, x134001, bt173.1, x134003, bt173.2.1, bt173.2.2))) else (if bt161.1 = 2 then ((Em.f x1000 bt161.2.1 bt161.2.2 (([(-1), 1, 401] : List Int))).bind fun bt179 => (some (x134000, x134001, x134002, bt179.1, bt179.2.1, bt179.2.2))) else (if bt161.1 = 3 then ((Gx.f x1000 bt161.2.1 bt161.2.2 (([(⟨#[]⟩ : ByteArray), (⟨#[65, 66, 67, 48, 48, 48, 49]⟩ : ByteArray), (⟨#[65, 66, 67, 48, 48, 48, 49, 90]⟩ : ByteArray)] : List ByteArray))).bind fun bt185 => (some (x134000, bt185.1, x134002, x134003, bt185.2.1, bt185.2.2))) else (some (x134000, x134001, x134002, x134003, bt161.2.1, bt161.2.2))))))
def Bh.f (k : Nat) (s0_0 : List Int) (s0_1 : Int) (s0_2 : Int) : Option (Int × ByteArray × Int × Int × Int × Int) := (Cj.f s0_0 s0_1 s0_2 5).bind fun bt127 => ((E5.f k s0_0 bt127.2.1 bt127.2.2).bind fun bt130 => (if (wrap64 (1 + bt127.1)) = 1 then ((Cj.f s0_0 bt130.2.1 bt130.2.2 6).bind fun bt134 => (Bh.j0 k s0_0 bt134.2.1 bt134.2.2 (wrap64 (1 + bt127.1)) bt130.1 bt134.1 0)) else (if (wrap64 (1 + bt127.1)) = 2 then ((Cj.f s0_0 bt130.2.1 bt130.2.2 6).bind fun bt137 => ((Cj.f s0_0 bt137.2.1 bt137.2.2 5).bind fun bt140 => (Bh.j0 k s0_0 bt140.2.1 bt140.2.2 (wrap64 (1 + bt127.1)) bt130.1 bt137.1 (Int.tmod (wrap64 ((wrap64 (bt137.1 + 1)) + bt140.1)) 6)))) else (if (wrap64 (1 + bt127.1)) = 3 then ((Cj.f s0_0 bt130.2.1 bt130.2.2 15).bind fun bt143 => (Bh.j0 k s0_0 bt143.2.1 bt143.2.2 (wrap64 (1 + bt127.1)) bt130.1 (wrap64 (1 + bt143.1)) 0)) else (if (wrap64 (1 + bt127.1)) = 4 then ((Cj.f s0_0 bt130.2.1 bt130.2.2 12).bind fun bt146 => (Bh.j0 k s0_0 bt146.2.1 bt146.2.2 (wrap64 (1 + bt127.1)) bt130.1 bt146.1 0)) else ((Em.f s0_0 bt130.2.1 bt130.2.2 (([1, 10, 999, 120000, 999999] : List Int))).bind fun bt152 => ((Em.f s0_0 bt152.2.1 bt152.2.2 (([1, 2, 30, 400] : List Int))).bind fun bt158 => (Bh.j0 k s0_0 bt158.2.1 bt158.2.2 (wrap64 (1 + bt127.1)) bt130.1 bt152.1 bt158.1))))))))
theorem Bh.Fa : ∀ k, (∀ y0 y1 y2 y3 y4 y5 y6, LeO (Bh.j0 k y0 y1 y2 y3 y4 y5 y6) (Bh.j0 (k + 1) y0 y1 y2 y3 y4 y5 y6))
 | 0 => fun _ _ _ _ _ _ _ r h => by simp [Bh.j0] at h
 | k + 1 => by
  have ih0 := Bh.Fa k
  ·intro y0 y1 y2 y3 y4 y5 y6
   unfold Bh.j0
   repeat' first
   | (with_reducible exact ih0 _ _ _ _ _ _ _)
   | (with_reducible exact E5.mono _ _ _ _)
   | (with_reducible exact LeO.refl _)
   | (with_reducible exact LeO.none _)
   | (with_reducible refine LeO.ite ?_ ?_)
   | (with_reducible refine LeO.bind ?_ (fun _ => ?_))
   | exact ih0 _ _ _ _ _ _ _
   | exact E5.mono _ _ _ _
   | exact LeO.none _
   | refine LeO.ite ?_ ?_
   | refine LeO.bind ?_ (fun _ => ?_)
theorem Bh.mono : ∀ a0 a1 a2 k, LeO (Bh.f k a0 a1 a2) (Bh.f (k + 1) a0 a1 a2) := by
 intro a0 a1 a2 k
 have ih0 := Bh.Fa k
 unfold Bh.f
 repeat' first
   | (with_reducible exact ih0 _ _ _ _ _ _ _)
   | (with_reducible exact E5.mono _ _ _ _)
   | (with_reducible exact LeO.refl _)
   | (with_reducible exact LeO.none _)
   | (with_reducible refine LeO.ite ?_ ?_)
   | (with_reducible refine LeO.bind ?_ (fun _ => ?_))
   | exact ih0 _ _ _ _ _ _ _
   | exact E5.mono _ _ _ _
   | exact LeO.none _
   | refine LeO.ite ?_ ?_
   | refine LeO.bind ?_ (fun _ => ?_)
def Bh.T9 : Bool × List (List Nat × List Nat) := (true, [([], []), ([0], [0]), ([1], [1]), ([], []), ([3], [3]), ([2, 4], [2, 4]), ([5], [5]), ([0, 1, 2, 3, 4, 5, 6], []), ([7, 6, 4, 0, 1, 2, 3, 4, 5, 6], [6, 7])])
def Bh.B9 : List Nat := [0, 1, 3, 0, 8, 31, 63, 127, 255]
theorem Bh.tab9 : rtab .any (opsOf Tryz.f27 9) = Bh.T9 := by kernel_rfl
theorem Bh.bits9 : Iz Bh.T9.2 Bh.B9 = true := by kernel_rfl
set_option maxHeartbeats 8000000 in
set_option maxRecDepth 100000 in
theorem Bh.calls (k : Nat) (g : Nat) (s0_0 : List Int) (s0_1 : Int) (s0_2 : Int) (r1 : Int) (r2 : ByteArray) (r3 : Int) (r4 : Int) (r5 : Int) (r6 : Int) (w0 w : World) (hI : Aj w0 w g s0_0 s0_1 s0_2) (hB : Below w0.heap.size w0 w) (h : Bh.f k s0_0 s0_1 s0_2 = some (r1, r2, r3, r4, r5, r6)) :
  Calls Tryz.prog 27 #[.pointer (some ⟨g, 0, none⟩)] w fun e w' => e = .returned (.agg #[.int .i64 r1, .string r2, .int .i64 r3, .int .i64 r4]) ∧ Aj w0 w' g s0_0 r5 r6 ∧ Below w0.heap.size w0 w' ∧ A8 w w' g none := by
 have hu25 := Tryz.underlying25
 have HI0 := Ac.mk hI
 have HK := Ac.mk (A8.refl w g none)
 have HL := Ac.mk hB.size
 clear hI
 have HW0 := Ac.mk hB.size
 have HB := Ac.mk hB
 clear hB
 have H : ((Cj.f s0_0 s0_1 s0_2 5).bind fun bt127 => ((E5.f k s0_0 bt127.2.1 bt127.2.2).bind fun bt130 => (if (wrap64 (1 + bt127.1)) = 1 then ((Cj.f s0_0 bt130.2.1 bt130.2.2 6).bind fun bt134 => (Bh.j0 k s0_0 bt134.2.1 bt134.2.2 (wrap64 (1 + bt127.1)) bt130.1 bt134.1 0)) else (if (wrap64 (1 + bt127.1)) = 2 then ((Cj.f s0_0 bt130.2.1 bt130.2.2 6).bind fun bt137 => ((Cj.f s0_0 bt137.2.1 bt137.2.2 5).bind fun bt140 => (Bh.j0 k s0_0 bt140.2.1 bt140.2.2 (wrap64 (1 + bt127.1)) bt130.1 bt137.1 (Int.tmod (wrap64 ((wrap64 (bt137.1 + 1)) + bt140.1)) 6)))) else (if (wrap64 (1 + bt127.1)) = 3 then ((Cj.f s0_0 bt130.2.1 bt130.2.2 15).bind fun bt143 => (Bh.j0 k s0_0 bt143.2.1 bt143.2.2 (wrap64 (1 + bt127.1)) bt130.1 (wrap64 (1 + bt143.1)) 0)) else (if (wrap64 (1 + bt127.1)) = 4 then ((Cj.f s0_0 bt130.2.1 bt130.2.2 12).bind fun bt146 => (Bh.j0 k s0_0 bt146.2.1 bt146.2.2 (wrap64 (1 + bt127.1)) bt130.1 bt146.1 0)) else ((Em.f s0_0 bt130.2.1 bt130.2.2 (([1, 10, 999, 120000, 999999] : List Int))).bind fun bt152 => ((Em.f s0_0 bt152.2.1 bt152.2.2 (([1, 2, 30, 400] : List Int))).bind fun bt158 => (Bh.j0 k s0_0 bt158.2.1 bt158.2.2 (wrap64 (1 + bt127.1)) bt130.1 bt152.1 bt158.1))))))))) = some (r1, r2, r3, r4, r5, r6) := h
 clear h
 replace H := Option.bind_eq_some_iff.mp H
 obtain ⟨⟨t127, t128, t129⟩, A20, H⟩ := H
 try dsimp only at H
 have A2 := Ac.mk A20
 clear A20
 replace H := Option.bind_eq_some_iff.mp H
 obtain ⟨⟨t130, t131, t132⟩, A30, H⟩ := H
 try dsimp only at H
 have A3 := Ac.mk A30
 clear A30
 have HC4 := Ac.mk H
 clear H
 go_enter Tryz.func27, Tryz.ntmps27
 go_upto_block 0 with (first | ((with_reducible refine Dl (N := 2) rfl ?_); refine Dz ?hg (N := 2) ?hd (cs := #[.int .i64 0, .string (⟨#[]⟩ : ByteArray), .int .i64 0, .int .i64 0]) (t := 25) ?hr ?_; (case hd => rfl); (case hg => rfl); (case hr => first | (go_simp; done) | (go_simp; rfl)); intro gb126 hg w5 hbox hb; have n0_ := Ac.mk (Aj.below Ycj_ hb); have n1_ := Ac.mk (A8.trans Yh_ (A8.of_below hb g none) (.inl rfl)); have n2_ := Ac.mk (Ar Yda_ hb); have n3_ := Ac.mk (hbox); have n4_ := Ac.mk ((by rw [hg]; exact (Gt (w := w) (g := g) (row := none) Yh_) : w.heap.size ≤ gb126)); have n5_ := Ac.mk ((Nat.le_trans HW0.out (by rw [hg]; exact (Gt (w := w) (g := g) (row := none) Yh_) : w.heap.size ≤ gb126) : w0.heap.size ≤ gb126)); have n6_ := Ac.mk ((by rw [hg]; exact Nat.ne_of_lt (Aj.lt (show Aj w0 _ g s0_0 s0_1 s0_2 from by repeat (first | (with_reducible first | exact HI0.out | apply Aj.alloc | apply Aj.drewN | apply Aj.drew | apply Aj.Dv | apply Aj.Du) | exact HI0.out))) : g ≠ gb126)); have n7_ := Ac.mk ((by rw [hg]; exact Nat.ne_of_gt (Aj.lt (show Aj w0 _ g s0_0 s0_1 s0_2 from by repeat (first | (with_reducible first | exact HI0.out | apply Aj.alloc | apply Aj.drewN | apply Aj.drew | apply Aj.Dv | apply Aj.Du) | exact HI0.out))) : gb126 ≠ g)); clear HI0; clear HK; clear HB; have HI0 := n0_; have HK := n1_; have HB := n2_; have BK126 := n3_; have GW126 := n4_; have GE126 := n5_; have NB0_126 := n6_; have NB126_0 := n7_; clear n0_ n1_ n2_ n3_ n4_ n5_ n6_ n7_; clear hb hbox hg) | ((with_reducible refine Ap (f := 49) rfl ?_); refine Bj (some 5) rfl rfl Tryz.func49 (by kernel_rfl) rfl #[.pointer (some ⟨g, 0, none⟩), .int .i64 5] rfl Ya_ ?_; (with_reducible refine (Cj.calls g s0_0 s0_1 s0_2 5 t127 t128 t129 w0 _ ?side1 ?side2 A2.out).mono ?_); (case side1 => repeat (first | (with_reducible first | exact HI0.out | apply Aj.alloc | apply Aj.drewN | apply Aj.drew | apply Aj.Dv | apply Aj.Du | refine Aj.far ?_ NB0_126.out _) | exact HI0.out)); (case side2 => repeat (first | (with_reducible first | exact HB.out | apply Ae | apply Aa | apply Ad | refine Am ?_ (Aj.ge HI0.out) | refine Am ?_ GE126.out) | exact HB.out)); rintro e w6 ⟨rfl, hi, hb, hk⟩; refine ⟨_, rfl, ?_⟩; have n0_ := Ac.mk (A8.blk hk (g' := gb126) (o := .cells #[.int .i64 0, .string (⟨#[]⟩ : ByteArray), .int .i64 0, .int .i64 0] 25 (0, 0)) Ybi_ NB126_0.out (by simp)); have n1_ := Ac.mk (A8.trans Ydf_ hk (.inl rfl)); have n2_ := Ac.mk (hb); have n3_ := Ac.mk (hi); clear BK126; clear HK; clear HB; clear HI0; have BK126 := n0_; have HK := n1_; have HB := n2_; have HI0 := n3_; clear n0_ n1_ n2_ n3_; (try clear hb); (try clear hb2); (try clear hk); (try clear hi)) | ((with_reducible refine Ap (f := 50) rfl ?_); refine Bj (some 8) rfl rfl Tryz.func50 (by kernel_rfl) rfl #[.pointer (some ⟨g, 0, none⟩)] rfl Ya_ ?_; (with_reducible refine (E5.calls k g s0_0 t128 t129 t130 t131 t132 w0 _ ?side1 ?side2 A3.out).mono ?_); (case side1 => repeat (first | (with_reducible first | exact HI0.out | apply Aj.alloc | apply Aj.drewN | apply Aj.drew | apply Aj.Dv | apply Aj.Du | refine Aj.far ?_ NB0_126.out _) | exact HI0.out)); (case side2 => repeat (first | (with_reducible first | exact HB.out | apply Ae | apply Aa | apply Ad | refine Am ?_ (Aj.ge HI0.out) | refine Am ?_ GE126.out) | exact HB.out)); rintro e w7 ⟨rfl, hi, hb, hk⟩; refine ⟨_, rfl, ?_⟩; have n0_ := Ac.mk (A8.blk hk (g' := gb126) (o := .cells #[.int .i64 0, .string (⟨#[]⟩ : ByteArray), .int .i64 0, .int .i64 0] 25 (0, 0)) Ybi_ NB126_0.out (by simp)); have n1_ := Ac.mk (A8.trans Ydf_ hk (.inl rfl)); have n2_ := Ac.mk (hb); have n3_ := Ac.mk (hi); clear BK126; clear HK; clear HB; clear HI0; have BK126 := n0_; have HK := n1_; have HB := n2_; have HI0 := n3_; clear n0_ n1_ n2_ n3_; (try clear hb); (try clear hb2); (try clear hk); (try clear hi)) | ((with_reducible refine Dl (N := 3) rfl ?_); refine Dz ?hg (N := 3) ?hd (cs := #[.int .i64 0, .string (⟨#[]⟩ : ByteArray), .int .i64 0, .int .i64 0]) (t := 25) ?hr ?_; (case hd => rfl); (case hg => rfl); (case hr => first | (go_simp; done) | (go_simp; rfl)); intro gb133 hg w8 hbox hb; have n0_ := Ac.mk (Aj.below (by repeat (first | (with_reducible first | exact HI0.out | apply Aj.alloc | apply Aj.drewN | apply Aj.drew | apply Aj.Dv | apply Aj.Du | refine Aj.far ?_ NB0_126.out _) | exact HI0.out)) hb); have n1_ := Ac.mk (Bi (g := gb126) (o := .cells #[.int .i64 0, .string (⟨#[]⟩ : ByteArray), .int .i64 0, .int .i64 0] 25 (0, 0)) Ybi_ hb); have n2_ := Ac.mk (A8.trans Ydf_ (A8.of_below hb g none) (.inl rfl)); have n3_ := Ac.mk (Ar (by repeat (first | (with_reducible first | exact HB.out | apply Ae | apply Aa | apply Ad | refine Am ?_ (Aj.ge HI0.out) | refine Am ?_ GE126.out) | exact HB.out)) hb); have n4_ := Ac.mk (hbox); have n5_ := Ac.mk ((by rw [hg]; exact (Gt (w := w) (g := g) (row := none) Ydf_) : w.heap.size ≤ gb133)); have n6_ := Ac.mk ((Nat.le_trans HW0.out (by rw [hg]; exact (Gt (w := w) (g := g) (row := none) Ydf_) : w.heap.size ≤ gb133) : w0.heap.size ≤ gb133)); have n7_ := Ac.mk ((by rw [hg]; exact Nat.ne_of_lt (Gl (g := gb126) (o := .cells #[.int .i64 0, .string (⟨#[]⟩ : ByteArray), .int .i64 0, .int .i64 0] 25 (0, 0)) Ybi_) : gb126 ≠ gb133)); have n8_ := Ac.mk ((by rw [hg]; exact Nat.ne_of_gt (Gl (g := gb126) (o := .cells #[.int .i64 0, .string (⟨#[]⟩ : ByteArray), .int .i64 0, .int .i64 0] 25 (0, 0)) Ybi_) : gb133 ≠ gb126)); have n9_ := Ac.mk ((by rw [hg]; exact Nat.ne_of_lt (Aj.lt (show Aj w0 _ g s0_0 t131 t132 from by repeat (first | (with_reducible first | exact HI0.out | apply Aj.alloc | apply Aj.drewN | apply Aj.drew | apply Aj.Dv | apply Aj.Du | refine Aj.far ?_ NB0_126.out _) | exact HI0.out))) : g ≠ gb133)); have n10_ := Ac.mk ((by rw [hg]; exact Nat.ne_of_gt (Aj.lt (show Aj w0 _ g s0_0 t131 t132 from by repeat (first | (with_reducible first | exact HI0.out | apply Aj.alloc | apply Aj.drewN | apply Aj.drew | apply Aj.Dv | apply Aj.Du | refine Aj.far ?_ NB0_126.out _) | exact HI0.out))) : gb133 ≠ g)); clear HI0; clear BK126; clear HK; clear HB; have HI0 := n0_; have BK126 := n1_; have HK := n2_; have HB := n3_; have BK133 := n4_; have GW133 := n5_; have GE133 := n6_; have NB126_133 := n7_; have NB133_126 := n8_; have NB0_133 := n9_; have NB133_0 := n10_; clear n0_ n1_ n2_ n3_ n4_ n5_ n6_ n7_ n8_ n9_ n10_; clear hb hbox hg; have hnb9 := NB133_126.out; have hnc9 := NB126_133.out; have hnb10 := NB133_0.out; have hnc10 := NB0_133.out; have hcz11_0 : w8.cell? ⟨gb133, 0, none⟩ = some (.int .i64 0) := (Ak BK133.out 0).trans rfl; have hcz11_1 : w8.cell? ⟨gb133, 1, none⟩ = some (.string (⟨#[]⟩ : ByteArray)) := (Ak BK133.out 1).trans rfl; have hcz11_2 : w8.cell? ⟨gb133, 2, none⟩ = some (.int .i64 0) := (Ak BK133.out 2).trans rfl; have hcz11_3 : w8.cell? ⟨gb133, 3, none⟩ = some (.int .i64 0) := (Ak BK133.out 3).trans rfl; have hfz11_0 := Ai BK133.out 0; have hfz11_1 := Ai BK133.out 1; have hfz11_2 := Ai BK133.out 2; have hfz11_3 := Ai BK133.out 3))
 (try simp only [Act.put, List.setIfInBounds_toArray, List.set_cons_zero, List.set_cons_succ])
 go_cut [] (fun wc => ∃ (kq : Nat) (x1001_3 : Int) (x1002_3 : Int) (x134002_3 : Int) (x134003_3 : Int), Ac (Bh.j0 kq s0_0 x1001_3 x1002_3 (wrap64 (1 + t127)) t130 x134002_3 x134003_3 = some (r1, r2, r3, r4, r5, r6)) ∧ Ac (kq ≤ k) ∧ Ac (wc.heap[gb126]? = some (.cells #[.int .i64 0, .string (⟨#[]⟩ : ByteArray), .int .i64 0, .int .i64 0] 25 (0, 0))) ∧ Ac (wc.heap[gb133]? = some (.cells #[.int .i64 (wrap64 (1 + t127)), .string t130, .int .i64 x134002_3, .int .i64 x134003_3] 25 (0, 0))) ∧ Ac (Aj w0 wc g s0_0 x1001_3 x1002_3) ∧ Ac (A8 w wc g none) ∧ Ac (Below w0.heap.size w0 wc))
 case first =>
  have H := HC4.out
  clear HC4
  by_cases c12 : (wrap64 (1 + t127)) = 1
  ·rw [if_pos c12] at H
   have c12b0 : ((wrap64 (1 + t127)) == 1) = true := beq_iff_eq.mpr c12
   have c12b1 : ((wrap64 (1 + t127)) != 1) = false := bne_eq_false_iff_eq.mpr c12
   clear c12
   (first | rw [c12b0] | (simp only [Dw, Dy]; rw [c12b0]) | skip)
   replace H := Option.bind_eq_some_iff.mp H
   obtain ⟨⟨t134, t135, t136⟩, A130, H⟩ := H
   try dsimp only at H
   have A13 := Ac.mk A130
   clear A130
   have H' := Ac.mk H
   clear H
   go_wp2_with (first | ((with_reducible refine Ap (f := 49) rfl ?_); refine Bj (some 23) rfl rfl Tryz.func49 (by kernel_rfl) rfl #[.pointer (some ⟨g, 0, none⟩), .int .i64 6] rfl Ya_ ?_; (with_reducible refine (Cj.calls g s0_0 t131 t132 6 t134 t135 t136 w0 _ ?side1 ?side2 A13.out).mono ?_); (case side1 => repeat (first | (with_reducible first | exact HI0.out | apply Aj.alloc | apply Aj.drewN | apply Aj.drew | apply Aj.Dv | apply Aj.Du | refine Aj.far ?_ NB0_126.out _ | refine Aj.far ?_ NB0_133.out _) | exact HI0.out)); (case side2 => repeat (first | (with_reducible first | exact HB.out | apply Ae | apply Aa | apply Ad | refine Am ?_ (Aj.ge HI0.out) | refine Am ?_ GE126.out | refine Am ?_ GE133.out) | exact HB.out)); rintro e w14 ⟨rfl, hi, hb, hk⟩; refine ⟨_, rfl, ?_⟩; have n0_ := Ac.mk (A8.blk hk (g' := gb126) (o := .cells #[.int .i64 0, .string (⟨#[]⟩ : ByteArray), .int .i64 0, .int .i64 0] 25 (0, 0)) Ybh_ NB126_0.out (by simp)); have n1_ := Ac.mk (A8.blk hk (g' := gb133) (o := .cells #[.int .i64 (wrap64 (1 + t127)), .string t130, .int .i64 0, .int .i64 0] 25 (0, 0)) Yi_ NB133_0.out (by simp)); have n2_ := Ac.mk (A8.trans Yg_ hk (.inl rfl)); have n3_ := Ac.mk (hb); have n4_ := Ac.mk (hi); clear BK126; clear BK133; clear HK; clear HB; clear HI0; have BK126 := n0_; have BK133 := n1_; have HK := n2_; have HB := n3_; have HI0 := n4_; clear n0_ n1_ n2_ n3_ n4_; (try clear hb); (try clear hb2); (try clear hk); (try clear hi); have hnb15 := NB133_126.out; have hnc15 := NB126_133.out; have hnb16 := NB133_0.out; have hnc16 := NB0_133.out; have hcz17_0 : w14.cell? ⟨gb133, 0, none⟩ = some (.int .i64 (wrap64 (1 + t127))) := (Ak BK133.out 0).trans rfl; have hcz17_1 : w14.cell? ⟨gb133, 1, none⟩ = some (.string t130) := (Ak BK133.out 1).trans rfl; have hcz17_2 : w14.cell? ⟨gb133, 2, none⟩ = some (.int .i64 0) := (Ak BK133.out 2).trans rfl; have hcz17_3 : w14.cell? ⟨gb133, 3, none⟩ = some (.int .i64 0) := (Ak BK133.out 3).trans rfl; have hfz17_0 := Ai BK133.out 0; have hfz17_1 := Ai BK133.out 1; have hfz17_2 := Ai BK133.out 2; have hfz17_3 := Ai BK133.out 3))
   go_meet
   case rel => exact ⟨_, (t135), (t136), (t134), (0), H', ⟨by first | omega | exact Nat.le_refl _⟩, ⟨by (with_reducible repeat (first | refine Ag ?_ _ | refine Ah ?_ | refine Af ?_ _)); refine Bo ?_ NB126_133.out _; (with_reducible repeat (first | refine Ag ?_ _ | refine Ah ?_ | refine Af ?_ _)); exact BK126.out⟩, ⟨by (with_reducible repeat (first | refine Ag ?_ _ | refine Ah ?_ | refine Af ?_ _)); refine Be (cs := #[.int .i64 (wrap64 (1 + t127)), .string t130, .int .i64 0, .int .i64 0]) ?_ 2 _ rfl; (with_reducible repeat (first | refine Ag ?_ _ | refine Ah ?_ | refine Af ?_ _)); exact BK133.out⟩, ⟨by repeat (first | (with_reducible first | exact HI0.out | apply Aj.alloc | apply Aj.drewN | apply Aj.drew | apply Aj.Dv | apply Aj.Du | refine Aj.far ?_ NB0_126.out _ | refine Aj.far ?_ NB0_133.out _) | exact HI0.out)⟩, ⟨by repeat (first | (with_reducible first | exact HK.out | apply A8.Eo | apply Bq | apply Ce | apply Bv | refine Dk ?_ GW126.out _ | refine Dk ?_ GW133.out _) | exact HK.out)⟩, ⟨by repeat (first | (with_reducible first | exact HB.out | apply Ae | apply Aa | apply Ad | refine Am ?_ (Aj.ge HI0.out) | refine Am ?_ GE126.out | refine Am ?_ GE133.out) | exact HB.out)⟩⟩
  ·rw [if_neg c12] at H
   have c12b0 : ((wrap64 (1 + t127)) == 1) = false := beq_eq_false_iff_ne.mpr c12
   have c12b1 : ((wrap64 (1 + t127)) != 1) = true := bne_iff_ne.mpr c12
   (first | rw [c12b0] | (simp only [Dw, Dy]; rw [c12b0]) | skip)
   by_cases c18 : (wrap64 (1 + t127)) = 2
   ·rw [if_pos c18] at H
    have c18b0 : ((wrap64 (1 + t127)) == 2) = true := beq_iff_eq.mpr c18
    have c18b1 : ((wrap64 (1 + t127)) != 2) = false := bne_eq_false_iff_eq.mpr c18
    clear c18
    replace H := Option.bind_eq_some_iff.mp H
    obtain ⟨⟨t137, t138, t139⟩, A190, H⟩ := H
    try dsimp only at H
    have A19 := Ac.mk A190
    clear A190
    replace H := Option.bind_eq_some_iff.mp H
    obtain ⟨⟨t140, t141, t142⟩, A200, H⟩ := H
    try dsimp only at H
    have A20 := Ac.mk A200
    clear A200
    have H' := Ac.mk H
    clear H
    try go_wp2_with (first | ((with_reducible refine Ap (f := 49) rfl ?_); refine Bj (some 28) rfl rfl Tryz.func49 (by kernel_rfl) rfl #[.pointer (some ⟨g, 0, none⟩), .int .i64 6] rfl Ya_ ?_; (with_reducible refine (Cj.calls g s0_0 t131 t132 6 t137 t138 t139 w0 _ ?side1 ?side2 A19.out).mono ?_); (case side1 => repeat (first | (with_reducible first | exact HI0.out | apply Aj.alloc | apply Aj.drewN | apply Aj.drew | apply Aj.Dv | apply Aj.Du | refine Aj.far ?_ NB0_126.out _ | refine Aj.far ?_ NB0_133.out _) | exact HI0.out)); (case side2 => repeat (first | (with_reducible first | exact HB.out | apply Ae | apply Aa | apply Ad | refine Am ?_ (Aj.ge HI0.out) | refine Am ?_ GE126.out | refine Am ?_ GE133.out) | exact HB.out)); rintro e w21 ⟨rfl, hi, hb, hk⟩; refine ⟨_, rfl, ?_⟩; have n0_ := Ac.mk (A8.blk hk (g' := gb126) (o := .cells #[.int .i64 0, .string (⟨#[]⟩ : ByteArray), .int .i64 0, .int .i64 0] 25 (0, 0)) Ybh_ NB126_0.out (by simp)); have n1_ := Ac.mk (A8.blk hk (g' := gb133) (o := .cells #[.int .i64 (wrap64 (1 + t127)), .string t130, .int .i64 0, .int .i64 0] 25 (0, 0)) Yi_ NB133_0.out (by simp)); have n2_ := Ac.mk (A8.trans Yg_ hk (.inl rfl)); have n3_ := Ac.mk (hb); have n4_ := Ac.mk (hi); clear BK126; clear BK133; clear HK; clear HB; clear HI0; have BK126 := n0_; have BK133 := n1_; have HK := n2_; have HB := n3_; have HI0 := n4_; clear n0_ n1_ n2_ n3_ n4_; (try clear hb); (try clear hb2); (try clear hk); (try clear hi); have hnb22 := NB133_126.out; have hnc22 := NB126_133.out; have hnb23 := NB133_0.out; have hnc23 := NB0_133.out; have hcz24_0 : w21.cell? ⟨gb133, 0, none⟩ = some (.int .i64 (wrap64 (1 + t127))) := (Ak BK133.out 0).trans rfl; have hcz24_1 : w21.cell? ⟨gb133, 1, none⟩ = some (.string t130) := (Ak BK133.out 1).trans rfl; have hcz24_2 : w21.cell? ⟨gb133, 2, none⟩ = some (.int .i64 0) := (Ak BK133.out 2).trans rfl; have hcz24_3 : w21.cell? ⟨gb133, 3, none⟩ = some (.int .i64 0) := (Ak BK133.out 3).trans rfl; have hfz24_0 := Ai BK133.out 0; have hfz24_1 := Ai BK133.out 1; have hfz24_2 := Ai BK133.out 2; have hfz24_3 := Ai BK133.out 3))
    have n0_ : Ac ((w21.setCell ⟨gb133, 2, none⟩ (.int .i64 t137)).heap[gb126]? = some (.cells #[.int .i64 0, .string (⟨#[]⟩ : ByteArray), .int .i64 0, .int .i64 0] 25 (0, 0))) := ⟨by (with_reducible repeat (first | refine Ag ?_ _ | refine Ah ?_ | refine Af ?_ _)); refine Bo ?_ NB126_133.out _; (with_reducible repeat (first | refine Ag ?_ _ | refine Ah ?_ | refine Af ?_ _)); exact BK126.out⟩
    have n1_ : Ac ((w21.setCell ⟨gb133, 2, none⟩ (.int .i64 t137)).heap[gb133]? = some (.cells #[.int .i64 (wrap64 (1 + t127)), .string t130, .int .i64 t137, .int .i64 0] 25 (0, 0))) := ⟨by (with_reducible repeat (first | refine Ag ?_ _ | refine Ah ?_ | refine Af ?_ _)); refine Be (cs := #[.int .i64 (wrap64 (1 + t127)), .string t130, .int .i64 0, .int .i64 0]) ?_ 2 _ rfl; (with_reducible repeat (first | refine Ag ?_ _ | refine Ah ?_ | refine Af ?_ _)); exact BK133.out⟩
    have n2_ : Ac (Aj w0 (w21.setCell ⟨gb133, 2, none⟩ (.int .i64 t137)) g s0_0 t138 t139) := ⟨by repeat (first | (with_reducible first | exact HI0.out | apply Aj.alloc | apply Aj.drewN | apply Aj.drew | apply Aj.Dv | apply Aj.Du | refine Aj.far ?_ NB0_126.out _ | refine Aj.far ?_ NB0_133.out _) | exact HI0.out)⟩
    have n3_ : Ac (A8 w (w21.setCell ⟨gb133, 2, none⟩ (.int .i64 t137)) g none) := ⟨by repeat (first | (with_reducible first | exact HK.out | apply A8.Eo | apply Bq | apply Ce | apply Bv | refine Dk ?_ GW126.out _ | refine Dk ?_ GW133.out _) | exact HK.out)⟩
    have n4_ : Ac (Below w0.heap.size w0 (w21.setCell ⟨gb133, 2, none⟩ (.int .i64 t137))) := ⟨by repeat (first | (with_reducible first | exact HB.out | apply Ae | apply Aa | apply Ad | refine Am ?_ (Aj.ge HI0.out) | refine Am ?_ GE126.out | refine Am ?_ GE133.out) | exact HB.out)⟩
    (try clear BK126)
    (try clear BK133)
    (try clear HI0)
    (try clear HK)
    (try clear HB)
    generalize (w21.setCell ⟨gb133, 2, none⟩ (.int .i64 t137)) = w25 at n0_ n1_ n2_ n3_ n4_ ⊢
    have BK126 := n0_
    have BK133 := n1_
    have HI0 := n2_
    have HK := n3_
    have HB := n4_
    clear n0_ n1_ n2_ n3_ n4_
    have n0_ := Ac.mk (Ah BK126.out)
    have n1_ := Ac.mk (Ah BK133.out)
    have n2_ := Ac.mk (Aj.drew HI0.out)
    have n3_ := Ac.mk (Ce HK.out)
    have n4_ := Ac.mk (Ad HB.out)
    clear BK126
    clear BK133
    clear HI0
    clear HK
    clear HB
    have BK126 := n0_
    have BK133 := n1_
    have HI0 := n2_
    have HK := n3_
    have HB := n4_
    clear n0_ n1_ n2_ n3_ n4_
    refine start_ (n := 9) (S := fun w' => w'.cell? ⟨gb133, 0, none⟩ = some (.int .i64 (wrap64 (1 + t127))) ∧ w'.cell? ⟨gb133, 1, none⟩ = some (.string t130) ∧ w'.cell? ⟨gb133, 2, none⟩ = some (.int .i64 t137) ∧ w'.cell? ⟨gb133, 3, none⟩ = some (.int .i64 0)) (ds := [8]) #[false, false, false, false, false, false, false, false, false] (by kernel_rfl) rfl rfl ⟨(Ak BK133.out 0).trans rfl, (Ak BK133.out 1).trans rfl, (Ak BK133.out 2).trans rfl, (Ak BK133.out 3).trans rfl⟩ (fun hHeld => ?_); refine H9 Bh.tab9 Bh.bits9 (fun HT_ HW_ => ?_)
    generalize w25.drew = w26 at BK126 BK133 HI0 HK HB hHeld ⊢
    refine Fb (i := 0) (N := some 30) (v := ?_) (a' := ?_) #[true, false, false, false, false, false, false, false, false] rfl rfl (Ew HT_.out (by kernel_rfl)) (fun _ _ _ h => h) (Or.inl ⟨by rfl, ?_⟩) ?_ ?_
    rotate_left
    ·intro w'
     go_simp
     with_reducible rfl
    rotate_left
    ·simp only [Act.put, List.setIfInBounds_toArray, List.set_cons_zero, List.set_cons_succ, Dw, Dy]
     rfl
    refine Fb (i := 3) (N := some 33) (v := ?_) (a' := ?_) #[true, false, false, true, false, false, false, false, false] rfl rfl (Ew HT_.out (by kernel_rfl)) (fun _ _ _ h => h) (Or.inl ⟨by rfl, ?_⟩) ?_ ?_
    rotate_left
    ·intro w'
     go_simp
     with_reducible rfl
    rotate_left
    ·simp only [Act.put, List.setIfInBounds_toArray, List.set_cons_zero, List.set_cons_succ, Dw, Dy]
     rfl
    refine He (i := 1) (N := some 31) (v := ?_) (a' := ?_) #[true, true, false, true, false, false, false, false, false] rfl rfl (Gs HT_.out HW_.out (by kernel_rfl)) (fun _ _ _ h => h) (Or.inl ⟨by rfl, ?_⟩) hHeld ?_ ?_
    rotate_left
    ·rintro w' ⟨s0, s1, s2, s3⟩
     go_simp
     with_reducible rfl
    rotate_left
    ·simp only [Act.put, List.setIfInBounds_toArray, List.set_cons_zero, List.set_cons_succ, Dw, Dy]
     rfl
    refine Fb (i := 2) (N := some 32) (v := ?_) (a' := ?_) #[true, true, true, true, false, false, false, false, false] rfl rfl (Ew HT_.out (by kernel_rfl)) (fun _ _ _ h => h) (Or.inl ⟨by rfl, ?_⟩) ?_ ?_
    rotate_left
    ·intro w'
     go_simp
     with_reducible rfl
    rotate_left
    ·simp only [Act.put, List.setIfInBounds_toArray, List.set_cons_zero, List.set_cons_succ, Dw, Dy]
     rfl
    refine one_ (i := 4) (N := some 34) #[true, true, true, true, true, false, false, false, false] rfl rfl (Hg HT_.out (by kernel_rfl)) (by decide) (fun K hK => ?_)
    refine goes_ Tryz.func49 (by kernel_rfl) rfl #[.pointer (some ⟨g, 0, none⟩), .int .i64 5] (by rfl) rfl rfl Ya_ ?_
    with_reducible refine (Cj.calls g s0_0 t138 t139 5 t140 t141 t142 w0 _ ?side1 ?side2 A20.out).mono ?_
    (case side1 => repeat (first | (with_reducible first | exact HI0.out | apply Aj.alloc | apply Aj.drewN | apply Aj.drew | apply Aj.Dv | apply Aj.Du | refine Aj.far ?_ NB0_126.out _ | refine Aj.far ?_ NB0_133.out _) | exact HI0.out))
    (case side2 => repeat (first | (with_reducible first | exact HB.out | apply Ae | apply Aa | apply Ad | refine Am ?_ (Aj.ge HI0.out) | refine Am ?_ GE126.out | refine Am ?_ GE133.out) | exact HB.out))
    rintro e w27 ⟨rfl, hi, hb, hk⟩
    refine ⟨_, rfl, ?_⟩
    have n0_ := Ac.mk (A8.blk hk (g' := gb126) (o := .cells #[.int .i64 0, .string (⟨#[]⟩ : ByteArray), .int .i64 0, .int .i64 0] 25 (0, 0)) Ybi_ NB126_0.out (by simp))
    have n1_ := Ac.mk (A8.blk hk (g' := gb133) (o := .cells #[.int .i64 (wrap64 (1 + t127)), .string t130, .int .i64 t137, .int .i64 0] 25 (0, 0)) Ycd_ NB133_0.out (by simp))
    have n2_ := Ac.mk (A8.trans Yg_ hk (.inl rfl))
    have n3_ := Ac.mk (hb)
    have n4_ := Ac.mk (hi)
    clear BK126
    clear BK133
    clear HK
    clear HB
    clear HI0
    have BK126 := n0_
    have BK133 := n1_
    have HK := n2_
    have HB := n3_
    have HI0 := n4_
    clear n0_ n1_ n2_ n3_ n4_
    (try clear hb)
    (try clear hb2)
    (try clear hk)
    (try clear hi)
    refine hK.out _ _ ⟨(Ak BK133.out 0).trans rfl, (Ak BK133.out 1).trans rfl, (Ak BK133.out 2).trans rfl, (Ak BK133.out 3).trans rfl⟩ (fun hHeld => ?_)
    clear hK K
    refine norm_ (a' := ?_) ?_ ?_
    rotate_left
    ·show Act.put _ (some 34) _ = _
     simp only [Act.put, List.setIfInBounds_toArray, List.set_cons_zero, List.set_cons_succ, Dw, Dy]
     rfl
    refine Fb (i := 5) (N := some 35) (v := ?_) (a' := ?_) #[true, true, true, true, true, true, false, false, false] rfl rfl (Ew HT_.out (by kernel_rfl)) (fun _ _ _ h => h) (Or.inl ⟨by rfl, ?_⟩) ?_ ?_
    rotate_left
    ·intro w'
     go_simp
     with_reducible rfl
    rotate_left
    ·simp only [Act.put, List.setIfInBounds_toArray, List.set_cons_zero, List.set_cons_succ, Dw, Dy]
     rfl
    refine Fb (i := 6) (N := some 36) (v := ?_) (a' := ?_) #[true, true, true, true, true, true, true, false, false] rfl rfl (Ew HT_.out (by kernel_rfl)) (fun _ _ _ h => h) (Or.inl ⟨by rfl, ?_⟩) ?_ ?_
    rotate_left
    ·intro w'
     go_simp
     with_reducible rfl
    rotate_left
    ·simp only [Act.put, List.setIfInBounds_toArray, List.set_cons_zero, List.set_cons_succ, Dw, Dy]
     rfl
    refine Fb (i := 7) (N := some 37) (v := ?_) (a' := ?_) #[true, true, true, true, true, true, true, true, false] rfl rfl (Ew HT_.out (by kernel_rfl)) (fun _ _ _ h => h) (Or.inl ⟨by rfl, ?_⟩) ?_ ?_
    rotate_left
    ·intro w'
     go_simp
     with_reducible rfl
    rotate_left
    ·simp only [Act.put, List.setIfInBounds_toArray, List.set_cons_zero, List.set_cons_succ, Dw, Dy]
     rfl
    refine last_ (i := 8) (N := none) #[true, true, true, true, true, true, true, true, true] rfl rfl (Hg HT_.out (by kernel_rfl)) (by decide) (fun K hK => ?_)
    have hs28 : w27.cell? ⟨gb133, 3, none⟩ = some (.int .i64 0) := (Ak BK133.out 3).trans rfl
    have hfs28 := Ai BK133.out 3
    have hns28_0 := NB126_133.out
    have hms28_0 := NB133_126.out
    refine skip_ (w1 := ?_) (by rfl) rfl ?_ ?_
    rotate_left
    ·go_simp
     rfl
    refine hK.out _ _ ?_
    clear hK K
    refine done_ (Io HT_.out (by kernel_rfl)) ?_
    try go_wp2
    go_meet
    case rel => exact ⟨_, (t141), (t142), (t137), (Int.tmod (wrap64 ((wrap64 (t137 + 1)) + t140)) 6), H', ⟨by first | omega | exact Nat.le_refl _⟩, ⟨by (with_reducible repeat (first | refine Ag ?_ _ | refine Ah ?_ | refine Af ?_ _)); refine Bo ?_ NB126_133.out _; (with_reducible repeat (first | refine Ag ?_ _ | refine Ah ?_ | refine Af ?_ _)); exact BK126.out⟩, ⟨by (with_reducible repeat (first | refine Ag ?_ _ | refine Ah ?_ | refine Af ?_ _)); refine Be (cs := #[.int .i64 (wrap64 (1 + t127)), .string t130, .int .i64 t137, .int .i64 0]) ?_ 3 _ rfl; (with_reducible repeat (first | refine Ag ?_ _ | refine Ah ?_ | refine Af ?_ _)); exact BK133.out⟩, ⟨by repeat (first | (with_reducible first | exact HI0.out | apply Aj.alloc | apply Aj.drewN | apply Aj.drew | apply Aj.Dv | apply Aj.Du | refine Aj.far ?_ NB0_126.out _ | refine Aj.far ?_ NB0_133.out _) | exact HI0.out)⟩, ⟨by repeat (first | (with_reducible first | exact HK.out | apply A8.Eo | apply Bq | apply Ce | apply Bv | refine Dk ?_ GW126.out _ | refine Dk ?_ GW133.out _) | exact HK.out)⟩, ⟨by repeat (first | (with_reducible first | exact HB.out | apply Ae | apply Aa | apply Ad | refine Am ?_ (Aj.ge HI0.out) | refine Am ?_ GE126.out | refine Am ?_ GE133.out) | exact HB.out)⟩⟩
   ·rw [if_neg c18] at H
    have c18b0 : ((wrap64 (1 + t127)) == 2) = false := beq_eq_false_iff_ne.mpr c18
    have c18b1 : ((wrap64 (1 + t127)) != 2) = true := bne_iff_ne.mpr c18
    by_cases c29 : (wrap64 (1 + t127)) = 3
    ·rw [if_pos c29] at H
     have c29b0 : ((wrap64 (1 + t127)) == 3) = true := beq_iff_eq.mpr c29
     have c29b1 : ((wrap64 (1 + t127)) != 3) = false := bne_eq_false_iff_eq.mpr c29
     clear c29
     replace H := Option.bind_eq_some_iff.mp H
     obtain ⟨⟨t143, t144, t145⟩, A300, H⟩ := H
     try dsimp only at H
     have A30 := Ac.mk A300
     clear A300
     have H' := Ac.mk H
     clear H
     go_wp2_with (first | ((with_reducible refine Ap (f := 49) rfl ?_); refine Bj (some 41) rfl rfl Tryz.func49 (by kernel_rfl) rfl #[.pointer (some ⟨g, 0, none⟩), .int .i64 15] rfl Ya_ ?_; (with_reducible refine (Cj.calls g s0_0 t131 t132 15 t143 t144 t145 w0 _ ?side1 ?side2 A30.out).mono ?_); (case side1 => repeat (first | (with_reducible first | exact HI0.out | apply Aj.alloc | apply Aj.drewN | apply Aj.drew | apply Aj.Dv | apply Aj.Du | refine Aj.far ?_ NB0_126.out _ | refine Aj.far ?_ NB0_133.out _) | exact HI0.out)); (case side2 => repeat (first | (with_reducible first | exact HB.out | apply Ae | apply Aa | apply Ad | refine Am ?_ (Aj.ge HI0.out) | refine Am ?_ GE126.out | refine Am ?_ GE133.out) | exact HB.out)); rintro e w31 ⟨rfl, hi, hb, hk⟩; refine ⟨_, rfl, ?_⟩; have n0_ := Ac.mk (A8.blk hk (g' := gb126) (o := .cells #[.int .i64 0, .string (⟨#[]⟩ : ByteArray), .int .i64 0, .int .i64 0] 25 (0, 0)) Ybh_ NB126_0.out (by simp)); have n1_ := Ac.mk (A8.blk hk (g' := gb133) (o := .cells #[.int .i64 (wrap64 (1 + t127)), .string t130, .int .i64 0, .int .i64 0] 25 (0, 0)) Yi_ NB133_0.out (by simp)); have n2_ := Ac.mk (A8.trans Yg_ hk (.inl rfl)); have n3_ := Ac.mk (hb); have n4_ := Ac.mk (hi); clear BK126; clear BK133; clear HK; clear HB; clear HI0; have BK126 := n0_; have BK133 := n1_; have HK := n2_; have HB := n3_; have HI0 := n4_; clear n0_ n1_ n2_ n3_ n4_; (try clear hb); (try clear hb2); (try clear hk); (try clear hi); have hnb32 := NB133_126.out; have hnc32 := NB126_133.out; have hnb33 := NB133_0.out; have hnc33 := NB0_133.out; have hcz34_0 : w31.cell? ⟨gb133, 0, none⟩ = some (.int .i64 (wrap64 (1 + t127))) := (Ak BK133.out 0).trans rfl; have hcz34_1 : w31.cell? ⟨gb133, 1, none⟩ = some (.string t130) := (Ak BK133.out 1).trans rfl; have hcz34_2 : w31.cell? ⟨gb133, 2, none⟩ = some (.int .i64 0) := (Ak BK133.out 2).trans rfl; have hcz34_3 : w31.cell? ⟨gb133, 3, none⟩ = some (.int .i64 0) := (Ak BK133.out 3).trans rfl; have hfz34_0 := Ai BK133.out 0; have hfz34_1 := Ai BK133.out 1; have hfz34_2 := Ai BK133.out 2; have hfz34_3 := Ai BK133.out 3))
     go_meet
     case rel => exact ⟨_, (t144), (t145), (wrap64 (1 + t143)), (0), H', ⟨by first | omega | exact Nat.le_refl _⟩, ⟨by (with_reducible repeat (first | refine Ag ?_ _ | refine Ah ?_ | refine Af ?_ _)); refine Bo ?_ NB126_133.out _; (with_reducible repeat (first | refine Ag ?_ _ | refine Ah ?_ | refine Af ?_ _)); exact BK126.out⟩, ⟨by (with_reducible repeat (first | refine Ag ?_ _ | refine Ah ?_ | refine Af ?_ _)); refine Be (cs := #[.int .i64 (wrap64 (1 + t127)), .string t130, .int .i64 0, .int .i64 0]) ?_ 2 _ rfl; (with_reducible repeat (first | refine Ag ?_ _ | refine Ah ?_ | refine Af ?_ _)); exact BK133.out⟩, ⟨by repeat (first | (with_reducible first | exact HI0.out | apply Aj.alloc | apply Aj.drewN | apply Aj.drew | apply Aj.Dv | apply Aj.Du | refine Aj.far ?_ NB0_126.out _ | refine Aj.far ?_ NB0_133.out _) | exact HI0.out)⟩, ⟨by repeat (first | (with_reducible first | exact HK.out | apply A8.Eo | apply Bq | apply Ce | apply Bv | refine Dk ?_ GW126.out _ | refine Dk ?_ GW133.out _) | exact HK.out)⟩, ⟨by repeat (first | (with_reducible first | exact HB.out | apply Ae | apply Aa | apply Ad | refine Am ?_ (Aj.ge HI0.out) | refine Am ?_ GE126.out | refine Am ?_ GE133.out) | exact HB.out)⟩⟩
    ·rw [if_neg c29] at H
     have c29b0 : ((wrap64 (1 + t127)) == 3) = false := beq_eq_false_iff_ne.mpr c29
     have c29b1 : ((wrap64 (1 + t127)) != 3) = true := bne_iff_ne.mpr c29
     by_cases c35 : (wrap64 (1 + t127)) = 4
     ·rw [if_pos c35] at H
      have c35b0 : ((wrap64 (1 + t127)) == 4) = true := beq_iff_eq.mpr c35
      have c35b1 : ((wrap64 (1 + t127)) != 4) = false := bne_eq_false_iff_eq.mpr c35
      clear c35
      replace H := Option.bind_eq_some_iff.mp H
      obtain ⟨⟨t146, t147, t148⟩, A360, H⟩ := H
      try dsimp only at H
      have A36 := Ac.mk A360
      clear A360
      have H' := Ac.mk H
      clear H
      go_wp2_with (first | ((with_reducible refine Ap (f := 49) rfl ?_); refine Bj (some 47) rfl rfl Tryz.func49 (by kernel_rfl) rfl #[.pointer (some ⟨g, 0, none⟩), .int .i64 12] rfl Ya_ ?_; (with_reducible refine (Cj.calls g s0_0 t131 t132 12 t146 t147 t148 w0 _ ?side1 ?side2 A36.out).mono ?_); (case side1 => repeat (first | (with_reducible first | exact HI0.out | apply Aj.alloc | apply Aj.drewN | apply Aj.drew | apply Aj.Dv | apply Aj.Du | refine Aj.far ?_ NB0_126.out _ | refine Aj.far ?_ NB0_133.out _) | exact HI0.out)); (case side2 => repeat (first | (with_reducible first | exact HB.out | apply Ae | apply Aa | apply Ad | refine Am ?_ (Aj.ge HI0.out) | refine Am ?_ GE126.out | refine Am ?_ GE133.out) | exact HB.out)); rintro e w37 ⟨rfl, hi, hb, hk⟩; refine ⟨_, rfl, ?_⟩; have n0_ := Ac.mk (A8.blk hk (g' := gb126) (o := .cells #[.int .i64 0, .string (⟨#[]⟩ : ByteArray), .int .i64 0, .int .i64 0] 25 (0, 0)) Ybh_ NB126_0.out (by simp)); have n1_ := Ac.mk (A8.blk hk (g' := gb133) (o := .cells #[.int .i64 (wrap64 (1 + t127)), .string t130, .int .i64 0, .int .i64 0] 25 (0, 0)) Yi_ NB133_0.out (by simp)); have n2_ := Ac.mk (A8.trans Yg_ hk (.inl rfl)); have n3_ := Ac.mk (hb); have n4_ := Ac.mk (hi); clear BK126; clear BK133; clear HK; clear HB; clear HI0; have BK126 := n0_; have BK133 := n1_; have HK := n2_; have HB := n3_; have HI0 := n4_; clear n0_ n1_ n2_ n3_ n4_; (try clear hb); (try clear hb2); (try clear hk); (try clear hi); have hnb38 := NB133_126.out; have hnc38 := NB126_133.out; have hnb39 := NB133_0.out; have hnc39 := NB0_133.out; have hcz40_0 : w37.cell? ⟨gb133, 0, none⟩ = some (.int .i64 (wrap64 (1 + t127))) := (Ak BK133.out 0).trans rfl; have hcz40_1 : w37.cell? ⟨gb133, 1, none⟩ = some (.string t130) := (Ak BK133.out 1).trans rfl; have hcz40_2 : w37.cell? ⟨gb133, 2, none⟩ = some (.int .i64 0) := (Ak BK133.out 2).trans rfl; have hcz40_3 : w37.cell? ⟨gb133, 3, none⟩ = some (.int .i64 0) := (Ak BK133.out 3).trans rfl; have hfz40_0 := Ai BK133.out 0; have hfz40_1 := Ai BK133.out 1; have hfz40_2 := Ai BK133.out 2; have hfz40_3 := Ai BK133.out 3))
      go_meet
      case rel => exact ⟨_, (t147), (t148), (t146), (0), H', ⟨by first | omega | exact Nat.le_refl _⟩, ⟨by (with_reducible repeat (first | refine Ag ?_ _ | refine Ah ?_ | refine Af ?_ _)); refine Bo ?_ NB126_133.out _; (with_reducible repeat (first | refine Ag ?_ _ | refine Ah ?_ | refine Af ?_ _)); exact BK126.out⟩, ⟨by (with_reducible repeat (first | refine Ag ?_ _ | refine Ah ?_ | refine Af ?_ _)); refine Be (cs := #[.int .i64 (wrap64 (1 + t127)), .string t130, .int .i64 0, .int .i64 0]) ?_ 2 _ rfl; (with_reducible repeat (first | refine Ag ?_ _ | refine Ah ?_ | refine Af ?_ _)); exact BK133.out⟩, ⟨by repeat (first | (with_reducible first | exact HI0.out | apply Aj.alloc | apply Aj.drewN | apply Aj.drew | apply Aj.Dv | apply Aj.Du | refine Aj.far ?_ NB0_126.out _ | refine Aj.far ?_ NB0_133.out _) | exact HI0.out)⟩, ⟨by repeat (first | (with_reducible first | exact HK.out | apply A8.Eo | apply Bq | apply Ce | apply Bv | refine Dk ?_ GW126.out _ | refine Dk ?_ GW133.out _) | exact HK.out)⟩, ⟨by repeat (first | (with_reducible first | exact HB.out | apply Ae | apply Aa | apply Ad | refine Am ?_ (Aj.ge HI0.out) | refine Am ?_ GE126.out | refine Am ?_ GE133.out) | exact HB.out)⟩⟩
     ·rw [if_neg c35] at H
      have c35b0 : ((wrap64 (1 + t127)) == 4) = false := beq_eq_false_iff_ne.mpr c35
      have c35b1 : ((wrap64 (1 + t127)) != 4) = true := bne_iff_ne.mpr c35
      obtain ⟨y149, hy149⟩ : ∃ y_ : List Int, y_ = (([1, 10, 999, 120000, 999999] : List Int)) := ⟨_, rfl⟩
      replace H : ((Em.f s0_0 t131 t132 y149).bind fun bt152 => ((Em.f s0_0 bt152.2.1 bt152.2.2 (([1, 2, 30, 400] : List Int))).bind fun bt158 => (Bh.j0 k s0_0 bt158.2.1 bt158.2.2 (wrap64 (1 + t127)) t130 bt152.1 bt158.1))) = some (r1, r2, r3, r4, r5, r6) := by first | (rw [hy149]; with_reducible exact H) | (have H2_ := (Option.bind_some _ _).symm.trans H; rw [hy149]; with_reducible exact H2_) | (have H2_ := (Option.bind_some _ _).symm.trans H; with_reducible exact H2_) | with_reducible exact H | (rw [hy149]; exact H) | exact H
      have Ny149 := Ac.mk hy149
      clear hy149
      replace H := Option.bind_eq_some_iff.mp H
      obtain ⟨⟨t152, t153, t154⟩, A410, H⟩ := H
      try dsimp only at H
      have A41 := Ac.mk A410
      clear A410
      obtain ⟨y155, hy155⟩ : ∃ y_ : List Int, y_ = (([1, 2, 30, 400] : List Int)) := ⟨_, rfl⟩
      replace H : ((Em.f s0_0 t153 t154 y155).bind fun bt158 => (Bh.j0 k s0_0 bt158.2.1 bt158.2.2 (wrap64 (1 + t127)) t130 t152 bt158.1)) = some (r1, r2, r3, r4, r5, r6) := by first | (rw [hy155]; with_reducible exact H) | (have H2_ := (Option.bind_some _ _).symm.trans H; rw [hy155]; with_reducible exact H2_) | (have H2_ := (Option.bind_some _ _).symm.trans H; with_reducible exact H2_) | with_reducible exact H | (rw [hy155]; exact H) | exact H
      have Ny155 := Ac.mk hy155
      clear hy155
      replace H := Option.bind_eq_some_iff.mp H
      obtain ⟨⟨t158, t159, t160⟩, A420, H⟩ := H
      try dsimp only at H
      have A42 := Ac.mk A420
      clear A420
      have H' := Ac.mk H
      clear H
      go_wp2_with (first | ((with_reducible refine Dl (N := 13) rfl ?_); refine Kd.Hz (Kd.int .i64) _ 3 ?hg (N := 13) ?hd (xs := ([1, 10, 999, 120000, 999999] : List Int)) (inner := [.int .i64 1, .int .i64 10, .int .i64 999, .int .i64 120000, .int .i64 999999]) (ok := fun _ => True) (okp := fun _ => True) ?hr ?hp (fun _ hk => hk) trivial (Below.refl _ _) (Nat.le_refl _) (by simp) ?_; (case hd => rfl); (case hg => rfl); (case hr => first | (go_simp; done) | (go_simp; rfl)); (case hp => exact (Ed.one (show Kd.M (Kd.int .i64) _ _ _ 1 [.int .i64 1] from rfl) (Ed.one (show Kd.M (Kd.int .i64) _ _ _ 10 [.int .i64 10] from rfl) (Ed.one (show Kd.M (Kd.int .i64) _ _ _ 999 [.int .i64 999] from rfl) (Ed.one (show Kd.M (Kd.int .i64) _ _ _ 120000 [.int .i64 120000] from rfl) (Ed.one (show Kd.M (Kd.int .i64) _ _ _ 999999 [.int .i64 999999] from rfl) (Ed.none _ _))))))); intro v150 w43 ho44 hb hg_ hnew_; clear hg_ hnew_; (first | rw [← Ny149.out] at ho44 | (simp only [Int.reduceToNat] at ho44; rw [← Ny149.out] at ho44)); have n0_ := Ac.mk (Kd.Gg ho44 (Gt (w := w) (g := g) (row := none) Yg_)); have n1_ := Ac.mk (Aj.below (show Aj w0 ((((w8.setCell ⟨gb133, 0, none⟩ (.int .i64 (wrap64 (1 + t127)))).setCell ⟨gb133, 1, none⟩ (.string t130)).setCell ⟨gb133, 2, none⟩ (.int .i64 0)).setCell ⟨gb133, 3, none⟩ (.int .i64 0)) g s0_0 t131 t132 from by repeat (first | (with_reducible first | exact HI0.out | apply Aj.alloc | apply Aj.drewN | apply Aj.drew | apply Aj.Dv | apply Aj.Du | refine Aj.far ?_ NB0_126.out _ | refine Aj.far ?_ NB0_133.out _) | exact HI0.out)) hb); have n2_ := Ac.mk (Bi (g := gb126) (o := .cells #[.int .i64 0, .string (⟨#[]⟩ : ByteArray), .int .i64 0, .int .i64 0] 25 (0, 0)) Ybh_ hb); have n3_ := Ac.mk (Bi (g := gb133) (o := .cells #[.int .i64 (wrap64 (1 + t127)), .string t130, .int .i64 0, .int .i64 0] 25 (0, 0)) Yi_ hb); have n4_ := Ac.mk (A8.trans Yg_ (A8.of_below hb g none) (.inl rfl)); have n5_ := Ac.mk (Ar Ycg_ hb); clear HI0; clear BK126; clear BK133; clear HK; clear HB; have HO151 := n0_; have HI0 := n1_; have BK126 := n2_; have BK133 := n3_; have HK := n4_; have HB := n5_; clear n0_ n1_ n2_ n3_ n4_ n5_; clear hb ho44; obtain ⟨Ao45, co45, eo45⟩ := Kd.Gh HO151.out; subst eo45) | ((with_reducible refine Ap (f := 51) rfl ?_); refine Bj (some 14) rfl rfl Tryz.func51 (by kernel_rfl) rfl #[.pointer (some ⟨g, 0, none⟩), .slice Ao45 y149.length co45] rfl Ya_ ?_; (with_reducible refine (Em.calls g s0_0 t131 t132 _ _ y149 t152 t153 t154 w0 _ ?side1 ?side2 ?side3 ?side4 ?side5 A41.out).mono ?_); (case side1 => repeat (first | (with_reducible first | exact HI0.out | apply Aj.alloc | apply Aj.drewN | apply Aj.drew | apply Aj.Dv | apply Aj.Du | refine Aj.far ?_ NB0_126.out _ | refine Aj.far ?_ NB0_133.out _) | exact HI0.out)); (case side2 => repeat (first | (with_reducible first | exact HB.out | apply Ae | apply Aa | apply Ad | refine Am ?_ (Aj.ge HI0.out) | refine Am ?_ GE126.out | refine Am ?_ GE133.out) | exact HB.out)); (case side3 => repeat (first | exact (Kd.Ec HO151.out).2.2 | (with_reducible refine Kd.F5 ?_ _) | (with_reducible refine Kd.F6 ?_ _) | (with_reducible refine Kd.Gj ?_))); (case side4 => exact (Kd.Ec HO151.out).2.1); (case side5 => exact Ja (Aj.own_ne HI0.out HO151.out (by decide))); rintro e w46 ⟨rfl, hi, hb, hk⟩; refine ⟨_, rfl, ?_⟩; have n0_ := Ac.mk (A8.blk hk (g' := gb126) (o := .cells #[.int .i64 0, .string (⟨#[]⟩ : ByteArray), .int .i64 0, .int .i64 0] 25 (0, 0)) Ybi_ NB126_0.out (by simp)); have n1_ := Ac.mk (A8.blk hk (g' := gb133) (o := .cells #[.int .i64 (wrap64 (1 + t127)), .string t130, .int .i64 0, .int .i64 0] 25 (0, 0)) Ycd_ NB133_0.out (by simp)); have n2_ := Ac.mk (Kd.R_mono (Kd.Hr (Aj.apart (show Aj w0 _ g s0_0 t131 t132 from by repeat (first | (with_reducible first | exact HI0.out | apply Aj.alloc | apply Aj.drewN | apply Aj.drew | apply Aj.Dv | apply Aj.Du | refine Aj.far ?_ NB0_126.out _ | refine Aj.far ?_ NB0_133.out _) | exact HI0.out)) (by (with_reducible repeat (first | apply Kd.Cb | apply Kd.Bz | apply Kd.Cm)); exact HO151.out) (by decide)) hk (fun _ h => h.2)) (fun _ h => h.1)); have n3_ := Ac.mk (A8.trans Yg_ hk (.inl rfl)); have n4_ := Ac.mk (hb); have n5_ := Ac.mk (hi); clear BK126; clear BK133; clear HO151; clear HK; clear HB; clear HI0; have BK126 := n0_; have BK133 := n1_; have HO151 := n2_; have HK := n3_; have HB := n4_; have HI0 := n5_; clear n0_ n1_ n2_ n3_ n4_ n5_; (try clear hb); (try clear hb2); (try clear hk); (try clear hi); have hnb47 := NB133_126.out; have hnc47 := NB126_133.out; have hnb48 := NB133_0.out; have hnc48 := NB0_133.out; have hcz49_0 : w46.cell? ⟨gb133, 0, none⟩ = some (.int .i64 (wrap64 (1 + t127))) := (Ak BK133.out 0).trans rfl; have hcz49_1 : w46.cell? ⟨gb133, 1, none⟩ = some (.string t130) := (Ak BK133.out 1).trans rfl; have hcz49_2 : w46.cell? ⟨gb133, 2, none⟩ = some (.int .i64 0) := (Ak BK133.out 2).trans rfl; have hcz49_3 : w46.cell? ⟨gb133, 3, none⟩ = some (.int .i64 0) := (Ak BK133.out 3).trans rfl; have hfz49_0 := Ai BK133.out 0; have hfz49_1 := Ai BK133.out 1; have hfz49_2 := Ai BK133.out 2; have hfz49_3 := Ai BK133.out 3) | ((with_reducible refine Dl (N := 17) rfl ?_); refine Kd.Hz (Kd.int .i64) _ 3 ?hg (N := 17) ?hd (xs := ([1, 2, 30, 400] : List Int)) (inner := [.int .i64 1, .int .i64 2, .int .i64 30, .int .i64 400]) (ok := fun _ => True) (okp := fun _ => True) ?hr ?hp (fun _ hk => hk) trivial (Below.refl _ _) (Nat.le_refl _) (by simp) ?_; (case hd => rfl); (case hg => rfl); (case hr => first | (go_simp; done) | (go_simp; rfl)); (case hp => exact (Ed.one (show Kd.M (Kd.int .i64) _ _ _ 1 [.int .i64 1] from rfl) (Ed.one (show Kd.M (Kd.int .i64) _ _ _ 2 [.int .i64 2] from rfl) (Ed.one (show Kd.M (Kd.int .i64) _ _ _ 30 [.int .i64 30] from rfl) (Ed.one (show Kd.M (Kd.int .i64) _ _ _ 400 [.int .i64 400] from rfl) (Ed.none _ _)))))); intro v156 w50 ho51 hb hg_ hnew_; clear hg_ hnew_; (first | rw [← Ny155.out] at ho51 | (simp only [Int.reduceToNat] at ho51; rw [← Ny155.out] at ho51)); have n0_ := Ac.mk (Kd.Iq Yec_ (Kd.R_base ho51) hb); have n1_ := Ac.mk (Kd.Gg (Kd.R_new' ho51 (Kd.R_lt Yec_)) (Gt (w := w) (g := g) (row := none) Yg_)); have n2_ := Ac.mk (Aj.below (show Aj w0 (w46.setCell ⟨gb133, 2, none⟩ (.int .i64 t152)) g s0_0 t153 t154 from by repeat (first | (with_reducible first | exact HI0.out | apply Aj.alloc | apply Aj.drewN | apply Aj.drew | apply Aj.Dv | apply Aj.Du | refine Aj.far ?_ NB0_126.out _ | refine Aj.far ?_ NB0_133.out _) | exact HI0.out)) hb); have n3_ := Ac.mk (Bi (g := gb126) (o := .cells #[.int .i64 0, .string (⟨#[]⟩ : ByteArray), .int .i64 0, .int .i64 0] 25 (0, 0)) (by (with_reducible repeat (first | refine Ag ?_ _ | refine Ah ?_ | refine Af ?_ _)); refine Bo ?_ NB126_133.out _; (with_reducible repeat (first | refine Ag ?_ _ | refine Ah ?_ | refine Af ?_ _)); exact BK126.out) hb); have n4_ := Ac.mk (Bi (g := gb133) (o := .cells #[.int .i64 (wrap64 (1 + t127)), .string t130, .int .i64 t152, .int .i64 0] 25 (0, 0)) (by (with_reducible repeat (first | refine Ag ?_ _ | refine Ah ?_ | refine Af ?_ _)); refine Be (cs := #[.int .i64 (wrap64 (1 + t127)), .string t130, .int .i64 0, .int .i64 0]) ?_ 2 _ rfl; (with_reducible repeat (first | refine Ag ?_ _ | refine Ah ?_ | refine Af ?_ _)); exact BK133.out) hb); have n5_ := Ac.mk (A8.trans Yg_ (A8.of_below hb g none) (.inl rfl)); have n6_ := Ac.mk (Ar Ycg_ hb); clear HO151; clear HI0; clear BK126; clear BK133; clear HK; clear HB; have HO151 := n0_; have HO157 := n1_; have HI0 := n2_; have BK126 := n3_; have BK133 := n4_; have HK := n5_; have HB := n6_; clear n0_ n1_ n2_ n3_ n4_ n5_ n6_; clear hb ho51; obtain ⟨Ao52, co52, eo52⟩ := Kd.Gh HO157.out; subst eo52) | ((with_reducible refine Ap (f := 51) rfl ?_); refine Bj (some 18) rfl rfl Tryz.func51 (by kernel_rfl) rfl #[.pointer (some ⟨g, 0, none⟩), .slice Ao52 y155.length co52] rfl Ya_ ?_; (with_reducible refine (Em.calls g s0_0 t153 t154 _ _ y155 t158 t159 t160 w0 _ ?side1 ?side2 ?side3 ?side4 ?side5 A42.out).mono ?_); (case side1 => repeat (first | (with_reducible first | exact HI0.out | apply Aj.alloc | apply Aj.drewN | apply Aj.drew | apply Aj.Dv | apply Aj.Du | refine Aj.far ?_ NB0_126.out _ | refine Aj.far ?_ NB0_133.out _) | exact HI0.out)); (case side2 => repeat (first | (with_reducible first | exact HB.out | apply Ae | apply Aa | apply Ad | refine Am ?_ (Aj.ge HI0.out) | refine Am ?_ GE126.out | refine Am ?_ GE133.out) | exact HB.out)); (case side3 => repeat (first | exact (Kd.Ec HO157.out).2.2 | (with_reducible refine Kd.F5 ?_ _) | (with_reducible refine Kd.F6 ?_ _) | (with_reducible refine Kd.Gj ?_))); (case side4 => exact (Kd.Ec HO157.out).2.1); (case side5 => exact Ja (Aj.own_ne HI0.out HO157.out (by decide))); rintro e w53 ⟨rfl, hi, hb, hk⟩; refine ⟨_, rfl, ?_⟩; have n0_ := Ac.mk (A8.blk hk (g' := gb126) (o := .cells #[.int .i64 0, .string (⟨#[]⟩ : ByteArray), .int .i64 0, .int .i64 0] 25 (0, 0)) Ybi_ NB126_0.out (by simp)); have n1_ := Ac.mk (A8.blk hk (g' := gb133) (o := .cells #[.int .i64 (wrap64 (1 + t127)), .string t130, .int .i64 t152, .int .i64 0] 25 (0, 0)) Ycd_ NB133_0.out (by simp)); have n2_ := Ac.mk (Kd.R_mono (Kd.Hr (Aj.apart (show Aj w0 _ g s0_0 t153 t154 from by repeat (first | (with_reducible first | exact HI0.out | apply Aj.alloc | apply Aj.drewN | apply Aj.drew | apply Aj.Dv | apply Aj.Du | refine Aj.far ?_ NB0_126.out _ | refine Aj.far ?_ NB0_133.out _) | exact HI0.out)) (by (with_reducible repeat (first | apply Kd.Cb | apply Kd.Bz | apply Kd.Cm)); exact HO151.out) (by decide)) hk (fun _ h => h.2)) (fun _ h => h.1)); have n3_ := Ac.mk (Kd.R_mono (Kd.Hr (Aj.apart (show Aj w0 _ g s0_0 t153 t154 from by repeat (first | (with_reducible first | exact HI0.out | apply Aj.alloc | apply Aj.drewN | apply Aj.drew | apply Aj.Dv | apply Aj.Du | refine Aj.far ?_ NB0_126.out _ | refine Aj.far ?_ NB0_133.out _) | exact HI0.out)) (by (with_reducible repeat (first | apply Kd.Cb | apply Kd.Bz | apply Kd.Cm)); exact HO157.out) (by decide)) hk (fun _ h => h.2)) (fun _ h => h.1)); have n4_ := Ac.mk (A8.trans Yg_ hk (.inl rfl)); have n5_ := Ac.mk (hb); have n6_ := Ac.mk (hi); clear BK126; clear BK133; clear HO151; clear HO157; clear HK; clear HB; clear HI0; have BK126 := n0_; have BK133 := n1_; have HO151 := n2_; have HO157 := n3_; have HK := n4_; have HB := n5_; have HI0 := n6_; clear n0_ n1_ n2_ n3_ n4_ n5_ n6_; (try clear hb); (try clear hb2); (try clear hk); (try clear hi); have hcz54_0 : w53.cell? ⟨gb133, 0, none⟩ = some (.int .i64 (wrap64 (1 + t127))) := (Ak BK133.out 0).trans rfl; have hcz54_1 : w53.cell? ⟨gb133, 1, none⟩ = some (.string t130) := (Ak BK133.out 1).trans rfl; have hcz54_2 : w53.cell? ⟨gb133, 2, none⟩ = some (.int .i64 t152) := (Ak BK133.out 2).trans rfl; have hcz54_3 : w53.cell? ⟨gb133, 3, none⟩ = some (.int .i64 0) := (Ak BK133.out 3).trans rfl; have hfz54_0 := Ai BK133.out 0; have hfz54_1 := Ai BK133.out 1; have hfz54_2 := Ai BK133.out 2; have hfz54_3 := Ai BK133.out 3))
      go_meet
      case rel => exact ⟨_, (t159), (t160), (t152), (t158), H', ⟨by first | omega | exact Nat.le_refl _⟩, ⟨by (with_reducible repeat (first | refine Ag ?_ _ | refine Ah ?_ | refine Af ?_ _)); refine Bo ?_ NB126_133.out _; (with_reducible repeat (first | refine Ag ?_ _ | refine Ah ?_ | refine Af ?_ _)); exact BK126.out⟩, ⟨by (with_reducible repeat (first | refine Ag ?_ _ | refine Ah ?_ | refine Af ?_ _)); refine Be (cs := #[.int .i64 (wrap64 (1 + t127)), .string t130, .int .i64 t152, .int .i64 0]) ?_ 3 _ rfl; (with_reducible repeat (first | refine Ag ?_ _ | refine Ah ?_ | refine Af ?_ _)); exact BK133.out⟩, ⟨by repeat (first | (with_reducible first | exact HI0.out | apply Aj.alloc | apply Aj.drewN | apply Aj.drew | apply Aj.Dv | apply Aj.Du | refine Aj.far ?_ NB0_126.out _ | refine Aj.far ?_ NB0_133.out _) | exact HI0.out)⟩, ⟨by repeat (first | (with_reducible first | exact HK.out | apply A8.Eo | apply Bq | apply Ce | apply Bv | refine Dk ?_ GW126.out _ | refine Dk ?_ GW133.out _) | exact HK.out)⟩, ⟨by repeat (first | (with_reducible first | exact HB.out | apply Ae | apply Aa | apply Ad | refine Am ?_ (Aj.ge HI0.out) | refine Am ?_ GE126.out | refine Am ?_ GE133.out) | exact HB.out)⟩⟩
 case rest =>
  clear HC4
  try clear c1; try clear c2; try clear p2; try clear c3; try clear c4; try clear c5; try clear p6; try clear c9; try clear c10; try clear c12; try clear c12b0; try clear c12b1; try clear c15; try clear c16; try clear c18; try clear c18b0; try clear c18b1; try clear c22; try clear c23; try clear c27; try clear c29; try clear c29b0; try clear c29b1; try clear c32; try clear c33; try clear c35; try clear c35b0; try clear c35b1; try clear c38; try clear c39; try clear c47; try clear c48; try clear c49; try clear c50; try clear c51; try clear hcz11_0; try clear hcz11_1; try clear hcz11_2; try clear hcz11_3; try clear hcz17_0; try clear hcz17_1; try clear hcz17_2; try clear hcz17_3; try clear hcz24_0; try clear hcz24_1; try clear hcz24_2; try clear hcz24_3; try clear hcz34_0; try clear hcz34_1; try clear hcz34_2; try clear hcz34_3; try clear hcz40_0; try clear hcz40_1; try clear hcz40_2; try clear hcz40_3; try clear hcz49_0; try clear hcz49_1; try clear hcz49_2; try clear hcz49_3; try clear hcz54_0; try clear hcz54_1; try clear hcz54_2; try clear hcz54_3; try clear hfz11_0; try clear hfz11_1; try clear hfz11_2; try clear hfz11_3; try clear hfz17_0; try clear hfz17_1; try clear hfz17_2; try clear hfz17_3; try clear hfz24_0; try clear hfz24_1; try clear hfz24_2; try clear hfz24_3; try clear hfz34_0; try clear hfz34_1; try clear hfz34_2; try clear hfz34_3; try clear hfz40_0; try clear hfz40_1; try clear hfz40_2; try clear hfz40_3; try clear hfz49_0; try clear hfz49_1; try clear hfz49_2; try clear hfz49_3; try clear hfz54_0; try clear hfz54_1; try clear hfz54_2; try clear hfz54_3
  obtain ⟨kq, x1001_3, x1002_3, x134002_3, x134003_3, HA, HJ3, BK126, BK133, HI0, HK, HB⟩ := hcut
  cases kq with
  | zero => exact absurd HA.out (by simp [Bh.j0])
  | succ kj3 =>
   have H := HA.out
   clear HA
   simp only [Bh.j0] at H
   replace H := Option.bind_eq_some_iff.mp H
   obtain ⟨⟨t161, t162, t163⟩, A550, H⟩ := H
   try dsimp only at H
   have A55 := Ac.mk A550
   clear A550
   by_cases c56 : t161 = 0
   ·rw [if_pos c56] at H
    have c56b0 : (t161 == 0) = true := beq_iff_eq.mpr c56
    have c56b1 : (t161 != 0) = false := bne_eq_false_iff_eq.mpr c56
    clear c56
    obtain ⟨y164, hy164⟩ : ∃ y_ : List Int, y_ = (([0, 6, 1, 3] : List Int)) := ⟨_, rfl⟩
    replace H : ((Em.f s0_0 t162 t163 y164).bind fun bt167 => (some (bt167.1, t130, x134002_3, x134003_3, bt167.2.1, bt167.2.2))) = some (r1, r2, r3, r4, r5, r6) := by first | (rw [hy164]; with_reducible exact H) | (have H2_ := (Option.bind_some _ _).symm.trans H; rw [hy164]; with_reducible exact H2_) | (have H2_ := (Option.bind_some _ _).symm.trans H; with_reducible exact H2_) | with_reducible exact H | (rw [hy164]; exact H) | exact H
    have Ny164 := Ac.mk hy164
    clear hy164
    replace H := Option.bind_eq_some_iff.mp H
    obtain ⟨⟨t167, t168, t169⟩, A570, H⟩ := H
    try dsimp only at H
    have A57 := Ac.mk A570
    clear A570
    simp only [Option.some.injEq, Prod.mk.injEq] at H
    obtain ⟨rfl, rfl, rfl, rfl, rfl, rfl⟩ := H
    go_wp2_with (first | ((with_reducible refine Ap (f := 49) rfl ?_); refine Bj (some 50) rfl rfl Tryz.func49 (by kernel_rfl) rfl #[.pointer (some ⟨g, 0, none⟩), .int .i64 40] rfl Ya_ ?_; (with_reducible refine (Cj.calls g s0_0 x1001_3 x1002_3 40 t161 t162 t163 w0 _ ?side1 ?side2 A55.out).mono ?_); (case side1 => repeat (first | (with_reducible first | exact HI0.out | apply Aj.alloc | apply Aj.drewN | apply Aj.drew | apply Aj.Dv | apply Aj.Du | refine Aj.far ?_ NB0_126.out _ | refine Aj.far ?_ NB0_133.out _) | exact HI0.out)); (case side2 => repeat (first | (with_reducible first | exact HB.out | apply Ae | apply Aa | apply Ad | refine Am ?_ (Aj.ge HI0.out) | refine Am ?_ GE126.out | refine Am ?_ GE133.out) | exact HB.out)); rintro e w58 ⟨rfl, hi, hb, hk⟩; refine ⟨_, rfl, ?_⟩; have n0_ := Ac.mk (A8.blk hk (g' := gb126) (o := .cells #[.int .i64 0, .string (⟨#[]⟩ : ByteArray), .int .i64 0, .int .i64 0] 25 (0, 0)) Ybi_ NB126_0.out (by simp)); have n1_ := Ac.mk (A8.blk hk (g' := gb133) (o := .cells #[.int .i64 (wrap64 (1 + t127)), .string t130, .int .i64 x134002_3, .int .i64 x134003_3] 25 (0, 0)) Ycd_ NB133_0.out (by simp)); have n2_ := Ac.mk (A8.trans Yg_ hk (.inl rfl)); have n3_ := Ac.mk (hb); have n4_ := Ac.mk (hi); clear BK126; clear BK133; clear HK; clear HB; clear HI0; have BK126 := n0_; have BK133 := n1_; have HK := n2_; have HB := n3_; have HI0 := n4_; clear n0_ n1_ n2_ n3_ n4_; (try clear hb); (try clear hb2); (try clear hk); (try clear hi)) | ((with_reducible refine Dl (N := 54) rfl ?_); refine Kd.Hz (Kd.int .i64) _ 3 ?hg (N := 54) ?hd (xs := ([0, 6, 1, 3] : List Int)) (inner := [.int .i64 0, .int .i64 6, .int .i64 1, .int .i64 3]) (ok := fun _ => True) (okp := fun _ => True) ?hr ?hp (fun _ hk => hk) trivial (Below.refl _ _) (Nat.le_refl _) (by simp) ?_; (case hd => rfl); (case hg => rfl); (case hr => first | (go_simp; done) | (go_simp; rfl)); (case hp => exact (Ed.one (show Kd.M (Kd.int .i64) _ _ _ 0 [.int .i64 0] from rfl) (Ed.one (show Kd.M (Kd.int .i64) _ _ _ 6 [.int .i64 6] from rfl) (Ed.one (show Kd.M (Kd.int .i64) _ _ _ 1 [.int .i64 1] from rfl) (Ed.one (show Kd.M (Kd.int .i64) _ _ _ 3 [.int .i64 3] from rfl) (Ed.none _ _)))))); intro v165 w59 ho60 hb hg_ hnew_; clear hg_ hnew_; (first | rw [← Ny164.out] at ho60 | (simp only [Int.reduceToNat] at ho60; rw [← Ny164.out] at ho60)); have n0_ := Ac.mk (Kd.Gg ho60 (Gt (w := w) (g := g) (row := none) Yg_)); have n1_ := Ac.mk (Bi (g := gb126) (o := .cells #[.int .i64 0, .string (⟨#[]⟩ : ByteArray), .int .i64 0, .int .i64 0] 25 (0, 0)) Ybi_ hb); have n2_ := Ac.mk (Bi (g := gb133) (o := .cells #[.int .i64 (wrap64 (1 + t127)), .string t130, .int .i64 x134002_3, .int .i64 x134003_3] 25 (0, 0)) Ycd_ hb); have n3_ := Ac.mk (Aj.below Ydb_ hb); have n4_ := Ac.mk (A8.trans Yg_ (A8.of_below hb g none) (.inl rfl)); have n5_ := Ac.mk (Ar Ycg_ hb); clear BK126; clear BK133; clear HI0; clear HK; clear HB; have HO166 := n0_; have BK126 := n1_; have BK133 := n2_; have HI0 := n3_; have HK := n4_; have HB := n5_; clear n0_ n1_ n2_ n3_ n4_ n5_; clear hb ho60; obtain ⟨Ao61, co61, eo61⟩ := Kd.Gh HO166.out; subst eo61) | ((with_reducible refine Ap (f := 51) rfl ?_); refine Bj (some 55) rfl rfl Tryz.func51 (by kernel_rfl) rfl #[.pointer (some ⟨g, 0, none⟩), .slice Ao61 y164.length co61] rfl Ya_ ?_; (with_reducible refine (Em.calls g s0_0 t162 t163 _ _ y164 t167 t168 t169 w0 _ ?side1 ?side2 ?side3 ?side4 ?side5 A57.out).mono ?_); (case side1 => repeat (first | (with_reducible first | exact HI0.out | apply Aj.alloc | apply Aj.drewN | apply Aj.drew | apply Aj.Dv | apply Aj.Du | refine Aj.far ?_ NB0_126.out _ | refine Aj.far ?_ NB0_133.out _) | exact HI0.out)); (case side2 => repeat (first | (with_reducible first | exact HB.out | apply Ae | apply Aa | apply Ad | refine Am ?_ (Aj.ge HI0.out) | refine Am ?_ GE126.out | refine Am ?_ GE133.out) | exact HB.out)); (case side3 => repeat (first | exact (Kd.Ec HO166.out).2.2 | (with_reducible refine Kd.F5 ?_ _) | (with_reducible refine Kd.F6 ?_ _) | (with_reducible refine Kd.Gj ?_))); (case side4 => exact (Kd.Ec HO166.out).2.1); (case side5 => exact Ja (Aj.own_ne HI0.out HO166.out (by decide))); rintro e w62 ⟨rfl, hi, hb, hk⟩; refine ⟨_, rfl, ?_⟩; have n0_ := Ac.mk (A8.blk hk (g' := gb126) (o := .cells #[.int .i64 0, .string (⟨#[]⟩ : ByteArray), .int .i64 0, .int .i64 0] 25 (0, 0)) Ybi_ NB126_0.out (by simp)); have n1_ := Ac.mk (A8.blk hk (g' := gb133) (o := .cells #[.int .i64 (wrap64 (1 + t127)), .string t130, .int .i64 x134002_3, .int .i64 x134003_3] 25 (0, 0)) Ycd_ NB133_0.out (by simp)); have n2_ := Ac.mk (Kd.R_mono (Kd.Hr (Aj.apart (show Aj w0 _ g s0_0 t162 t163 from by repeat (first | (with_reducible first | exact HI0.out | apply Aj.alloc | apply Aj.drewN | apply Aj.drew | apply Aj.Dv | apply Aj.Du | refine Aj.far ?_ NB0_126.out _ | refine Aj.far ?_ NB0_133.out _) | exact HI0.out)) (by (with_reducible repeat (first | apply Kd.Cb | apply Kd.Bz | apply Kd.Cm)); exact HO166.out) (by decide)) hk (fun _ h => h.2)) (fun _ h => h.1)); have n3_ := Ac.mk (A8.trans Yg_ hk (.inl rfl)); have n4_ := Ac.mk (hb); have n5_ := Ac.mk (hi); clear BK126; clear BK133; clear HO166; clear HK; clear HB; clear HI0; have BK126 := n0_; have BK133 := n1_; have HO166 := n2_; have HK := n3_; have HB := n4_; have HI0 := n5_; clear n0_ n1_ n2_ n3_ n4_ n5_; (try clear hb); (try clear hb2); (try clear hk); (try clear hi); have hnb63 := NB133_126.out; have hnc63 := NB126_133.out; have hnb64 := NB133_0.out; have hnc64 := NB0_133.out; have hcz65_0 : w62.cell? ⟨gb133, 0, none⟩ = some (.int .i64 (wrap64 (1 + t127))) := (Ak BK133.out 0).trans rfl; have hcz65_1 : w62.cell? ⟨gb133, 1, none⟩ = some (.string t130) := (Ak BK133.out 1).trans rfl; have hcz65_2 : w62.cell? ⟨gb133, 2, none⟩ = some (.int .i64 x134002_3) := (Ak BK133.out 2).trans rfl; have hcz65_3 : w62.cell? ⟨gb133, 3, none⟩ = some (.int .i64 x134003_3) := (Ak BK133.out 3).trans rfl; have hfz65_0 := Ai BK133.out 0; have hfz65_1 := Ai BK133.out 1; have hfz65_2 := Ai BK133.out 2; have hfz65_3 := Ai BK133.out 3; have hnb66 := NB126_0.out; have hnc66 := NB0_126.out; have hcz67_0 : w62.cell? ⟨gb126, 0, none⟩ = some (.int .i64 0) := (Ak BK126.out 0).trans rfl; have hcz67_1 : w62.cell? ⟨gb126, 1, none⟩ = some (.string (⟨#[]⟩ : ByteArray)) := (Ak BK126.out 1).trans rfl; have hcz67_2 : w62.cell? ⟨gb126, 2, none⟩ = some (.int .i64 0) := (Ak BK126.out 2).trans rfl; have hcz67_3 : w62.cell? ⟨gb126, 3, none⟩ = some (.int .i64 0) := (Ak BK126.out 3).trans rfl; have hfz67_0 := Ai BK126.out 0; have hfz67_1 := Ai BK126.out 1; have hfz67_2 := Ai BK126.out 2; have hfz67_3 := Ai BK126.out 3))
    refine bodyPost_ret (results_cell_row rfl _ _ gb126 25 #[.int .i64 t167, .string t130, .int .i64 x134002_3, .int .i64 x134003_3] (0, 0) _ rfl (by (with_reducible repeat (first | refine Ag ?_ _ | refine Ah ?_ | refine Af ?_ _)); refine Be (cs := #[.int .i64 t167, .string t130, .int .i64 x134002_3, .int .i64 0]) ?_ 3 _ rfl; (with_reducible repeat (first | refine Ag ?_ _ | refine Ah ?_ | refine Af ?_ _)); refine Be (cs := #[.int .i64 t167, .string t130, .int .i64 0, .int .i64 0]) ?_ 2 _ rfl; (with_reducible repeat (first | refine Ag ?_ _ | refine Ah ?_ | refine Af ?_ _)); refine Be (cs := #[.int .i64 t167, .string (⟨#[]⟩ : ByteArray), .int .i64 0, .int .i64 0]) ?_ 1 _ rfl; (with_reducible repeat (first | refine Ag ?_ _ | refine Ah ?_ | refine Af ?_ _)); refine Be (cs := #[.int .i64 0, .string (⟨#[]⟩ : ByteArray), .int .i64 0, .int .i64 0]) ?_ 0 _ rfl; (with_reducible repeat (first | refine Ag ?_ _ | refine Ah ?_ | refine Af ?_ _)); refine Bo ?_ NB126_133.out _; (with_reducible repeat (first | refine Ag ?_ _ | refine Ah ?_ | refine Af ?_ _)); exact BK126.out) Tryz.underlying25 rfl (by kernel_rfl)) rfl ?_
    exact ⟨by first | rfl | (simp [Au, Aw] <;> rfl) | (simp [*, Au, Aw] <;> rfl), by repeat (first | (with_reducible first | exact HI0.out | apply Aj.alloc | apply Aj.drewN | apply Aj.drew | apply Aj.Dv | apply Aj.Du | refine Aj.far ?_ NB0_126.out _ | refine Aj.far ?_ NB0_133.out _) | exact HI0.out), by repeat (first | (with_reducible first | exact HB.out | apply Ae | apply Aa | apply Ad | refine Am ?_ (Aj.ge HI0.out) | refine Am ?_ GE126.out | refine Am ?_ GE133.out) | exact HB.out), by repeat (first | (with_reducible first | exact HK.out | apply A8.Eo | apply Bq | apply Ce | apply Bv | refine Dk ?_ GW126.out _ | refine Dk ?_ GW133.out _) | exact HK.out)⟩
   ·rw [if_neg c56] at H
    have c56b0 : (t161 == 0) = false := beq_eq_false_iff_ne.mpr c56
    have c56b1 : (t161 != 0) = true := bne_iff_ne.mpr c56
    by_cases c68 : t161 = 1
    ·rw [if_pos c68] at H
     have c68b0 : (t161 == 1) = true := beq_iff_eq.mpr c68
     have c68b1 : (t161 != 1) = false := bne_eq_false_iff_eq.mpr c68
     clear c68
     obtain ⟨y170, hy170⟩ : ∃ y_ : List Int, y_ = (([(-1), 6, 16, 1000000] : List Int)) := ⟨_, rfl⟩
     replace H : ((Em.f s0_0 t162 t163 y170).bind fun bt173 => (some ((wrap64 (1 + t127)), t130, bt173.1, x134003_3, bt173.2.1, bt173.2.2))) = some (r1, r2, r3, r4, r5, r6) := by first | (rw [hy170]; with_reducible exact H) | (have H2_ := (Option.bind_some _ _).symm.trans H; rw [hy170]; with_reducible exact H2_) | (have H2_ := (Option.bind_some _ _).symm.trans H; with_reducible exact H2_) | with_reducible exact H | (rw [hy170]; exact H) | exact H
     have Ny170 := Ac.mk hy170
     clear hy170
     replace H := Option.bind_eq_some_iff.mp H
     obtain ⟨⟨t173, t174, t175⟩, A690, H⟩ := H
     try dsimp only at H
     have A69 := Ac.mk A690
     clear A690
     simp only [Option.some.injEq, Prod.mk.injEq] at H
     obtain ⟨rfl, rfl, rfl, rfl, rfl, rfl⟩ := H
     go_wp2_with (first | ((with_reducible refine Ap (f := 49) rfl ?_); refine Bj (some 50) rfl rfl Tryz.func49 (by kernel_rfl) rfl #[.pointer (some ⟨g, 0, none⟩), .int .i64 40] rfl Ya_ ?_; (with_reducible refine (Cj.calls g s0_0 x1001_3 x1002_3 40 t161 t162 t163 w0 _ ?side1 ?side2 A55.out).mono ?_); (case side1 => repeat (first | (with_reducible first | exact HI0.out | apply Aj.alloc | apply Aj.drewN | apply Aj.drew | apply Aj.Dv | apply Aj.Du | refine Aj.far ?_ NB0_126.out _ | refine Aj.far ?_ NB0_133.out _) | exact HI0.out)); (case side2 => repeat (first | (with_reducible first | exact HB.out | apply Ae | apply Aa | apply Ad | refine Am ?_ (Aj.ge HI0.out) | refine Am ?_ GE126.out | refine Am ?_ GE133.out) | exact HB.out)); rintro e w70 ⟨rfl, hi, hb, hk⟩; refine ⟨_, rfl, ?_⟩; have n0_ := Ac.mk (A8.blk hk (g' := gb126) (o := .cells #[.int .i64 0, .string (⟨#[]⟩ : ByteArray), .int .i64 0, .int .i64 0] 25 (0, 0)) Ybi_ NB126_0.out (by simp)); have n1_ := Ac.mk (A8.blk hk (g' := gb133) (o := .cells #[.int .i64 (wrap64 (1 + t127)), .string t130, .int .i64 x134002_3, .int .i64 x134003_3] 25 (0, 0)) Ycd_ NB133_0.out (by simp)); have n2_ := Ac.mk (A8.trans Yg_ hk (.inl rfl)); have n3_ := Ac.mk (hb); have n4_ := Ac.mk (hi); clear BK126; clear BK133; clear HK; clear HB; clear HI0; have BK126 := n0_; have BK133 := n1_; have HK := n2_; have HB := n3_; have HI0 := n4_; clear n0_ n1_ n2_ n3_ n4_; (try clear hb); (try clear hb2); (try clear hk); (try clear hi)) | ((with_reducible refine Dl (N := 60) rfl ?_); refine Kd.Hz (Kd.int .i64) _ 3 ?hg (N := 60) ?hd (xs := ([(-1), 6, 16, 1000000] : List Int)) (inner := [.int .i64 (-1), .int .i64 6, .int .i64 16, .int .i64 1000000]) (ok := fun _ => True) (okp := fun _ => True) ?hr ?hp (fun _ hk => hk) trivial (Below.refl _ _) (Nat.le_refl _) (by simp) ?_; (case hd => rfl); (case hg => rfl); (case hr => first | (go_simp; done) | (go_simp; rfl)); (case hp => exact (Ed.one (show Kd.M (Kd.int .i64) _ _ _ (-1) [.int .i64 (-1)] from rfl) (Ed.one (show Kd.M (Kd.int .i64) _ _ _ 6 [.int .i64 6] from rfl) (Ed.one (show Kd.M (Kd.int .i64) _ _ _ 16 [.int .i64 16] from rfl) (Ed.one (show Kd.M (Kd.int .i64) _ _ _ 1000000 [.int .i64 1000000] from rfl) (Ed.none _ _)))))); intro v171 w71 ho72 hb hg_ hnew_; clear hg_ hnew_; (first | rw [← Ny170.out] at ho72 | (simp only [Int.reduceToNat] at ho72; rw [← Ny170.out] at ho72)); have n0_ := Ac.mk (Kd.Gg ho72 (Gt (w := w) (g := g) (row := none) Yg_)); have n1_ := Ac.mk (Bi (g := gb126) (o := .cells #[.int .i64 0, .string (⟨#[]⟩ : ByteArray), .int .i64 0, .int .i64 0] 25 (0, 0)) Ybi_ hb); have n2_ := Ac.mk (Bi (g := gb133) (o := .cells #[.int .i64 (wrap64 (1 + t127)), .string t130, .int .i64 x134002_3, .int .i64 x134003_3] 25 (0, 0)) Ycd_ hb); have n3_ := Ac.mk (Aj.below Ydb_ hb); have n4_ := Ac.mk (A8.trans Yg_ (A8.of_below hb g none) (.inl rfl)); have n5_ := Ac.mk (Ar Ycg_ hb); clear BK126; clear BK133; clear HI0; clear HK; clear HB; have HO172 := n0_; have BK126 := n1_; have BK133 := n2_; have HI0 := n3_; have HK := n4_; have HB := n5_; clear n0_ n1_ n2_ n3_ n4_ n5_; clear hb ho72; obtain ⟨Ao73, co73, eo73⟩ := Kd.Gh HO172.out; subst eo73) | ((with_reducible refine Ap (f := 51) rfl ?_); refine Bj (some 61) rfl rfl Tryz.func51 (by kernel_rfl) rfl #[.pointer (some ⟨g, 0, none⟩), .slice Ao73 y170.length co73] rfl Ya_ ?_; (with_reducible refine (Em.calls g s0_0 t162 t163 _ _ y170 t173 t174 t175 w0 _ ?side1 ?side2 ?side3 ?side4 ?side5 A69.out).mono ?_); (case side1 => repeat (first | (with_reducible first | exact HI0.out | apply Aj.alloc | apply Aj.drewN | apply Aj.drew | apply Aj.Dv | apply Aj.Du | refine Aj.far ?_ NB0_126.out _ | refine Aj.far ?_ NB0_133.out _) | exact HI0.out)); (case side2 => repeat (first | (with_reducible first | exact HB.out | apply Ae | apply Aa | apply Ad | refine Am ?_ (Aj.ge HI0.out) | refine Am ?_ GE126.out | refine Am ?_ GE133.out) | exact HB.out)); (case side3 => repeat (first | exact (Kd.Ec HO172.out).2.2 | (with_reducible refine Kd.F5 ?_ _) | (with_reducible refine Kd.F6 ?_ _) | (with_reducible refine Kd.Gj ?_))); (case side4 => exact (Kd.Ec HO172.out).2.1); (case side5 => exact Ja (Aj.own_ne HI0.out HO172.out (by decide))); rintro e w74 ⟨rfl, hi, hb, hk⟩; refine ⟨_, rfl, ?_⟩; have n0_ := Ac.mk (A8.blk hk (g' := gb126) (o := .cells #[.int .i64 0, .string (⟨#[]⟩ : ByteArray), .int .i64 0, .int .i64 0] 25 (0, 0)) Ybi_ NB126_0.out (by simp)); have n1_ := Ac.mk (A8.blk hk (g' := gb133) (o := .cells #[.int .i64 (wrap64 (1 + t127)), .string t130, .int .i64 x134002_3, .int .i64 x134003_3] 25 (0, 0)) Ycd_ NB133_0.out (by simp)); have n2_ := Ac.mk (Kd.R_mono (Kd.Hr (Aj.apart (show Aj w0 _ g s0_0 t162 t163 from by repeat (first | (with_reducible first | exact HI0.out | apply Aj.alloc | apply Aj.drewN | apply Aj.drew | apply Aj.Dv | apply Aj.Du | refine Aj.far ?_ NB0_126.out _ | refine Aj.far ?_ NB0_133.out _) | exact HI0.out)) (by (with_reducible repeat (first | apply Kd.Cb | apply Kd.Bz | apply Kd.Cm)); exact HO172.out) (by decide)) hk (fun _ h => h.2)) (fun _ h => h.1)); have n3_ := Ac.mk (A8.trans Yg_ hk (.inl rfl)); have n4_ := Ac.mk (hb); have n5_ := Ac.mk (hi); clear BK126; clear BK133; clear HO172; clear HK; clear HB; clear HI0; have BK126 := n0_; have BK133 := n1_; have HO172 := n2_; have HK := n3_; have HB := n4_; have HI0 := n5_; clear n0_ n1_ n2_ n3_ n4_ n5_; (try clear hb); (try clear hb2); (try clear hk); (try clear hi); have hnb75 := NB133_126.out; have hnc75 := NB126_133.out; have hnb76 := NB133_0.out; have hnc76 := NB0_133.out; have hcz77_0 : w74.cell? ⟨gb133, 0, none⟩ = some (.int .i64 (wrap64 (1 + t127))) := (Ak BK133.out 0).trans rfl; have hcz77_1 : w74.cell? ⟨gb133, 1, none⟩ = some (.string t130) := (Ak BK133.out 1).trans rfl; have hcz77_2 : w74.cell? ⟨gb133, 2, none⟩ = some (.int .i64 x134002_3) := (Ak BK133.out 2).trans rfl; have hcz77_3 : w74.cell? ⟨gb133, 3, none⟩ = some (.int .i64 x134003_3) := (Ak BK133.out 3).trans rfl; have hfz77_0 := Ai BK133.out 0; have hfz77_1 := Ai BK133.out 1; have hfz77_2 := Ai BK133.out 2; have hfz77_3 := Ai BK133.out 3; have hnb78 := NB126_0.out; have hnc78 := NB0_126.out; have hcz79_0 : w74.cell? ⟨gb126, 0, none⟩ = some (.int .i64 0) := (Ak BK126.out 0).trans rfl; have hcz79_1 : w74.cell? ⟨gb126, 1, none⟩ = some (.string (⟨#[]⟩ : ByteArray)) := (Ak BK126.out 1).trans rfl; have hcz79_2 : w74.cell? ⟨gb126, 2, none⟩ = some (.int .i64 0) := (Ak BK126.out 2).trans rfl; have hcz79_3 : w74.cell? ⟨gb126, 3, none⟩ = some (.int .i64 0) := (Ak BK126.out 3).trans rfl; have hfz79_0 := Ai BK126.out 0; have hfz79_1 := Ai BK126.out 1; have hfz79_2 := Ai BK126.out 2; have hfz79_3 := Ai BK126.out 3))
     refine bodyPost_ret (results_cell_row rfl _ _ gb126 25 #[.int .i64 (wrap64 (1 + t127)), .string t130, .int .i64 t173, .int .i64 x134003_3] (0, 0) _ rfl (by (with_reducible repeat (first | refine Ag ?_ _ | refine Ah ?_ | refine Af ?_ _)); refine Be (cs := #[.int .i64 (wrap64 (1 + t127)), .string t130, .int .i64 t173, .int .i64 0]) ?_ 3 _ rfl; (with_reducible repeat (first | refine Ag ?_ _ | refine Ah ?_ | refine Af ?_ _)); refine Be (cs := #[.int .i64 (wrap64 (1 + t127)), .string t130, .int .i64 0, .int .i64 0]) ?_ 2 _ rfl; (with_reducible repeat (first | refine Ag ?_ _ | refine Ah ?_ | refine Af ?_ _)); refine Be (cs := #[.int .i64 (wrap64 (1 + t127)), .string (⟨#[]⟩ : ByteArray), .int .i64 0, .int .i64 0]) ?_ 1 _ rfl; (with_reducible repeat (first | refine Ag ?_ _ | refine Ah ?_ | refine Af ?_ _)); refine Be (cs := #[.int .i64 0, .string (⟨#[]⟩ : ByteArray), .int .i64 0, .int .i64 0]) ?_ 0 _ rfl; (with_reducible repeat (first | refine Ag ?_ _ | refine Ah ?_ | refine Af ?_ _)); refine Bo ?_ NB126_133.out _; (with_reducible repeat (first | refine Ag ?_ _ | refine Ah ?_ | refine Af ?_ _)); exact BK126.out) Tryz.underlying25 rfl (by kernel_rfl)) rfl ?_
     exact ⟨by first | rfl | (simp [Au, Aw] <;> rfl) | (simp [*, Au, Aw] <;> rfl), by repeat (first | (with_reducible first | exact HI0.out | apply Aj.alloc | apply Aj.drewN | apply Aj.drew | apply Aj.Dv | apply Aj.Du | refine Aj.far ?_ NB0_126.out _ | refine Aj.far ?_ NB0_133.out _) | exact HI0.out), by repeat (first | (with_reducible first | exact HB.out | apply Ae | apply Aa | apply Ad | refine Am ?_ (Aj.ge HI0.out) | refine Am ?_ GE126.out | refine Am ?_ GE133.out) | exact HB.out), by repeat (first | (with_reducible first | exact HK.out | apply A8.Eo | apply Bq | apply Ce | apply Bv | refine Dk ?_ GW126.out _ | refine Dk ?_ GW133.out _) | exact HK.out)⟩
    ·rw [if_neg c68] at H
     have c68b0 : (t161 == 1) = false := beq_eq_false_iff_ne.mpr c68
     have c68b1 : (t161 != 1) = true := bne_iff_ne.mpr c68
     by_cases c80 : t161 = 2
     ·rw [if_pos c80] at H
      have c80b0 : (t161 == 2) = true := beq_iff_eq.mpr c80
      have c80b1 : (t161 != 2) = false := bne_eq_false_iff_eq.mpr c80
      clear c80
      obtain ⟨y176, hy176⟩ : ∃ y_ : List Int, y_ = (([(-1), 1, 401] : List Int)) := ⟨_, rfl⟩
      replace H : ((Em.f s0_0 t162 t163 y176).bind fun bt179 => (some ((wrap64 (1 + t127)), t130, x134002_3, bt179.1, bt179.2.1, bt179.2.2))) = some (r1, r2, r3, r4, r5, r6) := by first | (rw [hy176]; with_reducible exact H) | (have H2_ := (Option.bind_some _ _).symm.trans H; rw [hy176]; with_reducible exact H2_) | (have H2_ := (Option.bind_some _ _).symm.trans H; with_reducible exact H2_) | with_reducible exact H | (rw [hy176]; exact H) | exact H
      have Ny176 := Ac.mk hy176
      clear hy176
      replace H := Option.bind_eq_some_iff.mp H
      obtain ⟨⟨t179, t180, t181⟩, A810, H⟩ := H
      try dsimp only at H
      have A81 := Ac.mk A810
      clear A810
      simp only [Option.some.injEq, Prod.mk.injEq] at H
      obtain ⟨rfl, rfl, rfl, rfl, rfl, rfl⟩ := H
      go_wp2_with (first | ((with_reducible refine Ap (f := 49) rfl ?_); refine Bj (some 50) rfl rfl Tryz.func49 (by kernel_rfl) rfl #[.pointer (some ⟨g, 0, none⟩), .int .i64 40] rfl Ya_ ?_; (with_reducible refine (Cj.calls g s0_0 x1001_3 x1002_3 40 t161 t162 t163 w0 _ ?side1 ?side2 A55.out).mono ?_); (case side1 => repeat (first | (with_reducible first | exact HI0.out | apply Aj.alloc | apply Aj.drewN | apply Aj.drew | apply Aj.Dv | apply Aj.Du | refine Aj.far ?_ NB0_126.out _ | refine Aj.far ?_ NB0_133.out _) | exact HI0.out)); (case side2 => repeat (first | (with_reducible first | exact HB.out | apply Ae | apply Aa | apply Ad | refine Am ?_ (Aj.ge HI0.out) | refine Am ?_ GE126.out | refine Am ?_ GE133.out) | exact HB.out)); rintro e w82 ⟨rfl, hi, hb, hk⟩; refine ⟨_, rfl, ?_⟩; have n0_ := Ac.mk (A8.blk hk (g' := gb126) (o := .cells #[.int .i64 0, .string (⟨#[]⟩ : ByteArray), .int .i64 0, .int .i64 0] 25 (0, 0)) Ybi_ NB126_0.out (by simp)); have n1_ := Ac.mk (A8.blk hk (g' := gb133) (o := .cells #[.int .i64 (wrap64 (1 + t127)), .string t130, .int .i64 x134002_3, .int .i64 x134003_3] 25 (0, 0)) Ycd_ NB133_0.out (by simp)); have n2_ := Ac.mk (A8.trans Yg_ hk (.inl rfl)); have n3_ := Ac.mk (hb); have n4_ := Ac.mk (hi); clear BK126; clear BK133; clear HK; clear HB; clear HI0; have BK126 := n0_; have BK133 := n1_; have HK := n2_; have HB := n3_; have HI0 := n4_; clear n0_ n1_ n2_ n3_ n4_; (try clear hb); (try clear hb2); (try clear hk); (try clear hi)) | ((with_reducible refine Dl (N := 66) rfl ?_); refine Kd.Hz (Kd.int .i64) _ 3 ?hg (N := 66) ?hd (xs := ([(-1), 1, 401] : List Int)) (inner := [.int .i64 (-1), .int .i64 1, .int .i64 401]) (ok := fun _ => True) (okp := fun _ => True) ?hr ?hp (fun _ hk => hk) trivial (Below.refl _ _) (Nat.le_refl _) (by simp) ?_; (case hd => rfl); (case hg => rfl); (case hr => first | (go_simp; done) | (go_simp; rfl)); (case hp => exact (Ed.one (show Kd.M (Kd.int .i64) _ _ _ (-1) [.int .i64 (-1)] from rfl) (Ed.one (show Kd.M (Kd.int .i64) _ _ _ 1 [.int .i64 1] from rfl) (Ed.one (show Kd.M (Kd.int .i64) _ _ _ 401 [.int .i64 401] from rfl) (Ed.none _ _))))); intro v177 w83 ho84 hb hg_ hnew_; clear hg_ hnew_; (first | rw [← Ny176.out] at ho84 | (simp only [Int.reduceToNat] at ho84; rw [← Ny176.out] at ho84)); have n0_ := Ac.mk (Kd.Gg ho84 (Gt (w := w) (g := g) (row := none) Yg_)); have n1_ := Ac.mk (Bi (g := gb126) (o := .cells #[.int .i64 0, .string (⟨#[]⟩ : ByteArray), .int .i64 0, .int .i64 0] 25 (0, 0)) Ybi_ hb); have n2_ := Ac.mk (Bi (g := gb133) (o := .cells #[.int .i64 (wrap64 (1 + t127)), .string t130, .int .i64 x134002_3, .int .i64 x134003_3] 25 (0, 0)) Ycd_ hb); have n3_ := Ac.mk (Aj.below Ydb_ hb); have n4_ := Ac.mk (A8.trans Yg_ (A8.of_below hb g none) (.inl rfl)); have n5_ := Ac.mk (Ar Ycg_ hb); clear BK126; clear BK133; clear HI0; clear HK; clear HB; have HO178 := n0_; have BK126 := n1_; have BK133 := n2_; have HI0 := n3_; have HK := n4_; have HB := n5_; clear n0_ n1_ n2_ n3_ n4_ n5_; clear hb ho84; obtain ⟨Ao85, co85, eo85⟩ := Kd.Gh HO178.out; subst eo85) | ((with_reducible refine Ap (f := 51) rfl ?_); refine Bj (some 67) rfl rfl Tryz.func51 (by kernel_rfl) rfl #[.pointer (some ⟨g, 0, none⟩), .slice Ao85 y176.length co85] rfl Ya_ ?_; (with_reducible refine (Em.calls g s0_0 t162 t163 _ _ y176 t179 t180 t181 w0 _ ?side1 ?side2 ?side3 ?side4 ?side5 A81.out).mono ?_); (case side1 => repeat (first | (with_reducible first | exact HI0.out | apply Aj.alloc | apply Aj.drewN | apply Aj.drew | apply Aj.Dv | apply Aj.Du | refine Aj.far ?_ NB0_126.out _ | refine Aj.far ?_ NB0_133.out _) | exact HI0.out)); (case side2 => repeat (first | (with_reducible first | exact HB.out | apply Ae | apply Aa | apply Ad | refine Am ?_ (Aj.ge HI0.out) | refine Am ?_ GE126.out | refine Am ?_ GE133.out) | exact HB.out)); (case side3 => repeat (first | exact (Kd.Ec HO178.out).2.2 | (with_reducible refine Kd.F5 ?_ _) | (with_reducible refine Kd.F6 ?_ _) | (with_reducible refine Kd.Gj ?_))); (case side4 => exact (Kd.Ec HO178.out).2.1); (case side5 => exact Ja (Aj.own_ne HI0.out HO178.out (by decide))); rintro e w86 ⟨rfl, hi, hb, hk⟩; refine ⟨_, rfl, ?_⟩; have n0_ := Ac.mk (A8.blk hk (g' := gb126) (o := .cells #[.int .i64 0, .string (⟨#[]⟩ : ByteArray), .int .i64 0, .int .i64 0] 25 (0, 0)) Ybi_ NB126_0.out (by simp)); have n1_ := Ac.mk (A8.blk hk (g' := gb133) (o := .cells #[.int .i64 (wrap64 (1 + t127)), .string t130, .int .i64 x134002_3, .int .i64 x134003_3] 25 (0, 0)) Ycd_ NB133_0.out (by simp)); have n2_ := Ac.mk (Kd.R_mono (Kd.Hr (Aj.apart (show Aj w0 _ g s0_0 t162 t163 from by repeat (first | (with_reducible first | exact HI0.out | apply Aj.alloc | apply Aj.drewN | apply Aj.drew | apply Aj.Dv | apply Aj.Du | refine Aj.far ?_ NB0_126.out _ | refine Aj.far ?_ NB0_133.out _) | exact HI0.out)) (by (with_reducible repeat (first | apply Kd.Cb | apply Kd.Bz | apply Kd.Cm)); exact HO178.out) (by decide)) hk (fun _ h => h.2)) (fun _ h => h.1)); have n3_ := Ac.mk (A8.trans Yg_ hk (.inl rfl)); have n4_ := Ac.mk (hb); have n5_ := Ac.mk (hi); clear BK126; clear BK133; clear HO178; clear HK; clear HB; clear HI0; have BK126 := n0_; have BK133 := n1_; have HO178 := n2_; have HK := n3_; have HB := n4_; have HI0 := n5_; clear n0_ n1_ n2_ n3_ n4_ n5_; (try clear hb); (try clear hb2); (try clear hk); (try clear hi); have hnb87 := NB133_126.out; have hnc87 := NB126_133.out; have hnb88 := NB133_0.out; have hnc88 := NB0_133.out; have hcz89_0 : w86.cell? ⟨gb133, 0, none⟩ = some (.int .i64 (wrap64 (1 + t127))) := (Ak BK133.out 0).trans rfl; have hcz89_1 : w86.cell? ⟨gb133, 1, none⟩ = some (.string t130) := (Ak BK133.out 1).trans rfl; have hcz89_2 : w86.cell? ⟨gb133, 2, none⟩ = some (.int .i64 x134002_3) := (Ak BK133.out 2).trans rfl; have hcz89_3 : w86.cell? ⟨gb133, 3, none⟩ = some (.int .i64 x134003_3) := (Ak BK133.out 3).trans rfl; have hfz89_0 := Ai BK133.out 0; have hfz89_1 := Ai BK133.out 1; have hfz89_2 := Ai BK133.out 2; have hfz89_3 := Ai BK133.out 3; have hnb90 := NB126_0.out; have hnc90 := NB0_126.out; have hcz91_0 : w86.cell? ⟨gb126, 0, none⟩ = some (.int .i64 0) := (Ak BK126.out 0).trans rfl; have hcz91_1 : w86.cell? ⟨gb126, 1, none⟩ = some (.string (⟨#[]⟩ : ByteArray)) := (Ak BK126.out 1).trans rfl; have hcz91_2 : w86.cell? ⟨gb126, 2, none⟩ = some (.int .i64 0) := (Ak BK126.out 2).trans rfl; have hcz91_3 : w86.cell? ⟨gb126, 3, none⟩ = some (.int .i64 0) := (Ak BK126.out 3).trans rfl; have hfz91_0 := Ai BK126.out 0; have hfz91_1 := Ai BK126.out 1; have hfz91_2 := Ai BK126.out 2; have hfz91_3 := Ai BK126.out 3))
      refine bodyPost_ret (results_cell_row rfl _ _ gb126 25 #[.int .i64 (wrap64 (1 + t127)), .string t130, .int .i64 x134002_3, .int .i64 t179] (0, 0) _ rfl (by (with_reducible repeat (first | refine Ag ?_ _ | refine Ah ?_ | refine Af ?_ _)); refine Be (cs := #[.int .i64 (wrap64 (1 + t127)), .string t130, .int .i64 x134002_3, .int .i64 0]) ?_ 3 _ rfl; (with_reducible repeat (first | refine Ag ?_ _ | refine Ah ?_ | refine Af ?_ _)); refine Be (cs := #[.int .i64 (wrap64 (1 + t127)), .string t130, .int .i64 0, .int .i64 0]) ?_ 2 _ rfl; (with_reducible repeat (first | refine Ag ?_ _ | refine Ah ?_ | refine Af ?_ _)); refine Be (cs := #[.int .i64 (wrap64 (1 + t127)), .string (⟨#[]⟩ : ByteArray), .int .i64 0, .int .i64 0]) ?_ 1 _ rfl; (with_reducible repeat (first | refine Ag ?_ _ | refine Ah ?_ | refine Af ?_ _)); refine Be (cs := #[.int .i64 0, .string (⟨#[]⟩ : ByteArray), .int .i64 0, .int .i64 0]) ?_ 0 _ rfl; (with_reducible repeat (first | refine Ag ?_ _ | refine Ah ?_ | refine Af ?_ _)); refine Bo ?_ NB126_133.out _; (with_reducible repeat (first | refine Ag ?_ _ | refine Ah ?_ | refine Af ?_ _)); exact BK126.out) Tryz.underlying25 rfl (by kernel_rfl)) rfl ?_
      exact ⟨by first | rfl | (simp [Au, Aw] <;> rfl) | (simp [*, Au, Aw] <;> rfl), by repeat (first | (with_reducible first | exact HI0.out | apply Aj.alloc | apply Aj.drewN | apply Aj.drew | apply Aj.Dv | apply Aj.Du | refine Aj.far ?_ NB0_126.out _ | refine Aj.far ?_ NB0_133.out _) | exact HI0.out), by repeat (first | (with_reducible first | exact HB.out | apply Ae | apply Aa | apply Ad | refine Am ?_ (Aj.ge HI0.out) | refine Am ?_ GE126.out | refine Am ?_ GE133.out) | exact HB.out), by repeat (first | (with_reducible first | exact HK.out | apply A8.Eo | apply Bq | apply Ce | apply Bv | refine Dk ?_ GW126.out _ | refine Dk ?_ GW133.out _) | exact HK.out)⟩
     ·rw [if_neg c80] at H
      have c80b0 : (t161 == 2) = false := beq_eq_false_iff_ne.mpr c80
      have c80b1 : (t161 != 2) = true := bne_iff_ne.mpr c80
      by_cases c92 : t161 = 3
      ·rw [if_pos c92] at H
       have c92b0 : (t161 == 3) = true := beq_iff_eq.mpr c92
       have c92b1 : (t161 != 3) = false := bne_eq_false_iff_eq.mpr c92
       clear c92
       obtain ⟨y182, hy182⟩ : ∃ y_ : List ByteArray, y_ = (([(⟨#[]⟩ : ByteArray), (⟨#[65, 66, 67, 48, 48, 48, 49]⟩ : ByteArray), (⟨#[65, 66, 67, 48, 48, 48, 49, 90]⟩ : ByteArray)] : List ByteArray)) := ⟨_, rfl⟩
       replace H : ((Gx.f s0_0 t162 t163 y182).bind fun bt185 => (some ((wrap64 (1 + t127)), bt185.1, x134002_3, x134003_3, bt185.2.1, bt185.2.2))) = some (r1, r2, r3, r4, r5, r6) := by first | (rw [hy182]; with_reducible exact H) | (have H2_ := (Option.bind_some _ _).symm.trans H; rw [hy182]; with_reducible exact H2_) | (have H2_ := (Option.bind_some _ _).symm.trans H; with_reducible exact H2_) | with_reducible exact H | (rw [hy182]; exact H) | exact H
       have Ny182 := Ac.mk hy182
       clear hy182
       replace H := Option.bind_eq_some_iff.mp H
       obtain ⟨⟨t185, t186, t187⟩, A930, H⟩ := H
       try dsimp only at H
       have A93 := Ac.mk A930
       clear A930
       simp only [Option.some.injEq, Prod.mk.injEq] at H
       obtain ⟨rfl, rfl, rfl, rfl, rfl, rfl⟩ := H
       go_wp2_with (first | ((with_reducible refine Ap (f := 49) rfl ?_); refine Bj (some 50) rfl rfl Tryz.func49 (by kernel_rfl) rfl #[.pointer (some ⟨g, 0, none⟩), .int .i64 40] rfl Ya_ ?_; (with_reducible refine (Cj.calls g s0_0 x1001_3 x1002_3 40 t161 t162 t163 w0 _ ?side1 ?side2 A55.out).mono ?_); (case side1 => repeat (first | (with_reducible first | exact HI0.out | apply Aj.alloc | apply Aj.drewN | apply Aj.drew | apply Aj.Dv | apply Aj.Du | refine Aj.far ?_ NB0_126.out _ | refine Aj.far ?_ NB0_133.out _) | exact HI0.out)); (case side2 => repeat (first | (with_reducible first | exact HB.out | apply Ae | apply Aa | apply Ad | refine Am ?_ (Aj.ge HI0.out) | refine Am ?_ GE126.out | refine Am ?_ GE133.out) | exact HB.out)); rintro e w94 ⟨rfl, hi, hb, hk⟩; refine ⟨_, rfl, ?_⟩; have n0_ := Ac.mk (A8.blk hk (g' := gb126) (o := .cells #[.int .i64 0, .string (⟨#[]⟩ : ByteArray), .int .i64 0, .int .i64 0] 25 (0, 0)) Ybi_ NB126_0.out (by simp)); have n1_ := Ac.mk (A8.blk hk (g' := gb133) (o := .cells #[.int .i64 (wrap64 (1 + t127)), .string t130, .int .i64 x134002_3, .int .i64 x134003_3] 25 (0, 0)) Ycd_ NB133_0.out (by simp)); have n2_ := Ac.mk (A8.trans Yg_ hk (.inl rfl)); have n3_ := Ac.mk (hb); have n4_ := Ac.mk (hi); clear BK126; clear BK133; clear HK; clear HB; clear HI0; have BK126 := n0_; have BK133 := n1_; have HK := n2_; have HB := n3_; have HI0 := n4_; clear n0_ n1_ n2_ n3_ n4_; (try clear hb); (try clear hb2); (try clear hk); (try clear hi)) | ((with_reducible refine Dl (N := 72) rfl ?_); refine Kd.Hz Kd.string _ 9 ?hg (N := 72) ?hd (xs := ([(⟨#[]⟩ : ByteArray), (⟨#[65, 66, 67, 48, 48, 48, 49]⟩ : ByteArray), (⟨#[65, 66, 67, 48, 48, 48, 49, 90]⟩ : ByteArray)] : List ByteArray)) (inner := [.string (⟨#[]⟩ : ByteArray), .string (⟨#[65, 66, 67, 48, 48, 48, 49]⟩ : ByteArray), .string (⟨#[65, 66, 67, 48, 48, 48, 49, 90]⟩ : ByteArray)]) (ok := fun _ => True) (okp := fun _ => True) ?hr ?hp (fun _ hk => hk) trivial (Below.refl _ _) (Nat.le_refl _) (by simp) ?_; (case hd => rfl); (case hg => rfl); (case hr => first | (go_simp; done) | (go_simp; rfl)); (case hp => exact (Ed.one (show Kd.M Kd.string _ _ _ (⟨#[]⟩ : ByteArray) [.string (⟨#[]⟩ : ByteArray)] from rfl) (Ed.one (show Kd.M Kd.string _ _ _ (⟨#[65, 66, 67, 48, 48, 48, 49]⟩ : ByteArray) [.string (⟨#[65, 66, 67, 48, 48, 48, 49]⟩ : ByteArray)] from rfl) (Ed.one (show Kd.M Kd.string _ _ _ (⟨#[65, 66, 67, 48, 48, 48, 49, 90]⟩ : ByteArray) [.string (⟨#[65, 66, 67, 48, 48, 48, 49, 90]⟩ : ByteArray)] from rfl) (Ed.none _ _))))); intro v183 w95 ho96 hb hg_ hnew_; clear hg_ hnew_; (first | rw [← Ny182.out] at ho96 | (simp only [Int.reduceToNat] at ho96; rw [← Ny182.out] at ho96)); have n0_ := Ac.mk (Kd.Gg ho96 (Gt (w := w) (g := g) (row := none) Yg_)); have n1_ := Ac.mk (Bi (g := gb126) (o := .cells #[.int .i64 0, .string (⟨#[]⟩ : ByteArray), .int .i64 0, .int .i64 0] 25 (0, 0)) Ybi_ hb); have n2_ := Ac.mk (Bi (g := gb133) (o := .cells #[.int .i64 (wrap64 (1 + t127)), .string t130, .int .i64 x134002_3, .int .i64 x134003_3] 25 (0, 0)) Ycd_ hb); have n3_ := Ac.mk (Aj.below Ydb_ hb); have n4_ := Ac.mk (A8.trans Yg_ (A8.of_below hb g none) (.inl rfl)); have n5_ := Ac.mk (Ar Ycg_ hb); clear BK126; clear BK133; clear HI0; clear HK; clear HB; have HO184 := n0_; have BK126 := n1_; have BK133 := n2_; have HI0 := n3_; have HK := n4_; have HB := n5_; clear n0_ n1_ n2_ n3_ n4_ n5_; clear hb ho96; obtain ⟨Ao97, co97, eo97⟩ := Kd.Gh HO184.out; subst eo97) | ((with_reducible refine Ap (f := 52) rfl ?_); refine Bj (some 73) rfl rfl Tryz.func52 (by kernel_rfl) rfl #[.pointer (some ⟨g, 0, none⟩), .slice Ao97 y182.length co97] rfl Ya_ ?_; (with_reducible refine (Gx.calls g s0_0 t162 t163 _ _ y182 t185 t186 t187 w0 _ ?side1 ?side2 ?side3 ?side4 ?side5 A93.out).mono ?_); (case side1 => repeat (first | (with_reducible first | exact HI0.out | apply Aj.alloc | apply Aj.drewN | apply Aj.drew | apply Aj.Dv | apply Aj.Du | refine Aj.far ?_ NB0_126.out _ | refine Aj.far ?_ NB0_133.out _) | exact HI0.out)); (case side2 => repeat (first | (with_reducible first | exact HB.out | apply Ae | apply Aa | apply Ad | refine Am ?_ (Aj.ge HI0.out) | refine Am ?_ GE126.out | refine Am ?_ GE133.out) | exact HB.out)); (case side3 => repeat (first | exact (Kd.Ec HO184.out).2.2 | (with_reducible refine Kd.F5 ?_ _) | (with_reducible refine Kd.F6 ?_ _) | (with_reducible refine Kd.Gj ?_))); (case side4 => exact (Kd.Ec HO184.out).2.1); (case side5 => exact Ja (Aj.own_ne HI0.out HO184.out (by decide))); rintro e w98 ⟨rfl, hi, hb, hk⟩; refine ⟨_, rfl, ?_⟩; have n0_ := Ac.mk (A8.blk hk (g' := gb126) (o := .cells #[.int .i64 0, .string (⟨#[]⟩ : ByteArray), .int .i64 0, .int .i64 0] 25 (0, 0)) Ybi_ NB126_0.out (by simp)); have n1_ := Ac.mk (A8.blk hk (g' := gb133) (o := .cells #[.int .i64 (wrap64 (1 + t127)), .string t130, .int .i64 x134002_3, .int .i64 x134003_3] 25 (0, 0)) Ycd_ NB133_0.out (by simp)); have n2_ := Ac.mk (Kd.R_mono (Kd.Hr (Aj.apart (show Aj w0 _ g s0_0 t162 t163 from by repeat (first | (with_reducible first | exact HI0.out | apply Aj.alloc | apply Aj.drewN | apply Aj.drew | apply Aj.Dv | apply Aj.Du | refine Aj.far ?_ NB0_126.out _ | refine Aj.far ?_ NB0_133.out _) | exact HI0.out)) (by (with_reducible repeat (first | apply Kd.Cb | apply Kd.Bz | apply Kd.Cm)); exact HO184.out) (by decide)) hk (fun _ h => h.2)) (fun _ h => h.1)); have n3_ := Ac.mk (A8.trans Yg_ hk (.inl rfl)); have n4_ := Ac.mk (hb); have n5_ := Ac.mk (hi); clear BK126; clear BK133; clear HO184; clear HK; clear HB; clear HI0; have BK126 := n0_; have BK133 := n1_; have HO184 := n2_; have HK := n3_; have HB := n4_; have HI0 := n5_; clear n0_ n1_ n2_ n3_ n4_ n5_; (try clear hb); (try clear hb2); (try clear hk); (try clear hi); have hnb99 := NB133_126.out; have hnc99 := NB126_133.out; have hnb100 := NB133_0.out; have hnc100 := NB0_133.out; have hcz101_0 : w98.cell? ⟨gb133, 0, none⟩ = some (.int .i64 (wrap64 (1 + t127))) := (Ak BK133.out 0).trans rfl; have hcz101_1 : w98.cell? ⟨gb133, 1, none⟩ = some (.string t130) := (Ak BK133.out 1).trans rfl; have hcz101_2 : w98.cell? ⟨gb133, 2, none⟩ = some (.int .i64 x134002_3) := (Ak BK133.out 2).trans rfl; have hcz101_3 : w98.cell? ⟨gb133, 3, none⟩ = some (.int .i64 x134003_3) := (Ak BK133.out 3).trans rfl; have hfz101_0 := Ai BK133.out 0; have hfz101_1 := Ai BK133.out 1; have hfz101_2 := Ai BK133.out 2; have hfz101_3 := Ai BK133.out 3; have hnb102 := NB126_0.out; have hnc102 := NB0_126.out; have hcz103_0 : w98.cell? ⟨gb126, 0, none⟩ = some (.int .i64 0) := (Ak BK126.out 0).trans rfl; have hcz103_1 : w98.cell? ⟨gb126, 1, none⟩ = some (.string (⟨#[]⟩ : ByteArray)) := (Ak BK126.out 1).trans rfl; have hcz103_2 : w98.cell? ⟨gb126, 2, none⟩ = some (.int .i64 0) := (Ak BK126.out 2).trans rfl; have hcz103_3 : w98.cell? ⟨gb126, 3, none⟩ = some (.int .i64 0) := (Ak BK126.out 3).trans rfl; have hfz103_0 := Ai BK126.out 0; have hfz103_1 := Ai BK126.out 1; have hfz103_2 := Ai BK126.out 2; have hfz103_3 := Ai BK126.out 3))
       refine bodyPost_ret (results_cell_row rfl _ _ gb126 25 #[.int .i64 (wrap64 (1 + t127)), .string t185, .int .i64 x134002_3, .int .i64 x134003_3] (0, 0) _ rfl (by (with_reducible repeat (first | refine Ag ?_ _ | refine Ah ?_ | refine Af ?_ _)); refine Be (cs := #[.int .i64 (wrap64 (1 + t127)), .string t185, .int .i64 x134002_3, .int .i64 0]) ?_ 3 _ rfl; (with_reducible repeat (first | refine Ag ?_ _ | refine Ah ?_ | refine Af ?_ _)); refine Be (cs := #[.int .i64 (wrap64 (1 + t127)), .string t185, .int .i64 0, .int .i64 0]) ?_ 2 _ rfl; (with_reducible repeat (first | refine Ag ?_ _ | refine Ah ?_ | refine Af ?_ _)); refine Be (cs := #[.int .i64 (wrap64 (1 + t127)), .string (⟨#[]⟩ : ByteArray), .int .i64 0, .int .i64 0]) ?_ 1 _ rfl; (with_reducible repeat (first | refine Ag ?_ _ | refine Ah ?_ | refine Af ?_ _)); refine Be (cs := #[.int .i64 0, .string (⟨#[]⟩ : ByteArray), .int .i64 0, .int .i64 0]) ?_ 0 _ rfl; (with_reducible repeat (first | refine Ag ?_ _ | refine Ah ?_ | refine Af ?_ _)); refine Bo ?_ NB126_133.out _; (with_reducible repeat (first | refine Ag ?_ _ | refine Ah ?_ | refine Af ?_ _)); exact BK126.out) Tryz.underlying25 rfl (by kernel_rfl)) rfl ?_
       exact ⟨by first | rfl | (simp [Au, Aw] <;> rfl) | (simp [*, Au, Aw] <;> rfl), by repeat (first | (with_reducible first | exact HI0.out | apply Aj.alloc | apply Aj.drewN | apply Aj.drew | apply Aj.Dv | apply Aj.Du | refine Aj.far ?_ NB0_126.out _ | refine Aj.far ?_ NB0_133.out _) | exact HI0.out), by repeat (first | (with_reducible first | exact HB.out | apply Ae | apply Aa | apply Ad | refine Am ?_ (Aj.ge HI0.out) | refine Am ?_ GE126.out | refine Am ?_ GE133.out) | exact HB.out), by repeat (first | (with_reducible first | exact HK.out | apply A8.Eo | apply Bq | apply Ce | apply Bv | refine Dk ?_ GW126.out _ | refine Dk ?_ GW133.out _) | exact HK.out)⟩
      ·rw [if_neg c92] at H
       have c92b0 : (t161 == 3) = false := beq_eq_false_iff_ne.mpr c92
       have c92b1 : (t161 != 3) = true := bne_iff_ne.mpr c92
       simp only [Option.some.injEq, Prod.mk.injEq] at H
       obtain ⟨rfl, rfl, rfl, rfl, rfl, rfl⟩ := H
       go_wp2_with (first | ((with_reducible refine Ap (f := 49) rfl ?_); refine Bj (some 50) rfl rfl Tryz.func49 (by kernel_rfl) rfl #[.pointer (some ⟨g, 0, none⟩), .int .i64 40] rfl Ya_ ?_; (with_reducible refine (Cj.calls g s0_0 x1001_3 x1002_3 40 t161 t162 t163 w0 _ ?side1 ?side2 A55.out).mono ?_); (case side1 => repeat (first | (with_reducible first | exact HI0.out | apply Aj.alloc | apply Aj.drewN | apply Aj.drew | apply Aj.Dv | apply Aj.Du | refine Aj.far ?_ NB0_126.out _ | refine Aj.far ?_ NB0_133.out _) | exact HI0.out)); (case side2 => repeat (first | (with_reducible first | exact HB.out | apply Ae | apply Aa | apply Ad | refine Am ?_ (Aj.ge HI0.out) | refine Am ?_ GE126.out | refine Am ?_ GE133.out) | exact HB.out)); rintro e w104 ⟨rfl, hi, hb, hk⟩; refine ⟨_, rfl, ?_⟩; have n0_ := Ac.mk (A8.blk hk (g' := gb126) (o := .cells #[.int .i64 0, .string (⟨#[]⟩ : ByteArray), .int .i64 0, .int .i64 0] 25 (0, 0)) Ybi_ NB126_0.out (by simp)); have n1_ := Ac.mk (A8.blk hk (g' := gb133) (o := .cells #[.int .i64 (wrap64 (1 + t127)), .string t130, .int .i64 x134002_3, .int .i64 x134003_3] 25 (0, 0)) Ycd_ NB133_0.out (by simp)); have n2_ := Ac.mk (A8.trans Yg_ hk (.inl rfl)); have n3_ := Ac.mk (hb); have n4_ := Ac.mk (hi); clear BK126; clear BK133; clear HK; clear HB; clear HI0; have BK126 := n0_; have BK133 := n1_; have HK := n2_; have HB := n3_; have HI0 := n4_; clear n0_ n1_ n2_ n3_ n4_; (try clear hb); (try clear hb2); (try clear hk); (try clear hi); have hnb105 := NB133_126.out; have hnc105 := NB126_133.out; have hnb106 := NB133_0.out; have hnc106 := NB0_133.out; have hcz107_0 : w104.cell? ⟨gb133, 0, none⟩ = some (.int .i64 (wrap64 (1 + t127))) := (Ak BK133.out 0).trans rfl; have hcz107_1 : w104.cell? ⟨gb133, 1, none⟩ = some (.string t130) := (Ak BK133.out 1).trans rfl; have hcz107_2 : w104.cell? ⟨gb133, 2, none⟩ = some (.int .i64 x134002_3) := (Ak BK133.out 2).trans rfl; have hcz107_3 : w104.cell? ⟨gb133, 3, none⟩ = some (.int .i64 x134003_3) := (Ak BK133.out 3).trans rfl; have hfz107_0 := Ai BK133.out 0; have hfz107_1 := Ai BK133.out 1; have hfz107_2 := Ai BK133.out 2; have hfz107_3 := Ai BK133.out 3; have hnb108 := NB126_0.out; have hnc108 := NB0_126.out; have hcz109_0 : w104.cell? ⟨gb126, 0, none⟩ = some (.int .i64 0) := (Ak BK126.out 0).trans rfl; have hcz109_1 : w104.cell? ⟨gb126, 1, none⟩ = some (.string (⟨#[]⟩ : ByteArray)) := (Ak BK126.out 1).trans rfl; have hcz109_2 : w104.cell? ⟨gb126, 2, none⟩ = some (.int .i64 0) := (Ak BK126.out 2).trans rfl; have hcz109_3 : w104.cell? ⟨gb126, 3, none⟩ = some (.int .i64 0) := (Ak BK126.out 3).trans rfl; have hfz109_0 := Ai BK126.out 0; have hfz109_1 := Ai BK126.out 1; have hfz109_2 := Ai BK126.out 2; have hfz109_3 := Ai BK126.out 3))
       refine bodyPost_ret (results_cell_row rfl _ _ gb126 25 #[.int .i64 (wrap64 (1 + t127)), .string t130, .int .i64 x134002_3, .int .i64 x134003_3] (0, 0) _ rfl (by (with_reducible repeat (first | refine Ag ?_ _ | refine Ah ?_ | refine Af ?_ _)); refine Be (cs := #[.int .i64 (wrap64 (1 + t127)), .string t130, .int .i64 x134002_3, .int .i64 0]) ?_ 3 _ rfl; (with_reducible repeat (first | refine Ag ?_ _ | refine Ah ?_ | refine Af ?_ _)); refine Be (cs := #[.int .i64 (wrap64 (1 + t127)), .string t130, .int .i64 0, .int .i64 0]) ?_ 2 _ rfl; (with_reducible repeat (first | refine Ag ?_ _ | refine Ah ?_ | refine Af ?_ _)); refine Be (cs := #[.int .i64 (wrap64 (1 + t127)), .string (⟨#[]⟩ : ByteArray), .int .i64 0, .int .i64 0]) ?_ 1 _ rfl; (with_reducible repeat (first | refine Ag ?_ _ | refine Ah ?_ | refine Af ?_ _)); refine Be (cs := #[.int .i64 0, .string (⟨#[]⟩ : ByteArray), .int .i64 0, .int .i64 0]) ?_ 0 _ rfl; (with_reducible repeat (first | refine Ag ?_ _ | refine Ah ?_ | refine Af ?_ _)); exact BK126.out) Tryz.underlying25 rfl (by kernel_rfl)) rfl ?_
       exact ⟨by first | rfl | (simp [Au, Aw] <;> rfl) | (simp [*, Au, Aw] <;> rfl), by repeat (first | (with_reducible first | exact HI0.out | apply Aj.alloc | apply Aj.drewN | apply Aj.drew | apply Aj.Dv | apply Aj.Du | refine Aj.far ?_ NB0_126.out _ | refine Aj.far ?_ NB0_133.out _) | exact HI0.out), by repeat (first | (with_reducible first | exact HB.out | apply Ae | apply Aa | apply Ad | refine Am ?_ (Aj.ge HI0.out) | refine Am ?_ GE126.out | refine Am ?_ GE133.out) | exact HB.out), by repeat (first | (with_reducible first | exact HK.out | apply A8.Eo | apply Bq | apply Ce | apply Bv | refine Dk ?_ GW126.out _ | refine Dk ?_ GW133.out _) | exact HK.out)⟩
def Fq.f (s0_0 : List Int) (s0_1 : Int) (s0_2 : Int) (a1 : Int) : Option (Bool × Int × Int) := (Cj.f s0_0 s0_1 s0_2 a1).bind fun bt342 => (some ((bt342.1 == 0), bt342.2.1, bt342.2.2))
set_option maxHeartbeats 8000000 in
set_option maxRecDepth 100000 in
theorem Fq.calls (g : Nat) (s0_0 : List Int) (s0_1 : Int) (s0_2 : Int) (a1 : Int) (r1 : Bool) (r2 : Int) (r3 : Int) (w0 w : World) (hI : Aj w0 w g s0_0 s0_1 s0_2) (hB : Below w0.heap.size w0 w) (h : Fq.f s0_0 s0_1 s0_2 a1 = some (r1, r2, r3)) :
  Calls Tryz.prog 28 #[.pointer (some ⟨g, 0, none⟩), .int .i64 a1] w fun e w' => e = .returned (.bool r1) ∧ Aj w0 w' g s0_0 r2 r3 ∧ Below w0.heap.size w0 w' ∧ A8 w w' g none := by
 have HI0 := Ac.mk hI
 have HK := Ac.mk (A8.refl w g none)
 have HL := Ac.mk hB.size
 clear hI
 have HW0 := Ac.mk hB.size
 have HB := Ac.mk hB
 clear hB
 have H : ((Cj.f s0_0 s0_1 s0_2 a1).bind fun bt342 => (some ((bt342.1 == 0), bt342.2.1, bt342.2.2))) = some (r1, r2, r3) := h
 clear h
 replace H := Option.bind_eq_some_iff.mp H
 obtain ⟨⟨t342, t343, t344⟩, A30, H⟩ := H
 try dsimp only at H
 have A3 := Ac.mk A30
 clear A30
 simp only [Option.some.injEq, Prod.mk.injEq] at H
 obtain ⟨rfl, rfl, rfl⟩ := H
 go_enter Tryz.func28, Tryz.ntmps28
 go_wp2_with (first | ((with_reducible refine Ap (f := 49) rfl ?_); refine Bj (some 7) rfl rfl Tryz.func49 (by kernel_rfl) rfl #[.pointer (some ⟨g, 0, none⟩), .int .i64 a1] rfl Ya_ ?_; (with_reducible refine (Cj.calls g s0_0 s0_1 s0_2 a1 t342 t343 t344 w0 _ ?side1 ?side2 A3.out).mono ?_); (case side1 => repeat (first | (with_reducible first | exact HI0.out | apply Aj.alloc | apply Aj.drewN | apply Aj.drew | apply Aj.Dv | apply Aj.Du) | exact HI0.out)); (case side2 => repeat (first | (with_reducible first | exact HB.out | apply Ae | apply Aa | apply Ad | refine Am ?_ (Aj.ge HI0.out)) | exact HB.out)); rintro e w4 ⟨rfl, hi, hb, hk⟩; refine ⟨_, rfl, ?_⟩; have n0_ := Ac.mk (A8.trans Yh_ hk (.inl rfl)); have n1_ := Ac.mk (hb); have n2_ := Ac.mk (hi); clear HK; clear HB; clear HI0; have HK := n0_; have HB := n1_; have HI0 := n2_; clear n0_ n1_ n2_; (try clear hb); (try clear hb2); (try clear hk); (try clear hi)))
 go_ret
 exact ⟨by first | rfl | (simp [Au, Aw] <;> rfl) | (simp [*, Au, Aw] <;> rfl), by repeat (first | (with_reducible first | exact HI0.out | apply Aj.alloc | apply Aj.drewN | apply Aj.drew | apply Aj.Dv | apply Aj.Du) | exact HI0.out), by repeat (first | (with_reducible first | exact HB.out | apply Ae | apply Aa | apply Ad | refine Am ?_ (Aj.ge HI0.out)) | exact HB.out), by repeat (first | (with_reducible first | exact HK.out | apply A8.Eo | apply Bq | apply Ce | apply Bv) | exact HK.out)⟩
def Fj.f (s0_0 : List Int) (s0_1 : Int) (s0_2 : Int) (a1 : ByteArray) (a2 : ByteArray) : Option (ByteArray × Int × Int) :=
 if a1.toList = ([] : List UInt8) then (if 1 ≤ (a2.size : Int) then some (a2.extract 0 1, s0_1, s0_2) else none)
 else (Cj.f s0_0 s0_1 s0_2 (a1.size : Int)).bind fun p => (Cj.f s0_0 p.2.1 p.2.2 (a2.size : Int)).bind fun q =>
  (Cj.f s0_0 q.2.1 q.2.2 3).bind fun m => if (0 ≤ q.1 ∧ q.1 < (a2.size : Int)) ∧ (0 ≤ p.1 ∧ p.1 < (a1.size : Int)) ∧ a1.size ≤ 4611686018427387904 ∧ a2.size ≤ 4611686018427387904 then
   some (if m.1 = 0 then ((a1.extract 0 p.1.toNat ++ (a2.extract q.1.toNat a2.size).extract 0 1) ++ a1.extract p.1.toNat a1.size, m.2.1, m.2.2)
    else if m.1 = 1 then ((a1.extract 0 p.1.toNat ++ (a2.extract q.1.toNat a2.size).extract 0 1) ++ a1.extract (p.1 + 1).toNat a1.size, m.2.1, m.2.2)
    else (a1.extract 0 p.1.toNat ++ a1.extract (p.1 + 1).toNat a1.size, m.2.1, m.2.2)) else none
set_option maxHeartbeats 8000000 in
set_option maxRecDepth 100000 in
theorem Fj.calls (g : Nat) (s0_0 : List Int) (s0_1 : Int) (s0_2 : Int) (a1 : ByteArray) (a2 : ByteArray) (r1 : ByteArray) (r2 : Int) (r3 : Int) (w0 w : World) (hI : Aj w0 w g s0_0 s0_1 s0_2) (hB : Below w0.heap.size w0 w) (h : Fj.f s0_0 s0_1 s0_2 a1 a2 = some (r1, r2, r3)) :
  Calls Tryz.prog 29 #[.pointer (some ⟨g, 0, none⟩), .string a1, .string a2] w fun e w' => e = .returned (.string r1) ∧ Aj w0 w' g s0_0 r2 r3 ∧ Below w0.heap.size w0 w' ∧ A8 w w' g none := by
 have HI0 := Ac.mk hI
 have HK := Ac.mk (A8.refl w g none)
 have HB := Ac.mk hB
 clear hI hB
 unfold Fj.f at h
 by_cases c4 : a1.toList = ([] : List UInt8)
 ·rw [if_pos c4] at h
  have c4b0 : (a1.toList == ([] : List UInt8)) = true := beq_iff_eq.mpr c4
  clear c4
  by_cases c6 : 1 ≤ (a2.size : Int)
  ·rw [if_pos c6] at h
   simp only [Option.some.injEq, Prod.mk.injEq] at h
   obtain ⟨rfl, rfl, rfl⟩ := h
   have c6b := eq_true c6
   have c6c : decide (1 ≤ (a2.size : Int)) = true := decide_eq_true c6
   have c6d : (1 ≤ a2.size) = True := eq_true (by omega)
   clear c6
   go_enter Tryz.func29, Tryz.ntmps29
   go_wp2
   go_ret
   exact ⟨by first | rfl | (simp [*]; done), by repeat (first | (with_reducible first | exact HI0.out | apply Aj.alloc | apply Aj.drewN | apply Aj.drew | apply Aj.Dv | apply Aj.Du) | exact HI0.out), by repeat (first | (with_reducible first | exact HB.out | apply Ae | apply Aa | apply Ad | refine Am ?_ (Aj.ge HI0.out)) | exact HB.out), by repeat (first | (with_reducible first | exact HK.out | apply A8.Eo | apply Bq | apply Ce | apply Bv) | exact HK.out)⟩
  ·rw [if_neg c6] at h; cases h
 ·rw [if_neg c4] at h
  have c4b0 : (a1.toList == ([] : List UInt8)) = false := beq_eq_false_iff_ne.mpr c4
  clear c4
  replace h := Option.bind_eq_some_iff.mp h
  obtain ⟨⟨p, p2, p3⟩, A1, h⟩ := h
  replace h := Option.bind_eq_some_iff.mp h
  obtain ⟨⟨q, q2, q3⟩, A2, h⟩ := h
  replace h := Option.bind_eq_some_iff.mp h
  obtain ⟨⟨m, m2, m3⟩, A3, h⟩ := h
  have AA1 := Ac.mk A1
  have AA2 := Ac.mk A2
  have AA3 := Ac.mk A3
  clear A1 A2 A3
  dsimp only at h AA1 AA2 AA3
  by_cases c : (0 ≤ q ∧ q < (a2.size : Int)) ∧ (0 ≤ p ∧ p < (a1.size : Int)) ∧ a1.size ≤ 4611686018427387904 ∧ a2.size ≤ 4611686018427387904
  ·rw [if_pos c] at h
   have CC := Ac.mk c
   have hp0 : 0 ≤ p := c.2.1.1
   have hq0 : 0 ≤ q := c.1.1
   obtain ⟨pn, rfl⟩ := Int.eq_ofNat_of_zero_le hp0
   obtain ⟨qn, rfl⟩ := Int.eq_ofNat_of_zero_le hq0
   have x1 : ((qn : Int) ≤ (a2.size : Int)) = True := eq_true (by omega)
   have x1n : (qn ≤ a2.size) = True := eq_true (by omega)
   have x2n : (1 ≤ a2.size - qn) = True := eq_true (by omega)
   have x2i : ((1 : Int) ≤ ((a2.size - qn : Nat) : Int)) = True := eq_true (by omega)
   have x2j : (qn < a2.size) = True := eq_true (by omega)
   have x2k : (qn + 1 ≤ a2.size) = True := eq_true (by omega)
   have x3n : (pn ≤ a1.size) = True := eq_true (by omega)
   have x4n : (pn + 1 ≤ a1.size) = True := eq_true (by omega)
   have x5 : wrap64 ((pn : Int) + 1) = (pn : Int) + 1 := by unfold wrap64; omega
   have x6 : ((pn : Int) + 1).toNat = pn + 1 := by omega
   simp only [Option.some.injEq, Int.toNat_natCast, x6] at h
   have X5 := Ac.mk x5
   clear c hp0 hq0 x5 x6
   have HH := Ac.mk h
   clear h
   by_cases d0 : m = 0
   ·subst d0
    have H2 := Ac.mk (HH.out.symm.trans (if_pos rfl))
    clear HH
    simp only [Prod.mk.injEq] at H2
    obtain ⟨rfl, rfl, rfl⟩ := H2.out
    clear H2
    go_enter Tryz.func29, Tryz.ntmps29
    go_wp2_with (first | (go_at_call 49; (with_reducible refine (Cj.calls g s0_0 s0_1 s0_2 (a1.size : Int) (pn : Int) p2 p3 w0 _ ?side1 ?side2 AA1.out).mono ?_); (case side1 => repeat (first | (with_reducible first | exact HI0.out | apply Aj.alloc | apply Aj.drewN | apply Aj.drew | apply Aj.Dv | apply Aj.Du) | exact HI0.out)); (case side2 => repeat (first | (with_reducible first | exact HB.out | apply Ae | apply Aa | apply Ad | refine Am ?_ (Aj.ge HI0.out)) | exact HB.out)); rintro e w' ⟨rfl, hi, hb, hk⟩; have n0_ := Ac.mk (A8.trans Yh_ hk (.inl rfl)); have n1_ := Ac.mk hb; have n2_ := Ac.mk hi; clear HK HB HI0; have HK := n0_; have HB := n1_; have HI0 := n2_; clear n0_ n1_ n2_ hb hk hi) | (go_at_call 49; (with_reducible refine (Cj.calls g s0_0 p2 p3 (a2.size : Int) (qn : Int) q2 q3 w0 _ ?side1 ?side2 AA2.out).mono ?_); (case side1 => repeat (first | (with_reducible first | exact HI0.out | apply Aj.alloc | apply Aj.drewN | apply Aj.drew | apply Aj.Dv | apply Aj.Du) | exact HI0.out)); (case side2 => repeat (first | (with_reducible first | exact HB.out | apply Ae | apply Aa | apply Ad | refine Am ?_ (Aj.ge HI0.out)) | exact HB.out)); rintro e w' ⟨rfl, hi, hb, hk⟩; have n0_ := Ac.mk (A8.trans Yh_ hk (.inl rfl)); have n1_ := Ac.mk hb; have n2_ := Ac.mk hi; clear HK HB HI0; have HK := n0_; have HB := n1_; have HI0 := n2_; clear n0_ n1_ n2_ hb hk hi) | (go_at_call 49; (with_reducible refine (Cj.calls g s0_0 q2 q3 3 0 _ _ w0 _ ?side1 ?side2 AA3.out).mono ?_); (case side1 => repeat (first | (with_reducible first | exact HI0.out | apply Aj.alloc | apply Aj.drewN | apply Aj.drew | apply Aj.Dv | apply Aj.Du) | exact HI0.out)); (case side2 => repeat (first | (with_reducible first | exact HB.out | apply Ae | apply Aa | apply Ad | refine Am ?_ (Aj.ge HI0.out)) | exact HB.out)); rintro e w' ⟨rfl, hi, hb, hk⟩; have n0_ := Ac.mk (A8.trans Yh_ hk (.inl rfl)); have n1_ := Ac.mk hb; have n2_ := Ac.mk hi; clear HK HB HI0; have HK := n0_; have HB := n1_; have HI0 := n2_; clear n0_ n1_ n2_ hb hk hi))
    have hC := CC.out
    have z0 : (9223372036854775807 < pn + 1) = False := eq_false (by omega)
    have z1 : (9223372036854775807 < pn + 1 + (a1.size - pn)) = False := eq_false (by omega)
    clear hC
    repeat (go_quiet (fail); try go_wp2)
    go_ret
    exact ⟨by first | rfl | (simp [*]; done), by repeat (first | (with_reducible first | exact HI0.out | apply Aj.alloc | apply Aj.drewN | apply Aj.drew | apply Aj.Dv | apply Aj.Du) | exact HI0.out), by repeat (first | (with_reducible first | exact HB.out | apply Ae | apply Aa | apply Ad | refine Am ?_ (Aj.ge HI0.out)) | exact HB.out), by repeat (first | (with_reducible first | exact HK.out | apply A8.Eo | apply Bq | apply Ce | apply Bv) | exact HK.out)⟩
   ·by_cases d1 : m = 1
    ·subst d1
     have H2 := Ac.mk (HH.out.symm.trans ((if_neg d0).trans (if_pos rfl)))
     clear HH d0
     simp only [Prod.mk.injEq] at H2
     obtain ⟨rfl, rfl, rfl⟩ := H2.out
     clear H2
     go_enter Tryz.func29, Tryz.ntmps29
     go_wp2_with (first | (go_at_call 49; (with_reducible refine (Cj.calls g s0_0 s0_1 s0_2 (a1.size : Int) (pn : Int) p2 p3 w0 _ ?side1 ?side2 AA1.out).mono ?_); (case side1 => repeat (first | (with_reducible first | exact HI0.out | apply Aj.alloc | apply Aj.drewN | apply Aj.drew | apply Aj.Dv | apply Aj.Du) | exact HI0.out)); (case side2 => repeat (first | (with_reducible first | exact HB.out | apply Ae | apply Aa | apply Ad | refine Am ?_ (Aj.ge HI0.out)) | exact HB.out)); rintro e w' ⟨rfl, hi, hb, hk⟩; have n0_ := Ac.mk (A8.trans Yh_ hk (.inl rfl)); have n1_ := Ac.mk hb; have n2_ := Ac.mk hi; clear HK HB HI0; have HK := n0_; have HB := n1_; have HI0 := n2_; clear n0_ n1_ n2_ hb hk hi) | (go_at_call 49; (with_reducible refine (Cj.calls g s0_0 p2 p3 (a2.size : Int) (qn : Int) q2 q3 w0 _ ?side1 ?side2 AA2.out).mono ?_); (case side1 => repeat (first | (with_reducible first | exact HI0.out | apply Aj.alloc | apply Aj.drewN | apply Aj.drew | apply Aj.Dv | apply Aj.Du) | exact HI0.out)); (case side2 => repeat (first | (with_reducible first | exact HB.out | apply Ae | apply Aa | apply Ad | refine Am ?_ (Aj.ge HI0.out)) | exact HB.out)); rintro e w' ⟨rfl, hi, hb, hk⟩; have n0_ := Ac.mk (A8.trans Yh_ hk (.inl rfl)); have n1_ := Ac.mk hb; have n2_ := Ac.mk hi; clear HK HB HI0; have HK := n0_; have HB := n1_; have HI0 := n2_; clear n0_ n1_ n2_ hb hk hi) | (go_at_call 49; (with_reducible refine (Cj.calls g s0_0 q2 q3 3 1 _ _ w0 _ ?side1 ?side2 AA3.out).mono ?_); (case side1 => repeat (first | (with_reducible first | exact HI0.out | apply Aj.alloc | apply Aj.drewN | apply Aj.drew | apply Aj.Dv | apply Aj.Du) | exact HI0.out)); (case side2 => repeat (first | (with_reducible first | exact HB.out | apply Ae | apply Aa | apply Ad | refine Am ?_ (Aj.ge HI0.out)) | exact HB.out)); rintro e w' ⟨rfl, hi, hb, hk⟩; have n0_ := Ac.mk (A8.trans Yh_ hk (.inl rfl)); have n1_ := Ac.mk hb; have n2_ := Ac.mk hi; clear HK HB HI0; have HK := n0_; have HB := n1_; have HI0 := n2_; clear n0_ n1_ n2_ hb hk hi))
     have hC := CC.out
     have x5 := X5.out
     have x5b : ((pn : Int) + 1 ≤ (a1.size : Int)) = True := eq_true (by omega)
     have x5c : (0 ≤ (pn : Int) + 1) = True := eq_true (by omega)
     have x6 : ((pn : Int) + 1).toNat = pn + 1 := by omega
     have z0 : (9223372036854775807 < pn + 1) = False := eq_false (by omega)
     have z1 : (9223372036854775807 < pn + 1 + (a1.size - (pn + 1))) = False := eq_false (by omega)
     have z2 : (9223372036854775807 < a1.size) = False := eq_false (by omega)
     clear hC
     repeat (go_quiet (fail); try go_wp2)
     go_ret
     exact ⟨by first | rfl | (simp [*]; done), by repeat (first | (with_reducible first | exact HI0.out | apply Aj.alloc | apply Aj.drewN | apply Aj.drew | apply Aj.Dv | apply Aj.Du) | exact HI0.out), by repeat (first | (with_reducible first | exact HB.out | apply Ae | apply Aa | apply Ad | refine Am ?_ (Aj.ge HI0.out)) | exact HB.out), by repeat (first | (with_reducible first | exact HK.out | apply A8.Eo | apply Bq | apply Ce | apply Bv) | exact HK.out)⟩
    ·have H2 := Ac.mk (HH.out.symm.trans ((if_neg d0).trans (if_neg d1)))
     clear HH
     simp only [Prod.mk.injEq] at H2
     obtain ⟨rfl, rfl, rfl⟩ := H2.out
     clear H2
     have d0b : (m == 0) = false := beq_eq_false_iff_ne.mpr d0
     have d1b : (m == 1) = false := beq_eq_false_iff_ne.mpr d1
     clear d0 d1
     go_enter Tryz.func29, Tryz.ntmps29
     go_wp2_with (first | (go_at_call 49; (with_reducible refine (Cj.calls g s0_0 s0_1 s0_2 (a1.size : Int) (pn : Int) p2 p3 w0 _ ?side1 ?side2 AA1.out).mono ?_); (case side1 => repeat (first | (with_reducible first | exact HI0.out | apply Aj.alloc | apply Aj.drewN | apply Aj.drew | apply Aj.Dv | apply Aj.Du) | exact HI0.out)); (case side2 => repeat (first | (with_reducible first | exact HB.out | apply Ae | apply Aa | apply Ad | refine Am ?_ (Aj.ge HI0.out)) | exact HB.out)); rintro e w' ⟨rfl, hi, hb, hk⟩; have n0_ := Ac.mk (A8.trans Yh_ hk (.inl rfl)); have n1_ := Ac.mk hb; have n2_ := Ac.mk hi; clear HK HB HI0; have HK := n0_; have HB := n1_; have HI0 := n2_; clear n0_ n1_ n2_ hb hk hi) | (go_at_call 49; (with_reducible refine (Cj.calls g s0_0 p2 p3 (a2.size : Int) (qn : Int) q2 q3 w0 _ ?side1 ?side2 AA2.out).mono ?_); (case side1 => repeat (first | (with_reducible first | exact HI0.out | apply Aj.alloc | apply Aj.drewN | apply Aj.drew | apply Aj.Dv | apply Aj.Du) | exact HI0.out)); (case side2 => repeat (first | (with_reducible first | exact HB.out | apply Ae | apply Aa | apply Ad | refine Am ?_ (Aj.ge HI0.out)) | exact HB.out)); rintro e w' ⟨rfl, hi, hb, hk⟩; have n0_ := Ac.mk (A8.trans Yh_ hk (.inl rfl)); have n1_ := Ac.mk hb; have n2_ := Ac.mk hi; clear HK HB HI0; have HK := n0_; have HB := n1_; have HI0 := n2_; clear n0_ n1_ n2_ hb hk hi) | (go_at_call 49; (with_reducible refine (Cj.calls g s0_0 q2 q3 3 m _ _ w0 _ ?side1 ?side2 AA3.out).mono ?_); (case side1 => repeat (first | (with_reducible first | exact HI0.out | apply Aj.alloc | apply Aj.drewN | apply Aj.drew | apply Aj.Dv | apply Aj.Du) | exact HI0.out)); (case side2 => repeat (first | (with_reducible first | exact HB.out | apply Ae | apply Aa | apply Ad | refine Am ?_ (Aj.ge HI0.out)) | exact HB.out)); rintro e w' ⟨rfl, hi, hb, hk⟩; have n0_ := Ac.mk (A8.trans Yh_ hk (.inl rfl)); have n1_ := Ac.mk hb; have n2_ := Ac.mk hi; clear HK HB HI0; have HK := n0_; have HB := n1_; have HI0 := n2_; clear n0_ n1_ n2_ hb hk hi))
     have hC := CC.out
     have x5 := X5.out
     have x5b : ((pn : Int) + 1 ≤ (a1.size : Int)) = True := eq_true (by omega)
     have x5c : (0 ≤ (pn : Int) + 1) = True := eq_true (by omega)
     have x6 : ((pn : Int) + 1).toNat = pn + 1 := by omega
     have z0 : (9223372036854775807 < pn + (a1.size - (pn + 1))) = False := eq_false (by omega)
     clear hC
     repeat (go_quiet (fail); try go_wp2)
     go_ret
     exact ⟨by first | rfl | (simp [*]; done), by repeat (first | (with_reducible first | exact HI0.out | apply Aj.alloc | apply Aj.drewN | apply Aj.drew | apply Aj.Dv | apply Aj.Du) | exact HI0.out), by repeat (first | (with_reducible first | exact HB.out | apply Ae | apply Aa | apply Ad | refine Am ?_ (Aj.ge HI0.out)) | exact HB.out), by repeat (first | (with_reducible first | exact HK.out | apply A8.Eo | apply Bq | apply Ce | apply Bv) | exact HK.out)⟩
  ·rw [if_neg c] at h; cases h
def En.l0 : Nat → ByteArray → Int → Option (Bool)
 | 0, _, _ => none
 | k + 1, x0, x3 => if x3 < 7 then (if x3 < 3 then (if 0 ≤ x3 then (if x3 < (x0.size : Int) then (if (bt x0 x3) < 65 then (some false) else (if (bt x0 x3) > 90 then (some false) else (if x3 > 2 then (if (bt x0 x3) < 48 then (some false) else (if (bt x0 x3) > 57 then (some false) else (En.l0 k x0 (wrap64 (x3 + 1))))) else (En.l0 k x0 (wrap64 (x3 + 1)))))) else (none)) else (none)) else (if x3 > 2 then (if 0 ≤ x3 then (if x3 < (x0.size : Int) then (if (bt x0 x3) < 48 then (some false) else (if (bt x0 x3) > 57 then (some false) else (En.l0 k x0 (wrap64 (x3 + 1))))) else (none)) else (none)) else (En.l0 k x0 (wrap64 (x3 + 1))))) else (some true)
def En.f (k : Nat) (a0 : ByteArray) : Option (Bool) := if (a0.size : Int) = 7 then (En.l0 k a0 0) else (some false)
theorem En.Fa : ∀ k, (∀ y0 y1, LeO (En.l0 k y0 y1) (En.l0 (k + 1) y0 y1))
 | 0 => fun _ _ r h => by simp [En.l0] at h
 | k + 1 => by
  have ih0 := En.Fa k
  ·intro y0 y1
   unfold En.l0
   repeat' first
   | (with_reducible exact ih0 _ _)
   | (with_reducible exact LeO.refl _)
   | (with_reducible exact LeO.none _)
   | (with_reducible refine LeO.ite ?_ ?_)
   | (with_reducible refine LeO.bind ?_ (fun _ => ?_))
   | exact ih0 _ _
   | exact LeO.none _
   | refine LeO.ite ?_ ?_
   | refine LeO.bind ?_ (fun _ => ?_)
theorem En.mono : ∀ a0 k, LeO (En.f k a0) (En.f (k + 1) a0) := by
 intro a0 k
 have ih0 := En.Fa k
 unfold En.f
 repeat' first
   | (with_reducible exact ih0 _ _)
   | (with_reducible exact LeO.refl _)
   | (with_reducible exact LeO.none _)
   | (with_reducible refine LeO.ite ?_ ?_)
   | (with_reducible refine LeO.bind ?_ (fun _ => ?_))
   | exact ih0 _ _
   | exact LeO.none _
   | refine LeO.ite ?_ ?_
   | refine LeO.bind ?_ (fun _ => ?_)
set_option maxHeartbeats 8000000 in
set_option maxRecDepth 100000 in
theorem En.calls (k : Nat) (a0 : ByteArray) (r : Bool) (w : World) (h : En.f k a0 = some r) :
  Calls Tryz.prog 62 #[.string a0] w fun e w' => e = .returned (.bool r) ∧ C9 w w' := by
 have H : (if (a0.size : Int) = 7 then (En.l0 k a0 0) else (some false)) = some r := h
 clear h
 by_cases c2 : (a0.size : Int) = 7
 ·rw [if_pos c2] at H
  have c2b0 : ((a0.size : Int) == 7) = true := beq_iff_eq.mpr c2
  have c2b1 : ((a0.size : Int) != 7) = false := bne_eq_false_iff_eq.mpr c2
  clear c2
  have H' := Ac.mk H
  clear H
  go_enter Tryz.func62, Tryz.ntmps62
  go_wp2
  go_loopg [3] k (fun kq v3 w' => ∃ (x3_1 : Int), v3 = .int .i64 x3_1 ∧ Ac (En.l0 kq a0 x3_1 = some r) ∧ Ac (kq ≤ k) ∧ C9 w w')
  case atStart => exact ⟨(0), Yf_, H', ⟨Nat.le_refl _⟩, by repeat (first | exact C9.refl _ | apply C9.step)⟩
  case round =>
   clear H'
   try clear c2; try clear c2b0; try clear c2b1; try clear p2
   obtain ⟨x3_1, rfl, HA, HK1, ⟨m1, rfl⟩⟩ := hrel
   cases gk with
   | zero => exact absurd HA.out (by simp [En.l0])
   | succ k1 =>
    have H := HA.out
    clear HA
    simp only [En.l0] at H
    by_cases c3 : x3_1 < 7
    ·rw [if_pos c3] at H
     have c3b0 : decide (x3_1 < 7) = true := decide_eq_true c3
     clear c3
     by_cases c4 : x3_1 < 3
     ·rw [if_pos c4] at H
      have c4b0 : decide (x3_1 < 3) = true := decide_eq_true c4
      clear c4
      by_cases c5 : 0 ≤ x3_1
      ·rw [if_pos c5] at H
       have c5b0 : decide (0 ≤ x3_1) = true := decide_eq_true c5
       clear c5
       by_cases c6 : x3_1 < (a0.size : Int)
       ·rw [if_pos c6] at H
        have c6b0 : decide (x3_1 < (a0.size : Int)) = true := decide_eq_true c6
        clear c6
        by_cases c8 : (bt a0 x3_1) < 65
        ·rw [if_pos c8] at H
         have c8b0 : decide ((bt a0 x3_1) < 65) = true := decide_eq_true c8
         clear c8
         obtain rfl := Option.some.inj H
         have p7 : 0 ≤ (x3_1 : Int) := of_decide_eq_true Ye_
         have q7 : x3_1 < (a0.size : Int) := of_decide_eq_true Ye_
         have hx7 := Gm a0 x3_1
         replace p7 := eq_true p7
         replace q7 := eq_true q7
         go_wp2
         go_ret
         exact ⟨by first | rfl | (simp; done) | (simp [*]; done), by repeat (first | exact C9.refl _ | apply C9.step)⟩
        ·rw [if_neg c8] at H
         have c8b0 : decide ((bt a0 x3_1) < 65) = false := decide_eq_false c8
         clear c8
         by_cases c10 : (bt a0 x3_1) > 90
         ·rw [if_pos c10] at H
          have c10b0 : decide (90 < (bt a0 x3_1)) = true := decide_eq_true c10
          clear c10
          obtain rfl := Option.some.inj H
          have p7 : 0 ≤ (x3_1 : Int) := of_decide_eq_true Ye_
          have q7 : x3_1 < (a0.size : Int) := of_decide_eq_true Ye_
          have hx7 := Gm a0 x3_1
          replace p7 := eq_true p7
          replace q7 := eq_true q7
          have p9 : 0 ≤ (x3_1 : Int) := of_decide_eq_true Ye_
          have q9 : x3_1 < (a0.size : Int) := of_decide_eq_true Ye_
          have hx9 := Gm a0 x3_1
          replace p9 := eq_true p9
          replace q9 := eq_true q9
          go_wp2
          go_ret
          exact ⟨by first | rfl | (simp; done) | (simp [*]; done), by repeat (first | exact C9.refl _ | apply C9.step)⟩
         ·rw [if_neg c10] at H
          have c10b0 : decide (90 < (bt a0 x3_1)) = false := decide_eq_false c10
          clear c10
          by_cases c11 : x3_1 > 2
          ·rw [if_pos c11] at H
           have c11b0 : decide (2 < x3_1) = true := decide_eq_true c11
           clear c11
           by_cases c13 : (bt a0 x3_1) < 48
           ·rw [if_pos c13] at H
            have c13b0 : decide ((bt a0 x3_1) < 48) = true := decide_eq_true c13
            clear c13
            obtain rfl := Option.some.inj H
            have p7 : 0 ≤ (x3_1 : Int) := of_decide_eq_true Ye_
            have q7 : x3_1 < (a0.size : Int) := of_decide_eq_true Ye_
            have hx7 := Gm a0 x3_1
            replace p7 := eq_true p7
            replace q7 := eq_true q7
            have p9 : 0 ≤ (x3_1 : Int) := of_decide_eq_true Ye_
            have q9 : x3_1 < (a0.size : Int) := of_decide_eq_true Ye_
            have hx9 := Gm a0 x3_1
            replace p9 := eq_true p9
            replace q9 := eq_true q9
            have p12 : 0 ≤ (x3_1 : Int) := of_decide_eq_true Ye_
            have q12 : x3_1 < (a0.size : Int) := of_decide_eq_true Ye_
            have hx12 := Gm a0 x3_1
            replace p12 := eq_true p12
            replace q12 := eq_true q12
            go_wp2
            go_ret
            exact ⟨by first | rfl | (simp; done) | (simp [*]; done), by repeat (first | exact C9.refl _ | apply C9.step)⟩
           ·rw [if_neg c13] at H
            have c13b0 : decide ((bt a0 x3_1) < 48) = false := decide_eq_false c13
            clear c13
            by_cases c15 : (bt a0 x3_1) > 57
            ·rw [if_pos c15] at H
             have c15b0 : decide (57 < (bt a0 x3_1)) = true := decide_eq_true c15
             clear c15
             obtain rfl := Option.some.inj H
             have p7 : 0 ≤ (x3_1 : Int) := of_decide_eq_true Ye_
             have q7 : x3_1 < (a0.size : Int) := of_decide_eq_true Ye_
             have hx7 := Gm a0 x3_1
             replace p7 := eq_true p7
             replace q7 := eq_true q7
             have p9 : 0 ≤ (x3_1 : Int) := of_decide_eq_true Ye_
             have q9 : x3_1 < (a0.size : Int) := of_decide_eq_true Ye_
             have hx9 := Gm a0 x3_1
             replace p9 := eq_true p9
             replace q9 := eq_true q9
             have p12 : 0 ≤ (x3_1 : Int) := of_decide_eq_true Ye_
             have q12 : x3_1 < (a0.size : Int) := of_decide_eq_true Ye_
             have hx12 := Gm a0 x3_1
             replace p12 := eq_true p12
             replace q12 := eq_true q12
             have p14 : 0 ≤ (x3_1 : Int) := of_decide_eq_true Ye_
             have q14 : x3_1 < (a0.size : Int) := of_decide_eq_true Ye_
             have hx14 := Gm a0 x3_1
             replace p14 := eq_true p14
             replace q14 := eq_true q14
             go_wp2
             go_ret
             exact ⟨by first | rfl | (simp; done) | (simp [*]; done), by repeat (first | exact C9.refl _ | apply C9.step)⟩
            ·rw [if_neg c15] at H
             have c15b0 : decide (57 < (bt a0 x3_1)) = false := decide_eq_false c15
             clear c15
             have H' := Ac.mk H
             clear H
             have p7 : 0 ≤ (x3_1 : Int) := of_decide_eq_true Ye_
             have q7 : x3_1 < (a0.size : Int) := of_decide_eq_true Ye_
             have hx7 := Gm a0 x3_1
             replace p7 := eq_true p7
             replace q7 := eq_true q7
             have p9 : 0 ≤ (x3_1 : Int) := of_decide_eq_true Ye_
             have q9 : x3_1 < (a0.size : Int) := of_decide_eq_true Ye_
             have hx9 := Gm a0 x3_1
             replace p9 := eq_true p9
             replace q9 := eq_true q9
             have p12 : 0 ≤ (x3_1 : Int) := of_decide_eq_true Ye_
             have q12 : x3_1 < (a0.size : Int) := of_decide_eq_true Ye_
             have hx12 := Gm a0 x3_1
             replace p12 := eq_true p12
             replace q12 := eq_true q12
             have p14 : 0 ≤ (x3_1 : Int) := of_decide_eq_true Ye_
             have q14 : x3_1 < (a0.size : Int) := of_decide_eq_true Ye_
             have hx14 := Gm a0 x3_1
             replace p14 := eq_true p14
             replace q14 := eq_true q14
             go_wp2
             go_roundg k1
             case measure => have := HK1.out; omega
             case rel => exact ⟨(wrap64 (x3_1 + 1)), Yf_, H', ⟨by have := HK1.out; omega⟩, by repeat (first | exact C9.refl _ | apply C9.step)⟩
          ·rw [if_neg c11] at H
           have c11b0 : decide (2 < x3_1) = false := decide_eq_false c11
           clear c11
           have H' := Ac.mk H
           clear H
           have p7 : 0 ≤ (x3_1 : Int) := of_decide_eq_true Ye_
           have q7 : x3_1 < (a0.size : Int) := of_decide_eq_true Ye_
           have hx7 := Gm a0 x3_1
           replace p7 := eq_true p7
           replace q7 := eq_true q7
           have p9 : 0 ≤ (x3_1 : Int) := of_decide_eq_true Ye_
           have q9 : x3_1 < (a0.size : Int) := of_decide_eq_true Ye_
           have hx9 := Gm a0 x3_1
           replace p9 := eq_true p9
           replace q9 := eq_true q9
           go_wp2
           go_roundg k1
           case measure => have := HK1.out; omega
           case rel => exact ⟨(wrap64 (x3_1 + 1)), Yf_, H', ⟨by have := HK1.out; omega⟩, by repeat (first | exact C9.refl _ | apply C9.step)⟩
       ·rw [if_neg c6] at H
        exact absurd H (by simp)
      ·rw [if_neg c5] at H
       exact absurd H (by simp)
     ·rw [if_neg c4] at H
      have c4b0 : decide (x3_1 < 3) = false := decide_eq_false c4
      clear c4
      by_cases c16 : x3_1 > 2
      ·rw [if_pos c16] at H
       have c16b0 : decide (2 < x3_1) = true := decide_eq_true c16
       clear c16
       by_cases c17 : 0 ≤ x3_1
       ·rw [if_pos c17] at H
        have c17b0 : decide (0 ≤ x3_1) = true := decide_eq_true c17
        clear c17
        by_cases c18 : x3_1 < (a0.size : Int)
        ·rw [if_pos c18] at H
         have c18b0 : decide (x3_1 < (a0.size : Int)) = true := decide_eq_true c18
         clear c18
         by_cases c20 : (bt a0 x3_1) < 48
         ·rw [if_pos c20] at H
          have c20b0 : decide ((bt a0 x3_1) < 48) = true := decide_eq_true c20
          clear c20
          obtain rfl := Option.some.inj H
          have p19 : 0 ≤ (x3_1 : Int) := of_decide_eq_true Ye_
          have q19 : x3_1 < (a0.size : Int) := of_decide_eq_true Ye_
          have hx19 := Gm a0 x3_1
          replace p19 := eq_true p19
          replace q19 := eq_true q19
          go_wp2
          go_ret
          exact ⟨by first | rfl | (simp; done) | (simp [*]; done), by repeat (first | exact C9.refl _ | apply C9.step)⟩
         ·rw [if_neg c20] at H
          have c20b0 : decide ((bt a0 x3_1) < 48) = false := decide_eq_false c20
          clear c20
          by_cases c22 : (bt a0 x3_1) > 57
          ·rw [if_pos c22] at H
           have c22b0 : decide (57 < (bt a0 x3_1)) = true := decide_eq_true c22
           clear c22
           obtain rfl := Option.some.inj H
           have p19 : 0 ≤ (x3_1 : Int) := of_decide_eq_true Ye_
           have q19 : x3_1 < (a0.size : Int) := of_decide_eq_true Ye_
           have hx19 := Gm a0 x3_1
           replace p19 := eq_true p19
           replace q19 := eq_true q19
           have p21 : 0 ≤ (x3_1 : Int) := of_decide_eq_true Ye_
           have q21 : x3_1 < (a0.size : Int) := of_decide_eq_true Ye_
           have hx21 := Gm a0 x3_1
           replace p21 := eq_true p21
           replace q21 := eq_true q21
           go_wp2
           go_ret
           exact ⟨by first | rfl | (simp; done) | (simp [*]; done), by repeat (first | exact C9.refl _ | apply C9.step)⟩
          ·rw [if_neg c22] at H
           have c22b0 : decide (57 < (bt a0 x3_1)) = false := decide_eq_false c22
           clear c22
           have H' := Ac.mk H
           clear H
           have p19 : 0 ≤ (x3_1 : Int) := of_decide_eq_true Ye_
           have q19 : x3_1 < (a0.size : Int) := of_decide_eq_true Ye_
           have hx19 := Gm a0 x3_1
           replace p19 := eq_true p19
           replace q19 := eq_true q19
           have p21 : 0 ≤ (x3_1 : Int) := of_decide_eq_true Ye_
           have q21 : x3_1 < (a0.size : Int) := of_decide_eq_true Ye_
           have hx21 := Gm a0 x3_1
           replace p21 := eq_true p21
           replace q21 := eq_true q21
           go_wp2
           go_roundg k1
           case measure => have := HK1.out; omega
           case rel => exact ⟨(wrap64 (x3_1 + 1)), Yf_, H', ⟨by have := HK1.out; omega⟩, by repeat (first | exact C9.refl _ | apply C9.step)⟩
        ·rw [if_neg c18] at H
         exact absurd H (by simp)
       ·rw [if_neg c17] at H
        exact absurd H (by simp)
      ·rw [if_neg c16] at H
       have c16b0 : decide (2 < x3_1) = false := decide_eq_false c16
       clear c16
       have H' := Ac.mk H
       clear H
       go_wp2
       go_roundg k1
       case measure => have := HK1.out; omega
       case rel => exact ⟨(wrap64 (x3_1 + 1)), Yf_, H', ⟨by have := HK1.out; omega⟩, by repeat (first | exact C9.refl _ | apply C9.step)⟩
    ·rw [if_neg c3] at H
     have c3b0 : decide (x3_1 < 7) = false := decide_eq_false c3
     clear c3
     obtain rfl := Option.some.inj H
     go_wp2
     go_ret
     exact ⟨by first | rfl | (simp; done) | (simp [*]; done), by repeat (first | exact C9.refl _ | apply C9.step)⟩
 ·rw [if_neg c2] at H
  have c2b0 : ((a0.size : Int) == 7) = false := beq_eq_false_iff_ne.mpr c2
  have c2b1 : ((a0.size : Int) != 7) = true := bne_iff_ne.mpr c2
  obtain rfl := Option.some.inj H
  go_enter Tryz.func62, Tryz.ntmps62
  go_wp2
  go_ret
  exact ⟨by first | rfl | (simp; done) | (simp [*]; done), by repeat (first | exact C9.refl _ | apply C9.step)⟩
def Gi.f (k : Nat) (a0 : ByteArray) : Option (Bool) := if (a0.size : Int) = 8 then (if 0 ≤ 7 then (if 7 ≤ (a0.size : Int) then ((En.f k (a0.extract 0 7)).bind fun t252 => (if t252 = true then (if 7 < (a0.size : Int) then ((Ee.f k (a0.extract 0 7)).bind fun t253 => (some ((bt a0 7) == t253))) else (none)) else (some false))) else (none)) else (none)) else (some false)
theorem Gi.mono : ∀ a0 k, LeO (Gi.f k a0) (Gi.f (k + 1) a0) := by
 intro a0 k
 unfold Gi.f
 repeat' first
   | (with_reducible exact Ee.mono _ _)
   | (with_reducible exact En.mono _ _)
   | (with_reducible exact LeO.refl _)
   | (with_reducible exact LeO.none _)
   | (with_reducible refine LeO.ite ?_ ?_)
   | (with_reducible refine LeO.bind ?_ (fun _ => ?_))
   | exact Ee.mono _ _
   | exact En.mono _ _
   | exact LeO.none _
   | refine LeO.ite ?_ ?_
   | refine LeO.bind ?_ (fun _ => ?_)
set_option maxHeartbeats 8000000 in
set_option maxRecDepth 100000 in
theorem Gi.calls (k : Nat) (a0 : ByteArray) (r : Bool) (w : World) (h : Gi.f k a0 = some r) :
  Calls Tryz.prog 40 #[.string a0] w fun e w' => e = .returned (.bool r) ∧ C9 w w' := by
 have H : (if (a0.size : Int) = 8 then (if 0 ≤ 7 then (if 7 ≤ (a0.size : Int) then ((En.f k (a0.extract 0 7)).bind fun t252 => (if t252 = true then (if 7 < (a0.size : Int) then ((Ee.f k (a0.extract 0 7)).bind fun t253 => (some ((bt a0 7) == t253))) else (none)) else (some false))) else (none)) else (none)) else (some false)) = some r := h
 clear h
 by_cases c2 : (a0.size : Int) = 8
 ·rw [if_pos c2] at H
  have c2b0 : ((a0.size : Int) == 8) = true := beq_iff_eq.mpr c2
  have c2b1 : ((a0.size : Int) != 8) = false := bne_eq_false_iff_eq.mpr c2
  clear c2
  by_cases c3 : 0 ≤ 7
  ·rw [if_pos c3] at H
   have c3b0 := eq_true c3
   have c3b1 : decide (0 ≤ 7) = true := decide_eq_true c3
   clear c3
   by_cases c4 : 7 ≤ (a0.size : Int)
   ·rw [if_pos c4] at H
    have c4b0 := eq_true c4
    have c4b1 : decide (7 ≤ (a0.size : Int)) = true := decide_eq_true c4
    clear c4
    replace H := Option.bind_eq_some_iff.mp H
    obtain ⟨t252, A50, H⟩ := H
    try dsimp only at H
    have A5 := Ac.mk A50
    clear A50
    by_cases c6 : t252 = true
    ·subst c6
     have H1 : (if 7 < (a0.size : Int) then ((Ee.f k (a0.extract 0 7)).bind fun t253 => (some ((bt a0 7) == t253))) else (none)) = some r := by rw [if_pos rfl] at H; exact H
     clear H
     have H := H1
     clear H1
     by_cases c7 : 7 < (a0.size : Int)
     ·rw [if_pos c7] at H
      have c7b0 : decide (7 < (a0.size : Int)) = true := decide_eq_true c7
      have c7b1 : decide (7 < a0.size) = true := decide_eq_true (by omega)
      clear c7
      have c9b0 := eq_true (of_decide_eq_true Ye_ : 0 ≤ 7)
      have c10b0 := eq_true (of_decide_eq_true Ye_ : 7 ≤ (a0.size : Int))
      replace H := Option.bind_eq_some_iff.mp H
      obtain ⟨t253, A110, H⟩ := H
      try dsimp only at H
      have A11 := Ac.mk A110
      clear A110
      obtain rfl := Option.some.inj H
      go_enter Tryz.func40, Tryz.ntmps40
      go_wp2_with (first | (go_at_call 62; (with_reducible refine (En.calls k (a0.extract 0 7) true _ A5.out).mono ?_); rintro e w' ⟨rfl, ⟨nd, rfl⟩⟩; (try first | exact ⟨rfl, _, World.drewN_drewN _ _ _⟩ | exact ⟨rfl, _, Eq.trans (World.drewN_drewN _ _ _) (congrArg (World.drewN _) (Nat.add_assoc _ _ _))⟩); have p8 : 0 ≤ (7 : Int) := (by omega); have q8 : 7 < a0.size := (by have : (7 : Int) < (a0.size : Int) := of_decide_eq_true Ye_; omega); have hx8 : ∀ h : 7 < a0.size, ((a0[7]'h).toNat : Int) = bt a0 7 := Gm a0 7; clear p8; have qi8 : (7 < (a0.size : Int)) = True := eq_true (of_decide_eq_true Ye_); replace q8 := eq_true q8) | (go_at_call 63; (with_reducible refine (Ee.calls k (a0.extract 0 7) t253 _ A11.out).mono ?_); rintro e w' ⟨rfl, ⟨nd, rfl⟩⟩; (try first | exact ⟨rfl, _, World.drewN_drewN _ _ _⟩ | exact ⟨rfl, _, Eq.trans (World.drewN_drewN _ _ _) (congrArg (World.drewN _) (Nat.add_assoc _ _ _))⟩)))
      repeat (go_quiet (first | (go_at_call 62; (with_reducible refine (En.calls k (a0.extract 0 7) true _ A5.out).mono ?_); rintro e w' ⟨rfl, ⟨nd, rfl⟩⟩; (try first | exact ⟨rfl, _, World.drewN_drewN _ _ _⟩ | exact ⟨rfl, _, Eq.trans (World.drewN_drewN _ _ _) (congrArg (World.drewN _) (Nat.add_assoc _ _ _))⟩); have p8 : 0 ≤ (7 : Int) := (by omega); have q8 : 7 < a0.size := (by have : (7 : Int) < (a0.size : Int) := of_decide_eq_true Ye_; omega); have hx8 : ∀ h : 7 < a0.size, ((a0[7]'h).toNat : Int) = bt a0 7 := Gm a0 7; clear p8; have qi8 : (7 < (a0.size : Int)) = True := eq_true (of_decide_eq_true Ye_); replace q8 := eq_true q8) | (go_at_call 63; (with_reducible refine (Ee.calls k (a0.extract 0 7) t253 _ A11.out).mono ?_); rintro e w' ⟨rfl, ⟨nd, rfl⟩⟩; (try first | exact ⟨rfl, _, World.drewN_drewN _ _ _⟩ | exact ⟨rfl, _, Eq.trans (World.drewN_drewN _ _ _) (congrArg (World.drewN _) (Nat.add_assoc _ _ _))⟩))); try go_wp2_with (first | (go_at_call 62; (with_reducible refine (En.calls k (a0.extract 0 7) true _ A5.out).mono ?_); rintro e w' ⟨rfl, ⟨nd, rfl⟩⟩; (try first | exact ⟨rfl, _, World.drewN_drewN _ _ _⟩ | exact ⟨rfl, _, Eq.trans (World.drewN_drewN _ _ _) (congrArg (World.drewN _) (Nat.add_assoc _ _ _))⟩); have p8 : 0 ≤ (7 : Int) := (by omega); have q8 : 7 < a0.size := (by have : (7 : Int) < (a0.size : Int) := of_decide_eq_true Ye_; omega); have hx8 : ∀ h : 7 < a0.size, ((a0[7]'h).toNat : Int) = bt a0 7 := Gm a0 7; clear p8; have qi8 : (7 < (a0.size : Int)) = True := eq_true (of_decide_eq_true Ye_); replace q8 := eq_true q8) | (go_at_call 63; (with_reducible refine (Ee.calls k (a0.extract 0 7) t253 _ A11.out).mono ?_); rintro e w' ⟨rfl, ⟨nd, rfl⟩⟩; (try first | exact ⟨rfl, _, World.drewN_drewN _ _ _⟩ | exact ⟨rfl, _, Eq.trans (World.drewN_drewN _ _ _) (congrArg (World.drewN _) (Nat.add_assoc _ _ _))⟩))))
      go_ret
      exact ⟨by first | rfl | (simp; done) | (simp [*]; done), by repeat (first | exact C9.refl _ | apply C9.step)⟩
     ·rw [if_neg c7] at H
      exact absurd H (by simp)
    ·replace c6 := Bool.eq_false_iff.mpr c6
     subst c6
     have H1 : (some false) = some r := by rw [if_neg (show ¬ (false = true) by decide)] at H; exact H
     clear H
     have H := H1
     clear H1
     obtain rfl := Option.some.inj H
     go_enter Tryz.func40, Tryz.ntmps40
     go_wp2_with (first | (go_at_call 62; (with_reducible refine (En.calls k (a0.extract 0 7) false _ A5.out).mono ?_); rintro e w' ⟨rfl, ⟨nd, rfl⟩⟩; (try first | exact ⟨rfl, _, World.drewN_drewN _ _ _⟩ | exact ⟨rfl, _, Eq.trans (World.drewN_drewN _ _ _) (congrArg (World.drewN _) (Nat.add_assoc _ _ _))⟩)))
     repeat (go_quiet (first | (go_at_call 62; (with_reducible refine (En.calls k (a0.extract 0 7) false _ A5.out).mono ?_); rintro e w' ⟨rfl, ⟨nd, rfl⟩⟩; (try first | exact ⟨rfl, _, World.drewN_drewN _ _ _⟩ | exact ⟨rfl, _, Eq.trans (World.drewN_drewN _ _ _) (congrArg (World.drewN _) (Nat.add_assoc _ _ _))⟩))); try go_wp2_with (first | (go_at_call 62; (with_reducible refine (En.calls k (a0.extract 0 7) false _ A5.out).mono ?_); rintro e w' ⟨rfl, ⟨nd, rfl⟩⟩; (try first | exact ⟨rfl, _, World.drewN_drewN _ _ _⟩ | exact ⟨rfl, _, Eq.trans (World.drewN_drewN _ _ _) (congrArg (World.drewN _) (Nat.add_assoc _ _ _))⟩))))
     go_ret
     exact ⟨by first | rfl | (simp; done) | (simp [*]; done), by repeat (first | exact C9.refl _ | apply C9.step)⟩
   ·rw [if_neg c4] at H
    exact absurd H (by simp)
  ·rw [if_neg c3] at H
   exact absurd H (by simp)
 ·rw [if_neg c2] at H
  have c2b0 : ((a0.size : Int) == 8) = false := beq_eq_false_iff_ne.mpr c2
  have c2b1 : ((a0.size : Int) != 8) = true := bne_iff_ne.mpr c2
  obtain rfl := Option.some.inj H
  go_enter Tryz.func40, Tryz.ntmps40
  go_wp2
  repeat (go_quiet (fail); try go_wp2)
  go_ret
  exact ⟨by first | rfl | (simp; done) | (simp [*]; done), by repeat (first | exact C9.refl _ | apply C9.step)⟩
def Eb.f (a0 : Int) (a1 : Int) (a2 : Int) : Option (Bool) := if a0 ≥ a1 then (some (decide (a0 ≤ a2))) else (some false)
set_option maxHeartbeats 8000000 in
set_option maxRecDepth 100000 in
theorem Eb.calls (a0 : Int) (a1 : Int) (a2 : Int) (r : Bool) (w : World) (h : Eb.f a0 a1 a2 = some r) :
  Calls Tryz.prog 41 #[.int .i64 a0, .int .i64 a1, .int .i64 a2] w fun e w' => e = .returned (.bool r) ∧ C9 w w' := by
 have H : (if a0 ≥ a1 then (some (decide (a0 ≤ a2))) else (some false)) = some r := h
 clear h
 by_cases c4 : a0 ≥ a1
 ·rw [if_pos c4] at H
  have c4b0 : decide (a1 ≤ a0) = true := decide_eq_true c4
  clear c4
  obtain rfl := Option.some.inj H
  go_enter Tryz.func41, Tryz.ntmps41
  go_wp2
  go_ret
  exact ⟨by first | rfl | (simp; done) | (simp [*]; done), by repeat (first | exact C9.refl _ | apply C9.step)⟩
 ·rw [if_neg c4] at H
  have c4b0 : decide (a1 ≤ a0) = false := decide_eq_false c4
  clear c4
  obtain rfl := Option.some.inj H
  go_enter Tryz.func41, Tryz.ntmps41
  go_wp2
  go_ret
  exact ⟨by first | rfl | (simp; done) | (simp [*]; done), by repeat (first | exact C9.refl _ | apply C9.step)⟩
def E8.f (k : Nat) (a0_0 : Int) (a0_1 : ByteArray) (a0_2 : Int) (a0_3 : Int) : Option (Bool) := (Gi.f k a0_1).bind fun t255 => (if t255 = true then (if a0_0 = 1 then ((Eb.f a0_2 0 5).bind fun t256 => (if t256 = true then (some (a0_3 == 0)) else (some false))) else (if a0_0 = 2 then ((Eb.f a0_2 0 5).bind fun t257 => (if t257 = true then ((Eb.f a0_3 0 5).bind fun t258 => (if t258 = true then (some (a0_2 != a0_3)) else (some false))) else (some false))) else (if a0_0 = 3 then ((Eb.f a0_2 1 15).bind fun t259 => (if t259 = true then (some (a0_3 == 0)) else (some false))) else (if a0_0 = 4 then ((Eb.f a0_2 0 11).bind fun t260 => (if t260 = true then (some (a0_3 == 0)) else (some false))) else (if a0_0 = 5 then ((Eb.f a0_2 1 999999).bind fun t261 => (if t261 = true then ((Eb.f a0_3 1 400).bind fun t262 => (some t262)) else (some false))) else (some false)))))) else (some false))
theorem E8.mono : ∀ a0 a1 a2 a3 k, LeO (E8.f k a0 a1 a2 a3) (E8.f (k + 1) a0 a1 a2 a3) := by
 intro a0 a1 a2 a3 k
 unfold E8.f
 repeat' first
   | (with_reducible exact Gi.mono _ _)
   | (with_reducible exact LeO.refl _)
   | (with_reducible exact LeO.none _)
   | (with_reducible refine LeO.ite ?_ ?_)
   | (with_reducible refine LeO.bind ?_ (fun _ => ?_))
   | exact Gi.mono _ _
   | exact LeO.none _
   | refine LeO.ite ?_ ?_
   | refine LeO.bind ?_ (fun _ => ?_)
set_option maxHeartbeats 8000000 in
set_option maxRecDepth 100000 in
theorem E8.calls (k : Nat) (a0_0 : Int) (a0_1 : ByteArray) (a0_2 : Int) (a0_3 : Int) (r : Bool) (w : World) (h : E8.f k a0_0 a0_1 a0_2 a0_3 = some r) :
  Calls Tryz.prog 21 #[.agg #[.int .i64 a0_0, .string a0_1, .int .i64 a0_2, .int .i64 a0_3]] w fun e w' => e = .returned (.bool r) ∧ Below w.heap.size w w' := by
 have hu25 := Tryz.underlying25
 have HB := Ac.mk (Below.refl w.heap.size w)
 have H : ((Gi.f k a0_1).bind fun t255 => (if t255 = true then (if a0_0 = 1 then ((Eb.f a0_2 0 5).bind fun t256 => (if t256 = true then (some (a0_3 == 0)) else (some false))) else (if a0_0 = 2 then ((Eb.f a0_2 0 5).bind fun t257 => (if t257 = true then ((Eb.f a0_3 0 5).bind fun t258 => (if t258 = true then (some (a0_2 != a0_3)) else (some false))) else (some false))) else (if a0_0 = 3 then ((Eb.f a0_2 1 15).bind fun t259 => (if t259 = true then (some (a0_3 == 0)) else (some false))) else (if a0_0 = 4 then ((Eb.f a0_2 0 11).bind fun t260 => (if t260 = true then (some (a0_3 == 0)) else (some false))) else (if a0_0 = 5 then ((Eb.f a0_2 1 999999).bind fun t261 => (if t261 = true then ((Eb.f a0_3 1 400).bind fun t262 => (some t262)) else (some false))) else (some false)))))) else (some false))) = some r := h
 clear h
 replace H := Option.bind_eq_some_iff.mp H
 obtain ⟨t255, A20, H⟩ := H
 try dsimp only at H
 have A2 := Ac.mk A20
 clear A20
 by_cases c3 : t255 = true
 ·subst c3
  have H1 : (if a0_0 = 1 then ((Eb.f a0_2 0 5).bind fun t256 => (if t256 = true then (some (a0_3 == 0)) else (some false))) else (if a0_0 = 2 then ((Eb.f a0_2 0 5).bind fun t257 => (if t257 = true then ((Eb.f a0_3 0 5).bind fun t258 => (if t258 = true then (some (a0_2 != a0_3)) else (some false))) else (some false))) else (if a0_0 = 3 then ((Eb.f a0_2 1 15).bind fun t259 => (if t259 = true then (some (a0_3 == 0)) else (some false))) else (if a0_0 = 4 then ((Eb.f a0_2 0 11).bind fun t260 => (if t260 = true then (some (a0_3 == 0)) else (some false))) else (if a0_0 = 5 then ((Eb.f a0_2 1 999999).bind fun t261 => (if t261 = true then ((Eb.f a0_3 1 400).bind fun t262 => (some t262)) else (some false))) else (some false)))))) = some r := by rw [if_pos rfl] at H; exact H
  clear H
  have H := H1
  clear H1
  by_cases c4 : a0_0 = 1
  ·rw [if_pos c4] at H
   have c4b0 : (a0_0 == 1) = true := beq_iff_eq.mpr c4
   have c4b1 : (a0_0 != 1) = false := bne_eq_false_iff_eq.mpr c4
   clear c4
   replace H := Option.bind_eq_some_iff.mp H
   obtain ⟨t256, A50, H⟩ := H
   try dsimp only at H
   have A5 := Ac.mk A50
   clear A50
   by_cases c6 : t256 = true
   ·subst c6
    have H1 : (some (a0_3 == 0)) = some r := by rw [if_pos rfl] at H; exact H
    clear H
    have H := H1
    clear H1
    obtain rfl := Option.some.inj H
    go_enter Tryz.func21, Tryz.ntmps21
    go_wp2_with (first | ((with_reducible refine Dl (N := 1) rfl ?_); refine Dz ?hg (N := 1) ?hd (cs := #[.int .i64 a0_0, .string a0_1, .int .i64 a0_2, .int .i64 a0_3]) (t := 25) ?hr ?_; (case hd => rfl); (case hg => rfl); (case hr => first | (go_simp; done) | (go_simp; rfl)); intro gb0 hg w7 hbox hb; have n0_ := Ac.mk (Ar Yb_ hb); have n1_ := Ac.mk (hbox); have n2_ := Ac.mk ((by rw [hg]; exact (Ba Yb_) : w.heap.size ≤ gb0)); have n3_ := Ac.mk ((by rw [hg]; exact (Ba Yb_) : w.heap.size ≤ gb0)); clear HB; have HB := n0_; have BK0 := n1_; have GW0 := n2_; have GE0 := n3_; clear n0_ n1_ n2_ n3_; clear hb hbox hg; have hcz8_0 : w7.cell? ⟨gb0, 0, none⟩ = some (.int .i64 a0_0) := (Ak BK0.out 0).trans rfl; have hcz8_1 : w7.cell? ⟨gb0, 1, none⟩ = some (.string a0_1) := (Ak BK0.out 1).trans rfl; have hcz8_2 : w7.cell? ⟨gb0, 2, none⟩ = some (.int .i64 a0_2) := (Ak BK0.out 2).trans rfl; have hcz8_3 : w7.cell? ⟨gb0, 3, none⟩ = some (.int .i64 a0_3) := (Ak BK0.out 3).trans rfl; have hfz8_0 := Ai BK0.out 0; have hfz8_1 := Ai BK0.out 1; have hfz8_2 := Ai BK0.out 2; have hfz8_3 := Ai BK0.out 3) | ((with_reducible refine Ap (f := 40) rfl ?_); refine Bj (some 5) rfl rfl Tryz.func40 (by kernel_rfl) rfl #[.string a0_1] rfl Ya_ ?_; (with_reducible refine (Gi.calls k a0_1 true _ A2.out).mono ?_); rintro e w' ⟨rfl, ⟨nd, rfl⟩⟩; refine ⟨_, rfl, ?_⟩) | ((with_reducible refine Ap (f := 41) rfl ?_); refine Bj (some 13) rfl rfl Tryz.func41 (by kernel_rfl) rfl #[.int .i64 a0_2, .int .i64 0, .int .i64 5] rfl Ya_ ?_; (with_reducible refine (Eb.calls a0_2 0 5 true _ A5.out).mono ?_); rintro e w' ⟨rfl, ⟨nd, rfl⟩⟩; refine ⟨_, rfl, ?_⟩))
    go_ret
    exact ⟨by first | rfl | (simp [Au, Aw] <;> rfl) | (simp [*, Au, Aw] <;> rfl), by repeat (first | (with_reducible first | exact HB.out | apply Ae | apply Aa | apply Ad | refine Am ?_ GE0.out) | exact HB.out)⟩
   ·replace c6 := Bool.eq_false_iff.mpr c6
    subst c6
    have H1 : (some false) = some r := by rw [if_neg (show ¬ (false = true) by decide)] at H; exact H
    clear H
    have H := H1
    clear H1
    obtain rfl := Option.some.inj H
    go_enter Tryz.func21, Tryz.ntmps21
    go_wp2_with (first | ((with_reducible refine Dl (N := 1) rfl ?_); refine Dz ?hg (N := 1) ?hd (cs := #[.int .i64 a0_0, .string a0_1, .int .i64 a0_2, .int .i64 a0_3]) (t := 25) ?hr ?_; (case hd => rfl); (case hg => rfl); (case hr => first | (go_simp; done) | (go_simp; rfl)); intro gb0 hg w9 hbox hb; have n0_ := Ac.mk (Ar Yb_ hb); have n1_ := Ac.mk (hbox); have n2_ := Ac.mk ((by rw [hg]; exact (Ba Yb_) : w.heap.size ≤ gb0)); have n3_ := Ac.mk ((by rw [hg]; exact (Ba Yb_) : w.heap.size ≤ gb0)); clear HB; have HB := n0_; have BK0 := n1_; have GW0 := n2_; have GE0 := n3_; clear n0_ n1_ n2_ n3_; clear hb hbox hg; have hcz10_0 : w9.cell? ⟨gb0, 0, none⟩ = some (.int .i64 a0_0) := (Ak BK0.out 0).trans rfl; have hcz10_1 : w9.cell? ⟨gb0, 1, none⟩ = some (.string a0_1) := (Ak BK0.out 1).trans rfl; have hcz10_2 : w9.cell? ⟨gb0, 2, none⟩ = some (.int .i64 a0_2) := (Ak BK0.out 2).trans rfl; have hcz10_3 : w9.cell? ⟨gb0, 3, none⟩ = some (.int .i64 a0_3) := (Ak BK0.out 3).trans rfl; have hfz10_0 := Ai BK0.out 0; have hfz10_1 := Ai BK0.out 1; have hfz10_2 := Ai BK0.out 2; have hfz10_3 := Ai BK0.out 3) | ((with_reducible refine Ap (f := 40) rfl ?_); refine Bj (some 5) rfl rfl Tryz.func40 (by kernel_rfl) rfl #[.string a0_1] rfl Ya_ ?_; (with_reducible refine (Gi.calls k a0_1 true _ A2.out).mono ?_); rintro e w' ⟨rfl, ⟨nd, rfl⟩⟩; refine ⟨_, rfl, ?_⟩) | ((with_reducible refine Ap (f := 41) rfl ?_); refine Bj (some 13) rfl rfl Tryz.func41 (by kernel_rfl) rfl #[.int .i64 a0_2, .int .i64 0, .int .i64 5] rfl Ya_ ?_; (with_reducible refine (Eb.calls a0_2 0 5 false _ A5.out).mono ?_); rintro e w' ⟨rfl, ⟨nd, rfl⟩⟩; refine ⟨_, rfl, ?_⟩))
    go_ret
    exact ⟨by first | rfl | (simp [Au, Aw] <;> rfl) | (simp [*, Au, Aw] <;> rfl), by repeat (first | (with_reducible first | exact HB.out | apply Ae | apply Aa | apply Ad | refine Am ?_ GE0.out) | exact HB.out)⟩
  ·rw [if_neg c4] at H
   have c4b0 : (a0_0 == 1) = false := beq_eq_false_iff_ne.mpr c4
   have c4b1 : (a0_0 != 1) = true := bne_iff_ne.mpr c4
   by_cases c11 : a0_0 = 2
   ·rw [if_pos c11] at H
    have c11b0 : (a0_0 == 2) = true := beq_iff_eq.mpr c11
    have c11b1 : (a0_0 != 2) = false := bne_eq_false_iff_eq.mpr c11
    clear c11
    replace H := Option.bind_eq_some_iff.mp H
    obtain ⟨t257, A120, H⟩ := H
    try dsimp only at H
    have A12 := Ac.mk A120
    clear A120
    by_cases c13 : t257 = true
    ·subst c13
     have H1 : ((Eb.f a0_3 0 5).bind fun t258 => (if t258 = true then (some (a0_2 != a0_3)) else (some false))) = some r := by rw [if_pos rfl] at H; exact H
     clear H
     have H := H1
     clear H1
     replace H := Option.bind_eq_some_iff.mp H
     obtain ⟨t258, A140, H⟩ := H
     try dsimp only at H
     have A14 := Ac.mk A140
     clear A140
     by_cases c15 : t258 = true
     ·subst c15
      have H1 : (some (a0_2 != a0_3)) = some r := by rw [if_pos rfl] at H; exact H
      clear H
      have H := H1
      clear H1
      obtain rfl := Option.some.inj H
      go_enter Tryz.func21, Tryz.ntmps21
      go_wp2_with (first | ((with_reducible refine Dl (N := 1) rfl ?_); refine Dz ?hg (N := 1) ?hd (cs := #[.int .i64 a0_0, .string a0_1, .int .i64 a0_2, .int .i64 a0_3]) (t := 25) ?hr ?_; (case hd => rfl); (case hg => rfl); (case hr => first | (go_simp; done) | (go_simp; rfl)); intro gb0 hg w16 hbox hb; have n0_ := Ac.mk (Ar Yb_ hb); have n1_ := Ac.mk (hbox); have n2_ := Ac.mk ((by rw [hg]; exact (Ba Yb_) : w.heap.size ≤ gb0)); have n3_ := Ac.mk ((by rw [hg]; exact (Ba Yb_) : w.heap.size ≤ gb0)); clear HB; have HB := n0_; have BK0 := n1_; have GW0 := n2_; have GE0 := n3_; clear n0_ n1_ n2_ n3_; clear hb hbox hg; have hcz17_0 : w16.cell? ⟨gb0, 0, none⟩ = some (.int .i64 a0_0) := (Ak BK0.out 0).trans rfl; have hcz17_1 : w16.cell? ⟨gb0, 1, none⟩ = some (.string a0_1) := (Ak BK0.out 1).trans rfl; have hcz17_2 : w16.cell? ⟨gb0, 2, none⟩ = some (.int .i64 a0_2) := (Ak BK0.out 2).trans rfl; have hcz17_3 : w16.cell? ⟨gb0, 3, none⟩ = some (.int .i64 a0_3) := (Ak BK0.out 3).trans rfl; have hfz17_0 := Ai BK0.out 0; have hfz17_1 := Ai BK0.out 1; have hfz17_2 := Ai BK0.out 2; have hfz17_3 := Ai BK0.out 3) | ((with_reducible refine Ap (f := 40) rfl ?_); refine Bj (some 5) rfl rfl Tryz.func40 (by kernel_rfl) rfl #[.string a0_1] rfl Ya_ ?_; (with_reducible refine (Gi.calls k a0_1 true _ A2.out).mono ?_); rintro e w' ⟨rfl, ⟨nd, rfl⟩⟩; refine ⟨_, rfl, ?_⟩) | ((with_reducible refine Ap (f := 41) rfl ?_); refine Bj (some 23) rfl rfl Tryz.func41 (by kernel_rfl) rfl #[.int .i64 a0_2, .int .i64 0, .int .i64 5] rfl Ya_ ?_; (with_reducible refine (Eb.calls a0_2 0 5 true _ A12.out).mono ?_); rintro e w' ⟨rfl, ⟨nd, rfl⟩⟩; refine ⟨_, rfl, ?_⟩) | (go_at_call 41; (with_reducible refine (Eb.calls a0_3 0 5 true _ A14.out).mono ?_); rintro e w' ⟨rfl, ⟨nd, rfl⟩⟩))
      go_ret
      exact ⟨by first | rfl | (simp [Au, Aw] <;> rfl) | (simp [*, Au, Aw] <;> rfl), by repeat (first | (with_reducible first | exact HB.out | apply Ae | apply Aa | apply Ad | refine Am ?_ GE0.out) | exact HB.out)⟩
     ·replace c15 := Bool.eq_false_iff.mpr c15
      subst c15
      have H1 : (some false) = some r := by rw [if_neg (show ¬ (false = true) by decide)] at H; exact H
      clear H
      have H := H1
      clear H1
      obtain rfl := Option.some.inj H
      go_enter Tryz.func21, Tryz.ntmps21
      go_wp2_with (first | ((with_reducible refine Dl (N := 1) rfl ?_); refine Dz ?hg (N := 1) ?hd (cs := #[.int .i64 a0_0, .string a0_1, .int .i64 a0_2, .int .i64 a0_3]) (t := 25) ?hr ?_; (case hd => rfl); (case hg => rfl); (case hr => first | (go_simp; done) | (go_simp; rfl)); intro gb0 hg w18 hbox hb; have n0_ := Ac.mk (Ar Yb_ hb); have n1_ := Ac.mk (hbox); have n2_ := Ac.mk ((by rw [hg]; exact (Ba Yb_) : w.heap.size ≤ gb0)); have n3_ := Ac.mk ((by rw [hg]; exact (Ba Yb_) : w.heap.size ≤ gb0)); clear HB; have HB := n0_; have BK0 := n1_; have GW0 := n2_; have GE0 := n3_; clear n0_ n1_ n2_ n3_; clear hb hbox hg; have hcz19_0 : w18.cell? ⟨gb0, 0, none⟩ = some (.int .i64 a0_0) := (Ak BK0.out 0).trans rfl; have hcz19_1 : w18.cell? ⟨gb0, 1, none⟩ = some (.string a0_1) := (Ak BK0.out 1).trans rfl; have hcz19_2 : w18.cell? ⟨gb0, 2, none⟩ = some (.int .i64 a0_2) := (Ak BK0.out 2).trans rfl; have hcz19_3 : w18.cell? ⟨gb0, 3, none⟩ = some (.int .i64 a0_3) := (Ak BK0.out 3).trans rfl; have hfz19_0 := Ai BK0.out 0; have hfz19_1 := Ai BK0.out 1; have hfz19_2 := Ai BK0.out 2; have hfz19_3 := Ai BK0.out 3) | ((with_reducible refine Ap (f := 40) rfl ?_); refine Bj (some 5) rfl rfl Tryz.func40 (by kernel_rfl) rfl #[.string a0_1] rfl Ya_ ?_; (with_reducible refine (Gi.calls k a0_1 true _ A2.out).mono ?_); rintro e w' ⟨rfl, ⟨nd, rfl⟩⟩; refine ⟨_, rfl, ?_⟩) | ((with_reducible refine Ap (f := 41) rfl ?_); refine Bj (some 23) rfl rfl Tryz.func41 (by kernel_rfl) rfl #[.int .i64 a0_2, .int .i64 0, .int .i64 5] rfl Ya_ ?_; (with_reducible refine (Eb.calls a0_2 0 5 true _ A12.out).mono ?_); rintro e w' ⟨rfl, ⟨nd, rfl⟩⟩; refine ⟨_, rfl, ?_⟩) | (go_at_call 41; (with_reducible refine (Eb.calls a0_3 0 5 false _ A14.out).mono ?_); rintro e w' ⟨rfl, ⟨nd, rfl⟩⟩))
      go_ret
      exact ⟨by first | rfl | (simp [Au, Aw] <;> rfl) | (simp [*, Au, Aw] <;> rfl), by repeat (first | (with_reducible first | exact HB.out | apply Ae | apply Aa | apply Ad | refine Am ?_ GE0.out) | exact HB.out)⟩
    ·replace c13 := Bool.eq_false_iff.mpr c13
     subst c13
     have H1 : (some false) = some r := by rw [if_neg (show ¬ (false = true) by decide)] at H; exact H
     clear H
     have H := H1
     clear H1
     obtain rfl := Option.some.inj H
     go_enter Tryz.func21, Tryz.ntmps21
     go_wp2_with (first | ((with_reducible refine Dl (N := 1) rfl ?_); refine Dz ?hg (N := 1) ?hd (cs := #[.int .i64 a0_0, .string a0_1, .int .i64 a0_2, .int .i64 a0_3]) (t := 25) ?hr ?_; (case hd => rfl); (case hg => rfl); (case hr => first | (go_simp; done) | (go_simp; rfl)); intro gb0 hg w20 hbox hb; have n0_ := Ac.mk (Ar Yb_ hb); have n1_ := Ac.mk (hbox); have n2_ := Ac.mk ((by rw [hg]; exact (Ba Yb_) : w.heap.size ≤ gb0)); have n3_ := Ac.mk ((by rw [hg]; exact (Ba Yb_) : w.heap.size ≤ gb0)); clear HB; have HB := n0_; have BK0 := n1_; have GW0 := n2_; have GE0 := n3_; clear n0_ n1_ n2_ n3_; clear hb hbox hg; have hcz21_0 : w20.cell? ⟨gb0, 0, none⟩ = some (.int .i64 a0_0) := (Ak BK0.out 0).trans rfl; have hcz21_1 : w20.cell? ⟨gb0, 1, none⟩ = some (.string a0_1) := (Ak BK0.out 1).trans rfl; have hcz21_2 : w20.cell? ⟨gb0, 2, none⟩ = some (.int .i64 a0_2) := (Ak BK0.out 2).trans rfl; have hcz21_3 : w20.cell? ⟨gb0, 3, none⟩ = some (.int .i64 a0_3) := (Ak BK0.out 3).trans rfl; have hfz21_0 := Ai BK0.out 0; have hfz21_1 := Ai BK0.out 1; have hfz21_2 := Ai BK0.out 2; have hfz21_3 := Ai BK0.out 3) | ((with_reducible refine Ap (f := 40) rfl ?_); refine Bj (some 5) rfl rfl Tryz.func40 (by kernel_rfl) rfl #[.string a0_1] rfl Ya_ ?_; (with_reducible refine (Gi.calls k a0_1 true _ A2.out).mono ?_); rintro e w' ⟨rfl, ⟨nd, rfl⟩⟩; refine ⟨_, rfl, ?_⟩) | ((with_reducible refine Ap (f := 41) rfl ?_); refine Bj (some 23) rfl rfl Tryz.func41 (by kernel_rfl) rfl #[.int .i64 a0_2, .int .i64 0, .int .i64 5] rfl Ya_ ?_; (with_reducible refine (Eb.calls a0_2 0 5 false _ A12.out).mono ?_); rintro e w' ⟨rfl, ⟨nd, rfl⟩⟩; refine ⟨_, rfl, ?_⟩))
     go_ret
     exact ⟨by first | rfl | (simp [Au, Aw] <;> rfl) | (simp [*, Au, Aw] <;> rfl), by repeat (first | (with_reducible first | exact HB.out | apply Ae | apply Aa | apply Ad | refine Am ?_ GE0.out) | exact HB.out)⟩
   ·rw [if_neg c11] at H
    have c11b0 : (a0_0 == 2) = false := beq_eq_false_iff_ne.mpr c11
    have c11b1 : (a0_0 != 2) = true := bne_iff_ne.mpr c11
    by_cases c22 : a0_0 = 3
    ·rw [if_pos c22] at H
     have c22b0 : (a0_0 == 3) = true := beq_iff_eq.mpr c22
     have c22b1 : (a0_0 != 3) = false := bne_eq_false_iff_eq.mpr c22
     clear c22
     replace H := Option.bind_eq_some_iff.mp H
     obtain ⟨t259, A230, H⟩ := H
     try dsimp only at H
     have A23 := Ac.mk A230
     clear A230
     by_cases c24 : t259 = true
     ·subst c24
      have H1 : (some (a0_3 == 0)) = some r := by rw [if_pos rfl] at H; exact H
      clear H
      have H := H1
      clear H1
      obtain rfl := Option.some.inj H
      go_enter Tryz.func21, Tryz.ntmps21
      go_wp2_with (first | ((with_reducible refine Dl (N := 1) rfl ?_); refine Dz ?hg (N := 1) ?hd (cs := #[.int .i64 a0_0, .string a0_1, .int .i64 a0_2, .int .i64 a0_3]) (t := 25) ?hr ?_; (case hd => rfl); (case hg => rfl); (case hr => first | (go_simp; done) | (go_simp; rfl)); intro gb0 hg w25 hbox hb; have n0_ := Ac.mk (Ar Yb_ hb); have n1_ := Ac.mk (hbox); have n2_ := Ac.mk ((by rw [hg]; exact (Ba Yb_) : w.heap.size ≤ gb0)); have n3_ := Ac.mk ((by rw [hg]; exact (Ba Yb_) : w.heap.size ≤ gb0)); clear HB; have HB := n0_; have BK0 := n1_; have GW0 := n2_; have GE0 := n3_; clear n0_ n1_ n2_ n3_; clear hb hbox hg; have hcz26_0 : w25.cell? ⟨gb0, 0, none⟩ = some (.int .i64 a0_0) := (Ak BK0.out 0).trans rfl; have hcz26_1 : w25.cell? ⟨gb0, 1, none⟩ = some (.string a0_1) := (Ak BK0.out 1).trans rfl; have hcz26_2 : w25.cell? ⟨gb0, 2, none⟩ = some (.int .i64 a0_2) := (Ak BK0.out 2).trans rfl; have hcz26_3 : w25.cell? ⟨gb0, 3, none⟩ = some (.int .i64 a0_3) := (Ak BK0.out 3).trans rfl; have hfz26_0 := Ai BK0.out 0; have hfz26_1 := Ai BK0.out 1; have hfz26_2 := Ai BK0.out 2; have hfz26_3 := Ai BK0.out 3) | ((with_reducible refine Ap (f := 40) rfl ?_); refine Bj (some 5) rfl rfl Tryz.func40 (by kernel_rfl) rfl #[.string a0_1] rfl Ya_ ?_; (with_reducible refine (Gi.calls k a0_1 true _ A2.out).mono ?_); rintro e w' ⟨rfl, ⟨nd, rfl⟩⟩; refine ⟨_, rfl, ?_⟩) | ((with_reducible refine Ap (f := 41) rfl ?_); refine Bj (some 40) rfl rfl Tryz.func41 (by kernel_rfl) rfl #[.int .i64 a0_2, .int .i64 1, .int .i64 15] rfl Ya_ ?_; (with_reducible refine (Eb.calls a0_2 1 15 true _ A23.out).mono ?_); rintro e w' ⟨rfl, ⟨nd, rfl⟩⟩; refine ⟨_, rfl, ?_⟩))
      go_ret
      exact ⟨by first | rfl | (simp [Au, Aw] <;> rfl) | (simp [*, Au, Aw] <;> rfl), by repeat (first | (with_reducible first | exact HB.out | apply Ae | apply Aa | apply Ad | refine Am ?_ GE0.out) | exact HB.out)⟩
     ·replace c24 := Bool.eq_false_iff.mpr c24
      subst c24
      have H1 : (some false) = some r := by rw [if_neg (show ¬ (false = true) by decide)] at H; exact H
      clear H
      have H := H1
      clear H1
      obtain rfl := Option.some.inj H
      go_enter Tryz.func21, Tryz.ntmps21
      go_wp2_with (first | ((with_reducible refine Dl (N := 1) rfl ?_); refine Dz ?hg (N := 1) ?hd (cs := #[.int .i64 a0_0, .string a0_1, .int .i64 a0_2, .int .i64 a0_3]) (t := 25) ?hr ?_; (case hd => rfl); (case hg => rfl); (case hr => first | (go_simp; done) | (go_simp; rfl)); intro gb0 hg w27 hbox hb; have n0_ := Ac.mk (Ar Yb_ hb); have n1_ := Ac.mk (hbox); have n2_ := Ac.mk ((by rw [hg]; exact (Ba Yb_) : w.heap.size ≤ gb0)); have n3_ := Ac.mk ((by rw [hg]; exact (Ba Yb_) : w.heap.size ≤ gb0)); clear HB; have HB := n0_; have BK0 := n1_; have GW0 := n2_; have GE0 := n3_; clear n0_ n1_ n2_ n3_; clear hb hbox hg; have hcz28_0 : w27.cell? ⟨gb0, 0, none⟩ = some (.int .i64 a0_0) := (Ak BK0.out 0).trans rfl; have hcz28_1 : w27.cell? ⟨gb0, 1, none⟩ = some (.string a0_1) := (Ak BK0.out 1).trans rfl; have hcz28_2 : w27.cell? ⟨gb0, 2, none⟩ = some (.int .i64 a0_2) := (Ak BK0.out 2).trans rfl; have hcz28_3 : w27.cell? ⟨gb0, 3, none⟩ = some (.int .i64 a0_3) := (Ak BK0.out 3).trans rfl; have hfz28_0 := Ai BK0.out 0; have hfz28_1 := Ai BK0.out 1; have hfz28_2 := Ai BK0.out 2; have hfz28_3 := Ai BK0.out 3) | ((with_reducible refine Ap (f := 40) rfl ?_); refine Bj (some 5) rfl rfl Tryz.func40 (by kernel_rfl) rfl #[.string a0_1] rfl Ya_ ?_; (with_reducible refine (Gi.calls k a0_1 true _ A2.out).mono ?_); rintro e w' ⟨rfl, ⟨nd, rfl⟩⟩; refine ⟨_, rfl, ?_⟩) | ((with_reducible refine Ap (f := 41) rfl ?_); refine Bj (some 40) rfl rfl Tryz.func41 (by kernel_rfl) rfl #[.int .i64 a0_2, .int .i64 1, .int .i64 15] rfl Ya_ ?_; (with_reducible refine (Eb.calls a0_2 1 15 false _ A23.out).mono ?_); rintro e w' ⟨rfl, ⟨nd, rfl⟩⟩; refine ⟨_, rfl, ?_⟩))
      go_ret
      exact ⟨by first | rfl | (simp [Au, Aw] <;> rfl) | (simp [*, Au, Aw] <;> rfl), by repeat (first | (with_reducible first | exact HB.out | apply Ae | apply Aa | apply Ad | refine Am ?_ GE0.out) | exact HB.out)⟩
    ·rw [if_neg c22] at H
     have c22b0 : (a0_0 == 3) = false := beq_eq_false_iff_ne.mpr c22
     have c22b1 : (a0_0 != 3) = true := bne_iff_ne.mpr c22
     by_cases c29 : a0_0 = 4
     ·rw [if_pos c29] at H
      have c29b0 : (a0_0 == 4) = true := beq_iff_eq.mpr c29
      have c29b1 : (a0_0 != 4) = false := bne_eq_false_iff_eq.mpr c29
      clear c29
      replace H := Option.bind_eq_some_iff.mp H
      obtain ⟨t260, A300, H⟩ := H
      try dsimp only at H
      have A30 := Ac.mk A300
      clear A300
      by_cases c31 : t260 = true
      ·subst c31
       have H1 : (some (a0_3 == 0)) = some r := by rw [if_pos rfl] at H; exact H
       clear H
       have H := H1
       clear H1
       obtain rfl := Option.some.inj H
       go_enter Tryz.func21, Tryz.ntmps21
       go_wp2_with (first | ((with_reducible refine Dl (N := 1) rfl ?_); refine Dz ?hg (N := 1) ?hd (cs := #[.int .i64 a0_0, .string a0_1, .int .i64 a0_2, .int .i64 a0_3]) (t := 25) ?hr ?_; (case hd => rfl); (case hg => rfl); (case hr => first | (go_simp; done) | (go_simp; rfl)); intro gb0 hg w32 hbox hb; have n0_ := Ac.mk (Ar Yb_ hb); have n1_ := Ac.mk (hbox); have n2_ := Ac.mk ((by rw [hg]; exact (Ba Yb_) : w.heap.size ≤ gb0)); have n3_ := Ac.mk ((by rw [hg]; exact (Ba Yb_) : w.heap.size ≤ gb0)); clear HB; have HB := n0_; have BK0 := n1_; have GW0 := n2_; have GE0 := n3_; clear n0_ n1_ n2_ n3_; clear hb hbox hg; have hcz33_0 : w32.cell? ⟨gb0, 0, none⟩ = some (.int .i64 a0_0) := (Ak BK0.out 0).trans rfl; have hcz33_1 : w32.cell? ⟨gb0, 1, none⟩ = some (.string a0_1) := (Ak BK0.out 1).trans rfl; have hcz33_2 : w32.cell? ⟨gb0, 2, none⟩ = some (.int .i64 a0_2) := (Ak BK0.out 2).trans rfl; have hcz33_3 : w32.cell? ⟨gb0, 3, none⟩ = some (.int .i64 a0_3) := (Ak BK0.out 3).trans rfl; have hfz33_0 := Ai BK0.out 0; have hfz33_1 := Ai BK0.out 1; have hfz33_2 := Ai BK0.out 2; have hfz33_3 := Ai BK0.out 3) | ((with_reducible refine Ap (f := 40) rfl ?_); refine Bj (some 5) rfl rfl Tryz.func40 (by kernel_rfl) rfl #[.string a0_1] rfl Ya_ ?_; (with_reducible refine (Gi.calls k a0_1 true _ A2.out).mono ?_); rintro e w' ⟨rfl, ⟨nd, rfl⟩⟩; refine ⟨_, rfl, ?_⟩) | ((with_reducible refine Ap (f := 41) rfl ?_); refine Bj (some 50) rfl rfl Tryz.func41 (by kernel_rfl) rfl #[.int .i64 a0_2, .int .i64 0, .int .i64 11] rfl Ya_ ?_; (with_reducible refine (Eb.calls a0_2 0 11 true _ A30.out).mono ?_); rintro e w' ⟨rfl, ⟨nd, rfl⟩⟩; refine ⟨_, rfl, ?_⟩))
       go_ret
       exact ⟨by first | rfl | (simp [Au, Aw] <;> rfl) | (simp [*, Au, Aw] <;> rfl), by repeat (first | (with_reducible first | exact HB.out | apply Ae | apply Aa | apply Ad | refine Am ?_ GE0.out) | exact HB.out)⟩
      ·replace c31 := Bool.eq_false_iff.mpr c31
       subst c31
       have H1 : (some false) = some r := by rw [if_neg (show ¬ (false = true) by decide)] at H; exact H
       clear H
       have H := H1
       clear H1
       obtain rfl := Option.some.inj H
       go_enter Tryz.func21, Tryz.ntmps21
       go_wp2_with (first | ((with_reducible refine Dl (N := 1) rfl ?_); refine Dz ?hg (N := 1) ?hd (cs := #[.int .i64 a0_0, .string a0_1, .int .i64 a0_2, .int .i64 a0_3]) (t := 25) ?hr ?_; (case hd => rfl); (case hg => rfl); (case hr => first | (go_simp; done) | (go_simp; rfl)); intro gb0 hg w34 hbox hb; have n0_ := Ac.mk (Ar Yb_ hb); have n1_ := Ac.mk (hbox); have n2_ := Ac.mk ((by rw [hg]; exact (Ba Yb_) : w.heap.size ≤ gb0)); have n3_ := Ac.mk ((by rw [hg]; exact (Ba Yb_) : w.heap.size ≤ gb0)); clear HB; have HB := n0_; have BK0 := n1_; have GW0 := n2_; have GE0 := n3_; clear n0_ n1_ n2_ n3_; clear hb hbox hg; have hcz35_0 : w34.cell? ⟨gb0, 0, none⟩ = some (.int .i64 a0_0) := (Ak BK0.out 0).trans rfl; have hcz35_1 : w34.cell? ⟨gb0, 1, none⟩ = some (.string a0_1) := (Ak BK0.out 1).trans rfl; have hcz35_2 : w34.cell? ⟨gb0, 2, none⟩ = some (.int .i64 a0_2) := (Ak BK0.out 2).trans rfl; have hcz35_3 : w34.cell? ⟨gb0, 3, none⟩ = some (.int .i64 a0_3) := (Ak BK0.out 3).trans rfl; have hfz35_0 := Ai BK0.out 0; have hfz35_1 := Ai BK0.out 1; have hfz35_2 := Ai BK0.out 2; have hfz35_3 := Ai BK0.out 3) | ((with_reducible refine Ap (f := 40) rfl ?_); refine Bj (some 5) rfl rfl Tryz.func40 (by kernel_rfl) rfl #[.string a0_1] rfl Ya_ ?_; (with_reducible refine (Gi.calls k a0_1 true _ A2.out).mono ?_); rintro e w' ⟨rfl, ⟨nd, rfl⟩⟩; refine ⟨_, rfl, ?_⟩) | ((with_reducible refine Ap (f := 41) rfl ?_); refine Bj (some 50) rfl rfl Tryz.func41 (by kernel_rfl) rfl #[.int .i64 a0_2, .int .i64 0, .int .i64 11] rfl Ya_ ?_; (with_reducible refine (Eb.calls a0_2 0 11 false _ A30.out).mono ?_); rintro e w' ⟨rfl, ⟨nd, rfl⟩⟩; refine ⟨_, rfl, ?_⟩))
       go_ret
       exact ⟨by first | rfl | (simp [Au, Aw] <;> rfl) | (simp [*, Au, Aw] <;> rfl), by repeat (first | (with_reducible first | exact HB.out | apply Ae | apply Aa | apply Ad | refine Am ?_ GE0.out) | exact HB.out)⟩
     ·rw [if_neg c29] at H
      have c29b0 : (a0_0 == 4) = false := beq_eq_false_iff_ne.mpr c29
      have c29b1 : (a0_0 != 4) = true := bne_iff_ne.mpr c29
      by_cases c36 : a0_0 = 5
      ·rw [if_pos c36] at H
       have c36b0 : (a0_0 == 5) = true := beq_iff_eq.mpr c36
       have c36b1 : (a0_0 != 5) = false := bne_eq_false_iff_eq.mpr c36
       clear c36
       replace H := Option.bind_eq_some_iff.mp H
       obtain ⟨t261, A370, H⟩ := H
       try dsimp only at H
       have A37 := Ac.mk A370
       clear A370
       by_cases c38 : t261 = true
       ·subst c38
        have H1 : ((Eb.f a0_3 1 400).bind fun t262 => (some t262)) = some r := by rw [if_pos rfl] at H; exact H
        clear H
        have H := H1
        clear H1
        replace H := Option.bind_eq_some_iff.mp H
        obtain ⟨t262, A390, H⟩ := H
        try dsimp only at H
        have A39 := Ac.mk A390
        clear A390
        obtain rfl := Option.some.inj H
        go_enter Tryz.func21, Tryz.ntmps21
        go_wp2_with (first | ((with_reducible refine Dl (N := 1) rfl ?_); refine Dz ?hg (N := 1) ?hd (cs := #[.int .i64 a0_0, .string a0_1, .int .i64 a0_2, .int .i64 a0_3]) (t := 25) ?hr ?_; (case hd => rfl); (case hg => rfl); (case hr => first | (go_simp; done) | (go_simp; rfl)); intro gb0 hg w40 hbox hb; have n0_ := Ac.mk (Ar Yb_ hb); have n1_ := Ac.mk (hbox); have n2_ := Ac.mk ((by rw [hg]; exact (Ba Yb_) : w.heap.size ≤ gb0)); have n3_ := Ac.mk ((by rw [hg]; exact (Ba Yb_) : w.heap.size ≤ gb0)); clear HB; have HB := n0_; have BK0 := n1_; have GW0 := n2_; have GE0 := n3_; clear n0_ n1_ n2_ n3_; clear hb hbox hg; have hcz41_0 : w40.cell? ⟨gb0, 0, none⟩ = some (.int .i64 a0_0) := (Ak BK0.out 0).trans rfl; have hcz41_1 : w40.cell? ⟨gb0, 1, none⟩ = some (.string a0_1) := (Ak BK0.out 1).trans rfl; have hcz41_2 : w40.cell? ⟨gb0, 2, none⟩ = some (.int .i64 a0_2) := (Ak BK0.out 2).trans rfl; have hcz41_3 : w40.cell? ⟨gb0, 3, none⟩ = some (.int .i64 a0_3) := (Ak BK0.out 3).trans rfl; have hfz41_0 := Ai BK0.out 0; have hfz41_1 := Ai BK0.out 1; have hfz41_2 := Ai BK0.out 2; have hfz41_3 := Ai BK0.out 3) | ((with_reducible refine Ap (f := 40) rfl ?_); refine Bj (some 5) rfl rfl Tryz.func40 (by kernel_rfl) rfl #[.string a0_1] rfl Ya_ ?_; (with_reducible refine (Gi.calls k a0_1 true _ A2.out).mono ?_); rintro e w' ⟨rfl, ⟨nd, rfl⟩⟩; refine ⟨_, rfl, ?_⟩) | ((with_reducible refine Ap (f := 41) rfl ?_); refine Bj (some 60) rfl rfl Tryz.func41 (by kernel_rfl) rfl #[.int .i64 a0_2, .int .i64 1, .int .i64 999999] rfl Ya_ ?_; (with_reducible refine (Eb.calls a0_2 1 999999 true _ A37.out).mono ?_); rintro e w' ⟨rfl, ⟨nd, rfl⟩⟩; refine ⟨_, rfl, ?_⟩) | (go_at_call 41; (with_reducible refine (Eb.calls a0_3 1 400 t262 _ A39.out).mono ?_); rintro e w' ⟨rfl, ⟨nd, rfl⟩⟩))
        go_ret
        exact ⟨by first | rfl | (simp [Au, Aw] <;> rfl) | (simp [*, Au, Aw] <;> rfl), by repeat (first | (with_reducible first | exact HB.out | apply Ae | apply Aa | apply Ad | refine Am ?_ GE0.out) | exact HB.out)⟩
       ·replace c38 := Bool.eq_false_iff.mpr c38
        subst c38
        have H1 : (some false) = some r := by rw [if_neg (show ¬ (false = true) by decide)] at H; exact H
        clear H
        have H := H1
        clear H1
        obtain rfl := Option.some.inj H
        go_enter Tryz.func21, Tryz.ntmps21
        go_wp2_with (first | ((with_reducible refine Dl (N := 1) rfl ?_); refine Dz ?hg (N := 1) ?hd (cs := #[.int .i64 a0_0, .string a0_1, .int .i64 a0_2, .int .i64 a0_3]) (t := 25) ?hr ?_; (case hd => rfl); (case hg => rfl); (case hr => first | (go_simp; done) | (go_simp; rfl)); intro gb0 hg w42 hbox hb; have n0_ := Ac.mk (Ar Yb_ hb); have n1_ := Ac.mk (hbox); have n2_ := Ac.mk ((by rw [hg]; exact (Ba Yb_) : w.heap.size ≤ gb0)); have n3_ := Ac.mk ((by rw [hg]; exact (Ba Yb_) : w.heap.size ≤ gb0)); clear HB; have HB := n0_; have BK0 := n1_; have GW0 := n2_; have GE0 := n3_; clear n0_ n1_ n2_ n3_; clear hb hbox hg; have hcz43_0 : w42.cell? ⟨gb0, 0, none⟩ = some (.int .i64 a0_0) := (Ak BK0.out 0).trans rfl; have hcz43_1 : w42.cell? ⟨gb0, 1, none⟩ = some (.string a0_1) := (Ak BK0.out 1).trans rfl; have hcz43_2 : w42.cell? ⟨gb0, 2, none⟩ = some (.int .i64 a0_2) := (Ak BK0.out 2).trans rfl; have hcz43_3 : w42.cell? ⟨gb0, 3, none⟩ = some (.int .i64 a0_3) := (Ak BK0.out 3).trans rfl; have hfz43_0 := Ai BK0.out 0; have hfz43_1 := Ai BK0.out 1; have hfz43_2 := Ai BK0.out 2; have hfz43_3 := Ai BK0.out 3) | ((with_reducible refine Ap (f := 40) rfl ?_); refine Bj (some 5) rfl rfl Tryz.func40 (by kernel_rfl) rfl #[.string a0_1] rfl Ya_ ?_; (with_reducible refine (Gi.calls k a0_1 true _ A2.out).mono ?_); rintro e w' ⟨rfl, ⟨nd, rfl⟩⟩; refine ⟨_, rfl, ?_⟩) | ((with_reducible refine Ap (f := 41) rfl ?_); refine Bj (some 60) rfl rfl Tryz.func41 (by kernel_rfl) rfl #[.int .i64 a0_2, .int .i64 1, .int .i64 999999] rfl Ya_ ?_; (with_reducible refine (Eb.calls a0_2 1 999999 false _ A37.out).mono ?_); rintro e w' ⟨rfl, ⟨nd, rfl⟩⟩; refine ⟨_, rfl, ?_⟩))
        go_ret
        exact ⟨by first | rfl | (simp [Au, Aw] <;> rfl) | (simp [*, Au, Aw] <;> rfl), by repeat (first | (with_reducible first | exact HB.out | apply Ae | apply Aa | apply Ad | refine Am ?_ GE0.out) | exact HB.out)⟩
      ·rw [if_neg c36] at H
       have c36b0 : (a0_0 == 5) = false := beq_eq_false_iff_ne.mpr c36
       have c36b1 : (a0_0 != 5) = true := bne_iff_ne.mpr c36
       obtain rfl := Option.some.inj H
       go_enter Tryz.func21, Tryz.ntmps21
       go_wp2_with (first | ((with_reducible refine Dl (N := 1) rfl ?_); refine Dz ?hg (N := 1) ?hd (cs := #[.int .i64 a0_0, .string a0_1, .int .i64 a0_2, .int .i64 a0_3]) (t := 25) ?hr ?_; (case hd => rfl); (case hg => rfl); (case hr => first | (go_simp; done) | (go_simp; rfl)); intro gb0 hg w44 hbox hb; have n0_ := Ac.mk (Ar Yb_ hb); have n1_ := Ac.mk (hbox); have n2_ := Ac.mk ((by rw [hg]; exact (Ba Yb_) : w.heap.size ≤ gb0)); have n3_ := Ac.mk ((by rw [hg]; exact (Ba Yb_) : w.heap.size ≤ gb0)); clear HB; have HB := n0_; have BK0 := n1_; have GW0 := n2_; have GE0 := n3_; clear n0_ n1_ n2_ n3_; clear hb hbox hg; have hcz45_0 : w44.cell? ⟨gb0, 0, none⟩ = some (.int .i64 a0_0) := (Ak BK0.out 0).trans rfl; have hcz45_1 : w44.cell? ⟨gb0, 1, none⟩ = some (.string a0_1) := (Ak BK0.out 1).trans rfl; have hcz45_2 : w44.cell? ⟨gb0, 2, none⟩ = some (.int .i64 a0_2) := (Ak BK0.out 2).trans rfl; have hcz45_3 : w44.cell? ⟨gb0, 3, none⟩ = some (.int .i64 a0_3) := (Ak BK0.out 3).trans rfl; have hfz45_0 := Ai BK0.out 0; have hfz45_1 := Ai BK0.out 1; have hfz45_2 := Ai BK0.out 2; have hfz45_3 := Ai BK0.out 3) | ((with_reducible refine Ap (f := 40) rfl ?_); refine Bj (some 5) rfl rfl Tryz.func40 (by kernel_rfl) rfl #[.string a0_1] rfl Ya_ ?_; (with_reducible refine (Gi.calls k a0_1 true _ A2.out).mono ?_); rintro e w' ⟨rfl, ⟨nd, rfl⟩⟩; refine ⟨_, rfl, ?_⟩))
       go_ret
       exact ⟨by first | rfl | (simp [Au, Aw] <;> rfl) | (simp [*, Au, Aw] <;> rfl), by repeat (first | (with_reducible first | exact HB.out | apply Ae | apply Aa | apply Ad | refine Am ?_ GE0.out) | exact HB.out)⟩
 ·replace c3 := Bool.eq_false_iff.mpr c3
  subst c3
  have H1 : (some false) = some r := by rw [if_neg (show ¬ (false = true) by decide)] at H; exact H
  clear H
  have H := H1
  clear H1
  obtain rfl := Option.some.inj H
  go_enter Tryz.func21, Tryz.ntmps21
  go_wp2_with (first | ((with_reducible refine Dl (N := 1) rfl ?_); refine Dz ?hg (N := 1) ?hd (cs := #[.int .i64 a0_0, .string a0_1, .int .i64 a0_2, .int .i64 a0_3]) (t := 25) ?hr ?_; (case hd => rfl); (case hg => rfl); (case hr => first | (go_simp; done) | (go_simp; rfl)); intro gb0 hg w46 hbox hb; have n0_ := Ac.mk (Ar Yb_ hb); have n1_ := Ac.mk (hbox); have n2_ := Ac.mk ((by rw [hg]; exact (Ba Yb_) : w.heap.size ≤ gb0)); have n3_ := Ac.mk ((by rw [hg]; exact (Ba Yb_) : w.heap.size ≤ gb0)); clear HB; have HB := n0_; have BK0 := n1_; have GW0 := n2_; have GE0 := n3_; clear n0_ n1_ n2_ n3_; clear hb hbox hg; have hcz47_0 : w46.cell? ⟨gb0, 0, none⟩ = some (.int .i64 a0_0) := (Ak BK0.out 0).trans rfl; have hcz47_1 : w46.cell? ⟨gb0, 1, none⟩ = some (.string a0_1) := (Ak BK0.out 1).trans rfl; have hcz47_2 : w46.cell? ⟨gb0, 2, none⟩ = some (.int .i64 a0_2) := (Ak BK0.out 2).trans rfl; have hcz47_3 : w46.cell? ⟨gb0, 3, none⟩ = some (.int .i64 a0_3) := (Ak BK0.out 3).trans rfl; have hfz47_0 := Ai BK0.out 0; have hfz47_1 := Ai BK0.out 1; have hfz47_2 := Ai BK0.out 2; have hfz47_3 := Ai BK0.out 3) | ((with_reducible refine Ap (f := 40) rfl ?_); refine Bj (some 5) rfl rfl Tryz.func40 (by kernel_rfl) rfl #[.string a0_1] rfl Ya_ ?_; (with_reducible refine (Gi.calls k a0_1 false _ A2.out).mono ?_); rintro e w' ⟨rfl, ⟨nd, rfl⟩⟩; refine ⟨_, rfl, ?_⟩))
  go_ret
  exact ⟨by first | rfl | (simp [Au, Aw] <;> rfl) | (simp [*, Au, Aw] <;> rfl), by repeat (first | (with_reducible first | exact HB.out | apply Ae | apply Aa | apply Ad | refine Am ?_ GE0.out) | exact HB.out)⟩
def Dj.l0 : Nat → Int → List ByteArray → ByteArray → Int → Option (ByteArray × Bool)
 | 0, _, _, _, _ => none
 | k + 1, x0, x4, x5, x6 => if x6 < 4 then (if 0 ≤ (IntKind.u64.wrap (x6)) then (if (Go.bits .and .i64 (shr .i64 x0 (IntKind.u64.wrap (x6))) 1) = 0 then (Dj.l0 k x0 x4 x5 (wrap64 (x6 + 1))) else (if x5.toList = ([] : List UInt8) then (if 0 ≤ x6 then (if x6 < (x4.length : Int) then (if x5.size + (rdOf ByteArray.empty x4 x6).size ≤ 9223372036854775807 then (Dj.l0 k x0 x4 (x5 ++ (rdOf ByteArray.empty x4 x6)) (wrap64 (x6 + 1))) else (none)) else (none)) else (none)) else (if x5.size + 2 ≤ 9223372036854775807 then (if 0 ≤ x6 then (if x6 < (x4.length : Int) then (if (x5 ++ (⟨#[44, 32]⟩ : ByteArray)).size + (rdOf ByteArray.empty x4 x6).size ≤ 9223372036854775807 then (Dj.l0 k x0 x4 ((x5 ++ (⟨#[44, 32]⟩ : ByteArray)) ++ (rdOf ByteArray.empty x4 x6)) (wrap64 (x6 + 1))) else (none)) else (none)) else (none)) else (none)))) else (none)) else (if x5.toList = ([] : List UInt8) then (some ((⟨#[110, 111, 110, 101]⟩ : ByteArray), true)) else (some (x5, true)))
def Dj.f (k : Nat) (a0 : Int) : Option (ByteArray × Bool) := (Eb.f a0 0 15).bind fun t263 => (if t263 = true then (Dj.l0 k a0 (([(⟨#[100, 111, 99, 117, 109, 101, 110, 116, 115]⟩ : ByteArray), (⟨#[105, 110, 115, 112, 101, 99, 116, 105, 111, 110]⟩ : ByteArray), (⟨#[100, 117, 116, 105, 101, 115]⟩ : ByteArray), (⟨#[113, 117, 97, 114, 97, 110, 116, 105, 110, 101]⟩ : ByteArray)] : List ByteArray)) (⟨#[]⟩ : ByteArray) 0) else (some ((⟨#[]⟩ : ByteArray), false)))
theorem Dj.Fa : ∀ k, (∀ y0 y1 y2 y3, LeO (Dj.l0 k y0 y1 y2 y3) (Dj.l0 (k + 1) y0 y1 y2 y3))
 | 0 => fun _ _ _ _ r h => by simp [Dj.l0] at h
 | k + 1 => by
  have ih0 := Dj.Fa k
  ·intro y0 y1 y2 y3
   unfold Dj.l0
   repeat' first
   | (with_reducible exact ih0 _ _ _ _)
   | (with_reducible exact LeO.refl _)
   | (with_reducible exact LeO.none _)
   | (with_reducible refine LeO.ite ?_ ?_)
   | (with_reducible refine LeO.bind ?_ (fun _ => ?_))
   | exact ih0 _ _ _ _
   | exact LeO.none _
   | refine LeO.ite ?_ ?_
   | refine LeO.bind ?_ (fun _ => ?_)
theorem Dj.mono : ∀ a0 k, LeO (Dj.f k a0) (Dj.f (k + 1) a0) := by
 intro a0 k
 have ih0 := Dj.Fa k
 unfold Dj.f
 repeat' first
   | (with_reducible exact ih0 _ _ _ _)
   | (with_reducible exact LeO.refl _)
   | (with_reducible exact LeO.none _)
   | (with_reducible refine LeO.ite ?_ ?_)
   | (with_reducible refine LeO.bind ?_ (fun _ => ?_))
   | exact ih0 _ _ _ _
   | exact LeO.none _
   | refine LeO.ite ?_ ?_
   | refine LeO.bind ?_ (fun _ => ?_)
set_option maxHeartbeats 8000000 in
set_option maxRecDepth 100000 in
theorem Dj.calls (k : Nat) (a0 : Int) (r1 : ByteArray) (r2 : Bool) (w : World) (h : Dj.f k a0 = some (r1, r2)) :
  Calls Tryz.prog 32 #[.int .i64 a0] w fun e w' => e = .returned (.tuple #[.string r1, .bool r2]) ∧ Below w.heap.size w w' := by
 have HB := Ac.mk (Below.refl w.heap.size w)
 have H : ((Eb.f a0 0 15).bind fun t263 => (if t263 = true then (Dj.l0 k a0 (([(⟨#[100, 111, 99, 117, 109, 101, 110, 116, 115]⟩ : ByteArray), (⟨#[105, 110, 115, 112, 101, 99, 116, 105, 111, 110]⟩ : ByteArray), (⟨#[100, 117, 116, 105, 101, 115]⟩ : ByteArray), (⟨#[113, 117, 97, 114, 97, 110, 116, 105, 110, 101]⟩ : ByteArray)] : List ByteArray)) (⟨#[]⟩ : ByteArray) 0) else (some ((⟨#[]⟩ : ByteArray), false)))) = some (r1, r2) := h
 clear h
 replace H := Option.bind_eq_some_iff.mp H
 obtain ⟨t263, A20, H⟩ := H
 try dsimp only at H
 have A2 := Ac.mk A20
 clear A20
 by_cases c3 : t263 = true
 ·subst c3
  have H1 : (Dj.l0 k a0 (([(⟨#[100, 111, 99, 117, 109, 101, 110, 116, 115]⟩ : ByteArray), (⟨#[105, 110, 115, 112, 101, 99, 116, 105, 111, 110]⟩ : ByteArray), (⟨#[100, 117, 116, 105, 101, 115]⟩ : ByteArray), (⟨#[113, 117, 97, 114, 97, 110, 116, 105, 110, 101]⟩ : ByteArray)] : List ByteArray)) (⟨#[]⟩ : ByteArray) 0) = some (r1, r2) := by rw [if_pos rfl] at H; exact H
  clear H
  have H := H1
  clear H1
  obtain ⟨y264, hy264⟩ : ∃ y_ : List ByteArray, y_ = (([(⟨#[100, 111, 99, 117, 109, 101, 110, 116, 115]⟩ : ByteArray), (⟨#[105, 110, 115, 112, 101, 99, 116, 105, 111, 110]⟩ : ByteArray), (⟨#[100, 117, 116, 105, 101, 115]⟩ : ByteArray), (⟨#[113, 117, 97, 114, 97, 110, 116, 105, 110, 101]⟩ : ByteArray)] : List ByteArray)) := ⟨_, rfl⟩
  replace H : (Dj.l0 k a0 y264 (⟨#[]⟩ : ByteArray) 0) = some (r1, r2) := by first | (rw [hy264]; with_reducible exact H) | (have H2_ := (Option.bind_some _ _).symm.trans H; rw [hy264]; with_reducible exact H2_) | (have H2_ := (Option.bind_some _ _).symm.trans H; with_reducible exact H2_) | with_reducible exact H | (rw [hy264]; exact H) | exact H
  have Ny264 := Ac.mk hy264
  clear hy264
  have H' := Ac.mk H
  clear H
  go_enter Tryz.func32, Tryz.ntmps32
  go_wp2_with (first | ((with_reducible refine Ap (f := 41) rfl ?_); refine Bj (some 8) rfl rfl Tryz.func41 (by kernel_rfl) rfl #[.int .i64 a0, .int .i64 0, .int .i64 15] rfl Ya_ ?_; (with_reducible refine (Eb.calls a0 0 15 true _ A2.out).mono ?_); rintro e w' ⟨rfl, ⟨nd, rfl⟩⟩; refine ⟨_, rfl, ?_⟩) | ((with_reducible refine Dl (N := 10) rfl ?_); refine Kd.Hz Kd.string _ 9 ?hg (N := 10) ?hd (xs := ([(⟨#[100, 111, 99, 117, 109, 101, 110, 116, 115]⟩ : ByteArray), (⟨#[105, 110, 115, 112, 101, 99, 116, 105, 111, 110]⟩ : ByteArray), (⟨#[100, 117, 116, 105, 101, 115]⟩ : ByteArray), (⟨#[113, 117, 97, 114, 97, 110, 116, 105, 110, 101]⟩ : ByteArray)] : List ByteArray)) (inner := [.string (⟨#[100, 111, 99, 117, 109, 101, 110, 116, 115]⟩ : ByteArray), .string (⟨#[105, 110, 115, 112, 101, 99, 116, 105, 111, 110]⟩ : ByteArray), .string (⟨#[100, 117, 116, 105, 101, 115]⟩ : ByteArray), .string (⟨#[113, 117, 97, 114, 97, 110, 116, 105, 110, 101]⟩ : ByteArray)]) (ok := fun _ => True) (okp := fun _ => True) ?hr ?hp (fun _ hk => hk) trivial (Below.refl _ _) (Nat.le_refl _) (by simp) ?_; (case hd => rfl); (case hg => rfl); (case hr => first | (go_simp; done) | (go_simp; rfl)); (case hp => exact (Ed.one (show Kd.M Kd.string _ _ _ (⟨#[100, 111, 99, 117, 109, 101, 110, 116, 115]⟩ : ByteArray) [.string (⟨#[100, 111, 99, 117, 109, 101, 110, 116, 115]⟩ : ByteArray)] from rfl) (Ed.one (show Kd.M Kd.string _ _ _ (⟨#[105, 110, 115, 112, 101, 99, 116, 105, 111, 110]⟩ : ByteArray) [.string (⟨#[105, 110, 115, 112, 101, 99, 116, 105, 111, 110]⟩ : ByteArray)] from rfl) (Ed.one (show Kd.M Kd.string _ _ _ (⟨#[100, 117, 116, 105, 101, 115]⟩ : ByteArray) [.string (⟨#[100, 117, 116, 105, 101, 115]⟩ : ByteArray)] from rfl) (Ed.one (show Kd.M Kd.string _ _ _ (⟨#[113, 117, 97, 114, 97, 110, 116, 105, 110, 101]⟩ : ByteArray) [.string (⟨#[113, 117, 97, 114, 97, 110, 116, 105, 110, 101]⟩ : ByteArray)] from rfl) (Ed.none _ _)))))); intro v265 w4 ho5 hb hg_ hnew_; clear hg_ hnew_; (first | rw [← Ny264.out] at ho5 | (simp only [Int.reduceToNat] at ho5; rw [← Ny264.out] at ho5)); have n0_ := Ac.mk (Kd.Gg ho5 (Ba Yb_)); have n1_ := Ac.mk (Ar Yb_ hb); clear HB; have HO266 := n0_; have HB := n1_; clear n0_ n1_; clear hb ho5))
  go_loopg [5, 6] k (fun kq v5 v6 w' => ∃ (x5_1 : ByteArray) (x6_1 : Int), v5 = .string x5_1 ∧ v6 = .int .i64 x6_1 ∧ Ac (Dj.l0 kq a0 y264 x5_1 x6_1 = some (r1, r2)) ∧ Ac (kq ≤ k) ∧ Ac (Kd.R Kd.string 9 w' w.heap.size (fun _ => True) v265 y264) ∧ Ac (Below w.heap.size w w'))
  case atStart => exact ⟨((⟨#[]⟩ : ByteArray)), (0), Yf_, Yf_, H', ⟨Nat.le_refl _⟩, ⟨by (with_reducible repeat (first | apply Kd.Cb | apply Kd.Bz | apply Kd.Cm)); exact HO266.out⟩, ⟨by repeat (first | (with_reducible first | exact HB.out | apply Ae | apply Aa | apply Ad) | exact HB.out)⟩⟩
  case round =>
   clear H'
   try clear p2; try clear c3; try clear c4
   obtain ⟨x5_1, x6_1, rfl, rfl, HA, HK1, HO_4, HB⟩ := hrel
   cases gk with
   | zero => exact absurd HA.out (by simp [Dj.l0])
   | succ k1 =>
    have H := HA.out
    clear HA
    simp only [Dj.l0] at H
    by_cases c6 : x6_1 < 4
    ·rw [if_pos c6] at H
     have c6b0 : decide (x6_1 < 4) = true := decide_eq_true c6
     clear c6
     obtain ⟨ji7, hji7⟩ : ∃ j_ : Int, (IntKind.u64.wrap (x6_1)) = j_ := ⟨_, rfl⟩
     replace H : (if 0 ≤ (ji7) then (if (Go.bits .and .i64 (shr .i64 a0 (ji7)) 1) = 0 then (Dj.l0 k1 a0 y264 x5_1 (wrap64 (x6_1 + 1))) else (if x5_1.toList = ([] : List UInt8) then (if 0 ≤ x6_1 then (if x6_1 < (y264.length : Int) then (if x5_1.size + (rdOf ByteArray.empty y264 x6_1).size ≤ 9223372036854775807 then (Dj.l0 k1 a0 y264 (x5_1 ++ (rdOf ByteArray.empty y264 x6_1)) (wrap64 (x6_1 + 1))) else (none)) else (none)) else (none)) else (if x5_1.size + 2 ≤ 9223372036854775807 then (if 0 ≤ x6_1 then (if x6_1 < (y264.length : Int) then (if (x5_1 ++ (⟨#[44, 32]⟩ : ByteArray)).size + (rdOf ByteArray.empty y264 x6_1).size ≤ 9223372036854775807 then (Dj.l0 k1 a0 y264 ((x5_1 ++ (⟨#[44, 32]⟩ : ByteArray)) ++ (rdOf ByteArray.empty y264 x6_1)) (wrap64 (x6_1 + 1))) else (none)) else (none)) else (none)) else (none)))) else (none)) = some (r1, r2) := by first | (rw [hji7] at H; exact H) | (simp only [hji7] at H ⊢; exact H)
     by_cases c8 : 0 ≤ (ji7)
     ·rw [if_pos c8] at H
      have c8b0 := eq_true c8
      have c8b1 : decide (0 ≤ (ji7)) = true := decide_eq_true c8
      clear c8
      obtain ⟨ji9, hji9⟩ : ∃ j_ : Int, (shr .i64 a0 (ji7)) = j_ := ⟨_, rfl⟩
      replace H : (if (Go.bits .and .i64 (ji9) 1) = 0 then (Dj.l0 k1 a0 y264 x5_1 (wrap64 (x6_1 + 1))) else (if x5_1.toList = ([] : List UInt8) then (if 0 ≤ x6_1 then (if x6_1 < (y264.length : Int) then (if x5_1.size + (rdOf ByteArray.empty y264 x6_1).size ≤ 9223372036854775807 then (Dj.l0 k1 a0 y264 (x5_1 ++ (rdOf ByteArray.empty y264 x6_1)) (wrap64 (x6_1 + 1))) else (none)) else (none)) else (none)) else (if x5_1.size + 2 ≤ 9223372036854775807 then (if 0 ≤ x6_1 then (if x6_1 < (y264.length : Int) then (if (x5_1 ++ (⟨#[44, 32]⟩ : ByteArray)).size + (rdOf ByteArray.empty y264 x6_1).size ≤ 9223372036854775807 then (Dj.l0 k1 a0 y264 ((x5_1 ++ (⟨#[44, 32]⟩ : ByteArray)) ++ (rdOf ByteArray.empty y264 x6_1)) (wrap64 (x6_1 + 1))) else (none)) else (none)) else (none)) else (none)))) = some (r1, r2) := by first | (rw [hji9] at H; exact H) | (simp only [hji9] at H ⊢; exact H)
      have hji9_ : (a0 / 2 ^ min (ji7).toNat 64) = ji9 := hji9
      have hji9z : (ji7) ≤ 64 → (a0 / 2 ^ (ji7).toNat) = ji9 := shr_small hji9
      by_cases c10 : (Go.bits .and .i64 (ji9) 1) = 0
      ·rw [if_pos c10] at H
       have c10b0 : ((Go.bits .and .i64 (ji9) 1) == 0) = true := beq_iff_eq.mpr c10
       have c10b1 : ((Go.bits .and .i64 (ji9) 1) != 0) = false := bne_eq_false_iff_eq.mpr c10
       clear c10
       have H' := Ac.mk H
       clear H
       go_wp2
       go_roundg k1
       case measure => have := HK1.out; omega
       case rel => exact ⟨(x5_1), (wrap64 (x6_1 + 1)), Yf_, Yf_, H', ⟨by have := HK1.out; omega⟩, ⟨by (with_reducible repeat (first | apply Kd.Cb | apply Kd.Bz | apply Kd.Cm)); exact HO_4.out⟩, ⟨by repeat (first | (with_reducible first | exact HB.out | apply Ae | apply Aa | apply Ad) | exact HB.out)⟩⟩
      ·rw [if_neg c10] at H
       have c10b0 : ((Go.bits .and .i64 (ji9) 1) == 0) = false := beq_eq_false_iff_ne.mpr c10
       have c10b1 : ((Go.bits .and .i64 (ji9) 1) != 0) = true := bne_iff_ne.mpr c10
       by_cases c11 : x5_1.toList = ([] : List UInt8)
       ·rw [if_pos c11] at H
        have c11b0 : (x5_1.toList == ([] : List UInt8)) = true := beq_iff_eq.mpr c11
        have c11b1 : (x5_1.toList != ([] : List UInt8)) = false := bne_eq_false_iff_eq.mpr c11
        clear c11
        by_cases c12 : 0 ≤ x6_1
        ·rw [if_pos c12] at H
         have c12b0 : decide (0 ≤ x6_1) = true := decide_eq_true c12
         clear c12
         by_cases c13 : x6_1 < (y264.length : Int)
         ·rw [if_pos c13] at H
          have c13b0 : decide (x6_1 < (y264.length : Int)) = true := decide_eq_true c13
          clear c13
          by_cases c14 : x5_1.size + (rdOf ByteArray.empty y264 x6_1).size ≤ 9223372036854775807
          ·rw [if_pos c14] at H
           have c14b0 := eq_true c14
           have c14b1 : decide (x5_1.size + (rdOf ByteArray.empty y264 x6_1).size ≤ 9223372036854775807) = true := decide_eq_true c14
           try have c14b2 : (9223372036854775807 < x5_1.size + (rdOf ByteArray.empty y264 x6_1).size) = False := eq_false (Nat.not_lt.2 c14)
           have H' := Ac.mk H
           clear H
           obtain ⟨Ao15, co15, eo15⟩ := Kd.Gh HO_4.out
           subst eo15
           have p267 : 0 ≤ (x6_1 : Int) := of_decide_eq_true Ye_
           have q267 : x6_1 < (y264.length : Int) := of_decide_eq_true Ye_
           obtain ⟨ad267, e267, hx267_0⟩ := Kd.I8 (Kd.Ec HO_4.out).2.2 x6_1 p267 q267
           cases e267
           replace p267 := eq_true p267
           replace q267 := eq_true q267
           go_wp2
           go_roundg k1
           case measure => have := HK1.out; omega
           case rel => exact ⟨(x5_1 ++ (rdOf ByteArray.empty y264 x6_1)), (wrap64 (x6_1 + 1)), Yf_, Yf_, H', ⟨by have := HK1.out; omega⟩, ⟨by (with_reducible repeat (first | apply Kd.Cb | apply Kd.Bz | apply Kd.Cm)); exact HO_4.out⟩, ⟨by repeat (first | (with_reducible first | exact HB.out | apply Ae | apply Aa | apply Ad) | exact HB.out)⟩⟩
          ·rw [if_neg c14] at H
           exact absurd H (by simp)
         ·rw [if_neg c13] at H
          exact absurd H (by simp)
        ·rw [if_neg c12] at H
         exact absurd H (by simp)
       ·rw [if_neg c11] at H
        have c11b0 : (x5_1.toList == ([] : List UInt8)) = false := beq_eq_false_iff_ne.mpr c11
        have c11b1 : (x5_1.toList != ([] : List UInt8)) = true := bne_iff_ne.mpr c11
        by_cases c16 : x5_1.size + 2 ≤ 9223372036854775807
        ·rw [if_pos c16] at H
         have c16b0 := eq_true c16
         have c16b1 : decide (x5_1.size + 2 ≤ 9223372036854775807) = true := decide_eq_true c16
         try have c16b2 : (9223372036854775807 < x5_1.size + 2) = False := eq_false (Nat.not_lt.2 c16)
         by_cases c17 : 0 ≤ x6_1
         ·rw [if_pos c17] at H
          have c17b0 : decide (0 ≤ x6_1) = true := decide_eq_true c17
          clear c17
          by_cases c18 : x6_1 < (y264.length : Int)
          ·rw [if_pos c18] at H
           have c18b0 : decide (x6_1 < (y264.length : Int)) = true := decide_eq_true c18
           clear c18
           by_cases c19 : (x5_1 ++ (⟨#[44, 32]⟩ : ByteArray)).size + (rdOf ByteArray.empty y264 x6_1).size ≤ 9223372036854775807
           ·rw [if_pos c19] at H
            have c19b0 := eq_true c19
            have c19b1 : decide ((x5_1 ++ (⟨#[44, 32]⟩ : ByteArray)).size + (rdOf ByteArray.empty y264 x6_1).size ≤ 9223372036854775807) = true := decide_eq_true c19
            try have c19b2 : (9223372036854775807 < (x5_1 ++ (⟨#[44, 32]⟩ : ByteArray)).size + (rdOf ByteArray.empty y264 x6_1).size) = False := eq_false (Nat.not_lt.2 c19)
            have c19z0 : (⟨#[44, 32]⟩ : ByteArray).size = 2 := rfl
            have c19b3 := c19
            try simp only [ByteArray.size_extract, ByteArray.size_append, c19z0] at c19b3
            have c19b4 := eq_false (Nat.not_lt.2 c19b3)
            have H' := Ac.mk H
            clear H
            obtain ⟨Ao20, co20, eo20⟩ := Kd.Gh HO_4.out
            subst eo20
            have p268 : 0 ≤ (x6_1 : Int) := of_decide_eq_true Ye_
            have q268 : x6_1 < (y264.length : Int) := of_decide_eq_true Ye_
            obtain ⟨ad268, e268, hx268_0⟩ := Kd.I8 (Kd.Ec HO_4.out).2.2 x6_1 p268 q268
            cases e268
            replace p268 := eq_true p268
            replace q268 := eq_true q268
            go_wp2
            go_roundg k1
            case measure => have := HK1.out; omega
            case rel => exact ⟨((x5_1 ++ (⟨#[44, 32]⟩ : ByteArray)) ++ (rdOf ByteArray.empty y264 x6_1)), (wrap64 (x6_1 + 1)), Yf_, Yf_, H', ⟨by have := HK1.out; omega⟩, ⟨by (with_reducible repeat (first | apply Kd.Cb | apply Kd.Bz | apply Kd.Cm)); exact HO_4.out⟩, ⟨by repeat (first | (with_reducible first | exact HB.out | apply Ae | apply Aa | apply Ad) | exact HB.out)⟩⟩
           ·rw [if_neg c19] at H
            exact absurd H (by simp)
          ·rw [if_neg c18] at H
           exact absurd H (by simp)
         ·rw [if_neg c17] at H
          exact absurd H (by simp)
        ·rw [if_neg c16] at H
         exact absurd H (by simp)
     ·rw [if_neg c8] at H
      exact absurd H (by simp)
    ·rw [if_neg c6] at H
     have c6b0 : decide (x6_1 < 4) = false := decide_eq_false c6
     clear c6
     by_cases c21 : x5_1.toList = ([] : List UInt8)
     ·rw [if_pos c21] at H
      have c21b0 : (x5_1.toList == ([] : List UInt8)) = true := beq_iff_eq.mpr c21
      have c21b1 : (x5_1.toList != ([] : List UInt8)) = false := bne_eq_false_iff_eq.mpr c21
      clear c21
      simp only [Option.some.injEq, Prod.mk.injEq] at H
      obtain ⟨rfl, rfl⟩ := H
      go_wp2
      go_ret2
      exact ⟨by first | rfl | (simp [Au, Aw] <;> rfl) | (simp [*, Au, Aw] <;> rfl), by repeat (first | (with_reducible first | exact HB.out | apply Ae | apply Aa | apply Ad) | exact HB.out)⟩
     ·rw [if_neg c21] at H
      have c21b0 : (x5_1.toList == ([] : List UInt8)) = false := beq_eq_false_iff_ne.mpr c21
      have c21b1 : (x5_1.toList != ([] : List UInt8)) = true := bne_iff_ne.mpr c21
      simp only [Option.some.injEq, Prod.mk.injEq] at H
      obtain ⟨rfl, rfl⟩ := H
      go_wp2
      go_ret2
      exact ⟨by first | rfl | (simp [Au, Aw] <;> rfl) | (simp [*, Au, Aw] <;> rfl), by repeat (first | (with_reducible first | exact HB.out | apply Ae | apply Aa | apply Ad) | exact HB.out)⟩
 ·replace c3 := Bool.eq_false_iff.mpr c3
  subst c3
  have H1 : (some ((⟨#[]⟩ : ByteArray), false)) = some (r1, r2) := by rw [if_neg (show ¬ (false = true) by decide)] at H; exact H
  clear H
  have H := H1
  clear H1
  simp only [Option.some.injEq, Prod.mk.injEq] at H
  obtain ⟨rfl, rfl⟩ := H
  go_enter Tryz.func32, Tryz.ntmps32
  go_wp2_with (first | ((with_reducible refine Ap (f := 41) rfl ?_); refine Bj (some 8) rfl rfl Tryz.func41 (by kernel_rfl) rfl #[.int .i64 a0, .int .i64 0, .int .i64 15] rfl Ya_ ?_; (with_reducible refine (Eb.calls a0 0 15 false _ A2.out).mono ?_); rintro e w' ⟨rfl, ⟨nd, rfl⟩⟩; refine ⟨_, rfl, ?_⟩))
  go_ret2
  exact ⟨by first | rfl | (simp [Au, Aw] <;> rfl) | (simp [*, Au, Aw] <;> rfl), by repeat (first | (with_reducible first | exact HB.out | apply Ae | apply Aa | apply Ad) | exact HB.out)⟩
end Go.Proofs.YtghnljoaklmakaaGreatDoor.X

