/- Texts that the proof of the law FnHistories leans on, part 2 of 6. -/
import Derived.Test.YtpalafegcndccaaDoorProg
import Derived.Lib.LaidTab
import Derived.Lib.AppendIntMem
import Derived.WalkSmall
import Derived.Stop.LaidErr
import Derived.Below
import Derived.Deep.Draws
import Derived.Deep.AppendLies
import Derived.Maps.AppendAt
import Derived.OwnWalk
import Derived.Laws.BytesArg
import Derived.Laws.MakeOwn
import Derived.Laws.OwnMore
import Derived.Deep.OwnRows
import Derived.Tactics
import Derived.Lib.ConvBytes
import Derived.Laws.Slices
import Derived.WalkKit
import Derived.KernelRfl
import Derived.RowKit3
import Derived.Deep.LoopGhost
import Derived.Deep.QuietTactic
import Derived.BigQuiet
import Derived.WideLaws
import Derived.Deep.DeepCutAuto
import Derived.Deep.CutBlock
import Derived.Deep.RegionHeld3
import Derived.Laws.Rows
import Derived.Lib.AppendStr
import Derived.ArgAppend
import Derived.Laws.IdiomCopy
import Derived.OrdersHeld
import Derived.Laws.BitsLemmas
import Derived.RowKit
import Derived.Shelf.Strings.Builder1
import Derived.Shelf.Strings.BuilderF
import Derived.Shelf.Strings.BuilderK
import Derived.Shelf.Utf8.RuneCount
import Derived.Shelf.Strconv.Atoi
import Derived.Shelf.Strconv.Itoa0
import Derived.Shelf.Strconv.Itoa1
import Derived.Shelf.LaysM
import Derived.Shelf.Strconv.Itoa2
import Derived.Shelf.Strconv.Itoa3
import Derived.Shelf.Strconv.AtoiErrFast
import Derived.Shelf.Strconv.ParseIntEmpty
import Derived.Shelf.Strconv.AtoiFail
import Derived.Shelf.Strconv.Clone
import Derived.Shelf.Strconv.SyntaxError
import Derived.Shelf.LaysC
import Derived.Shelf.Strconv.ToError
import Derived.Shelf.Strconv.Lower
import Derived.Shelf.Strconv.ParseUint10
import Derived.Shelf.Strconv.ParseUint10Empty
import Derived.Shelf.Strconv.ParseUint10Any
import Derived.Shelf.Strconv.ParseInt10
import Derived.Shelf.Strconv.AtoiLong
import Derived.Shelf.Strconv.AtoiInnerAll
import Derived.Shelf.Strconv.RangeError
import Derived.Shelf.Strconv.ToErrorRange
import Derived.Shelf.Strconv.AtoiAll
import Derived.Shelf.Strconv.ErrVarAll
import Derived.Shelf.Strconv.ParseUintEmpty
import Derived.Shelf.Strconv.ParseUint10b64
import Derived.Shelf.Strconv.ParseUint10b32
import Derived.Shelf.Strconv.ParseUint10b16
import Derived.Shelf.Strconv.ParseUint10b8
import Derived.Shelf.Strings.Search1
import Derived.Shelf.Strings.Search2
import Derived.Shelf.Strings.Search3
import Derived.Shelf.Strings.Cut
import Derived.Shelf.Strings.Count
import Derived.Shelf.Strings.Shaped
import Derived.Shelf.Strings.Split
import Derived.Shelf.Strings.SplitShaped
import Derived.Shelf.Unicode.Decode
import Derived.Shelf.Strings.RuneCount
import Derived.Shelf.Strings.Explode
import Derived.Shelf.Unicode.DecodeSlow
import Derived.Shelf.Unicode.DecodeAny
import Derived.Shelf.Strings.BuilderCap
import Derived.Shelf.Slices.Turned
import Derived.Test.YtpalafegcndccaaDoorKFnHistories0
set_option linter.unusedVariables false
set_option linter.unusedSimpArgs false
namespace Go.Proofs.YtpalafegcndccaaDoorG
open Go.RowKit Go.Proofs.YtpalafegcndccaaDoorW.PrintWords
/-- A variable that holds an error. -/
def ErrAt (w : World) (n : String) : Prop := ∃ g a b, Tryd.prog.globalNamed n = some g ∧ g < w.heap.size ∧ w.var? Tryd.prog n = some #[.iface a b]
theorem ErrAt.below {w w' : World} {n : String} (h : ErrAt w n) (hb : Below w.heap.size w w') : ErrAt w' n := by
  obtain ⟨g, a, b, hg, hlt, ht⟩ := h
  exact ⟨g, a, b, hg, Nat.lt_of_lt_of_le hlt hb.size, var?_below hb hg hlt ht⟩
theorem ErrAt.of_laid {W : World} {n : String} {text : List UInt8} {g : Nat} (h : laidMet Tryd.prog [(n, .iface "*errors.errorString" (.ptr (.agg [.lit (.string text)])))] W) (hn : Tryd.prog.globalNamed n = some g) (ht : (Tryd.prog.globals[g]?).map (·.type) = some 84) : ErrAt W n := by
  obtain ⟨a0, s0, hv0, -, -, -⟩ := laid_sentinel h hn ht Tryd.underlying84 (fun u hu => typeName_ptr_named (nm := "errors.errorString") (tp := 124) (by rw [show "*" ++ "errors.errorString" = "*errors.errorString" from by decide]; kernel_rfl) (by kernel_rfl) (by decide) u (by rw [show "*" ++ "errors.errorString" = "*errors.errorString" from by decide]; exact hu)) Tryd.underlying124 Tryd.underlying126 rfl rfl Tryd.underlying9 (by kernel_rfl) (by kernel_rfl)
  refine ⟨g, _, _, hn, ?_, hv0⟩
  have h := hv0
  unfold World.var? at h
  rw [hn] at h
  simp only [Option.bind_some] at h
  cases hh : W.heap[g]? with
  | none => rw [hh] at h; cases h
  | some o => exact (Array.getElem?_eq_some_iff.1 hh).1
/-- internal/strconv.uint64pow10 reads as the powers of ten. -/
def GlobT (w : World) : Prop := (∃ g, Tryd.prog.globalNamed "internal/strconv.uint64pow10" = some g ∧ g < w.heap.size) ∧ Lib.TabIs Tryd.prog w "internal/strconv.uint64pow10" .u64 Lib.pow10Tab
theorem GlobT.below {w w' : World} (h : GlobT w) (hb : Below w.heap.size w w') : GlobT w' := by
  obtain ⟨⟨g, hg, hlt⟩, ht⟩ := h
  exact ⟨⟨g, hg, Nat.lt_of_lt_of_le hlt hb.size⟩, var?_below hb hg hlt ht⟩
/-- From the table as it is read to the fact. -/
theorem GlobT.of_tab {W : World} (h0 : laidMet Tryd.prog [("internal/strconv.uint64pow10", Lib.tabData .u64 Lib.pow10Tab)] W) : GlobT W := by
  have h : Lib.TabIs Tryd.prog W "internal/strconv.uint64pow10" .u64 Lib.pow10Tab := Lib.tabIs_of_head (g := 3) (t := 128) (e := 67) (n := 20) (by kernel_rfl) (by kernel_rfl) (by kernel_rfl) (by kernel_rfl) (by kernel_rfl) (by kernel_rfl) h0
  refine ⟨?_, h⟩
  have hn : Tryd.prog.globalNamed "internal/strconv.uint64pow10" = some 3 := by kernel_rfl
  refine ⟨_, hn, ?_⟩
  unfold Lib.TabIs World.var? at h
  rw [hn] at h
  simp only [Option.bind_some] at h
  cases hh : W.heap[3]? with
  | none => rw [hh] at h; cases h
  | some o => exact (Array.getElem?_eq_some_iff.1 hh).1
/-- A number of the library's: some whole number. -/
def MaxAt (w : World) : Prop := ∃ m, w.cell? ⟨0, 0, none⟩ = some (.int .i64 m)
theorem MaxAt.below {w w' : World} (h : MaxAt w) (hb : Below w.heap.size w w') : MaxAt w' := by
  obtain ⟨m, h⟩ := h
  exact ⟨m, (hb.cell (World.block_lt_of_cell? w _ h)).trans h⟩
/-- All four. -/
def F9 (w : World) : Prop := GlobT w ∧ ErrAt w "strconv.ErrSyntax" ∧ ErrAt w "strconv.ErrRange" ∧ MaxAt w
theorem F9.below {w w' : World} (h : F9 w) (hb : Below w.heap.size w w') : F9 w' := ⟨h.1.below hb, h.2.1.below hb, h.2.2.1.below hb, h.2.2.2.below hb⟩
theorem F9.tab {w : World} (h : F9 w) : Lib.TabIs Tryd.prog w "internal/strconv.uint64pow10" .u64 Lib.pow10Tab := h.1.2
theorem F9.esyn {w : World} (h : F9 w) : ErrAt w "strconv.ErrSyntax" := h.2.1
theorem F9.erng {w : World} (h : F9 w) : ErrAt w "strconv.ErrRange" := h.2.2.1
theorem F9.max {w : World} (h : F9 w) : MaxAt w := h.2.2.2
theorem F9.of_tabs {W : World} {ts tr : List UInt8} (h0 : laidMet Tryd.prog [("internal/strconv.uint64pow10", Lib.tabData .u64 Lib.pow10Tab)] W) (h1 : laidMet Tryd.prog [("strconv.ErrSyntax", .iface "*errors.errorString" (.ptr (.agg [.lit (.string ts)])))] W) (h2 : laidMet Tryd.prog [("strconv.ErrRange", .iface "*errors.errorString" (.ptr (.agg [.lit (.string tr)])))] W) (h3 : MaxAt W) : F9 W :=
  ⟨GlobT.of_tab h0, ErrAt.of_laid (g := 1) h1 (by kernel_rfl) (by kernel_rfl), ErrAt.of_laid (g := 2) h2 (by kernel_rfl) (by kernel_rfl), h3⟩
end Go.Proofs.YtpalafegcndccaaDoorG

namespace Go.Proofs.YtpalafegcndccaaDoor.X
open Go.RowKit Go.Proofs.YtpalafegcndccaaDoorW.PrintWords Go.Proofs.YtpalafegcndccaaDoorW.PrintLast Go.Proofs.YtpalafegcndccaaDoorW.PrintMore
attribute [local go_sem] Ej Eg Eu Ew D9 D8 Ei Eh
open Go.Proofs.YtpalafegcndccaaDoorG

def errW : Option Int → Value
  | none => .nilIface
  | some c => .iface 99 (.int .i64 c)
theorem Be : errW none = .nilIface := rfl
theorem Bf (c : Int) : errW (some c) = .iface 99 (.int .i64 c) := rfl
theorem info3 : (Tryd.prog.info? 3).map (fun i => (i.zero, i.size, i.bytes)) = some (some (.int .i64 0), 1, 8) := by kernel_rfl
theorem info9 : (Tryd.prog.info? 9).map (fun i => (i.zero, i.size, i.bytes)) = some (some (.string ⟨#[]⟩), 1, 16) := by kernel_rfl
theorem Hr : (Tryd.prog.info? 40).map (fun i => (i.zero, i.size, i.bytes)) = some (some (.agg #[(.int .i64 0), (.int .i64 0)]), 2, 16) := by kernel_rfl
-- the values' own types
structure S51 where
  f0 : Int
  f1 : Int
def z51 : S51 := ⟨(0 : Int), (0 : Int)⟩
def k51 : Kd S51 := Kd.iso (Kd.pair (Kd.int .i64) (Kd.int .i64)) (fun x : S51 => (x.f0, x.f1))
theorem k51_open {w : World} {x : S51} {cs : List Value} (h : k51.K w x cs) : cs = [.int .i64 x.f0, .int .i64 x.f1] := by
  obtain ⟨_, _, rfl, rfl, rfl⟩ := h
  exact rfl
def rd_T51 (xs : List S51) (i : Int) : S51 := xs.getD i.toNat z51
theorem at_T51 {w : World} {A : Option Addr} {n : Nat} {xs : List S51} (h : Kd.C k51 w A n xs) (i : Int) (h0 : 0 ≤ i) (h1 : i < n) : ∃ ad , A = some ad ∧ w.cell? (ad.add (i.toNat * 2)) = some (.int .i64 (rd_T51 xs i).f0) ∧ w.cell? ⟨(ad.add (i.toNat * 2)).block, (ad.add (i.toNat * 2)).off + 1, none⟩ = some (.int .i64 (rd_T51 xs i).f1) := by
  obtain ⟨ad, c, e, _, hK, hc0⟩ := Kd.C_get h z51 i h0 h1
  have hc : ∀ j u, c[j]? = some u → w.cell? (ad.add (i.toNat * 2 + j)) = some u := hc0
  obtain rfl := k51_open hK
  exact ⟨ad, e, hc 0 _ rfl, by rw [← add_field _ _ 1 (by omega)]; exact hc 1 _ rfl⟩
structure S40 where
  f0 : Int
  f1 : Int
def z40 : S40 := ⟨(0 : Int), (0 : Int)⟩
def k40 : Kd S40 := Kd.iso (Kd.pair (Kd.int .i64) (Kd.int .i64)) (fun x : S40 => (x.f0, x.f1))
theorem k40_open {w : World} {x : S40} {cs : List Value} (h : k40.K w x cs) : cs = [.int .i64 x.f0, .int .i64 x.f1] := by
  obtain ⟨_, _, rfl, rfl, rfl⟩ := h
  exact rfl
theorem k40_openM {w : World} {base : Nat} {ok : Nat → Prop} {x : S40} {cs : List Value} (h : k40.M w base ok x cs) : cs = [.int .i64 x.f0, .int .i64 x.f1] := by
  obtain ⟨_, _, rfl, rfl, rfl⟩ := h
  exact rfl
theorem G8 (w : World) (base : Nat) (ok : Nat → Prop) (x : S40)  : k40.M w base ok x [.int .i64 x.f0, .int .i64 x.f1] := ⟨[.int .i64 x.f0], [.int .i64 x.f1], rfl, rfl, rfl⟩
def Bc (xs : List S40) (i : Int) : S40 := xs.getD i.toNat z40
theorem F5 {w : World} {A : Option Addr} {n : Nat} {xs : List S40} (h : Kd.C k40 w A n xs) (i : Int) (h0 : 0 ≤ i) (h1 : i < n) : ∃ ad , A = some ad ∧ w.cell? (ad.add (i.toNat * 2)) = some (.int .i64 (Bc xs i).f0) ∧ w.cell? ⟨(ad.add (i.toNat * 2)).block, (ad.add (i.toNat * 2)).off + 1, none⟩ = some (.int .i64 (Bc xs i).f1) := by
  obtain ⟨ad, c, e, _, hK, hc0⟩ := Kd.C_get h z40 i h0 h1
  have hc : ∀ j u, c[j]? = some u → w.cell? (ad.add (i.toNat * 2 + j)) = some u := hc0
  obtain rfl := k40_open hK
  exact ⟨ad, e, hc 0 _ rfl, by rw [← add_field _ _ 1 (by omega)]; exact hc 1 _ rfl⟩
end Go.Proofs.YtpalafegcndccaaDoor.X

namespace Go.Proofs.YtpalafegcndccaaDoor.X
open Go.RowKit Go.Proofs.YtpalafegcndccaaDoorW.PrintWords Go.Proofs.YtpalafegcndccaaDoorW.PrintLast Go.Proofs.YtpalafegcndccaaDoorW.PrintMore
attribute [local go_sem] Ej Eg Eu Ew D9 D8 Ei Eh
open Go.Proofs.YtpalafegcndccaaDoorG
mutual
def Bj.j0 : Nat → Int → Int → Bool → Option (Int × Bool)
  | 0, _, _, _ => none
  | k + 1, x0, x1, x6 => if x6 = true then (Bj.j1 k x0 x1 x6) else (if x0 = 2 then (Bj.j1 k x0 x1 (x1 == 4)) else (Bj.j1 k x0 x1 false))
def Bj.j1 : Nat → Int → Int → Bool → Option (Int × Bool)
  | 0, _, _, _ => none
  | k + 1, x0, x1, x6 => if x6 = true then (some (1, true)) else (if x0 = 1 then (Bj.j2 k x0 x1 (x1 == 3)) else (Bj.j2 k x0 x1 false))
def Bj.j2 : Nat → Int → Int → Bool → Option (Int × Bool)
  | 0, _, _, _ => none
  | k + 1, x0, x1, x23 => if x23 = true then (some (2, true)) else (if x0 = 1 then (if x1 = 5 then (some (0, true)) else (if x1 = 6 then (some (0, true)) else (some (0, false)))) else (some (0, false)))
end
def Bj.f (k : Nat) (a0 : Int) (a1 : Int) : Option (Int × Bool) := if a0 = 0 then (if a1 = 1 then (Bj.j0 k a0 a1 true) else (Bj.j0 k a0 a1 (a1 == 2))) else (Bj.j0 k a0 a1 false)
theorem Bj.Et : ∀ k, (∀ y0 y1 y2, LeO (Bj.j0 k y0 y1 y2) (Bj.j0 (k + 1) y0 y1 y2)) ∧ (∀ y0 y1 y2, LeO (Bj.j1 k y0 y1 y2) (Bj.j1 (k + 1) y0 y1 y2)) ∧ (∀ y0 y1 y2, LeO (Bj.j2 k y0 y1 y2) (Bj.j2 (k + 1) y0 y1 y2))
  | 0 => ⟨fun _ _ _ r h => by simp [Bj.j0] at h, fun _ _ _ r h => by simp [Bj.j1] at h, fun _ _ _ r h => by simp [Bj.j2] at h⟩
  | k + 1 => by
    obtain ⟨ih0, ih1, ih2⟩ := Bj.Et k
    refine ⟨?_, ?_, ?_⟩
    · intro y0 y1 y2
      unfold Bj.j0
      repeat' first
      | (with_reducible exact ih0 _ _ _)
      | (with_reducible exact ih1 _ _ _)
      | (with_reducible exact ih2 _ _ _)
      | (with_reducible exact LeO.refl _)
      | (with_reducible exact LeO.none _)
      | (with_reducible refine LeO.ite ?_ ?_)
      | (with_reducible refine LeO.bind ?_ (fun _ => ?_))
      | exact ih0 _ _ _
      | exact ih1 _ _ _
      | exact ih2 _ _ _
      | exact LeO.none _
      | refine LeO.ite ?_ ?_
      | refine LeO.bind ?_ (fun _ => ?_)
    · intro y0 y1 y2
      unfold Bj.j1
      repeat' first
      | (with_reducible exact ih0 _ _ _)
      | (with_reducible exact ih1 _ _ _)
      | (with_reducible exact ih2 _ _ _)
      | (with_reducible exact LeO.refl _)
      | (with_reducible exact LeO.none _)
      | (with_reducible refine LeO.ite ?_ ?_)
      | (with_reducible refine LeO.bind ?_ (fun _ => ?_))
      | exact ih0 _ _ _
      | exact ih1 _ _ _
      | exact ih2 _ _ _
      | exact LeO.none _
      | refine LeO.ite ?_ ?_
      | refine LeO.bind ?_ (fun _ => ?_)
    · intro y0 y1 y2
      unfold Bj.j2
      repeat' first
      | (with_reducible exact ih0 _ _ _)
      | (with_reducible exact ih1 _ _ _)
      | (with_reducible exact ih2 _ _ _)
      | (with_reducible exact LeO.refl _)
      | (with_reducible exact LeO.none _)
      | (with_reducible refine LeO.ite ?_ ?_)
      | (with_reducible refine LeO.bind ?_ (fun _ => ?_))
      | exact ih0 _ _ _
      | exact ih1 _ _ _
      | exact ih2 _ _ _
      | exact LeO.none _
      | refine LeO.ite ?_ ?_
      | refine LeO.bind ?_ (fun _ => ?_)
theorem Bj.mono : ∀ a0 a1 k, LeO (Bj.f k a0 a1) (Bj.f (k + 1) a0 a1) := by
  intro a0 a1 k
  obtain ⟨ih0, ih1, ih2⟩ := Bj.Et k
  unfold Bj.f
  repeat' first
      | (with_reducible exact ih0 _ _ _)
      | (with_reducible exact ih1 _ _ _)
      | (with_reducible exact ih2 _ _ _)
      | (with_reducible exact LeO.refl _)
      | (with_reducible exact LeO.none _)
      | (with_reducible refine LeO.ite ?_ ?_)
      | (with_reducible refine LeO.bind ?_ (fun _ => ?_))
      | exact ih0 _ _ _
      | exact ih1 _ _ _
      | exact ih2 _ _ _
      | exact LeO.none _
      | refine LeO.ite ?_ ?_
      | refine LeO.bind ?_ (fun _ => ?_)
set_option maxHeartbeats 8000000 in
set_option maxRecDepth 100000 in
theorem Bj.calls (k : Nat) (a0 : Int) (a1 : Int) (r1 : Int) (r2 : Bool) (w : World) (h : Bj.f k a0 a1 = some (r1, r2)) :
    Calls Tryd.prog 46 #[.int .i64 a0, .int .i64 a1] w fun e w' => e = .returned (.tuple #[.int .i64 r1, .bool r2]) ∧ Cj w w' := by
  have H : (if a0 = 0 then (if a1 = 1 then (Bj.j0 k a0 a1 true) else (Bj.j0 k a0 a1 (a1 == 2))) else (Bj.j0 k a0 a1 false)) = some (r1, r2) := h
  clear h
  have HC3 := Aa.mk H
  clear H
  go_enter Tryd.func46, Tryd.ntmps46
  go_upto_region 1 with (fail)
  go_cut [6] (fun v6 wc => ∃ (kq : Nat) (x6_2 : Bool), v6 = .bool x6_2 ∧ Aa (Bj.j0 kq a0 a1 x6_2 = some (r1, r2)) ∧ Aa (kq ≤ k) ∧ Cj w wc)
  case first =>
    have H := HC3.out
    clear HC3
    by_cases c4 : a0 = 0
    · rw [if_pos c4] at H
      have c4b0 : (a0 == 0) = true := beq_iff_eq.mpr c4
      have c4b1 : (a0 != 0) = false := bne_eq_false_iff_eq.mpr c4
      clear c4
      (first | rw [c4b0] | (simp only [Dh, Dp]; rw [c4b0]) | skip)
      by_cases c5 : a1 = 1
      · rw [if_pos c5] at H
        have c5b0 : (a1 == 1) = true := beq_iff_eq.mpr c5
        have c5b1 : (a1 != 1) = false := bne_eq_false_iff_eq.mpr c5
        clear c5
        have H' := Aa.mk H
        clear H
        go_wp2
        go_meet
        case rel => exact ⟨_, (true), (by first | rfl | (simp; done) | (simp [*]; done)), H', ⟨by first | omega | exact Nat.le_refl _⟩, by repeat (first | exact Cj.refl _ | apply Cj.step)⟩
      · rw [if_neg c5] at H
        have c5b0 : (a1 == 1) = false := beq_eq_false_iff_ne.mpr c5
        have c5b1 : (a1 != 1) = true := bne_iff_ne.mpr c5
        have H' := Aa.mk H
        clear H
        go_wp2
        go_meet
        case rel => exact ⟨_, ((a1 == 2)), (by first | rfl | (simp; done) | (simp [*]; done)), H', ⟨by first | omega | exact Nat.le_refl _⟩, by repeat (first | exact Cj.refl _ | apply Cj.step)⟩
    · rw [if_neg c4] at H
      have c4b0 : (a0 == 0) = false := beq_eq_false_iff_ne.mpr c4
      have c4b1 : (a0 != 0) = true := bne_iff_ne.mpr c4
      (first | rw [c4b0] | (simp only [Dh, Dp]; rw [c4b0]) | skip)
      have H' := Aa.mk H
      clear H
      go_wp2
      go_meet
      case rel => exact ⟨_, (false), (by first | rfl | (simp; done) | (simp [*]; done)), H', ⟨by first | omega | exact Nat.le_refl _⟩, by repeat (first | exact Cj.refl _ | apply Cj.step)⟩
  case rest =>
    clear HC3
    try clear p2
    try clear c4
    try clear c4b0
    try clear c4b1
    try clear c5
    try clear c5b0
    try clear c5b1
    obtain ⟨kq, x6_2, rfl, HA, HJ2, ⟨mc2, rfl⟩⟩ := hcut
    cases kq with
    | zero => exact absurd HA.out (by simp [Bj.j0])
    | succ kj2 =>
      have H := HA.out
      clear HA
      simp only [Bj.j0] at H
      have HC6 := Aa.mk H
      clear H
      go_upto_if 6 with (fail)
      go_cut [6] (fun v6 wc => ∃ (kq : Nat) (x6_5 : Bool), v6 = .bool x6_5 ∧ Aa (Bj.j1 kq a0 a1 x6_5 = some (r1, r2)) ∧ Aa (kq ≤ kj2) ∧ Cj w wc)
      case first =>
        have H := HC6.out
        clear HC6
        by_cases c7 : x6_2 = true
        · subst c7
          have H1 : (Bj.j1 kj2 a0 a1 true) = some (r1, r2) := by rw [if_pos rfl] at H; exact H
          clear H
          have H := H1
          clear H1
          have H' := Aa.mk H
          clear H
          go_wp2
          go_meet
          case rel => exact ⟨_, (true), (by first | rfl | (simp; done) | (simp [*]; done)), H', ⟨by have := HJ2.out; first | omega | exact Nat.le_refl _⟩, by repeat (first | exact Cj.refl _ | apply Cj.step)⟩
        · replace c7 := Bool.eq_false_iff.mpr c7
          subst c7
          have H1 : (if a0 = 2 then (Bj.j1 kj2 a0 a1 (a1 == 4)) else (Bj.j1 kj2 a0 a1 false)) = some (r1, r2) := by rw [if_neg (show ¬ (false = true) by decide)] at H; exact H
          clear H
          have H := H1
          clear H1
          by_cases c8 : a0 = 2
          · rw [if_pos c8] at H
            have c8b0 : (a0 == 2) = true := beq_iff_eq.mpr c8
            have c8b1 : (a0 != 2) = false := bne_eq_false_iff_eq.mpr c8
            clear c8
            (first | rw [c8b0] | (simp only [Dh, Dp]; rw [c8b0]) | skip)
            have H' := Aa.mk H
            clear H
            go_wp2
            go_meet
            case rel => exact ⟨_, ((a1 == 4)), (by first | rfl | (simp; done) | (simp [*]; done)), H', ⟨by have := HJ2.out; first | omega | exact Nat.le_refl _⟩, by repeat (first | exact Cj.refl _ | apply Cj.step)⟩
          · rw [if_neg c8] at H
            have c8b0 : (a0 == 2) = false := beq_eq_false_iff_ne.mpr c8
            have c8b1 : (a0 != 2) = true := bne_iff_ne.mpr c8
            (first | rw [c8b0] | (simp only [Dh, Dp]; rw [c8b0]) | skip)
            have H' := Aa.mk H
            clear H
            go_wp2
            go_meet
            case rel => exact ⟨_, (false), (by first | rfl | (simp; done) | (simp [*]; done)), H', ⟨by have := HJ2.out; first | omega | exact Nat.le_refl _⟩, by repeat (first | exact Cj.refl _ | apply Cj.step)⟩
      case rest =>
        clear HC6
        try clear c2
        try clear p2
        try clear c4
        try clear c4b0
        try clear c4b1
        try clear c5
        try clear c5b0
        try clear c5b1
        try clear c7
        try clear c8
        try clear c8b0
        try clear c8b1
        try clear p2
        obtain ⟨kq, x6_5, rfl, HA, HJ5, ⟨mc5, rfl⟩⟩ := hcut
        cases kq with
        | zero => exact absurd HA.out (by simp [Bj.j1])
        | succ kj5 =>
          have H := HA.out
          clear HA
          simp only [Bj.j1] at H
          by_cases c9 : x6_5 = true
          · subst c9
            have H1 : (some (1, true)) = some (r1, r2) := by rw [if_pos rfl] at H; exact H
            clear H
            have H := H1
            clear H1
            simp only [Option.some.injEq, Prod.mk.injEq] at H
            obtain ⟨rfl, rfl⟩ := H
            go_wp2
            go_ret2
            exact ⟨by first | rfl | (simp; done) | (simp [*]; done), by repeat (first | exact Cj.refl _ | apply Cj.step)⟩
          · replace c9 := Bool.eq_false_iff.mpr c9
            subst c9
            have H1 : (if a0 = 1 then (Bj.j2 kj5 a0 a1 (a1 == 3)) else (Bj.j2 kj5 a0 a1 false)) = some (r1, r2) := by rw [if_neg (show ¬ (false = true) by decide)] at H; exact H
            clear H
            have H := H1
            clear H1
            have HC10 := Aa.mk H
            clear H
            go_upto_region 4 with (fail)
            go_cut [23] (fun v23 wc => ∃ (kq : Nat) (x23_9 : Bool), v23 = .bool x23_9 ∧ Aa (Bj.j2 kq a0 a1 x23_9 = some (r1, r2)) ∧ Aa (kq ≤ kj5) ∧ Cj w wc)
            case first =>
              have H := HC10.out
              clear HC10
              by_cases c11 : a0 = 1
              · rw [if_pos c11] at H
                have c11b0 : (a0 == 1) = true := beq_iff_eq.mpr c11
                have c11b1 : (a0 != 1) = false := bne_eq_false_iff_eq.mpr c11
                clear c11
                (first | rw [c11b0] | (simp only [Dh, Dp]; rw [c11b0]) | skip)
                have H' := Aa.mk H
                clear H
                go_wp2
                go_meet
                case rel => exact ⟨_, ((a1 == 3)), (by first | rfl | (simp; done) | (simp [*]; done)), H', ⟨by have := HJ2.out; have := HJ5.out; first | omega | exact Nat.le_refl _⟩, by repeat (first | exact Cj.refl _ | apply Cj.step)⟩
              · rw [if_neg c11] at H
                have c11b0 : (a0 == 1) = false := beq_eq_false_iff_ne.mpr c11
                have c11b1 : (a0 != 1) = true := bne_iff_ne.mpr c11
                (first | rw [c11b0] | (simp only [Dh, Dp]; rw [c11b0]) | skip)
                have H' := Aa.mk H
                clear H
                go_wp2
                go_meet
                case rel => exact ⟨_, (false), (by first | rfl | (simp; done) | (simp [*]; done)), H', ⟨by have := HJ2.out; have := HJ5.out; first | omega | exact Nat.le_refl _⟩, by repeat (first | exact Cj.refl _ | apply Cj.step)⟩
            case rest =>
              clear HC10
              try clear c1
              try clear c2
              try clear p2
              try clear c4
              try clear c4b0
              try clear c4b1
              try clear c5
              try clear c5b0
              try clear c5b1
              try clear c7
              try clear c8
              try clear c8b0
              try clear c8b1
              try clear c9
              try clear c11
              try clear c11b0
              try clear c11b1
              try clear p2
              obtain ⟨kq, x23_9, rfl, HA, HJ9, ⟨mc9, rfl⟩⟩ := hcut
              cases kq with
              | zero => exact absurd HA.out (by simp [Bj.j2])
              | succ kj9 =>
                have H := HA.out
                clear HA
                simp only [Bj.j2] at H
                by_cases c12 : x23_9 = true
                · subst c12
                  have H1 : (some (2, true)) = some (r1, r2) := by rw [if_pos rfl] at H; exact H
                  clear H
                  have H := H1
                  clear H1
                  simp only [Option.some.injEq, Prod.mk.injEq] at H
                  obtain ⟨rfl, rfl⟩ := H
                  go_wp2
                  go_ret2
                  exact ⟨by first | rfl | (simp; done) | (simp [*]; done), by repeat (first | exact Cj.refl _ | apply Cj.step)⟩
                · replace c12 := Bool.eq_false_iff.mpr c12
                  subst c12
                  have H1 : (if a0 = 1 then (if a1 = 5 then (some (0, true)) else (if a1 = 6 then (some (0, true)) else (some (0, false)))) else (some (0, false))) = some (r1, r2) := by rw [if_neg (show ¬ (false = true) by decide)] at H; exact H
                  clear H
                  have H := H1
                  clear H1
                  by_cases c13 : a0 = 1
                  · rw [if_pos c13] at H
                    have c13b0 : (a0 == 1) = true := beq_iff_eq.mpr c13
                    have c13b1 : (a0 != 1) = false := bne_eq_false_iff_eq.mpr c13
                    clear c13
                    by_cases c14 : a1 = 5
                    · rw [if_pos c14] at H
                      have c14b0 : (a1 == 5) = true := beq_iff_eq.mpr c14
                      have c14b1 : (a1 != 5) = false := bne_eq_false_iff_eq.mpr c14
                      clear c14
                      simp only [Option.some.injEq, Prod.mk.injEq] at H
                      obtain ⟨rfl, rfl⟩ := H
                      go_wp2
                      go_ret2
                      exact ⟨by first | rfl | (simp; done) | (simp [*]; done), by repeat (first | exact Cj.refl _ | apply Cj.step)⟩
                    · rw [if_neg c14] at H
                      have c14b0 : (a1 == 5) = false := beq_eq_false_iff_ne.mpr c14
                      have c14b1 : (a1 != 5) = true := bne_iff_ne.mpr c14
                      by_cases c15 : a1 = 6
                      · rw [if_pos c15] at H
                        have c15b0 : (a1 == 6) = true := beq_iff_eq.mpr c15
                        have c15b1 : (a1 != 6) = false := bne_eq_false_iff_eq.mpr c15
                        clear c15
                        simp only [Option.some.injEq, Prod.mk.injEq] at H
                        obtain ⟨rfl, rfl⟩ := H
                        go_wp2
                        go_ret2
                        exact ⟨by first | rfl | (simp; done) | (simp [*]; done), by repeat (first | exact Cj.refl _ | apply Cj.step)⟩
                      · rw [if_neg c15] at H
                        have c15b0 : (a1 == 6) = false := beq_eq_false_iff_ne.mpr c15
                        have c15b1 : (a1 != 6) = true := bne_iff_ne.mpr c15
                        simp only [Option.some.injEq, Prod.mk.injEq] at H
                        obtain ⟨rfl, rfl⟩ := H
                        go_wp2
                        go_ret2
                        exact ⟨by first | rfl | (simp; done) | (simp [*]; done), by repeat (first | exact Cj.refl _ | apply Cj.step)⟩
                  · rw [if_neg c13] at H
                    have c13b0 : (a0 == 1) = false := beq_eq_false_iff_ne.mpr c13
                    have c13b1 : (a0 != 1) = true := bne_iff_ne.mpr c13
                    simp only [Option.some.injEq, Prod.mk.injEq] at H
                    obtain ⟨rfl, rfl⟩ := H
                    go_wp2
                    go_ret2
                    exact ⟨by first | rfl | (simp; done) | (simp [*]; done), by repeat (first | exact Cj.refl _ | apply Cj.step)⟩
end Go.Proofs.YtpalafegcndccaaDoor.X

namespace Go.Proofs.YtpalafegcndccaaDoor.X
open Go.RowKit Go.Proofs.YtpalafegcndccaaDoorW.PrintWords Go.Proofs.YtpalafegcndccaaDoorW.PrintLast Go.Proofs.YtpalafegcndccaaDoorW.PrintMore
attribute [local go_sem] Ej Eg Eu Ew D9 D8 Ei Eh
open Go.Proofs.YtpalafegcndccaaDoorG
def Fg.f (a0 : Int) (a1 : Int) (a2 : Int) : Option (Bool) := if a0 ≥ a1 then (some (decide (a0 ≤ a2))) else (some false)
set_option maxHeartbeats 8000000 in
set_option maxRecDepth 100000 in
theorem Fg.calls (a0 : Int) (a1 : Int) (a2 : Int) (r : Bool) (w : World) (h : Fg.f a0 a1 a2 = some r) :
    Calls Tryd.prog 59 #[.int .i64 a0, .int .i64 a1, .int .i64 a2] w fun e w' => e = .returned (.bool r) ∧ Cj w w' := by
  have H : (if a0 ≥ a1 then (some (decide (a0 ≤ a2))) else (some false)) = some r := h
  clear h
  by_cases c4 : a0 ≥ a1
  · rw [if_pos c4] at H
    have c4b0 : decide (a1 ≤ a0) = true := decide_eq_true c4
    clear c4
    obtain rfl := Option.some.inj H
    go_enter Tryd.func59, Tryd.ntmps59
    go_wp2
    go_ret
    exact ⟨by first | rfl | (simp; done) | (simp [*]; done), by repeat (first | exact Cj.refl _ | apply Cj.step)⟩
  · rw [if_neg c4] at H
    have c4b0 : decide (a1 ≤ a0) = false := decide_eq_false c4
    clear c4
    obtain rfl := Option.some.inj H
    go_enter Tryd.func59, Tryd.ntmps59
    go_wp2
    go_ret
    exact ⟨by first | rfl | (simp; done) | (simp [*]; done), by repeat (first | exact Cj.refl _ | apply Cj.step)⟩
end Go.Proofs.YtpalafegcndccaaDoor.X

namespace Go.Proofs.YtpalafegcndccaaDoor.X
open Go.RowKit Go.Proofs.YtpalafegcndccaaDoorW.PrintWords Go.Proofs.YtpalafegcndccaaDoorW.PrintLast Go.Proofs.YtpalafegcndccaaDoorW.PrintMore
attribute [local go_sem] Ej Eg Eu Ew D9 D8 Ei Eh
open Go.Proofs.YtpalafegcndccaaDoorG
def Dj.l0 : Nat → List (S40) → Int → List (S40) → Int → Int → Option (Int × Bool)
  | 0, _, _, _, _, _ => none
  | k + 1, x0, x4, x9, x10, x11 => if x11 < x10 then (if 0 ≤ x11 then (if x11 < (x9.length : Int) then ((Bj.f k x4 ((Bc x9 x11).f1)).bind fun bt133 => (if bt133.2 = true then ((Fg.f ((Bc x9 x11).f0) 0 9999).bind fun t135 => (if t135 = true then (if x11 > 0 then (if 0 ≤ (wrap64 (x11 - 1)) then (if (wrap64 (x11 - 1)) < (x0.length : Int) then (if ((Bc x9 x11).f0) < ((Bc x0 (wrap64 (x11 - 1))).f0) then (some (0, false)) else (Dj.l0 k x0 bt133.1 x9 x10 (wrap64 (x11 + 1)))) else (none)) else (none)) else (Dj.l0 k x0 bt133.1 x9 x10 (wrap64 (x11 + 1)))) else (some (0, false)))) else (some (0, false)))) else (none)) else (none)) else (some (x4, decide ((x0.length : Int) ≤ 20)))
def Dj.f (k : Nat) (l0 : List (S40)) : Option (Int × Bool) := Dj.l0 k l0 0 l0 (l0.length : Int) 0
theorem Dj.Et : ∀ k, (∀ y0 y1 y2 y3 y4, LeO (Dj.l0 k y0 y1 y2 y3 y4) (Dj.l0 (k + 1) y0 y1 y2 y3 y4))
  | 0 => fun _ _ _ _ _ r h => by simp [Dj.l0] at h
  | k + 1 => by
    have ih0 := Dj.Et k
    · intro y0 y1 y2 y3 y4
      unfold Dj.l0
      repeat' first
      | (with_reducible exact ih0 _ _ _ _ _)
      | (with_reducible exact Bj.mono _ _ _)
      | (with_reducible exact LeO.refl _)
      | (with_reducible exact LeO.none _)
      | (with_reducible refine LeO.ite ?_ ?_)
      | (with_reducible refine LeO.bind ?_ (fun _ => ?_))
      | exact ih0 _ _ _ _ _
      | exact Bj.mono _ _ _
      | exact LeO.none _
      | refine LeO.ite ?_ ?_
      | refine LeO.bind ?_ (fun _ => ?_)
theorem Dj.mono : ∀ a0 k, LeO (Dj.f k a0) (Dj.f (k + 1) a0) := by
  intro a0 k
  have ih0 := Dj.Et k
  unfold Dj.f
  repeat' first
      | (with_reducible exact ih0 _ _ _ _ _)
      | (with_reducible exact Bj.mono _ _ _)
      | (with_reducible exact LeO.refl _)
      | (with_reducible exact LeO.none _)
      | (with_reducible refine LeO.ite ?_ ?_)
      | (with_reducible refine LeO.bind ?_ (fun _ => ?_))
      | exact ih0 _ _ _ _ _
      | exact Bj.mono _ _ _
      | exact LeO.none _
      | refine LeO.ite ?_ ?_
      | refine LeO.bind ?_ (fun _ => ?_)
set_option maxHeartbeats 8000000 in
set_option maxRecDepth 100000 in
theorem Dj.calls (k : Nat) (A0 : Option Addr) (c0 : Nat) (l0 : List (S40)) (r1 : Int) (r2 : Bool) (w : World) (hr0 : Kd.C k40 w A0 l0.length l0) (hc0 : l0.length ≤ c0) (h : Dj.f k l0 = some (r1, r2)) :
    Calls Tryd.prog 38 #[.slice A0 l0.length c0] w fun e w' => e = .returned (.tuple #[.int .i64 r1, .bool r2]) ∧ Below w.heap.size w w' := by
  have hu40 := Tryd.underlying40
  have HR0 := Aa.mk hr0
  have HC0 := Aa.mk hc0
  clear hr0 hc0
  have HB := Aa.mk (Below.refl w.heap.size w)
  have H : (Dj.l0 k l0 0 l0 (l0.length : Int) 0) = some (r1, r2) := h
  clear h
  have H' := Aa.mk H
  clear H
  go_enter Tryd.func38, Tryd.ntmps38
  go_wp2
  repeat (go_quiet (fail); try go_wp2)
  go_loopg [4, 11] k (fun kq v4 v11 w' => ∃ (x4_1 : Int) (x11_1 : Int), v4 = .int .i64 x4_1 ∧ v11 = .int .i64 x11_1 ∧ Aa (Dj.l0 kq l0 x4_1 l0 (l0.length : Int) x11_1 = some (r1, r2)) ∧ Aa (kq ≤ k) ∧ Aa (Below w.heap.size w w'))
  case atStart => exact ⟨(0), (0), (by first | rfl | (simp; done) | (simp [*]; done)), (by first | rfl | (simp; done) | (simp [*]; done)), H', ⟨Nat.le_refl _⟩, ⟨by repeat (first | (with_reducible first | exact HB.out | apply Ae | apply Ac | apply Ad) | exact HB.out)⟩⟩
  case round =>
    clear H'
    obtain ⟨x4_1, x11_1, rfl, rfl, HA, HK1, HB⟩ := hrel
    cases gk with
    | zero => exact absurd HA.out (by simp [Dj.l0])
    | succ k1 =>
      have H := HA.out
      clear HA
      simp only [Dj.l0] at H
      by_cases c2 : x11_1 < (l0.length : Int)
      · rw [if_pos c2] at H
        have c2b0 : decide (x11_1 < (l0.length : Int)) = true := decide_eq_true c2
        clear c2
        by_cases c3 : 0 ≤ x11_1
        · rw [if_pos c3] at H
          have c3b0 : decide (0 ≤ x11_1) = true := decide_eq_true c3
          clear c3
          by_cases c4 : x11_1 < (l0.length : Int)
          · rw [if_pos c4] at H
            have c4b0 : decide (x11_1 < (l0.length : Int)) = true := decide_eq_true c4
            clear c4
            replace H := Option.bind_eq_some_iff.mp H
            obtain ⟨⟨t133, t134⟩, A50, H⟩ := H
            replace H : (if t134 = true then ((Fg.f ((Bc l0 x11_1).f0) 0 9999).bind fun t135 => (if t135 = true then (if x11_1 > 0 then (if 0 ≤ (wrap64 (x11_1 - 1)) then (if (wrap64 (x11_1 - 1)) < (l0.length : Int) then (if ((Bc l0 x11_1).f0) < ((Bc l0 (wrap64 (x11_1 - 1))).f0) then (some (0, false)) else (Dj.l0 k1 l0 t133 l0 (l0.length : Int) (wrap64 (x11_1 + 1)))) else (none)) else (none)) else (Dj.l0 k1 l0 t133 l0 (l0.length : Int) (wrap64 (x11_1 + 1)))) else (some (0, false)))) else (some (0, false))) = some (r1, r2) := H
            have A5 := Aa.mk A50
            clear A50
            by_cases c6 : t134 = true
            · subst c6
              have H1 : ((Fg.f ((Bc l0 x11_1).f0) 0 9999).bind fun t135 => (if t135 = true then (if x11_1 > 0 then (if 0 ≤ (wrap64 (x11_1 - 1)) then (if (wrap64 (x11_1 - 1)) < (l0.length : Int) then (if ((Bc l0 x11_1).f0) < ((Bc l0 (wrap64 (x11_1 - 1))).f0) then (some (0, false)) else (Dj.l0 k1 l0 t133 l0 (l0.length : Int) (wrap64 (x11_1 + 1)))) else (none)) else (none)) else (Dj.l0 k1 l0 t133 l0 (l0.length : Int) (wrap64 (x11_1 + 1)))) else (some (0, false)))) = some (r1, r2) := by rw [if_pos rfl] at H; exact H
              clear H
              have H := H1
              clear H1
              replace H := Option.bind_eq_some_iff.mp H
              obtain ⟨t135, A70, H⟩ := H
              replace H : (if t135 = true then (if x11_1 > 0 then (if 0 ≤ (wrap64 (x11_1 - 1)) then (if (wrap64 (x11_1 - 1)) < (l0.length : Int) then (if ((Bc l0 x11_1).f0) < ((Bc l0 (wrap64 (x11_1 - 1))).f0) then (some (0, false)) else (Dj.l0 k1 l0 t133 l0 (l0.length : Int) (wrap64 (x11_1 + 1)))) else (none)) else (none)) else (Dj.l0 k1 l0 t133 l0 (l0.length : Int) (wrap64 (x11_1 + 1)))) else (some (0, false))) = some (r1, r2) := H
              have A7 := Aa.mk A70
              clear A70
              by_cases c8 : t135 = true
              · subst c8
                have H1 : (if x11_1 > 0 then (if 0 ≤ (wrap64 (x11_1 - 1)) then (if (wrap64 (x11_1 - 1)) < (l0.length : Int) then (if ((Bc l0 x11_1).f0) < ((Bc l0 (wrap64 (x11_1 - 1))).f0) then (some (0, false)) else (Dj.l0 k1 l0 t133 l0 (l0.length : Int) (wrap64 (x11_1 + 1)))) else (none)) else (none)) else (Dj.l0 k1 l0 t133 l0 (l0.length : Int) (wrap64 (x11_1 + 1)))) = some (r1, r2) := by rw [if_pos rfl] at H; exact H
                clear H
                have H := H1
                clear H1
                by_cases c9 : x11_1 > 0
                · rw [if_pos c9] at H
                  have c9b0 : decide (0 < x11_1) = true := decide_eq_true c9
                  clear c9
                  obtain ⟨ji10, hji10⟩ : ∃ j_ : Int, (wrap64 (x11_1 - 1)) = j_ := ⟨_, rfl⟩
                  replace H : (if 0 ≤ (ji10) then (if (ji10) < (l0.length : Int) then (if ((Bc l0 x11_1).f0) < ((Bc l0 (ji10)).f0) then (some (0, false)) else (Dj.l0 k1 l0 t133 l0 (l0.length : Int) (wrap64 (x11_1 + 1)))) else (none)) else (none)) = some (r1, r2) := by first | (rw [hji10] at H; exact H) | (simp only [hji10] at H ⊢; exact H)
                  (try rw [hji10] at A5)
                  (try rw [hji10] at A7)
                  have hji10w : (IntKind.i64.wrap (x11_1 - 1)) = ji10 := (Dh _).trans hji10
                  by_cases c11 : 0 ≤ (ji10)
                  · rw [if_pos c11] at H
                    have c11b0 : decide (0 ≤ (ji10)) = true := decide_eq_true c11
                    clear c11
                    by_cases c12 : (ji10) < (l0.length : Int)
                    · rw [if_pos c12] at H
                      have c12b0 : decide ((ji10) < (l0.length : Int)) = true := decide_eq_true c12
                      clear c12
                      by_cases c13 : ((Bc l0 x11_1).f0) < ((Bc l0 (ji10)).f0)
                      · rw [if_pos c13] at H
                        have c13b0 : decide (((Bc l0 x11_1).f0) < ((Bc l0 (ji10)).f0)) = true := decide_eq_true c13
                        clear c13
                        simp only [Option.some.injEq, Prod.mk.injEq] at H
                        obtain ⟨rfl, rfl⟩ := H
                        have p131 : 0 ≤ (x11_1 : Int) := of_decide_eq_true (by first | (with_reducible assumption) | assumption)
                        have q131 : x11_1 < (l0.length : Int) := of_decide_eq_true (by first | (with_reducible assumption) | assumption)
                        obtain ⟨ad131, e131, hx131_0, hx131_1⟩ := F5 HR0.out x11_1 p131 q131
                        cases e131
                        replace hx131_0 := (HB.out.cell (World.block_lt_of_cell? w _ hx131_0)).trans hx131_0
                        replace hx131_1 := (HB.out.cell (World.block_lt_of_cell? w _ hx131_1)).trans hx131_1
                        replace p131 := eq_true p131
                        replace q131 := eq_true q131
                        go_wp2_with (first | ((with_reducible refine D7 (N := 6) rfl ?_); refine Es ?hg (N := 6) ?hd (cs := #[.int .i64 0, .int .i64 0]) (t := 40) ?hr ?_; (case hd => rfl); (case hg => rfl); (case hr => first | (go_simp; done) | (go_simp; rfl)); intro gb132 hg w14 hbox hb; have n0_ := Aa.mk (Ap (by repeat (first | (with_reducible first | exact HB.out | apply Ae | apply Ac | apply Ad) | exact HB.out)) hb); have n1_ := Aa.mk (hbox); have n2_ := Aa.mk ((by rw [hg]; exact (Aq (by repeat (first | (with_reducible first | exact HB.out | apply Ae | apply Ac | apply Ad) | exact HB.out))) : w.heap.size ≤ gb132)); have n3_ := Aa.mk ((by rw [hg]; exact (Aq (by repeat (first | (with_reducible first | exact HB.out | apply Ae | apply Ac | apply Ad) | exact HB.out))) : w.heap.size ≤ gb132)); clear HB; have HB := n0_; have BK132 := n1_; have GW132 := n2_; have GE132 := n3_; clear n0_ n1_ n2_ n3_; clear hb hbox hg; have hcz15_0 : w14.cell? ⟨gb132, 0, none⟩ = some (.int .i64 0) := (Bd BK132.out 0).trans rfl; have hcz15_1 : w14.cell? ⟨gb132, 1, none⟩ = some (.int .i64 0) := (Bd BK132.out 1).trans rfl; have hfz15_0 := Bl BK132.out 0; have hfz15_1 := Bl BK132.out 1) | (go_at_call 46; (with_reducible refine (Bj.calls k1 x4_1 ((Bc l0 x11_1).f1) t133 true _ A5.out).mono ?_); rintro e w' ⟨rfl, ⟨nd, rfl⟩⟩; (try first | exact ⟨rfl, _, World.drewN_drewN _ _ _⟩ | exact ⟨rfl, _, Eq.trans (World.drewN_drewN _ _ _) (congrArg (World.drewN _) (Nat.add_assoc _ _ _))⟩)) | (go_at_call 59; (with_reducible refine (Fg.calls ((Bc l0 x11_1).f0) 0 9999 true _ A7.out).mono ?_); rintro e w' ⟨rfl, ⟨nd, rfl⟩⟩; (try first | exact ⟨rfl, _, World.drewN_drewN _ _ _⟩ | exact ⟨rfl, _, Eq.trans (World.drewN_drewN _ _ _) (congrArg (World.drewN _) (Nat.add_assoc _ _ _))⟩); have p136 : 0 ≤ ((ji10) : Int) := of_decide_eq_true (by first | (with_reducible assumption) | assumption); have q136 : (ji10) < (l0.length : Int) := of_decide_eq_true (by first | (with_reducible assumption) | assumption); obtain ⟨ad136, e136, hx136_0, hx136_1⟩ := F5 HR0.out (ji10) p136 q136; obtain rfl : ad131 = ad136 := (by injection e136); have hn136_0 : ad131.block ≠ gb132 := Nat.ne_of_lt (Nat.lt_of_lt_of_le (by have := World.block_lt_of_cell? _ _ hx136_0; first | rwa [add_block] at this | exact this) GW132.out); have hn136_1 : ad131.block ≠ gb132 := Nat.ne_of_lt (Nat.lt_of_lt_of_le (by have := World.block_lt_of_cell? _ _ hx136_0; first | rwa [add_block] at this | exact this) GW132.out); replace hx136_0 := (HB.out.cell (World.block_lt_of_cell? w _ hx136_0)).trans hx136_0; replace hx136_1 := (HB.out.cell (World.block_lt_of_cell? w _ hx136_1)).trans hx136_1; replace hx136_0 := (cell_far (p := ⟨gb132, 0, none⟩) (by first | (rw [add_block]; exact hn136_0) | (show (Addr.add _ _).block ≠ _; rw [add_block]; exact hn136_0) | exact hn136_0) (.int .i64 ((Bc l0 x11_1).f0))).trans hx136_0; replace hx136_1 := (cell_far (p := ⟨gb132, 0, none⟩) (by first | (rw [add_block]; exact hn136_0) | (show (Addr.add _ _).block ≠ _; rw [add_block]; exact hn136_0) | exact hn136_0) (.int .i64 ((Bc l0 x11_1).f0))).trans hx136_1; replace hx136_0 := (cell_far (p := ⟨gb132, 1, none⟩) (by first | (rw [add_block]; exact hn136_1) | (show (Addr.add _ _).block ≠ _; rw [add_block]; exact hn136_1) | exact hn136_1) (.int .i64 ((Bc l0 x11_1).f1))).trans hx136_0; replace hx136_1 := (cell_far (p := ⟨gb132, 1, none⟩) (by first | (rw [add_block]; exact hn136_1) | (show (Addr.add _ _).block ≠ _; rw [add_block]; exact hn136_1) | exact hn136_1) (.int .i64 ((Bc l0 x11_1).f1))).trans hx136_1; (try have hy136_0 := fun (n_ : Nat) => (show ((((w14.drewN n_).setCell ⟨gb132, 0, none⟩ (.int .i64 ((Bc l0 x11_1).f0))).setCell ⟨gb132, 1, none⟩ (.int .i64 ((Bc l0 x11_1).f1)))).cell? _ = some _ from hx136_0)); (try have hy136_1 := fun (n_ : Nat) => (show ((((w14.drewN n_).setCell ⟨gb132, 0, none⟩ (.int .i64 ((Bc l0 x11_1).f0))).setCell ⟨gb132, 1, none⟩ (.int .i64 ((Bc l0 x11_1).f1)))).cell? _ = some _ from hx136_1)); clear hn136_0; clear hn136_1; replace p136 := eq_true p136; replace q136 := eq_true q136))
                        repeat (go_quiet (first | ((with_reducible refine D7 (N := 6) rfl ?_); refine Es ?hg (N := 6) ?hd (cs := #[.int .i64 0, .int .i64 0]) (t := 40) ?hr ?_; (case hd => rfl); (case hg => rfl); (case hr => first | (go_simp; done) | (go_simp; rfl)); intro gb132 hg w14 hbox hb; have n0_ := Aa.mk (Ap (by repeat (first | (with_reducible first | exact HB.out | apply Ae | apply Ac | apply Ad) | exact HB.out)) hb); have n1_ := Aa.mk (hbox); have n2_ := Aa.mk ((by rw [hg]; exact (Aq (by repeat (first | (with_reducible first | exact HB.out | apply Ae | apply Ac | apply Ad) | exact HB.out))) : w.heap.size ≤ gb132)); have n3_ := Aa.mk ((by rw [hg]; exact (Aq (by repeat (first | (with_reducible first | exact HB.out | apply Ae | apply Ac | apply Ad) | exact HB.out))) : w.heap.size ≤ gb132)); clear HB; have HB := n0_; have BK132 := n1_; have GW132 := n2_; have GE132 := n3_; clear n0_ n1_ n2_ n3_; clear hb hbox hg; have hcz15_0 : w14.cell? ⟨gb132, 0, none⟩ = some (.int .i64 0) := (Bd BK132.out 0).trans rfl; have hcz15_1 : w14.cell? ⟨gb132, 1, none⟩ = some (.int .i64 0) := (Bd BK132.out 1).trans rfl; have hfz15_0 := Bl BK132.out 0; have hfz15_1 := Bl BK132.out 1) | (go_at_call 46; (with_reducible refine (Bj.calls k1 x4_1 ((Bc l0 x11_1).f1) t133 true _ A5.out).mono ?_); rintro e w' ⟨rfl, ⟨nd, rfl⟩⟩; (try first | exact ⟨rfl, _, World.drewN_drewN _ _ _⟩ | exact ⟨rfl, _, Eq.trans (World.drewN_drewN _ _ _) (congrArg (World.drewN _) (Nat.add_assoc _ _ _))⟩)) | (go_at_call 59; (with_reducible refine (Fg.calls ((Bc l0 x11_1).f0) 0 9999 true _ A7.out).mono ?_); rintro e w' ⟨rfl, ⟨nd, rfl⟩⟩; (try first | exact ⟨rfl, _, World.drewN_drewN _ _ _⟩ | exact ⟨rfl, _, Eq.trans (World.drewN_drewN _ _ _) (congrArg (World.drewN _) (Nat.add_assoc _ _ _))⟩); have p136 : 0 ≤ ((ji10) : Int) := of_decide_eq_true (by first | (with_reducible assumption) | assumption); have q136 : (ji10) < (l0.length : Int) := of_decide_eq_true (by first | (with_reducible assumption) | assumption); obtain ⟨ad136, e136, hx136_0, hx136_1⟩ := F5 HR0.out (ji10) p136 q136; obtain rfl : ad131 = ad136 := (by injection e136); have hn136_0 : ad131.block ≠ gb132 := Nat.ne_of_lt (Nat.lt_of_lt_of_le (by have := World.block_lt_of_cell? _ _ hx136_0; first | rwa [add_block] at this | exact this) GW132.out); have hn136_1 : ad131.block ≠ gb132 := Nat.ne_of_lt (Nat.lt_of_lt_of_le (by have := World.block_lt_of_cell? _ _ hx136_0; first | rwa [add_block] at this | exact this) GW132.out); replace hx136_0 := (HB.out.cell (World.block_lt_of_cell? w _ hx136_0)).trans hx136_0; replace hx136_1 := (HB.out.cell (World.block_lt_of_cell? w _ hx136_1)).trans hx136_1; replace hx136_0 := (cell_far (p := ⟨gb132, 0, none⟩) (by first | (rw [add_block]; exact hn136_0) | (show (Addr.add _ _).block ≠ _; rw [add_block]; exact hn136_0) | exact hn136_0) (.int .i64 ((Bc l0 x11_1).f0))).trans hx136_0; replace hx136_1 := (cell_far (p := ⟨gb132, 0, none⟩) (by first | (rw [add_block]; exact hn136_0) | (show (Addr.add _ _).block ≠ _; rw [add_block]; exact hn136_0) | exact hn136_0) (.int .i64 ((Bc l0 x11_1).f0))).trans hx136_1; replace hx136_0 := (cell_far (p := ⟨gb132, 1, none⟩) (by first | (rw [add_block]; exact hn136_1) | (show (Addr.add _ _).block ≠ _; rw [add_block]; exact hn136_1) | exact hn136_1) (.int .i64 ((Bc l0 x11_1).f1))).trans hx136_0; replace hx136_1 := (cell_far (p := ⟨gb132, 1, none⟩) (by first | (rw [add_block]; exact hn136_1) | (show (Addr.add _ _).block ≠ _; rw [add_block]; exact hn136_1) | exact hn136_1) (.int .i64 ((Bc l0 x11_1).f1))).trans hx136_1; (try have hy136_0 := fun (n_ : Nat) => (show ((((w14.drewN n_).setCell ⟨gb132, 0, none⟩ (.int .i64 ((Bc l0 x11_1).f0))).setCell ⟨gb132, 1, none⟩ (.int .i64 ((Bc l0 x11_1).f1)))).cell? _ = some _ from hx136_0)); (try have hy136_1 := fun (n_ : Nat) => (show ((((w14.drewN n_).setCell ⟨gb132, 0, none⟩ (.int .i64 ((Bc l0 x11_1).f0))).setCell ⟨gb132, 1, none⟩ (.int .i64 ((Bc l0 x11_1).f1)))).cell? _ = some _ from hx136_1)); clear hn136_0; clear hn136_1; replace p136 := eq_true p136; replace q136 := eq_true q136)); try go_wp2_with (first | ((with_reducible refine D7 (N := 6) rfl ?_); refine Es ?hg (N := 6) ?hd (cs := #[.int .i64 0, .int .i64 0]) (t := 40) ?hr ?_; (case hd => rfl); (case hg => rfl); (case hr => first | (go_simp; done) | (go_simp; rfl)); intro gb132 hg w14 hbox hb; have n0_ := Aa.mk (Ap (by repeat (first | (with_reducible first | exact HB.out | apply Ae | apply Ac | apply Ad) | exact HB.out)) hb); have n1_ := Aa.mk (hbox); have n2_ := Aa.mk ((by rw [hg]; exact (Aq (by repeat (first | (with_reducible first | exact HB.out | apply Ae | apply Ac | apply Ad) | exact HB.out))) : w.heap.size ≤ gb132)); have n3_ := Aa.mk ((by rw [hg]; exact (Aq (by repeat (first | (with_reducible first | exact HB.out | apply Ae | apply Ac | apply Ad) | exact HB.out))) : w.heap.size ≤ gb132)); clear HB; have HB := n0_; have BK132 := n1_; have GW132 := n2_; have GE132 := n3_; clear n0_ n1_ n2_ n3_; clear hb hbox hg; have hcz15_0 : w14.cell? ⟨gb132, 0, none⟩ = some (.int .i64 0) := (Bd BK132.out 0).trans rfl; have hcz15_1 : w14.cell? ⟨gb132, 1, none⟩ = some (.int .i64 0) := (Bd BK132.out 1).trans rfl; have hfz15_0 := Bl BK132.out 0; have hfz15_1 := Bl BK132.out 1) | (go_at_call 46; (with_reducible refine (Bj.calls k1 x4_1 ((Bc l0 x11_1).f1) t133 true _ A5.out).mono ?_); rintro e w' ⟨rfl, ⟨nd, rfl⟩⟩; (try first | exact ⟨rfl, _, World.drewN_drewN _ _ _⟩ | exact ⟨rfl, _, Eq.trans (World.drewN_drewN _ _ _) (congrArg (World.drewN _) (Nat.add_assoc _ _ _))⟩)) | (go_at_call 59; (with_reducible refine (Fg.calls ((Bc l0 x11_1).f0) 0 9999 true _ A7.out).mono ?_); rintro e w' ⟨rfl, ⟨nd, rfl⟩⟩; (try first | exact ⟨rfl, _, World.drewN_drewN _ _ _⟩ | exact ⟨rfl, _, Eq.trans (World.drewN_drewN _ _ _) (congrArg (World.drewN _) (Nat.add_assoc _ _ _))⟩); have p136 : 0 ≤ ((ji10) : Int) := of_decide_eq_true (by first | (with_reducible assumption) | assumption); have q136 : (ji10) < (l0.length : Int) := of_decide_eq_true (by first | (with_reducible assumption) | assumption); obtain ⟨ad136, e136, hx136_0, hx136_1⟩ := F5 HR0.out (ji10) p136 q136; obtain rfl : ad131 = ad136 := (by injection e136); have hn136_0 : ad131.block ≠ gb132 := Nat.ne_of_lt (Nat.lt_of_lt_of_le (by have := World.block_lt_of_cell? _ _ hx136_0; first | rwa [add_block] at this | exact this) GW132.out); have hn136_1 : ad131.block ≠ gb132 := Nat.ne_of_lt (Nat.lt_of_lt_of_le (by have := World.block_lt_of_cell? _ _ hx136_0; first | rwa [add_block] at this | exact this) GW132.out); replace hx136_0 := (HB.out.cell (World.block_lt_of_cell? w _ hx136_0)).trans hx136_0; replace hx136_1 := (HB.out.cell (World.block_lt_of_cell? w _ hx136_1)).trans hx136_1; replace hx136_0 := (cell_far (p := ⟨gb132, 0, none⟩) (by first | (rw [add_block]; exact hn136_0) | (show (Addr.add _ _).block ≠ _; rw [add_block]; exact hn136_0) | exact hn136_0) (.int .i64 ((Bc l0 x11_1).f0))).trans hx136_0; replace hx136_1 := (cell_far (p := ⟨gb132, 0, none⟩) (by first | (rw [add_block]; exact hn136_0) | (show (Addr.add _ _).block ≠ _; rw [add_block]; exact hn136_0) | exact hn136_0) (.int .i64 ((Bc l0 x11_1).f0))).trans hx136_1; replace hx136_0 := (cell_far (p := ⟨gb132, 1, none⟩) (by first | (rw [add_block]; exact hn136_1) | (show (Addr.add _ _).block ≠ _; rw [add_block]; exact hn136_1) | exact hn136_1) (.int .i64 ((Bc l0 x11_1).f1))).trans hx136_0; replace hx136_1 := (cell_far (p := ⟨gb132, 1, none⟩) (by first | (rw [add_block]; exact hn136_1) | (show (Addr.add _ _).block ≠ _; rw [add_block]; exact hn136_1) | exact hn136_1) (.int .i64 ((Bc l0 x11_1).f1))).trans hx136_1; (try have hy136_0 := fun (n_ : Nat) => (show ((((w14.drewN n_).setCell ⟨gb132, 0, none⟩ (.int .i64 ((Bc l0 x11_1).f0))).setCell ⟨gb132, 1, none⟩ (.int .i64 ((Bc l0 x11_1).f1)))).cell? _ = some _ from hx136_0)); (try have hy136_1 := fun (n_ : Nat) => (show ((((w14.drewN n_).setCell ⟨gb132, 0, none⟩ (.int .i64 ((Bc l0 x11_1).f0))).setCell ⟨gb132, 1, none⟩ (.int .i64 ((Bc l0 x11_1).f1)))).cell? _ = some _ from hx136_1)); clear hn136_0; clear hn136_1; replace p136 := eq_true p136; replace q136 := eq_true q136)))
                        go_ret2
                        exact ⟨by first | rfl | (simp [Be, Bf] <;> rfl) | (simp only [← hji10]; first | rfl | (simp [Be, Bf] <;> rfl)) | (simp [*, Be, Bf] <;> rfl), by repeat (first | (with_reducible first | exact HB.out | apply Ae | apply Ac | apply Ad | refine Ag ?_ GE132.out) | exact HB.out)⟩
                      · rw [if_neg c13] at H
                        have c13b0 : decide (((Bc l0 x11_1).f0) < ((Bc l0 (ji10)).f0)) = false := decide_eq_false c13
                        clear c13
                        have H' := Aa.mk H
                        clear H
                        have p131 : 0 ≤ (x11_1 : Int) := of_decide_eq_true (by first | (with_reducible assumption) | assumption)
                        have q131 : x11_1 < (l0.length : Int) := of_decide_eq_true (by first | (with_reducible assumption) | assumption)
                        obtain ⟨ad131, e131, hx131_0, hx131_1⟩ := F5 HR0.out x11_1 p131 q131
                        cases e131
                        replace hx131_0 := (HB.out.cell (World.block_lt_of_cell? w _ hx131_0)).trans hx131_0
                        replace hx131_1 := (HB.out.cell (World.block_lt_of_cell? w _ hx131_1)).trans hx131_1
                        replace p131 := eq_true p131
                        replace q131 := eq_true q131
                        go_wp2_with (first | ((with_reducible refine D7 (N := 6) rfl ?_); refine Es ?hg (N := 6) ?hd (cs := #[.int .i64 0, .int .i64 0]) (t := 40) ?hr ?_; (case hd => rfl); (case hg => rfl); (case hr => first | (go_simp; done) | (go_simp; rfl)); intro gb132 hg w16 hbox hb; have n0_ := Aa.mk (Ap (by repeat (first | (with_reducible first | exact HB.out | apply Ae | apply Ac | apply Ad) | exact HB.out)) hb); have n1_ := Aa.mk (hbox); have n2_ := Aa.mk ((by rw [hg]; exact (Aq (by repeat (first | (with_reducible first | exact HB.out | apply Ae | apply Ac | apply Ad) | exact HB.out))) : w.heap.size ≤ gb132)); have n3_ := Aa.mk ((by rw [hg]; exact (Aq (by repeat (first | (with_reducible first | exact HB.out | apply Ae | apply Ac | apply Ad) | exact HB.out))) : w.heap.size ≤ gb132)); clear HB; have HB := n0_; have BK132 := n1_; have GW132 := n2_; have GE132 := n3_; clear n0_ n1_ n2_ n3_; clear hb hbox hg; have hcz17_0 : w16.cell? ⟨gb132, 0, none⟩ = some (.int .i64 0) := (Bd BK132.out 0).trans rfl; have hcz17_1 : w16.cell? ⟨gb132, 1, none⟩ = some (.int .i64 0) := (Bd BK132.out 1).trans rfl; have hfz17_0 := Bl BK132.out 0; have hfz17_1 := Bl BK132.out 1) | (go_at_call 46; (with_reducible refine (Bj.calls k1 x4_1 ((Bc l0 x11_1).f1) t133 true _ A5.out).mono ?_); rintro e w' ⟨rfl, ⟨nd, rfl⟩⟩; (try first | exact ⟨rfl, _, World.drewN_drewN _ _ _⟩ | exact ⟨rfl, _, Eq.trans (World.drewN_drewN _ _ _) (congrArg (World.drewN _) (Nat.add_assoc _ _ _))⟩)) | (go_at_call 59; (with_reducible refine (Fg.calls ((Bc l0 x11_1).f0) 0 9999 true _ A7.out).mono ?_); rintro e w' ⟨rfl, ⟨nd, rfl⟩⟩; (try first | exact ⟨rfl, _, World.drewN_drewN _ _ _⟩ | exact ⟨rfl, _, Eq.trans (World.drewN_drewN _ _ _) (congrArg (World.drewN _) (Nat.add_assoc _ _ _))⟩); have p136 : 0 ≤ ((ji10) : Int) := of_decide_eq_true (by first | (with_reducible assumption) | assumption); have q136 : (ji10) < (l0.length : Int) := of_decide_eq_true (by first | (with_reducible assumption) | assumption); obtain ⟨ad136, e136, hx136_0, hx136_1⟩ := F5 HR0.out (ji10) p136 q136; obtain rfl : ad131 = ad136 := (by injection e136); have hn136_0 : ad131.block ≠ gb132 := Nat.ne_of_lt (Nat.lt_of_lt_of_le (by have := World.block_lt_of_cell? _ _ hx136_0; first | rwa [add_block] at this | exact this) GW132.out); have hn136_1 : ad131.block ≠ gb132 := Nat.ne_of_lt (Nat.lt_of_lt_of_le (by have := World.block_lt_of_cell? _ _ hx136_0; first | rwa [add_block] at this | exact this) GW132.out); replace hx136_0 := (HB.out.cell (World.block_lt_of_cell? w _ hx136_0)).trans hx136_0; replace hx136_1 := (HB.out.cell (World.block_lt_of_cell? w _ hx136_1)).trans hx136_1; replace hx136_0 := (cell_far (p := ⟨gb132, 0, none⟩) (by first | (rw [add_block]; exact hn136_0) | (show (Addr.add _ _).block ≠ _; rw [add_block]; exact hn136_0) | exact hn136_0) (.int .i64 ((Bc l0 x11_1).f0))).trans hx136_0; replace hx136_1 := (cell_far (p := ⟨gb132, 0, none⟩) (by first | (rw [add_block]; exact hn136_0) | (show (Addr.add _ _).block ≠ _; rw [add_block]; exact hn136_0) | exact hn136_0) (.int .i64 ((Bc l0 x11_1).f0))).trans hx136_1; replace hx136_0 := (cell_far (p := ⟨gb132, 1, none⟩) (by first | (rw [add_block]; exact hn136_1) | (show (Addr.add _ _).block ≠ _; rw [add_block]; exact hn136_1) | exact hn136_1) (.int .i64 ((Bc l0 x11_1).f1))).trans hx136_0; replace hx136_1 := (cell_far (p := ⟨gb132, 1, none⟩) (by first | (rw [add_block]; exact hn136_1) | (show (Addr.add _ _).block ≠ _; rw [add_block]; exact hn136_1) | exact hn136_1) (.int .i64 ((Bc l0 x11_1).f1))).trans hx136_1; (try have hy136_0 := fun (n_ : Nat) => (show ((((w16.drewN n_).setCell ⟨gb132, 0, none⟩ (.int .i64 ((Bc l0 x11_1).f0))).setCell ⟨gb132, 1, none⟩ (.int .i64 ((Bc l0 x11_1).f1)))).cell? _ = some _ from hx136_0)); (try have hy136_1 := fun (n_ : Nat) => (show ((((w16.drewN n_).setCell ⟨gb132, 0, none⟩ (.int .i64 ((Bc l0 x11_1).f0))).setCell ⟨gb132, 1, none⟩ (.int .i64 ((Bc l0 x11_1).f1)))).cell? _ = some _ from hx136_1)); clear hn136_0; clear hn136_1; replace p136 := eq_true p136; replace q136 := eq_true q136))
                        repeat (go_quiet (first | ((with_reducible refine D7 (N := 6) rfl ?_); refine Es ?hg (N := 6) ?hd (cs := #[.int .i64 0, .int .i64 0]) (t := 40) ?hr ?_; (case hd => rfl); (case hg => rfl); (case hr => first | (go_simp; done) | (go_simp; rfl)); intro gb132 hg w16 hbox hb; have n0_ := Aa.mk (Ap (by repeat (first | (with_reducible first | exact HB.out | apply Ae | apply Ac | apply Ad) | exact HB.out)) hb); have n1_ := Aa.mk (hbox); have n2_ := Aa.mk ((by rw [hg]; exact (Aq (by repeat (first | (with_reducible first | exact HB.out | apply Ae | apply Ac | apply Ad) | exact HB.out))) : w.heap.size ≤ gb132)); have n3_ := Aa.mk ((by rw [hg]; exact (Aq (by repeat (first | (with_reducible first | exact HB.out | apply Ae | apply Ac | apply Ad) | exact HB.out))) : w.heap.size ≤ gb132)); clear HB; have HB := n0_; have BK132 := n1_; have GW132 := n2_; have GE132 := n3_; clear n0_ n1_ n2_ n3_; clear hb hbox hg; have hcz17_0 : w16.cell? ⟨gb132, 0, none⟩ = some (.int .i64 0) := (Bd BK132.out 0).trans rfl; have hcz17_1 : w16.cell? ⟨gb132, 1, none⟩ = some (.int .i64 0) := (Bd BK132.out 1).trans rfl; have hfz17_0 := Bl BK132.out 0; have hfz17_1 := Bl BK132.out 1) | (go_at_call 46; (with_reducible refine (Bj.calls k1 x4_1 ((Bc l0 x11_1).f1) t133 true _ A5.out).mono ?_); rintro e w' ⟨rfl, ⟨nd, rfl⟩⟩; (try first | exact ⟨rfl, _, World.drewN_drewN _ _ _⟩ | exact ⟨rfl, _, Eq.trans (World.drewN_drewN _ _ _) (congrArg (World.drewN _) (Nat.add_assoc _ _ _))⟩)) | (go_at_call 59; (with_reducible refine (Fg.calls ((Bc l0 x11_1).f0) 0 9999 true _ A7.out).mono ?_); rintro e w' ⟨rfl, ⟨nd, rfl⟩⟩; (try first | exact ⟨rfl, _, World.drewN_drewN _ _ _⟩ | exact ⟨rfl, _, Eq.trans (World.drewN_drewN _ _ _) (congrArg (World.drewN _) (Nat.add_assoc _ _ _))⟩); have p136 : 0 ≤ ((ji10) : Int) := of_decide_eq_true (by first | (with_reducible assumption) | assumption); have q136 : (ji10) < (l0.length : Int) := of_decide_eq_true (by first | (with_reducible assumption) | assumption); obtain ⟨ad136, e136, hx136_0, hx136_1⟩ := F5 HR0.out (ji10) p136 q136; obtain rfl : ad131 = ad136 := (by injection e136); have hn136_0 : ad131.block ≠ gb132 := Nat.ne_of_lt (Nat.lt_of_lt_of_le (by have := World.block_lt_of_cell? _ _ hx136_0; first | rwa [add_block] at this | exact this) GW132.out); have hn136_1 : ad131.block ≠ gb132 := Nat.ne_of_lt (Nat.lt_of_lt_of_le (by have := World.block_lt_of_cell? _ _ hx136_0; first | rwa [add_block] at this | exact this) GW132.out); replace hx136_0 := (HB.out.cell (World.block_lt_of_cell? w _ hx136_0)).trans hx136_0; replace hx136_1 := (HB.out.cell (World.block_lt_of_cell? w _ hx136_1)).trans hx136_1; replace hx136_0 := (cell_far (p := ⟨gb132, 0, none⟩) (by first | (rw [add_block]; exact hn136_0) | (show (Addr.add _ _).block ≠ _; rw [add_block]; exact hn136_0) | exact hn136_0) (.int .i64 ((Bc l0 x11_1).f0))).trans hx136_0; replace hx136_1 := (cell_far (p := ⟨gb132, 0, none⟩) (by first | (rw [add_block]; exact hn136_0) | (show (Addr.add _ _).block ≠ _; rw [add_block]; exact hn136_0) | exact hn136_0) (.int .i64 ((Bc l0 x11_1).f0))).trans hx136_1; replace hx136_0 := (cell_far (p := ⟨gb132, 1, none⟩) (by first | (rw [add_block]; exact hn136_1) | (show (Addr.add _ _).block ≠ _; rw [add_block]; exact hn136_1) | exact hn136_1) (.int .i64 ((Bc l0 x11_1).f1))).trans hx136_0; replace hx136_1 := (cell_far (p := ⟨gb132, 1, none⟩) (by first | (rw [add_block]; exact hn136_1) | (show (Addr.add _ _).block ≠ _; rw [add_block]; exact hn136_1) | exact hn136_1) (.int .i64 ((Bc l0 x11_1).f1))).trans hx136_1; (try have hy136_0 := fun (n_ : Nat) => (show ((((w16.drewN n_).setCell ⟨gb132, 0, none⟩ (.int .i64 ((Bc l0 x11_1).f0))).setCell ⟨gb132, 1, none⟩ (.int .i64 ((Bc l0 x11_1).f1)))).cell? _ = some _ from hx136_0)); (try have hy136_1 := fun (n_ : Nat) => (show ((((w16.drewN n_).setCell ⟨gb132, 0, none⟩ (.int .i64 ((Bc l0 x11_1).f0))).setCell ⟨gb132, 1, none⟩ (.int .i64 ((Bc l0 x11_1).f1)))).cell? _ = some _ from hx136_1)); clear hn136_0; clear hn136_1; replace p136 := eq_true p136; replace q136 := eq_true q136)); try go_wp2_with (first | ((with_reducible refine D7 (N := 6) rfl ?_); refine Es ?hg (N := 6) ?hd (cs := #[.int .i64 0, .int .i64 0]) (t := 40) ?hr ?_; (case hd => rfl); (case hg => rfl); (case hr => first | (go_simp; done) | (go_simp; rfl)); intro gb132 hg w16 hbox hb; have n0_ := Aa.mk (Ap (by repeat (first | (with_reducible first | exact HB.out | apply Ae | apply Ac | apply Ad) | exact HB.out)) hb); have n1_ := Aa.mk (hbox); have n2_ := Aa.mk ((by rw [hg]; exact (Aq (by repeat (first | (with_reducible first | exact HB.out | apply Ae | apply Ac | apply Ad) | exact HB.out))) : w.heap.size ≤ gb132)); have n3_ := Aa.mk ((by rw [hg]; exact (Aq (by repeat (first | (with_reducible first | exact HB.out | apply Ae | apply Ac | apply Ad) | exact HB.out))) : w.heap.size ≤ gb132)); clear HB; have HB := n0_; have BK132 := n1_; have GW132 := n2_; have GE132 := n3_; clear n0_ n1_ n2_ n3_; clear hb hbox hg; have hcz17_0 : w16.cell? ⟨gb132, 0, none⟩ = some (.int .i64 0) := (Bd BK132.out 0).trans rfl; have hcz17_1 : w16.cell? ⟨gb132, 1, none⟩ = some (.int .i64 0) := (Bd BK132.out 1).trans rfl; have hfz17_0 := Bl BK132.out 0; have hfz17_1 := Bl BK132.out 1) | (go_at_call 46; (with_reducible refine (Bj.calls k1 x4_1 ((Bc l0 x11_1).f1) t133 true _ A5.out).mono ?_); rintro e w' ⟨rfl, ⟨nd, rfl⟩⟩; (try first | exact ⟨rfl, _, World.drewN_drewN _ _ _⟩ | exact ⟨rfl, _, Eq.trans (World.drewN_drewN _ _ _) (congrArg (World.drewN _) (Nat.add_assoc _ _ _))⟩)) | (go_at_call 59; (with_reducible refine (Fg.calls ((Bc l0 x11_1).f0) 0 9999 true _ A7.out).mono ?_); rintro e w' ⟨rfl, ⟨nd, rfl⟩⟩; (try first | exact ⟨rfl, _, World.drewN_drewN _ _ _⟩ | exact ⟨rfl, _, Eq.trans (World.drewN_drewN _ _ _) (congrArg (World.drewN _) (Nat.add_assoc _ _ _))⟩); have p136 : 0 ≤ ((ji10) : Int) := of_decide_eq_true (by first | (with_reducible assumption) | assumption); have q136 : (ji10) < (l0.length : Int) := of_decide_eq_true (by first | (with_reducible assumption) | assumption); obtain ⟨ad136, e136, hx136_0, hx136_1⟩ := F5 HR0.out (ji10) p136 q136; obtain rfl : ad131 = ad136 := (by injection e136); have hn136_0 : ad131.block ≠ gb132 := Nat.ne_of_lt (Nat.lt_of_lt_of_le (by have := World.block_lt_of_cell? _ _ hx136_0; first | rwa [add_block] at this | exact this) GW132.out); have hn136_1 : ad131.block ≠ gb132 := Nat.ne_of_lt (Nat.lt_of_lt_of_le (by have := World.block_lt_of_cell? _ _ hx136_0; first | rwa [add_block] at this | exact this) GW132.out); replace hx136_0 := (HB.out.cell (World.block_lt_of_cell? w _ hx136_0)).trans hx136_0; replace hx136_1 := (HB.out.cell (World.block_lt_of_cell? w _ hx136_1)).trans hx136_1; replace hx136_0 := (cell_far (p := ⟨gb132, 0, none⟩) (by first | (rw [add_block]; exact hn136_0) | (show (Addr.add _ _).block ≠ _; rw [add_block]; exact hn136_0) | exact hn136_0) (.int .i64 ((Bc l0 x11_1).f0))).trans hx136_0; replace hx136_1 := (cell_far (p := ⟨gb132, 0, none⟩) (by first | (rw [add_block]; exact hn136_0) | (show (Addr.add _ _).block ≠ _; rw [add_block]; exact hn136_0) | exact hn136_0) (.int .i64 ((Bc l0 x11_1).f0))).trans hx136_1; replace hx136_0 := (cell_far (p := ⟨gb132, 1, none⟩) (by first | (rw [add_block]; exact hn136_1) | (show (Addr.add _ _).block ≠ _; rw [add_block]; exact hn136_1) | exact hn136_1) (.int .i64 ((Bc l0 x11_1).f1))).trans hx136_0; replace hx136_1 := (cell_far (p := ⟨gb132, 1, none⟩) (by first | (rw [add_block]; exact hn136_1) | (show (Addr.add _ _).block ≠ _; rw [add_block]; exact hn136_1) | exact hn136_1) (.int .i64 ((Bc l0 x11_1).f1))).trans hx136_1; (try have hy136_0 := fun (n_ : Nat) => (show ((((w16.drewN n_).setCell ⟨gb132, 0, none⟩ (.int .i64 ((Bc l0 x11_1).f0))).setCell ⟨gb132, 1, none⟩ (.int .i64 ((Bc l0 x11_1).f1)))).cell? _ = some _ from hx136_0)); (try have hy136_1 := fun (n_ : Nat) => (show ((((w16.drewN n_).setCell ⟨gb132, 0, none⟩ (.int .i64 ((Bc l0 x11_1).f0))).setCell ⟨gb132, 1, none⟩ (.int .i64 ((Bc l0 x11_1).f1)))).cell? _ = some _ from hx136_1)); clear hn136_0; clear hn136_1; replace p136 := eq_true p136; replace q136 := eq_true q136)))
                        go_roundg k1
                        case measure => have := HK1.out; omega
                        case rel => exact ⟨(t133), (wrap64 (x11_1 + 1)), (by first | rfl | (simp; done) | (simp [*]; done)), (by first | rfl | (simp; done) | (simp [*]; done)), H', ⟨by have := HK1.out; omega⟩, ⟨by repeat (first | (with_reducible first | exact HB.out | apply Ae | apply Ac | apply Ad | refine Ag ?_ GE132.out) | exact HB.out)⟩⟩
                    · rw [if_neg c12] at H
                      exact absurd H (by simp)
                  · rw [if_neg c11] at H
                    exact absurd H (by simp)
                · rw [if_neg c9] at H
                  have c9b0 : decide (0 < x11_1) = false := decide_eq_false c9
                  clear c9
                  have H' := Aa.mk H
                  clear H
                  have p131 : 0 ≤ (x11_1 : Int) := of_decide_eq_true (by first | (with_reducible assumption) | assumption)
                  have q131 : x11_1 < (l0.length : Int) := of_decide_eq_true (by first | (with_reducible assumption) | assumption)
                  obtain ⟨ad131, e131, hx131_0, hx131_1⟩ := F5 HR0.out x11_1 p131 q131
                  cases e131
                  replace hx131_0 := (HB.out.cell (World.block_lt_of_cell? w _ hx131_0)).trans hx131_0
                  replace hx131_1 := (HB.out.cell (World.block_lt_of_cell? w _ hx131_1)).trans hx131_1
                  replace p131 := eq_true p131
                  replace q131 := eq_true q131
                  go_wp2_with (first | ((with_reducible refine D7 (N := 6) rfl ?_); refine Es ?hg (N := 6) ?hd (cs := #[.int .i64 0, .int .i64 0]) (t := 40) ?hr ?_; (case hd => rfl); (case hg => rfl); (case hr => first | (go_simp; done) | (go_simp; rfl)); intro gb132 hg w18 hbox hb; have n0_ := Aa.mk (Ap (by repeat (first | (with_reducible first | exact HB.out | apply Ae | apply Ac | apply Ad) | exact HB.out)) hb); have n1_ := Aa.mk (hbox); have n2_ := Aa.mk ((by rw [hg]; exact (Aq (by repeat (first | (with_reducible first | exact HB.out | apply Ae | apply Ac | apply Ad) | exact HB.out))) : w.heap.size ≤ gb132)); have n3_ := Aa.mk ((by rw [hg]; exact (Aq (by repeat (first | (with_reducible first | exact HB.out | apply Ae | apply Ac | apply Ad) | exact HB.out))) : w.heap.size ≤ gb132)); clear HB; have HB := n0_; have BK132 := n1_; have GW132 := n2_; have GE132 := n3_; clear n0_ n1_ n2_ n3_; clear hb hbox hg; have hcz19_0 : w18.cell? ⟨gb132, 0, none⟩ = some (.int .i64 0) := (Bd BK132.out 0).trans rfl; have hcz19_1 : w18.cell? ⟨gb132, 1, none⟩ = some (.int .i64 0) := (Bd BK132.out 1).trans rfl; have hfz19_0 := Bl BK132.out 0; have hfz19_1 := Bl BK132.out 1) | (go_at_call 46; (with_reducible refine (Bj.calls k1 x4_1 ((Bc l0 x11_1).f1) t133 true _ A5.out).mono ?_); rintro e w' ⟨rfl, ⟨nd, rfl⟩⟩; (try first | exact ⟨rfl, _, World.drewN_drewN _ _ _⟩ | exact ⟨rfl, _, Eq.trans (World.drewN_drewN _ _ _) (congrArg (World.drewN _) (Nat.add_assoc _ _ _))⟩)) | (go_at_call 59; (with_reducible refine (Fg.calls ((Bc l0 x11_1).f0) 0 9999 true _ A7.out).mono ?_); rintro e w' ⟨rfl, ⟨nd, rfl⟩⟩; (try first | exact ⟨rfl, _, World.drewN_drewN _ _ _⟩ | exact ⟨rfl, _, Eq.trans (World.drewN_drewN _ _ _) (congrArg (World.drewN _) (Nat.add_assoc _ _ _))⟩)))
                  repeat (go_quiet (first | ((with_reducible refine D7 (N := 6) rfl ?_); refine Es ?hg (N := 6) ?hd (cs := #[.int .i64 0, .int .i64 0]) (t := 40) ?hr ?_; (case hd => rfl); (case hg => rfl); (case hr => first | (go_simp; done) | (go_simp; rfl)); intro gb132 hg w18 hbox hb; have n0_ := Aa.mk (Ap (by repeat (first | (with_reducible first | exact HB.out | apply Ae | apply Ac | apply Ad) | exact HB.out)) hb); have n1_ := Aa.mk (hbox); have n2_ := Aa.mk ((by rw [hg]; exact (Aq (by repeat (first | (with_reducible first | exact HB.out | apply Ae | apply Ac | apply Ad) | exact HB.out))) : w.heap.size ≤ gb132)); have n3_ := Aa.mk ((by rw [hg]; exact (Aq (by repeat (first | (with_reducible first | exact HB.out | apply Ae | apply Ac | apply Ad) | exact HB.out))) : w.heap.size ≤ gb132)); clear HB; have HB := n0_; have BK132 := n1_; have GW132 := n2_; have GE132 := n3_; clear n0_ n1_ n2_ n3_; clear hb hbox hg; have hcz19_0 : w18.cell? ⟨gb132, 0, none⟩ = some (.int .i64 0) := (Bd BK132.out 0).trans rfl; have hcz19_1 : w18.cell? ⟨gb132, 1, none⟩ = some (.int .i64 0) := (Bd BK132.out 1).trans rfl; have hfz19_0 := Bl BK132.out 0; have hfz19_1 := Bl BK132.out 1) | (go_at_call 46; (with_reducible refine (Bj.calls k1 x4_1 ((Bc l0 x11_1).f1) t133 true _ A5.out).mono ?_); rintro e w' ⟨rfl, ⟨nd, rfl⟩⟩; (try first | exact ⟨rfl, _, World.drewN_drewN _ _ _⟩ | exact ⟨rfl, _, Eq.trans (World.drewN_drewN _ _ _) (congrArg (World.drewN _) (Nat.add_assoc _ _ _))⟩)) | (go_at_call 59; (with_reducible refine (Fg.calls ((Bc l0 x11_1).f0) 0 9999 true _ A7.out).mono ?_); rintro e w' ⟨rfl, ⟨nd, rfl⟩⟩; (try first | exact ⟨rfl, _, World.drewN_drewN _ _ _⟩ | exact ⟨rfl, _, Eq.trans (World.drewN_drewN _ _ _) (congrArg (World.drewN _) (Nat.add_assoc _ _ _))⟩))); try go_wp2_with (first | ((with_reducible refine D7 (N := 6) rfl ?_); refine Es ?hg (N := 6) ?hd (cs := #[.int .i64 0, .int .i64 0]) (t := 40) ?hr ?_; (case hd => rfl); (case hg => rfl); (case hr => first | (go_simp; done) | (go_simp; rfl)); intro gb132 hg w18 hbox hb; have n0_ := Aa.mk (Ap (by repeat (first | (with_reducible first | exact HB.out | apply Ae | apply Ac | apply Ad) | exact HB.out)) hb); have n1_ := Aa.mk (hbox); have n2_ := Aa.mk ((by rw [hg]; exact (Aq (by repeat (first | (with_reducible first | exact HB.out | apply Ae | apply Ac | apply Ad) | exact HB.out))) : w.heap.size ≤ gb132)); have n3_ := Aa.mk ((by rw [hg]; exact (Aq (by repeat (first | (with_reducible first | exact HB.out | apply Ae | apply Ac | apply Ad) | exact HB.out))) : w.heap.size ≤ gb132)); clear HB; have HB := n0_; have BK132 := n1_; have GW132 := n2_; have GE132 := n3_; clear n0_ n1_ n2_ n3_; clear hb hbox hg; have hcz19_0 : w18.cell? ⟨gb132, 0, none⟩ = some (.int .i64 0) := (Bd BK132.out 0).trans rfl; have hcz19_1 : w18.cell? ⟨gb132, 1, none⟩ = some (.int .i64 0) := (Bd BK132.out 1).trans rfl; have hfz19_0 := Bl BK132.out 0; have hfz19_1 := Bl BK132.out 1) | (go_at_call 46; (with_reducible refine (Bj.calls k1 x4_1 ((Bc l0 x11_1).f1) t133 true _ A5.out).mono ?_); rintro e w' ⟨rfl, ⟨nd, rfl⟩⟩; (try first | exact ⟨rfl, _, World.drewN_drewN _ _ _⟩ | exact ⟨rfl, _, Eq.trans (World.drewN_drewN _ _ _) (congrArg (World.drewN _) (Nat.add_assoc _ _ _))⟩)) | (go_at_call 59; (with_reducible refine (Fg.calls ((Bc l0 x11_1).f0) 0 9999 true _ A7.out).mono ?_); rintro e w' ⟨rfl, ⟨nd, rfl⟩⟩; (try first | exact ⟨rfl, _, World.drewN_drewN _ _ _⟩ | exact ⟨rfl, _, Eq.trans (World.drewN_drewN _ _ _) (congrArg (World.drewN _) (Nat.add_assoc _ _ _))⟩))))
                  go_roundg k1
                  case measure => have := HK1.out; omega
                  case rel => exact ⟨(t133), (wrap64 (x11_1 + 1)), (by first | rfl | (simp; done) | (simp [*]; done)), (by first | rfl | (simp; done) | (simp [*]; done)), H', ⟨by have := HK1.out; omega⟩, ⟨by repeat (first | (with_reducible first | exact HB.out | apply Ae | apply Ac | apply Ad | refine Ag ?_ GE132.out) | exact HB.out)⟩⟩
              · replace c8 := Bool.eq_false_iff.mpr c8
                subst c8
                have H1 : (some (0, false)) = some (r1, r2) := by rw [if_neg (show ¬ (false = true) by decide)] at H; exact H
                clear H
                have H := H1
                clear H1
                simp only [Option.some.injEq, Prod.mk.injEq] at H
                obtain ⟨rfl, rfl⟩ := H
                have p131 : 0 ≤ (x11_1 : Int) := of_decide_eq_true (by first | (with_reducible assumption) | assumption)
                have q131 : x11_1 < (l0.length : Int) := of_decide_eq_true (by first | (with_reducible assumption) | assumption)
                obtain ⟨ad131, e131, hx131_0, hx131_1⟩ := F5 HR0.out x11_1 p131 q131
                cases e131
                replace hx131_0 := (HB.out.cell (World.block_lt_of_cell? w _ hx131_0)).trans hx131_0
                replace hx131_1 := (HB.out.cell (World.block_lt_of_cell? w _ hx131_1)).trans hx131_1
                replace p131 := eq_true p131
                replace q131 := eq_true q131
                go_wp2_with (first | ((with_reducible refine D7 (N := 6) rfl ?_); refine Es ?hg (N := 6) ?hd (cs := #[.int .i64 0, .int .i64 0]) (t := 40) ?hr ?_; (case hd => rfl); (case hg => rfl); (case hr => first | (go_simp; done) | (go_simp; rfl)); intro gb132 hg w20 hbox hb; have n0_ := Aa.mk (Ap (by repeat (first | (with_reducible first | exact HB.out | apply Ae | apply Ac | apply Ad) | exact HB.out)) hb); have n1_ := Aa.mk (hbox); have n2_ := Aa.mk ((by rw [hg]; exact (Aq (by repeat (first | (with_reducible first | exact HB.out | apply Ae | apply Ac | apply Ad) | exact HB.out))) : w.heap.size ≤ gb132)); have n3_ := Aa.mk ((by rw [hg]; exact (Aq (by repeat (first | (with_reducible first | exact HB.out | apply Ae | apply Ac | apply Ad) | exact HB.out))) : w.heap.size ≤ gb132)); clear HB; have HB := n0_; have BK132 := n1_; have GW132 := n2_; have GE132 := n3_; clear n0_ n1_ n2_ n3_; clear hb hbox hg; have hcz21_0 : w20.cell? ⟨gb132, 0, none⟩ = some (.int .i64 0) := (Bd BK132.out 0).trans rfl; have hcz21_1 : w20.cell? ⟨gb132, 1, none⟩ = some (.int .i64 0) := (Bd BK132.out 1).trans rfl; have hfz21_0 := Bl BK132.out 0; have hfz21_1 := Bl BK132.out 1) | (go_at_call 46; (with_reducible refine (Bj.calls k1 x4_1 ((Bc l0 x11_1).f1) t133 true _ A5.out).mono ?_); rintro e w' ⟨rfl, ⟨nd, rfl⟩⟩; (try first | exact ⟨rfl, _, World.drewN_drewN _ _ _⟩ | exact ⟨rfl, _, Eq.trans (World.drewN_drewN _ _ _) (congrArg (World.drewN _) (Nat.add_assoc _ _ _))⟩)) | (go_at_call 59; (with_reducible refine (Fg.calls ((Bc l0 x11_1).f0) 0 9999 false _ A7.out).mono ?_); rintro e w' ⟨rfl, ⟨nd, rfl⟩⟩; (try first | exact ⟨rfl, _, World.drewN_drewN _ _ _⟩ | exact ⟨rfl, _, Eq.trans (World.drewN_drewN _ _ _) (congrArg (World.drewN _) (Nat.add_assoc _ _ _))⟩)))
                repeat (go_quiet (first | ((with_reducible refine D7 (N := 6) rfl ?_); refine Es ?hg (N := 6) ?hd (cs := #[.int .i64 0, .int .i64 0]) (t := 40) ?hr ?_; (case hd => rfl); (case hg => rfl); (case hr => first | (go_simp; done) | (go_simp; rfl)); intro gb132 hg w20 hbox hb; have n0_ := Aa.mk (Ap (by repeat (first | (with_reducible first | exact HB.out | apply Ae | apply Ac | apply Ad) | exact HB.out)) hb); have n1_ := Aa.mk (hbox); have n2_ := Aa.mk ((by rw [hg]; exact (Aq (by repeat (first | (with_reducible first | exact HB.out | apply Ae | apply Ac | apply Ad) | exact HB.out))) : w.heap.size ≤ gb132)); have n3_ := Aa.mk ((by rw [hg]; exact (Aq (by repeat (first | (with_reducible first | exact HB.out | apply Ae | apply Ac | apply Ad) | exact HB.out))) : w.heap.size ≤ gb132)); clear HB; have HB := n0_; have BK132 := n1_; have GW132 := n2_; have GE132 := n3_; clear n0_ n1_ n2_ n3_; clear hb hbox hg; have hcz21_0 : w20.cell? ⟨gb132, 0, none⟩ = some (.int .i64 0) := (Bd BK132.out 0).trans rfl; have hcz21_1 : w20.cell? ⟨gb132, 1, none⟩ = some (.int .i64 0) := (Bd BK132.out 1).trans rfl; have hfz21_0 := Bl BK132.out 0; have hfz21_1 := Bl BK132.out 1) | (go_at_call 46; (with_reducible refine (Bj.calls k1 x4_1 ((Bc l0 x11_1).f1) t133 true _ A5.out).mono ?_); rintro e w' ⟨rfl, ⟨nd, rfl⟩⟩; (try first | exact ⟨rfl, _, World.drewN_drewN _ _ _⟩ | exact ⟨rfl, _, Eq.trans (World.drewN_drewN _ _ _) (congrArg (World.drewN _) (Nat.add_assoc _ _ _))⟩)) | (go_at_call 59; (with_reducible refine (Fg.calls ((Bc l0 x11_1).f0) 0 9999 false _ A7.out).mono ?_); rintro e w' ⟨rfl, ⟨nd, rfl⟩⟩; (try first | exact ⟨rfl, _, World.drewN_drewN _ _ _⟩ | exact ⟨rfl, _, Eq.trans (World.drewN_drewN _ _ _) (congrArg (World.drewN _) (Nat.add_assoc _ _ _))⟩))); try go_wp2_with (first | ((with_reducible refine D7 (N := 6) rfl ?_); refine Es ?hg (N := 6) ?hd (cs := #[.int .i64 0, .int .i64 0]) (t := 40) ?hr ?_; (case hd => rfl); (case hg => rfl); (case hr => first | (go_simp; done) | (go_simp; rfl)); intro gb132 hg w20 hbox hb; have n0_ := Aa.mk (Ap (by repeat (first | (with_reducible first | exact HB.out | apply Ae | apply Ac | apply Ad) | exact HB.out)) hb); have n1_ := Aa.mk (hbox); have n2_ := Aa.mk ((by rw [hg]; exact (Aq (by repeat (first | (with_reducible first | exact HB.out | apply Ae | apply Ac | apply Ad) | exact HB.out))) : w.heap.size ≤ gb132)); have n3_ := Aa.mk ((by rw [hg]; exact (Aq (by repeat (first | (with_reducible first | exact HB.out | apply Ae | apply Ac | apply Ad) | exact HB.out))) : w.heap.size ≤ gb132)); clear HB; have HB := n0_; have BK132 := n1_; have GW132 := n2_; have GE132 := n3_; clear n0_ n1_ n2_ n3_; clear hb hbox hg; have hcz21_0 : w20.cell? ⟨gb132, 0, none⟩ = some (.int .i64 0) := (Bd BK132.out 0).trans rfl; have hcz21_1 : w20.cell? ⟨gb132, 1, none⟩ = some (.int .i64 0) := (Bd BK132.out 1).trans rfl; have hfz21_0 := Bl BK132.out 0; have hfz21_1 := Bl BK132.out 1) | (go_at_call 46; (with_reducible refine (Bj.calls k1 x4_1 ((Bc l0 x11_1).f1) t133 true _ A5.out).mono ?_); rintro e w' ⟨rfl, ⟨nd, rfl⟩⟩; (try first | exact ⟨rfl, _, World.drewN_drewN _ _ _⟩ | exact ⟨rfl, _, Eq.trans (World.drewN_drewN _ _ _) (congrArg (World.drewN _) (Nat.add_assoc _ _ _))⟩)) | (go_at_call 59; (with_reducible refine (Fg.calls ((Bc l0 x11_1).f0) 0 9999 false _ A7.out).mono ?_); rintro e w' ⟨rfl, ⟨nd, rfl⟩⟩; (try first | exact ⟨rfl, _, World.drewN_drewN _ _ _⟩ | exact ⟨rfl, _, Eq.trans (World.drewN_drewN _ _ _) (congrArg (World.drewN _) (Nat.add_assoc _ _ _))⟩))))
                go_ret2
                exact ⟨by first | rfl | (simp [Be, Bf] <;> rfl) | (simp [*, Be, Bf] <;> rfl), by repeat (first | (with_reducible first | exact HB.out | apply Ae | apply Ac | apply Ad | refine Ag ?_ GE132.out) | exact HB.out)⟩
            · replace c6 := Bool.eq_false_iff.mpr c6
              subst c6
              have H1 : (some (0, false)) = some (r1, r2) := by rw [if_neg (show ¬ (false = true) by decide)] at H; exact H
              clear H
              have H := H1
              clear H1
              simp only [Option.some.injEq, Prod.mk.injEq] at H
              obtain ⟨rfl, rfl⟩ := H
              have p131 : 0 ≤ (x11_1 : Int) := of_decide_eq_true (by first | (with_reducible assumption) | assumption)
              have q131 : x11_1 < (l0.length : Int) := of_decide_eq_true (by first | (with_reducible assumption) | assumption)
              obtain ⟨ad131, e131, hx131_0, hx131_1⟩ := F5 HR0.out x11_1 p131 q131
              cases e131
              replace hx131_0 := (HB.out.cell (World.block_lt_of_cell? w _ hx131_0)).trans hx131_0
              replace hx131_1 := (HB.out.cell (World.block_lt_of_cell? w _ hx131_1)).trans hx131_1
              replace p131 := eq_true p131
              replace q131 := eq_true q131
              go_wp2_with (first | ((with_reducible refine D7 (N := 6) rfl ?_); refine Es ?hg (N := 6) ?hd (cs := #[.int .i64 0, .int .i64 0]) (t := 40) ?hr ?_; (case hd => rfl); (case hg => rfl); (case hr => first | (go_simp; done) | (go_simp; rfl)); intro gb132 hg w22 hbox hb; have n0_ := Aa.mk (Ap (by repeat (first | (with_reducible first | exact HB.out | apply Ae | apply Ac | apply Ad) | exact HB.out)) hb); have n1_ := Aa.mk (hbox); have n2_ := Aa.mk ((by rw [hg]; exact (Aq (by repeat (first | (with_reducible first | exact HB.out | apply Ae | apply Ac | apply Ad) | exact HB.out))) : w.heap.size ≤ gb132)); have n3_ := Aa.mk ((by rw [hg]; exact (Aq (by repeat (first | (with_reducible first | exact HB.out | apply Ae | apply Ac | apply Ad) | exact HB.out))) : w.heap.size ≤ gb132)); clear HB; have HB := n0_; have BK132 := n1_; have GW132 := n2_; have GE132 := n3_; clear n0_ n1_ n2_ n3_; clear hb hbox hg; have hcz23_0 : w22.cell? ⟨gb132, 0, none⟩ = some (.int .i64 0) := (Bd BK132.out 0).trans rfl; have hcz23_1 : w22.cell? ⟨gb132, 1, none⟩ = some (.int .i64 0) := (Bd BK132.out 1).trans rfl; have hfz23_0 := Bl BK132.out 0; have hfz23_1 := Bl BK132.out 1) | (go_at_call 46; (with_reducible refine (Bj.calls k1 x4_1 ((Bc l0 x11_1).f1) t133 false _ A5.out).mono ?_); rintro e w' ⟨rfl, ⟨nd, rfl⟩⟩; (try first | exact ⟨rfl, _, World.drewN_drewN _ _ _⟩ | exact ⟨rfl, _, Eq.trans (World.drewN_drewN _ _ _) (congrArg (World.drewN _) (Nat.add_assoc _ _ _))⟩)))
              repeat (go_quiet (first | ((with_reducible refine D7 (N := 6) rfl ?_); refine Es ?hg (N := 6) ?hd (cs := #[.int .i64 0, .int .i64 0]) (t := 40) ?hr ?_; (case hd => rfl); (case hg => rfl); (case hr => first | (go_simp; done) | (go_simp; rfl)); intro gb132 hg w22 hbox hb; have n0_ := Aa.mk (Ap (by repeat (first | (with_reducible first | exact HB.out | apply Ae | apply Ac | apply Ad) | exact HB.out)) hb); have n1_ := Aa.mk (hbox); have n2_ := Aa.mk ((by rw [hg]; exact (Aq (by repeat (first | (with_reducible first | exact HB.out | apply Ae | apply Ac | apply Ad) | exact HB.out))) : w.heap.size ≤ gb132)); have n3_ := Aa.mk ((by rw [hg]; exact (Aq (by repeat (first | (with_reducible first | exact HB.out | apply Ae | apply Ac | apply Ad) | exact HB.out))) : w.heap.size ≤ gb132)); clear HB; have HB := n0_; have BK132 := n1_; have GW132 := n2_; have GE132 := n3_; clear n0_ n1_ n2_ n3_; clear hb hbox hg; have hcz23_0 : w22.cell? ⟨gb132, 0, none⟩ = some (.int .i64 0) := (Bd BK132.out 0).trans rfl; have hcz23_1 : w22.cell? ⟨gb132, 1, none⟩ = some (.int .i64 0) := (Bd BK132.out 1).trans rfl; have hfz23_0 := Bl BK132.out 0; have hfz23_1 := Bl BK132.out 1) | (go_at_call 46; (with_reducible refine (Bj.calls k1 x4_1 ((Bc l0 x11_1).f1) t133 false _ A5.out).mono ?_); rintro e w' ⟨rfl, ⟨nd, rfl⟩⟩; (try first | exact ⟨rfl, _, World.drewN_drewN _ _ _⟩ | exact ⟨rfl, _, Eq.trans (World.drewN_drewN _ _ _) (congrArg (World.drewN _) (Nat.add_assoc _ _ _))⟩))); try go_wp2_with (first | ((with_reducible refine D7 (N := 6) rfl ?_); refine Es ?hg (N := 6) ?hd (cs := #[.int .i64 0, .int .i64 0]) (t := 40) ?hr ?_; (case hd => rfl); (case hg => rfl); (case hr => first | (go_simp; done) | (go_simp; rfl)); intro gb132 hg w22 hbox hb; have n0_ := Aa.mk (Ap (by repeat (first | (with_reducible first | exact HB.out | apply Ae | apply Ac | apply Ad) | exact HB.out)) hb); have n1_ := Aa.mk (hbox); have n2_ := Aa.mk ((by rw [hg]; exact (Aq (by repeat (first | (with_reducible first | exact HB.out | apply Ae | apply Ac | apply Ad) | exact HB.out))) : w.heap.size ≤ gb132)); have n3_ := Aa.mk ((by rw [hg]; exact (Aq (by repeat (first | (with_reducible first | exact HB.out | apply Ae | apply Ac | apply Ad) | exact HB.out))) : w.heap.size ≤ gb132)); clear HB; have HB := n0_; have BK132 := n1_; have GW132 := n2_; have GE132 := n3_; clear n0_ n1_ n2_ n3_; clear hb hbox hg; have hcz23_0 : w22.cell? ⟨gb132, 0, none⟩ = some (.int .i64 0) := (Bd BK132.out 0).trans rfl; have hcz23_1 : w22.cell? ⟨gb132, 1, none⟩ = some (.int .i64 0) := (Bd BK132.out 1).trans rfl; have hfz23_0 := Bl BK132.out 0; have hfz23_1 := Bl BK132.out 1) | (go_at_call 46; (with_reducible refine (Bj.calls k1 x4_1 ((Bc l0 x11_1).f1) t133 false _ A5.out).mono ?_); rintro e w' ⟨rfl, ⟨nd, rfl⟩⟩; (try first | exact ⟨rfl, _, World.drewN_drewN _ _ _⟩ | exact ⟨rfl, _, Eq.trans (World.drewN_drewN _ _ _) (congrArg (World.drewN _) (Nat.add_assoc _ _ _))⟩))))
              go_ret2
              exact ⟨by first | rfl | (simp [Be, Bf] <;> rfl) | (simp [*, Be, Bf] <;> rfl), by repeat (first | (with_reducible first | exact HB.out | apply Ae | apply Ac | apply Ad | refine Ag ?_ GE132.out) | exact HB.out)⟩
          · rw [if_neg c4] at H
            exact absurd H (by simp)
        · rw [if_neg c3] at H
          exact absurd H (by simp)
      · rw [if_neg c2] at H
        have c2b0 : decide (x11_1 < (l0.length : Int)) = false := decide_eq_false c2
        clear c2
        simp only [Option.some.injEq, Prod.mk.injEq] at H
        obtain ⟨rfl, rfl⟩ := H
        go_wp2
        repeat (go_quiet (fail); try go_wp2)
        go_ret2
        exact ⟨by first | rfl | (simp [Be, Bf] <;> rfl) | (simp [*, Be, Bf] <;> rfl), by repeat (first | (with_reducible first | exact HB.out | apply Ae | apply Ac | apply Ad) | exact HB.out)⟩
end Go.Proofs.YtpalafegcndccaaDoor.X

namespace Go.Proofs.YtpalafegcndccaaDoor.X
open Go.RowKit Go.Proofs.YtpalafegcndccaaDoorW.PrintWords Go.Proofs.YtpalafegcndccaaDoorW.PrintLast Go.Proofs.YtpalafegcndccaaDoorW.PrintMore
attribute [local go_sem] Ej Eg Eu Ew D9 D8 Ei Eh
open Go.Proofs.YtpalafegcndccaaDoorG
def Cm.f (k : Nat) (l0 : List (S40)) : Option (Bool) := (Dj.f k l0).bind fun bt137 => (some bt137.2)
theorem Cm.mono : ∀ a0 k, LeO (Cm.f k a0) (Cm.f (k + 1) a0) := by
  intro a0 k
  unfold Cm.f
  repeat' first
      | (with_reducible exact Dj.mono _ _)
      | (with_reducible exact LeO.refl _)
      | (with_reducible exact LeO.none _)
      | (with_reducible refine LeO.ite ?_ ?_)
      | (with_reducible refine LeO.bind ?_ (fun _ => ?_))
      | exact Dj.mono _ _
      | exact LeO.none _
      | refine LeO.ite ?_ ?_
      | refine LeO.bind ?_ (fun _ => ?_)
set_option maxHeartbeats 8000000 in
set_option maxRecDepth 100000 in
theorem Cm.calls (k : Nat) (A0 : Option Addr) (c0 : Nat) (l0 : List (S40)) (r : Bool) (w : World) (hr0 : Kd.C k40 w A0 l0.length l0) (hc0 : l0.length ≤ c0) (h : Cm.f k l0 = some r) :
    Calls Tryd.prog 17 #[.slice A0 l0.length c0] w fun e w' => e = .returned (.bool r) ∧ Below w.heap.size w w' := by
  have HR0 := Aa.mk hr0
  have HC0 := Aa.mk hc0
  clear hr0 hc0
  have HB := Aa.mk (Below.refl w.heap.size w)
  have H : ((Dj.f k l0).bind fun bt137 => (some bt137.2)) = some r := h
  clear h
  replace H := Option.bind_eq_some_iff.mp H
  obtain ⟨⟨t137, t138⟩, A20, H⟩ := H
  replace H : (some t138) = some r := H
  have A2 := Aa.mk A20
  clear A20
  obtain rfl := Option.some.inj H
  go_enter Tryd.func17, Tryd.ntmps17
  go_wp2_with (first | ((with_reducible refine Bv (f := 38) rfl ?_); refine D5 (some 7) rfl rfl Tryd.func38 (by kernel_rfl) rfl #[.slice A0 l0.length c0] rfl (by (try simp only [List.map_toArray, List.map_cons, List.map_nil]); first | done | rfl | (simp only [List.length_drop, List.length_take]; rfl)) ?_; (with_reducible refine (Dj.calls k _ _ l0 t137 t138 _ ?side1 ?side2 A2.out).mono ?_); (case side1 => repeat (first | exact HR0.out | (with_reducible refine Kd.Ci ?_ _) | (with_reducible refine Kd.Cf ?_ _) | (with_reducible refine Kd.Di ?_))); (case side2 => exact HC0.out); rintro e w3 ⟨rfl, hb⟩; refine ⟨_, rfl, ?_⟩; have n0_ := Aa.mk (Ap (by repeat (first | (with_reducible first | exact HB.out | apply Ae | apply Ac | apply Ad) | exact HB.out)) hb); clear HB; have HB := n0_; clear n0_; (try clear hb); (try clear hb2); (try clear hk); (try clear hi)))
  go_ret
  exact ⟨by first | rfl | (simp [Be, Bf] <;> rfl) | (simp [*, Be, Bf] <;> rfl), by repeat (first | (with_reducible first | exact HB.out | apply Ae | apply Ac | apply Ad) | exact HB.out)⟩
end Go.Proofs.YtpalafegcndccaaDoor.X

namespace Go.Proofs.YtpalafegcndccaaDoor.X
open Go.RowKit Go.Proofs.YtpalafegcndccaaDoorW.PrintWords Go.Proofs.YtpalafegcndccaaDoorW.PrintLast Go.Proofs.YtpalafegcndccaaDoorW.PrintMore
attribute [local go_sem] Ej Eg Eu Ew D9 D8 Ei Eh
open Go.Proofs.YtpalafegcndccaaDoorG
def Ha.f  : Option (List ByteArray) := some (([(⟨#[]⟩ : ByteArray), (⟨#[108, 97, 110, 100]⟩ : ByteArray), (⟨#[103, 97, 116, 101, 32, 105, 110]⟩ : ByteArray), (⟨#[115, 116, 97, 99, 107]⟩ : ByteArray), (⟨#[112, 105, 99, 107]⟩ : ByteArray), (⟨#[108, 111, 97, 100]⟩ : ByteArray), (⟨#[103, 97, 116, 101, 32, 111, 117, 116]⟩ : ByteArray)] : List ByteArray))
set_option maxHeartbeats 8000000 in
set_option maxRecDepth 100000 in
theorem Ha.calls  (r : List ByteArray) (w : World) (h : Ha.f  = some r) :
    Calls Tryd.prog 35 #[] w fun e w' => ∃ v0_ : Value, e = .returned (v0_) ∧ Kd.R Kd.string 9 w' w.heap.size (fun _ => True) v0_ r ∧ Below w.heap.size w w' := by
  have HB := Aa.mk (Below.refl w.heap.size w)
  have H : (some (([(⟨#[]⟩ : ByteArray), (⟨#[108, 97, 110, 100]⟩ : ByteArray), (⟨#[103, 97, 116, 101, 32, 105, 110]⟩ : ByteArray), (⟨#[115, 116, 97, 99, 107]⟩ : ByteArray), (⟨#[112, 105, 99, 107]⟩ : ByteArray), (⟨#[108, 111, 97, 100]⟩ : ByteArray), (⟨#[103, 97, 116, 101, 32, 111, 117, 116]⟩ : ByteArray)] : List ByteArray))) = some r := h
  clear h
  obtain ⟨y139, hy139⟩ : ∃ y_ : List ByteArray, y_ = (([(⟨#[]⟩ : ByteArray), (⟨#[108, 97, 110, 100]⟩ : ByteArray), (⟨#[103, 97, 116, 101, 32, 105, 110]⟩ : ByteArray), (⟨#[115, 116, 97, 99, 107]⟩ : ByteArray), (⟨#[112, 105, 99, 107]⟩ : ByteArray), (⟨#[108, 111, 97, 100]⟩ : ByteArray), (⟨#[103, 97, 116, 101, 32, 111, 117, 116]⟩ : ByteArray)] : List ByteArray)) := ⟨_, rfl⟩
  replace H : (some y139) = some r := by first | (rw [hy139]; with_reducible exact H) | (have H2_ := (Option.bind_some _ _).symm.trans H; rw [hy139]; with_reducible exact H2_) | (have H2_ := (Option.bind_some _ _).symm.trans H; with_reducible exact H2_) | with_reducible exact H | (rw [hy139]; exact H) | exact H
  have Ny139 := Aa.mk hy139
  clear hy139
  obtain rfl := Option.some.inj H
  go_enter Tryd.func35, Tryd.ntmps35
  go_wp2_with (first | ((with_reducible refine D7 (N := 1) rfl ?_); refine Kd.Ii Kd.string _ 9 ?hg (N := 1) ?hd (xs := ([(⟨#[]⟩ : ByteArray), (⟨#[108, 97, 110, 100]⟩ : ByteArray), (⟨#[103, 97, 116, 101, 32, 105, 110]⟩ : ByteArray), (⟨#[115, 116, 97, 99, 107]⟩ : ByteArray), (⟨#[112, 105, 99, 107]⟩ : ByteArray), (⟨#[108, 111, 97, 100]⟩ : ByteArray), (⟨#[103, 97, 116, 101, 32, 111, 117, 116]⟩ : ByteArray)] : List ByteArray)) (inner := [.string (⟨#[]⟩ : ByteArray), .string (⟨#[108, 97, 110, 100]⟩ : ByteArray), .string (⟨#[103, 97, 116, 101, 32, 105, 110]⟩ : ByteArray), .string (⟨#[115, 116, 97, 99, 107]⟩ : ByteArray), .string (⟨#[112, 105, 99, 107]⟩ : ByteArray), .string (⟨#[108, 111, 97, 100]⟩ : ByteArray), .string (⟨#[103, 97, 116, 101, 32, 111, 117, 116]⟩ : ByteArray)]) (ok := fun _ => True) (okp := fun _ => True) ?hr ?hp (fun _ hk => hk) trivial (Below.refl _ _) (Nat.le_refl _) (by simp) ?_; (case hd => rfl); (case hg => rfl); (case hr => first | (go_simp; done) | (go_simp; rfl)); (case hp => exact (Dw.one (show Kd.M Kd.string _ _ _ (⟨#[]⟩ : ByteArray) [.string (⟨#[]⟩ : ByteArray)] from rfl) (Dw.one (show Kd.M Kd.string _ _ _ (⟨#[108, 97, 110, 100]⟩ : ByteArray) [.string (⟨#[108, 97, 110, 100]⟩ : ByteArray)] from rfl) (Dw.one (show Kd.M Kd.string _ _ _ (⟨#[103, 97, 116, 101, 32, 105, 110]⟩ : ByteArray) [.string (⟨#[103, 97, 116, 101, 32, 105, 110]⟩ : ByteArray)] from rfl) (Dw.one (show Kd.M Kd.string _ _ _ (⟨#[115, 116, 97, 99, 107]⟩ : ByteArray) [.string (⟨#[115, 116, 97, 99, 107]⟩ : ByteArray)] from rfl) (Dw.one (show Kd.M Kd.string _ _ _ (⟨#[112, 105, 99, 107]⟩ : ByteArray) [.string (⟨#[112, 105, 99, 107]⟩ : ByteArray)] from rfl) (Dw.one (show Kd.M Kd.string _ _ _ (⟨#[108, 111, 97, 100]⟩ : ByteArray) [.string (⟨#[108, 111, 97, 100]⟩ : ByteArray)] from rfl) (Dw.one (show Kd.M Kd.string _ _ _ (⟨#[103, 97, 116, 101, 32, 111, 117, 116]⟩ : ByteArray) [.string (⟨#[103, 97, 116, 101, 32, 111, 117, 116]⟩ : ByteArray)] from rfl) (Dw.none _ _))))))))); intro v140 w1 ho2 hb hg_ hnew_; clear hg_ hnew_; (first | rw [← Ny139.out] at ho2 | (simp only [Int.reduceToNat] at ho2; rw [← Ny139.out] at ho2)); have n0_ := Aa.mk (Kd.Du ho2 (Aq (by repeat (first | (with_reducible first | exact HB.out | apply Ae | apply Ac | apply Ad) | exact HB.out)))); have n1_ := Aa.mk (Ap (by repeat (first | (with_reducible first | exact HB.out | apply Ae | apply Ac | apply Ad) | exact HB.out)) hb); clear HB; have HO141 := n0_; have HB := n1_; clear n0_ n1_; clear hb ho2))
  go_ret
  exact ⟨_, by first | rfl | (simp [Be, Bf] <;> rfl) | (simp [*, Be, Bf] <;> rfl), by (with_reducible repeat (first | apply Kd.Ah | apply Kd.Ai | apply Kd.Ak)); exact HO141.out, by repeat (first | (with_reducible first | exact HB.out | apply Ae | apply Ac | apply Ad) | exact HB.out)⟩
end Go.Proofs.YtpalafegcndccaaDoor.X

namespace Go.Proofs
open Go.Shelf
def Tryd.lays169_ren : Go.Shelf.Ren := ⟨fun | 169 => 53 | n => n, fun | 70 => 80 | 9 => 9 | 0 => 0 | 72 => 82 | 37 => 34 | 127 => 90 | 3 => 3 | 5 => 5 | n => n, fun | n => n⟩
theorem Tryd.lays169 : Go.Proofs.Lays.n169 Tryd.prog Tryd.lays169_ren := {
  mixed := by kernel_rfl
  f169 := Tryd.func53.trans (congrArg some (by kernel_rfl))
  t0 := Tryd.underlying0
  a0 := Tryd.isAgg0
  z0 := Tryd.sizeOf0
  v0 := Tryd.zeroValue0
  t3 := Tryd.underlying3
  a3 := Tryd.isAgg3
  z3 := Tryd.sizeOf3
  v3 := Tryd.zeroValue3
  t9 := Tryd.underlying9
  a9 := Tryd.isAgg9
  z9 := Tryd.sizeOf9
  v9 := Tryd.zeroValue9
  t37 := Tryd.underlying34
  a37 := Tryd.isAgg34
  z37 := Tryd.sizeOf34
  v37 := Tryd.zeroValue34
  t70 := Tryd.underlying80
  a70 := Tryd.isAgg80
  z70 := Tryd.sizeOf80
  v70 := Tryd.zeroValue80
  t72 := Tryd.underlying82
  a72 := Tryd.isAgg82
  z72 := Tryd.sizeOf82
  v72 := Tryd.zeroValue82
  t127 := Tryd.underlying90
  a127 := Tryd.isAgg90
  z127 := Tryd.sizeOf90
  v127 := Tryd.zeroValue90 }
theorem Tryd.Builder_Extra_169 : Builder.Extra Tryd.prog Tryd.lays169_ren := {
  sizeBuilder := by kernel_rfl
  liesBuilder := by kernel_rfl
  t5 := Tryd.underlying5
  a5 := Tryd.isAgg5
  z5 := Tryd.sizeOf5
  v5 := Tryd.zeroValue5
  infoByte := by kernel_rfl
  cellsByte := by kernel_rfl
  sizeByte := by kernel_rfl
  neB5 := by decide }
open Go.RowKit in
/-- (*strings.Builder).String: "String returns the accumulated string.": WHATEVER THE BUILDER HOLDS. (LAID: no walk: one application.) -/
theorem Tryd.Builder_String_any (B b : Nat) (l : List UInt8) (w : World) (h : Lib.IsBuilder 82 5 B b (Lib.byteCells l) w) (hBw : B ≤ w.heap.size) :
    Calls Tryd.prog 53 #[.pointer (some ⟨b, 0, none⟩)] w fun e w' => e = .returned (.string ⟨l.toArray⟩) ∧ Below B w w' := Any.Builder_String_any Tryd.lays169 Tryd.Builder_Extra_169 B b l w h hBw
def Tryd.laysM171_ren : Go.Shelf.Ren := ⟨fun | 171 => 62 | 243 => 68 | 246 => 81 | 283 => 90 | 284 => 91 | 285 => 92 | 286 => 93 | 129 => 98 | 317 => 97 | 318 => 99 | 319 => 100 | 320 => 101 | 337 => 102 | 338 => 103 | n => n, fun | 3 => 3 | 9 => 9 | 2 => 2 | 4 => 4 | 171 => 118 | 0 => 0 | 53 => 67 | 37 => 34 | 5 => 5 | 173 => 121 | 212 => 128 | 51 => 109 | 20 => 20 | 213 => 129 | 46 => 94 | 232 => 136 | 233 => 137 | n => n, fun | 17 => 3 | 18 => 6 | 19 => 7 | n => n⟩
theorem Tryd.laysM171 : Go.Proofs.LaysM.n171 Tryd.prog Tryd.laysM171_ren := {
  mixed := by kernel_rfl
  f129 := Tryd.func98.trans (congrArg some (by kernel_rfl))
  f171 := Tryd.func62.trans (congrArg some (by kernel_rfl))
  f243 := Tryd.func68.trans (congrArg some (by kernel_rfl))
  f246 := Tryd.func81.trans (congrArg some (by kernel_rfl))
  f283 := Tryd.func90.trans (congrArg some (by kernel_rfl))
  f284 := Tryd.func91.trans (congrArg some (by kernel_rfl))
  f285 := Tryd.func92.trans (congrArg some (by kernel_rfl))
  f286 := Tryd.func93.trans (congrArg some (by kernel_rfl))
  f317 := Tryd.func97.trans (congrArg some (by kernel_rfl))
  f318 := Tryd.func99.trans (congrArg some (by kernel_rfl))
  f319 := Tryd.func100.trans (congrArg some (by kernel_rfl))
  f320 := Tryd.func101.trans (congrArg some (by kernel_rfl))
  f337 := Tryd.func102.trans (congrArg some (by kernel_rfl))
  f338 := Tryd.func103.trans (congrArg some (by kernel_rfl))
  t0 := Tryd.underlying0
  a0 := Tryd.isAgg0
  z0 := Tryd.sizeOf0
  v0 := Tryd.zeroValue0
  t2 := Tryd.underlying2
  a2 := Tryd.isAgg2
  z2 := Tryd.sizeOf2
  v2 := Tryd.zeroValue2
  t3 := Tryd.underlying3
  a3 := Tryd.isAgg3
  z3 := Tryd.sizeOf3
  v3 := Tryd.zeroValue3
  t4 := Tryd.underlying4
  a4 := Tryd.isAgg4
  z4 := Tryd.sizeOf4
  v4 := Tryd.zeroValue4
  t5 := Tryd.underlying5
  a5 := Tryd.isAgg5
  z5 := Tryd.sizeOf5
  v5 := Tryd.zeroValue5
  t9 := Tryd.underlying9
  a9 := Tryd.isAgg9
  z9 := Tryd.sizeOf9
  v9 := Tryd.zeroValue9
  t20 := Tryd.underlying20
  a20 := Tryd.isAgg20
  z20 := Tryd.sizeOf20
  v20 := Tryd.zeroValue20
  t37 := Tryd.underlying34
  a37 := Tryd.isAgg34
  z37 := Tryd.sizeOf34
  v37 := Tryd.zeroValue34
  t46 := Tryd.underlying94
  a46 := Tryd.isAgg94
  z46 := Tryd.sizeOf94
  v46 := Tryd.zeroValue94
  t51 := Tryd.underlying109
  a51 := Tryd.isAgg109
  z51 := Tryd.sizeOf109
  v51 := Tryd.zeroValue109
  t53 := Tryd.underlying67
  a53 := Tryd.isAgg67
  z53 := Tryd.sizeOf67
  v53 := Tryd.zeroValue67
  t171 := Tryd.underlying118
  a171 := Tryd.isAgg118
  z171 := Tryd.sizeOf118
  v171 := Tryd.zeroValue118
  t173 := Tryd.underlying121
  a173 := Tryd.isAgg121
  z173 := Tryd.sizeOf121
  v173 := Tryd.zeroValue121
  t212 := Tryd.underlying128
  a212 := Tryd.isAgg128
  z212 := Tryd.sizeOf128
  v212 := Tryd.zeroValue128
  t213 := Tryd.underlying129
  a213 := Tryd.isAgg129
  z213 := Tryd.sizeOf129
  t232 := Tryd.underlying136
  a232 := Tryd.isAgg136
  z232 := Tryd.sizeOf136
  v232 := Tryd.zeroValue136
  t233 := Tryd.underlying137
  a233 := Tryd.isAgg137
  z233 := Tryd.sizeOf137
  v233 := Tryd.zeroValue137
  g17 := by kernel_rfl
  g18 := by kernel_rfl
  g19 := by kernel_rfl
  i0 := by kernel_rfl
  i2 := by kernel_rfl
  i3 := by kernel_rfl
  i4 := by kernel_rfl
  i5 := by kernel_rfl
  i9 := by kernel_rfl
  i20 := by kernel_rfl
  i37 := by kernel_rfl
  i46 := by kernel_rfl
  i51 := by kernel_rfl
  i53 := by kernel_rfl
  i171 := by kernel_rfl
  i173 := by kernel_rfl
  i212 := by kernel_rfl
  i232 := by kernel_rfl
  i233 := by kernel_rfl
  m17 := by kernel_rfl
  m18 := by kernel_rfl
  m19 := by kernel_rfl }
open Go.RowKit Go.Sort Go.Lib in
/-- strconv.Itoa: "Itoa is equivalent to FormatInt(int64(i), 10).": i's DECIMAL NUMERAL ('Lib.itoa': a '-' where i is negative, then the digits), FOR EVERY int. The world behind the call: the world before it, new blocks behind the heap (the library's 'var a [24]byte'), draws. (LAID: no walk: one application.) -/
theorem Tryd.strconv_Itoa (n : Int) (h0 : -9223372036854775808 ≤ n) (h1 : n ≤ 9223372036854775807) (w : World) (htab : Lib.TabIs Tryd.prog w "internal/strconv.uint64pow10" .u64 Lib.pow10Tab) :
    Calls Tryd.prog 62 #[.int .i64 n] w fun e w' => e = .returned (.string ⟨(Lib.itoa n).toArray⟩) ∧ ∃ k os, w' = grow (w.drewN k) os := Any.strconv_Itoa Tryd.laysM171 n h0 h1 w htab
def Tryd.laysC172_ren : Go.Shelf.Ren := ⟨fun | 172 => 58 | 244 => 65 | 245 => 66 | 247 => 76 | 279 => 77 | 280 => 78 | 281 => 79 | 282 => 80 | 287 => 87 | 316 => 88 | 171 => 62 | 205 => 89 | 321 => 95 | 322 => 96 | 243 => 68 | 246 => 81 | 283 => 90 | 284 => 91 | 285 => 92 | 286 => 93 | 129 => 98 | 317 => 97 | 318 => 99 | 319 => 100 | 320 => 101 | 337 => 102 | 338 => 103 | n => n, fun | 9 => 9 | 3 => 3 | 75 => 84 | 76 => 85 | 4 => 4 | 5 => 5 | 167 => 99 | 37 => 34 | 0 => 0 | 85 => 100 | 2 => 2 | 168 => 102 | 53 => 67 | 175 => 112 | 46 => 94 | 210 => 116 | 127 => 90 | 145 => 126 | 143 => 124 | 21 => 21 | 171 => 118 | 173 => 121 | 212 => 128 | 51 => 109 | 20 => 20 | 213 => 129 | 232 => 136 | 233 => 137 | 80 => 87 | n => n, fun | 15 => 1 | 16 => 2 | 17 => 3 | 18 => 6 | 19 => 7 | n => n⟩
theorem Tryd.laysC172 : Go.Proofs.LaysC.n172 Tryd.prog Tryd.laysC172_ren := {
  mixed := by kernel_rfl
  f129 := Tryd.func98.trans (congrArg some (by kernel_rfl))
  f171 := Tryd.func62.trans (congrArg some (by kernel_rfl))
  f172 := Tryd.func58.trans (congrArg some (by kernel_rfl))
  f205 := Tryd.func89.trans (congrArg some (by kernel_rfl))
  f243 := Tryd.func68.trans (congrArg some (by kernel_rfl))
  f244 := Tryd.func65.trans (congrArg some (by kernel_rfl))
  f245 := Tryd.func66.trans (congrArg some (by kernel_rfl))
  f246 := Tryd.func81.trans (congrArg some (by kernel_rfl))
  f247 := Tryd.func76.trans (congrArg some (by kernel_rfl))
  f279 := Tryd.func77.trans (congrArg some (by kernel_rfl))
  f280 := Tryd.func78.trans (congrArg some (by kernel_rfl))
  f281 := Tryd.func79.trans (congrArg some (by kernel_rfl))
  f282 := Tryd.func80.trans (congrArg some (by kernel_rfl))
  f283 := Tryd.func90.trans (congrArg some (by kernel_rfl))
  f284 := Tryd.func91.trans (congrArg some (by kernel_rfl))
  f285 := Tryd.func92.trans (congrArg some (by kernel_rfl))
  f286 := Tryd.func93.trans (congrArg some (by kernel_rfl))
  f287 := Tryd.func87.trans (congrArg some (by kernel_rfl))
  f316 := Tryd.func88.trans (congrArg some (by kernel_rfl))
  f317 := Tryd.func97.trans (congrArg some (by kernel_rfl))
  f318 := Tryd.func99.trans (congrArg some (by kernel_rfl))
  f319 := Tryd.func100.trans (congrArg some (by kernel_rfl))
  f320 := Tryd.func101.trans (congrArg some (by kernel_rfl))
  f321 := Tryd.func95.trans (congrArg some (by kernel_rfl))
  f322 := Tryd.func96.trans (congrArg some (by kernel_rfl))
  f337 := Tryd.func102.trans (congrArg some (by kernel_rfl))
  f338 := Tryd.func103.trans (congrArg some (by kernel_rfl))
  t0 := Tryd.underlying0
  a0 := Tryd.isAgg0
  z0 := Tryd.sizeOf0
  v0 := Tryd.zeroValue0
  t2 := Tryd.underlying2
  a2 := Tryd.isAgg2
  z2 := Tryd.sizeOf2
  v2 := Tryd.zeroValue2
  t3 := Tryd.underlying3
  a3 := Tryd.isAgg3
  z3 := Tryd.sizeOf3
  v3 := Tryd.zeroValue3
  t4 := Tryd.underlying4
  a4 := Tryd.isAgg4
  z4 := Tryd.sizeOf4
  v4 := Tryd.zeroValue4
  t5 := Tryd.underlying5
  a5 := Tryd.isAgg5
  z5 := Tryd.sizeOf5
  v5 := Tryd.zeroValue5
  t9 := Tryd.underlying9
  a9 := Tryd.isAgg9
  z9 := Tryd.sizeOf9
  v9 := Tryd.zeroValue9
  t20 := Tryd.underlying20
  a20 := Tryd.isAgg20
  z20 := Tryd.sizeOf20
  v20 := Tryd.zeroValue20
  t21 := Tryd.underlying21
  a21 := Tryd.isAgg21
  z21 := Tryd.sizeOf21
  v21 := Tryd.zeroValue21
  t37 := Tryd.underlying34
  a37 := Tryd.isAgg34
  z37 := Tryd.sizeOf34
  v37 := Tryd.zeroValue34
  t46 := Tryd.underlying94
  a46 := Tryd.isAgg94
  z46 := Tryd.sizeOf94
  v46 := Tryd.zeroValue94
  t51 := Tryd.underlying109
  a51 := Tryd.isAgg109
  z51 := Tryd.sizeOf109
  v51 := Tryd.zeroValue109
  t53 := Tryd.underlying67
  a53 := Tryd.isAgg67
  z53 := Tryd.sizeOf67
  v53 := Tryd.zeroValue67
  t75 := Tryd.underlying84
  a75 := Tryd.isAgg84
  z75 := Tryd.sizeOf84
  v75 := Tryd.zeroValue84
  t76 := Tryd.underlying85
  a76 := Tryd.isAgg85
  z76 := Tryd.sizeOf85
  v76 := Tryd.zeroValue85
  t85 := Tryd.underlying100
  a85 := Tryd.isAgg100
  z85 := Tryd.sizeOf100
  v85 := Tryd.zeroValue100
  t127 := Tryd.underlying90
  a127 := Tryd.isAgg90
  z127 := Tryd.sizeOf90
  v127 := Tryd.zeroValue90
  t143 := Tryd.underlying124
  a143 := Tryd.isAgg124
  z143 := Tryd.sizeOf124
  v143 := Tryd.zeroValue124
  t145 := Tryd.underlying126
  a145 := Tryd.isAgg126
  z145 := Tryd.sizeOf126
  v145 := Tryd.zeroValue126
  t167 := Tryd.underlying99
  a167 := Tryd.isAgg99
  z167 := Tryd.sizeOf99
  v167 := Tryd.zeroValue99
  t168 := Tryd.underlying102
  a168 := Tryd.isAgg102
  z168 := Tryd.sizeOf102
  v168 := Tryd.zeroValue102
  t171 := Tryd.underlying118
  a171 := Tryd.isAgg118
  z171 := Tryd.sizeOf118
  v171 := Tryd.zeroValue118
  t173 := Tryd.underlying121
  a173 := Tryd.isAgg121
  z173 := Tryd.sizeOf121
  v173 := Tryd.zeroValue121
  t175 := Tryd.underlying112
  a175 := Tryd.isAgg112
  z175 := Tryd.sizeOf112
  v175 := Tryd.zeroValue112
  t210 := Tryd.underlying116
  a210 := Tryd.isAgg116
  z210 := Tryd.sizeOf116
  v210 := Tryd.zeroValue116
  t212 := Tryd.underlying128
  a212 := Tryd.isAgg128
  z212 := Tryd.sizeOf128
  v212 := Tryd.zeroValue128
  t213 := Tryd.underlying129
  a213 := Tryd.isAgg129
  z213 := Tryd.sizeOf129
  t232 := Tryd.underlying136
  a232 := Tryd.isAgg136
  z232 := Tryd.sizeOf136
  v232 := Tryd.zeroValue136
  t233 := Tryd.underlying137
  a233 := Tryd.isAgg137
  z233 := Tryd.sizeOf137
  v233 := Tryd.zeroValue137
  g15 := by kernel_rfl
  g16 := by kernel_rfl
  g17 := by kernel_rfl
  g18 := by kernel_rfl
  g19 := by kernel_rfl
  t80 := Tryd.underlying87
  a80 := Tryd.isAgg87
  z80 := Tryd.sizeOf87
  v80 := Tryd.zeroValue87
  i0 := by kernel_rfl
  i2 := by kernel_rfl
  i3 := by kernel_rfl
  i4 := by kernel_rfl
  i5 := by kernel_rfl
  i9 := by kernel_rfl
  i20 := by kernel_rfl
  i21 := by kernel_rfl
  i37 := by kernel_rfl
  i46 := by kernel_rfl
  i51 := by kernel_rfl
  i53 := by kernel_rfl
  i75 := by kernel_rfl
  i76 := by kernel_rfl
  i80 := by kernel_rfl
  i85 := by kernel_rfl
  i127 := by kernel_rfl
  i143 := by kernel_rfl
  i145 := by kernel_rfl
  i167 := by kernel_rfl
  i168 := by kernel_rfl
  i171 := by kernel_rfl
  i173 := by kernel_rfl
  i175 := by kernel_rfl
  i210 := by kernel_rfl
  i212 := by kernel_rfl
  i232 := by kernel_rfl
  i233 := by kernel_rfl
  m15 := by kernel_rfl
  m16 := by kernel_rfl
  m17 := by kernel_rfl
  m18 := by kernel_rfl
  m19 := by kernel_rfl
  c0 := by kernel_rfl
  c2 := by kernel_rfl
  c3 := by kernel_rfl
  c4 := by kernel_rfl
  c5 := by kernel_rfl
  c9 := by kernel_rfl
  c20 := by kernel_rfl
  c21 := by kernel_rfl
  c37 := by kernel_rfl
  c46 := by kernel_rfl
  c51 := by kernel_rfl
  c53 := by kernel_rfl
  c75 := by kernel_rfl
  c76 := by kernel_rfl
  c80 := by kernel_rfl
  c85 := by kernel_rfl
  c127 := by kernel_rfl
  c143 := by kernel_rfl
  c145 := by kernel_rfl
  c167 := by kernel_rfl
  c168 := by kernel_rfl
  c171 := by kernel_rfl
  c173 := by kernel_rfl
  c175 := by kernel_rfl
  c210 := by kernel_rfl
  c212 := by kernel_rfl
  c213 := by kernel_rfl
  c232 := by kernel_rfl
  c233 := by kernel_rfl }
open Go.RowKit in
/-- strconv.Atoi, AT EVERY STRING THAT SPELLS AN int ('Lib.atoiAll .. = .ok v'; of whatever length: leading zeros count): v, AND NO ERROR. The world: as it was, or with the one new row that '[]byte(..)' lays. (LAID: no walk: one application.) -/
theorem Tryd.strconv_Atoi_ok (s : ByteArray) (hmax : s.size ≤ 9223372036854775806) (v : Int) (h : Lib.atoiAll s.data.toList = .ok v) (w : World) :
    Calls Tryd.prog 58 #[.string s] w fun e w' => e = .returned (.tuple #[.int .i64 v, .nilIface]) ∧ (w' = w ∨ ∃ t, w' = Lib.bytesWorld w 5 t) := Any.strconv_Atoi_ok Tryd.laysC172 s hmax v h w
open Go.RowKit in
theorem Tryd.strconv_Atoi_range_var (s : ByteArray) (hlim : s.size ≤ 281474976710656) (h : Lib.atoiAll s.data.toList = .range) (tp : TypeId) (p : Value) (w : World) (hvar : w.var? Tryd.prog "strconv.ErrRange" = some #[.iface tp p]) :
    Calls Tryd.prog 58 #[.string s] w fun e w' => ∃ N, e = .returned (.tuple #[.int .i64 (Lib.atoiSat s.data.toList), .iface 102 (.pointer (some ⟨N, 0, none⟩))]) ∧ w.heap.size ≤ N ∧ w'.heap[N]? = some (.cells #[.string ⟨#[65, 116, 111, 105]⟩, .string s, .iface tp p] 116 (0, 0)) ∧ Below w.heap.size w w' := Any.strconv_Atoi_range_var Tryd.laysC172 s hlim h tp p w hvar
def Tryd.lays219_ren : Go.Shelf.Ren := ⟨fun | 219 => 64 | 217 => 72 | 225 => 73 | 224 => 74 | 267 => 75 | 266 => 85 | 314 => 86 | n => n, fun | 9 => 9 | 3 => 3 | 4 => 4 | 5 => 5 | 46 => 94 | 146 => 110 | 51 => 109 | n => n, fun | 1 => 0 | n => n⟩
theorem Tryd.lays219 : Go.Proofs.Lays.n219 Tryd.prog Tryd.lays219_ren := {
  mixed := by kernel_rfl
  f217 := Tryd.func72.trans (congrArg some (by kernel_rfl))
  f219 := Tryd.func64.trans (congrArg some (by kernel_rfl))
  f224 := Tryd.func74.trans (congrArg some (by kernel_rfl))
  f225 := Tryd.func73.trans (congrArg some (by kernel_rfl))
  f266 := Tryd.func85.trans (congrArg some (by kernel_rfl))
  f267 := Tryd.func75.trans (congrArg some (by kernel_rfl))
  f314 := Tryd.func86.trans (congrArg some (by kernel_rfl))
  t3 := Tryd.underlying3
  a3 := Tryd.isAgg3
  z3 := Tryd.sizeOf3
  v3 := Tryd.zeroValue3
  t4 := Tryd.underlying4
  a4 := Tryd.isAgg4
  z4 := Tryd.sizeOf4
  v4 := Tryd.zeroValue4
  t5 := Tryd.underlying5
  a5 := Tryd.isAgg5
  z5 := Tryd.sizeOf5
  v5 := Tryd.zeroValue5
  t9 := Tryd.underlying9
  a9 := Tryd.isAgg9
  z9 := Tryd.sizeOf9
  v9 := Tryd.zeroValue9
  t46 := Tryd.underlying94
  a46 := Tryd.isAgg94
  z46 := Tryd.sizeOf94
  v46 := Tryd.zeroValue94
  t51 := Tryd.underlying109
  a51 := Tryd.isAgg109
  z51 := Tryd.sizeOf109
  v51 := Tryd.zeroValue109
  t146 := Tryd.underlying110
  a146 := Tryd.isAgg110
  z146 := Tryd.sizeOf110
  v146 := Tryd.zeroValue110
  g1 := by kernel_rfl }
open Go.RowKit Go.Lib in
/-- internal/stringslite.Index (what strings.Index calls) AT A substr OF WHATEVER LENGTH: IT RETURNS 'Lib.index s substr'; the world is as it was. 'm': what internal/bytealg.MaxLen holds: whatever. (LAID: no walk: one application.) -/
theorem Tryd.stringslite_Index (s sub : ByteArray) (m : Int) (w : World) (hs : s.size < 4294967281) (hm : w.cell? ⟨0, 0, none⟩ = some (.int .i64 m)) :
    Calls Tryd.prog 64 #[.string s, .string sub] w fun e w' => e = .returned (.int .i64 (Lib.index s.data.toList sub.data.toList)) ∧ w' = w := Any.stringslite_Index Tryd.lays219 s sub m w hs hm
def Tryd.lays220_ren : Go.Shelf.Ren := ⟨fun | 220 => 57 | 219 => 64 | 217 => 72 | 225 => 73 | 224 => 74 | 267 => 75 | 266 => 85 | 314 => 86 | n => n, fun | 9 => 9 | 4 => 4 | 3 => 3 | 5 => 5 | 46 => 94 | 146 => 110 | 51 => 109 | n => n, fun | 1 => 0 | n => n⟩
theorem Tryd.lays220 : Go.Proofs.Lays.n220 Tryd.prog Tryd.lays220_ren := {
  mixed := by kernel_rfl
  f217 := Tryd.func72.trans (congrArg some (by kernel_rfl))
  f219 := Tryd.func64.trans (congrArg some (by kernel_rfl))
  f220 := Tryd.func57.trans (congrArg some (by kernel_rfl))
  f224 := Tryd.func74.trans (congrArg some (by kernel_rfl))
  f225 := Tryd.func73.trans (congrArg some (by kernel_rfl))
  f266 := Tryd.func85.trans (congrArg some (by kernel_rfl))
  f267 := Tryd.func75.trans (congrArg some (by kernel_rfl))
  f314 := Tryd.func86.trans (congrArg some (by kernel_rfl))
  t3 := Tryd.underlying3
  a3 := Tryd.isAgg3
  z3 := Tryd.sizeOf3
  v3 := Tryd.zeroValue3
  t4 := Tryd.underlying4
  a4 := Tryd.isAgg4
  z4 := Tryd.sizeOf4
  v4 := Tryd.zeroValue4
  t5 := Tryd.underlying5
  a5 := Tryd.isAgg5
  z5 := Tryd.sizeOf5
  v5 := Tryd.zeroValue5
  t9 := Tryd.underlying9
  a9 := Tryd.isAgg9
  z9 := Tryd.sizeOf9
  v9 := Tryd.zeroValue9
  t46 := Tryd.underlying94
  a46 := Tryd.isAgg94
  z46 := Tryd.sizeOf94
  v46 := Tryd.zeroValue94
  t51 := Tryd.underlying109
  a51 := Tryd.isAgg109
  z51 := Tryd.sizeOf109
  v51 := Tryd.zeroValue109
  t146 := Tryd.underlying110
  a146 := Tryd.isAgg110
  z146 := Tryd.sizeOf110
  v146 := Tryd.zeroValue110
  g1 := by kernel_rfl }
open Go.RowKit Go.Lib in
/-- internal/stringslite.Cut (what strings.Cut calls): IT RETURNS 'Lib.cut s sep'; the world is as it was but for the count of draws. (LAID: no walk: one application.) -/
theorem Tryd.stringslite_Cut (s sep : ByteArray) (m : Int) (w : World) (hs : s.size < 4294967281) (hm : w.cell? ⟨0, 0, none⟩ = some (.int .i64 m)) :
    Calls Tryd.prog 57 #[.string s, .string sep] w fun e w' => e = .returned (.tuple #[.string ⟨(Lib.cut s.data.toList sep.data.toList).1.toArray⟩, .string ⟨(Lib.cut s.data.toList sep.data.toList).2.1.toArray⟩, .bool (Lib.cut s.data.toList sep.data.toList).2.2]) ∧ ∃ n, w' = w.drewN n := Any.stringslite_Cut Tryd.lays220 s sep m w hs hm
def Tryd.lays145_ren : Go.Shelf.Ren := ⟨fun | 145 => 33 | 220 => 57 | 219 => 64 | 217 => 72 | 225 => 73 | 224 => 74 | 267 => 75 | 266 => 85 | 314 => 86 | n => n, fun | 9 => 9 | 4 => 4 | 59 => 59 | 3 => 3 | 5 => 5 | 46 => 94 | 146 => 110 | 51 => 109 | n => n, fun | 1 => 0 | n => n⟩
theorem Tryd.lays145 : Go.Proofs.Lays.n145 Tryd.prog Tryd.lays145_ren := {
  mixed := by kernel_rfl
  f145 := Tryd.func33.trans (congrArg some (by kernel_rfl))
  f217 := Tryd.func72.trans (congrArg some (by kernel_rfl))
  f219 := Tryd.func64.trans (congrArg some (by kernel_rfl))
  f220 := Tryd.func57.trans (congrArg some (by kernel_rfl))
  f224 := Tryd.func74.trans (congrArg some (by kernel_rfl))
  f225 := Tryd.func73.trans (congrArg some (by kernel_rfl))
  f266 := Tryd.func85.trans (congrArg some (by kernel_rfl))
  f267 := Tryd.func75.trans (congrArg some (by kernel_rfl))
  f314 := Tryd.func86.trans (congrArg some (by kernel_rfl))
  t3 := Tryd.underlying3
  a3 := Tryd.isAgg3
  z3 := Tryd.sizeOf3
  v3 := Tryd.zeroValue3
  t4 := Tryd.underlying4
  a4 := Tryd.isAgg4
  z4 := Tryd.sizeOf4
  v4 := Tryd.zeroValue4
  t5 := Tryd.underlying5
  a5 := Tryd.isAgg5
  z5 := Tryd.sizeOf5
  v5 := Tryd.zeroValue5
  t9 := Tryd.underlying9
  a9 := Tryd.isAgg9
  z9 := Tryd.sizeOf9
  v9 := Tryd.zeroValue9
  t46 := Tryd.underlying94
  a46 := Tryd.isAgg94
  z46 := Tryd.sizeOf94
  v46 := Tryd.zeroValue94
  t51 := Tryd.underlying109
  a51 := Tryd.isAgg109
  z51 := Tryd.sizeOf109
  v51 := Tryd.zeroValue109
  t59 := Tryd.underlying59
  a59 := Tryd.isAgg59
  z59 := Tryd.sizeOf59
  v59 := Tryd.zeroValue59
  t146 := Tryd.underlying110
  a146 := Tryd.isAgg110
  z146 := Tryd.sizeOf110
  v146 := Tryd.zeroValue110
  g1 := by kernel_rfl }
open Go.RowKit Go.Lib in
/-- strings.Cut: "Cut slices s around the first instance of sep, returning the text before and after sep. The found result reports whether sep appears in s. If sep does not appear in s, cut returns s, "", false.": IT RETURNS 'Lib.cut s sep'; the world is as it was but for the count of draws. (LAID: no walk: one application.) -/
theorem Tryd.strings_Cut (s sep : ByteArray) (m : Int) (w : World) (hs : s.size < 4294967281) (hm : w.cell? ⟨0, 0, none⟩ = some (.int .i64 m)) :
    Calls Tryd.prog 33 #[.string s, .string sep] w fun e w' => e = .returned (.tuple #[.string ⟨(Lib.cut s.data.toList sep.data.toList).1.toArray⟩, .string ⟨(Lib.cut s.data.toList sep.data.toList).2.1.toArray⟩, .bool (Lib.cut s.data.toList sep.data.toList).2.2]) ∧ ∃ n, w' = w.drewN n := Any.strings_Cut Tryd.lays145 s sep m w hs hm
def Tryd.laysM219_ren : Go.Shelf.Ren := ⟨fun | 219 => 64 | 217 => 72 | 225 => 73 | 224 => 74 | 267 => 75 | 266 => 85 | 314 => 86 | n => n, fun | 9 => 9 | 3 => 3 | 4 => 4 | 5 => 5 | 46 => 94 | 146 => 110 | 51 => 109 | n => n, fun | 1 => 0 | n => n⟩
theorem Tryd.laysM219 : Go.Proofs.LaysM.n219 Tryd.prog Tryd.laysM219_ren := {
  mixed := by kernel_rfl
  f217 := Tryd.func72.trans (congrArg some (by kernel_rfl))
  f219 := Tryd.func64.trans (congrArg some (by kernel_rfl))
  f224 := Tryd.func74.trans (congrArg some (by kernel_rfl))
  f225 := Tryd.func73.trans (congrArg some (by kernel_rfl))
  f266 := Tryd.func85.trans (congrArg some (by kernel_rfl))
  f267 := Tryd.func75.trans (congrArg some (by kernel_rfl))
  f314 := Tryd.func86.trans (congrArg some (by kernel_rfl))
  t3 := Tryd.underlying3
  a3 := Tryd.isAgg3
  z3 := Tryd.sizeOf3
  v3 := Tryd.zeroValue3
  t4 := Tryd.underlying4
  a4 := Tryd.isAgg4
  z4 := Tryd.sizeOf4
  v4 := Tryd.zeroValue4
  t5 := Tryd.underlying5
  a5 := Tryd.isAgg5
  z5 := Tryd.sizeOf5
  v5 := Tryd.zeroValue5
  t9 := Tryd.underlying9
  a9 := Tryd.isAgg9
  z9 := Tryd.sizeOf9
  v9 := Tryd.zeroValue9
  t46 := Tryd.underlying94
  a46 := Tryd.isAgg94
  z46 := Tryd.sizeOf94
  v46 := Tryd.zeroValue94
  t51 := Tryd.underlying109
  a51 := Tryd.isAgg109
  z51 := Tryd.sizeOf109
  v51 := Tryd.zeroValue109
  t146 := Tryd.underlying110
  a146 := Tryd.isAgg110
  z146 := Tryd.sizeOf110
  v146 := Tryd.zeroValue110
  g1 := by kernel_rfl
  i3 := by kernel_rfl
  i4 := by kernel_rfl
  i5 := by kernel_rfl
  i9 := by kernel_rfl
  i46 := by kernel_rfl
  i51 := by kernel_rfl
  i146 := by kernel_rfl
  m1 := by kernel_rfl
  s1_3 := fun w h => Go.Proofs.cell_of_shapedOpen_int (zero := #[.int .i64 0]) (t := 3) h (of_decide_eq_true (by kernel_rfl)) (by kernel_rfl) rfl (by kernel_rfl) (by kernel_rfl) Tryd.underlying3 }
def Tryd.lays146_ren : Go.Shelf.Ren := ⟨fun | 146 => 56 | 221 => 63 | 268 => 69 | 138 => 70 | 143 => 71 | 195 => 82 | 197 => 83 | 218 => 84 | 219 => 64 | 260 => 94 | 217 => 72 | 225 => 73 | 224 => 74 | 267 => 75 | 266 => 85 | 314 => 86 | n => n, fun | 9 => 9 | 31 => 53 | 3 => 3 | 4 => 4 | 0 => 0 | 105 => 107 | 21 => 21 | 5 => 5 | 46 => 94 | 119 => 131 | 139 => 134 | 138 => 133 | 146 => 110 | 51 => 109 | n => n, fun | 1 => 0 | 3 => 4 | 4 => 5 | n => n⟩
theorem Tryd.lays146 : Go.Proofs.Lays.n146 Tryd.prog Tryd.lays146_ren := {
  mixed := by kernel_rfl
  f138 := Tryd.func70.trans (congrArg some (by kernel_rfl))
  f143 := Tryd.func71.trans (congrArg some (by kernel_rfl))
  f146 := Tryd.func56.trans (congrArg some (by kernel_rfl))
  f195 := Tryd.func82.trans (congrArg some (by kernel_rfl))
  f197 := Tryd.func83.trans (congrArg some (by kernel_rfl))
  f217 := Tryd.func72.trans (congrArg some (by kernel_rfl))
  f218 := Tryd.func84.trans (congrArg some (by kernel_rfl))
  f219 := Tryd.func64.trans (congrArg some (by kernel_rfl))
  f221 := Tryd.func63.trans (congrArg some (by kernel_rfl))
  f224 := Tryd.func74.trans (congrArg some (by kernel_rfl))
  f225 := Tryd.func73.trans (congrArg some (by kernel_rfl))
  f260 := Tryd.func94.trans (congrArg some (by kernel_rfl))
  f266 := Tryd.func85.trans (congrArg some (by kernel_rfl))
  f267 := Tryd.func75.trans (congrArg some (by kernel_rfl))
  f268 := Tryd.func69.trans (congrArg some (by kernel_rfl))
  f314 := Tryd.func86.trans (congrArg some (by kernel_rfl))
  t0 := Tryd.underlying0
  a0 := Tryd.isAgg0
  z0 := Tryd.sizeOf0
  v0 := Tryd.zeroValue0
  t3 := Tryd.underlying3
  a3 := Tryd.isAgg3
  z3 := Tryd.sizeOf3
  v3 := Tryd.zeroValue3
  t4 := Tryd.underlying4
  a4 := Tryd.isAgg4
  z4 := Tryd.sizeOf4
  v4 := Tryd.zeroValue4
  t5 := Tryd.underlying5
  a5 := Tryd.isAgg5
  z5 := Tryd.sizeOf5
  v5 := Tryd.zeroValue5
  t9 := Tryd.underlying9
  a9 := Tryd.isAgg9
  z9 := Tryd.sizeOf9
  v9 := Tryd.zeroValue9
  t21 := Tryd.underlying21
  a21 := Tryd.isAgg21
  z21 := Tryd.sizeOf21
  v21 := Tryd.zeroValue21
  t31 := Tryd.underlying53
  a31 := Tryd.isAgg53
  z31 := Tryd.sizeOf53
  v31 := Tryd.zeroValue53
  t46 := Tryd.underlying94
  a46 := Tryd.isAgg94
  z46 := Tryd.sizeOf94
  v46 := Tryd.zeroValue94
  t51 := Tryd.underlying109
  a51 := Tryd.isAgg109
  z51 := Tryd.sizeOf109
  v51 := Tryd.zeroValue109
  t105 := Tryd.underlying107
  a105 := Tryd.isAgg107
  z105 := Tryd.sizeOf107
  v105 := Tryd.zeroValue107
  t119 := Tryd.underlying131
  a119 := Tryd.isAgg131
  z119 := Tryd.sizeOf131
  t138 := Tryd.underlying133
  a138 := Tryd.isAgg133
  z138 := Tryd.sizeOf133
  v138 := Tryd.zeroValue133
  t139 := Tryd.underlying134
  a139 := Tryd.isAgg134
  z139 := Tryd.sizeOf134
  v139 := Tryd.zeroValue134
  t146 := Tryd.underlying110
  a146 := Tryd.isAgg110
  z146 := Tryd.sizeOf110
  v146 := Tryd.zeroValue110
  g1 := by kernel_rfl
  g3 := by kernel_rfl
  g4 := by kernel_rfl }
open Go.RowKit Go.Lib in
/-- strings.Split. (LAID: no walk: one application.) -/
theorem Tryd.strings_Split (s sep : ByteArray) (m : Int) (w : World) (hs : s.size < 4294967281) (hm : w.cell? ⟨0, 0, none⟩ = some (.int .i64 m)) (h1 : 1 ≤ sep.size) :
    Calls Tryd.prog 56 #[.string s, .string sep] w fun e w' =>
      e = .returned (.slice (some ⟨w.heap.size, 0, none⟩) (Lib.countB s sep + 1) (Lib.countB s sep + 1)) ∧ w' = w.alloc (.cells ((Lib.splitB sep 0 (Lib.countB s sep) s).map Value.string).toArray 9) := Any.strings_Split Tryd.lays146 (by kernel_rfl) s sep m w hs hm h1
end Go.Proofs

namespace Go.Proofs.YtpalafegcndccaaDoor.X
open Go.RowKit Go.Proofs.YtpalafegcndccaaDoorW.PrintWords Go.Proofs.YtpalafegcndccaaDoorW.PrintLast Go.Proofs.YtpalafegcndccaaDoorW.PrintMore
attribute [local go_sem] Ej Eg Eu Ew D9 D8 Ei Eh
open Go.Proofs.YtpalafegcndccaaDoorG
def Hz.f (a0 : Int) : Option ByteArray := if -9223372036854775808 ≤ a0 ∧ a0 ≤ 9223372036854775807 then some ⟨(Lib.itoa a0).toArray⟩ else none
theorem Hz.calls (a0 : Int) (r : ByteArray) (w : World) (hG : F9 w) (h : Hz.f a0 = some r) :
    Calls Tryd.prog 62 #[.int .i64 a0] w fun e w' => e = .returned (.string r) ∧ Below w.heap.size w w' := by
  unfold Hz.f at h
  split at h
  · rename_i hc
    simp only [Option.some.injEq] at h
    subst h
    refine (Go.Proofs.Tryd.strconv_Itoa a0 hc.1 hc.2 w hG.tab).mono ?_
    rintro e w' ⟨rfl, k, os, rfl⟩
    exact ⟨rfl, Lib.below_grow _ w (Nat.le_refl _) k os⟩
  · cases h
end Go.Proofs.YtpalafegcndccaaDoor.X

namespace Go.Proofs.YtpalafegcndccaaDoor.X
open Go.RowKit Go.Proofs.YtpalafegcndccaaDoorW.PrintWords Go.Proofs.YtpalafegcndccaaDoorW.PrintLast Go.Proofs.YtpalafegcndccaaDoorW.PrintMore
attribute [local go_sem] Ej Eg Eu Ew D9 D8 Ei Eh
open Go.Proofs.YtpalafegcndccaaDoorG
def H5.f (a0 : Int) : Option (ByteArray) := (Hz.f a0).bind fun t161 => (some t161)
set_option maxHeartbeats 8000000 in
set_option maxRecDepth 100000 in
theorem H5.calls (a0 : Int) (r : ByteArray) (w : World) (hG : F9 w) (h : H5.f a0 = some r) :
    Calls Tryd.prog 52 #[.int .i64 a0] w fun e w' => e = .returned (.string r) ∧ Below w.heap.size w w' := by
  have HGL := Aa.mk hG
  clear hG
  have HB := Aa.mk (Below.refl w.heap.size w)
  have H : ((Hz.f a0).bind fun t161 => (some t161)) = some r := h
  clear h
  replace H := Option.bind_eq_some_iff.mp H
  obtain ⟨t161, A20, H⟩ := H
  replace H : (some t161) = some r := H
  have A2 := Aa.mk A20
  clear A20
  obtain rfl := Option.some.inj H
  go_enter Tryd.func52, Tryd.ntmps52
  go_wp2_with (first | ((with_reducible refine Bv (f := 62) rfl ?_); refine D5 (some 4) rfl rfl Tryd.func62 (by kernel_rfl) rfl #[.int .i64 a0] rfl (by (try simp only [List.map_toArray, List.map_cons, List.map_nil]); first | done | rfl | (simp only [List.length_drop, List.length_take]; rfl)) ?_; (with_reducible refine (Hz.calls a0 t161 _ ?side1 A2.out).mono ?_); (case side1 => exact F9.below HGL.out (by repeat (first | (with_reducible first | exact HB.out | apply Ae | apply Ac | apply Ad) | exact HB.out))); rintro e w3 ⟨rfl, hb⟩; refine ⟨_, rfl, ?_⟩; have n0_ := Aa.mk (Ap (by repeat (first | (with_reducible first | exact HB.out | apply Ae | apply Ac | apply Ad) | exact HB.out)) hb); clear HB; have HB := n0_; clear n0_; (try clear hb); (try clear hb2); (try clear hk); (try clear hi)))
  go_ret
  exact ⟨by first | rfl | (simp [Be, Bf] <;> rfl) | (simp [*, Be, Bf] <;> rfl), by repeat (first | (with_reducible first | exact HB.out | apply Ae | apply Ac | apply Ad) | exact HB.out)⟩
end Go.Proofs.YtpalafegcndccaaDoor.X

namespace Go.Proofs.YtpalafegcndccaaDoorOwn
open Go.RowKit Go.Proofs.YtpalafegcndccaaDoorW.PrintWords
theorem ite_some {α : Type} {p : Prop} [Decidable p] {a : Option α} {r : α} (h : (if p then a else none) = some r) : p ∧ a = some r := by
  by_cases c : p
  · rw [if_pos c] at h; exact ⟨c, h⟩
  · rw [if_neg c] at h; cases h
/-- Block g alone is written. -/
structure Only (w w' : World) (g : Nat) : Prop where
  os : w'.os = w.os
  tape : w'.tape = w.tape
  output : w'.output = w.output
  size : w'.heap.size = w.heap.size
  others : ∀ k, k ≠ g → w'.heap[k]? = w.heap[k]?
theorem Only.refl (w : World) (g : Nat) : Only w w g := ⟨rfl, rfl, rfl, rfl, fun _ _ => rfl⟩
theorem Only.set {w w' : World} {g : Nat} (h : Only w w' g) (j : Nat) (v : Value) : Only w (w'.setCell ⟨g, j, none⟩ v) g :=
  ⟨h.os, h.tape, h.output, by simp [World.setCell, h.size], fun k hk => (Below.heap_setCell w' ⟨g, j, none⟩ v k hk).trans (h.others k hk)⟩
theorem Only.below {w0 w w' : World} {g : Nat} (h : Only w w' g) (hB : Below w0.heap.size w0 w) (hg : w0.heap.size ≤ g) : Below w0.heap.size w0 w' :=
  ⟨h.os.trans hB.os, h.tape.trans hB.tape, h.output.trans hB.output, by rw [h.size]; exact hB.size, fun i hi => (h.others i (by omega)).trans (hB.block i hi)⟩
section
variable {α : Type} {d : Kd α} {e base g t : Nat} {ok : Nat → Prop} {w w' : World} {v : Value} {xs : List α} {cells : Array Value}
end
end Go.Proofs.YtpalafegcndccaaDoorOwn

namespace Go.Proofs.YtpalafegcndccaaDoor.X
open Go.RowKit Go.Proofs.YtpalafegcndccaaDoorW.PrintWords Go.Proofs.YtpalafegcndccaaDoorW.PrintLast Go.Proofs.YtpalafegcndccaaDoorW.PrintMore
attribute [local go_sem] Ej Eg Eu Ew D9 D8 Ei Eh
open Go.Proofs.YtpalafegcndccaaDoorG
set_option maxHeartbeats 1000000 in
set_option maxRecDepth 100000 in
theorem bd_used (b : Nat) (w : World) (h0 : w.cell? ⟨b, 0, none⟩ = some (.pointer (some ⟨b, 0, none⟩))) :
    Calls Tryd.prog 61 #[.pointer (some ⟨b, 0, none⟩)] w fun e w' => e = .returned (.tuple #[]) ∧ w' = w := by
  obtain ⟨j, hj, _⟩ := Option.map_eq_some_iff.1 (show (Tryd.prog.info? 82).map (·.size) = some 2 from by kernel_rfl)
  have hu82 := Tryd.underlying82
  have hu80 := Tryd.underlying80
  go_enter Tryd.func61, Tryd.ntmps61
  go_wp2
  rw [Lib.run_neq_ptr_same w _ Tryd.underlying80 hj]
  go_wp2
  go_end0
  exact ⟨rfl, rfl⟩
set_option maxHeartbeats 1000000 in
set_option maxRecDepth 100000 in
theorem bd_fresh (b : Nat) (w : World) (h0 : w.cell? ⟨b, 0, none⟩ = some (.pointer none)) (hsh : w.shape? b = some (82, 2)) (hfz : w.frozen? ⟨b, 0, none⟩ = false) :
    Calls Tryd.prog 61 #[.pointer (some ⟨b, 0, none⟩)] w fun e w' => e = .returned (.tuple #[]) ∧ w' = w.setCell ⟨b, 0, none⟩ (.pointer (some ⟨b, 0, none⟩)) := by
  obtain ⟨j, hj, hjs⟩ := Option.map_eq_some_iff.1 (show (Tryd.prog.info? 82).map (·.size) = some 2 from by kernel_rfl)
  have hu82 := Tryd.underlying82
  have hu80 := Tryd.underlying80
  have hu95 := Tryd.underlying95
  go_enter Tryd.func61, Tryd.ntmps61
  go_wp2
  rw [Lib.run_to_unsafe w ⟨b, 0, none⟩ Tryd.underlying80 Tryd.underlying95 hj (by rw [hjs]; decide) hsh (Nat.zero_lt_succ 1)]
  simp only [Result.andThen]
  rw [Oper.upon_value]
  go_wp2
  rw [run_callFunc_extern Tryd.func67 (by kernel_rfl) (by kernel_rfl) (by kernel_rfl) (e := Extern.AbiNoEscape.same) (by kernel_rfl)]
  rw [Lib.run_noEscape]
  simp only [Result.andThen]
  rw [Oper.upon_value]
  go_wp2
  rw [Lib.run_from_unsafe w ⟨b, 0, none⟩ Tryd.underlying95 Tryd.underlying80 hj hsh (by kernel_rfl)]
  simp only [Result.andThen]
  rw [Oper.upon_value]
  go_wp2
  go_end0
  exact ⟨rfl, rfl⟩
theorem bd_check (B b : Nat) (bs : List Value) (w : World) (h : Lib.IsBuilder 82 5 B b bs w) :
    Calls Tryd.prog 61 #[.pointer (some ⟨b, 0, none⟩)] w fun e w' => e = .returned (.tuple #[]) ∧ (Lib.BuilderAt 82 5 B b (.pointer (some ⟨b, 0, none⟩)) bs w' ∧ Below B w w') := by
  rcases h with h | h
  · refine (bd_fresh b w h.cell0 h.shape h.frozen0).mono ?_
    rintro e w' ⟨rfl, rfl⟩
    exact ⟨rfl, h.used _, (Below.refl B w).setCell (p := ⟨b, 0, none⟩) h.1 _⟩
  · refine (bd_used b w h.cell0).mono ?_
    rintro e w' ⟨rfl, rfl⟩
    exact ⟨rfl, h, Below.refl B _⟩
set_option maxHeartbeats 2000000 in
set_option maxRecDepth 100000 in
theorem bd_write (B b : Nat) (bs : List Value) (s : ByteArray) (w : World) (h : Lib.IsBuilder 82 5 B b bs w) (hlen : bs.length + s.size ≤ 140737488355328) (hBw : B ≤ w.heap.size) :
    Calls Tryd.prog 51 #[.pointer (some ⟨b, 0, none⟩), .string s] w fun e w' => e = .returned (.tuple #[.int .i64 s.size, .nilIface]) ∧ (Lib.BuilderAt 82 5 B b (.pointer (some ⟨b, 0, none⟩)) (bs ++ Lib.strCells s) w' ∧ Below B w w') := by
  obtain ⟨i0, hi, hz0, hz1, hz2⟩ := info_parts (show (Tryd.prog.info? 5).map (fun i => (i.zero, i.size, i.bytes)) = some (some (.int .u8 0), 1, 1) from by kernel_rfl)
  have hu82 := Tryd.underlying82
  have hu80 := Tryd.underlying80
  go_enter Tryd.func51, Tryd.ntmps51
  go_wp2_with (go_at_call 61; refine (bd_check B b bs _ h).mono ?_)
  rintro e w1 ⟨rfl, h1, hb1⟩
  obtain ⟨hB, v, hbk, hown, hne⟩ := h1
  have c0 : w1.cell? ⟨b, 0, none⟩ = some (.pointer (some ⟨b, 0, none⟩)) := by rw [Lib.cell_of_heap hbk]; rfl
  have c1 : w1.cell? ⟨b, 1, none⟩ = some v := by rw [Lib.cell_of_heap hbk]; rfl
  go_wp2_with (at_builtin; refine Lib.wpList_append_own_string _ rfl _ _ 34 9 rfl B 5 i0 Tryd.underlying34 Tryd.underlying9 hi hz0 hz1 hz2 _ _ _ rfl hown s rfl ?c3 ?c4 ?c5 ?_)
  case c3 => unfold maxLen; omega
  case c4 => omega
  case c5 => have := hb1.size; omega
  intro v' w2 hown' hgrow _
  have hlt : b < w1.heap.size := by
    rcases Nat.lt_or_ge b w1.heap.size with h' | h'
    · exact h'
    · simp [Array.getElem?_eq_none h'] at hbk
  have hb2 : w2.heap[b]? = some (.cells #[.pointer (some ⟨b, 0, none⟩), v] 82 (0, 0)) := by
    rw [hgrow.block b hlt (fun e => hne e.symm)]
    exact hbk
  have d0 : w2.cell? ⟨b, 0, none⟩ = some (.pointer (some ⟨b, 0, none⟩)) := by rw [Lib.cell_of_heap hb2]; rfl
  have d1 : w2.cell? ⟨b, 1, none⟩ = some v := by rw [Lib.cell_of_heap hb2]; rfl
  have f1 : w2.frozen? ⟨b, 1, none⟩ = false := Lib.frozen_of_heap hb2 1
  obtain ⟨ao, n', cap, rfl⟩ : ∃ ao n' cap, v' = .slice ao n' cap := by
    rcases hown'.2 with ⟨hv, _⟩ | ⟨g, cap, cur, hv, _⟩
    · exact ⟨_, _, _, hv⟩
    · exact ⟨_, _, _, hv⟩
  go_wp2
  go_ret2
  refine ⟨rfl, ?_, ?_⟩
  · exact Lib.BuilderAt.put (T := 82) (e := 5) hB hb2 (bs' := bs ++ Lib.strCells s) (by simpa [Lib.strCells_length] using hown') (by decide)
  · exact (hb1.grown hgrow (by have := hb1.size; omega) (fun k hk => (hown.lt k hk).1)).setCell (p := ⟨b, 1, none⟩) hB _
theorem ownsRow_on {B : Nat} {e : TypeId} {k : Nat} {v : Value} {n : Nat} {xs : List Value} {w w' : World} (h : w.ownsRow B e k v n xs) (hb : Below w.heap.size w w') : w'.ownsRow B e k v n xs := by
  refine ⟨h.1, ?_⟩
  rcases h.2 with h | ⟨g, cap, cur, hv, hbase, hg, hr⟩
  · exact .inl h
  · refine .inr ⟨g, cap, cur, hv, hbase, (hb.block g ?_).trans hg, hr⟩
    rcases Nat.lt_or_ge g w.heap.size with h' | h'
    · exact h'
    · simp [Array.getElem?_eq_none h'] at hg
theorem isB_below {T e B b : Nat} {bs : List Value} {w w' : World} (h : Lib.IsBuilder T e B b bs w) (hb : Below w.heap.size w w') : Lib.IsBuilder T e B b bs w' := by
  have key : ∀ p, Lib.BuilderAt T e B b p bs w → Lib.BuilderAt T e B b p bs w' := by
    intro p hp
    have hlt := hp.lt
    obtain ⟨hB, v, hk, ho, hn⟩ := hp
    exact ⟨hB, v, (hb.block b hlt).trans hk, ownsRow_on ho hb, hn⟩
  rcases h with h | h
  · exact .inl (key _ h)
  · exact .inr (key _ h)
theorem isB_drew {T e B b : Nat} {bs : List Value} {w : World} (h : Lib.IsBuilder T e B b bs w) : Lib.IsBuilder T e B b bs w.drew := h
theorem isB_box {T e B b : Nat} {w : World} (h : w.heap[b]? = some (.cells #[.pointer none, .slice none 0 0] T (0, 0))) (hB : B ≤ b) : Lib.IsBuilder T e B b (Lib.byteCells []) w := .inl ⟨hB, _, h, ⟨rfl, .inl ⟨rfl, rfl⟩⟩, by simp [Value.ownBlock]⟩
/-- The bytes of a text. -/
def hB_ (s : ByteArray) : List UInt8 := s.data.toList
theorem hB_append (s t : ByteArray) : hB_ (s ++ t) = hB_ s ++ hB_ t := by unfold hB_; simp
theorem isB_wrote {T e B b : Nat} {s t : ByteArray} {w : World} (h : Lib.BuilderAt T e B b (.pointer (some ⟨b, 0, none⟩)) (Lib.byteCells (hB_ s) ++ Lib.strCells t) w) : Lib.IsBuilder T e B b (Lib.byteCells (hB_ (s ++ t))) w := by
  have e : Lib.byteCells (hB_ (s ++ t)) = Lib.byteCells (hB_ s) ++ Lib.strCells t := by rw [hB_append]; simp [Lib.byteCells, Lib.strCells, hB_]
  rw [e]
  exact .inr h
theorem isB_only {T e B b g t : Nat} {bs : List Value} {cells : Array Value} {w w' : World} (h : Lib.IsBuilder T e B b bs w) (hb : w.heap[g]? = some (.cells cells t (0, 0))) (hn : b ≠ g) (ho : Go.Proofs.YtpalafegcndccaaDoorOwn.Only w w' g) (ht : e ≠ t := by decide) : Lib.IsBuilder T e B b bs w' := by
  have key : ∀ p, Lib.BuilderAt T e B b p bs w → Lib.BuilderAt T e B b p bs w' := by
    intro p hp
    obtain ⟨hB, v, hk, hw, hne⟩ := hp
    refine ⟨hB, v, (ho.others b hn).trans hk, ⟨hw.1, ?_⟩, hne⟩
    rcases hw.2 with h | ⟨g', cap, cur, hv, hbase, hg, hr⟩
    · exact .inl h
    · refine .inr ⟨g', cap, cur, hv, hbase, (ho.others g' ?_).trans hg, hr⟩
      intro e2
      rw [e2, hb] at hg
      injection hg with hg
      injection hg with _ h2
      exact ht h2.symm
  rcases h with h | h
  · exact .inl (key _ h)
  · exact .inr (key _ h)
def Dt.l0 : Nat → List (S40) → ByteArray → Int → Option ByteArray
  | 0, _, _, _ => none
  | k + 1, l, s, x => if x < (l.length : Int) then (if 0 ≤ x then ((H5.f ((Bc l x).f0)).bind fun t => (Ha.f).bind fun ws => if 0 ≤ ((Bc l x).f1) then (if ((Bc l x).f1) < (ws.length : Int) then (if s.size + (((t ++ (⟨#[32]⟩ : ByteArray)) ++ Fh ByteArray.empty ws ((Bc l x).f1)) ++ (⟨#[10]⟩ : ByteArray)).size ≤ 140737488355328 then Dt.l0 k l (s ++ (((t ++ (⟨#[32]⟩ : ByteArray)) ++ Fh ByteArray.empty ws ((Bc l x).f1)) ++ (⟨#[10]⟩ : ByteArray))) (wrap64 (x + 1)) else none) else none) else none) else none) else some s
def Dt.f (k : Nat) (l0 : List (S40)) : Option ByteArray := Dt.l0 k l0 ⟨#[]⟩ 0
theorem Dt.Et : ∀ k, ∀ y0 y1 y2, LeO (Dt.l0 k y0 y1 y2) (Dt.l0 (k + 1) y0 y1 y2)
  | 0 => fun _ _ _ r h => by simp [Dt.l0] at h
  | k + 1 => by
    have ih0 := Dt.Et k
    intro y0 y1 y2
    unfold Dt.l0
    repeat' first
      | (with_reducible exact ih0 _ _ _)
      | (with_reducible exact LeO.refl _)
      | (with_reducible exact LeO.none _)
      | (with_reducible refine LeO.ite ?_ ?_)
      | (with_reducible refine LeO.bind ?_ (fun _ => ?_))
      | exact ih0 _ _ _
theorem Dt.mono : ∀ a0 k, LeO (Dt.f k a0) (Dt.f (k + 1) a0) := fun a0 k => Dt.Et k a0 _ _
set_option maxHeartbeats 8000000 in
set_option maxRecDepth 100000 in
theorem Dt.calls (k : Nat) (A0 : Option Addr) (c0 : Nat) (l0 : List (S40)) (r : ByteArray) (w : World) (hr0 : Kd.C k40 w A0 l0.length l0) (hc0 : l0.length ≤ c0) (hG : F9 w) (h : Dt.f k l0 = some r) :
    Calls Tryd.prog 28 #[.slice A0 l0.length c0] w fun e w' => e = .returned (.string r) ∧ Below w.heap.size w w' := by
  have hu40 := Tryd.underlying40
  have HGL := Aa.mk hG
  have HR0 := Aa.mk hr0
  have HC0 := Aa.mk hc0
  clear hr0 hc0 hG
  have HB := Aa.mk (Below.refl w.heap.size w)
  have H' := Aa.mk h
  clear h
  unfold Dt.f at H'
  go_enter Tryd.func28, Tryd.ntmps28
  go_wp2_with ((with_reducible refine D7 (N := 3) rfl ?_); refine Es ?hg (N := 3) ?hd (cs := #[.pointer none, .slice none 0 0]) (t := 82) ?hr ?_; (case hd => rfl); (case hg => rfl); (case hr => first | (go_simp; done) | (go_simp; rfl)); intro gb hg w1 hbox hb; have HBD := Aa.mk (isB_box (e := 5) (B := w.heap.size) hbox (by rw [hg]; exact Aq HB.out)); have m_ := Aa.mk (Ap HB.out hb); clear HB; have HB := m_; clear m_; clear hb hbox hg)
  repeat (go_quiet (fail); try go_wp2)
  go_loopg [8] k (fun kq v8 w' => ∃ (s : ByteArray) (x : Int), v8 = .int .i64 x ∧ Aa (Dt.l0 kq l0 s x = some r) ∧ Aa (kq ≤ k) ∧ Aa (Lib.IsBuilder 82 5 w.heap.size gb (Lib.byteCells (hB_ s)) w') ∧ Aa (Below w.heap.size w w'))
  case atStart => exact ⟨⟨#[]⟩, 0, rfl, H', ⟨Nat.le_refl _⟩, HBD, HB⟩
  case round =>
    clear H' HB HBD
    obtain ⟨s, x, rfl, HA, HK1, HBD, HB⟩ := hrel
    cases gk with
    | zero => exact absurd HA.out (by simp [Dt.l0])
    | succ k1 =>
      have H := HA.out
      clear HA
      simp only [Dt.l0] at H
      by_cases c2 : x < (l0.length : Int)
      · rw [if_pos c2] at H
        have c2b0 : decide (x < (l0.length : Int)) = true := decide_eq_true c2
        obtain ⟨c3, H⟩ := Go.Proofs.YtpalafegcndccaaDoorOwn.ite_some H
        have c3b0 : decide (0 ≤ x) = true := decide_eq_true c3
        replace H := Option.bind_eq_some_iff.mp H
        obtain ⟨t, a_, H⟩ := H
        have A4 := Aa.mk a_
        clear a_
        replace H := Option.bind_eq_some_iff.mp H
        obtain ⟨ws, a_, H⟩ := H
        have A5 := Aa.mk a_
        clear a_
        obtain ⟨c6, H⟩ := Go.Proofs.YtpalafegcndccaaDoorOwn.ite_some H
        obtain ⟨c7, H⟩ := Go.Proofs.YtpalafegcndccaaDoorOwn.ite_some H
        obtain ⟨c8, H⟩ := Go.Proofs.YtpalafegcndccaaDoorOwn.ite_some H
        have H' := Aa.mk H
        have e32_ : (⟨#[32]⟩ : ByteArray).size = 1 := rfl
        have e10_ : (⟨#[10]⟩ : ByteArray).size = 1 := rfl
        have c9 := c8
        simp only [ByteArray.size_append, e32_, e10_] at c9
        have hz1_ : (9223372036854775807 < t.size + 1) = False := eq_false (by omega)
        have hz2_ : (9223372036854775807 < (t ++ (⟨#[32]⟩ : ByteArray)).size + (Fh ByteArray.empty ws (Bc l0 x).f1).size) = False := eq_false (by simp only [ByteArray.size_append, e32_]; omega)
        have hz3_ : (9223372036854775807 < ((t ++ (⟨#[32]⟩ : ByteArray)) ++ Fh ByteArray.empty ws (Bc l0 x).f1).size + 1) = False := eq_false (by simp only [ByteArray.size_append, e32_]; omega)
        have hz4_ : (9223372036854775807 < t.size + 1 + (Fh ByteArray.empty ws (Bc l0 x).f1).size) = False := eq_false (by omega)
        have hz5_ : (9223372036854775807 < t.size + 1 + (Fh ByteArray.empty ws (Bc l0 x).f1).size + 1) = False := eq_false (by omega)
        clear c9 e32_ e10_
        have C8 := Aa.mk c8
        have C67 := Aa.mk (And.intro c6 c7)
        clear H c8
        obtain ⟨ad, e_, hx0, hx1⟩ := F5 HR0.out x c3 c2
        cases e_
        replace hx0 := (HB.out.cell (World.block_lt_of_cell? w _ hx0)).trans hx0
        replace hx1 := (HB.out.cell (World.block_lt_of_cell? w _ hx1)).trans hx1
        replace c2 := eq_true c2
        replace c3 := eq_true c3
        replace c6 := eq_true c6
        replace c7 := eq_true c7
        generalize Bc l0 x = y at *
        go_upto_region 5 with (first | ((with_reducible refine D7 (N := 5) rfl ?_); refine Es ?hg (N := 5) ?hd (cs := #[.int .i64 0, .int .i64 0]) (t := 40) ?hr ?_; (case hd => rfl); (case hg => rfl); (case hr => first | (go_simp; done) | (go_simp; rfl)); intro ge hg w2 hbox hb; have GEe := Aa.mk (show w.heap.size ≤ ge by rw [hg]; exact Aq HB.out); have NBe := Aa.mk (show gb ≠ ge by rw [hg]; rcases HBD.out with h_ | h_ <;> exact Nat.ne_of_lt h_.lt); have BKe := Aa.mk hbox; have m_ := Aa.mk (isB_below HBD.out hb); clear HBD; have HBD := m_; clear m_; have m_ := Aa.mk (Ap HB.out hb); clear HB; have HB := m_; clear m_; replace hx0 := (hb.cell (World.block_lt_of_cell? _ _ hx0)).trans hx0; replace hx1 := (hb.cell (World.block_lt_of_cell? _ _ hx1)).trans hx1; clear hb hbox hg; have hz0 : w2.cell? ⟨ge, 0, none⟩ = some (.int .i64 0) := (Bd BKe.out 0).trans rfl; have hz1 : w2.cell? ⟨ge, 1, none⟩ = some (.int .i64 0) := (Bd BKe.out 1).trans rfl; have hf0 := Bl BKe.out 0; have hf1 := Bl BKe.out 1) | ((with_reducible refine gate_store (t := 40) (p := 5) rfl ?_); refine store_event (t := 40) (p := 5) (v := ?vo_e) (w1 := ((w2.setCell ⟨ge, 0, none⟩ (.int .i64 y.f0)).setCell ⟨ge, 1, none⟩ (.int .i64 y.f1))) ?hg ?ho ?hn ?hr ?_; (case ho => rfl); (case hg => rfl); (case hn => rfl); (case hr => first | (go_simp; done) | (go_simp; rfl)); intro w3 hw; have hO_ : Go.Proofs.YtpalafegcndccaaDoorOwn.Only w2 w3 ge := (by rw [hw]; exact ((Go.Proofs.YtpalafegcndccaaDoorOwn.Only.refl _ _).set 0 _).set 1 _); have hbx_ : w3.heap[ge]? = some (.cells #[.int .i64 y.f0, .int .i64 y.f1] 40 (0, 0)) := (by rw [hw]; refine Fv (cs := #[.int .i64 y.f0, .int .i64 0]) ?_ 1 _ rfl; refine Fv (cs := #[.int .i64 0, .int .i64 0]) ?_ 0 _ rfl; exact BKe.out); clear hw hz0 hz1 hf0 hf1 hx0 hx1; have m_ := Aa.mk (isB_only HBD.out BKe.out NBe.out hO_); clear HBD; have HBD := m_; clear m_; have m_ := Aa.mk (hO_.below HB.out GEe.out); clear HB; have HB := m_; clear m_; clear BKe; have BKe := Aa.mk hbx_; clear hbx_ hO_))
        have m_ := Aa.mk (Az BKe.out)
        clear BKe
        have BKe := m_
        clear m_
        have m_ := Aa.mk (Ad HB.out)
        clear HB
        have HB := m_
        clear m_
        have m_ := Aa.mk (isB_drew HBD.out)
        clear HBD
        have HBD := m_
        clear m_
        refine start_ (n := 12) (S := fun w' => w'.cell? ⟨ge, 0, none⟩ = some (.int .i64 y.f0) ∧ w'.cell? ⟨ge, 1, none⟩ = some (.int .i64 y.f1)) (ds := [8, 11]) #[false, false, false, false, false, false, false, false, false, false, false, false] (by kernel_rfl) rfl rfl ⟨(Bd BKe.out 0).trans rfl, (Bd BKe.out 1).trans rfl⟩ (fun hHeld => ?_)
        generalize w3.drew = w1 at BKe HB HBD hHeld ⊢
        refine Fq (i := 0) (N := some 12) (v := ?_) (a' := ?_) #[true, false, false, false, false, false, false, false, false, false, false, false] rfl rfl (by kernel_rfl) (fun _ _ _ h => h) (Or.inl ⟨by rfl, ?_⟩) ?_ ?_
        rotate_left
        · intro w'
          go_simp
          first | done | with_reducible rfl | (rw [if_neg (by omega)]; try with_reducible rfl)
        rotate_left
        · simp only [Act.put, List.setIfInBounds_toArray, List.set_cons_zero, List.set_cons_succ, Dh, Dp]
          rfl
        refine Fq (i := 5) (N := some 17) (v := ?_) (a' := ?_) #[true, false, false, false, false, true, false, false, false, false, false, false] rfl rfl (by kernel_rfl) (fun _ _ _ h => h) (Or.inl ⟨by rfl, ?_⟩) ?_ ?_
        rotate_left
        · intro w'
          go_simp
          first | done | with_reducible rfl | (rw [if_neg (by omega)]; try with_reducible rfl)
        rotate_left
        · simp only [Act.put, List.setIfInBounds_toArray, List.set_cons_zero, List.set_cons_succ, Dh, Dp]
          rfl
        refine take_ (i := 1) (N := some 13) (v := ?_) (a' := ?_) #[true, true, false, false, false, true, false, false, false, false, false, false] rfl rfl (by kernel_rfl) (fun _ _ _ h => h) (Or.inl ⟨by rfl, ?_⟩) hHeld ?_ ?_
        rotate_left
        · rintro w' ⟨s0, s1⟩
          go_simp
          first | done | with_reducible rfl | (rw [if_neg (by omega)]; try with_reducible rfl)
        rotate_left
        · simp only [Act.put, List.setIfInBounds_toArray, List.set_cons_zero, List.set_cons_succ, Dh, Dp]
          rfl
        refine take_ (i := 6) (N := some 18) (v := ?_) (a' := ?_) #[true, true, false, false, false, true, true, false, false, false, false, false] rfl rfl (by kernel_rfl) (fun _ _ _ h => h) (Or.inl ⟨by rfl, ?_⟩) hHeld ?_ ?_
        rotate_left
        · rintro w' ⟨s0, s1⟩
          go_simp
          first | done | with_reducible rfl | (rw [if_neg (by omega)]; try with_reducible rfl)
        rotate_left
        · simp only [Act.put, List.setIfInBounds_toArray, List.set_cons_zero, List.set_cons_succ, Dh, Dp]
          rfl
        refine one_ (i := 2) (N := some 14) #[true, true, true, false, false, true, true, false, false, false, false, false] rfl rfl (by kernel_rfl) (by decide) (fun K hK => ?_)
        refine goes_ Tryd.func52 (by kernel_rfl) rfl #[.int .i64 y.f0] (by rfl) rfl rfl (by simp only [List.map_toArray, List.map_cons, List.map_nil]; rfl) ?_
        with_reducible refine (H5.calls y.f0 t _ (F9.below HGL.out HB.out) A4.out).mono ?_
        rintro e w5 ⟨rfl, hb⟩
        refine ⟨_, rfl, ?_⟩
        have m_ := Aa.mk (isB_below HBD.out hb)
        clear HBD
        have HBD := m_
        clear m_
        have m_ := Aa.mk (Dv BKe.out hb)
        clear BKe
        have BKe := m_
        clear m_
        have m_ := Aa.mk (Ap HB.out hb)
        clear HB
        have HB := m_
        clear m_
        clear hb
        refine hK.out _ _ ⟨(Bd BKe.out 0).trans rfl, (Bd BKe.out 1).trans rfl⟩ (fun hHeld => ?_)
        clear hK K
        refine E5 (a' := ?_) ?_ ?_
        rotate_left
        · show Act.put _ (some 14) _ = _
          simp only [Act.put, List.setIfInBounds_toArray, List.set_cons_zero, List.set_cons_succ, Dh, Dp]
          rfl
        refine Fq (i := 3) (N := some 15) (v := ?_) (a' := ?_) #[true, true, true, true, false, true, true, false, false, false, false, false] rfl rfl (by kernel_rfl) (fun _ _ _ h => h) (Or.inl ⟨by rfl, ?_⟩) ?_ ?_
        rotate_left
        · intro w'
          go_simp
          first | done | with_reducible rfl | (rw [if_neg (by omega)]; try with_reducible rfl)
        rotate_left
        · simp only [Act.put, List.setIfInBounds_toArray, List.set_cons_zero, List.set_cons_succ, Dh, Dp]
          rfl
        refine one_ (i := 4) (N := some 16) #[true, true, true, true, true, true, true, false, false, false, false, false] rfl rfl (by kernel_rfl) (by decide) (fun K hK => ?_)
        refine goes_ Tryd.func35 (by kernel_rfl) rfl #[] (by rfl) rfl rfl (by (try simp only [List.map_toArray, List.map_cons, List.map_nil]); first | done | rfl) ?_
        with_reducible refine (Ha.calls ws _ A5.out).mono ?_
        rintro e w6 ⟨v0_, rfl, ho, hb⟩
        refine ⟨_, rfl, ?_⟩
        have m_ := Aa.mk (isB_below HBD.out hb)
        clear HBD
        have HBD := m_
        clear m_
        have m_ := Aa.mk (Dv BKe.out hb)
        clear BKe
        have BKe := m_
        clear m_
        have m_ := Aa.mk (Ap HB.out hb)
        clear HB
        have HB := m_
        clear m_
        obtain ⟨Aw, cw, ew_⟩ := Kd.Ef ho
        subst ew_
        have hC_ := (Kd.Ba ho).2.2
        obtain ⟨adw, eaw_, hxw⟩ := Kd.H8 hC_ y.f1 C67.out.1 C67.out.2
        cases eaw_
        clear hb ho hC_
        refine hK.out _ _ ⟨(Bd BKe.out 0).trans rfl, (Bd BKe.out 1).trans rfl⟩ (fun hHeld => ?_)
        clear hK K
        refine E5 (a' := ?_) ?_ ?_
        rotate_left
        · show Act.put _ (some 16) _ = _
          simp only [Act.put, List.setIfInBounds_toArray, List.set_cons_zero, List.set_cons_succ, Dh, Dp]
          rfl
        refine Fq (i := 7) (N := some 19) (v := ?_) (a' := ?_) #[true, true, true, true, true, true, true, true, false, false, false, false] rfl rfl (by kernel_rfl) (fun _ _ _ h => h) (Or.inl ⟨by rfl, ?_⟩) ?_ ?_
        rotate_left
        · intro w'
          go_simp
          first | done | with_reducible rfl | (rw [if_neg (by omega)]; try with_reducible rfl)
        rotate_left
        · simp only [Act.put, List.setIfInBounds_toArray, List.set_cons_zero, List.set_cons_succ, Dh, Dp]
          rfl
        refine last_ (i := 8) (N := some 20) #[true, true, true, true, true, true, true, true, true, false, false, false] rfl rfl (by kernel_rfl) (by decide) (fun K hK => ?_)
        refine Iq (w1 := ?_) (v := ?_) (by rfl) rfl ?_ ?_
        rotate_left 2
        · go_simp
          constructor
          · rfl
          · rfl
        refine hK.out _ _ ?_
        clear hK K
        refine E5 (a' := ?_) ?_ ?_
        rotate_left
        · show Act.put _ (some 20) _ = _
          simp only [Act.put, List.setIfInBounds_toArray, List.set_cons_zero, List.set_cons_succ, Dh, Dp]
          rfl
        refine Fq (i := 9) (N := some 21) (v := ?_) (a' := ?_) #[true, true, true, true, true, true, true, true, true, true, false, false] rfl rfl (by kernel_rfl) (fun _ _ _ h => h) (Or.inl ⟨by rfl, ?_⟩) ?_ ?_
        rotate_left
        · intro w'
          go_simp
          first | done | with_reducible rfl | (rw [if_neg (by omega)]; try with_reducible rfl)
        rotate_left
        · simp only [Act.put, List.setIfInBounds_toArray, List.set_cons_zero, List.set_cons_succ, Dh, Dp]
          rfl
        refine Fq (i := 10) (N := some 22) (v := ?_) (a' := ?_) #[true, true, true, true, true, true, true, true, true, true, true, false] rfl rfl (by kernel_rfl) (fun _ _ _ h => h) (Or.inl ⟨by rfl, ?_⟩) ?_ ?_
        rotate_left
        · intro w'
          go_simp
          first | done | with_reducible rfl | (rw [if_neg (by omega)]; try with_reducible rfl)
        rotate_left
        · simp only [Act.put, List.setIfInBounds_toArray, List.set_cons_zero, List.set_cons_succ, Dh, Dp]
          rfl
        refine last_ (i := 11) (N := some 23) #[true, true, true, true, true, true, true, true, true, true, true, true] rfl rfl (by kernel_rfl) (by decide) (fun K hK => ?_)
        refine goes_ Tryd.func51 (by kernel_rfl) rfl #[.pointer (some ⟨gb, 0, none⟩), .string (((t ++ (⟨#[32]⟩ : ByteArray)) ++ Fh ByteArray.empty ws y.f1) ++ (⟨#[10]⟩ : ByteArray))] (by rfl) rfl rfl (by simp only [List.map_toArray, List.map_cons, List.map_nil]; rfl) ?_
        with_reducible refine (bd_write w.heap.size gb (Lib.byteCells (hB_ s)) _ _ HBD.out (by have h_ := C8.out; have e_ : (hB_ s).length = s.size := Array.length_toList; rw [Lib.byteCells_length, e_]; exact h_) (Aq HB.out)).mono ?_
        rintro e w7 ⟨rfl, hbd, hb⟩
        refine ⟨_, rfl, ?_⟩
        clear HBD BKe
        have HBD := Aa.mk (isB_wrote hbd)
        have m_ := Aa.mk (HB.out.trans hb)
        clear HB
        have HB := m_
        clear m_
        clear hb hbd hxw
        refine hK.out _ _ ?_
        clear hK K
        refine E5 (a' := ?_) ?_ ?_
        rotate_left
        · show Act.put _ (some 23) _ = _
          simp only [Act.put, List.setIfInBounds_toArray, List.set_cons_zero, List.set_cons_succ, Dh, Dp]
          rfl
        refine done_ (by kernel_rfl) ?_
        try go_wp2
        go_roundg k1
        case measure => have := HK1.out; omega
        case rel => exact ⟨_, _, by first | rfl | (simp; done), H', ⟨by have := HK1.out; omega⟩, HBD, HB⟩
      · rw [if_neg c2] at H
        have c2b0 : decide (x < (l0.length : Int)) = false := decide_eq_false c2
        clear c2
        obtain rfl := Option.some.inj H
        go_wp2_with (go_at_call 53; refine (Go.Proofs.Tryd.Builder_String_any w.heap.size gb (hB_ s) _ HBD.out (Aq HB.out)).mono ?_; rintro e w9 ⟨rfl, hb⟩; have HB2 := Aa.mk (HB.out.trans hb); clear hb)
        go_ret
        exact ⟨rfl, HB2.out⟩
end Go.Proofs.YtpalafegcndccaaDoor.X

namespace Go.Proofs.YtpalafegcndccaaDoor.X
open Go.RowKit Go.Proofs.YtpalafegcndccaaDoorW.PrintWords Go.Proofs.YtpalafegcndccaaDoorW.PrintLast Go.Proofs.YtpalafegcndccaaDoorW.PrintMore
attribute [local go_sem] Ej Eg Eu Ew D9 D8 Ei Eh
open Go.Proofs.YtpalafegcndccaaDoorG
/-- The pieces of a text, cut at every place where the other text stands. -/
def strings_Split.f (a0 : ByteArray) (a1 : ByteArray) : Option (List ByteArray) := if a0.size < 4294967281 ∧ 1 ≤ a1.size ∧ (Lib.splitB a1 0 (Lib.countB a0 a1) a0).length = Lib.countB a0 a1 + 1 ∧ Lib.countB a0 a1 ≤ 4294967281 then some (Lib.splitB a1 0 (Lib.countB a0 a1) a0) else none
theorem strings_Split.calls (a0 : ByteArray) (a1 : ByteArray) (r : List ByteArray) (w : World) (hG : F9 w) (h : strings_Split.f a0 a1 = some r) :
    Calls Tryd.prog 56 #[.string a0, .string a1] w fun e w' => ∃ v0_ : Value, e = .returned (v0_) ∧ Kd.R Kd.string 9 w' w.heap.size (fun _ => True) v0_ r ∧ Below w.heap.size w w' := by
  unfold strings_Split.f at h
  split at h
  · rename_i hc
    simp only [Option.some.injEq] at h
    subst h
    obtain ⟨m, hm⟩ := hG.max
    obtain ⟨h1, h2, h3, h4⟩ := hc
    refine (Go.Proofs.Tryd.strings_Split a0 a1 m w h1 hm h2).mono ?_
    rintro e w' ⟨rfl, rfl⟩
    rw [← h3]
    exact ⟨_, rfl, Kd.R_of_own (enc := Value.string) (own_lit_of w w.heap.size 9 _ (Nat.le_refl _) (by omega)) (fun _ _ => trivial), Ae (Below.refl _ _) _⟩
  · cases h
end Go.Proofs.YtpalafegcndccaaDoor.X

namespace Go.Proofs.YtpalafegcndccaaDoor.X
open Go.RowKit Go.Proofs.YtpalafegcndccaaDoorW.PrintWords Go.Proofs.YtpalafegcndccaaDoorW.PrintLast Go.Proofs.YtpalafegcndccaaDoorW.PrintMore
attribute [local go_sem] Ej Eg Eu Ew D9 D8 Ei Eh
open Go.Proofs.YtpalafegcndccaaDoorG
def Hu.f (a0 : ByteArray) : Option (List ByteArray × Bool) := if a0.toList = [] then some ([], true) else (strings_Split.f a0 (⟨#[10]⟩ : ByteArray)).bind fun ls => if 0 < ls.length ∧ ls.length ≤ 4294967299 then some (ls.take (ls.length - 1), ((Fh ByteArray.empty ls ((ls.length - 1 : Nat) : Int)).toList == ([] : List UInt8))) else none
theorem cutLast {ls : List ByteArray} (h : 0 < ls.length ∧ ls.length ≤ 4294967299) : ∃ p : Int, p = ((ls.length - 1 : Nat) : Int) ∧ wrap64 ((ls.length : Int) - 1) = p ∧ 0 ≤ p ∧ p < (ls.length : Int) ∧ p.toNat = ls.length - 1 ∧ p.toNat ≤ ls.length := by
  refine ⟨((ls.length - 1 : Nat) : Int), rfl, ?_, by omega, by omega, by omega, by omega⟩
  unfold wrap64
  omega
set_option maxHeartbeats 8000000 in
set_option maxRecDepth 100000 in
theorem Hu.calls (a0 : ByteArray) (r1 : List ByteArray) (r2 : Bool) (w : World) (hG : F9 w) (h : Hu.f a0 = some (r1, r2)) :
    Calls Tryd.prog 32 #[.string a0] w fun e w' => ∃ v0_ : Value, e = .returned (.tuple #[v0_, .bool r2]) ∧ Kd.R Kd.string 9 w' w.heap.size (fun _ => True) v0_ r1 ∧ Below w.heap.size w w' := by
  have HGL := Aa.mk hG
  clear hG
  have HB := Aa.mk (Below.refl w.heap.size w)
  unfold Hu.f at h
  by_cases c : a0.toList = []
  · rw [if_pos c] at h
    simp only [Option.some.injEq, Prod.mk.injEq] at h
    obtain ⟨rfl, rfl⟩ := h
    have cb0 : (a0.toList == ([] : List UInt8)) = true := beq_iff_eq.mpr c
    clear c
    go_enter Tryd.func32, Tryd.ntmps32
    go_wp2
    repeat (go_quiet (fail); try go_wp2)
    go_ret2
    exact ⟨_, by first | rfl | (simp; done) | (simp [*]; done), Kd.R_nil _ _ _ _ _, by repeat (first | (with_reducible first | exact HB.out | apply Ae | apply Ac | apply Ad) | exact HB.out)⟩
  · rw [if_neg c] at h
    have cb0 : (a0.toList == ([] : List UInt8)) = false := beq_eq_false_iff_ne.mpr c
    clear c
    replace h := Option.bind_eq_some_iff.mp h
    obtain ⟨ls, a_, h⟩ := h
    have A1 := Aa.mk a_
    clear a_
    obtain ⟨cz, h⟩ := Go.Proofs.YtpalafegcndccaaDoorOwn.ite_some h
    have HZ := Aa.mk cz
    simp only [Option.some.injEq, Prod.mk.injEq] at h
    obtain ⟨rfl, rfl⟩ := h
    obtain ⟨p, hp, hw1, p0, p1, p2, p3⟩ := cutLast cz
    clear cz
    rw [← hp, ← p2]
    clear hp p2
    have hw1w := (Dh _).trans hw1
    have q0 := eq_true p0
    have q1 := eq_true p1
    have P3 := Aa.mk p3
    clear p3
    go_enter Tryd.func32, Tryd.ntmps32
    go_upto_region 5 with ((with_reducible refine Bv (f := 56) rfl ?_); (try (refine Gq (by rfl) ?_; dsimp only)); refine D5 (some 9) rfl rfl Tryd.func56 (by kernel_rfl) rfl #[.string a0, .string (⟨#[10]⟩ : ByteArray)] rfl (by (try simp only [List.map_toArray, List.map_cons, List.map_nil]); first | done | rfl | (simp only [List.length_drop, List.length_take]; rfl)) ?_; (with_reducible refine (strings_Split.calls a0 (⟨#[10]⟩ : ByteArray) ls _ (F9.below HGL.out HB.out) A1.out).mono ?_); rintro e w3 ⟨v9, rfl, ho, hb⟩; refine ⟨_, rfl, ?_⟩; obtain ⟨Ao, co, ev_⟩ := Kd.Ef ho; subst ev_; have HO := Aa.mk (Kd.Du ho (Aq HB.out)); have n1_ := Aa.mk (Ap HB.out hb); clear HB; have HB := n1_; clear n1_ hb ho)
    have HCo := Aa.mk (Kd.Ba HO.out).2.1
    obtain ⟨ad, ea, hx⟩ := Kd.H8 (Kd.Ba HO.out).2.2 p p0 p1
    cases ea
    obtain ⟨i0_, hi0_, _, _, _⟩ := info_parts info9
    have hcut := cut_to (P := Tryd.prog) 53 9 .i64 Tryd.underlying53 hi0_ (some ad) ls.length co p p0 (Int.le_of_lt p1) HCo.out
    repeat (go_quiet (fail); try go_wp2)
    go_ret2
    exact ⟨_, by first | rfl | (simp; rfl), by (with_reducible repeat (first | apply Kd.Ah | apply Kd.Ai | apply Kd.Ak)); exact Kd.R_take HO.out P3.out, by repeat (first | (with_reducible first | exact HB.out | apply Ae | apply Ac | apply Ad) | exact HB.out)⟩
end Go.Proofs.YtpalafegcndccaaDoor.X

namespace Go.Proofs.YtpalafegcndccaaDoor.X
open Go.RowKit Go.Proofs.YtpalafegcndccaaDoorW.PrintWords Go.Proofs.YtpalafegcndccaaDoorW.PrintLast Go.Proofs.YtpalafegcndccaaDoorW.PrintMore
attribute [local go_sem] Ej Eg Eu Ew D9 D8 Ei Eh
open Go.Proofs.YtpalafegcndccaaDoorG
/-- Of any text. -/
def stringslite_Index.f (a0 : ByteArray) (a1 : ByteArray) : Option Int := if a0.size < 4294967281 then some (Lib.index a0.data.toList a1.data.toList) else none
theorem stringslite_Index.calls (a0 : ByteArray) (a1 : ByteArray) (r : Int) (w : World) (hG : F9 w) (h : stringslite_Index.f a0 a1 = some r) :
    Calls Tryd.prog 64 #[.string a0, .string a1] w fun e w' => e = .returned (.int .i64 r) ∧ Below w.heap.size w w' := by
  unfold stringslite_Index.f at h
  split at h
  · rename_i hc
    simp only [Option.some.injEq] at h
    subst h
    obtain ⟨m, hm⟩ := hG.max
    refine (Go.Proofs.Tryd.stringslite_Index a0 a1 m w hc hm).mono ?_
    rintro e w' ⟨rfl, rfl⟩
    exact ⟨rfl, Below.refl _ _⟩
  · cases h
end Go.Proofs.YtpalafegcndccaaDoor.X

namespace Go.Proofs.YtpalafegcndccaaDoor.X
open Go.RowKit Go.Proofs.YtpalafegcndccaaDoorW.PrintWords Go.Proofs.YtpalafegcndccaaDoorW.PrintLast Go.Proofs.YtpalafegcndccaaDoorW.PrintMore
attribute [local go_sem] Ej Eg Eu Ew D9 D8 Ei Eh
open Go.Proofs.YtpalafegcndccaaDoorG
def stringslite_Cut.f (a0 : ByteArray) (a1 : ByteArray) : Option (ByteArray × ByteArray × Bool) := (stringslite_Index.f a0 a1).bind fun t233 => (if t233 ≥ 0 then (if 0 ≤ t233 then (if t233 ≤ (a0.size : Int) then (if 0 ≤ (wrap64 (t233 + (a1.size : Int))) then (if (wrap64 (t233 + (a1.size : Int))) ≤ (a0.size : Int) then (some (a0.extract 0 (t233 : Int).toNat, a0.extract ((wrap64 (t233 + (a1.size : Int))) : Int).toNat a0.size, true)) else (none)) else (none)) else (none)) else (none)) else (some (a0, (⟨#[]⟩ : ByteArray), false)))
set_option maxHeartbeats 8000000 in
set_option maxRecDepth 100000 in
theorem stringslite_Cut.calls (a0 : ByteArray) (a1 : ByteArray) (r1 : ByteArray) (r2 : ByteArray) (r3 : Bool) (w : World) (hG : F9 w) (h : stringslite_Cut.f a0 a1 = some (r1, r2, r3)) :
    Calls Tryd.prog 57 #[.string a0, .string a1] w fun e w' => e = .returned (.tuple #[.string r1, .string r2, .bool r3]) ∧ Below w.heap.size w w' := by
  have HGL := Aa.mk hG
  clear hG
  have HB := Aa.mk (Below.refl w.heap.size w)
  have H : ((stringslite_Index.f a0 a1).bind fun t233 => (if t233 ≥ 0 then (if 0 ≤ t233 then (if t233 ≤ (a0.size : Int) then (if 0 ≤ (wrap64 (t233 + (a1.size : Int))) then (if (wrap64 (t233 + (a1.size : Int))) ≤ (a0.size : Int) then (some (a0.extract 0 (t233 : Int).toNat, a0.extract ((wrap64 (t233 + (a1.size : Int))) : Int).toNat a0.size, true)) else (none)) else (none)) else (none)) else (none)) else (some (a0, (⟨#[]⟩ : ByteArray), false)))) = some (r1, r2, r3) := h
  clear h
  replace H := Option.bind_eq_some_iff.mp H
  obtain ⟨t233, A30, H⟩ := H
  replace H : (if t233 ≥ 0 then (if 0 ≤ t233 then (if t233 ≤ (a0.size : Int) then (if 0 ≤ (wrap64 (t233 + (a1.size : Int))) then (if (wrap64 (t233 + (a1.size : Int))) ≤ (a0.size : Int) then (some (a0.extract 0 (t233 : Int).toNat, a0.extract ((wrap64 (t233 + (a1.size : Int))) : Int).toNat a0.size, true)) else (none)) else (none)) else (none)) else (none)) else (some (a0, (⟨#[]⟩ : ByteArray), false))) = some (r1, r2, r3) := H
  have A3 := Aa.mk A30
  clear A30
  by_cases c4 : t233 ≥ 0
  · rw [if_pos c4] at H
    have c4b0 : decide (0 ≤ t233) = true := decide_eq_true c4
    clear c4
    by_cases c5 : 0 ≤ t233
    · rw [if_pos c5] at H
      have c5b0 := eq_true c5
      have c5b1 : decide (0 ≤ t233) = true := decide_eq_true c5
      clear c5
      by_cases c6 : t233 ≤ (a0.size : Int)
      · rw [if_pos c6] at H
        have c6b0 := eq_true c6
        have c6b1 : decide (t233 ≤ (a0.size : Int)) = true := decide_eq_true c6
        clear c6
        obtain ⟨ji7, hji7⟩ : ∃ j_ : Int, (wrap64 (t233 + (a1.size : Int))) = j_ := ⟨_, rfl⟩
        replace H : (if 0 ≤ (ji7) then (if (ji7) ≤ (a0.size : Int) then (some (a0.extract 0 (t233 : Int).toNat, a0.extract ((ji7) : Int).toNat a0.size, true)) else (none)) else (none)) = some (r1, r2, r3) := by first | (rw [hji7] at H; exact H) | (simp only [hji7] at H ⊢; exact H)
        (try rw [hji7] at A3)
        have hji7w : (IntKind.i64.wrap (t233 + (a1.size : Int))) = ji7 := (Dh _).trans hji7
        by_cases c8 : 0 ≤ (ji7)
        · rw [if_pos c8] at H
          have c8b0 := eq_true c8
          have c8b1 : decide (0 ≤ (ji7)) = true := decide_eq_true c8
          clear c8
          by_cases c9 : (ji7) ≤ (a0.size : Int)
          · rw [if_pos c9] at H
            have c9b0 := eq_true c9
            have c9b1 : decide ((ji7) ≤ (a0.size : Int)) = true := decide_eq_true c9
            clear c9
            simp only [Option.some.injEq, Prod.mk.injEq] at H
            obtain ⟨rfl, rfl, rfl⟩ := H
            go_enter Tryd.func57, Tryd.ntmps57
            go_wp2_with (first | (go_at_call 64; (with_reducible refine (stringslite_Index.calls a0 a1 t233 _ ?side1 A3.out).mono ?_); (case side1 => exact F9.below HGL.out (by repeat (first | (with_reducible first | exact HB.out | apply Ae | apply Ac | apply Ad) | exact HB.out))); rintro e w10 ⟨rfl, hb⟩; have n0_ := Aa.mk (Ap (by repeat (first | (with_reducible first | exact HB.out | apply Ae | apply Ac | apply Ad) | exact HB.out)) hb); clear HB; have HB := n0_; clear n0_; (try clear hb); (try clear hb2); (try clear hk); (try clear hi)))
            repeat (go_quiet (first | (go_at_call 64; (with_reducible refine (stringslite_Index.calls a0 a1 t233 _ ?side1 A3.out).mono ?_); (case side1 => exact F9.below HGL.out (by repeat (first | (with_reducible first | exact HB.out | apply Ae | apply Ac | apply Ad) | exact HB.out))); rintro e w10 ⟨rfl, hb⟩; have n0_ := Aa.mk (Ap (by repeat (first | (with_reducible first | exact HB.out | apply Ae | apply Ac | apply Ad) | exact HB.out)) hb); clear HB; have HB := n0_; clear n0_; (try clear hb); (try clear hb2); (try clear hk); (try clear hi))); try go_wp2_with (first | (go_at_call 64; (with_reducible refine (stringslite_Index.calls a0 a1 t233 _ ?side1 A3.out).mono ?_); (case side1 => exact F9.below HGL.out (by repeat (first | (with_reducible first | exact HB.out | apply Ae | apply Ac | apply Ad) | exact HB.out))); rintro e w10 ⟨rfl, hb⟩; have n0_ := Aa.mk (Ap (by repeat (first | (with_reducible first | exact HB.out | apply Ae | apply Ac | apply Ad) | exact HB.out)) hb); clear HB; have HB := n0_; clear n0_; (try clear hb); (try clear hb2); (try clear hk); (try clear hi))))
            go_ret3
            exact ⟨by first | rfl | (simp [Be, Bf] <;> rfl) | (simp only [← hji7]; first | rfl | (simp [Be, Bf] <;> rfl)) | (simp [*, Be, Bf] <;> rfl), by repeat (first | (with_reducible first | exact HB.out | apply Ae | apply Ac | apply Ad) | exact HB.out)⟩
          · rw [if_neg c9] at H
            exact absurd H (by simp)
        · rw [if_neg c8] at H
          exact absurd H (by simp)
      · rw [if_neg c6] at H
        exact absurd H (by simp)
    · rw [if_neg c5] at H
      exact absurd H (by simp)
  · rw [if_neg c4] at H
    have c4b0 : decide (0 ≤ t233) = false := decide_eq_false c4
    clear c4
    simp only [Option.some.injEq, Prod.mk.injEq] at H
    obtain ⟨rfl, rfl, rfl⟩ := H
    go_enter Tryd.func57, Tryd.ntmps57
    go_wp2_with (first | (go_at_call 64; (with_reducible refine (stringslite_Index.calls a0 a1 t233 _ ?side1 A3.out).mono ?_); (case side1 => exact F9.below HGL.out (by repeat (first | (with_reducible first | exact HB.out | apply Ae | apply Ac | apply Ad) | exact HB.out))); rintro e w11 ⟨rfl, hb⟩; have n0_ := Aa.mk (Ap (by repeat (first | (with_reducible first | exact HB.out | apply Ae | apply Ac | apply Ad) | exact HB.out)) hb); clear HB; have HB := n0_; clear n0_; (try clear hb); (try clear hb2); (try clear hk); (try clear hi)))
    repeat (go_quiet (first | (go_at_call 64; (with_reducible refine (stringslite_Index.calls a0 a1 t233 _ ?side1 A3.out).mono ?_); (case side1 => exact F9.below HGL.out (by repeat (first | (with_reducible first | exact HB.out | apply Ae | apply Ac | apply Ad) | exact HB.out))); rintro e w11 ⟨rfl, hb⟩; have n0_ := Aa.mk (Ap (by repeat (first | (with_reducible first | exact HB.out | apply Ae | apply Ac | apply Ad) | exact HB.out)) hb); clear HB; have HB := n0_; clear n0_; (try clear hb); (try clear hb2); (try clear hk); (try clear hi))); try go_wp2_with (first | (go_at_call 64; (with_reducible refine (stringslite_Index.calls a0 a1 t233 _ ?side1 A3.out).mono ?_); (case side1 => exact F9.below HGL.out (by repeat (first | (with_reducible first | exact HB.out | apply Ae | apply Ac | apply Ad) | exact HB.out))); rintro e w11 ⟨rfl, hb⟩; have n0_ := Aa.mk (Ap (by repeat (first | (with_reducible first | exact HB.out | apply Ae | apply Ac | apply Ad) | exact HB.out)) hb); clear HB; have HB := n0_; clear n0_; (try clear hb); (try clear hb2); (try clear hk); (try clear hi))))
    go_ret3
    exact ⟨by first | rfl | (simp [Be, Bf] <;> rfl) | (simp [*, Be, Bf] <;> rfl), by repeat (first | (with_reducible first | exact HB.out | apply Ae | apply Ac | apply Ad) | exact HB.out)⟩
end Go.Proofs.YtpalafegcndccaaDoor.X

namespace Go.Proofs.YtpalafegcndccaaDoor.X
open Go.RowKit Go.Proofs.YtpalafegcndccaaDoorW.PrintWords Go.Proofs.YtpalafegcndccaaDoorW.PrintLast Go.Proofs.YtpalafegcndccaaDoorW.PrintMore
attribute [local go_sem] Ej Eg Eu Ew D9 D8 Ei Eh
open Go.Proofs.YtpalafegcndccaaDoorG
def strings_Cut.f (a0 : ByteArray) (a1 : ByteArray) : Option (ByteArray × ByteArray × Bool) := (stringslite_Cut.f a0 a1).bind fun bt234 => (some (bt234.1, bt234.2.1, bt234.2.2))
set_option maxHeartbeats 8000000 in
set_option maxRecDepth 100000 in
theorem strings_Cut.calls (a0 : ByteArray) (a1 : ByteArray) (r1 : ByteArray) (r2 : ByteArray) (r3 : Bool) (w : World) (hG : F9 w) (h : strings_Cut.f a0 a1 = some (r1, r2, r3)) :
    Calls Tryd.prog 33 #[.string a0, .string a1] w fun e w' => e = .returned (.tuple #[.string r1, .string r2, .bool r3]) ∧ Below w.heap.size w w' := by
  have HGL := Aa.mk hG
  clear hG
  have HB := Aa.mk (Below.refl w.heap.size w)
  have H : ((stringslite_Cut.f a0 a1).bind fun bt234 => (some (bt234.1, bt234.2.1, bt234.2.2))) = some (r1, r2, r3) := h
  clear h
  replace H := Option.bind_eq_some_iff.mp H
  obtain ⟨⟨t234, t235, t236⟩, A30, H⟩ := H
  replace H : (some (t234, t235, t236)) = some (r1, r2, r3) := H
  have A3 := Aa.mk A30
  clear A30
  simp only [Option.some.injEq, Prod.mk.injEq] at H
  obtain ⟨rfl, rfl, rfl⟩ := H
  go_enter Tryd.func33, Tryd.ntmps33
  go_wp2_with (first | ((with_reducible refine Bv (f := 57) rfl ?_); refine D5 (some 9) rfl rfl Tryd.func57 (by kernel_rfl) rfl #[.string a0, .string a1] rfl (by (try simp only [List.map_toArray, List.map_cons, List.map_nil]); first | done | rfl | (simp only [List.length_drop, List.length_take]; rfl)) ?_; (with_reducible refine (stringslite_Cut.calls a0 a1 t234 t235 t236 _ ?side1 A3.out).mono ?_); (case side1 => exact F9.below HGL.out (by repeat (first | (with_reducible first | exact HB.out | apply Ae | apply Ac | apply Ad) | exact HB.out))); rintro e w4 ⟨rfl, hb⟩; refine ⟨_, rfl, ?_⟩; have n0_ := Aa.mk (Ap (by repeat (first | (with_reducible first | exact HB.out | apply Ae | apply Ac | apply Ad) | exact HB.out)) hb); clear HB; have HB := n0_; clear n0_; (try clear hb); (try clear hb2); (try clear hk); (try clear hi)))
  go_ret3
  exact ⟨by first | rfl | (simp [Be, Bf] <;> rfl) | (simp [*, Be, Bf] <;> rfl), by repeat (first | (with_reducible first | exact HB.out | apply Ae | apply Ac | apply Ad) | exact HB.out)⟩
end Go.Proofs.YtpalafegcndccaaDoor.X

namespace Go.Proofs.YtpalafegcndccaaDoor.X
open Go.RowKit Go.Proofs.YtpalafegcndccaaDoorW.PrintWords Go.Proofs.YtpalafegcndccaaDoorW.PrintLast Go.Proofs.YtpalafegcndccaaDoorW.PrintMore
attribute [local go_sem] Ej Eg Eu Ew D9 D8 Ei Eh
open Go.Proofs.YtpalafegcndccaaDoorG
def Cc.l0 : Nat → List ByteArray → ByteArray → Int → Int → Option (Int)
  | 0, _, _, _, _ => none
  | k + 1, x0, x1, x7, x8 => if x8 < x7 then (if 0 ≤ x8 then (if x8 < (x0.length : Int) then (if x1.toList = (Fh ByteArray.empty x0 x8).toList then (some x8) else (Cc.l0 k x0 x1 x7 (wrap64 (x8 + 1)))) else (none)) else (none)) else (some (-1))
def Cc.f (k : Nat) (l0 : List ByteArray) (a1 : ByteArray) : Option (Int) := Cc.l0 k l0 a1 (l0.length : Int) 0
theorem Cc.Et : ∀ k, (∀ y0 y1 y2 y3, LeO (Cc.l0 k y0 y1 y2 y3) (Cc.l0 (k + 1) y0 y1 y2 y3))
  | 0 => fun _ _ _ _ r h => by simp [Cc.l0] at h
  | k + 1 => by
    have ih0 := Cc.Et k
    · intro y0 y1 y2 y3
      unfold Cc.l0
      repeat' first
      | (with_reducible exact ih0 _ _ _ _)
      | (with_reducible exact LeO.refl _)
      | (with_reducible exact LeO.none _)
      | (with_reducible refine LeO.ite ?_ ?_)
      | (with_reducible refine LeO.bind ?_ (fun _ => ?_))
      | exact ih0 _ _ _ _
      | exact LeO.none _
      | refine LeO.ite ?_ ?_
      | refine LeO.bind ?_ (fun _ => ?_)
theorem Cc.mono : ∀ a0 a1 k, LeO (Cc.f k a0 a1) (Cc.f (k + 1) a0 a1) := by
  intro a0 a1 k
  have ih0 := Cc.Et k
  unfold Cc.f
  repeat' first
      | (with_reducible exact ih0 _ _ _ _)
      | (with_reducible exact LeO.refl _)
      | (with_reducible exact LeO.none _)
      | (with_reducible refine LeO.ite ?_ ?_)
      | (with_reducible refine LeO.bind ?_ (fun _ => ?_))
      | exact ih0 _ _ _ _
      | exact LeO.none _
      | refine LeO.ite ?_ ?_
      | refine LeO.bind ?_ (fun _ => ?_)
set_option maxHeartbeats 8000000 in
set_option maxRecDepth 100000 in
theorem Cc.calls (k : Nat) (A0 : Option Addr) (c0 : Nat) (l0 : List ByteArray) (a1 : ByteArray) (r : Int) (w : World) (hr0 : Kd.C Kd.string w A0 l0.length l0) (hc0 : l0.length ≤ c0) (h : Cc.f k l0 a1 = some r) :
    Calls Tryd.prog 34 #[.slice A0 l0.length c0, .string a1] w fun e w' => e = .returned (.int .i64 r) ∧ Cj w w' := by
  have HR0 := Aa.mk hr0
  have HC0 := Aa.mk hc0
  clear hr0 hc0
  have H : (Cc.l0 k l0 a1 (l0.length : Int) 0) = some r := h
  clear h
  have H' := Aa.mk H
  clear H
  go_enter Tryd.func34, Tryd.ntmps34
  go_wp2
  go_loopg [8] k (fun kq v8 w' => ∃ (x8_1 : Int), v8 = .int .i64 x8_1 ∧ Aa (Cc.l0 kq l0 a1 (l0.length : Int) x8_1 = some r) ∧ Aa (kq ≤ k) ∧ Cj w w')
  case atStart => exact ⟨(0), (by first | rfl | (simp; done) | (simp [*]; done)), H', ⟨Nat.le_refl _⟩, by repeat (first | exact Cj.refl _ | apply Cj.step)⟩
  case round =>
    clear H'
    try clear p2
    obtain ⟨x8_1, rfl, HA, HK1, ⟨m1, rfl⟩⟩ := hrel
    cases gk with
    | zero => exact absurd HA.out (by simp [Cc.l0])
    | succ k1 =>
      have H := HA.out
      clear HA
      simp only [Cc.l0] at H
      by_cases c3 : x8_1 < (l0.length : Int)
      · rw [if_pos c3] at H
        have c3b0 : decide (x8_1 < (l0.length : Int)) = true := decide_eq_true c3
        clear c3
        by_cases c4 : 0 ≤ x8_1
        · rw [if_pos c4] at H
          have c4b0 : decide (0 ≤ x8_1) = true := decide_eq_true c4
          clear c4
          by_cases c5 : x8_1 < (l0.length : Int)
          · rw [if_pos c5] at H
            have c5b0 : decide (x8_1 < (l0.length : Int)) = true := decide_eq_true c5
            clear c5
            by_cases c6 : a1.toList = (Fh ByteArray.empty l0 x8_1).toList
            · rw [if_pos c6] at H
              have c6b0 : (a1.toList == (Fh ByteArray.empty l0 x8_1).toList) = true := beq_iff_eq.mpr c6
              have c6b1 : (a1.toList != (Fh ByteArray.empty l0 x8_1).toList) = false := bne_eq_false_iff_eq.mpr c6
              clear c6
              obtain rfl := Option.some.inj H
              have p237 : 0 ≤ (x8_1 : Int) := of_decide_eq_true (by first | (with_reducible assumption) | assumption)
              have q237 : x8_1 < (l0.length : Int) := of_decide_eq_true (by first | (with_reducible assumption) | assumption)
              obtain ⟨ad237, e237, hx237_0⟩ := Kd.H8 HR0.out x8_1 p237 q237
              cases e237
              replace p237 := eq_true p237
              replace q237 := eq_true q237
              go_wp2
              go_ret
              exact ⟨by first | rfl | (simp; done) | (simp [*]; done), by repeat (first | exact Cj.refl _ | apply Cj.step)⟩
            · rw [if_neg c6] at H
              have c6b0 : (a1.toList == (Fh ByteArray.empty l0 x8_1).toList) = false := beq_eq_false_iff_ne.mpr c6
              have c6b1 : (a1.toList != (Fh ByteArray.empty l0 x8_1).toList) = true := bne_iff_ne.mpr c6
              have H' := Aa.mk H
              clear H
              have p237 : 0 ≤ (x8_1 : Int) := of_decide_eq_true (by first | (with_reducible assumption) | assumption)
              have q237 : x8_1 < (l0.length : Int) := of_decide_eq_true (by first | (with_reducible assumption) | assumption)
              obtain ⟨ad237, e237, hx237_0⟩ := Kd.H8 HR0.out x8_1 p237 q237
              cases e237
              replace p237 := eq_true p237
              replace q237 := eq_true q237
              go_wp2
              go_roundg k1
              case measure => have := HK1.out; omega
              case rel => exact ⟨(wrap64 (x8_1 + 1)), (by first | rfl | (simp; done) | (simp [*]; done)), H', ⟨by have := HK1.out; omega⟩, by repeat (first | exact Cj.refl _ | apply Cj.step)⟩
          · rw [if_neg c5] at H
            exact absurd H (by simp)
        · rw [if_neg c4] at H
          exact absurd H (by simp)
      · rw [if_neg c3] at H
        have c3b0 : decide (x8_1 < (l0.length : Int)) = false := decide_eq_false c3
        clear c3
        obtain rfl := Option.some.inj H
        go_wp2
        go_ret
        exact ⟨by first | rfl | (simp; done) | (simp [*]; done), by repeat (first | exact Cj.refl _ | apply Cj.step)⟩
end Go.Proofs.YtpalafegcndccaaDoor.X

namespace Go.Proofs.YtpalafegcndccaaDoor.X
open Go.RowKit Go.Proofs.YtpalafegcndccaaDoorW.PrintWords Go.Proofs.YtpalafegcndccaaDoorW.PrintLast Go.Proofs.YtpalafegcndccaaDoorW.PrintMore
attribute [local go_sem] Ej Eg Eu Ew D9 D8 Ei Eh
open Go.Proofs.YtpalafegcndccaaDoorG
def Gt.f (a0 : ByteArray) : Option (Int × Bool) := if a0.size ≤ 281474976710656 then (match Lib.atoiAll a0.data.toList with | .ok v => if -999999 ≤ v ∧ v ≤ 999999 then (H5.f v).bind fun t => if t.toList = a0.toList then some (v, true) else some (0, false) else some (0, false) | _ => some (0, false)) else none
set_option maxHeartbeats 8000000 in
set_option maxRecDepth 100000 in
theorem Gt.calls (a0 : ByteArray) (r1 : Int) (r2 : Bool) (w : World) (hG : F9 w) (h : Gt.f a0 = some (r1, r2)) :
    Calls Tryd.prog 36 #[.string a0] w fun e w' => e = .returned (.tuple #[.int .i64 r1, .bool r2]) ∧ Below w.heap.size w w' := by
  have HG := Aa.mk hG
  clear hG
  unfold Gt.f at h
  by_cases hz : a0.size ≤ 281474976710656
  · rw [if_pos hz] at h
    rcases ha : Lib.atoiAll a0.data.toList with v | _ | _
    · rw [ha] at h
      dsimp only at h
      have HA := Aa.mk (Go.Proofs.Tryd.strconv_Atoi_ok a0 (by omega) v ha w)
      clear ha
      have HX : Aa (Calls Tryd.prog 58 #[.string a0] w fun e w' => e = .returned (.tuple #[.int .i64 v, .nilIface]) ∧ Below w.heap.size w w') := ⟨HA.out.mono (by
        rintro e w' ⟨rfl, h⟩
        rcases h with rfl | ⟨t, rfl⟩
        · exact ⟨rfl, Below.refl _ _⟩
        · exact ⟨rfl, Lib.bytesWorld_below _ _ _⟩)⟩
      clear HA
      by_cases hw : -999999 ≤ v ∧ v ≤ 999999
      · rw [if_pos hw] at h
        replace h := Option.bind_eq_some_iff.mp h
        obtain ⟨t, ht, h⟩ := h
        have A1 := Aa.mk (show Fg.f v (-999999) 999999 = some true by unfold Fg.f; rw [if_pos (show v ≥ -999999 from hw.1)]; simp [hw.2])
        have A2 := Aa.mk ht
        clear ht hw
        by_cases c : t.toList = a0.toList
        · rw [if_pos c] at h
          simp only [Option.some.injEq, Prod.mk.injEq] at h
          obtain ⟨rfl, rfl⟩ := h
          have cb0 : (t.toList == a0.toList) = true := beq_iff_eq.mpr c
          have cb1 : (t.toList != a0.toList) = false := bne_eq_false_iff_eq.mpr c
          clear c
          go_enter Tryd.func36, Tryd.ntmps36
          go_wp2_with (first | ((with_reducible refine Bv (f := 58) rfl ?_); refine D5 (some 8) rfl rfl Tryd.func58 (by kernel_rfl) rfl #[.string a0] rfl (by (try simp only [List.map_toArray, List.map_cons, List.map_nil]); first | done | rfl | (simp only [List.length_drop, List.length_take]; rfl)) ?_; refine HX.out.mono ?_; rintro e w1 ⟨rfl, hb⟩; have HB := Aa.mk hb; have HG1 := Aa.mk (HG.out.below hb); clear hb; refine ⟨_, rfl, ?_⟩) | ((with_reducible refine Bv (f := 59) rfl ?_); (try (refine Gq (by rfl) ?_; dsimp only)); refine D5 (some 15) rfl rfl Tryd.func59 (by kernel_rfl) rfl #[.int .i64 v, .int .i64 (-999999), .int .i64 999999] rfl (by (try simp only [List.map_toArray, List.map_cons, List.map_nil]); first | done | rfl | (simp only [List.length_drop, List.length_take]; rfl)) ?_; (with_reducible refine (Fg.calls v (-999999) 999999 true _ A1.out).mono ?_); rintro e w2 ⟨rfl, ⟨nd, rfl⟩⟩; refine ⟨_, rfl, ?_⟩) | ((with_reducible refine Bv (f := 52) rfl ?_); (try (refine Gq (by rfl) ?_; dsimp only)); refine D5 (some 20) rfl rfl Tryd.func52 (by kernel_rfl) rfl #[.int .i64 v] rfl (by (try simp only [List.map_toArray, List.map_cons, List.map_nil]); first | done | rfl | (simp only [List.length_drop, List.length_take]; rfl)) ?_; (with_reducible refine (H5.calls v t _ (HG1.out.below (by repeat (first | (with_reducible first | exact Below.refl _ _ | apply Ae | apply Ac | apply Ad)))) A2.out).mono ?_); rintro e w3 ⟨rfl, hb⟩; have HB2 := Aa.mk (Ap (by repeat (first | (with_reducible first | exact HB.out | apply Ae | apply Ac | apply Ad) | exact HB.out)) hb); clear hb; refine ⟨_, rfl, ?_⟩))
          go_ret2
          exact ⟨by first | rfl | (simp; done) | (simp [*]; done), by repeat (first | (with_reducible first | exact HB2.out | apply Ae | apply Ac | apply Ad))⟩
        · rw [if_neg c] at h
          simp only [Option.some.injEq, Prod.mk.injEq] at h
          obtain ⟨rfl, rfl⟩ := h
          have cb0 : (t.toList == a0.toList) = false := beq_eq_false_iff_ne.mpr c
          have cb1 : (t.toList != a0.toList) = true := bne_iff_ne.mpr c
          clear c
          go_enter Tryd.func36, Tryd.ntmps36
          go_wp2_with (first | ((with_reducible refine Bv (f := 58) rfl ?_); refine D5 (some 8) rfl rfl Tryd.func58 (by kernel_rfl) rfl #[.string a0] rfl (by (try simp only [List.map_toArray, List.map_cons, List.map_nil]); first | done | rfl | (simp only [List.length_drop, List.length_take]; rfl)) ?_; refine HX.out.mono ?_; rintro e w1 ⟨rfl, hb⟩; have HB := Aa.mk hb; have HG1 := Aa.mk (HG.out.below hb); clear hb; refine ⟨_, rfl, ?_⟩) | ((with_reducible refine Bv (f := 59) rfl ?_); (try (refine Gq (by rfl) ?_; dsimp only)); refine D5 (some 15) rfl rfl Tryd.func59 (by kernel_rfl) rfl #[.int .i64 v, .int .i64 (-999999), .int .i64 999999] rfl (by (try simp only [List.map_toArray, List.map_cons, List.map_nil]); first | done | rfl | (simp only [List.length_drop, List.length_take]; rfl)) ?_; (with_reducible refine (Fg.calls v (-999999) 999999 true _ A1.out).mono ?_); rintro e w2 ⟨rfl, ⟨nd, rfl⟩⟩; refine ⟨_, rfl, ?_⟩) | ((with_reducible refine Bv (f := 52) rfl ?_); (try (refine Gq (by rfl) ?_; dsimp only)); refine D5 (some 20) rfl rfl Tryd.func52 (by kernel_rfl) rfl #[.int .i64 v] rfl (by (try simp only [List.map_toArray, List.map_cons, List.map_nil]); first | done | rfl | (simp only [List.length_drop, List.length_take]; rfl)) ?_; (with_reducible refine (H5.calls v t _ (HG1.out.below (by repeat (first | (with_reducible first | exact Below.refl _ _ | apply Ae | apply Ac | apply Ad)))) A2.out).mono ?_); rintro e w3 ⟨rfl, hb⟩; have HB2 := Aa.mk (Ap (by repeat (first | (with_reducible first | exact HB.out | apply Ae | apply Ac | apply Ad) | exact HB.out)) hb); clear hb; refine ⟨_, rfl, ?_⟩))
          go_ret2
          exact ⟨by first | rfl | (simp; done) | (simp [*]; done), by repeat (first | (with_reducible first | exact HB2.out | apply Ae | apply Ac | apply Ad))⟩
      · rw [if_neg hw] at h
        simp only [Option.some.injEq, Prod.mk.injEq] at h
        obtain ⟨rfl, rfl⟩ := h
        have A1 := Aa.mk (show Fg.f v (-999999) 999999 = some false by
          unfold Fg.f
          by_cases h1 : v ≥ -999999
          · rw [if_pos h1]; congr 1; simp; omega
          · rw [if_neg h1])
        clear hw
        go_enter Tryd.func36, Tryd.ntmps36
        go_wp2_with (first | ((with_reducible refine Bv (f := 58) rfl ?_); refine D5 (some 8) rfl rfl Tryd.func58 (by kernel_rfl) rfl #[.string a0] rfl (by (try simp only [List.map_toArray, List.map_cons, List.map_nil]); first | done | rfl | (simp only [List.length_drop, List.length_take]; rfl)) ?_; refine HX.out.mono ?_; rintro e w1 ⟨rfl, hb⟩; have HB := Aa.mk hb; have HG1 := Aa.mk (HG.out.below hb); clear hb; refine ⟨_, rfl, ?_⟩) | ((with_reducible refine Bv (f := 59) rfl ?_); (try (refine Gq (by rfl) ?_; dsimp only)); refine D5 (some 15) rfl rfl Tryd.func59 (by kernel_rfl) rfl #[.int .i64 v, .int .i64 (-999999), .int .i64 999999] rfl (by (try simp only [List.map_toArray, List.map_cons, List.map_nil]); first | done | rfl | (simp only [List.length_drop, List.length_take]; rfl)) ?_; (with_reducible refine (Fg.calls v (-999999) 999999 false _ A1.out).mono ?_); rintro e w2 ⟨rfl, ⟨nd, rfl⟩⟩; refine ⟨_, rfl, ?_⟩))
        go_ret2
        exact ⟨by first | rfl | (simp; done) | (simp [*]; done), by repeat (first | (with_reducible first | exact HB.out | apply Ae | apply Ac | apply Ad))⟩
    · rw [ha] at h
      dsimp only at h
      simp only [Option.some.injEq, Prod.mk.injEq] at h
      obtain ⟨rfl, rfl⟩ := h
      obtain ⟨g_, tp, p, _, _, hv⟩ := HG.out.esyn
      have HA := Aa.mk (Go.Proofs.Any.strconv_Atoi_syntax_var Go.Proofs.Tryd.laysC172 a0 hz ha tp p w hv)
      clear ha hv
      have HX : Aa (Calls Tryd.prog 58 #[.string a0] w fun e w' => ∃ N, e = .returned (.tuple #[.int .i64 (0), .iface 102 (.pointer (some ⟨N, 0, none⟩))]) ∧ Below w.heap.size w w') := ⟨HA.out.mono (by
        rintro e w' ⟨N, rfl, _, _, hb⟩
        exact ⟨N, rfl, hb⟩)⟩
      clear HA
      go_enter Tryd.func36, Tryd.ntmps36
      go_wp2_with (first | ((with_reducible refine Bv (f := 58) rfl ?_); refine D5 (some 8) rfl rfl Tryd.func58 (by kernel_rfl) rfl #[.string a0] rfl (by (try simp only [List.map_toArray, List.map_cons, List.map_nil]); first | done | rfl | (simp only [List.length_drop, List.length_take]; rfl)) ?_; refine HX.out.mono ?_; rintro e w1 ⟨N_, rfl, hb⟩; have HB := Aa.mk hb; clear hb; refine ⟨_, rfl, ?_⟩))
      go_ret2
      exact ⟨by first | rfl | (simp; done) | (simp [*]; done), by repeat (first | (with_reducible first | exact HB.out | apply Ae | apply Ac | apply Ad))⟩
    · rw [ha] at h
      dsimp only at h
      simp only [Option.some.injEq, Prod.mk.injEq] at h
      obtain ⟨rfl, rfl⟩ := h
      obtain ⟨g_, tp, p, _, _, hv⟩ := HG.out.erng
      have HA := Aa.mk (Go.Proofs.Tryd.strconv_Atoi_range_var a0 hz ha tp p w hv)
      clear ha hv
      have HX : Aa (Calls Tryd.prog 58 #[.string a0] w fun e w' => ∃ N, e = .returned (.tuple #[.int .i64 (Lib.atoiSat a0.data.toList), .iface 102 (.pointer (some ⟨N, 0, none⟩))]) ∧ Below w.heap.size w w') := ⟨HA.out.mono (by
        rintro e w' ⟨N, rfl, _, _, hb⟩
        exact ⟨N, rfl, hb⟩)⟩
      clear HA
      go_enter Tryd.func36, Tryd.ntmps36
      go_wp2_with (first | ((with_reducible refine Bv (f := 58) rfl ?_); refine D5 (some 8) rfl rfl Tryd.func58 (by kernel_rfl) rfl #[.string a0] rfl (by (try simp only [List.map_toArray, List.map_cons, List.map_nil]); first | done | rfl | (simp only [List.length_drop, List.length_take]; rfl)) ?_; refine HX.out.mono ?_; rintro e w1 ⟨N_, rfl, hb⟩; have HB := Aa.mk hb; clear hb; refine ⟨_, rfl, ?_⟩))
      go_ret2
      exact ⟨by first | rfl | (simp; done) | (simp [*]; done), by repeat (first | (with_reducible first | exact HB.out | apply Ae | apply Ac | apply Ad))⟩
  · rw [if_neg hz] at h; cases h
end Go.Proofs.YtpalafegcndccaaDoor.X

namespace Go.Proofs.YtpalafegcndccaaDoor.X
open Go.RowKit Go.Proofs.YtpalafegcndccaaDoorW.PrintWords Go.Proofs.YtpalafegcndccaaDoorW.PrintLast Go.Proofs.YtpalafegcndccaaDoorW.PrintMore
attribute [local go_sem] Ej Eg Eu Ew D9 D8 Ei Eh
open Go.Proofs.YtpalafegcndccaaDoorG
def Bz.l0 : Nat → ByteArray → List (S40) → List ByteArray → Int → Int → Option ((List (S40)) × Bool)
  | 0, _, _, _, _, _ => none
  | k + 1, x0, x6, x21, x22, x23 => if x23 < x22 then (if 0 ≤ x23 then (if x23 < (x21.length : Int) then ((strings_Cut.f (Fh ByteArray.empty x21 x23) (⟨#[32]⟩ : ByteArray)).bind fun bt261 => ((Ha.f).bind fun t264 => ((Cc.f k t264 bt261.2.1).bind fun t267 => ((Gt.f bt261.1).bind fun bt269 => (if x6.length < 8796093022208 then (Bz.l0 k x0 (x6 ++ [(⟨bt269.1, t267⟩ : S40)]) x21 x22 (wrap64 (x23 + 1))) else (none)))))) else (none)) else (none)) else ((Cm.f k x6).bind fun t274 => (if t274 = true then ((Dt.f k x6).bind fun t275 => (if t275.toList = x0.toList then (some (x6, true)) else (some (([] : List (S40)), false)))) else (some (([] : List (S40)), false))))
def Bz.f (k : Nat) (a0 : ByteArray) : Option ((List (S40)) × Bool) := (Hu.f a0).bind fun bt253 => (if bt253.2 = true then (Bz.l0 k a0 (([] : List (S40))) bt253.1 (bt253.1.length : Int) 0) else (some (([] : List (S40)), false)))
theorem Bz.Et : ∀ k, (∀ y0 y1 y2 y3 y4, LeO (Bz.l0 k y0 y1 y2 y3 y4) (Bz.l0 (k + 1) y0 y1 y2 y3 y4))
  | 0 => fun _ _ _ _ _ r h => by simp [Bz.l0] at h
  | k + 1 => by
    have ih0 := Bz.Et k
    · intro y0 y1 y2 y3 y4
      unfold Bz.l0
      repeat' first
      | (with_reducible exact ih0 _ _ _ _ _)
      | (with_reducible exact Cm.mono _ _)
      | (with_reducible exact Dt.mono _ _)
      | (with_reducible exact Cc.mono _ _ _)
      | (with_reducible exact LeO.refl _)
      | (with_reducible exact LeO.none _)
      | (with_reducible refine LeO.ite ?_ ?_)
      | (with_reducible refine LeO.bind ?_ (fun _ => ?_))
      | exact ih0 _ _ _ _ _
      | exact Cm.mono _ _
      | exact Dt.mono _ _
      | exact Cc.mono _ _ _
      | exact LeO.none _
      | refine LeO.ite ?_ ?_
      | refine LeO.bind ?_ (fun _ => ?_)
theorem Bz.mono : ∀ a0 k, LeO (Bz.f k a0) (Bz.f (k + 1) a0) := by
  intro a0 k
  have ih0 := Bz.Et k
  unfold Bz.f
  repeat' first
      | (with_reducible exact ih0 _ _ _ _ _)
      | (with_reducible exact Cm.mono _ _)
      | (with_reducible exact Dt.mono _ _)
      | (with_reducible exact Cc.mono _ _ _)
      | (with_reducible exact LeO.refl _)
      | (with_reducible exact LeO.none _)
      | (with_reducible refine LeO.ite ?_ ?_)
      | (with_reducible refine LeO.bind ?_ (fun _ => ?_))
      | exact ih0 _ _ _ _ _
      | exact Cm.mono _ _
      | exact Dt.mono _ _
      | exact Cc.mono _ _ _
      | exact LeO.none _
      | refine LeO.ite ?_ ?_
      | refine LeO.bind ?_ (fun _ => ?_)
set_option maxHeartbeats 8000000 in
set_option maxRecDepth 100000 in
theorem Bz.calls (k : Nat) (a0 : ByteArray) (r1 : List (S40)) (r2 : Bool) (w : World) (hG : F9 w) (h : Bz.f k a0 = some (r1, r2)) :
    Calls Tryd.prog 12 #[.string a0] w fun e w' => ∃ v0_ : Value, e = .returned (.tuple #[v0_, .bool r2]) ∧ Kd.R k40 40 w' w.heap.size (fun _ => True) v0_ r1 ∧ Below w.heap.size w w' := by
  have hu40 := Tryd.underlying40
  have HGL := Aa.mk hG
  clear hG
  have HB := Aa.mk (Below.refl w.heap.size w)
  have H : ((Hu.f a0).bind fun bt253 => (if bt253.2 = true then (Bz.l0 k a0 (([] : List (S40))) bt253.1 (bt253.1.length : Int) 0) else (some (([] : List (S40)), false)))) = some (r1, r2) := h
  clear h
  replace H := Option.bind_eq_some_iff.mp H
  obtain ⟨⟨t253, t254⟩, A20, H⟩ := H
  replace H : (if t254 = true then (Bz.l0 k a0 (([] : List (S40))) t253 (t253.length : Int) 0) else (some (([] : List (S40)), false))) = some (r1, r2) := H
  have A2 := Aa.mk A20
  clear A20
  by_cases c3 : t254 = true
  · subst c3
    have H1 : (Bz.l0 k a0 (([] : List (S40))) t253 (t253.length : Int) 0) = some (r1, r2) := by rw [if_pos rfl] at H; exact H
    clear H
    have H := H1
    clear H1
    obtain ⟨y257, hy257⟩ : ∃ y_ : List (S40), y_ = (([] : List (S40))) := ⟨_, rfl⟩
    replace H : (Bz.l0 k a0 y257 t253 (t253.length : Int) 0) = some (r1, r2) := by first | (rw [hy257]; with_reducible exact H) | (have H2_ := (Option.bind_some _ _).symm.trans H; rw [hy257]; with_reducible exact H2_) | (have H2_ := (Option.bind_some _ _).symm.trans H; with_reducible exact H2_) | with_reducible exact H | (rw [hy257]; exact H) | exact H
    have Ny257 := Aa.mk hy257
    clear hy257
    have H' := Aa.mk H
    clear H
    go_enter Tryd.func12, Tryd.ntmps12
    go_wp2_with (first | ((with_reducible refine Bv (f := 32) rfl ?_); refine D5 (some 15) rfl rfl Tryd.func32 (by kernel_rfl) rfl #[.string a0] rfl (by (try simp only [List.map_toArray, List.map_cons, List.map_nil]); first | done | rfl | (simp only [List.length_drop, List.length_take]; rfl)) ?_; (with_reducible refine (Hu.calls a0 t253 true _ ?side1 A2.out).mono ?_); (case side1 => exact F9.below HGL.out (by repeat (first | (with_reducible first | exact HB.out | apply Ae | apply Ac | apply Ad) | exact HB.out))); rintro e w4 ⟨v255, rfl, ho0, hb⟩; refine ⟨_, rfl, ?_⟩; have n0_ := Aa.mk (Kd.Du ho0 (Aq (by repeat (first | (with_reducible first | exact HB.out | apply Ae | apply Ac | apply Ad) | exact HB.out)))); have n1_ := Aa.mk (Ap (by repeat (first | (with_reducible first | exact HB.out | apply Ae | apply Ac | apply Ad) | exact HB.out)) hb); clear HB; have HO256 := n0_; have HB := n1_; clear n0_ n1_; (try clear hb); (try clear hb2); (try clear hk); (try clear hi); (try clear ho0)) | ((with_reducible refine D7 (N := 20) rfl ?_); refine Kd.Ii k40 _ 40 ?hg (N := 20) ?hd (xs := ([] : List (S40))) (inner := []) (ok := fun _ => True) (okp := fun _ => True) ?hr ?hp (fun _ hk => hk) trivial (Below.refl _ _) (Nat.le_refl _) (by simp) ?_; (case hd => rfl); (case hg => rfl); (case hr => first | (go_simp; done) | (go_simp; rfl)); (case hp => exact (Dw.none _ _)); intro v258 w5 ho6 hb hg_ hnew_; clear hg_ hnew_; (first | rw [← Ny257.out] at ho6 | (simp only [Int.reduceToNat] at ho6; rw [← Ny257.out] at ho6)); have n0_ := Aa.mk (Kd.Dk (by (with_reducible repeat (first | apply Kd.Ah | apply Kd.Ai | apply Kd.Ak)); exact HO256.out) hb); have n1_ := Aa.mk (Kd.Du ho6 (Aq (by repeat (first | (with_reducible first | exact HB.out | apply Ae | apply Ac | apply Ad) | exact HB.out)))); have n2_ := Aa.mk (Ap (by repeat (first | (with_reducible first | exact HB.out | apply Ae | apply Ac | apply Ad) | exact HB.out)) hb); clear HO256; clear HB; have HO256 := n0_; have HO259 := n1_; have HB := n2_; clear n0_ n1_ n2_; clear hb ho6; obtain ⟨Ao7, co7, eo7⟩ := Kd.Ef HO256.out; subst eo7))
    go_loopg [6, 23] k (fun kq v6 v23 w' => ∃ (x6_1 : List (S40)) (x23_1 : Int), v23 = .int .i64 x23_1 ∧ Aa (Bz.l0 kq a0 x6_1 t253 (t253.length : Int) x23_1 = some (r1, r2)) ∧ Aa (kq ≤ k) ∧ Aa (Kd.R k40 40 w' w.heap.size (fun _ => True) v6 x6_1) ∧ Aa (Kd.R Kd.string 9 w' w.heap.size (fun _ => True) (.slice Ao7 t253.length co7) t253) ∧ Aa (Below w.heap.size w w'))
    case atStart => exact ⟨(y257), (0), (by first | rfl | (simp; done) | (simp [*]; done)), H', ⟨Nat.le_refl _⟩, ⟨by (with_reducible repeat (first | apply Kd.Ah | apply Kd.Ai | apply Kd.Ak)); exact HO259.out⟩, ⟨by (with_reducible repeat (first | apply Kd.Ah | apply Kd.Ai | apply Kd.Ak)); exact HO256.out⟩, ⟨by repeat (first | (with_reducible first | exact HB.out | apply Ae | apply Ac | apply Ad) | exact HB.out)⟩⟩
    case round =>
      clear H'
      try clear c1
      try clear p2
      try clear c3
      obtain ⟨x6_1, x23_1, rfl, HA, HK1, HO_6, HO_21, HB⟩ := hrel
      cases gk with
      | zero => exact absurd HA.out (by simp [Bz.l0])
      | succ k1 =>
        have H := HA.out
        clear HA
        simp only [Bz.l0] at H
        by_cases c8 : x23_1 < (t253.length : Int)
        · rw [if_pos c8] at H
          have c8b0 : decide (x23_1 < (t253.length : Int)) = true := decide_eq_true c8
          clear c8
          by_cases c9 : 0 ≤ x23_1
          · rw [if_pos c9] at H
            have c9b0 : decide (0 ≤ x23_1) = true := decide_eq_true c9
            clear c9
            by_cases c10 : x23_1 < (t253.length : Int)
            · rw [if_pos c10] at H
              have c10b0 : decide (x23_1 < (t253.length : Int)) = true := decide_eq_true c10
              clear c10
              replace H := Option.bind_eq_some_iff.mp H
              obtain ⟨⟨t261, t262, t263⟩, A110, H⟩ := H
              replace H : ((Ha.f).bind fun t264 => ((Cc.f k1 t264 t262).bind fun t267 => ((Gt.f t261).bind fun bt269 => (if x6_1.length < 8796093022208 then (Bz.l0 k1 a0 (x6_1 ++ [(⟨bt269.1, t267⟩ : S40)]) t253 (t253.length : Int) (wrap64 (x23_1 + 1))) else (none))))) = some (r1, r2) := H
              have A11 := Aa.mk A110
              clear A110
              replace H := Option.bind_eq_some_iff.mp H
              obtain ⟨t264, A120, H⟩ := H
              replace H : ((Cc.f k1 t264 t262).bind fun t267 => ((Gt.f t261).bind fun bt269 => (if x6_1.length < 8796093022208 then (Bz.l0 k1 a0 (x6_1 ++ [(⟨bt269.1, t267⟩ : S40)]) t253 (t253.length : Int) (wrap64 (x23_1 + 1))) else (none)))) = some (r1, r2) := H
              have A12 := Aa.mk A120
              clear A120
              replace H := Option.bind_eq_some_iff.mp H
              obtain ⟨t267, A130, H⟩ := H
              replace H : ((Gt.f t261).bind fun bt269 => (if x6_1.length < 8796093022208 then (Bz.l0 k1 a0 (x6_1 ++ [(⟨bt269.1, t267⟩ : S40)]) t253 (t253.length : Int) (wrap64 (x23_1 + 1))) else (none))) = some (r1, r2) := H
              have A13 := Aa.mk A130
              clear A130
              replace H := Option.bind_eq_some_iff.mp H
              obtain ⟨⟨t269, t270⟩, A140, H⟩ := H
              replace H : (if x6_1.length < 8796093022208 then (Bz.l0 k1 a0 (x6_1 ++ [(⟨t269, t267⟩ : S40)]) t253 (t253.length : Int) (wrap64 (x23_1 + 1))) else (none)) = some (r1, r2) := H
              have A14 := Aa.mk A140
              clear A140
              by_cases c15 : x6_1.length < 8796093022208
              · rw [if_pos c15] at H
                have LMc15 := Aa.mk c15
                clear c15
                obtain ⟨y271, hy271⟩ : ∃ y_ : List (S40), y_ = (x6_1 ++ [(⟨t269, t267⟩ : S40)]) := ⟨_, rfl⟩
                replace H : (Bz.l0 k1 a0 y271 t253 (t253.length : Int) (wrap64 (x23_1 + 1))) = some (r1, r2) := by first | (rw [hy271]; with_reducible exact H) | (have H2_ := (Option.bind_some _ _).symm.trans H; rw [hy271]; with_reducible exact H2_) | (have H2_ := (Option.bind_some _ _).symm.trans H; with_reducible exact H2_) | with_reducible exact H | (rw [hy271]; exact H) | exact H
                have Ny271 := Aa.mk hy271
                clear hy271
                have H' := Aa.mk H
                clear H
                have p260 : 0 ≤ (x23_1 : Int) := of_decide_eq_true (by first | (with_reducible assumption) | assumption)
                have q260 : x23_1 < (t253.length : Int) := of_decide_eq_true (by first | (with_reducible assumption) | assumption)
                obtain ⟨ad260, e260, hx260_0⟩ := Kd.H8 (Kd.Ba HO_21.out).2.2 x23_1 p260 q260
                cases e260
                replace p260 := eq_true p260
                replace q260 := eq_true q260
                go_wp2_with (first | ((with_reducible refine Bv (f := 33) rfl ?_); refine D5 (some 29) rfl rfl Tryd.func33 (by kernel_rfl) rfl #[.string (Fh ByteArray.empty t253 x23_1), .string (⟨#[32]⟩ : ByteArray)] rfl (by (try simp only [List.map_toArray, List.map_cons, List.map_nil]); first | done | rfl | (simp only [List.length_drop, List.length_take]; rfl)) ?_; (with_reducible refine (strings_Cut.calls (Fh ByteArray.empty t253 x23_1) (⟨#[32]⟩ : ByteArray) t261 t262 t263 _ ?side1 A11.out).mono ?_); (case side1 => exact F9.below HGL.out (by repeat (first | (with_reducible first | exact HB.out | apply Ae | apply Ac | apply Ad) | exact HB.out))); rintro e w16 ⟨rfl, hb⟩; refine ⟨_, rfl, ?_⟩; have n0_ := Aa.mk (Kd.Dk (by (with_reducible repeat (first | apply Kd.Ah | apply Kd.Ai | apply Kd.Ak)); exact HO_6.out) hb); have n1_ := Aa.mk (Kd.Dk (by (with_reducible repeat (first | apply Kd.Ah | apply Kd.Ai | apply Kd.Ak)); exact HO_21.out) hb); have n2_ := Aa.mk (Ap (by repeat (first | (with_reducible first | exact HB.out | apply Ae | apply Ac | apply Ad) | exact HB.out)) hb); clear HO_6; clear HO_21; clear HB; have HO_6 := n0_; have HO_21 := n1_; have HB := n2_; clear n0_ n1_ n2_; (try clear hb); (try clear hb2); (try clear hk); (try clear hi)) | ((with_reducible refine Bv (f := 35) rfl ?_); refine D5 (some 33) rfl rfl Tryd.func35 (by kernel_rfl) rfl #[] rfl (by (try simp only [List.map_toArray, List.map_cons, List.map_nil]); first | done | rfl | (simp only [List.length_drop, List.length_take]; rfl)) ?_; (with_reducible refine (Ha.calls  t264 _ A12.out).mono ?_); rintro e w17 ⟨v265, rfl, ho0, hb⟩; refine ⟨_, rfl, ?_⟩; have n0_ := Aa.mk (Kd.Dk (by (with_reducible repeat (first | apply Kd.Ah | apply Kd.Ai | apply Kd.Ak)); exact HO_6.out) hb); have n1_ := Aa.mk (Kd.Ff (by (with_reducible repeat (first | apply Kd.Ah | apply Kd.Ai | apply Kd.Ak)); exact HO_21.out) (Kd.Gg ho0) hb); have n2_ := Aa.mk (Kd.Du (Kd.Gh ho0 (Kd.Gs (by (with_reducible repeat (first | apply Kd.Ah | apply Kd.Ai | apply Kd.Ak)); exact HO_21.out))) (Aq (by repeat (first | (with_reducible first | exact HB.out | apply Ae | apply Ac | apply Ad) | exact HB.out)))); have n3_ := Aa.mk (Ap (by repeat (first | (with_reducible first | exact HB.out | apply Ae | apply Ac | apply Ad) | exact HB.out)) hb); clear HO_6; clear HO_21; clear HB; have HO_6 := n0_; have HO_21 := n1_; have HO266 := n2_; have HB := n3_; clear n0_ n1_ n2_ n3_; (try clear hb); (try clear hb2); (try clear hk); (try clear hi); (try clear ho0); obtain ⟨Ao18, co18, eo18⟩ := Kd.Ef HO266.out; subst eo18) | ((with_reducible refine Bv (f := 34) rfl ?_); refine D5 (some 35) rfl rfl Tryd.func34 (by kernel_rfl) rfl #[.slice Ao18 t264.length co18, .string t262] rfl (by (try simp only [List.map_toArray, List.map_cons, List.map_nil]); first | done | rfl | (simp only [List.length_drop, List.length_take]; rfl)) ?_; (with_reducible refine (Cc.calls k1 _ _ t264 t262 t267 _ ?side1 ?side2 A13.out).mono ?_); (case side1 => repeat (first | exact (Kd.Ba HO266.out).2.2 | (with_reducible refine Kd.Ci ?_ _) | (with_reducible refine Kd.Cf ?_ _) | (with_reducible refine Kd.Di ?_))); (case side2 => exact (Kd.Ba HO266.out).2.1); rintro e w' ⟨rfl, ⟨nd, rfl⟩⟩; refine ⟨_, rfl, ?_⟩; (try (rw [drewN_self w17]; generalize hq_ : World.drewN w17 _ = w17; have n0_ : Aa (Kd.R Kd.string 9 w17 w.heap.size (fun k_ => some k_ ≠ (.slice (some ad260) t253.length co7 : Value).ownBlock) (.slice Ao18 t264.length co18) t264) := ⟨by rw [← hq_]; exact (by (with_reducible repeat (first | apply Kd.Ah | apply Kd.Ai | apply Kd.Ak)); exact Kd.R_mono HO266.out (fun _ hk => hk.2))⟩; have n1_ : Aa (Kd.R Kd.string 9 w17 w.heap.size (fun k_ => some k_ ≠ (.slice Ao18 t264.length co18 : Value).ownBlock) (.slice (some ad260) t253.length co7) t253) := ⟨by rw [← hq_]; exact (by (with_reducible repeat (first | apply Kd.Ah | apply Kd.Ai | apply Kd.Ak)); exact Kd.R_mono HO_21.out (fun _ hk => hk.2))⟩; have n2_ : Aa (Kd.R k40 40 w17 w.heap.size (fun _ => True) u6 x6_1) := ⟨by rw [← hq_]; exact (by (with_reducible repeat (first | apply Kd.Ah | apply Kd.Ai | apply Kd.Ak)); exact HO_6.out)⟩; have n3_ : Aa (Below w.heap.size w w17) := ⟨by rw [← hq_]; exact (by repeat (first | (with_reducible first | exact HB.out | apply Ae | apply Ac | apply Ad) | exact HB.out))⟩; clear HO266 HO_21 HO_6 HB hq_; have HO266 := n0_; have HO_21 := n1_; have HO_6 := n2_; have HB := n3_; clear n0_ n1_ n2_ n3_))) | ((with_reducible refine D7 (N := 12) rfl ?_); refine Es ?hg (N := 12) ?hd (cs := #[.int .i64 0, .int .i64 0]) (t := 40) ?hr ?_; (case hd => rfl); (case hg => rfl); (case hr => first | (go_simp; done) | (go_simp; rfl)); intro gb268 hg w19 hbox hb; have n0_ := Aa.mk (Kd.Dk (Kd.R_elderB (by (with_reducible repeat (first | apply Kd.Ah | apply Kd.Ai | apply Kd.Ak)); exact HO_6.out) gb268 (Nat.le_of_eq hg.symm)) hb); have n1_ := Aa.mk (Kd.Dk (by (with_reducible repeat (first | apply Kd.Ah | apply Kd.Ai | apply Kd.Ak)); exact HO_21.out) hb); have n2_ := Aa.mk (Kd.Dk (by (with_reducible repeat (first | apply Kd.Ah | apply Kd.Ai | apply Kd.Ak)); exact HO266.out) hb); have n3_ := Aa.mk (Ap (by repeat (first | (with_reducible first | exact HB.out | apply Ae | apply Ac | apply Ad) | exact HB.out)) hb); have n4_ := Aa.mk (hbox); have n5_ := Aa.mk ((by rw [hg]; exact (Aq (by repeat (first | (with_reducible first | exact HB.out | apply Ae | apply Ac | apply Ad) | exact HB.out))) : w.heap.size ≤ gb268)); have n6_ := Aa.mk ((by rw [hg]; exact (Aq (by repeat (first | (with_reducible first | exact HB.out | apply Ae | apply Ac | apply Ad) | exact HB.out))) : w.heap.size ≤ gb268)); clear HO_6; clear HO_21; clear HO266; clear HB; have HO_6 := n0_; have HO_21 := n1_; have HO266 := n2_; have HB := n3_; have BK268 := n4_; have GW268 := n5_; have GE268 := n6_; clear n0_ n1_ n2_ n3_ n4_ n5_ n6_; clear hb hbox hg; have hcz20_0 : w19.cell? ⟨gb268, 0, none⟩ = some (.int .i64 0) := (Bd BK268.out 0).trans rfl; have hcz20_1 : w19.cell? ⟨gb268, 1, none⟩ = some (.int .i64 0) := (Bd BK268.out 1).trans rfl; have hfz20_0 := Bl BK268.out 0; have hfz20_1 := Bl BK268.out 1) | ((with_reducible refine Bv (f := 36) rfl ?_); refine D5 (some 39) rfl rfl Tryd.func36 (by kernel_rfl) rfl #[.string t261] rfl (by (try simp only [List.map_toArray, List.map_cons, List.map_nil]); first | done | rfl | (simp only [List.length_drop, List.length_take]; rfl)) ?_; (with_reducible refine (Gt.calls t261 t269 t270 _ ?side1 A14.out).mono ?_); (case side1 => exact F9.below HGL.out (by repeat (first | (with_reducible first | exact HB.out | apply Ae | apply Ac | apply Ad | refine Ag ?_ GE268.out) | exact HB.out))); rintro e w21 ⟨rfl, hb⟩; refine ⟨_, rfl, ?_⟩; have n0_ := Aa.mk (Kd.Dk (by (with_reducible repeat (first | apply Kd.Ah | apply Kd.Ai | apply Kd.Ak)); exact (Kd.R_mono (Kd.F7 (p := ⟨gb268, 1, none⟩) (Kd.F7 (p := ⟨gb268, 0, none⟩) (Kd.R_mono HO_6.out (fun k_ hk => (⟨hk, hk.2⟩ : _ ∧ k_ ≠ gb268))) (fun _ hk => hk.2) (.int .i64 0)) (fun _ hk => hk.2) (.int .i64 t267)) (fun _ h_ => h_.1))) hb); have n1_ := Aa.mk (Kd.Dk (by (with_reducible repeat (first | apply Kd.Ah | apply Kd.Ai | apply Kd.Ak)); exact (Kd.R_mono (Kd.F7 (p := ⟨gb268, 1, none⟩) (Kd.F7 (p := ⟨gb268, 0, none⟩) (Kd.R_types HO_21.out BK268.out (by decide)) (fun _ hk => hk.2) (.int .i64 0)) (fun _ hk => hk.2) (.int .i64 t267)) (fun _ h_ => h_.1))) hb); have n2_ := Aa.mk (Kd.Dk (by (with_reducible repeat (first | apply Kd.Ah | apply Kd.Ai | apply Kd.Ak)); exact (Kd.R_mono (Kd.F7 (p := ⟨gb268, 1, none⟩) (Kd.F7 (p := ⟨gb268, 0, none⟩) (Kd.R_types HO266.out BK268.out (by decide)) (fun _ hk => hk.2) (.int .i64 0)) (fun _ hk => hk.2) (.int .i64 t267)) (fun _ h_ => h_.1))) hb); have n3_ := Aa.mk (Dv (g := gb268) (o := .cells #[.int .i64 0, .int .i64 t267] 40 (0, 0)) (by (with_reducible repeat (first | refine Au ?_ _ | refine Az ?_ | refine Ar ?_ _)); refine Fv (cs := #[.int .i64 0, .int .i64 0]) ?_ 1 _ rfl; (with_reducible repeat (first | refine Au ?_ _ | refine Az ?_ | refine Ar ?_ _)); refine Fv (cs := #[.int .i64 0, .int .i64 0]) ?_ 0 _ rfl; (with_reducible repeat (first | refine Au ?_ _ | refine Az ?_ | refine Ar ?_ _)); exact BK268.out) hb); have n4_ := Aa.mk (Ap (by repeat (first | (with_reducible first | exact HB.out | apply Ae | apply Ac | apply Ad | refine Ag ?_ GE268.out) | exact HB.out)) hb); clear HO_6; clear HO_21; clear HO266; clear BK268; clear HB; have HO_6 := n0_; have HO_21 := n1_; have HO266 := n2_; have BK268 := n3_; have HB := n4_; clear n0_ n1_ n2_ n3_ n4_; (try clear hb); (try clear hb2); (try clear hk); (try clear hi); have hcz22_0 : w21.cell? ⟨gb268, 0, none⟩ = some (.int .i64 0) := (Bd BK268.out 0).trans rfl; have hcz22_1 : w21.cell? ⟨gb268, 1, none⟩ = some (.int .i64 t267) := (Bd BK268.out 1).trans rfl; have hfz22_0 := Bl BK268.out 0; have hfz22_1 := Bl BK268.out 1) | ((with_reducible refine Hq (b := .append) (xs := #[.tmp 43, .tmp 45]) rfl ?_); at_builtin; refine Kd.Iw k40 (w0 := w) w.heap.size rfl (.tmp 43) (.tmp 45) 26 40 (.agg #[(.int .i64 0), (.int .i64 0)]) 16 rfl Tryd.underlying26 Hr rfl (by decide) (by omega) u6 x6_1 (⟨t269, t267⟩ : S40) [.int .i64 t269, .int .i64 t267] (fun k_ => k_ ≠ gb268) (fun _ => False) rfl (by first | (go_simp; done) | (go_simp; rfl)) ?aP (fun _ hk => hk.elim) ?aF ?aO ?aB ?aS ?aL ?_; (case aP => exact G8 _ _ _ (⟨t269, t267⟩ : S40)); (case aB => exact (by repeat (first | (with_reducible first | exact HB.out | apply Ae | apply Ac | apply Ad | refine Ag ?_ GE268.out) | exact HB.out))); (case aF => exact (fun k_ hk => Kd.Ih (g := gb268) (o := .cells #[.int .i64 t269, .int .i64 t267] 40 (0, 0)) (by (with_reducible repeat (first | refine Au ?_ _ | refine Az ?_ | refine Ar ?_ _)); refine Fv (cs := #[.int .i64 0, .int .i64 t267]) ?_ 0 _ rfl; (with_reducible repeat (first | refine Au ?_ _ | refine Az ?_ | refine Ar ?_ _)); exact BK268.out) k_ hk)); (case aO => exact (by (with_reducible repeat (first | apply Kd.Ah | apply Kd.Ai | apply Kd.Ak)); exact Kd.R_mono (Kd.F7 (p := ⟨gb268, 0, none⟩) (Kd.R_mono HO_6.out (fun k_ hk => (⟨hk, hk.2⟩ : _ ∧ k_ ≠ gb268))) (fun _ hk => hk.2) (.int .i64 t269)) (fun _ hk => hk.1.2))); (case aS => exact (Aq (by repeat (first | (with_reducible first | exact HB.out | apply Ae | apply Ac | apply Ad | refine Ag ?_ GE268.out) | exact HB.out)))); (case aL => have := LMc15.out; omega); intro v272 w23 ho hb hg hat; rw [← Ny271.out] at ho; have n0_ := Aa.mk (Kd.R_over' (by (with_reducible repeat (first | apply Kd.Ah | apply Kd.Ai | apply Kd.Ak)); exact (Kd.R_mono (Kd.F7 (p := ⟨gb268, 0, none⟩) (Kd.R_types HO_21.out BK268.out (by decide)) (fun _ hk => hk.2) (.int .i64 t269)) (fun _ h_ => h_.1))) (Kd.R_typed (by (with_reducible repeat (first | apply Kd.Ah | apply Kd.Ai | apply Kd.Ak)); exact (Kd.R_mono (Kd.F7 (p := ⟨gb268, 0, none⟩) (Kd.R_mono HO_6.out (fun k_ hk => (⟨hk, hk.2⟩ : _ ∧ k_ ≠ gb268))) (fun _ hk => hk.2) (.int .i64 t269)) (fun _ h_ => h_.1)))) (by decide) hg); have n1_ := Aa.mk (Kd.R_over' (by (with_reducible repeat (first | apply Kd.Ah | apply Kd.Ai | apply Kd.Ak)); exact (Kd.R_mono (Kd.F7 (p := ⟨gb268, 0, none⟩) (Kd.R_types HO266.out BK268.out (by decide)) (fun _ hk => hk.2) (.int .i64 t269)) (fun _ h_ => h_.1))) (Kd.R_typed (by (with_reducible repeat (first | apply Kd.Ah | apply Kd.Ai | apply Kd.Ak)); exact (Kd.R_mono (Kd.F7 (p := ⟨gb268, 0, none⟩) (Kd.R_mono HO_6.out (fun k_ hk => (⟨hk, hk.2⟩ : _ ∧ k_ ≠ gb268))) (fun _ hk => hk.2) (.int .i64 t269)) (fun _ h_ => h_.1)))) (by decide) hg); have n2_ := Aa.mk (Gy (g := gb268) (o := .cells #[.int .i64 t269, .int .i64 t267] 40 (0, 0)) (by (with_reducible repeat (first | refine Au ?_ _ | refine Az ?_ | refine Ar ?_ _)); refine Fv (cs := #[.int .i64 0, .int .i64 t267]) ?_ 0 _ rfl; (with_reducible repeat (first | refine Au ?_ _ | refine Az ?_ | refine Ar ?_ _)); exact BK268.out) hg (Kd.Ij HO_6.out (fun _ hk => hk.2))); have n3_ := Aa.mk (hb); have n4_ := Aa.mk (ho); clear HO_21; clear HO266; clear BK268; clear HB; clear HO_6; have HO_21 := n0_; have HO266 := n1_; have BK268 := n2_; have HB := n3_; have HO273 := n4_; clear n0_ n1_ n2_ n3_ n4_; clear ho hb hg hat))
                go_roundg k1
                case measure => have := HK1.out; omega
                case rel => exact ⟨(y271), (wrap64 (x23_1 + 1)), (by first | rfl | (simp; done) | (simp [*]; done)), H', ⟨by have := HK1.out; omega⟩, ⟨by (with_reducible repeat (first | apply Kd.Ah | apply Kd.Ai | apply Kd.Ak)); exact Kd.R_mono HO273.out (fun _ hk => trivial)⟩, ⟨by (with_reducible repeat (first | apply Kd.Ah | apply Kd.Ai | apply Kd.Ak)); exact Kd.R_mono HO_21.out (fun _ hk => trivial)⟩, ⟨by repeat (first | (with_reducible first | exact HB.out | apply Ae | apply Ac | apply Ad | refine Ag ?_ GE268.out) | exact HB.out)⟩⟩
              · rw [if_neg c15] at H
                exact absurd H (by simp)
            · rw [if_neg c10] at H
              exact absurd H (by simp)
          · rw [if_neg c9] at H
            exact absurd H (by simp)
        · rw [if_neg c8] at H
          have c8b0 : decide (x23_1 < (t253.length : Int)) = false := decide_eq_false c8
          clear c8
          replace H := Option.bind_eq_some_iff.mp H
          obtain ⟨t274, A240, H⟩ := H
          replace H : (if t274 = true then ((Dt.f k1 x6_1).bind fun t275 => (if t275.toList = a0.toList then (some (x6_1, true)) else (some (([] : List (S40)), false)))) else (some (([] : List (S40)), false))) = some (r1, r2) := H
          have A24 := Aa.mk A240
          clear A240
          by_cases c25 : t274 = true
          · subst c25
            have H1 : ((Dt.f k1 x6_1).bind fun t275 => (if t275.toList = a0.toList then (some (x6_1, true)) else (some (([] : List (S40)), false)))) = some (r1, r2) := by rw [if_pos rfl] at H; exact H
            clear H
            have H := H1
            clear H1
            replace H := Option.bind_eq_some_iff.mp H
            obtain ⟨t275, A260, H⟩ := H
            replace H : (if t275.toList = a0.toList then (some (x6_1, true)) else (some (([] : List (S40)), false))) = some (r1, r2) := H
            have A26 := Aa.mk A260
            clear A260
            by_cases c27 : t275.toList = a0.toList
            · rw [if_pos c27] at H
              have c27b0 : (t275.toList == a0.toList) = true := beq_iff_eq.mpr c27
              have c27b1 : (t275.toList != a0.toList) = false := bne_eq_false_iff_eq.mpr c27
              clear c27
              simp only [Option.some.injEq, Prod.mk.injEq] at H
              obtain ⟨rfl, rfl⟩ := H
              obtain ⟨Ao28, co28, eo28⟩ := Kd.Ef HO_6.out
              subst eo28
              go_wp2_with (first | ((with_reducible refine Bv (f := 17) rfl ?_); refine D5 (some 49) rfl rfl Tryd.func17 (by kernel_rfl) rfl #[.slice Ao28 x6_1.length co28] rfl (by (try simp only [List.map_toArray, List.map_cons, List.map_nil]); first | done | rfl | (simp only [List.length_drop, List.length_take]; rfl)) ?_; (with_reducible refine (Cm.calls k1 _ _ x6_1 true _ ?side1 ?side2 A24.out).mono ?_); (case side1 => repeat (first | exact (Kd.Ba HO_6.out).2.2 | (with_reducible refine Kd.Ci ?_ _) | (with_reducible refine Kd.Cf ?_ _) | (with_reducible refine Kd.Di ?_))); (case side2 => exact (Kd.Ba HO_6.out).2.1); rintro e w29 ⟨rfl, hb⟩; refine ⟨_, rfl, ?_⟩; have n0_ := Aa.mk (Kd.Dk (by (with_reducible repeat (first | apply Kd.Ah | apply Kd.Ai | apply Kd.Ak)); exact HO_6.out) hb); have n1_ := Aa.mk (Kd.Dk (by (with_reducible repeat (first | apply Kd.Ah | apply Kd.Ai | apply Kd.Ak)); exact HO_21.out) hb); have n2_ := Aa.mk (Ap (by repeat (first | (with_reducible first | exact HB.out | apply Ae | apply Ac | apply Ad) | exact HB.out)) hb); clear HO_6; clear HO_21; clear HB; have HO_6 := n0_; have HO_21 := n1_; have HB := n2_; clear n0_ n1_ n2_; (try clear hb); (try clear hb2); (try clear hk); (try clear hi)) | (go_at_call 28; (with_reducible refine (Dt.calls k1 _ _ x6_1 t275 _ ?side1 ?side2 ?side3 A26.out).mono ?_); (case side1 => repeat (first | exact (Kd.Ba HO_6.out).2.2 | (with_reducible refine Kd.Ci ?_ _) | (with_reducible refine Kd.Cf ?_ _) | (with_reducible refine Kd.Di ?_))); (case side2 => exact (Kd.Ba HO_6.out).2.1); (case side3 => exact F9.below HGL.out (by repeat (first | (with_reducible first | exact HB.out | apply Ae | apply Ac | apply Ad) | exact HB.out))); rintro e w30 ⟨rfl, hb⟩; have n0_ := Aa.mk (Kd.Dk (by (with_reducible repeat (first | apply Kd.Ah | apply Kd.Ai | apply Kd.Ak)); exact HO_6.out) hb); have n1_ := Aa.mk (Kd.Dk (by (with_reducible repeat (first | apply Kd.Ah | apply Kd.Ai | apply Kd.Ak)); exact HO_21.out) hb); have n2_ := Aa.mk (Ap (by repeat (first | (with_reducible first | exact HB.out | apply Ae | apply Ac | apply Ad) | exact HB.out)) hb); clear HO_6; clear HO_21; clear HB; have HO_6 := n0_; have HO_21 := n1_; have HB := n2_; clear n0_ n1_ n2_; (try clear hb); (try clear hb2); (try clear hk); (try clear hi)))
              go_ret2
              exact ⟨_, by first | rfl | (simp [Be, Bf] <;> rfl) | (simp [*, Be, Bf] <;> rfl), by (with_reducible repeat (first | apply Kd.Ah | apply Kd.Ai | apply Kd.Ak)); exact HO_6.out, by repeat (first | (with_reducible first | exact HB.out | apply Ae | apply Ac | apply Ad) | exact HB.out)⟩
            · rw [if_neg c27] at H
              have c27b0 : (t275.toList == a0.toList) = false := beq_eq_false_iff_ne.mpr c27
              have c27b1 : (t275.toList != a0.toList) = true := bne_iff_ne.mpr c27
              simp only [Option.some.injEq, Prod.mk.injEq] at H
              obtain ⟨rfl, rfl⟩ := H
              obtain ⟨Ao31, co31, eo31⟩ := Kd.Ef HO_6.out
              subst eo31
              go_wp2_with (first | ((with_reducible refine Bv (f := 17) rfl ?_); refine D5 (some 49) rfl rfl Tryd.func17 (by kernel_rfl) rfl #[.slice Ao31 x6_1.length co31] rfl (by (try simp only [List.map_toArray, List.map_cons, List.map_nil]); first | done | rfl | (simp only [List.length_drop, List.length_take]; rfl)) ?_; (with_reducible refine (Cm.calls k1 _ _ x6_1 true _ ?side1 ?side2 A24.out).mono ?_); (case side1 => repeat (first | exact (Kd.Ba HO_6.out).2.2 | (with_reducible refine Kd.Ci ?_ _) | (with_reducible refine Kd.Cf ?_ _) | (with_reducible refine Kd.Di ?_))); (case side2 => exact (Kd.Ba HO_6.out).2.1); rintro e w32 ⟨rfl, hb⟩; refine ⟨_, rfl, ?_⟩; have n0_ := Aa.mk (Kd.Dk (by (with_reducible repeat (first | apply Kd.Ah | apply Kd.Ai | apply Kd.Ak)); exact HO_6.out) hb); have n1_ := Aa.mk (Kd.Dk (by (with_reducible repeat (first | apply Kd.Ah | apply Kd.Ai | apply Kd.Ak)); exact HO_21.out) hb); have n2_ := Aa.mk (Ap (by repeat (first | (with_reducible first | exact HB.out | apply Ae | apply Ac | apply Ad) | exact HB.out)) hb); clear HO_6; clear HO_21; clear HB; have HO_6 := n0_; have HO_21 := n1_; have HB := n2_; clear n0_ n1_ n2_; (try clear hb); (try clear hb2); (try clear hk); (try clear hi)) | (go_at_call 28; (with_reducible refine (Dt.calls k1 _ _ x6_1 t275 _ ?side1 ?side2 ?side3 A26.out).mono ?_); (case side1 => repeat (first | exact (Kd.Ba HO_6.out).2.2 | (with_reducible refine Kd.Ci ?_ _) | (with_reducible refine Kd.Cf ?_ _) | (with_reducible refine Kd.Di ?_))); (case side2 => exact (Kd.Ba HO_6.out).2.1); (case side3 => exact F9.below HGL.out (by repeat (first | (with_reducible first | exact HB.out | apply Ae | apply Ac | apply Ad) | exact HB.out))); rintro e w33 ⟨rfl, hb⟩; have n0_ := Aa.mk (Kd.Dk (by (with_reducible repeat (first | apply Kd.Ah | apply Kd.Ai | apply Kd.Ak)); exact HO_6.out) hb); have n1_ := Aa.mk (Kd.Dk (by (with_reducible repeat (first | apply Kd.Ah | apply Kd.Ai | apply Kd.Ak)); exact HO_21.out) hb); have n2_ := Aa.mk (Ap (by repeat (first | (with_reducible first | exact HB.out | apply Ae | apply Ac | apply Ad) | exact HB.out)) hb); clear HO_6; clear HO_21; clear HB; have HO_6 := n0_; have HO_21 := n1_; have HB := n2_; clear n0_ n1_ n2_; (try clear hb); (try clear hb2); (try clear hk); (try clear hi)))
              go_ret2
              exact ⟨_, by first | rfl | (simp [Be, Bf] <;> rfl) | (simp [*, Be, Bf] <;> rfl), by first | exact Kd.R_nil _ _ _ _ _ | exact Kd.N_nil _ _ _ _ _ | exact Kd.V_nil _ _ _ _ _ | exact Kd.Q_nil _ _ _ _ _ | exact Kd.S_nil _ _ _ _ _, by repeat (first | (with_reducible first | exact HB.out | apply Ae | apply Ac | apply Ad) | exact HB.out)⟩
          · replace c25 := Bool.eq_false_iff.mpr c25
            subst c25
            have H1 : (some (([] : List (S40)), false)) = some (r1, r2) := by rw [if_neg (show ¬ (false = true) by decide)] at H; exact H
            clear H
            have H := H1
            clear H1
            simp only [Option.some.injEq, Prod.mk.injEq] at H
            obtain ⟨rfl, rfl⟩ := H
            obtain ⟨Ao34, co34, eo34⟩ := Kd.Ef HO_6.out
            subst eo34
            go_wp2_with (first | ((with_reducible refine Bv (f := 17) rfl ?_); refine D5 (some 49) rfl rfl Tryd.func17 (by kernel_rfl) rfl #[.slice Ao34 x6_1.length co34] rfl (by (try simp only [List.map_toArray, List.map_cons, List.map_nil]); first | done | rfl | (simp only [List.length_drop, List.length_take]; rfl)) ?_; (with_reducible refine (Cm.calls k1 _ _ x6_1 false _ ?side1 ?side2 A24.out).mono ?_); (case side1 => repeat (first | exact (Kd.Ba HO_6.out).2.2 | (with_reducible refine Kd.Ci ?_ _) | (with_reducible refine Kd.Cf ?_ _) | (with_reducible refine Kd.Di ?_))); (case side2 => exact (Kd.Ba HO_6.out).2.1); rintro e w35 ⟨rfl, hb⟩; refine ⟨_, rfl, ?_⟩; have n0_ := Aa.mk (Kd.Dk (by (with_reducible repeat (first | apply Kd.Ah | apply Kd.Ai | apply Kd.Ak)); exact HO_6.out) hb); have n1_ := Aa.mk (Kd.Dk (by (with_reducible repeat (first | apply Kd.Ah | apply Kd.Ai | apply Kd.Ak)); exact HO_21.out) hb); have n2_ := Aa.mk (Ap (by repeat (first | (with_reducible first | exact HB.out | apply Ae | apply Ac | apply Ad) | exact HB.out)) hb); clear HO_6; clear HO_21; clear HB; have HO_6 := n0_; have HO_21 := n1_; have HB := n2_; clear n0_ n1_ n2_; (try clear hb); (try clear hb2); (try clear hk); (try clear hi)))
            go_ret2
            exact ⟨_, by first | rfl | (simp [Be, Bf] <;> rfl) | (simp [*, Be, Bf] <;> rfl), by first | exact Kd.R_nil _ _ _ _ _ | exact Kd.N_nil _ _ _ _ _ | exact Kd.V_nil _ _ _ _ _ | exact Kd.Q_nil _ _ _ _ _ | exact Kd.S_nil _ _ _ _ _, by repeat (first | (with_reducible first | exact HB.out | apply Ae | apply Ac | apply Ad) | exact HB.out)⟩
  · replace c3 := Bool.eq_false_iff.mpr c3
    subst c3
    have H1 : (some (([] : List (S40)), false)) = some (r1, r2) := by rw [if_neg (show ¬ (false = true) by decide)] at H; exact H
    clear H
    have H := H1
    clear H1
    simp only [Option.some.injEq, Prod.mk.injEq] at H
    obtain ⟨rfl, rfl⟩ := H
    go_enter Tryd.func12, Tryd.ntmps12
    go_wp2_with (first | ((with_reducible refine Bv (f := 32) rfl ?_); refine D5 (some 15) rfl rfl Tryd.func32 (by kernel_rfl) rfl #[.string a0] rfl (by (try simp only [List.map_toArray, List.map_cons, List.map_nil]); first | done | rfl | (simp only [List.length_drop, List.length_take]; rfl)) ?_; (with_reducible refine (Hu.calls a0 t253 false _ ?side1 A2.out).mono ?_); (case side1 => exact F9.below HGL.out (by repeat (first | (with_reducible first | exact HB.out | apply Ae | apply Ac | apply Ad) | exact HB.out))); rintro e w36 ⟨v255, rfl, ho0, hb⟩; refine ⟨_, rfl, ?_⟩; have n0_ := Aa.mk (Kd.Du ho0 (Aq (by repeat (first | (with_reducible first | exact HB.out | apply Ae | apply Ac | apply Ad) | exact HB.out)))); have n1_ := Aa.mk (Ap (by repeat (first | (with_reducible first | exact HB.out | apply Ae | apply Ac | apply Ad) | exact HB.out)) hb); clear HB; have HO256 := n0_; have HB := n1_; clear n0_ n1_; (try clear hb); (try clear hb2); (try clear hk); (try clear hi); (try clear ho0)))
    go_ret2
    exact ⟨_, by first | rfl | (simp [Be, Bf] <;> rfl) | (simp [*, Be, Bf] <;> rfl), by first | exact Kd.R_nil _ _ _ _ _ | exact Kd.N_nil _ _ _ _ _ | exact Kd.V_nil _ _ _ _ _ | exact Kd.Q_nil _ _ _ _ _ | exact Kd.S_nil _ _ _ _ _, by repeat (first | (with_reducible first | exact HB.out | apply Ae | apply Ac | apply Ad) | exact HB.out)⟩
end Go.Proofs.YtpalafegcndccaaDoor.X

namespace Go.Proofs.YtpalafegcndccaaDoor.X
open Go.RowKit Go.Proofs.YtpalafegcndccaaDoorW.PrintWords Go.Proofs.YtpalafegcndccaaDoorW.PrintLast Go.Proofs.YtpalafegcndccaaDoorW.PrintMore
attribute [local go_sem] Ej Eg Eu Ew D9 D8 Ei Eh
open Go.Proofs.YtpalafegcndccaaDoorG
def Ig.f (l0 : List Int) : Option (Bool) := some (decide ((l0.length : Int) > 65536))
set_option maxHeartbeats 8000000 in
set_option maxRecDepth 100000 in
theorem Ig.calls (A0 : Option Addr) (c0 : Nat) (l0 : List Int) (r : Bool) (w : World) (hr0 : Kd.C (Kd.int .u8) w A0 l0.length l0) (hc0 : l0.length ≤ c0) (h : Ig.f l0 = some r) :
    Calls Tryd.prog 15 #[.slice A0 l0.length c0] w fun e w' => e = .returned (.bool r) ∧ Cj w w' := by
  have HR0 := Aa.mk hr0
  have HC0 := Aa.mk hc0
  clear hr0 hc0
  have H : (some (decide ((l0.length : Int) > 65536))) = some r := h
  clear h
  obtain rfl := Option.some.inj H
  go_enter Tryd.func15, Tryd.ntmps15
  go_wp2
  go_ret
  exact ⟨by first | rfl | (simp; done) | (simp [*]; done), by repeat (first | exact Cj.refl _ | apply Cj.step)⟩
end Go.Proofs.YtpalafegcndccaaDoor.X

namespace Go.Proofs.YtpalafegcndccaaDoor.X
open Go.RowKit Go.Proofs.YtpalafegcndccaaDoorW.PrintWords Go.Proofs.YtpalafegcndccaaDoorW.PrintLast Go.Proofs.YtpalafegcndccaaDoorW.PrintMore
attribute [local go_sem] Ej Eg Eu Ew D9 D8 Ei Eh
open Go.Proofs.YtpalafegcndccaaDoorG
def Gw.f (a0 : Int) (a1 : Int) (a2 : Int) : Option (Bool) := if a0 ≥ a1 then (some (decide (a0 ≤ a2))) else (some false)
set_option maxHeartbeats 8000000 in
set_option maxRecDepth 100000 in
theorem Gw.calls (a0 : Int) (a1 : Int) (a2 : Int) (r : Bool) (w : World) (h : Gw.f a0 a1 a2 = some r) :
    Calls Tryd.prog 47 #[.int .i64 a0, .int .i64 a1, .int .i64 a2] w fun e w' => e = .returned (.bool r) ∧ Cj w w' := by
  have H : (if a0 ≥ a1 then (some (decide (a0 ≤ a2))) else (some false)) = some r := h
  clear h
  by_cases c4 : a0 ≥ a1
  · rw [if_pos c4] at H
    have c4b0 : decide (a1 ≤ a0) = true := decide_eq_true c4
    clear c4
    obtain rfl := Option.some.inj H
    go_enter Tryd.func47, Tryd.ntmps47
    go_wp2
    go_ret
    exact ⟨by first | rfl | (simp; done) | (simp [*]; done), by repeat (first | exact Cj.refl _ | apply Cj.step)⟩
  · rw [if_neg c4] at H
    have c4b0 : decide (a1 ≤ a0) = false := decide_eq_false c4
    clear c4
    obtain rfl := Option.some.inj H
    go_enter Tryd.func47, Tryd.ntmps47
    go_wp2
    go_ret
    exact ⟨by first | rfl | (simp; done) | (simp [*]; done), by repeat (first | exact Cj.refl _ | apply Cj.step)⟩
end Go.Proofs.YtpalafegcndccaaDoor.X

namespace Go.Proofs.YtpalafegcndccaaDoor.X
open Go.RowKit Go.Proofs.YtpalafegcndccaaDoorW.PrintWords Go.Proofs.YtpalafegcndccaaDoorW.PrintLast Go.Proofs.YtpalafegcndccaaDoorW.PrintMore
attribute [local go_sem] Ej Eg Eu Ew D9 D8 Ei Eh
open Go.Proofs.YtpalafegcndccaaDoorG
mutual
def Cb.j0 : Nat → Int → Int → Bool → Option (Int)
  | 0, _, _, _ => none
  | k + 1, x0, x1, x5 => if x5 = true then (some 1) else (if x0 = 1 then (Cb.j1 k x0 x1 (x1 == 3)) else (Cb.j1 k x0 x1 false))
def Cb.j1 : Nat → Int → Int → Bool → Option (Int)
  | 0, _, _, _ => none
  | k + 1, x0, x1, x16 => if x16 = true then (some 2) else (if x0 = 2 then (Cb.j2 k x0 x1 (x1 == 4)) else (Cb.j2 k x0 x1 false))
def Cb.j2 : Nat → Int → Int → Bool → Option (Int)
  | 0, _, _, _ => none
  | k + 1, x0, x1, x23 => if x23 = true then (some 1) else (if x0 = 1 then (if x1 = 5 then (some 0) else (if x1 = 6 then (some 0) else (some (-1)))) else (some (-1)))
end
def Cb.f (k : Nat) (a0 : Int) (a1 : Int) : Option (Int) := if a0 = 0 then (if a1 = 1 then (Cb.j0 k a0 a1 true) else (Cb.j0 k a0 a1 (a1 == 2))) else (Cb.j0 k a0 a1 false)
theorem Cb.Et : ∀ k, (∀ y0 y1 y2, LeO (Cb.j0 k y0 y1 y2) (Cb.j0 (k + 1) y0 y1 y2)) ∧ (∀ y0 y1 y2, LeO (Cb.j1 k y0 y1 y2) (Cb.j1 (k + 1) y0 y1 y2)) ∧ (∀ y0 y1 y2, LeO (Cb.j2 k y0 y1 y2) (Cb.j2 (k + 1) y0 y1 y2))
  | 0 => ⟨fun _ _ _ r h => by simp [Cb.j0] at h, fun _ _ _ r h => by simp [Cb.j1] at h, fun _ _ _ r h => by simp [Cb.j2] at h⟩
  | k + 1 => by
    obtain ⟨ih0, ih1, ih2⟩ := Cb.Et k
    refine ⟨?_, ?_, ?_⟩
    · intro y0 y1 y2
      unfold Cb.j0
      repeat' first
      | (with_reducible exact ih0 _ _ _)
      | (with_reducible exact ih1 _ _ _)
      | (with_reducible exact ih2 _ _ _)
      | (with_reducible exact LeO.refl _)
      | (with_reducible exact LeO.none _)
      | (with_reducible refine LeO.ite ?_ ?_)
      | (with_reducible refine LeO.bind ?_ (fun _ => ?_))
      | exact ih0 _ _ _
      | exact ih1 _ _ _
      | exact ih2 _ _ _
      | exact LeO.none _
      | refine LeO.ite ?_ ?_
      | refine LeO.bind ?_ (fun _ => ?_)
    · intro y0 y1 y2
      unfold Cb.j1
      repeat' first
      | (with_reducible exact ih0 _ _ _)
      | (with_reducible exact ih1 _ _ _)
      | (with_reducible exact ih2 _ _ _)
      | (with_reducible exact LeO.refl _)
      | (with_reducible exact LeO.none _)
      | (with_reducible refine LeO.ite ?_ ?_)
      | (with_reducible refine LeO.bind ?_ (fun _ => ?_))
      | exact ih0 _ _ _
      | exact ih1 _ _ _
      | exact ih2 _ _ _
      | exact LeO.none _
      | refine LeO.ite ?_ ?_
      | refine LeO.bind ?_ (fun _ => ?_)
    · intro y0 y1 y2
      unfold Cb.j2
      repeat' first
      | (with_reducible exact ih0 _ _ _)
      | (with_reducible exact ih1 _ _ _)
      | (with_reducible exact ih2 _ _ _)
      | (with_reducible exact LeO.refl _)
      | (with_reducible exact LeO.none _)
      | (with_reducible refine LeO.ite ?_ ?_)
      | (with_reducible refine LeO.bind ?_ (fun _ => ?_))
      | exact ih0 _ _ _
      | exact ih1 _ _ _
      | exact ih2 _ _ _
      | exact LeO.none _
      | refine LeO.ite ?_ ?_
      | refine LeO.bind ?_ (fun _ => ?_)
theorem Cb.mono : ∀ a0 a1 k, LeO (Cb.f k a0 a1) (Cb.f (k + 1) a0 a1) := by
  intro a0 a1 k
  obtain ⟨ih0, ih1, ih2⟩ := Cb.Et k
  unfold Cb.f
  repeat' first
      | (with_reducible exact ih0 _ _ _)
      | (with_reducible exact ih1 _ _ _)
      | (with_reducible exact ih2 _ _ _)
      | (with_reducible exact LeO.refl _)
      | (with_reducible exact LeO.none _)
      | (with_reducible refine LeO.ite ?_ ?_)
      | (with_reducible refine LeO.bind ?_ (fun _ => ?_))
      | exact ih0 _ _ _
      | exact ih1 _ _ _
      | exact ih2 _ _ _
      | exact LeO.none _
      | refine LeO.ite ?_ ?_
      | refine LeO.bind ?_ (fun _ => ?_)
set_option maxHeartbeats 8000000 in
set_option maxRecDepth 100000 in
theorem Cb.calls (k : Nat) (a0 : Int) (a1 : Int) (r : Int) (w : World) (h : Cb.f k a0 a1 = some r) :
    Calls Tryd.prog 48 #[.int .i64 a0, .int .i64 a1] w fun e w' => e = .returned (.int .i64 r) ∧ Cj w w' := by
  have H : (if a0 = 0 then (if a1 = 1 then (Cb.j0 k a0 a1 true) else (Cb.j0 k a0 a1 (a1 == 2))) else (Cb.j0 k a0 a1 false)) = some r := h
  clear h
  have HC3 := Aa.mk H
  clear H
  go_enter Tryd.func48, Tryd.ntmps48
  go_upto_region 1 with (fail)
  go_cut [5] (fun v5 wc => ∃ (kq : Nat) (x5_2 : Bool), v5 = .bool x5_2 ∧ Aa (Cb.j0 kq a0 a1 x5_2 = some r) ∧ Aa (kq ≤ k) ∧ Cj w wc)
  case first =>
    have H := HC3.out
    clear HC3
    by_cases c4 : a0 = 0
    · rw [if_pos c4] at H
      have c4b0 : (a0 == 0) = true := beq_iff_eq.mpr c4
      have c4b1 : (a0 != 0) = false := bne_eq_false_iff_eq.mpr c4
      clear c4
      (first | rw [c4b0] | (simp only [Dh, Dp]; rw [c4b0]) | skip)
      by_cases c5 : a1 = 1
      · rw [if_pos c5] at H
        have c5b0 : (a1 == 1) = true := beq_iff_eq.mpr c5
        have c5b1 : (a1 != 1) = false := bne_eq_false_iff_eq.mpr c5
        clear c5
        have H' := Aa.mk H
        clear H
        go_wp2
        go_meet
        case rel => exact ⟨_, (true), (by first | rfl | (simp; done) | (simp [*]; done)), H', ⟨by first | omega | exact Nat.le_refl _⟩, by repeat (first | exact Cj.refl _ | apply Cj.step)⟩
      · rw [if_neg c5] at H
        have c5b0 : (a1 == 1) = false := beq_eq_false_iff_ne.mpr c5
        have c5b1 : (a1 != 1) = true := bne_iff_ne.mpr c5
        have H' := Aa.mk H
        clear H
        go_wp2
        go_meet
        case rel => exact ⟨_, ((a1 == 2)), (by first | rfl | (simp; done) | (simp [*]; done)), H', ⟨by first | omega | exact Nat.le_refl _⟩, by repeat (first | exact Cj.refl _ | apply Cj.step)⟩
    · rw [if_neg c4] at H
      have c4b0 : (a0 == 0) = false := beq_eq_false_iff_ne.mpr c4
      have c4b1 : (a0 != 0) = true := bne_iff_ne.mpr c4
      (first | rw [c4b0] | (simp only [Dh, Dp]; rw [c4b0]) | skip)
      have H' := Aa.mk H
      clear H
      go_wp2
      go_meet
      case rel => exact ⟨_, (false), (by first | rfl | (simp; done) | (simp [*]; done)), H', ⟨by first | omega | exact Nat.le_refl _⟩, by repeat (first | exact Cj.refl _ | apply Cj.step)⟩
  case rest =>
    clear HC3
    try clear p2
    try clear c4
    try clear c4b0
    try clear c4b1
    try clear c5
    try clear c5b0
    try clear c5b1
    obtain ⟨kq, x5_2, rfl, HA, HJ2, ⟨mc2, rfl⟩⟩ := hcut
    cases kq with
    | zero => exact absurd HA.out (by simp [Cb.j0])
    | succ kj2 =>
      have H := HA.out
      clear HA
      simp only [Cb.j0] at H
      by_cases c6 : x5_2 = true
      · subst c6
        have H1 : (some 1) = some r := by rw [if_pos rfl] at H; exact H
        clear H
        have H := H1
        clear H1
        obtain rfl := Option.some.inj H
        go_wp2
        go_ret
        exact ⟨by first | rfl | (simp; done) | (simp [*]; done), by repeat (first | exact Cj.refl _ | apply Cj.step)⟩
      · replace c6 := Bool.eq_false_iff.mpr c6
        subst c6
        have H1 : (if a0 = 1 then (Cb.j1 kj2 a0 a1 (a1 == 3)) else (Cb.j1 kj2 a0 a1 false)) = some r := by rw [if_neg (show ¬ (false = true) by decide)] at H; exact H
        clear H
        have H := H1
        clear H1
        have HC7 := Aa.mk H
        clear H
        go_upto_region 3 with (fail)
        go_cut [16] (fun v16 wc => ∃ (kq : Nat) (x16_6 : Bool), v16 = .bool x16_6 ∧ Aa (Cb.j1 kq a0 a1 x16_6 = some r) ∧ Aa (kq ≤ kj2) ∧ Cj w wc)
        case first =>
          have H := HC7.out
          clear HC7
          by_cases c8 : a0 = 1
          · rw [if_pos c8] at H
            have c8b0 : (a0 == 1) = true := beq_iff_eq.mpr c8
            have c8b1 : (a0 != 1) = false := bne_eq_false_iff_eq.mpr c8
            clear c8
            (first | rw [c8b0] | (simp only [Dh, Dp]; rw [c8b0]) | skip)
            have H' := Aa.mk H
            clear H
            go_wp2
            go_meet
            case rel => exact ⟨_, ((a1 == 3)), (by first | rfl | (simp; done) | (simp [*]; done)), H', ⟨by have := HJ2.out; first | omega | exact Nat.le_refl _⟩, by repeat (first | exact Cj.refl _ | apply Cj.step)⟩
          · rw [if_neg c8] at H
            have c8b0 : (a0 == 1) = false := beq_eq_false_iff_ne.mpr c8
            have c8b1 : (a0 != 1) = true := bne_iff_ne.mpr c8
            (first | rw [c8b0] | (simp only [Dh, Dp]; rw [c8b0]) | skip)
            have H' := Aa.mk H
            clear H
            go_wp2
            go_meet
            case rel => exact ⟨_, (false), (by first | rfl | (simp; done) | (simp [*]; done)), H', ⟨by have := HJ2.out; first | omega | exact Nat.le_refl _⟩, by repeat (first | exact Cj.refl _ | apply Cj.step)⟩
        case rest =>
          clear HC7
          try clear c2
          try clear p2
          try clear c4
          try clear c4b0
          try clear c4b1
          try clear c5
          try clear c5b0
          try clear c5b1
          try clear c6
          try clear c8
          try clear c8b0
          try clear c8b1
          try clear p2
          obtain ⟨kq, x16_6, rfl, HA, HJ6, ⟨mc6, rfl⟩⟩ := hcut
          cases kq with
          | zero => exact absurd HA.out (by simp [Cb.j1])
          | succ kj6 =>
            have H := HA.out
            clear HA
            simp only [Cb.j1] at H
            by_cases c9 : x16_6 = true
            · subst c9
              have H1 : (some 2) = some r := by rw [if_pos rfl] at H; exact H
              clear H
              have H := H1
              clear H1
              obtain rfl := Option.some.inj H
              go_wp2
              go_ret
              exact ⟨by first | rfl | (simp; done) | (simp [*]; done), by repeat (first | exact Cj.refl _ | apply Cj.step)⟩
            · replace c9 := Bool.eq_false_iff.mpr c9
              subst c9
              have H1 : (if a0 = 2 then (Cb.j2 kj6 a0 a1 (a1 == 4)) else (Cb.j2 kj6 a0 a1 false)) = some r := by rw [if_neg (show ¬ (false = true) by decide)] at H; exact H
              clear H
              have H := H1
              clear H1
              have HC10 := Aa.mk H
              clear H
              go_upto_region 5 with (fail)
              go_cut [23] (fun v23 wc => ∃ (kq : Nat) (x23_9 : Bool), v23 = .bool x23_9 ∧ Aa (Cb.j2 kq a0 a1 x23_9 = some r) ∧ Aa (kq ≤ kj6) ∧ Cj w wc)
              case first =>
                have H := HC10.out
                clear HC10
                by_cases c11 : a0 = 2
                · rw [if_pos c11] at H
                  have c11b0 : (a0 == 2) = true := beq_iff_eq.mpr c11
                  have c11b1 : (a0 != 2) = false := bne_eq_false_iff_eq.mpr c11
                  clear c11
                  (first | rw [c11b0] | (simp only [Dh, Dp]; rw [c11b0]) | skip)
                  have H' := Aa.mk H
                  clear H
                  go_wp2
                  go_meet
                  case rel => exact ⟨_, ((a1 == 4)), (by first | rfl | (simp; done) | (simp [*]; done)), H', ⟨by have := HJ2.out; have := HJ6.out; first | omega | exact Nat.le_refl _⟩, by repeat (first | exact Cj.refl _ | apply Cj.step)⟩
                · rw [if_neg c11] at H
                  have c11b0 : (a0 == 2) = false := beq_eq_false_iff_ne.mpr c11
                  have c11b1 : (a0 != 2) = true := bne_iff_ne.mpr c11
                  (first | rw [c11b0] | (simp only [Dh, Dp]; rw [c11b0]) | skip)
                  have H' := Aa.mk H
                  clear H
                  go_wp2
                  go_meet
                  case rel => exact ⟨_, (false), (by first | rfl | (simp; done) | (simp [*]; done)), H', ⟨by have := HJ2.out; have := HJ6.out; first | omega | exact Nat.le_refl _⟩, by repeat (first | exact Cj.refl _ | apply Cj.step)⟩
              case rest =>
                clear HC10
                try clear c1
                try clear c2
                try clear p2
                try clear c4
                try clear c4b0
                try clear c4b1
                try clear c5
                try clear c5b0
                try clear c5b1
                try clear c6
                try clear c8
                try clear c8b0
                try clear c8b1
                try clear c9
                try clear c11
                try clear c11b0
                try clear c11b1
                try clear p2
                obtain ⟨kq, x23_9, rfl, HA, HJ9, ⟨mc9, rfl⟩⟩ := hcut
                cases kq with
                | zero => exact absurd HA.out (by simp [Cb.j2])
                | succ kj9 =>
                  have H := HA.out
                  clear HA
                  simp only [Cb.j2] at H
                  by_cases c12 : x23_9 = true
                  · subst c12
                    have H1 : (some 1) = some r := by rw [if_pos rfl] at H; exact H
                    clear H
                    have H := H1
                    clear H1
                    obtain rfl := Option.some.inj H
                    go_wp2
                    go_ret
                    exact ⟨by first | rfl | (simp; done) | (simp [*]; done), by repeat (first | exact Cj.refl _ | apply Cj.step)⟩
                  · replace c12 := Bool.eq_false_iff.mpr c12
                    subst c12
                    have H1 : (if a0 = 1 then (if a1 = 5 then (some 0) else (if a1 = 6 then (some 0) else (some (-1)))) else (some (-1))) = some r := by rw [if_neg (show ¬ (false = true) by decide)] at H; exact H
                    clear H
                    have H := H1
                    clear H1
                    by_cases c13 : a0 = 1
                    · rw [if_pos c13] at H
                      have c13b0 : (a0 == 1) = true := beq_iff_eq.mpr c13
                      have c13b1 : (a0 != 1) = false := bne_eq_false_iff_eq.mpr c13
                      clear c13
                      by_cases c14 : a1 = 5
                      · rw [if_pos c14] at H
                        have c14b0 : (a1 == 5) = true := beq_iff_eq.mpr c14
                        have c14b1 : (a1 != 5) = false := bne_eq_false_iff_eq.mpr c14
                        clear c14
                        obtain rfl := Option.some.inj H
                        go_wp2
                        go_ret
                        exact ⟨by first | rfl | (simp; done) | (simp [*]; done), by repeat (first | exact Cj.refl _ | apply Cj.step)⟩
                      · rw [if_neg c14] at H
                        have c14b0 : (a1 == 5) = false := beq_eq_false_iff_ne.mpr c14
                        have c14b1 : (a1 != 5) = true := bne_iff_ne.mpr c14
                        by_cases c15 : a1 = 6
                        · rw [if_pos c15] at H
                          have c15b0 : (a1 == 6) = true := beq_iff_eq.mpr c15
                          have c15b1 : (a1 != 6) = false := bne_eq_false_iff_eq.mpr c15
                          clear c15
                          obtain rfl := Option.some.inj H
                          go_wp2
                          go_ret
                          exact ⟨by first | rfl | (simp; done) | (simp [*]; done), by repeat (first | exact Cj.refl _ | apply Cj.step)⟩
                        · rw [if_neg c15] at H
                          have c15b0 : (a1 == 6) = false := beq_eq_false_iff_ne.mpr c15
                          have c15b1 : (a1 != 6) = true := bne_iff_ne.mpr c15
                          obtain rfl := Option.some.inj H
                          go_wp2
                          go_ret
                          exact ⟨by first | rfl | (simp; done) | (simp [*]; done), by repeat (first | exact Cj.refl _ | apply Cj.step)⟩
                    · rw [if_neg c13] at H
                      have c13b0 : (a0 == 1) = false := beq_eq_false_iff_ne.mpr c13
                      have c13b1 : (a0 != 1) = true := bne_iff_ne.mpr c13
                      obtain rfl := Option.some.inj H
                      go_wp2
                      go_ret
                      exact ⟨by first | rfl | (simp; done) | (simp [*]; done), by repeat (first | exact Cj.refl _ | apply Cj.step)⟩
end Go.Proofs.YtpalafegcndccaaDoor.X

namespace Go.Proofs.YtpalafegcndccaaDoor.X
open Go.RowKit Go.Proofs.YtpalafegcndccaaDoorW.PrintWords Go.Proofs.YtpalafegcndccaaDoorW.PrintLast Go.Proofs.YtpalafegcndccaaDoorW.PrintMore
attribute [local go_sem] Ej Eg Eu Ew D9 D8 Ei Eh
open Go.Proofs.YtpalafegcndccaaDoorG
mutual
def Bh.l0 : Nat → List (S40) → Int → Int → Option (Int)
  | 0, _, _, _ => none
  | k + 1, x0, x3, x4 => if x4 < (x0.length : Int) then (if 0 ≤ x4 then ((Gw.f ((Bc x0 x4).f0) 0 9999).bind fun t102 => (if t102 = true then (if x4 > 0 then (if 0 ≤ (wrap64 (x4 - 1)) then (if (wrap64 (x4 - 1)) < (x0.length : Int) then (Bh.j1 k x0 x3 x4 (decide (((Bc x0 (wrap64 (x4 - 1))).f0) > ((Bc x0 x4).f0)))) else (none)) else (none)) else (Bh.j1 k x0 x3 x4 false)) else (Bh.j1 k x0 x3 x4 true))) else (none)) else (some x3)
def Bh.j1 : Nat → List (S40) → Int → Int → Bool → Option (Int)
  | 0, _, _, _, _ => none
  | k + 1, x0, x3, x4, x38 => if x38 = true then (some (-1)) else (if 0 ≤ x4 then (if x4 < (x0.length : Int) then ((Cb.f k x3 ((Bc x0 x4).f1)).bind fun t106 => (if t106 < 0 then (some (-1)) else (Bh.l0 k x0 t106 (wrap64 (x4 + 1))))) else (none)) else (none))
end
def Bh.f (k : Nat) (l0 : List (S40)) : Option (Int) := if (l0.length : Int) > 20 then (some (-1)) else (Bh.l0 k l0 0 0)
theorem Bh.Et : ∀ k, (∀ y0 y1 y2, LeO (Bh.l0 k y0 y1 y2) (Bh.l0 (k + 1) y0 y1 y2)) ∧ (∀ y0 y1 y2 y3, LeO (Bh.j1 k y0 y1 y2 y3) (Bh.j1 (k + 1) y0 y1 y2 y3))
  | 0 => ⟨fun _ _ _ r h => by simp [Bh.l0] at h, fun _ _ _ _ r h => by simp [Bh.j1] at h⟩
  | k + 1 => by
    obtain ⟨ih0, ih1⟩ := Bh.Et k
    refine ⟨?_, ?_⟩
    · intro y0 y1 y2
      unfold Bh.l0
      repeat' first
      | (with_reducible exact ih0 _ _ _)
      | (with_reducible exact ih1 _ _ _ _)
      | (with_reducible exact Cb.mono _ _ _)
      | (with_reducible exact LeO.refl _)
      | (with_reducible exact LeO.none _)
      | (with_reducible refine LeO.ite ?_ ?_)
      | (with_reducible refine LeO.bind ?_ (fun _ => ?_))
      | exact ih0 _ _ _
      | exact ih1 _ _ _ _
      | exact Cb.mono _ _ _
      | exact LeO.none _
      | refine LeO.ite ?_ ?_
      | refine LeO.bind ?_ (fun _ => ?_)
    · intro y0 y1 y2 y3
      unfold Bh.j1
      repeat' first
      | (with_reducible exact ih0 _ _ _)
      | (with_reducible exact ih1 _ _ _ _)
      | (with_reducible exact Cb.mono _ _ _)
      | (with_reducible exact LeO.refl _)
      | (with_reducible exact LeO.none _)
      | (with_reducible refine LeO.ite ?_ ?_)
      | (with_reducible refine LeO.bind ?_ (fun _ => ?_))
      | exact ih0 _ _ _
      | exact ih1 _ _ _ _
      | exact Cb.mono _ _ _
      | exact LeO.none _
      | refine LeO.ite ?_ ?_
      | refine LeO.bind ?_ (fun _ => ?_)
theorem Bh.mono : ∀ a0 k, LeO (Bh.f k a0) (Bh.f (k + 1) a0) := by
  intro a0 k
  obtain ⟨ih0, ih1⟩ := Bh.Et k
  unfold Bh.f
  repeat' first
      | (with_reducible exact ih0 _ _ _)
      | (with_reducible exact ih1 _ _ _ _)
      | (with_reducible exact Cb.mono _ _ _)
      | (with_reducible exact LeO.refl _)
      | (with_reducible exact LeO.none _)
      | (with_reducible refine LeO.ite ?_ ?_)
      | (with_reducible refine LeO.bind ?_ (fun _ => ?_))
      | exact ih0 _ _ _
      | exact ih1 _ _ _ _
      | exact Cb.mono _ _ _
      | exact LeO.none _
      | refine LeO.ite ?_ ?_
      | refine LeO.bind ?_ (fun _ => ?_)
set_option maxHeartbeats 8000000 in
set_option maxRecDepth 100000 in
theorem Bh.calls (k : Nat) (A0 : Option Addr) (c0 : Nat) (l0 : List (S40)) (r : Int) (w : World) (hr0 : Kd.C k40 w A0 l0.length l0) (hc0 : l0.length ≤ c0) (h : Bh.f k l0 = some r) :
    Calls Tryd.prog 25 #[.slice A0 l0.length c0] w fun e w' => e = .returned (.int .i64 r) ∧ Cj w w' := by
  have HR0 := Aa.mk hr0
  have HC0 := Aa.mk hc0
  clear hr0 hc0
  have H : (if (l0.length : Int) > 20 then (some (-1)) else (Bh.l0 k l0 0 0)) = some r := h
  clear h
  by_cases c2 : (l0.length : Int) > 20
  · rw [if_pos c2] at H
    have c2b0 : decide (20 < (l0.length : Int)) = true := decide_eq_true c2
    have c2b1 : decide (20 < l0.length) = true := decide_eq_true (by omega)
    clear c2
    obtain rfl := Option.some.inj H
    go_enter Tryd.func25, Tryd.ntmps25
    go_wp2
    repeat (go_quiet (fail); try go_wp2)
    go_ret
    exact ⟨by first | rfl | (simp; done) | (simp [*]; done), by repeat (first | exact Cj.refl _ | apply Cj.step)⟩
  · rw [if_neg c2] at H
    have c2b0 : decide (20 < (l0.length : Int)) = false := decide_eq_false c2
    have c2b1 : decide (20 < l0.length) = false := decide_eq_false (by omega)
    clear c2
    have H' := Aa.mk H
    clear H
    go_enter Tryd.func25, Tryd.ntmps25
    go_wp2
    repeat (go_quiet (fail); try go_wp2)
    go_loopg [3, 4] k (fun kq v3 v4 w' => ∃ (x3_1 : Int) (x4_1 : Int), v3 = .int .i64 x3_1 ∧ v4 = .int .i64 x4_1 ∧ Aa (Bh.l0 kq l0 x3_1 x4_1 = some r) ∧ Aa (kq ≤ k) ∧ Cj w w')
    case atStart => exact ⟨(0), (0), (by first | rfl | (simp; done) | (simp [*]; done)), (by first | rfl | (simp; done) | (simp [*]; done)), H', ⟨Nat.le_refl _⟩, by repeat (first | exact Cj.refl _ | apply Cj.step)⟩
    case round =>
      clear H'
      try clear c2
      try clear c2b0
      try clear c2b1
      try clear p2
      obtain ⟨x3_1, x4_1, rfl, rfl, HA, HK1, ⟨m1, rfl⟩⟩ := hrel
      cases gk with
      | zero => exact absurd HA.out (by simp [Bh.l0])
      | succ k1 =>
        have H := HA.out
        clear HA
        simp only [Bh.l0] at H
        by_cases c3 : x4_1 < (l0.length : Int)
        · rw [if_pos c3] at H
          have c3b0 : decide (x4_1 < (l0.length : Int)) = true := decide_eq_true c3
          clear c3
          have HC4 := Aa.mk H
          clear H
          go_upto_region 7 with (fail)
          repeat (go_quiet (fail); go_upto_region 7 with (fail))
          go_cut [38] (fun v38 wc => ∃ (kq : Nat) (x38_3 : Bool), v38 = .bool x38_3 ∧ Aa (Bh.j1 kq l0 x3_1 x4_1 x38_3 = some r) ∧ Aa (kq ≤ k1) ∧ Cj w wc)
          case first =>
            have H := HC4.out
            clear HC4
            by_cases c5 : 0 ≤ x4_1
            · rw [if_pos c5] at H
              have c5b0 : decide (0 ≤ x4_1) = true := decide_eq_true c5
              clear c5
              (first | rw [c5b0] | (simp only [Dh, Dp]; rw [c5b0]) | skip)
              replace H := Option.bind_eq_some_iff.mp H
              obtain ⟨t102, A60, H⟩ := H
              replace H : (if t102 = true then (if x4_1 > 0 then (if 0 ≤ (wrap64 (x4_1 - 1)) then (if (wrap64 (x4_1 - 1)) < (l0.length : Int) then (Bh.j1 k1 l0 x3_1 x4_1 (decide (((Bc l0 (wrap64 (x4_1 - 1))).f0) > ((Bc l0 x4_1).f0)))) else (none)) else (none)) else (Bh.j1 k1 l0 x3_1 x4_1 false)) else (Bh.j1 k1 l0 x3_1 x4_1 true)) = some r := H
              have A6 := Aa.mk A60
              clear A60
              by_cases c7 : t102 = true
              · subst c7
                have H1 : (if x4_1 > 0 then (if 0 ≤ (wrap64 (x4_1 - 1)) then (if (wrap64 (x4_1 - 1)) < (l0.length : Int) then (Bh.j1 k1 l0 x3_1 x4_1 (decide (((Bc l0 (wrap64 (x4_1 - 1))).f0) > ((Bc l0 x4_1).f0)))) else (none)) else (none)) else (Bh.j1 k1 l0 x3_1 x4_1 false)) = some r := by rw [if_pos rfl] at H; exact H
                clear H
                have H := H1
                clear H1
                by_cases c8 : x4_1 > 0
                · rw [if_pos c8] at H
                  have c8b0 : decide (0 < x4_1) = true := decide_eq_true c8
                  clear c8
                  obtain ⟨ji9, hji9⟩ : ∃ j_ : Int, (wrap64 (x4_1 - 1)) = j_ := ⟨_, rfl⟩
                  replace H : (if 0 ≤ (ji9) then (if (ji9) < (l0.length : Int) then (Bh.j1 k1 l0 x3_1 x4_1 (decide (((Bc l0 (ji9)).f0) > ((Bc l0 x4_1).f0)))) else (none)) else (none)) = some r := by first | (rw [hji9] at H; exact H) | (simp only [hji9] at H ⊢; exact H)
                  (try rw [hji9] at A6)
                  have hji9w : (IntKind.i64.wrap (x4_1 - 1)) = ji9 := (Dh _).trans hji9
                  by_cases c10 : 0 ≤ (ji9)
                  · rw [if_pos c10] at H
                    have c10b0 : decide (0 ≤ (ji9)) = true := decide_eq_true c10
                    clear c10
                    by_cases c11 : (ji9) < (l0.length : Int)
                    · rw [if_pos c11] at H
                      have c11b0 : decide ((ji9) < (l0.length : Int)) = true := decide_eq_true c11
                      clear c11
                      have H' := Aa.mk H
                      clear H
                      have p101 : 0 ≤ (x4_1 : Int) := of_decide_eq_true (by first | (with_reducible assumption) | assumption)
                      have q101 : x4_1 < (l0.length : Int) := of_decide_eq_true (by first | (with_reducible assumption) | assumption)
                      obtain ⟨ad101, e101, hx101_0, hx101_1⟩ := F5 HR0.out x4_1 p101 q101
                      cases e101
                      replace p101 := eq_true p101
                      replace q101 := eq_true q101
                      go_wp2_with (first | (go_at_call 47; (with_reducible refine (Gw.calls ((Bc l0 x4_1).f0) 0 9999 true _ A6.out).mono ?_); rintro e w' ⟨rfl, ⟨nd, rfl⟩⟩; (try first | exact ⟨rfl, _, World.drewN_drewN _ _ _⟩ | exact ⟨rfl, _, Eq.trans (World.drewN_drewN _ _ _) (congrArg (World.drewN _) (Nat.add_assoc _ _ _))⟩); have p103 : 0 ≤ ((ji9) : Int) := of_decide_eq_true (by first | (with_reducible assumption) | assumption); have q103 : (ji9) < (l0.length : Int) := of_decide_eq_true (by first | (with_reducible assumption) | assumption); obtain ⟨ad103, e103, hx103_0, hx103_1⟩ := F5 HR0.out (ji9) p103 q103; obtain rfl : ad101 = ad103 := (by injection e103); replace p103 := eq_true p103; replace q103 := eq_true q103; have p104 : 0 ≤ (x4_1 : Int) := of_decide_eq_true (by first | (with_reducible assumption) | assumption); have q104 : x4_1 < (l0.length : Int) := of_decide_eq_true (by first | (with_reducible assumption) | assumption); obtain ⟨ad104, e104, hx104_0, hx104_1⟩ := F5 HR0.out x4_1 p104 q104; obtain rfl : ad101 = ad104 := (by injection e104); replace p104 := eq_true p104; replace q104 := eq_true q104))
                      repeat (go_quiet (first | (go_at_call 47; (with_reducible refine (Gw.calls ((Bc l0 x4_1).f0) 0 9999 true _ A6.out).mono ?_); rintro e w' ⟨rfl, ⟨nd, rfl⟩⟩; (try first | exact ⟨rfl, _, World.drewN_drewN _ _ _⟩ | exact ⟨rfl, _, Eq.trans (World.drewN_drewN _ _ _) (congrArg (World.drewN _) (Nat.add_assoc _ _ _))⟩); have p103 : 0 ≤ ((ji9) : Int) := of_decide_eq_true (by first | (with_reducible assumption) | assumption); have q103 : (ji9) < (l0.length : Int) := of_decide_eq_true (by first | (with_reducible assumption) | assumption); obtain ⟨ad103, e103, hx103_0, hx103_1⟩ := F5 HR0.out (ji9) p103 q103; obtain rfl : ad101 = ad103 := (by injection e103); replace p103 := eq_true p103; replace q103 := eq_true q103; have p104 : 0 ≤ (x4_1 : Int) := of_decide_eq_true (by first | (with_reducible assumption) | assumption); have q104 : x4_1 < (l0.length : Int) := of_decide_eq_true (by first | (with_reducible assumption) | assumption); obtain ⟨ad104, e104, hx104_0, hx104_1⟩ := F5 HR0.out x4_1 p104 q104; obtain rfl : ad101 = ad104 := (by injection e104); replace p104 := eq_true p104; replace q104 := eq_true q104)); try go_wp2_with (first | (go_at_call 47; (with_reducible refine (Gw.calls ((Bc l0 x4_1).f0) 0 9999 true _ A6.out).mono ?_); rintro e w' ⟨rfl, ⟨nd, rfl⟩⟩; (try first | exact ⟨rfl, _, World.drewN_drewN _ _ _⟩ | exact ⟨rfl, _, Eq.trans (World.drewN_drewN _ _ _) (congrArg (World.drewN _) (Nat.add_assoc _ _ _))⟩); have p103 : 0 ≤ ((ji9) : Int) := of_decide_eq_true (by first | (with_reducible assumption) | assumption); have q103 : (ji9) < (l0.length : Int) := of_decide_eq_true (by first | (with_reducible assumption) | assumption); obtain ⟨ad103, e103, hx103_0, hx103_1⟩ := F5 HR0.out (ji9) p103 q103; obtain rfl : ad101 = ad103 := (by injection e103); replace p103 := eq_true p103; replace q103 := eq_true q103; have p104 : 0 ≤ (x4_1 : Int) := of_decide_eq_true (by first | (with_reducible assumption) | assumption); have q104 : x4_1 < (l0.length : Int) := of_decide_eq_true (by first | (with_reducible assumption) | assumption); obtain ⟨ad104, e104, hx104_0, hx104_1⟩ := F5 HR0.out x4_1 p104 q104; obtain rfl : ad101 = ad104 := (by injection e104); replace p104 := eq_true p104; replace q104 := eq_true q104)))
                      go_meet
                      case rel => exact ⟨_, (decide (((Bc l0 (ji9)).f0) > ((Bc l0 x4_1).f0))), (by first | rfl | (simp; done) | (simp only [← hji9] <;> (first | rfl | simp)) | (simp [*]; done)), H', ⟨by have := HK1.out; first | omega | exact Nat.le_refl _⟩, by repeat (first | exact Cj.refl _ | apply Cj.step)⟩
                    · rw [if_neg c11] at H
                      exact absurd H (by simp)
                  · rw [if_neg c10] at H
                    exact absurd H (by simp)
                · rw [if_neg c8] at H
                  have c8b0 : decide (0 < x4_1) = false := decide_eq_false c8
                  clear c8
                  have H' := Aa.mk H
                  clear H
                  have p101 : 0 ≤ (x4_1 : Int) := of_decide_eq_true (by first | (with_reducible assumption) | assumption)
                  have q101 : x4_1 < (l0.length : Int) := of_decide_eq_true (by first | (with_reducible assumption) | assumption)
                  obtain ⟨ad101, e101, hx101_0, hx101_1⟩ := F5 HR0.out x4_1 p101 q101
                  cases e101
                  replace p101 := eq_true p101
                  replace q101 := eq_true q101
                  go_wp2_with (first | (go_at_call 47; (with_reducible refine (Gw.calls ((Bc l0 x4_1).f0) 0 9999 true _ A6.out).mono ?_); rintro e w' ⟨rfl, ⟨nd, rfl⟩⟩; (try first | exact ⟨rfl, _, World.drewN_drewN _ _ _⟩ | exact ⟨rfl, _, Eq.trans (World.drewN_drewN _ _ _) (congrArg (World.drewN _) (Nat.add_assoc _ _ _))⟩)))
                  repeat (go_quiet (first | (go_at_call 47; (with_reducible refine (Gw.calls ((Bc l0 x4_1).f0) 0 9999 true _ A6.out).mono ?_); rintro e w' ⟨rfl, ⟨nd, rfl⟩⟩; (try first | exact ⟨rfl, _, World.drewN_drewN _ _ _⟩ | exact ⟨rfl, _, Eq.trans (World.drewN_drewN _ _ _) (congrArg (World.drewN _) (Nat.add_assoc _ _ _))⟩))); try go_wp2_with (first | (go_at_call 47; (with_reducible refine (Gw.calls ((Bc l0 x4_1).f0) 0 9999 true _ A6.out).mono ?_); rintro e w' ⟨rfl, ⟨nd, rfl⟩⟩; (try first | exact ⟨rfl, _, World.drewN_drewN _ _ _⟩ | exact ⟨rfl, _, Eq.trans (World.drewN_drewN _ _ _) (congrArg (World.drewN _) (Nat.add_assoc _ _ _))⟩))))
                  go_meet
                  case rel => exact ⟨_, (false), (by first | rfl | (simp; done) | (simp [*]; done)), H', ⟨by have := HK1.out; first | omega | exact Nat.le_refl _⟩, by repeat (first | exact Cj.refl _ | apply Cj.step)⟩
              · replace c7 := Bool.eq_false_iff.mpr c7
                subst c7
                have H1 : (Bh.j1 k1 l0 x3_1 x4_1 true) = some r := by rw [if_neg (show ¬ (false = true) by decide)] at H; exact H
                clear H
                have H := H1
                clear H1
                have H' := Aa.mk H
                clear H
                have p101 : 0 ≤ (x4_1 : Int) := of_decide_eq_true (by first | (with_reducible assumption) | assumption)
                have q101 : x4_1 < (l0.length : Int) := of_decide_eq_true (by first | (with_reducible assumption) | assumption)
                obtain ⟨ad101, e101, hx101_0, hx101_1⟩ := F5 HR0.out x4_1 p101 q101
                cases e101
                replace p101 := eq_true p101
                replace q101 := eq_true q101
                go_wp2_with (first | (go_at_call 47; (with_reducible refine (Gw.calls ((Bc l0 x4_1).f0) 0 9999 false _ A6.out).mono ?_); rintro e w' ⟨rfl, ⟨nd, rfl⟩⟩; (try first | exact ⟨rfl, _, World.drewN_drewN _ _ _⟩ | exact ⟨rfl, _, Eq.trans (World.drewN_drewN _ _ _) (congrArg (World.drewN _) (Nat.add_assoc _ _ _))⟩)))
                repeat (go_quiet (first | (go_at_call 47; (with_reducible refine (Gw.calls ((Bc l0 x4_1).f0) 0 9999 false _ A6.out).mono ?_); rintro e w' ⟨rfl, ⟨nd, rfl⟩⟩; (try first | exact ⟨rfl, _, World.drewN_drewN _ _ _⟩ | exact ⟨rfl, _, Eq.trans (World.drewN_drewN _ _ _) (congrArg (World.drewN _) (Nat.add_assoc _ _ _))⟩))); try go_wp2_with (first | (go_at_call 47; (with_reducible refine (Gw.calls ((Bc l0 x4_1).f0) 0 9999 false _ A6.out).mono ?_); rintro e w' ⟨rfl, ⟨nd, rfl⟩⟩; (try first | exact ⟨rfl, _, World.drewN_drewN _ _ _⟩ | exact ⟨rfl, _, Eq.trans (World.drewN_drewN _ _ _) (congrArg (World.drewN _) (Nat.add_assoc _ _ _))⟩))))
                go_meet
                case rel => exact ⟨_, (true), (by first | rfl | (simp; done) | (simp [*]; done)), H', ⟨by have := HK1.out; first | omega | exact Nat.le_refl _⟩, by repeat (first | exact Cj.refl _ | apply Cj.step)⟩
            · rw [if_neg c5] at H
              exact absurd H (by simp)
          case rest =>
            clear HC4
            try clear c1
            try clear p1
            try clear q1
            try clear hx1
            try clear c2
            try clear c2b0
            try clear c2b1
            try clear p2
            try clear c3
            try clear c3b0
            try clear c5
            try clear c5b0
            try clear p6
            try clear c7
            try clear c8
            try clear c8b0
            try clear c10
            try clear c10b0
            try clear p10
            try clear q10
            try clear hx10
            try clear c11
            try clear c11b0
            try clear hx101_0
            try clear hx101_1
            try clear hx103_0
            try clear hx103_1
            try clear hx104_0
            try clear hx104_1
            try clear p101
            try clear p103
            try clear p104
            try clear p2
            try clear q101
            try clear q103
            try clear q104
            obtain ⟨kq, x38_3, rfl, HA, HJ3, ⟨mc3, rfl⟩⟩ := hcut
            cases kq with
            | zero => exact absurd HA.out (by simp [Bh.j1])
            | succ kj3 =>
              have H := HA.out
              clear HA
              simp only [Bh.j1] at H
              by_cases c12 : x38_3 = true
              · subst c12
                have H1 : (some (-1)) = some r := by rw [if_pos rfl] at H; exact H
                clear H
                have H := H1
                clear H1
                obtain rfl := Option.some.inj H
                go_wp2
                repeat (go_quiet (fail); try go_wp2)
                go_ret
                exact ⟨by first | rfl | (simp; done) | (simp [*]; done), by repeat (first | exact Cj.refl _ | apply Cj.step)⟩
              · replace c12 := Bool.eq_false_iff.mpr c12
                subst c12
                have H1 : (if 0 ≤ x4_1 then (if x4_1 < (l0.length : Int) then ((Cb.f kj3 x3_1 ((Bc l0 x4_1).f1)).bind fun t106 => (if t106 < 0 then (some (-1)) else (Bh.l0 kj3 l0 t106 (wrap64 (x4_1 + 1))))) else (none)) else (none)) = some r := by rw [if_neg (show ¬ (false = true) by decide)] at H; exact H
                clear H
                have H := H1
                clear H1
                by_cases c13 : 0 ≤ x4_1
                · rw [if_pos c13] at H
                  have c13b0 : decide (0 ≤ x4_1) = true := decide_eq_true c13
                  clear c13
                  by_cases c14 : x4_1 < (l0.length : Int)
                  · rw [if_pos c14] at H
                    have c14b0 : decide (x4_1 < (l0.length : Int)) = true := decide_eq_true c14
                    clear c14
                    replace H := Option.bind_eq_some_iff.mp H
                    obtain ⟨t106, A150, H⟩ := H
                    replace H : (if t106 < 0 then (some (-1)) else (Bh.l0 kj3 l0 t106 (wrap64 (x4_1 + 1)))) = some r := H
                    have A15 := Aa.mk A150
                    clear A150
                    by_cases c16 : t106 < 0
                    · rw [if_pos c16] at H
                      have c16b0 : decide (t106 < 0) = true := decide_eq_true c16
                      clear c16
                      obtain rfl := Option.some.inj H
                      have p105 : 0 ≤ (x4_1 : Int) := of_decide_eq_true (by first | (with_reducible assumption) | assumption)
                      have q105 : x4_1 < (l0.length : Int) := of_decide_eq_true (by first | (with_reducible assumption) | assumption)
                      obtain ⟨ad105, e105, hx105_0, hx105_1⟩ := F5 HR0.out x4_1 p105 q105
                      cases e105
                      replace p105 := eq_true p105
                      replace q105 := eq_true q105
                      go_wp2_with (first | (go_at_call 48; (with_reducible refine (Cb.calls kj3 x3_1 ((Bc l0 x4_1).f1) t106 _ A15.out).mono ?_); rintro e w' ⟨rfl, ⟨nd, rfl⟩⟩; (try first | exact ⟨rfl, _, World.drewN_drewN _ _ _⟩ | exact ⟨rfl, _, Eq.trans (World.drewN_drewN _ _ _) (congrArg (World.drewN _) (Nat.add_assoc _ _ _))⟩)))
                      repeat (go_quiet (first | (go_at_call 48; (with_reducible refine (Cb.calls kj3 x3_1 ((Bc l0 x4_1).f1) t106 _ A15.out).mono ?_); rintro e w' ⟨rfl, ⟨nd, rfl⟩⟩; (try first | exact ⟨rfl, _, World.drewN_drewN _ _ _⟩ | exact ⟨rfl, _, Eq.trans (World.drewN_drewN _ _ _) (congrArg (World.drewN _) (Nat.add_assoc _ _ _))⟩))); try go_wp2_with (first | (go_at_call 48; (with_reducible refine (Cb.calls kj3 x3_1 ((Bc l0 x4_1).f1) t106 _ A15.out).mono ?_); rintro e w' ⟨rfl, ⟨nd, rfl⟩⟩; (try first | exact ⟨rfl, _, World.drewN_drewN _ _ _⟩ | exact ⟨rfl, _, Eq.trans (World.drewN_drewN _ _ _) (congrArg (World.drewN _) (Nat.add_assoc _ _ _))⟩))))
                      go_ret
                      exact ⟨by first | rfl | (simp; done) | (simp [*]; done), by repeat (first | exact Cj.refl _ | apply Cj.step)⟩
                    · rw [if_neg c16] at H
                      have c16b0 : decide (t106 < 0) = false := decide_eq_false c16
                      clear c16
                      have H' := Aa.mk H
                      clear H
                      have p105 : 0 ≤ (x4_1 : Int) := of_decide_eq_true (by first | (with_reducible assumption) | assumption)
                      have q105 : x4_1 < (l0.length : Int) := of_decide_eq_true (by first | (with_reducible assumption) | assumption)
                      obtain ⟨ad105, e105, hx105_0, hx105_1⟩ := F5 HR0.out x4_1 p105 q105
                      cases e105
                      replace p105 := eq_true p105
                      replace q105 := eq_true q105
                      go_wp2_with (first | (go_at_call 48; (with_reducible refine (Cb.calls kj3 x3_1 ((Bc l0 x4_1).f1) t106 _ A15.out).mono ?_); rintro e w' ⟨rfl, ⟨nd, rfl⟩⟩; (try first | exact ⟨rfl, _, World.drewN_drewN _ _ _⟩ | exact ⟨rfl, _, Eq.trans (World.drewN_drewN _ _ _) (congrArg (World.drewN _) (Nat.add_assoc _ _ _))⟩)))
                      repeat (go_quiet (first | (go_at_call 48; (with_reducible refine (Cb.calls kj3 x3_1 ((Bc l0 x4_1).f1) t106 _ A15.out).mono ?_); rintro e w' ⟨rfl, ⟨nd, rfl⟩⟩; (try first | exact ⟨rfl, _, World.drewN_drewN _ _ _⟩ | exact ⟨rfl, _, Eq.trans (World.drewN_drewN _ _ _) (congrArg (World.drewN _) (Nat.add_assoc _ _ _))⟩))); try go_wp2_with (first | (go_at_call 48; (with_reducible refine (Cb.calls kj3 x3_1 ((Bc l0 x4_1).f1) t106 _ A15.out).mono ?_); rintro e w' ⟨rfl, ⟨nd, rfl⟩⟩; (try first | exact ⟨rfl, _, World.drewN_drewN _ _ _⟩ | exact ⟨rfl, _, Eq.trans (World.drewN_drewN _ _ _) (congrArg (World.drewN _) (Nat.add_assoc _ _ _))⟩))))
                      go_roundg kj3
                      case measure => have := HK1.out; have := HJ3.out; omega
                      case rel => exact ⟨(t106), (wrap64 (x4_1 + 1)), (by first | rfl | (simp; done) | (simp [*]; done)), (by first | rfl | (simp; done) | (simp [*]; done)), H', ⟨by have := HK1.out; have := HJ3.out; omega⟩, by repeat (first | exact Cj.refl _ | apply Cj.step)⟩
                  · rw [if_neg c14] at H
                    exact absurd H (by simp)
                · rw [if_neg c13] at H
                  exact absurd H (by simp)
        · rw [if_neg c3] at H
          have c3b0 : decide (x4_1 < (l0.length : Int)) = false := decide_eq_false c3
          clear c3
          obtain rfl := Option.some.inj H
          go_wp2
          repeat (go_quiet (fail); try go_wp2)
          go_ret
          exact ⟨by first | rfl | (simp; done) | (simp [*]; done), by repeat (first | exact Cj.refl _ | apply Cj.step)⟩
end Go.Proofs.YtpalafegcndccaaDoor.X

namespace Go.Proofs.YtpalafegcndccaaDoor.X
open Go.RowKit Go.Proofs.YtpalafegcndccaaDoorW.PrintWords Go.Proofs.YtpalafegcndccaaDoorW.PrintLast Go.Proofs.YtpalafegcndccaaDoorW.PrintMore
attribute [local go_sem] Ej Eg Eu Ew D9 D8 Ei Eh
open Go.Proofs.YtpalafegcndccaaDoorG
/-- A state of type 69 at block g of W; what its slices lead to came in by w0. -/
def Af (w0 W : World) (g : Nat) (f0 : List Int) (f1 : Int) (f2 : Int) : Prop := ∃ A0 c0, W.heap[g]? = some (.cells #[.slice A0 f0.length c0, .int .i64 f1, .int .u64 f2] 69 (0, 0)) ∧ w0.heap.size ≤ g ∧ Kd.C (Kd.int .u8) w0 A0 f0.length f0
theorem Af.grown {w0 W : World} {g : Nat} {f0 : List Int} {f1 : Int} {f2 : Int} {W1 : World} {row : Option Nat} (h : Af w0 W g f0 f1 f2) (hw : W.grownBy W1 row) (hne : some g ≠ row) : Af w0 W1 g f0 f1 f2 := by
  obtain ⟨A0, c0, hb, hg, hr0⟩ := h
  exact ⟨A0, c0, Gy hb hw hne, hg, hr0⟩
theorem Af.fresh {w0 W : World} {g : Nat} {f0 : List Int} {f1 : Int} {f2 : Int} (h : Af w0 W g f0 f1 f2) : ∀ k, W.heap.size ≤ k → k ≠ g := by
  obtain ⟨A0, c0, hb, hg, hr0⟩ := h
  exact Kd.Ih hb
theorem Af.kept {w0 W : World} {g : Nat} {f0 : List Int} {f1 : Int} {f2 : Int} {W1 : World} {S : Nat → Prop} (h : Af w0 W g f0 f1 f2) (hk : Kept W W1 S) (hne : ¬ S g) : Af w0 W1 g f0 f1 f2 := by
  obtain ⟨A0, c0, hb, hg, hr0⟩ := h
  exact ⟨A0, c0, blk_kept hb hk hne, hg, hr0⟩
theorem Af.below {w0 W : World} {g : Nat} {f0 : List Int} {f1 : Int} {f2 : Int} {W1 : World} (h : Af w0 W g f0 f1 f2) (hw : Below W.heap.size W W1) : Af w0 W1 g f0 f1 f2 := h.grown (grown_of_below hw none) (by simp)
theorem Af.alloc {w0 W : World} {g : Nat} {f0 : List Int} {f1 : Int} {f2 : Int} (h : Af w0 W g f0 f1 f2) (o : Obj) : Af w0 (W.alloc o) g f0 f1 f2 := h.below (Ae (Below.refl _ _) o)
theorem Af.drewN {w0 W : World} {g : Nat} {f0 : List Int} {f1 : Int} {f2 : Int} (h : Af w0 W g f0 f1 f2) (m : Nat) : Af w0 (W.drewN m) g f0 f1 f2 := h
theorem Af.drew {w0 W : World} {g : Nat} {f0 : List Int} {f1 : Int} {f2 : Int} (h : Af w0 W g f0 f1 f2) : Af w0 W.drew g f0 f1 f2 := h
theorem Af.at_ {w0 W : World} {g : Nat} {f0 : List Int} {f1 : Int} {f2 : Int} {w' : World} {m : Nat} (hq : W.drewN m = w') (h : Af w0 W g f0 f1 f2) : Af w0 w' g f0 f1 f2 := by subst hq; exact Af.drewN h m
theorem Af.apart {w0 W : World} {g : Nat} {f0 : List Int} {f1 : Int} {f2 : Int} {α : Type} {d : Kd α} {e : Nat} {base : Nat} {ok : Nat → Prop} {v : Value} {xs : List α} (h : Af w0 W g f0 f1 f2) (ho : d.R e W base ok v xs) (ht : ∀ q, q ∈ e :: d.E → q ≠ 69) : d.R e W base (fun k => ok k ∧ k ≠ g) v xs := by
  obtain ⟨A0, c0, hb, hg, hr0⟩ := h
  exact Kd.R_types ho hb ht
theorem Af.own_ne {w0 W : World} {g : Nat} {f0 : List Int} {f1 : Int} {f2 : Int} {α : Type} {d : Kd α} {e : Nat} {base : Nat} {ok : Nat → Prop} {v : Value} {xs : List α} (h : Af w0 W g f0 f1 f2) (ho : d.R e W base ok v xs) (ht : e ≠ 69) : some g ≠ v.ownBlock := by
  obtain ⟨A0, c0, hb, hg, hr0⟩ := h
  exact Kd.R_ne ho hb ht
theorem Af.lt {w0 W : World} {g : Nat} {f0 : List Int} {f1 : Int} {f2 : Int} (h : Af w0 W g f0 f1 f2) : g < W.heap.size := by
  obtain ⟨A0, c0, hb, hg, hr0⟩ := h
  exact He hb
theorem Af.ge {w0 W : World} {g : Nat} {f0 : List Int} {f1 : Int} {f2 : Int} (h : Af w0 W g f0 f1 f2) : w0.heap.size ≤ g := by
  obtain ⟨A0, c0, hb, hg, hr0⟩ := h
  exact hg
theorem Af.far {w0 W : World} {g : Nat} {f0 : List Int} {f1 : Int} {f2 : Int} {p : Addr} (h : Af w0 W g f0 f1 f2) (hne : g ≠ p.block) (u : Value) : Af w0 (W.setCell p u) g f0 f1 f2 := by
  obtain ⟨A0, c0, hb, hg, hr0⟩ := h
  exact ⟨A0, c0, blk_far hb hne u, hg, hr0⟩
theorem cellS69_0 {W : World} {g : Nat} {A0 : Option Addr} {c0 : Nat} {f0 : List Int} {f1 : Int} {f2 : Int} (h : W.heap[g]? = some (.cells #[.slice A0 f0.length c0, .int .i64 f1, .int .u64 f2] 69 (0, 0))) : W.cell? ⟨g, 0, none⟩ = some (.slice A0 f0.length c0) := (Bd h 0).trans rfl
theorem cellS69_1 {W : World} {g : Nat} {A0 : Option Addr} {c0 : Nat} {f0 : List Int} {f1 : Int} {f2 : Int} (h : W.heap[g]? = some (.cells #[.slice A0 f0.length c0, .int .i64 f1, .int .u64 f2] 69 (0, 0))) : W.cell? ⟨g, 1, none⟩ = some (.int .i64 f1) := (Bd h 1).trans rfl
theorem Af.Dy {w0 W : World} {g : Nat} {f0 : List Int} {f1 : Int} {f2 : Int} (h : Af w0 W g f0 f1 f2) (x : Int) : Af w0 (W.setCell ⟨g, 1, none⟩ (.int .i64 x)) g f0 x f2 := by
  obtain ⟨A0, c0, hb, hg, hr0⟩ := h
  exact ⟨A0, c0, by simpa using blk_set hb 1 (.int .i64 x), hg, hr0⟩
theorem cellS69_2 {W : World} {g : Nat} {A0 : Option Addr} {c0 : Nat} {f0 : List Int} {f1 : Int} {f2 : Int} (h : W.heap[g]? = some (.cells #[.slice A0 f0.length c0, .int .i64 f1, .int .u64 f2] 69 (0, 0))) : W.cell? ⟨g, 2, none⟩ = some (.int .u64 f2) := (Bd h 2).trans rfl
theorem Af.Dx {w0 W : World} {g : Nat} {f0 : List Int} {f1 : Int} {f2 : Int} (h : Af w0 W g f0 f1 f2) (x : Int) : Af w0 (W.setCell ⟨g, 2, none⟩ (.int .u64 x)) g f0 f1 x := by
  obtain ⟨A0, c0, hb, hg, hr0⟩ := h
  exact ⟨A0, c0, by simpa using blk_set hb 2 (.int .u64 x), hg, hr0⟩
theorem Af.new (w0 W : World) (A0 : Option Addr) (c0 : Nat) (f0 : List Int) (f1 : Int) (f2 : Int) (hB : Below w0.heap.size w0 W) (hr0 : Kd.C (Kd.int .u8) w0 A0 f0.length f0) : Af w0 (W.alloc (.cells #[.slice A0 f0.length c0, .int .i64 f1, .int .u64 f2] 69)) W.heap.size f0 f1 f2 := ⟨A0, c0, by simpa using heap_alloc_new W _, hB.size, hr0⟩
def Gp.f (s0_0 : List Int) (s0_1 : Int) (s0_2 : Int) : Option (Int × Int × Int) := if s0_1 < (s0_0.length : Int) then (if 0 ≤ s0_1 then (if (wrap64 (s0_1 + 1)) ≤ (s0_0.length : Int) then (some (wrap64 (rd s0_0 s0_1), wrap64 (s0_1 + 1), IntKind.u64.wrap ((IntKind.u64.wrap ((IntKind.u64.wrap (s0_2 * 6364136223846793005)) + (IntKind.u64.wrap (wrap64 (rd s0_0 s0_1))))) + 906906))) else (some (wrap64 (Go.bits .and .u64 ((IntKind.u64.wrap ((IntKind.u64.wrap ((IntKind.u64.wrap (s0_2 * 6364136223846793005)) + (IntKind.u64.wrap (wrap64 (rd s0_0 s0_1))))) + 906906)) / 1099511627776) 255), wrap64 (s0_1 + 1), IntKind.u64.wrap ((IntKind.u64.wrap ((IntKind.u64.wrap (s0_2 * 6364136223846793005)) + (IntKind.u64.wrap (wrap64 (rd s0_0 s0_1))))) + 906906)))) else (none)) else (if (wrap64 (s0_1 + 1)) ≤ (s0_0.length : Int) then (some (0, wrap64 (s0_1 + 1), IntKind.u64.wrap ((IntKind.u64.wrap ((IntKind.u64.wrap (s0_2 * 6364136223846793005)))) + 906906))) else (some (wrap64 (Go.bits .and .u64 ((IntKind.u64.wrap ((IntKind.u64.wrap ((IntKind.u64.wrap (s0_2 * 6364136223846793005)))) + 906906)) / 1099511627776) 255), wrap64 (s0_1 + 1), IntKind.u64.wrap ((IntKind.u64.wrap ((IntKind.u64.wrap (s0_2 * 6364136223846793005)))) + 906906))))
set_option maxHeartbeats 8000000 in
set_option maxRecDepth 100000 in
theorem Gp.calls (g : Nat) (s0_0 : List Int) (s0_1 : Int) (s0_2 : Int) (r1 : Int) (r2 : Int) (r3 : Int) (w0 w : World) (hI : Af w0 w g s0_0 s0_1 s0_2) (hB : Below w0.heap.size w0 w) (h : Gp.f s0_0 s0_1 s0_2 = some (r1, r2, r3)) :
    Calls Tryd.prog 60 #[.pointer (some ⟨g, 0, none⟩)] w fun e w' => e = .returned (.int .i64 r1) ∧ Af w0 w' g s0_0 r2 r3 ∧ Below w0.heap.size w0 w' ∧ Bi w w' g none := by
  have HI0 := Aa.mk hI
  have HK := Aa.mk (Bi.refl w g none)
  have HL := Aa.mk hB.size
  clear hI
  have HW0 := Aa.mk hB.size
  have HB := Aa.mk hB
  clear hB
  have H : (if s0_1 < (s0_0.length : Int) then (if 0 ≤ s0_1 then (if (wrap64 (s0_1 + 1)) ≤ (s0_0.length : Int) then (some (wrap64 (rd s0_0 s0_1), wrap64 (s0_1 + 1), IntKind.u64.wrap ((IntKind.u64.wrap ((IntKind.u64.wrap (s0_2 * 6364136223846793005)) + (IntKind.u64.wrap (wrap64 (rd s0_0 s0_1))))) + 906906))) else (some (wrap64 (Go.bits .and .u64 ((IntKind.u64.wrap ((IntKind.u64.wrap ((IntKind.u64.wrap (s0_2 * 6364136223846793005)) + (IntKind.u64.wrap (wrap64 (rd s0_0 s0_1))))) + 906906)) / 1099511627776) 255), wrap64 (s0_1 + 1), IntKind.u64.wrap ((IntKind.u64.wrap ((IntKind.u64.wrap (s0_2 * 6364136223846793005)) + (IntKind.u64.wrap (wrap64 (rd s0_0 s0_1))))) + 906906)))) else (none)) else (if (wrap64 (s0_1 + 1)) ≤ (s0_0.length : Int) then (some (0, wrap64 (s0_1 + 1), IntKind.u64.wrap ((IntKind.u64.wrap ((IntKind.u64.wrap (s0_2 * 6364136223846793005)))) + 906906))) else (some (wrap64 (Go.bits .and .u64 ((IntKind.u64.wrap ((IntKind.u64.wrap ((IntKind.u64.wrap (s0_2 * 6364136223846793005)))) + 906906)) / 1099511627776) 255), wrap64 (s0_1 + 1), IntKind.u64.wrap ((IntKind.u64.wrap ((IntKind.u64.wrap (s0_2 * 6364136223846793005)))) + 906906))))) = some (r1, r2, r3) := h
  clear h
  by_cases c2 : s0_1 < (s0_0.length : Int)
  · rw [if_pos c2] at H
    have c2b0 : decide (s0_1 < (s0_0.length : Int)) = true := decide_eq_true c2
    clear c2
    by_cases c3 : 0 ≤ s0_1
    · rw [if_pos c3] at H
      have c3b0 : decide (0 ≤ s0_1) = true := decide_eq_true c3
      clear c3
      by_cases c4 : (wrap64 (s0_1 + 1)) ≤ (s0_0.length : Int)
      · rw [if_pos c4] at H
        have c4b0 : decide ((wrap64 (s0_1 + 1)) ≤ (s0_0.length : Int)) = true := decide_eq_true c4
        clear c4
        simp only [Option.some.injEq, Prod.mk.injEq] at H
        obtain ⟨rfl, rfl, rfl⟩ := H
        obtain ⟨ASz5_0, cSz5_0, HGz5, hgz5, HSz5_0⟩ := HI0.out
        have hcz5_0 := cellS69_0 HGz5
        have hcz5_1 := cellS69_1 HGz5
        have hcz5_2 := cellS69_2 HGz5
        have hfz5_1 := Bl HGz5 1
        have hfz5_2 := Bl HGz5 2
        clear HGz5 hgz5
        have p298 : 0 ≤ (s0_1 : Int) := of_decide_eq_true (by first | (with_reducible assumption) | assumption)
        have q298 : s0_1 < (s0_0.length : Int) := of_decide_eq_true (by first | (with_reducible assumption) | assumption)
        obtain ⟨ad298, e298, hx298_0⟩ := Kd.at_int HSz5_0 s0_1 p298 q298
        cases e298
        replace hx298_0 := I4 HB.out hx298_0
        replace p298 := eq_true p298
        replace q298 := eq_true q298
        go_enter Tryd.func60, Tryd.ntmps60
        go_wp2
        repeat (go_quiet (fail); try go_wp2)
        go_ret
        exact ⟨by first | rfl | (simp [Be, Bf] <;> rfl) | (simp [*, Be, Bf] <;> rfl), by repeat (first | (with_reducible first | exact HI0.out | apply Af.alloc | apply Af.drewN | apply Af.drew | apply Af.Dy | apply Af.Dx) | exact HI0.out), by repeat (first | (with_reducible first | exact HB.out | apply Ae | apply Ac | apply Ad | refine Ag ?_ (Af.ge HI0.out)) | exact HB.out), by repeat (first | (with_reducible first | exact HK.out | apply Bi.E8 | apply C9 | apply Dl | apply Dc) | exact HK.out)⟩
      · rw [if_neg c4] at H
        have c4b0 : decide ((wrap64 (s0_1 + 1)) ≤ (s0_0.length : Int)) = false := decide_eq_false c4
        clear c4
        simp only [Option.some.injEq, Prod.mk.injEq] at H
        obtain ⟨rfl, rfl, rfl⟩ := H
        obtain ⟨ASz6_0, cSz6_0, HGz6, hgz6, HSz6_0⟩ := HI0.out
        have hcz6_0 := cellS69_0 HGz6
        have hcz6_1 := cellS69_1 HGz6
        have hcz6_2 := cellS69_2 HGz6
        have hfz6_1 := Bl HGz6 1
        have hfz6_2 := Bl HGz6 2
        clear HGz6 hgz6
        have p298 : 0 ≤ (s0_1 : Int) := of_decide_eq_true (by first | (with_reducible assumption) | assumption)
        have q298 : s0_1 < (s0_0.length : Int) := of_decide_eq_true (by first | (with_reducible assumption) | assumption)
        obtain ⟨ad298, e298, hx298_0⟩ := Kd.at_int HSz6_0 s0_1 p298 q298
        cases e298
        replace hx298_0 := I4 HB.out hx298_0
        replace p298 := eq_true p298
        replace q298 := eq_true q298
        go_enter Tryd.func60, Tryd.ntmps60
        go_wp2
        repeat (go_quiet (fail); try go_wp2)
        go_ret
        exact ⟨by first | rfl | (simp [Be, Bf] <;> rfl) | (simp [*, Be, Bf] <;> rfl), by repeat (first | (with_reducible first | exact HI0.out | apply Af.alloc | apply Af.drewN | apply Af.drew | apply Af.Dy | apply Af.Dx) | exact HI0.out), by repeat (first | (with_reducible first | exact HB.out | apply Ae | apply Ac | apply Ad | refine Ag ?_ (Af.ge HI0.out)) | exact HB.out), by repeat (first | (with_reducible first | exact HK.out | apply Bi.E8 | apply C9 | apply Dl | apply Dc) | exact HK.out)⟩
    · rw [if_neg c3] at H
      exact absurd H (by simp)
  · rw [if_neg c2] at H
    have c2b0 : decide (s0_1 < (s0_0.length : Int)) = false := decide_eq_false c2
    clear c2
    by_cases c7 : (wrap64 (s0_1 + 1)) ≤ (s0_0.length : Int)
    · rw [if_pos c7] at H
      have c7b0 : decide ((wrap64 (s0_1 + 1)) ≤ (s0_0.length : Int)) = true := decide_eq_true c7
      clear c7
      simp only [Option.some.injEq, Prod.mk.injEq] at H
      obtain ⟨rfl, rfl, rfl⟩ := H
      obtain ⟨ASz8_0, cSz8_0, HGz8, hgz8, HSz8_0⟩ := HI0.out
      have hcz8_0 := cellS69_0 HGz8
      have hcz8_1 := cellS69_1 HGz8
      have hcz8_2 := cellS69_2 HGz8
      have hfz8_1 := Bl HGz8 1
      have hfz8_2 := Bl HGz8 2
      clear HGz8 hgz8
      go_enter Tryd.func60, Tryd.ntmps60
      go_wp2
      repeat (go_quiet (fail); try go_wp2)
      go_ret
      exact ⟨by first | rfl | (simp [Be, Bf] <;> rfl) | (simp [*, Be, Bf] <;> rfl), by repeat (first | (with_reducible first | exact HI0.out | apply Af.alloc | apply Af.drewN | apply Af.drew | apply Af.Dy | apply Af.Dx) | exact HI0.out), by repeat (first | (with_reducible first | exact HB.out | apply Ae | apply Ac | apply Ad | refine Ag ?_ (Af.ge HI0.out)) | exact HB.out), by repeat (first | (with_reducible first | exact HK.out | apply Bi.E8 | apply C9 | apply Dl | apply Dc) | exact HK.out)⟩
    · rw [if_neg c7] at H
      have c7b0 : decide ((wrap64 (s0_1 + 1)) ≤ (s0_0.length : Int)) = false := decide_eq_false c7
      clear c7
      simp only [Option.some.injEq, Prod.mk.injEq] at H
      obtain ⟨rfl, rfl, rfl⟩ := H
      obtain ⟨ASz9_0, cSz9_0, HGz9, hgz9, HSz9_0⟩ := HI0.out
      have hcz9_0 := cellS69_0 HGz9
      have hcz9_1 := cellS69_1 HGz9
      have hcz9_2 := cellS69_2 HGz9
      have hfz9_1 := Bl HGz9 1
      have hfz9_2 := Bl HGz9 2
      clear HGz9 hgz9
      go_enter Tryd.func60, Tryd.ntmps60
      go_wp2
      repeat (go_quiet (fail); try go_wp2)
      go_ret
      exact ⟨by first | rfl | (simp [Be, Bf] <;> rfl) | (simp [*, Be, Bf] <;> rfl), by repeat (first | (with_reducible first | exact HI0.out | apply Af.alloc | apply Af.drewN | apply Af.drew | apply Af.Dy | apply Af.Dx) | exact HI0.out), by repeat (first | (with_reducible first | exact HB.out | apply Ae | apply Ac | apply Ad | refine Ag ?_ (Af.ge HI0.out)) | exact HB.out), by repeat (first | (with_reducible first | exact HK.out | apply Bi.E8 | apply C9 | apply Dl | apply Dc) | exact HK.out)⟩
end Go.Proofs.YtpalafegcndccaaDoor.X

