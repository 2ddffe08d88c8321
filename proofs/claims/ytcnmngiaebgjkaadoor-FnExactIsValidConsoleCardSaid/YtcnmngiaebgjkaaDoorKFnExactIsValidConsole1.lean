/- Texts that the proof of the law FnExactIsValidConsole leans on, part 2 of 6. -/
import Derived.Test.YtcnmngiaebgjkaaDoorProg
import Derived.Lib.LaidTab
import Derived.Lib.AppendIntMem
import Derived.WalkSmall
import Derived.Below
import Derived.Deep.Draws
import Derived.Deep.AppendLies
import Derived.Maps.AppendAt
import Derived.OwnWalk
import Derived.Laws.BytesArg
import Derived.Laws.MakeOwn
import Derived.Laws.OwnMore
import Derived.Deep.OwnRows
import Derived.Tactics
import Derived.Lib.ConvBytes
import Derived.Laws.Slices
import Derived.WalkKit
import Derived.KernelRfl
import Derived.RowKit3
import Derived.Deep.LoopGhost
import Derived.Deep.QuietTactic
import Derived.BigQuiet
import Derived.WideLaws
import Derived.Deep.DeepCutAuto
import Derived.Deep.CutBlock
import Derived.Deep.RegionHeld3
import Derived.Laws.Rows
import Derived.Lib.AppendStr
import Derived.ArgAppend
import Derived.Laws.IdiomCopy
import Derived.OrdersHeld
import Derived.Laws.BitsLemmas
import Derived.RowKit
import Derived.Test.YtcnmngiaebgjkaaDoorKFnExactIsValidConsole0
set_option linter.unusedVariables false
set_option linter.unusedSimpArgs false
namespace Go.Proofs.YtcnmngiaebgjkaaDoorG
open Go.RowKit Go.Proofs.YtcnmngiaebgjkaaDoorW.PrintWords
/-- internal/strconv.uint64pow10 reads as the powers of ten. -/
def Gf (w : World) : Prop := (∃ g, Tryd.prog.globalNamed "internal/strconv.uint64pow10" = some g ∧ g < w.heap.size) ∧ Lib.TabIs Tryd.prog w "internal/strconv.uint64pow10" .u64 Lib.pow10Tab
theorem Gf.below {w w' : World} (h : Gf w) (hb : Below w.heap.size w w') : Gf w' := by
  obtain ⟨⟨g, hg, hlt⟩, ht⟩ := h
  exact ⟨⟨g, hg, Nat.lt_of_lt_of_le hlt hb.size⟩, var?_below hb hg hlt ht⟩
/-- From the table as it is read to the fact. -/
theorem Gf.of_tab {W : World} (h0 : laidMet Tryd.prog [("internal/strconv.uint64pow10", Lib.tabData .u64 Lib.pow10Tab)] W) : Gf W := by
  have h : Lib.TabIs Tryd.prog W "internal/strconv.uint64pow10" .u64 Lib.pow10Tab := Lib.tabIs_of_head (g := 1) (t := 127) (e := 113) (n := 20) (by kernel_rfl) (by kernel_rfl) (by kernel_rfl) (by kernel_rfl) (by kernel_rfl) (by kernel_rfl) h0
  refine ⟨?_, h⟩
  have hn : Tryd.prog.globalNamed "internal/strconv.uint64pow10" = some 1 := by kernel_rfl
  refine ⟨_, hn, ?_⟩
  unfold Lib.TabIs World.var? at h
  rw [hn] at h
  simp only [Option.bind_some] at h
  cases hh : W.heap[1]? with
  | none => rw [hh] at h; cases h
  | some o => exact (Array.getElem?_eq_some_iff.1 hh).1
end Go.Proofs.YtcnmngiaebgjkaaDoorG

namespace Go.Proofs.YtcnmngiaebgjkaaDoor.X
open Go.RowKit Go.Proofs.YtcnmngiaebgjkaaDoorW.PrintWords Go.Proofs.YtcnmngiaebgjkaaDoorW.PrintLast Go.Proofs.YtcnmngiaebgjkaaDoorW.PrintMore
attribute [local go_sem] Dn Dk D5 Dz Cj Cm Dj Dl
open Go.Proofs.YtcnmngiaebgjkaaDoorG

def errW : Option Int → Value
  | none => .nilIface
  | some c => .iface 0 (.int .i64 c)
theorem Aq : errW none = .nilIface := rfl
theorem Au (c : Int) : errW (some c) = .iface 0 (.int .i64 c) := rfl
theorem info3 : (Tryd.prog.info? 3).map (fun i => (i.zero, i.size, i.bytes)) = some (some (.int .i64 0), 1, 8) := by kernel_rfl
theorem info9 : (Tryd.prog.info? 9).map (fun i => (i.zero, i.size, i.bytes)) = some (some (.string ⟨#[]⟩), 1, 16) := by kernel_rfl
theorem info59 : (Tryd.prog.info? 59).map (fun i => (i.zero, i.size, i.bytes)) = some (some (.slice none 0 0), 1, 24) := by kernel_rfl
theorem info81 : (Tryd.prog.info? 81).map (fun i => (i.zero, i.size, i.bytes)) = some (some (.agg #[(.string ⟨#[]⟩), (.string ⟨#[]⟩)]), 2, 32) := by kernel_rfl
-- the values' own types
def Bo (xs : List (List Int)) (i : Int) : (List Int) := xs.getD i.toNat ([] : List Int)
theorem Gm {w : World} {A : Option Addr} {n : Nat} {xs : List (List Int)} (h : Kd.C (Kd.slice 3 (Kd.int .i64)) w A n xs) (i : Int) (h0 : 0 ≤ i) (h1 : i < n) : ∃ ad A0 c0, A = some ad ∧ w.cell? (ad.add i.toNat) = some (.slice A0 (Bo xs i).length c0) ∧ (Bo xs i).length ≤ c0 ∧ (Kd.int .i64).C w A0 (Bo xs i).length (Bo xs i) := by
  obtain ⟨ad, c, e, _, hK, hc0⟩ := Kd.C_get h ([] : List Int) i h0 h1
  have hc : ∀ j u, c[j]? = some u → w.cell? (ad.add (i.toNat * 1 + j)) = some u := hc0
  obtain ⟨A0, c0, rfl, l0, g0⟩ := hK
  exact ⟨ad, A0, c0, e, by have hq := hc 0 _ rfl; rwa [Nat.mul_one, Nat.add_zero] at hq, l0, g0⟩
structure S81 where
  f0 : ByteArray
  f1 : ByteArray
def k81 : Kd S81 := Kd.iso (Kd.pair Kd.string Kd.string) (fun x : S81 => (x.f0, x.f1))
theorem k81_mkM (w : World) (base : Nat) (ok : Nat → Prop) (x : S81)  : k81.M w base ok x [.string x.f0, .string x.f1] := ⟨[.string x.f0], [.string x.f1], rfl, rfl, rfl⟩
structure S35 where
  f0 : (List (List Int))
structure S36 where
  f0 : Int
  f1 : (List (List Int))
structure S39 where
  f0 : ByteArray
  f1 : ByteArray
  f2 : Int
structure S24 where
  f0 : (List (List Int))
def k24 : Kd S24 := Kd.iso (Kd.slice 59 (Kd.slice 3 (Kd.int .i64))) (fun x : S24 => x.f0)
theorem k24_open {w : World} {x : S24} {cs : List Value} (h : k24.K w x cs) : ∃ A0 c0, cs = [.slice A0 x.f0.length c0] ∧ x.f0.length ≤ c0 ∧ (Kd.slice 3 (Kd.int .i64)).C w A0 x.f0.length x.f0 := by
  obtain ⟨A0, c0, rfl, l0, g0⟩ := h
  exact ⟨A0, c0, rfl, l0, g0⟩
structure S26 where
  f0 : Int
  f1 : (List (List Int))
def k26 : Kd S26 := Kd.iso (Kd.pair (Kd.int .i64) (Kd.slice 59 (Kd.slice 3 (Kd.int .i64)))) (fun x : S26 => (x.f0, x.f1))
theorem k26_open {w : World} {x : S26} {cs : List Value} (h : k26.K w x cs) : ∃ A1 c1, cs = [.int .i64 x.f0, .slice A1 x.f1.length c1] ∧ x.f1.length ≤ c1 ∧ (Kd.slice 3 (Kd.int .i64)).C w A1 x.f1.length x.f1 := by
  obtain ⟨_, _, rfl, rfl, ⟨A1, c1, rfl, l1, g1⟩⟩ := h
  exact ⟨A1, c1, rfl, l1, g1⟩
structure S28 where
  f0 : S24
  f1 : S26
def k28 : Kd S28 := Kd.iso (Kd.pair k24 k26) (fun x : S28 => (x.f0, x.f1))
theorem k28_open {w : World} {x : S28} {cs : List Value} (h : k28.K w x cs) : ∃ A0 c0 A2 c2, cs = [.slice A0 x.f0.f0.length c0, .int .i64 x.f1.f0, .slice A2 x.f1.f1.length c2] ∧ x.f0.f0.length ≤ c0 ∧ (Kd.slice 3 (Kd.int .i64)).C w A0 x.f0.f0.length x.f0.f0 ∧ x.f1.f1.length ≤ c2 ∧ (Kd.slice 3 (Kd.int .i64)).C w A2 x.f1.f1.length x.f1.f1 := by
  obtain ⟨_, _, rfl, s0, s1⟩ := h
  obtain ⟨A0, c0, rfl, l0, g0⟩ := k24_open s0
  obtain ⟨A2, c2, rfl, l2, g2⟩ := k26_open s1
  exact ⟨A0, c0, A2, c2, rfl, l0, g0, l2, g2⟩
structure S30 where
  f0 : ByteArray
  f1 : ByteArray
  f2 : Int
def k30 : Kd S30 := Kd.iso (Kd.pair Kd.string (Kd.pair Kd.string (Kd.int .i64))) (fun x : S30 => (x.f0, x.f1, x.f2))
theorem k30_open {w : World} {x : S30} {cs : List Value} (h : k30.K w x cs) : cs = [.string x.f0, .string x.f1, .int .i64 x.f2] := by
  obtain ⟨_, _, rfl, rfl, ⟨_, _, rfl, rfl, rfl⟩⟩ := h
  exact rfl
structure S32 where
  f0 : S28
  f1 : S30
def k32 : Kd S32 := Kd.iso (Kd.pair k28 k30) (fun x : S32 => (x.f0, x.f1))
theorem k32_open {w : World} {x : S32} {cs : List Value} (h : k32.K w x cs) : ∃ A0 c0 A2 c2, cs = [.slice A0 x.f0.f0.f0.length c0, .int .i64 x.f0.f1.f0, .slice A2 x.f0.f1.f1.length c2, .string x.f1.f0, .string x.f1.f1, .int .i64 x.f1.f2] ∧ x.f0.f0.f0.length ≤ c0 ∧ (Kd.slice 3 (Kd.int .i64)).C w A0 x.f0.f0.f0.length x.f0.f0.f0 ∧ x.f0.f1.f1.length ≤ c2 ∧ (Kd.slice 3 (Kd.int .i64)).C w A2 x.f0.f1.f1.length x.f0.f1.f1 := by
  obtain ⟨_, _, rfl, s0, s3⟩ := h
  obtain ⟨A0, c0, A2, c2, rfl, l0, g0, l2, g2⟩ := k28_open s0
  obtain rfl := k30_open s3
  exact ⟨A0, c0, A2, c2, rfl, l0, g0, l2, g2⟩
end Go.Proofs.YtcnmngiaebgjkaaDoor.X

namespace Go.Proofs.YtcnmngiaebgjkaaDoor.X
open Go.RowKit Go.Proofs.YtcnmngiaebgjkaaDoorW.PrintWords Go.Proofs.YtcnmngiaebgjkaaDoorW.PrintLast Go.Proofs.YtcnmngiaebgjkaaDoorW.PrintMore
attribute [local go_sem] Dn Dk D5 Dz Cj Cm Dj Dl
open Go.Proofs.YtcnmngiaebgjkaaDoorG
def Ig.f (a0_0 : ByteArray) (a0_1 : ByteArray) (a0_2 : Int) (a1 : Int) : Option (Int) := if (wrap64 (a1 - (a0_0.size : Int))) < 0 then (some (-1)) else (if (wrap64 ((wrap64 (a1 - (a0_0.size : Int))) - (a0_1.size : Int))) < 0 then (some (-1)) else (some (wrap64 ((wrap64 (a1 - (a0_0.size : Int))) - (a0_1.size : Int)))))
set_option maxHeartbeats 8000000 in
set_option maxRecDepth 100000 in
theorem Ig.calls (a0_0 : ByteArray) (a0_1 : ByteArray) (a0_2 : Int) (a1 : Int) (r : Int) (w : World) (h : Ig.f a0_0 a0_1 a0_2 a1 = some r) :
    Calls Tryd.prog 10 #[.agg #[.string a0_0, .string a0_1, .int .i64 a0_2], .int .i64 a1] w fun e w' => e = .returned (.int .i64 r) ∧ Below w.heap.size w w' := by
  have hu30 := Tryd.underlying30
  have HB := Ac.mk (Below.refl w.heap.size w)
  have H : (if (wrap64 (a1 - (a0_0.size : Int))) < 0 then (some (-1)) else (if (wrap64 ((wrap64 (a1 - (a0_0.size : Int))) - (a0_1.size : Int))) < 0 then (some (-1)) else (some (wrap64 ((wrap64 (a1 - (a0_0.size : Int))) - (a0_1.size : Int)))))) = some r := h
  clear h
  by_cases c3 : (wrap64 (a1 - (a0_0.size : Int))) < 0
  · rw [if_pos c3] at H
    have c3b0 : decide ((wrap64 (a1 - (a0_0.size : Int))) < 0) = true := decide_eq_true c3
    clear c3
    obtain rfl := Option.some.inj H
    go_enter Tryd.func10, Tryd.ntmps10
    go_wp2_with (first | ((with_reducible refine Bd (N := 2) rfl ?_); refine Bc ?hg (N := 2) ?hd (cs := #[.string a0_0, .string a0_1, .int .i64 a0_2]) (t := 30) ?hr ?_; (case hd => rfl); (case hg => rfl); (case hr => first | (go_simp; done) | (go_simp; rfl)); intro gb110 hg w4 hbox hb; have n0_ := Ac.mk (Ap (by repeat (first | (with_reducible first | exact HB.out | apply Ad | apply Aa | apply Ae) | exact HB.out)) hb); have n1_ := Ac.mk (hbox); have n2_ := Ac.mk ((by rw [hg]; exact (Am (by repeat (first | (with_reducible first | exact HB.out | apply Ad | apply Aa | apply Ae) | exact HB.out))) : w.heap.size ≤ gb110)); have n3_ := Ac.mk ((by rw [hg]; exact (Am (by repeat (first | (with_reducible first | exact HB.out | apply Ad | apply Aa | apply Ae) | exact HB.out))) : w.heap.size ≤ gb110)); clear HB; have HB := n0_; have BK110 := n1_; have GW110 := n2_; have GE110 := n3_; clear n0_ n1_ n2_ n3_; clear hb hbox hg; have hcz5_0 : w4.cell? ⟨gb110, 0, none⟩ = some (.string a0_0) := (Ag BK110.out 0).trans rfl; have hcz5_1 : w4.cell? ⟨gb110, 1, none⟩ = some (.string a0_1) := (Ag BK110.out 1).trans rfl; have hcz5_2 : w4.cell? ⟨gb110, 2, none⟩ = some (.int .i64 a0_2) := (Ag BK110.out 2).trans rfl; have hfz5_0 := Af BK110.out 0; have hfz5_1 := Af BK110.out 1; have hfz5_2 := Af BK110.out 2))
    go_ret
    exact ⟨by first | rfl | (simp [Aq, Au] <;> rfl) | (simp [*, Aq, Au] <;> rfl), by repeat (first | (with_reducible first | exact HB.out | apply Ad | apply Aa | apply Ae | refine Ah ?_ GE110.out) | exact HB.out)⟩
  · rw [if_neg c3] at H
    have c3b0 : decide ((wrap64 (a1 - (a0_0.size : Int))) < 0) = false := decide_eq_false c3
    clear c3
    by_cases c6 : (wrap64 ((wrap64 (a1 - (a0_0.size : Int))) - (a0_1.size : Int))) < 0
    · rw [if_pos c6] at H
      have c6b0 : decide ((wrap64 ((wrap64 (a1 - (a0_0.size : Int))) - (a0_1.size : Int))) < 0) = true := decide_eq_true c6
      clear c6
      obtain rfl := Option.some.inj H
      go_enter Tryd.func10, Tryd.ntmps10
      go_wp2_with (first | ((with_reducible refine Bd (N := 2) rfl ?_); refine Bc ?hg (N := 2) ?hd (cs := #[.string a0_0, .string a0_1, .int .i64 a0_2]) (t := 30) ?hr ?_; (case hd => rfl); (case hg => rfl); (case hr => first | (go_simp; done) | (go_simp; rfl)); intro gb110 hg w7 hbox hb; have n0_ := Ac.mk (Ap (by repeat (first | (with_reducible first | exact HB.out | apply Ad | apply Aa | apply Ae) | exact HB.out)) hb); have n1_ := Ac.mk (hbox); have n2_ := Ac.mk ((by rw [hg]; exact (Am (by repeat (first | (with_reducible first | exact HB.out | apply Ad | apply Aa | apply Ae) | exact HB.out))) : w.heap.size ≤ gb110)); have n3_ := Ac.mk ((by rw [hg]; exact (Am (by repeat (first | (with_reducible first | exact HB.out | apply Ad | apply Aa | apply Ae) | exact HB.out))) : w.heap.size ≤ gb110)); clear HB; have HB := n0_; have BK110 := n1_; have GW110 := n2_; have GE110 := n3_; clear n0_ n1_ n2_ n3_; clear hb hbox hg; have hcz8_0 : w7.cell? ⟨gb110, 0, none⟩ = some (.string a0_0) := (Ag BK110.out 0).trans rfl; have hcz8_1 : w7.cell? ⟨gb110, 1, none⟩ = some (.string a0_1) := (Ag BK110.out 1).trans rfl; have hcz8_2 : w7.cell? ⟨gb110, 2, none⟩ = some (.int .i64 a0_2) := (Ag BK110.out 2).trans rfl; have hfz8_0 := Af BK110.out 0; have hfz8_1 := Af BK110.out 1; have hfz8_2 := Af BK110.out 2))
      go_ret
      exact ⟨by first | rfl | (simp [Aq, Au] <;> rfl) | (simp [*, Aq, Au] <;> rfl), by repeat (first | (with_reducible first | exact HB.out | apply Ad | apply Aa | apply Ae | refine Ah ?_ GE110.out) | exact HB.out)⟩
    · rw [if_neg c6] at H
      have c6b0 : decide ((wrap64 ((wrap64 (a1 - (a0_0.size : Int))) - (a0_1.size : Int))) < 0) = false := decide_eq_false c6
      clear c6
      obtain rfl := Option.some.inj H
      go_enter Tryd.func10, Tryd.ntmps10
      go_wp2_with (first | ((with_reducible refine Bd (N := 2) rfl ?_); refine Bc ?hg (N := 2) ?hd (cs := #[.string a0_0, .string a0_1, .int .i64 a0_2]) (t := 30) ?hr ?_; (case hd => rfl); (case hg => rfl); (case hr => first | (go_simp; done) | (go_simp; rfl)); intro gb110 hg w9 hbox hb; have n0_ := Ac.mk (Ap (by repeat (first | (with_reducible first | exact HB.out | apply Ad | apply Aa | apply Ae) | exact HB.out)) hb); have n1_ := Ac.mk (hbox); have n2_ := Ac.mk ((by rw [hg]; exact (Am (by repeat (first | (with_reducible first | exact HB.out | apply Ad | apply Aa | apply Ae) | exact HB.out))) : w.heap.size ≤ gb110)); have n3_ := Ac.mk ((by rw [hg]; exact (Am (by repeat (first | (with_reducible first | exact HB.out | apply Ad | apply Aa | apply Ae) | exact HB.out))) : w.heap.size ≤ gb110)); clear HB; have HB := n0_; have BK110 := n1_; have GW110 := n2_; have GE110 := n3_; clear n0_ n1_ n2_ n3_; clear hb hbox hg; have hcz10_0 : w9.cell? ⟨gb110, 0, none⟩ = some (.string a0_0) := (Ag BK110.out 0).trans rfl; have hcz10_1 : w9.cell? ⟨gb110, 1, none⟩ = some (.string a0_1) := (Ag BK110.out 1).trans rfl; have hcz10_2 : w9.cell? ⟨gb110, 2, none⟩ = some (.int .i64 a0_2) := (Ag BK110.out 2).trans rfl; have hfz10_0 := Af BK110.out 0; have hfz10_1 := Af BK110.out 1; have hfz10_2 := Af BK110.out 2))
      go_ret
      exact ⟨by first | rfl | (simp [Aq, Au] <;> rfl) | (simp [*, Aq, Au] <;> rfl), by repeat (first | (with_reducible first | exact HB.out | apply Ad | apply Aa | apply Ae | refine Ah ?_ GE110.out) | exact HB.out)⟩
end Go.Proofs.YtcnmngiaebgjkaaDoor.X

namespace Go.Proofs.YtcnmngiaebgjkaaDoor.X
open Go.RowKit Go.Proofs.YtcnmngiaebgjkaaDoorW.PrintWords Go.Proofs.YtcnmngiaebgjkaaDoorW.PrintLast Go.Proofs.YtcnmngiaebgjkaaDoorW.PrintMore
attribute [local go_sem] Dn Dk D5 Dz Cj Cm Dj Dl
open Go.Proofs.YtcnmngiaebgjkaaDoorG
def Iz.f (l0 : List Int) (a1 : Int) : Option (Int) := if (wrap64 (a1 - (l0.length : Int))) < 0 then (some (-1)) else (some (wrap64 (a1 - (l0.length : Int))))
set_option maxHeartbeats 8000000 in
set_option maxRecDepth 100000 in
theorem Iz.calls (A0 : Option Addr) (c0 : Nat) (l0 : List Int) (a1 : Int) (r : Int) (w : World) (hr0 : Kd.C (Kd.int .i64) w A0 l0.length l0) (hc0 : l0.length ≤ c0) (h : Iz.f l0 a1 = some r) :
    Calls Tryd.prog 40 #[.slice A0 l0.length c0, .int .i64 a1] w fun e w' => e = .returned (.int .i64 r) ∧ Bg w w' := by
  have HR0 := Ac.mk hr0
  have HC0 := Ac.mk hc0
  clear hr0 hc0
  have H : (if (wrap64 (a1 - (l0.length : Int))) < 0 then (some (-1)) else (some (wrap64 (a1 - (l0.length : Int))))) = some r := h
  clear h
  by_cases c3 : (wrap64 (a1 - (l0.length : Int))) < 0
  · rw [if_pos c3] at H
    have c3b0 : decide ((wrap64 (a1 - (l0.length : Int))) < 0) = true := decide_eq_true c3
    clear c3
    obtain rfl := Option.some.inj H
    go_enter Tryd.func40, Tryd.ntmps40
    go_wp2
    go_ret
    exact ⟨by first | rfl | (simp; done) | (simp [*]; done), by repeat (first | exact Bg.refl _ | apply Bg.step)⟩
  · rw [if_neg c3] at H
    have c3b0 : decide ((wrap64 (a1 - (l0.length : Int))) < 0) = false := decide_eq_false c3
    clear c3
    obtain rfl := Option.some.inj H
    go_enter Tryd.func40, Tryd.ntmps40
    go_wp2
    go_ret
    exact ⟨by first | rfl | (simp; done) | (simp [*]; done), by repeat (first | exact Bg.refl _ | apply Bg.step)⟩
end Go.Proofs.YtcnmngiaebgjkaaDoor.X

namespace Go.Proofs.YtcnmngiaebgjkaaDoor.X
open Go.RowKit Go.Proofs.YtcnmngiaebgjkaaDoorW.PrintWords Go.Proofs.YtcnmngiaebgjkaaDoorW.PrintLast Go.Proofs.YtcnmngiaebgjkaaDoorW.PrintMore
attribute [local go_sem] Dn Dk D5 Dz Cj Cm Dj Dl
open Go.Proofs.YtcnmngiaebgjkaaDoorG
def D7.l0 : Nat → List (List Int) → Int → Int → Option (Int)
  | 0, _, _, _ => none
  | k + 1, x0, x1, x5 => if x5 < (x0.length : Int) then (if 0 ≤ x5 then ((Iz.f (Bo x0 x5) x1).bind fun t102 => (if t102 < 0 then (some (-1)) else (D7.l0 k x0 t102 (wrap64 (x5 + 1))))) else (none)) else (some x1)
def D7.f (k : Nat) (l0 : List (List Int)) (a1 : Int) : Option (Int) := if (wrap64 (a1 - (l0.length : Int))) < 0 then (some (-1)) else (D7.l0 k l0 (wrap64 (a1 - (l0.length : Int))) 0)
theorem D7.Ei : ∀ k, (∀ y0 y1 y2, LeO (D7.l0 k y0 y1 y2) (D7.l0 (k + 1) y0 y1 y2))
  | 0 => fun _ _ _ r h => by simp [D7.l0] at h
  | k + 1 => by
    have ih0 := D7.Ei k
    · intro y0 y1 y2
      unfold D7.l0
      repeat' first
      | (with_reducible exact ih0 _ _ _)
      | (with_reducible exact LeO.refl _)
      | (with_reducible exact LeO.none _)
      | (with_reducible refine LeO.ite ?_ ?_)
      | (with_reducible refine LeO.bind ?_ (fun _ => ?_))
      | exact ih0 _ _ _
      | exact LeO.none _
      | refine LeO.ite ?_ ?_
      | refine LeO.bind ?_ (fun _ => ?_)
theorem D7.mono : ∀ a0 a1 k, LeO (D7.f k a0 a1) (D7.f (k + 1) a0 a1) := by
  intro a0 a1 k
  have ih0 := D7.Ei k
  unfold D7.f
  repeat' first
      | (with_reducible exact ih0 _ _ _)
      | (with_reducible exact LeO.refl _)
      | (with_reducible exact LeO.none _)
      | (with_reducible refine LeO.ite ?_ ?_)
      | (with_reducible refine LeO.bind ?_ (fun _ => ?_))
      | exact ih0 _ _ _
      | exact LeO.none _
      | refine LeO.ite ?_ ?_
      | refine LeO.bind ?_ (fun _ => ?_)
set_option maxHeartbeats 8000000 in
set_option maxRecDepth 100000 in
theorem D7.calls (k : Nat) (A0 : Option Addr) (c0 : Nat) (l0 : List (List Int)) (a1 : Int) (r : Int) (w : World) (hr0 : Kd.C (Kd.slice 3 (Kd.int .i64)) w A0 l0.length l0) (hc0 : l0.length ≤ c0) (h : D7.f k l0 a1 = some r) :
    Calls Tryd.prog 30 #[.slice A0 l0.length c0, .int .i64 a1] w fun e w' => e = .returned (.int .i64 r) ∧ Bg w w' := by
  have HR0 := Ac.mk hr0
  have HC0 := Ac.mk hc0
  clear hr0 hc0
  have H : (if (wrap64 (a1 - (l0.length : Int))) < 0 then (some (-1)) else (D7.l0 k l0 (wrap64 (a1 - (l0.length : Int))) 0)) = some r := h
  clear h
  by_cases c3 : (wrap64 (a1 - (l0.length : Int))) < 0
  · rw [if_pos c3] at H
    have c3b0 : decide ((wrap64 (a1 - (l0.length : Int))) < 0) = true := decide_eq_true c3
    clear c3
    obtain rfl := Option.some.inj H
    go_enter Tryd.func30, Tryd.ntmps30
    go_wp2
    go_ret
    exact ⟨by first | rfl | (simp; done) | (simp [*]; done), by repeat (first | exact Bg.refl _ | apply Bg.step)⟩
  · rw [if_neg c3] at H
    have c3b0 : decide ((wrap64 (a1 - (l0.length : Int))) < 0) = false := decide_eq_false c3
    clear c3
    have H' := Ac.mk H
    clear H
    go_enter Tryd.func30, Tryd.ntmps30
    go_wp2
    go_loopg [1, 5] k (fun kq v1 v5 w' => ∃ (x1_1 : Int) (x5_1 : Int), v1 = .int .i64 x1_1 ∧ v5 = .int .i64 x5_1 ∧ Ac (D7.l0 kq l0 x1_1 x5_1 = some r) ∧ Ac (kq ≤ k) ∧ Bg w w')
    case atStart => exact ⟨(wrap64 (a1 - (l0.length : Int))), (0), (by first | rfl | (simp; done) | (simp [*]; done)), (by first | rfl | (simp; done) | (simp [*]; done)), H', ⟨Nat.le_refl _⟩, by repeat (first | exact Bg.refl _ | apply Bg.step)⟩
    case round =>
      clear H'
      try clear p2
      try clear c3
      try clear c3b0
      obtain ⟨x1_1, x5_1, rfl, rfl, HA, HK1, ⟨m1, rfl⟩⟩ := hrel
      cases gk with
      | zero => exact absurd HA.out (by simp [D7.l0])
      | succ k1 =>
        have H := HA.out
        clear HA
        simp only [D7.l0] at H
        by_cases c4 : x5_1 < (l0.length : Int)
        · rw [if_pos c4] at H
          have c4b0 : decide (x5_1 < (l0.length : Int)) = true := decide_eq_true c4
          clear c4
          by_cases c5 : 0 ≤ x5_1
          · rw [if_pos c5] at H
            have c5b0 : decide (0 ≤ x5_1) = true := decide_eq_true c5
            clear c5
            replace H := Option.bind_eq_some_iff.mp H
            obtain ⟨t102, A60, H⟩ := H
            replace H : (if t102 < 0 then (some (-1)) else (D7.l0 k1 l0 t102 (wrap64 (x5_1 + 1)))) = some r := H
            have A6 := Ac.mk A60
            clear A60
            by_cases c7 : t102 < 0
            · rw [if_pos c7] at H
              have c7b0 : decide (t102 < 0) = true := decide_eq_true c7
              clear c7
              obtain rfl := Option.some.inj H
              have p101 : 0 ≤ (x5_1 : Int) := of_decide_eq_true (by first | (with_reducible assumption) | assumption)
              have q101 : x5_1 < (l0.length : Int) := of_decide_eq_true (by first | (with_reducible assumption) | assumption)
              obtain ⟨ad101, A101_0, c101_0, e101, hx101_0, hl101_0, hi101_0⟩ := Gm HR0.out x5_1 p101 q101
              cases e101
              have HR101_0 := Ac.mk hi101_0
              have HC101_0 := Ac.mk hl101_0
              clear hi101_0 hl101_0
              replace p101 := eq_true p101
              replace q101 := eq_true q101
              go_wp2_with (first | ((with_reducible refine Aw (f := 40) rfl ?_); refine Be (some 23) rfl rfl Tryd.func40 (by kernel_rfl) rfl #[.slice A101_0 (Bo l0 x5_1).length c101_0, .int .i64 x1_1] rfl (by (try simp only [List.map_toArray, List.map_cons, List.map_nil]); first | done | rfl | (simp only [List.length_drop, List.length_take]; rfl)) ?_; (with_reducible refine (Iz.calls _ _ (Bo l0 x5_1) x1_1 t102 _ ?side1 ?side2 A6.out).mono ?_); (case side1 => repeat (first | exact HR101_0.out | (with_reducible refine Kd.Bl ?_ _) | (with_reducible refine Kd.Bj ?_ _) | (with_reducible refine Kd.Ce ?_))); (case side2 => exact HC101_0.out); rintro e w' ⟨rfl, ⟨nd, rfl⟩⟩; refine ⟨_, rfl, ?_⟩))
              go_ret
              exact ⟨by first | rfl | (simp; done) | (simp [*]; done), by repeat (first | exact Bg.refl _ | apply Bg.step)⟩
            · rw [if_neg c7] at H
              have c7b0 : decide (t102 < 0) = false := decide_eq_false c7
              clear c7
              have H' := Ac.mk H
              clear H
              have p101 : 0 ≤ (x5_1 : Int) := of_decide_eq_true (by first | (with_reducible assumption) | assumption)
              have q101 : x5_1 < (l0.length : Int) := of_decide_eq_true (by first | (with_reducible assumption) | assumption)
              obtain ⟨ad101, A101_0, c101_0, e101, hx101_0, hl101_0, hi101_0⟩ := Gm HR0.out x5_1 p101 q101
              cases e101
              have HR101_0 := Ac.mk hi101_0
              have HC101_0 := Ac.mk hl101_0
              clear hi101_0 hl101_0
              replace p101 := eq_true p101
              replace q101 := eq_true q101
              go_wp2_with (first | ((with_reducible refine Aw (f := 40) rfl ?_); refine Be (some 23) rfl rfl Tryd.func40 (by kernel_rfl) rfl #[.slice A101_0 (Bo l0 x5_1).length c101_0, .int .i64 x1_1] rfl (by (try simp only [List.map_toArray, List.map_cons, List.map_nil]); first | done | rfl | (simp only [List.length_drop, List.length_take]; rfl)) ?_; (with_reducible refine (Iz.calls _ _ (Bo l0 x5_1) x1_1 t102 _ ?side1 ?side2 A6.out).mono ?_); (case side1 => repeat (first | exact HR101_0.out | (with_reducible refine Kd.Bl ?_ _) | (with_reducible refine Kd.Bj ?_ _) | (with_reducible refine Kd.Ce ?_))); (case side2 => exact HC101_0.out); rintro e w' ⟨rfl, ⟨nd, rfl⟩⟩; refine ⟨_, rfl, ?_⟩))
              go_roundg k1
              case measure => have := HK1.out; omega
              case rel => exact ⟨(t102), (wrap64 (x5_1 + 1)), (by first | rfl | (simp; done) | (simp [*]; done)), (by first | rfl | (simp; done) | (simp [*]; done)), H', ⟨by have := HK1.out; omega⟩, by repeat (first | exact Bg.refl _ | apply Bg.step)⟩
          · rw [if_neg c5] at H
            exact absurd H (by simp)
        · rw [if_neg c4] at H
          have c4b0 : decide (x5_1 < (l0.length : Int)) = false := decide_eq_false c4
          clear c4
          obtain rfl := Option.some.inj H
          go_wp2
          go_ret
          exact ⟨by first | rfl | (simp; done) | (simp [*]; done), by repeat (first | exact Bg.refl _ | apply Bg.step)⟩
end Go.Proofs.YtcnmngiaebgjkaaDoor.X

namespace Go.Proofs.YtcnmngiaebgjkaaDoor.X
open Go.RowKit Go.Proofs.YtcnmngiaebgjkaaDoorW.PrintWords Go.Proofs.YtcnmngiaebgjkaaDoorW.PrintLast Go.Proofs.YtcnmngiaebgjkaaDoorW.PrintMore
attribute [local go_sem] Dn Dk D5 Dz Cj Cm Dj Dl
open Go.Proofs.YtcnmngiaebgjkaaDoorG
def G6.f (k : Nat) (l0_0 : List (List Int)) (a1 : Int) : Option (Int) := (D7.f k l0_0 a1).bind fun t104 => (if t104 < 0 then (some (-1)) else (some t104))
theorem G6.mono : ∀ a0 a1 k, LeO (G6.f k a0 a1) (G6.f (k + 1) a0 a1) := by
  intro a0 a1 k
  unfold G6.f
  repeat' first
      | (with_reducible exact D7.mono _ _ _)
      | (with_reducible exact LeO.refl _)
      | (with_reducible exact LeO.none _)
      | (with_reducible refine LeO.ite ?_ ?_)
      | (with_reducible refine LeO.bind ?_ (fun _ => ?_))
      | exact D7.mono _ _ _
      | exact LeO.none _
      | refine LeO.ite ?_ ?_
      | refine LeO.bind ?_ (fun _ => ?_)
set_option maxHeartbeats 8000000 in
set_option maxRecDepth 100000 in
theorem G6.calls (k : Nat) (A0_0 : Option Addr) (c0_0 : Nat) (l0_0 : List (List Int)) (a1 : Int) (r : Int) (w : World) (hr0_0 : Kd.C (Kd.slice 3 (Kd.int .i64)) w A0_0 l0_0.length l0_0) (hc0_0 : l0_0.length ≤ c0_0) (h : G6.f k l0_0 a1 = some r) :
    Calls Tryd.prog 18 #[.agg #[.slice A0_0 l0_0.length c0_0], .int .i64 a1] w fun e w' => e = .returned (.int .i64 r) ∧ Below w.heap.size w w' := by
  have hu24 := Tryd.underlying24
  have HR0_0 := Ac.mk hr0_0
  have HC0_0 := Ac.mk hc0_0
  clear hr0_0 hc0_0
  have HB := Ac.mk (Below.refl w.heap.size w)
  have H : ((D7.f k l0_0 a1).bind fun t104 => (if t104 < 0 then (some (-1)) else (some t104))) = some r := h
  clear h
  replace H := Option.bind_eq_some_iff.mp H
  obtain ⟨t104, A30, H⟩ := H
  replace H : (if t104 < 0 then (some (-1)) else (some t104)) = some r := H
  have A3 := Ac.mk A30
  clear A30
  by_cases c4 : t104 < 0
  · rw [if_pos c4] at H
    have c4b0 : decide (t104 < 0) = true := decide_eq_true c4
    clear c4
    obtain rfl := Option.some.inj H
    go_enter Tryd.func18, Tryd.ntmps18
    go_wp2_with (first | ((with_reducible refine Bd (N := 2) rfl ?_); refine Bc ?hg (N := 2) ?hd (cs := #[.slice A0_0 l0_0.length c0_0]) (t := 24) ?hr ?_; (case hd => rfl); (case hg => rfl); (case hr => first | (go_simp; done) | (go_simp; rfl)); intro gb103 hg w5 hbox hb; have n0_ := Ac.mk (Ap (by repeat (first | (with_reducible first | exact HB.out | apply Ad | apply Aa | apply Ae) | exact HB.out)) hb); have n1_ := Ac.mk (hbox); have n2_ := Ac.mk ((by rw [hg]; exact (Am (by repeat (first | (with_reducible first | exact HB.out | apply Ad | apply Aa | apply Ae) | exact HB.out))) : w.heap.size ≤ gb103)); have n3_ := Ac.mk ((by rw [hg]; exact (Am (by repeat (first | (with_reducible first | exact HB.out | apply Ad | apply Aa | apply Ae) | exact HB.out))) : w.heap.size ≤ gb103)); clear HB; have HB := n0_; have BK103 := n1_; have GW103 := n2_; have GE103 := n3_; clear n0_ n1_ n2_ n3_; clear hb hbox hg; have hcz6_0 : w5.cell? ⟨gb103, 0, none⟩ = some (.slice A0_0 l0_0.length c0_0) := (Ag BK103.out 0).trans rfl; have hfz6_0 := Af BK103.out 0) | ((with_reducible refine Aw (f := 30) rfl ?_); refine Be (some 8) rfl rfl Tryd.func30 (by kernel_rfl) rfl #[.slice A0_0 l0_0.length c0_0, .int .i64 a1] rfl (by (try simp only [List.map_toArray, List.map_cons, List.map_nil]); first | done | rfl | (simp only [List.length_drop, List.length_take]; rfl)) ?_; (with_reducible refine (D7.calls k _ _ l0_0 a1 t104 _ ?side1 ?side2 A3.out).mono ?_); (case side1 => repeat (first | exact (Kd.C9 HR0_0.out HB.out) | (with_reducible refine Kd.Bl ?_ _) | (with_reducible refine Kd.Bj ?_ _) | (with_reducible refine Kd.Ce ?_))); (case side2 => exact HC0_0.out); rintro e w' ⟨rfl, ⟨nd, rfl⟩⟩; refine ⟨_, rfl, ?_⟩))
    go_ret
    exact ⟨by first | rfl | (simp [Aq, Au] <;> rfl) | (simp [*, Aq, Au] <;> rfl), by repeat (first | (with_reducible first | exact HB.out | apply Ad | apply Aa | apply Ae | refine Ah ?_ GE103.out) | exact HB.out)⟩
  · rw [if_neg c4] at H
    have c4b0 : decide (t104 < 0) = false := decide_eq_false c4
    clear c4
    obtain rfl := Option.some.inj H
    go_enter Tryd.func18, Tryd.ntmps18
    go_wp2_with (first | ((with_reducible refine Bd (N := 2) rfl ?_); refine Bc ?hg (N := 2) ?hd (cs := #[.slice A0_0 l0_0.length c0_0]) (t := 24) ?hr ?_; (case hd => rfl); (case hg => rfl); (case hr => first | (go_simp; done) | (go_simp; rfl)); intro gb103 hg w7 hbox hb; have n0_ := Ac.mk (Ap (by repeat (first | (with_reducible first | exact HB.out | apply Ad | apply Aa | apply Ae) | exact HB.out)) hb); have n1_ := Ac.mk (hbox); have n2_ := Ac.mk ((by rw [hg]; exact (Am (by repeat (first | (with_reducible first | exact HB.out | apply Ad | apply Aa | apply Ae) | exact HB.out))) : w.heap.size ≤ gb103)); have n3_ := Ac.mk ((by rw [hg]; exact (Am (by repeat (first | (with_reducible first | exact HB.out | apply Ad | apply Aa | apply Ae) | exact HB.out))) : w.heap.size ≤ gb103)); clear HB; have HB := n0_; have BK103 := n1_; have GW103 := n2_; have GE103 := n3_; clear n0_ n1_ n2_ n3_; clear hb hbox hg; have hcz8_0 : w7.cell? ⟨gb103, 0, none⟩ = some (.slice A0_0 l0_0.length c0_0) := (Ag BK103.out 0).trans rfl; have hfz8_0 := Af BK103.out 0) | ((with_reducible refine Aw (f := 30) rfl ?_); refine Be (some 8) rfl rfl Tryd.func30 (by kernel_rfl) rfl #[.slice A0_0 l0_0.length c0_0, .int .i64 a1] rfl (by (try simp only [List.map_toArray, List.map_cons, List.map_nil]); first | done | rfl | (simp only [List.length_drop, List.length_take]; rfl)) ?_; (with_reducible refine (D7.calls k _ _ l0_0 a1 t104 _ ?side1 ?side2 A3.out).mono ?_); (case side1 => repeat (first | exact (Kd.C9 HR0_0.out HB.out) | (with_reducible refine Kd.Bl ?_ _) | (with_reducible refine Kd.Bj ?_ _) | (with_reducible refine Kd.Ce ?_))); (case side2 => exact HC0_0.out); rintro e w' ⟨rfl, ⟨nd, rfl⟩⟩; refine ⟨_, rfl, ?_⟩))
    go_ret
    exact ⟨by first | rfl | (simp [Aq, Au] <;> rfl) | (simp [*, Aq, Au] <;> rfl), by repeat (first | (with_reducible first | exact HB.out | apply Ad | apply Aa | apply Ae | refine Ah ?_ GE103.out) | exact HB.out)⟩
end Go.Proofs.YtcnmngiaebgjkaaDoor.X

namespace Go.Proofs.YtcnmngiaebgjkaaDoor.X
open Go.RowKit Go.Proofs.YtcnmngiaebgjkaaDoorW.PrintWords Go.Proofs.YtcnmngiaebgjkaaDoorW.PrintLast Go.Proofs.YtcnmngiaebgjkaaDoorW.PrintMore
attribute [local go_sem] Dn Dk D5 Dz Cj Cm Dj Dl
open Go.Proofs.YtcnmngiaebgjkaaDoorG
def Hl.f (k : Nat) (a0_0 : Int) (l0_1 : List (List Int)) (a1 : Int) : Option (Int) := (D7.f k l0_1 a1).bind fun t106 => (if t106 < 0 then (some (-1)) else (some t106))
theorem Hl.mono : ∀ a0 a1 a2 k, LeO (Hl.f k a0 a1 a2) (Hl.f (k + 1) a0 a1 a2) := by
  intro a0 a1 a2 k
  unfold Hl.f
  repeat' first
      | (with_reducible exact D7.mono _ _ _)
      | (with_reducible exact LeO.refl _)
      | (with_reducible exact LeO.none _)
      | (with_reducible refine LeO.ite ?_ ?_)
      | (with_reducible refine LeO.bind ?_ (fun _ => ?_))
      | exact D7.mono _ _ _
      | exact LeO.none _
      | refine LeO.ite ?_ ?_
      | refine LeO.bind ?_ (fun _ => ?_)
set_option maxHeartbeats 8000000 in
set_option maxRecDepth 100000 in
theorem Hl.calls (k : Nat) (a0_0 : Int) (A0_1 : Option Addr) (c0_1 : Nat) (l0_1 : List (List Int)) (a1 : Int) (r : Int) (w : World) (hr0_1 : Kd.C (Kd.slice 3 (Kd.int .i64)) w A0_1 l0_1.length l0_1) (hc0_1 : l0_1.length ≤ c0_1) (h : Hl.f k a0_0 l0_1 a1 = some r) :
    Calls Tryd.prog 19 #[.agg #[.int .i64 a0_0, .slice A0_1 l0_1.length c0_1], .int .i64 a1] w fun e w' => e = .returned (.int .i64 r) ∧ Below w.heap.size w w' := by
  have hu26 := Tryd.underlying26
  have HR0_1 := Ac.mk hr0_1
  have HC0_1 := Ac.mk hc0_1
  clear hr0_1 hc0_1
  have HB := Ac.mk (Below.refl w.heap.size w)
  have H : ((D7.f k l0_1 a1).bind fun t106 => (if t106 < 0 then (some (-1)) else (some t106))) = some r := h
  clear h
  replace H := Option.bind_eq_some_iff.mp H
  obtain ⟨t106, A30, H⟩ := H
  replace H : (if t106 < 0 then (some (-1)) else (some t106)) = some r := H
  have A3 := Ac.mk A30
  clear A30
  by_cases c4 : t106 < 0
  · rw [if_pos c4] at H
    have c4b0 : decide (t106 < 0) = true := decide_eq_true c4
    clear c4
    obtain rfl := Option.some.inj H
    go_enter Tryd.func19, Tryd.ntmps19
    go_wp2_with (first | ((with_reducible refine Bd (N := 2) rfl ?_); refine Bc ?hg (N := 2) ?hd (cs := #[.int .i64 a0_0, .slice A0_1 l0_1.length c0_1]) (t := 26) ?hr ?_; (case hd => rfl); (case hg => rfl); (case hr => first | (go_simp; done) | (go_simp; rfl)); intro gb105 hg w5 hbox hb; have n0_ := Ac.mk (Ap (by repeat (first | (with_reducible first | exact HB.out | apply Ad | apply Aa | apply Ae) | exact HB.out)) hb); have n1_ := Ac.mk (hbox); have n2_ := Ac.mk ((by rw [hg]; exact (Am (by repeat (first | (with_reducible first | exact HB.out | apply Ad | apply Aa | apply Ae) | exact HB.out))) : w.heap.size ≤ gb105)); have n3_ := Ac.mk ((by rw [hg]; exact (Am (by repeat (first | (with_reducible first | exact HB.out | apply Ad | apply Aa | apply Ae) | exact HB.out))) : w.heap.size ≤ gb105)); clear HB; have HB := n0_; have BK105 := n1_; have GW105 := n2_; have GE105 := n3_; clear n0_ n1_ n2_ n3_; clear hb hbox hg; have hcz6_0 : w5.cell? ⟨gb105, 0, none⟩ = some (.int .i64 a0_0) := (Ag BK105.out 0).trans rfl; have hcz6_1 : w5.cell? ⟨gb105, 1, none⟩ = some (.slice A0_1 l0_1.length c0_1) := (Ag BK105.out 1).trans rfl; have hfz6_0 := Af BK105.out 0; have hfz6_1 := Af BK105.out 1) | ((with_reducible refine Aw (f := 30) rfl ?_); refine Be (some 8) rfl rfl Tryd.func30 (by kernel_rfl) rfl #[.slice A0_1 l0_1.length c0_1, .int .i64 a1] rfl (by (try simp only [List.map_toArray, List.map_cons, List.map_nil]); first | done | rfl | (simp only [List.length_drop, List.length_take]; rfl)) ?_; (with_reducible refine (D7.calls k _ _ l0_1 a1 t106 _ ?side1 ?side2 A3.out).mono ?_); (case side1 => repeat (first | exact (Kd.C9 HR0_1.out HB.out) | (with_reducible refine Kd.Bl ?_ _) | (with_reducible refine Kd.Bj ?_ _) | (with_reducible refine Kd.Ce ?_))); (case side2 => exact HC0_1.out); rintro e w' ⟨rfl, ⟨nd, rfl⟩⟩; refine ⟨_, rfl, ?_⟩))
    go_ret
    exact ⟨by first | rfl | (simp [Aq, Au] <;> rfl) | (simp [*, Aq, Au] <;> rfl), by repeat (first | (with_reducible first | exact HB.out | apply Ad | apply Aa | apply Ae | refine Ah ?_ GE105.out) | exact HB.out)⟩
  · rw [if_neg c4] at H
    have c4b0 : decide (t106 < 0) = false := decide_eq_false c4
    clear c4
    obtain rfl := Option.some.inj H
    go_enter Tryd.func19, Tryd.ntmps19
    go_wp2_with (first | ((with_reducible refine Bd (N := 2) rfl ?_); refine Bc ?hg (N := 2) ?hd (cs := #[.int .i64 a0_0, .slice A0_1 l0_1.length c0_1]) (t := 26) ?hr ?_; (case hd => rfl); (case hg => rfl); (case hr => first | (go_simp; done) | (go_simp; rfl)); intro gb105 hg w7 hbox hb; have n0_ := Ac.mk (Ap (by repeat (first | (with_reducible first | exact HB.out | apply Ad | apply Aa | apply Ae) | exact HB.out)) hb); have n1_ := Ac.mk (hbox); have n2_ := Ac.mk ((by rw [hg]; exact (Am (by repeat (first | (with_reducible first | exact HB.out | apply Ad | apply Aa | apply Ae) | exact HB.out))) : w.heap.size ≤ gb105)); have n3_ := Ac.mk ((by rw [hg]; exact (Am (by repeat (first | (with_reducible first | exact HB.out | apply Ad | apply Aa | apply Ae) | exact HB.out))) : w.heap.size ≤ gb105)); clear HB; have HB := n0_; have BK105 := n1_; have GW105 := n2_; have GE105 := n3_; clear n0_ n1_ n2_ n3_; clear hb hbox hg; have hcz8_0 : w7.cell? ⟨gb105, 0, none⟩ = some (.int .i64 a0_0) := (Ag BK105.out 0).trans rfl; have hcz8_1 : w7.cell? ⟨gb105, 1, none⟩ = some (.slice A0_1 l0_1.length c0_1) := (Ag BK105.out 1).trans rfl; have hfz8_0 := Af BK105.out 0; have hfz8_1 := Af BK105.out 1) | ((with_reducible refine Aw (f := 30) rfl ?_); refine Be (some 8) rfl rfl Tryd.func30 (by kernel_rfl) rfl #[.slice A0_1 l0_1.length c0_1, .int .i64 a1] rfl (by (try simp only [List.map_toArray, List.map_cons, List.map_nil]); first | done | rfl | (simp only [List.length_drop, List.length_take]; rfl)) ?_; (with_reducible refine (D7.calls k _ _ l0_1 a1 t106 _ ?side1 ?side2 A3.out).mono ?_); (case side1 => repeat (first | exact (Kd.C9 HR0_1.out HB.out) | (with_reducible refine Kd.Bl ?_ _) | (with_reducible refine Kd.Bj ?_ _) | (with_reducible refine Kd.Ce ?_))); (case side2 => exact HC0_1.out); rintro e w' ⟨rfl, ⟨nd, rfl⟩⟩; refine ⟨_, rfl, ?_⟩))
    go_ret
    exact ⟨by first | rfl | (simp [Aq, Au] <;> rfl) | (simp [*, Aq, Au] <;> rfl), by repeat (first | (with_reducible first | exact HB.out | apply Ad | apply Aa | apply Ae | refine Ah ?_ GE105.out) | exact HB.out)⟩
end Go.Proofs.YtcnmngiaebgjkaaDoor.X

namespace Go.Proofs.YtcnmngiaebgjkaaDoor.X
open Go.RowKit Go.Proofs.YtcnmngiaebgjkaaDoorW.PrintWords Go.Proofs.YtcnmngiaebgjkaaDoorW.PrintLast Go.Proofs.YtcnmngiaebgjkaaDoorW.PrintMore
attribute [local go_sem] Dn Dk D5 Dz Cj Cm Dj Dl
open Go.Proofs.YtcnmngiaebgjkaaDoorG
def F7.f (k : Nat) (l0_0 : List (List Int)) (a0_1 : Int) (l0_2 : List (List Int)) (a1 : Int) : Option (Int) := (G6.f k l0_0 a1).bind fun t108 => (if t108 < 0 then (some (-1)) else ((Hl.f k a0_1 l0_2 t108).bind fun t109 => (if t109 < 0 then (some (-1)) else (some t109))))
theorem F7.mono : ∀ a0 a1 a2 a3 k, LeO (F7.f k a0 a1 a2 a3) (F7.f (k + 1) a0 a1 a2 a3) := by
  intro a0 a1 a2 a3 k
  unfold F7.f
  repeat' first
      | (with_reducible exact Hl.mono _ _ _ _)
      | (with_reducible exact G6.mono _ _ _)
      | (with_reducible exact LeO.refl _)
      | (with_reducible exact LeO.none _)
      | (with_reducible refine LeO.ite ?_ ?_)
      | (with_reducible refine LeO.bind ?_ (fun _ => ?_))
      | exact Hl.mono _ _ _ _
      | exact G6.mono _ _ _
      | exact LeO.none _
      | refine LeO.ite ?_ ?_
      | refine LeO.bind ?_ (fun _ => ?_)
set_option maxHeartbeats 8000000 in
set_option maxRecDepth 100000 in
theorem F7.calls (k : Nat) (A0_0 : Option Addr) (c0_0 : Nat) (l0_0 : List (List Int)) (a0_1 : Int) (A0_2 : Option Addr) (c0_2 : Nat) (l0_2 : List (List Int)) (a1 : Int) (r : Int) (w : World) (hr0_0 : Kd.C (Kd.slice 3 (Kd.int .i64)) w A0_0 l0_0.length l0_0) (hc0_0 : l0_0.length ≤ c0_0) (hr0_2 : Kd.C (Kd.slice 3 (Kd.int .i64)) w A0_2 l0_2.length l0_2) (hc0_2 : l0_2.length ≤ c0_2) (h : F7.f k l0_0 a0_1 l0_2 a1 = some r) :
    Calls Tryd.prog 9 #[.agg #[.slice A0_0 l0_0.length c0_0, .int .i64 a0_1, .slice A0_2 l0_2.length c0_2], .int .i64 a1] w fun e w' => e = .returned (.int .i64 r) ∧ Below w.heap.size w w' := by
  have hu28 := Tryd.underlying28
  have hu24 := Tryd.underlying24
  have hu26 := Tryd.underlying26
  have HR0_0 := Ac.mk hr0_0
  have HC0_0 := Ac.mk hc0_0
  clear hr0_0 hc0_0
  have HR0_2 := Ac.mk hr0_2
  have HC0_2 := Ac.mk hc0_2
  clear hr0_2 hc0_2
  have HB := Ac.mk (Below.refl w.heap.size w)
  have H : ((G6.f k l0_0 a1).bind fun t108 => (if t108 < 0 then (some (-1)) else ((Hl.f k a0_1 l0_2 t108).bind fun t109 => (if t109 < 0 then (some (-1)) else (some t109))))) = some r := h
  clear h
  replace H := Option.bind_eq_some_iff.mp H
  obtain ⟨t108, A30, H⟩ := H
  replace H : (if t108 < 0 then (some (-1)) else ((Hl.f k a0_1 l0_2 t108).bind fun t109 => (if t109 < 0 then (some (-1)) else (some t109)))) = some r := H
  have A3 := Ac.mk A30
  clear A30
  by_cases c4 : t108 < 0
  · rw [if_pos c4] at H
    have c4b0 : decide (t108 < 0) = true := decide_eq_true c4
    clear c4
    obtain rfl := Option.some.inj H
    go_enter Tryd.func9, Tryd.ntmps9
    go_wp2_with (first | ((with_reducible refine Bd (N := 2) rfl ?_); refine Bc ?hg (N := 2) ?hd (cs := #[.slice A0_0 l0_0.length c0_0, .int .i64 a0_1, .slice A0_2 l0_2.length c0_2]) (t := 28) ?hr ?_; (case hd => rfl); (case hg => rfl); (case hr => first | (go_simp; done) | (go_simp; rfl)); intro gb107 hg w5 hbox hb; have n0_ := Ac.mk (Ap (by repeat (first | (with_reducible first | exact HB.out | apply Ad | apply Aa | apply Ae) | exact HB.out)) hb); have n1_ := Ac.mk (hbox); have n2_ := Ac.mk ((by rw [hg]; exact (Am (by repeat (first | (with_reducible first | exact HB.out | apply Ad | apply Aa | apply Ae) | exact HB.out))) : w.heap.size ≤ gb107)); have n3_ := Ac.mk ((by rw [hg]; exact (Am (by repeat (first | (with_reducible first | exact HB.out | apply Ad | apply Aa | apply Ae) | exact HB.out))) : w.heap.size ≤ gb107)); clear HB; have HB := n0_; have BK107 := n1_; have GW107 := n2_; have GE107 := n3_; clear n0_ n1_ n2_ n3_; clear hb hbox hg; have hcz6_0 : w5.cell? ⟨gb107, 0, none⟩ = some (.slice A0_0 l0_0.length c0_0) := (Ag BK107.out 0).trans rfl; have hcz6_1 : w5.cell? ⟨gb107, 1, none⟩ = some (.int .i64 a0_1) := (Ag BK107.out 1).trans rfl; have hcz6_2 : w5.cell? ⟨gb107, 2, none⟩ = some (.slice A0_2 l0_2.length c0_2) := (Ag BK107.out 2).trans rfl; have hfz6_0 := Af BK107.out 0; have hfz6_1 := Af BK107.out 1; have hfz6_2 := Af BK107.out 2) | ((with_reducible refine Aw (f := 18) rfl ?_); refine Be (some 8) rfl rfl Tryd.func18 (by kernel_rfl) rfl #[.agg #[.slice A0_0 l0_0.length c0_0], .int .i64 a1] rfl (by (try simp only [List.map_toArray, List.map_cons, List.map_nil]); first | done | rfl | (simp only [List.length_drop, List.length_take]; rfl)) ?_; (with_reducible refine (G6.calls k _ _ l0_0 a1 t108 _ ?side1 ?side2 A3.out).mono ?_); (case side1 => repeat (first | exact (Kd.C9 HR0_0.out HB.out) | (with_reducible refine Kd.Bl ?_ _) | (with_reducible refine Kd.Bj ?_ _) | (with_reducible refine Kd.Ce ?_))); (case side2 => exact HC0_0.out); rintro e w7 ⟨rfl, hb⟩; refine ⟨_, rfl, ?_⟩; have n0_ := Ac.mk (Az (g := gb107) (o := .cells #[.slice A0_0 l0_0.length c0_0, .int .i64 a0_1, .slice A0_2 l0_2.length c0_2] 28 (0, 0)) (by (with_reducible repeat (first | refine Aj ?_ _ | refine Ak ?_ | refine Ai ?_ _)); exact BK107.out) hb); have n1_ := Ac.mk (Ap (by repeat (first | (with_reducible first | exact HB.out | apply Ad | apply Aa | apply Ae | refine Ah ?_ GE107.out) | exact HB.out)) hb); clear BK107; clear HB; have BK107 := n0_; have HB := n1_; clear n0_ n1_; (try clear hb); (try clear hb2); (try clear hk); (try clear hi)))
    go_ret
    exact ⟨by first | rfl | (simp [Aq, Au] <;> rfl) | (simp [*, Aq, Au] <;> rfl), by repeat (first | (with_reducible first | exact HB.out | apply Ad | apply Aa | apply Ae | refine Ah ?_ GE107.out) | exact HB.out)⟩
  · rw [if_neg c4] at H
    have c4b0 : decide (t108 < 0) = false := decide_eq_false c4
    clear c4
    replace H := Option.bind_eq_some_iff.mp H
    obtain ⟨t109, A80, H⟩ := H
    replace H : (if t109 < 0 then (some (-1)) else (some t109)) = some r := H
    have A8 := Ac.mk A80
    clear A80
    by_cases c9 : t109 < 0
    · rw [if_pos c9] at H
      have c9b0 : decide (t109 < 0) = true := decide_eq_true c9
      clear c9
      obtain rfl := Option.some.inj H
      go_enter Tryd.func9, Tryd.ntmps9
      go_wp2_with (first | ((with_reducible refine Bd (N := 2) rfl ?_); refine Bc ?hg (N := 2) ?hd (cs := #[.slice A0_0 l0_0.length c0_0, .int .i64 a0_1, .slice A0_2 l0_2.length c0_2]) (t := 28) ?hr ?_; (case hd => rfl); (case hg => rfl); (case hr => first | (go_simp; done) | (go_simp; rfl)); intro gb107 hg w10 hbox hb; have n0_ := Ac.mk (Ap (by repeat (first | (with_reducible first | exact HB.out | apply Ad | apply Aa | apply Ae) | exact HB.out)) hb); have n1_ := Ac.mk (hbox); have n2_ := Ac.mk ((by rw [hg]; exact (Am (by repeat (first | (with_reducible first | exact HB.out | apply Ad | apply Aa | apply Ae) | exact HB.out))) : w.heap.size ≤ gb107)); have n3_ := Ac.mk ((by rw [hg]; exact (Am (by repeat (first | (with_reducible first | exact HB.out | apply Ad | apply Aa | apply Ae) | exact HB.out))) : w.heap.size ≤ gb107)); clear HB; have HB := n0_; have BK107 := n1_; have GW107 := n2_; have GE107 := n3_; clear n0_ n1_ n2_ n3_; clear hb hbox hg; have hcz11_0 : w10.cell? ⟨gb107, 0, none⟩ = some (.slice A0_0 l0_0.length c0_0) := (Ag BK107.out 0).trans rfl; have hcz11_1 : w10.cell? ⟨gb107, 1, none⟩ = some (.int .i64 a0_1) := (Ag BK107.out 1).trans rfl; have hcz11_2 : w10.cell? ⟨gb107, 2, none⟩ = some (.slice A0_2 l0_2.length c0_2) := (Ag BK107.out 2).trans rfl; have hfz11_0 := Af BK107.out 0; have hfz11_1 := Af BK107.out 1; have hfz11_2 := Af BK107.out 2) | ((with_reducible refine Aw (f := 18) rfl ?_); refine Be (some 8) rfl rfl Tryd.func18 (by kernel_rfl) rfl #[.agg #[.slice A0_0 l0_0.length c0_0], .int .i64 a1] rfl (by (try simp only [List.map_toArray, List.map_cons, List.map_nil]); first | done | rfl | (simp only [List.length_drop, List.length_take]; rfl)) ?_; (with_reducible refine (G6.calls k _ _ l0_0 a1 t108 _ ?side1 ?side2 A3.out).mono ?_); (case side1 => repeat (first | exact (Kd.C9 HR0_0.out HB.out) | (with_reducible refine Kd.Bl ?_ _) | (with_reducible refine Kd.Bj ?_ _) | (with_reducible refine Kd.Ce ?_))); (case side2 => exact HC0_0.out); rintro e w12 ⟨rfl, hb⟩; refine ⟨_, rfl, ?_⟩; have n0_ := Ac.mk (Az (g := gb107) (o := .cells #[.slice A0_0 l0_0.length c0_0, .int .i64 a0_1, .slice A0_2 l0_2.length c0_2] 28 (0, 0)) (by (with_reducible repeat (first | refine Aj ?_ _ | refine Ak ?_ | refine Ai ?_ _)); exact BK107.out) hb); have n1_ := Ac.mk (Ap (by repeat (first | (with_reducible first | exact HB.out | apply Ad | apply Aa | apply Ae | refine Ah ?_ GE107.out) | exact HB.out)) hb); clear BK107; clear HB; have BK107 := n0_; have HB := n1_; clear n0_ n1_; (try clear hb); (try clear hb2); (try clear hk); (try clear hi); have hcz13_0 : w12.cell? ⟨gb107, 0, none⟩ = some (.slice A0_0 l0_0.length c0_0) := (Ag BK107.out 0).trans rfl; have hcz13_1 : w12.cell? ⟨gb107, 1, none⟩ = some (.int .i64 a0_1) := (Ag BK107.out 1).trans rfl; have hcz13_2 : w12.cell? ⟨gb107, 2, none⟩ = some (.slice A0_2 l0_2.length c0_2) := (Ag BK107.out 2).trans rfl; have hfz13_0 := Af BK107.out 0; have hfz13_1 := Af BK107.out 1; have hfz13_2 := Af BK107.out 2) | ((with_reducible refine Aw (f := 19) rfl ?_); refine Be (some 14) rfl rfl Tryd.func19 (by kernel_rfl) rfl #[.agg #[.int .i64 a0_1, .slice A0_2 l0_2.length c0_2], .int .i64 t108] rfl (by (try simp only [List.map_toArray, List.map_cons, List.map_nil]); first | done | rfl | (simp only [List.length_drop, List.length_take]; rfl)) ?_; (with_reducible refine (Hl.calls k a0_1 _ _ l0_2 t108 t109 _ ?side1 ?side2 A8.out).mono ?_); (case side1 => repeat (first | exact (Kd.C9 HR0_2.out HB.out) | (with_reducible refine Kd.Bl ?_ _) | (with_reducible refine Kd.Bj ?_ _) | (with_reducible refine Kd.Ce ?_))); (case side2 => exact HC0_2.out); rintro e w14 ⟨rfl, hb⟩; refine ⟨_, rfl, ?_⟩; have n0_ := Ac.mk (Az (g := gb107) (o := .cells #[.slice A0_0 l0_0.length c0_0, .int .i64 a0_1, .slice A0_2 l0_2.length c0_2] 28 (0, 0)) (by (with_reducible repeat (first | refine Aj ?_ _ | refine Ak ?_ | refine Ai ?_ _)); exact BK107.out) hb); have n1_ := Ac.mk (Ap (by repeat (first | (with_reducible first | exact HB.out | apply Ad | apply Aa | apply Ae | refine Ah ?_ GE107.out) | exact HB.out)) hb); clear BK107; clear HB; have BK107 := n0_; have HB := n1_; clear n0_ n1_; (try clear hb); (try clear hb2); (try clear hk); (try clear hi)))
      go_ret
      exact ⟨by first | rfl | (simp [Aq, Au] <;> rfl) | (simp [*, Aq, Au] <;> rfl), by repeat (first | (with_reducible first | exact HB.out | apply Ad | apply Aa | apply Ae | refine Ah ?_ GE107.out) | exact HB.out)⟩
    · rw [if_neg c9] at H
      have c9b0 : decide (t109 < 0) = false := decide_eq_false c9
      clear c9
      obtain rfl := Option.some.inj H
      go_enter Tryd.func9, Tryd.ntmps9
      go_wp2_with (first | ((with_reducible refine Bd (N := 2) rfl ?_); refine Bc ?hg (N := 2) ?hd (cs := #[.slice A0_0 l0_0.length c0_0, .int .i64 a0_1, .slice A0_2 l0_2.length c0_2]) (t := 28) ?hr ?_; (case hd => rfl); (case hg => rfl); (case hr => first | (go_simp; done) | (go_simp; rfl)); intro gb107 hg w15 hbox hb; have n0_ := Ac.mk (Ap (by repeat (first | (with_reducible first | exact HB.out | apply Ad | apply Aa | apply Ae) | exact HB.out)) hb); have n1_ := Ac.mk (hbox); have n2_ := Ac.mk ((by rw [hg]; exact (Am (by repeat (first | (with_reducible first | exact HB.out | apply Ad | apply Aa | apply Ae) | exact HB.out))) : w.heap.size ≤ gb107)); have n3_ := Ac.mk ((by rw [hg]; exact (Am (by repeat (first | (with_reducible first | exact HB.out | apply Ad | apply Aa | apply Ae) | exact HB.out))) : w.heap.size ≤ gb107)); clear HB; have HB := n0_; have BK107 := n1_; have GW107 := n2_; have GE107 := n3_; clear n0_ n1_ n2_ n3_; clear hb hbox hg; have hcz16_0 : w15.cell? ⟨gb107, 0, none⟩ = some (.slice A0_0 l0_0.length c0_0) := (Ag BK107.out 0).trans rfl; have hcz16_1 : w15.cell? ⟨gb107, 1, none⟩ = some (.int .i64 a0_1) := (Ag BK107.out 1).trans rfl; have hcz16_2 : w15.cell? ⟨gb107, 2, none⟩ = some (.slice A0_2 l0_2.length c0_2) := (Ag BK107.out 2).trans rfl; have hfz16_0 := Af BK107.out 0; have hfz16_1 := Af BK107.out 1; have hfz16_2 := Af BK107.out 2) | ((with_reducible refine Aw (f := 18) rfl ?_); refine Be (some 8) rfl rfl Tryd.func18 (by kernel_rfl) rfl #[.agg #[.slice A0_0 l0_0.length c0_0], .int .i64 a1] rfl (by (try simp only [List.map_toArray, List.map_cons, List.map_nil]); first | done | rfl | (simp only [List.length_drop, List.length_take]; rfl)) ?_; (with_reducible refine (G6.calls k _ _ l0_0 a1 t108 _ ?side1 ?side2 A3.out).mono ?_); (case side1 => repeat (first | exact (Kd.C9 HR0_0.out HB.out) | (with_reducible refine Kd.Bl ?_ _) | (with_reducible refine Kd.Bj ?_ _) | (with_reducible refine Kd.Ce ?_))); (case side2 => exact HC0_0.out); rintro e w17 ⟨rfl, hb⟩; refine ⟨_, rfl, ?_⟩; have n0_ := Ac.mk (Az (g := gb107) (o := .cells #[.slice A0_0 l0_0.length c0_0, .int .i64 a0_1, .slice A0_2 l0_2.length c0_2] 28 (0, 0)) (by (with_reducible repeat (first | refine Aj ?_ _ | refine Ak ?_ | refine Ai ?_ _)); exact BK107.out) hb); have n1_ := Ac.mk (Ap (by repeat (first | (with_reducible first | exact HB.out | apply Ad | apply Aa | apply Ae | refine Ah ?_ GE107.out) | exact HB.out)) hb); clear BK107; clear HB; have BK107 := n0_; have HB := n1_; clear n0_ n1_; (try clear hb); (try clear hb2); (try clear hk); (try clear hi); have hcz18_0 : w17.cell? ⟨gb107, 0, none⟩ = some (.slice A0_0 l0_0.length c0_0) := (Ag BK107.out 0).trans rfl; have hcz18_1 : w17.cell? ⟨gb107, 1, none⟩ = some (.int .i64 a0_1) := (Ag BK107.out 1).trans rfl; have hcz18_2 : w17.cell? ⟨gb107, 2, none⟩ = some (.slice A0_2 l0_2.length c0_2) := (Ag BK107.out 2).trans rfl; have hfz18_0 := Af BK107.out 0; have hfz18_1 := Af BK107.out 1; have hfz18_2 := Af BK107.out 2) | ((with_reducible refine Aw (f := 19) rfl ?_); refine Be (some 14) rfl rfl Tryd.func19 (by kernel_rfl) rfl #[.agg #[.int .i64 a0_1, .slice A0_2 l0_2.length c0_2], .int .i64 t108] rfl (by (try simp only [List.map_toArray, List.map_cons, List.map_nil]); first | done | rfl | (simp only [List.length_drop, List.length_take]; rfl)) ?_; (with_reducible refine (Hl.calls k a0_1 _ _ l0_2 t108 t109 _ ?side1 ?side2 A8.out).mono ?_); (case side1 => repeat (first | exact (Kd.C9 HR0_2.out HB.out) | (with_reducible refine Kd.Bl ?_ _) | (with_reducible refine Kd.Bj ?_ _) | (with_reducible refine Kd.Ce ?_))); (case side2 => exact HC0_2.out); rintro e w19 ⟨rfl, hb⟩; refine ⟨_, rfl, ?_⟩; have n0_ := Ac.mk (Az (g := gb107) (o := .cells #[.slice A0_0 l0_0.length c0_0, .int .i64 a0_1, .slice A0_2 l0_2.length c0_2] 28 (0, 0)) (by (with_reducible repeat (first | refine Aj ?_ _ | refine Ak ?_ | refine Ai ?_ _)); exact BK107.out) hb); have n1_ := Ac.mk (Ap (by repeat (first | (with_reducible first | exact HB.out | apply Ad | apply Aa | apply Ae | refine Ah ?_ GE107.out) | exact HB.out)) hb); clear BK107; clear HB; have BK107 := n0_; have HB := n1_; clear n0_ n1_; (try clear hb); (try clear hb2); (try clear hk); (try clear hi)))
      go_ret
      exact ⟨by first | rfl | (simp [Aq, Au] <;> rfl) | (simp [*, Aq, Au] <;> rfl), by repeat (first | (with_reducible first | exact HB.out | apply Ad | apply Aa | apply Ae | refine Ah ?_ GE107.out) | exact HB.out)⟩
end Go.Proofs.YtcnmngiaebgjkaaDoor.X

namespace Go.Proofs.YtcnmngiaebgjkaaDoor.X
open Go.RowKit Go.Proofs.YtcnmngiaebgjkaaDoorW.PrintWords Go.Proofs.YtcnmngiaebgjkaaDoorW.PrintLast Go.Proofs.YtcnmngiaebgjkaaDoorW.PrintMore
attribute [local go_sem] Dn Dk D5 Dz Cj Cm Dj Dl
open Go.Proofs.YtcnmngiaebgjkaaDoorG
def Gs.f (k : Nat) (l0_0 : List (List Int)) (a0_1 : Int) (l0_2 : List (List Int)) (a0_3 : ByteArray) (a0_4 : ByteArray) (a0_5 : Int) (a1 : Int) : Option (Int) := (F7.f k l0_0 a0_1 l0_2 a1).bind fun t112 => (if t112 < 0 then (some (-1)) else ((Ig.f a0_3 a0_4 a0_5 t112).bind fun t113 => (if t113 < 0 then (some (-1)) else (some t113))))
theorem Gs.mono : ∀ a0 a1 a2 a3 a4 a5 a6 k, LeO (Gs.f k a0 a1 a2 a3 a4 a5 a6) (Gs.f (k + 1) a0 a1 a2 a3 a4 a5 a6) := by
  intro a0 a1 a2 a3 a4 a5 a6 k
  unfold Gs.f
  repeat' first
      | (with_reducible exact F7.mono _ _ _ _ _)
      | (with_reducible exact LeO.refl _)
      | (with_reducible exact LeO.none _)
      | (with_reducible refine LeO.ite ?_ ?_)
      | (with_reducible refine LeO.bind ?_ (fun _ => ?_))
      | exact F7.mono _ _ _ _ _
      | exact LeO.none _
      | refine LeO.ite ?_ ?_
      | refine LeO.bind ?_ (fun _ => ?_)
set_option maxHeartbeats 8000000 in
set_option maxRecDepth 100000 in
theorem Gs.calls (k : Nat) (A0_0 : Option Addr) (c0_0 : Nat) (l0_0 : List (List Int)) (a0_1 : Int) (A0_2 : Option Addr) (c0_2 : Nat) (l0_2 : List (List Int)) (a0_3 : ByteArray) (a0_4 : ByteArray) (a0_5 : Int) (a1 : Int) (r : Int) (w : World) (hr0_0 : Kd.C (Kd.slice 3 (Kd.int .i64)) w A0_0 l0_0.length l0_0) (hc0_0 : l0_0.length ≤ c0_0) (hr0_2 : Kd.C (Kd.slice 3 (Kd.int .i64)) w A0_2 l0_2.length l0_2) (hc0_2 : l0_2.length ≤ c0_2) (h : Gs.f k l0_0 a0_1 l0_2 a0_3 a0_4 a0_5 a1 = some r) :
    Calls Tryd.prog 4 #[.agg #[.slice A0_0 l0_0.length c0_0, .int .i64 a0_1, .slice A0_2 l0_2.length c0_2, .string a0_3, .string a0_4, .int .i64 a0_5], .int .i64 a1] w fun e w' => e = .returned (.int .i64 r) ∧ Below w.heap.size w w' := by
  have hu32 := Tryd.underlying32
  have hu28 := Tryd.underlying28
  have hu30 := Tryd.underlying30
  have HR0_0 := Ac.mk hr0_0
  have HC0_0 := Ac.mk hc0_0
  clear hr0_0 hc0_0
  have HR0_2 := Ac.mk hr0_2
  have HC0_2 := Ac.mk hc0_2
  clear hr0_2 hc0_2
  have HB := Ac.mk (Below.refl w.heap.size w)
  have H : ((F7.f k l0_0 a0_1 l0_2 a1).bind fun t112 => (if t112 < 0 then (some (-1)) else ((Ig.f a0_3 a0_4 a0_5 t112).bind fun t113 => (if t113 < 0 then (some (-1)) else (some t113))))) = some r := h
  clear h
  replace H := Option.bind_eq_some_iff.mp H
  obtain ⟨t112, A30, H⟩ := H
  replace H : (if t112 < 0 then (some (-1)) else ((Ig.f a0_3 a0_4 a0_5 t112).bind fun t113 => (if t113 < 0 then (some (-1)) else (some t113)))) = some r := H
  have A3 := Ac.mk A30
  clear A30
  by_cases c4 : t112 < 0
  · rw [if_pos c4] at H
    have c4b0 : decide (t112 < 0) = true := decide_eq_true c4
    clear c4
    obtain rfl := Option.some.inj H
    go_enter Tryd.func4, Tryd.ntmps4
    go_wp2_with (first | ((with_reducible refine Bd (N := 2) rfl ?_); refine Bc ?hg (N := 2) ?hd (cs := #[.slice A0_0 l0_0.length c0_0, .int .i64 a0_1, .slice A0_2 l0_2.length c0_2, .string a0_3, .string a0_4, .int .i64 a0_5]) (t := 32) ?hr ?_; (case hd => rfl); (case hg => rfl); (case hr => first | (go_simp; done) | (go_simp; rfl)); intro gb111 hg w5 hbox hb; have n0_ := Ac.mk (Ap (by repeat (first | (with_reducible first | exact HB.out | apply Ad | apply Aa | apply Ae) | exact HB.out)) hb); have n1_ := Ac.mk (hbox); have n2_ := Ac.mk ((by rw [hg]; exact (Am (by repeat (first | (with_reducible first | exact HB.out | apply Ad | apply Aa | apply Ae) | exact HB.out))) : w.heap.size ≤ gb111)); have n3_ := Ac.mk ((by rw [hg]; exact (Am (by repeat (first | (with_reducible first | exact HB.out | apply Ad | apply Aa | apply Ae) | exact HB.out))) : w.heap.size ≤ gb111)); clear HB; have HB := n0_; have BK111 := n1_; have GW111 := n2_; have GE111 := n3_; clear n0_ n1_ n2_ n3_; clear hb hbox hg; have hcz6_0 : w5.cell? ⟨gb111, 0, none⟩ = some (.slice A0_0 l0_0.length c0_0) := (Ag BK111.out 0).trans rfl; have hcz6_1 : w5.cell? ⟨gb111, 1, none⟩ = some (.int .i64 a0_1) := (Ag BK111.out 1).trans rfl; have hcz6_2 : w5.cell? ⟨gb111, 2, none⟩ = some (.slice A0_2 l0_2.length c0_2) := (Ag BK111.out 2).trans rfl; have hcz6_3 : w5.cell? ⟨gb111, 3, none⟩ = some (.string a0_3) := (Ag BK111.out 3).trans rfl; have hcz6_4 : w5.cell? ⟨gb111, 4, none⟩ = some (.string a0_4) := (Ag BK111.out 4).trans rfl; have hcz6_5 : w5.cell? ⟨gb111, 5, none⟩ = some (.int .i64 a0_5) := (Ag BK111.out 5).trans rfl; have hfz6_0 := Af BK111.out 0; have hfz6_1 := Af BK111.out 1; have hfz6_2 := Af BK111.out 2; have hfz6_3 := Af BK111.out 3; have hfz6_4 := Af BK111.out 4; have hfz6_5 := Af BK111.out 5) | ((with_reducible refine Aw (f := 9) rfl ?_); refine Be (some 8) rfl rfl Tryd.func9 (by kernel_rfl) rfl #[.agg #[.slice A0_0 l0_0.length c0_0, .int .i64 a0_1, .slice A0_2 l0_2.length c0_2], .int .i64 a1] rfl (by (try simp only [List.map_toArray, List.map_cons, List.map_nil]); first | done | rfl | (simp only [List.length_drop, List.length_take]; rfl)) ?_; (with_reducible refine (F7.calls k _ _ l0_0 a0_1 _ _ l0_2 a1 t112 _ ?side1 ?side2 ?side3 ?side4 A3.out).mono ?_); (case side1 => repeat (first | exact (Kd.C9 HR0_0.out HB.out) | (with_reducible refine Kd.Bl ?_ _) | (with_reducible refine Kd.Bj ?_ _) | (with_reducible refine Kd.Ce ?_))); (case side2 => exact HC0_0.out); (case side3 => repeat (first | exact (Kd.C9 HR0_2.out HB.out) | (with_reducible refine Kd.Bl ?_ _) | (with_reducible refine Kd.Bj ?_ _) | (with_reducible refine Kd.Ce ?_))); (case side4 => exact HC0_2.out); rintro e w7 ⟨rfl, hb⟩; refine ⟨_, rfl, ?_⟩; have n0_ := Ac.mk (Az (g := gb111) (o := .cells #[.slice A0_0 l0_0.length c0_0, .int .i64 a0_1, .slice A0_2 l0_2.length c0_2, .string a0_3, .string a0_4, .int .i64 a0_5] 32 (0, 0)) (by (with_reducible repeat (first | refine Aj ?_ _ | refine Ak ?_ | refine Ai ?_ _)); exact BK111.out) hb); have n1_ := Ac.mk (Ap (by repeat (first | (with_reducible first | exact HB.out | apply Ad | apply Aa | apply Ae | refine Ah ?_ GE111.out) | exact HB.out)) hb); clear BK111; clear HB; have BK111 := n0_; have HB := n1_; clear n0_ n1_; (try clear hb); (try clear hb2); (try clear hk); (try clear hi)))
    go_ret
    exact ⟨by first | rfl | (simp [Aq, Au] <;> rfl) | (simp [*, Aq, Au] <;> rfl), by repeat (first | (with_reducible first | exact HB.out | apply Ad | apply Aa | apply Ae | refine Ah ?_ GE111.out) | exact HB.out)⟩
  · rw [if_neg c4] at H
    have c4b0 : decide (t112 < 0) = false := decide_eq_false c4
    clear c4
    replace H := Option.bind_eq_some_iff.mp H
    obtain ⟨t113, A80, H⟩ := H
    replace H : (if t113 < 0 then (some (-1)) else (some t113)) = some r := H
    have A8 := Ac.mk A80
    clear A80
    by_cases c9 : t113 < 0
    · rw [if_pos c9] at H
      have c9b0 : decide (t113 < 0) = true := decide_eq_true c9
      clear c9
      obtain rfl := Option.some.inj H
      go_enter Tryd.func4, Tryd.ntmps4
      go_wp2_with (first | ((with_reducible refine Bd (N := 2) rfl ?_); refine Bc ?hg (N := 2) ?hd (cs := #[.slice A0_0 l0_0.length c0_0, .int .i64 a0_1, .slice A0_2 l0_2.length c0_2, .string a0_3, .string a0_4, .int .i64 a0_5]) (t := 32) ?hr ?_; (case hd => rfl); (case hg => rfl); (case hr => first | (go_simp; done) | (go_simp; rfl)); intro gb111 hg w10 hbox hb; have n0_ := Ac.mk (Ap (by repeat (first | (with_reducible first | exact HB.out | apply Ad | apply Aa | apply Ae) | exact HB.out)) hb); have n1_ := Ac.mk (hbox); have n2_ := Ac.mk ((by rw [hg]; exact (Am (by repeat (first | (with_reducible first | exact HB.out | apply Ad | apply Aa | apply Ae) | exact HB.out))) : w.heap.size ≤ gb111)); have n3_ := Ac.mk ((by rw [hg]; exact (Am (by repeat (first | (with_reducible first | exact HB.out | apply Ad | apply Aa | apply Ae) | exact HB.out))) : w.heap.size ≤ gb111)); clear HB; have HB := n0_; have BK111 := n1_; have GW111 := n2_; have GE111 := n3_; clear n0_ n1_ n2_ n3_; clear hb hbox hg; have hcz11_0 : w10.cell? ⟨gb111, 0, none⟩ = some (.slice A0_0 l0_0.length c0_0) := (Ag BK111.out 0).trans rfl; have hcz11_1 : w10.cell? ⟨gb111, 1, none⟩ = some (.int .i64 a0_1) := (Ag BK111.out 1).trans rfl; have hcz11_2 : w10.cell? ⟨gb111, 2, none⟩ = some (.slice A0_2 l0_2.length c0_2) := (Ag BK111.out 2).trans rfl; have hcz11_3 : w10.cell? ⟨gb111, 3, none⟩ = some (.string a0_3) := (Ag BK111.out 3).trans rfl; have hcz11_4 : w10.cell? ⟨gb111, 4, none⟩ = some (.string a0_4) := (Ag BK111.out 4).trans rfl; have hcz11_5 : w10.cell? ⟨gb111, 5, none⟩ = some (.int .i64 a0_5) := (Ag BK111.out 5).trans rfl; have hfz11_0 := Af BK111.out 0; have hfz11_1 := Af BK111.out 1; have hfz11_2 := Af BK111.out 2; have hfz11_3 := Af BK111.out 3; have hfz11_4 := Af BK111.out 4; have hfz11_5 := Af BK111.out 5) | ((with_reducible refine Aw (f := 9) rfl ?_); refine Be (some 8) rfl rfl Tryd.func9 (by kernel_rfl) rfl #[.agg #[.slice A0_0 l0_0.length c0_0, .int .i64 a0_1, .slice A0_2 l0_2.length c0_2], .int .i64 a1] rfl (by (try simp only [List.map_toArray, List.map_cons, List.map_nil]); first | done | rfl | (simp only [List.length_drop, List.length_take]; rfl)) ?_; (with_reducible refine (F7.calls k _ _ l0_0 a0_1 _ _ l0_2 a1 t112 _ ?side1 ?side2 ?side3 ?side4 A3.out).mono ?_); (case side1 => repeat (first | exact (Kd.C9 HR0_0.out HB.out) | (with_reducible refine Kd.Bl ?_ _) | (with_reducible refine Kd.Bj ?_ _) | (with_reducible refine Kd.Ce ?_))); (case side2 => exact HC0_0.out); (case side3 => repeat (first | exact (Kd.C9 HR0_2.out HB.out) | (with_reducible refine Kd.Bl ?_ _) | (with_reducible refine Kd.Bj ?_ _) | (with_reducible refine Kd.Ce ?_))); (case side4 => exact HC0_2.out); rintro e w12 ⟨rfl, hb⟩; refine ⟨_, rfl, ?_⟩; have n0_ := Ac.mk (Az (g := gb111) (o := .cells #[.slice A0_0 l0_0.length c0_0, .int .i64 a0_1, .slice A0_2 l0_2.length c0_2, .string a0_3, .string a0_4, .int .i64 a0_5] 32 (0, 0)) (by (with_reducible repeat (first | refine Aj ?_ _ | refine Ak ?_ | refine Ai ?_ _)); exact BK111.out) hb); have n1_ := Ac.mk (Ap (by repeat (first | (with_reducible first | exact HB.out | apply Ad | apply Aa | apply Ae | refine Ah ?_ GE111.out) | exact HB.out)) hb); clear BK111; clear HB; have BK111 := n0_; have HB := n1_; clear n0_ n1_; (try clear hb); (try clear hb2); (try clear hk); (try clear hi); have hcz13_0 : w12.cell? ⟨gb111, 0, none⟩ = some (.slice A0_0 l0_0.length c0_0) := (Ag BK111.out 0).trans rfl; have hcz13_1 : w12.cell? ⟨gb111, 1, none⟩ = some (.int .i64 a0_1) := (Ag BK111.out 1).trans rfl; have hcz13_2 : w12.cell? ⟨gb111, 2, none⟩ = some (.slice A0_2 l0_2.length c0_2) := (Ag BK111.out 2).trans rfl; have hcz13_3 : w12.cell? ⟨gb111, 3, none⟩ = some (.string a0_3) := (Ag BK111.out 3).trans rfl; have hcz13_4 : w12.cell? ⟨gb111, 4, none⟩ = some (.string a0_4) := (Ag BK111.out 4).trans rfl; have hcz13_5 : w12.cell? ⟨gb111, 5, none⟩ = some (.int .i64 a0_5) := (Ag BK111.out 5).trans rfl; have hfz13_0 := Af BK111.out 0; have hfz13_1 := Af BK111.out 1; have hfz13_2 := Af BK111.out 2; have hfz13_3 := Af BK111.out 3; have hfz13_4 := Af BK111.out 4; have hfz13_5 := Af BK111.out 5) | ((with_reducible refine Aw (f := 10) rfl ?_); refine Be (some 14) rfl rfl Tryd.func10 (by kernel_rfl) rfl #[.agg #[.string a0_3, .string a0_4, .int .i64 a0_5], .int .i64 t112] rfl (by (try simp only [List.map_toArray, List.map_cons, List.map_nil]); first | done | rfl | (simp only [List.length_drop, List.length_take]; rfl)) ?_; (with_reducible refine (Ig.calls a0_3 a0_4 a0_5 t112 t113 _ A8.out).mono ?_); rintro e w14 ⟨rfl, hb⟩; refine ⟨_, rfl, ?_⟩; have n0_ := Ac.mk (Az (g := gb111) (o := .cells #[.slice A0_0 l0_0.length c0_0, .int .i64 a0_1, .slice A0_2 l0_2.length c0_2, .string a0_3, .string a0_4, .int .i64 a0_5] 32 (0, 0)) (by (with_reducible repeat (first | refine Aj ?_ _ | refine Ak ?_ | refine Ai ?_ _)); exact BK111.out) hb); have n1_ := Ac.mk (Ap (by repeat (first | (with_reducible first | exact HB.out | apply Ad | apply Aa | apply Ae | refine Ah ?_ GE111.out) | exact HB.out)) hb); clear BK111; clear HB; have BK111 := n0_; have HB := n1_; clear n0_ n1_; (try clear hb); (try clear hb2); (try clear hk); (try clear hi)))
      go_ret
      exact ⟨by first | rfl | (simp [Aq, Au] <;> rfl) | (simp [*, Aq, Au] <;> rfl), by repeat (first | (with_reducible first | exact HB.out | apply Ad | apply Aa | apply Ae | refine Ah ?_ GE111.out) | exact HB.out)⟩
    · rw [if_neg c9] at H
      have c9b0 : decide (t113 < 0) = false := decide_eq_false c9
      clear c9
      obtain rfl := Option.some.inj H
      go_enter Tryd.func4, Tryd.ntmps4
      go_wp2_with (first | ((with_reducible refine Bd (N := 2) rfl ?_); refine Bc ?hg (N := 2) ?hd (cs := #[.slice A0_0 l0_0.length c0_0, .int .i64 a0_1, .slice A0_2 l0_2.length c0_2, .string a0_3, .string a0_4, .int .i64 a0_5]) (t := 32) ?hr ?_; (case hd => rfl); (case hg => rfl); (case hr => first | (go_simp; done) | (go_simp; rfl)); intro gb111 hg w15 hbox hb; have n0_ := Ac.mk (Ap (by repeat (first | (with_reducible first | exact HB.out | apply Ad | apply Aa | apply Ae) | exact HB.out)) hb); have n1_ := Ac.mk (hbox); have n2_ := Ac.mk ((by rw [hg]; exact (Am (by repeat (first | (with_reducible first | exact HB.out | apply Ad | apply Aa | apply Ae) | exact HB.out))) : w.heap.size ≤ gb111)); have n3_ := Ac.mk ((by rw [hg]; exact (Am (by repeat (first | (with_reducible first | exact HB.out | apply Ad | apply Aa | apply Ae) | exact HB.out))) : w.heap.size ≤ gb111)); clear HB; have HB := n0_; have BK111 := n1_; have GW111 := n2_; have GE111 := n3_; clear n0_ n1_ n2_ n3_; clear hb hbox hg; have hcz16_0 : w15.cell? ⟨gb111, 0, none⟩ = some (.slice A0_0 l0_0.length c0_0) := (Ag BK111.out 0).trans rfl; have hcz16_1 : w15.cell? ⟨gb111, 1, none⟩ = some (.int .i64 a0_1) := (Ag BK111.out 1).trans rfl; have hcz16_2 : w15.cell? ⟨gb111, 2, none⟩ = some (.slice A0_2 l0_2.length c0_2) := (Ag BK111.out 2).trans rfl; have hcz16_3 : w15.cell? ⟨gb111, 3, none⟩ = some (.string a0_3) := (Ag BK111.out 3).trans rfl; have hcz16_4 : w15.cell? ⟨gb111, 4, none⟩ = some (.string a0_4) := (Ag BK111.out 4).trans rfl; have hcz16_5 : w15.cell? ⟨gb111, 5, none⟩ = some (.int .i64 a0_5) := (Ag BK111.out 5).trans rfl; have hfz16_0 := Af BK111.out 0; have hfz16_1 := Af BK111.out 1; have hfz16_2 := Af BK111.out 2; have hfz16_3 := Af BK111.out 3; have hfz16_4 := Af BK111.out 4; have hfz16_5 := Af BK111.out 5) | ((with_reducible refine Aw (f := 9) rfl ?_); refine Be (some 8) rfl rfl Tryd.func9 (by kernel_rfl) rfl #[.agg #[.slice A0_0 l0_0.length c0_0, .int .i64 a0_1, .slice A0_2 l0_2.length c0_2], .int .i64 a1] rfl (by (try simp only [List.map_toArray, List.map_cons, List.map_nil]); first | done | rfl | (simp only [List.length_drop, List.length_take]; rfl)) ?_; (with_reducible refine (F7.calls k _ _ l0_0 a0_1 _ _ l0_2 a1 t112 _ ?side1 ?side2 ?side3 ?side4 A3.out).mono ?_); (case side1 => repeat (first | exact (Kd.C9 HR0_0.out HB.out) | (with_reducible refine Kd.Bl ?_ _) | (with_reducible refine Kd.Bj ?_ _) | (with_reducible refine Kd.Ce ?_))); (case side2 => exact HC0_0.out); (case side3 => repeat (first | exact (Kd.C9 HR0_2.out HB.out) | (with_reducible refine Kd.Bl ?_ _) | (with_reducible refine Kd.Bj ?_ _) | (with_reducible refine Kd.Ce ?_))); (case side4 => exact HC0_2.out); rintro e w17 ⟨rfl, hb⟩; refine ⟨_, rfl, ?_⟩; have n0_ := Ac.mk (Az (g := gb111) (o := .cells #[.slice A0_0 l0_0.length c0_0, .int .i64 a0_1, .slice A0_2 l0_2.length c0_2, .string a0_3, .string a0_4, .int .i64 a0_5] 32 (0, 0)) (by (with_reducible repeat (first | refine Aj ?_ _ | refine Ak ?_ | refine Ai ?_ _)); exact BK111.out) hb); have n1_ := Ac.mk (Ap (by repeat (first | (with_reducible first | exact HB.out | apply Ad | apply Aa | apply Ae | refine Ah ?_ GE111.out) | exact HB.out)) hb); clear BK111; clear HB; have BK111 := n0_; have HB := n1_; clear n0_ n1_; (try clear hb); (try clear hb2); (try clear hk); (try clear hi); have hcz18_0 : w17.cell? ⟨gb111, 0, none⟩ = some (.slice A0_0 l0_0.length c0_0) := (Ag BK111.out 0).trans rfl; have hcz18_1 : w17.cell? ⟨gb111, 1, none⟩ = some (.int .i64 a0_1) := (Ag BK111.out 1).trans rfl; have hcz18_2 : w17.cell? ⟨gb111, 2, none⟩ = some (.slice A0_2 l0_2.length c0_2) := (Ag BK111.out 2).trans rfl; have hcz18_3 : w17.cell? ⟨gb111, 3, none⟩ = some (.string a0_3) := (Ag BK111.out 3).trans rfl; have hcz18_4 : w17.cell? ⟨gb111, 4, none⟩ = some (.string a0_4) := (Ag BK111.out 4).trans rfl; have hcz18_5 : w17.cell? ⟨gb111, 5, none⟩ = some (.int .i64 a0_5) := (Ag BK111.out 5).trans rfl; have hfz18_0 := Af BK111.out 0; have hfz18_1 := Af BK111.out 1; have hfz18_2 := Af BK111.out 2; have hfz18_3 := Af BK111.out 3; have hfz18_4 := Af BK111.out 4; have hfz18_5 := Af BK111.out 5) | ((with_reducible refine Aw (f := 10) rfl ?_); refine Be (some 14) rfl rfl Tryd.func10 (by kernel_rfl) rfl #[.agg #[.string a0_3, .string a0_4, .int .i64 a0_5], .int .i64 t112] rfl (by (try simp only [List.map_toArray, List.map_cons, List.map_nil]); first | done | rfl | (simp only [List.length_drop, List.length_take]; rfl)) ?_; (with_reducible refine (Ig.calls a0_3 a0_4 a0_5 t112 t113 _ A8.out).mono ?_); rintro e w19 ⟨rfl, hb⟩; refine ⟨_, rfl, ?_⟩; have n0_ := Ac.mk (Az (g := gb111) (o := .cells #[.slice A0_0 l0_0.length c0_0, .int .i64 a0_1, .slice A0_2 l0_2.length c0_2, .string a0_3, .string a0_4, .int .i64 a0_5] 32 (0, 0)) (by (with_reducible repeat (first | refine Aj ?_ _ | refine Ak ?_ | refine Ai ?_ _)); exact BK111.out) hb); have n1_ := Ac.mk (Ap (by repeat (first | (with_reducible first | exact HB.out | apply Ad | apply Aa | apply Ae | refine Ah ?_ GE111.out) | exact HB.out)) hb); clear BK111; clear HB; have BK111 := n0_; have HB := n1_; clear n0_ n1_; (try clear hb); (try clear hb2); (try clear hk); (try clear hi)))
      go_ret
      exact ⟨by first | rfl | (simp [Aq, Au] <;> rfl) | (simp [*, Aq, Au] <;> rfl), by repeat (first | (with_reducible first | exact HB.out | apply Ad | apply Aa | apply Ae | refine Ah ?_ GE111.out) | exact HB.out)⟩
end Go.Proofs.YtcnmngiaebgjkaaDoor.X

namespace Go.Proofs.YtcnmngiaebgjkaaDoor.X
open Go.RowKit Go.Proofs.YtcnmngiaebgjkaaDoorW.PrintWords Go.Proofs.YtcnmngiaebgjkaaDoorW.PrintLast Go.Proofs.YtcnmngiaebgjkaaDoorW.PrintMore
attribute [local go_sem] Dn Dk D5 Dz Cj Cm Dj Dl
open Go.Proofs.YtcnmngiaebgjkaaDoorG
def Em.f (a0 : Int) (a1 : Int) (a2 : Int) : Option (Bool) := if a0 ≥ a1 then (some (decide (a0 ≤ a2))) else (some false)
set_option maxHeartbeats 8000000 in
set_option maxRecDepth 100000 in
theorem Em.calls (a0 : Int) (a1 : Int) (a2 : Int) (r : Bool) (w : World) (h : Em.f a0 a1 a2 = some r) :
    Calls Tryd.prog 41 #[.int .i64 a0, .int .i64 a1, .int .i64 a2] w fun e w' => e = .returned (.bool r) ∧ Bg w w' := by
  have H : (if a0 ≥ a1 then (some (decide (a0 ≤ a2))) else (some false)) = some r := h
  clear h
  by_cases c4 : a0 ≥ a1
  · rw [if_pos c4] at H
    have c4b0 : decide (a1 ≤ a0) = true := decide_eq_true c4
    clear c4
    obtain rfl := Option.some.inj H
    go_enter Tryd.func41, Tryd.ntmps41
    go_wp2
    go_ret
    exact ⟨by first | rfl | (simp; done) | (simp [*]; done), by repeat (first | exact Bg.refl _ | apply Bg.step)⟩
  · rw [if_neg c4] at H
    have c4b0 : decide (a1 ≤ a0) = false := decide_eq_false c4
    clear c4
    obtain rfl := Option.some.inj H
    go_enter Tryd.func41, Tryd.ntmps41
    go_wp2
    go_ret
    exact ⟨by first | rfl | (simp; done) | (simp [*]; done), by repeat (first | exact Bg.refl _ | apply Bg.step)⟩
end Go.Proofs.YtcnmngiaebgjkaaDoor.X

namespace Go.Proofs.YtcnmngiaebgjkaaDoor.X
open Go.RowKit Go.Proofs.YtcnmngiaebgjkaaDoorW.PrintWords Go.Proofs.YtcnmngiaebgjkaaDoorW.PrintLast Go.Proofs.YtcnmngiaebgjkaaDoorW.PrintMore
attribute [local go_sem] Dn Dk D5 Dz Cj Cm Dj Dl
open Go.Proofs.YtcnmngiaebgjkaaDoorG
def Di.l0 : Nat → List Int → Int → Int → Option (Bool)
  | 0, _, _, _ => none
  | k + 1, x0, x1, x5 => if x5 < (x0.length : Int) then (if 0 ≤ x5 then (if (rd x0 x5) = x1 then (some true) else (Di.l0 k x0 x1 (wrap64 (x5 + 1)))) else (none)) else (some false)
def Di.f (k : Nat) (l0 : List Int) (a1 : Int) : Option (Bool) := Di.l0 k l0 a1 0
theorem Di.Ei : ∀ k, (∀ y0 y1 y2, LeO (Di.l0 k y0 y1 y2) (Di.l0 (k + 1) y0 y1 y2))
  | 0 => fun _ _ _ r h => by simp [Di.l0] at h
  | k + 1 => by
    have ih0 := Di.Ei k
    · intro y0 y1 y2
      unfold Di.l0
      repeat' first
      | (with_reducible exact ih0 _ _ _)
      | (with_reducible exact LeO.refl _)
      | (with_reducible exact LeO.none _)
      | (with_reducible refine LeO.ite ?_ ?_)
      | (with_reducible refine LeO.bind ?_ (fun _ => ?_))
      | exact ih0 _ _ _
      | exact LeO.none _
      | refine LeO.ite ?_ ?_
      | refine LeO.bind ?_ (fun _ => ?_)
theorem Di.mono : ∀ a0 a1 k, LeO (Di.f k a0 a1) (Di.f (k + 1) a0 a1) := by
  intro a0 a1 k
  have ih0 := Di.Ei k
  unfold Di.f
  repeat' first
      | (with_reducible exact ih0 _ _ _)
      | (with_reducible exact LeO.refl _)
      | (with_reducible exact LeO.none _)
      | (with_reducible refine LeO.ite ?_ ?_)
      | (with_reducible refine LeO.bind ?_ (fun _ => ?_))
      | exact ih0 _ _ _
      | exact LeO.none _
      | refine LeO.ite ?_ ?_
      | refine LeO.bind ?_ (fun _ => ?_)
set_option maxHeartbeats 8000000 in
set_option maxRecDepth 100000 in
theorem Di.calls (k : Nat) (A0 : Option Addr) (c0 : Nat) (l0 : List Int) (a1 : Int) (r : Bool) (w : World) (hr0 : Kd.C (Kd.int .i64) w A0 l0.length l0) (hc0 : l0.length ≤ c0) (h : Di.f k l0 a1 = some r) :
    Calls Tryd.prog 42 #[.slice A0 l0.length c0, .int .i64 a1] w fun e w' => e = .returned (.bool r) ∧ Bg w w' := by
  have HR0 := Ac.mk hr0
  have HC0 := Ac.mk hc0
  clear hr0 hc0
  have H : (Di.l0 k l0 a1 0) = some r := h
  clear h
  have H' := Ac.mk H
  clear H
  go_enter Tryd.func42, Tryd.ntmps42
  go_wp2
  go_loopg [5] k (fun kq v5 w' => ∃ (x5_1 : Int), v5 = .int .i64 x5_1 ∧ Ac (Di.l0 kq l0 a1 x5_1 = some r) ∧ Ac (kq ≤ k) ∧ Bg w w')
  case atStart => exact ⟨(0), (by first | rfl | (simp; done) | (simp [*]; done)), H', ⟨Nat.le_refl _⟩, by repeat (first | exact Bg.refl _ | apply Bg.step)⟩
  case round =>
    clear H'
    try clear p2
    obtain ⟨x5_1, rfl, HA, HK1, ⟨m1, rfl⟩⟩ := hrel
    cases gk with
    | zero => exact absurd HA.out (by simp [Di.l0])
    | succ k1 =>
      have H := HA.out
      clear HA
      simp only [Di.l0] at H
      by_cases c3 : x5_1 < (l0.length : Int)
      · rw [if_pos c3] at H
        have c3b0 : decide (x5_1 < (l0.length : Int)) = true := decide_eq_true c3
        clear c3
        by_cases c4 : 0 ≤ x5_1
        · rw [if_pos c4] at H
          have c4b0 : decide (0 ≤ x5_1) = true := decide_eq_true c4
          clear c4
          by_cases c5 : (rd l0 x5_1) = a1
          · rw [if_pos c5] at H
            have c5b0 : ((rd l0 x5_1) == a1) = true := beq_iff_eq.mpr c5
            have c5b1 : ((rd l0 x5_1) != a1) = false := bne_eq_false_iff_eq.mpr c5
            clear c5
            obtain rfl := Option.some.inj H
            have p114 : 0 ≤ (x5_1 : Int) := of_decide_eq_true (by first | (with_reducible assumption) | assumption)
            have q114 : x5_1 < (l0.length : Int) := of_decide_eq_true (by first | (with_reducible assumption) | assumption)
            obtain ⟨ad114, e114, hx114_0⟩ := Kd.Ho HR0.out x5_1 p114 q114
            cases e114
            replace p114 := eq_true p114
            replace q114 := eq_true q114
            go_wp2
            go_ret
            exact ⟨by first | rfl | (simp; done) | (simp [*]; done), by repeat (first | exact Bg.refl _ | apply Bg.step)⟩
          · rw [if_neg c5] at H
            have c5b0 : ((rd l0 x5_1) == a1) = false := beq_eq_false_iff_ne.mpr c5
            have c5b1 : ((rd l0 x5_1) != a1) = true := bne_iff_ne.mpr c5
            have H' := Ac.mk H
            clear H
            have p114 : 0 ≤ (x5_1 : Int) := of_decide_eq_true (by first | (with_reducible assumption) | assumption)
            have q114 : x5_1 < (l0.length : Int) := of_decide_eq_true (by first | (with_reducible assumption) | assumption)
            obtain ⟨ad114, e114, hx114_0⟩ := Kd.Ho HR0.out x5_1 p114 q114
            cases e114
            replace p114 := eq_true p114
            replace q114 := eq_true q114
            go_wp2
            go_roundg k1
            case measure => have := HK1.out; omega
            case rel => exact ⟨(wrap64 (x5_1 + 1)), (by first | rfl | (simp; done) | (simp [*]; done)), H', ⟨by have := HK1.out; omega⟩, by repeat (first | exact Bg.refl _ | apply Bg.step)⟩
        · rw [if_neg c4] at H
          exact absurd H (by simp)
      · rw [if_neg c3] at H
        have c3b0 : decide (x5_1 < (l0.length : Int)) = false := decide_eq_false c3
        clear c3
        obtain rfl := Option.some.inj H
        go_wp2
        go_ret
        exact ⟨by first | rfl | (simp; done) | (simp [*]; done), by repeat (first | exact Bg.refl _ | apply Bg.step)⟩
end Go.Proofs.YtcnmngiaebgjkaaDoor.X

namespace Go.Proofs.YtcnmngiaebgjkaaDoor.X
open Go.RowKit Go.Proofs.YtcnmngiaebgjkaaDoorW.PrintWords Go.Proofs.YtcnmngiaebgjkaaDoorW.PrintLast Go.Proofs.YtcnmngiaebgjkaaDoorW.PrintMore
attribute [local go_sem] Dn Dk D5 Dz Cj Cm Dj Dl
open Go.Proofs.YtcnmngiaebgjkaaDoorG
mutual
def Cc.l0 : Nat → List Int → Int → List (List Int) → Option (Bool)
  | 0, _, _, _ => none
  | k + 1, x3, x4, x116000 => if x4 < (x116000.length : Int) then (if 0 ≤ x4 then (if ((Bo x116000 x4).length : Int) > 4 then (some false) else (Cc.l1 k x3 x4 0 x116000)) else (none)) else (some true)
def Cc.l1 : Nat → List Int → Int → Int → List (List Int) → Option (Bool)
  | 0, _, _, _, _ => none
  | k + 1, x3, x4, x5, x116000 => if 0 ≤ x4 then (if x4 < (x116000.length : Int) then (if x5 < ((Bo x116000 x4).length : Int) then (if 0 ≤ x5 then ((Em.f (rd (Bo x116000 x4) x5) 1 99).bind fun t124 => (if t124 = true then ((Di.f k x3 (rd (Bo x116000 x4) x5)).bind fun t125 => (if t125 = true then (some false) else (if x3.length < 17592186044416 then (Cc.l1 k (x3 ++ [rd (Bo x116000 x4) x5]) x4 (wrap64 (x5 + 1)) x116000) else (none)))) else (some false))) else (none)) else (Cc.l0 k x3 (wrap64 (x4 + 1)) x116000)) else (none)) else (none)
end
def Cc.f (k : Nat) (l0_0 : List (List Int)) : Option (Bool) := (Em.f (l0_0.length : Int) 1 6).bind fun t116 => (if t116 = true then (Cc.l0 k (([] : List Int)) 0 l0_0) else (some false))
theorem Cc.Ei : ∀ k, (∀ y0 y1 y2, LeO (Cc.l0 k y0 y1 y2) (Cc.l0 (k + 1) y0 y1 y2)) ∧ (∀ y0 y1 y2 y3, LeO (Cc.l1 k y0 y1 y2 y3) (Cc.l1 (k + 1) y0 y1 y2 y3))
  | 0 => ⟨fun _ _ _ r h => by simp [Cc.l0] at h, fun _ _ _ _ r h => by simp [Cc.l1] at h⟩
  | k + 1 => by
    obtain ⟨ih0, ih1⟩ := Cc.Ei k
    refine ⟨?_, ?_⟩
    · intro y0 y1 y2
      unfold Cc.l0
      repeat' first
      | (with_reducible exact ih0 _ _ _)
      | (with_reducible exact ih1 _ _ _ _)
      | (with_reducible exact Di.mono _ _ _)
      | (with_reducible exact LeO.refl _)
      | (with_reducible exact LeO.none _)
      | (with_reducible refine LeO.ite ?_ ?_)
      | (with_reducible refine LeO.bind ?_ (fun _ => ?_))
      | exact ih0 _ _ _
      | exact ih1 _ _ _ _
      | exact Di.mono _ _ _
      | exact LeO.none _
      | refine LeO.ite ?_ ?_
      | refine LeO.bind ?_ (fun _ => ?_)
    · intro y0 y1 y2 y3
      unfold Cc.l1
      repeat' first
      | (with_reducible exact ih0 _ _ _)
      | (with_reducible exact ih1 _ _ _ _)
      | (with_reducible exact Di.mono _ _ _)
      | (with_reducible exact LeO.refl _)
      | (with_reducible exact LeO.none _)
      | (with_reducible refine LeO.ite ?_ ?_)
      | (with_reducible refine LeO.bind ?_ (fun _ => ?_))
      | exact ih0 _ _ _
      | exact ih1 _ _ _ _
      | exact Di.mono _ _ _
      | exact LeO.none _
      | refine LeO.ite ?_ ?_
      | refine LeO.bind ?_ (fun _ => ?_)
theorem Cc.mono : ∀ a0 k, LeO (Cc.f k a0) (Cc.f (k + 1) a0) := by
  intro a0 k
  obtain ⟨ih0, ih1⟩ := Cc.Ei k
  unfold Cc.f
  repeat' first
      | (with_reducible exact ih0 _ _ _)
      | (with_reducible exact ih1 _ _ _ _)
      | (with_reducible exact Di.mono _ _ _)
      | (with_reducible exact LeO.refl _)
      | (with_reducible exact LeO.none _)
      | (with_reducible refine LeO.ite ?_ ?_)
      | (with_reducible refine LeO.bind ?_ (fun _ => ?_))
      | exact ih0 _ _ _
      | exact ih1 _ _ _ _
      | exact Di.mono _ _ _
      | exact LeO.none _
      | refine LeO.ite ?_ ?_
      | refine LeO.bind ?_ (fun _ => ?_)
set_option maxHeartbeats 8000000 in
set_option maxRecDepth 100000 in
theorem Cc.calls (k : Nat) (A0_0 : Option Addr) (c0_0 : Nat) (l0_0 : List (List Int)) (r : Bool) (w : World) (hr0_0 : Kd.C (Kd.slice 3 (Kd.int .i64)) w A0_0 l0_0.length l0_0) (hc0_0 : l0_0.length ≤ c0_0) (h : Cc.f k l0_0 = some r) :
    Calls Tryd.prog 31 #[.agg #[.slice A0_0 l0_0.length c0_0]] w fun e w' => e = .returned (.bool r) ∧ Below w.heap.size w w' := by
  have hu35 := Tryd.underlying35
  have HR0_0 := Ac.mk hr0_0
  have HC0_0 := Ac.mk hc0_0
  clear hr0_0 hc0_0
  have HB := Ac.mk (Below.refl w.heap.size w)
  have H : ((Em.f (l0_0.length : Int) 1 6).bind fun t116 => (if t116 = true then (Cc.l0 k (([] : List Int)) 0 l0_0) else (some false))) = some r := h
  clear h
  replace H := Option.bind_eq_some_iff.mp H
  obtain ⟨t116, A20, H⟩ := H
  replace H : (if t116 = true then (Cc.l0 k (([] : List Int)) 0 l0_0) else (some false)) = some r := H
  have A2 := Ac.mk A20
  clear A20
  by_cases c3 : t116 = true
  · subst c3
    have H1 : (Cc.l0 k (([] : List Int)) 0 l0_0) = some r := by rw [if_pos rfl] at H; exact H
    clear H
    have H := H1
    clear H1
    obtain ⟨y117, hy117⟩ : ∃ y_ : List Int, y_ = (([] : List Int)) := ⟨_, rfl⟩
    replace H : (Cc.l0 k y117 0 l0_0) = some r := by first | (rw [hy117]; with_reducible exact H) | (have H2_ := (Option.bind_some _ _).symm.trans H; rw [hy117]; with_reducible exact H2_) | (have H2_ := (Option.bind_some _ _).symm.trans H; with_reducible exact H2_) | with_reducible exact H | (rw [hy117]; exact H) | exact H
    have Ny117 := Ac.mk hy117
    clear hy117
    have H' := Ac.mk H
    clear H
    go_enter Tryd.func31, Tryd.ntmps31
    go_wp2_with (first | ((with_reducible refine Bd (N := 1) rfl ?_); refine Bc ?hg (N := 1) ?hd (cs := #[.slice A0_0 l0_0.length c0_0]) (t := 35) ?hr ?_; (case hd => rfl); (case hg => rfl); (case hr => first | (go_simp; done) | (go_simp; rfl)); intro gb115 hg w4 hbox hb; have n0_ := Ac.mk (Ap (by repeat (first | (with_reducible first | exact HB.out | apply Ad | apply Aa | apply Ae) | exact HB.out)) hb); have n1_ := Ac.mk (hbox); have n2_ := Ac.mk ((by rw [hg]; exact (Am (by repeat (first | (with_reducible first | exact HB.out | apply Ad | apply Aa | apply Ae) | exact HB.out))) : w.heap.size ≤ gb115)); have n3_ := Ac.mk ((by rw [hg]; exact (Am (by repeat (first | (with_reducible first | exact HB.out | apply Ad | apply Aa | apply Ae) | exact HB.out))) : w.heap.size ≤ gb115)); clear HB; have HB := n0_; have BK115 := n1_; have GW115 := n2_; have GE115 := n3_; clear n0_ n1_ n2_ n3_; clear hb hbox hg; have hcz5_0 : w4.cell? ⟨gb115, 0, none⟩ = some (.slice A0_0 l0_0.length c0_0) := (Ag BK115.out 0).trans rfl; have hfz5_0 := Af BK115.out 0) | ((with_reducible refine Aw (f := 41) rfl ?_); refine Be (some 10) rfl rfl Tryd.func41 (by kernel_rfl) rfl #[.int .i64 (l0_0.length : Int), .int .i64 1, .int .i64 6] rfl (by (try simp only [List.map_toArray, List.map_cons, List.map_nil]); first | done | rfl | (simp only [List.length_drop, List.length_take]; rfl)) ?_; (with_reducible refine (Em.calls (l0_0.length : Int) 1 6 true _ A2.out).mono ?_); rintro e w' ⟨rfl, ⟨nd, rfl⟩⟩; refine ⟨_, rfl, ?_⟩) | ((with_reducible refine Bd (N := 12) rfl ?_); refine Kd.R_lit (Kd.int .i64) _ 3 ?hg (N := 12) ?hd (xs := ([] : List Int)) (inner := []) (ok := fun _ => True) (okp := fun _ => True) ?hr ?hp (fun _ hk => hk) trivial (Below.refl _ _) (Nat.le_refl _) (by simp) ?_; (case hd => rfl); (case hg => rfl); (case hr => first | (go_simp; done) | (go_simp; rfl)); (case hp => exact (Fh.none _ _)); intro v118 w6 ho7 hb hg_ hnew_; clear hg_ hnew_; (first | rw [← Ny117.out] at ho7 | (simp only [Int.reduceToNat] at ho7; rw [← Ny117.out] at ho7)); have n0_ := Ac.mk (Kd.Gj ho7 (Am (by repeat (first | (with_reducible first | exact HB.out | apply Ad | apply Aa | apply Ae | refine Ah ?_ GE115.out) | exact HB.out)))); have n1_ := Ac.mk (Az (g := gb115) (o := .cells #[.slice A0_0 l0_0.length c0_0] 35 (0, 0)) (by (with_reducible repeat (first | refine Aj ?_ _ | refine Ak ?_ | refine Ai ?_ _)); exact BK115.out) hb); have n2_ := Ac.mk (Ap (by repeat (first | (with_reducible first | exact HB.out | apply Ad | apply Aa | apply Ae | refine Ah ?_ GE115.out) | exact HB.out)) hb); clear BK115; clear HB; have HO119 := n0_; have BK115 := n1_; have HB := n2_; clear n0_ n1_ n2_; clear hb ho7))
    go_loopg [3, 4] k (fun kq v3 v4 w' => ∃ (x3_1 : List Int) (x4_1 : Int), v4 = .int .i64 x4_1 ∧ Ac (Cc.l0 kq x3_1 x4_1 l0_0 = some r) ∧ Ac (kq ≤ k) ∧ Ac (Kd.R (Kd.int .i64) 3 w' w.heap.size (fun _ => True) v3 x3_1) ∧ Ac (w'.heap[gb115]? = some (.cells #[(.slice A0_0 l0_0.length c0_0)] 35 (0, 0))) ∧ Ac (Below w.heap.size w w'))
    case atStart => exact ⟨(y117), (0), (by first | rfl | (simp; done) | (simp [*]; done)), H', ⟨Nat.le_refl _⟩, ⟨by (with_reducible repeat (first | apply Kd.Dw | apply Kd.Dx | apply Kd.Ef)); exact HO119.out⟩, ⟨by (with_reducible repeat (first | refine Aj ?_ _ | refine Ak ?_ | refine Ai ?_ _)); exact BK115.out⟩, ⟨by repeat (first | (with_reducible first | exact HB.out | apply Ad | apply Aa | apply Ae | refine Ah ?_ GE115.out) | exact HB.out)⟩⟩
    case round =>
      clear H'
      try clear p2
      try clear c3
      try clear c4
      try clear hcz5_0
      try clear hfz5_0
      obtain ⟨x3_1, x4_1, rfl, HA, HK1, HO_3, BK115, HB⟩ := hrel
      cases gk with
      | zero => exact absurd HA.out (by simp [Cc.l0])
      | succ k1 =>
        have H := HA.out
        clear HA
        simp only [Cc.l0] at H
        by_cases c8 : x4_1 < (l0_0.length : Int)
        · rw [if_pos c8] at H
          have c8b0 : decide (x4_1 < (l0_0.length : Int)) = true := decide_eq_true c8
          clear c8
          by_cases c9 : 0 ≤ x4_1
          · rw [if_pos c9] at H
            have c9b0 : decide (0 ≤ x4_1) = true := decide_eq_true c9
            clear c9
            by_cases c10 : ((Bo l0_0 x4_1).length : Int) > 4
            · rw [if_pos c10] at H
              have c10b0 : decide (4 < ((Bo l0_0 x4_1).length : Int)) = true := decide_eq_true c10
              have c10b1 : decide (4 < (Bo l0_0 x4_1).length) = true := decide_eq_true (by omega)
              clear c10
              obtain rfl := Option.some.inj H
              have hcz11_0 : wr.cell? ⟨gb115, 0, none⟩ = some (.slice A0_0 l0_0.length c0_0) := (Ag BK115.out 0).trans rfl
              have hfz11_0 := Af BK115.out 0
              have p120 : 0 ≤ (x4_1 : Int) := of_decide_eq_true (by first | (with_reducible assumption) | assumption)
              have q120 : x4_1 < (l0_0.length : Int) := of_decide_eq_true (by first | (with_reducible assumption) | assumption)
              obtain ⟨ad120, A120_0, c120_0, e120, hx120_0, hl120_0, hi120_0⟩ := Gm HR0_0.out x4_1 p120 q120
              cases e120
              replace hx120_0 := (HB.out.cell (World.block_lt_of_cell? w _ hx120_0)).trans hx120_0
              have HR120_0 := Ac.mk hi120_0
              have HC120_0 := Ac.mk hl120_0
              clear hi120_0 hl120_0
              replace p120 := eq_true p120
              replace q120 := eq_true q120
              go_wp2
              go_ret
              exact ⟨by first | rfl | (simp [Aq, Au] <;> rfl) | (simp [*, Aq, Au] <;> rfl), by repeat (first | (with_reducible first | exact HB.out | apply Ad | apply Aa | apply Ae | refine Ah ?_ GE115.out) | exact HB.out)⟩
            · rw [if_neg c10] at H
              have c10b0 : decide (4 < ((Bo l0_0 x4_1).length : Int)) = false := decide_eq_false c10
              have c10b1 : decide (4 < (Bo l0_0 x4_1).length) = false := decide_eq_false (by omega)
              clear c10
              have H' := Ac.mk H
              clear H
              have hcz12_0 : wr.cell? ⟨gb115, 0, none⟩ = some (.slice A0_0 l0_0.length c0_0) := (Ag BK115.out 0).trans rfl
              have hfz12_0 := Af BK115.out 0
              have p120 : 0 ≤ (x4_1 : Int) := of_decide_eq_true (by first | (with_reducible assumption) | assumption)
              have q120 : x4_1 < (l0_0.length : Int) := of_decide_eq_true (by first | (with_reducible assumption) | assumption)
              obtain ⟨ad120, A120_0, c120_0, e120, hx120_0, hl120_0, hi120_0⟩ := Gm HR0_0.out x4_1 p120 q120
              cases e120
              replace hx120_0 := (HB.out.cell (World.block_lt_of_cell? w _ hx120_0)).trans hx120_0
              have HR120_0 := Ac.mk hi120_0
              have HC120_0 := Ac.mk hl120_0
              clear hi120_0 hl120_0
              replace p120 := eq_true p120
              replace q120 := eq_true q120
              go_wp2
              go_loopg [3, 5] k1 (fun kq v3 v5 w' => ∃ (x3_2 : List Int) (x5_2 : Int), v5 = .int .i64 x5_2 ∧ Ac (Cc.l1 kq x3_2 x4_1 x5_2 l0_0 = some r) ∧ Ac (kq ≤ k1) ∧ Ac (Kd.R (Kd.int .i64) 3 w' w.heap.size (fun _ => True) v3 x3_2) ∧ Ac (w'.heap[gb115]? = some (.cells #[(.slice (some ad120) l0_0.length c0_0)] 35 (0, 0))) ∧ Ac (Below w.heap.size w w'))
              case atStart => exact ⟨(x3_1), (0), (by first | rfl | (simp; done) | (simp [*]; done)), H', ⟨Nat.le_refl _⟩, ⟨by (with_reducible repeat (first | apply Kd.Dw | apply Kd.Dx | apply Kd.Ef)); exact HO_3.out⟩, ⟨by (with_reducible repeat (first | refine Aj ?_ _ | refine Ak ?_ | refine Ai ?_ _)); exact BK115.out⟩, ⟨by repeat (first | (with_reducible first | exact HB.out | apply Ad | apply Aa | apply Ae | refine Ah ?_ GE115.out) | exact HB.out)⟩⟩
              case round =>
                clear H'
                try clear c1
                try clear p1
                try clear q1
                try clear hx1
                try clear p2
                try clear c3
                try clear c4
                try clear c8
                try clear c8b0
                try clear c9
                try clear c9b0
                try clear c10
                try clear c10b0
                try clear c10b1
                try clear c12
                try clear p12
                try clear q12
                try clear hx12
                try clear hcz11_0
                try clear hcz12_0
                try clear hcz5_0
                try clear hfz11_0
                try clear hfz12_0
                try clear hfz5_0
                try clear hx120_0
                try clear p120
                try clear p2
                try clear q120
                obtain ⟨x3_2, x5_2, rfl, HA, HK2, HO_3, BK115, HB⟩ := hrel
                cases gk with
                | zero => exact absurd HA.out (by simp [Cc.l1])
                | succ k2 =>
                  have H := HA.out
                  clear HA
                  simp only [Cc.l1] at H
                  by_cases c13 : 0 ≤ x4_1
                  · rw [if_pos c13] at H
                    have c13b0 : decide (0 ≤ x4_1) = true := decide_eq_true c13
                    clear c13
                    by_cases c14 : x4_1 < (l0_0.length : Int)
                    · rw [if_pos c14] at H
                      have c14b0 : decide (x4_1 < (l0_0.length : Int)) = true := decide_eq_true c14
                      clear c14
                      by_cases c15 : x5_2 < ((Bo l0_0 x4_1).length : Int)
                      · rw [if_pos c15] at H
                        have c15b0 : decide (x5_2 < ((Bo l0_0 x4_1).length : Int)) = true := decide_eq_true c15
                        clear c15
                        by_cases c16 : 0 ≤ x5_2
                        · rw [if_pos c16] at H
                          have c16b0 : decide (0 ≤ x5_2) = true := decide_eq_true c16
                          clear c16
                          replace H := Option.bind_eq_some_iff.mp H
                          obtain ⟨t124, A170, H⟩ := H
                          replace H : (if t124 = true then ((Di.f k2 x3_2 (rd (Bo l0_0 x4_1) x5_2)).bind fun t125 => (if t125 = true then (some false) else (if x3_2.length < 17592186044416 then (Cc.l1 k2 (x3_2 ++ [rd (Bo l0_0 x4_1) x5_2]) x4_1 (wrap64 (x5_2 + 1)) l0_0) else (none)))) else (some false)) = some r := H
                          have A17 := Ac.mk A170
                          clear A170
                          by_cases c18 : t124 = true
                          · subst c18
                            have H1 : ((Di.f k2 x3_2 (rd (Bo l0_0 x4_1) x5_2)).bind fun t125 => (if t125 = true then (some false) else (if x3_2.length < 17592186044416 then (Cc.l1 k2 (x3_2 ++ [rd (Bo l0_0 x4_1) x5_2]) x4_1 (wrap64 (x5_2 + 1)) l0_0) else (none)))) = some r := by rw [if_pos rfl] at H; exact H
                            clear H
                            have H := H1
                            clear H1
                            replace H := Option.bind_eq_some_iff.mp H
                            obtain ⟨t125, A190, H⟩ := H
                            replace H : (if t125 = true then (some false) else (if x3_2.length < 17592186044416 then (Cc.l1 k2 (x3_2 ++ [rd (Bo l0_0 x4_1) x5_2]) x4_1 (wrap64 (x5_2 + 1)) l0_0) else (none))) = some r := H
                            have A19 := Ac.mk A190
                            clear A190
                            by_cases c20 : t125 = true
                            · subst c20
                              have H1 : (some false) = some r := by rw [if_pos rfl] at H; exact H
                              clear H
                              have H := H1
                              clear H1
                              obtain rfl := Option.some.inj H
                              have hcz21_0 : wr.cell? ⟨gb115, 0, none⟩ = some (.slice (some ad120) l0_0.length c0_0) := (Ag BK115.out 0).trans rfl
                              have hfz21_0 := Af BK115.out 0
                              have p121 : 0 ≤ (x4_1 : Int) := of_decide_eq_true (by first | (with_reducible assumption) | assumption)
                              have q121 : x4_1 < (l0_0.length : Int) := of_decide_eq_true (by first | (with_reducible assumption) | assumption)
                              obtain ⟨ad121, A121_0, c121_0, e121, hx121_0, hl121_0, hi121_0⟩ := Gm HR0_0.out x4_1 p121 q121
                              obtain rfl : ad120 = ad121 := (by injection e121)
                              replace hx121_0 := (HB.out.cell (World.block_lt_of_cell? w _ hx121_0)).trans hx121_0
                              have HR121_0 := Ac.mk hi121_0
                              have HC121_0 := Ac.mk hl121_0
                              clear hi121_0 hl121_0
                              replace p121 := eq_true p121
                              replace q121 := eq_true q121
                              have p122 : 0 ≤ (x4_1 : Int) := of_decide_eq_true (by first | (with_reducible assumption) | assumption)
                              have q122 : x4_1 < (l0_0.length : Int) := of_decide_eq_true (by first | (with_reducible assumption) | assumption)
                              obtain ⟨ad122, A122_0, c122_0, e122, hx122_0, hl122_0, hi122_0⟩ := Gm HR0_0.out x4_1 p122 q122
                              obtain rfl : ad120 = ad122 := (by injection e122)
                              replace hx122_0 := (HB.out.cell (World.block_lt_of_cell? w _ hx122_0)).trans hx122_0
                              have HR122_0 := Ac.mk hi122_0
                              have HC122_0 := Ac.mk hl122_0
                              clear hi122_0 hl122_0
                              replace p122 := eq_true p122
                              replace q122 := eq_true q122
                              have ea_ := Option.some.inj (hx121_0.symm.trans hx122_0)
                              injection ea_ with ea_ en_ ec_
                              subst ea_
                              subst ec_
                              clear en_
                              have p123 : 0 ≤ (x5_2 : Int) := of_decide_eq_true (by first | (with_reducible assumption) | assumption)
                              have q123 : x5_2 < ((Bo l0_0 x4_1).length : Int) := of_decide_eq_true (by first | (with_reducible assumption) | assumption)
                              obtain ⟨ad123, e123, hx123_0⟩ := Kd.Ho HR122_0.out x5_2 p123 q123
                              cases e123
                              replace hx123_0 := (HB.out.cell (World.block_lt_of_cell? w _ hx123_0)).trans hx123_0
                              replace p123 := eq_true p123
                              replace q123 := eq_true q123
                              go_wp2_with (first | ((with_reducible refine Aw (f := 41) rfl ?_); refine Be (some 46) rfl rfl Tryd.func41 (by kernel_rfl) rfl #[.int .i64 (rd (Bo l0_0 x4_1) x5_2), .int .i64 1, .int .i64 99] rfl (by (try simp only [List.map_toArray, List.map_cons, List.map_nil]); first | done | rfl | (simp only [List.length_drop, List.length_take]; rfl)) ?_; (with_reducible refine (Em.calls (rd (Bo l0_0 x4_1) x5_2) 1 99 true _ A17.out).mono ?_); rintro e w' ⟨rfl, ⟨nd, rfl⟩⟩; refine ⟨_, rfl, ?_⟩; obtain ⟨Ao22, co22, eo22⟩ := Kd.Gq HO_3.out; subst eo22) | (go_at_call 42; (with_reducible refine (Di.calls k2 _ _ x3_2 (rd (Bo l0_0 x4_1) x5_2) true _ ?side1 ?side2 A19.out).mono ?_); (case side1 => repeat (first | exact (Kd.Fq HO_3.out).2.2 | (with_reducible refine Kd.Bl ?_ _) | (with_reducible refine Kd.Bj ?_ _) | (with_reducible refine Kd.Ce ?_))); (case side2 => exact (Kd.Fq HO_3.out).2.1); rintro e w' ⟨rfl, ⟨nd, rfl⟩⟩))
                              go_ret
                              exact ⟨by first | rfl | (simp [Aq, Au] <;> rfl) | (simp [*, Aq, Au] <;> rfl), by repeat (first | (with_reducible first | exact HB.out | apply Ad | apply Aa | apply Ae | refine Ah ?_ GE115.out) | exact HB.out)⟩
                            · replace c20 := Bool.eq_false_iff.mpr c20
                              subst c20
                              have H1 : (if x3_2.length < 17592186044416 then (Cc.l1 k2 (x3_2 ++ [rd (Bo l0_0 x4_1) x5_2]) x4_1 (wrap64 (x5_2 + 1)) l0_0) else (none)) = some r := by rw [if_neg (show ¬ (false = true) by decide)] at H; exact H
                              clear H
                              have H := H1
                              clear H1
                              by_cases c23 : x3_2.length < 17592186044416
                              · rw [if_pos c23] at H
                                have LMc23 := Ac.mk c23
                                clear c23
                                obtain ⟨y126, hy126⟩ : ∃ y_ : List Int, y_ = (x3_2 ++ [rd (Bo l0_0 x4_1) x5_2]) := ⟨_, rfl⟩
                                replace H : (Cc.l1 k2 y126 x4_1 (wrap64 (x5_2 + 1)) l0_0) = some r := by first | (rw [hy126]; with_reducible exact H) | (have H2_ := (Option.bind_some _ _).symm.trans H; rw [hy126]; with_reducible exact H2_) | (have H2_ := (Option.bind_some _ _).symm.trans H; with_reducible exact H2_) | with_reducible exact H | (rw [hy126]; exact H) | exact H
                                have Ny126 := Ac.mk hy126
                                clear hy126
                                have H' := Ac.mk H
                                clear H
                                have hcz24_0 : wr.cell? ⟨gb115, 0, none⟩ = some (.slice (some ad120) l0_0.length c0_0) := (Ag BK115.out 0).trans rfl
                                have hfz24_0 := Af BK115.out 0
                                have p121 : 0 ≤ (x4_1 : Int) := of_decide_eq_true (by first | (with_reducible assumption) | assumption)
                                have q121 : x4_1 < (l0_0.length : Int) := of_decide_eq_true (by first | (with_reducible assumption) | assumption)
                                obtain ⟨ad121, A121_0, c121_0, e121, hx121_0, hl121_0, hi121_0⟩ := Gm HR0_0.out x4_1 p121 q121
                                obtain rfl : ad120 = ad121 := (by injection e121)
                                replace hx121_0 := (HB.out.cell (World.block_lt_of_cell? w _ hx121_0)).trans hx121_0
                                have HR121_0 := Ac.mk hi121_0
                                have HC121_0 := Ac.mk hl121_0
                                clear hi121_0 hl121_0
                                replace p121 := eq_true p121
                                replace q121 := eq_true q121
                                have p122 : 0 ≤ (x4_1 : Int) := of_decide_eq_true (by first | (with_reducible assumption) | assumption)
                                have q122 : x4_1 < (l0_0.length : Int) := of_decide_eq_true (by first | (with_reducible assumption) | assumption)
                                obtain ⟨ad122, A122_0, c122_0, e122, hx122_0, hl122_0, hi122_0⟩ := Gm HR0_0.out x4_1 p122 q122
                                obtain rfl : ad120 = ad122 := (by injection e122)
                                replace hx122_0 := (HB.out.cell (World.block_lt_of_cell? w _ hx122_0)).trans hx122_0
                                have HR122_0 := Ac.mk hi122_0
                                have HC122_0 := Ac.mk hl122_0
                                clear hi122_0 hl122_0
                                replace p122 := eq_true p122
                                replace q122 := eq_true q122
                                have ea_ := Option.some.inj (hx121_0.symm.trans hx122_0)
                                injection ea_ with ea_ en_ ec_
                                subst ea_
                                subst ec_
                                clear en_
                                have p123 : 0 ≤ (x5_2 : Int) := of_decide_eq_true (by first | (with_reducible assumption) | assumption)
                                have q123 : x5_2 < ((Bo l0_0 x4_1).length : Int) := of_decide_eq_true (by first | (with_reducible assumption) | assumption)
                                obtain ⟨ad123, e123, hx123_0⟩ := Kd.Ho HR122_0.out x5_2 p123 q123
                                cases e123
                                replace hx123_0 := (HB.out.cell (World.block_lt_of_cell? w _ hx123_0)).trans hx123_0
                                replace p123 := eq_true p123
                                replace q123 := eq_true q123
                                go_wp2_with (first | ((with_reducible refine Aw (f := 41) rfl ?_); refine Be (some 46) rfl rfl Tryd.func41 (by kernel_rfl) rfl #[.int .i64 (rd (Bo l0_0 x4_1) x5_2), .int .i64 1, .int .i64 99] rfl (by (try simp only [List.map_toArray, List.map_cons, List.map_nil]); first | done | rfl | (simp only [List.length_drop, List.length_take]; rfl)) ?_; (with_reducible refine (Em.calls (rd (Bo l0_0 x4_1) x5_2) 1 99 true _ A17.out).mono ?_); rintro e w' ⟨rfl, ⟨nd, rfl⟩⟩; refine ⟨_, rfl, ?_⟩; obtain ⟨Ao25, co25, eo25⟩ := Kd.Gq HO_3.out; subst eo25) | (go_at_call 42; (with_reducible refine (Di.calls k2 _ _ x3_2 (rd (Bo l0_0 x4_1) x5_2) false _ ?side1 ?side2 A19.out).mono ?_); (case side1 => repeat (first | exact (Kd.Fq HO_3.out).2.2 | (with_reducible refine Kd.Bl ?_ _) | (with_reducible refine Kd.Bj ?_ _) | (with_reducible refine Kd.Ce ?_))); (case side2 => exact (Kd.Fq HO_3.out).2.1); rintro e w' ⟨rfl, ⟨nd, rfl⟩⟩) | ((with_reducible refine Ic (b := .append) (xs := #[.tmp 53, .tmp 55]) rfl ?_); at_builtin; refine Kd.Je (Kd.int .i64) (w0 := w) w.heap.size rfl (.tmp 53) (.tmp 55) 59 3 (.int .i64 0) 8 rfl Tryd.underlying59 info3 rfl (by decide) (by omega) (.slice Ao25 x3_2.length co25) x3_2 (rd (Bo l0_0 x4_1) x5_2) [.int .i64 (rd (Bo l0_0 x4_1) x5_2)] (fun _ => True) (fun _ => False) rfl rfl ?aP (fun _ hk => hk.elim) ?aF ?aO ?aB ?aS ?aL ?_; (case aP => exact rfl); (case aB => exact (by repeat (first | (with_reducible first | exact HB.out | apply Ad | apply Aa | apply Ae | refine Ah ?_ GE115.out) | exact HB.out))); (case aF => exact (fun _ _ => trivial)); (case aO => exact (by (with_reducible repeat (first | apply Kd.Dw | apply Kd.Dx | apply Kd.Ef)); exact HO_3.out)); (case aS => exact (Am (by repeat (first | (with_reducible first | exact HB.out | apply Ad | apply Aa | apply Ae | refine Ah ?_ GE115.out) | exact HB.out)))); (case aL => have := LMc23.out; omega); intro v127 w26 ho hb hg hat; rw [← Ny126.out] at ho; have n0_ := Ac.mk (Jc (g := gb115) (o := .cells #[.slice (some ad120) l0_0.length c0_0] 35 (0, 0)) (by (with_reducible repeat (first | refine Aj ?_ _ | refine Ak ?_ | refine Ai ?_ _)); exact BK115.out) hg (Kd.R_ne HO_3.out BK115.out (by decide))); have n1_ := Ac.mk (hb); have n2_ := Ac.mk (ho); clear BK115; clear HB; clear HO_3; have BK115 := n0_; have HB := n1_; have HO128 := n2_; clear n0_ n1_ n2_; clear ho hb hg hat))
                                go_roundg k2
                                case measure => have := HK1.out; have := HK2.out; omega
                                case rel => exact ⟨(y126), (wrap64 (x5_2 + 1)), (by first | rfl | (simp; done) | (simp [*]; done)), H', ⟨by have := HK1.out; have := HK2.out; omega⟩, ⟨by (with_reducible repeat (first | apply Kd.Dw | apply Kd.Dx | apply Kd.Ef)); exact HO128.out⟩, ⟨by (with_reducible repeat (first | refine Aj ?_ _ | refine Ak ?_ | refine Ai ?_ _)); exact BK115.out⟩, ⟨by repeat (first | (with_reducible first | exact HB.out | apply Ad | apply Aa | apply Ae | refine Ah ?_ GE115.out) | exact HB.out)⟩⟩
                              · rw [if_neg c23] at H
                                exact absurd H (by simp)
                          · replace c18 := Bool.eq_false_iff.mpr c18
                            subst c18
                            have H1 : (some false) = some r := by rw [if_neg (show ¬ (false = true) by decide)] at H; exact H
                            clear H
                            have H := H1
                            clear H1
                            obtain rfl := Option.some.inj H
                            have hcz27_0 : wr.cell? ⟨gb115, 0, none⟩ = some (.slice (some ad120) l0_0.length c0_0) := (Ag BK115.out 0).trans rfl
                            have hfz27_0 := Af BK115.out 0
                            have p121 : 0 ≤ (x4_1 : Int) := of_decide_eq_true (by first | (with_reducible assumption) | assumption)
                            have q121 : x4_1 < (l0_0.length : Int) := of_decide_eq_true (by first | (with_reducible assumption) | assumption)
                            obtain ⟨ad121, A121_0, c121_0, e121, hx121_0, hl121_0, hi121_0⟩ := Gm HR0_0.out x4_1 p121 q121
                            obtain rfl : ad120 = ad121 := (by injection e121)
                            replace hx121_0 := (HB.out.cell (World.block_lt_of_cell? w _ hx121_0)).trans hx121_0
                            have HR121_0 := Ac.mk hi121_0
                            have HC121_0 := Ac.mk hl121_0
                            clear hi121_0 hl121_0
                            replace p121 := eq_true p121
                            replace q121 := eq_true q121
                            have p122 : 0 ≤ (x4_1 : Int) := of_decide_eq_true (by first | (with_reducible assumption) | assumption)
                            have q122 : x4_1 < (l0_0.length : Int) := of_decide_eq_true (by first | (with_reducible assumption) | assumption)
                            obtain ⟨ad122, A122_0, c122_0, e122, hx122_0, hl122_0, hi122_0⟩ := Gm HR0_0.out x4_1 p122 q122
                            obtain rfl : ad120 = ad122 := (by injection e122)
                            replace hx122_0 := (HB.out.cell (World.block_lt_of_cell? w _ hx122_0)).trans hx122_0
                            have HR122_0 := Ac.mk hi122_0
                            have HC122_0 := Ac.mk hl122_0
                            clear hi122_0 hl122_0
                            replace p122 := eq_true p122
                            replace q122 := eq_true q122
                            have ea_ := Option.some.inj (hx121_0.symm.trans hx122_0)
                            injection ea_ with ea_ en_ ec_
                            subst ea_
                            subst ec_
                            clear en_
                            have p123 : 0 ≤ (x5_2 : Int) := of_decide_eq_true (by first | (with_reducible assumption) | assumption)
                            have q123 : x5_2 < ((Bo l0_0 x4_1).length : Int) := of_decide_eq_true (by first | (with_reducible assumption) | assumption)
                            obtain ⟨ad123, e123, hx123_0⟩ := Kd.Ho HR122_0.out x5_2 p123 q123
                            cases e123
                            replace hx123_0 := (HB.out.cell (World.block_lt_of_cell? w _ hx123_0)).trans hx123_0
                            replace p123 := eq_true p123
                            replace q123 := eq_true q123
                            go_wp2_with (first | ((with_reducible refine Aw (f := 41) rfl ?_); refine Be (some 46) rfl rfl Tryd.func41 (by kernel_rfl) rfl #[.int .i64 (rd (Bo l0_0 x4_1) x5_2), .int .i64 1, .int .i64 99] rfl (by (try simp only [List.map_toArray, List.map_cons, List.map_nil]); first | done | rfl | (simp only [List.length_drop, List.length_take]; rfl)) ?_; (with_reducible refine (Em.calls (rd (Bo l0_0 x4_1) x5_2) 1 99 false _ A17.out).mono ?_); rintro e w' ⟨rfl, ⟨nd, rfl⟩⟩; refine ⟨_, rfl, ?_⟩))
                            go_ret
                            exact ⟨by first | rfl | (simp [Aq, Au] <;> rfl) | (simp [*, Aq, Au] <;> rfl), by repeat (first | (with_reducible first | exact HB.out | apply Ad | apply Aa | apply Ae | refine Ah ?_ GE115.out) | exact HB.out)⟩
                        · rw [if_neg c16] at H
                          exact absurd H (by simp)
                      · rw [if_neg c15] at H
                        have c15b0 : decide (x5_2 < ((Bo l0_0 x4_1).length : Int)) = false := decide_eq_false c15
                        clear c15
                        have H' := Ac.mk H
                        clear H
                        have hcz28_0 : wr.cell? ⟨gb115, 0, none⟩ = some (.slice (some ad120) l0_0.length c0_0) := (Ag BK115.out 0).trans rfl
                        have hfz28_0 := Af BK115.out 0
                        have p121 : 0 ≤ (x4_1 : Int) := of_decide_eq_true (by first | (with_reducible assumption) | assumption)
                        have q121 : x4_1 < (l0_0.length : Int) := of_decide_eq_true (by first | (with_reducible assumption) | assumption)
                        obtain ⟨ad121, A121_0, c121_0, e121, hx121_0, hl121_0, hi121_0⟩ := Gm HR0_0.out x4_1 p121 q121
                        obtain rfl : ad120 = ad121 := (by injection e121)
                        replace hx121_0 := (HB.out.cell (World.block_lt_of_cell? w _ hx121_0)).trans hx121_0
                        have HR121_0 := Ac.mk hi121_0
                        have HC121_0 := Ac.mk hl121_0
                        clear hi121_0 hl121_0
                        replace p121 := eq_true p121
                        replace q121 := eq_true q121
                        go_wp2
                        go_roundg k2
                        case measure => have := HK1.out; have := HK2.out; omega
                        case rel => exact ⟨(x3_2), (wrap64 (x4_1 + 1)), (by first | rfl | (simp; done) | (simp [*]; done)), H', ⟨by have := HK1.out; have := HK2.out; omega⟩, ⟨by (with_reducible repeat (first | apply Kd.Dw | apply Kd.Dx | apply Kd.Ef)); exact HO_3.out⟩, ⟨by (with_reducible repeat (first | refine Aj ?_ _ | refine Ak ?_ | refine Ai ?_ _)); exact BK115.out⟩, ⟨by repeat (first | (with_reducible first | exact HB.out | apply Ad | apply Aa | apply Ae | refine Ah ?_ GE115.out) | exact HB.out)⟩⟩
                    · rw [if_neg c14] at H
                      exact absurd H (by simp)
                  · rw [if_neg c13] at H
                    exact absurd H (by simp)
          · rw [if_neg c9] at H
            exact absurd H (by simp)
        · rw [if_neg c8] at H
          have c8b0 : decide (x4_1 < (l0_0.length : Int)) = false := decide_eq_false c8
          clear c8
          obtain rfl := Option.some.inj H
          have hcz29_0 : wr.cell? ⟨gb115, 0, none⟩ = some (.slice A0_0 l0_0.length c0_0) := (Ag BK115.out 0).trans rfl
          have hfz29_0 := Af BK115.out 0
          go_wp2
          go_ret
          exact ⟨by first | rfl | (simp [Aq, Au] <;> rfl) | (simp [*, Aq, Au] <;> rfl), by repeat (first | (with_reducible first | exact HB.out | apply Ad | apply Aa | apply Ae | refine Ah ?_ GE115.out) | exact HB.out)⟩
  · replace c3 := Bool.eq_false_iff.mpr c3
    subst c3
    have H1 : (some false) = some r := by rw [if_neg (show ¬ (false = true) by decide)] at H; exact H
    clear H
    have H := H1
    clear H1
    obtain rfl := Option.some.inj H
    go_enter Tryd.func31, Tryd.ntmps31
    go_wp2_with (first | ((with_reducible refine Bd (N := 1) rfl ?_); refine Bc ?hg (N := 1) ?hd (cs := #[.slice A0_0 l0_0.length c0_0]) (t := 35) ?hr ?_; (case hd => rfl); (case hg => rfl); (case hr => first | (go_simp; done) | (go_simp; rfl)); intro gb115 hg w30 hbox hb; have n0_ := Ac.mk (Ap (by repeat (first | (with_reducible first | exact HB.out | apply Ad | apply Aa | apply Ae) | exact HB.out)) hb); have n1_ := Ac.mk (hbox); have n2_ := Ac.mk ((by rw [hg]; exact (Am (by repeat (first | (with_reducible first | exact HB.out | apply Ad | apply Aa | apply Ae) | exact HB.out))) : w.heap.size ≤ gb115)); have n3_ := Ac.mk ((by rw [hg]; exact (Am (by repeat (first | (with_reducible first | exact HB.out | apply Ad | apply Aa | apply Ae) | exact HB.out))) : w.heap.size ≤ gb115)); clear HB; have HB := n0_; have BK115 := n1_; have GW115 := n2_; have GE115 := n3_; clear n0_ n1_ n2_ n3_; clear hb hbox hg; have hcz31_0 : w30.cell? ⟨gb115, 0, none⟩ = some (.slice A0_0 l0_0.length c0_0) := (Ag BK115.out 0).trans rfl; have hfz31_0 := Af BK115.out 0) | ((with_reducible refine Aw (f := 41) rfl ?_); refine Be (some 10) rfl rfl Tryd.func41 (by kernel_rfl) rfl #[.int .i64 (l0_0.length : Int), .int .i64 1, .int .i64 6] rfl (by (try simp only [List.map_toArray, List.map_cons, List.map_nil]); first | done | rfl | (simp only [List.length_drop, List.length_take]; rfl)) ?_; (with_reducible refine (Em.calls (l0_0.length : Int) 1 6 false _ A2.out).mono ?_); rintro e w' ⟨rfl, ⟨nd, rfl⟩⟩; refine ⟨_, rfl, ?_⟩))
    go_ret
    exact ⟨by first | rfl | (simp [Aq, Au] <;> rfl) | (simp [*, Aq, Au] <;> rfl), by repeat (first | (with_reducible first | exact HB.out | apply Ad | apply Aa | apply Ae | refine Ah ?_ GE115.out) | exact HB.out)⟩
end Go.Proofs.YtcnmngiaebgjkaaDoor.X

namespace Go.Proofs.YtcnmngiaebgjkaaDoor.X
open Go.RowKit Go.Proofs.YtcnmngiaebgjkaaDoorW.PrintWords Go.Proofs.YtcnmngiaebgjkaaDoorW.PrintLast Go.Proofs.YtcnmngiaebgjkaaDoorW.PrintMore
attribute [local go_sem] Dn Dk D5 Dz Cj Cm Dj Dl
open Go.Proofs.YtcnmngiaebgjkaaDoorG
mutual
def Bh.j0 : Nat → Bool → Int → List (List Int) → Option (Bool)
  | 0, _, _, _ => none
  | k + 1, x17, x130000, x130001 => if x17 = true then (some false) else (Bh.l0 k (([] : List Int)) 0 x130000 x130001)
def Bh.l0 : Nat → List Int → Int → Int → List (List Int) → Option (Bool)
  | 0, _, _, _, _ => none
  | k + 1, x3, x4, x130000, x130001 => if x4 < (x130001.length : Int) then (if 0 ≤ x4 then (if ((Bo x130001 x4).length : Int) > x130000 then (some false) else (Bh.l1 k x3 x4 0 x130000 x130001)) else (none)) else (some true)
def Bh.l1 : Nat → List Int → Int → Int → Int → List (List Int) → Option (Bool)
  | 0, _, _, _, _, _ => none
  | k + 1, x3, x4, x5, x130000, x130001 => if 0 ≤ x4 then (if x4 < (x130001.length : Int) then (if x5 < ((Bo x130001 x4).length : Int) then (if 0 ≤ x5 then ((Em.f (rd (Bo x130001 x4) x5) 1 99).bind fun t139 => (if t139 = true then ((Di.f k x3 (rd (Bo x130001 x4) x5)).bind fun t140 => (if t140 = true then (some false) else (if x3.length < 17592186044416 then (Bh.l1 k (x3 ++ [rd (Bo x130001 x4) x5]) x4 (wrap64 (x5 + 1)) x130000 x130001) else (none)))) else (some false))) else (none)) else (Bh.l0 k x3 (wrap64 (x4 + 1)) x130000 x130001)) else (none)) else (none)
end
def Bh.f (k : Nat) (a0_0 : Int) (l0_1 : List (List Int)) : Option (Bool) := (Em.f a0_0 1 4).bind fun t130 => (if t130 = true then ((Em.f (l0_1.length : Int) 1 5).bind fun t131 => (Bh.j0 k (!t131) a0_0 l0_1)) else (Bh.j0 k true a0_0 l0_1))
theorem Bh.Ei : ∀ k, (∀ y0 y1 y2, LeO (Bh.j0 k y0 y1 y2) (Bh.j0 (k + 1) y0 y1 y2)) ∧ (∀ y0 y1 y2 y3, LeO (Bh.l0 k y0 y1 y2 y3) (Bh.l0 (k + 1) y0 y1 y2 y3)) ∧ (∀ y0 y1 y2 y3 y4, LeO (Bh.l1 k y0 y1 y2 y3 y4) (Bh.l1 (k + 1) y0 y1 y2 y3 y4))
  | 0 => ⟨fun _ _ _ r h => by simp [Bh.j0] at h, fun _ _ _ _ r h => by simp [Bh.l0] at h, fun _ _ _ _ _ r h => by simp [Bh.l1] at h⟩
  | k + 1 => by
    obtain ⟨ih0, ih1, ih2⟩ := Bh.Ei k
    refine ⟨?_, ?_, ?_⟩
    · intro y0 y1 y2
      unfold Bh.j0
      repeat' first
      | (with_reducible exact ih0 _ _ _)
      | (with_reducible exact ih1 _ _ _ _)
      | (with_reducible exact ih2 _ _ _ _ _)
      | (with_reducible exact Di.mono _ _ _)
      | (with_reducible exact LeO.refl _)
      | (with_reducible exact LeO.none _)
      | (with_reducible refine LeO.ite ?_ ?_)
      | (with_reducible refine LeO.bind ?_ (fun _ => ?_))
      | exact ih0 _ _ _
      | exact ih1 _ _ _ _
      | exact ih2 _ _ _ _ _
      | exact Di.mono _ _ _
      | exact LeO.none _
      | refine LeO.ite ?_ ?_
      | refine LeO.bind ?_ (fun _ => ?_)
    · intro y0 y1 y2 y3
      unfold Bh.l0
      repeat' first
      | (with_reducible exact ih0 _ _ _)
      | (with_reducible exact ih1 _ _ _ _)
      | (with_reducible exact ih2 _ _ _ _ _)
      | (with_reducible exact Di.mono _ _ _)
      | (with_reducible exact LeO.refl _)
      | (with_reducible exact LeO.none _)
      | (with_reducible refine LeO.ite ?_ ?_)
      | (with_reducible refine LeO.bind ?_ (fun _ => ?_))
      | exact ih0 _ _ _
      | exact ih1 _ _ _ _
      | exact ih2 _ _ _ _ _
      | exact Di.mono _ _ _
      | exact LeO.none _
      | refine LeO.ite ?_ ?_
      | refine LeO.bind ?_ (fun _ => ?_)
    · intro y0 y1 y2 y3 y4
      unfold Bh.l1
      repeat' first
      | (with_reducible exact ih0 _ _ _)
      | (with_reducible exact ih1 _ _ _ _)
      | (with_reducible exact ih2 _ _ _ _ _)
      | (with_reducible exact Di.mono _ _ _)
      | (with_reducible exact LeO.refl _)
      | (with_reducible exact LeO.none _)
      | (with_reducible refine LeO.ite ?_ ?_)
      | (with_reducible refine LeO.bind ?_ (fun _ => ?_))
      | exact ih0 _ _ _
      | exact ih1 _ _ _ _
      | exact ih2 _ _ _ _ _
      | exact Di.mono _ _ _
      | exact LeO.none _
      | refine LeO.ite ?_ ?_
      | refine LeO.bind ?_ (fun _ => ?_)
theorem Bh.mono : ∀ a0 a1 k, LeO (Bh.f k a0 a1) (Bh.f (k + 1) a0 a1) := by
  intro a0 a1 k
  obtain ⟨ih0, ih1, ih2⟩ := Bh.Ei k
  unfold Bh.f
  repeat' first
      | (with_reducible exact ih0 _ _ _)
      | (with_reducible exact ih1 _ _ _ _)
      | (with_reducible exact ih2 _ _ _ _ _)
      | (with_reducible exact Di.mono _ _ _)
      | (with_reducible exact LeO.refl _)
      | (with_reducible exact LeO.none _)
      | (with_reducible refine LeO.ite ?_ ?_)
      | (with_reducible refine LeO.bind ?_ (fun _ => ?_))
      | exact ih0 _ _ _
      | exact ih1 _ _ _ _
      | exact ih2 _ _ _ _ _
      | exact Di.mono _ _ _
      | exact LeO.none _
      | refine LeO.ite ?_ ?_
      | refine LeO.bind ?_ (fun _ => ?_)
set_option maxHeartbeats 8000000 in
set_option maxRecDepth 100000 in
theorem Bh.calls (k : Nat) (a0_0 : Int) (A0_1 : Option Addr) (c0_1 : Nat) (l0_1 : List (List Int)) (r : Bool) (w : World) (hr0_1 : Kd.C (Kd.slice 3 (Kd.int .i64)) w A0_1 l0_1.length l0_1) (hc0_1 : l0_1.length ≤ c0_1) (h : Bh.f k a0_0 l0_1 = some r) :
    Calls Tryd.prog 32 #[.agg #[.int .i64 a0_0, .slice A0_1 l0_1.length c0_1]] w fun e w' => e = .returned (.bool r) ∧ Below w.heap.size w w' := by
  have hu36 := Tryd.underlying36
  have HR0_1 := Ac.mk hr0_1
  have HC0_1 := Ac.mk hc0_1
  clear hr0_1 hc0_1
  have HB := Ac.mk (Below.refl w.heap.size w)
  have H : ((Em.f a0_0 1 4).bind fun t130 => (if t130 = true then ((Em.f (l0_1.length : Int) 1 5).bind fun t131 => (Bh.j0 k (!t131) a0_0 l0_1)) else (Bh.j0 k true a0_0 l0_1))) = some r := h
  clear h
  have HC2 := Ac.mk H
  clear H
  go_enter Tryd.func32, Tryd.ntmps32
  go_upto_region 1 with (first | ((with_reducible refine Bd (N := 1) rfl ?_); (try (refine Eb (by rfl) ?_; dsimp only)); refine Bc ?hg (N := 1) ?hd (cs := #[.int .i64 a0_0, .slice A0_1 l0_1.length c0_1]) (t := 36) ?hr ?_; (case hd => rfl); (case hg => rfl); (case hr => first | (go_simp; done) | (go_simp; rfl)); intro gb129 hg w3 hbox hb; have n0_ := Ac.mk (Ap (by repeat (first | (with_reducible first | exact HB.out | apply Ad | apply Aa | apply Ae) | exact HB.out)) hb); have n1_ := Ac.mk (hbox); have n2_ := Ac.mk ((by rw [hg]; exact (Am (by repeat (first | (with_reducible first | exact HB.out | apply Ad | apply Aa | apply Ae) | exact HB.out))) : w.heap.size ≤ gb129)); have n3_ := Ac.mk ((by rw [hg]; exact (Am (by repeat (first | (with_reducible first | exact HB.out | apply Ad | apply Aa | apply Ae) | exact HB.out))) : w.heap.size ≤ gb129)); clear HB; have HB := n0_; have BK129 := n1_; have GW129 := n2_; have GE129 := n3_; clear n0_ n1_ n2_ n3_; clear hb hbox hg))
  repeat (go_quiet (first | ((with_reducible refine Bd (N := 1) rfl ?_); (try (refine Eb (by rfl) ?_; dsimp only)); refine Bc ?hg (N := 1) ?hd (cs := #[.int .i64 a0_0, .slice A0_1 l0_1.length c0_1]) (t := 36) ?hr ?_; (case hd => rfl); (case hg => rfl); (case hr => first | (go_simp; done) | (go_simp; rfl)); intro gb129 hg w3 hbox hb; have n0_ := Ac.mk (Ap (by repeat (first | (with_reducible first | exact HB.out | apply Ad | apply Aa | apply Ae) | exact HB.out)) hb); have n1_ := Ac.mk (hbox); have n2_ := Ac.mk ((by rw [hg]; exact (Am (by repeat (first | (with_reducible first | exact HB.out | apply Ad | apply Aa | apply Ae) | exact HB.out))) : w.heap.size ≤ gb129)); have n3_ := Ac.mk ((by rw [hg]; exact (Am (by repeat (first | (with_reducible first | exact HB.out | apply Ad | apply Aa | apply Ae) | exact HB.out))) : w.heap.size ≤ gb129)); clear HB; have HB := n0_; have BK129 := n1_; have GW129 := n2_; have GE129 := n3_; clear n0_ n1_ n2_ n3_; clear hb hbox hg)); go_upto_region 1 with (first | ((with_reducible refine Bd (N := 1) rfl ?_); (try (refine Eb (by rfl) ?_; dsimp only)); refine Bc ?hg (N := 1) ?hd (cs := #[.int .i64 a0_0, .slice A0_1 l0_1.length c0_1]) (t := 36) ?hr ?_; (case hd => rfl); (case hg => rfl); (case hr => first | (go_simp; done) | (go_simp; rfl)); intro gb129 hg w3 hbox hb; have n0_ := Ac.mk (Ap (by repeat (first | (with_reducible first | exact HB.out | apply Ad | apply Aa | apply Ae) | exact HB.out)) hb); have n1_ := Ac.mk (hbox); have n2_ := Ac.mk ((by rw [hg]; exact (Am (by repeat (first | (with_reducible first | exact HB.out | apply Ad | apply Aa | apply Ae) | exact HB.out))) : w.heap.size ≤ gb129)); have n3_ := Ac.mk ((by rw [hg]; exact (Am (by repeat (first | (with_reducible first | exact HB.out | apply Ad | apply Aa | apply Ae) | exact HB.out))) : w.heap.size ≤ gb129)); clear HB; have HB := n0_; have BK129 := n1_; have GW129 := n2_; have GE129 := n3_; clear n0_ n1_ n2_ n3_; clear hb hbox hg)))
  (try simp only [Act.put, List.setIfInBounds_toArray, List.set_cons_zero, List.set_cons_succ])
  go_cut [17] (fun v17 wc => ∃ (kq : Nat) (x17_1 : Bool), v17 = .bool x17_1 ∧ Ac (Bh.j0 kq x17_1 a0_0 l0_1 = some r) ∧ Ac (kq ≤ k) ∧ Ac (wc.heap[gb129]? = some (.cells #[.int .i64 a0_0, (.slice A0_1 l0_1.length c0_1)] 36 (0, 0))) ∧ Ac (Below w.heap.size w wc))
  case first =>
    have H := HC2.out
    clear HC2
    replace H := Option.bind_eq_some_iff.mp H
    obtain ⟨t130, A40, H⟩ := H
    replace H : (if t130 = true then ((Em.f (l0_1.length : Int) 1 5).bind fun t131 => (Bh.j0 k (!t131) a0_0 l0_1)) else (Bh.j0 k true a0_0 l0_1)) = some r := H
    have A4 := Ac.mk A40
    clear A40
    by_cases c5 : t130 = true
    · subst c5
      have H1 : ((Em.f (l0_1.length : Int) 1 5).bind fun t131 => (Bh.j0 k (!t131) a0_0 l0_1)) = some r := by rw [if_pos rfl] at H; exact H
      clear H
      have H := H1
      clear H1
      replace H := Option.bind_eq_some_iff.mp H
      obtain ⟨t131, A60, H⟩ := H
      replace H : (Bh.j0 k (!t131) a0_0 l0_1) = some r := H
      have A6 := Ac.mk A60
      clear A60
      have H' := Ac.mk H
      clear H
      have hcz7_0 : w3.cell? ⟨gb129, 0, none⟩ = some (.int .i64 a0_0) := (Ag BK129.out 0).trans rfl
      have hcz7_1 : w3.cell? ⟨gb129, 1, none⟩ = some (.slice A0_1 l0_1.length c0_1) := (Ag BK129.out 1).trans rfl
      have hfz7_0 := Af BK129.out 0
      have hfz7_1 := Af BK129.out 1
      go_wp2_with (first | (go_at_call 41; (with_reducible refine (Em.calls a0_0 1 4 true _ A4.out).mono ?_); rintro e w' ⟨rfl, ⟨nd, rfl⟩⟩; (try first | exact ⟨rfl, _, World.drewN_drewN _ _ _⟩ | exact ⟨rfl, _, Eq.trans (World.drewN_drewN _ _ _) (congrArg (World.drewN _) (Nat.add_assoc _ _ _))⟩)) | (go_at_call 41; (with_reducible refine (Em.calls (l0_1.length : Int) 1 5 t131 _ A6.out).mono ?_); rintro e w' ⟨rfl, ⟨nd, rfl⟩⟩; (try first | exact ⟨rfl, _, World.drewN_drewN _ _ _⟩ | exact ⟨rfl, _, Eq.trans (World.drewN_drewN _ _ _) (congrArg (World.drewN _) (Nat.add_assoc _ _ _))⟩)))
      repeat (go_quiet (first | (go_at_call 41; (with_reducible refine (Em.calls a0_0 1 4 true _ A4.out).mono ?_); rintro e w' ⟨rfl, ⟨nd, rfl⟩⟩; (try first | exact ⟨rfl, _, World.drewN_drewN _ _ _⟩ | exact ⟨rfl, _, Eq.trans (World.drewN_drewN _ _ _) (congrArg (World.drewN _) (Nat.add_assoc _ _ _))⟩)) | (go_at_call 41; (with_reducible refine (Em.calls (l0_1.length : Int) 1 5 t131 _ A6.out).mono ?_); rintro e w' ⟨rfl, ⟨nd, rfl⟩⟩; (try first | exact ⟨rfl, _, World.drewN_drewN _ _ _⟩ | exact ⟨rfl, _, Eq.trans (World.drewN_drewN _ _ _) (congrArg (World.drewN _) (Nat.add_assoc _ _ _))⟩))); try go_wp2_with (first | (go_at_call 41; (with_reducible refine (Em.calls a0_0 1 4 true _ A4.out).mono ?_); rintro e w' ⟨rfl, ⟨nd, rfl⟩⟩; (try first | exact ⟨rfl, _, World.drewN_drewN _ _ _⟩ | exact ⟨rfl, _, Eq.trans (World.drewN_drewN _ _ _) (congrArg (World.drewN _) (Nat.add_assoc _ _ _))⟩)) | (go_at_call 41; (with_reducible refine (Em.calls (l0_1.length : Int) 1 5 t131 _ A6.out).mono ?_); rintro e w' ⟨rfl, ⟨nd, rfl⟩⟩; (try first | exact ⟨rfl, _, World.drewN_drewN _ _ _⟩ | exact ⟨rfl, _, Eq.trans (World.drewN_drewN _ _ _) (congrArg (World.drewN _) (Nat.add_assoc _ _ _))⟩))))
      go_meet
      case rel => exact ⟨_, (!t131), (by first | rfl | (simp; done) | (simp [*]; done)), H', ⟨by first | omega | exact Nat.le_refl _⟩, ⟨by (with_reducible repeat (first | refine Aj ?_ _ | refine Ak ?_ | refine Ai ?_ _)); exact BK129.out⟩, ⟨by repeat (first | (with_reducible first | exact HB.out | apply Ad | apply Aa | apply Ae | refine Ah ?_ GE129.out) | exact HB.out)⟩⟩
    · replace c5 := Bool.eq_false_iff.mpr c5
      subst c5
      have H1 : (Bh.j0 k true a0_0 l0_1) = some r := by rw [if_neg (show ¬ (false = true) by decide)] at H; exact H
      clear H
      have H := H1
      clear H1
      have H' := Ac.mk H
      clear H
      have hcz8_0 : w3.cell? ⟨gb129, 0, none⟩ = some (.int .i64 a0_0) := (Ag BK129.out 0).trans rfl
      have hcz8_1 : w3.cell? ⟨gb129, 1, none⟩ = some (.slice A0_1 l0_1.length c0_1) := (Ag BK129.out 1).trans rfl
      have hfz8_0 := Af BK129.out 0
      have hfz8_1 := Af BK129.out 1
      go_wp2_with (first | (go_at_call 41; (with_reducible refine (Em.calls a0_0 1 4 false _ A4.out).mono ?_); rintro e w' ⟨rfl, ⟨nd, rfl⟩⟩; (try first | exact ⟨rfl, _, World.drewN_drewN _ _ _⟩ | exact ⟨rfl, _, Eq.trans (World.drewN_drewN _ _ _) (congrArg (World.drewN _) (Nat.add_assoc _ _ _))⟩)))
      repeat (go_quiet (first | (go_at_call 41; (with_reducible refine (Em.calls a0_0 1 4 false _ A4.out).mono ?_); rintro e w' ⟨rfl, ⟨nd, rfl⟩⟩; (try first | exact ⟨rfl, _, World.drewN_drewN _ _ _⟩ | exact ⟨rfl, _, Eq.trans (World.drewN_drewN _ _ _) (congrArg (World.drewN _) (Nat.add_assoc _ _ _))⟩))); try go_wp2_with (first | (go_at_call 41; (with_reducible refine (Em.calls a0_0 1 4 false _ A4.out).mono ?_); rintro e w' ⟨rfl, ⟨nd, rfl⟩⟩; (try first | exact ⟨rfl, _, World.drewN_drewN _ _ _⟩ | exact ⟨rfl, _, Eq.trans (World.drewN_drewN _ _ _) (congrArg (World.drewN _) (Nat.add_assoc _ _ _))⟩))))
      go_meet
      case rel => exact ⟨_, (true), (by first | rfl | (simp; done) | (simp [*]; done)), H', ⟨by first | omega | exact Nat.le_refl _⟩, ⟨by (with_reducible repeat (first | refine Aj ?_ _ | refine Ak ?_ | refine Ai ?_ _)); exact BK129.out⟩, ⟨by repeat (first | (with_reducible first | exact HB.out | apply Ad | apply Aa | apply Ae | refine Ah ?_ GE129.out) | exact HB.out)⟩⟩
  case rest =>
    clear HC2
    try clear p2
    try clear c3
    try clear c5
    try clear hcz7_0
    try clear hcz7_1
    try clear hcz8_0
    try clear hcz8_1
    try clear hfz7_0
    try clear hfz7_1
    try clear hfz8_0
    try clear hfz8_1
    obtain ⟨kq, x17_1, rfl, HA, HJ1, BK129, HB⟩ := hcut
    cases kq with
    | zero => exact absurd HA.out (by simp [Bh.j0])
    | succ kj1 =>
      have H := HA.out
      clear HA
      simp only [Bh.j0] at H
      by_cases c9 : x17_1 = true
      · subst c9
        have H1 : (some false) = some r := by rw [if_pos rfl] at H; exact H
        clear H
        have H := H1
        clear H1
        obtain rfl := Option.some.inj H
        go_wp2
        repeat (go_quiet (fail); try go_wp2)
        go_ret
        exact ⟨by first | rfl | (simp [Aq, Au] <;> rfl) | (simp [*, Aq, Au] <;> rfl), by repeat (first | (with_reducible first | exact HB.out | apply Ad | apply Aa | apply Ae | refine Ah ?_ GE129.out) | exact HB.out)⟩
      · replace c9 := Bool.eq_false_iff.mpr c9
        subst c9
        have H1 : (Bh.l0 kj1 (([] : List Int)) 0 a0_0 l0_1) = some r := by rw [if_neg (show ¬ (false = true) by decide)] at H; exact H
        clear H
        have H := H1
        clear H1
        obtain ⟨y132, hy132⟩ : ∃ y_ : List Int, y_ = (([] : List Int)) := ⟨_, rfl⟩
        replace H : (Bh.l0 kj1 y132 0 a0_0 l0_1) = some r := by first | (rw [hy132]; with_reducible exact H) | (have H2_ := (Option.bind_some _ _).symm.trans H; rw [hy132]; with_reducible exact H2_) | (have H2_ := (Option.bind_some _ _).symm.trans H; with_reducible exact H2_) | with_reducible exact H | (rw [hy132]; exact H) | exact H
        have Ny132 := Ac.mk hy132
        clear hy132
        have H' := Ac.mk H
        clear H
        go_wp2_with (first | ((with_reducible refine Bd (N := 18) rfl ?_); (try (refine Eb (by rfl) ?_; dsimp only)); refine Kd.R_lit (Kd.int .i64) _ 3 ?hg (N := 18) ?hd (xs := ([] : List Int)) (inner := []) (ok := fun _ => True) (okp := fun _ => True) ?hr ?hp (fun _ hk => hk) trivial (Below.refl _ _) (Nat.le_refl _) (by simp) ?_; (case hd => rfl); (case hg => rfl); (case hr => first | (go_simp; done) | (go_simp; rfl)); (case hp => exact (Fh.none _ _)); intro v133 w10 ho11 hb hg_ hnew_; clear hg_ hnew_; (first | rw [← Ny132.out] at ho11 | (simp only [Int.reduceToNat] at ho11; rw [← Ny132.out] at ho11)); have n0_ := Ac.mk (Kd.Gj ho11 (Am (by repeat (first | (with_reducible first | exact HB.out | apply Ad | apply Aa | apply Ae | refine Ah ?_ GE129.out) | exact HB.out)))); have n1_ := Ac.mk (Az (g := gb129) (o := .cells #[.int .i64 a0_0, .slice A0_1 l0_1.length c0_1] 36 (0, 0)) (by (with_reducible repeat (first | refine Aj ?_ _ | refine Ak ?_ | refine Ai ?_ _)); exact BK129.out) hb); have n2_ := Ac.mk (Ap (by repeat (first | (with_reducible first | exact HB.out | apply Ad | apply Aa | apply Ae | refine Ah ?_ GE129.out) | exact HB.out)) hb); clear BK129; clear HB; have HO134 := n0_; have BK129 := n1_; have HB := n2_; clear n0_ n1_ n2_; clear hb ho11))
        repeat (go_quiet (first | ((with_reducible refine Bd (N := 18) rfl ?_); (try (refine Eb (by rfl) ?_; dsimp only)); refine Kd.R_lit (Kd.int .i64) _ 3 ?hg (N := 18) ?hd (xs := ([] : List Int)) (inner := []) (ok := fun _ => True) (okp := fun _ => True) ?hr ?hp (fun _ hk => hk) trivial (Below.refl _ _) (Nat.le_refl _) (by simp) ?_; (case hd => rfl); (case hg => rfl); (case hr => first | (go_simp; done) | (go_simp; rfl)); (case hp => exact (Fh.none _ _)); intro v133 w10 ho11 hb hg_ hnew_; clear hg_ hnew_; (first | rw [← Ny132.out] at ho11 | (simp only [Int.reduceToNat] at ho11; rw [← Ny132.out] at ho11)); have n0_ := Ac.mk (Kd.Gj ho11 (Am (by repeat (first | (with_reducible first | exact HB.out | apply Ad | apply Aa | apply Ae | refine Ah ?_ GE129.out) | exact HB.out)))); have n1_ := Ac.mk (Az (g := gb129) (o := .cells #[.int .i64 a0_0, .slice A0_1 l0_1.length c0_1] 36 (0, 0)) (by (with_reducible repeat (first | refine Aj ?_ _ | refine Ak ?_ | refine Ai ?_ _)); exact BK129.out) hb); have n2_ := Ac.mk (Ap (by repeat (first | (with_reducible first | exact HB.out | apply Ad | apply Aa | apply Ae | refine Ah ?_ GE129.out) | exact HB.out)) hb); clear BK129; clear HB; have HO134 := n0_; have BK129 := n1_; have HB := n2_; clear n0_ n1_ n2_; clear hb ho11)); try go_wp2_with (first | ((with_reducible refine Bd (N := 18) rfl ?_); (try (refine Eb (by rfl) ?_; dsimp only)); refine Kd.R_lit (Kd.int .i64) _ 3 ?hg (N := 18) ?hd (xs := ([] : List Int)) (inner := []) (ok := fun _ => True) (okp := fun _ => True) ?hr ?hp (fun _ hk => hk) trivial (Below.refl _ _) (Nat.le_refl _) (by simp) ?_; (case hd => rfl); (case hg => rfl); (case hr => first | (go_simp; done) | (go_simp; rfl)); (case hp => exact (Fh.none _ _)); intro v133 w10 ho11 hb hg_ hnew_; clear hg_ hnew_; (first | rw [← Ny132.out] at ho11 | (simp only [Int.reduceToNat] at ho11; rw [← Ny132.out] at ho11)); have n0_ := Ac.mk (Kd.Gj ho11 (Am (by repeat (first | (with_reducible first | exact HB.out | apply Ad | apply Aa | apply Ae | refine Ah ?_ GE129.out) | exact HB.out)))); have n1_ := Ac.mk (Az (g := gb129) (o := .cells #[.int .i64 a0_0, .slice A0_1 l0_1.length c0_1] 36 (0, 0)) (by (with_reducible repeat (first | refine Aj ?_ _ | refine Ak ?_ | refine Ai ?_ _)); exact BK129.out) hb); have n2_ := Ac.mk (Ap (by repeat (first | (with_reducible first | exact HB.out | apply Ad | apply Aa | apply Ae | refine Ah ?_ GE129.out) | exact HB.out)) hb); clear BK129; clear HB; have HO134 := n0_; have BK129 := n1_; have HB := n2_; clear n0_ n1_ n2_; clear hb ho11)))
        go_loopg [3, 4] kj1 (fun kq v3 v4 w' => ∃ (x3_2 : List Int) (x4_2 : Int), v4 = .int .i64 x4_2 ∧ Ac (Bh.l0 kq x3_2 x4_2 a0_0 l0_1 = some r) ∧ Ac (kq ≤ kj1) ∧ Ac (Kd.R (Kd.int .i64) 3 w' w.heap.size (fun _ => True) v3 x3_2) ∧ Ac (w'.heap[gb129]? = some (.cells #[.int .i64 a0_0, (.slice A0_1 l0_1.length c0_1)] 36 (0, 0))) ∧ Ac (Below w.heap.size w w'))
        case atStart => exact ⟨(y132), (0), (by first | rfl | (simp; done) | (simp [*]; done)), H', ⟨Nat.le_refl _⟩, ⟨by (with_reducible repeat (first | apply Kd.Dw | apply Kd.Dx | apply Kd.Ef)); exact HO134.out⟩, ⟨by (with_reducible repeat (first | refine Aj ?_ _ | refine Ak ?_ | refine Ai ?_ _)); exact BK129.out⟩, ⟨by repeat (first | (with_reducible first | exact HB.out | apply Ad | apply Aa | apply Ae | refine Ah ?_ GE129.out) | exact HB.out)⟩⟩
        case round =>
          clear H'
          try clear p2
          try clear c3
          try clear c5
          try clear c9
          try clear hcz7_0
          try clear hcz7_1
          try clear hcz8_0
          try clear hcz8_1
          try clear hfz7_0
          try clear hfz7_1
          try clear hfz8_0
          try clear hfz8_1
          try clear p2
          obtain ⟨x3_2, x4_2, rfl, HA, HK2, HO_3, BK129, HB⟩ := hrel
          cases gk with
          | zero => exact absurd HA.out (by simp [Bh.l0])
          | succ k2 =>
            have H := HA.out
            clear HA
            simp only [Bh.l0] at H
            by_cases c12 : x4_2 < (l0_1.length : Int)
            · rw [if_pos c12] at H
              have c12b0 : decide (x4_2 < (l0_1.length : Int)) = true := decide_eq_true c12
              clear c12
              by_cases c13 : 0 ≤ x4_2
              · rw [if_pos c13] at H
                have c13b0 : decide (0 ≤ x4_2) = true := decide_eq_true c13
                clear c13
                by_cases c14 : ((Bo l0_1 x4_2).length : Int) > a0_0
                · rw [if_pos c14] at H
                  have c14b0 : decide (a0_0 < ((Bo l0_1 x4_2).length : Int)) = true := decide_eq_true c14
                  clear c14
                  obtain rfl := Option.some.inj H
                  have hcz15_0 : wr.cell? ⟨gb129, 0, none⟩ = some (.int .i64 a0_0) := (Ag BK129.out 0).trans rfl
                  have hcz15_1 : wr.cell? ⟨gb129, 1, none⟩ = some (.slice A0_1 l0_1.length c0_1) := (Ag BK129.out 1).trans rfl
                  have hfz15_0 := Af BK129.out 0
                  have hfz15_1 := Af BK129.out 1
                  have p135 : 0 ≤ (x4_2 : Int) := of_decide_eq_true (by first | (with_reducible assumption) | assumption)
                  have q135 : x4_2 < (l0_1.length : Int) := of_decide_eq_true (by first | (with_reducible assumption) | assumption)
                  obtain ⟨ad135, A135_0, c135_0, e135, hx135_0, hl135_0, hi135_0⟩ := Gm HR0_1.out x4_2 p135 q135
                  cases e135
                  replace hx135_0 := (HB.out.cell (World.block_lt_of_cell? w _ hx135_0)).trans hx135_0
                  have HR135_0 := Ac.mk hi135_0
                  have HC135_0 := Ac.mk hl135_0
                  clear hi135_0 hl135_0
                  replace p135 := eq_true p135
                  replace q135 := eq_true q135
                  go_wp2
                  repeat (go_quiet (fail); try go_wp2)
                  go_ret
                  exact ⟨by first | rfl | (simp [Aq, Au] <;> rfl) | (simp [*, Aq, Au] <;> rfl), by repeat (first | (with_reducible first | exact HB.out | apply Ad | apply Aa | apply Ae | refine Ah ?_ GE129.out) | exact HB.out)⟩
                · rw [if_neg c14] at H
                  have c14b0 : decide (a0_0 < ((Bo l0_1 x4_2).length : Int)) = false := decide_eq_false c14
                  clear c14
                  have H' := Ac.mk H
                  clear H
                  have hcz16_0 : wr.cell? ⟨gb129, 0, none⟩ = some (.int .i64 a0_0) := (Ag BK129.out 0).trans rfl
                  have hcz16_1 : wr.cell? ⟨gb129, 1, none⟩ = some (.slice A0_1 l0_1.length c0_1) := (Ag BK129.out 1).trans rfl
                  have hfz16_0 := Af BK129.out 0
                  have hfz16_1 := Af BK129.out 1
                  have p135 : 0 ≤ (x4_2 : Int) := of_decide_eq_true (by first | (with_reducible assumption) | assumption)
                  have q135 : x4_2 < (l0_1.length : Int) := of_decide_eq_true (by first | (with_reducible assumption) | assumption)
                  obtain ⟨ad135, A135_0, c135_0, e135, hx135_0, hl135_0, hi135_0⟩ := Gm HR0_1.out x4_2 p135 q135
                  cases e135
                  replace hx135_0 := (HB.out.cell (World.block_lt_of_cell? w _ hx135_0)).trans hx135_0
                  have HR135_0 := Ac.mk hi135_0
                  have HC135_0 := Ac.mk hl135_0
                  clear hi135_0 hl135_0
                  replace p135 := eq_true p135
                  replace q135 := eq_true q135
                  go_wp2
                  repeat (go_quiet (fail); try go_wp2)
                  go_loopg [3, 5] k2 (fun kq v3 v5 w' => ∃ (x3_3 : List Int) (x5_3 : Int), v5 = .int .i64 x5_3 ∧ Ac (Bh.l1 kq x3_3 x4_2 x5_3 a0_0 l0_1 = some r) ∧ Ac (kq ≤ k2) ∧ Ac (Kd.R (Kd.int .i64) 3 w' w.heap.size (fun _ => True) v3 x3_3) ∧ Ac (w'.heap[gb129]? = some (.cells #[.int .i64 a0_0, (.slice (some ad135) l0_1.length c0_1)] 36 (0, 0))) ∧ Ac (Below w.heap.size w w'))
                  case atStart => exact ⟨(x3_2), (0), (by first | rfl | (simp; done) | (simp [*]; done)), H', ⟨Nat.le_refl _⟩, ⟨by (with_reducible repeat (first | apply Kd.Dw | apply Kd.Dx | apply Kd.Ef)); exact HO_3.out⟩, ⟨by (with_reducible repeat (first | refine Aj ?_ _ | refine Ak ?_ | refine Ai ?_ _)); exact BK129.out⟩, ⟨by repeat (first | (with_reducible first | exact HB.out | apply Ad | apply Aa | apply Ae | refine Ah ?_ GE129.out) | exact HB.out)⟩⟩
                  case round =>
                    clear H'
                    try clear c1
                    try clear p1
                    try clear q1
                    try clear hx1
                    try clear p2
                    try clear c3
                    try clear c5
                    try clear c9
                    try clear c12
                    try clear c12b0
                    try clear c13
                    try clear c13b0
                    try clear p13
                    try clear q13
                    try clear hx13
                    try clear c14
                    try clear c14b0
                    try clear hcz15_0
                    try clear hcz15_1
                    try clear hcz16_0
                    try clear hcz16_1
                    try clear hcz7_0
                    try clear hcz7_1
                    try clear hcz8_0
                    try clear hcz8_1
                    try clear hfz15_0
                    try clear hfz15_1
                    try clear hfz16_0
                    try clear hfz16_1
                    try clear hfz7_0
                    try clear hfz7_1
                    try clear hfz8_0
                    try clear hfz8_1
                    try clear hx135_0
                    try clear p135
                    try clear p2
                    try clear q135
                    obtain ⟨x3_3, x5_3, rfl, HA, HK3, HO_3, BK129, HB⟩ := hrel
                    cases gk with
                    | zero => exact absurd HA.out (by simp [Bh.l1])
                    | succ k3 =>
                      have H := HA.out
                      clear HA
                      simp only [Bh.l1] at H
                      by_cases c17 : 0 ≤ x4_2
                      · rw [if_pos c17] at H
                        have c17b0 : decide (0 ≤ x4_2) = true := decide_eq_true c17
                        clear c17
                        by_cases c18 : x4_2 < (l0_1.length : Int)
                        · rw [if_pos c18] at H
                          have c18b0 : decide (x4_2 < (l0_1.length : Int)) = true := decide_eq_true c18
                          clear c18
                          by_cases c19 : x5_3 < ((Bo l0_1 x4_2).length : Int)
                          · rw [if_pos c19] at H
                            have c19b0 : decide (x5_3 < ((Bo l0_1 x4_2).length : Int)) = true := decide_eq_true c19
                            clear c19
                            by_cases c20 : 0 ≤ x5_3
                            · rw [if_pos c20] at H
                              have c20b0 : decide (0 ≤ x5_3) = true := decide_eq_true c20
                              clear c20
                              replace H := Option.bind_eq_some_iff.mp H
                              obtain ⟨t139, A210, H⟩ := H
                              replace H : (if t139 = true then ((Di.f k3 x3_3 (rd (Bo l0_1 x4_2) x5_3)).bind fun t140 => (if t140 = true then (some false) else (if x3_3.length < 17592186044416 then (Bh.l1 k3 (x3_3 ++ [rd (Bo l0_1 x4_2) x5_3]) x4_2 (wrap64 (x5_3 + 1)) a0_0 l0_1) else (none)))) else (some false)) = some r := H
                              have A21 := Ac.mk A210
                              clear A210
                              by_cases c22 : t139 = true
                              · subst c22
                                have H1 : ((Di.f k3 x3_3 (rd (Bo l0_1 x4_2) x5_3)).bind fun t140 => (if t140 = true then (some false) else (if x3_3.length < 17592186044416 then (Bh.l1 k3 (x3_3 ++ [rd (Bo l0_1 x4_2) x5_3]) x4_2 (wrap64 (x5_3 + 1)) a0_0 l0_1) else (none)))) = some r := by rw [if_pos rfl] at H; exact H
                                clear H
                                have H := H1
                                clear H1
                                replace H := Option.bind_eq_some_iff.mp H
                                obtain ⟨t140, A230, H⟩ := H
                                replace H : (if t140 = true then (some false) else (if x3_3.length < 17592186044416 then (Bh.l1 k3 (x3_3 ++ [rd (Bo l0_1 x4_2) x5_3]) x4_2 (wrap64 (x5_3 + 1)) a0_0 l0_1) else (none))) = some r := H
                                have A23 := Ac.mk A230
                                clear A230
                                by_cases c24 : t140 = true
                                · subst c24
                                  have H1 : (some false) = some r := by rw [if_pos rfl] at H; exact H
                                  clear H
                                  have H := H1
                                  clear H1
                                  obtain rfl := Option.some.inj H
                                  have hcz25_0 : wr.cell? ⟨gb129, 0, none⟩ = some (.int .i64 a0_0) := (Ag BK129.out 0).trans rfl
                                  have hcz25_1 : wr.cell? ⟨gb129, 1, none⟩ = some (.slice (some ad135) l0_1.length c0_1) := (Ag BK129.out 1).trans rfl
                                  have hfz25_0 := Af BK129.out 0
                                  have hfz25_1 := Af BK129.out 1
                                  have p136 : 0 ≤ (x4_2 : Int) := of_decide_eq_true (by first | (with_reducible assumption) | assumption)
                                  have q136 : x4_2 < (l0_1.length : Int) := of_decide_eq_true (by first | (with_reducible assumption) | assumption)
                                  obtain ⟨ad136, A136_0, c136_0, e136, hx136_0, hl136_0, hi136_0⟩ := Gm HR0_1.out x4_2 p136 q136
                                  obtain rfl : ad135 = ad136 := (by injection e136)
                                  replace hx136_0 := (HB.out.cell (World.block_lt_of_cell? w _ hx136_0)).trans hx136_0
                                  have HR136_0 := Ac.mk hi136_0
                                  have HC136_0 := Ac.mk hl136_0
                                  clear hi136_0 hl136_0
                                  replace p136 := eq_true p136
                                  replace q136 := eq_true q136
                                  have p137 : 0 ≤ (x4_2 : Int) := of_decide_eq_true (by first | (with_reducible assumption) | assumption)
                                  have q137 : x4_2 < (l0_1.length : Int) := of_decide_eq_true (by first | (with_reducible assumption) | assumption)
                                  obtain ⟨ad137, A137_0, c137_0, e137, hx137_0, hl137_0, hi137_0⟩ := Gm HR0_1.out x4_2 p137 q137
                                  obtain rfl : ad135 = ad137 := (by injection e137)
                                  replace hx137_0 := (HB.out.cell (World.block_lt_of_cell? w _ hx137_0)).trans hx137_0
                                  have HR137_0 := Ac.mk hi137_0
                                  have HC137_0 := Ac.mk hl137_0
                                  clear hi137_0 hl137_0
                                  replace p137 := eq_true p137
                                  replace q137 := eq_true q137
                                  have ea_ := Option.some.inj (hx136_0.symm.trans hx137_0)
                                  injection ea_ with ea_ en_ ec_
                                  subst ea_
                                  subst ec_
                                  clear en_
                                  have p138 : 0 ≤ (x5_3 : Int) := of_decide_eq_true (by first | (with_reducible assumption) | assumption)
                                  have q138 : x5_3 < ((Bo l0_1 x4_2).length : Int) := of_decide_eq_true (by first | (with_reducible assumption) | assumption)
                                  obtain ⟨ad138, e138, hx138_0⟩ := Kd.Ho HR137_0.out x5_3 p138 q138
                                  cases e138
                                  replace hx138_0 := (HB.out.cell (World.block_lt_of_cell? w _ hx138_0)).trans hx138_0
                                  replace p138 := eq_true p138
                                  replace q138 := eq_true q138
                                  go_wp2_with (first | (go_at_call 41; (with_reducible refine (Em.calls (rd (Bo l0_1 x4_2) x5_3) 1 99 true _ A21.out).mono ?_); rintro e w' ⟨rfl, ⟨nd, rfl⟩⟩; (try first | exact ⟨rfl, _, World.drewN_drewN _ _ _⟩ | exact ⟨rfl, _, Eq.trans (World.drewN_drewN _ _ _) (congrArg (World.drewN _) (Nat.add_assoc _ _ _))⟩); obtain ⟨Ao26, co26, eo26⟩ := Kd.Gq HO_3.out; subst eo26) | (go_at_call 42; (with_reducible refine (Di.calls k3 _ _ x3_3 (rd (Bo l0_1 x4_2) x5_3) true _ ?side1 ?side2 A23.out).mono ?_); (case side1 => repeat (first | exact (Kd.Fq HO_3.out).2.2 | (with_reducible refine Kd.Bl ?_ _) | (with_reducible refine Kd.Bj ?_ _) | (with_reducible refine Kd.Ce ?_))); (case side2 => exact (Kd.Fq HO_3.out).2.1); rintro e w' ⟨rfl, ⟨nd, rfl⟩⟩; (try first | exact ⟨rfl, _, World.drewN_drewN _ _ _⟩ | exact ⟨rfl, _, Eq.trans (World.drewN_drewN _ _ _) (congrArg (World.drewN _) (Nat.add_assoc _ _ _))⟩)))
                                  repeat (go_quiet (first | (go_at_call 41; (with_reducible refine (Em.calls (rd (Bo l0_1 x4_2) x5_3) 1 99 true _ A21.out).mono ?_); rintro e w' ⟨rfl, ⟨nd, rfl⟩⟩; (try first | exact ⟨rfl, _, World.drewN_drewN _ _ _⟩ | exact ⟨rfl, _, Eq.trans (World.drewN_drewN _ _ _) (congrArg (World.drewN _) (Nat.add_assoc _ _ _))⟩); obtain ⟨Ao26, co26, eo26⟩ := Kd.Gq HO_3.out; subst eo26) | (go_at_call 42; (with_reducible refine (Di.calls k3 _ _ x3_3 (rd (Bo l0_1 x4_2) x5_3) true _ ?side1 ?side2 A23.out).mono ?_); (case side1 => repeat (first | exact (Kd.Fq HO_3.out).2.2 | (with_reducible refine Kd.Bl ?_ _) | (with_reducible refine Kd.Bj ?_ _) | (with_reducible refine Kd.Ce ?_))); (case side2 => exact (Kd.Fq HO_3.out).2.1); rintro e w' ⟨rfl, ⟨nd, rfl⟩⟩; (try first | exact ⟨rfl, _, World.drewN_drewN _ _ _⟩ | exact ⟨rfl, _, Eq.trans (World.drewN_drewN _ _ _) (congrArg (World.drewN _) (Nat.add_assoc _ _ _))⟩))); try go_wp2_with (first | (go_at_call 41; (with_reducible refine (Em.calls (rd (Bo l0_1 x4_2) x5_3) 1 99 true _ A21.out).mono ?_); rintro e w' ⟨rfl, ⟨nd, rfl⟩⟩; (try first | exact ⟨rfl, _, World.drewN_drewN _ _ _⟩ | exact ⟨rfl, _, Eq.trans (World.drewN_drewN _ _ _) (congrArg (World.drewN _) (Nat.add_assoc _ _ _))⟩); obtain ⟨Ao26, co26, eo26⟩ := Kd.Gq HO_3.out; subst eo26) | (go_at_call 42; (with_reducible refine (Di.calls k3 _ _ x3_3 (rd (Bo l0_1 x4_2) x5_3) true _ ?side1 ?side2 A23.out).mono ?_); (case side1 => repeat (first | exact (Kd.Fq HO_3.out).2.2 | (with_reducible refine Kd.Bl ?_ _) | (with_reducible refine Kd.Bj ?_ _) | (with_reducible refine Kd.Ce ?_))); (case side2 => exact (Kd.Fq HO_3.out).2.1); rintro e w' ⟨rfl, ⟨nd, rfl⟩⟩; (try first | exact ⟨rfl, _, World.drewN_drewN _ _ _⟩ | exact ⟨rfl, _, Eq.trans (World.drewN_drewN _ _ _) (congrArg (World.drewN _) (Nat.add_assoc _ _ _))⟩))))
                                  go_ret
                                  exact ⟨by first | rfl | (simp [Aq, Au] <;> rfl) | (simp [*, Aq, Au] <;> rfl), by repeat (first | (with_reducible first | exact HB.out | apply Ad | apply Aa | apply Ae | refine Ah ?_ GE129.out) | exact HB.out)⟩
                                · replace c24 := Bool.eq_false_iff.mpr c24
                                  subst c24
                                  have H1 : (if x3_3.length < 17592186044416 then (Bh.l1 k3 (x3_3 ++ [rd (Bo l0_1 x4_2) x5_3]) x4_2 (wrap64 (x5_3 + 1)) a0_0 l0_1) else (none)) = some r := by rw [if_neg (show ¬ (false = true) by decide)] at H; exact H
                                  clear H
                                  have H := H1
                                  clear H1
                                  by_cases c27 : x3_3.length < 17592186044416
                                  · rw [if_pos c27] at H
                                    have LMc27 := Ac.mk c27
                                    clear c27
                                    obtain ⟨y141, hy141⟩ : ∃ y_ : List Int, y_ = (x3_3 ++ [rd (Bo l0_1 x4_2) x5_3]) := ⟨_, rfl⟩
                                    replace H : (Bh.l1 k3 y141 x4_2 (wrap64 (x5_3 + 1)) a0_0 l0_1) = some r := by first | (rw [hy141]; with_reducible exact H) | (have H2_ := (Option.bind_some _ _).symm.trans H; rw [hy141]; with_reducible exact H2_) | (have H2_ := (Option.bind_some _ _).symm.trans H; with_reducible exact H2_) | with_reducible exact H | (rw [hy141]; exact H) | exact H
                                    have Ny141 := Ac.mk hy141
                                    clear hy141
                                    have H' := Ac.mk H
                                    clear H
                                    have hcz28_0 : wr.cell? ⟨gb129, 0, none⟩ = some (.int .i64 a0_0) := (Ag BK129.out 0).trans rfl
                                    have hcz28_1 : wr.cell? ⟨gb129, 1, none⟩ = some (.slice (some ad135) l0_1.length c0_1) := (Ag BK129.out 1).trans rfl
                                    have hfz28_0 := Af BK129.out 0
                                    have hfz28_1 := Af BK129.out 1
                                    have p136 : 0 ≤ (x4_2 : Int) := of_decide_eq_true (by first | (with_reducible assumption) | assumption)
                                    have q136 : x4_2 < (l0_1.length : Int) := of_decide_eq_true (by first | (with_reducible assumption) | assumption)
                                    obtain ⟨ad136, A136_0, c136_0, e136, hx136_0, hl136_0, hi136_0⟩ := Gm HR0_1.out x4_2 p136 q136
                                    obtain rfl : ad135 = ad136 := (by injection e136)
                                    replace hx136_0 := (HB.out.cell (World.block_lt_of_cell? w _ hx136_0)).trans hx136_0
                                    have HR136_0 := Ac.mk hi136_0
                                    have HC136_0 := Ac.mk hl136_0
                                    clear hi136_0 hl136_0
                                    replace p136 := eq_true p136
                                    replace q136 := eq_true q136
                                    have p137 : 0 ≤ (x4_2 : Int) := of_decide_eq_true (by first | (with_reducible assumption) | assumption)
                                    have q137 : x4_2 < (l0_1.length : Int) := of_decide_eq_true (by first | (with_reducible assumption) | assumption)
                                    obtain ⟨ad137, A137_0, c137_0, e137, hx137_0, hl137_0, hi137_0⟩ := Gm HR0_1.out x4_2 p137 q137
                                    obtain rfl : ad135 = ad137 := (by injection e137)
                                    replace hx137_0 := (HB.out.cell (World.block_lt_of_cell? w _ hx137_0)).trans hx137_0
                                    have HR137_0 := Ac.mk hi137_0
                                    have HC137_0 := Ac.mk hl137_0
                                    clear hi137_0 hl137_0
                                    replace p137 := eq_true p137
                                    replace q137 := eq_true q137
                                    have ea_ := Option.some.inj (hx136_0.symm.trans hx137_0)
                                    injection ea_ with ea_ en_ ec_
                                    subst ea_
                                    subst ec_
                                    clear en_
                                    have p138 : 0 ≤ (x5_3 : Int) := of_decide_eq_true (by first | (with_reducible assumption) | assumption)
                                    have q138 : x5_3 < ((Bo l0_1 x4_2).length : Int) := of_decide_eq_true (by first | (with_reducible assumption) | assumption)
                                    obtain ⟨ad138, e138, hx138_0⟩ := Kd.Ho HR137_0.out x5_3 p138 q138
                                    cases e138
                                    replace hx138_0 := (HB.out.cell (World.block_lt_of_cell? w _ hx138_0)).trans hx138_0
                                    replace p138 := eq_true p138
                                    replace q138 := eq_true q138
                                    go_wp2_with (first | (go_at_call 41; (with_reducible refine (Em.calls (rd (Bo l0_1 x4_2) x5_3) 1 99 true _ A21.out).mono ?_); rintro e w' ⟨rfl, ⟨nd, rfl⟩⟩; (try first | exact ⟨rfl, _, World.drewN_drewN _ _ _⟩ | exact ⟨rfl, _, Eq.trans (World.drewN_drewN _ _ _) (congrArg (World.drewN _) (Nat.add_assoc _ _ _))⟩); obtain ⟨Ao29, co29, eo29⟩ := Kd.Gq HO_3.out; subst eo29) | (go_at_call 42; (with_reducible refine (Di.calls k3 _ _ x3_3 (rd (Bo l0_1 x4_2) x5_3) false _ ?side1 ?side2 A23.out).mono ?_); (case side1 => repeat (first | exact (Kd.Fq HO_3.out).2.2 | (with_reducible refine Kd.Bl ?_ _) | (with_reducible refine Kd.Bj ?_ _) | (with_reducible refine Kd.Ce ?_))); (case side2 => exact (Kd.Fq HO_3.out).2.1); rintro e w' ⟨rfl, ⟨nd, rfl⟩⟩; (try first | exact ⟨rfl, _, World.drewN_drewN _ _ _⟩ | exact ⟨rfl, _, Eq.trans (World.drewN_drewN _ _ _) (congrArg (World.drewN _) (Nat.add_assoc _ _ _))⟩)) | ((with_reducible refine Ic (b := .append) (xs := #[.tmp 61, .tmp 63]) rfl ?_); (try (refine Eb (by rfl) ?_; dsimp only)); at_builtin; refine Kd.Je (Kd.int .i64) (w0 := w) w.heap.size rfl (.tmp 61) (.tmp 63) 59 3 (.int .i64 0) 8 rfl Tryd.underlying59 info3 rfl (by decide) (by omega) (.slice Ao29 x3_3.length co29) x3_3 (rd (Bo l0_1 x4_2) x5_3) [.int .i64 (rd (Bo l0_1 x4_2) x5_3)] (fun _ => True) (fun _ => False) rfl rfl ?aP (fun _ hk => hk.elim) ?aF ?aO ?aB ?aS ?aL ?_; (case aP => exact rfl); (case aB => exact (by repeat (first | (with_reducible first | exact HB.out | apply Ad | apply Aa | apply Ae | refine Ah ?_ GE129.out) | exact HB.out))); (case aF => exact (fun _ _ => trivial)); (case aO => exact (by (with_reducible repeat (first | apply Kd.Dw | apply Kd.Dx | apply Kd.Ef)); exact HO_3.out)); (case aS => exact (Am (by repeat (first | (with_reducible first | exact HB.out | apply Ad | apply Aa | apply Ae | refine Ah ?_ GE129.out) | exact HB.out)))); (case aL => have := LMc27.out; omega); intro v142 w30 ho hb hg hat; rw [← Ny141.out] at ho; have n0_ := Ac.mk (Jc (g := gb129) (o := .cells #[.int .i64 a0_0, .slice (some ad135) l0_1.length c0_1] 36 (0, 0)) (by (with_reducible repeat (first | refine Aj ?_ _ | refine Ak ?_ | refine Ai ?_ _)); exact BK129.out) hg (Kd.R_ne HO_3.out BK129.out (by decide))); have n1_ := Ac.mk (hb); have n2_ := Ac.mk (ho); clear BK129; clear HB; clear HO_3; have BK129 := n0_; have HB := n1_; have HO143 := n2_; clear n0_ n1_ n2_; clear ho hb hg hat))
                                    repeat (go_quiet (first | (go_at_call 41; (with_reducible refine (Em.calls (rd (Bo l0_1 x4_2) x5_3) 1 99 true _ A21.out).mono ?_); rintro e w' ⟨rfl, ⟨nd, rfl⟩⟩; (try first | exact ⟨rfl, _, World.drewN_drewN _ _ _⟩ | exact ⟨rfl, _, Eq.trans (World.drewN_drewN _ _ _) (congrArg (World.drewN _) (Nat.add_assoc _ _ _))⟩); obtain ⟨Ao29, co29, eo29⟩ := Kd.Gq HO_3.out; subst eo29) | (go_at_call 42; (with_reducible refine (Di.calls k3 _ _ x3_3 (rd (Bo l0_1 x4_2) x5_3) false _ ?side1 ?side2 A23.out).mono ?_); (case side1 => repeat (first | exact (Kd.Fq HO_3.out).2.2 | (with_reducible refine Kd.Bl ?_ _) | (with_reducible refine Kd.Bj ?_ _) | (with_reducible refine Kd.Ce ?_))); (case side2 => exact (Kd.Fq HO_3.out).2.1); rintro e w' ⟨rfl, ⟨nd, rfl⟩⟩; (try first | exact ⟨rfl, _, World.drewN_drewN _ _ _⟩ | exact ⟨rfl, _, Eq.trans (World.drewN_drewN _ _ _) (congrArg (World.drewN _) (Nat.add_assoc _ _ _))⟩)) | ((with_reducible refine Ic (b := .append) (xs := #[.tmp 61, .tmp 63]) rfl ?_); (try (refine Eb (by rfl) ?_; dsimp only)); at_builtin; refine Kd.Je (Kd.int .i64) (w0 := w) w.heap.size rfl (.tmp 61) (.tmp 63) 59 3 (.int .i64 0) 8 rfl Tryd.underlying59 info3 rfl (by decide) (by omega) (.slice Ao29 x3_3.length co29) x3_3 (rd (Bo l0_1 x4_2) x5_3) [.int .i64 (rd (Bo l0_1 x4_2) x5_3)] (fun _ => True) (fun _ => False) rfl rfl ?aP (fun _ hk => hk.elim) ?aF ?aO ?aB ?aS ?aL ?_; (case aP => exact rfl); (case aB => exact (by repeat (first | (with_reducible first | exact HB.out | apply Ad | apply Aa | apply Ae | refine Ah ?_ GE129.out) | exact HB.out))); (case aF => exact (fun _ _ => trivial)); (case aO => exact (by (with_reducible repeat (first | apply Kd.Dw | apply Kd.Dx | apply Kd.Ef)); exact HO_3.out)); (case aS => exact (Am (by repeat (first | (with_reducible first | exact HB.out | apply Ad | apply Aa | apply Ae | refine Ah ?_ GE129.out) | exact HB.out)))); (case aL => have := LMc27.out; omega); intro v142 w30 ho hb hg hat; rw [← Ny141.out] at ho; have n0_ := Ac.mk (Jc (g := gb129) (o := .cells #[.int .i64 a0_0, .slice (some ad135) l0_1.length c0_1] 36 (0, 0)) (by (with_reducible repeat (first | refine Aj ?_ _ | refine Ak ?_ | refine Ai ?_ _)); exact BK129.out) hg (Kd.R_ne HO_3.out BK129.out (by decide))); have n1_ := Ac.mk (hb); have n2_ := Ac.mk (ho); clear BK129; clear HB; clear HO_3; have BK129 := n0_; have HB := n1_; have HO143 := n2_; clear n0_ n1_ n2_; clear ho hb hg hat)); try go_wp2_with (first | (go_at_call 41; (with_reducible refine (Em.calls (rd (Bo l0_1 x4_2) x5_3) 1 99 true _ A21.out).mono ?_); rintro e w' ⟨rfl, ⟨nd, rfl⟩⟩; (try first | exact ⟨rfl, _, World.drewN_drewN _ _ _⟩ | exact ⟨rfl, _, Eq.trans (World.drewN_drewN _ _ _) (congrArg (World.drewN _) (Nat.add_assoc _ _ _))⟩); obtain ⟨Ao29, co29, eo29⟩ := Kd.Gq HO_3.out; subst eo29) | (go_at_call 42; (with_reducible refine (Di.calls k3 _ _ x3_3 (rd (Bo l0_1 x4_2) x5_3) false _ ?side1 ?side2 A23.out).mono ?_); (case side1 => repeat (first | exact (Kd.Fq HO_3.out).2.2 | (with_reducible refine Kd.Bl ?_ _) | (with_reducible refine Kd.Bj ?_ _) | (with_reducible refine Kd.Ce ?_))); (case side2 => exact (Kd.Fq HO_3.out).2.1); rintro e w' ⟨rfl, ⟨nd, rfl⟩⟩; (try first | exact ⟨rfl, _, World.drewN_drewN _ _ _⟩ | exact ⟨rfl, _, Eq.trans (World.drewN_drewN _ _ _) (congrArg (World.drewN _) (Nat.add_assoc _ _ _))⟩)) | ((with_reducible refine Ic (b := .append) (xs := #[.tmp 61, .tmp 63]) rfl ?_); (try (refine Eb (by rfl) ?_; dsimp only)); at_builtin; refine Kd.Je (Kd.int .i64) (w0 := w) w.heap.size rfl (.tmp 61) (.tmp 63) 59 3 (.int .i64 0) 8 rfl Tryd.underlying59 info3 rfl (by decide) (by omega) (.slice Ao29 x3_3.length co29) x3_3 (rd (Bo l0_1 x4_2) x5_3) [.int .i64 (rd (Bo l0_1 x4_2) x5_3)] (fun _ => True) (fun _ => False) rfl rfl ?aP (fun _ hk => hk.elim) ?aF ?aO ?aB ?aS ?aL ?_; (case aP => exact rfl); (case aB => exact (by repeat (first | (with_reducible first | exact HB.out | apply Ad | apply Aa | apply Ae | refine Ah ?_ GE129.out) | exact HB.out))); (case aF => exact (fun _ _ => trivial)); (case aO => exact (by (with_reducible repeat (first | apply Kd.Dw | apply Kd.Dx | apply Kd.Ef)); exact HO_3.out)); (case aS => exact (Am (by repeat (first | (with_reducible first | exact HB.out | apply Ad | apply Aa | apply Ae | refine Ah ?_ GE129.out) | exact HB.out)))); (case aL => have := LMc27.out; omega); intro v142 w30 ho hb hg hat; rw [← Ny141.out] at ho; have n0_ := Ac.mk (Jc (g := gb129) (o := .cells #[.int .i64 a0_0, .slice (some ad135) l0_1.length c0_1] 36 (0, 0)) (by (with_reducible repeat (first | refine Aj ?_ _ | refine Ak ?_ | refine Ai ?_ _)); exact BK129.out) hg (Kd.R_ne HO_3.out BK129.out (by decide))); have n1_ := Ac.mk (hb); have n2_ := Ac.mk (ho); clear BK129; clear HB; clear HO_3; have BK129 := n0_; have HB := n1_; have HO143 := n2_; clear n0_ n1_ n2_; clear ho hb hg hat)))
                                    go_roundg k3
                                    case measure => have := HJ1.out; have := HK2.out; have := HK3.out; omega
                                    case rel => exact ⟨(y141), (wrap64 (x5_3 + 1)), (by first | rfl | (simp; done) | (simp [*]; done)), H', ⟨by have := HJ1.out; have := HK2.out; have := HK3.out; omega⟩, ⟨by (with_reducible repeat (first | apply Kd.Dw | apply Kd.Dx | apply Kd.Ef)); exact HO143.out⟩, ⟨by (with_reducible repeat (first | refine Aj ?_ _ | refine Ak ?_ | refine Ai ?_ _)); exact BK129.out⟩, ⟨by repeat (first | (with_reducible first | exact HB.out | apply Ad | apply Aa | apply Ae | refine Ah ?_ GE129.out) | exact HB.out)⟩⟩
                                  · rw [if_neg c27] at H
                                    exact absurd H (by simp)
                              · replace c22 := Bool.eq_false_iff.mpr c22
                                subst c22
                                have H1 : (some false) = some r := by rw [if_neg (show ¬ (false = true) by decide)] at H; exact H
                                clear H
                                have H := H1
                                clear H1
                                obtain rfl := Option.some.inj H
                                have hcz31_0 : wr.cell? ⟨gb129, 0, none⟩ = some (.int .i64 a0_0) := (Ag BK129.out 0).trans rfl
                                have hcz31_1 : wr.cell? ⟨gb129, 1, none⟩ = some (.slice (some ad135) l0_1.length c0_1) := (Ag BK129.out 1).trans rfl
                                have hfz31_0 := Af BK129.out 0
                                have hfz31_1 := Af BK129.out 1
                                have p136 : 0 ≤ (x4_2 : Int) := of_decide_eq_true (by first | (with_reducible assumption) | assumption)
                                have q136 : x4_2 < (l0_1.length : Int) := of_decide_eq_true (by first | (with_reducible assumption) | assumption)
                                obtain ⟨ad136, A136_0, c136_0, e136, hx136_0, hl136_0, hi136_0⟩ := Gm HR0_1.out x4_2 p136 q136
                                obtain rfl : ad135 = ad136 := (by injection e136)
                                replace hx136_0 := (HB.out.cell (World.block_lt_of_cell? w _ hx136_0)).trans hx136_0
                                have HR136_0 := Ac.mk hi136_0
                                have HC136_0 := Ac.mk hl136_0
                                clear hi136_0 hl136_0
                                replace p136 := eq_true p136
                                replace q136 := eq_true q136
                                have p137 : 0 ≤ (x4_2 : Int) := of_decide_eq_true (by first | (with_reducible assumption) | assumption)
                                have q137 : x4_2 < (l0_1.length : Int) := of_decide_eq_true (by first | (with_reducible assumption) | assumption)
                                obtain ⟨ad137, A137_0, c137_0, e137, hx137_0, hl137_0, hi137_0⟩ := Gm HR0_1.out x4_2 p137 q137
                                obtain rfl : ad135 = ad137 := (by injection e137)
                                replace hx137_0 := (HB.out.cell (World.block_lt_of_cell? w _ hx137_0)).trans hx137_0
                                have HR137_0 := Ac.mk hi137_0
                                have HC137_0 := Ac.mk hl137_0
                                clear hi137_0 hl137_0
                                replace p137 := eq_true p137
                                replace q137 := eq_true q137
                                have ea_ := Option.some.inj (hx136_0.symm.trans hx137_0)
                                injection ea_ with ea_ en_ ec_
                                subst ea_
                                subst ec_
                                clear en_
                                have p138 : 0 ≤ (x5_3 : Int) := of_decide_eq_true (by first | (with_reducible assumption) | assumption)
                                have q138 : x5_3 < ((Bo l0_1 x4_2).length : Int) := of_decide_eq_true (by first | (with_reducible assumption) | assumption)
                                obtain ⟨ad138, e138, hx138_0⟩ := Kd.Ho HR137_0.out x5_3 p138 q138
                                cases e138
                                replace hx138_0 := (HB.out.cell (World.block_lt_of_cell? w _ hx138_0)).trans hx138_0
                                replace p138 := eq_true p138
                                replace q138 := eq_true q138
                                go_wp2_with (first | (go_at_call 41; (with_reducible refine (Em.calls (rd (Bo l0_1 x4_2) x5_3) 1 99 false _ A21.out).mono ?_); rintro e w' ⟨rfl, ⟨nd, rfl⟩⟩; (try first | exact ⟨rfl, _, World.drewN_drewN _ _ _⟩ | exact ⟨rfl, _, Eq.trans (World.drewN_drewN _ _ _) (congrArg (World.drewN _) (Nat.add_assoc _ _ _))⟩)))
                                repeat (go_quiet (first | (go_at_call 41; (with_reducible refine (Em.calls (rd (Bo l0_1 x4_2) x5_3) 1 99 false _ A21.out).mono ?_); rintro e w' ⟨rfl, ⟨nd, rfl⟩⟩; (try first | exact ⟨rfl, _, World.drewN_drewN _ _ _⟩ | exact ⟨rfl, _, Eq.trans (World.drewN_drewN _ _ _) (congrArg (World.drewN _) (Nat.add_assoc _ _ _))⟩))); try go_wp2_with (first | (go_at_call 41; (with_reducible refine (Em.calls (rd (Bo l0_1 x4_2) x5_3) 1 99 false _ A21.out).mono ?_); rintro e w' ⟨rfl, ⟨nd, rfl⟩⟩; (try first | exact ⟨rfl, _, World.drewN_drewN _ _ _⟩ | exact ⟨rfl, _, Eq.trans (World.drewN_drewN _ _ _) (congrArg (World.drewN _) (Nat.add_assoc _ _ _))⟩))))
                                go_ret
                                exact ⟨by first | rfl | (simp [Aq, Au] <;> rfl) | (simp [*, Aq, Au] <;> rfl), by repeat (first | (with_reducible first | exact HB.out | apply Ad | apply Aa | apply Ae | refine Ah ?_ GE129.out) | exact HB.out)⟩
                            · rw [if_neg c20] at H
                              exact absurd H (by simp)
                          · rw [if_neg c19] at H
                            have c19b0 : decide (x5_3 < ((Bo l0_1 x4_2).length : Int)) = false := decide_eq_false c19
                            clear c19
                            have H' := Ac.mk H
                            clear H
                            have hcz32_0 : wr.cell? ⟨gb129, 0, none⟩ = some (.int .i64 a0_0) := (Ag BK129.out 0).trans rfl
                            have hcz32_1 : wr.cell? ⟨gb129, 1, none⟩ = some (.slice (some ad135) l0_1.length c0_1) := (Ag BK129.out 1).trans rfl
                            have hfz32_0 := Af BK129.out 0
                            have hfz32_1 := Af BK129.out 1
                            have p136 : 0 ≤ (x4_2 : Int) := of_decide_eq_true (by first | (with_reducible assumption) | assumption)
                            have q136 : x4_2 < (l0_1.length : Int) := of_decide_eq_true (by first | (with_reducible assumption) | assumption)
                            obtain ⟨ad136, A136_0, c136_0, e136, hx136_0, hl136_0, hi136_0⟩ := Gm HR0_1.out x4_2 p136 q136
                            obtain rfl : ad135 = ad136 := (by injection e136)
                            replace hx136_0 := (HB.out.cell (World.block_lt_of_cell? w _ hx136_0)).trans hx136_0
                            have HR136_0 := Ac.mk hi136_0
                            have HC136_0 := Ac.mk hl136_0
                            clear hi136_0 hl136_0
                            replace p136 := eq_true p136
                            replace q136 := eq_true q136
                            go_wp2
                            repeat (go_quiet (fail); try go_wp2)
                            go_roundg k3
                            case measure => have := HJ1.out; have := HK2.out; have := HK3.out; omega
                            case rel => exact ⟨(x3_3), (wrap64 (x4_2 + 1)), (by first | rfl | (simp; done) | (simp [*]; done)), H', ⟨by have := HJ1.out; have := HK2.out; have := HK3.out; omega⟩, ⟨by (with_reducible repeat (first | apply Kd.Dw | apply Kd.Dx | apply Kd.Ef)); exact HO_3.out⟩, ⟨by (with_reducible repeat (first | refine Aj ?_ _ | refine Ak ?_ | refine Ai ?_ _)); exact BK129.out⟩, ⟨by repeat (first | (with_reducible first | exact HB.out | apply Ad | apply Aa | apply Ae | refine Ah ?_ GE129.out) | exact HB.out)⟩⟩
                        · rw [if_neg c18] at H
                          exact absurd H (by simp)
                      · rw [if_neg c17] at H
                        exact absurd H (by simp)
              · rw [if_neg c13] at H
                exact absurd H (by simp)
            · rw [if_neg c12] at H
              have c12b0 : decide (x4_2 < (l0_1.length : Int)) = false := decide_eq_false c12
              clear c12
              obtain rfl := Option.some.inj H
              have hcz33_0 : wr.cell? ⟨gb129, 0, none⟩ = some (.int .i64 a0_0) := (Ag BK129.out 0).trans rfl
              have hcz33_1 : wr.cell? ⟨gb129, 1, none⟩ = some (.slice A0_1 l0_1.length c0_1) := (Ag BK129.out 1).trans rfl
              have hfz33_0 := Af BK129.out 0
              have hfz33_1 := Af BK129.out 1
              go_wp2
              repeat (go_quiet (fail); try go_wp2)
              go_ret
              exact ⟨by first | rfl | (simp [Aq, Au] <;> rfl) | (simp [*, Aq, Au] <;> rfl), by repeat (first | (with_reducible first | exact HB.out | apply Ad | apply Aa | apply Ae | refine Ah ?_ GE129.out) | exact HB.out)⟩
end Go.Proofs.YtcnmngiaebgjkaaDoor.X

namespace Go.Proofs.YtcnmngiaebgjkaaDoor.X
open Go.RowKit Go.Proofs.YtcnmngiaebgjkaaDoorW.PrintWords Go.Proofs.YtcnmngiaebgjkaaDoorW.PrintLast Go.Proofs.YtcnmngiaebgjkaaDoorW.PrintMore
attribute [local go_sem] Dn Dk D5 Dz Cj Cm Dj Dl
open Go.Proofs.YtcnmngiaebgjkaaDoorG
mutual
def Df.l0 : Nat → Int → Int → List (List Int) → Option (Int × Int)
  | 0, _, _, _ => none
  | k + 1, x1, x6, x145000 => if x6 < (x145000.length : Int) then (Df.l1 k x1 x6 0 x145000) else (some ((-1), (-1)))
def Df.l1 : Nat → Int → Int → Int → List (List Int) → Option (Int × Int)
  | 0, _, _, _, _ => none
  | k + 1, x1, x6, x7, x145000 => if 0 ≤ x6 then (if x6 < (x145000.length : Int) then (if x7 < ((Bo x145000 x6).length : Int) then (if 0 ≤ x7 then (if (rd (Bo x145000 x6) x7) = x1 then (some (x6, x7)) else (Df.l1 k x1 x6 (wrap64 (x7 + 1)) x145000)) else (none)) else (Df.l0 k x1 (wrap64 (x6 + 1)) x145000)) else (none)) else (none)
end
def Df.f (k : Nat) (l0_0 : List (List Int)) (a1 : Int) : Option (Int × Int) := Df.l0 k a1 0 l0_0
theorem Df.Ei : ∀ k, (∀ y0 y1 y2, LeO (Df.l0 k y0 y1 y2) (Df.l0 (k + 1) y0 y1 y2)) ∧ (∀ y0 y1 y2 y3, LeO (Df.l1 k y0 y1 y2 y3) (Df.l1 (k + 1) y0 y1 y2 y3))
  | 0 => ⟨fun _ _ _ r h => by simp [Df.l0] at h, fun _ _ _ _ r h => by simp [Df.l1] at h⟩
  | k + 1 => by
    obtain ⟨ih0, ih1⟩ := Df.Ei k
    refine ⟨?_, ?_⟩
    · intro y0 y1 y2
      unfold Df.l0
      repeat' first
      | (with_reducible exact ih0 _ _ _)
      | (with_reducible exact ih1 _ _ _ _)
      | (with_reducible exact LeO.refl _)
      | (with_reducible exact LeO.none _)
      | (with_reducible refine LeO.ite ?_ ?_)
      | (with_reducible refine LeO.bind ?_ (fun _ => ?_))
      | exact ih0 _ _ _
      | exact ih1 _ _ _ _
      | exact LeO.none _
      | refine LeO.ite ?_ ?_
      | refine LeO.bind ?_ (fun _ => ?_)
    · intro y0 y1 y2 y3
      unfold Df.l1
      repeat' first
      | (with_reducible exact ih0 _ _ _)
      | (with_reducible exact ih1 _ _ _ _)
      | (with_reducible exact LeO.refl _)
      | (with_reducible exact LeO.none _)
      | (with_reducible refine LeO.ite ?_ ?_)
      | (with_reducible refine LeO.bind ?_ (fun _ => ?_))
      | exact ih0 _ _ _
      | exact ih1 _ _ _ _
      | exact LeO.none _
      | refine LeO.ite ?_ ?_
      | refine LeO.bind ?_ (fun _ => ?_)
theorem Df.mono : ∀ a0 a1 k, LeO (Df.f k a0 a1) (Df.f (k + 1) a0 a1) := by
  intro a0 a1 k
  obtain ⟨ih0, ih1⟩ := Df.Ei k
  unfold Df.f
  repeat' first
      | (with_reducible exact ih0 _ _ _)
      | (with_reducible exact ih1 _ _ _ _)
      | (with_reducible exact LeO.refl _)
      | (with_reducible exact LeO.none _)
      | (with_reducible refine LeO.ite ?_ ?_)
      | (with_reducible refine LeO.bind ?_ (fun _ => ?_))
      | exact ih0 _ _ _
      | exact ih1 _ _ _ _
      | exact LeO.none _
      | refine LeO.ite ?_ ?_
      | refine LeO.bind ?_ (fun _ => ?_)
set_option maxHeartbeats 8000000 in
set_option maxRecDepth 100000 in
theorem Df.calls (k : Nat) (A0_0 : Option Addr) (c0_0 : Nat) (l0_0 : List (List Int)) (a1 : Int) (r1 : Int) (r2 : Int) (w : World) (hr0_0 : Kd.C (Kd.slice 3 (Kd.int .i64)) w A0_0 l0_0.length l0_0) (hc0_0 : l0_0.length ≤ c0_0) (h : Df.f k l0_0 a1 = some (r1, r2)) :
    Calls Tryd.prog 33 #[.agg #[.slice A0_0 l0_0.length c0_0], .int .i64 a1] w fun e w' => e = .returned (.tuple #[.int .i64 r1, .int .i64 r2]) ∧ Below w.heap.size w w' := by
  have hu35 := Tryd.underlying35
  have HR0_0 := Ac.mk hr0_0
  have HC0_0 := Ac.mk hc0_0
  clear hr0_0 hc0_0
  have HB := Ac.mk (Below.refl w.heap.size w)
  have H : (Df.l0 k a1 0 l0_0) = some (r1, r2) := h
  clear h
  have H' := Ac.mk H
  clear H
  go_enter Tryd.func33, Tryd.ntmps33
  go_wp2_with (first | ((with_reducible refine Bd (N := 2) rfl ?_); refine Bc ?hg (N := 2) ?hd (cs := #[.slice A0_0 l0_0.length c0_0]) (t := 35) ?hr ?_; (case hd => rfl); (case hg => rfl); (case hr => first | (go_simp; done) | (go_simp; rfl)); intro gb144 hg w3 hbox hb; have n0_ := Ac.mk (Ap (by repeat (first | (with_reducible first | exact HB.out | apply Ad | apply Aa | apply Ae) | exact HB.out)) hb); have n1_ := Ac.mk (hbox); have n2_ := Ac.mk ((by rw [hg]; exact (Am (by repeat (first | (with_reducible first | exact HB.out | apply Ad | apply Aa | apply Ae) | exact HB.out))) : w.heap.size ≤ gb144)); have n3_ := Ac.mk ((by rw [hg]; exact (Am (by repeat (first | (with_reducible first | exact HB.out | apply Ad | apply Aa | apply Ae) | exact HB.out))) : w.heap.size ≤ gb144)); clear HB; have HB := n0_; have BK144 := n1_; have GW144 := n2_; have GE144 := n3_; clear n0_ n1_ n2_ n3_; clear hb hbox hg))
  go_loopg [6] k (fun kq v6 w' => ∃ (x6_1 : Int), v6 = .int .i64 x6_1 ∧ Ac (Df.l0 kq a1 x6_1 l0_0 = some (r1, r2)) ∧ Ac (kq ≤ k) ∧ Ac (w'.heap[gb144]? = some (.cells #[(.slice A0_0 l0_0.length c0_0)] 35 (0, 0))) ∧ Ac (Below w.heap.size w w'))
  case atStart => exact ⟨(0), (by first | rfl | (simp; done) | (simp [*]; done)), H', ⟨Nat.le_refl _⟩, ⟨by (with_reducible repeat (first | refine Aj ?_ _ | refine Ak ?_ | refine Ai ?_ _)); exact BK144.out⟩, ⟨by repeat (first | (with_reducible first | exact HB.out | apply Ad | apply Aa | apply Ae | refine Ah ?_ GE144.out) | exact HB.out)⟩⟩
  case round =>
    clear H'
    try clear p2
    try clear c3
    obtain ⟨x6_1, rfl, HA, HK1, BK144, HB⟩ := hrel
    cases gk with
    | zero => exact absurd HA.out (by simp [Df.l0])
    | succ k1 =>
      have H := HA.out
      clear HA
      simp only [Df.l0] at H
      by_cases c4 : x6_1 < (l0_0.length : Int)
      · rw [if_pos c4] at H
        have c4b0 : decide (x6_1 < (l0_0.length : Int)) = true := decide_eq_true c4
        clear c4
        have H' := Ac.mk H
        clear H
        have hcz5_0 : wr.cell? ⟨gb144, 0, none⟩ = some (.slice A0_0 l0_0.length c0_0) := (Ag BK144.out 0).trans rfl
        have hfz5_0 := Af BK144.out 0
        go_wp2
        go_loopg [7] k1 (fun kq v7 w' => ∃ (x7_2 : Int), v7 = .int .i64 x7_2 ∧ Ac (Df.l1 kq a1 x6_1 x7_2 l0_0 = some (r1, r2)) ∧ Ac (kq ≤ k1) ∧ Ac (w'.heap[gb144]? = some (.cells #[(.slice A0_0 l0_0.length c0_0)] 35 (0, 0))) ∧ Ac (Below w.heap.size w w'))
        case atStart => exact ⟨(0), (by first | rfl | (simp; done) | (simp [*]; done)), H', ⟨Nat.le_refl _⟩, ⟨by (with_reducible repeat (first | refine Aj ?_ _ | refine Ak ?_ | refine Ai ?_ _)); exact BK144.out⟩, ⟨by repeat (first | (with_reducible first | exact HB.out | apply Ad | apply Aa | apply Ae | refine Ah ?_ GE144.out) | exact HB.out)⟩⟩
        case round =>
          clear H'
          try clear p2
          try clear c3
          try clear c4
          try clear c4b0
          try clear hcz5_0
          try clear hfz5_0
          try clear p2
          obtain ⟨x7_2, rfl, HA, HK2, BK144, HB⟩ := hrel
          cases gk with
          | zero => exact absurd HA.out (by simp [Df.l1])
          | succ k2 =>
            have H := HA.out
            clear HA
            simp only [Df.l1] at H
            by_cases c6 : 0 ≤ x6_1
            · rw [if_pos c6] at H
              have c6b0 : decide (0 ≤ x6_1) = true := decide_eq_true c6
              clear c6
              by_cases c7 : x6_1 < (l0_0.length : Int)
              · rw [if_pos c7] at H
                have c7b0 : decide (x6_1 < (l0_0.length : Int)) = true := decide_eq_true c7
                clear c7
                by_cases c8 : x7_2 < ((Bo l0_0 x6_1).length : Int)
                · rw [if_pos c8] at H
                  have c8b0 : decide (x7_2 < ((Bo l0_0 x6_1).length : Int)) = true := decide_eq_true c8
                  clear c8
                  by_cases c9 : 0 ≤ x7_2
                  · rw [if_pos c9] at H
                    have c9b0 : decide (0 ≤ x7_2) = true := decide_eq_true c9
                    clear c9
                    by_cases c10 : (rd (Bo l0_0 x6_1) x7_2) = a1
                    · rw [if_pos c10] at H
                      have c10b0 : ((rd (Bo l0_0 x6_1) x7_2) == a1) = true := beq_iff_eq.mpr c10
                      have c10b1 : ((rd (Bo l0_0 x6_1) x7_2) != a1) = false := bne_eq_false_iff_eq.mpr c10
                      clear c10
                      simp only [Option.some.injEq, Prod.mk.injEq] at H
                      obtain ⟨rfl, rfl⟩ := H
                      have hcz11_0 : wr.cell? ⟨gb144, 0, none⟩ = some (.slice A0_0 l0_0.length c0_0) := (Ag BK144.out 0).trans rfl
                      have hfz11_0 := Af BK144.out 0
                      have p145 : 0 ≤ (x6_1 : Int) := of_decide_eq_true (by first | (with_reducible assumption) | assumption)
                      have q145 : x6_1 < (l0_0.length : Int) := of_decide_eq_true (by first | (with_reducible assumption) | assumption)
                      obtain ⟨ad145, A145_0, c145_0, e145, hx145_0, hl145_0, hi145_0⟩ := Gm HR0_0.out x6_1 p145 q145
                      cases e145
                      replace hx145_0 := (HB.out.cell (World.block_lt_of_cell? w _ hx145_0)).trans hx145_0
                      have HR145_0 := Ac.mk hi145_0
                      have HC145_0 := Ac.mk hl145_0
                      clear hi145_0 hl145_0
                      replace p145 := eq_true p145
                      replace q145 := eq_true q145
                      have p146 : 0 ≤ (x6_1 : Int) := of_decide_eq_true (by first | (with_reducible assumption) | assumption)
                      have q146 : x6_1 < (l0_0.length : Int) := of_decide_eq_true (by first | (with_reducible assumption) | assumption)
                      obtain ⟨ad146, A146_0, c146_0, e146, hx146_0, hl146_0, hi146_0⟩ := Gm HR0_0.out x6_1 p146 q146
                      obtain rfl : ad145 = ad146 := (by injection e146)
                      replace hx146_0 := (HB.out.cell (World.block_lt_of_cell? w _ hx146_0)).trans hx146_0
                      have HR146_0 := Ac.mk hi146_0
                      have HC146_0 := Ac.mk hl146_0
                      clear hi146_0 hl146_0
                      replace p146 := eq_true p146
                      replace q146 := eq_true q146
                      have ea_ := Option.some.inj (hx145_0.symm.trans hx146_0)
                      injection ea_ with ea_ en_ ec_
                      subst ea_
                      subst ec_
                      clear en_
                      have p147 : 0 ≤ (x7_2 : Int) := of_decide_eq_true (by first | (with_reducible assumption) | assumption)
                      have q147 : x7_2 < ((Bo l0_0 x6_1).length : Int) := of_decide_eq_true (by first | (with_reducible assumption) | assumption)
                      obtain ⟨ad147, e147, hx147_0⟩ := Kd.Ho HR146_0.out x7_2 p147 q147
                      cases e147
                      replace hx147_0 := (HB.out.cell (World.block_lt_of_cell? w _ hx147_0)).trans hx147_0
                      replace p147 := eq_true p147
                      replace q147 := eq_true q147
                      go_wp2
                      go_ret2
                      exact ⟨by first | rfl | (simp [Aq, Au] <;> rfl) | (simp [*, Aq, Au] <;> rfl), by repeat (first | (with_reducible first | exact HB.out | apply Ad | apply Aa | apply Ae | refine Ah ?_ GE144.out) | exact HB.out)⟩
                    · rw [if_neg c10] at H
                      have c10b0 : ((rd (Bo l0_0 x6_1) x7_2) == a1) = false := beq_eq_false_iff_ne.mpr c10
                      have c10b1 : ((rd (Bo l0_0 x6_1) x7_2) != a1) = true := bne_iff_ne.mpr c10
                      have H' := Ac.mk H
                      clear H
                      have hcz12_0 : wr.cell? ⟨gb144, 0, none⟩ = some (.slice A0_0 l0_0.length c0_0) := (Ag BK144.out 0).trans rfl
                      have hfz12_0 := Af BK144.out 0
                      have p145 : 0 ≤ (x6_1 : Int) := of_decide_eq_true (by first | (with_reducible assumption) | assumption)
                      have q145 : x6_1 < (l0_0.length : Int) := of_decide_eq_true (by first | (with_reducible assumption) | assumption)
                      obtain ⟨ad145, A145_0, c145_0, e145, hx145_0, hl145_0, hi145_0⟩ := Gm HR0_0.out x6_1 p145 q145
                      cases e145
                      replace hx145_0 := (HB.out.cell (World.block_lt_of_cell? w _ hx145_0)).trans hx145_0
                      have HR145_0 := Ac.mk hi145_0
                      have HC145_0 := Ac.mk hl145_0
                      clear hi145_0 hl145_0
                      replace p145 := eq_true p145
                      replace q145 := eq_true q145
                      have p146 : 0 ≤ (x6_1 : Int) := of_decide_eq_true (by first | (with_reducible assumption) | assumption)
                      have q146 : x6_1 < (l0_0.length : Int) := of_decide_eq_true (by first | (with_reducible assumption) | assumption)
                      obtain ⟨ad146, A146_0, c146_0, e146, hx146_0, hl146_0, hi146_0⟩ := Gm HR0_0.out x6_1 p146 q146
                      obtain rfl : ad145 = ad146 := (by injection e146)
                      replace hx146_0 := (HB.out.cell (World.block_lt_of_cell? w _ hx146_0)).trans hx146_0
                      have HR146_0 := Ac.mk hi146_0
                      have HC146_0 := Ac.mk hl146_0
                      clear hi146_0 hl146_0
                      replace p146 := eq_true p146
                      replace q146 := eq_true q146
                      have ea_ := Option.some.inj (hx145_0.symm.trans hx146_0)
                      injection ea_ with ea_ en_ ec_
                      subst ea_
                      subst ec_
                      clear en_
                      have p147 : 0 ≤ (x7_2 : Int) := of_decide_eq_true (by first | (with_reducible assumption) | assumption)
                      have q147 : x7_2 < ((Bo l0_0 x6_1).length : Int) := of_decide_eq_true (by first | (with_reducible assumption) | assumption)
                      obtain ⟨ad147, e147, hx147_0⟩ := Kd.Ho HR146_0.out x7_2 p147 q147
                      cases e147
                      replace hx147_0 := (HB.out.cell (World.block_lt_of_cell? w _ hx147_0)).trans hx147_0
                      replace p147 := eq_true p147
                      replace q147 := eq_true q147
                      go_wp2
                      go_roundg k2
                      case measure => have := HK1.out; have := HK2.out; omega
                      case rel => exact ⟨(wrap64 (x7_2 + 1)), (by first | rfl | (simp; done) | (simp [*]; done)), H', ⟨by have := HK1.out; have := HK2.out; omega⟩, ⟨by (with_reducible repeat (first | refine Aj ?_ _ | refine Ak ?_ | refine Ai ?_ _)); exact BK144.out⟩, ⟨by repeat (first | (with_reducible first | exact HB.out | apply Ad | apply Aa | apply Ae | refine Ah ?_ GE144.out) | exact HB.out)⟩⟩
                  · rw [if_neg c9] at H
                    exact absurd H (by simp)
                · rw [if_neg c8] at H
                  have c8b0 : decide (x7_2 < ((Bo l0_0 x6_1).length : Int)) = false := decide_eq_false c8
                  clear c8
                  have H' := Ac.mk H
                  clear H
                  have hcz13_0 : wr.cell? ⟨gb144, 0, none⟩ = some (.slice A0_0 l0_0.length c0_0) := (Ag BK144.out 0).trans rfl
                  have hfz13_0 := Af BK144.out 0
                  have p145 : 0 ≤ (x6_1 : Int) := of_decide_eq_true (by first | (with_reducible assumption) | assumption)
                  have q145 : x6_1 < (l0_0.length : Int) := of_decide_eq_true (by first | (with_reducible assumption) | assumption)
                  obtain ⟨ad145, A145_0, c145_0, e145, hx145_0, hl145_0, hi145_0⟩ := Gm HR0_0.out x6_1 p145 q145
                  cases e145
                  replace hx145_0 := (HB.out.cell (World.block_lt_of_cell? w _ hx145_0)).trans hx145_0
                  have HR145_0 := Ac.mk hi145_0
                  have HC145_0 := Ac.mk hl145_0
                  clear hi145_0 hl145_0
                  replace p145 := eq_true p145
                  replace q145 := eq_true q145
                  go_wp2
                  go_roundg k2
                  case measure => have := HK1.out; have := HK2.out; omega
                  case rel => exact ⟨(wrap64 (x6_1 + 1)), (by first | rfl | (simp; done) | (simp [*]; done)), H', ⟨by have := HK1.out; have := HK2.out; omega⟩, ⟨by (with_reducible repeat (first | refine Aj ?_ _ | refine Ak ?_ | refine Ai ?_ _)); exact BK144.out⟩, ⟨by repeat (first | (with_reducible first | exact HB.out | apply Ad | apply Aa | apply Ae | refine Ah ?_ GE144.out) | exact HB.out)⟩⟩
              · rw [if_neg c7] at H
                exact absurd H (by simp)
            · rw [if_neg c6] at H
              exact absurd H (by simp)
      · rw [if_neg c4] at H
        have c4b0 : decide (x6_1 < (l0_0.length : Int)) = false := decide_eq_false c4
        clear c4
        simp only [Option.some.injEq, Prod.mk.injEq] at H
        obtain ⟨rfl, rfl⟩ := H
        have hcz14_0 : wr.cell? ⟨gb144, 0, none⟩ = some (.slice A0_0 l0_0.length c0_0) := (Ag BK144.out 0).trans rfl
        have hfz14_0 := Af BK144.out 0
        go_wp2
        go_ret2
        exact ⟨by first | rfl | (simp [Aq, Au] <;> rfl) | (simp [*, Aq, Au] <;> rfl), by repeat (first | (with_reducible first | exact HB.out | apply Ad | apply Aa | apply Ae | refine Ah ?_ GE144.out) | exact HB.out)⟩
end Go.Proofs.YtcnmngiaebgjkaaDoor.X

namespace Go.Proofs.YtcnmngiaebgjkaaDoor.X
open Go.RowKit Go.Proofs.YtcnmngiaebgjkaaDoorW.PrintWords Go.Proofs.YtcnmngiaebgjkaaDoorW.PrintLast Go.Proofs.YtcnmngiaebgjkaaDoorW.PrintMore
attribute [local go_sem] Dn Dk D5 Dz Cj Cm Dj Dl
open Go.Proofs.YtcnmngiaebgjkaaDoorG
mutual
def Bf.j0 : Nat → Bool → List (List Int) → Int → List (List Int) → Option (Bool)
  | 0, _, _, _, _ => none
  | k + 1, x16, x149000, x149001, x149002 => if x16 = true then (some false) else (Bf.l0 k 0 x149000 x149001 x149002)
def Bf.l0 : Nat → Int → List (List Int) → Int → List (List Int) → Option (Bool)
  | 0, _, _, _, _ => none
  | k + 1, x3, x149000, x149001, x149002 => if x3 < (x149002.length : Int) then (Bf.l1 k x3 0 x149000 x149001 x149002) else (some true)
def Bf.l1 : Nat → Int → Int → List (List Int) → Int → List (List Int) → Option (Bool)
  | 0, _, _, _, _, _ => none
  | k + 1, x3, x4, x149000, x149001, x149002 => if 0 ≤ x3 then (if x3 < (x149002.length : Int) then (if x4 < ((Bo x149002 x3).length : Int) then (if 0 ≤ x4 then ((Df.f k x149000 (rd (Bo x149002 x3) x4)).bind fun bt154 => (if bt154.1 ≥ 0 then (some false) else (Bf.l1 k x3 (wrap64 (x4 + 1)) x149000 x149001 x149002))) else (none)) else (Bf.l0 k (wrap64 (x3 + 1)) x149000 x149001 x149002)) else (none)) else (none)
end
def Bf.f (k : Nat) (l0_0 : List (List Int)) (a0_1 : Int) (l0_2 : List (List Int)) : Option (Bool) := (Cc.f k l0_0).bind fun t149 => (if t149 = true then ((Bh.f k a0_1 l0_2).bind fun t150 => (Bf.j0 k (!t150) l0_0 a0_1 l0_2)) else (Bf.j0 k true l0_0 a0_1 l0_2))
theorem Bf.Ei : ∀ k, (∀ y0 y1 y2 y3, LeO (Bf.j0 k y0 y1 y2 y3) (Bf.j0 (k + 1) y0 y1 y2 y3)) ∧ (∀ y0 y1 y2 y3, LeO (Bf.l0 k y0 y1 y2 y3) (Bf.l0 (k + 1) y0 y1 y2 y3)) ∧ (∀ y0 y1 y2 y3 y4, LeO (Bf.l1 k y0 y1 y2 y3 y4) (Bf.l1 (k + 1) y0 y1 y2 y3 y4))
  | 0 => ⟨fun _ _ _ _ r h => by simp [Bf.j0] at h, fun _ _ _ _ r h => by simp [Bf.l0] at h, fun _ _ _ _ _ r h => by simp [Bf.l1] at h⟩
  | k + 1 => by
    obtain ⟨ih0, ih1, ih2⟩ := Bf.Ei k
    refine ⟨?_, ?_, ?_⟩
    · intro y0 y1 y2 y3
      unfold Bf.j0
      repeat' first
      | (with_reducible exact ih0 _ _ _ _)
      | (with_reducible exact ih1 _ _ _ _)
      | (with_reducible exact ih2 _ _ _ _ _)
      | (with_reducible exact Df.mono _ _ _)
      | (with_reducible exact Cc.mono _ _)
      | (with_reducible exact Bh.mono _ _ _)
      | (with_reducible exact LeO.refl _)
      | (with_reducible exact LeO.none _)
      | (with_reducible refine LeO.ite ?_ ?_)
      | (with_reducible refine LeO.bind ?_ (fun _ => ?_))
      | exact ih0 _ _ _ _
      | exact ih1 _ _ _ _
      | exact ih2 _ _ _ _ _
      | exact Df.mono _ _ _
      | exact Cc.mono _ _
      | exact Bh.mono _ _ _
      | exact LeO.none _
      | refine LeO.ite ?_ ?_
      | refine LeO.bind ?_ (fun _ => ?_)
    · intro y0 y1 y2 y3
      unfold Bf.l0
      repeat' first
      | (with_reducible exact ih0 _ _ _ _)
      | (with_reducible exact ih1 _ _ _ _)
      | (with_reducible exact ih2 _ _ _ _ _)
      | (with_reducible exact Df.mono _ _ _)
      | (with_reducible exact Cc.mono _ _)
      | (with_reducible exact Bh.mono _ _ _)
      | (with_reducible exact LeO.refl _)
      | (with_reducible exact LeO.none _)
      | (with_reducible refine LeO.ite ?_ ?_)
      | (with_reducible refine LeO.bind ?_ (fun _ => ?_))
      | exact ih0 _ _ _ _
      | exact ih1 _ _ _ _
      | exact ih2 _ _ _ _ _
      | exact Df.mono _ _ _
      | exact Cc.mono _ _
      | exact Bh.mono _ _ _
      | exact LeO.none _
      | refine LeO.ite ?_ ?_
      | refine LeO.bind ?_ (fun _ => ?_)
    · intro y0 y1 y2 y3 y4
      unfold Bf.l1
      repeat' first
      | (with_reducible exact ih0 _ _ _ _)
      | (with_reducible exact ih1 _ _ _ _)
      | (with_reducible exact ih2 _ _ _ _ _)
      | (with_reducible exact Df.mono _ _ _)
      | (with_reducible exact Cc.mono _ _)
      | (with_reducible exact Bh.mono _ _ _)
      | (with_reducible exact LeO.refl _)
      | (with_reducible exact LeO.none _)
      | (with_reducible refine LeO.ite ?_ ?_)
      | (with_reducible refine LeO.bind ?_ (fun _ => ?_))
      | exact ih0 _ _ _ _
      | exact ih1 _ _ _ _
      | exact ih2 _ _ _ _ _
      | exact Df.mono _ _ _
      | exact Cc.mono _ _
      | exact Bh.mono _ _ _
      | exact LeO.none _
      | refine LeO.ite ?_ ?_
      | refine LeO.bind ?_ (fun _ => ?_)
theorem Bf.mono : ∀ a0 a1 a2 k, LeO (Bf.f k a0 a1 a2) (Bf.f (k + 1) a0 a1 a2) := by
  intro a0 a1 a2 k
  obtain ⟨ih0, ih1, ih2⟩ := Bf.Ei k
  unfold Bf.f
  repeat' first
      | (with_reducible exact ih0 _ _ _ _)
      | (with_reducible exact ih1 _ _ _ _)
      | (with_reducible exact ih2 _ _ _ _ _)
      | (with_reducible exact Df.mono _ _ _)
      | (with_reducible exact Cc.mono _ _)
      | (with_reducible exact Bh.mono _ _ _)
      | (with_reducible exact LeO.refl _)
      | (with_reducible exact LeO.none _)
      | (with_reducible refine LeO.ite ?_ ?_)
      | (with_reducible refine LeO.bind ?_ (fun _ => ?_))
      | exact ih0 _ _ _ _
      | exact ih1 _ _ _ _
      | exact ih2 _ _ _ _ _
      | exact Df.mono _ _ _
      | exact Cc.mono _ _
      | exact Bh.mono _ _ _
      | exact LeO.none _
      | refine LeO.ite ?_ ?_
      | refine LeO.bind ?_ (fun _ => ?_)
def Bf.T9 : Bool × List (List Nat × List Nat) := (true, [([], []), ([0], [0]), ([], []), ([2], [2]), ([3], [3]), ([], []), ([4, 5], [4, 5]), ([6], [6]), ([], []), ([7, 8], [7, 8]), ([9], [9]), ([1, 10], [1, 10]), ([11], [11]), ([12], [12]), ([12], [12]), ([13, 11, 0, 1, 2, 3, 4, 5, 6, 7, 8, 9, 10, 11, 12, 13], [13]), ([14, 15, 0, 1, 2, 3, 4, 5, 6, 7, 8, 9, 10, 11, 12, 13, 14, 15], [14])])
def Bf.B9 : List Nat := [0, 1, 0, 4, 12, 0, 60, 124, 0, 508, 1020, 2047, 4095, 8191, 8191, 16383, 65535]
theorem Bf.tab9 : rtab .any (opsOf Tryd.f20 9) = Bf.T9 := by kernel_rfl
theorem Bf.bits9 : waitsOk Bf.T9.2 Bf.B9 = true := by kernel_rfl
set_option maxHeartbeats 8000000 in
set_option maxRecDepth 100000 in
theorem Bf.calls (k : Nat) (A0_0 : Option Addr) (c0_0 : Nat) (l0_0 : List (List Int)) (a0_1 : Int) (A0_2 : Option Addr) (c0_2 : Nat) (l0_2 : List (List Int)) (r : Bool) (w : World) (hr0_0 : Kd.C (Kd.slice 3 (Kd.int .i64)) w A0_0 l0_0.length l0_0) (hc0_0 : l0_0.length ≤ c0_0) (hr0_2 : Kd.C (Kd.slice 3 (Kd.int .i64)) w A0_2 l0_2.length l0_2) (hc0_2 : l0_2.length ≤ c0_2) (h : Bf.f k l0_0 a0_1 l0_2 = some r) :
    Calls Tryd.prog 20 #[.agg #[.slice A0_0 l0_0.length c0_0, .int .i64 a0_1, .slice A0_2 l0_2.length c0_2]] w fun e w' => e = .returned (.bool r) ∧ Below w.heap.size w w' := by
  have hu38 := Tryd.underlying38
  have hu35 := Tryd.underlying35
  have hu36 := Tryd.underlying36
  have HR0_0 := Ac.mk hr0_0
  have HC0_0 := Ac.mk hc0_0
  clear hr0_0 hc0_0
  have HR0_2 := Ac.mk hr0_2
  have HC0_2 := Ac.mk hc0_2
  clear hr0_2 hc0_2
  have HB := Ac.mk (Below.refl w.heap.size w)
  have H : ((Cc.f k l0_0).bind fun t149 => (if t149 = true then ((Bh.f k a0_1 l0_2).bind fun t150 => (Bf.j0 k (!t150) l0_0 a0_1 l0_2)) else (Bf.j0 k true l0_0 a0_1 l0_2))) = some r := h
  clear h
  have HC2 := Ac.mk H
  clear H
  go_enter Tryd.func20, Tryd.ntmps20
  go_upto_region 1 with (first | ((with_reducible refine Bd (N := 1) rfl ?_); refine Bc ?hg (N := 1) ?hd (cs := #[.slice A0_0 l0_0.length c0_0, .int .i64 a0_1, .slice A0_2 l0_2.length c0_2]) (t := 38) ?hr ?_; (case hd => rfl); (case hg => rfl); (case hr => first | (go_simp; done) | (go_simp; rfl)); intro gb148 hg w3 hbox hb; have n0_ := Ac.mk (Ap (by repeat (first | (with_reducible first | exact HB.out | apply Ad | apply Aa | apply Ae) | exact HB.out)) hb); have n1_ := Ac.mk (hbox); have n2_ := Ac.mk ((by rw [hg]; exact (Am (by repeat (first | (with_reducible first | exact HB.out | apply Ad | apply Aa | apply Ae) | exact HB.out))) : w.heap.size ≤ gb148)); have n3_ := Ac.mk ((by rw [hg]; exact (Am (by repeat (first | (with_reducible first | exact HB.out | apply Ad | apply Aa | apply Ae) | exact HB.out))) : w.heap.size ≤ gb148)); clear HB; have HB := n0_; have BK148 := n1_; have GW148 := n2_; have GE148 := n3_; clear n0_ n1_ n2_ n3_; clear hb hbox hg))
  (try simp only [Act.put, List.setIfInBounds_toArray, List.set_cons_zero, List.set_cons_succ])
  go_cut [16] (fun v16 wc => ∃ (kq : Nat) (x16_1 : Bool), v16 = .bool x16_1 ∧ Ac (Bf.j0 kq x16_1 l0_0 a0_1 l0_2 = some r) ∧ Ac (kq ≤ k) ∧ Ac (wc.heap[gb148]? = some (.cells #[(.slice A0_0 l0_0.length c0_0), .int .i64 a0_1, (.slice A0_2 l0_2.length c0_2)] 38 (0, 0))) ∧ Ac (Below w.heap.size w wc))
  case first =>
    have H := HC2.out
    clear HC2
    replace H := Option.bind_eq_some_iff.mp H
    obtain ⟨t149, A40, H⟩ := H
    replace H : (if t149 = true then ((Bh.f k a0_1 l0_2).bind fun t150 => (Bf.j0 k (!t150) l0_0 a0_1 l0_2)) else (Bf.j0 k true l0_0 a0_1 l0_2)) = some r := H
    have A4 := Ac.mk A40
    clear A40
    by_cases c5 : t149 = true
    · subst c5
      have H1 : ((Bh.f k a0_1 l0_2).bind fun t150 => (Bf.j0 k (!t150) l0_0 a0_1 l0_2)) = some r := by rw [if_pos rfl] at H; exact H
      clear H
      have H := H1
      clear H1
      replace H := Option.bind_eq_some_iff.mp H
      obtain ⟨t150, A60, H⟩ := H
      replace H : (Bf.j0 k (!t150) l0_0 a0_1 l0_2) = some r := H
      have A6 := Ac.mk A60
      clear A60
      have H' := Ac.mk H
      clear H
      have hcz7_0 : w3.cell? ⟨gb148, 0, none⟩ = some (.slice A0_0 l0_0.length c0_0) := (Ag BK148.out 0).trans rfl
      have hcz7_1 : w3.cell? ⟨gb148, 1, none⟩ = some (.int .i64 a0_1) := (Ag BK148.out 1).trans rfl
      have hcz7_2 : w3.cell? ⟨gb148, 2, none⟩ = some (.slice A0_2 l0_2.length c0_2) := (Ag BK148.out 2).trans rfl
      have hfz7_0 := Af BK148.out 0
      have hfz7_1 := Af BK148.out 1
      have hfz7_2 := Af BK148.out 2
      go_wp2_with (first | ((with_reducible refine Aw (f := 31) rfl ?_); refine Be (some 9) rfl rfl Tryd.func31 (by kernel_rfl) rfl #[.agg #[.slice A0_0 l0_0.length c0_0]] rfl (by (try simp only [List.map_toArray, List.map_cons, List.map_nil]); first | done | rfl | (simp only [List.length_drop, List.length_take]; rfl)) ?_; (with_reducible refine (Cc.calls k _ _ l0_0 true _ ?side1 ?side2 A4.out).mono ?_); (case side1 => repeat (first | exact (Kd.C9 HR0_0.out HB.out) | (with_reducible refine Kd.Bl ?_ _) | (with_reducible refine Kd.Bj ?_ _) | (with_reducible refine Kd.Ce ?_))); (case side2 => exact HC0_0.out); rintro e w8 ⟨rfl, hb⟩; refine ⟨_, rfl, ?_⟩; have n0_ := Ac.mk (Az (g := gb148) (o := .cells #[.slice A0_0 l0_0.length c0_0, .int .i64 a0_1, .slice A0_2 l0_2.length c0_2] 38 (0, 0)) (by (with_reducible repeat (first | refine Aj ?_ _ | refine Ak ?_ | refine Ai ?_ _)); exact BK148.out) hb); have n1_ := Ac.mk (Ap (by repeat (first | (with_reducible first | exact HB.out | apply Ad | apply Aa | apply Ae | refine Ah ?_ GE148.out) | exact HB.out)) hb); clear BK148; clear HB; have BK148 := n0_; have HB := n1_; clear n0_ n1_; (try clear hb); (try clear hb2); (try clear hk); (try clear hi); have hcz9_0 : w8.cell? ⟨gb148, 0, none⟩ = some (.slice A0_0 l0_0.length c0_0) := (Ag BK148.out 0).trans rfl; have hcz9_1 : w8.cell? ⟨gb148, 1, none⟩ = some (.int .i64 a0_1) := (Ag BK148.out 1).trans rfl; have hcz9_2 : w8.cell? ⟨gb148, 2, none⟩ = some (.slice A0_2 l0_2.length c0_2) := (Ag BK148.out 2).trans rfl; have hfz9_0 := Af BK148.out 0; have hfz9_1 := Af BK148.out 1; have hfz9_2 := Af BK148.out 2) | (go_at_call 32; (with_reducible refine (Bh.calls k a0_1 _ _ l0_2 t150 _ ?side1 ?side2 A6.out).mono ?_); (case side1 => repeat (first | exact (Kd.C9 HR0_2.out HB.out) | (with_reducible refine Kd.Bl ?_ _) | (with_reducible refine Kd.Bj ?_ _) | (with_reducible refine Kd.Ce ?_))); (case side2 => exact HC0_2.out); rintro e w10 ⟨rfl, hb⟩; have n0_ := Ac.mk (Az (g := gb148) (o := .cells #[.slice A0_0 l0_0.length c0_0, .int .i64 a0_1, .slice A0_2 l0_2.length c0_2] 38 (0, 0)) (by (with_reducible repeat (first | refine Aj ?_ _ | refine Ak ?_ | refine Ai ?_ _)); exact BK148.out) hb); have n1_ := Ac.mk (Ap (by repeat (first | (with_reducible first | exact HB.out | apply Ad | apply Aa | apply Ae | refine Ah ?_ GE148.out) | exact HB.out)) hb); clear BK148; clear HB; have BK148 := n0_; have HB := n1_; clear n0_ n1_; (try clear hb); (try clear hb2); (try clear hk); (try clear hi)))
      go_meet
      case rel => exact ⟨_, (!t150), (by first | rfl | (simp; done) | (simp [*]; done)), H', ⟨by first | omega | exact Nat.le_refl _⟩, ⟨by (with_reducible repeat (first | refine Aj ?_ _ | refine Ak ?_ | refine Ai ?_ _)); exact BK148.out⟩, ⟨by repeat (first | (with_reducible first | exact HB.out | apply Ad | apply Aa | apply Ae | refine Ah ?_ GE148.out) | exact HB.out)⟩⟩
    · replace c5 := Bool.eq_false_iff.mpr c5
      subst c5
      have H1 : (Bf.j0 k true l0_0 a0_1 l0_2) = some r := by rw [if_neg (show ¬ (false = true) by decide)] at H; exact H
      clear H
      have H := H1
      clear H1
      have H' := Ac.mk H
      clear H
      have hcz11_0 : w3.cell? ⟨gb148, 0, none⟩ = some (.slice A0_0 l0_0.length c0_0) := (Ag BK148.out 0).trans rfl
      have hcz11_1 : w3.cell? ⟨gb148, 1, none⟩ = some (.int .i64 a0_1) := (Ag BK148.out 1).trans rfl
      have hcz11_2 : w3.cell? ⟨gb148, 2, none⟩ = some (.slice A0_2 l0_2.length c0_2) := (Ag BK148.out 2).trans rfl
      have hfz11_0 := Af BK148.out 0
      have hfz11_1 := Af BK148.out 1
      have hfz11_2 := Af BK148.out 2
      go_wp2_with (first | ((with_reducible refine Aw (f := 31) rfl ?_); refine Be (some 9) rfl rfl Tryd.func31 (by kernel_rfl) rfl #[.agg #[.slice A0_0 l0_0.length c0_0]] rfl (by (try simp only [List.map_toArray, List.map_cons, List.map_nil]); first | done | rfl | (simp only [List.length_drop, List.length_take]; rfl)) ?_; (with_reducible refine (Cc.calls k _ _ l0_0 false _ ?side1 ?side2 A4.out).mono ?_); (case side1 => repeat (first | exact (Kd.C9 HR0_0.out HB.out) | (with_reducible refine Kd.Bl ?_ _) | (with_reducible refine Kd.Bj ?_ _) | (with_reducible refine Kd.Ce ?_))); (case side2 => exact HC0_0.out); rintro e w12 ⟨rfl, hb⟩; refine ⟨_, rfl, ?_⟩; have n0_ := Ac.mk (Az (g := gb148) (o := .cells #[.slice A0_0 l0_0.length c0_0, .int .i64 a0_1, .slice A0_2 l0_2.length c0_2] 38 (0, 0)) (by (with_reducible repeat (first | refine Aj ?_ _ | refine Ak ?_ | refine Ai ?_ _)); exact BK148.out) hb); have n1_ := Ac.mk (Ap (by repeat (first | (with_reducible first | exact HB.out | apply Ad | apply Aa | apply Ae | refine Ah ?_ GE148.out) | exact HB.out)) hb); clear BK148; clear HB; have BK148 := n0_; have HB := n1_; clear n0_ n1_; (try clear hb); (try clear hb2); (try clear hk); (try clear hi)))
      go_meet
      case rel => exact ⟨_, (true), (by first | rfl | (simp; done) | (simp [*]; done)), H', ⟨by first | omega | exact Nat.le_refl _⟩, ⟨by (with_reducible repeat (first | refine Aj ?_ _ | refine Ak ?_ | refine Ai ?_ _)); exact BK148.out⟩, ⟨by repeat (first | (with_reducible first | exact HB.out | apply Ad | apply Aa | apply Ae | refine Ah ?_ GE148.out) | exact HB.out)⟩⟩
  case rest =>
    clear HC2
    try clear c2
    try clear p2
    try clear c3
    try clear c5
    try clear hcz11_0
    try clear hcz11_1
    try clear hcz11_2
    try clear hcz7_0
    try clear hcz7_1
    try clear hcz7_2
    try clear hcz9_0
    try clear hcz9_1
    try clear hcz9_2
    try clear hfz11_0
    try clear hfz11_1
    try clear hfz11_2
    try clear hfz7_0
    try clear hfz7_1
    try clear hfz7_2
    try clear hfz9_0
    try clear hfz9_1
    try clear hfz9_2
    obtain ⟨kq, x16_1, rfl, HA, HJ1, BK148, HB⟩ := hcut
    cases kq with
    | zero => exact absurd HA.out (by simp [Bf.j0])
    | succ kj1 =>
      have H := HA.out
      clear HA
      simp only [Bf.j0] at H
      by_cases c13 : x16_1 = true
      · subst c13
        have H1 : (some false) = some r := by rw [if_pos rfl] at H; exact H
        clear H
        have H := H1
        clear H1
        obtain rfl := Option.some.inj H
        go_wp2
        go_ret
        exact ⟨by first | rfl | (simp [Aq, Au] <;> rfl) | (simp [*, Aq, Au] <;> rfl), by repeat (first | (with_reducible first | exact HB.out | apply Ad | apply Aa | apply Ae | refine Ah ?_ GE148.out) | exact HB.out)⟩
      · replace c13 := Bool.eq_false_iff.mpr c13
        subst c13
        have H1 : (Bf.l0 kj1 0 l0_0 a0_1 l0_2) = some r := by rw [if_neg (show ¬ (false = true) by decide)] at H; exact H
        clear H
        have H := H1
        clear H1
        have H' := Ac.mk H
        clear H
        go_wp2
        go_loopg [3] kj1 (fun kq v3 w' => ∃ (x3_2 : Int), v3 = .int .i64 x3_2 ∧ Ac (Bf.l0 kq x3_2 l0_0 a0_1 l0_2 = some r) ∧ Ac (kq ≤ kj1) ∧ Ac (w'.heap[gb148]? = some (.cells #[(.slice A0_0 l0_0.length c0_0), .int .i64 a0_1, (.slice A0_2 l0_2.length c0_2)] 38 (0, 0))) ∧ Ac (Below w.heap.size w w'))
        case atStart => exact ⟨(0), (by first | rfl | (simp; done) | (simp [*]; done)), H', ⟨Nat.le_refl _⟩, ⟨by (with_reducible repeat (first | refine Aj ?_ _ | refine Ak ?_ | refine Ai ?_ _)); exact BK148.out⟩, ⟨by repeat (first | (with_reducible first | exact HB.out | apply Ad | apply Aa | apply Ae | refine Ah ?_ GE148.out) | exact HB.out)⟩⟩
        case round =>
          clear H'
          try clear c1
          try clear c2
          try clear p2
          try clear c3
          try clear c5
          try clear c13
          try clear hcz11_0
          try clear hcz11_1
          try clear hcz11_2
          try clear hcz7_0
          try clear hcz7_1
          try clear hcz7_2
          try clear hcz9_0
          try clear hcz9_1
          try clear hcz9_2
          try clear hfz11_0
          try clear hfz11_1
          try clear hfz11_2
          try clear hfz7_0
          try clear hfz7_1
          try clear hfz7_2
          try clear hfz9_0
          try clear hfz9_1
          try clear hfz9_2
          try clear p2
          obtain ⟨x3_2, rfl, HA, HK2, BK148, HB⟩ := hrel
          cases gk with
          | zero => exact absurd HA.out (by simp [Bf.l0])
          | succ k2 =>
            have H := HA.out
            clear HA
            simp only [Bf.l0] at H
            by_cases c14 : x3_2 < (l0_2.length : Int)
            · rw [if_pos c14] at H
              have c14b0 : decide (x3_2 < (l0_2.length : Int)) = true := decide_eq_true c14
              clear c14
              have H' := Ac.mk H
              clear H
              have hcz15_0 : wr.cell? ⟨gb148, 0, none⟩ = some (.slice A0_0 l0_0.length c0_0) := (Ag BK148.out 0).trans rfl
              have hcz15_1 : wr.cell? ⟨gb148, 1, none⟩ = some (.int .i64 a0_1) := (Ag BK148.out 1).trans rfl
              have hcz15_2 : wr.cell? ⟨gb148, 2, none⟩ = some (.slice A0_2 l0_2.length c0_2) := (Ag BK148.out 2).trans rfl
              have hfz15_0 := Af BK148.out 0
              have hfz15_1 := Af BK148.out 1
              have hfz15_2 := Af BK148.out 2
              go_wp2
              go_loopg [4] k2 (fun kq v4 w' => ∃ (x4_3 : Int), v4 = .int .i64 x4_3 ∧ Ac (Bf.l1 kq x3_2 x4_3 l0_0 a0_1 l0_2 = some r) ∧ Ac (kq ≤ k2) ∧ Ac (w'.heap[gb148]? = some (.cells #[(.slice A0_0 l0_0.length c0_0), .int .i64 a0_1, (.slice A0_2 l0_2.length c0_2)] 38 (0, 0))) ∧ Ac (Below w.heap.size w w'))
              case atStart => exact ⟨(0), (by first | rfl | (simp; done) | (simp [*]; done)), H', ⟨Nat.le_refl _⟩, ⟨by (with_reducible repeat (first | refine Aj ?_ _ | refine Ak ?_ | refine Ai ?_ _)); exact BK148.out⟩, ⟨by repeat (first | (with_reducible first | exact HB.out | apply Ad | apply Aa | apply Ae | refine Ah ?_ GE148.out) | exact HB.out)⟩⟩
              case round =>
                clear H'
                try clear c1
                try clear c2
                try clear p2
                try clear c3
                try clear c5
                try clear c13
                try clear c14
                try clear c14b0
                try clear hcz11_0
                try clear hcz11_1
                try clear hcz11_2
                try clear hcz15_0
                try clear hcz15_1
                try clear hcz15_2
                try clear hcz7_0
                try clear hcz7_1
                try clear hcz7_2
                try clear hcz9_0
                try clear hcz9_1
                try clear hcz9_2
                try clear hfz11_0
                try clear hfz11_1
                try clear hfz11_2
                try clear hfz15_0
                try clear hfz15_1
                try clear hfz15_2
                try clear hfz7_0
                try clear hfz7_1
                try clear hfz7_2
                try clear hfz9_0
                try clear hfz9_1
                try clear hfz9_2
                try clear p2
                obtain ⟨x4_3, rfl, HA, HK3, BK148, HB⟩ := hrel
                cases gk with
                | zero => exact absurd HA.out (by simp [Bf.l1])
                | succ k3 =>
                  have H := HA.out
                  clear HA
                  simp only [Bf.l1] at H
                  by_cases c16 : 0 ≤ x3_2
                  · rw [if_pos c16] at H
                    have c16b0 : decide (0 ≤ x3_2) = true := decide_eq_true c16
                    clear c16
                    by_cases c17 : x3_2 < (l0_2.length : Int)
                    · rw [if_pos c17] at H
                      have c17b0 : decide (x3_2 < (l0_2.length : Int)) = true := decide_eq_true c17
                      clear c17
                      by_cases c18 : x4_3 < ((Bo l0_2 x3_2).length : Int)
                      · rw [if_pos c18] at H
                        have c18b0 : decide (x4_3 < ((Bo l0_2 x3_2).length : Int)) = true := decide_eq_true c18
                        clear c18
                        by_cases c19 : 0 ≤ x4_3
                        · rw [if_pos c19] at H
                          have c19b0 : decide (0 ≤ x4_3) = true := decide_eq_true c19
                          clear c19
                          replace H := Option.bind_eq_some_iff.mp H
                          obtain ⟨⟨t154, t155⟩, A200, H⟩ := H
                          replace H : (if t154 ≥ 0 then (some false) else (Bf.l1 k3 x3_2 (wrap64 (x4_3 + 1)) l0_0 a0_1 l0_2)) = some r := H
                          have A20 := Ac.mk A200
                          clear A200
                          by_cases c21 : t154 ≥ 0
                          · rw [if_pos c21] at H
                            have c21b0 : decide (0 ≤ t154) = true := decide_eq_true c21
                            clear c21
                            obtain rfl := Option.some.inj H
                            have hcz22_0 : wr.cell? ⟨gb148, 0, none⟩ = some (.slice A0_0 l0_0.length c0_0) := (Ag BK148.out 0).trans rfl
                            have hcz22_1 : wr.cell? ⟨gb148, 1, none⟩ = some (.int .i64 a0_1) := (Ag BK148.out 1).trans rfl
                            have hcz22_2 : wr.cell? ⟨gb148, 2, none⟩ = some (.slice A0_2 l0_2.length c0_2) := (Ag BK148.out 2).trans rfl
                            have hfz22_0 := Af BK148.out 0
                            have hfz22_1 := Af BK148.out 1
                            have hfz22_2 := Af BK148.out 2
                            have p151 : 0 ≤ (x3_2 : Int) := of_decide_eq_true (by first | (with_reducible assumption) | assumption)
                            have q151 : x3_2 < (l0_2.length : Int) := of_decide_eq_true (by first | (with_reducible assumption) | assumption)
                            obtain ⟨ad151, A151_0, c151_0, e151, hx151_0, hl151_0, hi151_0⟩ := Gm HR0_2.out x3_2 p151 q151
                            cases e151
                            replace hx151_0 := (HB.out.cell (World.block_lt_of_cell? w _ hx151_0)).trans hx151_0
                            have HR151_0 := Ac.mk hi151_0
                            have HC151_0 := Ac.mk hl151_0
                            clear hi151_0 hl151_0
                            replace p151 := eq_true p151
                            replace q151 := eq_true q151
                            try go_wp2
                            have n0_ := Ac.mk (Ak BK148.out)
                            have n1_ := Ac.mk (Ae HB.out)
                            clear BK148
                            clear HB
                            have BK148 := n0_
                            have HB := n1_
                            clear n0_ n1_
                            have p152 : 0 ≤ (x3_2 : Int) := of_decide_eq_true (by first | (with_reducible assumption) | assumption)
                            have q152 : x3_2 < (l0_2.length : Int) := of_decide_eq_true (by first | (with_reducible assumption) | assumption)
                            obtain ⟨ad152, A152_0, c152_0, e152, hx152_0, hl152_0, hi152_0⟩ := Gm HR0_2.out x3_2 p152 q152
                            have hw152_0 := hx152_0
                            obtain rfl : ad151 = ad152 := (by injection e152)
                            replace hx152_0 := (HB.out.cell (World.block_lt_of_cell? w _ hx152_0)).trans hx152_0
                            have HR152_0 := Ac.mk hi152_0
                            have HC152_0 := Ac.mk hl152_0
                            clear hi152_0 hl152_0
                            replace p152 := eq_true p152
                            replace q152 := eq_true q152
                            have p153 : 0 ≤ (x4_3 : Int) := of_decide_eq_true (by first | (with_reducible assumption) | assumption)
                            have q153 : x4_3 < ((Bo l0_2 x3_2).length : Int) := of_decide_eq_true (by first | (with_reducible assumption) | assumption)
                            obtain ⟨ad153, e153, hx153_0⟩ := Kd.Ho HR152_0.out x4_3 p153 q153
                            have hw153_0 := hx153_0
                            cases e153
                            replace hx153_0 := (HB.out.cell (World.block_lt_of_cell? w _ hx153_0)).trans hx153_0
                            replace p153 := eq_true p153
                            replace q153 := eq_true q153
                            refine start_ (n := 17) (S := fun w' => w'.cell? ⟨gb148, 0, none⟩ = some (.slice A0_0 l0_0.length c0_0) ∧ w'.cell? ⟨gb148, 1, none⟩ = some (.int .i64 a0_1) ∧ w'.cell? ⟨gb148, 2, none⟩ = some (.slice (some ad151) l0_2.length c0_2) ∧ w'.cell? (ad151.add (x3_2).toNat) = some (.slice (some ad153) (Bo l0_2 x3_2).length c152_0) ∧ w'.cell? (ad153.add (x4_3).toNat) = some (.int .i64 (rd (Bo l0_2 x3_2) x4_3))) (ds := []) #[false, false, false, false, false, false, false, false, false, false, false, false, false, false, false, false, false] (by kernel_rfl) rfl rfl ⟨(Ag BK148.out 0).trans rfl, (Ag BK148.out 1).trans rfl, (Ag BK148.out 2).trans rfl, ((HB.out.cell (World.block_lt_of_cell? w _ hw152_0)).trans hw152_0), ((HB.out.cell (World.block_lt_of_cell? w _ hw153_0)).trans hw153_0)⟩ (fun hHeld => ?_); refine Jd Bf.tab9 Bf.bits9 (fun HT_ HW_ => ?_)
                            generalize wr.drew = w23 at BK148 HB HR152_0 hx152_0 hx153_0 hHeld ⊢
                            refine Eu (i := 0) (N := some 37) (v := ?_) (a' := ?_) #[true, false, false, false, false, false, false, false, false, false, false, false, false, false, false, false, false] rfl rfl (Eh HT_.out (by kernel_rfl)) (fun _ _ _ h => h) (Or.inl ⟨by rfl, ?_⟩) ?_ ?_
                            rotate_left
                            · intro w'
                              go_simp
                              with_reducible rfl
                            rotate_left
                            · simp only [Act.put, List.setIfInBounds_toArray, List.set_cons_zero, List.set_cons_succ, Dp, Dt]
                              rfl
                            refine Eu (i := 2) (N := some 39) (v := ?_) (a' := ?_) #[true, false, true, false, false, false, false, false, false, false, false, false, false, false, false, false, false] rfl rfl (Eh HT_.out (by kernel_rfl)) (fun _ _ _ h => h) (Or.inl ⟨by rfl, ?_⟩) ?_ ?_
                            rotate_left
                            · intro w'
                              go_simp
                              with_reducible rfl
                            rotate_left
                            · simp only [Act.put, List.setIfInBounds_toArray, List.set_cons_zero, List.set_cons_succ, Dp, Dt]
                              rfl
                            refine Eu (i := 3) (N := some 40) (v := ?_) (a' := ?_) #[true, false, true, true, false, false, false, false, false, false, false, false, false, false, false, false, false] rfl rfl (Eh HT_.out (by kernel_rfl)) (fun _ _ _ h => h) (Or.inl ⟨by rfl, ?_⟩) ?_ ?_
                            rotate_left
                            · intro w'
                              go_simp
                              with_reducible rfl
                            rotate_left
                            · simp only [Act.put, List.setIfInBounds_toArray, List.set_cons_zero, List.set_cons_succ, Dp, Dt]
                              rfl
                            refine Eu (i := 5) (N := some 42) (v := ?_) (a' := ?_) #[true, false, true, true, false, true, false, false, false, false, false, false, false, false, false, false, false] rfl rfl (Eh HT_.out (by kernel_rfl)) (fun _ _ _ h => h) (Or.inl ⟨by rfl, ?_⟩) ?_ ?_
                            rotate_left
                            · intro w'
                              go_simp
                              with_reducible rfl
                            rotate_left
                            · simp only [Act.put, List.setIfInBounds_toArray, List.set_cons_zero, List.set_cons_succ, Dp, Dt]
                              rfl
                            refine Eu (i := 8) (N := some 45) (v := ?_) (a' := ?_) #[true, false, true, true, false, true, false, false, true, false, false, false, false, false, false, false, false] rfl rfl (Eh HT_.out (by kernel_rfl)) (fun _ _ _ h => h) (Or.inl ⟨by rfl, ?_⟩) ?_ ?_
                            rotate_left
                            · intro w'
                              go_simp
                              with_reducible rfl
                            rotate_left
                            · simp only [Act.put, List.setIfInBounds_toArray, List.set_cons_zero, List.set_cons_succ, Dp, Dt]
                              rfl
                            refine Ib (i := 1) (N := some 38) (v := ?_) (a' := ?_) #[true, true, true, true, false, true, false, false, true, false, false, false, false, false, false, false, false] rfl rfl (Ht HT_.out HW_.out (by kernel_rfl)) (fun _ _ _ h => h) (Or.inl ⟨by rfl, ?_⟩) hHeld ?_ ?_
                            rotate_left
                            · rintro w' ⟨s0, s1, s2, s3, s4⟩
                              go_simp
                              with_reducible rfl
                            rotate_left
                            · simp only [Act.put, List.setIfInBounds_toArray, List.set_cons_zero, List.set_cons_succ, Dp, Dt]
                              rfl
                            refine Ib (i := 4) (N := some 41) (v := ?_) (a' := ?_) #[true, true, true, true, true, true, false, false, true, false, false, false, false, false, false, false, false] rfl rfl (Ht HT_.out HW_.out (by kernel_rfl)) (fun _ _ _ h => h) (Or.inl ⟨by rfl, ?_⟩) hHeld ?_ ?_
                            rotate_left
                            · rintro w' ⟨s0, s1, s2, s3, s4⟩
                              go_simp
                              with_reducible rfl
                            rotate_left
                            · simp only [Act.put, List.setIfInBounds_toArray, List.set_cons_zero, List.set_cons_succ, Dp, Dt]
                              rfl
                            refine Eu (i := 6) (N := some 43) (v := ?_) (a' := ?_) #[true, true, true, true, true, true, true, false, true, false, false, false, false, false, false, false, false] rfl rfl (Eh HT_.out (by kernel_rfl)) (fun _ _ _ h => h) (Or.inl ⟨by rfl, ?_⟩) ?_ ?_
                            rotate_left
                            · intro w'
                              go_simp
                              with_reducible rfl
                            rotate_left
                            · simp only [Act.put, List.setIfInBounds_toArray, List.set_cons_zero, List.set_cons_succ, Dp, Dt]
                              rfl
                            refine Ib (i := 7) (N := some 44) (v := ?_) (a' := ?_) #[true, true, true, true, true, true, true, true, true, false, false, false, false, false, false, false, false] rfl rfl (Ht HT_.out HW_.out (by kernel_rfl)) (fun _ _ _ h => h) (Or.inl ⟨by rfl, ?_⟩) hHeld ?_ ?_
                            rotate_left
                            · rintro w' ⟨s0, s1, s2, s3, s4⟩
                              go_simp
                              with_reducible rfl
                            rotate_left
                            · simp only [Act.put, List.setIfInBounds_toArray, List.set_cons_zero, List.set_cons_succ, Dp, Dt]
                              rfl
                            refine Eu (i := 9) (N := some 46) (v := ?_) (a' := ?_) #[true, true, true, true, true, true, true, true, true, true, false, false, false, false, false, false, false] rfl rfl (Eh HT_.out (by kernel_rfl)) (fun _ _ _ h => h) (Or.inl ⟨by rfl, ?_⟩) ?_ ?_
                            rotate_left
                            · intro w'
                              go_simp
                              with_reducible rfl
                            rotate_left
                            · simp only [Act.put, List.setIfInBounds_toArray, List.set_cons_zero, List.set_cons_succ, Dp, Dt]
                              rfl
                            refine Ib (i := 10) (N := some 47) (v := ?_) (a' := ?_) #[true, true, true, true, true, true, true, true, true, true, true, false, false, false, false, false, false] rfl rfl (Ht HT_.out HW_.out (by kernel_rfl)) (fun _ _ _ h => h) (Or.inl ⟨by rfl, ?_⟩) hHeld ?_ ?_
                            rotate_left
                            · rintro w' ⟨s0, s1, s2, s3, s4⟩
                              go_simp
                              with_reducible rfl
                            rotate_left
                            · simp only [Act.put, List.setIfInBounds_toArray, List.set_cons_zero, List.set_cons_succ, Dp, Dt]
                              rfl
                            refine one_ (i := 11) (N := some 48) #[true, true, true, true, true, true, true, true, true, true, true, true, false, false, false, false, false] rfl rfl (one_of HT_.out (by kernel_rfl)) (by decide) (fun K hK => ?_)
                            refine goes_ Tryd.func33 (by kernel_rfl) rfl #[.agg #[.slice A0_0 l0_0.length c0_0], .int .i64 (rd (Bo l0_2 x3_2) x4_3)] (by rfl) rfl rfl (by (try simp only [List.map_toArray, List.map_cons, List.map_nil]); first | done | rfl | (simp only [List.length_drop, List.length_take]; rfl)) ?_
                            with_reducible refine (Df.calls k3 _ _ l0_0 (rd (Bo l0_2 x3_2) x4_3) t154 t155 _ ?side1 ?side2 A20.out).mono ?_
                            (case side1 => repeat (first | exact (Kd.C9 HR0_0.out HB.out) | (with_reducible refine Kd.Bl ?_ _) | (with_reducible refine Kd.Bj ?_ _) | (with_reducible refine Kd.Ce ?_)))
                            (case side2 => exact HC0_0.out)
                            rintro e w24 ⟨rfl, hb⟩
                            refine ⟨_, rfl, ?_⟩
                            have n0_ := Ac.mk (Az (g := gb148) (o := .cells #[.slice A0_0 l0_0.length c0_0, .int .i64 a0_1, .slice (some ad151) l0_2.length c0_2] 38 (0, 0)) (by (with_reducible repeat (first | refine Aj ?_ _ | refine Ak ?_ | refine Ai ?_ _)); exact BK148.out) hb)
                            have n1_ := Ac.mk (Ap (by repeat (first | (with_reducible first | exact HB.out | apply Ad | apply Aa | apply Ae | refine Ah ?_ GE148.out) | exact HB.out)) hb)
                            clear BK148
                            clear HB
                            have BK148 := n0_
                            have HB := n1_
                            clear n0_ n1_
                            (try clear hb)
                            (try clear hb2)
                            (try clear hk)
                            (try clear hi)
                            refine hK.out _ _ ⟨(Ag BK148.out 0).trans rfl, (Ag BK148.out 1).trans rfl, (Ag BK148.out 2).trans rfl, ((HB.out.cell (World.block_lt_of_cell? w _ hw152_0)).trans hw152_0), ((HB.out.cell (World.block_lt_of_cell? w _ hw153_0)).trans hw153_0)⟩ (fun hHeld => ?_)
                            clear hK K
                            refine norm_ (a' := ?_) ?_ ?_
                            rotate_left
                            · show Act.put _ (some 48) _ = _
                              simp only [Act.put, List.setIfInBounds_toArray, List.set_cons_zero, List.set_cons_succ, Dp, Dt]
                              rfl
                            refine Eu (i := 12) (N := some 36) (v := ?_) (a' := ?_) #[true, true, true, true, true, true, true, true, true, true, true, true, true, false, false, false, false] rfl rfl (Eh HT_.out (by kernel_rfl)) (fun _ _ _ h => h) (Or.inl ⟨by rfl, ?_⟩) ?_ ?_
                            rotate_left
                            · intro w'
                              go_simp
                              with_reducible rfl
                            rotate_left
                            · simp only [Act.put, List.setIfInBounds_toArray, List.set_cons_zero, List.set_cons_succ, Dp, Dt]
                              rfl
                            refine Eu (i := 13) (N := some 49) (v := ?_) (a' := ?_) #[true, true, true, true, true, true, true, true, true, true, true, true, true, true, false, false, false] rfl rfl (Eh HT_.out (by kernel_rfl)) (fun _ _ _ h => h) (Or.inl ⟨by rfl, ?_⟩) ?_ ?_
                            rotate_left
                            · intro w'
                              go_simp
                              with_reducible rfl
                            rotate_left
                            · simp only [Act.put, List.setIfInBounds_toArray, List.set_cons_zero, List.set_cons_succ, Dp, Dt]
                              rfl
                            refine Eu (i := 14) (N := some 50) (v := ?_) (a' := ?_) #[true, true, true, true, true, true, true, true, true, true, true, true, true, true, true, false, false] rfl rfl (Eh HT_.out (by kernel_rfl)) (fun _ _ _ h => h) (Or.inl ⟨by rfl, ?_⟩) ?_ ?_
                            rotate_left
                            · intro w'
                              go_simp
                              with_reducible rfl
                            rotate_left
                            · simp only [Act.put, List.setIfInBounds_toArray, List.set_cons_zero, List.set_cons_succ, Dp, Dt]
                              rfl
                            refine Eu (i := 15) (N := some 5) (v := ?_) (a' := ?_) #[true, true, true, true, true, true, true, true, true, true, true, true, true, true, true, true, false] rfl rfl (Eh HT_.out (by kernel_rfl)) (fun _ _ _ h => h) (Or.inl ⟨by rfl, ?_⟩) ?_ ?_
                            rotate_left
                            · intro w'
                              go_simp
                              with_reducible rfl
                            rotate_left
                            · simp only [Act.put, List.setIfInBounds_toArray, List.set_cons_zero, List.set_cons_succ, Dp, Dt]
                              rfl
                            refine Eu (i := 16) (N := some 6) (v := ?_) (a' := ?_) #[true, true, true, true, true, true, true, true, true, true, true, true, true, true, true, true, true] rfl rfl (Eh HT_.out (by kernel_rfl)) (fun _ _ _ h => h) (Or.inl ⟨by rfl, ?_⟩) ?_ ?_
                            rotate_left
                            · intro w'
                              go_simp
                              with_reducible rfl
                            rotate_left
                            · simp only [Act.put, List.setIfInBounds_toArray, List.set_cons_zero, List.set_cons_succ, Dp, Dt]
                              rfl
                            refine done_ (done_of HT_.out (by kernel_rfl)) ?_
                            try go_wp2
                            go_ret
                            exact ⟨by first | rfl | (simp [Aq, Au] <;> rfl) | (simp [*, Aq, Au] <;> rfl), by repeat (first | (with_reducible first | exact HB.out | apply Ad | apply Aa | apply Ae | refine Ah ?_ GE148.out) | exact HB.out)⟩
                          · rw [if_neg c21] at H
                            have c21b0 : decide (0 ≤ t154) = false := decide_eq_false c21
                            clear c21
                            have H' := Ac.mk H
                            clear H
                            have hcz25_0 : wr.cell? ⟨gb148, 0, none⟩ = some (.slice A0_0 l0_0.length c0_0) := (Ag BK148.out 0).trans rfl
                            have hcz25_1 : wr.cell? ⟨gb148, 1, none⟩ = some (.int .i64 a0_1) := (Ag BK148.out 1).trans rfl
                            have hcz25_2 : wr.cell? ⟨gb148, 2, none⟩ = some (.slice A0_2 l0_2.length c0_2) := (Ag BK148.out 2).trans rfl
                            have hfz25_0 := Af BK148.out 0
                            have hfz25_1 := Af BK148.out 1
                            have hfz25_2 := Af BK148.out 2
                            have p151 : 0 ≤ (x3_2 : Int) := of_decide_eq_true (by first | (with_reducible assumption) | assumption)
                            have q151 : x3_2 < (l0_2.length : Int) := of_decide_eq_true (by first | (with_reducible assumption) | assumption)
                            obtain ⟨ad151, A151_0, c151_0, e151, hx151_0, hl151_0, hi151_0⟩ := Gm HR0_2.out x3_2 p151 q151
                            cases e151
                            replace hx151_0 := (HB.out.cell (World.block_lt_of_cell? w _ hx151_0)).trans hx151_0
                            have HR151_0 := Ac.mk hi151_0
                            have HC151_0 := Ac.mk hl151_0
                            clear hi151_0 hl151_0
                            replace p151 := eq_true p151
                            replace q151 := eq_true q151
                            try go_wp2
                            have n0_ := Ac.mk (Ak BK148.out)
                            have n1_ := Ac.mk (Ae HB.out)
                            clear BK148
                            clear HB
                            have BK148 := n0_
                            have HB := n1_
                            clear n0_ n1_
                            have p152 : 0 ≤ (x3_2 : Int) := of_decide_eq_true (by first | (with_reducible assumption) | assumption)
                            have q152 : x3_2 < (l0_2.length : Int) := of_decide_eq_true (by first | (with_reducible assumption) | assumption)
                            obtain ⟨ad152, A152_0, c152_0, e152, hx152_0, hl152_0, hi152_0⟩ := Gm HR0_2.out x3_2 p152 q152
                            have hw152_0 := hx152_0
                            obtain rfl : ad151 = ad152 := (by injection e152)
                            replace hx152_0 := (HB.out.cell (World.block_lt_of_cell? w _ hx152_0)).trans hx152_0
                            have HR152_0 := Ac.mk hi152_0
                            have HC152_0 := Ac.mk hl152_0
                            clear hi152_0 hl152_0
                            replace p152 := eq_true p152
                            replace q152 := eq_true q152
                            have p153 : 0 ≤ (x4_3 : Int) := of_decide_eq_true (by first | (with_reducible assumption) | assumption)
                            have q153 : x4_3 < ((Bo l0_2 x3_2).length : Int) := of_decide_eq_true (by first | (with_reducible assumption) | assumption)
                            obtain ⟨ad153, e153, hx153_0⟩ := Kd.Ho HR152_0.out x4_3 p153 q153
                            have hw153_0 := hx153_0
                            cases e153
                            replace hx153_0 := (HB.out.cell (World.block_lt_of_cell? w _ hx153_0)).trans hx153_0
                            replace p153 := eq_true p153
                            replace q153 := eq_true q153
                            refine start_ (n := 17) (S := fun w' => w'.cell? ⟨gb148, 0, none⟩ = some (.slice A0_0 l0_0.length c0_0) ∧ w'.cell? ⟨gb148, 1, none⟩ = some (.int .i64 a0_1) ∧ w'.cell? ⟨gb148, 2, none⟩ = some (.slice (some ad151) l0_2.length c0_2) ∧ w'.cell? (ad151.add (x3_2).toNat) = some (.slice (some ad153) (Bo l0_2 x3_2).length c152_0) ∧ w'.cell? (ad153.add (x4_3).toNat) = some (.int .i64 (rd (Bo l0_2 x3_2) x4_3))) (ds := []) #[false, false, false, false, false, false, false, false, false, false, false, false, false, false, false, false, false] (by kernel_rfl) rfl rfl ⟨(Ag BK148.out 0).trans rfl, (Ag BK148.out 1).trans rfl, (Ag BK148.out 2).trans rfl, ((HB.out.cell (World.block_lt_of_cell? w _ hw152_0)).trans hw152_0), ((HB.out.cell (World.block_lt_of_cell? w _ hw153_0)).trans hw153_0)⟩ (fun hHeld => ?_); refine Jd Bf.tab9 Bf.bits9 (fun HT_ HW_ => ?_)
                            generalize wr.drew = w26 at BK148 HB HR152_0 hx152_0 hx153_0 hHeld ⊢
                            refine Eu (i := 0) (N := some 37) (v := ?_) (a' := ?_) #[true, false, false, false, false, false, false, false, false, false, false, false, false, false, false, false, false] rfl rfl (Eh HT_.out (by kernel_rfl)) (fun _ _ _ h => h) (Or.inl ⟨by rfl, ?_⟩) ?_ ?_
                            rotate_left
                            · intro w'
                              go_simp
                              with_reducible rfl
                            rotate_left
                            · simp only [Act.put, List.setIfInBounds_toArray, List.set_cons_zero, List.set_cons_succ, Dp, Dt]
                              rfl
                            refine Eu (i := 2) (N := some 39) (v := ?_) (a' := ?_) #[true, false, true, false, false, false, false, false, false, false, false, false, false, false, false, false, false] rfl rfl (Eh HT_.out (by kernel_rfl)) (fun _ _ _ h => h) (Or.inl ⟨by rfl, ?_⟩) ?_ ?_
                            rotate_left
                            · intro w'
                              go_simp
                              with_reducible rfl
                            rotate_left
                            · simp only [Act.put, List.setIfInBounds_toArray, List.set_cons_zero, List.set_cons_succ, Dp, Dt]
                              rfl
                            refine Eu (i := 3) (N := some 40) (v := ?_) (a' := ?_) #[true, false, true, true, false, false, false, false, false, false, false, false, false, false, false, false, false] rfl rfl (Eh HT_.out (by kernel_rfl)) (fun _ _ _ h => h) (Or.inl ⟨by rfl, ?_⟩) ?_ ?_
                            rotate_left
                            · intro w'
                              go_simp
                              with_reducible rfl
                            rotate_left
                            · simp only [Act.put, List.setIfInBounds_toArray, List.set_cons_zero, List.set_cons_succ, Dp, Dt]
                              rfl
                            refine Eu (i := 5) (N := some 42) (v := ?_) (a' := ?_) #[true, false, true, true, false, true, false, false, false, false, false, false, false, false, false, false, false] rfl rfl (Eh HT_.out (by kernel_rfl)) (fun _ _ _ h => h) (Or.inl ⟨by rfl, ?_⟩) ?_ ?_
                            rotate_left
                            · intro w'
                              go_simp
                              with_reducible rfl
                            rotate_left
                            · simp only [Act.put, List.setIfInBounds_toArray, List.set_cons_zero, List.set_cons_succ, Dp, Dt]
                              rfl
                            refine Eu (i := 8) (N := some 45) (v := ?_) (a' := ?_) #[true, false, true, true, false, true, false, false, true, false, false, false, false, false, false, false, false] rfl rfl (Eh HT_.out (by kernel_rfl)) (fun _ _ _ h => h) (Or.inl ⟨by rfl, ?_⟩) ?_ ?_
                            rotate_left
                            · intro w'
                              go_simp
                              with_reducible rfl
                            rotate_left
                            · simp only [Act.put, List.setIfInBounds_toArray, List.set_cons_zero, List.set_cons_succ, Dp, Dt]
                              rfl
                            refine Ib (i := 1) (N := some 38) (v := ?_) (a' := ?_) #[true, true, true, true, false, true, false, false, true, false, false, false, false, false, false, false, false] rfl rfl (Ht HT_.out HW_.out (by kernel_rfl)) (fun _ _ _ h => h) (Or.inl ⟨by rfl, ?_⟩) hHeld ?_ ?_
                            rotate_left
                            · rintro w' ⟨s0, s1, s2, s3, s4⟩
                              go_simp
                              with_reducible rfl
                            rotate_left
                            · simp only [Act.put, List.setIfInBounds_toArray, List.set_cons_zero, List.set_cons_succ, Dp, Dt]
                              rfl
                            refine Ib (i := 4) (N := some 41) (v := ?_) (a' := ?_) #[true, true, true, true, true, true, false, false, true, false, false, false, false, false, false, false, false] rfl rfl (Ht HT_.out HW_.out (by kernel_rfl)) (fun _ _ _ h => h) (Or.inl ⟨by rfl, ?_⟩) hHeld ?_ ?_
                            rotate_left
                            · rintro w' ⟨s0, s1, s2, s3, s4⟩
                              go_simp
                              with_reducible rfl
                            rotate_left
                            · simp only [Act.put, List.setIfInBounds_toArray, List.set_cons_zero, List.set_cons_succ, Dp, Dt]
                              rfl
                            refine Eu (i := 6) (N := some 43) (v := ?_) (a' := ?_) #[true, true, true, true, true, true, true, false, true, false, false, false, false, false, false, false, false] rfl rfl (Eh HT_.out (by kernel_rfl)) (fun _ _ _ h => h) (Or.inl ⟨by rfl, ?_⟩) ?_ ?_
                            rotate_left
                            · intro w'
                              go_simp
                              with_reducible rfl
                            rotate_left
                            · simp only [Act.put, List.setIfInBounds_toArray, List.set_cons_zero, List.set_cons_succ, Dp, Dt]
                              rfl
                            refine Ib (i := 7) (N := some 44) (v := ?_) (a' := ?_) #[true, true, true, true, true, true, true, true, true, false, false, false, false, false, false, false, false] rfl rfl (Ht HT_.out HW_.out (by kernel_rfl)) (fun _ _ _ h => h) (Or.inl ⟨by rfl, ?_⟩) hHeld ?_ ?_
                            rotate_left
                            · rintro w' ⟨s0, s1, s2, s3, s4⟩
                              go_simp
                              with_reducible rfl
                            rotate_left
                            · simp only [Act.put, List.setIfInBounds_toArray, List.set_cons_zero, List.set_cons_succ, Dp, Dt]
                              rfl
                            refine Eu (i := 9) (N := some 46) (v := ?_) (a' := ?_) #[true, true, true, true, true, true, true, true, true, true, false, false, false, false, false, false, false] rfl rfl (Eh HT_.out (by kernel_rfl)) (fun _ _ _ h => h) (Or.inl ⟨by rfl, ?_⟩) ?_ ?_
                            rotate_left
                            · intro w'
                              go_simp
                              with_reducible rfl
                            rotate_left
                            · simp only [Act.put, List.setIfInBounds_toArray, List.set_cons_zero, List.set_cons_succ, Dp, Dt]
                              rfl
                            refine Ib (i := 10) (N := some 47) (v := ?_) (a' := ?_) #[true, true, true, true, true, true, true, true, true, true, true, false, false, false, false, false, false] rfl rfl (Ht HT_.out HW_.out (by kernel_rfl)) (fun _ _ _ h => h) (Or.inl ⟨by rfl, ?_⟩) hHeld ?_ ?_
                            rotate_left
                            · rintro w' ⟨s0, s1, s2, s3, s4⟩
                              go_simp
                              with_reducible rfl
                            rotate_left
                            · simp only [Act.put, List.setIfInBounds_toArray, List.set_cons_zero, List.set_cons_succ, Dp, Dt]
                              rfl
                            refine one_ (i := 11) (N := some 48) #[true, true, true, true, true, true, true, true, true, true, true, true, false, false, false, false, false] rfl rfl (one_of HT_.out (by kernel_rfl)) (by decide) (fun K hK => ?_)
                            refine goes_ Tryd.func33 (by kernel_rfl) rfl #[.agg #[.slice A0_0 l0_0.length c0_0], .int .i64 (rd (Bo l0_2 x3_2) x4_3)] (by rfl) rfl rfl (by (try simp only [List.map_toArray, List.map_cons, List.map_nil]); first | done | rfl | (simp only [List.length_drop, List.length_take]; rfl)) ?_
                            with_reducible refine (Df.calls k3 _ _ l0_0 (rd (Bo l0_2 x3_2) x4_3) t154 t155 _ ?side1 ?side2 A20.out).mono ?_
                            (case side1 => repeat (first | exact (Kd.C9 HR0_0.out HB.out) | (with_reducible refine Kd.Bl ?_ _) | (with_reducible refine Kd.Bj ?_ _) | (with_reducible refine Kd.Ce ?_)))
                            (case side2 => exact HC0_0.out)
                            rintro e w27 ⟨rfl, hb⟩
                            refine ⟨_, rfl, ?_⟩
                            have n0_ := Ac.mk (Az (g := gb148) (o := .cells #[.slice A0_0 l0_0.length c0_0, .int .i64 a0_1, .slice (some ad151) l0_2.length c0_2] 38 (0, 0)) (by (with_reducible repeat (first | refine Aj ?_ _ | refine Ak ?_ | refine Ai ?_ _)); exact BK148.out) hb)
                            have n1_ := Ac.mk (Ap (by repeat (first | (with_reducible first | exact HB.out | apply Ad | apply Aa | apply Ae | refine Ah ?_ GE148.out) | exact HB.out)) hb)
                            clear BK148
                            clear HB
                            have BK148 := n0_
                            have HB := n1_
                            clear n0_ n1_
                            (try clear hb)
                            (try clear hb2)
                            (try clear hk)
                            (try clear hi)
                            refine hK.out _ _ ⟨(Ag BK148.out 0).trans rfl, (Ag BK148.out 1).trans rfl, (Ag BK148.out 2).trans rfl, ((HB.out.cell (World.block_lt_of_cell? w _ hw152_0)).trans hw152_0), ((HB.out.cell (World.block_lt_of_cell? w _ hw153_0)).trans hw153_0)⟩ (fun hHeld => ?_)
                            clear hK K
                            refine norm_ (a' := ?_) ?_ ?_
                            rotate_left
                            · show Act.put _ (some 48) _ = _
                              simp only [Act.put, List.setIfInBounds_toArray, List.set_cons_zero, List.set_cons_succ, Dp, Dt]
                              rfl
                            refine Eu (i := 12) (N := some 36) (v := ?_) (a' := ?_) #[true, true, true, true, true, true, true, true, true, true, true, true, true, false, false, false, false] rfl rfl (Eh HT_.out (by kernel_rfl)) (fun _ _ _ h => h) (Or.inl ⟨by rfl, ?_⟩) ?_ ?_
                            rotate_left
                            · intro w'
                              go_simp
                              with_reducible rfl
                            rotate_left
                            · simp only [Act.put, List.setIfInBounds_toArray, List.set_cons_zero, List.set_cons_succ, Dp, Dt]
                              rfl
                            refine Eu (i := 13) (N := some 49) (v := ?_) (a' := ?_) #[true, true, true, true, true, true, true, true, true, true, true, true, true, true, false, false, false] rfl rfl (Eh HT_.out (by kernel_rfl)) (fun _ _ _ h => h) (Or.inl ⟨by rfl, ?_⟩) ?_ ?_
                            rotate_left
                            · intro w'
                              go_simp
                              with_reducible rfl
                            rotate_left
                            · simp only [Act.put, List.setIfInBounds_toArray, List.set_cons_zero, List.set_cons_succ, Dp, Dt]
                              rfl
                            refine Eu (i := 14) (N := some 50) (v := ?_) (a' := ?_) #[true, true, true, true, true, true, true, true, true, true, true, true, true, true, true, false, false] rfl rfl (Eh HT_.out (by kernel_rfl)) (fun _ _ _ h => h) (Or.inl ⟨by rfl, ?_⟩) ?_ ?_
                            rotate_left
                            · intro w'
                              go_simp
                              with_reducible rfl
                            rotate_left
                            · simp only [Act.put, List.setIfInBounds_toArray, List.set_cons_zero, List.set_cons_succ, Dp, Dt]
                              rfl
                            refine Eu (i := 15) (N := some 5) (v := ?_) (a' := ?_) #[true, true, true, true, true, true, true, true, true, true, true, true, true, true, true, true, false] rfl rfl (Eh HT_.out (by kernel_rfl)) (fun _ _ _ h => h) (Or.inl ⟨by rfl, ?_⟩) ?_ ?_
                            rotate_left
                            · intro w'
                              go_simp
                              with_reducible rfl
                            rotate_left
                            · simp only [Act.put, List.setIfInBounds_toArray, List.set_cons_zero, List.set_cons_succ, Dp, Dt]
                              rfl
                            refine Eu (i := 16) (N := some 6) (v := ?_) (a' := ?_) #[true, true, true, true, true, true, true, true, true, true, true, true, true, true, true, true, true] rfl rfl (Eh HT_.out (by kernel_rfl)) (fun _ _ _ h => h) (Or.inl ⟨by rfl, ?_⟩) ?_ ?_
                            rotate_left
                            · intro w'
                              go_simp
                              with_reducible rfl
                            rotate_left
                            · simp only [Act.put, List.setIfInBounds_toArray, List.set_cons_zero, List.set_cons_succ, Dp, Dt]
                              rfl
                            refine done_ (done_of HT_.out (by kernel_rfl)) ?_
                            try go_wp2
                            go_roundg k3
                            case measure => have := HJ1.out; have := HK2.out; have := HK3.out; omega
                            case rel => exact ⟨(wrap64 (x4_3 + 1)), (by first | rfl | (simp; done) | (simp [*]; done)), H', ⟨by have := HJ1.out; have := HK2.out; have := HK3.out; omega⟩, ⟨by (with_reducible repeat (first | refine Aj ?_ _ | refine Ak ?_ | refine Ai ?_ _)); exact BK148.out⟩, ⟨by repeat (first | (with_reducible first | exact HB.out | apply Ad | apply Aa | apply Ae | refine Ah ?_ GE148.out) | exact HB.out)⟩⟩
                        · rw [if_neg c19] at H
                          exact absurd H (by simp)
                      · rw [if_neg c18] at H
                        have c18b0 : decide (x4_3 < ((Bo l0_2 x3_2).length : Int)) = false := decide_eq_false c18
                        clear c18
                        have H' := Ac.mk H
                        clear H
                        have hcz28_0 : wr.cell? ⟨gb148, 0, none⟩ = some (.slice A0_0 l0_0.length c0_0) := (Ag BK148.out 0).trans rfl
                        have hcz28_1 : wr.cell? ⟨gb148, 1, none⟩ = some (.int .i64 a0_1) := (Ag BK148.out 1).trans rfl
                        have hcz28_2 : wr.cell? ⟨gb148, 2, none⟩ = some (.slice A0_2 l0_2.length c0_2) := (Ag BK148.out 2).trans rfl
                        have hfz28_0 := Af BK148.out 0
                        have hfz28_1 := Af BK148.out 1
                        have hfz28_2 := Af BK148.out 2
                        have p151 : 0 ≤ (x3_2 : Int) := of_decide_eq_true (by first | (with_reducible assumption) | assumption)
                        have q151 : x3_2 < (l0_2.length : Int) := of_decide_eq_true (by first | (with_reducible assumption) | assumption)
                        obtain ⟨ad151, A151_0, c151_0, e151, hx151_0, hl151_0, hi151_0⟩ := Gm HR0_2.out x3_2 p151 q151
                        cases e151
                        replace hx151_0 := (HB.out.cell (World.block_lt_of_cell? w _ hx151_0)).trans hx151_0
                        have HR151_0 := Ac.mk hi151_0
                        have HC151_0 := Ac.mk hl151_0
                        clear hi151_0 hl151_0
                        replace p151 := eq_true p151
                        replace q151 := eq_true q151
                        go_wp2
                        go_roundg k3
                        case measure => have := HJ1.out; have := HK2.out; have := HK3.out; omega
                        case rel => exact ⟨(wrap64 (x3_2 + 1)), (by first | rfl | (simp; done) | (simp [*]; done)), H', ⟨by have := HJ1.out; have := HK2.out; have := HK3.out; omega⟩, ⟨by (with_reducible repeat (first | refine Aj ?_ _ | refine Ak ?_ | refine Ai ?_ _)); exact BK148.out⟩, ⟨by repeat (first | (with_reducible first | exact HB.out | apply Ad | apply Aa | apply Ae | refine Ah ?_ GE148.out) | exact HB.out)⟩⟩
                    · rw [if_neg c17] at H
                      exact absurd H (by simp)
                  · rw [if_neg c16] at H
                    exact absurd H (by simp)
            · rw [if_neg c14] at H
              have c14b0 : decide (x3_2 < (l0_2.length : Int)) = false := decide_eq_false c14
              clear c14
              obtain rfl := Option.some.inj H
              have hcz29_0 : wr.cell? ⟨gb148, 0, none⟩ = some (.slice A0_0 l0_0.length c0_0) := (Ag BK148.out 0).trans rfl
              have hcz29_1 : wr.cell? ⟨gb148, 1, none⟩ = some (.int .i64 a0_1) := (Ag BK148.out 1).trans rfl
              have hcz29_2 : wr.cell? ⟨gb148, 2, none⟩ = some (.slice A0_2 l0_2.length c0_2) := (Ag BK148.out 2).trans rfl
              have hfz29_0 := Af BK148.out 0
              have hfz29_1 := Af BK148.out 1
              have hfz29_2 := Af BK148.out 2
              go_wp2
              go_ret
              exact ⟨by first | rfl | (simp [Aq, Au] <;> rfl) | (simp [*, Aq, Au] <;> rfl), by repeat (first | (with_reducible first | exact HB.out | apply Ad | apply Aa | apply Ae | refine Ah ?_ GE148.out) | exact HB.out)⟩
end Go.Proofs.YtcnmngiaebgjkaaDoor.X

namespace Go.Proofs.YtcnmngiaebgjkaaDoor.X
open Go.RowKit Go.Proofs.YtcnmngiaebgjkaaDoorW.PrintWords Go.Proofs.YtcnmngiaebgjkaaDoorW.PrintLast Go.Proofs.YtcnmngiaebgjkaaDoorW.PrintMore
attribute [local go_sem] Dn Dk D5 Dz Cj Cm Dj Dl
open Go.Proofs.YtcnmngiaebgjkaaDoorG
def Cb.l0 : Nat → ByteArray → Int → List ByteArray → Int → Int → Option (List ByteArray)
  | 0, _, _, _, _, _ => none
  | k + 1, x0, x1, x5, x6, x7 => if x7 < (x0.size : Int) then (if 0 ≤ x7 then (if (bt x0 x7) = x1 then (if 0 ≤ x6 then (if x6 ≤ x7 then (if x7 ≤ (x0.size : Int) then (if x5.length < 8796093022208 then (Cb.l0 k x0 x1 (x5 ++ [x0.extract (x6 : Int).toNat (x7 : Int).toNat]) (wrap64 (x7 + 1)) (wrap64 (x7 + 1))) else (none)) else (none)) else (none)) else (none)) else (Cb.l0 k x0 x1 x5 x6 (wrap64 (x7 + 1)))) else (none)) else (if 0 ≤ x6 then (if x6 ≤ (x0.size : Int) then (if x5.length < 8796093022208 then (some (x5 ++ [x0.extract (x6 : Int).toNat x0.size])) else (none)) else (none)) else (none))
def Cb.f (k : Nat) (a0 : ByteArray) (a1 : Int) : Option (List ByteArray) := Cb.l0 k a0 a1 (([] : List ByteArray)) 0 0
theorem Cb.Ei : ∀ k, (∀ y0 y1 y2 y3 y4, LeO (Cb.l0 k y0 y1 y2 y3 y4) (Cb.l0 (k + 1) y0 y1 y2 y3 y4))
  | 0 => fun _ _ _ _ _ r h => by simp [Cb.l0] at h
  | k + 1 => by
    have ih0 := Cb.Ei k
    · intro y0 y1 y2 y3 y4
      unfold Cb.l0
      repeat' first
      | (with_reducible exact ih0 _ _ _ _ _)
      | (with_reducible exact LeO.refl _)
      | (with_reducible exact LeO.none _)
      | (with_reducible refine LeO.ite ?_ ?_)
      | (with_reducible refine LeO.bind ?_ (fun _ => ?_))
      | exact ih0 _ _ _ _ _
      | exact LeO.none _
      | refine LeO.ite ?_ ?_
      | refine LeO.bind ?_ (fun _ => ?_)
theorem Cb.mono : ∀ a0 a1 k, LeO (Cb.f k a0 a1) (Cb.f (k + 1) a0 a1) := by
  intro a0 a1 k
  have ih0 := Cb.Ei k
  unfold Cb.f
  repeat' first
      | (with_reducible exact ih0 _ _ _ _ _)
      | (with_reducible exact LeO.refl _)
      | (with_reducible exact LeO.none _)
      | (with_reducible refine LeO.ite ?_ ?_)
      | (with_reducible refine LeO.bind ?_ (fun _ => ?_))
      | exact ih0 _ _ _ _ _
      | exact LeO.none _
      | refine LeO.ite ?_ ?_
      | refine LeO.bind ?_ (fun _ => ?_)
set_option maxHeartbeats 8000000 in
set_option maxRecDepth 100000 in
theorem Cb.calls (k : Nat) (a0 : ByteArray) (a1 : Int) (r : List ByteArray) (w : World) (h : Cb.f k a0 a1 = some r) :
    Calls Tryd.prog 43 #[.string a0, .int .u8 a1] w fun e w' => ∃ v0_ : Value, e = .returned (v0_) ∧ Kd.R Kd.string 9 w' w.heap.size (fun _ => True) v0_ r ∧ Below w.heap.size w w' := by
  have HB := Ac.mk (Below.refl w.heap.size w)
  have H : (Cb.l0 k a0 a1 (([] : List ByteArray)) 0 0) = some r := h
  clear h
  obtain ⟨y156, hy156⟩ : ∃ y_ : List ByteArray, y_ = (([] : List ByteArray)) := ⟨_, rfl⟩
  replace H : (Cb.l0 k a0 a1 y156 0 0) = some r := by first | (rw [hy156]; with_reducible exact H) | (have H2_ := (Option.bind_some _ _).symm.trans H; rw [hy156]; with_reducible exact H2_) | (have H2_ := (Option.bind_some _ _).symm.trans H; with_reducible exact H2_) | with_reducible exact H | (rw [hy156]; exact H) | exact H
  have Ny156 := Ac.mk hy156
  clear hy156
  have H' := Ac.mk H
  clear H
  go_enter Tryd.func43, Tryd.ntmps43
  go_wp2_with (first | ((with_reducible refine Bd (N := 8) rfl ?_); refine Kd.R_lit Kd.string _ 9 ?hg (N := 8) ?hd (xs := ([] : List ByteArray)) (inner := []) (ok := fun _ => True) (okp := fun _ => True) ?hr ?hp (fun _ hk => hk) trivial (Below.refl _ _) (Nat.le_refl _) (by simp) ?_; (case hd => rfl); (case hg => rfl); (case hr => first | (go_simp; done) | (go_simp; rfl)); (case hp => exact (Fh.none _ _)); intro v157 w3 ho4 hb hg_ hnew_; clear hg_ hnew_; (first | rw [← Ny156.out] at ho4 | (simp only [Int.reduceToNat] at ho4; rw [← Ny156.out] at ho4)); have n0_ := Ac.mk (Kd.Gj ho4 (Am (by repeat (first | (with_reducible first | exact HB.out | apply Ad | apply Aa | apply Ae) | exact HB.out)))); have n1_ := Ac.mk (Ap (by repeat (first | (with_reducible first | exact HB.out | apply Ad | apply Aa | apply Ae) | exact HB.out)) hb); clear HB; have HO158 := n0_; have HB := n1_; clear n0_ n1_; clear hb ho4))
  go_loopg [5, 6, 7] k (fun kq v5 v6 v7 w' => ∃ (x5_1 : List ByteArray) (x6_1 : Int) (x7_1 : Int), v6 = .int .i64 x6_1 ∧ v7 = .int .i64 x7_1 ∧ Ac (Cb.l0 kq a0 a1 x5_1 x6_1 x7_1 = some r) ∧ Ac (kq ≤ k) ∧ Ac (Kd.R Kd.string 9 w' w.heap.size (fun _ => True) v5 x5_1) ∧ Ac (Below w.heap.size w w'))
  case atStart => exact ⟨(y156), (0), (0), (by first | rfl | (simp; done) | (simp [*]; done)), (by first | rfl | (simp; done) | (simp [*]; done)), H', ⟨Nat.le_refl _⟩, ⟨by (with_reducible repeat (first | apply Kd.Dw | apply Kd.Dx | apply Kd.Ef)); exact HO158.out⟩, ⟨by repeat (first | (with_reducible first | exact HB.out | apply Ad | apply Aa | apply Ae) | exact HB.out)⟩⟩
  case round =>
    clear H'
    try clear p2
    try clear c4
    obtain ⟨x5_1, x6_1, x7_1, rfl, rfl, HA, HK1, HO_5, HB⟩ := hrel
    cases gk with
    | zero => exact absurd HA.out (by simp [Cb.l0])
    | succ k1 =>
      have H := HA.out
      clear HA
      simp only [Cb.l0] at H
      by_cases c5 : x7_1 < (a0.size : Int)
      · rw [if_pos c5] at H
        have c5b0 : decide (x7_1 < (a0.size : Int)) = true := decide_eq_true c5
        clear c5
        by_cases c6 : 0 ≤ x7_1
        · rw [if_pos c6] at H
          have c6b0 : decide (0 ≤ x7_1) = true := decide_eq_true c6
          clear c6
          by_cases c8 : (bt a0 x7_1) = a1
          · rw [if_pos c8] at H
            have c8b0 : ((bt a0 x7_1) == a1) = true := beq_iff_eq.mpr c8
            have c8b1 : ((bt a0 x7_1) != a1) = false := bne_eq_false_iff_eq.mpr c8
            clear c8
            by_cases c9 : 0 ≤ x6_1
            · rw [if_pos c9] at H
              have c9b0 := eq_true c9
              have c9b1 : decide (0 ≤ x6_1) = true := decide_eq_true c9
              clear c9
              by_cases c10 : x6_1 ≤ x7_1
              · rw [if_pos c10] at H
                have c10b0 := eq_true c10
                have c10b1 : decide (x6_1 ≤ x7_1) = true := decide_eq_true c10
                clear c10
                by_cases c11 : x7_1 ≤ (a0.size : Int)
                · rw [if_pos c11] at H
                  have c11b0 := eq_true c11
                  have c11b1 : decide (x7_1 ≤ (a0.size : Int)) = true := decide_eq_true c11
                  clear c11
                  by_cases c12 : x5_1.length < 8796093022208
                  · rw [if_pos c12] at H
                    have LMc12 := Ac.mk c12
                    clear c12
                    obtain ⟨y159, hy159⟩ : ∃ y_ : List ByteArray, y_ = (x5_1 ++ [a0.extract (x6_1 : Int).toNat (x7_1 : Int).toNat]) := ⟨_, rfl⟩
                    replace H : (Cb.l0 k1 a0 a1 y159 (wrap64 (x7_1 + 1)) (wrap64 (x7_1 + 1))) = some r := by first | (rw [hy159]; with_reducible exact H) | (have H2_ := (Option.bind_some _ _).symm.trans H; rw [hy159]; with_reducible exact H2_) | (have H2_ := (Option.bind_some _ _).symm.trans H; with_reducible exact H2_) | with_reducible exact H | (rw [hy159]; exact H) | exact H
                    have Ny159 := Ac.mk hy159
                    clear hy159
                    have H' := Ac.mk H
                    clear H
                    have p7 : 0 ≤ (x7_1 : Int) := of_decide_eq_true (by first | (with_reducible assumption) | assumption)
                    have q7 : x7_1 < (a0.size : Int) := of_decide_eq_true (by first | (with_reducible assumption) | assumption)
                    have hx7 := bt_at a0 x7_1
                    replace p7 := eq_true p7
                    replace q7 := eq_true q7
                    go_wp2_with (first | ((with_reducible refine Ic (b := .append) (xs := #[.tmp 20, .tmp 25]) rfl ?_); at_builtin; refine Kd.Je Kd.string (w0 := w) w.heap.size rfl (.tmp 20) (.tmp 25) 78 9 (.string ⟨#[]⟩) 16 rfl Tryd.underlying78 info9 rfl (by decide) (by omega) u5 x5_1 (a0.extract (x6_1 : Int).toNat (x7_1 : Int).toNat) [.string (a0.extract (x6_1 : Int).toNat (x7_1 : Int).toNat)] (fun _ => True) (fun _ => False) rfl rfl ?aP (fun _ hk => hk.elim) ?aF ?aO ?aB ?aS ?aL ?_; (case aP => exact rfl); (case aB => exact (by repeat (first | (with_reducible first | exact HB.out | apply Ad | apply Aa | apply Ae) | exact HB.out))); (case aF => exact (fun _ _ => trivial)); (case aO => exact (by (with_reducible repeat (first | apply Kd.Dw | apply Kd.Dx | apply Kd.Ef)); exact HO_5.out)); (case aS => exact (Am (by repeat (first | (with_reducible first | exact HB.out | apply Ad | apply Aa | apply Ae) | exact HB.out)))); (case aL => have := LMc12.out; omega); intro v160 w13 ho hb hg hat; rw [← Ny159.out] at ho; have n0_ := Ac.mk (hb); have n1_ := Ac.mk (ho); clear HB; clear HO_5; have HB := n0_; have HO161 := n1_; clear n0_ n1_; clear ho hb hg hat))
                    go_roundg k1
                    case measure => have := HK1.out; omega
                    case rel => exact ⟨(y159), (wrap64 (x7_1 + 1)), (wrap64 (x7_1 + 1)), (by first | rfl | (simp; done) | (simp [*]; done)), (by first | rfl | (simp; done) | (simp [*]; done)), H', ⟨by have := HK1.out; omega⟩, ⟨by (with_reducible repeat (first | apply Kd.Dw | apply Kd.Dx | apply Kd.Ef)); exact HO161.out⟩, ⟨by repeat (first | (with_reducible first | exact HB.out | apply Ad | apply Aa | apply Ae) | exact HB.out)⟩⟩
                  · rw [if_neg c12] at H
                    exact absurd H (by simp)
                · rw [if_neg c11] at H
                  exact absurd H (by simp)
              · rw [if_neg c10] at H
                exact absurd H (by simp)
            · rw [if_neg c9] at H
              exact absurd H (by simp)
          · rw [if_neg c8] at H
            have c8b0 : ((bt a0 x7_1) == a1) = false := beq_eq_false_iff_ne.mpr c8
            have c8b1 : ((bt a0 x7_1) != a1) = true := bne_iff_ne.mpr c8
            have H' := Ac.mk H
            clear H
            have p7 : 0 ≤ (x7_1 : Int) := of_decide_eq_true (by first | (with_reducible assumption) | assumption)
            have q7 : x7_1 < (a0.size : Int) := of_decide_eq_true (by first | (with_reducible assumption) | assumption)
            have hx7 := bt_at a0 x7_1
            replace p7 := eq_true p7
            replace q7 := eq_true q7
            go_wp2
            go_roundg k1
            case measure => have := HK1.out; omega
            case rel => exact ⟨(x5_1), (x6_1), (wrap64 (x7_1 + 1)), (by first | rfl | (simp; done) | (simp [*]; done)), (by first | rfl | (simp; done) | (simp [*]; done)), H', ⟨by have := HK1.out; omega⟩, ⟨by (with_reducible repeat (first | apply Kd.Dw | apply Kd.Dx | apply Kd.Ef)); exact HO_5.out⟩, ⟨by repeat (first | (with_reducible first | exact HB.out | apply Ad | apply Aa | apply Ae) | exact HB.out)⟩⟩
        · rw [if_neg c6] at H
          exact absurd H (by simp)
      · rw [if_neg c5] at H
        have c5b0 : decide (x7_1 < (a0.size : Int)) = false := decide_eq_false c5
        clear c5
        by_cases c14 : 0 ≤ x6_1
        · rw [if_pos c14] at H
          have c14b0 := eq_true c14
          have c14b1 : decide (0 ≤ x6_1) = true := decide_eq_true c14
          clear c14
          by_cases c15 : x6_1 ≤ (a0.size : Int)
          · rw [if_pos c15] at H
            have c15b0 := eq_true c15
            have c15b1 : decide (x6_1 ≤ (a0.size : Int)) = true := decide_eq_true c15
            clear c15
            by_cases c16 : x5_1.length < 8796093022208
            · rw [if_pos c16] at H
              have LMc16 := Ac.mk c16
              clear c16
              obtain ⟨y162, hy162⟩ : ∃ y_ : List ByteArray, y_ = (x5_1 ++ [a0.extract (x6_1 : Int).toNat a0.size]) := ⟨_, rfl⟩
              replace H : (some y162) = some r := by first | (rw [hy162]; with_reducible exact H) | (have H2_ := (Option.bind_some _ _).symm.trans H; rw [hy162]; with_reducible exact H2_) | (have H2_ := (Option.bind_some _ _).symm.trans H; with_reducible exact H2_) | with_reducible exact H | (rw [hy162]; exact H) | exact H
              have Ny162 := Ac.mk hy162
              clear hy162
              obtain rfl := Option.some.inj H
              go_wp2_with (first | ((with_reducible refine Ic (b := .append) (xs := #[.tmp 29, .tmp 33]) rfl ?_); at_builtin; refine Kd.Je Kd.string (w0 := w) w.heap.size rfl (.tmp 29) (.tmp 33) 78 9 (.string ⟨#[]⟩) 16 rfl Tryd.underlying78 info9 rfl (by decide) (by omega) u5 x5_1 (a0.extract (x6_1 : Int).toNat a0.size) [.string (a0.extract (x6_1 : Int).toNat a0.size)] (fun _ => True) (fun _ => False) rfl rfl ?aP (fun _ hk => hk.elim) ?aF ?aO ?aB ?aS ?aL ?_; (case aP => exact rfl); (case aB => exact (by repeat (first | (with_reducible first | exact HB.out | apply Ad | apply Aa | apply Ae) | exact HB.out))); (case aF => exact (fun _ _ => trivial)); (case aO => exact (by (with_reducible repeat (first | apply Kd.Dw | apply Kd.Dx | apply Kd.Ef)); exact HO_5.out)); (case aS => exact (Am (by repeat (first | (with_reducible first | exact HB.out | apply Ad | apply Aa | apply Ae) | exact HB.out)))); (case aL => have := LMc16.out; omega); intro v163 w17 ho hb hg hat; rw [← Ny162.out] at ho; have n0_ := Ac.mk (hb); have n1_ := Ac.mk (ho); clear HB; clear HO_5; have HB := n0_; have HO164 := n1_; clear n0_ n1_; clear ho hb hg hat))
              go_ret
              exact ⟨_, by first | rfl | (simp [Aq, Au] <;> rfl) | (simp [*, Aq, Au] <;> rfl), by (with_reducible repeat (first | apply Kd.Dw | apply Kd.Dx | apply Kd.Ef)); exact HO164.out, by repeat (first | (with_reducible first | exact HB.out | apply Ad | apply Aa | apply Ae) | exact HB.out)⟩
            · rw [if_neg c16] at H
              exact absurd H (by simp)
          · rw [if_neg c15] at H
            exact absurd H (by simp)
        · rw [if_neg c14] at H
          exact absurd H (by simp)
end Go.Proofs.YtcnmngiaebgjkaaDoor.X

