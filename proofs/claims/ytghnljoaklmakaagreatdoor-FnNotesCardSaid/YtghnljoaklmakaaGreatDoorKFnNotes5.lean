/- The law FnNotes answers true for every input that the row lets in, and leaves its arguments as they were. Conditions: none beyond the row's own. -/
import Derived.Deep.Slices
import Derived.ChangeSame
import Derived.ChangeArms
import Derived.DataReads
import Derived.SizedLaws
import Derived.ProofKit
import Derived.Lib.SmallJoins
import Derived.ChangeOld
import Derived.Below
import Derived.Lib.IndexAny
import Derived.Lib.ItoaNum
import Derived.Lib.ItoaLen
import Derived.Lib.Join
import Derived.Lib.AtoiAll
import Derived.Lib.FieldsP
import Derived.Lib.TrimAscii
import Derived.Lib.TrimUEq
import Derived.Lib.IndexMore
import Derived.Handed
import Derived.HandedShaped
import Derived.Test.YtghnljoaklmakaaGreatDoorProg
import Derived.Test.YtghnljoaklmakaaGreatDoorRows
import Derived.WalkKit
import Derived.OpenShut
import Derived.ShutString
import Derived.Handy
import Derived.Lay
import Derived.SevenTiedAt
import Derived.LaidSub
import Derived.Lib.LaidTab
import Derived.Test.YtghnljoaklmakaaGreatDoorCards
import Derived.Test.YtghnljoaklmakaaGreatDoorTie
import Derived.Test.YtghnljoaklmakaaGreatDoorKFnNotes0
import Derived.Test.YtghnljoaklmakaaGreatDoorKFnNotes1
import Derived.Test.YtghnljoaklmakaaGreatDoorKFnNotes2
import Derived.Test.YtghnljoaklmakaaGreatDoorKFnNotes3
import Derived.Test.YtghnljoaklmakaaGreatDoorKFnNotes4
set_option linter.unusedVariables false
set_option linter.unusedSimpArgs false
namespace Go.Proofs.YtghnljoaklmakaaGreatDoor.X
open Go.RowKit Go.Proofs.YtghnljoaklmakaaGreatDoorW.PrintWords Go.Proofs.YtghnljoaklmakaaGreatDoorW.PrintLast Go.Proofs.YtghnljoaklmakaaGreatDoorW.PrintMore
attribute [local go_sem] Ei Eh Ez Ey D7 D6 Ej Eg
open Go.Proofs.YtghnljoaklmakaaGreatDoorG
def Et.f (k : Nat) (l0 : List Int) : Option (Int × ByteArray × Int × Int) := (F7.f k l0).bind fun bt197 => (some (bt197.1, bt197.2.1, bt197.2.2.1, bt197.2.2.2))
theorem Et.mono : ∀ a0 k, LeO (Et.f k a0) (Et.f (k + 1) a0) := by
 intro a0 k
 unfold Et.f
 repeat' first
   | (with_reducible exact F7.mono _ _)
   | (with_reducible exact LeO.refl _)
   | (with_reducible exact LeO.none _)
   | (with_reducible refine LeO.ite ?_ ?_)
   | (with_reducible refine LeO.bind ?_ (fun _ => ?_))
   | exact F7.mono _ _
   | exact LeO.none _
   | refine LeO.ite ?_ ?_
   | refine LeO.bind ?_ (fun _ => ?_)
set_option maxHeartbeats 8000000 in
set_option maxRecDepth 100000 in
theorem Et.calls (k : Nat) (A0 : Option Addr) (c0 : Nat) (l0 : List Int) (r1 : Int) (r2 : ByteArray) (r3 : Int) (r4 : Int) (w : World) (hr0 : Kd.C (Kd.int .u8) w A0 l0.length l0) (hc0 : l0.length ≤ c0) (h : Et.f k l0 = some (r1, r2, r3, r4)) :
  Calls Tryz.prog 5 #[.slice A0 l0.length c0] w fun e w' => e = .returned (.agg #[.int .i64 r1, .string r2, .int .i64 r3, .int .i64 r4]) ∧ Below w.heap.size w w' := by
 have hu25 := Tryz.underlying25
 have HR0 := Ac.mk hr0
 have HC0 := Ac.mk hc0
 clear hr0 hc0
 have HB := Ac.mk (Below.refl w.heap.size w)
 have H : ((F7.f k l0).bind fun bt197 => (some (bt197.1, bt197.2.1, bt197.2.2.1, bt197.2.2.2))) = some (r1, r2, r3, r4) := h
 clear h
 replace H := Option.bind_eq_some_iff.mp H
 obtain ⟨⟨t197, t198, t199, t200⟩, A20, H⟩ := H
 try dsimp only at H
 have A2 := Ac.mk A20
 clear A20
 simp only [Option.some.injEq, Prod.mk.injEq] at H
 obtain ⟨rfl, rfl, rfl, rfl⟩ := H
 go_enter Tryz.func5, Tryz.ntmps5
 go_wp2_with (first | ((with_reducible refine Dl (N := 2) rfl ?_); refine Dz ?hg (N := 2) ?hd (cs := #[.int .i64 0, .string (⟨#[]⟩ : ByteArray), .int .i64 0, .int .i64 0]) (t := 25) ?hr ?_; (case hd => rfl); (case hg => rfl); (case hr => first | (go_simp; done) | (go_simp; rfl)); intro gb0 hg w3 hbox hb; have n0_ := Ac.mk (Ar Yb_ hb); have n1_ := Ac.mk (hbox); have n2_ := Ac.mk ((by rw [hg]; exact (Ba Yb_) : w.heap.size ≤ gb0)); have n3_ := Ac.mk ((by rw [hg]; exact (Ba Yb_) : w.heap.size ≤ gb0)); clear HB; have HB := n0_; have BK0 := n1_; have GW0 := n2_; have GE0 := n3_; clear n0_ n1_ n2_ n3_; clear hb hbox hg) | ((with_reducible refine Ap (f := 19) rfl ?_); refine Bj (some 4) rfl rfl Tryz.func19 (by kernel_rfl) rfl #[.slice A0 l0.length c0] rfl Ya_ ?_; (with_reducible refine (F7.calls k _ _ l0 t197 t198 t199 t200 _ ?side1 ?side2 A2.out).mono ?_); (case side1 => repeat (first | exact (Kd.C_below HR0.out HB.out) | (with_reducible refine Kd.F5 ?_ _) | (with_reducible refine Kd.F6 ?_ _) | (with_reducible refine Kd.Gj ?_))); (case side2 => exact HC0.out); rintro e w4 ⟨rfl, hb⟩; refine ⟨_, rfl, ?_⟩; have n0_ := Ac.mk (Bi (g := gb0) (o := .cells #[.int .i64 0, .string (⟨#[]⟩ : ByteArray), .int .i64 0, .int .i64 0] 25 (0, 0)) Yd_ hb); have n1_ := Ac.mk (Ar Yc_ hb); clear BK0; clear HB; have BK0 := n0_; have HB := n1_; clear n0_ n1_; (try clear hb); (try clear hb2); (try clear hk); (try clear hi); have hcz5_0 : w4.cell? ⟨gb0, 0, none⟩ = some (.int .i64 0) := (Ak BK0.out 0).trans rfl; have hcz5_1 : w4.cell? ⟨gb0, 1, none⟩ = some (.string (⟨#[]⟩ : ByteArray)) := (Ak BK0.out 1).trans rfl; have hcz5_2 : w4.cell? ⟨gb0, 2, none⟩ = some (.int .i64 0) := (Ak BK0.out 2).trans rfl; have hcz5_3 : w4.cell? ⟨gb0, 3, none⟩ = some (.int .i64 0) := (Ak BK0.out 3).trans rfl; have hfz5_0 := Ai BK0.out 0; have hfz5_1 := Ai BK0.out 1; have hfz5_2 := Ai BK0.out 2; have hfz5_3 := Ai BK0.out 3))
 refine bodyPost_ret (results_cell_row rfl _ _ gb0 25 #[.int .i64 t197, .string t198, .int .i64 t199, .int .i64 t200] (0, 0) _ rfl (by (with_reducible repeat (first | refine Ag ?_ _ | refine Ah ?_ | refine Af ?_ _)); refine Be (cs := #[.int .i64 t197, .string t198, .int .i64 t199, .int .i64 0]) ?_ 3 _ rfl; (with_reducible repeat (first | refine Ag ?_ _ | refine Ah ?_ | refine Af ?_ _)); refine Be (cs := #[.int .i64 t197, .string t198, .int .i64 0, .int .i64 0]) ?_ 2 _ rfl; (with_reducible repeat (first | refine Ag ?_ _ | refine Ah ?_ | refine Af ?_ _)); refine Be (cs := #[.int .i64 t197, .string (⟨#[]⟩ : ByteArray), .int .i64 0, .int .i64 0]) ?_ 1 _ rfl; (with_reducible repeat (first | refine Ag ?_ _ | refine Ah ?_ | refine Af ?_ _)); refine Be (cs := #[.int .i64 0, .string (⟨#[]⟩ : ByteArray), .int .i64 0, .int .i64 0]) ?_ 0 _ rfl; (with_reducible repeat (first | refine Ag ?_ _ | refine Ah ?_ | refine Af ?_ _)); exact BK0.out) Tryz.underlying25 rfl (by kernel_rfl)) rfl ?_
 exact ⟨by first | rfl | (simp [Au, Aw] <;> rfl) | (simp [*, Au, Aw] <;> rfl), by repeat (first | (with_reducible first | exact HB.out | apply Ae | apply Aa | apply Ad | refine Am ?_ GE0.out) | exact HB.out)⟩
def Fg.f (k : Nat) (a0_0 : Int) (a0_1 : ByteArray) (a0_2 : Int) (a0_3 : Int) : Option (ByteArray × Bool) := (Di.f k a0_0 a0_1 a0_2 a0_3).bind fun t250 => (if t250 = true then ((Dp.f k a0_0 a0_1 a0_2 a0_3).bind fun t251 => (some (t251, true))) else (some ((⟨#[]⟩ : ByteArray), false)))
theorem Fg.mono : ∀ a0 a1 a2 a3 k, LeO (Fg.f k a0 a1 a2 a3) (Fg.f (k + 1) a0 a1 a2 a3) := by
 intro a0 a1 a2 a3 k
 unfold Fg.f
 repeat' first
   | (with_reducible exact Di.mono _ _ _ _ _)
   | (with_reducible exact Dp.mono _ _ _ _ _)
   | (with_reducible exact LeO.refl _)
   | (with_reducible exact LeO.none _)
   | (with_reducible refine LeO.ite ?_ ?_)
   | (with_reducible refine LeO.bind ?_ (fun _ => ?_))
   | exact Di.mono _ _ _ _ _
   | exact Dp.mono _ _ _ _ _
   | exact LeO.none _
   | refine LeO.ite ?_ ?_
   | refine LeO.bind ?_ (fun _ => ?_)
set_option maxHeartbeats 8000000 in
set_option maxRecDepth 100000 in
theorem Fg.calls (k : Nat) (a0_0 : Int) (a0_1 : ByteArray) (a0_2 : Int) (a0_3 : Int) (r1 : ByteArray) (r2 : Bool) (w : World) (hG : Fp w) (h : Fg.f k a0_0 a0_1 a0_2 a0_3 = some (r1, r2)) :
  Calls Tryz.prog 6 #[.agg #[.int .i64 a0_0, .string a0_1, .int .i64 a0_2, .int .i64 a0_3]] w fun e w' => e = .returned (.tuple #[.string r1, .bool r2]) ∧ Below w.heap.size w w' := by
 have hu25 := Tryz.underlying25
 have HGL := Ac.mk hG
 clear hG
 have HB := Ac.mk (Below.refl w.heap.size w)
 have H : ((Di.f k a0_0 a0_1 a0_2 a0_3).bind fun t250 => (if t250 = true then ((Dp.f k a0_0 a0_1 a0_2 a0_3).bind fun t251 => (some (t251, true))) else (some ((⟨#[]⟩ : ByteArray), false)))) = some (r1, r2) := h
 clear h
 replace H := Option.bind_eq_some_iff.mp H
 obtain ⟨t250, A20, H⟩ := H
 try dsimp only at H
 have A2 := Ac.mk A20
 clear A20
 by_cases c3 : t250 = true
 ·subst c3
  have H1 : ((Dp.f k a0_0 a0_1 a0_2 a0_3).bind fun t251 => (some (t251, true))) = some (r1, r2) := by rw [if_pos rfl] at H; exact H
  clear H
  have H := H1
  clear H1
  replace H := Option.bind_eq_some_iff.mp H
  obtain ⟨t251, A40, H⟩ := H
  try dsimp only at H
  have A4 := Ac.mk A40
  clear A40
  simp only [Option.some.injEq, Prod.mk.injEq] at H
  obtain ⟨rfl, rfl⟩ := H
  go_enter Tryz.func6, Tryz.ntmps6
  go_wp2_with (first | ((with_reducible refine Dl (N := 1) rfl ?_); refine Dz ?hg (N := 1) ?hd (cs := #[.int .i64 a0_0, .string a0_1, .int .i64 a0_2, .int .i64 a0_3]) (t := 25) ?hr ?_; (case hd => rfl); (case hg => rfl); (case hr => first | (go_simp; done) | (go_simp; rfl)); intro gb0 hg w5 hbox hb; have n0_ := Ac.mk (Ar Yb_ hb); have n1_ := Ac.mk (hbox); have n2_ := Ac.mk ((by rw [hg]; exact (Ba Yb_) : w.heap.size ≤ gb0)); have n3_ := Ac.mk ((by rw [hg]; exact (Ba Yb_) : w.heap.size ≤ gb0)); clear HB; have HB := n0_; have BK0 := n1_; have GW0 := n2_; have GE0 := n3_; clear n0_ n1_ n2_ n3_; clear hb hbox hg; have hcz6_0 : w5.cell? ⟨gb0, 0, none⟩ = some (.int .i64 a0_0) := (Ak BK0.out 0).trans rfl; have hcz6_1 : w5.cell? ⟨gb0, 1, none⟩ = some (.string a0_1) := (Ak BK0.out 1).trans rfl; have hcz6_2 : w5.cell? ⟨gb0, 2, none⟩ = some (.int .i64 a0_2) := (Ak BK0.out 2).trans rfl; have hcz6_3 : w5.cell? ⟨gb0, 3, none⟩ = some (.int .i64 a0_3) := (Ak BK0.out 3).trans rfl; have hfz6_0 := Ai BK0.out 0; have hfz6_1 := Ai BK0.out 1; have hfz6_2 := Ai BK0.out 2; have hfz6_3 := Ai BK0.out 3) | ((with_reducible refine Ap (f := 8) rfl ?_); refine Bj (some 5) rfl rfl Tryz.func8 (by kernel_rfl) rfl #[.agg #[.int .i64 a0_0, .string a0_1, .int .i64 a0_2, .int .i64 a0_3]] rfl Ya_ ?_; (with_reducible refine (Di.calls k a0_0 a0_1 a0_2 a0_3 true _ A2.out).mono ?_); rintro e w7 ⟨rfl, hb⟩; refine ⟨_, rfl, ?_⟩; have n0_ := Ac.mk (Bi (g := gb0) (o := .cells #[.int .i64 a0_0, .string a0_1, .int .i64 a0_2, .int .i64 a0_3] 25 (0, 0)) Yd_ hb); have n1_ := Ac.mk (Ar Yc_ hb); clear BK0; clear HB; have BK0 := n0_; have HB := n1_; clear n0_ n1_; (try clear hb); (try clear hb2); (try clear hk); (try clear hi); have hcz8_0 : w7.cell? ⟨gb0, 0, none⟩ = some (.int .i64 a0_0) := (Ak BK0.out 0).trans rfl; have hcz8_1 : w7.cell? ⟨gb0, 1, none⟩ = some (.string a0_1) := (Ak BK0.out 1).trans rfl; have hcz8_2 : w7.cell? ⟨gb0, 2, none⟩ = some (.int .i64 a0_2) := (Ak BK0.out 2).trans rfl; have hcz8_3 : w7.cell? ⟨gb0, 3, none⟩ = some (.int .i64 a0_3) := (Ak BK0.out 3).trans rfl; have hfz8_0 := Ai BK0.out 0; have hfz8_1 := Ai BK0.out 1; have hfz8_2 := Ai BK0.out 2; have hfz8_3 := Ai BK0.out 3) | ((with_reducible refine Ap (f := 20) rfl ?_); refine Bj (some 8) rfl rfl Tryz.func20 (by kernel_rfl) rfl #[.agg #[.int .i64 a0_0, .string a0_1, .int .i64 a0_2, .int .i64 a0_3]] rfl Ya_ ?_; (with_reducible refine (Dp.calls k a0_0 a0_1 a0_2 a0_3 t251 _ ?side1 A4.out).mono ?_); (case side1 => exact Fp.below HGL.out Yc_); rintro e w9 ⟨rfl, hb⟩; refine ⟨_, rfl, ?_⟩; have n0_ := Ac.mk (Bi (g := gb0) (o := .cells #[.int .i64 a0_0, .string a0_1, .int .i64 a0_2, .int .i64 a0_3] 25 (0, 0)) Yd_ hb); have n1_ := Ac.mk (Ar Yc_ hb); clear BK0; clear HB; have BK0 := n0_; have HB := n1_; clear n0_ n1_; (try clear hb); (try clear hb2); (try clear hk); (try clear hi)))
  go_ret2
  exact ⟨by first | rfl | (simp [Au, Aw] <;> rfl) | (simp [*, Au, Aw] <;> rfl), by repeat (first | (with_reducible first | exact HB.out | apply Ae | apply Aa | apply Ad | refine Am ?_ GE0.out) | exact HB.out)⟩
 ·replace c3 := Bool.eq_false_iff.mpr c3
  subst c3
  have H1 : (some ((⟨#[]⟩ : ByteArray), false)) = some (r1, r2) := by rw [if_neg (show ¬ (false = true) by decide)] at H; exact H
  clear H
  have H := H1
  clear H1
  simp only [Option.some.injEq, Prod.mk.injEq] at H
  obtain ⟨rfl, rfl⟩ := H
  go_enter Tryz.func6, Tryz.ntmps6
  go_wp2_with (first | ((with_reducible refine Dl (N := 1) rfl ?_); refine Dz ?hg (N := 1) ?hd (cs := #[.int .i64 a0_0, .string a0_1, .int .i64 a0_2, .int .i64 a0_3]) (t := 25) ?hr ?_; (case hd => rfl); (case hg => rfl); (case hr => first | (go_simp; done) | (go_simp; rfl)); intro gb0 hg w10 hbox hb; have n0_ := Ac.mk (Ar Yb_ hb); have n1_ := Ac.mk (hbox); have n2_ := Ac.mk ((by rw [hg]; exact (Ba Yb_) : w.heap.size ≤ gb0)); have n3_ := Ac.mk ((by rw [hg]; exact (Ba Yb_) : w.heap.size ≤ gb0)); clear HB; have HB := n0_; have BK0 := n1_; have GW0 := n2_; have GE0 := n3_; clear n0_ n1_ n2_ n3_; clear hb hbox hg; have hcz11_0 : w10.cell? ⟨gb0, 0, none⟩ = some (.int .i64 a0_0) := (Ak BK0.out 0).trans rfl; have hcz11_1 : w10.cell? ⟨gb0, 1, none⟩ = some (.string a0_1) := (Ak BK0.out 1).trans rfl; have hcz11_2 : w10.cell? ⟨gb0, 2, none⟩ = some (.int .i64 a0_2) := (Ak BK0.out 2).trans rfl; have hcz11_3 : w10.cell? ⟨gb0, 3, none⟩ = some (.int .i64 a0_3) := (Ak BK0.out 3).trans rfl; have hfz11_0 := Ai BK0.out 0; have hfz11_1 := Ai BK0.out 1; have hfz11_2 := Ai BK0.out 2; have hfz11_3 := Ai BK0.out 3) | ((with_reducible refine Ap (f := 8) rfl ?_); refine Bj (some 5) rfl rfl Tryz.func8 (by kernel_rfl) rfl #[.agg #[.int .i64 a0_0, .string a0_1, .int .i64 a0_2, .int .i64 a0_3]] rfl Ya_ ?_; (with_reducible refine (Di.calls k a0_0 a0_1 a0_2 a0_3 false _ A2.out).mono ?_); rintro e w12 ⟨rfl, hb⟩; refine ⟨_, rfl, ?_⟩; have n0_ := Ac.mk (Bi (g := gb0) (o := .cells #[.int .i64 a0_0, .string a0_1, .int .i64 a0_2, .int .i64 a0_3] 25 (0, 0)) Yd_ hb); have n1_ := Ac.mk (Ar Yc_ hb); clear BK0; clear HB; have BK0 := n0_; have HB := n1_; clear n0_ n1_; (try clear hb); (try clear hb2); (try clear hk); (try clear hi)))
  go_ret2
  exact ⟨by first | rfl | (simp [Au, Aw] <;> rfl) | (simp [*, Au, Aw] <;> rfl), by repeat (first | (with_reducible first | exact HB.out | apply Ae | apply Aa | apply Ad | refine Am ?_ GE0.out) | exact HB.out)⟩
end Go.Proofs.YtghnljoaklmakaaGreatDoor.X

namespace Go.Proofs.YtghnljoaklmakaaGreatDoor.X
open Go.RowKit Go.Proofs.YtghnljoaklmakaaGreatDoorW.PrintWords Go.Proofs.YtghnljoaklmakaaGreatDoorW.PrintLast Go.Proofs.YtghnljoaklmakaaGreatDoorW.PrintMore
attribute [local go_sem] Ei Eh Ez Ey D7 D6 Ej Eg
open Go.Proofs.YtghnljoaklmakaaGreatDoorG
attribute [local go_sem high] eqA25
mutual
def Bd.j0 : Nat → List Int → ByteArray → Bool → Bool → Int → ByteArray → Int → Int → Option (Bool)
 | 0, _, _, _, _, _, _, _, _ => none
 | k + 1, x0, x4, x5, x54, x556000, x556001, x556002, x556003 => if x54 = true then (some false) else ((Bc.f k x4).bind fun bt561 => (if x5 = true then (if bt561.2.2.2.2 = true then (Bd.j1 k x0 (!(bt561.1 == x556000) || (!(bt561.2.1.toList == x556001.toList) || (!(bt561.2.2.1 == x556002) || (!(bt561.2.2.2.1 == x556003)))))) else (Bd.j1 k x0 true)) else (Bd.j1 k x0 false)))
def Bd.j1 : Nat → List Int → Bool → Option (Bool)
 | 0, _, _ => none
 | k + 1, x0, x69 => if x69 = true then (some false) else ((Df.f k x0).bind fun t567 => ((Bc.f k t567).bind fun bt568 => ((Aq.f k t567).bind fun bt574 => (if (!(bt568.1 == bt574.1) || (!(bt568.2.1.toList == bt574.2.1.toList) || (!(bt568.2.2.1 == bt574.2.2.1) || (!(bt568.2.2.2.1 == bt574.2.2.2.1))))) = true then (Bd.j2 k x0 true) else (Bd.j2 k x0 (bt568.2.2.2.2 != bt574.2.2.2.2))))))
def Bd.j2 : Nat → List Int → Bool → Option (Bool)
 | 0, _, _ => none
 | k + 1, x0, x89 => if x89 = true then (some false) else ((Eu.f k x0).bind fun t580 => ((Dq.f k t580).bind fun bt583 => ((Cf.f k t580).bind fun bt585 => (if bt583.1.toList = bt585.1.toList then (Bd.j3 k x0 t580 bt583.1 bt583.2 (bt583.2 != bt585.2)) else (Bd.j3 k x0 t580 bt583.1 bt583.2 true)))))
def Bd.j3 : Nat → List Int → List (S25) → ByteArray → Bool → Bool → Option (Bool)
 | 0, _, _, _, _, _ => none
 | k + 1, x0, x15, x16, x17, x109 => if x109 = true then (some false) else (if x17 = true then ((Ci.f k x16).bind fun bt587 => (if bt587.2 = true then ((D8.f k bt587.1 x15).bind fun t591 => (if t591 = true then (Bd.j4 k x0) else (some false))) else (some false))) else (Bd.j4 k x0))
def Bd.j4 : Nat → List Int → Option (Bool)
 | 0, _ => none
 | k + 1, x0 => (Es.f k x0).bind fun t592 => ((Ci.f k t592).bind fun bt593 => ((Bl.f k t592).bind fun bt597 => (if (bt593.2 == bt597.2) = true then ((D8.f k bt593.1 bt597.1).bind fun t601 => (some t601)) else (some false))))
end
def Bd.f (k : Nat) (l0 : List Int) : Option (Bool) := (Ip.f l0).bind fun t550 => (if t550 = true then (some true) else ((Et.f k l0).bind fun bt551 => ((Fg.f k bt551.1 bt551.2.1 bt551.2.2.1 bt551.2.2.2).bind fun bt556 => ((Ep.f k bt551.1 bt551.2.1 bt551.2.2.1 bt551.2.2.2).bind fun bt558 => (if bt556.1.toList = bt558.1.toList then (if (bt556.2 != bt558.2) = true then (Bd.j0 k l0 bt556.1 bt556.2 true bt551.1 bt551.2.1 bt551.2.2.1 bt551.2.2.2) else ((Di.f k bt551.1 bt551.2.1 bt551.2.2.1 bt551.2.2.2).bind fun t560 => (Bd.j0 k l0 bt556.1 bt556.2 (bt556.2 != t560) bt551.1 bt551.2.1 bt551.2.2.1 bt551.2.2.2))) else (Bd.j0 k l0 bt556.1 bt556.2 true bt551.1 bt551.2.1 bt551.2.2.1 bt551.2.2.2))))))
theorem Bd.Fa : ∀ k, (∀ y0 y1 y2 y3 y4 y5 y6 y7, LeO (Bd.j0 k y0 y1 y2 y3 y4 y5 y6 y7) (Bd.j0 (k + 1) y0 y1 y2 y3 y4 y5 y6 y7)) ∧ (∀ y0 y1, LeO (Bd.j1 k y0 y1) (Bd.j1 (k + 1) y0 y1)) ∧ (∀ y0 y1, LeO (Bd.j2 k y0 y1) (Bd.j2 (k + 1) y0 y1)) ∧ (∀ y0 y1 y2 y3 y4, LeO (Bd.j3 k y0 y1 y2 y3 y4) (Bd.j3 (k + 1) y0 y1 y2 y3 y4)) ∧ (∀ y0, LeO (Bd.j4 k y0) (Bd.j4 (k + 1) y0))
 | 0 => ⟨fun _ _ _ _ _ _ _ _ r h => by simp [Bd.j0] at h, fun _ _ r h => by simp [Bd.j1] at h, fun _ _ r h => by simp [Bd.j2] at h, fun _ _ _ _ _ r h => by simp [Bd.j3] at h, fun _ r h => by simp [Bd.j4] at h⟩
 | k + 1 => by
  obtain ⟨ih0, ih1, ih2, ih3, ih4⟩ := Bd.Fa k
  refine ⟨?_, ?_, ?_, ?_, ?_⟩
  ·intro y0 y1 y2 y3 y4 y5 y6 y7
   unfold Bd.j0
   repeat' first
   | (with_reducible exact ih0 _ _ _ _ _ _ _ _)
   | (with_reducible exact ih1 _ _)
   | (with_reducible exact ih2 _ _)
   | (with_reducible exact ih3 _ _ _ _ _)
   | (with_reducible exact ih4 _)
   | (with_reducible exact Di.mono _ _ _ _ _)
   | (with_reducible exact Fg.mono _ _ _ _ _)
   | (with_reducible exact Bc.mono _ _)
   | (with_reducible exact Ci.mono _ _)
   | (with_reducible exact Dq.mono _ _)
   | (with_reducible exact D8.mono _ _ _)
   | (with_reducible exact Et.mono _ _)
   | (with_reducible exact Df.mono _ _)
   | (with_reducible exact Es.mono _ _)
   | (with_reducible exact Eu.mono _ _)
   | (with_reducible exact Ep.mono _ _ _ _ _)
   | (with_reducible exact Aq.mono _ _)
   | (with_reducible exact Bl.mono _ _)
   | (with_reducible exact Cf.mono _ _)
   | (with_reducible exact LeO.refl _)
   | (with_reducible exact LeO.none _)
   | (with_reducible refine LeO.ite ?_ ?_)
   | (with_reducible refine LeO.bind ?_ (fun _ => ?_))
   | exact ih0 _ _ _ _ _ _ _ _
   | exact ih1 _ _
   | exact ih2 _ _
   | exact ih3 _ _ _ _ _
   | exact ih4 _
   | exact Di.mono _ _ _ _ _
   | exact Fg.mono _ _ _ _ _
   | exact Bc.mono _ _
   | exact Ci.mono _ _
   | exact Dq.mono _ _
   | exact D8.mono _ _ _
   | exact Et.mono _ _
   | exact Df.mono _ _
   | exact Es.mono _ _
   | exact Eu.mono _ _
   | exact Ep.mono _ _ _ _ _
   | exact Aq.mono _ _
   | exact Bl.mono _ _
   | exact Cf.mono _ _
   | exact LeO.none _
   | refine LeO.ite ?_ ?_
   | refine LeO.bind ?_ (fun _ => ?_)
  ·intro y0 y1
   unfold Bd.j1
   repeat' first
   | (with_reducible exact ih0 _ _ _ _ _ _ _ _)
   | (with_reducible exact ih1 _ _)
   | (with_reducible exact ih2 _ _)
   | (with_reducible exact ih3 _ _ _ _ _)
   | (with_reducible exact ih4 _)
   | (with_reducible exact Di.mono _ _ _ _ _)
   | (with_reducible exact Fg.mono _ _ _ _ _)
   | (with_reducible exact Bc.mono _ _)
   | (with_reducible exact Ci.mono _ _)
   | (with_reducible exact Dq.mono _ _)
   | (with_reducible exact D8.mono _ _ _)
   | (with_reducible exact Et.mono _ _)
   | (with_reducible exact Df.mono _ _)
   | (with_reducible exact Es.mono _ _)
   | (with_reducible exact Eu.mono _ _)
   | (with_reducible exact Ep.mono _ _ _ _ _)
   | (with_reducible exact Aq.mono _ _)
   | (with_reducible exact Bl.mono _ _)
   | (with_reducible exact Cf.mono _ _)
   | (with_reducible exact LeO.refl _)
   | (with_reducible exact LeO.none _)
   | (with_reducible refine LeO.ite ?_ ?_)
   | (with_reducible refine LeO.bind ?_ (fun _ => ?_))
   | exact ih0 _ _ _ _ _ _ _ _
   | exact ih1 _ _
   | exact ih2 _ _
   | exact ih3 _ _ _ _ _
   | exact ih4 _
   | exact Di.mono _ _ _ _ _
   | exact Fg.mono _ _ _ _ _
   | exact Bc.mono _ _
   | exact Ci.mono _ _
   | exact Dq.mono _ _
   | exact D8.mono _ _ _
   | exact Et.mono _ _
   | exact Df.mono _ _
   | exact Es.mono _ _
   | exact Eu.mono _ _
   | exact Ep.mono _ _ _ _ _
   | exact Aq.mono _ _
   | exact Bl.mono _ _
   | exact Cf.mono _ _
   | exact LeO.none _
   | refine LeO.ite ?_ ?_
   | refine LeO.bind ?_ (fun _ => ?_)
  ·intro y0 y1
   unfold Bd.j2
   repeat' first
   | (with_reducible exact ih0 _ _ _ _ _ _ _ _)
   | (with_reducible exact ih1 _ _)
   | (with_reducible exact ih2 _ _)
   | (with_reducible exact ih3 _ _ _ _ _)
   | (with_reducible exact ih4 _)
   | (with_reducible exact Di.mono _ _ _ _ _)
   | (with_reducible exact Fg.mono _ _ _ _ _)
   | (with_reducible exact Bc.mono _ _)
   | (with_reducible exact Ci.mono _ _)
   | (with_reducible exact Dq.mono _ _)
   | (with_reducible exact D8.mono _ _ _)
   | (with_reducible exact Et.mono _ _)
   | (with_reducible exact Df.mono _ _)
   | (with_reducible exact Es.mono _ _)
   | (with_reducible exact Eu.mono _ _)
   | (with_reducible exact Ep.mono _ _ _ _ _)
   | (with_reducible exact Aq.mono _ _)
   | (with_reducible exact Bl.mono _ _)
   | (with_reducible exact Cf.mono _ _)
   | (with_reducible exact LeO.refl _)
   | (with_reducible exact LeO.none _)
   | (with_reducible refine LeO.ite ?_ ?_)
   | (with_reducible refine LeO.bind ?_ (fun _ => ?_))
   | exact ih0 _ _ _ _ _ _ _ _
   | exact ih1 _ _
   | exact ih2 _ _
   | exact ih3 _ _ _ _ _
   | exact ih4 _
   | exact Di.mono _ _ _ _ _
   | exact Fg.mono _ _ _ _ _
   | exact Bc.mono _ _
   | exact Ci.mono _ _
   | exact Dq.mono _ _
   | exact D8.mono _ _ _
   | exact Et.mono _ _
   | exact Df.mono _ _
   | exact Es.mono _ _
   | exact Eu.mono _ _
   | exact Ep.mono _ _ _ _ _
   | exact Aq.mono _ _
   | exact Bl.mono _ _
   | exact Cf.mono _ _
   | exact LeO.none _
   | refine LeO.ite ?_ ?_
   | refine LeO.bind ?_ (fun _ => ?_)
  ·intro y0 y1 y2 y3 y4
   unfold Bd.j3
   repeat' first
   | (with_reducible exact ih0 _ _ _ _ _ _ _ _)
   | (with_reducible exact ih1 _ _)
   | (with_reducible exact ih2 _ _)
   | (with_reducible exact ih3 _ _ _ _ _)
   | (with_reducible exact ih4 _)
   | (with_reducible exact Di.mono _ _ _ _ _)
   | (with_reducible exact Fg.mono _ _ _ _ _)
   | (with_reducible exact Bc.mono _ _)
   | (with_reducible exact Ci.mono _ _)
   | (with_reducible exact Dq.mono _ _)
   | (with_reducible exact D8.mono _ _ _)
   | (with_reducible exact Et.mono _ _)
   | (with_reducible exact Df.mono _ _)
   | (with_reducible exact Es.mono _ _)
   | (with_reducible exact Eu.mono _ _)
   | (with_reducible exact Ep.mono _ _ _ _ _)
   | (with_reducible exact Aq.mono _ _)
   | (with_reducible exact Bl.mono _ _)
   | (with_reducible exact Cf.mono _ _)
   | (with_reducible exact LeO.refl _)
   | (with_reducible exact LeO.none _)
   | (with_reducible refine LeO.ite ?_ ?_)
   | (with_reducible refine LeO.bind ?_ (fun _ => ?_))
   | exact ih0 _ _ _ _ _ _ _ _
   | exact ih1 _ _
   | exact ih2 _ _
   | exact ih3 _ _ _ _ _
   | exact ih4 _
   | exact Di.mono _ _ _ _ _
   | exact Fg.mono _ _ _ _ _
   | exact Bc.mono _ _
   | exact Ci.mono _ _
   | exact Dq.mono _ _
   | exact D8.mono _ _ _
   | exact Et.mono _ _
   | exact Df.mono _ _
   | exact Es.mono _ _
   | exact Eu.mono _ _
   | exact Ep.mono _ _ _ _ _
   | exact Aq.mono _ _
   | exact Bl.mono _ _
   | exact Cf.mono _ _
   | exact LeO.none _
   | refine LeO.ite ?_ ?_
   | refine LeO.bind ?_ (fun _ => ?_)
  ·intro y0
   unfold Bd.j4
   repeat' first
   | (with_reducible exact ih0 _ _ _ _ _ _ _ _)
   | (with_reducible exact ih1 _ _)
   | (with_reducible exact ih2 _ _)
   | (with_reducible exact ih3 _ _ _ _ _)
   | (with_reducible exact ih4 _)
   | (with_reducible exact Di.mono _ _ _ _ _)
   | (with_reducible exact Fg.mono _ _ _ _ _)
   | (with_reducible exact Bc.mono _ _)
   | (with_reducible exact Ci.mono _ _)
   | (with_reducible exact Dq.mono _ _)
   | (with_reducible exact D8.mono _ _ _)
   | (with_reducible exact Et.mono _ _)
   | (with_reducible exact Df.mono _ _)
   | (with_reducible exact Es.mono _ _)
   | (with_reducible exact Eu.mono _ _)
   | (with_reducible exact Ep.mono _ _ _ _ _)
   | (with_reducible exact Aq.mono _ _)
   | (with_reducible exact Bl.mono _ _)
   | (with_reducible exact Cf.mono _ _)
   | (with_reducible exact LeO.refl _)
   | (with_reducible exact LeO.none _)
   | (with_reducible refine LeO.ite ?_ ?_)
   | (with_reducible refine LeO.bind ?_ (fun _ => ?_))
   | exact ih0 _ _ _ _ _ _ _ _
   | exact ih1 _ _
   | exact ih2 _ _
   | exact ih3 _ _ _ _ _
   | exact ih4 _
   | exact Di.mono _ _ _ _ _
   | exact Fg.mono _ _ _ _ _
   | exact Bc.mono _ _
   | exact Ci.mono _ _
   | exact Dq.mono _ _
   | exact D8.mono _ _ _
   | exact Et.mono _ _
   | exact Df.mono _ _
   | exact Es.mono _ _
   | exact Eu.mono _ _
   | exact Ep.mono _ _ _ _ _
   | exact Aq.mono _ _
   | exact Bl.mono _ _
   | exact Cf.mono _ _
   | exact LeO.none _
   | refine LeO.ite ?_ ?_
   | refine LeO.bind ?_ (fun _ => ?_)
theorem Bd.mono : ∀ a0 k, LeO (Bd.f k a0) (Bd.f (k + 1) a0) := by
 intro a0 k
 obtain ⟨ih0, ih1, ih2, ih3, ih4⟩ := Bd.Fa k
 unfold Bd.f
 repeat' first
   | (with_reducible exact ih0 _ _ _ _ _ _ _ _)
   | (with_reducible exact ih1 _ _)
   | (with_reducible exact ih2 _ _)
   | (with_reducible exact ih3 _ _ _ _ _)
   | (with_reducible exact ih4 _)
   | (with_reducible exact Di.mono _ _ _ _ _)
   | (with_reducible exact Fg.mono _ _ _ _ _)
   | (with_reducible exact Bc.mono _ _)
   | (with_reducible exact Ci.mono _ _)
   | (with_reducible exact Dq.mono _ _)
   | (with_reducible exact D8.mono _ _ _)
   | (with_reducible exact Et.mono _ _)
   | (with_reducible exact Df.mono _ _)
   | (with_reducible exact Es.mono _ _)
   | (with_reducible exact Eu.mono _ _)
   | (with_reducible exact Ep.mono _ _ _ _ _)
   | (with_reducible exact Aq.mono _ _)
   | (with_reducible exact Bl.mono _ _)
   | (with_reducible exact Cf.mono _ _)
   | (with_reducible exact LeO.refl _)
   | (with_reducible exact LeO.none _)
   | (with_reducible refine LeO.ite ?_ ?_)
   | (with_reducible refine LeO.bind ?_ (fun _ => ?_))
   | exact ih0 _ _ _ _ _ _ _ _
   | exact ih1 _ _
   | exact ih2 _ _
   | exact ih3 _ _ _ _ _
   | exact ih4 _
   | exact Di.mono _ _ _ _ _
   | exact Fg.mono _ _ _ _ _
   | exact Bc.mono _ _
   | exact Ci.mono _ _
   | exact Dq.mono _ _
   | exact D8.mono _ _ _
   | exact Et.mono _ _
   | exact Df.mono _ _
   | exact Es.mono _ _
   | exact Eu.mono _ _
   | exact Ep.mono _ _ _ _ _
   | exact Aq.mono _ _
   | exact Bl.mono _ _
   | exact Cf.mono _ _
   | exact LeO.none _
   | refine LeO.ite ?_ ?_
   | refine LeO.bind ?_ (fun _ => ?_)
set_option maxHeartbeats 8000000 in
set_option maxRecDepth 100000 in
theorem Bd.calls (k : Nat) (A0 : Option Addr) (c0 : Nat) (l0 : List Int) (r : Bool) (w : World) (hr0 : Kd.C (Kd.int .u8) w A0 l0.length l0) (hc0 : l0.length ≤ c0) (hG : Fp w) (h : Bd.f k l0 = some r) (hr_ : r = true) :
  Calls Tryz.prog 3 #[.slice A0 l0.length c0] w fun e w' => e = .returned (.bool r) ∧ Below w.heap.size w w' := by
 have HR_ := Ac.mk hr_
 clear hr_
 have hu25 := Tryz.underlying25
 have HGL := Ac.mk hG
 clear hG
 have HR0 := Ac.mk hr0
 have HC0 := Ac.mk hc0
 clear hr0 hc0
 have HB := Ac.mk (Below.refl w.heap.size w)
 have H : ((Ip.f l0).bind fun t550 => (if t550 = true then (some true) else ((Et.f k l0).bind fun bt551 => ((Fg.f k bt551.1 bt551.2.1 bt551.2.2.1 bt551.2.2.2).bind fun bt556 => ((Ep.f k bt551.1 bt551.2.1 bt551.2.2.1 bt551.2.2.2).bind fun bt558 => (if bt556.1.toList = bt558.1.toList then (if (bt556.2 != bt558.2) = true then (Bd.j0 k l0 bt556.1 bt556.2 true bt551.1 bt551.2.1 bt551.2.2.1 bt551.2.2.2) else ((Di.f k bt551.1 bt551.2.1 bt551.2.2.1 bt551.2.2.2).bind fun t560 => (Bd.j0 k l0 bt556.1 bt556.2 (bt556.2 != t560) bt551.1 bt551.2.1 bt551.2.2.1 bt551.2.2.2))) else (Bd.j0 k l0 bt556.1 bt556.2 true bt551.1 bt551.2.1 bt551.2.2.1 bt551.2.2.2))))))) = some r := h
 clear h
 replace H := Option.bind_eq_some_iff.mp H
 obtain ⟨t550, A20, H⟩ := H
 try dsimp only at H
 have A2 := Ac.mk A20
 clear A20
 by_cases c3 : t550 = true
 ·subst c3
  have H1 : (some true) = some r := by rw [if_pos rfl] at H; exact H
  clear H
  have H := H1
  clear H1
  obtain rfl := Option.some.inj H
  go_enter Tryz.func3, Tryz.ntmps3
  go_wp2_with (first | ((with_reducible refine Ap (f := 4) rfl ?_); refine Bj (some 28) rfl rfl Tryz.func4 (by kernel_rfl) rfl #[.slice A0 l0.length c0] rfl Ya_ ?_; (with_reducible refine (Ip.calls _ _ l0 true _ ?side1 ?side2 A2.out).mono ?_); (case side1 => repeat (first | exact HR0.out | (with_reducible refine Kd.F5 ?_ _) | (with_reducible refine Kd.F6 ?_ _) | (with_reducible refine Kd.Gj ?_))); (case side2 => exact HC0.out); rintro e w' ⟨rfl, ⟨nd, rfl⟩⟩; refine ⟨_, rfl, ?_⟩))
  go_ret
  exact ⟨by first | rfl | (simp [Au, Aw] <;> rfl) | (simp [*, Au, Aw] <;> rfl), by repeat (first | (with_reducible first | exact HB.out | apply Ae | apply Aa | apply Ad) | exact HB.out)⟩
 ·replace c3 := Bool.eq_false_iff.mpr c3
  subst c3
  have H1 : ((Et.f k l0).bind fun bt551 => ((Fg.f k bt551.1 bt551.2.1 bt551.2.2.1 bt551.2.2.2).bind fun bt556 => ((Ep.f k bt551.1 bt551.2.1 bt551.2.2.1 bt551.2.2.2).bind fun bt558 => (if bt556.1.toList = bt558.1.toList then (if (bt556.2 != bt558.2) = true then (Bd.j0 k l0 bt556.1 bt556.2 true bt551.1 bt551.2.1 bt551.2.2.1 bt551.2.2.2) else ((Di.f k bt551.1 bt551.2.1 bt551.2.2.1 bt551.2.2.2).bind fun t560 => (Bd.j0 k l0 bt556.1 bt556.2 (bt556.2 != t560) bt551.1 bt551.2.1 bt551.2.2.1 bt551.2.2.2))) else (Bd.j0 k l0 bt556.1 bt556.2 true bt551.1 bt551.2.1 bt551.2.2.1 bt551.2.2.2))))) = some r := by rw [if_neg (show ¬ (false = true) by decide)] at H; exact H
  clear H
  have H := H1
  clear H1
  replace H := Option.bind_eq_some_iff.mp H
  obtain ⟨⟨t551, t552, t553, t554⟩, A40, H⟩ := H
  try dsimp only at H
  have A4 := Ac.mk A40
  clear A40
  replace H := Option.bind_eq_some_iff.mp H
  obtain ⟨⟨t556, t557⟩, A50, H⟩ := H
  try dsimp only at H
  have A5 := Ac.mk A50
  clear A50
  replace H := Option.bind_eq_some_iff.mp H
  obtain ⟨⟨t558, t559⟩, A60, H⟩ := H
  try dsimp only at H
  have A6 := Ac.mk A60
  clear A60
  have HC7 := Ac.mk H
  clear H
  go_enter Tryz.func3, Tryz.ntmps3
  go_upto_region 6 with (first | ((with_reducible refine Ap (f := 4) rfl ?_); refine Bj (some 28) rfl rfl Tryz.func4 (by kernel_rfl) rfl #[.slice A0 l0.length c0] rfl Ya_ ?_; (with_reducible refine (Ip.calls _ _ l0 false _ ?side1 ?side2 A2.out).mono ?_); (case side1 => repeat (first | exact HR0.out | (with_reducible refine Kd.F5 ?_ _) | (with_reducible refine Kd.F6 ?_ _) | (with_reducible refine Kd.Gj ?_))); (case side2 => exact HC0.out); rintro e w' ⟨rfl, ⟨nd, rfl⟩⟩; refine ⟨_, rfl, ?_⟩) | ((with_reducible refine Ap (f := 5) rfl ?_); refine Bj (some 30) rfl rfl Tryz.func5 (by kernel_rfl) rfl #[.slice A0 l0.length c0] rfl Ya_ ?_; (with_reducible refine (Et.calls k _ _ l0 t551 t552 t553 t554 _ ?side1 ?side2 A4.out).mono ?_); (case side1 => repeat (first | exact HR0.out | (with_reducible refine Kd.F5 ?_ _) | (with_reducible refine Kd.F6 ?_ _) | (with_reducible refine Kd.Gj ?_))); (case side2 => exact HC0.out); rintro e w8 ⟨rfl, hb⟩; refine ⟨_, rfl, ?_⟩; have n0_ := Ac.mk (Ar Yb_ hb); clear HB; have HB := n0_; clear n0_; (try clear hb); (try clear hb2); (try clear hk); (try clear hi)) | ((with_reducible refine Dl (N := 3) rfl ?_); refine Dz ?hg (N := 3) ?hd (cs := #[.int .i64 0, .string (⟨#[]⟩ : ByteArray), .int .i64 0, .int .i64 0]) (t := 25) ?hr ?_; (case hd => rfl); (case hg => rfl); (case hr => first | (go_simp; done) | (go_simp; rfl)); intro gb0 hg w9 hbox hb; have n0_ := Ac.mk (Ar Yb_ hb); have n1_ := Ac.mk (hbox); have n2_ := Ac.mk ((by rw [hg]; exact (Ba Yb_) : w.heap.size ≤ gb0)); have n3_ := Ac.mk ((by rw [hg]; exact (Ba Yb_) : w.heap.size ≤ gb0)); clear HB; have HB := n0_; have BK0 := n1_; have GW0 := n2_; have GE0 := n3_; clear n0_ n1_ n2_ n3_; clear hb hbox hg; have hcz10_0 : w9.cell? ⟨gb0, 0, none⟩ = some (.int .i64 0) := (Ak BK0.out 0).trans rfl; have hcz10_1 : w9.cell? ⟨gb0, 1, none⟩ = some (.string (⟨#[]⟩ : ByteArray)) := (Ak BK0.out 1).trans rfl; have hcz10_2 : w9.cell? ⟨gb0, 2, none⟩ = some (.int .i64 0) := (Ak BK0.out 2).trans rfl; have hcz10_3 : w9.cell? ⟨gb0, 3, none⟩ = some (.int .i64 0) := (Ak BK0.out 3).trans rfl; have hfz10_0 := Ai BK0.out 0; have hfz10_1 := Ai BK0.out 1; have hfz10_2 := Ai BK0.out 2; have hfz10_3 := Ai BK0.out 3) | ((with_reducible refine Ap (f := 6) rfl ?_); refine Bj (some 33) rfl rfl Tryz.func6 (by kernel_rfl) rfl #[.agg #[.int .i64 t551, .string t552, .int .i64 t553, .int .i64 t554]] rfl Ya_ ?_; (with_reducible refine (Fg.calls k t551 t552 t553 t554 t556 t557 _ ?side1 A5.out).mono ?_); (case side1 => exact Fp.below HGL.out Yc_); rintro e w11 ⟨rfl, hb⟩; refine ⟨_, rfl, ?_⟩; have n0_ := Ac.mk (Bi (g := gb0) (o := .cells #[.int .i64 t551, .string t552, .int .i64 t553, .int .i64 t554] 25 (0, 0)) (by (with_reducible repeat (first | refine Ag ?_ _ | refine Ah ?_ | refine Af ?_ _)); refine Be (cs := #[.int .i64 t551, .string t552, .int .i64 t553, .int .i64 0]) ?_ 3 _ rfl; (with_reducible repeat (first | refine Ag ?_ _ | refine Ah ?_ | refine Af ?_ _)); refine Be (cs := #[.int .i64 t551, .string t552, .int .i64 0, .int .i64 0]) ?_ 2 _ rfl; (with_reducible repeat (first | refine Ag ?_ _ | refine Ah ?_ | refine Af ?_ _)); refine Be (cs := #[.int .i64 t551, .string (⟨#[]⟩ : ByteArray), .int .i64 0, .int .i64 0]) ?_ 1 _ rfl; (with_reducible repeat (first | refine Ag ?_ _ | refine Ah ?_ | refine Af ?_ _)); refine Be (cs := #[.int .i64 0, .string (⟨#[]⟩ : ByteArray), .int .i64 0, .int .i64 0]) ?_ 0 _ rfl; (with_reducible repeat (first | refine Ag ?_ _ | refine Ah ?_ | refine Af ?_ _)); exact BK0.out) hb); have n1_ := Ac.mk (Ar Yc_ hb); clear BK0; clear HB; have BK0 := n0_; have HB := n1_; clear n0_ n1_; (try clear hb); (try clear hb2); (try clear hk); (try clear hi); have hcz12_0 : w11.cell? ⟨gb0, 0, none⟩ = some (.int .i64 t551) := (Ak BK0.out 0).trans rfl; have hcz12_1 : w11.cell? ⟨gb0, 1, none⟩ = some (.string t552) := (Ak BK0.out 1).trans rfl; have hcz12_2 : w11.cell? ⟨gb0, 2, none⟩ = some (.int .i64 t553) := (Ak BK0.out 2).trans rfl; have hcz12_3 : w11.cell? ⟨gb0, 3, none⟩ = some (.int .i64 t554) := (Ak BK0.out 3).trans rfl; have hfz12_0 := Ai BK0.out 0; have hfz12_1 := Ai BK0.out 1; have hfz12_2 := Ai BK0.out 2; have hfz12_3 := Ai BK0.out 3) | ((with_reducible refine Ap (f := 7) rfl ?_); refine Bj (some 38) rfl rfl Tryz.func7 (by kernel_rfl) rfl #[.agg #[.int .i64 t551, .string t552, .int .i64 t553, .int .i64 t554]] rfl Ya_ ?_; (with_reducible refine (Ep.calls k t551 t552 t553 t554 t558 t559 _ A6.out).mono ?_); rintro e w13 ⟨rfl, hb⟩; refine ⟨_, rfl, ?_⟩; have n0_ := Ac.mk (Bi (g := gb0) (o := .cells #[.int .i64 t551, .string t552, .int .i64 t553, .int .i64 t554] 25 (0, 0)) Yd_ hb); have n1_ := Ac.mk (Ar Yc_ hb); clear BK0; clear HB; have BK0 := n0_; have HB := n1_; clear n0_ n1_; (try clear hb); (try clear hb2); (try clear hk); (try clear hi)))
  (try simp only [Act.put, List.setIfInBounds_toArray, List.set_cons_zero, List.set_cons_succ])
  go_cut [54] (fun v54 wc => ∃ (kq : Nat) (x54_6 : Bool), v54 = .bool x54_6 ∧ Ac (Bd.j0 kq l0 t556 t557 x54_6 t551 t552 t553 t554 = some r) ∧ Ac (kq ≤ k) ∧ Ac (wc.heap[gb0]? = some (.cells #[.int .i64 t551, .string t552, .int .i64 t553, .int .i64 t554] 25 (0, 0))) ∧ Ac (Below w.heap.size w wc))
  case first =>
   have H := HC7.out
   clear HC7
   by_cases c14 : t556.toList = t558.toList
   ·rw [if_pos c14] at H
    have c14b0 : (t556.toList == t558.toList) = true := beq_iff_eq.mpr c14
    have c14b1 : (t556.toList != t558.toList) = false := bne_eq_false_iff_eq.mpr c14
    clear c14
    (first | rw [c14b0] | (simp only [Dw, Dy]; rw [c14b0]) | skip)
    by_cases c15 : (t557 != t559) = true
    ·rw [if_pos c15] at H
     have c15b0 : (t557 != t559) = true := c15
     (try (have c15b1 : decide (t557 = t559) = false := by simpa using c15))
     (try (have c15b2 : (t557 == t559) = false := by simpa using c15))
     (try (have c15b3 : ¬ (t557 = t559) := by simpa using c15))
     clear c15
     have H' := Ac.mk H
     clear H
     go_wp2
     go_meet
     case rel => exact ⟨_, (true), Yf_, H', ⟨by first | omega | exact Nat.le_refl _⟩, ⟨by (with_reducible repeat (first | refine Ag ?_ _ | refine Ah ?_ | refine Af ?_ _)); exact BK0.out⟩, ⟨by repeat (first | (with_reducible first | exact HB.out | apply Ae | apply Aa | apply Ad | refine Am ?_ GE0.out) | exact HB.out)⟩⟩
    ·rw [if_neg c15] at H
     have c15b0 : (t557 != t559) = false := by simpa using c15
     (try (have c15b1 : decide (t557 = t559) = true := by simpa using c15))
     (try (have c15b2 : (t557 == t559) = true := by simpa using c15))
     clear c15
     replace H := Option.bind_eq_some_iff.mp H
     obtain ⟨t560, A160, H⟩ := H
     try dsimp only at H
     have A16 := Ac.mk A160
     clear A160
     have H' := Ac.mk H
     clear H
     have hcz17_0 : w13.cell? ⟨gb0, 0, none⟩ = some (.int .i64 t551) := (Ak BK0.out 0).trans rfl
     have hcz17_1 : w13.cell? ⟨gb0, 1, none⟩ = some (.string t552) := (Ak BK0.out 1).trans rfl
     have hcz17_2 : w13.cell? ⟨gb0, 2, none⟩ = some (.int .i64 t553) := (Ak BK0.out 2).trans rfl
     have hcz17_3 : w13.cell? ⟨gb0, 3, none⟩ = some (.int .i64 t554) := (Ak BK0.out 3).trans rfl
     have hfz17_0 := Ai BK0.out 0
     have hfz17_1 := Ai BK0.out 1
     have hfz17_2 := Ai BK0.out 2
     have hfz17_3 := Ai BK0.out 3
     go_wp2_with (first | (go_at_call 8; (with_reducible refine (Di.calls k t551 t552 t553 t554 t560 _ A16.out).mono ?_); rintro e w18 ⟨rfl, hb⟩; have n0_ := Ac.mk (Bi (g := gb0) (o := .cells #[.int .i64 t551, .string t552, .int .i64 t553, .int .i64 t554] 25 (0, 0)) Yd_ hb); have n1_ := Ac.mk (Ar Yc_ hb); clear BK0; clear HB; have BK0 := n0_; have HB := n1_; clear n0_ n1_; (try clear hb); (try clear hb2); (try clear hk); (try clear hi)))
     go_meet
     case rel => exact ⟨_, ((t557 != t560)), Yf_, H', ⟨by first | omega | exact Nat.le_refl _⟩, ⟨by (with_reducible repeat (first | refine Ag ?_ _ | refine Ah ?_ | refine Af ?_ _)); exact BK0.out⟩, ⟨by repeat (first | (with_reducible first | exact HB.out | apply Ae | apply Aa | apply Ad | refine Am ?_ GE0.out) | exact HB.out)⟩⟩
   ·rw [if_neg c14] at H
    have c14b0 : (t556.toList == t558.toList) = false := beq_eq_false_iff_ne.mpr c14
    have c14b1 : (t556.toList != t558.toList) = true := bne_iff_ne.mpr c14
    (first | rw [c14b0] | (simp only [Dw, Dy]; rw [c14b0]) | skip)
    have H' := Ac.mk H
    clear H
    go_wp2
    go_meet
    case rel => exact ⟨_, (true), Yf_, H', ⟨by first | omega | exact Nat.le_refl _⟩, ⟨by (with_reducible repeat (first | refine Ag ?_ _ | refine Ah ?_ | refine Af ?_ _)); exact BK0.out⟩, ⟨by repeat (first | (with_reducible first | exact HB.out | apply Ae | apply Aa | apply Ad | refine Am ?_ GE0.out) | exact HB.out)⟩⟩
  case rest =>
   clear HC7
   try clear c1; try clear p2; try clear c3; try clear c4; try clear c5; try clear c6; try clear c7; try clear c14; try clear c14b0; try clear c14b1; try clear c15; try clear c15b0; try clear c15b1; try clear c15b2; try clear hcz10_0; try clear hcz10_1; try clear hcz10_2; try clear hcz10_3; try clear hcz12_0; try clear hcz12_1; try clear hcz12_2; try clear hcz12_3; try clear hcz17_0; try clear hcz17_1; try clear hcz17_2; try clear hcz17_3; try clear hfz10_0; try clear hfz10_1; try clear hfz10_2; try clear hfz10_3; try clear hfz12_0; try clear hfz12_1; try clear hfz12_2; try clear hfz12_3; try clear hfz17_0; try clear hfz17_1; try clear hfz17_2; try clear hfz17_3
   obtain ⟨kq, x54_6, rfl, HA, HJ6, BK0, HB⟩ := hcut
   cases kq with
   | zero => exact absurd HA.out (by simp [Bd.j0])
   | succ kj6 =>
    have H := HA.out
    clear HA
    simp only [Bd.j0] at H
    by_cases c19 : x54_6 = true
    ·subst c19
     have H1 : (some false) = some r := by rw [if_pos rfl] at H; exact H
     clear H
     have H := H1
     clear H1
     exact absurd (Option.some.inj H) (by rw [HR_.out]; decide)
    ·replace c19 := Bool.eq_false_iff.mpr c19
     subst c19
     have H1 : ((Bc.f kj6 t556).bind fun bt561 => (if t557 = true then (if bt561.2.2.2.2 = true then (Bd.j1 kj6 l0 (!(bt561.1 == t551) || (!(bt561.2.1.toList == t552.toList) || (!(bt561.2.2.1 == t553) || (!(bt561.2.2.2.1 == t554)))))) else (Bd.j1 kj6 l0 true)) else (Bd.j1 kj6 l0 false))) = some r := by rw [if_neg (show ¬ (false = true) by decide)] at H; exact H
     clear H
     have H := H1
     clear H1
     replace H := Option.bind_eq_some_iff.mp H
     obtain ⟨⟨t561, t562, t563, t564, t565⟩, A200, H⟩ := H
     try dsimp only at H
     have A20 := Ac.mk A200
     clear A200
     have HC21 := Ac.mk H
     clear H
     go_upto_region 9 with (first | ((with_reducible refine Ap (f := 9) rfl ?_); refine Bj (some 57) rfl rfl Tryz.func9 (by kernel_rfl) rfl #[.string t556] rfl Ya_ ?_; (with_reducible refine (Bc.calls kj6 t556 t561 t562 t563 t564 t565 _ ?side1 A20.out).mono ?_); (case side1 => exact Fp.below HGL.out Yc_); rintro e w22 ⟨rfl, hb⟩; refine ⟨_, rfl, ?_⟩; have n0_ := Ac.mk (Bi (g := gb0) (o := .cells #[.int .i64 t551, .string t552, .int .i64 t553, .int .i64 t554] 25 (0, 0)) Yd_ hb); have n1_ := Ac.mk (Ar Yc_ hb); clear BK0; clear HB; have BK0 := n0_; have HB := n1_; clear n0_ n1_; (try clear hb); (try clear hb2); (try clear hk); (try clear hi)) | ((with_reducible refine Dl (N := 8) rfl ?_); refine Dz ?hg (N := 8) ?hd (cs := #[.int .i64 0, .string (⟨#[]⟩ : ByteArray), .int .i64 0, .int .i64 0]) (t := 25) ?hr ?_; (case hd => rfl); (case hg => rfl); (case hr => first | (go_simp; done) | (go_simp; rfl)); intro gb1 hg w23 hbox hb; have n0_ := Ac.mk (Bi (g := gb0) (o := .cells #[.int .i64 t551, .string t552, .int .i64 t553, .int .i64 t554] 25 (0, 0)) Yd_ hb); have n1_ := Ac.mk (Ar Yc_ hb); have n2_ := Ac.mk (hbox); have n3_ := Ac.mk ((by rw [hg]; exact (Ba Yc_) : w.heap.size ≤ gb1)); have n4_ := Ac.mk ((by rw [hg]; exact (Ba Yc_) : w.heap.size ≤ gb1)); have n5_ := Ac.mk ((by rw [hg]; exact Nat.ne_of_lt (Gl (g := gb0) (o := .cells #[.int .i64 t551, .string t552, .int .i64 t553, .int .i64 t554] 25 (0, 0)) Yd_) : gb0 ≠ gb1)); have n6_ := Ac.mk ((by rw [hg]; exact Nat.ne_of_gt (Gl (g := gb0) (o := .cells #[.int .i64 t551, .string t552, .int .i64 t553, .int .i64 t554] 25 (0, 0)) Yd_) : gb1 ≠ gb0)); clear BK0; clear HB; have BK0 := n0_; have HB := n1_; have BK1 := n2_; have GW1 := n3_; have GE1 := n4_; have NB0_1 := n5_; have NB1_0 := n6_; clear n0_ n1_ n2_ n3_ n4_ n5_ n6_; clear hb hbox hg; have hnb24 := NB1_0.out; have hnc24 := NB0_1.out; have hcz25_0 : w23.cell? ⟨gb1, 0, none⟩ = some (.int .i64 0) := (Ak BK1.out 0).trans rfl; have hcz25_1 : w23.cell? ⟨gb1, 1, none⟩ = some (.string (⟨#[]⟩ : ByteArray)) := (Ak BK1.out 1).trans rfl; have hcz25_2 : w23.cell? ⟨gb1, 2, none⟩ = some (.int .i64 0) := (Ak BK1.out 2).trans rfl; have hcz25_3 : w23.cell? ⟨gb1, 3, none⟩ = some (.int .i64 0) := (Ak BK1.out 3).trans rfl; have hfz25_0 := Ai BK1.out 0; have hfz25_1 := Ai BK1.out 1; have hfz25_2 := Ai BK1.out 2; have hfz25_3 := Ai BK1.out 3))
     (try simp only [Act.put, List.setIfInBounds_toArray, List.set_cons_zero, List.set_cons_succ])
     go_cut [69] (fun v69 wc => ∃ (kq : Nat) (x69_20 : Bool), v69 = .bool x69_20 ∧ Ac (Bd.j1 kq l0 x69_20 = some r) ∧ Ac (kq ≤ kj6) ∧ Ac (wc.heap[gb0]? = some (.cells #[.int .i64 t551, .string t552, .int .i64 t553, .int .i64 t554] 25 (0, 0))) ∧ Ac (wc.heap[gb1]? = some (.cells #[.int .i64 t561, .string t562, .int .i64 t563, .int .i64 t564] 25 (0, 0))) ∧ Ac (Below w.heap.size w wc))
     case first =>
      have H := HC21.out
      clear HC21
      by_cases c26 : t557 = true
      ·subst c26
       have H1 : (if t565 = true then (Bd.j1 kj6 l0 (!(t561 == t551) || (!(t562.toList == t552.toList) || (!(t563 == t553) || (!(t564 == t554)))))) else (Bd.j1 kj6 l0 true)) = some r := by rw [if_pos rfl] at H; exact H
       clear H
       have H := H1
       clear H1
       by_cases c27 : t565 = true
       ·subst c27
        have H1 : (Bd.j1 kj6 l0 (!(t561 == t551) || (!(t562.toList == t552.toList) || (!(t563 == t553) || (!(t564 == t554)))))) = some r := by rw [if_pos rfl] at H; exact H
        clear H
        have H := H1
        clear H1
        have H' := Ac.mk H
        clear H
        have hnb28 := NB1_0.out
        have hnc28 := NB0_1.out
        have hcz29_0 : w23.cell? ⟨gb1, 0, none⟩ = some (.int .i64 0) := (Ak BK1.out 0).trans rfl
        have hcz29_1 : w23.cell? ⟨gb1, 1, none⟩ = some (.string (⟨#[]⟩ : ByteArray)) := (Ak BK1.out 1).trans rfl
        have hcz29_2 : w23.cell? ⟨gb1, 2, none⟩ = some (.int .i64 0) := (Ak BK1.out 2).trans rfl
        have hcz29_3 : w23.cell? ⟨gb1, 3, none⟩ = some (.int .i64 0) := (Ak BK1.out 3).trans rfl
        have hfz29_0 := Ai BK1.out 0
        have hfz29_1 := Ai BK1.out 1
        have hfz29_2 := Ai BK1.out 2
        have hfz29_3 := Ai BK1.out 3
        have hcz30_0 : w23.cell? ⟨gb0, 0, none⟩ = some (.int .i64 t551) := (Ak BK0.out 0).trans rfl
        have hcz30_1 : w23.cell? ⟨gb0, 1, none⟩ = some (.string t552) := (Ak BK0.out 1).trans rfl
        have hcz30_2 : w23.cell? ⟨gb0, 2, none⟩ = some (.int .i64 t553) := (Ak BK0.out 2).trans rfl
        have hcz30_3 : w23.cell? ⟨gb0, 3, none⟩ = some (.int .i64 t554) := (Ak BK0.out 3).trans rfl
        have hfz30_0 := Ai BK0.out 0
        have hfz30_1 := Ai BK0.out 1
        have hfz30_2 := Ai BK0.out 2
        have hfz30_3 := Ai BK0.out 3
        go_wp2
        go_meet
        case rel => exact ⟨_, ((!(t561 == t551) || (!(t562.toList == t552.toList) || (!(t563 == t553) || (!(t564 == t554)))))), Yf_, H', ⟨by have := HJ6.out; first | omega | exact Nat.le_refl _⟩, ⟨by (with_reducible repeat (first | refine Ag ?_ _ | refine Ah ?_ | refine Af ?_ _)); refine Bo ?_ NB0_1.out _; (with_reducible repeat (first | refine Ag ?_ _ | refine Ah ?_ | refine Af ?_ _)); refine Bo ?_ NB0_1.out _; (with_reducible repeat (first | refine Ag ?_ _ | refine Ah ?_ | refine Af ?_ _)); refine Bo ?_ NB0_1.out _; (with_reducible repeat (first | refine Ag ?_ _ | refine Ah ?_ | refine Af ?_ _)); refine Bo ?_ NB0_1.out _; (with_reducible repeat (first | refine Ag ?_ _ | refine Ah ?_ | refine Af ?_ _)); exact BK0.out⟩, ⟨by (with_reducible repeat (first | refine Ag ?_ _ | refine Ah ?_ | refine Af ?_ _)); refine Be (cs := #[.int .i64 t561, .string t562, .int .i64 t563, .int .i64 0]) ?_ 3 _ rfl; (with_reducible repeat (first | refine Ag ?_ _ | refine Ah ?_ | refine Af ?_ _)); refine Be (cs := #[.int .i64 t561, .string t562, .int .i64 0, .int .i64 0]) ?_ 2 _ rfl; (with_reducible repeat (first | refine Ag ?_ _ | refine Ah ?_ | refine Af ?_ _)); refine Be (cs := #[.int .i64 t561, .string (⟨#[]⟩ : ByteArray), .int .i64 0, .int .i64 0]) ?_ 1 _ rfl; (with_reducible repeat (first | refine Ag ?_ _ | refine Ah ?_ | refine Af ?_ _)); refine Be (cs := #[.int .i64 0, .string (⟨#[]⟩ : ByteArray), .int .i64 0, .int .i64 0]) ?_ 0 _ rfl; (with_reducible repeat (first | refine Ag ?_ _ | refine Ah ?_ | refine Af ?_ _)); exact BK1.out⟩, ⟨by repeat (first | (with_reducible first | exact HB.out | apply Ae | apply Aa | apply Ad | refine Am ?_ GE0.out | refine Am ?_ GE1.out) | exact HB.out)⟩⟩
       ·replace c27 := Bool.eq_false_iff.mpr c27
        subst c27
        have H1 : (Bd.j1 kj6 l0 true) = some r := by rw [if_neg (show ¬ (false = true) by decide)] at H; exact H
        clear H
        have H := H1
        clear H1
        have H' := Ac.mk H
        clear H
        go_wp2
        go_meet
        case rel => exact ⟨_, (true), Yf_, H', ⟨by have := HJ6.out; first | omega | exact Nat.le_refl _⟩, ⟨by (with_reducible repeat (first | refine Ag ?_ _ | refine Ah ?_ | refine Af ?_ _)); refine Bo ?_ NB0_1.out _; (with_reducible repeat (first | refine Ag ?_ _ | refine Ah ?_ | refine Af ?_ _)); refine Bo ?_ NB0_1.out _; (with_reducible repeat (first | refine Ag ?_ _ | refine Ah ?_ | refine Af ?_ _)); refine Bo ?_ NB0_1.out _; (with_reducible repeat (first | refine Ag ?_ _ | refine Ah ?_ | refine Af ?_ _)); refine Bo ?_ NB0_1.out _; (with_reducible repeat (first | refine Ag ?_ _ | refine Ah ?_ | refine Af ?_ _)); exact BK0.out⟩, ⟨by (with_reducible repeat (first | refine Ag ?_ _ | refine Ah ?_ | refine Af ?_ _)); refine Be (cs := #[.int .i64 t561, .string t562, .int .i64 t563, .int .i64 0]) ?_ 3 _ rfl; (with_reducible repeat (first | refine Ag ?_ _ | refine Ah ?_ | refine Af ?_ _)); refine Be (cs := #[.int .i64 t561, .string t562, .int .i64 0, .int .i64 0]) ?_ 2 _ rfl; (with_reducible repeat (first | refine Ag ?_ _ | refine Ah ?_ | refine Af ?_ _)); refine Be (cs := #[.int .i64 t561, .string (⟨#[]⟩ : ByteArray), .int .i64 0, .int .i64 0]) ?_ 1 _ rfl; (with_reducible repeat (first | refine Ag ?_ _ | refine Ah ?_ | refine Af ?_ _)); refine Be (cs := #[.int .i64 0, .string (⟨#[]⟩ : ByteArray), .int .i64 0, .int .i64 0]) ?_ 0 _ rfl; (with_reducible repeat (first | refine Ag ?_ _ | refine Ah ?_ | refine Af ?_ _)); exact BK1.out⟩, ⟨by repeat (first | (with_reducible first | exact HB.out | apply Ae | apply Aa | apply Ad | refine Am ?_ GE0.out | refine Am ?_ GE1.out) | exact HB.out)⟩⟩
      ·replace c26 := Bool.eq_false_iff.mpr c26
       subst c26
       have H1 : (Bd.j1 kj6 l0 false) = some r := by rw [if_neg (show ¬ (false = true) by decide)] at H; exact H
       clear H
       have H := H1
       clear H1
       have H' := Ac.mk H
       clear H
       go_wp2
       go_meet
       case rel => exact ⟨_, (false), Yf_, H', ⟨by have := HJ6.out; first | omega | exact Nat.le_refl _⟩, ⟨by (with_reducible repeat (first | refine Ag ?_ _ | refine Ah ?_ | refine Af ?_ _)); refine Bo ?_ NB0_1.out _; (with_reducible repeat (first | refine Ag ?_ _ | refine Ah ?_ | refine Af ?_ _)); refine Bo ?_ NB0_1.out _; (with_reducible repeat (first | refine Ag ?_ _ | refine Ah ?_ | refine Af ?_ _)); refine Bo ?_ NB0_1.out _; (with_reducible repeat (first | refine Ag ?_ _ | refine Ah ?_ | refine Af ?_ _)); refine Bo ?_ NB0_1.out _; (with_reducible repeat (first | refine Ag ?_ _ | refine Ah ?_ | refine Af ?_ _)); exact BK0.out⟩, ⟨by (with_reducible repeat (first | refine Ag ?_ _ | refine Ah ?_ | refine Af ?_ _)); refine Be (cs := #[.int .i64 t561, .string t562, .int .i64 t563, .int .i64 0]) ?_ 3 _ rfl; (with_reducible repeat (first | refine Ag ?_ _ | refine Ah ?_ | refine Af ?_ _)); refine Be (cs := #[.int .i64 t561, .string t562, .int .i64 0, .int .i64 0]) ?_ 2 _ rfl; (with_reducible repeat (first | refine Ag ?_ _ | refine Ah ?_ | refine Af ?_ _)); refine Be (cs := #[.int .i64 t561, .string (⟨#[]⟩ : ByteArray), .int .i64 0, .int .i64 0]) ?_ 1 _ rfl; (with_reducible repeat (first | refine Ag ?_ _ | refine Ah ?_ | refine Af ?_ _)); refine Be (cs := #[.int .i64 0, .string (⟨#[]⟩ : ByteArray), .int .i64 0, .int .i64 0]) ?_ 0 _ rfl; (with_reducible repeat (first | refine Ag ?_ _ | refine Ah ?_ | refine Af ?_ _)); exact BK1.out⟩, ⟨by repeat (first | (with_reducible first | exact HB.out | apply Ae | apply Aa | apply Ad | refine Am ?_ GE0.out | refine Am ?_ GE1.out) | exact HB.out)⟩⟩
     case rest =>
      clear HC21
      try clear c1; try clear c2; try clear p2; try clear c3; try clear c4; try clear c5; try clear c6; try clear c7; try clear c9; try clear c14; try clear c14b0; try clear c14b1; try clear c15; try clear c15b0; try clear c15b1; try clear c15b2; try clear c19; try clear c24; try clear c26; try clear c27; try clear c28; try clear hcz10_0; try clear hcz10_1; try clear hcz10_2; try clear hcz10_3; try clear hcz12_0; try clear hcz12_1; try clear hcz12_2; try clear hcz12_3; try clear hcz17_0; try clear hcz17_1; try clear hcz17_2; try clear hcz17_3; try clear hcz25_0; try clear hcz25_1; try clear hcz25_2; try clear hcz25_3; try clear hcz29_0; try clear hcz29_1; try clear hcz29_2; try clear hcz29_3; try clear hcz30_0; try clear hcz30_1; try clear hcz30_2; try clear hcz30_3; try clear hfz10_0; try clear hfz10_1; try clear hfz10_2; try clear hfz10_3; try clear hfz12_0; try clear hfz12_1; try clear hfz12_2; try clear hfz12_3; try clear hfz17_0; try clear hfz17_1; try clear hfz17_2; try clear hfz17_3; try clear hfz25_0; try clear hfz25_1; try clear hfz25_2; try clear hfz25_3; try clear hfz29_0; try clear hfz29_1; try clear hfz29_2; try clear hfz29_3; try clear hfz30_0; try clear hfz30_1; try clear hfz30_2; try clear hfz30_3; try clear p2
      obtain ⟨kq, x69_20, rfl, HA, HJ20, BK0, BK1, HB⟩ := hcut
      cases kq with
      | zero => exact absurd HA.out (by simp [Bd.j1])
      | succ kj20 =>
       have H := HA.out
       clear HA
       simp only [Bd.j1] at H
       by_cases c31 : x69_20 = true
       ·subst c31
        have H1 : (some false) = some r := by rw [if_pos rfl] at H; exact H
        clear H
        have H := H1
        clear H1
        exact absurd (Option.some.inj H) (by rw [HR_.out]; decide)
       ·replace c31 := Bool.eq_false_iff.mpr c31
        subst c31
        have H1 : ((Df.f kj20 l0).bind fun t567 => ((Bc.f kj20 t567).bind fun bt568 => ((Aq.f kj20 t567).bind fun bt574 => (if (!(bt568.1 == bt574.1) || (!(bt568.2.1.toList == bt574.2.1.toList) || (!(bt568.2.2.1 == bt574.2.2.1) || (!(bt568.2.2.2.1 == bt574.2.2.2.1))))) = true then (Bd.j2 kj20 l0 true) else (Bd.j2 kj20 l0 (bt568.2.2.2.2 != bt574.2.2.2.2)))))) = some r := by rw [if_neg (show ¬ (false = true) by decide)] at H; exact H
        clear H
        have H := H1
        clear H1
        replace H := Option.bind_eq_some_iff.mp H
        obtain ⟨t567, A320, H⟩ := H
        try dsimp only at H
        have A32 := Ac.mk A320
        clear A320
        replace H := Option.bind_eq_some_iff.mp H
        obtain ⟨⟨t568, t569, t570, t571, t572⟩, A330, H⟩ := H
        try dsimp only at H
        have A33 := Ac.mk A330
        clear A330
        replace H := Option.bind_eq_some_iff.mp H
        obtain ⟨⟨t574, t575, t576, t577, t578⟩, A340, H⟩ := H
        try dsimp only at H
        have A34 := Ac.mk A340
        clear A340
        have HC35 := Ac.mk H
        clear H
        go_upto_region 14 with (first | ((with_reducible refine Ap (f := 10) rfl ?_); refine Bj (some 71) rfl rfl Tryz.func10 (by kernel_rfl) rfl #[.slice A0 l0.length c0] rfl Ya_ ?_; (with_reducible refine (Df.calls kj20 _ _ l0 t567 _ ?side1 ?side2 A32.out).mono ?_); (case side1 => repeat (first | exact (Kd.C_below HR0.out HB.out) | (with_reducible refine Kd.F5 ?_ _) | (with_reducible refine Kd.F6 ?_ _) | (with_reducible refine Kd.Gj ?_))); (case side2 => exact HC0.out); rintro e w36 ⟨rfl, hb⟩; refine ⟨_, rfl, ?_⟩; have n0_ := Ac.mk (Bi (g := gb0) (o := .cells #[.int .i64 t551, .string t552, .int .i64 t553, .int .i64 t554] 25 (0, 0)) Yd_ hb); have n1_ := Ac.mk (Bi (g := gb1) (o := .cells #[.int .i64 t561, .string t562, .int .i64 t563, .int .i64 t564] 25 (0, 0)) Yj_ hb); have n2_ := Ac.mk (Ar Ybg_ hb); clear BK0; clear BK1; clear HB; have BK0 := n0_; have BK1 := n1_; have HB := n2_; clear n0_ n1_ n2_; (try clear hb); (try clear hb2); (try clear hk); (try clear hi)) | ((with_reducible refine Ap (f := 9) rfl ?_); refine Bj (some 74) rfl rfl Tryz.func9 (by kernel_rfl) rfl #[.string t567] rfl Ya_ ?_; (with_reducible refine (Bc.calls kj20 t567 t568 t569 t570 t571 t572 _ ?side1 A33.out).mono ?_); (case side1 => exact Fp.below HGL.out Ybg_); rintro e w37 ⟨rfl, hb⟩; refine ⟨_, rfl, ?_⟩; have n0_ := Ac.mk (Bi (g := gb0) (o := .cells #[.int .i64 t551, .string t552, .int .i64 t553, .int .i64 t554] 25 (0, 0)) Yd_ hb); have n1_ := Ac.mk (Bi (g := gb1) (o := .cells #[.int .i64 t561, .string t562, .int .i64 t563, .int .i64 t564] 25 (0, 0)) Yj_ hb); have n2_ := Ac.mk (Ar Ybg_ hb); clear BK0; clear BK1; clear HB; have BK0 := n0_; have BK1 := n1_; have HB := n2_; clear n0_ n1_ n2_; (try clear hb); (try clear hb2); (try clear hk); (try clear hi)) | ((with_reducible refine Dl (N := 11) rfl ?_); refine Dz ?hg (N := 11) ?hd (cs := #[.int .i64 0, .string (⟨#[]⟩ : ByteArray), .int .i64 0, .int .i64 0]) (t := 25) ?hr ?_; (case hd => rfl); (case hg => rfl); (case hr => first | (go_simp; done) | (go_simp; rfl)); intro gb2 hg w38 hbox hb; have n0_ := Ac.mk (Bi (g := gb0) (o := .cells #[.int .i64 t551, .string t552, .int .i64 t553, .int .i64 t554] 25 (0, 0)) Yd_ hb); have n1_ := Ac.mk (Bi (g := gb1) (o := .cells #[.int .i64 t561, .string t562, .int .i64 t563, .int .i64 t564] 25 (0, 0)) Yj_ hb); have n2_ := Ac.mk (Ar Ybg_ hb); have n3_ := Ac.mk (hbox); have n4_ := Ac.mk ((by rw [hg]; exact (Ba Ybg_) : w.heap.size ≤ gb2)); have n5_ := Ac.mk ((by rw [hg]; exact (Ba Ybg_) : w.heap.size ≤ gb2)); have n6_ := Ac.mk ((by rw [hg]; exact Nat.ne_of_lt (Gl (g := gb0) (o := .cells #[.int .i64 t551, .string t552, .int .i64 t553, .int .i64 t554] 25 (0, 0)) Yd_) : gb0 ≠ gb2)); have n7_ := Ac.mk ((by rw [hg]; exact Nat.ne_of_gt (Gl (g := gb0) (o := .cells #[.int .i64 t551, .string t552, .int .i64 t553, .int .i64 t554] 25 (0, 0)) Yd_) : gb2 ≠ gb0)); have n8_ := Ac.mk ((by rw [hg]; exact Nat.ne_of_lt (Gl (g := gb1) (o := .cells #[.int .i64 t561, .string t562, .int .i64 t563, .int .i64 t564] 25 (0, 0)) Yj_) : gb1 ≠ gb2)); have n9_ := Ac.mk ((by rw [hg]; exact Nat.ne_of_gt (Gl (g := gb1) (o := .cells #[.int .i64 t561, .string t562, .int .i64 t563, .int .i64 t564] 25 (0, 0)) Yj_) : gb2 ≠ gb1)); clear BK0; clear BK1; clear HB; have BK0 := n0_; have BK1 := n1_; have HB := n2_; have BK2 := n3_; have GW2 := n4_; have GE2 := n5_; have NB0_2 := n6_; have NB2_0 := n7_; have NB1_2 := n8_; have NB2_1 := n9_; clear n0_ n1_ n2_ n3_ n4_ n5_ n6_ n7_ n8_ n9_; clear hb hbox hg; have hnb39 := NB2_0.out; have hnc39 := NB0_2.out; have hnb40 := NB2_1.out; have hnc40 := NB1_2.out; have hcz41_0 : w38.cell? ⟨gb2, 0, none⟩ = some (.int .i64 0) := (Ak BK2.out 0).trans rfl; have hcz41_1 : w38.cell? ⟨gb2, 1, none⟩ = some (.string (⟨#[]⟩ : ByteArray)) := (Ak BK2.out 1).trans rfl; have hcz41_2 : w38.cell? ⟨gb2, 2, none⟩ = some (.int .i64 0) := (Ak BK2.out 2).trans rfl; have hcz41_3 : w38.cell? ⟨gb2, 3, none⟩ = some (.int .i64 0) := (Ak BK2.out 3).trans rfl; have hfz41_0 := Ai BK2.out 0; have hfz41_1 := Ai BK2.out 1; have hfz41_2 := Ai BK2.out 2; have hfz41_3 := Ai BK2.out 3) | ((with_reducible refine Ap (f := 11) rfl ?_); refine Bj (some 79) rfl rfl Tryz.func11 (by kernel_rfl) rfl #[.string t567] rfl Ya_ ?_; (with_reducible refine (Aq.calls kj20 t567 t574 t575 t576 t577 t578 _ A34.out).mono ?_); rintro e w42 ⟨rfl, hb⟩; refine ⟨_, rfl, ?_⟩; have n0_ := Ac.mk (Bi (g := gb0) (o := .cells #[.int .i64 t551, .string t552, .int .i64 t553, .int .i64 t554] 25 (0, 0)) (by (with_reducible repeat (first | refine Ag ?_ _ | refine Ah ?_ | refine Af ?_ _)); refine Bo ?_ NB0_2.out _; (with_reducible repeat (first | refine Ag ?_ _ | refine Ah ?_ | refine Af ?_ _)); refine Bo ?_ NB0_2.out _; (with_reducible repeat (first | refine Ag ?_ _ | refine Ah ?_ | refine Af ?_ _)); refine Bo ?_ NB0_2.out _; (with_reducible repeat (first | refine Ag ?_ _ | refine Ah ?_ | refine Af ?_ _)); refine Bo ?_ NB0_2.out _; (with_reducible repeat (first | refine Ag ?_ _ | refine Ah ?_ | refine Af ?_ _)); exact BK0.out) hb); have n1_ := Ac.mk (Bi (g := gb1) (o := .cells #[.int .i64 t561, .string t562, .int .i64 t563, .int .i64 t564] 25 (0, 0)) (by (with_reducible repeat (first | refine Ag ?_ _ | refine Ah ?_ | refine Af ?_ _)); refine Bo ?_ NB1_2.out _; (with_reducible repeat (first | refine Ag ?_ _ | refine Ah ?_ | refine Af ?_ _)); refine Bo ?_ NB1_2.out _; (with_reducible repeat (first | refine Ag ?_ _ | refine Ah ?_ | refine Af ?_ _)); refine Bo ?_ NB1_2.out _; (with_reducible repeat (first | refine Ag ?_ _ | refine Ah ?_ | refine Af ?_ _)); refine Bo ?_ NB1_2.out _; (with_reducible repeat (first | refine Ag ?_ _ | refine Ah ?_ | refine Af ?_ _)); exact BK1.out) hb); have n2_ := Ac.mk (Bi (g := gb2) (o := .cells #[.int .i64 t568, .string t569, .int .i64 t570, .int .i64 t571] 25 (0, 0)) (by (with_reducible repeat (first | refine Ag ?_ _ | refine Ah ?_ | refine Af ?_ _)); refine Be (cs := #[.int .i64 t568, .string t569, .int .i64 t570, .int .i64 0]) ?_ 3 _ rfl; (with_reducible repeat (first | refine Ag ?_ _ | refine Ah ?_ | refine Af ?_ _)); refine Be (cs := #[.int .i64 t568, .string t569, .int .i64 0, .int .i64 0]) ?_ 2 _ rfl; (with_reducible repeat (first | refine Ag ?_ _ | refine Ah ?_ | refine Af ?_ _)); refine Be (cs := #[.int .i64 t568, .string (⟨#[]⟩ : ByteArray), .int .i64 0, .int .i64 0]) ?_ 1 _ rfl; (with_reducible repeat (first | refine Ag ?_ _ | refine Ah ?_ | refine Af ?_ _)); refine Be (cs := #[.int .i64 0, .string (⟨#[]⟩ : ByteArray), .int .i64 0, .int .i64 0]) ?_ 0 _ rfl; (with_reducible repeat (first | refine Ag ?_ _ | refine Ah ?_ | refine Af ?_ _)); exact BK2.out) hb); have n3_ := Ac.mk (Ar Ybc_ hb); clear BK0; clear BK1; clear BK2; clear HB; have BK0 := n0_; have BK1 := n1_; have BK2 := n2_; have HB := n3_; clear n0_ n1_ n2_ n3_; (try clear hb); (try clear hb2); (try clear hk); (try clear hi)) | ((with_reducible refine Dl (N := 13) rfl ?_); refine Dz ?hg (N := 13) ?hd (cs := #[.int .i64 0, .string (⟨#[]⟩ : ByteArray), .int .i64 0, .int .i64 0]) (t := 25) ?hr ?_; (case hd => rfl); (case hg => rfl); (case hr => first | (go_simp; done) | (go_simp; rfl)); intro gb3 hg w43 hbox hb; have n0_ := Ac.mk (Bi (g := gb0) (o := .cells #[.int .i64 t551, .string t552, .int .i64 t553, .int .i64 t554] 25 (0, 0)) Yd_ hb); have n1_ := Ac.mk (Bi (g := gb1) (o := .cells #[.int .i64 t561, .string t562, .int .i64 t563, .int .i64 t564] 25 (0, 0)) Yj_ hb); have n2_ := Ac.mk (Bi (g := gb2) (o := .cells #[.int .i64 t568, .string t569, .int .i64 t570, .int .i64 t571] 25 (0, 0)) Ybj_ hb); have n3_ := Ac.mk (Ar Ybc_ hb); have n4_ := Ac.mk (hbox); have n5_ := Ac.mk ((by rw [hg]; exact (Ba Ybc_) : w.heap.size ≤ gb3)); have n6_ := Ac.mk ((by rw [hg]; exact (Ba Ybc_) : w.heap.size ≤ gb3)); have n7_ := Ac.mk ((by rw [hg]; exact Nat.ne_of_lt (Gl (g := gb0) (o := .cells #[.int .i64 t551, .string t552, .int .i64 t553, .int .i64 t554] 25 (0, 0)) Yd_) : gb0 ≠ gb3)); have n8_ := Ac.mk ((by rw [hg]; exact Nat.ne_of_gt (Gl (g := gb0) (o := .cells #[.int .i64 t551, .string t552, .int .i64 t553, .int .i64 t554] 25 (0, 0)) Yd_) : gb3 ≠ gb0)); have n9_ := Ac.mk ((by rw [hg]; exact Nat.ne_of_lt (Gl (g := gb1) (o := .cells #[.int .i64 t561, .string t562, .int .i64 t563, .int .i64 t564] 25 (0, 0)) Yj_) : gb1 ≠ gb3)); have n10_ := Ac.mk ((by rw [hg]; exact Nat.ne_of_gt (Gl (g := gb1) (o := .cells #[.int .i64 t561, .string t562, .int .i64 t563, .int .i64 t564] 25 (0, 0)) Yj_) : gb3 ≠ gb1)); have n11_ := Ac.mk ((by rw [hg]; exact Nat.ne_of_lt (Gl (g := gb2) (o := .cells #[.int .i64 t568, .string t569, .int .i64 t570, .int .i64 t571] 25 (0, 0)) Ybj_) : gb2 ≠ gb3)); have n12_ := Ac.mk ((by rw [hg]; exact Nat.ne_of_gt (Gl (g := gb2) (o := .cells #[.int .i64 t568, .string t569, .int .i64 t570, .int .i64 t571] 25 (0, 0)) Ybj_) : gb3 ≠ gb2)); clear BK0; clear BK1; clear BK2; clear HB; have BK0 := n0_; have BK1 := n1_; have BK2 := n2_; have HB := n3_; have BK3 := n4_; have GW3 := n5_; have GE3 := n6_; have NB0_3 := n7_; have NB3_0 := n8_; have NB1_3 := n9_; have NB3_1 := n10_; have NB2_3 := n11_; have NB3_2 := n12_; clear n0_ n1_ n2_ n3_ n4_ n5_ n6_ n7_ n8_ n9_ n10_ n11_ n12_; clear hb hbox hg; have hnb44 := NB3_0.out; have hnc44 := NB0_3.out; have hnb45 := NB3_1.out; have hnc45 := NB1_3.out; have hnb46 := NB3_2.out; have hnc46 := NB2_3.out; have hcz47_0 : w43.cell? ⟨gb3, 0, none⟩ = some (.int .i64 0) := (Ak BK3.out 0).trans rfl; have hcz47_1 : w43.cell? ⟨gb3, 1, none⟩ = some (.string (⟨#[]⟩ : ByteArray)) := (Ak BK3.out 1).trans rfl; have hcz47_2 : w43.cell? ⟨gb3, 2, none⟩ = some (.int .i64 0) := (Ak BK3.out 2).trans rfl; have hcz47_3 : w43.cell? ⟨gb3, 3, none⟩ = some (.int .i64 0) := (Ak BK3.out 3).trans rfl; have hfz47_0 := Ai BK3.out 0; have hfz47_1 := Ai BK3.out 1; have hfz47_2 := Ai BK3.out 2; have hfz47_3 := Ai BK3.out 3))
        (try simp only [Act.put, List.setIfInBounds_toArray, List.set_cons_zero, List.set_cons_succ])
        go_cut [89] (fun v89 wc => ∃ (kq : Nat) (x89_34 : Bool), v89 = .bool x89_34 ∧ Ac (Bd.j2 kq l0 x89_34 = some r) ∧ Ac (kq ≤ kj20) ∧ Ac (wc.heap[gb0]? = some (.cells #[.int .i64 t551, .string t552, .int .i64 t553, .int .i64 t554] 25 (0, 0))) ∧ Ac (wc.heap[gb1]? = some (.cells #[.int .i64 t561, .string t562, .int .i64 t563, .int .i64 t564] 25 (0, 0))) ∧ Ac (wc.heap[gb2]? = some (.cells #[.int .i64 t568, .string t569, .int .i64 t570, .int .i64 t571] 25 (0, 0))) ∧ Ac (wc.heap[gb3]? = some (.cells #[.int .i64 t574, .string t575, .int .i64 t576, .int .i64 t577] 25 (0, 0))) ∧ Ac (Below w.heap.size w wc))
        case first =>
         have H := HC35.out
         clear HC35
         by_cases c48 : (!(t568 == t574) || (!(t569.toList == t575.toList) || (!(t570 == t576) || (!(t571 == t577))))) = true
         ·rw [if_pos c48] at H
          have c48b0 : (!(t568 == t574) || (!(t569.toList == t575.toList) || (!(t570 == t576) || (!(t571 == t577))))) = true := c48
          clear c48
          (first | rw [c48b0] | (simp only [Dw, Dy]; rw [c48b0]) | skip)
          have H' := Ac.mk H
          clear H
          have hnb49 := NB2_0.out
          have hnc49 := NB0_2.out
          have hnb50 := NB2_1.out
          have hnc50 := NB1_2.out
          have hnb51 := NB2_3.out
          have hnc51 := NB3_2.out
          have hcz52_0 : w43.cell? ⟨gb2, 0, none⟩ = some (.int .i64 t568) := (Ak BK2.out 0).trans rfl
          have hcz52_1 : w43.cell? ⟨gb2, 1, none⟩ = some (.string t569) := (Ak BK2.out 1).trans rfl
          have hcz52_2 : w43.cell? ⟨gb2, 2, none⟩ = some (.int .i64 t570) := (Ak BK2.out 2).trans rfl
          have hcz52_3 : w43.cell? ⟨gb2, 3, none⟩ = some (.int .i64 t571) := (Ak BK2.out 3).trans rfl
          have hfz52_0 := Ai BK2.out 0
          have hfz52_1 := Ai BK2.out 1
          have hfz52_2 := Ai BK2.out 2
          have hfz52_3 := Ai BK2.out 3
          have hnb53 := NB3_0.out
          have hnc53 := NB0_3.out
          have hnb54 := NB3_1.out
          have hnc54 := NB1_3.out
          have hcz55_0 : w43.cell? ⟨gb3, 0, none⟩ = some (.int .i64 0) := (Ak BK3.out 0).trans rfl
          have hcz55_1 : w43.cell? ⟨gb3, 1, none⟩ = some (.string (⟨#[]⟩ : ByteArray)) := (Ak BK3.out 1).trans rfl
          have hcz55_2 : w43.cell? ⟨gb3, 2, none⟩ = some (.int .i64 0) := (Ak BK3.out 2).trans rfl
          have hcz55_3 : w43.cell? ⟨gb3, 3, none⟩ = some (.int .i64 0) := (Ak BK3.out 3).trans rfl
          have hfz55_0 := Ai BK3.out 0
          have hfz55_1 := Ai BK3.out 1
          have hfz55_2 := Ai BK3.out 2
          have hfz55_3 := Ai BK3.out 3
          go_wp2
          go_meet
          case rel => exact ⟨_, (true), Yf_, H', ⟨by have := HJ6.out; have := HJ20.out; first | omega | exact Nat.le_refl _⟩, ⟨by (with_reducible repeat (first | refine Ag ?_ _ | refine Ah ?_ | refine Af ?_ _)); refine Bo ?_ NB0_3.out _; (with_reducible repeat (first | refine Ag ?_ _ | refine Ah ?_ | refine Af ?_ _)); refine Bo ?_ NB0_3.out _; (with_reducible repeat (first | refine Ag ?_ _ | refine Ah ?_ | refine Af ?_ _)); refine Bo ?_ NB0_3.out _; (with_reducible repeat (first | refine Ag ?_ _ | refine Ah ?_ | refine Af ?_ _)); refine Bo ?_ NB0_3.out _; (with_reducible repeat (first | refine Ag ?_ _ | refine Ah ?_ | refine Af ?_ _)); exact BK0.out⟩, ⟨by (with_reducible repeat (first | refine Ag ?_ _ | refine Ah ?_ | refine Af ?_ _)); refine Bo ?_ NB1_3.out _; (with_reducible repeat (first | refine Ag ?_ _ | refine Ah ?_ | refine Af ?_ _)); refine Bo ?_ NB1_3.out _; (with_reducible repeat (first | refine Ag ?_ _ | refine Ah ?_ | refine Af ?_ _)); refine Bo ?_ NB1_3.out _; (with_reducible repeat (first | refine Ag ?_ _ | refine Ah ?_ | refine Af ?_ _)); refine Bo ?_ NB1_3.out _; (with_reducible repeat (first | refine Ag ?_ _ | refine Ah ?_ | refine Af ?_ _)); exact BK1.out⟩, ⟨by (with_reducible repeat (first | refine Ag ?_ _ | refine Ah ?_ | refine Af ?_ _)); refine Bo ?_ NB2_3.out _; (with_reducible repeat (first | refine Ag ?_ _ | refine Ah ?_ | refine Af ?_ _)); refine Bo ?_ NB2_3.out _; (with_reducible repeat (first | refine Ag ?_ _ | refine Ah ?_ | refine Af ?_ _)); refine Bo ?_ NB2_3.out _; (with_reducible repeat (first | refine Ag ?_ _ | refine Ah ?_ | refine Af ?_ _)); refine Bo ?_ NB2_3.out _; (with_reducible repeat (first | refine Ag ?_ _ | refine Ah ?_ | refine Af ?_ _)); exact BK2.out⟩, ⟨by (with_reducible repeat (first | refine Ag ?_ _ | refine Ah ?_ | refine Af ?_ _)); refine Be (cs := #[.int .i64 t574, .string t575, .int .i64 t576, .int .i64 0]) ?_ 3 _ rfl; (with_reducible repeat (first | refine Ag ?_ _ | refine Ah ?_ | refine Af ?_ _)); refine Be (cs := #[.int .i64 t574, .string t575, .int .i64 0, .int .i64 0]) ?_ 2 _ rfl; (with_reducible repeat (first | refine Ag ?_ _ | refine Ah ?_ | refine Af ?_ _)); refine Be (cs := #[.int .i64 t574, .string (⟨#[]⟩ : ByteArray), .int .i64 0, .int .i64 0]) ?_ 1 _ rfl; (with_reducible repeat (first | refine Ag ?_ _ | refine Ah ?_ | refine Af ?_ _)); refine Be (cs := #[.int .i64 0, .string (⟨#[]⟩ : ByteArray), .int .i64 0, .int .i64 0]) ?_ 0 _ rfl; (with_reducible repeat (first | refine Ag ?_ _ | refine Ah ?_ | refine Af ?_ _)); exact BK3.out⟩, ⟨by repeat (first | (with_reducible first | exact HB.out | apply Ae | apply Aa | apply Ad | refine Am ?_ GE0.out | refine Am ?_ GE1.out | refine Am ?_ GE2.out | refine Am ?_ GE3.out) | exact HB.out)⟩⟩
         ·rw [if_neg c48] at H
          have c48b0 : (!(t568 == t574) || (!(t569.toList == t575.toList) || (!(t570 == t576) || (!(t571 == t577))))) = false := by simpa using c48
          clear c48
          (first | rw [c48b0] | (simp only [Dw, Dy]; rw [c48b0]) | skip)
          have H' := Ac.mk H
          clear H
          have hnb56 := NB2_0.out
          have hnc56 := NB0_2.out
          have hnb57 := NB2_1.out
          have hnc57 := NB1_2.out
          have hnb58 := NB2_3.out
          have hnc58 := NB3_2.out
          have hcz59_0 : w43.cell? ⟨gb2, 0, none⟩ = some (.int .i64 t568) := (Ak BK2.out 0).trans rfl
          have hcz59_1 : w43.cell? ⟨gb2, 1, none⟩ = some (.string t569) := (Ak BK2.out 1).trans rfl
          have hcz59_2 : w43.cell? ⟨gb2, 2, none⟩ = some (.int .i64 t570) := (Ak BK2.out 2).trans rfl
          have hcz59_3 : w43.cell? ⟨gb2, 3, none⟩ = some (.int .i64 t571) := (Ak BK2.out 3).trans rfl
          have hfz59_0 := Ai BK2.out 0
          have hfz59_1 := Ai BK2.out 1
          have hfz59_2 := Ai BK2.out 2
          have hfz59_3 := Ai BK2.out 3
          have hnb60 := NB3_0.out
          have hnc60 := NB0_3.out
          have hnb61 := NB3_1.out
          have hnc61 := NB1_3.out
          have hcz62_0 : w43.cell? ⟨gb3, 0, none⟩ = some (.int .i64 0) := (Ak BK3.out 0).trans rfl
          have hcz62_1 : w43.cell? ⟨gb3, 1, none⟩ = some (.string (⟨#[]⟩ : ByteArray)) := (Ak BK3.out 1).trans rfl
          have hcz62_2 : w43.cell? ⟨gb3, 2, none⟩ = some (.int .i64 0) := (Ak BK3.out 2).trans rfl
          have hcz62_3 : w43.cell? ⟨gb3, 3, none⟩ = some (.int .i64 0) := (Ak BK3.out 3).trans rfl
          have hfz62_0 := Ai BK3.out 0
          have hfz62_1 := Ai BK3.out 1
          have hfz62_2 := Ai BK3.out 2
          have hfz62_3 := Ai BK3.out 3
          go_wp2
          go_meet
          case rel => exact ⟨_, ((t572 != t578)), Yf_, H', ⟨by have := HJ6.out; have := HJ20.out; first | omega | exact Nat.le_refl _⟩, ⟨by (with_reducible repeat (first | refine Ag ?_ _ | refine Ah ?_ | refine Af ?_ _)); refine Bo ?_ NB0_3.out _; (with_reducible repeat (first | refine Ag ?_ _ | refine Ah ?_ | refine Af ?_ _)); refine Bo ?_ NB0_3.out _; (with_reducible repeat (first | refine Ag ?_ _ | refine Ah ?_ | refine Af ?_ _)); refine Bo ?_ NB0_3.out _; (with_reducible repeat (first | refine Ag ?_ _ | refine Ah ?_ | refine Af ?_ _)); refine Bo ?_ NB0_3.out _; (with_reducible repeat (first | refine Ag ?_ _ | refine Ah ?_ | refine Af ?_ _)); exact BK0.out⟩, ⟨by (with_reducible repeat (first | refine Ag ?_ _ | refine Ah ?_ | refine Af ?_ _)); refine Bo ?_ NB1_3.out _; (with_reducible repeat (first | refine Ag ?_ _ | refine Ah ?_ | refine Af ?_ _)); refine Bo ?_ NB1_3.out _; (with_reducible repeat (first | refine Ag ?_ _ | refine Ah ?_ | refine Af ?_ _)); refine Bo ?_ NB1_3.out _; (with_reducible repeat (first | refine Ag ?_ _ | refine Ah ?_ | refine Af ?_ _)); refine Bo ?_ NB1_3.out _; (with_reducible repeat (first | refine Ag ?_ _ | refine Ah ?_ | refine Af ?_ _)); exact BK1.out⟩, ⟨by (with_reducible repeat (first | refine Ag ?_ _ | refine Ah ?_ | refine Af ?_ _)); refine Bo ?_ NB2_3.out _; (with_reducible repeat (first | refine Ag ?_ _ | refine Ah ?_ | refine Af ?_ _)); refine Bo ?_ NB2_3.out _; (with_reducible repeat (first | refine Ag ?_ _ | refine Ah ?_ | refine Af ?_ _)); refine Bo ?_ NB2_3.out _; (with_reducible repeat (first | refine Ag ?_ _ | refine Ah ?_ | refine Af ?_ _)); refine Bo ?_ NB2_3.out _; (with_reducible repeat (first | refine Ag ?_ _ | refine Ah ?_ | refine Af ?_ _)); exact BK2.out⟩, ⟨by (with_reducible repeat (first | refine Ag ?_ _ | refine Ah ?_ | refine Af ?_ _)); refine Be (cs := #[.int .i64 t574, .string t575, .int .i64 t576, .int .i64 0]) ?_ 3 _ rfl; (with_reducible repeat (first | refine Ag ?_ _ | refine Ah ?_ | refine Af ?_ _)); refine Be (cs := #[.int .i64 t574, .string t575, .int .i64 0, .int .i64 0]) ?_ 2 _ rfl; (with_reducible repeat (first | refine Ag ?_ _ | refine Ah ?_ | refine Af ?_ _)); refine Be (cs := #[.int .i64 t574, .string (⟨#[]⟩ : ByteArray), .int .i64 0, .int .i64 0]) ?_ 1 _ rfl; (with_reducible repeat (first | refine Ag ?_ _ | refine Ah ?_ | refine Af ?_ _)); refine Be (cs := #[.int .i64 0, .string (⟨#[]⟩ : ByteArray), .int .i64 0, .int .i64 0]) ?_ 0 _ rfl; (with_reducible repeat (first | refine Ag ?_ _ | refine Ah ?_ | refine Af ?_ _)); exact BK3.out⟩, ⟨by repeat (first | (with_reducible first | exact HB.out | apply Ae | apply Aa | apply Ad | refine Am ?_ GE0.out | refine Am ?_ GE1.out | refine Am ?_ GE2.out | refine Am ?_ GE3.out) | exact HB.out)⟩⟩
        case rest =>
         clear HC35
         try clear c1; try clear c2; try clear p2; try clear c3; try clear c4; try clear c5; try clear c6; try clear c7; try clear c9; try clear c10; try clear c11; try clear c14; try clear c14b0; try clear c14b1; try clear c15; try clear c15b0; try clear c15b1; try clear c15b2; try clear c19; try clear c24; try clear c26; try clear c27; try clear c28; try clear c31; try clear c39; try clear c40; try clear c44; try clear c45; try clear c46; try clear c48; try clear c48b0; try clear c49; try clear c50; try clear c51; try clear c53; try clear c54; try clear c56; try clear c57; try clear c58; try clear c60; try clear c61; try clear hcz10_0; try clear hcz10_1; try clear hcz10_2; try clear hcz10_3; try clear hcz12_0; try clear hcz12_1; try clear hcz12_2; try clear hcz12_3; try clear hcz17_0; try clear hcz17_1; try clear hcz17_2; try clear hcz17_3; try clear hcz25_0; try clear hcz25_1; try clear hcz25_2; try clear hcz25_3; try clear hcz29_0; try clear hcz29_1; try clear hcz29_2; try clear hcz29_3; try clear hcz30_0; try clear hcz30_1; try clear hcz30_2; try clear hcz30_3; try clear hcz41_0; try clear hcz41_1; try clear hcz41_2; try clear hcz41_3; try clear hcz47_0; try clear hcz47_1; try clear hcz47_2; try clear hcz47_3; try clear hcz52_0; try clear hcz52_1; try clear hcz52_2; try clear hcz52_3; try clear hcz55_0; try clear hcz55_1; try clear hcz55_2; try clear hcz55_3; try clear hcz59_0; try clear hcz59_1; try clear hcz59_2; try clear hcz59_3; try clear hcz62_0; try clear hcz62_1; try clear hcz62_2; try clear hcz62_3; try clear hfz10_0; try clear hfz10_1; try clear hfz10_2; try clear hfz10_3; try clear hfz12_0; try clear hfz12_1; try clear hfz12_2; try clear hfz12_3; try clear hfz17_0; try clear hfz17_1; try clear hfz17_2; try clear hfz17_3; try clear hfz25_0; try clear hfz25_1; try clear hfz25_2; try clear hfz25_3; try clear hfz29_0; try clear hfz29_1; try clear hfz29_2; try clear hfz29_3; try clear hfz30_0; try clear hfz30_1; try clear hfz30_2; try clear hfz30_3; try clear hfz41_0; try clear hfz41_1; try clear hfz41_2; try clear hfz41_3; try clear hfz47_0; try clear hfz47_1; try clear hfz47_2; try clear hfz47_3; try clear hfz52_0; try clear hfz52_1; try clear hfz52_2; try clear hfz52_3; try clear hfz55_0; try clear hfz55_1; try clear hfz55_2; try clear hfz55_3; try clear hfz59_0; try clear hfz59_1; try clear hfz59_2; try clear hfz59_3; try clear hfz62_0; try clear hfz62_1; try clear hfz62_2; try clear hfz62_3; try clear p2
         obtain ⟨kq, x89_34, rfl, HA, HJ34, BK0, BK1, BK2, BK3, HB⟩ := hcut
         cases kq with
         | zero => exact absurd HA.out (by simp [Bd.j2])
         | succ kj34 =>
          have H := HA.out
          clear HA
          simp only [Bd.j2] at H
          by_cases c63 : x89_34 = true
          ·subst c63
           have H1 : (some false) = some r := by rw [if_pos rfl] at H; exact H
           clear H
           have H := H1
           clear H1
           exact absurd (Option.some.inj H) (by rw [HR_.out]; decide)
          ·replace c63 := Bool.eq_false_iff.mpr c63
           subst c63
           have H1 : ((Eu.f kj34 l0).bind fun t580 => ((Dq.f kj34 t580).bind fun bt583 => ((Cf.f kj34 t580).bind fun bt585 => (if bt583.1.toList = bt585.1.toList then (Bd.j3 kj34 l0 t580 bt583.1 bt583.2 (bt583.2 != bt585.2)) else (Bd.j3 kj34 l0 t580 bt583.1 bt583.2 true))))) = some r := by rw [if_neg (show ¬ (false = true) by decide)] at H; exact H
           clear H
           have H := H1
           clear H1
           replace H := Option.bind_eq_some_iff.mp H
           obtain ⟨t580, A640, H⟩ := H
           try dsimp only at H
           have A64 := Ac.mk A640
           clear A640
           replace H := Option.bind_eq_some_iff.mp H
           obtain ⟨⟨t583, t584⟩, A650, H⟩ := H
           try dsimp only at H
           have A65 := Ac.mk A650
           clear A650
           replace H := Option.bind_eq_some_iff.mp H
           obtain ⟨⟨t585, t586⟩, A660, H⟩ := H
           try dsimp only at H
           have A66 := Ac.mk A660
           clear A660
           have HC67 := Ac.mk H
           clear H
           go_upto_region 19 with (first | ((with_reducible refine Ap (f := 12) rfl ?_); refine Bj (some 91) rfl rfl Tryz.func12 (by kernel_rfl) rfl #[.slice A0 l0.length c0] rfl Ya_ ?_; (with_reducible refine (Eu.calls kj34 _ _ l0 t580 _ ?side1 ?side2 A64.out).mono ?_); (case side1 => repeat (first | exact (Kd.C_below HR0.out HB.out) | (with_reducible refine Kd.F5 ?_ _) | (with_reducible refine Kd.F6 ?_ _) | (with_reducible refine Kd.Gj ?_))); (case side2 => exact HC0.out); rintro e w68 ⟨v581, rfl, ho0, hb⟩; refine ⟨_, rfl, ?_⟩; have n0_ := Ac.mk (Kd.Gg (Kd.H5 (Kd.H5 (Kd.H5 (Kd.H5 ho0 (g := gb0) (o := .cells #[.int .i64 t551, .string t552, .int .i64 t553, .int .i64 t554] 25 (0, 0)) Yd_) (g := gb1) (o := .cells #[.int .i64 t561, .string t562, .int .i64 t563, .int .i64 t564] 25 (0, 0)) Yj_) (g := gb2) (o := .cells #[.int .i64 t568, .string t569, .int .i64 t570, .int .i64 t571] 25 (0, 0)) Ybj_) (g := gb3) (o := .cells #[.int .i64 t574, .string t575, .int .i64 t576, .int .i64 t577] 25 (0, 0)) Ycf_) (Ba Ybd_)); have n1_ := Ac.mk (Bi (g := gb0) (o := .cells #[.int .i64 t551, .string t552, .int .i64 t553, .int .i64 t554] 25 (0, 0)) Yd_ hb); have n2_ := Ac.mk (Bi (g := gb1) (o := .cells #[.int .i64 t561, .string t562, .int .i64 t563, .int .i64 t564] 25 (0, 0)) Yj_ hb); have n3_ := Ac.mk (Bi (g := gb2) (o := .cells #[.int .i64 t568, .string t569, .int .i64 t570, .int .i64 t571] 25 (0, 0)) Ybj_ hb); have n4_ := Ac.mk (Bi (g := gb3) (o := .cells #[.int .i64 t574, .string t575, .int .i64 t576, .int .i64 t577] 25 (0, 0)) Ycf_ hb); have n5_ := Ac.mk (Ar Ybd_ hb); clear BK0; clear BK1; clear BK2; clear BK3; clear HB; have HO582 := n0_; have BK0 := n1_; have BK1 := n2_; have BK2 := n3_; have BK3 := n4_; have HB := n5_; clear n0_ n1_ n2_ n3_ n4_ n5_; (try clear hb); (try clear hb2); (try clear hk); (try clear hi); (try clear ho0); obtain ⟨Ao69, co69, eo69⟩ := Kd.Gh HO582.out; subst eo69) | ((with_reducible refine Ap (f := 13) rfl ?_); refine Bj (some 94) rfl rfl Tryz.func13 (by kernel_rfl) rfl #[.slice Ao69 t580.length co69] rfl Ya_ ?_; (with_reducible refine (Dq.calls kj34 _ _ t580 t583 t584 _ ?side1 ?side2 ?side3 A65.out).mono ?_); (case side1 => repeat (first | exact (Kd.Ec HO582.out).2.2 | (with_reducible refine Kd.F5 ?_ _) | (with_reducible refine Kd.F6 ?_ _) | (with_reducible refine Kd.Gj ?_))); (case side2 => exact (Kd.Ec HO582.out).2.1); (case side3 => exact Fp.below HGL.out Ybd_); rintro e w70 ⟨rfl, hb⟩; refine ⟨_, rfl, ?_⟩; have n0_ := Ac.mk (Kd.Fe (by (with_reducible repeat (first | apply Kd.Cb | apply Kd.Bz | apply Kd.Cm)); exact HO582.out) hb); have n1_ := Ac.mk (Bi (g := gb0) (o := .cells #[.int .i64 t551, .string t552, .int .i64 t553, .int .i64 t554] 25 (0, 0)) Yd_ hb); have n2_ := Ac.mk (Bi (g := gb1) (o := .cells #[.int .i64 t561, .string t562, .int .i64 t563, .int .i64 t564] 25 (0, 0)) Yj_ hb); have n3_ := Ac.mk (Bi (g := gb2) (o := .cells #[.int .i64 t568, .string t569, .int .i64 t570, .int .i64 t571] 25 (0, 0)) Ybj_ hb); have n4_ := Ac.mk (Bi (g := gb3) (o := .cells #[.int .i64 t574, .string t575, .int .i64 t576, .int .i64 t577] 25 (0, 0)) Ycf_ hb); have n5_ := Ac.mk (Ar Ybd_ hb); clear HO582; clear BK0; clear BK1; clear BK2; clear BK3; clear HB; have HO582 := n0_; have BK0 := n1_; have BK1 := n2_; have BK2 := n3_; have BK3 := n4_; have HB := n5_; clear n0_ n1_ n2_ n3_ n4_ n5_; (try clear hb); (try clear hb2); (try clear hk); (try clear hi)) | ((with_reducible refine Ap (f := 14) rfl ?_); refine Bj (some 99) rfl rfl Tryz.func14 (by kernel_rfl) rfl #[.slice Ao69 t580.length co69] rfl Ya_ ?_; (with_reducible refine (Cf.calls kj34 _ _ t580 t585 t586 _ ?side1 ?side2 A66.out).mono ?_); (case side1 => repeat (first | exact (Kd.Ec HO582.out).2.2 | (with_reducible refine Kd.F5 ?_ _) | (with_reducible refine Kd.F6 ?_ _) | (with_reducible refine Kd.Gj ?_))); (case side2 => exact (Kd.Ec HO582.out).2.1); rintro e w71 ⟨rfl, hb⟩; refine ⟨_, rfl, ?_⟩; have n0_ := Ac.mk (Kd.Fe (by (with_reducible repeat (first | apply Kd.Cb | apply Kd.Bz | apply Kd.Cm)); exact HO582.out) hb); have n1_ := Ac.mk (Bi (g := gb0) (o := .cells #[.int .i64 t551, .string t552, .int .i64 t553, .int .i64 t554] 25 (0, 0)) Yd_ hb); have n2_ := Ac.mk (Bi (g := gb1) (o := .cells #[.int .i64 t561, .string t562, .int .i64 t563, .int .i64 t564] 25 (0, 0)) Yj_ hb); have n3_ := Ac.mk (Bi (g := gb2) (o := .cells #[.int .i64 t568, .string t569, .int .i64 t570, .int .i64 t571] 25 (0, 0)) Ybj_ hb); have n4_ := Ac.mk (Bi (g := gb3) (o := .cells #[.int .i64 t574, .string t575, .int .i64 t576, .int .i64 t577] 25 (0, 0)) Ycf_ hb); have n5_ := Ac.mk (Ar Ybd_ hb); clear HO582; clear BK0; clear BK1; clear BK2; clear BK3; clear HB; have HO582 := n0_; have BK0 := n1_; have BK1 := n2_; have BK2 := n3_; have BK3 := n4_; have HB := n5_; clear n0_ n1_ n2_ n3_ n4_ n5_; (try clear hb); (try clear hb2); (try clear hk); (try clear hi)))
           (try simp only [Act.put, List.setIfInBounds_toArray, List.set_cons_zero, List.set_cons_succ])
           go_cut [109] (fun v109 wc => ∃ (kq : Nat) (x109_66 : Bool), v109 = .bool x109_66 ∧ Ac (Bd.j3 kq l0 t580 t583 t584 x109_66 = some r) ∧ Ac (kq ≤ kj34) ∧ Ac (Kd.R k25 25 wc w.heap.size (fun k_ => k_ ≠ gb0 ∧ k_ ≠ gb1 ∧ k_ ≠ gb2 ∧ k_ ≠ gb3) (.slice Ao69 t580.length co69) t580) ∧ Ac (wc.heap[gb0]? = some (.cells #[.int .i64 t551, .string t552, .int .i64 t553, .int .i64 t554] 25 (0, 0))) ∧ Ac (wc.heap[gb1]? = some (.cells #[.int .i64 t561, .string t562, .int .i64 t563, .int .i64 t564] 25 (0, 0))) ∧ Ac (wc.heap[gb2]? = some (.cells #[.int .i64 t568, .string t569, .int .i64 t570, .int .i64 t571] 25 (0, 0))) ∧ Ac (wc.heap[gb3]? = some (.cells #[.int .i64 t574, .string t575, .int .i64 t576, .int .i64 t577] 25 (0, 0))) ∧ Ac (Below w.heap.size w wc))
           case first =>
            have H := HC67.out
            clear HC67
            by_cases c72 : t583.toList = t585.toList
            ·rw [if_pos c72] at H
             have c72b0 : (t583.toList == t585.toList) = true := beq_iff_eq.mpr c72
             have c72b1 : (t583.toList != t585.toList) = false := bne_eq_false_iff_eq.mpr c72
             clear c72
             (first | rw [c72b0] | (simp only [Dw, Dy]; rw [c72b0]) | skip)
             have H' := Ac.mk H
             clear H
             go_wp2
             go_meet
             case rel => exact ⟨_, ((t584 != t586)), Yf_, H', ⟨by have := HJ6.out; have := HJ20.out; have := HJ34.out; first | omega | exact Nat.le_refl _⟩, ⟨by (with_reducible repeat (first | apply Kd.Cb | apply Kd.Bz | apply Kd.Cm)); exact Kd.R_mono HO582.out (fun _ hk => ⟨hk.1.1.1.2, ⟨hk.1.1.2, ⟨hk.1.2, hk.2⟩⟩⟩)⟩, ⟨by (with_reducible repeat (first | refine Ag ?_ _ | refine Ah ?_ | refine Af ?_ _)); exact BK0.out⟩, ⟨by (with_reducible repeat (first | refine Ag ?_ _ | refine Ah ?_ | refine Af ?_ _)); exact BK1.out⟩, ⟨by (with_reducible repeat (first | refine Ag ?_ _ | refine Ah ?_ | refine Af ?_ _)); exact BK2.out⟩, ⟨by (with_reducible repeat (first | refine Ag ?_ _ | refine Ah ?_ | refine Af ?_ _)); exact BK3.out⟩, ⟨by repeat (first | (with_reducible first | exact HB.out | apply Ae | apply Aa | apply Ad | refine Am ?_ GE0.out | refine Am ?_ GE1.out | refine Am ?_ GE2.out | refine Am ?_ GE3.out) | exact HB.out)⟩⟩
            ·rw [if_neg c72] at H
             have c72b0 : (t583.toList == t585.toList) = false := beq_eq_false_iff_ne.mpr c72
             have c72b1 : (t583.toList != t585.toList) = true := bne_iff_ne.mpr c72
             (first | rw [c72b0] | (simp only [Dw, Dy]; rw [c72b0]) | skip)
             have H' := Ac.mk H
             clear H
             go_wp2
             go_meet
             case rel => exact ⟨_, (true), Yf_, H', ⟨by have := HJ6.out; have := HJ20.out; have := HJ34.out; first | omega | exact Nat.le_refl _⟩, ⟨by (with_reducible repeat (first | apply Kd.Cb | apply Kd.Bz | apply Kd.Cm)); exact Kd.R_mono HO582.out (fun _ hk => ⟨hk.1.1.1.2, ⟨hk.1.1.2, ⟨hk.1.2, hk.2⟩⟩⟩)⟩, ⟨by (with_reducible repeat (first | refine Ag ?_ _ | refine Ah ?_ | refine Af ?_ _)); exact BK0.out⟩, ⟨by (with_reducible repeat (first | refine Ag ?_ _ | refine Ah ?_ | refine Af ?_ _)); exact BK1.out⟩, ⟨by (with_reducible repeat (first | refine Ag ?_ _ | refine Ah ?_ | refine Af ?_ _)); exact BK2.out⟩, ⟨by (with_reducible repeat (first | refine Ag ?_ _ | refine Ah ?_ | refine Af ?_ _)); exact BK3.out⟩, ⟨by repeat (first | (with_reducible first | exact HB.out | apply Ae | apply Aa | apply Ad | refine Am ?_ GE0.out | refine Am ?_ GE1.out | refine Am ?_ GE2.out | refine Am ?_ GE3.out) | exact HB.out)⟩⟩
           case rest =>
            clear HC67
            try clear c1; try clear c2; try clear p2; try clear c3; try clear c4; try clear c5; try clear c6; try clear c7; try clear c9; try clear c10; try clear c11; try clear c12; try clear c13; try clear c14; try clear c14b0; try clear c14b1; try clear c15; try clear c15b0; try clear c15b1; try clear c15b2; try clear c19; try clear c24; try clear c26; try clear c27; try clear c28; try clear c31; try clear c39; try clear c40; try clear c44; try clear c45; try clear c46; try clear c48; try clear c48b0; try clear c49; try clear c50; try clear c51; try clear c53; try clear c54; try clear c56; try clear c57; try clear c58; try clear c60; try clear c61; try clear c63; try clear c72; try clear c72b0; try clear c72b1; try clear hcz10_0; try clear hcz10_1; try clear hcz10_2; try clear hcz10_3; try clear hcz12_0; try clear hcz12_1; try clear hcz12_2; try clear hcz12_3; try clear hcz17_0; try clear hcz17_1; try clear hcz17_2; try clear hcz17_3; try clear hcz25_0; try clear hcz25_1; try clear hcz25_2; try clear hcz25_3; try clear hcz29_0; try clear hcz29_1; try clear hcz29_2; try clear hcz29_3; try clear hcz30_0; try clear hcz30_1; try clear hcz30_2; try clear hcz30_3; try clear hcz41_0; try clear hcz41_1; try clear hcz41_2; try clear hcz41_3; try clear hcz47_0; try clear hcz47_1; try clear hcz47_2; try clear hcz47_3; try clear hcz52_0; try clear hcz52_1; try clear hcz52_2; try clear hcz52_3; try clear hcz55_0; try clear hcz55_1; try clear hcz55_2; try clear hcz55_3; try clear hcz59_0; try clear hcz59_1; try clear hcz59_2; try clear hcz59_3; try clear hcz62_0; try clear hcz62_1; try clear hcz62_2; try clear hcz62_3; try clear hfz10_0; try clear hfz10_1; try clear hfz10_2; try clear hfz10_3; try clear hfz12_0; try clear hfz12_1; try clear hfz12_2; try clear hfz12_3; try clear hfz17_0; try clear hfz17_1; try clear hfz17_2; try clear hfz17_3; try clear hfz25_0; try clear hfz25_1; try clear hfz25_2; try clear hfz25_3; try clear hfz29_0; try clear hfz29_1; try clear hfz29_2; try clear hfz29_3; try clear hfz30_0; try clear hfz30_1; try clear hfz30_2; try clear hfz30_3; try clear hfz41_0; try clear hfz41_1; try clear hfz41_2; try clear hfz41_3; try clear hfz47_0; try clear hfz47_1; try clear hfz47_2; try clear hfz47_3; try clear hfz52_0; try clear hfz52_1; try clear hfz52_2; try clear hfz52_3; try clear hfz55_0; try clear hfz55_1; try clear hfz55_2; try clear hfz55_3; try clear hfz59_0; try clear hfz59_1; try clear hfz59_2; try clear hfz59_3; try clear hfz62_0; try clear hfz62_1; try clear hfz62_2; try clear hfz62_3; try clear p2
            obtain ⟨kq, x109_66, rfl, HA, HJ66, HO_15, BK0, BK1, BK2, BK3, HB⟩ := hcut
            cases kq with
            | zero => exact absurd HA.out (by simp [Bd.j3])
            | succ kj66 =>
             have H := HA.out
             clear HA
             simp only [Bd.j3] at H
             by_cases c73 : x109_66 = true
             ·subst c73
              have H1 : (some false) = some r := by rw [if_pos rfl] at H; exact H
              clear H
              have H := H1
              clear H1
              exact absurd (Option.some.inj H) (by rw [HR_.out]; decide)
             ·replace c73 := Bool.eq_false_iff.mpr c73
              subst c73
              have H1 : (if t584 = true then ((Ci.f kj66 t583).bind fun bt587 => (if bt587.2 = true then ((D8.f kj66 bt587.1 t580).bind fun t591 => (if t591 = true then (Bd.j4 kj66 l0) else (some false))) else (some false))) else (Bd.j4 kj66 l0)) = some r := by rw [if_neg (show ¬ (false = true) by decide)] at H; exact H
              clear H
              have H := H1
              clear H1
              have HC74 := Ac.mk H
              clear H
              go_upto_if 110 with (fail)
              go_cut [] (fun wc => ∃ (kq : Nat), Ac (Bd.j4 kq l0 = some r) ∧ Ac (kq ≤ kj66) ∧ Ac (wc.heap[gb0]? = some (.cells #[.int .i64 t551, .string t552, .int .i64 t553, .int .i64 t554] 25 (0, 0))) ∧ Ac (wc.heap[gb1]? = some (.cells #[.int .i64 t561, .string t562, .int .i64 t563, .int .i64 t564] 25 (0, 0))) ∧ Ac (wc.heap[gb2]? = some (.cells #[.int .i64 t568, .string t569, .int .i64 t570, .int .i64 t571] 25 (0, 0))) ∧ Ac (wc.heap[gb3]? = some (.cells #[.int .i64 t574, .string t575, .int .i64 t576, .int .i64 t577] 25 (0, 0))) ∧ Ac (Below w.heap.size w wc))
              case first =>
               have H := HC74.out
               clear HC74
               by_cases c75 : t584 = true
               ·subst c75
                have H1 : ((Ci.f kj66 t583).bind fun bt587 => (if bt587.2 = true then ((D8.f kj66 bt587.1 t580).bind fun t591 => (if t591 = true then (Bd.j4 kj66 l0) else (some false))) else (some false))) = some r := by rw [if_pos rfl] at H; exact H
                clear H
                have H := H1
                clear H1
                replace H := Option.bind_eq_some_iff.mp H
                obtain ⟨⟨t587, t588⟩, A760, H⟩ := H
                try dsimp only at H
                have A76 := Ac.mk A760
                clear A760
                by_cases c77 : t588 = true
                ·subst c77
                 have H1 : ((D8.f kj66 t587 t580).bind fun t591 => (if t591 = true then (Bd.j4 kj66 l0) else (some false))) = some r := by rw [if_pos rfl] at H; exact H
                 clear H
                 have H := H1
                 clear H1
                 replace H := Option.bind_eq_some_iff.mp H
                 obtain ⟨t591, A780, H⟩ := H
                 try dsimp only at H
                 have A78 := Ac.mk A780
                 clear A780
                 by_cases c79 : t591 = true
                 ·subst c79
                  have H1 : (Bd.j4 kj66 l0) = some r := by rw [if_pos rfl] at H; exact H
                  clear H
                  have H := H1
                  clear H1
                  have H' := Ac.mk H
                  clear H
                  go_wp2_with (first | ((with_reducible refine Ap (f := 15) rfl ?_); refine Bj (some 113) rfl rfl Tryz.func15 (by kernel_rfl) rfl #[.string t583] rfl Ya_ ?_; (with_reducible refine (Ci.calls kj66 t583 t587 true _ ?side1 A76.out).mono ?_); (case side1 => exact Fp.below HGL.out Ybd_); rintro e w80 ⟨v589, rfl, ho0, hb⟩; refine ⟨_, rfl, ?_⟩; have n0_ := Ac.mk (Kd.Iq (by (with_reducible repeat (first | apply Kd.Cb | apply Kd.Bz | apply Kd.Cm)); exact HO_15.out) (Kd.R_base ho0) hb); have n1_ := Ac.mk (Kd.Gg (Kd.H5 (Kd.H5 (Kd.H5 (Kd.H5 (Kd.R_new' ho0 (Kd.R_lt (by (with_reducible repeat (first | apply Kd.Cb | apply Kd.Bz | apply Kd.Cm)); exact HO_15.out))) (g := gb0) (o := .cells #[.int .i64 t551, .string t552, .int .i64 t553, .int .i64 t554] 25 (0, 0)) Yd_) (g := gb1) (o := .cells #[.int .i64 t561, .string t562, .int .i64 t563, .int .i64 t564] 25 (0, 0)) Yj_) (g := gb2) (o := .cells #[.int .i64 t568, .string t569, .int .i64 t570, .int .i64 t571] 25 (0, 0)) Ybj_) (g := gb3) (o := .cells #[.int .i64 t574, .string t575, .int .i64 t576, .int .i64 t577] 25 (0, 0)) Ycf_) (Ba Ybd_)); have n2_ := Ac.mk (Bi (g := gb0) (o := .cells #[.int .i64 t551, .string t552, .int .i64 t553, .int .i64 t554] 25 (0, 0)) Yd_ hb); have n3_ := Ac.mk (Bi (g := gb1) (o := .cells #[.int .i64 t561, .string t562, .int .i64 t563, .int .i64 t564] 25 (0, 0)) Yj_ hb); have n4_ := Ac.mk (Bi (g := gb2) (o := .cells #[.int .i64 t568, .string t569, .int .i64 t570, .int .i64 t571] 25 (0, 0)) Ybj_ hb); have n5_ := Ac.mk (Bi (g := gb3) (o := .cells #[.int .i64 t574, .string t575, .int .i64 t576, .int .i64 t577] 25 (0, 0)) Ycf_ hb); have n6_ := Ac.mk (Ar Ybd_ hb); clear HO_15; clear BK0; clear BK1; clear BK2; clear BK3; clear HB; have HO_15 := n0_; have HO590 := n1_; have BK0 := n2_; have BK1 := n3_; have BK2 := n4_; have BK3 := n5_; have HB := n6_; clear n0_ n1_ n2_ n3_ n4_ n5_ n6_; (try clear hb); (try clear hb2); (try clear hk); (try clear hi); (try clear ho0); obtain ⟨Ao81, co81, eo81⟩ := Kd.Gh HO590.out; subst eo81) | (go_at_call 16; (with_reducible refine (D8.calls kj66 _ _ t587 _ _ t580 true _ ?side1 ?side2 ?side3 ?side4 A78.out).mono ?_); (case side1 => repeat (first | exact (Kd.Ec HO590.out).2.2 | (with_reducible refine Kd.F5 ?_ _) | (with_reducible refine Kd.F6 ?_ _) | (with_reducible refine Kd.Gj ?_))); (case side2 => exact (Kd.Ec HO590.out).2.1); (case side3 => repeat (first | exact (Kd.Ec HO_15.out).2.2 | (with_reducible refine Kd.F5 ?_ _) | (with_reducible refine Kd.F6 ?_ _) | (with_reducible refine Kd.Gj ?_))); (case side4 => exact (Kd.Ec HO_15.out).2.1); rintro e w' ⟨rfl, ⟨nd, rfl⟩⟩))
                  go_meet
                  case rel => exact ⟨_, H', ⟨by have := HJ6.out; have := HJ20.out; have := HJ34.out; have := HJ66.out; first | omega | exact Nat.le_refl _⟩, ⟨by (with_reducible repeat (first | refine Ag ?_ _ | refine Ah ?_ | refine Af ?_ _)); exact BK0.out⟩, ⟨by (with_reducible repeat (first | refine Ag ?_ _ | refine Ah ?_ | refine Af ?_ _)); exact BK1.out⟩, ⟨by (with_reducible repeat (first | refine Ag ?_ _ | refine Ah ?_ | refine Af ?_ _)); exact BK2.out⟩, ⟨by (with_reducible repeat (first | refine Ag ?_ _ | refine Ah ?_ | refine Af ?_ _)); exact BK3.out⟩, ⟨by repeat (first | (with_reducible first | exact HB.out | apply Ae | apply Aa | apply Ad | refine Am ?_ GE0.out | refine Am ?_ GE1.out | refine Am ?_ GE2.out | refine Am ?_ GE3.out) | exact HB.out)⟩⟩
                 ·replace c79 := Bool.eq_false_iff.mpr c79
                  subst c79
                  have H1 : (some false) = some r := by rw [if_neg (show ¬ (false = true) by decide)] at H; exact H
                  clear H
                  have H := H1
                  clear H1
                  exact absurd (Option.some.inj H) (by rw [HR_.out]; decide)
                ·replace c77 := Bool.eq_false_iff.mpr c77
                 subst c77
                 have H1 : (some false) = some r := by rw [if_neg (show ¬ (false = true) by decide)] at H; exact H
                 clear H
                 have H := H1
                 clear H1
                 exact absurd (Option.some.inj H) (by rw [HR_.out]; decide)
               ·replace c75 := Bool.eq_false_iff.mpr c75
                subst c75
                have H1 : (Bd.j4 kj66 l0) = some r := by rw [if_neg (show ¬ (false = true) by decide)] at H; exact H
                clear H
                have H := H1
                clear H1
                have H' := Ac.mk H
                clear H
                go_wp2
                go_meet
                case rel => exact ⟨_, H', ⟨by have := HJ6.out; have := HJ20.out; have := HJ34.out; have := HJ66.out; first | omega | exact Nat.le_refl _⟩, ⟨by (with_reducible repeat (first | refine Ag ?_ _ | refine Ah ?_ | refine Af ?_ _)); exact BK0.out⟩, ⟨by (with_reducible repeat (first | refine Ag ?_ _ | refine Ah ?_ | refine Af ?_ _)); exact BK1.out⟩, ⟨by (with_reducible repeat (first | refine Ag ?_ _ | refine Ah ?_ | refine Af ?_ _)); exact BK2.out⟩, ⟨by (with_reducible repeat (first | refine Ag ?_ _ | refine Ah ?_ | refine Af ?_ _)); exact BK3.out⟩, ⟨by repeat (first | (with_reducible first | exact HB.out | apply Ae | apply Aa | apply Ad | refine Am ?_ GE0.out | refine Am ?_ GE1.out | refine Am ?_ GE2.out | refine Am ?_ GE3.out) | exact HB.out)⟩⟩
              case rest =>
               clear HC74
               try clear c1; try clear c2; try clear p2; try clear c3; try clear c4; try clear c5; try clear c6; try clear c7; try clear c9; try clear c10; try clear c11; try clear c12; try clear c13; try clear c14; try clear c14b0; try clear c14b1; try clear c15; try clear c15b0; try clear c15b1; try clear c15b2; try clear c19; try clear c24; try clear c26; try clear c27; try clear c28; try clear c31; try clear c39; try clear c40; try clear c44; try clear c45; try clear c46; try clear c48; try clear c48b0; try clear c49; try clear c50; try clear c51; try clear c53; try clear c54; try clear c56; try clear c57; try clear c58; try clear c60; try clear c61; try clear c63; try clear c72; try clear c72b0; try clear c72b1; try clear c73; try clear c75; try clear c77; try clear c79; try clear hcz10_0; try clear hcz10_1; try clear hcz10_2; try clear hcz10_3; try clear hcz12_0; try clear hcz12_1; try clear hcz12_2; try clear hcz12_3; try clear hcz17_0; try clear hcz17_1; try clear hcz17_2; try clear hcz17_3; try clear hcz25_0; try clear hcz25_1; try clear hcz25_2; try clear hcz25_3; try clear hcz29_0; try clear hcz29_1; try clear hcz29_2; try clear hcz29_3; try clear hcz30_0; try clear hcz30_1; try clear hcz30_2; try clear hcz30_3; try clear hcz41_0; try clear hcz41_1; try clear hcz41_2; try clear hcz41_3; try clear hcz47_0; try clear hcz47_1; try clear hcz47_2; try clear hcz47_3; try clear hcz52_0; try clear hcz52_1; try clear hcz52_2; try clear hcz52_3; try clear hcz55_0; try clear hcz55_1; try clear hcz55_2; try clear hcz55_3; try clear hcz59_0; try clear hcz59_1; try clear hcz59_2; try clear hcz59_3; try clear hcz62_0; try clear hcz62_1; try clear hcz62_2; try clear hcz62_3; try clear hfz10_0; try clear hfz10_1; try clear hfz10_2; try clear hfz10_3; try clear hfz12_0; try clear hfz12_1; try clear hfz12_2; try clear hfz12_3; try clear hfz17_0; try clear hfz17_1; try clear hfz17_2; try clear hfz17_3; try clear hfz25_0; try clear hfz25_1; try clear hfz25_2; try clear hfz25_3; try clear hfz29_0; try clear hfz29_1; try clear hfz29_2; try clear hfz29_3; try clear hfz30_0; try clear hfz30_1; try clear hfz30_2; try clear hfz30_3; try clear hfz41_0; try clear hfz41_1; try clear hfz41_2; try clear hfz41_3; try clear hfz47_0; try clear hfz47_1; try clear hfz47_2; try clear hfz47_3; try clear hfz52_0; try clear hfz52_1; try clear hfz52_2; try clear hfz52_3; try clear hfz55_0; try clear hfz55_1; try clear hfz55_2; try clear hfz55_3; try clear hfz59_0; try clear hfz59_1; try clear hfz59_2; try clear hfz59_3; try clear hfz62_0; try clear hfz62_1; try clear hfz62_2; try clear hfz62_3; try clear p2
               obtain ⟨kq, HA, HJ73, BK0, BK1, BK2, BK3, HB⟩ := hcut
               cases kq with
               | zero => exact absurd HA.out (by simp [Bd.j4])
               | succ kj73 =>
                have H := HA.out
                clear HA
                simp only [Bd.j4] at H
                replace H := Option.bind_eq_some_iff.mp H
                obtain ⟨t592, A850, H⟩ := H
                try dsimp only at H
                have A85 := Ac.mk A850
                clear A850
                replace H := Option.bind_eq_some_iff.mp H
                obtain ⟨⟨t593, t594⟩, A860, H⟩ := H
                try dsimp only at H
                have A86 := Ac.mk A860
                clear A860
                replace H := Option.bind_eq_some_iff.mp H
                obtain ⟨⟨t597, t598⟩, A870, H⟩ := H
                try dsimp only at H
                have A87 := Ac.mk A870
                clear A870
                by_cases c88 : (t594 == t598) = true
                ·rw [if_pos c88] at H
                 have c88b0 : (t594 == t598) = true := c88
                 (try (have c88b1 : decide (t594 = t598) = true := by simpa using c88))
                 (try (have c88b2 : (t594 == t598) = true := by simpa using c88))
                 clear c88
                 replace H := Option.bind_eq_some_iff.mp H
                 obtain ⟨t601, A890, H⟩ := H
                 try dsimp only at H
                 have A89 := Ac.mk A890
                 clear A890
                 obtain rfl := Option.some.inj H
                 go_wp2_with (first | ((with_reducible refine Ap (f := 17) rfl ?_); refine Bj (some 125) rfl rfl Tryz.func17 (by kernel_rfl) rfl #[.slice A0 l0.length c0] rfl Ya_ ?_; (with_reducible refine (Es.calls kj73 _ _ l0 t592 _ ?side1 ?side2 A85.out).mono ?_); (case side1 => repeat (first | exact (Kd.C_below HR0.out HB.out) | (with_reducible refine Kd.F5 ?_ _) | (with_reducible refine Kd.F6 ?_ _) | (with_reducible refine Kd.Gj ?_))); (case side2 => exact HC0.out); rintro e w90 ⟨rfl, hb⟩; refine ⟨_, rfl, ?_⟩; have n0_ := Ac.mk (Bi (g := gb0) (o := .cells #[.int .i64 t551, .string t552, .int .i64 t553, .int .i64 t554] 25 (0, 0)) Yd_ hb); have n1_ := Ac.mk (Bi (g := gb1) (o := .cells #[.int .i64 t561, .string t562, .int .i64 t563, .int .i64 t564] 25 (0, 0)) Yj_ hb); have n2_ := Ac.mk (Bi (g := gb2) (o := .cells #[.int .i64 t568, .string t569, .int .i64 t570, .int .i64 t571] 25 (0, 0)) Ybj_ hb); have n3_ := Ac.mk (Bi (g := gb3) (o := .cells #[.int .i64 t574, .string t575, .int .i64 t576, .int .i64 t577] 25 (0, 0)) Ycf_ hb); have n4_ := Ac.mk (Ar Ybd_ hb); clear BK0; clear BK1; clear BK2; clear BK3; clear HB; have BK0 := n0_; have BK1 := n1_; have BK2 := n2_; have BK3 := n3_; have HB := n4_; clear n0_ n1_ n2_ n3_ n4_; (try clear hb); (try clear hb2); (try clear hk); (try clear hi)) | ((with_reducible refine Ap (f := 15) rfl ?_); refine Bj (some 128) rfl rfl Tryz.func15 (by kernel_rfl) rfl #[.string t592] rfl Ya_ ?_; (with_reducible refine (Ci.calls kj73 t592 t593 t594 _ ?side1 A86.out).mono ?_); (case side1 => exact Fp.below HGL.out Ybd_); rintro e w91 ⟨v595, rfl, ho0, hb⟩; refine ⟨_, rfl, ?_⟩; have n0_ := Ac.mk (Kd.Gg (Kd.H5 (Kd.H5 (Kd.H5 (Kd.H5 ho0 (g := gb0) (o := .cells #[.int .i64 t551, .string t552, .int .i64 t553, .int .i64 t554] 25 (0, 0)) Yd_) (g := gb1) (o := .cells #[.int .i64 t561, .string t562, .int .i64 t563, .int .i64 t564] 25 (0, 0)) Yj_) (g := gb2) (o := .cells #[.int .i64 t568, .string t569, .int .i64 t570, .int .i64 t571] 25 (0, 0)) Ybj_) (g := gb3) (o := .cells #[.int .i64 t574, .string t575, .int .i64 t576, .int .i64 t577] 25 (0, 0)) Ycf_) (Ba Ybd_)); have n1_ := Ac.mk (Bi (g := gb0) (o := .cells #[.int .i64 t551, .string t552, .int .i64 t553, .int .i64 t554] 25 (0, 0)) Yd_ hb); have n2_ := Ac.mk (Bi (g := gb1) (o := .cells #[.int .i64 t561, .string t562, .int .i64 t563, .int .i64 t564] 25 (0, 0)) Yj_ hb); have n3_ := Ac.mk (Bi (g := gb2) (o := .cells #[.int .i64 t568, .string t569, .int .i64 t570, .int .i64 t571] 25 (0, 0)) Ybj_ hb); have n4_ := Ac.mk (Bi (g := gb3) (o := .cells #[.int .i64 t574, .string t575, .int .i64 t576, .int .i64 t577] 25 (0, 0)) Ycf_ hb); have n5_ := Ac.mk (Ar Ybd_ hb); clear BK0; clear BK1; clear BK2; clear BK3; clear HB; have HO596 := n0_; have BK0 := n1_; have BK1 := n2_; have BK2 := n3_; have BK3 := n4_; have HB := n5_; clear n0_ n1_ n2_ n3_ n4_ n5_; (try clear hb); (try clear hb2); (try clear hk); (try clear hi); (try clear ho0)) | ((with_reducible refine Ap (f := 18) rfl ?_); refine Bj (some 133) rfl rfl Tryz.func18 (by kernel_rfl) rfl #[.string t592] rfl Ya_ ?_; (with_reducible refine (Bl.calls kj73 t592 t597 t598 _ A87.out).mono ?_); rintro e w92 ⟨v599, rfl, ho0, hb⟩; refine ⟨_, rfl, ?_⟩; have n0_ := Ac.mk (Kd.Iq (by (with_reducible repeat (first | apply Kd.Cb | apply Kd.Bz | apply Kd.Cm)); exact HO596.out) (Kd.R_base ho0) hb); have n1_ := Ac.mk (Kd.Gg (Kd.H5 (Kd.H5 (Kd.H5 (Kd.H5 (Kd.R_new' ho0 (Kd.R_lt (by (with_reducible repeat (first | apply Kd.Cb | apply Kd.Bz | apply Kd.Cm)); exact HO596.out))) (g := gb0) (o := .cells #[.int .i64 t551, .string t552, .int .i64 t553, .int .i64 t554] 25 (0, 0)) Yd_) (g := gb1) (o := .cells #[.int .i64 t561, .string t562, .int .i64 t563, .int .i64 t564] 25 (0, 0)) Yj_) (g := gb2) (o := .cells #[.int .i64 t568, .string t569, .int .i64 t570, .int .i64 t571] 25 (0, 0)) Ybj_) (g := gb3) (o := .cells #[.int .i64 t574, .string t575, .int .i64 t576, .int .i64 t577] 25 (0, 0)) Ycf_) (Ba Ybd_)); have n2_ := Ac.mk (Bi (g := gb0) (o := .cells #[.int .i64 t551, .string t552, .int .i64 t553, .int .i64 t554] 25 (0, 0)) Yd_ hb); have n3_ := Ac.mk (Bi (g := gb1) (o := .cells #[.int .i64 t561, .string t562, .int .i64 t563, .int .i64 t564] 25 (0, 0)) Yj_ hb); have n4_ := Ac.mk (Bi (g := gb2) (o := .cells #[.int .i64 t568, .string t569, .int .i64 t570, .int .i64 t571] 25 (0, 0)) Ybj_ hb); have n5_ := Ac.mk (Bi (g := gb3) (o := .cells #[.int .i64 t574, .string t575, .int .i64 t576, .int .i64 t577] 25 (0, 0)) Ycf_ hb); have n6_ := Ac.mk (Ar Ybd_ hb); clear HO596; clear BK0; clear BK1; clear BK2; clear BK3; clear HB; have HO596 := n0_; have HO600 := n1_; have BK0 := n2_; have BK1 := n3_; have BK2 := n4_; have BK3 := n5_; have HB := n6_; clear n0_ n1_ n2_ n3_ n4_ n5_ n6_; (try clear hb); (try clear hb2); (try clear hk); (try clear hi); (try clear ho0); obtain ⟨Ao93, co93, eo93⟩ := Kd.Gh HO596.out; subst eo93; obtain ⟨Ao94, co94, eo94⟩ := Kd.Gh HO600.out; subst eo94) | (go_at_call 16; (with_reducible refine (D8.calls kj73 _ _ t593 _ _ t597 t601 _ ?side1 ?side2 ?side3 ?side4 A89.out).mono ?_); (case side1 => repeat (first | exact (Kd.Ec HO596.out).2.2 | (with_reducible refine Kd.F5 ?_ _) | (with_reducible refine Kd.F6 ?_ _) | (with_reducible refine Kd.Gj ?_))); (case side2 => exact (Kd.Ec HO596.out).2.1); (case side3 => repeat (first | exact (Kd.Ec HO600.out).2.2 | (with_reducible refine Kd.F5 ?_ _) | (with_reducible refine Kd.F6 ?_ _) | (with_reducible refine Kd.Gj ?_))); (case side4 => exact (Kd.Ec HO600.out).2.1); rintro e w' ⟨rfl, ⟨nd, rfl⟩⟩))
                 go_ret
                 exact ⟨by first | rfl | (simp [Au, Aw] <;> rfl) | (simp [*, Au, Aw] <;> rfl), by repeat (first | (with_reducible first | exact HB.out | apply Ae | apply Aa | apply Ad | refine Am ?_ GE0.out | refine Am ?_ GE1.out | refine Am ?_ GE2.out | refine Am ?_ GE3.out) | exact HB.out)⟩
                ·rw [if_neg c88] at H
                 have c88b0 : (t594 == t598) = false := by simpa using c88
                 (try (have c88b1 : decide (t594 = t598) = false := by simpa using c88))
                 (try (have c88b2 : (t594 == t598) = false := by simpa using c88))
                 (try (have c88b3 : ¬ (t594 = t598) := by simpa using c88))
                 clear c88
                 exact absurd (Option.some.inj H) (by rw [HR_.out]; decide)
end Go.Proofs.YtghnljoaklmakaaGreatDoor.X

namespace Go.Proofs.YtghnljoaklmakaaGreatDoorZ
open Go.ChangeShapes Go.WideShapes Go.ChangeAt Go.RowKit
open Go.Proofs.YtghnljoaklmakaaGreatDoorW.PrintWords
section
variable {P : Program}
/-- A reading of type t is a value of kind d, and the value fits. -/
def Opens (P : Program) {α : Type} (d : Kd α) (t : TypeId) (fits : α → Prop) : Prop :=
 ∀ {H : Type} {enc : TypeId × Value → H} {w : World} {base : Nat} {spare : Nat → Bool} {held : Bool} {fuel : Nat} {cs : List Value} {x : DataW H × List MemPlace},
  DataW.trod enc P w base spare held fuel t cs = some x → (∀ n ∈ x.1.weights P t, n ≤ reachBytes) → ∃ v, d.K w v cs ∧ fits v
theorem opens_int {k : IntKind} {t : TypeId} (ht : P.underlying t = some (.int k)) : Opens P (Kd.int k) t (fun n => (Lit.int k n).wf = true) := by
 intro H enc w base spare held fuel cs x h _
 obtain ⟨n, rfl, _, hw⟩ := DataW.trod_int ht h
 exact ⟨n, rfl, hw⟩
theorem weightsAll_mem {H : Type} {e : TypeId} {d : DataW H} {n : Nat} : ∀ {l : List (DataW H)}, d ∈ l → n ∈ d.weights P e → n ∈ DataW.weightsAll P e l
 | [], h, _ => by cases h
 | x :: r, h, hn => by
  simp only [DataW.weightsAll, List.mem_append]
  rcases List.mem_cons.1 h with rfl | h
  ·exact .inl hn
  ·exact .inr (weightsAll_mem h hn)
theorem weightsEach_mem {H : Type} {n : Nat} : ∀ {ts : List TypeId} {l : List (DataW H)} {i : Nat} {t : TypeId} {d : DataW H}, ts[i]? = some t → l[i]? = some d → n ∈ d.weights P t → n ∈ DataW.weightsEach P ts l
 | [], l, i, t, d, h, _, _ => by simp at h
 | t :: ts, [], i, _, _, _, h, _ => by simp at h
 | t :: ts, d :: l, 0, _, _, h, k, hn => by
  simp at h k; subst h k
  simp only [DataW.weightsEach, List.mem_append]; exact .inl hn
 | t :: ts, d :: l, i + 1, _, _, h, k, hn => by
  simp at h k
  simp only [DataW.weightsEach, List.mem_append]; exact .inr (weightsEach_mem h k hn)
theorem opens_slice {α : Type} (z : α) {d : Kd α} {t e : TypeId} {fits : α → Prop} (ht : P.underlying t = some (.slice e)) (hsz : P.cellsOf e = d.sz) (he : Opens P d e fits) {B : Nat} (hB : P.bytesOf e = B) :
  Opens P (Kd.slice e d) t (fun l => l.length * B ≤ 140737488351232 ∧ l.length ≤ 9223372036854775807 ∧ ∀ x ∈ l, fits x) := by
 intro H enc w base spare held fuel cs x h hw
 rcases Deep.open_slice ht h with ⟨rfl, rfl⟩ | ⟨a, len, cap, m, n, D, Pl, rfl, hb, hl, hm, hmm, rfl, hc⟩
 ·exact ⟨[], ⟨none, 0, rfl, Nat.le_refl _, Kd.C_nil d w⟩, by simp, by simp, fun x hx => by cases hx⟩
 ·have hlm : len ≤ m := by rw [hmm]; split <;> omega
  have hbnd : len * B ≤ 140737488351232 := by
   have := hw ((((List.range len).map D).length + ((List.range (m - len)).map fun j => D (len + j)).length) * P.bytesOf e) (by simp [DataW.weights, ht])
   simp only [List.length_map, List.length_range, hB] at this
   have h2 : len * B ≤ (len + (m - len)) * B := Nat.mul_le_mul_right _ (by omega)
   exact Nat.le_trans h2 this
  have hel : ∀ i, i < len → ∃ v : α, (∃ c, c.length = d.sz ∧ d.K w v c ∧ ∀ j u, c[j]? = some u → w.cell? (a.add (i * d.sz + j)) = some u) ∧ fits v := by
   intro i hi
   obtain ⟨c, h1, h2⟩ := hc i (by omega)
   obtain ⟨v, hv, hf⟩ := he h2 (fun k hk => hw k (by
    simp only [DataW.weights, ht, List.mem_cons, List.mem_append]
    exact .inr (.inl (weightsAll_mem (d := D i) (List.mem_map.2 ⟨i, List.mem_range.2 hi, rfl⟩) hk))))
   rw [hsz] at h1
   obtain ⟨_, hlen, hcell⟩ := World.cells?_some h1
   refine ⟨v, ⟨c, hlen, hv, fun j u hj => ?_⟩, hf⟩
   have hjl : j < d.sz := by rw [← hlen]; exact (List.getElem?_eq_some_iff.1 hj).1
   rw [← Deep.add_add, hcell j hjl]
   exact hj
  haveI : Inhabited α := ⟨z⟩
  obtain ⟨f, hf⟩ := Deep.choose_lt hel
  refine ⟨(List.range len).map f, ⟨some a, cap, by simp, by simpa using hl, ⟨by simp, ?_, fun _ => ⟨a, rfl, ?_⟩⟩⟩, by simpa using hbnd, by simp; unfold maxLen at hm; omega, ?_⟩
  ·simp; unfold maxLen at hm; omega
  ·intro j p hj
   have hjl : j < len := by
    have := (List.getElem?_eq_some_iff.1 hj).1
    simpa using this
   rw [List.getElem?_map, List.getElem?_range hjl] at hj
   simp only [Option.map_some, Option.some.injEq] at hj
   subst hj
   exact (hf j hjl).1
  ·intro x hx
   obtain ⟨j, hj, rfl⟩ := List.mem_map.1 hx
   exact (hf j (List.mem_range.1 hj)).2
/-- A parameter's weights are among all. -/
theorem weights_param {H : Type} {ts : List TypeId} {ds : List (DataW H)} {j : Nat} {t : TypeId} {d : DataW H} (hsz : (DataW.weightsEach P ts ds).all (· ≤ reachBytes) = true) (ht : ts[j]? = some t) (hd : ds[j]? = some d) : ∀ n ∈ d.weights P t, n ≤ reachBytes := fun n hn => by
 have := List.all_eq_true.1 hsz n (weightsEach_mem ht hd hn)
 simpa using this
end
end Go.Proofs.YtghnljoaklmakaaGreatDoorZ

namespace Go.Proofs.YtghnljoaklmakaaGreatDoor.X
open Go.RowKit Go.Proofs.YtghnljoaklmakaaGreatDoorW.PrintWords Go.Proofs.YtghnljoaklmakaaGreatDoorW.PrintLast Go.Proofs.YtghnljoaklmakaaGreatDoorW.PrintMore
open Go.Proofs.YtghnljoaklmakaaGreatDoorZ
namespace OFnNotes
def Pure : Prop := ∀ (l0 : List Int), (l0.length * 1 ≤ 140737488351232 ∧ l0.length ≤ 9223372036854775807 ∧ ∀ y2 ∈ l0, (Lit.int .u8 y2).wf = true) → ∃ k, Bd.f k l0 = some true
end OFnNotes
end Go.Proofs.YtghnljoaklmakaaGreatDoor.X

namespace Go.Proofs.YtghnljoaklmakaaGreatDoor.X
open Go.RowKit Go.Proofs.YtghnljoaklmakaaGreatDoorW.PrintWords Go.Proofs.YtghnljoaklmakaaGreatDoorL
def okB (l : List Int) : Prop := ∀ y ∈ l, 0 ≤ y ∧ y ≤ 255
theorem okB_of {l : List Int} (h : ∀ y ∈ l, (Lit.int .u8 y).wf = true) : okB l := fun y hy => by have := h y hy; simpa [Lit.wf, IntKind.min, IntKind.max, IntKind.signed, IntKind.bits] using this
theorem bits255 (x : Int) : 0 ≤ Go.bits .and .u64 x 255 ∧ Go.bits .and .u64 x 255 ≤ 255 := by
 have h : (BitVec.ofInt 64 x &&& BitVec.ofInt 64 255).toNat ≤ 255 := by
  rw [BitVec.toNat_and]; exact Nat.le_trans Nat.and_le_right (by decide)
 have e : Go.bits .and .u64 x 255 = IntKind.u64.wrap ((BitVec.ofInt 64 x &&& BitVec.ofInt 64 255).toNat : Int) := rfl
 rw [e]
 generalize (BitVec.ofInt 64 x &&& BitVec.ofInt 64 255).toNat = n at h
 have : IntKind.u64.wrap (n : Int) = (n : Int) := by
  simp only [IntKind.wrap, IntKind.bits, IntKind.signed]
  simp
  omega
 rw [this]; omega
theorem rd_okB {l : List Int} (h : okB l) (p : Int) : 0 ≤ rd l p ∧ rd l p ≤ 255 := by
 unfold rd
 rw [List.getD_eq_getElem?_getD]
 cases e : l[p.toNat]? with
 | none => simp
 | some y => simpa using h y (List.mem_of_getElem? e)
theorem next_ok {l : List Int} (h : okB l) (p s : Int) (h0 : 0 ≤ p) (h1 : p ≤ 1000000000000) : ∃ v s', Gp.f l p s = some (v, p + 1, s') ∧ 0 ≤ v ∧ v ≤ 255 := by
 have hr := rd_okB h p
 have hw : wrap64 (p + 1) = p + 1 := Fz (by omega) (by omega)
 have hr2 : wrap64 (rd l p) = rd l p := Fz (by omega) (by omega)
 unfold Gp.f
 rw [hw]
 have hb : ∀ x, 0 ≤ wrap64 (Go.bits .and .u64 x 255) ∧ wrap64 (Go.bits .and .u64 x 255) ≤ 255 := fun x => by have := bits255 x; rw [Fz (by omega) (by omega)]; exact this
 by_cases a : p < (l.length : Int)
 ·rw [if_pos a, if_pos h0]
  by_cases b : p + 1 ≤ (l.length : Int)
  ·rw [if_pos b]; exact ⟨_, _, rfl, by omega, by omega⟩
  ·omega
 ·rw [if_neg a]
  by_cases b : p + 1 ≤ (l.length : Int)
  ·omega
  ·rw [if_neg b]; exact ⟨_, _, rfl, (hb _).1, (hb _).2⟩
/-- What every draw gives: a value with a property, and a cursor moved on by n at most. -/
def Drawn {α : Type} (o : Option (α × Int × Int)) (p : Int) (n : Int) (q : α → Prop) : Prop := ∃ v p' s', o = some (v, p', s') ∧ q v ∧ p ≤ p' ∧ p' ≤ p + n
theorem Hu {l : List Int} (h : okB l) (p s a : Int) (h0 : 0 ≤ p) (h1 : p ≤ 900000000000) (ha : a ≤ 9223372036854775807) : Drawn (Cj.f l p s a) p 2 (fun v => 0 ≤ v ∧ (1 ≤ a → v < a) ∧ (a ≤ 1 → v = 0)) := by
 unfold Cj.f
 by_cases c : a ≤ 1
 ·rw [if_pos c]; exact ⟨0, p, s, rfl, ⟨by omega, by omega, fun _ => rfl⟩, by omega, by omega⟩
 ·rw [if_neg c]
  obtain ⟨v, s1, e, v0, v1⟩ := next_ok h p s h0 (by omega)
  rw [e]
  simp only [Option.bind_some]
  by_cases d : a > 200
  ·rw [if_pos d]
   obtain ⟨w, s2, e2, w0, w1⟩ := next_ok h (p + 1) s1 (by omega) (by omega)
   rw [e2]
   simp only [Option.bind_some]
   rw [if_neg (by omega), Fz (x := v * 256) (by omega) (by omega), Fz (x := v * 256 + w) (by omega) (by omega)]
   exact ⟨_, _, _, rfl, ⟨Int.tmod_nonneg _ (by omega), fun _ => Int.tmod_lt_of_pos _ (by omega), fun z => absurd z c⟩, by omega, by omega⟩
  ·rw [if_neg d, if_neg (by omega)]
   exact ⟨_, _, _, rfl, ⟨Int.tmod_nonneg _ v0, fun _ => Int.tmod_lt_of_pos _ (by omega), fun z => absurd z c⟩, by omega, by omega⟩
theorem one_ok {l : List Int} (h : okB l) (p s a : Int) (h0 : 0 ≤ p) (h1 : p ≤ 900000000000) (ha : a ≤ 9223372036854775807) : Drawn (Fq.f l p s a) p 2 (fun _ => True) := by
 obtain ⟨v, p', s', e, q, b⟩ := Hu h p s a h0 h1 ha
 exact ⟨v == 0, p', s', by unfold Fq.f; rw [e]; rfl, trivial, b⟩
theorem among_ok {l : List Int} (h : okB l) (p s : Int) (x : List Int) (h0 : 0 ≤ p) (h1 : p ≤ 900000000000) (hx : 1 ≤ x.length) (hx2 : x.length ≤ 9223372036854775807) : Drawn (Em.f l p s x) p 2 (fun v => v ∈ x) := by
 obtain ⟨v, p', s', e, q, b⟩ := Hu h p s x.length h0 h1 (by omega)
 have hlt := q.2.1 (by omega)
 have e3 : v = (v.toNat : Int) := by omega
 refine ⟨rd x v, p', s', ?_, ?_, b⟩
 ·unfold Em.f; rw [e]; simp only [Option.bind_some]; rw [if_pos q.1, if_pos hlt]
 ·rw [e3, rd_at x v.toNat (by omega)]; exact List.getElem_mem _
/-- The rounds of a draw. -/
def DrawnE {α : Type} (o : Nat → Option (α × Int × Int)) (p : Int) (n : Int) (q : α → Prop) : Prop := ∃ v p' s', Ev o (v, p', s') ∧ q v ∧ p ≤ p' ∧ p' ≤ p + n
abbrev Note := S25
theorem rdN (l : List Note) (n : Nat) (h : n < l.length) : Az l (n : Int) = l[n] := by simp [Az, List.getD_eq_getElem?_getD, List.getElem?_eq_getElem h]
def report (l : List Note) : Bool := decide (l.length ≤ 10) && l.all Il
theorem implReport (l : List Note) : G5.f l = some (report l) := rfl
theorem I5 {l : List Note} (h : report l = true) : l.length ≤ 10 ∧ ∀ x ∈ l, F8 x.f0 x.f1 x.f2 x.f3 = true := by
 unfold report Il at h
 simp only [Bool.and_eq_true, List.all_eq_true, decide_eq_true_eq] at h
 exact h
theorem specReport_ev (l : List Note) (h : l.length ≤ 1048576) : Ev (fun k => Ef.f k l) (report l) := by
 have key : ∀ (d n : Nat), n + d = l.length → Ev (fun k => Ef.l0 k l n) (decide (l.length ≤ 10) && (l.drop n).all Il) := by
  intro d
  induction d with
  | zero =>
   intro n hn
   obtain rfl : n = l.length := by omega
   refine Ev.step (f := fun _ => some _) (fun k => ?_) (Ev.now _)
   simp only [Ef.l0]; rw [if_neg (by omega)]
   simp <;> omega
  | succ d ih =>
   intro n hn
   have hl : n < l.length := by omega
   have ih := ih (n + 1) (by omega)
   rw [List.drop_eq_getElem_cons hl, List.all_cons]
   refine Ev.step (f := fun k => (E8.f k l[n].f0 l[n].f1 l[n].f2 l[n].f3).bind fun t => if t = true then Ef.l0 k l ((n + 1 : Nat) : Int) else some false) (fun k => ?_) ?_
   ·simp only [Ef.l0]
    rw [if_pos (by omega), if_pos (by omega), rdN l n hl, wrap_succ (by omega)]
   ·refine Ev.bind (specNote_ev _ _ _ _) ?_
    by_cases e : Il l[n] = true
    ·have e2 : F8 l[n].f0 l[n].f1 l[n].f2 l[n].f3 = true := e
     simp only [e, e2, if_true, Bool.true_and]; exact ih
    ·have e2 : F8 l[n].f0 l[n].f1 l[n].f2 l[n].f3 = false := by simpa [Il] using e
     have e3 : Il l[n] = false := e2
     simp only [e2, e3, Bool.false_and, Bool.and_false, Bool.false_eq_true, if_false]; exact Ev.now _
 exact Ev.congr (f := fun k => Ef.l0 k l ((0 : Nat) : Int)) (fun k => rfl) (by simpa [report] using key l.length 0 (by omega))
/-- One note's turn of where a container is. -/
def lastStep (id : ByteArray) (at_ : Int) (x : Note) : Int := if x.f1.toList = id.toList then (if x.f0 = 1 then x.f2 else if x.f0 = 2 then x.f3 else at_) else at_
def last (l : List Note) (id : ByteArray) : Int := l.foldl (lastStep id) (-1)
theorem last_take_succ (l : List Note) (id : ByteArray) (n : Nat) (h : n < l.length) : last (l.take (n + 1)) id = lastStep id (last (l.take n) id) l[n] := by
 unfold last; rw [List.take_succ_eq_append_getElem h, List.foldl_append]; rfl
theorem specLast_ev (l : List Note) (h : l.length ≤ 1048576) (m : Nat) (hm : m ≤ l.length) (id : ByteArray) : Ev (fun k => Ea.f k l (m : Int) id) (last (l.take m) id) := by
 have key : ∀ (d n : Nat), n + d = m → Ev (fun k => Ea.l0 k l (m : Int) id (last (l.take n) id) n) (last (l.take m) id) := by
  intro d
  induction d with
  | zero =>
   intro n hn
   obtain rfl : n = m := by omega
   exact Ev.step (f := fun _ => some _) (fun k => by simp only [Ea.l0]; rw [if_neg (by omega)]) (Ev.now _)
  | succ d ih =>
   intro n hn
   have hl : n < l.length := by omega
   refine Ev.step (f := fun k => Ea.l0 k l (m : Int) id (last (l.take (n + 1)) id) ((n + 1 : Nat) : Int)) (fun k => ?_) (ih (n + 1) (by omega))
   simp only [Ea.l0]
   rw [if_pos (by omega), if_pos (by omega), if_pos (by omega), rdN l n hl, wrap_succ (by omega), last_take_succ l id n hl]
   unfold lastStep
   by_cases c1 : l[n].f1.toList = id.toList
   ·by_cases c2 : l[n].f0 = 1
    ·simp only [if_pos c1, if_pos c2]
    ·by_cases c3 : l[n].f0 = 2
     ·simp only [if_pos c1, if_neg c2, if_pos c3]
     ·simp only [if_pos c1, if_neg c2, if_neg c3]
   ·simp only [if_neg c1]
 exact Ev.congr (f := fun k => Ea.l0 k l (m : Int) id (last (l.take 0) id) ((0 : Nat) : Int)) (fun k => rfl) (key m 0 (by omega))
theorem of_ok {l : List Int} (h : okB l) (p s : Int) (x : List ByteArray) (h0 : 0 ≤ p) (h1 : p ≤ 900000000000) (hx : 1 ≤ x.length) (hx2 : x.length ≤ 1000) : Drawn (Gx.f l p s x) p 2 (fun v => v ∈ x) := by
 obtain ⟨v, p', s', e, q, b⟩ := Hu h p s x.length h0 h1 (by omega)
 have hlt := q.2.1 (by omega)
 have hv : v.toNat < x.length := by omega
 refine ⟨rdOf ByteArray.empty x v, p', s', ?_, ?_, b⟩
 ·unfold Gx.f; rw [e]; simp only [Option.bind_some]; rw [if_pos q.1, if_pos hlt]
 ·simp only [rdOf, List.getD_eq_getElem?_getD, List.getElem?_eq_getElem hv, Option.getD_some]; exact List.getElem_mem _
theorem id20_ok {l : List Int} (h : okB l) (p s : Int) (h0 : 0 ≤ p) (h1 : p ≤ 800000000000) : DrawnE (fun k => E5.f k l p s) p 2 (fun _ => True) := by
 obtain ⟨v, p', s', e, q, b⟩ := of_ok h p s [(⟨#[65, 66, 67, 48, 48, 48, 49]⟩ : ByteArray), (⟨#[65, 66, 67, 48, 48, 48, 50]⟩ : ByteArray), (⟨#[88, 89, 90, 49, 50, 51, 52]⟩ : ByteArray)] h0 (by omega) (by simp) (by simp)
 have hs : v.size = 7 ∧ ∃ m, chk v 7 0 0 = some m := by
  simp only [List.mem_cons, List.not_mem_nil, or_false] at q
  rcases q with rfl | rfl | rfl <;> exact ⟨rfl, _, rfl⟩
 obtain ⟨h7, m, hm⟩ := hs
 refine ⟨v ++ strOfNums [65 + m % 23], p', s', ?_, trivial, b⟩
 unfold E5.f
 simp only [e, Option.bind_some]
 refine Ev.bind (a := 65 + m % 23) ?_ ?_
 ·unfold Ee.f; exact specCheck_loop _ h7 7 0 0 m (by omega) (by omega) (by omega) hm
 ·refine Ev.congr (f := fun _ => some _) (fun k => ?_) (Ev.now _)
  rw [if_pos (by rw [strOfNums_size, h7]; simp)]
/-- A note drawn. -/
def DrawnN (o : Nat → Option (Int × ByteArray × Int × Int × Int × Int)) (p : Int) (n : Int) : Prop := ∃ a b c d p' s', Ev o (a, b, c, d, p', s') ∧ p ≤ p' ∧ p' ≤ p + n
theorem noteJ_ok {l : List Int} (h : okB l) (p s : Int) (h0 : 0 ≤ p) (h1 : p ≤ 700000000000) (a : Int) (b : ByteArray) (c d : Int) : DrawnN (fun k => Bh.j0 k l p s a b c d) p 4 := by
 obtain ⟨v, p1, s1, e, q, b1, b1'⟩ := Hu h p s 40 h0 (by omega) (by omega)
 by_cases c0 : v = 0
 ·obtain ⟨w, p2, s2, e2, q2, c2, c2'⟩ := among_ok h p1 s1 [0, 6, 1, 3] (by omega) (by omega) (by simp) (by simp)
  refine ⟨w, b, c, d, p2, s2, Ev.step (f := fun _ => some _) (fun k => ?_) (Ev.now _), by omega, by omega⟩
  simp only [Bh.j0, e, Option.bind_some]; rw [if_pos c0, e2]; rfl
 by_cases c1 : v = 1
 ·obtain ⟨w, p2, s2, e2, q2, c2, c2'⟩ := among_ok h p1 s1 [(-1), 6, 16, 1000000] (by omega) (by omega) (by simp) (by simp)
  refine ⟨a, b, w, d, p2, s2, Ev.step (f := fun _ => some _) (fun k => ?_) (Ev.now _), by omega, by omega⟩
  simp only [Bh.j0, e, Option.bind_some]; rw [if_neg c0, if_pos c1, e2]; rfl
 by_cases c2_ : v = 2
 ·obtain ⟨w, p2, s2, e2, q2, c2, c2'⟩ := among_ok h p1 s1 [(-1), 1, 401] (by omega) (by omega) (by simp) (by simp)
  refine ⟨a, b, c, w, p2, s2, Ev.step (f := fun _ => some _) (fun k => ?_) (Ev.now _), by omega, by omega⟩
  simp only [Bh.j0, e, Option.bind_some]; rw [if_neg c0, if_neg c1, if_pos c2_, e2]; rfl
 by_cases c3 : v = 3
 ·obtain ⟨w, p2, s2, e2, q2, c2, c2'⟩ := of_ok h p1 s1 [(⟨#[]⟩ : ByteArray), (⟨#[65, 66, 67, 48, 48, 48, 49]⟩ : ByteArray), (⟨#[65, 66, 67, 48, 48, 48, 49, 90]⟩ : ByteArray)] (by omega) (by omega) (by simp) (by simp)
  refine ⟨a, w, c, d, p2, s2, Ev.step (f := fun _ => some _) (fun k => ?_) (Ev.now _), by omega, by omega⟩
  simp only [Bh.j0, e, Option.bind_some]; rw [if_neg c0, if_neg c1, if_neg c2_, if_pos c3, e2]; rfl
 ·refine ⟨a, b, c, d, p1, s1, Ev.step (f := fun _ => some _) (fun k => ?_) (Ev.now _), by omega, by omega⟩
  simp only [Bh.j0, e, Option.bind_some]; rw [if_neg c0, if_neg c1, if_neg c2_, if_neg c3]
theorem note_ok {l : List Int} (h : okB l) (p s : Int) (h0 : 0 ≤ p) (h1 : p ≤ 600000000000) : DrawnN (fun k => Bh.f k l p s) p 20 := by
 obtain ⟨v, p1, s1, e1, q1, b1, b1'⟩ := Hu h p s 5 h0 (by omega) (by omega)
 obtain ⟨i, p2, s2, e2, q2, b2, b2'⟩ := id20_ok h p1 s1 (by omega) (by omega)
 generalize hw : wrap64 (1 + v) = kd
 by_cases c1 : kd = 1
 ·obtain ⟨x, p3, s3, e3, q3, b3, b3'⟩ := Hu h p2 s2 6 (by omega) (by omega) (by omega)
  obtain ⟨a', b', c', d', p', s', ej, g1, g2⟩ := noteJ_ok h p3 s3 (by omega) (by omega) kd i x 0
  refine ⟨a', b', c', d', p', s', ?_, by omega, by omega⟩
  unfold Bh.f
  simp only [e1, Option.bind_some]
  refine Ev.bind e2 (Ev.congr (fun k => ?_) ej)
  simp only [hw]; rw [if_pos c1, e3]; rfl
 by_cases c2 : kd = 2
 ·obtain ⟨x, p3, s3, e3, q3, b3, b3'⟩ := Hu h p2 s2 6 (by omega) (by omega) (by omega)
  obtain ⟨y, p4, s4, e4, q4, b4, b4'⟩ := Hu h p3 s3 5 (by omega) (by omega) (by omega)
  obtain ⟨a', b', c', d', p', s', ej, g1, g2⟩ := noteJ_ok h p4 s4 (by omega) (by omega) kd i x (Int.tmod (wrap64 ((wrap64 (x + 1)) + y)) 6)
  refine ⟨a', b', c', d', p', s', ?_, by omega, by omega⟩
  unfold Bh.f
  simp only [e1, Option.bind_some]
  refine Ev.bind e2 (Ev.congr (fun k => ?_) ej)
  simp only [hw]; rw [if_neg c1, if_pos c2, e3]; simp only [Option.bind_some]; rw [e4]; rfl
 by_cases c3 : kd = 3
 ·obtain ⟨x, p3, s3, e3, q3, b3, b3'⟩ := Hu h p2 s2 15 (by omega) (by omega) (by omega)
  obtain ⟨a', b', c', d', p', s', ej, g1, g2⟩ := noteJ_ok h p3 s3 (by omega) (by omega) kd i (wrap64 (1 + x)) 0
  refine ⟨a', b', c', d', p', s', ?_, by omega, by omega⟩
  unfold Bh.f
  simp only [e1, Option.bind_some]
  refine Ev.bind e2 (Ev.congr (fun k => ?_) ej)
  simp only [hw]; rw [if_neg c1, if_neg c2, if_pos c3, e3]; rfl
 by_cases c4 : kd = 4
 ·obtain ⟨x, p3, s3, e3, q3, b3, b3'⟩ := Hu h p2 s2 12 (by omega) (by omega) (by omega)
  obtain ⟨a', b', c', d', p', s', ej, g1, g2⟩ := noteJ_ok h p3 s3 (by omega) (by omega) kd i x 0
  refine ⟨a', b', c', d', p', s', ?_, by omega, by omega⟩
  unfold Bh.f
  simp only [e1, Option.bind_some]
  refine Ev.bind e2 (Ev.congr (fun k => ?_) ej)
  simp only [hw]; rw [if_neg c1, if_neg c2, if_neg c3, if_pos c4, e3]; rfl
 ·obtain ⟨x, p3, s3, e3, q3, b3, b3'⟩ := among_ok h p2 s2 [1, 10, 999, 120000, 999999] (by omega) (by omega) (by simp) (by simp)
  obtain ⟨y, p4, s4, e4, q4, b4, b4'⟩ := among_ok h p3 s3 [1, 2, 30, 400] (by omega) (by omega) (by simp) (by simp)
  obtain ⟨a', b', c', d', p', s', ej, g1, g2⟩ := noteJ_ok h p4 s4 (by omega) (by omega) kd i x y
  refine ⟨a', b', c', d', p', s', ?_, by omega, by omega⟩
  unfold Bh.f
  simp only [e1, Option.bind_some]
  refine Ev.bind e2 (Ev.congr (fun k => ?_) ej)
  simp only [hw]; rw [if_neg c1, if_neg c2, if_neg c3, if_neg c4, e3]; simp only [Option.bind_some]; rw [e4]; rfl
theorem notes_l1 {l : List Int} (h : okB l) : ∀ (d : Nat) (o : List Note) (p s : Int), o.length ≤ 11 → 11 ≤ o.length + d → 0 ≤ p → p + 4 * d ≤ 600000000000 → DrawnE (fun k => Bf.l1 k o l p s) p (4 * d + 2) (fun r => r.length ≤ 11) := by
 intro d
 induction d with
 | zero =>
  intro o p s ho hd h0 h1
  obtain ⟨v, p1, s1, e1, q1, b1, b1'⟩ := Hu h p s 2 h0 (by omega) (by omega)
  have := q1.2.1 (by omega); have := q1.1
  refine ⟨o, p1, s1, Ev.step (f := fun _ => some _) (fun k => ?_) (Ev.now _), ho, by omega, by omega⟩
  simp only [Bf.l1, e1, Option.bind_some]
  rw [Fz (x := 10 + v) (by omega) (by omega), if_neg (by omega)]
 | succ d ih =>
  intro o p s ho hd h0 h1
  obtain ⟨v, p1, s1, e1, q1, b1, b1'⟩ := Hu h p s 2 h0 (by omega) (by omega)
  have hv := q1.2.1 (by omega); have hv0 := q1.1
  by_cases c : (o.length : Int) < 10 + v
  ·obtain ⟨i, p2, s2, e2, q2, b2, b2'⟩ := id20_ok h p1 s1 (by omega) (by omega)
   obtain ⟨r, p3, s3, e3, q3, b3, b3'⟩ := ih (o ++ [⟨1, i, 2, 0⟩]) p2 s2 (by simp; omega) (by simp; omega) (by omega) (by omega)
   refine ⟨r, p3, s3, Ev.step (f := fun k => (E5.f k l p1 s1).bind fun bt => Bf.l1 k (o ++ [⟨1, bt.1, 2, 0⟩]) l bt.2.1 bt.2.2) (fun k => ?_) (Ev.bind e2 e3), q3, by omega, by omega⟩
   simp only [Bf.l1, e1, Option.bind_some]
   rw [Fz (x := 10 + v) (by omega) (by omega), if_pos c]
   simp only [if_pos (show o.length < 3518437208883 by omega)]
  ·refine ⟨o, p1, s1, Ev.step (f := fun _ => some _) (fun k => ?_) (Ev.now _), ho, by omega, by omega⟩
   simp only [Bf.l1, e1, Option.bind_some]
   rw [Fz (x := 10 + v) (by omega) (by omega), if_neg c]
theorem notes_l0 {l : List Int} (h : okB l) : ∀ (d : Nat) (o : List Note) (p s : Int), o.length + d ≤ 6 → 0 ≤ p → p + 30 * d ≤ 500000000000 → DrawnE (fun k => Bf.l0 k o d l p s) p (30 * d + 60) (fun r => r.length ≤ 11) := by
 intro d
 induction d with
 | zero =>
  intro o p s ho h0 h1
  obtain ⟨v, p1, s1, e1, q1, b1, b1'⟩ := one_ok h p s 40 h0 (by omega) (by omega)
  cases v with
  | true =>
   obtain ⟨r, p3, s3, e3, q3, b3, b3'⟩ := notes_l1 h 11 o p1 s1 (by omega) (by omega) (by omega) (by omega)
   refine ⟨r, p3, s3, Ev.step (fun k => ?_) e3, q3, by omega, by omega⟩
   simp only [Bf.l0]
   rw [if_neg (by omega), e1]; rfl
  | false =>
   refine ⟨o, p1, s1, Ev.step (f := fun _ => some _) (fun k => ?_) (Ev.now _), by omega, by omega, by omega⟩
   simp only [Bf.l0]
   rw [if_neg (by omega), e1]; rfl
 | succ d ih =>
  intro o p s ho h0 h1
  have hw : wrap64 (((d + 1 : Nat) : Int) - 1) = (d : Int) := by rw [Fz (by omega) (by omega)]; omega
  have hlen : o.length < 3518437208883 := by omega
  obtain ⟨a, b, c, e, p1, s1, e1, b1, b1'⟩ := note_ok h p s h0 (by omega)
  have go : ∀ (x : Bool) (q t : Int), p1 ≤ q → q ≤ p1 + 2 → DrawnE (fun k => Bf.j1 k o ((d + 1 : Nat) : Int) x l q t a b c e) q (30 * d + 60) (fun r => r.length ≤ 11) := by
   intro x q t hq hq2
   cases x with
   | false =>
    obtain ⟨r, p3, s3, e3, q3, b3, b3'⟩ := ih (o ++ [⟨a, b, c, e⟩]) q t (by simp; omega) (by omega) (by omega)
    refine ⟨r, p3, s3, Ev.step (fun k => ?_) e3, q3, b3, b3'⟩
    simp only [Bf.j1]
    rw [if_neg (by decide), if_pos hlen, hw]
   | true =>
    have hst := specLast_ev o (by omega) o.length (Nat.le_refl _) b
    generalize last (o.take o.length) b = t0 at hst
    by_cases c1 : t0 ≥ 0
    ·by_cases c2 : t0 = e
     ·obtain ⟨r, p3, s3, e3, q3, b3, b3'⟩ := ih (o ++ [⟨a, b, c, e⟩]) q t (by simp; omega) (by omega) (by omega)
      refine ⟨r, p3, s3, Ev.step (fun k => by simp only [Bf.j1]; rw [if_pos trivial]) (Ev.bind hst (Ev.congr (fun k => ?_) e3)), q3, b3, b3'⟩
      rw [if_pos c1, if_pos c2, if_pos hlen, hw]
     ·obtain ⟨r, p3, s3, e3, q3, b3, b3'⟩ := ih (o ++ [⟨a, b, t0, e⟩]) q t (by simp; omega) (by omega) (by omega)
      refine ⟨r, p3, s3, Ev.step (fun k => by simp only [Bf.j1]; rw [if_pos trivial]) (Ev.bind hst (Ev.congr (fun k => ?_) e3)), q3, b3, b3'⟩
      rw [if_pos c1, if_neg c2, if_pos hlen, hw]
    ·obtain ⟨r, p3, s3, e3, q3, b3, b3'⟩ := ih (o ++ [⟨a, b, c, e⟩]) q t (by simp; omega) (by omega) (by omega)
     refine ⟨r, p3, s3, Ev.step (fun k => by simp only [Bf.j1]; rw [if_pos trivial]) (Ev.bind hst (Ev.congr (fun k => ?_) e3)), q3, b3, b3'⟩
     rw [if_neg c1, if_pos hlen, hw]
  by_cases ca : a = 2
  ·obtain ⟨v, p2, s2, e2, q2, b2, b2'⟩ := one_ok h p1 s1 2 (by omega) (by omega) (by omega)
   obtain ⟨r, p3, s3, e3, q3, b3, b3'⟩ := go v p2 s2 (by omega) (by omega)
   refine ⟨r, p3, s3, Ev.step (fun k => by simp only [Bf.l0]; rw [if_pos (by omega)]) (Ev.bind e1 (Ev.congr (fun k => ?_) e3)), q3, by omega, by omega⟩
   simp only []
   rw [if_pos ca, e2]; rfl
  ·obtain ⟨r, p3, s3, e3, q3, b3, b3'⟩ := go false p1 s1 (by omega) (by omega)
   refine ⟨r, p3, s3, Ev.step (fun k => by simp only [Bf.l0]; rw [if_pos (by omega)]) (Ev.bind e1 (Ev.congr (fun k => ?_) e3)), q3, by omega, by omega⟩
   simp only []
   rw [if_neg ca]
theorem notes_ok {l : List Int} (h : okB l) (p s : Int) (h0 : 0 ≤ p) (h1 : p ≤ 400000000000) : DrawnE (fun k => Bf.f k l p s) p 300 (fun r => r.length ≤ 11) := by
 obtain ⟨v, p1, s1, e1, q1, b1, b1'⟩ := Hu h p s 6 h0 (by omega) (by omega)
 have hv := q1.2.1 (by omega); have hv0 := q1.1
 obtain ⟨r, p3, s3, e3, q3, b3, b3'⟩ := notes_l0 h v.toNat [] p1 s1 (by simp; omega) (by omega) (by omega)
 refine ⟨r, p3, s3, Ev.congr (fun k => ?_) e3, q3, by omega, by omega⟩
 unfold Bf.f
 rw [e1]; simp only [Option.bind_some]
 rw [show ((v.toNat : Nat) : Int) = v by omega]
end Go.Proofs.YtghnljoaklmakaaGreatDoor.X

namespace Go.Proofs.YtghnljoaklmakaaGreatDoorL
open Go.RowKit Go.Proofs.YtghnljoaklmakaaGreatDoorW.PrintWords
/-- A text's bytes. -/
def B (s : ByteArray) : List UInt8 := s.data.toList
theorem Gf (s : ByteArray) : (B s).length = s.size := by simp [B]
theorem bt_B (s : ByteArray) (n : Nat) (h : n < (B s).length) : bt s n = ((B s)[n].toNat : Int) := by
 have h2 : n < s.size := by rw [Gf] at h; exact h
 unfold bt
 rw [Int.toNat_natCast, dif_pos h2]
 rfl
theorem Gq (s : ByteArray) : s.toList = B s := by
 unfold B
 have key : ∀ (d i : Nat) (r : List UInt8), i + d = s.size → ByteArray.toList.loop s i r = r.reverse ++ (s.data.toList.drop i) := by
  intro d
  induction d with
  | zero =>
   intro i r h
   unfold ByteArray.toList.loop
   rw [if_neg (by omega), List.drop_of_length_le (by simp; omega)]; simp
  | succ d ih =>
   intro i r h
   unfold ByteArray.toList.loop
   have hi : i < s.size := by omega
   rw [if_pos hi, ih (i + 1) _ (by omega), List.drop_eq_getElem_cons (show i < s.data.toList.length by simp; omega)]
   have e : s.get! i = s.data.toList[i]'(by simp; omega) := by
    show s.data[i]! = _
    rw [getElem!_pos s.data i hi]; simp
   rw [e, List.reverse_cons]
   simp
 have := key s.size 0 [] (by omega)
 simpa [ByteArray.toList] using this
theorem Hy {s t : ByteArray} (h : B s = B t) : s = t := by
 have : s.data = t.data := Array.toList_inj.1 h
 cases s; cases t; simp_all
end Go.Proofs.YtghnljoaklmakaaGreatDoorL

namespace Go.Proofs.YtghnljoaklmakaaGreatDoor.X
open Go.RowKit Go.Proofs.YtghnljoaklmakaaGreatDoorW.PrintWords Go.Proofs.YtghnljoaklmakaaGreatDoorL
theorem Hf (s t : ByteArray) : B (s ++ t) = B s ++ B t := by unfold B; simp
theorem B_mk (l : List UInt8) : B ⟨l.toArray⟩ = l := by simp [B]
theorem size_B (s : ByteArray) : s.size = (B s).length := (Gf s).symm
theorem mk_append (a b : List UInt8) : (⟨a.toArray⟩ : ByteArray) ++ ⟨b.toArray⟩ = ⟨(a ++ b).toArray⟩ := Hy (by rw [Hf, B_mk, B_mk, B_mk])
def dec (n : Int) : ByteArray := ⟨(Lib.itoa n).toArray⟩
theorem B_dec (n : Int) : B (dec n) = Lib.itoa n := B_mk _
theorem dec_size (n : Int) (h0 : -9223372036854775808 ≤ n) (h1 : n ≤ 9223372036854775807) : (dec n).size ≤ 21 := by
 rw [size_B, B_dec]; exact Lib.itoa_length_le n h0 h1
theorem implDec (n : Int) (h0 : -9223372036854775808 ≤ n) (h1 : n ≤ 9223372036854775807) : Fh.f n = some (dec n) := by
 unfold Fh.f Ho.f
 rw [if_pos ⟨h0, h1⟩]
 rfl
theorem digit_cut (d : Nat) (h : d < 10) : (⟨#[48, 49, 50, 51, 52, 53, 54, 55, 56, 57]⟩ : ByteArray).extract d (d + 1) = ⟨[UInt8.ofNat (48 + d)].toArray⟩ := by
 have : d = 0 ∨ d = 1 ∨ d = 2 ∨ d = 3 ∨ d = 4 ∨ d = 5 ∨ d = 6 ∨ d = 7 ∨ d = 8 ∨ d = 9 := by omega
 rcases this with rfl | rfl | rfl | rfl | rfl | rfl | rfl | rfl | rfl | rfl <;> rfl
theorem decDigits_le (u : Nat) (h : u ≤ 9223372036854775807) : (Lib.decDigits u).length ≤ 21 := by
 have := Lib.itoa_length_le (u : Int) (by omega) (by omega)
 unfold Lib.itoa at this
 rw [if_neg (by omega), Int.toNat_natCast] at this
 exact this
theorem specNum_nat : ∀ (m u : Nat), u ≤ m → u ≤ 9223372036854775807 → Ev (fun k => Dn.f k (u : Int)) ⟨(Lib.decDigits u).toArray⟩ := by
 intro m
 induction m with
 | zero =>
  intro u hu hb
  obtain rfl : u = 0 := by omega
  refine Ev.step (f := fun _ => some _) (fun k => ?_) (Ev.now _)
  simp only [Dn.f]
  rw [if_neg (by omega), if_pos (by omega), if_pos (by omega), Fz (by omega) (by omega), if_pos (by omega), if_pos (by omega), Lib.decDigits, dif_pos (by omega)]
  rfl
 | succ m ih =>
  intro u hu hb
  by_cases h : u < 10
  ·refine Ev.step (f := fun _ => some _) (fun k => ?_) (Ev.now _)
   simp only [Dn.f]
   rw [if_neg (by omega), if_pos (by omega), if_pos (by omega), Fz (by omega) (by omega), if_pos (by omega), if_pos (by omega), Lib.decDigits, dif_pos h, ← digit_cut u h]
   rfl
  ·have hd : wrap64 (Int.tdiv (u : Int) 10) = ((u / 10 : Nat) : Int) := by
    rw [Int.tdiv_eq_ediv_of_nonneg (by omega), Fz (by omega) (by omega)]; omega
   have hm : Int.tmod (u : Int) 10 = ((u % 10 : Nat) : Int) := by rw [Int.tmod_eq_emod_of_nonneg (by omega)]; omega
   refine Ev.step (f := fun k => (Dn.f k ((u / 10 : Nat) : Int)).bind fun t => if t.size + (⟨[UInt8.ofNat (48 + u % 10)].toArray⟩ : ByteArray).size ≤ 9223372036854775807 then some (t ++ ⟨[UInt8.ofNat (48 + u % 10)].toArray⟩) else none) (fun k => ?_) ?_
   ·simp only [Dn.f]
    rw [if_neg (by omega), if_neg (by omega), hd, hm]
    congr 1
    funext t
    rw [if_pos (by omega), Fz (x := ((u % 10 : Nat) : Int) + 1) (by omega) (by omega), if_pos (by omega), if_pos (by omega)]
    have e : (((u % 10 : Nat) : Int) + 1).toNat = u % 10 + 1 := by omega
    rw [Int.toNat_natCast, e, digit_cut (u % 10) (by omega)]
   ·have i1 := ih (u / 10) (by omega) (by omega)
    have hs := decDigits_le (u / 10) (by omega)
    refine Ev.bind i1 (Ev.congr (fun k => if_pos ?_) ?_)
    ·rw [size_B, size_B, B_mk, B_mk]; simp only [List.length_cons, List.length_nil]; omega
    ·rw [mk_append, Lib.decDigits.eq_1 u, dif_neg h]; exact Ev.now _
theorem specNum_ev (n : Int) (h0 : -9223372036854775807 ≤ n) (h1 : n ≤ 9223372036854775807) : Ev (fun k => Dn.f k n) (dec n) := by
 by_cases h : n < 0
 ·have e : wrap64 (-n) = ((n.natAbs : Nat) : Int) := by rw [Fz (by omega) (by omega)]; omega
  have hs := decDigits_le n.natAbs (by omega)
  refine Ev.step (f := fun k => (Dn.f k ((n.natAbs : Nat) : Int)).bind fun t => if 1 + t.size ≤ 9223372036854775807 then some ((⟨#[45]⟩ : ByteArray) ++ t) else none) (fun k => ?_) (Ev.bind (specNum_nat n.natAbs n.natAbs (Nat.le_refl _) (by omega)) (Ev.congr (fun k => if_pos ?_) ?_))
  ·simp only [Dn.f]
   rw [if_pos h, e]
  ·rw [size_B, B_mk]; omega
  ·have : dec n = (⟨#[45]⟩ : ByteArray) ++ ⟨(Lib.decDigits n.natAbs).toArray⟩ := Hy (by rw [Hf, B_dec, B_mk]; unfold Lib.itoa; rw [if_pos h]; rfl)
   rw [this]; exact Ev.now _
 ·obtain ⟨u, rfl⟩ : ∃ u : Nat, n = (u : Int) := ⟨n.toNat, by omega⟩
  have : dec (u : Int) = ⟨(Lib.decDigits u).toArray⟩ := by unfold dec Lib.itoa; rw [if_neg h, Int.toNat_natCast]
  rw [this]
  exact specNum_nat u u (Nat.le_refl _) (by omega)
/-- The names of the holds of a number from 1 to 15. -/
def hold (n : Int) : ByteArray × Bool := (Dj.f 6 n).getD (ByteArray.empty, true)
theorem hold_all : ∀ i : Fin 15, Dj.f 6 ((i.val : Int) + 1) = some (hold ((i.val : Int) + 1)) ∧ D9.f 6 ((i.val : Int) + 1) = some (hold ((i.val : Int) + 1)) ∧ (hold ((i.val : Int) + 1)).1.size ≤ 60 := by decide +kernel
theorem hold_at (n : Int) (h0 : 1 ≤ n) (h1 : n ≤ 15) : Dj.f 6 n = some (hold n) ∧ D9.f 6 n = some (hold n) ∧ (hold n).1.size ≤ 60 := by
 have := hold_all ⟨(n - 1).toNat, by omega⟩
 rw [show (((n - 1).toNat : Nat) : Int) + 1 = n from by omega] at this
 exact this
theorem mono_le {α : Type} {g : Nat → Option α} (hm : ∀ k, LeO (g k) (g (k + 1))) {k : Nat} {r : α} (h : g k = some r) : ∀ j, k ≤ j → g j = some r := by
 intro j hj
 obtain ⟨d, rfl⟩ := Nat.exists_eq_add_of_le hj
 clear hj
 induction d with
 | zero => exact h
 | succ d ih => exact hm _ _ ih
def Ha (kind : Int) (id : ByteArray) (a b : Int) : ByteArray :=
 if kind = 1 then ((((⟨#[67, 111, 110, 116, 97, 105, 110, 101, 114, 32]⟩ : ByteArray) ++ id) ++ (⟨#[32, 104, 97, 115, 32, 97, 114, 114, 105, 118, 101, 100, 32, 105, 110, 32, 115, 116, 97, 99, 107, 32]⟩ : ByteArray)) ++ dec a) ++ (⟨#[46]⟩ : ByteArray)
 else if kind = 2 then ((((((⟨#[67, 111, 110, 116, 97, 105, 110, 101, 114, 32]⟩ : ByteArray) ++ id) ++ (⟨#[32, 119, 97, 115, 32, 109, 111, 118, 101, 100, 32, 102, 114, 111, 109, 32, 115, 116, 97, 99, 107, 32]⟩ : ByteArray)) ++ dec a) ++ (⟨#[32, 116, 111, 32, 115, 116, 97, 99, 107, 32]⟩ : ByteArray)) ++ dec b) ++ (⟨#[46]⟩ : ByteArray)
 else if kind = 3 then ((((⟨#[67, 111, 110, 116, 97, 105, 110, 101, 114, 32]⟩ : ByteArray) ++ id) ++ (⟨#[32, 105, 115, 32, 104, 101, 108, 100, 32, 102, 111, 114, 32]⟩ : ByteArray)) ++ (hold a).1) ++ (⟨#[46]⟩ : ByteArray)
 else if kind = 4 then ((((⟨#[67, 111, 110, 116, 97, 105, 110, 101, 114, 32]⟩ : ByteArray) ++ id) ++ (⟨#[32, 105, 115, 32, 114, 101, 97, 100, 121, 32, 102, 111, 114, 32, 112, 105, 99, 107, 117, 112, 32, 105, 110, 32, 115, 108, 111, 116, 32]⟩ : ByteArray)) ++ dec a) ++ (⟨#[46]⟩ : ByteArray)
 else if b = 1 then ((((⟨#[67, 111, 110, 116, 97, 105, 110, 101, 114, 32]⟩ : ByteArray) ++ id) ++ (⟨#[32, 111, 119, 101, 115, 32]⟩ : ByteArray)) ++ dec a) ++ (⟨#[32, 102, 111, 114, 32, 49, 32, 100, 97, 121, 46]⟩ : ByteArray)
 else ((((((⟨#[67, 111, 110, 116, 97, 105, 110, 101, 114, 32]⟩ : ByteArray) ++ id) ++ (⟨#[32, 111, 119, 101, 115, 32]⟩ : ByteArray)) ++ dec a) ++ (⟨#[32, 102, 111, 114, 32]⟩ : ByteArray)) ++ dec b) ++ (⟨#[32, 100, 97, 121, 115, 46]⟩ : ByteArray)
theorem Gw {kind : Int} {id : ByteArray} {a b : Int} (h : F8 kind id a b = true) : id.size = 8 ∧ (1 ≤ kind ∧ kind ≤ 5) ∧ (0 ≤ a ∧ a ≤ 999999) ∧ (0 ≤ b ∧ b ≤ 999999) ∧ (kind = 3 → 1 ≤ a ∧ a ≤ 15) := by
 unfold F8 at h
 simp only [Bool.and_eq_true] at h
 obtain ⟨h1, h2⟩ := h
 have h3 : id.size = 8 := by
  unfold idOk at h1
  simp only [Bool.and_eq_true, decide_eq_true_eq] at h1
  exact h1.1
 refine ⟨h3, ?_⟩
 clear h1 h3
 repeat' split at h2
 all_goals (simp_all <;> omega)
theorem dec_sz (n : Int) (h : 0 ≤ n ∧ n ≤ 999999) : (dec n).size ≤ 21 := dec_size n (by omega) (by omega)
theorem implText_ev (kind : Int) (id : ByteArray) (a b : Int) (h : F8 kind id a b = true) : Ev (fun k => Dp.f k kind id a b) (Ha kind id a b) := by
 obtain ⟨hi, hk, ha, hb, h3⟩ := Gw h
 have da := dec_sz a ha
 have db := dec_sz b hb
 clear h
 have zC_ : (⟨#[67, 111, 110, 116, 97, 105, 110, 101, 114, 32]⟩ : ByteArray).size = 10 := rfl
 have zarr_ : (⟨#[32, 104, 97, 115, 32, 97, 114, 114, 105, 118, 101, 100, 32, 105, 110, 32, 115, 116, 97, 99, 107, 32]⟩ : ByteArray).size = 22 := rfl
 have zmov_ : (⟨#[32, 119, 97, 115, 32, 109, 111, 118, 101, 100, 32, 102, 114, 111, 109, 32, 115, 116, 97, 99, 107, 32]⟩ : ByteArray).size = 22 := rfl
 have zto_ : (⟨#[32, 116, 111, 32, 115, 116, 97, 99, 107, 32]⟩ : ByteArray).size = 10 := rfl
 have zheld_ : (⟨#[32, 105, 115, 32, 104, 101, 108, 100, 32, 102, 111, 114, 32]⟩ : ByteArray).size = 13 := rfl
 have zrdy_ : (⟨#[32, 105, 115, 32, 114, 101, 97, 100, 121, 32, 102, 111, 114, 32, 112, 105, 99, 107, 117, 112, 32, 105, 110, 32, 115, 108, 111, 116, 32]⟩ : ByteArray).size = 29 := rfl
 have zowes_ : (⟨#[32, 111, 119, 101, 115, 32]⟩ : ByteArray).size = 6 := rfl
 have zone_ : (⟨#[32, 102, 111, 114, 32, 49, 32, 100, 97, 121, 46]⟩ : ByteArray).size = 11 := rfl
 have zfor_ : (⟨#[32, 102, 111, 114, 32]⟩ : ByteArray).size = 5 := rfl
 have zdays_ : (⟨#[32, 100, 97, 121, 115, 46]⟩ : ByteArray).size = 6 := rfl
 have zdot_ : (⟨#[46]⟩ : ByteArray).size = 1 := rfl
 have zoneday_ : (⟨#[49, 32, 100, 97, 121]⟩ : ByteArray).size = 5 := rfl
 have zsdays_ : (⟨#[32, 100, 97, 121, 115]⟩ : ByteArray).size = 5 := rfl
 refine ⟨6, fun k hk6 => ?_⟩
 unfold Dp.f Ha
 rw [implDec a (by omega) (by omega), implDec b (by omega) (by omega)]
 have kk : kind = 1 ∨ kind = 2 ∨ kind = 3 ∨ kind = 4 ∨ kind = 5 := by omega
 rcases kk with rfl | rfl | rfl | rfl | rfl
 ·simp only [Option.bind_some, if_true]
  repeat rw [if_pos (by (try simp only [ByteArray.size_append]); omega)]
 ·simp only [Option.bind_some, if_true, if_neg (show ¬ (2 : Int) = 1 by decide)]
  repeat rw [if_pos (by (try simp only [ByteArray.size_append]); omega)]
 ·obtain ⟨_, e3, z3⟩ := hold_at a (h3 rfl).1 (h3 rfl).2
  have e4 := mono_le (g := fun k => D9.f k a) (fun k => D9.mono _ _) e3 k hk6
  simp only [e4, Option.bind_some, if_true, if_neg (show ¬ (3 : Int) = 1 by decide), if_neg (show ¬ (3 : Int) = 2 by decide)]
  repeat rw [if_pos (by (try simp only [ByteArray.size_append]); omega)]
 ·simp only [Option.bind_some, if_true, if_neg (show ¬ (4 : Int) = 1 by decide), if_neg (show ¬ (4 : Int) = 2 by decide), if_neg (show ¬ (4 : Int) = 3 by decide)]
  repeat rw [if_pos (by (try simp only [ByteArray.size_append]); omega)]
 ·simp only [Option.bind_some, if_neg (show ¬ (5 : Int) = 1 by decide), if_neg (show ¬ (5 : Int) = 2 by decide), if_neg (show ¬ (5 : Int) = 3 by decide), if_neg (show ¬ (5 : Int) = 4 by decide)]
  by_cases b1 : b = 1
  ·simp only [if_pos b1]
   repeat rw [if_pos (by (try simp only [ByteArray.size_append]); omega)]
  ·simp only [if_neg b1]
   repeat rw [if_pos (by (try simp only [ByteArray.size_append]); omega)]
theorem day_one (x : ByteArray) : ((x ++ (⟨#[32, 102, 111, 114, 32]⟩ : ByteArray)) ++ (⟨#[49, 32, 100, 97, 121]⟩ : ByteArray)) ++ (⟨#[46]⟩ : ByteArray) = x ++ (⟨#[32, 102, 111, 114, 32, 49, 32, 100, 97, 121, 46]⟩ : ByteArray) := by
 rw [ByteArray.append_assoc, ByteArray.append_assoc]
 exact congrArg (fun z => x ++ z) (by decide +kernel)
theorem day_days (x d : ByteArray) : (x ++ (d ++ (⟨#[32, 100, 97, 121, 115]⟩ : ByteArray))) ++ (⟨#[46]⟩ : ByteArray) = (x ++ d) ++ (⟨#[32, 100, 97, 121, 115, 46]⟩ : ByteArray) := by
 rw [← ByteArray.append_assoc, ByteArray.append_assoc]
 exact congrArg (fun z => (x ++ d) ++ z) (by decide +kernel)
theorem specText_ev (kind : Int) (id : ByteArray) (a b : Int) (h : F8 kind id a b = true) : Ev (fun k => Dt.f k kind id a b) (Ha kind id a b) := by
 obtain ⟨hi, hk, ha, hb, h3⟩ := Gw h
 have da := dec_sz a ha
 have db := dec_sz b hb
 clear h
 have zC_ : (⟨#[67, 111, 110, 116, 97, 105, 110, 101, 114, 32]⟩ : ByteArray).size = 10 := rfl
 have zarr_ : (⟨#[32, 104, 97, 115, 32, 97, 114, 114, 105, 118, 101, 100, 32, 105, 110, 32, 115, 116, 97, 99, 107, 32]⟩ : ByteArray).size = 22 := rfl
 have zmov_ : (⟨#[32, 119, 97, 115, 32, 109, 111, 118, 101, 100, 32, 102, 114, 111, 109, 32, 115, 116, 97, 99, 107, 32]⟩ : ByteArray).size = 22 := rfl
 have zto_ : (⟨#[32, 116, 111, 32, 115, 116, 97, 99, 107, 32]⟩ : ByteArray).size = 10 := rfl
 have zheld_ : (⟨#[32, 105, 115, 32, 104, 101, 108, 100, 32, 102, 111, 114, 32]⟩ : ByteArray).size = 13 := rfl
 have zrdy_ : (⟨#[32, 105, 115, 32, 114, 101, 97, 100, 121, 32, 102, 111, 114, 32, 112, 105, 99, 107, 117, 112, 32, 105, 110, 32, 115, 108, 111, 116, 32]⟩ : ByteArray).size = 29 := rfl
 have zowes_ : (⟨#[32, 111, 119, 101, 115, 32]⟩ : ByteArray).size = 6 := rfl
 have zone_ : (⟨#[32, 102, 111, 114, 32, 49, 32, 100, 97, 121, 46]⟩ : ByteArray).size = 11 := rfl
 have zfor_ : (⟨#[32, 102, 111, 114, 32]⟩ : ByteArray).size = 5 := rfl
 have zdays_ : (⟨#[32, 100, 97, 121, 115, 46]⟩ : ByteArray).size = 6 := rfl
 have zdot_ : (⟨#[46]⟩ : ByteArray).size = 1 := rfl
 have zoneday_ : (⟨#[49, 32, 100, 97, 121]⟩ : ByteArray).size = 5 := rfl
 have zsdays_ : (⟨#[32, 100, 97, 121, 115]⟩ : ByteArray).size = 5 := rfl
 obtain ⟨ka, ea⟩ := specNum_ev a (by omega) (by omega)
 obtain ⟨kb, eb⟩ := specNum_ev b (by omega) (by omega)
 refine ⟨6 + ka + kb, fun k hk6 => ?_⟩
 replace ea := ea k (by omega)
 replace eb := eb k (by omega)
 dsimp only at ea eb
 unfold Dt.f Ha Gy.f
 have kk : kind = 1 ∨ kind = 2 ∨ kind = 3 ∨ kind = 4 ∨ kind = 5 := by omega
 rcases kk with rfl | rfl | rfl | rfl | rfl
 ·simp only [ea, eb, Option.bind_some, if_true]
  repeat rw [if_pos (by (try simp only [ByteArray.size_append]); omega)]
 ·simp only [ea, eb, Option.bind_some, if_true, if_neg (show ¬ (2 : Int) = 1 by decide)]
  repeat rw [if_pos (by (try simp only [ByteArray.size_append]); omega)]
 ·obtain ⟨e3, _, z3⟩ := hold_at a (h3 rfl).1 (h3 rfl).2
  have e4 := mono_le (g := fun k => Dj.f k a) (fun k => Dj.mono _ _) e3 k (by omega)
  simp only [e4, Option.bind_some, if_true, if_neg (show ¬ (3 : Int) = 1 by decide), if_neg (show ¬ (3 : Int) = 2 by decide)]
  repeat rw [if_pos (by (try simp only [ByteArray.size_append]); omega)]
 ·simp only [ea, Option.bind_some, if_true, if_neg (show ¬ (4 : Int) = 1 by decide), if_neg (show ¬ (4 : Int) = 2 by decide), if_neg (show ¬ (4 : Int) = 3 by decide)]
  repeat rw [if_pos (by (try simp only [ByteArray.size_append]); omega)]
 ·simp only [ea, eb, Option.bind_some, if_neg (show ¬ (5 : Int) = 1 by decide), if_neg (show ¬ (5 : Int) = 2 by decide), if_neg (show ¬ (5 : Int) = 3 by decide), if_neg (show ¬ (5 : Int) = 4 by decide)]
  by_cases b1 : b = 1
  ·simp only [if_pos b1, Option.bind_some]
   rw [← day_one]
   repeat rw [if_pos (by (try simp only [ByteArray.size_append]); omega)]
  ·simp only [if_neg b1, Option.bind_some]
   rw [← day_days]
   repeat (first | rw [if_pos (by (try simp only [ByteArray.size_append]); omega)] | rw [Option.bind_some])
theorem text_size (kind : Int) (id : ByteArray) (a b : Int) (h : F8 kind id a b = true) : (Ha kind id a b).size ≤ 150 := by
 obtain ⟨hi, hk, ha, hb, h3⟩ := Gw h
 have da := dec_sz a ha
 have db := dec_sz b hb
 have zC_ : (⟨#[67, 111, 110, 116, 97, 105, 110, 101, 114, 32]⟩ : ByteArray).size = 10 := rfl
 have zarr_ : (⟨#[32, 104, 97, 115, 32, 97, 114, 114, 105, 118, 101, 100, 32, 105, 110, 32, 115, 116, 97, 99, 107, 32]⟩ : ByteArray).size = 22 := rfl
 have zmov_ : (⟨#[32, 119, 97, 115, 32, 109, 111, 118, 101, 100, 32, 102, 114, 111, 109, 32, 115, 116, 97, 99, 107, 32]⟩ : ByteArray).size = 22 := rfl
 have zto_ : (⟨#[32, 116, 111, 32, 115, 116, 97, 99, 107, 32]⟩ : ByteArray).size = 10 := rfl
 have zheld_ : (⟨#[32, 105, 115, 32, 104, 101, 108, 100, 32, 102, 111, 114, 32]⟩ : ByteArray).size = 13 := rfl
 have zrdy_ : (⟨#[32, 105, 115, 32, 114, 101, 97, 100, 121, 32, 102, 111, 114, 32, 112, 105, 99, 107, 117, 112, 32, 105, 110, 32, 115, 108, 111, 116, 32]⟩ : ByteArray).size = 29 := rfl
 have zowes_ : (⟨#[32, 111, 119, 101, 115, 32]⟩ : ByteArray).size = 6 := rfl
 have zone_ : (⟨#[32, 102, 111, 114, 32, 49, 32, 100, 97, 121, 46]⟩ : ByteArray).size = 11 := rfl
 have zfor_ : (⟨#[32, 102, 111, 114, 32]⟩ : ByteArray).size = 5 := rfl
 have zdays_ : (⟨#[32, 100, 97, 121, 115, 46]⟩ : ByteArray).size = 6 := rfl
 have zdot_ : (⟨#[46]⟩ : ByteArray).size = 1 := rfl
 have zoneday_ : (⟨#[49, 32, 100, 97, 121]⟩ : ByteArray).size = 5 := rfl
 have zsdays_ : (⟨#[32, 100, 97, 121, 115]⟩ : ByteArray).size = 5 := rfl
 have z3 : kind = 3 → (hold a).1.size ≤ 60 := fun h_ => (hold_at a (h3 h_).1 (h3 h_).2).2.2
 unfold Ha
 repeat' split
 all_goals (simp only [ByteArray.size_append]; omega)
def tx (x : Note) : ByteArray := Ha x.f0 x.f1 x.f2 x.f3
abbrev spB : ByteArray := ⟨#[32]⟩
theorem join_snoc (l : List ByteArray) (s x : ByteArray) : joinB (l ++ [x]) s = if l = [] then x else (joinB l s ++ s) ++ x := by
 refine Hy ?_
 cases l with
 | nil => simp [joinB, B, Lib.join_one]
 | cons y r =>
  rw [if_neg (by simp), Hf, Hf]
  simp only [joinB, B_mk, List.map_append, List.map_cons, List.map_nil, List.cons_append]
  rw [Lib.join_cons, Lib.join_cons]
  simp [Lib.joinTail, B, List.append_assoc]
/-- What has been told of a report. -/
def told (l : List Note) : ByteArray := joinB (l.map tx) spB
theorem told_snoc (l : List Note) (x : Note) : told (l ++ [x]) = if l = [] then tx x else (told l ++ spB) ++ tx x := by
 unfold told
 rw [List.map_append, List.map_cons, List.map_nil, join_snoc]
 by_cases h : l = []
 ·subst h; rfl
 ·rw [if_neg h, if_neg (by simpa using h)]
theorem told_nil : told [] = (⟨#[]⟩ : ByteArray) := rfl
theorem told_size : ∀ (n : Nat) (l : List Note), l.length = n → (∀ x ∈ l, F8 x.f0 x.f1 x.f2 x.f3 = true) → (told l).size ≤ 151 * n
 | 0, l, hl, _ => by rw [List.eq_nil_of_length_eq_zero hl, told_nil]; exact Nat.le_refl _
 | n + 1, l, hl, h => by
  have hne : l ≠ [] := by intro e; rw [e] at hl; cases hl
  have hd : l = l.dropLast ++ [l.getLast hne] := (List.dropLast_concat_getLast hne).symm
  have ih := told_size n l.dropLast (by simp [hl]) (fun x hx => h x (List.dropLast_subset l hx))
  have hx := text_size _ _ _ _ (h _ (List.getLast_mem hne))
  have e1 : spB.size = 1 := rfl
  rw [hd, told_snoc]
  unfold tx
  split
  ·omega
  ·simp only [ByteArray.size_append]; omega
def reportText (l : List Note) : ByteArray × Bool := if report l = true then (told l, true) else (⟨#[]⟩, false)
theorem implReportText_ev (l : List Note) : Ev (fun k => Dq.f k l) (reportText l) := by
 unfold Dq.f reportText
 simp only [implReport, Option.bind_some]
 cases c : report l with
 | false => simp only [Bool.false_eq_true, if_false]; exact Ev.now _
 | true =>
  simp only [if_true]
  obtain ⟨hl, ho⟩ := I5 c
  have key : ∀ (d n : Nat), n + d = l.length → Ev (fun k => Dq.l0 k ((l.take n).map tx) l (l.length : Int) (n : Int)) (told l, true) := by
   intro d
   induction d with
   | zero =>
    intro n hn
    obtain rfl : n = l.length := by omega
    refine Ev.step (f := fun _ => some _) (fun k => ?_) (Ev.now _)
    simp only [Dq.l0]
    rw [if_neg (by omega), List.take_length]
    have hs := told_size _ l rfl ho
    unfold strings_Join.f
    rw [if_pos ⟨by simp; omega, by show (told l).size ≤ _; omega⟩]
    rfl
   | succ d ih =>
    intro n hn
    have hn2 : n < l.length := by omega
    refine Ev.step (f := fun k => (Dp.f k l[n].f0 l[n].f1 l[n].f2 l[n].f3).bind fun t => if ((l.take n).map tx).length < 8796093022208 then Dq.l0 k ((l.take n).map tx ++ [t]) l (l.length : Int) ((n + 1 : Nat) : Int) else none) (fun k => ?_) ?_
    ·simp only [Dq.l0]
     rw [if_pos (by omega), if_pos (by omega), if_pos (by omega), rdN l n hn2, wrap_succ (by omega)]
    ·refine Ev.bind (implText_ev _ _ _ _ (ho _ (List.getElem_mem hn2))) ?_
     refine Ev.congr (fun k => if_pos (by simp; omega)) ?_
     have := ih (n + 1) (by omega)
     rw [List.take_succ_eq_append_getElem hn2, List.map_append] at this
     exact this
  exact key l.length 0 (by omega)
theorem Ik (l : List Note) (h : l.length ≤ 1048576) : Ev (fun k => Cf.f k l) (reportText l) := by
 unfold Cf.f reportText
 refine Ev.bind (specReport_ev l h) ?_
 cases c : report l with
 | false => simp only [Bool.false_eq_true, if_false]; exact Ev.now _
 | true =>
  simp only [if_true]
  obtain ⟨hl, ho⟩ := I5 c
  have key : ∀ (d n : Nat), n + d = l.length → Ev (fun k => Cf.l0 k l (told (l.take n)) (n : Int)) (told l, true) := by
   intro d
   induction d with
   | zero =>
    intro n hn
    obtain rfl : n = l.length := by omega
    refine Ev.step (f := fun _ => some _) (fun k => ?_) (Ev.now _)
    simp only [Cf.l0]
    rw [if_neg (by omega), List.take_length]
   | succ d ih =>
    intro n hn
    have hn2 : n < l.length := by omega
    have hs := told_size _ (l.take n) rfl (fun x hx => ho x (List.mem_of_mem_take hx))
    rw [List.length_take] at hs
    have ht := text_size _ _ _ _ (ho _ (List.getElem_mem hn2))
    have e1 : (⟨#[32]⟩ : ByteArray).size = 1 := rfl
    have ih := ih (n + 1) (by omega)
    rw [List.take_succ_eq_append_getElem hn2, told_snoc] at ih
    by_cases z : n = 0
    ·subst z
     refine Ev.step (f := fun k => (Dt.f k l[0].f0 l[0].f1 l[0].f2 l[0].f3).bind fun t => if (told (l.take 0)).size + t.size ≤ 9223372036854775807 then Cf.l0 k l (told (l.take 0) ++ t) ((0 + 1 : Nat) : Int) else none) (fun k => ?_) ?_
     ·simp only [Cf.l0]
      rw [if_pos (by omega), if_neg (by omega), if_pos (by omega), rdN l 0 hn2, wrap_succ (by omega)]
     ·refine Ev.bind (specText_ev _ _ _ _ (ho _ (List.getElem_mem hn2))) ?_
      refine Ev.congr (fun k => if_pos (by omega)) ?_
      rw [if_pos (show l.take 0 = [] from rfl)] at ih
      have e : told (l.take 0) ++ tx l[0] = tx l[0] := Hy (by rw [Hf]; rfl)
      unfold tx at e ih
      rw [e]; exact ih
    ·refine Ev.step (f := fun k => (Dt.f k l[n].f0 l[n].f1 l[n].f2 l[n].f3).bind fun t => if (told (l.take n) ++ (⟨#[32]⟩ : ByteArray)).size + t.size ≤ 9223372036854775807 then Cf.l0 k l ((told (l.take n) ++ (⟨#[32]⟩ : ByteArray)) ++ t) ((n + 1 : Nat) : Int) else none) (fun k => ?_) ?_
     ·simp only [Cf.l0]
      rw [if_pos (by omega), if_pos (by omega), if_pos (by omega), if_pos (by omega), rdN l n hn2, wrap_succ (by omega)]
     ·refine Ev.bind (specText_ev _ _ _ _ (ho _ (List.getElem_mem hn2))) ?_
      refine Ev.congr (fun k => if_pos (by simp only [ByteArray.size_append]; omega)) ?_
      rw [if_neg (by intro e; have h9 := congrArg List.length e; rw [List.length_take, List.length_nil] at h9; omega)] at ih
      exact ih
  exact key l.length 0 (by omega)
def mk (l : List UInt8) : ByteArray := ⟨l.toArray⟩
theorem Gn (l : List UInt8) : B (mk l) = l := B_mk l
theorem mk_of_B (s : ByteArray) : mk (B s) = s := Hy (B_mk _)
theorem Ih (l : List UInt8) : (mk l).size = l.length := by rw [size_B, Gn]
theorem mk_inj {a b : List UInt8} (h : mk a = mk b) : a = b := by have := congrArg B h; rwa [Gn, Gn] at this
theorem Gu (s : ByteArray) (i j : Nat) : B (s.extract i j) = ((B s).drop i).take (j - i) := by
 unfold B; simp [List.extract_eq_take_drop]
def isD (b : UInt8) : Prop := 48 ≤ b.toNat ∧ b.toNat ≤ 57
theorem digit_ofNat (d : Nat) (h : d < 10) : (UInt8.ofNat (48 + d)).toNat = 48 + d := by simp; omega
theorem dd_range : ∀ (m u : Nat), u ≤ m → ∀ b ∈ Lib.decDigits u, isD b := by
 intro m
 have one : ∀ d : Nat, d < 10 → isD (UInt8.ofNat (48 + d)) := by
  intro d hd
  have := digit_ofNat d hd
  unfold isD; omega
 induction m with
 | zero =>
  intro u hu b hb
  rw [Lib.decDigits, dif_pos (by omega)] at hb
  simp only [List.mem_singleton] at hb
  subst hb; exact one u (by omega)
 | succ m ih =>
  intro u hu b hb
  by_cases c : u < 10
  ·rw [Lib.decDigits, dif_pos c] at hb
   simp only [List.mem_singleton] at hb
   subst hb; exact one u c
  ·rw [Lib.decDigits.eq_1 u, dif_neg c] at hb
   rcases List.mem_append.1 hb with hb | hb
   ·exact ih (u / 10) (by omega) b hb
   ·simp only [List.mem_singleton] at hb
    subst hb; exact one _ (by omega)
@[irreducible] def push (a : Nat) (b : UInt8) : Nat := a * 10 + (b.toNat - 48)
theorem push_eq (a : Nat) (b : UInt8) : push a b = a * 10 + (b.toNat - 48) := by unfold push; rfl
def val (a : Nat) (l : List UInt8) : Nat := l.foldl push a
theorem val_nil (a : Nat) : val a [] = a := rfl
theorem val_cons (a : Nat) (b : UInt8) (l : List UInt8) : val a (b :: l) = val (a * 10 + (b.toNat - 48)) l := by rw [← push_eq]; rfl
theorem val_snoc (b : UInt8) (l : List UInt8) (a : Nat) : val a (l ++ [b]) = val a l * 10 + (b.toNat - 48) := by rw [← push_eq]; unfold val; rw [List.foldl_append]; rfl
theorem val_ge : ∀ (l : List UInt8) (a : Nat), a ≤ val a l
 | [], a => by rw [val_nil]; exact Nat.le_refl _
 | b :: l, a => by have := val_ge l (a * 10 + (b.toNat - 48)); rw [val_cons]; omega
theorem val_dd : ∀ (m u : Nat), u ≤ m → val 0 (Lib.decDigits u) = u := by
 intro m
 induction m with
 | zero =>
  intro u hu
  obtain rfl : u = 0 := by omega
  rw [Lib.decDigits, dif_pos (by omega)]
  rw [val_cons, val_nil, digit_ofNat 0 (by omega)]
 | succ m ih =>
  intro u hu
  by_cases c : u < 10
  ·rw [Lib.decDigits, dif_pos c]; rw [val_cons, val_nil, digit_ofNat u c]; omega
  ·rw [Lib.decDigits.eq_1 u, dif_neg c, val_snoc, ih (u / 10) (by omega), digit_ofNat _ (by omega)]; omega
theorem val_lt : ∀ (l : List UInt8) (a n : Nat), (∀ b ∈ l, isD b) → a < 10 ^ n → val a l < 10 ^ (n + l.length)
 | [], a, n, _, h => by rw [val_nil]; exact h
 | b :: l, a, n, hl, h => by
  have hb := hl b (by simp)
  unfold isD at hb
  rw [val_cons, List.length_cons, show n + (l.length + 1) = (n + 1) + l.length from by omega]
  exact val_lt l _ (n + 1) (fun x hx => hl x (by simp [hx])) (by rw [Nat.pow_succ]; omega)
theorem dd_ne (u : Nat) : Lib.decDigits u ≠ [] := by
 rw [Lib.decDigits]; split <;> simp
theorem dd_len : ∀ (n u : Nat), 1 ≤ n → u < 10 ^ n → (Lib.decDigits u).length ≤ n := by
 intro n
 induction n with
 | zero => intro u h; omega
 | succ n ih =>
  intro u _ h
  rw [Lib.decDigits]
  by_cases c : u < 10
  ·rw [dif_pos c]; simp
  ·rw [dif_neg c, List.length_append]
   have : 1 ≤ n := by
    rcases Nat.eq_zero_or_pos n with rfl | h2
    ·simp at h; omega
    ·exact h2
   have := ih (u / 10) this (by rw [Nat.pow_succ] at h; omega)
   simp; omega
theorem parse10 : ∀ (l : List UInt8) (a : Nat), (∀ b ∈ l, isD b) → val a l < 1000000000 → Lib.parseUint10 a l = .ok (val a l)
 | [], a, _, _ => by rw [val_nil]; rfl
 | b :: l, a, hl, h => by
  have hb := hl b (by simp)
  unfold isD at hb
  rw [val_cons] at h ⊢
  have := val_ge l (a * 10 + (b.toNat - 48))
  rw [Lib.parseUint10, if_pos hb, if_neg (by omega), if_neg (by omega)]
  exact parse10 l _ (fun x hx => hl x (by simp [hx])) h
theorem B_decN (u : Nat) : B (dec (u : Int)) = Lib.decDigits u := by rw [B_dec]; unfold Lib.itoa; rw [if_neg (by omega)]; simp
theorem atoi_dd (u : Nat) (h : u ≤ 999999) : Lib.atoiAll (Lib.decDigits u) = .ok (u : Int) := by
 have hr := dd_range u u (Nat.le_refl _)
 have hv := val_dd u u (Nat.le_refl _)
 cases e : Lib.decDigits u with
 | nil => exact absurd e (dd_ne u)
 | cons c r =>
  rw [e] at hr hv
  have hc := hr c (by simp)
  unfold isD at hc
  have hp := parse10 (c :: r) 0 hr (by omega)
  unfold Lib.atoiAll
  simp only [if_neg (show ¬ (c.toNat = 43 ∨ c.toNat = 45) by omega)]
  unfold Lib.parseMag
  rw [if_neg (by simp), hp, hv]
  simp only [show ¬ c.toNat = 45 from by omega, false_and, not_false_eq_true, true_and, if_false]
  rw [if_neg (by omega)]
theorem parseInt_dd (u : Nat) (h : u ≤ 999999) : G6.f (mk (Lib.decDigits u)) = some ((u : Int), true) := by
 have hl := dd_len 6 u (by omega) (by omega)
 unfold G6.f
 rw [if_pos (by rw [Ih]; omega), show (mk (Lib.decDigits u)).data.toList = Lib.decDigits u from Gn _, atoi_dd u h]
 simp only [implDec (u : Int) (by omega) (by omega), Option.bind_some]
 rw [if_pos (by omega), if_pos (by rw [Gq, Gq, B_decN, Gn])]
/-- ParseInt comes to an end. -/
theorem parseInt_total (w : ByteArray) (h : w.size ≤ 281474976710656) : ∃ v o, G6.f w = some (v, o) := by
 unfold G6.f
 rw [if_pos h]
 rcases Lib.atoiAll w.data.toList with v | _ | _
 ·dsimp only
  by_cases c : -999999 ≤ v ∧ v ≤ 999999
  ·rw [if_pos c, implDec v (by omega) (by omega), Option.bind_some]
   by_cases d : (dec v).toList = w.toList
   ·rw [if_pos d]; exact ⟨_, _, rfl⟩
   ·rw [if_neg d]; exact ⟨_, _, rfl⟩
  ·rw [if_neg c]; exact ⟨_, _, rfl⟩
 ·exact ⟨_, _, rfl⟩
 ·exact ⟨_, _, rfl⟩
theorem H8 (T K : ByteArray) : Cc.f T K = some (if (B K).isPrefixOf (B T) = true then (mk ((B T).drop (B K).length), true) else ((⟨#[]⟩ : ByteArray), false)) := by
 have ht := Gf T
 have hk := Gf K
 unfold Cc.f
 by_cases c : (T.size : Int) < (K.size : Int)
 ·rw [if_pos c, if_neg]
  intro hp
  have := (List.isPrefixOf_iff_prefix.1 hp).length_le
  omega
 ·rw [if_neg c, if_pos (by omega), if_pos (by omega)]
  have e1 : (T.extract 0 ((K.size : Int) : Int).toNat).toList = (B T).take (B K).length := by rw [Gq, Gu, hk]; simp
  have e2 : T.extract ((K.size : Int) : Int).toNat T.size = mk ((B T).drop (B K).length) := Hy (by rw [Gu, Gn, hk, Int.toNat_natCast, List.take_of_length_le (by simp; omega)])
  rw [e1, e2, Gq]
  by_cases hp : (B T).take (B K).length = B K
  ·rw [if_pos hp, if_pos (List.isPrefixOf_iff_prefix.2 (List.prefix_iff_eq_take.2 hp.symm))]
  ·rw [if_neg hp, if_neg (fun h => hp (List.prefix_iff_eq_take.1 (List.isPrefixOf_iff_prefix.1 h)).symm)]
theorem l1In_is (a b c : Int) : Eb.f a b c = some (decide (b ≤ a) && decide (a ≤ c)) := by
 unfold Eb.f
 by_cases h : a ≥ b
 ·rw [if_pos h]; simp [show b ≤ a from h]
 ·rw [if_neg h]; simp [show ¬ b ≤ a from h]
theorem read_ev (x : ByteArray) (hd : ∀ b ∈ B x, isD b) (hl : (B x).length ≤ 6) : ∃ v o, Ev (fun k => Dc.f k x) (v, o) ∧ (0 ≤ v ∧ v ≤ 999999) ∧ ∀ u : Nat, u ≤ 999999 → B x = Lib.decDigits u → v = (u : Int) := by
 have hs := Gf x
 have start : ∀ r, Ev (fun k => Dc.j0 k x x false) r → Ev (fun k => Dc.f k x) r := by
  intro r h
  refine Ev.congr (fun k => ?_) h
  unfold Dc.f
  by_cases c : (x.size : Int) > 1
  ·rw [if_pos c, if_pos (by omega)]
   have hb := bt_B x 0 (by omega)
   have hh := hd _ (List.getElem_mem (show 0 < (B x).length by omega))
   unfold isD at hh
   have : (bt x 0 == 45) = false := by
    rw [beq_eq_false_iff_ne]
    have h2 : bt x ((0 : Nat) : Int) = ((B x)[0].toNat : Int) := hb
    have h3 : bt x 0 = ((B x)[0].toNat : Int) := h2
    omega
   rw [this]
  ·rw [if_neg c]
 have j0 : ∀ r, Ev (fun k => Dc.j1 k x x) r → Ev (fun k => Dc.j0 k x x false) r := fun r h => Ev.step (fun k => by simp only [Dc.j0, Bool.false_eq_true, if_false]) h
 by_cases hz : (B x).length = 0
 ·refine ⟨0, false, start _ (j0 _ (Ev.step (f := fun _ => some (0, false)) (fun k => ?_) (Ev.now _))), by omega, fun u _ e => absurd (List.eq_nil_of_length_eq_zero hz) (by rw [e]; exact dd_ne u)⟩
  simp only [Dc.j1, l1In_is, Option.bind_some]
  rw [show (decide ((1 : Int) ≤ (x.size : Int)) && decide ((x.size : Int) ≤ 6)) = false from by simp; omega]
  rfl
 ·have key : ∀ (d n : Nat), n + d = (B x).length → ∃ v o, Ev (fun k => Dc.l0 k x x (val 0 ((B x).take n) : Int) (n : Int)) (v, o) ∧ (0 ≤ v ∧ v ≤ 999999) ∧ ∀ u : Nat, u ≤ 999999 → B x = Lib.decDigits u → v = (u : Int) := by
   intro d
   induction d with
   | zero =>
    intro n hn
    obtain rfl : n = (B x).length := by omega
    rw [List.take_length]
    have hv := val_lt (B x) 0 0 hd (by simp)
    have hv2 : val 0 (B x) < 10 ^ 6 := Nat.lt_of_lt_of_le hv (Nat.pow_le_pow_right (by omega) (by omega))
    have hv3 : val 0 (B x) < 1000000 := hv2
    have fin : ∀ r, Ev (fun k => (Dn.f k (val 0 (B x) : Int)).bind fun t => if t.toList = x.toList then some ((val 0 (B x) : Int), true) else some (0, false)) r → Ev (fun k => Dc.l0 k x x (val 0 (B x) : Int) ((B x).length : Int)) r := by
     intro r h
     refine Ev.step (fun k => ?_) h
     simp only [Dc.l0]
     rw [if_neg (by omega), if_neg (by omega)]
    by_cases c : (dec (val 0 (B x) : Int)).toList = x.toList
    ·refine ⟨_, true, fin _ (Ev.bind (specNum_ev _ (by omega) (by omega)) (Ev.congr (fun k => if_pos c) (Ev.now _))), by omega, fun u hu e => ?_⟩
     rw [e, val_dd u u (Nat.le_refl _)]
    ·refine ⟨0, false, fin _ (Ev.bind (specNum_ev _ (by omega) (by omega)) (Ev.congr (fun k => if_neg c) (Ev.now _))), by omega, fun u hu e => absurd ?_ c⟩
     rw [Gq, Gq, e, val_dd u u (Nat.le_refl _), B_decN]
   | succ d ih =>
    intro n hn
    have hl2 : n < (B x).length := by omega
    obtain ⟨v, o, he, hr⟩ := ih (n + 1) (by omega)
    refine ⟨v, o, Ev.step (fun k => ?_) he, hr⟩
    have hb := bt_B x n hl2
    have hh := hd _ (List.getElem_mem hl2)
    unfold isD at hh
    have hv := val_lt ((B x).take n) 0 0 (fun b hb => hd b (List.mem_of_mem_take hb)) (by simp)
    have hv2 : val 0 ((B x).take n) < 10 ^ 5 := Nat.lt_of_lt_of_le hv (Nat.pow_le_pow_right (by omega) (by rw [List.length_take]; omega))
    have hv3 : val 0 ((B x).take n) < 100000 := hv2
    simp only [Dc.l0]
    rw [if_pos (by omega), if_pos (by omega), if_neg (by omega), if_neg (by omega), wrap_succ (by omega), List.take_succ_eq_append_getElem hl2, val_snoc]
    have e1 : wrap64 (10 * (val 0 ((B x).take n) : Int)) = 10 * (val 0 ((B x).take n) : Int) := Fz (by omega) (by omega)
    have e2 : (bt x (n : Int) - 48) % 256 = ((B x)[n].toNat - 48 : Nat) := by omega
    have e3 : wrap64 (10 * (val 0 ((B x).take n) : Int) + (((B x)[n].toNat - 48 : Nat) : Int)) = ((val 0 ((B x).take n) * 10 + ((B x)[n].toNat - 48) : Nat) : Int) := by rw [Fz (by omega) (by omega)]; omega
    rw [e1, e2, e3]
  obtain ⟨v, o, he, hr⟩ := key (B x).length 0 (by omega)
  refine ⟨v, o, start _ (j0 _ (Ev.step (fun k => ?_) he)), hr⟩
  simp only [Dc.j1, l1In_is, Option.bind_some]
  rw [show (decide ((1 : Int) ≤ (x.size : Int)) && decide ((x.size : Int) ≤ 6)) = true from by simp; omega, if_pos rfl]
  rfl
theorem digits_ev (T : ByteArray) (hs : T.size ≤ 1000000000) : ∃ v R, Ev (fun k => Bg.f k T) (v, R) ∧ (0 ≤ v ∧ v ≤ 999999) ∧ R.size ≤ T.size ∧
  ∀ (u : Nat) (r : List UInt8), u ≤ 999999 → B T = Lib.decDigits u ++ r → (∀ b, r.head? = some b → ¬ isD b) → v = (u : Int) ∧ R = mk r := by
 have hl := Gf T
 have stop : ∀ n : Nat, n ≤ (B T).length → n ≤ 6 → (∀ b ∈ (B T).take n, isD b) → (n = (B T).length ∨ n = 6 ∨ ∃ h : n < (B T).length, ¬ isD (B T)[n]) →
   (∀ k, Bg.l0 (k + 1) T (n : Int) = (Dc.f k (T.extract 0 n)).bind fun bt => some (bt.1, T.extract n T.size)) →
   ∃ v R, Ev (fun k => Bg.l0 k T (n : Int)) (v, R) ∧ (0 ≤ v ∧ v ≤ 999999) ∧ R.size ≤ T.size ∧ ∀ (u : Nat) (r : List UInt8), u ≤ 999999 → B T = Lib.decDigits u ++ r → (∀ b, r.head? = some b → ¬ isD b) → v = (u : Int) ∧ R = mk r := by
  intro n hn h6 hd hstop hstep
  have hB : B (T.extract 0 n) = (B T).take n := by rw [Gu]; simp
  obtain ⟨v, o, he, hr, hu⟩ := read_ev (T.extract 0 n) (by rw [hB]; exact hd) (by rw [hB, List.length_take]; omega)
  refine ⟨v, T.extract n T.size, Ev.step (f := fun k => (Dc.f k (T.extract 0 n)).bind fun bt => some (bt.1, T.extract n T.size)) hstep (Ev.bind he (Ev.now _)), hr, by rw [ByteArray.size_extract]; omega, fun u r hu6 e hh => ?_⟩
  have hlen := dd_len 6 u (by omega) (by omega)
  have hrg := dd_range u u (Nat.le_refl _)
  have hn2 : n = (Lib.decDigits u).length := by
   have ht : (B T).length = (Lib.decDigits u).length + r.length := by rw [e, List.length_append]
   rcases Nat.lt_trichotomy n (Lib.decDigits u).length with h | h | h
   ·exfalso
    rcases hstop with h1 | h1 | ⟨h1, h2⟩
    ·omega
    ·omega
    ·refine h2 ?_
     have : (B T)[n] = (Lib.decDigits u)[n] := by simp only [e]; exact List.getElem_append_left h
     rw [this]; exact hrg _ (List.getElem_mem h)
   ·exact h
   ·exfalso
    cases r with
    | nil => simp at ht; omega
    | cons b r' =>
     refine hh b rfl (hd b ?_)
     have hi : (Lib.decDigits u).length < ((B T).take n).length := by rw [List.length_take]; omega
     have : ((B T).take n)[(Lib.decDigits u).length] = b := by rw [List.getElem_take]; simp only [e]; simp
     rw [← this]; exact List.getElem_mem hi
  refine ⟨hu u hu6 (by rw [hB, e, hn2, List.take_left']; rfl), Hy ?_⟩
  rw [Gu, Gn, List.take_of_length_le (by simp; omega), e, hn2, List.drop_left']; rfl
 have key : ∀ (d n : Nat), n + d = 6 → n ≤ (B T).length → (∀ b ∈ (B T).take n, isD b) →
   ∃ v R, Ev (fun k => Bg.l0 k T (n : Int)) (v, R) ∧ (0 ≤ v ∧ v ≤ 999999) ∧ R.size ≤ T.size ∧ ∀ (u : Nat) (r : List UInt8), u ≤ 999999 → B T = Lib.decDigits u ++ r → (∀ b, r.head? = some b → ¬ isD b) → v = (u : Int) ∧ R = mk r := by
  intro d
  induction d with
  | zero =>
   intro n hn hle hd
   refine stop n hle (by omega) hd (.inr (.inl (by omega))) (fun k => ?_)
   simp only [Bg.l0]
   by_cases c : (n : Int) < (T.size : Int)
   ·rw [if_pos c, if_neg (by omega), if_pos (by omega), if_pos (by omega)]; rfl
   ·rw [if_neg c, if_pos (by omega), if_pos (by omega)]; rfl
  | succ d ih =>
   intro n hn hle hd
   by_cases c : (n : Int) < (T.size : Int)
   ·have hl2 : n < (B T).length := by omega
    have hb := bt_B T n hl2
    by_cases hdig : isD (B T)[n]
    ·obtain ⟨v, R, he, hr⟩ := ih (n + 1) (by omega) (by omega) (by
      intro b hb2
      rw [List.take_succ_eq_append_getElem hl2, List.mem_append] at hb2
      rcases hb2 with h | h
      ·exact hd b h
      ·simp only [List.mem_singleton] at h; rw [h]; exact hdig)
     unfold isD at hdig
     refine ⟨v, R, Ev.step (fun k => ?_) he, hr⟩
     simp only [Bg.l0]
     rw [if_pos c, if_pos (by omega), if_pos (by omega), if_pos (by omega), if_pos (by omega), wrap_succ (by omega)]
    ·refine stop n hle (by omega) hd (.inr (.inr ⟨hl2, hdig⟩)) (fun k => ?_)
     simp only [Bg.l0]
     unfold isD at hdig
     rw [if_pos c, if_pos (by omega), if_pos (by omega)]
     by_cases c2 : bt T (n : Int) ≥ 48
     ·rw [if_pos c2, if_neg (by omega), if_pos (by omega)]; rfl
     ·rw [if_neg c2, if_pos (by omega)]; rfl
   ·refine stop n hle (by omega) hd (.inl (by omega)) (fun k => ?_)
    simp only [Bg.l0]
    rw [if_neg c, if_pos (by omega), if_pos (by omega)]; rfl
 exact key 6 0 rfl (by omega) (by simp)
def kC : List UInt8 := [67, 111, 110, 116, 97, 105, 110, 101, 114, 32]
def k1 : List UInt8 := [32, 104, 97, 115, 32, 97, 114, 114, 105, 118, 101, 100, 32, 105, 110, 32, 115, 116, 97, 99, 107, 32]
def k2 : List UInt8 := [32, 119, 97, 115, 32, 109, 111, 118, 101, 100, 32, 102, 114, 111, 109, 32, 115, 116, 97, 99, 107, 32]
def kto : List UInt8 := [32, 116, 111, 32, 115, 116, 97, 99, 107, 32]
def k3 : List UInt8 := [32, 105, 115, 32, 104, 101, 108, 100, 32, 102, 111, 114, 32]
def k4 : List UInt8 := [32, 105, 115, 32, 114, 101, 97, 100, 121, 32, 102, 111, 114, 32, 112, 105, 99, 107, 117, 112, 32, 105, 110, 32, 115, 108, 111, 116, 32]
def k5 : List UInt8 := [32, 111, 119, 101, 115, 32]
def kfor : List UInt8 := [32, 102, 111, 114, 32]
def kday : List UInt8 := [32, 100, 97, 121, 46]
def kdays : List UInt8 := [32, 100, 97, 121, 115, 46]
/-- What stands behind the Id. -/
def restL (kind a b : Int) : List UInt8 :=
 if kind = 1 then k1 ++ (B (dec a) ++ [46]) else if kind = 2 then k2 ++ (B (dec a) ++ (kto ++ (B (dec b) ++ [46])))
 else if kind = 3 then k3 ++ (B (hold a).1 ++ [46]) else if kind = 4 then k4 ++ (B (dec a) ++ [46])
 else k5 ++ (B (dec a) ++ (kfor ++ (B (dec b) ++ (if b = 1 then kday else kdays))))
theorem text_B (kind : Int) (id : ByteArray) (a b : Int) : B (Ha kind id a b) = kC ++ (B id ++ restL kind a b) := by
 have one : B (dec 1) = [49] := by rw [show (1 : Int) = ((1 : Nat) : Int) from rfl, B_decN, Lib.decDigits_one (by omega)]; rfl
 unfold Ha restL
 by_cases c1 : kind = 1
 ·simp only [if_pos c1, Hf, List.append_assoc]; rfl
 ·by_cases c2 : kind = 2
  ·simp only [if_neg c1, if_pos c2, Hf, List.append_assoc]; rfl
  ·by_cases c3 : kind = 3
   ·simp only [if_neg c1, if_neg c2, if_pos c3, Hf, List.append_assoc]; rfl
   ·by_cases c4 : kind = 4
    ·simp only [if_neg c1, if_neg c2, if_neg c3, if_pos c4, Hf, List.append_assoc]; rfl
    ·by_cases c5 : b = 1
     ·subst c5; simp only [if_neg c1, if_neg c2, if_neg c3, if_neg c4, if_true, Hf, List.append_assoc, one]; rfl
     ·simp only [if_neg c1, if_neg c2, if_neg c3, if_neg c4, if_neg c5, Hf, List.append_assoc]; rfl
theorem note_b {kind : Int} {id : ByteArray} {a b : Int} (h : F8 kind id a b = true) (hk : kind = 1 ∨ kind = 3 ∨ kind = 4) : b = 0 := by
 unfold F8 at h
 rcases hk with rfl | rfl | rfl <;> simp at h <;> omega
theorem hold_inj_all : ∀ i j : Fin 15, (hold ((i.val : Int) + 1)).1 = (hold ((j.val : Int) + 1)).1 → i = j := by decide +kernel
theorem hold_inj (a b : Int) (ha : 1 ≤ a ∧ a ≤ 15) (hb : 1 ≤ b ∧ b ≤ 15) (h : (hold a).1 = (hold b).1) : a = b := by
 have := hold_inj_all ⟨(a - 1).toNat, by omega⟩ ⟨(b - 1).toNat, by omega⟩
 rw [show (((a - 1).toNat : Nat) : Int) + 1 = a from by omega, show (((b - 1).toNat : Nat) : Int) + 1 = b from by omega] at this
 have := congrArg Fin.val (this h)
 simp only at this
 omega
abbrev zeroN : Int × ByteArray × Int × Int × Bool := (0, (⟨#[]⟩ : ByteArray), 0, 0, false)
/-- A note, if it is one and s is its sentence. -/
def ans (s : ByteArray) (kind : Int) (id : ByteArray) (a b : Int) : Int × ByteArray × Int × Int × Bool := if F8 kind id a b = true ∧ Ha kind id a b = s then (kind, id, a, b, true) else zeroN
theorem j2_ev (s : ByteArray) (kind : Int) (id : ByteArray) (a b : Int) : Ev (fun k => Aq.j2 k s 0 (⟨#[]⟩ : ByteArray) 0 0 kind id a b) (ans s kind id a b) := by
 refine Ev.step (f := fun k => (E8.f k kind id a b).bind fun t => if t = true then ((Dt.f k kind id a b).bind fun t2 => if t2.toList = s.toList then some (kind, id, a, b, true) else some zeroN) else some zeroN) (fun k => by simp only [Aq.j2]) ?_
 refine Ev.bind (specNote_ev _ _ _ _) ?_
 unfold ans
 cases e : F8 kind id a b with
 | false => simp only [Bool.false_eq_true, if_false, false_and]; exact Ev.now _
 | true =>
  simp only [if_true, true_and]
  refine Ev.bind (specText_ev _ _ _ _ e) ?_
  by_cases c : Ha kind id a b = s
  ·rw [if_pos c, if_pos (by rw [c])]; exact Ev.now _
  ·rw [if_neg c, if_neg (fun h => c (Hy (by rw [Gq, Gq] at h; exact h)))]; exact Ev.now _
theorem holds_ev (s t id : ByteArray) : ∀ (d n : Nat) (f : Int), n + d = 16 → 1 ≤ n → ∃ f', Ev (fun k => Aq.l0 k s t (n : Int) 0 (⟨#[]⟩ : ByteArray) 0 0 3 id f 0) (ans s 3 id f' 0) ∧
  ∀ a : Int, 1 ≤ a ∧ a ≤ 15 → B t = B (hold a).1 ++ [46] → ((n : Int) ≤ a → f' = a) ∧ (a < (n : Int) → f = a → f' = a) := by
 intro d
 induction d with
 | zero =>
  intro n f hn h1
  refine ⟨f, Ev.step (fun k => ?_) (j2_ev s 3 id f 0), fun a ha e => ⟨fun h => by omega, fun _ h => h⟩⟩
  simp only [Aq.l0]
  rw [if_neg (by omega)]
 | succ d ih =>
  intro n f hn h1
  obtain ⟨eh, _, hz⟩ := hold_at (n : Int) (by omega) (by omega)
  have eh2 : Ev (fun k => Dj.f k (n : Int)) (hold (n : Int)) := ⟨6, fun k hk => mono_le (g := fun k => Dj.f k (n : Int)) (fun k => Dj.mono _ _) eh k hk⟩
  by_cases c : t.toList = ((hold (n : Int)).1 ++ (⟨#[46]⟩ : ByteArray)).toList
  ·obtain ⟨f', he, hf⟩ := ih (n + 1) (n : Int) (by omega) (by omega)
   refine ⟨f', Ev.step (f := fun k => (Dj.f k (n : Int)).bind fun bt => if bt.1.size + 1 ≤ 9223372036854775807 then (if t.toList = (bt.1 ++ (⟨#[46]⟩ : ByteArray)).toList then Aq.l0 k s t ((n + 1 : Nat) : Int) 0 (⟨#[]⟩ : ByteArray) 0 0 3 id (n : Int) 0 else Aq.l0 k s t ((n + 1 : Nat) : Int) 0 (⟨#[]⟩ : ByteArray) 0 0 3 id f 0) else none) (fun k => ?_) (Ev.bind eh2 ?_), fun a ha e => ?_⟩
   ·simp only [Aq.l0]; rw [if_pos (by omega), wrap_succ (by omega)]
   ·exact Ev.congr (fun k => by rw [if_pos (by omega), if_pos c]) he
   ·have ea : a = (n : Int) := by
     refine hold_inj a n ha ⟨by omega, by omega⟩ (Hy ?_)
     rw [Gq, Gq, Hf, e] at c
     exact List.append_cancel_right c
    have := (hf a ha e).2 (by omega) ea.symm
    exact ⟨fun _ => this, fun _ _ => this⟩
  ·obtain ⟨f', he, hf⟩ := ih (n + 1) f (by omega) (by omega)
   refine ⟨f', Ev.step (f := fun k => (Dj.f k (n : Int)).bind fun bt => if bt.1.size + 1 ≤ 9223372036854775807 then (if t.toList = (bt.1 ++ (⟨#[46]⟩ : ByteArray)).toList then Aq.l0 k s t ((n + 1 : Nat) : Int) 0 (⟨#[]⟩ : ByteArray) 0 0 3 id (n : Int) 0 else Aq.l0 k s t ((n + 1 : Nat) : Int) 0 (⟨#[]⟩ : ByteArray) 0 0 3 id f 0) else none) (fun k => ?_) (Ev.bind eh2 ?_), fun a ha e => ?_⟩
   ·simp only [Aq.l0]; rw [if_pos (by omega), wrap_succ (by omega)]
   ·exact Ev.congr (fun k => by rw [if_pos (by omega), if_neg c]) he
   ·have hne : a ≠ (n : Int) := fun h => c (by rw [Gq, Gq, Hf, e, h]; rfl)
    exact ⟨fun h => (hf a ha e).1 (by omega), fun h hfa => (hf a ha e).2 (by omega) hfa⟩
theorem head46 : ∀ b, ([46] : List UInt8).head? = some b → ¬ isD b := by intro b h; cases h; unfold isD; decide
theorem head32 (l : List UInt8) : ∀ b, ((32 : UInt8) :: l).head? = some b → ¬ isD b := by intro b h; cases h; unfold isD; decide
/-- The decimal numeral of a whole number of a note. -/
theorem B_decI (a : Int) (h : 0 ≤ a ∧ a ≤ 999999) : ∃ u : Nat, (u : Int) = a ∧ u ≤ 999999 ∧ B (dec a) = Lib.decDigits u := by
 obtain ⟨u, rfl⟩ := Int.eq_ofNat_of_zero_le h.1
 exact ⟨u, rfl, by omega, B_decN u⟩
theorem Jb (T : ByteArray) (hs : T.size ≤ 1000000000) : ∃ v R, Ev (fun k => Bg.f k T) (v, R) ∧ R.size ≤ T.size ∧
  ∀ (a : Int) (r : List UInt8), 0 ≤ a ∧ a ≤ 999999 → B T = B (dec a) ++ r → (∀ b, r.head? = some b → ¬ isD b) → v = a ∧ R = mk r := by
 obtain ⟨v, R, he, _, hz, hu⟩ := digits_ev T hs
 refine ⟨v, R, he, hz, fun a r ha e hh => ?_⟩
 obtain ⟨u, rfl, hu6, eb⟩ := B_decI a ha
 exact hu u r hu6 (by rw [e, eb]) hh
def afterB (R K : ByteArray) : ByteArray := (if (B K).isPrefixOf (B R) = true then (mk ((B R).drop (B K).length), true) else ((⟨#[]⟩ : ByteArray), false)).1
theorem after_at (R K : ByteArray) : (afterB R K).size ≤ R.size ∧ ∀ X, B R = B K ++ X → afterB R K = mk X := by
 unfold afterB
 refine ⟨?_, fun X e => ?_⟩
 ·split
  ·show (mk _).size ≤ _; rw [Ih, List.length_drop, Gf]; omega
  ·exact Nat.zero_le _
 ·rw [if_pos (by rw [e]; exact List.isPrefixOf_iff_prefix.2 (List.prefix_append _ _)), e, List.drop_left' rfl]
abbrev Fits (s : ByteArray) (kind : Int) (id : ByteArray) (a b : Int) : Prop := ∀ kind' id' a' b', F8 kind' id' a' b' = true → Ha kind' id' a' b' = s → kind = kind' ∧ id = id' ∧ a = a' ∧ b = b'
/-- Behind the Id. -/
theorem behind_ev (s x5 : ByteArray) (h8 : 8 ≤ x5.size) (hs : x5.size ≤ 1000000000) (hy : ∀ kind' id' a' b', F8 kind' id' a' b' = true → Ha kind' id' a' b' = s → B x5 = B id' ++ restL kind' a' b') :
  ∃ kind id a b, Ev (fun k => Aq.j0 k s x5 false 0 (⟨#[]⟩ : ByteArray) 0 0) (ans s kind id a b) ∧ Fits s kind id a b := by
 have hy2 : ∀ kind' id' a' b', F8 kind' id' a' b' = true → Ha kind' id' a' b' = s → B (x5.extract 8 x5.size) = restL kind' a' b' ∧ x5.extract 0 8 = id' := by
  intro kind' id' a' b' h1 h2
  have e := hy kind' id' a' b' h1 h2
  have h8' : (B id').length = 8 := by rw [Gf]; exact (Gw h1).1
  refine ⟨?_, Hy ?_⟩
  ·rw [Gu, List.take_of_length_le (by rw [List.length_drop, Gf]; omega), e, List.drop_left' h8']
  ·rw [Gu, e, List.drop_zero, List.take_left' h8']
 have hts : (x5.extract 8 x5.size).size ≤ 1000000000 := by rw [ByteArray.size_extract]; omega
 obtain ⟨t, ht⟩ : ∃ t, x5.extract 8 x5.size = t := ⟨_, rfl⟩
 obtain ⟨id, hid⟩ : ∃ id, x5.extract 0 8 = id := ⟨_, rfl⟩
 rw [ht] at hts
 simp only [ht, hid] at hy2
 have dsz : ∀ n, (mk ((B t).drop n)).size ≤ 1000000000 := fun n => by rw [Ih, List.length_drop, Gf]; omega
 by_cases p1 : (B (⟨#[32, 104, 97, 115, 32, 97, 114, 114, 105, 118, 101, 100, 32, 105, 110, 32, 115, 116, 97, 99, 107, 32]⟩ : ByteArray)).isPrefixOf (B t) = true
 ·obtain ⟨v, R, he, _, hu⟩ := Jb (mk ((B t).drop (B (⟨#[32, 104, 97, 115, 32, 97, 114, 114, 105, 118, 101, 100, 32, 105, 110, 32, 115, 116, 97, 99, 107, 32]⟩ : ByteArray)).length)) (dsz _)
  refine ⟨1, id, v, 0, Ev.step (f := fun k => (Bg.f k (mk ((B t).drop (B (⟨#[32, 104, 97, 115, 32, 97, 114, 114, 105, 118, 101, 100, 32, 105, 110, 32, 115, 116, 97, 99, 107, 32]⟩ : ByteArray)).length))).bind fun bt => Aq.j2 k s 0 (⟨#[]⟩ : ByteArray) 0 0 1 id bt.1 0) (fun k => ?_) (Ev.bind he (j2_ev s 1 id v 0)), ?_⟩
  ·simp only [Aq.j0, Bool.false_eq_true, if_false, ht, hid, H8, Option.bind_some, if_pos p1, if_true]
   rw [if_pos (by omega), if_pos (by omega)]
  ·intro kind' id' a' b' h1 h2
   obtain ⟨e, ei⟩ := hy2 kind' id' a' b' h1 h2
   obtain ⟨_, hk, ha, hb, _⟩ := Gw h1
   have kk : kind' = 1 ∨ kind' = 2 ∨ kind' = 3 ∨ kind' = 4 ∨ kind' = 5 := by omega
   rw [e] at p1
   rcases kk with rfl | rfl | rfl | rfl | rfl
   ·have := hu a' [46] ha (by rw [Gn, e]; rfl) head46
    exact ⟨rfl, ei, this.1, (note_b h1 (.inl rfl)).symm⟩
   ·exact absurd (show false = true from p1) (by decide)
   ·exact absurd (show false = true from p1) (by decide)
   ·exact absurd (show false = true from p1) (by decide)
   ·exact absurd (show false = true from p1) (by decide)
 by_cases p2 : (B (⟨#[32, 119, 97, 115, 32, 109, 111, 118, 101, 100, 32, 102, 114, 111, 109, 32, 115, 116, 97, 99, 107, 32]⟩ : ByteArray)).isPrefixOf (B t) = true
 ·obtain ⟨v, R, he, hR, hu⟩ := Jb (mk ((B t).drop (B (⟨#[32, 119, 97, 115, 32, 109, 111, 118, 101, 100, 32, 102, 114, 111, 109, 32, 115, 116, 97, 99, 107, 32]⟩ : ByteArray)).length)) (dsz _)
  obtain ⟨hz2, ha2⟩ := after_at R (⟨#[32, 116, 111, 32, 115, 116, 97, 99, 107, 32]⟩ : ByteArray)
  obtain ⟨v2, R2, he2, _, hu2⟩ := Jb (afterB R (⟨#[32, 116, 111, 32, 115, 116, 97, 99, 107, 32]⟩ : ByteArray)) (by have := dsz (B (⟨#[32, 119, 97, 115, 32, 109, 111, 118, 101, 100, 32, 102, 114, 111, 109, 32, 115, 116, 97, 99, 107, 32]⟩ : ByteArray)).length; omega)
  refine ⟨2, id, v, v2, Ev.step (f := fun k => (Bg.f k (mk ((B t).drop (B (⟨#[32, 119, 97, 115, 32, 109, 111, 118, 101, 100, 32, 102, 114, 111, 109, 32, 115, 116, 97, 99, 107, 32]⟩ : ByteArray)).length))).bind fun bt => (Cc.f bt.2 (⟨#[32, 116, 111, 32, 115, 116, 97, 99, 107, 32]⟩ : ByteArray)).bind fun bt2 => (Bg.f k bt2.1).bind fun bt3 => Aq.j2 k s 0 (⟨#[]⟩ : ByteArray) 0 0 2 id bt.1 bt3.1) (fun k => ?_) (Ev.bind he (Ev.congr (f := fun k => (Bg.f k (afterB R (⟨#[32, 116, 111, 32, 115, 116, 97, 99, 107, 32]⟩ : ByteArray))).bind fun bt3 => Aq.j2 k s 0 (⟨#[]⟩ : ByteArray) 0 0 2 id v bt3.1) (fun k => by simp only [H8, Option.bind_some]; rfl) (Ev.bind he2 (j2_ev s 2 id v v2)))), ?_⟩
  ·simp only [Aq.j0, Bool.false_eq_true, if_false, ht, hid, H8, Option.bind_some, if_neg p1, if_pos p2, if_true]
   rw [if_pos (by omega), if_pos (by omega)]
  ·intro kind' id' a' b' h1 h2
   obtain ⟨e, ei⟩ := hy2 kind' id' a' b' h1 h2
   obtain ⟨_, hk, ha, hb, _⟩ := Gw h1
   have kk : kind' = 1 ∨ kind' = 2 ∨ kind' = 3 ∨ kind' = 4 ∨ kind' = 5 := by omega
   rw [e] at p2
   rcases kk with rfl | rfl | rfl | rfl | rfl
   ·exact absurd (show false = true from p2) (by decide)
   ·have w := hu a' (kto ++ (B (dec b') ++ [46])) ha (by rw [Gn, e]; rfl) (fun b h => head32 _ b h)
    have w2 := hu2 b' [46] hb (by rw [ha2 (B (dec b') ++ [46]) (by rw [w.2, Gn]; rfl), Gn]) head46
    exact ⟨rfl, ei, w.1, w2.1⟩
   ·exact absurd (show false = true from p2) (by decide)
   ·exact absurd (show false = true from p2) (by decide)
   ·exact absurd (show false = true from p2) (by decide)
 by_cases p3 : (B (⟨#[32, 105, 115, 32, 104, 101, 108, 100, 32, 102, 111, 114, 32]⟩ : ByteArray)).isPrefixOf (B t) = true
 ·obtain ⟨f', he, hf⟩ := holds_ev s (mk ((B t).drop (B (⟨#[32, 105, 115, 32, 104, 101, 108, 100, 32, 102, 111, 114, 32]⟩ : ByteArray)).length)) id 15 1 0 rfl (by omega)
  refine ⟨3, id, f', 0, Ev.step (f := fun k => Aq.l0 k s (mk ((B t).drop (B (⟨#[32, 105, 115, 32, 104, 101, 108, 100, 32, 102, 111, 114, 32]⟩ : ByteArray)).length)) ((1 : Nat) : Int) 0 (⟨#[]⟩ : ByteArray) 0 0 3 id 0 0) (fun k => ?_) he, ?_⟩
  ·simp only [Aq.j0, Bool.false_eq_true, if_false, ht, hid, H8, Option.bind_some, if_neg p1, if_neg p2, if_pos p3, if_true]
   rw [if_pos (by omega), if_pos (by omega)]
   rfl
  ·intro kind' id' a' b' h1 h2
   obtain ⟨e, ei⟩ := hy2 kind' id' a' b' h1 h2
   obtain ⟨_, hk, ha, hb, h3⟩ := Gw h1
   have kk : kind' = 1 ∨ kind' = 2 ∨ kind' = 3 ∨ kind' = 4 ∨ kind' = 5 := by omega
   rw [e] at p3
   rcases kk with rfl | rfl | rfl | rfl | rfl
   ·exact absurd (show false = true from p3) (by decide)
   ·exact absurd (show false = true from p3) (by decide)
   ·have w := (hf a' (h3 rfl) (by rw [Gn, e]; rfl)).1 (by have := h3 rfl; omega)
    exact ⟨rfl, ei, w, (note_b h1 (.inr (.inl rfl))).symm⟩
   ·exact absurd (show false = true from p3) (by decide)
   ·exact absurd (show false = true from p3) (by decide)
 by_cases p4 : (B (⟨#[32, 105, 115, 32, 114, 101, 97, 100, 121, 32, 102, 111, 114, 32, 112, 105, 99, 107, 117, 112, 32, 105, 110, 32, 115, 108, 111, 116, 32]⟩ : ByteArray)).isPrefixOf (B t) = true
 ·obtain ⟨v, R, he, _, hu⟩ := Jb (mk ((B t).drop (B (⟨#[32, 105, 115, 32, 114, 101, 97, 100, 121, 32, 102, 111, 114, 32, 112, 105, 99, 107, 117, 112, 32, 105, 110, 32, 115, 108, 111, 116, 32]⟩ : ByteArray)).length)) (dsz _)
  refine ⟨4, id, v, 0, Ev.step (f := fun k => (Bg.f k (mk ((B t).drop (B (⟨#[32, 105, 115, 32, 114, 101, 97, 100, 121, 32, 102, 111, 114, 32, 112, 105, 99, 107, 117, 112, 32, 105, 110, 32, 115, 108, 111, 116, 32]⟩ : ByteArray)).length))).bind fun bt => Aq.j2 k s 0 (⟨#[]⟩ : ByteArray) 0 0 4 id bt.1 0) (fun k => ?_) (Ev.bind he (j2_ev s 4 id v 0)), ?_⟩
  ·simp only [Aq.j0, Bool.false_eq_true, if_false, ht, hid, H8, Option.bind_some, if_neg p1, if_neg p2, if_neg p3, if_pos p4, if_true]
   rw [if_pos (by omega), if_pos (by omega)]
  ·intro kind' id' a' b' h1 h2
   obtain ⟨e, ei⟩ := hy2 kind' id' a' b' h1 h2
   obtain ⟨_, hk, ha, hb, _⟩ := Gw h1
   have kk : kind' = 1 ∨ kind' = 2 ∨ kind' = 3 ∨ kind' = 4 ∨ kind' = 5 := by omega
   rw [e] at p4
   rcases kk with rfl | rfl | rfl | rfl | rfl
   ·exact absurd (show false = true from p4) (by decide)
   ·exact absurd (show false = true from p4) (by decide)
   ·exact absurd (show false = true from p4) (by decide)
   ·have := hu a' [46] ha (by rw [Gn, e]; rfl) head46
    exact ⟨rfl, ei, this.1, (note_b h1 (.inr (.inr rfl))).symm⟩
   ·exact absurd (show false = true from p4) (by decide)
 by_cases p5 : (B (⟨#[32, 111, 119, 101, 115, 32]⟩ : ByteArray)).isPrefixOf (B t) = true
 ·obtain ⟨v, R, he, hR, hu⟩ := Jb (mk ((B t).drop (B (⟨#[32, 111, 119, 101, 115, 32]⟩ : ByteArray)).length)) (dsz _)
  obtain ⟨hz2, ha2⟩ := after_at R (⟨#[32, 102, 111, 114, 32]⟩ : ByteArray)
  obtain ⟨v2, R2, he2, _, hu2⟩ := Jb (afterB R (⟨#[32, 102, 111, 114, 32]⟩ : ByteArray)) (by have := dsz (B (⟨#[32, 111, 119, 101, 115, 32]⟩ : ByteArray)).length; omega)
  refine ⟨5, id, v, v2, Ev.step (f := fun k => (Bg.f k (mk ((B t).drop (B (⟨#[32, 111, 119, 101, 115, 32]⟩ : ByteArray)).length))).bind fun bt => (Cc.f bt.2 (⟨#[32, 102, 111, 114, 32]⟩ : ByteArray)).bind fun bt2 => (Bg.f k bt2.1).bind fun bt3 => Aq.j2 k s 0 (⟨#[]⟩ : ByteArray) 0 0 5 id bt.1 bt3.1) (fun k => ?_) (Ev.bind he (Ev.congr (f := fun k => (Bg.f k (afterB R (⟨#[32, 102, 111, 114, 32]⟩ : ByteArray))).bind fun bt3 => Aq.j2 k s 0 (⟨#[]⟩ : ByteArray) 0 0 5 id v bt3.1) (fun k => by simp only [H8, Option.bind_some]; rfl) (Ev.bind he2 (j2_ev s 5 id v v2)))), ?_⟩
  ·simp only [Aq.j0, Bool.false_eq_true, if_false, ht, hid, H8, Option.bind_some, if_neg p1, if_neg p2, if_neg p3, if_neg p4, if_pos p5, if_true]
   rw [if_pos (by omega), if_pos (by omega)]
  ·intro kind' id' a' b' h1 h2
   obtain ⟨e, ei⟩ := hy2 kind' id' a' b' h1 h2
   obtain ⟨_, hk, ha, hb, _⟩ := Gw h1
   have kk : kind' = 1 ∨ kind' = 2 ∨ kind' = 3 ∨ kind' = 4 ∨ kind' = 5 := by omega
   rw [e] at p5
   rcases kk with rfl | rfl | rfl | rfl | rfl
   ·exact absurd (show false = true from p5) (by decide)
   ·exact absurd (show false = true from p5) (by decide)
   ·exact absurd (show false = true from p5) (by decide)
   ·exact absurd (show false = true from p5) (by decide)
   ·have w := hu a' (kfor ++ (B (dec b') ++ (if b' = 1 then kday else kdays))) ha (by rw [Gn, e]; rfl) (fun b h => head32 _ b h)
    have w2 := hu2 b' (if b' = 1 then kday else kdays) hb (by rw [ha2 (B (dec b') ++ (if b' = 1 then kday else kdays)) (by rw [w.2, Gn]; rfl), Gn]) (by
     split
     ·exact fun b h => head32 _ b h
     ·exact fun b h => head32 _ b h)
    exact ⟨rfl, ei, w.1, w2.1⟩
 refine ⟨0, id, 0, 0, Ev.step (fun k => ?_) (j2_ev s 0 id 0 0), ?_⟩
 ·simp only [Aq.j0, Bool.false_eq_true, if_false, ht, hid, H8, Option.bind_some, if_neg p1, if_neg p2, if_neg p3, if_neg p4, if_neg p5, if_true]
  rw [if_pos (by omega), if_pos (by omega)]
 ·intro kind' id' a' b' h1 h2
  obtain ⟨e, ei⟩ := hy2 kind' id' a' b' h1 h2
  obtain ⟨_, hk, ha, hb, _⟩ := Gw h1
  have kk : kind' = 1 ∨ kind' = 2 ∨ kind' = 3 ∨ kind' = 4 ∨ kind' = 5 := by omega
  rcases kk with rfl | rfl | rfl | rfl | rfl
  ·exact absurd (by rw [e]; rfl) p1
  ·exact absurd (by rw [e]; rfl) p2
  ·exact absurd (by rw [e]; rfl) p3
  ·exact absurd (by rw [e]; rfl) p4
  ·exact absurd (by rw [e]; rfl) p5
theorem specParse_ev (s : ByteArray) (hs : s.size ≤ 1048576) : ∃ kind id a b, Ev (fun k => Aq.f k s) (ans s kind id a b) ∧ Fits s kind id a b := by
 have no : (∀ kind' id' a' b', F8 kind' id' a' b' = true → Ha kind' id' a' b' ≠ s) → Ev (fun k => Aq.f k s) zeroN → ∃ kind id a b, Ev (fun k => Aq.f k s) (ans s kind id a b) ∧ Fits s kind id a b := by
  intro h he
  refine ⟨0, ⟨#[]⟩, 0, 0, ?_, fun k' i' a' b' h1 h2 => absurd h2 (h k' i' a' b' h1)⟩
  unfold ans
  rw [if_neg (fun hh => h _ _ _ _ hh.1 hh.2)]
  exact he
 have bad : ∀ x, Ev (fun k => Aq.j0 k s x true 0 (⟨#[]⟩ : ByteArray) 0 0) zeroN := fun x => Ev.step (f := fun _ => some _) (fun k => by simp only [Aq.j0, if_true]) (Ev.now _)
 have all : ∀ kind' id' a' b', F8 kind' id' a' b' = true → Ha kind' id' a' b' = s → B s = B (⟨#[67, 111, 110, 116, 97, 105, 110, 101, 114, 32]⟩ : ByteArray) ++ (B id' ++ restL kind' a' b') := by
  intro kind' id' a' b' h1 h2
  rw [← h2, text_B]; rfl
 by_cases p0 : (B (⟨#[67, 111, 110, 116, 97, 105, 110, 101, 114, 32]⟩ : ByteArray)).isPrefixOf (B s) = true
 ·by_cases c : (mk ((B s).drop (B (⟨#[67, 111, 110, 116, 97, 105, 110, 101, 114, 32]⟩ : ByteArray)).length)).size < 8
  ·refine no (fun k' i' a' b' h1 h2 => ?_) (Ev.congr (fun k => ?_) (bad (mk ((B s).drop (B (⟨#[67, 111, 110, 116, 97, 105, 110, 101, 114, 32]⟩ : ByteArray)).length))))
   ·have e := all k' i' a' b' h1 h2
    have h8 : (B i').length = 8 := by rw [Gf]; exact (Gw h1).1
    rw [Ih, e, List.drop_left' rfl, List.length_append] at c
    omega
   ·unfold Aq.f
    simp only [H8, Option.bind_some, if_pos p0, if_true, decide_eq_true (show ((mk ((B s).drop (B (⟨#[67, 111, 110, 116, 97, 105, 110, 101, 114, 32]⟩ : ByteArray)).length)).size : Int) < 8 by omega)]
  ·obtain ⟨kind, id, a, b, he, hf⟩ := behind_ev s (mk ((B s).drop (B (⟨#[67, 111, 110, 116, 97, 105, 110, 101, 114, 32]⟩ : ByteArray)).length)) (by omega) (by rw [Ih, List.length_drop, Gf]; omega) (fun k' i' a' b' h1 h2 => by rw [Gn, all k' i' a' b' h1 h2, List.drop_left' rfl])
   refine ⟨kind, id, a, b, Ev.congr (fun k => ?_) he, hf⟩
   unfold Aq.f
   simp only [H8, Option.bind_some, if_pos p0, if_true, decide_eq_false (show ¬ ((mk ((B s).drop (B (⟨#[67, 111, 110, 116, 97, 105, 110, 101, 114, 32]⟩ : ByteArray)).length)).size : Int) < 8 by omega)]
 ·refine no (fun k' i' a' b' h1 h2 => p0 ?_) (Ev.congr (fun k => ?_) (bad (⟨#[]⟩ : ByteArray)))
  ·rw [all k' i' a' b' h1 h2]
   exact List.isPrefixOf_iff_prefix.2 (List.prefix_append _ _)
  ·unfold Aq.f
   simp only [H8, Option.bind_some, if_neg p0, Bool.false_eq_true, if_false]
abbrev sepP : Nat → Bool := clo_47
/-- The words; cur: what has been read of the word that is open. -/
def wd : List UInt8 → List UInt8 → List (List UInt8)
 | [], cur => if cur = [] then [] else [cur]
 | b :: l, cur => if sepP b.toNat = true then (if cur = [] then wd l [] else cur :: wd l []) else wd l (cur ++ [b])
def opened (s : ByteArray) (st : Option Nat) (pos : Nat) : List UInt8 := match st with | none => [] | some a => B (s.extract a pos)
theorem cut_ne (s : ByteArray) (a pos : Nat) (h : a < pos) (hp : pos ≤ s.size) : B (s.extract a pos) ≠ [] := by
 intro e
 have := congrArg List.length e
 rw [Gu, List.length_take, List.length_drop, Gf, List.length_nil] at this
 omega
theorem cut_grow (s : ByteArray) (a pos : Nat) (h : a ≤ pos) (hp : pos < (B s).length) : B (s.extract a (pos + 1)) = B (s.extract a pos) ++ [(B s)[pos]] := by
 rw [Gu, Gu, show pos + 1 - a = (pos - a) + 1 from by omega, List.take_succ_eq_append_getElem (by rw [List.length_drop]; omega), List.getElem_drop]
 congr 2
 congr 1
 omega
theorem wd_spans (s : ByteArray) (ha : ∀ b ∈ B s, b.toNat < 128) : ∀ (f pos : Nat) (st : Option Nat) (acc : List (Nat × Nat)), s.size ≤ pos + f → pos ≤ s.size → (∀ a, st = some a → a < pos) →
  (Lib.closeSpans s (Lib.spansFromP sepP s f pos st acc)).map (fun x => B (s.extract x.1 x.2)) = acc.map (fun x => B (s.extract x.1 x.2)) ++ wd ((B s).drop pos) (opened s st pos) := by
 have fin : ∀ (st : Option Nat) (acc : List (Nat × Nat)), (∀ a, st = some a → a < s.size) → (Lib.closeSpans s (acc, st)).map (fun x => B (s.extract x.1 x.2)) = acc.map (fun x => B (s.extract x.1 x.2)) ++ wd ((B s).drop s.size) (opened s st s.size) := by
  intro st acc hst
  rw [← Gf s, List.drop_length, Gf]
  cases st with
  | none => simp [Lib.closeSpans, opened, wd]
  | some a =>
   have := cut_ne s a s.size (hst a rfl) (Nat.le_refl _)
   simp [Lib.closeSpans, opened, wd, this]
 intro f
 induction f with
 | zero =>
  intro pos st acc h hp hst
  obtain rfl : pos = s.size := by omega
  exact fin st acc hst
 | succ f ih =>
  intro pos st acc h hp hst
  by_cases hlt : pos < s.size
  ·have hl : pos < (B s).length := by rw [Gf]; exact hlt
   have hd : (B s).drop pos = (B s)[pos] :: (B s).drop (pos + 1) := List.drop_eq_getElem_cons hl
   have hdec : Utf8.decode s pos = ((B s)[pos].toNat, 1) := by
    rw [← Lib.decodeL_drop]
    show Lib.decodeL ((B s).drop pos) = _
    rw [hd]
    exact Lib.decodeL_ascii _ _ (ha _ (List.getElem_mem hl))
   rw [hd]
   simp only [Lib.spansFromP, if_pos hlt, hdec, wd]
   cases hs : sepP (B s)[pos].toNat with
   | true =>
    simp only [if_true]
    cases st with
    | none =>
     simp only [opened, if_true]
     exact ih (pos + 1) none acc (by omega) (by omega) (fun a h => by cases h)
    | some a =>
     have hn := cut_ne s a pos (hst a rfl) hp
     have := ih (pos + 1) none (acc ++ [(a, pos)]) (by omega) (by omega) (fun a h => by cases h)
     rw [this]
     simp [opened, hn]
   | false =>
    simp only [Bool.false_eq_true, if_false]
    cases st with
    | none =>
     have := ih (pos + 1) (some pos) acc (by omega) (by omega) (fun a h => by cases h; omega)
     rw [this]
     simp only [opened]
     rw [cut_grow s pos pos (Nat.le_refl _) hl]
     congr 3
     rw [Gu]; simp
    | some a =>
     have := ih (pos + 1) (some a) acc (by omega) (by omega) (fun b h => by cases h; have := hst a rfl; omega)
     rw [this]
     simp only [opened]
     rw [cut_grow s a pos (Nat.le_of_lt (hst a rfl)) hl]
  ·obtain rfl : pos = s.size := by omega
   rw [Lib.spansFromP_end _ _ _ _ _ _ hlt]
   exact fin st acc hst
theorem fields_wd (s : ByteArray) (ha : ∀ b ∈ B s, b.toNat < 128) : Lib.goFieldsP sepP s = (wd (B s) []).map mk := by
 have := wd_spans s ha s.size 0 none [] (by omega) (by omega) (fun a h => by cases h)
 have e : (Lib.goFieldsP sepP s).map B = wd (B s) [] := by
  unfold Lib.goFieldsP Lib.spansOfP
  rw [List.map_map]
  exact this
 rw [← e, List.map_map]
 conv => lhs; rw [← List.map_id (Lib.goFieldsP sepP s)]
 exact List.map_congr_left (fun x _ => (mk_of_B x).symm)
/-- A word that ends at a separator. -/
theorem wd_word (w l cur : List UInt8) (c : UInt8) (hw : ∀ b ∈ w, sepP b.toNat = false) (hc : sepP c.toNat = true) (hn : cur ++ w ≠ []) : wd (w ++ c :: l) cur = (cur ++ w) :: wd l [] := by
 induction w generalizing cur with
 | nil => simp only [List.nil_append, wd, hc, if_true]; rw [List.append_nil] at hn ⊢; rw [if_neg hn]
 | cons b w ih =>
  simp only [List.cons_append, wd, hw b (by simp), Bool.false_eq_true, if_false]
  rw [ih (cur ++ [b]) (fun x hx => hw x (by simp [hx])) (by simp)]
  simp
theorem cutPrefix_eq (T K : ByteArray) : strings_CutPrefix.f T K = some (if (B K).isPrefixOf (B T) = true then (mk ((B T).drop (B K).length), true) else (T, false)) := by
 have ht := Gf T
 have hk := Gf K
 have e1 : (T.extract 0 ((K.size : Int) : Int).toNat).toList = (B T).take (B K).length := by rw [Gq, Gu, hk]; simp
 have e2 : T.extract ((K.size : Int) : Int).toNat T.size = mk ((B T).drop (B K).length) := Hy (by rw [Gu, Gn, hk, Int.toNat_natCast, List.take_of_length_le (by simp; omega)])
 unfold strings_CutPrefix.f stringslite_CutPrefix.f stringslite_HasPrefix.f
 by_cases c : (T.size : Int) ≥ (K.size : Int)
 ·rw [if_pos c, if_pos (by omega), if_pos (by omega)]
  simp only [Option.bind_some, e1, e2, Gq]
  by_cases hp : (B T).take (B K).length = B K
  ·rw [if_pos (by simpa using hp), if_pos (by omega), if_pos (by omega), if_pos (List.isPrefixOf_iff_prefix.2 (List.prefix_iff_eq_take.2 hp.symm))]; rfl
  ·rw [if_neg (by simpa using hp), if_neg (fun h => hp (List.prefix_iff_eq_take.1 (List.isPrefixOf_iff_prefix.1 h)).symm)]; rfl
 ·rw [if_neg c]
  simp only [Option.bind_some, Bool.false_eq_true, if_false]
  rw [if_neg]
  intro hp
  have := (List.isPrefixOf_iff_prefix.1 hp).length_le
  omega
theorem rdB (l : List ByteArray) (n : Nat) (h : n < l.length) : rdOf ByteArray.empty l (n : Int) = l[n] := by simp [rdOf, List.getD_eq_getElem?_getD, List.getElem?_eq_getElem h]
def parseW (w : ByteArray) : Option Int := match G6.f w with | some (v, true) => some v | _ => none
def nums (t : ByteArray) : List Int := (Lib.goFieldsP sepP t).filterMap parseW ++ [0, 0]
theorem spans_len (s : ByteArray) : ∀ (f pos : Nat) (st : Option Nat) (acc : List (Nat × Nat)), (Lib.spansFromP sepP s f pos st acc).1.length ≤ acc.length + f := by
 intro f
 induction f with
 | zero => intro pos st acc; simp [Lib.spansFromP]
 | succ f ih =>
  intro pos st acc
  unfold Lib.spansFromP
  by_cases c : pos < s.size
  ·rw [if_pos c]
   by_cases d : sepP (Utf8.decode s pos).1 = true
   ·rw [if_pos d]
    cases st with
    | none => exact Nat.le_trans (ih _ _ _) (by omega)
    | some a => exact Nat.le_trans (ih _ _ _) (by simp; omega)
   ·rw [if_neg d]
    cases st with
    | none => exact Nat.le_trans (ih _ _ _) (by omega)
    | some a => exact Nat.le_trans (ih _ _ _) (by omega)
  ·rw [if_neg c]; simp
theorem fields_len (s : ByteArray) : (Lib.goFieldsP sepP s).length ≤ s.size + 1 := by
 unfold Lib.goFieldsP Lib.spansOfP Lib.closeSpans
 have := spans_len s s.size 0 none []
 rw [List.length_map]
 simp only [List.length_nil, Nat.zero_add] at this
 split
 ·rw [List.length_append]; simp; omega
 ·omega
theorem fields_piece (s w : ByteArray) (h : w ∈ Lib.goFieldsP sepP s) : w.size ≤ s.size := by
 unfold Lib.goFieldsP at h
 obtain ⟨x, _, rfl⟩ := List.mem_map.1 h
 rw [ByteArray.size_extract]; omega
theorem numbersIn_ev (t : ByteArray) (ht : t.size ≤ 1048576) : Ev (fun k => D5.f k t) (nums t) := by
 have hl := fields_len t
 have hp := fields_piece t
 have key : ∀ (d n : Nat), n + d = (Lib.goFieldsP sepP t).length → Ev (fun k => D5.l0 k (((Lib.goFieldsP sepP t).take n).filterMap parseW) (Lib.goFieldsP sepP t) ((Lib.goFieldsP sepP t).length : Int) (n : Int)) (nums t) := by
  intro d
  induction d with
  | zero =>
   intro n hn
   obtain rfl : n = (Lib.goFieldsP sepP t).length := by omega
   have hf : ((Lib.goFieldsP sepP t).filterMap parseW).length ≤ (Lib.goFieldsP sepP t).length := List.length_filterMap_le _ _
   refine Ev.step (f := fun _ => some _) (fun k => ?_) (Ev.now _)
   simp only [D5.l0]
   rw [if_neg (by omega), List.take_length]
   simp only [Option.bind_some]
   rw [if_pos (by simp; omega)]
   rfl
  | succ d ih =>
   intro n hn
   have hn2 : n < (Lib.goFieldsP sepP t).length := by omega
   have hf : (((Lib.goFieldsP sepP t).take n).filterMap parseW).length ≤ n := Nat.le_trans (List.length_filterMap_le _ _) (by rw [List.length_take]; omega)
   obtain ⟨v, o, hv⟩ := parseInt_total (Lib.goFieldsP sepP t)[n] (by have := hp _ (List.getElem_mem hn2); omega)
   have ih := ih (n + 1) (by omega)
   rw [List.take_succ_eq_append_getElem hn2, List.filterMap_append] at ih
   refine Ev.step (fun k => ?_) ih
   simp only [D5.l0]
   rw [if_pos (by omega), if_pos (by omega), if_pos (by omega), rdB _ n hn2, hv, wrap_succ (by omega)]
   simp only [Option.bind_some]
   cases o with
   | true =>
    have e : parseW (Lib.goFieldsP sepP t)[n] = some v := by unfold parseW; rw [hv]
    rw [if_pos rfl, if_pos (by omega)]
    simp [e]
   | false =>
    have e : parseW (Lib.goFieldsP sepP t)[n] = none := by unfold parseW; rw [hv]
    rw [if_neg (by decide)]
    simp [e]
 refine Ev.congr (fun k => ?_) (key (Lib.goFieldsP sepP t).length 0 (by omega))
 unfold D5.f strings_FieldsFunc.f
 rw [if_pos (by omega), Option.bind_some]
 rfl
theorem parseW_dd (u : Nat) (h : u ≤ 999999) : parseW (mk (Lib.decDigits u)) = some (u : Int) := by unfold parseW; rw [parseInt_dd u h]
theorem Ij (a : Int) (h : 0 ≤ a ∧ a ≤ 999999) : parseW (mk (B (dec a))) = some a := by
 obtain ⟨u, rfl, hu, e⟩ := B_decI a h
 rw [e, parseW_dd u hu]
theorem no_words : ([[104, 97, 115], [97, 114, 114, 105, 118, 101, 100], [105, 110], [115, 116, 97, 99, 107], [119, 97, 115], [109, 111, 118, 101, 100], [102, 114, 111, 109], [116, 111], [105, 115], [114, 101, 97, 100, 121], [102, 111, 114], [112, 105, 99, 107, 117, 112], [115, 108, 111, 116], [111, 119, 101, 115], [100, 97, 121], [100, 97, 121, 115]] : List (List UInt8)).all (fun w => decide (parseW (mk w) = none)) = true := by decide +kernel
theorem no_word {w : List UInt8} (h : w ∈ ([[104, 97, 115], [97, 114, 114, 105, 118, 101, 100], [105, 110], [115, 116, 97, 99, 107], [119, 97, 115], [109, 111, 118, 101, 100], [102, 114, 111, 109], [116, 111], [105, 115], [114, 101, 97, 100, 121], [102, 111, 114], [112, 105, 99, 107, 117, 112], [115, 108, 111, 116], [111, 119, 101, 115], [100, 97, 121], [100, 97, 121, 115]] : List (List UInt8))) : parseW (mk w) = none := of_decide_eq_true (List.all_eq_true.1 no_words w h)
theorem dec_plain (a : Int) (h : 0 ≤ a ∧ a ≤ 999999) : ∀ b ∈ B (dec a), isD b := by
 obtain ⟨u, rfl, hu, e⟩ := B_decI a h
 rw [e]; exact dd_range u u (Nat.le_refl _)
theorem dec_ne (a : Int) (h : 0 ≤ a ∧ a ≤ 999999) : B (dec a) ≠ [] := by
 obtain ⟨u, rfl, hu, e⟩ := B_decI a h
 rw [e]; exact dd_ne u
theorem isD_sep (b : UInt8) (h : isD b) : sepP b.toNat = false := by
 unfold isD at h
 show (b.toNat == 32 || b.toNat == 46) = false
 simp; omega
theorem wd_dec (a : Int) (h : 0 ≤ a ∧ a ≤ 999999) (c : UInt8) (l : List UInt8) (hc : sepP c.toNat = true) : wd (B (dec a) ++ c :: l) [] = B (dec a) :: wd l [] :=
 wd_word (B (dec a)) l [] c (fun b hb => isD_sep b (dec_plain a h b hb)) hc (dec_ne a h)
/-- The numbers in what stands behind the Id. -/
theorem nums_rest (t : ByteArray) (kind : Int) (id : ByteArray) (a b : Int) (h : F8 kind id a b = true) (hk3 : kind ≠ 3) (ht : B t = restL kind a b) : ∃ tl, nums t = a :: ((if kind = 2 ∨ kind = 5 then [b] else []) ++ (0 :: 0 :: tl)) := by
 obtain ⟨_, hk, ha, hb, _⟩ := Gw h
 have da : ∀ x ∈ B (dec a), x.toNat < 128 := fun x hx => by have := dec_plain a ha x hx; unfold isD at this; omega
 have db : ∀ x ∈ B (dec b), x.toNat < 128 := fun x hx => by have := dec_plain b hb x hx; unfold isD at this; omega
 have q46 : ∀ x ∈ ([46] : List UInt8), x.toNat < 128 := by decide
 have app : ∀ {l m : List UInt8}, (∀ x ∈ l, x.toNat < 128) → (∀ x ∈ m, x.toNat < 128) → ∀ x ∈ l ++ m, x.toNat < 128 := fun h1 h2 x hx => (List.mem_append.1 hx).elim (h1 x) (h2 x)
 have fin : ∀ ws : List (List UInt8), (∀ x ∈ restL kind a b, x.toNat < 128) → wd (restL kind a b) [] = ws → nums t = (ws.map mk).filterMap parseW ++ [0, 0] := by
  intro ws h1 h2
  unfold nums
  rw [fields_wd t (by rw [ht]; exact h1), ht, h2]
 have kk : kind = 1 ∨ kind = 2 ∨ kind = 4 ∨ kind = 5 := by omega
 rcases kk with rfl | rfl | rfl | rfl
 ·refine ⟨[], ?_⟩
  rw [fin [[104, 97, 115], [97, 114, 114, 105, 118, 101, 100], [105, 110], [115, 116, 97, 99, 107], B (dec a)] (app (by decide : ∀ x ∈ k1, x.toNat < 128) (app da q46)) (by
   show [104, 97, 115] :: [97, 114, 114, 105, 118, 101, 100] :: [105, 110] :: [115, 116, 97, 99, 107] :: wd (B (dec a) ++ 46 :: []) [] = _
   rw [wd_dec a ha 46 [] (by decide)]; rfl)]
  simp only [List.map_cons, List.map_nil, List.filterMap_cons, List.filterMap_nil, no_word (show [104, 97, 115] ∈ _ by decide), no_word (show [97, 114, 114, 105, 118, 101, 100] ∈ _ by decide), no_word (show [105, 110] ∈ _ by decide), no_word (show [115, 116, 97, 99, 107] ∈ _ by decide), Ij a ha]
  rfl
 ·refine ⟨[], ?_⟩
  rw [fin [[119, 97, 115], [109, 111, 118, 101, 100], [102, 114, 111, 109], [115, 116, 97, 99, 107], B (dec a), [116, 111], [115, 116, 97, 99, 107], B (dec b)] (app (by decide : ∀ x ∈ k2, x.toNat < 128) (app da (app (by decide : ∀ x ∈ kto, x.toNat < 128) (app db q46)))) (by
   show [119, 97, 115] :: [109, 111, 118, 101, 100] :: [102, 114, 111, 109] :: [115, 116, 97, 99, 107] :: wd (B (dec a) ++ 32 :: ([116, 111, 32, 115, 116, 97, 99, 107, 32] ++ (B (dec b) ++ [46]))) [] = _
   rw [wd_dec a ha 32 _ (by decide)]
   show [119, 97, 115] :: [109, 111, 118, 101, 100] :: [102, 114, 111, 109] :: [115, 116, 97, 99, 107] :: B (dec a) :: [116, 111] :: [115, 116, 97, 99, 107] :: wd (B (dec b) ++ 46 :: []) [] = _
   rw [wd_dec b hb 46 [] (by decide)]; rfl)]
  simp only [List.map_cons, List.map_nil, List.filterMap_cons, List.filterMap_nil, no_word (show [119, 97, 115] ∈ _ by decide), no_word (show [109, 111, 118, 101, 100] ∈ _ by decide), no_word (show [102, 114, 111, 109] ∈ _ by decide), no_word (show [115, 116, 97, 99, 107] ∈ _ by decide), no_word (show [116, 111] ∈ _ by decide), Ij a ha, Ij b hb]
  rfl
 ·refine ⟨[], ?_⟩
  rw [fin [[105, 115], [114, 101, 97, 100, 121], [102, 111, 114], [112, 105, 99, 107, 117, 112], [105, 110], [115, 108, 111, 116], B (dec a)] (app (by decide : ∀ x ∈ k4, x.toNat < 128) (app da q46)) (by
   show [105, 115] :: [114, 101, 97, 100, 121] :: [102, 111, 114] :: [112, 105, 99, 107, 117, 112] :: [105, 110] :: [115, 108, 111, 116] :: wd (B (dec a) ++ 46 :: []) [] = _
   rw [wd_dec a ha 46 [] (by decide)]; rfl)]
  simp only [List.map_cons, List.map_nil, List.filterMap_cons, List.filterMap_nil, no_word (show [105, 115] ∈ _ by decide), no_word (show [114, 101, 97, 100, 121] ∈ _ by decide), no_word (show [102, 111, 114] ∈ _ by decide), no_word (show [112, 105, 99, 107, 117, 112] ∈ _ by decide), no_word (show [105, 110] ∈ _ by decide), no_word (show [115, 108, 111, 116] ∈ _ by decide), Ij a ha]
  rfl
 ·refine ⟨[], ?_⟩
  by_cases c : b = 1
  ·rw [fin [[111, 119, 101, 115], B (dec a), [102, 111, 114], B (dec b), [100, 97, 121]] (by
    show ∀ x ∈ k5 ++ (B (dec a) ++ (kfor ++ (B (dec b) ++ (if b = 1 then kday else kdays)))), x.toNat < 128
    rw [if_pos c]
    exact app (by decide : ∀ x ∈ k5, x.toNat < 128) (app da (app (by decide : ∀ x ∈ kfor, x.toNat < 128) (app db (by decide : ∀ x ∈ kday, x.toNat < 128))))) (by
    show wd (k5 ++ (B (dec a) ++ (kfor ++ (B (dec b) ++ (if b = 1 then kday else kdays))))) [] = _
    rw [if_pos c]
    show [111, 119, 101, 115] :: wd (B (dec a) ++ 32 :: ([102, 111, 114, 32] ++ (B (dec b) ++ kday))) [] = _
    rw [wd_dec a ha 32 _ (by decide)]
    show [111, 119, 101, 115] :: B (dec a) :: [102, 111, 114] :: wd (B (dec b) ++ 32 :: [100, 97, 121, 46]) [] = _
    rw [wd_dec b hb 32 _ (by decide)]; rfl)]
   simp only [List.map_cons, List.map_nil, List.filterMap_cons, List.filterMap_nil, no_word (show [111, 119, 101, 115] ∈ _ by decide), no_word (show [102, 111, 114] ∈ _ by decide), no_word (show [100, 97, 121] ∈ _ by decide), Ij a ha, Ij b hb]
   rfl
  ·rw [fin [[111, 119, 101, 115], B (dec a), [102, 111, 114], B (dec b), [100, 97, 121, 115]] (by
    show ∀ x ∈ k5 ++ (B (dec a) ++ (kfor ++ (B (dec b) ++ (if b = 1 then kday else kdays)))), x.toNat < 128
    rw [if_neg c]
    exact app (by decide : ∀ x ∈ k5, x.toNat < 128) (app da (app (by decide : ∀ x ∈ kfor, x.toNat < 128) (app db (by decide : ∀ x ∈ kdays, x.toNat < 128))))) (by
    show wd (k5 ++ (B (dec a) ++ (kfor ++ (B (dec b) ++ (if b = 1 then kday else kdays))))) [] = _
    rw [if_neg c]
    show [111, 119, 101, 115] :: wd (B (dec a) ++ 32 :: ([102, 111, 114, 32] ++ (B (dec b) ++ kdays))) [] = _
    rw [wd_dec a ha 32 _ (by decide)]
    show [111, 119, 101, 115] :: B (dec a) :: [102, 111, 114] :: wd (B (dec b) ++ 32 :: [100, 97, 121, 115, 46]) [] = _
    rw [wd_dec b hb 32 _ (by decide)]; rfl)]
   simp only [List.map_cons, List.map_nil, List.filterMap_cons, List.filterMap_nil, no_word (show [111, 119, 101, 115] ∈ _ by decide), no_word (show [102, 111, 114] ∈ _ by decide), no_word (show [100, 97, 121, 115] ∈ _ by decide), Ij a ha, Ij b hb]
   rfl
/-- Is it the note of the sentence s about id? -/
def isOne (s id : ByteArray) (c : Note) : Bool := F8 c.f0 id c.f2 c.f3 && decide (Ha c.f0 id c.f2 c.f3 = s)
def found (s id : ByteArray) (o : Option Note) : Int × ByteArray × Int × Int × Bool := match o with | some c => (c.f0, id, c.f2, c.f3, true) | none => zeroN
theorem search_ev (s x4 : ByteArray) (h8 : 8 ≤ x4.size) (C : List Note) (hC : C.length ≤ 1000) : Ev (fun k => Bc.l1 k s x4 C (C.length : Int) 0) (found s (x4.extract 0 8) (C.find? (isOne s (x4.extract 0 8)))) := by
 have key : ∀ (d n : Nat), n + d = C.length → Ev (fun k => Bc.l1 k s x4 C (C.length : Int) (n : Int)) (found s (x4.extract 0 8) ((C.drop n).find? (isOne s (x4.extract 0 8)))) := by
  intro d
  induction d with
  | zero =>
   intro n hn
   obtain rfl : n = C.length := by omega
   rw [List.drop_length]
   refine Ev.step (f := fun _ => some _) (fun k => ?_) (Ev.now _)
   simp only [Bc.l1]
   rw [if_neg (by omega)]
   rfl
  | succ d ih =>
   intro n hn
   have hn2 : n < C.length := by omega
   have ih := ih (n + 1) (by omega)
   rw [List.drop_eq_getElem_cons hn2, List.find?_cons]
   refine Ev.step (f := fun k => (Di.f k C[n].f0 (x4.extract 0 8) C[n].f2 C[n].f3).bind fun t => if t = true then ((Dp.f k C[n].f0 (x4.extract 0 8) C[n].f2 C[n].f3).bind fun t2 => if t2.toList = s.toList then some (C[n].f0, x4.extract 0 8, C[n].f2, C[n].f3, true) else Bc.l1 k s x4 C (C.length : Int) ((n + 1 : Nat) : Int)) else Bc.l1 k s x4 C (C.length : Int) ((n + 1 : Nat) : Int)) (fun k => ?_) ?_
   ·simp only [Bc.l1]
    rw [if_pos (by omega), if_pos (by omega), if_pos (by omega), if_pos (by omega), if_pos (by omega), rdN C n hn2, wrap_succ (by omega)]
   ·refine Ev.bind (implNote_ev _ _ _ _) ?_
    cases e : F8 C[n].f0 (x4.extract 0 8) C[n].f2 C[n].f3 with
    | false =>
     have : isOne s (x4.extract 0 8) C[n] = false := by unfold isOne; rw [e]; rfl
     rw [this]
     simp only [Bool.false_eq_true, if_false]
     exact ih
    | true =>
     simp only [if_true]
     refine Ev.bind (implText_ev _ _ _ _ e) ?_
     by_cases c : Ha C[n].f0 (x4.extract 0 8) C[n].f2 C[n].f3 = s
     ·have : isOne s (x4.extract 0 8) C[n] = true := by unfold isOne; rw [e, decide_eq_true c]; rfl
      rw [this]
      exact Ev.congr (fun k => if_pos (by rw [c])) (Ev.now _)
     ·have : isOne s (x4.extract 0 8) C[n] = false := by unfold isOne; rw [decide_eq_false c, Bool.and_false]
      rw [this]
      exact Ev.congr (fun k => if_neg (fun h => c (Hy (by rw [Gq, Gq] at h; exact h)))) ih
 exact key C.length 0 (by omega)
def heldN (n : Nat) : List Note := (List.range n).map fun i => ⟨3, ⟨#[]⟩, ((i + 1 : Nat) : Int), 0⟩
def cands (n0 n1 : Int) : List Note := [⟨1, ⟨#[]⟩, n0, 0⟩, ⟨2, ⟨#[]⟩, n0, n1⟩, ⟨4, ⟨#[]⟩, n0, 0⟩, ⟨5, ⟨#[]⟩, n0, n1⟩]
theorem build_ev (s x4 : ByteArray) (h8 : 8 ≤ x4.size) (n0 n1 : Int) : Ev (fun k => Bc.l0 k s x4 (cands n0 n1) 1) (found s (x4.extract 0 8) ((cands n0 n1 ++ heldN 15).find? (isOne s (x4.extract 0 8)))) := by
 have hl : ∀ n, (heldN n).length = n := fun n => by simp [heldN]
 have key : ∀ (d n : Nat), n + d = 15 → Ev (fun k => Bc.l0 k s x4 (cands n0 n1 ++ heldN n) ((n + 1 : Nat) : Int)) (found s (x4.extract 0 8) ((cands n0 n1 ++ heldN 15).find? (isOne s (x4.extract 0 8)))) := by
  intro d
  induction d with
  | zero =>
   intro n hn
   obtain rfl : n = 15 := by omega
   refine Ev.step (fun k => ?_) (search_ev s x4 h8 (cands n0 n1 ++ heldN 15) (by rw [List.length_append, hl]; simp [cands]))
   simp only [Bc.l0]
   rw [if_neg (by omega)]
  | succ d ih =>
   intro n hn
   have ih := ih (n + 1) (by omega)
   refine Ev.step (fun k => ?_) ih
   simp only [Bc.l0]
   rw [if_pos (by omega), if_pos (by rw [List.length_append, hl]; simp [cands]; omega), wrap_succ (by omega), List.append_assoc]
   have : heldN (n + 1) = heldN n ++ [(⟨3, ⟨#[]⟩, ((n + 1 : Nat) : Int), 0⟩ : Note)] := by simp [heldN, List.range_succ]
   rw [this]
 exact key 15 0 rfl
theorem implParse_ev (s : ByteArray) (hs : s.size ≤ 1048576) : ∃ r, Ev (fun k => Bc.f k s) r ∧ (r = zeroN ∨ ∃ kind id a b, F8 kind id a b = true ∧ Ha kind id a b = s ∧ r = (kind, id, a, b, true)) ∧
  ∀ kind id a b, F8 kind id a b = true → Ha kind id a b = s → r ≠ zeroN := by
 have bad : ∀ x, Ev (fun k => Bc.j0 k s x true) zeroN := fun x => Ev.step (f := fun _ => some _) (fun k => by simp only [Bc.j0, if_true]) (Ev.now _)
 have all : ∀ kind' id' a' b', F8 kind' id' a' b' = true → Ha kind' id' a' b' = s → B s = B (⟨#[67, 111, 110, 116, 97, 105, 110, 101, 114, 32]⟩ : ByteArray) ++ (B id' ++ restL kind' a' b') := by
  intro kind' id' a' b' h1 h2
  rw [← h2, text_B]; rfl
 by_cases p0 : (B (⟨#[67, 111, 110, 116, 97, 105, 110, 101, 114, 32]⟩ : ByteArray)).isPrefixOf (B s) = true
 ·obtain ⟨R, hR⟩ : ∃ R, mk ((B s).drop (B (⟨#[67, 111, 110, 116, 97, 105, 110, 101, 114, 32]⟩ : ByteArray)).length) = R := ⟨_, rfl⟩
  have hRs : R.size ≤ 1048576 := by rw [← hR, Ih, List.length_drop, Gf]; omega
  have allR : ∀ kind' id' a' b', F8 kind' id' a' b' = true → Ha kind' id' a' b' = s → B R = B id' ++ restL kind' a' b' := fun k' i' a' b' h1 h2 => by rw [← hR, Gn, all k' i' a' b' h1 h2, List.drop_left' rfl]
  have hf : ∀ k, Bc.f k s = Bc.j0 k s R (decide ((R.size : Int) < 8)) := fun k => by
   unfold Bc.f
   simp only [cutPrefix_eq, Option.bind_some, if_pos p0, if_true, hR]
  by_cases c : R.size < 8
  ·refine ⟨zeroN, Ev.congr (fun k => by rw [hf, decide_eq_true (show (R.size : Int) < 8 by omega)]) (bad R), .inl rfl, fun k' i' a' b' h1 h2 => ?_⟩
   have e := congrArg List.length (allR k' i' a' b' h1 h2)
   have h8 : (B i').length = 8 := by rw [Gf]; exact (Gw h1).1
   rw [List.length_append, Gf] at e
   omega
  ·obtain ⟨t, ht⟩ : ∃ t, R.extract 8 R.size = t := ⟨_, rfl⟩
   have hts : t.size ≤ 1048576 := by rw [← ht, ByteArray.size_extract]; omega
   have hn2 : 2 ≤ (nums t).length := by unfold nums; rw [List.length_append]; simp
   obtain ⟨n0, n1, tl, hn⟩ : ∃ n0 n1 tl, nums t = n0 :: n1 :: tl := by
    cases e : nums t with
    | nil => rw [e] at hn2; simp at hn2
    | cons x l => cases l with
     | nil => rw [e] at hn2; simp at hn2
     | cons y l => exact ⟨x, y, l, rfl⟩
   have he : Ev (fun k => Bc.f k s) (found s (R.extract 0 8) ((cands n0 n1 ++ heldN 15).find? (isOne s (R.extract 0 8)))) := by
    refine Ev.congr (fun k => by rw [hf, decide_eq_false (show ¬ (R.size : Int) < 8 by omega)]) ?_
    refine Ev.step (f := fun k => (D5.f k t).bind fun l => if 0 < (l.length : Int) then (if 1 < (l.length : Int) then Bc.l0 k s R ([(⟨1, (⟨#[]⟩ : ByteArray), rd l 0, 0⟩ : Note), (⟨2, (⟨#[]⟩ : ByteArray), rd l 0, rd l 1⟩ : Note), (⟨4, (⟨#[]⟩ : ByteArray), rd l 0, 0⟩ : Note), (⟨5, (⟨#[]⟩ : ByteArray), rd l 0, rd l 1⟩ : Note)]) 1 else none) else none) (fun k => ?_) (Ev.bind (numbersIn_ev t hts) ?_)
    ·simp only [Bc.j0, Bool.false_eq_true, if_false, ht]
     rw [if_pos (by omega)]
    ·refine Ev.congr (fun k => by rw [if_pos (by omega), if_pos (by omega)]) ?_
     rw [hn]
     exact build_ev s R (by omega) n0 n1
   refine ⟨_, he, ?_, fun k' i' a' b' h1 h2 hz => ?_⟩
   ·cases hfd : (cands n0 n1 ++ heldN 15).find? (isOne s (R.extract 0 8)) with
    | none => exact .inl rfl
    | some c =>
     have hc := List.find?_some hfd
     unfold isOne at hc
     simp only [Bool.and_eq_true, decide_eq_true_eq] at hc
     exact .inr ⟨_, _, _, _, hc.1, hc.2, rfl⟩
   ·have e := allR k' i' a' b' h1 h2
    have h8 : (B i').length = 8 := by rw [Gf]; exact (Gw h1).1
    have ei : R.extract 0 8 = i' := Hy (by rw [Gu, e, List.drop_zero, List.take_left' h8])
    have et : B t = restL k' a' b' := by rw [← ht, Gu, List.take_of_length_le (by rw [List.length_drop, Gf]; omega), e, List.drop_left' h8]
    obtain ⟨_, hk, ha, hb, h3⟩ := Gw h1
    have hmem : (⟨k', ⟨#[]⟩, a', b'⟩ : Note) ∈ cands n0 n1 ++ heldN 15 := by
     by_cases k3 : k' = 3
     ·subst k3
      have hb0 := note_b h1 (.inr (.inl rfl))
      subst hb0
      have h3 := h3 rfl
      refine List.mem_append_right _ (List.mem_map.2 ⟨(a' - 1).toNat, List.mem_range.2 (by omega), ?_⟩)
      congr 1
      omega
     ·obtain ⟨tl', hn'⟩ := nums_rest t k' i' a' b' h1 k3 et
      rw [hn] at hn'
      refine List.mem_append_left _ ?_
      have kk : k' = 1 ∨ k' = 2 ∨ k' = 4 ∨ k' = 5 := by omega
      rcases kk with rfl | rfl | rfl | rfl
      ·have hb0 := note_b h1 (.inl rfl); subst hb0
       injection hn' with e1 _; subst e1; simp [cands]
      ·injection hn' with e1 e2
       have e3 : n1 = b' := by injection e2
       subst e1; subst e3; simp [cands]
      ·have hb0 := note_b h1 (.inr (.inr rfl)); subst hb0
       injection hn' with e1 _; subst e1; simp [cands]
      ·injection hn' with e1 e2
       have e3 : n1 = b' := by injection e2
       subst e1; subst e3; simp [cands]
    cases hfd : (cands n0 n1 ++ heldN 15).find? (isOne s (R.extract 0 8)) with
    | none =>
     have := List.find?_eq_none.1 hfd _ hmem
     refine this ?_
     unfold isOne
     simp only [ei, h1, h2, decide_true, Bool.and_self]
    | some c =>
     rw [hfd] at hz
     have := congrArg (fun z => z.2.2.2.2) hz
     simp [found, zeroN] at this
 ·refine ⟨zeroN, Ev.congr (fun k => ?_) (bad s), .inl rfl, fun k' i' a' b' h1 h2 => absurd ?_ p0⟩
  ·unfold Bc.f
   simp only [cutPrefix_eq, Option.bind_some, if_neg p0, Bool.false_eq_true, if_false]
  ·rw [all k' i' a' b' h1 h2]
   exact List.isPrefixOf_iff_prefix.2 (List.prefix_append _ _)
/-- One answer for both. -/
theorem parseBoth (s : ByteArray) (hs : s.size ≤ 1048576) : ∃ r, Ev (fun k => Aq.f k s) r ∧ Ev (fun k => Bc.f k s) r ∧ (r = zeroN ∨ ∃ kind id a b, F8 kind id a b = true ∧ Ha kind id a b = s ∧ r = (kind, id, a, b, true)) ∧ ∀ kind id a b, F8 kind id a b = true → Ha kind id a b = s → r = (kind, id, a, b, true) := by
 obtain ⟨kind, id, a, b, he, hfit⟩ := specParse_ev s hs
 obtain ⟨r, hi, hr, hne⟩ := implParse_ev s hs
 have hra : r = ans s kind id a b := by
  unfold ans
  rcases hr with rfl | ⟨k', i', a', b', h1, h2, rfl⟩
  ·rw [if_neg]
   rintro ⟨h1, h2⟩
   exact hne _ _ _ _ h1 h2 rfl
  ·obtain ⟨rfl, rfl, rfl, rfl⟩ := hfit k' i' a' b' h1 h2
   rw [if_pos ⟨h1, h2⟩]
 refine ⟨r, by rw [hra]; exact he, hi, hr, fun k' i' a' b' h1 h2 => ?_⟩
 obtain ⟨rfl, rfl, rfl, rfl⟩ := hfit k' i' a' b' h1 h2
 rw [hra]; unfold ans; rw [if_pos ⟨h1, h2⟩]
theorem chk_ok (t : ByteArray) : ∀ (d n : Nat) (acc s : Int), chk t d n acc = some s → ∀ j : Nat, n ≤ j → j < n + d → okCh j (bt t (j : Int)) = true
 | 0, n, acc, s, h, j, h1, h2 => by omega
 | d + 1, n, acc, s, h, j, h1, h2 => by
  simp only [chk] at h
  by_cases c : okCh n (bt t (n : Int)) = true
  ·rw [if_pos c] at h
   by_cases e : j = n
   ·rw [e]; exact c
   ·exact chk_ok t d (n + 1) _ s h j (by omega) (by omega)
  ·rw [if_neg c] at h; cases h
theorem id_bytes (id : ByteArray) (h : idOk id = true) : ∀ b ∈ B id, b ≠ 46 := by
 intro b hb
 obtain ⟨i, hi, rfl⟩ := List.getElem_of_mem hb
 unfold idOk at h
 simp only [Bool.and_eq_true, decide_eq_true_eq] at h
 obtain ⟨h8, h2⟩ := h
 have h8' : (B id).length = 8 := by rw [Gf]; exact h8
 have hge : 48 ≤ (B id)[i].toNat := by
  cases hc : chk (id.extract 0 7) 7 0 0 with
  | none => rw [hc] at h2; cases h2
  | some m =>
   rw [hc] at h2
   simp only [beq_iff_eq] at h2
   by_cases c : i < 7
   ·have hok := chk_ok _ 7 0 0 m hc i (by omega) (by omega)
    have hl : i < (B (id.extract 0 7)).length := by rw [Gu, List.length_take, List.length_drop]; omega
    rw [bt_B _ i hl] at hok
    have e : (B (id.extract 0 7))[i] = (B id)[i] := by simp only [Gu, List.drop_zero]; exact List.getElem_take
    rw [e] at hok
    unfold okCh at hok
    by_cases c3 : i < 3
    ·rw [if_pos c3] at hok; simp at hok; omega
    ·rw [if_neg c3] at hok; simp at hok; omega
   ·obtain rfl : i = 7 := by omega
    have := bt_B id 7 (by omega)
    have h7 : bt id ((7 : Nat) : Int) = 65 + m % 23 := h2
    omega
 intro e
 rw [e] at hge
 exact absurd hge (by decide)
theorem hold46 : ∀ i : Fin 15, (B (hold ((i.val : Int) + 1)).1).all (fun b => decide (b ≠ 46)) = true := by decide +kernel
/-- A sentence: a stop at its end, and none before. -/
theorem body_ex (x : Note) (h : F8 x.f0 x.f1 x.f2 x.f3 = true) : ∃ body, B (tx x) = body ++ [46] ∧ ∀ b ∈ body, b ≠ 46 := by
 obtain ⟨hsz, hk, ha, hb, h3⟩ := Gw h
 have hid : idOk x.f1 = true := by unfold F8 at h; simp only [Bool.and_eq_true] at h; exact h.1
 have di : ∀ b ∈ B x.f1, b ≠ 46 := id_bytes x.f1 hid
 have dn : ∀ v : Int, 0 ≤ v ∧ v ≤ 999999 → ∀ b ∈ B (dec v), b ≠ 46 := fun v hv b hb e => by have := dec_plain v hv b hb; rw [e] at this; unfold isD at this; exact absurd this.1 (by decide)
 have app : ∀ {l m : List UInt8}, (∀ b ∈ l, b ≠ 46) → (∀ b ∈ m, b ≠ 46) → ∀ b ∈ l ++ m, b ≠ 46 := fun h1 h2 b hb => (List.mem_append.1 hb).elim (h1 b) (h2 b)
 have kk : x.f0 = 1 ∨ x.f0 = 2 ∨ x.f0 = 3 ∨ x.f0 = 4 ∨ x.f0 = 5 := by omega
 have wrap_ : ∀ r, restL x.f0 x.f2 x.f3 = r ++ [46] → (∀ b ∈ r, b ≠ 46) → ∃ body, B (tx x) = body ++ [46] ∧ ∀ b ∈ body, b ≠ 46 := fun r e hr => ⟨kC ++ (B x.f1 ++ r), by unfold tx; rw [text_B, e]; simp [List.append_assoc], app (by decide) (app di hr)⟩
 rcases kk with e | e | e | e | e
 ·exact wrap_ (k1 ++ B (dec x.f2)) (by rw [e, List.append_assoc]; rfl) (app (by decide) (dn _ ha))
 ·exact wrap_ (k2 ++ (B (dec x.f2) ++ (kto ++ B (dec x.f3)))) (by rw [e, List.append_assoc, List.append_assoc, List.append_assoc]; rfl) (app (by decide) (app (dn _ ha) (app (by decide) (dn _ hb))))
 ·refine wrap_ (k3 ++ B (hold x.f2).1) (by rw [e, List.append_assoc]; rfl) (app (by decide) ?_)
  have := hold46 ⟨(x.f2 - 1).toNat, by have := h3 e; omega⟩
  rw [show (((x.f2 - 1).toNat : Nat) : Int) + 1 = x.f2 from by have := h3 e; omega] at this
  exact fun b hb => of_decide_eq_true (List.all_eq_true.1 this b hb)
 ·exact wrap_ (k4 ++ B (dec x.f2)) (by rw [e, List.append_assoc]; rfl) (app (by decide) (dn _ ha))
 ·by_cases c : x.f3 = 1
  ·refine wrap_ (k5 ++ (B (dec x.f2) ++ (kfor ++ (B (dec x.f3) ++ [32, 100, 97, 121])))) ?_ (app (by decide) (app (dn _ ha) (app (by decide) (app (dn _ hb) (by decide)))))
   rw [e]
   show k5 ++ (B (dec x.f2) ++ (kfor ++ (B (dec x.f3) ++ (if x.f3 = 1 then kday else kdays)))) = _
   rw [if_pos c]
   simp only [List.append_assoc]
   rfl
  ·refine wrap_ (k5 ++ (B (dec x.f2) ++ (kfor ++ (B (dec x.f3) ++ [32, 100, 97, 121, 115])))) ?_ (app (by decide) (app (dn _ ha) (app (by decide) (app (dn _ hb) (by decide)))))
   rw [e]
   show k5 ++ (B (dec x.f2) ++ (kfor ++ (B (dec x.f3) ++ (if x.f3 = 1 then kday else kdays)))) = _
   rw [if_neg c]
   simp only [List.append_assoc]
   rfl
def tailL (m : List Note) : List UInt8 := (m.map fun x => 32 :: B (tx x)).flatten
def Hq : List Note → List UInt8
 | [] => []
 | x :: m => B (tx x) ++ tailL m
theorem tailL_cons (y : Note) (m : List Note) : tailL (y :: m) = 32 :: Hq (y :: m) := rfl
theorem B_told (l : List Note) : B (told l) = Hq l := by
 cases l with
 | nil => rfl
 | cons x m =>
  unfold told joinB
  rw [List.map_cons, List.map_cons, Lib.join_cons]
  show B ⟨_⟩ = _
  rw [B_mk]
  unfold Hq tailL Lib.joinTail
  rw [List.map_map, List.map_map]
  rfl
abbrev stopB : ByteArray := ⟨#[46, 32]⟩
theorem cutAt (s : ByteArray) (hs : s.size ≤ 4000000000) (i : Nat) (h : Lib.index (B s) [46, 32] = (i : Int)) (hi : i + 2 ≤ (B s).length) : strings_Cut.f s stopB = some (mk ((B s).take i), mk ((B s).drop (i + 2)), true) := by
 have hl := Gf s
 unfold strings_Cut.f stringslite_Cut.f stringslite_Index.f
 rw [if_pos (by omega)]
 have h' : Lib.index s.data.toList (stopB).data.toList = (i : Int) := h
 have hz : ((stopB).size : Int) = 2 := rfl
 simp only [Option.bind_some, h', hz]
 rw [if_pos (by omega), if_pos (by omega), if_pos (by omega), Fz (by omega) (by omega), if_pos (by omega), if_pos (by omega)]
 simp only [Option.bind_some]
 congr 2
 ·exact Hy (by rw [Gu, Gn]; simp)
 ·congr 1
  exact Hy (by rw [Gu, Gn, show ((i : Int) + 2).toNat = i + 2 from by omega, List.take_of_length_le (by rw [List.length_drop]; omega)])
theorem cutNo (s : ByteArray) (hs : s.size ≤ 4000000000) (h : Lib.index (B s) [46, 32] = -1) : strings_Cut.f s stopB = some (s, (⟨#[]⟩ : ByteArray), false) := by
 unfold strings_Cut.f stringslite_Cut.f stringslite_Index.f
 rw [if_pos (by omega)]
 have h' : Lib.index s.data.toList (stopB).data.toList = -1 := h
 simp only [Option.bind_some, h']
 rw [if_neg (by omega)]
 rfl
theorem head_ne (body t : List UInt8) (hb : ∀ b ∈ body, b ≠ 46) (j : Nat) (hj : j < body.length) : Lib.occAt (body ++ t) [46, 32] j = false := by
 unfold Lib.occAt
 rw [List.drop_append_of_le_length (by omega), List.drop_eq_getElem_cons hj, List.cons_append]
 have hne := hb _ (List.getElem_mem hj)
 simp only [List.isPrefixOf]
 rw [show (46 == body[j]) = false from beq_eq_false_iff_ne.2 (fun h => hne h.symm), Bool.false_and]
/-- Of a sentence with more behind it, and of the last one. -/
theorem cut_more (s : ByteArray) (hs : s.size ≤ 4000000000) (body t : List UInt8) (e : B s = body ++ 46 :: 32 :: t) (hb : ∀ b ∈ body, b ≠ 46) : strings_Cut.f s stopB = some (mk body, mk t, true) := by
 have hi : Lib.index (B s) [46, 32] = (body.length : Int) := by
  rw [e]
  refine Lib.index_first (by simp) ?_ (fun j hj => head_ne body _ hb j hj)
  unfold Lib.occAt
  rw [List.drop_left' rfl]
  rfl
 rw [cutAt s hs body.length hi (by rw [e]; simp), e, List.take_left' rfl, show body.length + 2 = (body ++ [46, 32]).length from by simp, show body ++ 46 :: 32 :: t = (body ++ [46, 32]) ++ t from by simp, List.drop_left' rfl]
theorem cut_last (s : ByteArray) (hs : s.size ≤ 4000000000) (body : List UInt8) (e : B s = body ++ [46]) (hb : ∀ b ∈ body, b ≠ 46) : strings_Cut.f s stopB = some (s, (⟨#[]⟩ : ByteArray), false) := by
 refine cutNo s hs ?_
 rw [e]
 refine Lib.index_none (fun j hj => ?_)
 rcases Nat.lt_or_ge j body.length with h | h
 ·exact head_ne body _ hb j h
 ·unfold Lib.occAt
  rw [List.length_append] at hj
  have : j = body.length ∨ j = body.length + 1 := by simp at hj; omega
  rcases this with rfl | rfl
  ·rw [List.drop_left' rfl]; rfl
  ·rw [show body.length + 1 = (body ++ [46]).length from by simp, List.drop_length]; rfl
/-- Of any text. -/
theorem cut_any (s : ByteArray) (hs : s.size ≤ 4000000000) : (∃ h t, B s = h ++ 46 :: 32 :: t ∧ strings_Cut.f s stopB = some (mk h, mk t, true)) ∨ strings_Cut.f s stopB = some (s, (⟨#[]⟩ : ByteArray), false) := by
 rcases Lib.index_spec (B s) [46, 32] with ⟨h, _⟩ | ⟨i, h, hi, ho, _⟩
 ·exact .inr (cutNo s hs h)
 ·refine .inl ?_
  unfold Lib.occAt at ho
  obtain ⟨t, ht⟩ := List.isPrefixOf_iff_prefix.1 ho
  have hd : (B s).drop i = 46 :: 32 :: t := ht.symm
  have hlen := congrArg List.length hd
  rw [List.length_drop] at hlen
  simp only [List.length_cons] at hlen
  refine ⟨(B s).take i, t, ?_, ?_⟩
  ·rw [← hd, List.take_append_drop]
  ·rw [cutAt s hs i h (by omega)]
   have : (B s).drop (i + 2) = t := by rw [← List.drop_drop, hd]; rfl
   rw [this]
theorem tx_ne (x : Note) : B (tx x) ≠ [] := by unfold tx; rw [text_B]; intro h; cases h
theorem toldL_ne (x : Note) (m : List Note) : Hq (x :: m) ≠ [] := by
 unfold Hq
 intro h
 exact tx_ne x (List.append_eq_nil_iff.1 h).1
theorem toldL_nil {m : List Note} (h : Hq m = []) : m = [] := by
 cases m with
 | nil => rfl
 | cons x m => exact absurd h (toldL_ne x m)
theorem first46 : ∀ {a a' b b' : List UInt8}, a ++ 46 :: b = a' ++ 46 :: b' → (∀ x ∈ a, x ≠ 46) → (∀ x ∈ a', x ≠ 46) → a = a' ∧ b = b'
 | [], [], b, b', h, _, _ => ⟨rfl, by injection h⟩
 | [], c :: a', b, b', h, _, h2 => by injection h with h _; exact absurd h.symm (h2 c (by simp))
 | c :: a, [], b, b', h, h1, _ => by injection h with h _; exact absurd h (h1 c (by simp))
 | c :: a, d :: a', b, b', h, h1, h2 => by
  injection h with e h
  obtain ⟨r1, r2⟩ := first46 h (fun x hx => h1 x (by simp [hx])) (fun x hx => h2 x (by simp [hx]))
  exact ⟨by rw [e, r1], r2⟩
theorem split46 : ∀ l : List UInt8, (∃ a b, l = a ++ 46 :: b ∧ ∀ x ∈ a, x ≠ 46) ∨ ∀ x ∈ l, x ≠ 46
 | [] => .inr (by simp)
 | c :: l => by
  by_cases e : c = 46
  ·exact .inl ⟨[], l, by rw [e]; rfl, by simp⟩
  ·rcases split46 l with ⟨a, b, h, h2⟩ | h
   ·exact .inl ⟨c :: a, b, by rw [h]; rfl, fun x hx => (List.mem_cons.1 hx).elim (fun q => q ▸ e) (h2 x)⟩
   ·exact .inr (fun x hx => (List.mem_cons.1 hx).elim (fun q => q ▸ e) (h x))
theorem Ii {out m : List Note} {x : Note} (h : report (out ++ x :: m) = true) : F8 x.f0 x.f1 x.f2 x.f3 = true := (I5 h).2 x (by simp)
/-- What a reading of one sentence tells. -/
theorem read_one (s : ByteArray) (hs : s.size ≤ 1048576) : ∃ p, Ev (fun k => Aq.f k s) p ∧ Ev (fun k => Bc.f k s) p ∧ (p = zeroN ∨ ∃ y : Note, F8 y.f0 y.f1 y.f2 y.f3 = true ∧ tx y = s ∧ p = (y.f0, y.f1, y.f2, y.f3, true)) ∧ ∀ x : Note, F8 x.f0 x.f1 x.f2 x.f3 = true → tx x = s → p = (x.f0, x.f1, x.f2, x.f3, true) := by
 obtain ⟨p, h1, h2, h3, h4⟩ := parseBoth s hs
 refine ⟨p, h1, h2, ?_, fun x hx e => h4 _ _ _ _ hx e⟩
 rcases h3 with h | ⟨kind, id, a, b, q1, q2, q3⟩
 ·exact .inl h
 ·exact .inr ⟨⟨kind, id, a, b⟩, q1, q2, q3⟩
theorem same_note {x y : Note} (h : (y.f0, y.f1, y.f2, y.f3, true) = (x.f0, x.f1, x.f2, x.f3, true)) : y = x := by
 obtain ⟨a, b, c, d⟩ := x
 obtain ⟨a', b', c', d'⟩ := y
 simp only [Prod.mk.injEq, and_true] at h
 obtain ⟨rfl, rfl, rfl, rfl⟩ := h
 rfl
theorem implRep_ev : ∀ (N : Nat) (s : ByteArray) (out : List Note), s.size ≤ N → s.size ≤ 1048576 → out.length + s.size ≤ 2097152 → ∃ r, Ev (fun k => Ci.l0 k s out) r ∧
  (r = ([], false) ∨ ∃ m, Hq m = B s ∧ report (out ++ m) = true ∧ r = (out ++ m, true)) ∧ ∀ m, Hq m = B s → report (out ++ m) = true → r = (out ++ m, true) := by
 have nil_ev : ∀ (s : ByteArray) (out : List Note), B s = [] → ∃ r, Ev (fun k => Ci.l0 k s out) r ∧ (r = ([], false) ∨ ∃ m, Hq m = B s ∧ report (out ++ m) = true ∧ r = (out ++ m, true)) ∧ ∀ m, Hq m = B s → report (out ++ m) = true → r = (out ++ m, true) := by
  intro s out hz
  refine ⟨if report out = true then (out, true) else ([], false), Ev.step (f := fun _ => some _) (fun k => ?_) (Ev.now _), ?_, fun m hm hr => ?_⟩
  ·simp only [Ci.l0]
   rw [if_pos (by rw [Gq, hz]), implReport, Option.bind_some]
   split <;> rfl
  ·by_cases c : report out = true
   ·rw [if_pos c]; exact .inr ⟨[], by rw [hz]; rfl, by rw [List.append_nil]; exact c, by rw [List.append_nil]⟩
   ·rw [if_neg c]; exact .inl rfl
  ·obtain rfl := toldL_nil (hm.trans hz)
   rw [List.append_nil] at hr ⊢
   rw [if_pos hr]
 intro N
 induction N with
 | zero =>
  intro s out h0 _ _
  exact nil_ev s out (List.eq_nil_of_length_eq_zero (by rw [Gf]; omega))
 | succ N ih =>
  intro s out hN h1 h2
  by_cases hz : B s = []
  ·exact nil_ev s out hz
  have hzt : ¬ s.toList = [] := by rw [Gq]; exact hz
  have hlen := Gf s
  -- what a list of notes says of the cut
  have look : ∀ x m, F8 x.f0 x.f1 x.f2 x.f3 = true → Hq (x :: m) = B s → (m = [] ∧ tx x = s ∧ strings_Cut.f s stopB = some (s, (⟨#[]⟩ : ByteArray), false)) ∨ (m ≠ [] ∧ ∃ body, tx x = mk body ++ (⟨#[46]⟩ : ByteArray) ∧ strings_Cut.f s stopB = some (mk body, mk (Hq m), true)) := by
   intro x m hx e
   obtain ⟨body, eb, hb⟩ := body_ex x hx
   cases m with
   | nil =>
    refine .inl ⟨rfl, Hy (by rw [← e]; simp [Hq, tailL]), cut_last s (by omega) body ?_ hb⟩
    rw [← e, ← eb]; simp [Hq, tailL]
   | cons y m =>
    refine .inr ⟨by simp, body, Hy (by rw [eb, Hf, Gn]; rfl), cut_more s (by omega) body (Hq (y :: m)) ?_ hb⟩
    rw [← e]
    show B (tx x) ++ tailL (y :: m) = _
    rw [eb, tailL_cons]
    simp
  rcases cut_any s (by omega) with ⟨h, t, e, hc⟩ | hc
  ·have hl2 : h.length + t.length + 2 = s.size := by rw [← hlen, e]; simp; omega
   obtain ⟨p, _, hp, hps, hpc⟩ := read_one (mk h ++ (⟨#[46]⟩ : ByteArray)) (by rw [ByteArray.size_append, Ih]; have : (⟨#[46]⟩ : ByteArray).size = 1 := rfl; omega)
   have stp : ∀ r, Ev (fun k => if p.2.2.2.2 = true then (if (mk t).toList = [] then some ([], false) else if out.length < 3518437208883 then Ci.l0 k (mk t) (out ++ [(⟨p.1, p.2.1, p.2.2.1, p.2.2.2.1⟩ : Note)]) else none) else some ([], false)) r → Ev (fun k => Ci.l0 k s out) r := by
    intro r hr
    refine Ev.step (f := fun k => (Bc.f k (mk h ++ (⟨#[46]⟩ : ByteArray))).bind fun bt => if bt.2.2.2.2 = true then (if (mk t).toList = [] then some ([], false) else if out.length < 3518437208883 then Ci.l0 k (mk t) (out ++ [(⟨bt.1, bt.2.1, bt.2.2.1, bt.2.2.2.1⟩ : Note)]) else none) else some ([], false)) (fun k => ?_) (Ev.bind hp hr)
    simp only [Ci.l0]
    rw [if_neg hzt, hc, Option.bind_some]
    simp only [if_true]
    rw [if_pos (by rw [Ih]; omega)]
   rcases hps with rfl | ⟨y, hy, ey, rfl⟩
   ·refine ⟨([], false), stp _ (Ev.congr (fun k => if_neg (by decide)) (Ev.now _)), .inl rfl, fun m hm hr => ?_⟩
    cases m with
    | nil => exact absurd hm.symm hz
    | cons x m =>
     have hx := Ii hr
     rcases look x m hx hm with ⟨_, _, hc2⟩ | ⟨_, body, etx, hc2⟩
     ·rw [hc] at hc2; simp at hc2
     ·rw [hc] at hc2
      simp only [Option.some.injEq, Prod.mk.injEq, and_true] at hc2
      have := hpc x hx (by rw [etx, hc2.1])
      simp [zeroN] at this
   ·have hby : B (tx y) = h ++ [46] := by rw [ey, Hf, Gn]; rfl
    by_cases ht : t = []
    ·subst ht
     refine ⟨([], false), stp _ (Ev.congr (fun k => by rw [if_pos rfl, if_pos (by rw [Gq, Gn])]) (Ev.now _)), .inl rfl, fun m hm hr => ?_⟩
     cases m with
     | nil => exact absurd hm.symm hz
     | cons x m =>
      have hx := Ii hr
      rcases look x m hx hm with ⟨_, _, hc2⟩ | ⟨hne, body, etx, hc2⟩
      ·rw [hc] at hc2; simp at hc2
      ·rw [hc] at hc2
       simp only [Option.some.injEq, Prod.mk.injEq, and_true] at hc2
       have := mk_inj hc2.2
       exact absurd (toldL_nil this.symm) hne
    ·obtain ⟨r, hr1, hr2, hr3⟩ := ih (mk t) (out ++ [y]) (by rw [Ih]; omega) (by rw [Ih]; omega) (by rw [Ih, List.length_append]; simp; omega)
     refine ⟨r, stp _ (Ev.congr (fun k => by rw [if_pos rfl, if_neg (by rw [Gq, Gn]; exact ht), if_pos (by omega)]) hr1), ?_, fun m hm hr => ?_⟩
     ·rcases hr2 with h0 | ⟨m, hm, hrep, er⟩
      ·exact .inl h0
      ·rw [Gn] at hm
       cases m with
       | nil => exact absurd hm.symm ht
       | cons z m =>
        refine .inr ⟨y :: z :: m, ?_, by rw [List.append_assoc] at hrep; exact hrep, by rw [er, List.append_assoc]; rfl⟩
        show B (tx y) ++ tailL (z :: m) = B s
        rw [hby, tailL_cons, hm, e]; simp
     ·cases m with
      | nil => exact absurd hm.symm hz
      | cons x m =>
       have hx := Ii hr
       rcases look x m hx hm with ⟨_, _, hc2⟩ | ⟨hne, body, etx, hc2⟩
       ·rw [hc] at hc2; simp at hc2
       ·rw [hc] at hc2
        simp only [Option.some.injEq, Prod.mk.injEq, and_true] at hc2
        obtain rfl := same_note (hpc x hx (by rw [etx, hc2.1]))
        have := hr3 m (by rw [Gn]; exact (mk_inj hc2.2).symm) (by rw [List.append_assoc]; exact hr)
        rw [this, List.append_assoc]; rfl
  ·obtain ⟨p, _, hp, hps, hpc⟩ := read_one s h1
   have stp : ∀ r, Ev (fun k => if p.2.2.2.2 = true then (if out.length < 3518437208883 then Ci.l0 k (⟨#[]⟩ : ByteArray) (out ++ [(⟨p.1, p.2.1, p.2.2.1, p.2.2.2.1⟩ : Note)]) else none) else some ([], false)) r → Ev (fun k => Ci.l0 k s out) r := by
    intro r hr
    refine Ev.step (f := fun k => (Bc.f k s).bind fun bt => if bt.2.2.2.2 = true then (if out.length < 3518437208883 then Ci.l0 k (⟨#[]⟩ : ByteArray) (out ++ [(⟨bt.1, bt.2.1, bt.2.2.1, bt.2.2.2.1⟩ : Note)]) else none) else some ([], false)) (fun k => ?_) (Ev.bind hp hr)
    simp only [Ci.l0]
    rw [if_neg hzt, hc, Option.bind_some]
    simp only [Bool.false_eq_true, if_false]
   rcases hps with rfl | ⟨y, hy, ey, rfl⟩
   ·refine ⟨([], false), stp _ (Ev.congr (fun k => if_neg (by decide)) (Ev.now _)), .inl rfl, fun m hm hr => ?_⟩
    cases m with
    | nil => exact absurd hm.symm hz
    | cons x m =>
     have hx := Ii hr
     rcases look x m hx hm with ⟨_, etx, _⟩ | ⟨_, body, etx, hc2⟩
     ·have := hpc x hx etx
      simp [zeroN] at this
     ·rw [hc] at hc2; simp at hc2
   ·obtain ⟨r, hr1, hr2, hr3⟩ := nil_ev (⟨#[]⟩ : ByteArray) (out ++ [y]) rfl
    refine ⟨r, stp _ (Ev.congr (fun k => by rw [if_pos rfl, if_pos (by omega)]) hr1), ?_, fun m hm hr => ?_⟩
    ·rcases hr2 with h0 | ⟨m, hm, hrep, er⟩
     ·exact .inl h0
     ·obtain rfl := toldL_nil (hm.trans rfl)
      exact .inr ⟨[y], by show B (tx y) ++ tailL [] = B s; rw [ey]; simp [tailL], by rw [List.append_nil] at hrep; exact hrep, by rw [er, List.append_nil]⟩
    ·cases m with
     | nil => exact absurd hm.symm hz
     | cons x m =>
      have hx := Ii hr
      rcases look x m hx hm with ⟨rfl, etx, _⟩ | ⟨_, body, etx, hc2⟩
      ·obtain rfl := same_note (hpc x hx etx)
       have := hr3 [] rfl (by rw [List.append_nil]; exact hr)
       rw [this, List.append_nil]
      ·rw [hc] at hc2; simp at hc2
theorem specRep_ev (s : ByteArray) (hs : s.size ≤ 2000) : ∀ (N fr : Nat) (out : List Note), s.size ≤ fr + N → out.length ≤ fr → fr ≤ 3000 → ∃ r, Ev (fun k => Bl.l0 k s out (fr : Int)) r ∧
  (r = ([], false) ∨ ∃ l, report l = true ∧ told l = s ∧ r = (l, true)) ∧
  ∀ m, report (out ++ m) = true → told (out ++ m) = s → (m = [] → s.size ≤ fr) → (m ≠ [] → fr < s.size ∧ (B s).drop fr = Hq m) → r = (out ++ m, true) := by
 have hlen := Gf s
 have done : ∀ (fr : Nat) (out : List Note), s.size ≤ fr → out.length ≤ fr → fr ≤ 3000 → ∃ r, Ev (fun k => Bl.l0 k s out (fr : Int)) r ∧
   (r = ([], false) ∨ ∃ l, report l = true ∧ told l = s ∧ r = (l, true)) ∧
   ∀ m, report (out ++ m) = true → told (out ++ m) = s → (m = [] → s.size ≤ fr) → (m ≠ [] → fr < s.size ∧ (B s).drop fr = Hq m) → r = (out ++ m, true) := by
  intro fr out h1 h2 h3
  have stp : ∀ r, Ev (fun k => if (reportText out).2 = true then (if (reportText out).1.toList = s.toList then some (out, true) else some ([], false)) else some ([], false)) r → Ev (fun k => Bl.l0 k s out (fr : Int)) r := by
   intro r hr
   refine Ev.step (f := fun k => (Cf.f k out).bind fun bt => if bt.2 = true then (if bt.1.toList = s.toList then some (out, true) else some ([], false)) else some ([], false)) (fun k => ?_) (Ev.bind (Ik out (by omega)) hr)
   simp only [Bl.l0]
   rw [if_neg (by omega)]
  refine ⟨if report out = true ∧ told out = s then (out, true) else ([], false), stp _ ?_, ?_, fun m q1 q2 q3 q4 => ?_⟩
  ·by_cases c : report out = true
   ·have e1 : reportText out = (told out, true) := if_pos c
    by_cases d : told out = s
    ·have e2 : (if report out = true ∧ told out = s then (out, true) else (([] : List Note), false)) = (out, true) := if_pos ⟨c, d⟩
     rw [e1, e2]
     exact Ev.congr (fun k => (if_pos rfl).trans (if_pos (by rw [d]))) (Ev.now _)
    ·have e2 : (if report out = true ∧ told out = s then (out, true) else (([] : List Note), false)) = ([], false) := if_neg (fun h => d h.2)
     rw [e1, e2]
     exact Ev.congr (fun k => (if_pos rfl).trans (if_neg (fun h => d (Hy (by rw [Gq, Gq] at h; exact h))))) (Ev.now _)
   ·have e1 : reportText out = ((⟨#[]⟩ : ByteArray), false) := if_neg c
    have e2 : (if report out = true ∧ told out = s then (out, true) else (([] : List Note), false)) = ([], false) := if_neg (fun h => c h.1)
    rw [e1, e2]
    exact Ev.congr (fun k => if_neg (by decide)) (Ev.now _)
  ·by_cases c : report out = true ∧ told out = s
   ·rw [if_pos c]; exact .inr ⟨out, c.1, c.2, rfl⟩
   ·rw [if_neg c]; exact .inl rfl
  ·by_cases hm : m = []
   ·subst hm
    rw [List.append_nil] at q1 q2 ⊢
    rw [if_pos ⟨q1, q2⟩]
   ·have := (q4 hm).1; omega
 intro N
 induction N with
 | zero => intro fr out h1 h2 h3; exact done fr out (by omega) h2 h3
 | succ N ih =>
  intro fr out h1 h2 h3
  by_cases hf : s.size ≤ fr
  ·exact done fr out hf h2 h3
  -- to the next stop
  have run : ∀ (e : Nat) (r : List Note × Bool), e ≤ s.size → (∀ j (hj : j < (B s).length), fr ≤ j → j < e → (B s)[j] ≠ 46) → (e = s.size ∨ ∃ hj : e < (B s).length, (B s)[e] = 46) → Ev (fun k => Bl.j2 k s out (fr : Int) (e : Int)) r → fr ≤ e → Ev (fun k => Bl.l0 k s out (fr : Int)) r := by
   intro e r he hno hend hr hfe
   have key : ∀ (d n : Nat), n + d = e → fr ≤ n → Ev (fun k => Bl.l1 k s out (fr : Int) (n : Int)) r := by
    intro d
    induction d with
    | zero =>
     intro n hn hfn
     obtain rfl : n = e := by omega
     refine Ev.step (fun k => ?_) hr
     simp only [Bl.l1]
     rcases hend with h | ⟨hj, h⟩
     ·rw [if_neg (by omega)]
     ·rw [if_pos (by omega), if_pos (by omega), if_pos (by rw [bt_B s n hj, h]; rfl)]
    | succ d ih2 =>
     intro n hn hfn
     have hj : n < (B s).length := by omega
     refine Ev.step (fun k => ?_) (ih2 (n + 1) (by omega) (by omega))
     simp only [Bl.l1]
     rw [if_pos (by omega), if_pos (by omega), if_neg, wrap_succ (by omega)]
     rw [bt_B s n hj]
     intro h
     refine hno n hj hfn (by omega) (UInt8.toNat_inj.1 ?_)
     show (B s)[n].toNat = 46
     omega
   refine Ev.step (fun k => ?_) (key (e - fr) fr (by omega) (Nat.le_refl _))
   simp only [Bl.l0]
   rw [if_pos (by omega)]
  have at_ : ∀ j, fr ≤ j → (hj : j < (B s).length) → ∃ h2 : j - fr < ((B s).drop fr).length, ((B s).drop fr)[j - fr] = (B s)[j] := by
   intro j h1 hj
   refine ⟨by rw [List.length_drop]; omega, ?_⟩
   rw [List.getElem_drop]
   congr 1
   omega
  rcases split46 ((B s).drop fr) with ⟨body, t, e, hb⟩ | hno
  ·have hl2 := congrArg List.length e
   rw [List.length_drop, List.length_append, List.length_cons] at hl2
   have hx : s.extract fr (fr + body.length + 1) = mk (body ++ [46]) := Hy (by
    rw [Gu, Gn, e, show fr + body.length + 1 - fr = (body ++ [46]).length from by simp; omega, show body ++ 46 :: t = (body ++ [46]) ++ t from by simp, List.take_left' rfl])
   have hdr : (B s).drop (fr + body.length + 1) = t := by rw [show fr + body.length + 1 = fr + (body ++ [46]).length from by simp; omega, ← List.drop_drop, e, show body ++ 46 :: t = (body ++ [46]) ++ t from by simp, List.drop_left' rfl]
   obtain ⟨p, hp, _, hps, hpc⟩ := read_one (mk (body ++ [46])) (by rw [Ih]; simp; omega)
   have stp : ∀ r, Ev (fun k => if p.2.2.2.2 = true then (if out.length < 3518437208883 then Bl.l0 k s (out ++ [(⟨p.1, p.2.1, p.2.2.1, p.2.2.2.1⟩ : Note)]) ((fr + body.length + 2 : Nat) : Int) else none) else some ([], false)) r → Ev (fun k => Bl.l0 k s out (fr : Int)) r := by
    intro r hr
    refine run (fr + body.length) r (by omega) (fun j hj h1 h2 => ?_) (.inr ⟨by omega, ?_⟩) ?_ (by omega)
    ·obtain ⟨hq, eq⟩ := at_ j h1 hj
     rw [← eq]
     simp only [e]
     rw [List.getElem_append_left (by omega)]
     exact hb _ (List.getElem_mem _)
    ·obtain ⟨hq, eq⟩ := at_ (fr + body.length) (by omega) (by omega)
     rw [← eq]
     simp only [e, show fr + body.length - fr = body.length from by omega]
     simp
    ·refine Ev.step (f := fun k => (Aq.f k (mk (body ++ [46]))).bind fun bt => if bt.2.2.2.2 = true then (if out.length < 3518437208883 then Bl.l0 k s (out ++ [(⟨bt.1, bt.2.1, bt.2.2.1, bt.2.2.2.1⟩ : Note)]) ((fr + body.length + 2 : Nat) : Int) else none) else some ([], false)) (fun k => ?_) (Ev.bind hp hr)
     simp only [Bl.j2]
     have w1 : wrap64 (((fr + body.length : Nat) : Int) + 1) = ((fr + body.length + 1 : Nat) : Int) := by rw [Fz (by omega) (by omega)]; omega
     have w2 : wrap64 (((fr + body.length : Nat) : Int) + 2) = ((fr + body.length + 2 : Nat) : Int) := by rw [Fz (by omega) (by omega)]; omega
     rw [if_neg (by omega), if_pos (by omega), w1, w2, if_pos (by omega), if_pos (by omega), Int.toNat_natCast, Int.toNat_natCast, hx]
   rcases hps with rfl | ⟨y, hy, ey, rfl⟩
   ·refine ⟨([], false), stp _ (Ev.congr (fun k => if_neg (by decide)) (Ev.now _)), .inl rfl, fun m q1 q2 q3 q4 => ?_⟩
    cases m with
    | nil => exact absurd (q3 rfl) hf
    | cons x m =>
     have hx2 := Ii q1
     obtain ⟨bx, ebx, hbx⟩ := body_ex x hx2
     have e2 := (q4 (by simp)).2
     rw [e, show Hq (x :: m) = B (tx x) ++ tailL m from rfl, ebx, List.append_assoc] at e2
     obtain ⟨f1, f2⟩ := first46 e2 hb hbx
     have := hpc x hx2 (Hy (by rw [ebx, Gn, f1]))
     simp [zeroN] at this
   ·obtain ⟨r, hr1, hr2, hr3⟩ := ih (fr + body.length + 2) (out ++ [y]) (by omega) (by rw [List.length_append]; simp; omega) (by omega)
    refine ⟨r, stp _ (Ev.congr (fun k => by rw [if_pos rfl, if_pos (by omega)]) hr1), hr2, fun m q1 q2 q3 q4 => ?_⟩
    cases m with
    | nil => exact absurd (q3 rfl) hf
    | cons x m =>
     have hx2 := Ii q1
     obtain ⟨bx, ebx, hbx⟩ := body_ex x hx2
     have e2 := (q4 (by simp)).2
     rw [e, show Hq (x :: m) = B (tx x) ++ tailL m from rfl, ebx, List.append_assoc] at e2
     obtain ⟨f1, f2⟩ := first46 e2 hb hbx
     obtain rfl := same_note (hpc x hx2 (Hy (by rw [ebx, Gn, f1])))
     have := hr3 m (by rw [List.append_assoc]; exact q1) (by rw [List.append_assoc]; exact q2) (fun hm => by
      subst hm
      have : t = [] := f2
      rw [this] at hl2
      simp at hl2
      omega) (fun hm => by
      cases m with
      | nil => exact absurd rfl hm
      | cons z m =>
       have ft : t = 32 :: Hq (z :: m) := f2
       have hne := toldL_ne z m
       have hpos : 0 < (Hq (z :: m)).length := List.length_pos_iff.2 hne
       rw [ft] at hl2 hdr
       simp at hl2
       refine ⟨by omega, ?_⟩
       rw [show fr + body.length + 2 = (fr + body.length + 1) + 1 from rfl, ← List.drop_drop, hdr]
       rfl)
     rw [this, List.append_assoc]
     rfl
  ·refine ⟨([], false), run s.size ([], false) (Nat.le_refl _) (fun j hj h1 h2 => ?_) (.inl rfl) (Ev.step (f := fun _ => some _) (fun k => ?_) (Ev.now _)) (by omega), .inl rfl, fun m q1 q2 q3 q4 => ?_⟩
   ·obtain ⟨hq, eq⟩ := at_ j h1 hj
    rw [← eq]
    exact hno _ (List.getElem_mem hq)
   ·simp only [Bl.j2]
    exact if_pos trivial
   ·cases m with
    | nil => exact absurd (q3 rfl) hf
    | cons x m =>
     obtain ⟨bx, ebx, hbx⟩ := body_ex x (Ii q1)
     have e2 := (q4 (by simp)).2
     rw [show Hq (x :: m) = B (tx x) ++ tailL m from rfl, ebx, List.append_assoc] at e2
     exact absurd rfl (hno 46 (by rw [e2]; simp))
/-- One answer for both. -/
theorem reportBoth (s : ByteArray) (hs : s.size ≤ 1048576) : ∃ r : List Note × Bool, Ev (fun k => Bl.f k s) r ∧ Ev (fun k => Ci.f k s) r ∧ r.1.length ≤ 10 ∧ ∀ l, report l = true → told l = s → r = (l, true) := by
 obtain ⟨ri, hi, hi2, hi3⟩ := implRep_ev s.size s [] (Nat.le_refl _) hs (by simp; omega)
 have hspec : ∃ r, Ev (fun k => Bl.f k s) r ∧ (r = ([], false) ∨ ∃ l, report l = true ∧ told l = s ∧ r = (l, true)) ∧ ∀ l, report l = true → told l = s → r = (l, true) := by
  unfold Bl.f
  simp only [Option.bind_some]
  by_cases c : (s.size : Int) > 2000
  ·refine ⟨([], false), Ev.congr (fun k => if_pos c) (Ev.now _), .inl rfl, fun l h1 h2 => ?_⟩
   obtain ⟨hl, ho⟩ := I5 h1
   have := told_size _ l rfl ho
   rw [h2] at this
   omega
  ·obtain ⟨r, h1, h2, h3⟩ := specRep_ev s (by omega) s.size 0 [] (by omega) (by simp) (by omega)
   refine ⟨r, Ev.congr (fun k => if_neg c) h1, h2, fun l q1 q2 => h3 l q1 q2 (fun hm => ?_) (fun hm => ?_)⟩
   ·subst hm; rw [← q2]; exact Nat.le_refl 0
   ·have e : B s = Hq l := by rw [← q2, B_told]
    cases l with
    | nil => exact absurd rfl hm
    | cons x m =>
     refine ⟨?_, by rw [List.drop_zero, e]⟩
     have := List.length_pos_iff.2 (toldL_ne x m)
     rw [← e, Gf] at this
     exact this
 obtain ⟨rs, hs1, hs2, hs3⟩ := hspec
 have heq : ri = rs := by
  rcases hi2 with h | ⟨m, hm, hrep, hr⟩
  ·rcases hs2 with h' | ⟨l, q1, q2, q3⟩
   ·rw [h, h']
   ·have := hi3 l (by rw [← B_told, q2]) q1
    rw [this, q3]; rfl
  ·rw [hr, hs3 m hrep (Hy (by rw [B_told, hm]))]; rfl
 refine ⟨rs, hs1, by rw [heq] at hi; exact hi, ?_, hs3⟩
 rcases hs2 with h | ⟨l, q1, _, q3⟩
 ·rw [h]; simp
 ·rw [q3]; exact (I5 q1).1
theorem spoilt_ok {l : List Int} (h : okB l) (p s : Int) (a b : ByteArray) (h0 : 0 ≤ p) (h1 : p ≤ 800000000000) (ha : a.size ≤ 1000000) (hb : 1 ≤ b.size) (hb2 : b.size ≤ 100) : Drawn (Fj.f l p s a b) p 6 (fun v => v.size ≤ a.size + 1) := by
 unfold Fj.f
 by_cases c : a.toList = ([] : List UInt8)
 ·rw [if_pos c, if_pos (by omega)]
  exact ⟨_, _, _, rfl, by simp only [ByteArray.size_extract]; omega, by omega, by omega⟩
 ·rw [if_neg c]
  have ha1 : 1 ≤ a.size := by
   rcases Nat.eq_zero_or_pos a.size with e | e
   ·exfalso; apply c; rw [Gq]; exact List.length_eq_zero_iff.1 (by rw [Gf]; exact e)
   ·exact e
  obtain ⟨v1, p1, s1, e1, m1, b1, b1'⟩ := Hu h p s a.size h0 (by omega) (by omega)
  obtain ⟨v2, p2, s2, e2, m2, b2, b2'⟩ := Hu h p1 s1 b.size (by omega) (by omega) (by omega)
  obtain ⟨v3, p3, s3, e3, m3, b3, b3'⟩ := Hu h p2 s2 3 (by omega) (by omega) (by omega)
  have k1 := m1.2.1 (by omega)
  have k2 := m2.2.1 (by omega)
  rw [e1]; simp only [Option.bind_some]
  rw [e2]; simp only [Option.bind_some]
  rw [e3]; simp only [Option.bind_some]
  rw [if_pos ⟨⟨m2.1, k2⟩, ⟨m1.1, k1⟩, by omega, by omega⟩]
  by_cases d0 : v3 = 0
  ·rw [if_pos d0]
   exact ⟨_, _, _, rfl, by simp only [ByteArray.size_append, ByteArray.size_extract]; omega, by omega, by omega⟩
  ·rw [if_neg d0]
   by_cases d1 : v3 = 1
   ·rw [if_pos d1]
    exact ⟨_, _, _, rfl, by simp only [ByteArray.size_append, ByteArray.size_extract]; omega, by omega, by omega⟩
   ·rw [if_neg d1]
    exact ⟨_, _, _, rfl, by simp only [ByteArray.size_append, ByteArray.size_extract]; omega, by omega, by omega⟩
end Go.Proofs.YtghnljoaklmakaaGreatDoor.X

namespace Go.Proofs.YtghnljoaklmakaaGreatDoor.X
open Go.RowKit Go.Proofs.YtghnljoaklmakaaGreatDoorW.PrintWords Go.Proofs.YtghnljoaklmakaaGreatDoorW.PrintMore Go.Proofs.YtghnljoaklmakaaGreatDoorL
theorem rNotes_ev (l : List Note) (h : l.length ≤ 1048576) : Ev (fun k => D8.f k l l) true := by
 have key : ∀ (d n : Nat), n + d = l.length → Ev (fun k => D8.l0 k l l n) true := by
  intro d
  induction d with
  | zero => intro n hn; exact Ev.step (f := fun _ => some _) (fun k => by simp only [D8.l0]; rw [if_neg (by omega)]) (Ev.now _)
  | succ d ih =>
   intro n hn
   refine Ev.step (f := fun k => D8.l0 k l l ((n + 1 : Nat) : Int)) (fun k => ?_) (ih (n + 1) (by omega))
   simp only [D8.l0]
   rw [if_pos (by omega), if_pos (by omega), if_pos (by omega), wrap_succ (by omega)]
   simp
 exact Ev.congr (f := fun k => D8.l0 k l l ((0 : Nat) : Int)) (fun k => by unfold D8.f; rw [if_pos rfl]; rfl) (key l.length 0 (by omega))
def H7 (a : Int) (b : ByteArray) (c d : Int) : ByteArray × Bool := if F8 a b c d = true then (Ha a b c d, true) else (⟨#[]⟩, false)
theorem implNT_ev (a : Int) (b : ByteArray) (c d : Int) : Ev (fun k => Fg.f k a b c d) (H7 a b c d) := by
 unfold Fg.f H7
 refine Ev.bind (implNote_ev _ _ _ _) ?_
 cases e : F8 a b c d with
 | true => simp only [if_true]; exact Ev.bind (implText_ev _ _ _ _ e) (Ev.now _)
 | false => simp only [Bool.false_eq_true, if_false]; exact Ev.now _
theorem specNT_ev (a : Int) (b : ByteArray) (c d : Int) : Ev (fun k => Ep.f k a b c d) (H7 a b c d) := by
 unfold Ep.f H7
 refine Ev.bind (specNote_ev _ _ _ _) ?_
 cases e : F8 a b c d with
 | true => simp only [if_true]; exact Ev.bind (specText_ev _ _ _ _ e) (Ev.now _)
 | false => simp only [Bool.false_eq_true, if_false]; exact Ev.now _
theorem noteText_size (a : Int) (b : ByteArray) (c d : Int) : (H7 a b c d).1.size ≤ 150 := by
 unfold H7; split
 ·rename_i h; exact text_size a b c d h
 ·exact Nat.zero_le _
theorem reportText_size (l : List Note) : (reportText l).1.size ≤ 1510 := by
 unfold reportText; split
 ·rename_i h
  have := told_size _ l rfl (I5 h).2; have := (I5 h).1
  simp only []; omega
 ·exact Nat.zero_le _
theorem nj4_ev (x0 : List Int) (hb : okB x0) : Ev (fun k => Bd.j4 k x0) true := by
 obtain ⟨r, p, s, e, q, b, b'⟩ := notes_ok hb 0 0 (by omega) (by omega)
 obtain ⟨v, p1, s1, e1, q1, b1, b1'⟩ := one_ok hb p s 4 (by omega) (by omega) (by omega)
 have rz := reportText_size r
 have ed : ∃ t : ByteArray, Ev (fun k => Es.f k x0) t ∧ t.size ≤ 1048576 := by
  unfold Es.f
  cases v with
  | true =>
   obtain ⟨w, p2, s2, e2, q2, b2, b2'⟩ := spoilt_ok hb p1 s1 (reportText r).1 (⟨#[46, 32, 48, 49, 115]⟩ : ByteArray) (by omega) (by omega) (by omega) (by decide) (by decide)
   refine ⟨w, Ev.bind e (Ev.bind (Ik r (by omega)) (Ev.congr (f := fun _ => some w) (fun k => ?_) (Ev.now _))), by omega⟩
   simp only [e1, Option.bind_some, if_true, e2]
  | false =>
   refine ⟨(reportText r).1, Ev.bind e (Ev.bind (Ik r (by omega)) (Ev.congr (f := fun _ => some (reportText r).1) (fun k => ?_) (Ev.now _))), by omega⟩
   simp only [e1, Option.bind_some, Bool.false_eq_true, if_false]
 obtain ⟨t, et, tz⟩ := ed
 obtain ⟨rr, h1, h2, hl, _⟩ := reportBoth t tz
 refine Ev.step (fun k => by simp only [Bd.j4]; rfl) (Ev.bind et (Ev.bind h2 (Ev.bind h1 ?_)))
 simp only [beq_self_eq_true, if_true]
 exact Ev.bind (rNotes_ev rr.1 (by omega)) (Ev.now _)
theorem nj2_ev (x0 : List Int) (hb : okB x0) : Ev (fun k => Bd.j2 k x0 false) true := by
 obtain ⟨r, p, s, e, q, b, b'⟩ := notes_ok hb 0 0 (by omega) (by omega)
 have ed : Ev (fun k => Eu.f k x0) r := by
  unfold Eu.f; exact Ev.bind e (Ev.now _)
 have rz := reportText_size r
 refine Ev.step (fun k => by simp only [Bd.j2, Bool.false_eq_true, if_false]; try rfl) (Ev.bind ed (Ev.bind (implReportText_ev r) (Ev.bind (Ik r (by omega)) ?_)))
 simp only [if_true, bne_self_eq_false]
 refine Ev.step (fun k => by simp only [Bd.j3, Bool.false_eq_true, if_false]; try rfl) ?_
 cases ok : (reportText r).2 with
 | false => simp only [Bool.false_eq_true, if_false]; exact nj4_ev x0 hb
 | true =>
  have hrep : report r = true := by unfold reportText at ok; split at ok <;> simp_all
  have htold : (reportText r).1 = told r := by unfold reportText; rw [if_pos hrep]
  obtain ⟨rr, h1, h2, hl, hback⟩ := reportBoth (reportText r).1 (by omega)
  have hr := hback r hrep htold.symm
  subst hr
  simp only [if_true]
  refine Ev.bind h2 ?_
  simp only [if_true]
  refine Ev.bind (rNotes_ev r (by omega)) ?_
  simp only [if_true]
  exact nj4_ev x0 hb
theorem nj1_ev (x0 : List Int) (hb : okB x0) : Ev (fun k => Bd.j1 k x0 false) true := by
 obtain ⟨a, b, c, d, p, s, e, g1, g2⟩ := note_ok hb 0 0 (by omega) (by omega)
 have tz := noteText_size a b c d
 have j0 : ∀ t : ByteArray, t.size ≤ 1000 → ∃ t', Ev (fun k => Df.j0 k t x0 p s) t' ∧ t'.size ≤ 1048576 := by
  intro t ht
  obtain ⟨v, p1, s1, e1, q1, b1, b1'⟩ := one_ok hb p s 4 (by omega) (by omega) (by omega)
  cases v with
  | true =>
   obtain ⟨w, p2, s2, e2, q2, b2, b2'⟩ := spoilt_ok hb p1 s1 t (⟨#[46, 32, 48, 49, 115]⟩ : ByteArray) (by omega) (by omega) (by omega) (by decide) (by decide)
   refine ⟨w, Ev.step (f := fun _ => some w) (fun k => ?_) (Ev.now _), by omega⟩
   simp only [Df.j0, e1, Option.bind_some, if_true, e2]
  | false =>
   refine ⟨t, Ev.step (f := fun _ => some t) (fun k => ?_) (Ev.now _), by omega⟩
   simp only [Df.j0, e1, Option.bind_some, Bool.false_eq_true, if_false]
 have ed : ∃ t : ByteArray, Ev (fun k => Df.f k x0) t ∧ t.size ≤ 1048576 := by
  unfold Df.f
  cases ok : (H7 a b c d).2 with
  | true =>
   obtain ⟨t, h1, h2⟩ := j0 (H7 a b c d).1 (by omega)
   refine ⟨t, Ev.bind e (Ev.bind (specNT_ev a b c d) ?_), h2⟩
   simp only [ok, if_true]; exact h1
  | false =>
   obtain ⟨t, h1, h2⟩ := j0 (⟨#[67, 111, 110, 116, 97, 105, 110, 101, 114, 32, 111, 119, 101, 115, 32, 49, 32, 102, 111, 114, 32, 49, 32, 100, 97, 121, 115, 46]⟩ : ByteArray) (by decide)
   refine ⟨t, Ev.bind e (Ev.bind (specNT_ev a b c d) ?_), h2⟩
   simp only [ok, Bool.false_eq_true, if_false]; exact h1
 obtain ⟨t, et, tz⟩ := ed
 obtain ⟨rr, h1, h2, _⟩ := parseBoth t tz
 refine Ev.step (fun k => by simp only [Bd.j1, Bool.false_eq_true, if_false]; try rfl) (Ev.bind et (Ev.bind h2 (Ev.bind h1 ?_)))
 simp only [beq_self_eq_true, Bool.not_true, Bool.or_self, Bool.false_eq_true, if_false, bne_self_eq_false]
 exact nj2_ev x0 hb
end Go.Proofs.YtghnljoaklmakaaGreatDoor.X
namespace Go.Proofs.YtghnljoaklmakaaGreatDoor.Pure
open Go.RowKit Go.Proofs.YtghnljoaklmakaaGreatDoorW.PrintWords Go.Proofs.YtghnljoaklmakaaGreatDoorL Go.Proofs.YtghnljoaklmakaaGreatDoor.X
theorem FnNotes : OFnNotes.Pure := by
 intro l0 hl
 have hb : okB l0 := okB_of hl.2.2
 refine ev_rounds ?_
 unfold Bd.f
 by_cases hbig : (l0.length : Int) > 65536
 ·refine Ev.congr (f := fun _ => some true) (fun k => ?_) (Ev.now _)
  simp only [Ip.f, hbig, decide_true, Option.bind_some, if_true]
 ·obtain ⟨a, b, c, d, p, s, e, g1, g2⟩ := note_ok hb 0 0 (by omega) (by omega)
  have ed : Ev (fun k => Et.f k l0) (a, b, c, d) := by
   unfold Et.f
   refine Ev.bind (a := (a, b, c, d)) ?_ (Ev.now _)
   unfold F7.f
   exact Ev.bind e (Ev.now _)
  have tz := noteText_size a b c d
  refine Ev.congr (f := fun k => (Et.f k l0).bind _) (fun k => by simp only [Ip.f, hbig, decide_false, Option.bind_some]; rw [if_neg (by decide)]) (Ev.bind ed (Ev.bind (implNT_ev a b c d) (Ev.bind (specNT_ev a b c d) ?_)))
  simp only [if_true, bne_self_eq_false, Bool.false_eq_true, if_false]
  refine Ev.bind (implNote_ev a b c d) ?_
  obtain ⟨rr, h1, h2, _, hback⟩ := parseBoth (H7 a b c d).1 (by omega)
  cases ok : F8 a b c d with
  | true =>
   have ht : H7 a b c d = (Ha a b c d, true) := by unfold H7; rw [if_pos ok]
   rw [ht] at h2 hback ⊢
   have hr := hback a b c d ok rfl
   subst hr
   simp only [bne_self_eq_false]
   refine Ev.step (fun k => by simp only [Bd.j0, Bool.false_eq_true, if_false, if_true]; try rfl) (Ev.bind h2 ?_)
   simp only [if_true, beq_self_eq_true, Bool.not_true, Bool.or_self]
   exact nj1_ev l0 hb
  | false =>
   have ht : H7 a b c d = ((⟨#[]⟩ : ByteArray), false) := by unfold H7; rw [if_neg (by rw [ok]; decide)]
   rw [ht] at h2 ⊢
   simp only [bne_self_eq_false]
   refine Ev.step (fun k => by simp only [Bd.j0, Bool.false_eq_true, if_false]; try rfl) (Ev.bind h2 ?_)
   exact nj1_ev l0 hb
end Go.Proofs.YtghnljoaklmakaaGreatDoor.Pure

namespace Go.Proofs.YtghnljoaklmakaaGreatDoorHs
open Go
theorem handed_shaped {H : Type} {enc : TypeId × Value → H} {a : Assume} {C : Checked} {os : Os} {f : FuncId} {fn : Func} {s : ChangeSpec} {conds : List PathCond} {apart fresh handsOn again : Bool} {X : World → Array Value → Prop}
  (hX : ∀ (w w' : World) (args : Array Value), w.heap = w'.heap → X w args → X w' args)
  (own : ownKnob C.prog.godebug = none) (started : os.Started) (noInit : C.prog.inits.idxOf? f = none) (hfn : C.prog.funcs[f]? = some fn)
  (witness : ∃ (w : World) (tape : Tape) (i : Input), w.os = os ∧ (w.forCall tape i).Shaped C.prog ∧ i.vars = [] ∧ Input.okWide C.prog (w.forCall tape i) .any w.heap.size f i ∧
   ((s.pre enc C.prog fn conds apart (w.forCall tape i).memory i.args ∧ X (w.forCall tape i).memory i.args) ∧ sizedMet enc C.prog fn (OpenSpec.ofChange s) apart (w.forCall tape i).memory i.args) ∧ a.holds C.prog (lone (Frame.enter C.prog f i.args .normal) [] (w.forCall tape i)))
  (contract : ∀ (W : World) (base : Nat) (args : Array Value) (ds gs : List (DataW H)) (before : List MemPlace),
   (∀ (j : Nat) t v, fn.params[j]? = some t → args[j]? = some v → Value.okWide C.prog W .any base t v) →
   DataW.Whole enc C.prog fn.params.toList s.vars apart W args.toList ds gs before →
   conds.all (PathCond.test C.prog ⟨fn.params.toList, ds, s.plain.varTypes C.prog, gs⟩) = true →
   (DataW.weightsEach C.prog (fn.params.toList ++ s.plain.varTypes C.prog) (ds ++ gs)).all (· ≤ reachBytes) = true → X W args →
   W.ShapedOpen C.prog →
   Calls C.prog f args W fun e W' => ∃ v, e = .returned v ∧ s.post enc C.prog fn apart fresh handsOn again W args v W') :
  ReturnsInHanded a C os f .any (fun w args => (s.pre enc C.prog fn conds apart w args ∧ X w args) ∧ sizedMet enc C.prog fn (OpenSpec.ofChange s) apart w args) (s.post enc C.prog fn apart fresh handsOn again) := by
 refine returnsInHanded_of_calls own started noInit witness ?_
 intro w tape i _ hsh _ hok hpre hholds
 obtain ⟨_, _, _, fn', hfn', _, _, _, _, hval⟩ := hok
 obtain rfl : fn' = fn := Option.some.inj (hfn'.symm.trans hfn)
 obtain ⟨⟨⟨ds, gs, before, hw, hc⟩, hx⟩, hz⟩ := hpre
 have hw' := DataW.Whole.of_heap (w' := w.forCall tape i) (by rfl) hw
 refine (contract (w.forCall tape i) w.heap.size i.args ds gs before hval hw' hc (hz.weights hw) (hX _ _ _ (by rfl) hx) hsh).mono fun e W' ⟨v, he, hp⟩ => ?_
 subst he
 exact ChangeSpec.post_blind hp
end Go.Proofs.YtghnljoaklmakaaGreatDoorHs


namespace Go.Proofs.YtghnljoaklmakaaGreatDoor.fnNotes
open Go.ChangeShapes Go.WideShapes Go.ChangeAt Go.RowKit
open Go.ChangeMaps (open_string shut_string)
open Go.Joins
open Go.Proofs.YtghnljoaklmakaaGreatDoorW.PrintWords Go.Proofs.YtghnljoaklmakaaGreatDoorW.PrintLast Go.Proofs.YtghnljoaklmakaaGreatDoorW.PrintMore
open Go.Proofs.YtghnljoaklmakaaGreatDoorZ Go.Proofs.YtghnljoaklmakaaGreatDoor.X Go.Proofs.YtghnljoaklmakaaGreatDoor.X.OFnNotes
set_option linter.unusedVariables false
set_option linter.unusedSimpArgs false
theorem own : ownKnob Tryz.prog.godebug = none := by kernel_rfl
theorem laidOut : laidOutB Tryz.prog = true := by kernel_rfl
open Go Go.Proofs.YtghnljoaklmakaaGreatDoorG
def laidL : List (String × DataW Unit) := [("math/bits.deBruijn32tab", Rows.laid_math_bits_deBruijn32tab), ("math/bits.deBruijn64tab", Rows.laid_math_bits_deBruijn64tab), ("internal/strconv.uint64pow10", Rows.laid_internal_strconv_uint64pow10), ("strconv.ErrRange", Rows.laid_strconv_ErrRange), ("strconv.ErrSyntax", Rows.laid_strconv_ErrSyntax)]
theorem globOf {W : World} (h : laidMetH Tryz.prog laidL W) (hs : W.ShapedOpen Tryz.prog) : Fp W := by
  rw [MakeChecks.laidMetH_plain _ _ _ (by kernel_rfl)] at h
  exact Fp.of_tabs (ts := [105, 110, 118, 97, 108, 105, 100, 32, 115, 121, 110, 116, 97, 120]) (tr := [118, 97, 108, 117, 101, 32, 111, 117, 116, 32, 111, 102, 32, 114, 97, 110, 103, 101]) (h.filter fun x => x.1 == "internal/strconv.uint64pow10") (h.filter fun x => x.1 == "strconv.ErrSyntax") (h.filter fun x => x.1 == "strconv.ErrRange") (Go.Proofs.Tryz.laysM219.s1_3 W hs)
set_option maxRecDepth 100000 in
set_option maxHeartbeats 2000000 in
theorem lifted (os : Os) (started : os.Started) (H : Type) (enc : TypeId × Value → H) :
    ReturnsInHanded {} Tryz.checked os 3 .any (fun w args => (Rows.fnNotesSpec.pre enc Tryz.prog Tryz.f3 Rows.fnNotesRow.domain false w args ∧ laidMetH Tryz.prog laidL w) ∧ sizedMet enc Tryz.prog Tryz.f3 (OpenSpec.ofChange Rows.fnNotesSpec) false w args) (Rows.fnNotesSpec.post enc Tryz.prog Tryz.f3 false true false false) := by
  refine Go.Proofs.YtghnljoaklmakaaGreatDoorHs.handed_shaped (C := Tryz.checked) (X := fun w _ => laidMetH Tryz.prog laidL w) (fun _ _ _ hh h => h.of_heap hh) own started (by kernel_rfl) Tryz.func3
    (ChangeSpec.witness_shaped (enc := enc) (C := Tryz.checked) (os := os) (X := fun w _ => laidMetH Tryz.prog laidL w) false (World.laidAll Tryz.prog os laidL) #[.slice none 0 0] 8 (World.laidAll_os _ _ _)
      (World.shaped_of_ZipB (by kernel_rfl) (by kernel_rfl)) (by kernel_rfl) (by kernel_rfl) (by kernel_rfl)
      (by rw [MakeChecks.laidMetH_plain _ _ _ (by kernel_rfl)]; exact laidMet_laidAll _ (by kernel_rfl) (by kernel_rfl))) ?_
  intro W base args ds gs before hval0 hW hcnd hsz0 hL hSh
  have hG := globOf hL hSh
  have hsz : (DataW.weightsEach Tryz.prog (Tryz.f3.params.toList ++ Rows.fnNotesSpec.plain.varTypes Tryz.prog) (ds ++ gs)).all (· ≤ reachBytes) = true := hsz0
  have hval : ∀ (j : Nat) t v, Tryz.f3.params[j]? = some t → args[j]? = some v → Value.okWide Tryz.prog W .any base t v := hval0
  have hW' := hW
  obtain ⟨p, q, hA0, hV, rfl, hfz, hnd⟩ := hW
  have hA : DataW.TrodAll enc Tryz.prog W 0 (fun _ => true) true Tryz.f3.params.toList args.toList ds p := hA0
  rw [Tryz.params3] at hA hval hsz
  obtain ⟨v0, vs0, d0, ds0, p0, q0, hargs, rfl, rfl, h0, r0⟩ := trodAll_cons hA
  obtain ⟨rfl, rfl, rfl⟩ := trodAll_nil r0
  obtain rfl : args = #[v0] := by cases args; simp_all
  obtain ⟨rfl, rfl⟩ := trodVars_none hV
  obtain ⟨a0, len0, cap0, rfl⟩ := okWide_slice Tryz.underlying22 (hval 0 22 v0 rfl rfl)
  have k0 := h0
  have lt0 : ∀ x ∈ p0, x.block < W.heap.size := by obtain ⟨m, hm⟩ := k0; exact DataW.trod_lt m _ _ _ hm
  obtain ⟨l0, rfl, hc0, hr0, w0⟩ : ∃ l : List Int, len0 = l.length ∧ l.length ≤ cap0 ∧ Kd.C (Kd.int .u8) W a0 l.length l ∧ (l.length * 1 ≤ 140737488351232 ∧ l.length ≤ 9223372036854775807 ∧ ∀ y1 ∈ l, (Lit.int .u8 y1).wf = true) := by
    obtain ⟨fuel, hf⟩ := h0
    obtain ⟨l, ⟨A_, c_, e_, hl_, hC_⟩, hfit_⟩ := (opens_slice 0 Tryz.underlying22 (by kernel_rfl) (opens_int Tryz.underlying5) (by kernel_rfl)) hf (weights_param hsz (j := 0) rfl rfl)
    simp [Value.cells] at e_
    obtain ⟨rfl, rfl, rfl⟩ := e_
    exact ⟨l, rfl, hl_, hC_, hfit_⟩
  clear hA0 hval0 hsz0 hsz
  obtain ⟨k, h⟩ := Go.Proofs.YtghnljoaklmakaaGreatDoor.Pure.FnNotes l0 w0
  refine (Bd.calls k a0 cap0 l0 true W hr0 hc0 hG h rfl).mono fun e W' ⟨he, bel0⟩ => ?_
  have bel : Below W.heap.size W W' := bel0
  subst he
  exact ⟨_, rfl, _, _, _, [], _, [], hW', trodAll_mk1 (shut_bool Tryz.underlying4 _), (trodAll_cons_mk (Below.trod laidOut (by kernel_rfl) (of_decide_eq_true (by kernel_rfl)) k0 bel lt0) trodAll_mk0), rfl, bel.frame _, fun h => by cases h⟩
theorem over : Rows.fnNotesRow.holds Tryz.pinned (OpenSpec.ofChange Rows.fnNotesSpec) :=
  OpenClaim.holds_of_wide 3 Tryz.f3 rfl rfl rfl rfl rfl rfl rfl ⟨rfl, rfl, rfl, rfl, rfl⟩ rfl rfl rfl rfl rfl (by kernel_rfl) Tryz.func3 (by kernel_rfl)
    (of_decide_eq_true (by kernel_rfl)) (by unfold Func.isWrapper; first | (rw [if_pos (by decide +kernel)]; kernel_rfl) | (rw [if_neg (by decide +kernel)]; exact ⟨rfl, rfl⟩))
    (fun os started H enc _ => lifted os started H enc)
theorem proved : Rows.FnNotesSaid := over
theorem carded : Rows.FnNotesCardSaid :=
  Claim7.holds_tied_plain_at .later [] [.data, .data, .data, .sentinel, .sentinel] true (true, "855751cfa2fe19ac8f63e2f0706eaf9b2aa911d71b3c68fc262f950f3c5f367a") true
    proved (fun _ h => by cases h) (by kernel_rfl) (fun _ h => by cases h) fnNotes_row_tie rfl ⟨rfl, rfl⟩ (by kernel_rfl) rfl
    (fun f fn hf hfn => by
      obtain rfl : f = 3 := Option.some.inj ((show Tryz.prog.funcNamed "loop.example/g00906/laws.FnNotes" = some 3 by kernel_rfl).symm.trans hf) |>.symm
      obtain rfl : fn = Tryz.f3 := (Option.some.inj (Tryz.func3.symm.trans hfn)).symm
      exact ⟨by kernel_rfl, fun j t ht => by
        rw [Tryz.params3] at ht
        have hm : t ∈ [22] := by simpa using Array.mem_of_getElem? ht
        have hall : ([22].all fun u => !Tryz.prog.wantsStandIn u) = true := by kernel_rfl
        exact (show Tryz.prog.wantsStandIn t = false by simpa using List.all_eq_true.1 hall t hm)⟩)
    (by kernel_rfl)
#print axioms carded
end Go.Proofs.YtghnljoaklmakaaGreatDoor.fnNotes
namespace Go.Proofs.YtghnljoaklmakaaGreatDoor
/-- The card, under a short name, for the claim. -/
theorem fnNotes_holds : Rows.FnNotesCardSaid := fnNotes.carded
end Go.Proofs.YtghnljoaklmakaaGreatDoor

