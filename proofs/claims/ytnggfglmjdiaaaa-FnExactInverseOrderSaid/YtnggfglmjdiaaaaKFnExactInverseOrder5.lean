/- Texts that the proof of the law FnExactInverseOrder leans on, part 6 of 7. -/
import Derived.Deep.Slices
import Derived.ChangeSame
import Derived.ChangeArms
import Derived.DataReads
import Derived.SizedLaws
import Derived.ProofKit
import Derived.Lib.SmallJoins
import Derived.ChangeOld
import Derived.Below
import Derived.Test.YtnggfglmjdiaaaaKFnExactInverseOrder0
import Derived.Test.YtnggfglmjdiaaaaKFnExactInverseOrder1
import Derived.Test.YtnggfglmjdiaaaaKFnExactInverseOrder2
import Derived.Test.YtnggfglmjdiaaaaKFnExactInverseOrder3
import Derived.Test.YtnggfglmjdiaaaaKFnExactInverseOrder4
set_option linter.unusedVariables false
set_option linter.unusedSimpArgs false
namespace Go.Proofs.Ytnggfglmjdiaaaa.X
open Go.RowKit Go.Proofs.YtnggfglmjdiaaaaW.PrintWords Go.Proofs.YtnggfglmjdiaaaaW.PrintLast Go.Proofs.YtnggfglmjdiaaaaW.PrintMore
attribute [local go_sem] max2_int min2_int max_two min_two max_three min_three max_four min_four
def Bg.f (k : Nat) (l0_0 : List (List Int)) (a0_1 : Int) (l0_2 : List (List Int)) (a1_0 : Int) (a1_1 : Int) (a1_2 : Int) : Option (Int × Int × Int × Bool) := (impl_IsValidTerminal.f k l0_0 a0_1 l0_2).bind fun t400 => (if t400 = true then ((impl_makeOrder.f k l0_0 a0_1 l0_2 a1_0 a1_1 a1_2).bind fun bt401 => (if bt401.2.2.2.2 = true then ((some (([0, 1, 3, 2] : List Int) : List Int)).bind fun y411 => (if 0 ≤ a1_0 then (if a1_0 < (y411.length : Int) then (some (rd y411 a1_0, a1_1, bt401.2.2.2.1, true)) else (none)) else (none))) else (some (0, 0, 0, false)))) else (some (0, 0, 0, false)))
theorem Bg.mono : ∀ a0 a1 a2 a3 a4 a5 k, LeO (Bg.f k a0 a1 a2 a3 a4 a5) (Bg.f (k + 1) a0 a1 a2 a3 a4 a5) := by
 intro a0 a1 a2 a3 a4 a5 k
 unfold Bg.f
 repeat' first
   | (with_reducible exact impl_IsValidTerminal.mono _ _ _ _)
   | (with_reducible exact impl_makeOrder.mono _ _ _ _ _ _ _)
   | (with_reducible exact LeO.refl _)
   | (with_reducible exact LeO.none _)
   | (with_reducible refine LeO.ite ?_ ?_)
   | (with_reducible refine LeO.bind ?_ (fun _ => ?_))
   | exact impl_IsValidTerminal.mono _ _ _ _
   | exact impl_makeOrder.mono _ _ _ _ _ _ _
   | exact LeO.none _
   | refine LeO.ite ?_ ?_
   | refine LeO.bind ?_ (fun _ => ?_)
def Bg.T7 : Bool × List (List Nat × List Nat) := (true, [([], []), ([], []), ([1], [1]), ([0, 2], [0, 2]), ([3], [3]), ([], []), ([5], [5]), ([], []), ([4, 6, 7], [4, 6, 7]), ([8, 0, 1, 2, 3, 4, 5, 6, 7, 8], [8]), ([9, 0, 1, 2, 3, 4, 5, 6, 7, 8, 9], [])])
def Bg.B7 : List Nat := [0, 0, 2, 7, 15, 0, 32, 0, 255, 511, 1023]
theorem Bg.tab7 : rtab .any (opsOf Try.f19 7) = Bg.T7 := by kernel_rfl
theorem Bg.bits7 : waitsOk Bg.T7.2 Bg.B7 = true := by kernel_rfl
set_option maxHeartbeats 8000000 in
set_option maxRecDepth 100000 in
theorem Bg.calls (k : Nat) (A0_0 : Option Addr) (c0_0 : Nat) (l0_0 : List (List Int)) (a0_1 : Int) (A0_2 : Option Addr) (c0_2 : Nat) (l0_2 : List (List Int)) (a1_0 : Int) (a1_1 : Int) (a1_2 : Int) (r1 : Int) (r2 : Int) (r3 : Int) (r4 : Bool) (w : World) (hr0_0 : Kd.C (Kd.slice 3 (Kd.int .i64)) w A0_0 l0_0.length l0_0) (hc0_0 : l0_0.length ≤ c0_0) (hr0_2 : Kd.C (Kd.slice 3 (Kd.int .i64)) w A0_2 l0_2.length l0_2) (hc0_2 : l0_2.length ≤ c0_2) (h : Bg.f k l0_0 a0_1 l0_2 a1_0 a1_1 a1_2 = some (r1, r2, r3, r4)) :
  Calls Try.prog 19 #[.agg #[.slice A0_0 l0_0.length c0_0, .int .i64 a0_1, .slice A0_2 l0_2.length c0_2], .agg #[.int .i64 a1_0, .int .i64 a1_1, .int .i64 a1_2]] w fun e w' => e = .returned (.tuple #[.agg #[.int .i64 r1, .int .i64 r2, .int .i64 r3], .bool r4]) ∧ Below w.heap.size w w' := by
 have hu34 := Try.underlying34
 have hu43 := Try.underlying43
 have HR0_0 := Aside0.mk hr0_0
 have HC0_0 := Aside0.mk hc0_0
 clear hr0_0 hc0_0
 have HR0_2 := Aside0.mk hr0_2
 have HC0_2 := Aside0.mk hc0_2
 clear hr0_2 hc0_2
 have HB := Aside0.mk (Below.refl w.heap.size w)
 have H : ((impl_IsValidTerminal.f k l0_0 a0_1 l0_2).bind fun t400 => (if t400 = true then ((impl_makeOrder.f k l0_0 a0_1 l0_2 a1_0 a1_1 a1_2).bind fun bt401 => (if bt401.2.2.2.2 = true then ((some (([0, 1, 3, 2] : List Int) : List Int)).bind fun y411 => (if 0 ≤ a1_0 then (if a1_0 < (y411.length : Int) then (some (rd y411 a1_0, a1_1, bt401.2.2.2.1, true)) else (none)) else (none))) else (some (0, 0, 0, false)))) else (some (0, 0, 0, false)))) = some (r1, r2, r3, r4) := h
 clear h
 replace H := Option.bind_eq_some_iff.mp H
 obtain ⟨t400, A30, H⟩ := H
 try dsimp only at H
 have A3 := Aside0.mk A30
 clear A30
 by_cases c4 : t400 = true
 ·subst c4
  have H1 : ((impl_makeOrder.f k l0_0 a0_1 l0_2 a1_0 a1_1 a1_2).bind fun bt401 => (if bt401.2.2.2.2 = true then ((some (([0, 1, 3, 2] : List Int) : List Int)).bind fun y411 => (if 0 ≤ a1_0 then (if a1_0 < (y411.length : Int) then (some (rd y411 a1_0, a1_1, bt401.2.2.2.1, true)) else (none)) else (none))) else (some (0, 0, 0, false)))) = some (r1, r2, r3, r4) := by rw [if_pos rfl] at H; exact H
  clear H
  have H := H1
  clear H1
  replace H := Option.bind_eq_some_iff.mp H
  obtain ⟨⟨t401, t404, t405, t408, t409⟩, A50, H⟩ := H
  try dsimp only at H
  have A5 := Aside0.mk A50
  clear A50
  by_cases c6 : t409 = true
  ·subst c6
   have H1 : ((some (([0, 1, 3, 2] : List Int) : List Int)).bind fun y411 => (if 0 ≤ a1_0 then (if a1_0 < (y411.length : Int) then (some (rd y411 a1_0, a1_1, t408, true)) else (none)) else (none))) = some (r1, r2, r3, r4) := by rw [if_pos rfl] at H; exact H
   clear H
   have H := H1
   clear H1
   obtain ⟨y411, hy411⟩ : ∃ y_ : List Int, y_ = (([0, 1, 3, 2] : List Int)) := ⟨_, rfl⟩
   replace H : (if 0 ≤ a1_0 then (if a1_0 < (y411.length : Int) then (some (rd y411 a1_0, a1_1, t408, true)) else (none)) else (none)) = some (r1, r2, r3, r4) := by first | (rw [hy411]; with_reducible exact H) | (have H2_ := (Option.bind_some _ _).symm.trans H; rw [hy411]; with_reducible exact H2_) | (have H2_ := (Option.bind_some _ _).symm.trans H; with_reducible exact H2_) | with_reducible exact H | (rw [hy411]; exact H) | exact H
   have Ny411 := Aside0.mk hy411
   clear hy411
   by_cases c7 : 0 ≤ a1_0
   ·rw [if_pos c7] at H
    have c7b0 : decide (0 ≤ a1_0) = true := decide_eq_true c7
    clear c7
    by_cases c8 : a1_0 < (y411.length : Int)
    ·rw [if_pos c8] at H
     have c8b0 : decide (a1_0 < (y411.length : Int)) = true := decide_eq_true c8
     clear c8
     simp only [Option.some.injEq, Prod.mk.injEq] at H
     obtain ⟨rfl, rfl, rfl, rfl⟩ := H
     go_enter Try.func19, Try.ntmps19
     try go_wp2_with (first | ((with_reducible refine gate_dst (N := 2) rfl ?_); refine box_event ?hg (N := 2) ?hd (cs := #[.slice A0_0 l0_0.length c0_0, .int .i64 a0_1, .slice A0_2 l0_2.length c0_2]) (t := 34) ?hr ?_; (case hd => rfl); (case hg => rfl); (case hr => first | (go_simp; done) | (go_simp; rfl)); intro gb0 hg w9 hbox hb; have n0_ := Aside0.mk (below_step Yb_ hb); have n1_ := Aside0.mk (hbox); have n2_ := Aside0.mk ((by rw [hg]; exact (below_size Yb_) : w.heap.size ≤ gb0)); have n3_ := Aside0.mk ((by rw [hg]; exact (below_size Yb_) : w.heap.size ≤ gb0)); clear HB; have HB := n0_; have BK0 := n1_; have GW0 := n2_; have GE0 := n3_; clear n0_ n1_ n2_ n3_; clear hb hbox hg) | ((with_reducible refine gate_dst (N := 3) rfl ?_); refine box_event ?hg (N := 3) ?hd (cs := #[.int .i64 a1_0, .int .i64 a1_1, .int .i64 a1_2]) (t := 43) ?hr ?_; (case hd => rfl); (case hg => rfl); (case hr => first | (go_simp; done) | (go_simp; rfl)); intro gb1 hg w10 hbox hb; have n0_ := Aside0.mk (blk_below (g := gb0) (o := .cells #[.slice A0_0 l0_0.length c0_0, .int .i64 a0_1, .slice A0_2 l0_2.length c0_2] 34 (0, 0)) Yc_ hb); have n1_ := Aside0.mk (below_step Yd_ hb); have n2_ := Aside0.mk (hbox); have n3_ := Aside0.mk ((by rw [hg]; exact (below_size Yd_) : w.heap.size ≤ gb1)); have n4_ := Aside0.mk ((by rw [hg]; exact (below_size Yd_) : w.heap.size ≤ gb1)); have n5_ := Aside0.mk ((by rw [hg]; exact Nat.ne_of_lt (blk_lt (g := gb0) (o := .cells #[.slice A0_0 l0_0.length c0_0, .int .i64 a0_1, .slice A0_2 l0_2.length c0_2] 34 (0, 0)) Yc_) : gb0 ≠ gb1)); have n6_ := Aside0.mk ((by rw [hg]; exact Nat.ne_of_gt (blk_lt (g := gb0) (o := .cells #[.slice A0_0 l0_0.length c0_0, .int .i64 a0_1, .slice A0_2 l0_2.length c0_2] 34 (0, 0)) Yc_) : gb1 ≠ gb0)); clear BK0; clear HB; have BK0 := n0_; have HB := n1_; have BK1 := n2_; have GW1 := n3_; have GE1 := n4_; have NB0_1 := n5_; have NB1_0 := n6_; clear n0_ n1_ n2_ n3_ n4_ n5_ n6_; clear hb hbox hg) | ((with_reducible refine gate_dst (N := 4) rfl ?_); refine box_event ?hg (N := 4) ?hd (cs := #[.int .i64 0, .int .i64 0, .int .i64 0]) (t := 43) ?hr ?_; (case hd => rfl); (case hg => rfl); (case hr => first | (go_simp; done) | (go_simp; rfl)); intro gb2 hg w11 hbox hb; have n0_ := Aside0.mk (blk_below (g := gb0) (o := .cells #[.slice A0_0 l0_0.length c0_0, .int .i64 a0_1, .slice A0_2 l0_2.length c0_2] 34 (0, 0)) Yc_ hb); have n1_ := Aside0.mk (blk_below (g := gb1) (o := .cells #[.int .i64 a1_0, .int .i64 a1_1, .int .i64 a1_2] 43 (0, 0)) Yh_ hb); have n2_ := Aside0.mk (below_step Yg_ hb); have n3_ := Aside0.mk (hbox); have n4_ := Aside0.mk ((by rw [hg]; exact (below_size Yg_) : w.heap.size ≤ gb2)); have n5_ := Aside0.mk ((by rw [hg]; exact (below_size Yg_) : w.heap.size ≤ gb2)); have n6_ := Aside0.mk ((by rw [hg]; exact Nat.ne_of_lt (blk_lt (g := gb0) (o := .cells #[.slice A0_0 l0_0.length c0_0, .int .i64 a0_1, .slice A0_2 l0_2.length c0_2] 34 (0, 0)) Yc_) : gb0 ≠ gb2)); have n7_ := Aside0.mk ((by rw [hg]; exact Nat.ne_of_gt (blk_lt (g := gb0) (o := .cells #[.slice A0_0 l0_0.length c0_0, .int .i64 a0_1, .slice A0_2 l0_2.length c0_2] 34 (0, 0)) Yc_) : gb2 ≠ gb0)); have n8_ := Aside0.mk ((by rw [hg]; exact Nat.ne_of_lt (blk_lt (g := gb1) (o := .cells #[.int .i64 a1_0, .int .i64 a1_1, .int .i64 a1_2] 43 (0, 0)) Yh_) : gb1 ≠ gb2)); have n9_ := Aside0.mk ((by rw [hg]; exact Nat.ne_of_gt (blk_lt (g := gb1) (o := .cells #[.int .i64 a1_0, .int .i64 a1_1, .int .i64 a1_2] 43 (0, 0)) Yh_) : gb2 ≠ gb1)); clear BK0; clear BK1; clear HB; have BK0 := n0_; have BK1 := n1_; have HB := n2_; have BK2 := n3_; have GW2 := n4_; have GE2 := n5_; have NB0_2 := n6_; have NB2_0 := n7_; have NB1_2 := n8_; have NB2_1 := n9_; clear n0_ n1_ n2_ n3_ n4_ n5_ n6_ n7_ n8_ n9_; clear hb hbox hg; have hnb12 := NB0_1.out; have hnc12 := NB1_0.out; have hnb13 := NB0_2.out; have hnc13 := NB2_0.out; have hcz14_0 : w11.cell? ⟨gb0, 0, none⟩ = some (.slice A0_0 l0_0.length c0_0) := (blk_cell BK0.out 0).trans rfl; have hcz14_1 : w11.cell? ⟨gb0, 1, none⟩ = some (.int .i64 a0_1) := (blk_cell BK0.out 1).trans rfl; have hcz14_2 : w11.cell? ⟨gb0, 2, none⟩ = some (.slice A0_2 l0_2.length c0_2) := (blk_cell BK0.out 2).trans rfl; have hfz14_0 := blk_frozen BK0.out 0; have hfz14_1 := blk_frozen BK0.out 1; have hfz14_2 := blk_frozen BK0.out 2) | ((with_reducible refine gate_callee (f := 13) rfl ?_); refine goesL_ (some 11) rfl rfl Try.func13 Yj_ rfl #[.agg #[.slice A0_0 l0_0.length c0_0, .int .i64 a0_1, .slice A0_2 l0_2.length c0_2]] rfl Yf_ ?_; (with_reducible refine (impl_IsValidTerminal.calls k _ _ l0_0 a0_1 _ _ l0_2 true _ ?side1 ?side2 ?side3 ?side4 A3.out).mono ?_); (case side1 => repeat (first | exact (Kd.C_below HR0_0.out HB.out) | (with_reducible refine Kd.C_alloc ?_ _) | (with_reducible refine Kd.C_drewN ?_ _) | (with_reducible refine Kd.C_drew ?_))); (case side2 => exact HC0_0.out); (case side3 => repeat (first | exact (Kd.C_below HR0_2.out HB.out) | (with_reducible refine Kd.C_alloc ?_ _) | (with_reducible refine Kd.C_drewN ?_ _) | (with_reducible refine Kd.C_drew ?_))); (case side4 => exact HC0_2.out); rintro e w15 ⟨rfl, hb⟩; refine ⟨_, rfl, ?_⟩; have n0_ := Aside0.mk (blk_below (g := gb0) (o := .cells #[.slice A0_0 l0_0.length c0_0, .int .i64 a0_1, .slice A0_2 l0_2.length c0_2] 34 (0, 0)) Yc_ hb); have n1_ := Aside0.mk (blk_below (g := gb1) (o := .cells #[.int .i64 a1_0, .int .i64 a1_1, .int .i64 a1_2] 43 (0, 0)) Yh_ hb); have n2_ := Aside0.mk (blk_below (g := gb2) (o := .cells #[.int .i64 0, .int .i64 0, .int .i64 0] 43 (0, 0)) Ybb_ hb); have n3_ := Aside0.mk (below_step Ye_ hb); clear BK0; clear BK1; clear BK2; clear HB; have BK0 := n0_; have BK1 := n1_; have BK2 := n2_; have HB := n3_; clear n0_ n1_ n2_ n3_; (try clear hb); (try clear hb2); (try clear hk); (try clear hi); have hcz16_0 : w15.cell? ⟨gb0, 0, none⟩ = some (.slice A0_0 l0_0.length c0_0) := (blk_cell BK0.out 0).trans rfl; have hcz16_1 : w15.cell? ⟨gb0, 1, none⟩ = some (.int .i64 a0_1) := (blk_cell BK0.out 1).trans rfl; have hcz16_2 : w15.cell? ⟨gb0, 2, none⟩ = some (.slice A0_2 l0_2.length c0_2) := (blk_cell BK0.out 2).trans rfl; have hfz16_0 := blk_frozen BK0.out 0; have hfz16_1 := blk_frozen BK0.out 1; have hfz16_2 := blk_frozen BK0.out 2; have hnb17 := NB1_2.out; have hnc17 := NB2_1.out; have hcz18_0 : w15.cell? ⟨gb1, 0, none⟩ = some (.int .i64 a1_0) := (blk_cell BK1.out 0).trans rfl; have hcz18_1 : w15.cell? ⟨gb1, 1, none⟩ = some (.int .i64 a1_1) := (blk_cell BK1.out 1).trans rfl; have hcz18_2 : w15.cell? ⟨gb1, 2, none⟩ = some (.int .i64 a1_2) := (blk_cell BK1.out 2).trans rfl; have hfz18_0 := blk_frozen BK1.out 0; have hfz18_1 := blk_frozen BK1.out 1; have hfz18_2 := blk_frozen BK1.out 2) | ((with_reducible refine gate_callee (f := 50) rfl ?_); refine goesL_ (some 17) rfl rfl Try.func50 Yj_ rfl #[.agg #[.slice A0_0 l0_0.length c0_0, .int .i64 a0_1, .slice A0_2 l0_2.length c0_2], .agg #[.int .i64 a1_0, .int .i64 a1_1, .int .i64 a1_2]] rfl Yf_ ?_; (with_reducible refine (impl_makeOrder.calls k _ _ l0_0 a0_1 _ _ l0_2 a1_0 a1_1 a1_2 t401 t404 t405 t408 true _ ?side1 ?side2 ?side3 ?side4 A5.out).mono ?_); (case side1 => repeat (first | exact (Kd.C_below HR0_0.out HB.out) | (with_reducible refine Kd.C_alloc ?_ _) | (with_reducible refine Kd.C_drewN ?_ _) | (with_reducible refine Kd.C_drew ?_))); (case side2 => exact HC0_0.out); (case side3 => repeat (first | exact (Kd.C_below HR0_2.out HB.out) | (with_reducible refine Kd.C_alloc ?_ _) | (with_reducible refine Kd.C_drewN ?_ _) | (with_reducible refine Kd.C_drew ?_))); (case side4 => exact HC0_2.out); rintro e w19 ⟨v402, v406, rfl, ho0, ho1, hb⟩; refine ⟨_, rfl, ?_⟩; have n0_ := Aside0.mk (Kd.S_lower ho0 (below_size Ye_)); have n1_ := Aside0.mk (Kd.S_lower ho1 (below_size Ye_)); have n2_ := Aside0.mk (blk_below (g := gb0) (o := .cells #[.slice A0_0 l0_0.length c0_0, .int .i64 a0_1, .slice A0_2 l0_2.length c0_2] 34 (0, 0)) Yc_ hb); have n3_ := Aside0.mk (blk_below (g := gb1) (o := .cells #[.int .i64 a1_0, .int .i64 a1_1, .int .i64 a1_2] 43 (0, 0)) Yh_ hb); have n4_ := Aside0.mk (blk_below (g := gb2) (o := .cells #[.int .i64 0, .int .i64 0, .int .i64 0] 43 (0, 0)) Ybb_ hb); have n5_ := Aside0.mk (below_step Ye_ hb); clear BK0; clear BK1; clear BK2; clear HB; have HO403 := n0_; have HO407 := n1_; have BK0 := n2_; have BK1 := n3_; have BK2 := n4_; have HB := n5_; clear n0_ n1_ n2_ n3_ n4_ n5_; (try clear hb); (try clear hb2); (try clear hk); (try clear hi); (try clear ho0); (try clear ho1)) | ((with_reducible refine gate_dst (N := 6) rfl ?_); refine box_event ?hg (N := 6) ?hd (cs := #[.slice none 0 0, .int .i64 0, .slice none 0 0]) (t := 34) ?hr ?_; (case hd => rfl); (case hg => rfl); (case hr => first | (go_simp; done) | (go_simp; rfl)); intro gb3 hg w20 hbox hb; have n0_ := Aside0.mk (Kd.Ad Yfc_ hb); have n1_ := Aside0.mk (Kd.Ad Yfd_ hb); have n2_ := Aside0.mk (blk_below (g := gb0) (o := .cells #[.slice A0_0 l0_0.length c0_0, .int .i64 a0_1, .slice A0_2 l0_2.length c0_2] 34 (0, 0)) Yc_ hb); have n3_ := Aside0.mk (blk_below (g := gb1) (o := .cells #[.int .i64 a1_0, .int .i64 a1_1, .int .i64 a1_2] 43 (0, 0)) Yh_ hb); have n4_ := Aside0.mk (blk_below (g := gb2) (o := .cells #[.int .i64 0, .int .i64 0, .int .i64 0] 43 (0, 0)) Ybb_ hb); have n5_ := Aside0.mk (below_step Ye_ hb); have n6_ := Aside0.mk (hbox); have n7_ := Aside0.mk ((by rw [hg]; exact (below_size Ye_) : w.heap.size ≤ gb3)); have n8_ := Aside0.mk ((by rw [hg]; exact (below_size Ye_) : w.heap.size ≤ gb3)); have n9_ := Aside0.mk ((by rw [hg]; exact Nat.ne_of_lt (blk_lt (g := gb0) (o := .cells #[.slice A0_0 l0_0.length c0_0, .int .i64 a0_1, .slice A0_2 l0_2.length c0_2] 34 (0, 0)) Yc_) : gb0 ≠ gb3)); have n10_ := Aside0.mk ((by rw [hg]; exact Nat.ne_of_gt (blk_lt (g := gb0) (o := .cells #[.slice A0_0 l0_0.length c0_0, .int .i64 a0_1, .slice A0_2 l0_2.length c0_2] 34 (0, 0)) Yc_) : gb3 ≠ gb0)); have n11_ := Aside0.mk ((by rw [hg]; exact Nat.ne_of_lt (blk_lt (g := gb1) (o := .cells #[.int .i64 a1_0, .int .i64 a1_1, .int .i64 a1_2] 43 (0, 0)) Yh_) : gb1 ≠ gb3)); have n12_ := Aside0.mk ((by rw [hg]; exact Nat.ne_of_gt (blk_lt (g := gb1) (o := .cells #[.int .i64 a1_0, .int .i64 a1_1, .int .i64 a1_2] 43 (0, 0)) Yh_) : gb3 ≠ gb1)); have n13_ := Aside0.mk ((by rw [hg]; exact Nat.ne_of_lt (blk_lt (g := gb2) (o := .cells #[.int .i64 0, .int .i64 0, .int .i64 0] 43 (0, 0)) Ybb_) : gb2 ≠ gb3)); have n14_ := Aside0.mk ((by rw [hg]; exact Nat.ne_of_gt (blk_lt (g := gb2) (o := .cells #[.int .i64 0, .int .i64 0, .int .i64 0] 43 (0, 0)) Ybb_) : gb3 ≠ gb2)); clear HO403; clear HO407; clear BK0; clear BK1; clear BK2; clear HB; have HO403 := n0_; have HO407 := n1_; have BK0 := n2_; have BK1 := n3_; have BK2 := n4_; have HB := n5_; have BK3 := n6_; have GW3 := n7_; have GE3 := n8_; have NB0_3 := n9_; have NB3_0 := n10_; have NB1_3 := n11_; have NB3_1 := n12_; have NB2_3 := n13_; have NB3_2 := n14_; clear n0_ n1_ n2_ n3_ n4_ n5_ n6_ n7_ n8_ n9_ n10_ n11_ n12_ n13_ n14_; clear hb hbox hg; obtain ⟨Ao21, co21, eo21⟩ := Kd.S_slice HO403.out; subst eo21; have hnb22 := NB3_0.out; have hnc22 := NB0_3.out; have hnb23 := NB3_1.out; have hnc23 := NB1_3.out; have hnb24 := NB3_2.out; have hnc24 := NB2_3.out; have hcz25_0 : w20.cell? ⟨gb3, 0, none⟩ = some (.slice none 0 0) := (blk_cell BK3.out 0).trans rfl; have hcz25_1 : w20.cell? ⟨gb3, 1, none⟩ = some (.int .i64 0) := (blk_cell BK3.out 1).trans rfl; have hcz25_2 : w20.cell? ⟨gb3, 2, none⟩ = some (.slice none 0 0) := (blk_cell BK3.out 2).trans rfl; have hfz25_0 := blk_frozen BK3.out 0; have hfz25_1 := blk_frozen BK3.out 1; have hfz25_2 := blk_frozen BK3.out 2; obtain ⟨Ao26, co26, eo26⟩ := Kd.S_slice HO407.out; subst eo26) | ((with_reducible refine gate_dst (N := 24) rfl ?_); refine Kd.R_lit (Kd.int .i64) _ 3 ?hg (N := 24) ?hd (xs := ([0, 1, 3, 2] : List Int)) (inner := [.int .i64 0, .int .i64 1, .int .i64 3, .int .i64 2]) (ok := fun _ => True) (okp := fun _ => True) ?hr ?hp (fun _ hk => hk) trivial (Below.refl _ _) (Nat.le_refl _) (by simp) ?_; (case hd => rfl); (case hg => rfl); (case hr => first | (go_simp; done) | (go_simp; rfl)); (case hp => exact (Reps.one (show Kd.M (Kd.int .i64) _ _ _ 0 [.int .i64 0] from rfl) (Reps.one (show Kd.M (Kd.int .i64) _ _ _ 1 [.int .i64 1] from rfl) (Reps.one (show Kd.M (Kd.int .i64) _ _ _ 3 [.int .i64 3] from rfl) (Reps.one (show Kd.M (Kd.int .i64) _ _ _ 2 [.int .i64 2] from rfl) (Reps.none _ _)))))); intro v412 w27 ho28 hb hg_ hnew_; clear hg_ hnew_; (first | rw [← Ny411.out] at ho28 | (simp only [Int.reduceToNat] at ho28; rw [← Ny411.out] at ho28)); have n0_ := Aside0.mk (Kd.S_elder' (by (with_reducible repeat (first | apply Kd.S_alloc | apply Kd.S_drewN | apply Kd.S_drew)); exact (Kd.S_mono (Kd.S_far (p := ⟨gb3, 2, none⟩) (Kd.S_far (p := ⟨gb3, 1, none⟩) (Kd.S_far (p := ⟨gb3, 0, none⟩) (Kd.S_types HO403.out BK3.out (by decide)) (fun _ hk => hk.2) (.slice Ao21 t401.length co21)) (fun _ hk => hk.2) (.int .i64 t404)) (fun _ hk => hk.2) (.slice Ao26 t405.length co26)) (fun _ h_ => h_.1))) (Kd.R_base ho28) hb); have n1_ := Aside0.mk (Kd.S_elder' (by (with_reducible repeat (first | apply Kd.S_alloc | apply Kd.S_drewN | apply Kd.S_drew)); exact (Kd.S_mono (Kd.S_far (p := ⟨gb3, 2, none⟩) (Kd.S_far (p := ⟨gb3, 1, none⟩) (Kd.S_far (p := ⟨gb3, 0, none⟩) (Kd.S_types HO407.out BK3.out (by decide)) (fun _ hk => hk.2) (.slice Ao21 t401.length co21)) (fun _ hk => hk.2) (.int .i64 t404)) (fun _ hk => hk.2) (.slice Ao26 t405.length co26)) (fun _ h_ => h_.1))) (Kd.R_base ho28) hb); have n2_ := Aside0.mk (Kd.R_lower ho28 (below_size Ybe_)); have n3_ := Aside0.mk (blk_below (g := gb0) (o := .cells #[.slice A0_0 l0_0.length c0_0, .int .i64 a0_1, .slice A0_2 l0_2.length c0_2] 34 (0, 0)) Ybf_ hb); have n4_ := Aside0.mk (blk_below (g := gb1) (o := .cells #[.int .i64 a1_0, .int .i64 a1_1, .int .i64 a1_2] 43 (0, 0)) Ybg_ hb); have n5_ := Aside0.mk (blk_below (g := gb2) (o := .cells #[.int .i64 0, .int .i64 0, .int .i64 0] 43 (0, 0)) Ybh_ hb); have n6_ := Aside0.mk (blk_below (g := gb3) (o := .cells #[.slice Ao21 t401.length co21, .int .i64 t404, .slice Ao26 t405.length co26] 34 (0, 0)) (by (with_reducible repeat (first | apply blk_drewN | apply blk_drew | apply blk_alloc)); refine blk_put (cs := #[.slice Ao21 t401.length co21, .int .i64 t404, .slice none 0 0]) ?_ 2 _ rfl; (with_reducible repeat (first | apply blk_drewN | apply blk_drew | apply blk_alloc)); refine blk_put (cs := #[.slice Ao21 t401.length co21, .int .i64 0, .slice none 0 0]) ?_ 1 _ rfl; (with_reducible repeat (first | apply blk_drewN | apply blk_drew | apply blk_alloc)); refine blk_put (cs := #[.slice none 0 0, .int .i64 0, .slice none 0 0]) ?_ 0 _ rfl; (with_reducible repeat (first | apply blk_drewN | apply blk_drew | apply blk_alloc)); exact BK3.out) hb); have n7_ := Aside0.mk (below_step Ybe_ hb); clear HO403; clear HO407; clear BK0; clear BK1; clear BK2; clear BK3; clear HB; have HO403 := n0_; have HO407 := n1_; have HO413 := n2_; have BK0 := n3_; have BK1 := n4_; have BK2 := n5_; have BK3 := n6_; have HB := n7_; clear n0_ n1_ n2_ n3_ n4_ n5_ n6_ n7_; clear hb ho28))
     have n0_ := Aside0.mk (Kd.S_drew HO403.out)
     have n1_ := Aside0.mk (Kd.S_drew HO407.out)
     have n2_ := Aside0.mk (Kd.R_drew HO413.out)
     have n3_ := Aside0.mk (blk_drew BK0.out)
     have n4_ := Aside0.mk (blk_drew BK1.out)
     have n5_ := Aside0.mk (blk_drew BK2.out)
     have n6_ := Aside0.mk (blk_drew BK3.out)
     have n7_ := Aside0.mk (below_drew1 HB.out)
     clear HO403
     clear HO407
     clear HO413
     clear BK0
     clear BK1
     clear BK2
     clear BK3
     clear HB
     have HO403 := n0_
     have HO407 := n1_
     have HO413 := n2_
     have BK0 := n3_
     have BK1 := n4_
     have BK2 := n5_
     have BK3 := n6_
     have HB := n7_
     clear n0_ n1_ n2_ n3_ n4_ n5_ n6_ n7_
     obtain ⟨Ao30, co30, eo30⟩ := Kd.Ci HO413.out
     (first | subst eo30 | (injection eo30 with f1_ f2_ f3_; have f4_ := f1_.symm; have f5_ := f3_.symm; clear f1_ f2_ f3_; subst f4_; subst f5_))
     have p414 : 0 ≤ (a1_0 : Int) := of_decide_eq_true Yi_
     have q414 : a1_0 < (y411.length : Int) := of_decide_eq_true Yi_
     obtain ⟨ad414, e414, hx414_0⟩ := Kd.Df (Kd.Cc HO413.out).2.2 a1_0 p414 q414
     cases e414
     replace p414 := eq_true p414
     replace q414 := eq_true q414
     refine start_ (n := 11) (S := fun w' => w'.cell? ⟨gb1, 0, none⟩ = some (.int .i64 a1_0) ∧ w'.cell? ⟨gb1, 1, none⟩ = some (.int .i64 a1_1) ∧ w'.cell? ⟨gb1, 2, none⟩ = some (.int .i64 a1_2) ∧ w'.cell? (ad414.add (a1_0).toNat) = some (.int .i64 (rd y411 a1_0))) (ds := []) #[false, false, false, false, false, false, false, false, false, false, false] Yj_ rfl rfl ⟨(blk_cell BK1.out 0).trans rfl, (blk_cell BK1.out 1).trans rfl, (blk_cell BK1.out 2).trans rfl, hx414_0⟩ (fun hHeld => ?_); refine with_tabW Bg.tab7 Bg.bits7 (fun HT_ HW_ => ?_)
     generalize w27.drew = w29 at HO403 HO407 HO413 BK0 BK1 BK2 BK3 HB hx414_0 hHeld ⊢
     refine pure_ (i := 0) (N := some 25) #[true, false, false, false, false, false, false, false, false, false, false] rfl rfl (any_of HT_.out Yj_) (fun _ _ _ h => h) (Or.inl ⟨by rfl, Ybc_⟩) Ya_ ?_
     refine pure_ (i := 1) (N := some 26) #[true, true, false, false, false, false, false, false, false, false, false] rfl rfl (any_of HT_.out Yj_) (fun _ _ _ h => h) (Or.inl ⟨by rfl, Ybc_⟩) Ya_ ?_
     refine pure_ (i := 5) (N := some 30) #[true, true, false, false, false, true, false, false, false, false, false] rfl rfl (any_of HT_.out Yj_) (fun _ _ _ h => h) (Or.inl ⟨by rfl, Ybc_⟩) Ya_ ?_
     refine pure_ (i := 7) (N := some 32) #[true, true, false, false, false, true, false, true, false, false, false] rfl rfl (any_of HT_.out Yj_) (fun _ _ _ h => h) (Or.inl ⟨by rfl, Ybc_⟩) Ya_ ?_
     refine take_ (i := 2) (N := some 27) #[true, true, true, false, false, true, false, true, false, false, false] rfl rfl (take_ofW HT_.out HW_.out Yj_) (fun _ _ _ h => h) (Or.inl ⟨by rfl, Yfa_⟩) hHeld Ya_ ?_
     refine pure_ (i := 3) (N := some 28) #[true, true, true, true, false, true, false, true, false, false, false] rfl rfl (any_of HT_.out Yj_) (fun _ _ _ h => h) (Or.inl ⟨by rfl, Ybc_⟩) Ya_ ?_
     refine take_ (i := 4) (N := some 29) #[true, true, true, true, true, true, false, true, false, false, false] rfl rfl (take_ofW HT_.out HW_.out Yj_) (fun _ _ _ h => h) (Or.inl ⟨by rfl, Yfa_⟩) hHeld Ya_ ?_
     refine take_ (i := 6) (N := some 31) #[true, true, true, true, true, true, true, true, false, false, false] rfl rfl (take_ofW HT_.out HW_.out Yj_) (fun _ _ _ h => h) (Or.inl ⟨by rfl, Yfa_⟩) hHeld Ya_ ?_
     refine pure_ (i := 8) (N := some 33) #[true, true, true, true, true, true, true, true, true, false, false] rfl rfl (any_of HT_.out Yj_) (fun _ _ _ h => h) (Or.inl ⟨by rfl, Ybc_⟩) Ya_ ?_
     refine one_ (i := 9) (N := none) #[true, true, true, true, true, true, true, true, true, true, false] rfl rfl (one_of HT_.out Yj_) (by decide) (fun K hK => ?_)
     have hs31 : w29.cell? ⟨gb2, 0, none⟩ = some (.int .i64 0) := (blk_cell BK2.out 0).trans rfl
     have hfs31 := blk_frozen BK2.out 0
     have hns31_0 := NB0_2.out
     have hns31_1 := NB1_2.out
     have hns31_3 := NB3_2.out
     have hms31_0 := NB2_0.out
     have hms31_1 := NB2_1.out
     have hms31_3 := NB2_3.out
     have hs32 : w29.cell? ⟨gb2, 1, none⟩ = some (.int .i64 0) := (blk_cell BK2.out 1).trans rfl
     have hfs32 := blk_frozen BK2.out 1
     have hns32_0 := NB0_2.out
     have hns32_1 := NB1_2.out
     have hns32_3 := NB3_2.out
     have hms32_0 := NB2_0.out
     have hms32_1 := NB2_1.out
     have hms32_3 := NB2_3.out
     have hs33 : w29.cell? ⟨gb2, 2, none⟩ = some (.int .i64 0) := (blk_cell BK2.out 2).trans rfl
     have hfs33 := blk_frozen BK2.out 2
     have hns33_0 := NB0_2.out
     have hns33_1 := NB1_2.out
     have hns33_3 := NB3_2.out
     have hms33_0 := NB2_0.out
     have hms33_1 := NB2_1.out
     have hms33_3 := NB2_3.out
     refine skip_ (w1 := ?_) (by rfl) rfl ?_ ?_
     rotate_left
     ·go_simp
      rfl
     refine hK.out _ _ ⟨((cell_far (p := ⟨gb2, _, none⟩) NB1_2.out _).trans (((cell_far (p := ⟨gb2, _, none⟩) NB1_2.out _).trans (((cell_far (p := ⟨gb2, _, none⟩) NB1_2.out _).trans (hHeld.1)))))), ((cell_far (p := ⟨gb2, _, none⟩) NB1_2.out _).trans (((cell_far (p := ⟨gb2, _, none⟩) NB1_2.out _).trans (((cell_far (p := ⟨gb2, _, none⟩) NB1_2.out _).trans (hHeld.2.1)))))), ((cell_far (p := ⟨gb2, _, none⟩) NB1_2.out _).trans (((cell_far (p := ⟨gb2, _, none⟩) NB1_2.out _).trans (((cell_far (p := ⟨gb2, _, none⟩) NB1_2.out _).trans (hHeld.2.2.1)))))), ((cell_far (p := ⟨gb2, _, none⟩) Ycj_ _).trans (((cell_far (p := ⟨gb2, _, none⟩) Ycj_ _).trans (((cell_far (p := ⟨gb2, _, none⟩) Ycj_ _).trans (hHeld.2.2.2))))))⟩ (fun hHeld => ?_)
     clear hK K
     refine pure_ (i := 10) (N := some 5) #[true, true, true, true, true, true, true, true, true, true, true] rfl rfl (any_of HT_.out Yj_) (fun _ _ _ h => h) (Or.inl ⟨by rfl, Ybc_⟩) Ya_ ?_
     refine done_ (done_of HT_.out Yj_) ?_
     try go_wp2
     refine bodyPost_ret (Bo rfl _ _ gb2 43 #[.int .i64 (rd y411 a1_0), .int .i64 a1_1, .int .i64 t408] (0, 0) _ rfl (by (with_reducible repeat (first | apply blk_drewN | apply blk_drew | apply blk_alloc)); refine blk_put (cs := #[.int .i64 (rd y411 a1_0), .int .i64 a1_1, .int .i64 0]) ?_ 2 _ rfl; (with_reducible repeat (first | apply blk_drewN | apply blk_drew | apply blk_alloc)); refine blk_put (cs := #[.int .i64 (rd y411 a1_0), .int .i64 0, .int .i64 0]) ?_ 1 _ rfl; (with_reducible repeat (first | apply blk_drewN | apply blk_drew | apply blk_alloc)); refine blk_put (cs := #[.int .i64 0, .int .i64 0, .int .i64 0]) ?_ 0 _ rfl; (with_reducible repeat (first | apply blk_drewN | apply blk_drew | apply blk_alloc)); exact BK2.out) Try.underlying43 rfl Yj_) rfl ?_
     exact ⟨by first | rfl | (simp [errW_none, errW_some] <;> rfl) | (simp [*, errW_none, errW_some] <;> rfl), by repeat (first | (with_reducible first | exact HB.out | apply below_alloc | apply pw_below_drewN | apply below_drew1 | refine below_set ?_ GE0.out | refine below_set ?_ GE1.out | refine below_set ?_ GE2.out | refine below_set ?_ GE3.out) | exact HB.out)⟩
    ·rw [if_neg c8] at H
     exact absurd H (by simp)
   ·rw [if_neg c7] at H
    exact absurd H (by simp)
  ·replace c6 := Bool.eq_false_iff.mpr c6
   subst c6
   have H1 : (some (0, 0, 0, false)) = some (r1, r2, r3, r4) := by rw [if_neg (show ¬ (false = true) by decide)] at H; exact H
   clear H
   have H := H1
   clear H1
   simp only [Option.some.injEq, Prod.mk.injEq] at H
   obtain ⟨rfl, rfl, rfl, rfl⟩ := H
   go_enter Try.func19, Try.ntmps19
   go_wp2_with (first | ((with_reducible refine gate_dst (N := 2) rfl ?_); refine box_event ?hg (N := 2) ?hd (cs := #[.slice A0_0 l0_0.length c0_0, .int .i64 a0_1, .slice A0_2 l0_2.length c0_2]) (t := 34) ?hr ?_; (case hd => rfl); (case hg => rfl); (case hr => first | (go_simp; done) | (go_simp; rfl)); intro gb0 hg w34 hbox hb; have n0_ := Aside0.mk (below_step Yb_ hb); have n1_ := Aside0.mk (hbox); have n2_ := Aside0.mk ((by rw [hg]; exact (below_size Yb_) : w.heap.size ≤ gb0)); have n3_ := Aside0.mk ((by rw [hg]; exact (below_size Yb_) : w.heap.size ≤ gb0)); clear HB; have HB := n0_; have BK0 := n1_; have GW0 := n2_; have GE0 := n3_; clear n0_ n1_ n2_ n3_; clear hb hbox hg) | ((with_reducible refine gate_dst (N := 3) rfl ?_); refine box_event ?hg (N := 3) ?hd (cs := #[.int .i64 a1_0, .int .i64 a1_1, .int .i64 a1_2]) (t := 43) ?hr ?_; (case hd => rfl); (case hg => rfl); (case hr => first | (go_simp; done) | (go_simp; rfl)); intro gb1 hg w35 hbox hb; have n0_ := Aside0.mk (blk_below (g := gb0) (o := .cells #[.slice A0_0 l0_0.length c0_0, .int .i64 a0_1, .slice A0_2 l0_2.length c0_2] 34 (0, 0)) Yc_ hb); have n1_ := Aside0.mk (below_step Yd_ hb); have n2_ := Aside0.mk (hbox); have n3_ := Aside0.mk ((by rw [hg]; exact (below_size Yd_) : w.heap.size ≤ gb1)); have n4_ := Aside0.mk ((by rw [hg]; exact (below_size Yd_) : w.heap.size ≤ gb1)); have n5_ := Aside0.mk ((by rw [hg]; exact Nat.ne_of_lt (blk_lt (g := gb0) (o := .cells #[.slice A0_0 l0_0.length c0_0, .int .i64 a0_1, .slice A0_2 l0_2.length c0_2] 34 (0, 0)) Yc_) : gb0 ≠ gb1)); have n6_ := Aside0.mk ((by rw [hg]; exact Nat.ne_of_gt (blk_lt (g := gb0) (o := .cells #[.slice A0_0 l0_0.length c0_0, .int .i64 a0_1, .slice A0_2 l0_2.length c0_2] 34 (0, 0)) Yc_) : gb1 ≠ gb0)); clear BK0; clear HB; have BK0 := n0_; have HB := n1_; have BK1 := n2_; have GW1 := n3_; have GE1 := n4_; have NB0_1 := n5_; have NB1_0 := n6_; clear n0_ n1_ n2_ n3_ n4_ n5_ n6_; clear hb hbox hg) | ((with_reducible refine gate_dst (N := 4) rfl ?_); refine box_event ?hg (N := 4) ?hd (cs := #[.int .i64 0, .int .i64 0, .int .i64 0]) (t := 43) ?hr ?_; (case hd => rfl); (case hg => rfl); (case hr => first | (go_simp; done) | (go_simp; rfl)); intro gb2 hg w36 hbox hb; have n0_ := Aside0.mk (blk_below (g := gb0) (o := .cells #[.slice A0_0 l0_0.length c0_0, .int .i64 a0_1, .slice A0_2 l0_2.length c0_2] 34 (0, 0)) Yc_ hb); have n1_ := Aside0.mk (blk_below (g := gb1) (o := .cells #[.int .i64 a1_0, .int .i64 a1_1, .int .i64 a1_2] 43 (0, 0)) Yh_ hb); have n2_ := Aside0.mk (below_step Yg_ hb); have n3_ := Aside0.mk (hbox); have n4_ := Aside0.mk ((by rw [hg]; exact (below_size Yg_) : w.heap.size ≤ gb2)); have n5_ := Aside0.mk ((by rw [hg]; exact (below_size Yg_) : w.heap.size ≤ gb2)); have n6_ := Aside0.mk ((by rw [hg]; exact Nat.ne_of_lt (blk_lt (g := gb0) (o := .cells #[.slice A0_0 l0_0.length c0_0, .int .i64 a0_1, .slice A0_2 l0_2.length c0_2] 34 (0, 0)) Yc_) : gb0 ≠ gb2)); have n7_ := Aside0.mk ((by rw [hg]; exact Nat.ne_of_gt (blk_lt (g := gb0) (o := .cells #[.slice A0_0 l0_0.length c0_0, .int .i64 a0_1, .slice A0_2 l0_2.length c0_2] 34 (0, 0)) Yc_) : gb2 ≠ gb0)); have n8_ := Aside0.mk ((by rw [hg]; exact Nat.ne_of_lt (blk_lt (g := gb1) (o := .cells #[.int .i64 a1_0, .int .i64 a1_1, .int .i64 a1_2] 43 (0, 0)) Yh_) : gb1 ≠ gb2)); have n9_ := Aside0.mk ((by rw [hg]; exact Nat.ne_of_gt (blk_lt (g := gb1) (o := .cells #[.int .i64 a1_0, .int .i64 a1_1, .int .i64 a1_2] 43 (0, 0)) Yh_) : gb2 ≠ gb1)); clear BK0; clear BK1; clear HB; have BK0 := n0_; have BK1 := n1_; have HB := n2_; have BK2 := n3_; have GW2 := n4_; have GE2 := n5_; have NB0_2 := n6_; have NB2_0 := n7_; have NB1_2 := n8_; have NB2_1 := n9_; clear n0_ n1_ n2_ n3_ n4_ n5_ n6_ n7_ n8_ n9_; clear hb hbox hg; have hnb37 := NB0_1.out; have hnc37 := NB1_0.out; have hnb38 := NB0_2.out; have hnc38 := NB2_0.out; have hcz39_0 : w36.cell? ⟨gb0, 0, none⟩ = some (.slice A0_0 l0_0.length c0_0) := (blk_cell BK0.out 0).trans rfl; have hcz39_1 : w36.cell? ⟨gb0, 1, none⟩ = some (.int .i64 a0_1) := (blk_cell BK0.out 1).trans rfl; have hcz39_2 : w36.cell? ⟨gb0, 2, none⟩ = some (.slice A0_2 l0_2.length c0_2) := (blk_cell BK0.out 2).trans rfl; have hfz39_0 := blk_frozen BK0.out 0; have hfz39_1 := blk_frozen BK0.out 1; have hfz39_2 := blk_frozen BK0.out 2) | ((with_reducible refine gate_callee (f := 13) rfl ?_); refine goesL_ (some 11) rfl rfl Try.func13 Yj_ rfl #[.agg #[.slice A0_0 l0_0.length c0_0, .int .i64 a0_1, .slice A0_2 l0_2.length c0_2]] rfl Yf_ ?_; (with_reducible refine (impl_IsValidTerminal.calls k _ _ l0_0 a0_1 _ _ l0_2 true _ ?side1 ?side2 ?side3 ?side4 A3.out).mono ?_); (case side1 => repeat (first | exact (Kd.C_below HR0_0.out HB.out) | (with_reducible refine Kd.C_alloc ?_ _) | (with_reducible refine Kd.C_drewN ?_ _) | (with_reducible refine Kd.C_drew ?_))); (case side2 => exact HC0_0.out); (case side3 => repeat (first | exact (Kd.C_below HR0_2.out HB.out) | (with_reducible refine Kd.C_alloc ?_ _) | (with_reducible refine Kd.C_drewN ?_ _) | (with_reducible refine Kd.C_drew ?_))); (case side4 => exact HC0_2.out); rintro e w40 ⟨rfl, hb⟩; refine ⟨_, rfl, ?_⟩; have n0_ := Aside0.mk (blk_below (g := gb0) (o := .cells #[.slice A0_0 l0_0.length c0_0, .int .i64 a0_1, .slice A0_2 l0_2.length c0_2] 34 (0, 0)) Yc_ hb); have n1_ := Aside0.mk (blk_below (g := gb1) (o := .cells #[.int .i64 a1_0, .int .i64 a1_1, .int .i64 a1_2] 43 (0, 0)) Yh_ hb); have n2_ := Aside0.mk (blk_below (g := gb2) (o := .cells #[.int .i64 0, .int .i64 0, .int .i64 0] 43 (0, 0)) Ybb_ hb); have n3_ := Aside0.mk (below_step Ye_ hb); clear BK0; clear BK1; clear BK2; clear HB; have BK0 := n0_; have BK1 := n1_; have BK2 := n2_; have HB := n3_; clear n0_ n1_ n2_ n3_; (try clear hb); (try clear hb2); (try clear hk); (try clear hi); have hcz41_0 : w40.cell? ⟨gb0, 0, none⟩ = some (.slice A0_0 l0_0.length c0_0) := (blk_cell BK0.out 0).trans rfl; have hcz41_1 : w40.cell? ⟨gb0, 1, none⟩ = some (.int .i64 a0_1) := (blk_cell BK0.out 1).trans rfl; have hcz41_2 : w40.cell? ⟨gb0, 2, none⟩ = some (.slice A0_2 l0_2.length c0_2) := (blk_cell BK0.out 2).trans rfl; have hfz41_0 := blk_frozen BK0.out 0; have hfz41_1 := blk_frozen BK0.out 1; have hfz41_2 := blk_frozen BK0.out 2; have hnb42 := NB1_2.out; have hnc42 := NB2_1.out; have hcz43_0 : w40.cell? ⟨gb1, 0, none⟩ = some (.int .i64 a1_0) := (blk_cell BK1.out 0).trans rfl; have hcz43_1 : w40.cell? ⟨gb1, 1, none⟩ = some (.int .i64 a1_1) := (blk_cell BK1.out 1).trans rfl; have hcz43_2 : w40.cell? ⟨gb1, 2, none⟩ = some (.int .i64 a1_2) := (blk_cell BK1.out 2).trans rfl; have hfz43_0 := blk_frozen BK1.out 0; have hfz43_1 := blk_frozen BK1.out 1; have hfz43_2 := blk_frozen BK1.out 2) | ((with_reducible refine gate_callee (f := 50) rfl ?_); refine goesL_ (some 17) rfl rfl Try.func50 Yj_ rfl #[.agg #[.slice A0_0 l0_0.length c0_0, .int .i64 a0_1, .slice A0_2 l0_2.length c0_2], .agg #[.int .i64 a1_0, .int .i64 a1_1, .int .i64 a1_2]] rfl Yf_ ?_; (with_reducible refine (impl_makeOrder.calls k _ _ l0_0 a0_1 _ _ l0_2 a1_0 a1_1 a1_2 t401 t404 t405 t408 false _ ?side1 ?side2 ?side3 ?side4 A5.out).mono ?_); (case side1 => repeat (first | exact (Kd.C_below HR0_0.out HB.out) | (with_reducible refine Kd.C_alloc ?_ _) | (with_reducible refine Kd.C_drewN ?_ _) | (with_reducible refine Kd.C_drew ?_))); (case side2 => exact HC0_0.out); (case side3 => repeat (first | exact (Kd.C_below HR0_2.out HB.out) | (with_reducible refine Kd.C_alloc ?_ _) | (with_reducible refine Kd.C_drewN ?_ _) | (with_reducible refine Kd.C_drew ?_))); (case side4 => exact HC0_2.out); rintro e w44 ⟨v402, v406, rfl, ho0, ho1, hb⟩; refine ⟨_, rfl, ?_⟩; have n0_ := Aside0.mk (Kd.S_lower ho0 (below_size Ye_)); have n1_ := Aside0.mk (Kd.S_lower ho1 (below_size Ye_)); have n2_ := Aside0.mk (blk_below (g := gb0) (o := .cells #[.slice A0_0 l0_0.length c0_0, .int .i64 a0_1, .slice A0_2 l0_2.length c0_2] 34 (0, 0)) Yc_ hb); have n3_ := Aside0.mk (blk_below (g := gb1) (o := .cells #[.int .i64 a1_0, .int .i64 a1_1, .int .i64 a1_2] 43 (0, 0)) Yh_ hb); have n4_ := Aside0.mk (blk_below (g := gb2) (o := .cells #[.int .i64 0, .int .i64 0, .int .i64 0] 43 (0, 0)) Ybb_ hb); have n5_ := Aside0.mk (below_step Ye_ hb); clear BK0; clear BK1; clear BK2; clear HB; have HO403 := n0_; have HO407 := n1_; have BK0 := n2_; have BK1 := n3_; have BK2 := n4_; have HB := n5_; clear n0_ n1_ n2_ n3_ n4_ n5_; (try clear hb); (try clear hb2); (try clear hk); (try clear hi); (try clear ho0); (try clear ho1)) | ((with_reducible refine gate_dst (N := 6) rfl ?_); refine box_event ?hg (N := 6) ?hd (cs := #[.slice none 0 0, .int .i64 0, .slice none 0 0]) (t := 34) ?hr ?_; (case hd => rfl); (case hg => rfl); (case hr => first | (go_simp; done) | (go_simp; rfl)); intro gb3 hg w45 hbox hb; have n0_ := Aside0.mk (Kd.Ad Yfc_ hb); have n1_ := Aside0.mk (Kd.Ad Yfd_ hb); have n2_ := Aside0.mk (blk_below (g := gb0) (o := .cells #[.slice A0_0 l0_0.length c0_0, .int .i64 a0_1, .slice A0_2 l0_2.length c0_2] 34 (0, 0)) Yc_ hb); have n3_ := Aside0.mk (blk_below (g := gb1) (o := .cells #[.int .i64 a1_0, .int .i64 a1_1, .int .i64 a1_2] 43 (0, 0)) Yh_ hb); have n4_ := Aside0.mk (blk_below (g := gb2) (o := .cells #[.int .i64 0, .int .i64 0, .int .i64 0] 43 (0, 0)) Ybb_ hb); have n5_ := Aside0.mk (below_step Ye_ hb); have n6_ := Aside0.mk (hbox); have n7_ := Aside0.mk ((by rw [hg]; exact (below_size Ye_) : w.heap.size ≤ gb3)); have n8_ := Aside0.mk ((by rw [hg]; exact (below_size Ye_) : w.heap.size ≤ gb3)); have n9_ := Aside0.mk ((by rw [hg]; exact Nat.ne_of_lt (blk_lt (g := gb0) (o := .cells #[.slice A0_0 l0_0.length c0_0, .int .i64 a0_1, .slice A0_2 l0_2.length c0_2] 34 (0, 0)) Yc_) : gb0 ≠ gb3)); have n10_ := Aside0.mk ((by rw [hg]; exact Nat.ne_of_gt (blk_lt (g := gb0) (o := .cells #[.slice A0_0 l0_0.length c0_0, .int .i64 a0_1, .slice A0_2 l0_2.length c0_2] 34 (0, 0)) Yc_) : gb3 ≠ gb0)); have n11_ := Aside0.mk ((by rw [hg]; exact Nat.ne_of_lt (blk_lt (g := gb1) (o := .cells #[.int .i64 a1_0, .int .i64 a1_1, .int .i64 a1_2] 43 (0, 0)) Yh_) : gb1 ≠ gb3)); have n12_ := Aside0.mk ((by rw [hg]; exact Nat.ne_of_gt (blk_lt (g := gb1) (o := .cells #[.int .i64 a1_0, .int .i64 a1_1, .int .i64 a1_2] 43 (0, 0)) Yh_) : gb3 ≠ gb1)); have n13_ := Aside0.mk ((by rw [hg]; exact Nat.ne_of_lt (blk_lt (g := gb2) (o := .cells #[.int .i64 0, .int .i64 0, .int .i64 0] 43 (0, 0)) Ybb_) : gb2 ≠ gb3)); have n14_ := Aside0.mk ((by rw [hg]; exact Nat.ne_of_gt (blk_lt (g := gb2) (o := .cells #[.int .i64 0, .int .i64 0, .int .i64 0] 43 (0, 0)) Ybb_) : gb3 ≠ gb2)); clear HO403; clear HO407; clear BK0; clear BK1; clear BK2; clear HB; have HO403 := n0_; have HO407 := n1_; have BK0 := n2_; have BK1 := n3_; have BK2 := n4_; have HB := n5_; have BK3 := n6_; have GW3 := n7_; have GE3 := n8_; have NB0_3 := n9_; have NB3_0 := n10_; have NB1_3 := n11_; have NB3_1 := n12_; have NB2_3 := n13_; have NB3_2 := n14_; clear n0_ n1_ n2_ n3_ n4_ n5_ n6_ n7_ n8_ n9_ n10_ n11_ n12_ n13_ n14_; clear hb hbox hg; obtain ⟨Ao46, co46, eo46⟩ := Kd.S_slice HO403.out; subst eo46; have hnb47 := NB3_0.out; have hnc47 := NB0_3.out; have hnb48 := NB3_1.out; have hnc48 := NB1_3.out; have hnb49 := NB3_2.out; have hnc49 := NB2_3.out; have hcz50_0 : w45.cell? ⟨gb3, 0, none⟩ = some (.slice none 0 0) := (blk_cell BK3.out 0).trans rfl; have hcz50_1 : w45.cell? ⟨gb3, 1, none⟩ = some (.int .i64 0) := (blk_cell BK3.out 1).trans rfl; have hcz50_2 : w45.cell? ⟨gb3, 2, none⟩ = some (.slice none 0 0) := (blk_cell BK3.out 2).trans rfl; have hfz50_0 := blk_frozen BK3.out 0; have hfz50_1 := blk_frozen BK3.out 1; have hfz50_2 := blk_frozen BK3.out 2; obtain ⟨Ao51, co51, eo51⟩ := Kd.S_slice HO407.out; subst eo51; have hcz52_0 : w45.cell? ⟨gb2, 0, none⟩ = some (.int .i64 0) := (blk_cell BK2.out 0).trans rfl; have hcz52_1 : w45.cell? ⟨gb2, 1, none⟩ = some (.int .i64 0) := (blk_cell BK2.out 1).trans rfl; have hcz52_2 : w45.cell? ⟨gb2, 2, none⟩ = some (.int .i64 0) := (blk_cell BK2.out 2).trans rfl; have hfz52_0 := blk_frozen BK2.out 0; have hfz52_1 := blk_frozen BK2.out 1; have hfz52_2 := blk_frozen BK2.out 2))
   refine bodyPost_ret (Bo rfl _ _ gb2 43 #[.int .i64 0, .int .i64 0, .int .i64 0] (0, 0) _ rfl Yca_ Try.underlying43 rfl Yj_) rfl ?_
   exact ⟨by first | rfl | (simp [errW_none, errW_some] <;> rfl) | (simp [*, errW_none, errW_some] <;> rfl), by repeat (first | (with_reducible first | exact HB.out | apply below_alloc | apply pw_below_drewN | apply below_drew1 | refine below_set ?_ GE0.out | refine below_set ?_ GE1.out | refine below_set ?_ GE2.out | refine below_set ?_ GE3.out) | exact HB.out)⟩
 ·replace c4 := Bool.eq_false_iff.mpr c4
  subst c4
  have H1 : (some (0, 0, 0, false)) = some (r1, r2, r3, r4) := by rw [if_neg (show ¬ (false = true) by decide)] at H; exact H
  clear H
  have H := H1
  clear H1
  simp only [Option.some.injEq, Prod.mk.injEq] at H
  obtain ⟨rfl, rfl, rfl, rfl⟩ := H
  go_enter Try.func19, Try.ntmps19
  go_wp2_with (first | ((with_reducible refine gate_dst (N := 2) rfl ?_); refine box_event ?hg (N := 2) ?hd (cs := #[.slice A0_0 l0_0.length c0_0, .int .i64 a0_1, .slice A0_2 l0_2.length c0_2]) (t := 34) ?hr ?_; (case hd => rfl); (case hg => rfl); (case hr => first | (go_simp; done) | (go_simp; rfl)); intro gb0 hg w53 hbox hb; have n0_ := Aside0.mk (below_step Yb_ hb); have n1_ := Aside0.mk (hbox); have n2_ := Aside0.mk ((by rw [hg]; exact (below_size Yb_) : w.heap.size ≤ gb0)); have n3_ := Aside0.mk ((by rw [hg]; exact (below_size Yb_) : w.heap.size ≤ gb0)); clear HB; have HB := n0_; have BK0 := n1_; have GW0 := n2_; have GE0 := n3_; clear n0_ n1_ n2_ n3_; clear hb hbox hg) | ((with_reducible refine gate_dst (N := 3) rfl ?_); refine box_event ?hg (N := 3) ?hd (cs := #[.int .i64 a1_0, .int .i64 a1_1, .int .i64 a1_2]) (t := 43) ?hr ?_; (case hd => rfl); (case hg => rfl); (case hr => first | (go_simp; done) | (go_simp; rfl)); intro gb1 hg w54 hbox hb; have n0_ := Aside0.mk (blk_below (g := gb0) (o := .cells #[.slice A0_0 l0_0.length c0_0, .int .i64 a0_1, .slice A0_2 l0_2.length c0_2] 34 (0, 0)) Yc_ hb); have n1_ := Aside0.mk (below_step Yd_ hb); have n2_ := Aside0.mk (hbox); have n3_ := Aside0.mk ((by rw [hg]; exact (below_size Yd_) : w.heap.size ≤ gb1)); have n4_ := Aside0.mk ((by rw [hg]; exact (below_size Yd_) : w.heap.size ≤ gb1)); have n5_ := Aside0.mk ((by rw [hg]; exact Nat.ne_of_lt (blk_lt (g := gb0) (o := .cells #[.slice A0_0 l0_0.length c0_0, .int .i64 a0_1, .slice A0_2 l0_2.length c0_2] 34 (0, 0)) Yc_) : gb0 ≠ gb1)); have n6_ := Aside0.mk ((by rw [hg]; exact Nat.ne_of_gt (blk_lt (g := gb0) (o := .cells #[.slice A0_0 l0_0.length c0_0, .int .i64 a0_1, .slice A0_2 l0_2.length c0_2] 34 (0, 0)) Yc_) : gb1 ≠ gb0)); clear BK0; clear HB; have BK0 := n0_; have HB := n1_; have BK1 := n2_; have GW1 := n3_; have GE1 := n4_; have NB0_1 := n5_; have NB1_0 := n6_; clear n0_ n1_ n2_ n3_ n4_ n5_ n6_; clear hb hbox hg) | ((with_reducible refine gate_dst (N := 4) rfl ?_); refine box_event ?hg (N := 4) ?hd (cs := #[.int .i64 0, .int .i64 0, .int .i64 0]) (t := 43) ?hr ?_; (case hd => rfl); (case hg => rfl); (case hr => first | (go_simp; done) | (go_simp; rfl)); intro gb2 hg w55 hbox hb; have n0_ := Aside0.mk (blk_below (g := gb0) (o := .cells #[.slice A0_0 l0_0.length c0_0, .int .i64 a0_1, .slice A0_2 l0_2.length c0_2] 34 (0, 0)) Yc_ hb); have n1_ := Aside0.mk (blk_below (g := gb1) (o := .cells #[.int .i64 a1_0, .int .i64 a1_1, .int .i64 a1_2] 43 (0, 0)) Yh_ hb); have n2_ := Aside0.mk (below_step Yg_ hb); have n3_ := Aside0.mk (hbox); have n4_ := Aside0.mk ((by rw [hg]; exact (below_size Yg_) : w.heap.size ≤ gb2)); have n5_ := Aside0.mk ((by rw [hg]; exact (below_size Yg_) : w.heap.size ≤ gb2)); have n6_ := Aside0.mk ((by rw [hg]; exact Nat.ne_of_lt (blk_lt (g := gb0) (o := .cells #[.slice A0_0 l0_0.length c0_0, .int .i64 a0_1, .slice A0_2 l0_2.length c0_2] 34 (0, 0)) Yc_) : gb0 ≠ gb2)); have n7_ := Aside0.mk ((by rw [hg]; exact Nat.ne_of_gt (blk_lt (g := gb0) (o := .cells #[.slice A0_0 l0_0.length c0_0, .int .i64 a0_1, .slice A0_2 l0_2.length c0_2] 34 (0, 0)) Yc_) : gb2 ≠ gb0)); have n8_ := Aside0.mk ((by rw [hg]; exact Nat.ne_of_lt (blk_lt (g := gb1) (o := .cells #[.int .i64 a1_0, .int .i64 a1_1, .int .i64 a1_2] 43 (0, 0)) Yh_) : gb1 ≠ gb2)); have n9_ := Aside0.mk ((by rw [hg]; exact Nat.ne_of_gt (blk_lt (g := gb1) (o := .cells #[.int .i64 a1_0, .int .i64 a1_1, .int .i64 a1_2] 43 (0, 0)) Yh_) : gb2 ≠ gb1)); clear BK0; clear BK1; clear HB; have BK0 := n0_; have BK1 := n1_; have HB := n2_; have BK2 := n3_; have GW2 := n4_; have GE2 := n5_; have NB0_2 := n6_; have NB2_0 := n7_; have NB1_2 := n8_; have NB2_1 := n9_; clear n0_ n1_ n2_ n3_ n4_ n5_ n6_ n7_ n8_ n9_; clear hb hbox hg; have hnb56 := NB0_1.out; have hnc56 := NB1_0.out; have hnb57 := NB0_2.out; have hnc57 := NB2_0.out; have hcz58_0 : w55.cell? ⟨gb0, 0, none⟩ = some (.slice A0_0 l0_0.length c0_0) := (blk_cell BK0.out 0).trans rfl; have hcz58_1 : w55.cell? ⟨gb0, 1, none⟩ = some (.int .i64 a0_1) := (blk_cell BK0.out 1).trans rfl; have hcz58_2 : w55.cell? ⟨gb0, 2, none⟩ = some (.slice A0_2 l0_2.length c0_2) := (blk_cell BK0.out 2).trans rfl; have hfz58_0 := blk_frozen BK0.out 0; have hfz58_1 := blk_frozen BK0.out 1; have hfz58_2 := blk_frozen BK0.out 2) | ((with_reducible refine gate_callee (f := 13) rfl ?_); refine goesL_ (some 11) rfl rfl Try.func13 Yj_ rfl #[.agg #[.slice A0_0 l0_0.length c0_0, .int .i64 a0_1, .slice A0_2 l0_2.length c0_2]] rfl Yf_ ?_; (with_reducible refine (impl_IsValidTerminal.calls k _ _ l0_0 a0_1 _ _ l0_2 false _ ?side1 ?side2 ?side3 ?side4 A3.out).mono ?_); (case side1 => repeat (first | exact (Kd.C_below HR0_0.out HB.out) | (with_reducible refine Kd.C_alloc ?_ _) | (with_reducible refine Kd.C_drewN ?_ _) | (with_reducible refine Kd.C_drew ?_))); (case side2 => exact HC0_0.out); (case side3 => repeat (first | exact (Kd.C_below HR0_2.out HB.out) | (with_reducible refine Kd.C_alloc ?_ _) | (with_reducible refine Kd.C_drewN ?_ _) | (with_reducible refine Kd.C_drew ?_))); (case side4 => exact HC0_2.out); rintro e w59 ⟨rfl, hb⟩; refine ⟨_, rfl, ?_⟩; have n0_ := Aside0.mk (blk_below (g := gb0) (o := .cells #[.slice A0_0 l0_0.length c0_0, .int .i64 a0_1, .slice A0_2 l0_2.length c0_2] 34 (0, 0)) Yc_ hb); have n1_ := Aside0.mk (blk_below (g := gb1) (o := .cells #[.int .i64 a1_0, .int .i64 a1_1, .int .i64 a1_2] 43 (0, 0)) Yh_ hb); have n2_ := Aside0.mk (blk_below (g := gb2) (o := .cells #[.int .i64 0, .int .i64 0, .int .i64 0] 43 (0, 0)) Ybb_ hb); have n3_ := Aside0.mk (below_step Ye_ hb); clear BK0; clear BK1; clear BK2; clear HB; have BK0 := n0_; have BK1 := n1_; have BK2 := n2_; have HB := n3_; clear n0_ n1_ n2_ n3_; (try clear hb); (try clear hb2); (try clear hk); (try clear hi); have hnb60 := NB2_1.out; have hnc60 := NB1_2.out; have hcz61_0 : w59.cell? ⟨gb2, 0, none⟩ = some (.int .i64 0) := (blk_cell BK2.out 0).trans rfl; have hcz61_1 : w59.cell? ⟨gb2, 1, none⟩ = some (.int .i64 0) := (blk_cell BK2.out 1).trans rfl; have hcz61_2 : w59.cell? ⟨gb2, 2, none⟩ = some (.int .i64 0) := (blk_cell BK2.out 2).trans rfl; have hfz61_0 := blk_frozen BK2.out 0; have hfz61_1 := blk_frozen BK2.out 1; have hfz61_2 := blk_frozen BK2.out 2))
  refine bodyPost_ret (Bo rfl _ _ gb2 43 #[.int .i64 0, .int .i64 0, .int .i64 0] (0, 0) _ rfl (by (with_reducible repeat (first | apply blk_drewN | apply blk_drew | apply blk_alloc)); refine blk_put (cs := #[.int .i64 0, .int .i64 0, .int .i64 0]) ?_ 2 _ rfl; (with_reducible repeat (first | apply blk_drewN | apply blk_drew | apply blk_alloc)); refine blk_put (cs := #[.int .i64 0, .int .i64 0, .int .i64 0]) ?_ 1 _ rfl; (with_reducible repeat (first | apply blk_drewN | apply blk_drew | apply blk_alloc)); refine blk_put (cs := #[.int .i64 0, .int .i64 0, .int .i64 0]) ?_ 0 _ rfl; (with_reducible repeat (first | apply blk_drewN | apply blk_drew | apply blk_alloc)); exact BK2.out) Try.underlying43 rfl Yj_) rfl ?_
  exact ⟨by first | rfl | (simp [errW_none, errW_some] <;> rfl) | (simp [*, errW_none, errW_some] <;> rfl), by repeat (first | (with_reducible first | exact HB.out | apply below_alloc | apply pw_below_drewN | apply below_drew1 | refine below_set ?_ GE0.out | refine below_set ?_ GE1.out | refine below_set ?_ GE2.out) | exact HB.out)⟩
def laws_eqOrder.f (a0_0 : Int) (a0_1 : Int) (a0_2 : Int) (a1_0 : Int) (a1_1 : Int) (a1_2 : Int) : Option (Bool) := if a0_0 = a1_0 then (if a0_1 = a1_1 then (if a0_2 = a1_2 then (some true) else (some false)) else (some false)) else (some false)
set_option maxHeartbeats 8000000 in
set_option maxRecDepth 100000 in
theorem laws_eqOrder.calls (a0_0 : Int) (a0_1 : Int) (a0_2 : Int) (a1_0 : Int) (a1_1 : Int) (a1_2 : Int) (r : Bool) (w : World) (h : laws_eqOrder.f a0_0 a0_1 a0_2 a1_0 a1_1 a1_2 = some r) :
  Calls Try.prog 20 #[.agg #[.int .i64 a0_0, .int .i64 a0_1, .int .i64 a0_2], .agg #[.int .i64 a1_0, .int .i64 a1_1, .int .i64 a1_2]] w fun e w' => e = .returned (.bool r) ∧ Below w.heap.size w w' := by
 have hu43 := Try.underlying43
 have HB := Aside0.mk (Below.refl w.heap.size w)
 have H : (if a0_0 = a1_0 then (if a0_1 = a1_1 then (if a0_2 = a1_2 then (some true) else (some false)) else (some false)) else (some false)) = some r := h
 clear h
 by_cases c3 : a0_0 = a1_0
 ·rw [if_pos c3] at H
  have c3b0 : (a0_0 == a1_0) = true := beq_iff_eq.mpr c3
  have c3b1 : (a0_0 != a1_0) = false := bne_eq_false_iff_eq.mpr c3
  clear c3
  by_cases c4 : a0_1 = a1_1
  ·rw [if_pos c4] at H
   have c4b0 : (a0_1 == a1_1) = true := beq_iff_eq.mpr c4
   have c4b1 : (a0_1 != a1_1) = false := bne_eq_false_iff_eq.mpr c4
   clear c4
   by_cases c5 : a0_2 = a1_2
   ·rw [if_pos c5] at H
    have c5b0 : (a0_2 == a1_2) = true := beq_iff_eq.mpr c5
    have c5b1 : (a0_2 != a1_2) = false := bne_eq_false_iff_eq.mpr c5
    clear c5
    obtain rfl := Option.some.inj H
    go_enter Try.func20, Try.ntmps20
    go_wp2_with (first | ((with_reducible refine gate_dst (N := 2) rfl ?_); refine box_event ?hg (N := 2) ?hd (cs := #[.int .i64 a0_0, .int .i64 a0_1, .int .i64 a0_2]) (t := 43) ?hr ?_; (case hd => rfl); (case hg => rfl); (case hr => first | (go_simp; done) | (go_simp; rfl)); intro gb0 hg w6 hbox hb; have n0_ := Aside0.mk (below_step Yb_ hb); have n1_ := Aside0.mk (hbox); have n2_ := Aside0.mk ((by rw [hg]; exact (below_size Yb_) : w.heap.size ≤ gb0)); have n3_ := Aside0.mk ((by rw [hg]; exact (below_size Yb_) : w.heap.size ≤ gb0)); clear HB; have HB := n0_; have BK0 := n1_; have GW0 := n2_; have GE0 := n3_; clear n0_ n1_ n2_ n3_; clear hb hbox hg) | ((with_reducible refine gate_dst (N := 3) rfl ?_); refine box_event ?hg (N := 3) ?hd (cs := #[.int .i64 a1_0, .int .i64 a1_1, .int .i64 a1_2]) (t := 43) ?hr ?_; (case hd => rfl); (case hg => rfl); (case hr => first | (go_simp; done) | (go_simp; rfl)); intro gb1 hg w7 hbox hb; have n0_ := Aside0.mk (blk_below (g := gb0) (o := .cells #[.int .i64 a0_0, .int .i64 a0_1, .int .i64 a0_2] 43 (0, 0)) Yc_ hb); have n1_ := Aside0.mk (below_step Yd_ hb); have n2_ := Aside0.mk (hbox); have n3_ := Aside0.mk ((by rw [hg]; exact (below_size Yd_) : w.heap.size ≤ gb1)); have n4_ := Aside0.mk ((by rw [hg]; exact (below_size Yd_) : w.heap.size ≤ gb1)); have n5_ := Aside0.mk ((by rw [hg]; exact Nat.ne_of_lt (blk_lt (g := gb0) (o := .cells #[.int .i64 a0_0, .int .i64 a0_1, .int .i64 a0_2] 43 (0, 0)) Yc_) : gb0 ≠ gb1)); have n6_ := Aside0.mk ((by rw [hg]; exact Nat.ne_of_gt (blk_lt (g := gb0) (o := .cells #[.int .i64 a0_0, .int .i64 a0_1, .int .i64 a0_2] 43 (0, 0)) Yc_) : gb1 ≠ gb0)); clear BK0; clear HB; have BK0 := n0_; have HB := n1_; have BK1 := n2_; have GW1 := n3_; have GE1 := n4_; have NB0_1 := n5_; have NB1_0 := n6_; clear n0_ n1_ n2_ n3_ n4_ n5_ n6_; clear hb hbox hg; have hnb8 := NB0_1.out; have hnc8 := NB1_0.out; have hcz9_0 : w7.cell? ⟨gb0, 0, none⟩ = some (.int .i64 a0_0) := (blk_cell BK0.out 0).trans rfl; have hcz9_1 : w7.cell? ⟨gb0, 1, none⟩ = some (.int .i64 a0_1) := (blk_cell BK0.out 1).trans rfl; have hcz9_2 : w7.cell? ⟨gb0, 2, none⟩ = some (.int .i64 a0_2) := (blk_cell BK0.out 2).trans rfl; have hfz9_0 := blk_frozen BK0.out 0; have hfz9_1 := blk_frozen BK0.out 1; have hfz9_2 := blk_frozen BK0.out 2; have hcz10_0 : w7.cell? ⟨gb1, 0, none⟩ = some (.int .i64 a1_0) := (blk_cell BK1.out 0).trans rfl; have hcz10_1 : w7.cell? ⟨gb1, 1, none⟩ = some (.int .i64 a1_1) := (blk_cell BK1.out 1).trans rfl; have hcz10_2 : w7.cell? ⟨gb1, 2, none⟩ = some (.int .i64 a1_2) := (blk_cell BK1.out 2).trans rfl; have hfz10_0 := blk_frozen BK1.out 0; have hfz10_1 := blk_frozen BK1.out 1; have hfz10_2 := blk_frozen BK1.out 2))
    go_ret
    exact ⟨by first | rfl | (simp [errW_none, errW_some] <;> rfl) | (simp [*, errW_none, errW_some] <;> rfl), by repeat (first | (with_reducible first | exact HB.out | apply below_alloc | apply pw_below_drewN | apply below_drew1 | refine below_set ?_ GE0.out | refine below_set ?_ GE1.out) | exact HB.out)⟩
   ·rw [if_neg c5] at H
    have c5b0 : (a0_2 == a1_2) = false := beq_eq_false_iff_ne.mpr c5
    have c5b1 : (a0_2 != a1_2) = true := bne_iff_ne.mpr c5
    obtain rfl := Option.some.inj H
    go_enter Try.func20, Try.ntmps20
    go_wp2_with (first | ((with_reducible refine gate_dst (N := 2) rfl ?_); refine box_event ?hg (N := 2) ?hd (cs := #[.int .i64 a0_0, .int .i64 a0_1, .int .i64 a0_2]) (t := 43) ?hr ?_; (case hd => rfl); (case hg => rfl); (case hr => first | (go_simp; done) | (go_simp; rfl)); intro gb0 hg w11 hbox hb; have n0_ := Aside0.mk (below_step Yb_ hb); have n1_ := Aside0.mk (hbox); have n2_ := Aside0.mk ((by rw [hg]; exact (below_size Yb_) : w.heap.size ≤ gb0)); have n3_ := Aside0.mk ((by rw [hg]; exact (below_size Yb_) : w.heap.size ≤ gb0)); clear HB; have HB := n0_; have BK0 := n1_; have GW0 := n2_; have GE0 := n3_; clear n0_ n1_ n2_ n3_; clear hb hbox hg) | ((with_reducible refine gate_dst (N := 3) rfl ?_); refine box_event ?hg (N := 3) ?hd (cs := #[.int .i64 a1_0, .int .i64 a1_1, .int .i64 a1_2]) (t := 43) ?hr ?_; (case hd => rfl); (case hg => rfl); (case hr => first | (go_simp; done) | (go_simp; rfl)); intro gb1 hg w12 hbox hb; have n0_ := Aside0.mk (blk_below (g := gb0) (o := .cells #[.int .i64 a0_0, .int .i64 a0_1, .int .i64 a0_2] 43 (0, 0)) Yc_ hb); have n1_ := Aside0.mk (below_step Yd_ hb); have n2_ := Aside0.mk (hbox); have n3_ := Aside0.mk ((by rw [hg]; exact (below_size Yd_) : w.heap.size ≤ gb1)); have n4_ := Aside0.mk ((by rw [hg]; exact (below_size Yd_) : w.heap.size ≤ gb1)); have n5_ := Aside0.mk ((by rw [hg]; exact Nat.ne_of_lt (blk_lt (g := gb0) (o := .cells #[.int .i64 a0_0, .int .i64 a0_1, .int .i64 a0_2] 43 (0, 0)) Yc_) : gb0 ≠ gb1)); have n6_ := Aside0.mk ((by rw [hg]; exact Nat.ne_of_gt (blk_lt (g := gb0) (o := .cells #[.int .i64 a0_0, .int .i64 a0_1, .int .i64 a0_2] 43 (0, 0)) Yc_) : gb1 ≠ gb0)); clear BK0; clear HB; have BK0 := n0_; have HB := n1_; have BK1 := n2_; have GW1 := n3_; have GE1 := n4_; have NB0_1 := n5_; have NB1_0 := n6_; clear n0_ n1_ n2_ n3_ n4_ n5_ n6_; clear hb hbox hg; have hnb13 := NB0_1.out; have hnc13 := NB1_0.out; have hcz14_0 : w12.cell? ⟨gb0, 0, none⟩ = some (.int .i64 a0_0) := (blk_cell BK0.out 0).trans rfl; have hcz14_1 : w12.cell? ⟨gb0, 1, none⟩ = some (.int .i64 a0_1) := (blk_cell BK0.out 1).trans rfl; have hcz14_2 : w12.cell? ⟨gb0, 2, none⟩ = some (.int .i64 a0_2) := (blk_cell BK0.out 2).trans rfl; have hfz14_0 := blk_frozen BK0.out 0; have hfz14_1 := blk_frozen BK0.out 1; have hfz14_2 := blk_frozen BK0.out 2; have hcz15_0 : w12.cell? ⟨gb1, 0, none⟩ = some (.int .i64 a1_0) := (blk_cell BK1.out 0).trans rfl; have hcz15_1 : w12.cell? ⟨gb1, 1, none⟩ = some (.int .i64 a1_1) := (blk_cell BK1.out 1).trans rfl; have hcz15_2 : w12.cell? ⟨gb1, 2, none⟩ = some (.int .i64 a1_2) := (blk_cell BK1.out 2).trans rfl; have hfz15_0 := blk_frozen BK1.out 0; have hfz15_1 := blk_frozen BK1.out 1; have hfz15_2 := blk_frozen BK1.out 2))
    go_ret
    exact ⟨by first | rfl | (simp [errW_none, errW_some] <;> rfl) | (simp [*, errW_none, errW_some] <;> rfl), by repeat (first | (with_reducible first | exact HB.out | apply below_alloc | apply pw_below_drewN | apply below_drew1 | refine below_set ?_ GE0.out | refine below_set ?_ GE1.out) | exact HB.out)⟩
  ·rw [if_neg c4] at H
   have c4b0 : (a0_1 == a1_1) = false := beq_eq_false_iff_ne.mpr c4
   have c4b1 : (a0_1 != a1_1) = true := bne_iff_ne.mpr c4
   obtain rfl := Option.some.inj H
   go_enter Try.func20, Try.ntmps20
   go_wp2_with (first | ((with_reducible refine gate_dst (N := 2) rfl ?_); refine box_event ?hg (N := 2) ?hd (cs := #[.int .i64 a0_0, .int .i64 a0_1, .int .i64 a0_2]) (t := 43) ?hr ?_; (case hd => rfl); (case hg => rfl); (case hr => first | (go_simp; done) | (go_simp; rfl)); intro gb0 hg w16 hbox hb; have n0_ := Aside0.mk (below_step Yb_ hb); have n1_ := Aside0.mk (hbox); have n2_ := Aside0.mk ((by rw [hg]; exact (below_size Yb_) : w.heap.size ≤ gb0)); have n3_ := Aside0.mk ((by rw [hg]; exact (below_size Yb_) : w.heap.size ≤ gb0)); clear HB; have HB := n0_; have BK0 := n1_; have GW0 := n2_; have GE0 := n3_; clear n0_ n1_ n2_ n3_; clear hb hbox hg) | ((with_reducible refine gate_dst (N := 3) rfl ?_); refine box_event ?hg (N := 3) ?hd (cs := #[.int .i64 a1_0, .int .i64 a1_1, .int .i64 a1_2]) (t := 43) ?hr ?_; (case hd => rfl); (case hg => rfl); (case hr => first | (go_simp; done) | (go_simp; rfl)); intro gb1 hg w17 hbox hb; have n0_ := Aside0.mk (blk_below (g := gb0) (o := .cells #[.int .i64 a0_0, .int .i64 a0_1, .int .i64 a0_2] 43 (0, 0)) Yc_ hb); have n1_ := Aside0.mk (below_step Yd_ hb); have n2_ := Aside0.mk (hbox); have n3_ := Aside0.mk ((by rw [hg]; exact (below_size Yd_) : w.heap.size ≤ gb1)); have n4_ := Aside0.mk ((by rw [hg]; exact (below_size Yd_) : w.heap.size ≤ gb1)); have n5_ := Aside0.mk ((by rw [hg]; exact Nat.ne_of_lt (blk_lt (g := gb0) (o := .cells #[.int .i64 a0_0, .int .i64 a0_1, .int .i64 a0_2] 43 (0, 0)) Yc_) : gb0 ≠ gb1)); have n6_ := Aside0.mk ((by rw [hg]; exact Nat.ne_of_gt (blk_lt (g := gb0) (o := .cells #[.int .i64 a0_0, .int .i64 a0_1, .int .i64 a0_2] 43 (0, 0)) Yc_) : gb1 ≠ gb0)); clear BK0; clear HB; have BK0 := n0_; have HB := n1_; have BK1 := n2_; have GW1 := n3_; have GE1 := n4_; have NB0_1 := n5_; have NB1_0 := n6_; clear n0_ n1_ n2_ n3_ n4_ n5_ n6_; clear hb hbox hg; have hnb18 := NB0_1.out; have hnc18 := NB1_0.out; have hcz19_0 : w17.cell? ⟨gb0, 0, none⟩ = some (.int .i64 a0_0) := (blk_cell BK0.out 0).trans rfl; have hcz19_1 : w17.cell? ⟨gb0, 1, none⟩ = some (.int .i64 a0_1) := (blk_cell BK0.out 1).trans rfl; have hcz19_2 : w17.cell? ⟨gb0, 2, none⟩ = some (.int .i64 a0_2) := (blk_cell BK0.out 2).trans rfl; have hfz19_0 := blk_frozen BK0.out 0; have hfz19_1 := blk_frozen BK0.out 1; have hfz19_2 := blk_frozen BK0.out 2; have hcz20_0 : w17.cell? ⟨gb1, 0, none⟩ = some (.int .i64 a1_0) := (blk_cell BK1.out 0).trans rfl; have hcz20_1 : w17.cell? ⟨gb1, 1, none⟩ = some (.int .i64 a1_1) := (blk_cell BK1.out 1).trans rfl; have hcz20_2 : w17.cell? ⟨gb1, 2, none⟩ = some (.int .i64 a1_2) := (blk_cell BK1.out 2).trans rfl; have hfz20_0 := blk_frozen BK1.out 0; have hfz20_1 := blk_frozen BK1.out 1; have hfz20_2 := blk_frozen BK1.out 2))
   go_ret
   exact ⟨by first | rfl | (simp [errW_none, errW_some] <;> rfl) | (simp [*, errW_none, errW_some] <;> rfl), by repeat (first | (with_reducible first | exact HB.out | apply below_alloc | apply pw_below_drewN | apply below_drew1 | refine below_set ?_ GE0.out | refine below_set ?_ GE1.out) | exact HB.out)⟩
 ·rw [if_neg c3] at H
  have c3b0 : (a0_0 == a1_0) = false := beq_eq_false_iff_ne.mpr c3
  have c3b1 : (a0_0 != a1_0) = true := bne_iff_ne.mpr c3
  obtain rfl := Option.some.inj H
  go_enter Try.func20, Try.ntmps20
  go_wp2_with (first | ((with_reducible refine gate_dst (N := 2) rfl ?_); refine box_event ?hg (N := 2) ?hd (cs := #[.int .i64 a0_0, .int .i64 a0_1, .int .i64 a0_2]) (t := 43) ?hr ?_; (case hd => rfl); (case hg => rfl); (case hr => first | (go_simp; done) | (go_simp; rfl)); intro gb0 hg w21 hbox hb; have n0_ := Aside0.mk (below_step Yb_ hb); have n1_ := Aside0.mk (hbox); have n2_ := Aside0.mk ((by rw [hg]; exact (below_size Yb_) : w.heap.size ≤ gb0)); have n3_ := Aside0.mk ((by rw [hg]; exact (below_size Yb_) : w.heap.size ≤ gb0)); clear HB; have HB := n0_; have BK0 := n1_; have GW0 := n2_; have GE0 := n3_; clear n0_ n1_ n2_ n3_; clear hb hbox hg) | ((with_reducible refine gate_dst (N := 3) rfl ?_); refine box_event ?hg (N := 3) ?hd (cs := #[.int .i64 a1_0, .int .i64 a1_1, .int .i64 a1_2]) (t := 43) ?hr ?_; (case hd => rfl); (case hg => rfl); (case hr => first | (go_simp; done) | (go_simp; rfl)); intro gb1 hg w22 hbox hb; have n0_ := Aside0.mk (blk_below (g := gb0) (o := .cells #[.int .i64 a0_0, .int .i64 a0_1, .int .i64 a0_2] 43 (0, 0)) Yc_ hb); have n1_ := Aside0.mk (below_step Yd_ hb); have n2_ := Aside0.mk (hbox); have n3_ := Aside0.mk ((by rw [hg]; exact (below_size Yd_) : w.heap.size ≤ gb1)); have n4_ := Aside0.mk ((by rw [hg]; exact (below_size Yd_) : w.heap.size ≤ gb1)); have n5_ := Aside0.mk ((by rw [hg]; exact Nat.ne_of_lt (blk_lt (g := gb0) (o := .cells #[.int .i64 a0_0, .int .i64 a0_1, .int .i64 a0_2] 43 (0, 0)) Yc_) : gb0 ≠ gb1)); have n6_ := Aside0.mk ((by rw [hg]; exact Nat.ne_of_gt (blk_lt (g := gb0) (o := .cells #[.int .i64 a0_0, .int .i64 a0_1, .int .i64 a0_2] 43 (0, 0)) Yc_) : gb1 ≠ gb0)); clear BK0; clear HB; have BK0 := n0_; have HB := n1_; have BK1 := n2_; have GW1 := n3_; have GE1 := n4_; have NB0_1 := n5_; have NB1_0 := n6_; clear n0_ n1_ n2_ n3_ n4_ n5_ n6_; clear hb hbox hg; have hnb23 := NB0_1.out; have hnc23 := NB1_0.out; have hcz24_0 : w22.cell? ⟨gb0, 0, none⟩ = some (.int .i64 a0_0) := (blk_cell BK0.out 0).trans rfl; have hcz24_1 : w22.cell? ⟨gb0, 1, none⟩ = some (.int .i64 a0_1) := (blk_cell BK0.out 1).trans rfl; have hcz24_2 : w22.cell? ⟨gb0, 2, none⟩ = some (.int .i64 a0_2) := (blk_cell BK0.out 2).trans rfl; have hfz24_0 := blk_frozen BK0.out 0; have hfz24_1 := blk_frozen BK0.out 1; have hfz24_2 := blk_frozen BK0.out 2; have hcz25_0 : w22.cell? ⟨gb1, 0, none⟩ = some (.int .i64 a1_0) := (blk_cell BK1.out 0).trans rfl; have hcz25_1 : w22.cell? ⟨gb1, 1, none⟩ = some (.int .i64 a1_1) := (blk_cell BK1.out 1).trans rfl; have hcz25_2 : w22.cell? ⟨gb1, 2, none⟩ = some (.int .i64 a1_2) := (blk_cell BK1.out 2).trans rfl; have hfz25_0 := blk_frozen BK1.out 0; have hfz25_1 := blk_frozen BK1.out 1; have hfz25_2 := blk_frozen BK1.out 2))
  go_ret
  exact ⟨by first | rfl | (simp [errW_none, errW_some] <;> rfl) | (simp [*, errW_none, errW_some] <;> rfl), by repeat (first | (with_reducible first | exact HB.out | apply below_alloc | apply pw_below_drewN | apply below_drew1 | refine below_set ?_ GE0.out | refine below_set ?_ GE1.out) | exact HB.out)⟩
def Di.f (k : Nat) (l0_0 : List (List Int)) (a0_1 : Int) (l0_2 : List (List Int)) (a1_0 : Int) (a1_1 : Int) (a1_2 : Int) : Option (Bool) := ((Cj.f k l0_0 a0_1 l0_2 1048576).bind fun t6 => (if t6 < 0 then some true else ((Bq.f k l0_0 a0_1 l0_2).bind fun t17 => ((laws_toOrder.f a1_0 a1_1 a1_2).bind fun t22 => ((Cf.f k t17.1 t17.2.1 t17.2.2 t22.1 t22.2.1 t22.2.2).bind fun t28 => ((Bq.f k l0_0 a0_1 l0_2).bind fun t41 => ((laws_toOrder.f a1_0 a1_1 a1_2).bind fun t48 => ((Bg.f k t41.1 t41.2.1 t41.2.2 t48.1 t48.2.1 t48.2.2).bind fun t54 => ((laws_eqOrder.f t54.1 t54.2.1 t54.2.2.1 t28.1 t28.2.1 t28.2.2.1).bind fun t59 => (if t59 = true then (if t54.2.2.2 = t28.2.2.2 then ((Bq.f k l0_0 a0_1 l0_2).bind fun t70 => ((Dp.f k t41.1 t41.2.1 t41.2.2 t70.1 t70.2.1 t70.2.2).bind fun t73 => (if t73 = true then some true else none))) else none) else none))))))))))
set_option maxHeartbeats 8000000 in
set_option maxRecDepth 100000 in
theorem Di.calls (k : Nat) (A0_0 : Option Addr) (c0_0 : Nat) (l0_0 : List (List Int)) (a0_1 : Int) (A0_2 : Option Addr) (c0_2 : Nat) (l0_2 : List (List Int)) (a1_0 : Int) (a1_1 : Int) (a1_2 : Int) (r : Bool) (w : World) (hr0_0 : Kd.C (Kd.slice 3 (Kd.int .i64)) w A0_0 l0_0.length l0_0) (hc0_0 : l0_0.length ≤ c0_0) (hr0_2 : Kd.C (Kd.slice 3 (Kd.int .i64)) w A0_2 l0_2.length l0_2) (hc0_2 : l0_2.length ≤ c0_2) (h : Di.f k l0_0 a0_1 l0_2 a1_0 a1_1 a1_2 = some r) (_hr : r = true) :
  Calls Try.prog 5 #[.agg #[.slice A0_0 l0_0.length c0_0, .int .i64 a0_1, .slice A0_2 l0_2.length c0_2], .agg #[.int .i64 a1_0, .int .i64 a1_1, .int .i64 a1_2]] w fun e w' => e = .returned (.bool r) ∧ Below w.heap.size w w' := by
 have hu28 := Try.underlying28
 have hu34 := Try.underlying34
 have hu42 := Try.underlying42
 have hu43 := Try.underlying43
 have HR0_0 := Aside0.mk hr0_0
 have HC0_0 := Aside0.mk hc0_0
 clear hr0_0 hc0_0
 have HR0_2 := Aside0.mk hr0_2
 have HC0_2 := Aside0.mk hc0_2
 clear hr0_2 hc0_2
 have HB := Aside0.mk (Below.refl w.heap.size w)
 unfold Di.f at h
 replace h := Option.bind_eq_some_iff.mp h
 obtain ⟨r5, a_, h⟩ := h
 have A7 := Aside0.mk a_
 clear a_
 by_cases c_ : r5 < 0
 ·rw [if_pos c_] at h
  obtain rfl := Option.some.inj h
  have cb1 : decide (r5 < 0) = true := decide_eq_true c_
  clear c_
  go_enter Try.func5, Try.ntmps5
  go_wp2_with (first | ((with_reducible refine gate_dst (N := 2) rfl ?_); refine box_event ?hg (N := 2) ?hd (cs := #[.slice A0_0 l0_0.length c0_0, .int .i64 a0_1, .slice A0_2 l0_2.length c0_2]) (t := 28) ?hr ?_; (case hd => rfl); (case hg => rfl); (case hr => first | (go_simp; done) | (go_simp; rfl)); intro gb2 hg w75 hbox hb; (try clear hzgb2_0 hzgb2_1 hzgb2_2); have GEgb2 := Aside0.mk (show w.heap.size ≤ gb2 by rw [hg]; exact below_size Yb_); have BK76 := Aside0.mk hbox; have HSw75 := Aside0.mk (show w.heap.size ≤ w75.heap.size from hb.size); have m_ := Aside0.mk (below_step HB.out hb); clear HB; have HB := m_; clear m_; clear hb hbox hg; have hzgb2_0 : w75.cell? ⟨gb2, 0, none⟩ = some (.slice A0_0 l0_0.length c0_0) := (blk_cell BK76.out 0).trans rfl; have hzgb2_1 : w75.cell? ⟨gb2, 1, none⟩ = some (.int .i64 a0_1) := (blk_cell BK76.out 1).trans rfl; have hzgb2_2 : w75.cell? ⟨gb2, 2, none⟩ = some (.slice A0_2 l0_2.length c0_2) := (blk_cell BK76.out 2).trans rfl) | ((with_reducible refine gate_dst (N := 3) rfl ?_); refine box_event ?hg (N := 3) ?hd (cs := #[.int .i64 a1_0, .int .i64 a1_1, .int .i64 a1_2]) (t := 42) ?hr ?_; (case hd => rfl); (case hg => rfl); (case hr => first | (go_simp; done) | (go_simp; rfl)); intro gb4 hg w77 hbox hb; (try clear hzgb2_0 hzgb2_1 hzgb2_2); (try clear hzgb4_0 hzgb4_1 hzgb4_2); have NBgb2_gb4 := Aside0.mk (show gb2 ≠ gb4 by rw [hg]; exact Nat.ne_of_lt (blk_lt BK76.out)); have GEgb4 := Aside0.mk (show w.heap.size ≤ gb4 by rw [hg]; exact below_size Yb_); have BK78 := Aside0.mk hbox; have m_ := Aside0.mk (blk_below BK76.out hb); clear BK76; have BK76 := m_; clear m_; have HSw77 := Aside0.mk (show w75.heap.size ≤ w77.heap.size from hb.size); have m_ := Aside0.mk (below_step HB.out hb); clear HB; have HB := m_; clear m_; clear hb hbox hg; have hzgb2_0 : w77.cell? ⟨gb2, 0, none⟩ = some (.slice A0_0 l0_0.length c0_0) := (blk_cell BK76.out 0).trans rfl; have hzgb2_1 : w77.cell? ⟨gb2, 1, none⟩ = some (.int .i64 a0_1) := (blk_cell BK76.out 1).trans rfl; have hzgb2_2 : w77.cell? ⟨gb2, 2, none⟩ = some (.slice A0_2 l0_2.length c0_2) := (blk_cell BK76.out 2).trans rfl; have hzgb4_0 : w77.cell? ⟨gb4, 0, none⟩ = some (.int .i64 a1_0) := (blk_cell BK78.out 0).trans rfl; have hzgb4_1 : w77.cell? ⟨gb4, 1, none⟩ = some (.int .i64 a1_1) := (blk_cell BK78.out 1).trans rfl; have hzgb4_2 : w77.cell? ⟨gb4, 2, none⟩ = some (.int .i64 a1_2) := (blk_cell BK78.out 2).trans rfl) | ((with_reducible refine gate_callee (f := 10) rfl ?_); (try (refine gate_guard (by rfl) ?_; dsimp only)); refine goesL_ (some 13) rfl rfl Try.func10 Yj_ rfl #[.agg #[.slice A0_0 l0_0.length c0_0, .int .i64 a0_1, .slice A0_2 l0_2.length c0_2], .int .i64 1048576] rfl Yf_ ?_; (with_reducible refine (Cj.calls k _ _ l0_0 a0_1 _ _ l0_2 1048576 r5 w77 (Kd.C_below HR0_0.out Yb_) HC0_0.out (Kd.C_below HR0_2.out Yb_) HC0_2.out A7.out).mono ?_); rintro e w79 ⟨rfl, hb⟩; (try clear hzgb2_0 hzgb2_1 hzgb2_2); (try clear hzgb4_0 hzgb4_1 hzgb4_2); refine ⟨_, rfl, ?_⟩; have m_ := Aside0.mk (blk_below BK76.out hb); clear BK76; have BK76 := m_; clear m_; have m_ := Aside0.mk (blk_below BK78.out hb); clear BK78; have BK78 := m_; clear m_; have HSw79 := Aside0.mk (show w77.heap.size ≤ w79.heap.size from hb.size); have m_ := Aside0.mk (below_step HB.out hb); clear HB; have HB := m_; clear m_; clear hb; have hzgb2_0 : w79.cell? ⟨gb2, 0, none⟩ = some (.slice A0_0 l0_0.length c0_0) := (blk_cell BK76.out 0).trans rfl; have hzgb2_1 : w79.cell? ⟨gb2, 1, none⟩ = some (.int .i64 a0_1) := (blk_cell BK76.out 1).trans rfl; have hzgb2_2 : w79.cell? ⟨gb2, 2, none⟩ = some (.slice A0_2 l0_2.length c0_2) := (blk_cell BK76.out 2).trans rfl; have hzgb4_0 : w79.cell? ⟨gb4, 0, none⟩ = some (.int .i64 a1_0) := (blk_cell BK78.out 0).trans rfl; have hzgb4_1 : w79.cell? ⟨gb4, 1, none⟩ = some (.int .i64 a1_1) := (blk_cell BK78.out 1).trans rfl; have hzgb4_2 : w79.cell? ⟨gb4, 2, none⟩ = some (.int .i64 a1_2) := (blk_cell BK78.out 2).trans rfl))
  repeat (go_quiet (fail); try go_wp2)
  go_ret
  exact ⟨rfl, by repeat (first | (with_reducible first | exact HB.out | apply below_alloc | apply pw_below_drewN | apply below_drew1) | exact HB.out)⟩
 ·rw [if_neg c_] at h
  have cb1 : decide (r5 < 0) = false := decide_eq_false c_
  clear c_
  replace h := Option.bind_eq_some_iff.mp h
  obtain ⟨⟨r8, r12, r13⟩, a_, h⟩ := h
  have A18 := Aside0.mk a_
  clear a_
  dsimp only at h
  replace h := Option.bind_eq_some_iff.mp h
  obtain ⟨⟨r19, r20, r21⟩, a_, h⟩ := h
  have A23 := Aside0.mk a_
  clear a_
  dsimp only at h
  replace h := Option.bind_eq_some_iff.mp h
  obtain ⟨⟨r24, r25, r26, r27⟩, a_, h⟩ := h
  have A29 := Aside0.mk a_
  clear a_
  dsimp only at h
  replace h := Option.bind_eq_some_iff.mp h
  obtain ⟨⟨r32, r36, r37⟩, a_, h⟩ := h
  have A42 := Aside0.mk a_
  clear a_
  dsimp only at h
  replace h := Option.bind_eq_some_iff.mp h
  obtain ⟨⟨r45, r46, r47⟩, a_, h⟩ := h
  have A49 := Aside0.mk a_
  clear a_
  dsimp only at h
  replace h := Option.bind_eq_some_iff.mp h
  obtain ⟨⟨r50, r51, r52, r53⟩, a_, h⟩ := h
  have A55 := Aside0.mk a_
  clear a_
  dsimp only at h
  replace h := Option.bind_eq_some_iff.mp h
  obtain ⟨r58, a_, h⟩ := h
  have A60 := Aside0.mk a_
  clear a_
  replace h := Go.Proofs.YtnggfglmjdiaaaaOwn.ite_some h
  have c_ := h.1
  replace h := h.2
  subst c_
  replace h := Go.Proofs.YtnggfglmjdiaaaaOwn.ite_some h
  have c_ := h.1
  replace h := h.2
  subst c_
  replace h := Option.bind_eq_some_iff.mp h
  obtain ⟨⟨r61, r65, r66⟩, a_, h⟩ := h
  have A71 := Aside0.mk a_
  clear a_
  dsimp only at h
  replace h := Option.bind_eq_some_iff.mp h
  obtain ⟨r72, a_, h⟩ := h
  have A74 := Aside0.mk a_
  clear a_
  replace h := Go.Proofs.YtnggfglmjdiaaaaOwn.ite_some h
  have c_ := h.1
  replace h := h.2
  subst c_
  obtain rfl := Option.some.inj h
  go_enter Try.func5, Try.ntmps5
  go_upto_region 5 with (first | ((with_reducible refine gate_dst (N := 2) rfl ?_); refine box_event ?hg (N := 2) ?hd (cs := #[.slice A0_0 l0_0.length c0_0, .int .i64 a0_1, .slice A0_2 l0_2.length c0_2]) (t := 28) ?hr ?_; (case hd => rfl); (case hg => rfl); (case hr => first | (go_simp; done) | (go_simp; rfl)); intro gb2 hg w75 hbox hb; (try clear hzgb2_0 hzgb2_1 hzgb2_2); have GEgb2 := Aside0.mk (show w.heap.size ≤ gb2 by rw [hg]; exact below_size Yb_); have BK76 := Aside0.mk hbox; have HSw75 := Aside0.mk (show w.heap.size ≤ w75.heap.size from hb.size); have m_ := Aside0.mk (below_step HB.out hb); clear HB; have HB := m_; clear m_; clear hb hbox hg; have hzgb2_0 : w75.cell? ⟨gb2, 0, none⟩ = some (.slice A0_0 l0_0.length c0_0) := (blk_cell BK76.out 0).trans rfl; have hzgb2_1 : w75.cell? ⟨gb2, 1, none⟩ = some (.int .i64 a0_1) := (blk_cell BK76.out 1).trans rfl; have hzgb2_2 : w75.cell? ⟨gb2, 2, none⟩ = some (.slice A0_2 l0_2.length c0_2) := (blk_cell BK76.out 2).trans rfl) | ((with_reducible refine gate_dst (N := 3) rfl ?_); refine box_event ?hg (N := 3) ?hd (cs := #[.int .i64 a1_0, .int .i64 a1_1, .int .i64 a1_2]) (t := 42) ?hr ?_; (case hd => rfl); (case hg => rfl); (case hr => first | (go_simp; done) | (go_simp; rfl)); intro gb4 hg w77 hbox hb; (try clear hzgb2_0 hzgb2_1 hzgb2_2); (try clear hzgb4_0 hzgb4_1 hzgb4_2); have NBgb2_gb4 := Aside0.mk (show gb2 ≠ gb4 by rw [hg]; exact Nat.ne_of_lt (blk_lt BK76.out)); have GEgb4 := Aside0.mk (show w.heap.size ≤ gb4 by rw [hg]; exact below_size Yb_); have BK78 := Aside0.mk hbox; have m_ := Aside0.mk (blk_below BK76.out hb); clear BK76; have BK76 := m_; clear m_; have HSw77 := Aside0.mk (show w75.heap.size ≤ w77.heap.size from hb.size); have m_ := Aside0.mk (below_step HB.out hb); clear HB; have HB := m_; clear m_; clear hb hbox hg; have hzgb2_0 : w77.cell? ⟨gb2, 0, none⟩ = some (.slice A0_0 l0_0.length c0_0) := (blk_cell BK76.out 0).trans rfl; have hzgb2_1 : w77.cell? ⟨gb2, 1, none⟩ = some (.int .i64 a0_1) := (blk_cell BK76.out 1).trans rfl; have hzgb2_2 : w77.cell? ⟨gb2, 2, none⟩ = some (.slice A0_2 l0_2.length c0_2) := (blk_cell BK76.out 2).trans rfl; have hzgb4_0 : w77.cell? ⟨gb4, 0, none⟩ = some (.int .i64 a1_0) := (blk_cell BK78.out 0).trans rfl; have hzgb4_1 : w77.cell? ⟨gb4, 1, none⟩ = some (.int .i64 a1_1) := (blk_cell BK78.out 1).trans rfl; have hzgb4_2 : w77.cell? ⟨gb4, 2, none⟩ = some (.int .i64 a1_2) := (blk_cell BK78.out 2).trans rfl) | ((with_reducible refine gate_callee (f := 10) rfl ?_); (try (refine gate_guard (by rfl) ?_; dsimp only)); refine goesL_ (some 13) rfl rfl Try.func10 Yj_ rfl #[.agg #[.slice A0_0 l0_0.length c0_0, .int .i64 a0_1, .slice A0_2 l0_2.length c0_2], .int .i64 1048576] rfl Yf_ ?_; (with_reducible refine (Cj.calls k _ _ l0_0 a0_1 _ _ l0_2 1048576 r5 w77 (Kd.C_below HR0_0.out Yb_) HC0_0.out (Kd.C_below HR0_2.out Yb_) HC0_2.out A7.out).mono ?_); rintro e w79 ⟨rfl, hb⟩; (try clear hzgb2_0 hzgb2_1 hzgb2_2); (try clear hzgb4_0 hzgb4_1 hzgb4_2); refine ⟨_, rfl, ?_⟩; have m_ := Aside0.mk (blk_below BK76.out hb); clear BK76; have BK76 := m_; clear m_; have m_ := Aside0.mk (blk_below BK78.out hb); clear BK78; have BK78 := m_; clear m_; have HSw79 := Aside0.mk (show w77.heap.size ≤ w79.heap.size from hb.size); have m_ := Aside0.mk (below_step HB.out hb); clear HB; have HB := m_; clear m_; clear hb; have hzgb2_0 : w79.cell? ⟨gb2, 0, none⟩ = some (.slice A0_0 l0_0.length c0_0) := (blk_cell BK76.out 0).trans rfl; have hzgb2_1 : w79.cell? ⟨gb2, 1, none⟩ = some (.int .i64 a0_1) := (blk_cell BK76.out 1).trans rfl; have hzgb2_2 : w79.cell? ⟨gb2, 2, none⟩ = some (.slice A0_2 l0_2.length c0_2) := (blk_cell BK76.out 2).trans rfl; have hzgb4_0 : w79.cell? ⟨gb4, 0, none⟩ = some (.int .i64 a1_0) := (blk_cell BK78.out 0).trans rfl; have hzgb4_1 : w79.cell? ⟨gb4, 1, none⟩ = some (.int .i64 a1_1) := (blk_cell BK78.out 1).trans rfl; have hzgb4_2 : w79.cell? ⟨gb4, 2, none⟩ = some (.int .i64 a1_2) := (blk_cell BK78.out 2).trans rfl))
  (try clear hzgb2_0 hzgb2_1 hzgb2_2 hzgb4_0 hzgb4_1 hzgb4_2)
  have m_ := Aside0.mk (blk_drew BK76.out)
  clear BK76
  have BK76 := m_
  clear m_
  have m_ := Aside0.mk (blk_drew BK78.out)
  clear BK78
  have BK78 := m_
  clear m_
  have m_ := Aside0.mk (below_drew1 HB.out)
  clear HB
  have HB := m_
  clear m_
  have HSw80 := Aside0.mk (show w79.heap.size ≤ w79.drew.heap.size from Nat.le_refl _)
  refine start_ (n := 11) (S := fun w' => w'.cell? ⟨gb2, 0, none⟩ = some (.slice A0_0 l0_0.length c0_0) ∧ w'.cell? ⟨gb2, 1, none⟩ = some (.int .i64 a0_1) ∧ w'.cell? ⟨gb2, 2, none⟩ = some (.slice A0_2 l0_2.length c0_2) ∧ w'.cell? ⟨gb4, 0, none⟩ = some (.int .i64 a1_0) ∧ w'.cell? ⟨gb4, 1, none⟩ = some (.int .i64 a1_1) ∧ w'.cell? ⟨gb4, 2, none⟩ = some (.int .i64 a1_2)) (ds := []) #[false, false, false, false, false, false, false, false, false, false, false] Yj_ rfl rfl ⟨(blk_cell BK76.out 0).trans rfl, (blk_cell BK76.out 1).trans rfl, (blk_cell BK76.out 2).trans rfl, (blk_cell BK78.out 0).trans rfl, (blk_cell BK78.out 1).trans rfl, (blk_cell BK78.out 2).trans rfl⟩ (fun hHeld => ?_)
  generalize w79.drew = w80 at BK76 BK78 HB HSw80 hHeld ⊢
  refine take_ (i := 0) (N := some 17) #[true, false, false, false, false, false, false, false, false, false, false] rfl rfl Yj_ (fun _ _ _ h => h) (Or.inl ⟨by rfl, Ydd_⟩) hHeld Ya_ ?_
  refine take_ (i := 2) (N := some 19) #[true, false, true, false, false, false, false, false, false, false, false] rfl rfl Yj_ (fun _ _ _ h => h) (Or.inl ⟨by rfl, Ydd_⟩) hHeld Ya_ ?_
  refine join_ (σ := (Nat) × (Nat) × (Option Addr) × (Nat) × (Option Addr) × (Nat) × (Nat → Prop) × (Nat)) 2 #[true, true, true, true, true, true, true, true, true, false, false] (fun s => match s with | ⟨lo1_w81, hi1_w81, A9, c10, A14, c15, PJ1_w81, gb31⟩ => [(18, .agg #[.slice A9 r8.length c10, .int .i64 r12, .slice A14 r13.length c15]), (20, .agg #[.int .i64 r19, .int .i64 r20, .int .i64 r21]), (21, .tuple #[.agg #[.int .i64 r24, .int .i64 r25, .int .i64 r26], .bool r53]), (16, .tuple #[.agg #[.int .i64 r24, .int .i64 r25, .int .i64 r26], .bool r53]), (22, .agg #[.int .i64 r24, .int .i64 r25, .int .i64 r26]), (23, .bool r53), (6, .pointer (some ⟨gb31, 0, none⟩))]) (fun s w' => match s with | ⟨lo1_w81, hi1_w81, A9, c10, A14, c15, PJ1_w81, gb31⟩ => Aside0 (Below w.heap.size w w') ∧ Aside0 (Kd.S (Kd.slice 3 (Kd.int .i64)) 73 w' w.heap.size (fun k_ => (lo1_w81 ≤ k_ ∧ k_ < hi1_w81) ∧ PJ1_w81 k_) (.slice A9 r8.length c10) r8) ∧ Aside0 (Kd.S (Kd.slice 3 (Kd.int .i64)) 73 w' w.heap.size (fun k_ => (lo1_w81 ≤ k_ ∧ k_ < hi1_w81) ∧ ¬ PJ1_w81 k_) (.slice A14 r13.length c15) r13) ∧ Aside0 (w'.heap[gb2]? = some (.cells #[.slice A0_0 l0_0.length c0_0, .int .i64 a0_1, .slice A0_2 l0_2.length c0_2] 28 (0, 0))) ∧ Aside0 (w'.heap[gb4]? = some (.cells #[.int .i64 a1_0, .int .i64 a1_1, .int .i64 a1_2] 42 (0, 0))) ∧ Aside0 (w'.heap[gb31]? = some (.cells #[.int .i64 0, .int .i64 0, .int .i64 0] 43 (0, 0))) ∧ Aside0 (w.heap.size ≤ gb31) ∧ Aside0 (gb2 ≠ gb31) ∧ Aside0 (gb4 ≠ gb31) ∧ Aside0 (w80.heap.size ≤ lo1_w81 ∧ lo1_w81 ≤ hi1_w81 ∧ hi1_w81 ≤ w'.heap.size ∧ w80.heap.size ≤ w'.heap.size)) ?_ ?_
  rotate_left
  ·intro hCont
   refine two_ (i := 1) (j := 8) (Ni := some 18) (Nj := some 6) #[true, true, true, false, false, false, false, false, false, false, false] #[true, false, true, false, false, false, false, false, true, false, false] rfl rfl rfl rfl Yj_ (by decide) (by decide) (fun K hK => ?_) (fun K hK => ?_)
   ·skip
    refine goes_ Try.func12 Yj_ rfl #[.agg #[.slice A0_0 l0_0.length c0_0, .int .i64 a0_1, .slice A0_2 l0_2.length c0_2]] (by rfl) rfl rfl Yf_ ?_
    (with_reducible refine (Bq.calls2 k _ _ l0_0 a0_1 _ _ l0_2 r8 r12 r13 w80 (Kd.C_below HR0_0.out Yb_) HC0_0.out (Kd.C_below HR0_2.out Yb_) HC0_2.out A18.out).mono ?_)
    rintro e w82 ⟨Pw82, v85, v86, rfl, ho83, ho84, hb⟩
    refine ⟨_, rfl, ?_⟩
    have m_ := Aside0.mk (blk_below BK76.out hb)
    clear BK76
    have BK76 := m_
    clear m_
    have m_ := Aside0.mk (blk_below BK78.out hb)
    clear BK78
    have BK78 := m_
    clear m_
    have HSw82 := Aside0.mk (show w80.heap.size ≤ w82.heap.size from hb.size)
    have m_ := (show Kd.S (Kd.slice 3 (Kd.int .i64)) 73 w82 w.heap.size (fun k_ => (w80.heap.size ≤ k_ ∧ k_ < w82.heap.size) ∧ Pw82 k_) v85 r8 from Kd.S_mono (Kd.S_lower (Kd.Ea ho83) (below_size Yb_)) (fun k_ hk_ => ⟨⟨hk_.2.1, hk_.2.2.1⟩, hk_.1⟩))
    obtain ⟨A9, c10, e_⟩ := Kd.S_slice m_
    subst e_
    have HO11 := Aside0.mk m_
    clear m_ ho83
    have m_ := (show Kd.S (Kd.slice 3 (Kd.int .i64)) 73 w82 w.heap.size (fun k_ => (w80.heap.size ≤ k_ ∧ k_ < w82.heap.size) ∧ ¬ Pw82 k_) v86 r13 from Kd.S_mono (Kd.S_lower (Kd.Ea ho84) (below_size Yb_)) (fun k_ hk_ => ⟨⟨hk_.2.1, hk_.2.2.1⟩, hk_.1⟩))
    obtain ⟨A14, c15, e_⟩ := Kd.S_slice m_
    subst e_
    have HO16 := Aside0.mk m_
    clear m_ ho84
    have m_ := Aside0.mk (below_step HB.out hb)
    clear HB
    have HB := m_
    clear m_
    clear hb
    refine hK.out _ _ ⟨(blk_cell BK76.out 0).trans rfl, (blk_cell BK76.out 1).trans rfl, (blk_cell BK76.out 2).trans rfl, (blk_cell BK78.out 0).trans rfl, (blk_cell BK78.out 1).trans rfl, (blk_cell BK78.out 2).trans rfl⟩ (fun hHeld => ?_)
    clear hK K
    refine norm_ (show Act.put _ (some 18) _ = _ from Ya_) ?_
    refine two_ (i := 3) (j := 8) (Ni := some 20) (Nj := some 6) #[true, true, true, true, false, false, false, false, false, false, false] #[true, true, true, false, false, false, false, false, true, false, false] rfl rfl rfl rfl Yj_ (by decide) (by decide) (fun K hK => ?_) (fun K hK => ?_)
    ·skip
     refine goes_ Try.func18 Yj_ rfl #[.agg #[.int .i64 a1_0, .int .i64 a1_1, .int .i64 a1_2]] (by rfl) rfl rfl Yf_ ?_
     (with_reducible refine (laws_toOrder.calls a1_0 a1_1 a1_2 r19 r20 r21 w82  A23.out).mono ?_)
     rintro e w87 ⟨rfl, hb⟩
     refine ⟨_, rfl, ?_⟩
     have m_ := Aside0.mk (Kd.Ad HO11.out hb)
     clear HO11
     have HO11 := m_
     clear m_
     have m_ := Aside0.mk (Kd.Ad HO16.out hb)
     clear HO16
     have HO16 := m_
     clear m_
     have m_ := Aside0.mk (blk_below BK76.out hb)
     clear BK76
     have BK76 := m_
     clear m_
     have m_ := Aside0.mk (blk_below BK78.out hb)
     clear BK78
     have BK78 := m_
     clear m_
     have HSw87 := Aside0.mk (show w82.heap.size ≤ w87.heap.size from hb.size)
     have m_ := Aside0.mk (below_step HB.out hb)
     clear HB
     have HB := m_
     clear m_
     clear hb
     refine hK.out _ _ ⟨(blk_cell BK76.out 0).trans rfl, (blk_cell BK76.out 1).trans rfl, (blk_cell BK76.out 2).trans rfl, (blk_cell BK78.out 0).trans rfl, (blk_cell BK78.out 1).trans rfl, (blk_cell BK78.out 2).trans rfl⟩ (fun hHeld => ?_)
     clear hK K
     refine norm_ (show Act.put _ (some 20) _ = _ from Ya_) ?_
     refine two_ (i := 4) (j := 8) (Ni := some 21) (Nj := some 6) #[true, true, true, true, true, false, false, false, false, false, false] #[true, true, true, true, false, false, false, false, true, false, false] rfl rfl rfl rfl Yj_ (by decide) (by decide) (fun K hK => ?_) (fun K hK => ?_)
     ·skip
      refine goes_ Try.func17 Yj_ rfl #[.agg #[.slice A9 r8.length c10, .int .i64 r12, .slice A14 r13.length c15], .agg #[.int .i64 r19, .int .i64 r20, .int .i64 r21]] (by rfl) rfl rfl Yf_ ?_
      (with_reducible refine (Cf.calls k _ _ r8 r12 _ _ r13 r19 r20 r21 r24 r25 r26 r53 w87 (Kd.Az HO11.out).2.2 (Nat.le_trans (Nat.le_of_eq (Kd.Az HO11.out).1.symm) (Kd.Az HO11.out).2.1) (Kd.Az HO16.out).2.2 (Nat.le_trans (Nat.le_of_eq (Kd.Az HO16.out).1.symm) (Kd.Az HO16.out).2.1) A29.out).mono ?_)
      rintro e w88 ⟨rfl, hb⟩
      refine ⟨_, rfl, ?_⟩
      have m_ := Aside0.mk (Kd.Ad HO11.out hb)
      clear HO11
      have HO11 := m_
      clear m_
      have m_ := Aside0.mk (Kd.Ad HO16.out hb)
      clear HO16
      have HO16 := m_
      clear m_
      have m_ := Aside0.mk (blk_below BK76.out hb)
      clear BK76
      have BK76 := m_
      clear m_
      have m_ := Aside0.mk (blk_below BK78.out hb)
      clear BK78
      have BK78 := m_
      clear m_
      have HSw88 := Aside0.mk (show w87.heap.size ≤ w88.heap.size from hb.size)
      have m_ := Aside0.mk (below_step HB.out hb)
      clear HB
      have HB := m_
      clear m_
      clear hb
      refine hK.out _ _ ⟨(blk_cell BK76.out 0).trans rfl, (blk_cell BK76.out 1).trans rfl, (blk_cell BK76.out 2).trans rfl, (blk_cell BK78.out 0).trans rfl, (blk_cell BK78.out 1).trans rfl, (blk_cell BK78.out 2).trans rfl⟩ (fun hHeld => ?_)
      clear hK K
      refine norm_ (show Act.put _ (some 21) _ = _ from Ya_) ?_
      refine pure_ (i := 5) (N := some 16) #[true, true, true, true, true, true, false, false, false, false, false] rfl rfl Yj_ (fun _ _ _ h => h) (Or.inl ⟨by rfl, Ybc_⟩) Ya_ ?_
      refine pure_ (i := 6) (N := some 22) #[true, true, true, true, true, true, true, false, false, false, false] rfl rfl Yj_ (fun _ _ _ h => h) (Or.inl ⟨by rfl, Ybc_⟩) Ya_ ?_
      refine pure_ (i := 7) (N := some 23) #[true, true, true, true, true, true, true, true, false, false, false] rfl rfl Yj_ (fun _ _ _ h => h) (Or.inl ⟨by rfl, Ybc_⟩) Ya_ ?_
      refine one_ (i := 8) (N := some 6) #[true, true, true, true, true, true, true, true, true, false, false] rfl rfl Yj_ (by decide) (fun K hK => ?_)
      refine box_step (N := 6) (by rfl) rfl (cs := #[.int .i64 0, .int .i64 0, .int .i64 0]) (t := 43) ?_ ?_
      ·first | (go_simp; done) | (go_simp; rfl)
      intro gb31 hg w89 hbox hb
      have NBgb2_gb31 := Aside0.mk (show gb2 ≠ gb31 by rw [hg]; exact Nat.ne_of_lt (blk_lt BK76.out))
      have NBgb4_gb31 := Aside0.mk (show gb4 ≠ gb31 by rw [hg]; exact Nat.ne_of_lt (blk_lt BK78.out))
      have GEgb31 := Aside0.mk (show w.heap.size ≤ gb31 by rw [hg]; exact below_size Yb_)
      have BK90 := Aside0.mk hbox
      have m_ := Aside0.mk (Kd.Ad HO11.out hb)
      clear HO11
      have HO11 := m_
      clear m_
      have m_ := Aside0.mk (Kd.Ad HO16.out hb)
      clear HO16
      have HO16 := m_
      clear m_
      have m_ := Aside0.mk (blk_below BK76.out hb)
      clear BK76
      have BK76 := m_
      clear m_
      have m_ := Aside0.mk (blk_below BK78.out hb)
      clear BK78
      have BK78 := m_
      clear m_
      have HSw89 := Aside0.mk (show w88.heap.size ≤ w89.heap.size from hb.size)
      have m_ := Aside0.mk (below_step HB.out hb)
      clear HB
      have HB := m_
      clear m_
      clear hb hbox hg
      refine hK.out _ _ ⟨(blk_cell BK76.out 0).trans rfl, (blk_cell BK76.out 1).trans rfl, (blk_cell BK76.out 2).trans rfl, (blk_cell BK78.out 0).trans rfl, (blk_cell BK78.out 1).trans rfl, (blk_cell BK78.out 2).trans rfl⟩ (fun hHeld => ?_)
      clear hK K
      refine norm_ (show Act.put _ (some 6) _ = _ from Ya_) ?_
      exact norm_ Ybj_ (hCont (w80.heap.size, w82.heap.size, A9, c10, A14, c15, Pw82, gb31) _ ⟨HB, HO11, HO16, BK76, BK78, BK90, GEgb31, NBgb2_gb31, NBgb4_gb31, ⟨by have := HSw75.out; have := HSw77.out; have := HSw79.out; have := HSw80.out; have := HSw82.out; have := HSw87.out; have := HSw88.out; have := HSw89.out; omega⟩⟩)
     ·skip
      refine box_step (N := 6) (by rfl) rfl (cs := #[.int .i64 0, .int .i64 0, .int .i64 0]) (t := 43) ?_ ?_
      ·first | (go_simp; done) | (go_simp; rfl)
      intro gb31 hg w91 hbox hb
      have NBgb2_gb31 := Aside0.mk (show gb2 ≠ gb31 by rw [hg]; exact Nat.ne_of_lt (blk_lt BK76.out))
      have NBgb4_gb31 := Aside0.mk (show gb4 ≠ gb31 by rw [hg]; exact Nat.ne_of_lt (blk_lt BK78.out))
      have GEgb31 := Aside0.mk (show w.heap.size ≤ gb31 by rw [hg]; exact below_size Yb_)
      have BK92 := Aside0.mk hbox
      have m_ := Aside0.mk (Kd.Ad HO11.out hb)
      clear HO11
      have HO11 := m_
      clear m_
      have m_ := Aside0.mk (Kd.Ad HO16.out hb)
      clear HO16
      have HO16 := m_
      clear m_
      have m_ := Aside0.mk (blk_below BK76.out hb)
      clear BK76
      have BK76 := m_
      clear m_
      have m_ := Aside0.mk (blk_below BK78.out hb)
      clear BK78
      have BK78 := m_
      clear m_
      have HSw91 := Aside0.mk (show w87.heap.size ≤ w91.heap.size from hb.size)
      have m_ := Aside0.mk (below_step HB.out hb)
      clear HB
      have HB := m_
      clear m_
      clear hb hbox hg
      refine hK.out _ _ ⟨(blk_cell BK76.out 0).trans rfl, (blk_cell BK76.out 1).trans rfl, (blk_cell BK76.out 2).trans rfl, (blk_cell BK78.out 0).trans rfl, (blk_cell BK78.out 1).trans rfl, (blk_cell BK78.out 2).trans rfl⟩ (fun hHeld => ?_)
      clear hK K
      refine norm_ (show Act.put _ (some 6) _ = _ from Ya_) ?_
      refine one_ (i := 4) (N := some 21) #[true, true, true, true, true, false, false, false, true, false, false] rfl rfl Yj_ (by decide) (fun K hK => ?_)
      refine goes_ Try.func17 Yj_ rfl #[.agg #[.slice A9 r8.length c10, .int .i64 r12, .slice A14 r13.length c15], .agg #[.int .i64 r19, .int .i64 r20, .int .i64 r21]] (by rfl) rfl rfl Yf_ ?_
      (with_reducible refine (Cf.calls k _ _ r8 r12 _ _ r13 r19 r20 r21 r24 r25 r26 r53 w91 (Kd.Az HO11.out).2.2 (Nat.le_trans (Nat.le_of_eq (Kd.Az HO11.out).1.symm) (Kd.Az HO11.out).2.1) (Kd.Az HO16.out).2.2 (Nat.le_trans (Nat.le_of_eq (Kd.Az HO16.out).1.symm) (Kd.Az HO16.out).2.1) A29.out).mono ?_)
      rintro e w93 ⟨rfl, hb⟩
      refine ⟨_, rfl, ?_⟩
      have m_ := Aside0.mk (Kd.Ad HO11.out hb)
      clear HO11
      have HO11 := m_
      clear m_
      have m_ := Aside0.mk (Kd.Ad HO16.out hb)
      clear HO16
      have HO16 := m_
      clear m_
      have m_ := Aside0.mk (blk_below BK76.out hb)
      clear BK76
      have BK76 := m_
      clear m_
      have m_ := Aside0.mk (blk_below BK78.out hb)
      clear BK78
      have BK78 := m_
      clear m_
      have m_ := Aside0.mk (blk_below BK92.out hb)
      clear BK92
      have BK92 := m_
      clear m_
      have HSw93 := Aside0.mk (show w91.heap.size ≤ w93.heap.size from hb.size)
      have m_ := Aside0.mk (below_step HB.out hb)
      clear HB
      have HB := m_
      clear m_
      clear hb
      refine hK.out _ _ ⟨(blk_cell BK76.out 0).trans rfl, (blk_cell BK76.out 1).trans rfl, (blk_cell BK76.out 2).trans rfl, (blk_cell BK78.out 0).trans rfl, (blk_cell BK78.out 1).trans rfl, (blk_cell BK78.out 2).trans rfl⟩ (fun hHeld => ?_)
      clear hK K
      refine norm_ (show Act.put _ (some 21) _ = _ from Ya_) ?_
      refine pure_ (i := 5) (N := some 16) #[true, true, true, true, true, true, false, false, true, false, false] rfl rfl Yj_ (fun _ _ _ h => h) (Or.inl ⟨by rfl, Ybc_⟩) Ya_ ?_
      refine pure_ (i := 6) (N := some 22) #[true, true, true, true, true, true, true, false, true, false, false] rfl rfl Yj_ (fun _ _ _ h => h) (Or.inl ⟨by rfl, Ybc_⟩) Ya_ ?_
      refine pure_ (i := 7) (N := some 23) #[true, true, true, true, true, true, true, true, true, false, false] rfl rfl Yj_ (fun _ _ _ h => h) (Or.inl ⟨by rfl, Ybc_⟩) Ya_ ?_
      exact norm_ Ybj_ (hCont (w80.heap.size, w82.heap.size, A9, c10, A14, c15, Pw82, gb31) _ ⟨HB, HO11, HO16, BK76, BK78, BK92, GEgb31, NBgb2_gb31, NBgb4_gb31, ⟨by have := HSw75.out; have := HSw77.out; have := HSw79.out; have := HSw80.out; have := HSw82.out; have := HSw87.out; have := HSw91.out; have := HSw93.out; omega⟩⟩)
    ·skip
     refine box_step (N := 6) (by rfl) rfl (cs := #[.int .i64 0, .int .i64 0, .int .i64 0]) (t := 43) ?_ ?_
     ·first | (go_simp; done) | (go_simp; rfl)
     intro gb31 hg w94 hbox hb
     have NBgb2_gb31 := Aside0.mk (show gb2 ≠ gb31 by rw [hg]; exact Nat.ne_of_lt (blk_lt BK76.out))
     have NBgb4_gb31 := Aside0.mk (show gb4 ≠ gb31 by rw [hg]; exact Nat.ne_of_lt (blk_lt BK78.out))
     have GEgb31 := Aside0.mk (show w.heap.size ≤ gb31 by rw [hg]; exact below_size Yb_)
     have BK95 := Aside0.mk hbox
     have m_ := Aside0.mk (Kd.Ad HO11.out hb)
     clear HO11
     have HO11 := m_
     clear m_
     have m_ := Aside0.mk (Kd.Ad HO16.out hb)
     clear HO16
     have HO16 := m_
     clear m_
     have m_ := Aside0.mk (blk_below BK76.out hb)
     clear BK76
     have BK76 := m_
     clear m_
     have m_ := Aside0.mk (blk_below BK78.out hb)
     clear BK78
     have BK78 := m_
     clear m_
     have HSw94 := Aside0.mk (show w82.heap.size ≤ w94.heap.size from hb.size)
     have m_ := Aside0.mk (below_step HB.out hb)
     clear HB
     have HB := m_
     clear m_
     clear hb hbox hg
     refine hK.out _ _ ⟨(blk_cell BK76.out 0).trans rfl, (blk_cell BK76.out 1).trans rfl, (blk_cell BK76.out 2).trans rfl, (blk_cell BK78.out 0).trans rfl, (blk_cell BK78.out 1).trans rfl, (blk_cell BK78.out 2).trans rfl⟩ (fun hHeld => ?_)
     clear hK K
     refine norm_ (show Act.put _ (some 6) _ = _ from Ya_) ?_
     refine one_ (i := 3) (N := some 20) #[true, true, true, true, false, false, false, false, true, false, false] rfl rfl Yj_ (by decide) (fun K hK => ?_)
     refine goes_ Try.func18 Yj_ rfl #[.agg #[.int .i64 a1_0, .int .i64 a1_1, .int .i64 a1_2]] (by rfl) rfl rfl Yf_ ?_
     (with_reducible refine (laws_toOrder.calls a1_0 a1_1 a1_2 r19 r20 r21 w94  A23.out).mono ?_)
     rintro e w96 ⟨rfl, hb⟩
     refine ⟨_, rfl, ?_⟩
     have m_ := Aside0.mk (Kd.Ad HO11.out hb)
     clear HO11
     have HO11 := m_
     clear m_
     have m_ := Aside0.mk (Kd.Ad HO16.out hb)
     clear HO16
     have HO16 := m_
     clear m_
     have m_ := Aside0.mk (blk_below BK76.out hb)
     clear BK76
     have BK76 := m_
     clear m_
     have m_ := Aside0.mk (blk_below BK78.out hb)
     clear BK78
     have BK78 := m_
     clear m_
     have m_ := Aside0.mk (blk_below BK95.out hb)
     clear BK95
     have BK95 := m_
     clear m_
     have HSw96 := Aside0.mk (show w94.heap.size ≤ w96.heap.size from hb.size)
     have m_ := Aside0.mk (below_step HB.out hb)
     clear HB
     have HB := m_
     clear m_
     clear hb
     refine hK.out _ _ ⟨(blk_cell BK76.out 0).trans rfl, (blk_cell BK76.out 1).trans rfl, (blk_cell BK76.out 2).trans rfl, (blk_cell BK78.out 0).trans rfl, (blk_cell BK78.out 1).trans rfl, (blk_cell BK78.out 2).trans rfl⟩ (fun hHeld => ?_)
     clear hK K
     refine norm_ (show Act.put _ (some 20) _ = _ from Ya_) ?_
     refine one_ (i := 4) (N := some 21) #[true, true, true, true, true, false, false, false, true, false, false] rfl rfl Yj_ (by decide) (fun K hK => ?_)
     refine goes_ Try.func17 Yj_ rfl #[.agg #[.slice A9 r8.length c10, .int .i64 r12, .slice A14 r13.length c15], .agg #[.int .i64 r19, .int .i64 r20, .int .i64 r21]] (by rfl) rfl rfl Yf_ ?_
     (with_reducible refine (Cf.calls k _ _ r8 r12 _ _ r13 r19 r20 r21 r24 r25 r26 r53 w96 (Kd.Az HO11.out).2.2 (Nat.le_trans (Nat.le_of_eq (Kd.Az HO11.out).1.symm) (Kd.Az HO11.out).2.1) (Kd.Az HO16.out).2.2 (Nat.le_trans (Nat.le_of_eq (Kd.Az HO16.out).1.symm) (Kd.Az HO16.out).2.1) A29.out).mono ?_)
     rintro e w97 ⟨rfl, hb⟩
     refine ⟨_, rfl, ?_⟩
     have m_ := Aside0.mk (Kd.Ad HO11.out hb)
     clear HO11
     have HO11 := m_
     clear m_
     have m_ := Aside0.mk (Kd.Ad HO16.out hb)
     clear HO16
     have HO16 := m_
     clear m_
     have m_ := Aside0.mk (blk_below BK76.out hb)
     clear BK76
     have BK76 := m_
     clear m_
     have m_ := Aside0.mk (blk_below BK78.out hb)
     clear BK78
     have BK78 := m_
     clear m_
     have m_ := Aside0.mk (blk_below BK95.out hb)
     clear BK95
     have BK95 := m_
     clear m_
     have HSw97 := Aside0.mk (show w96.heap.size ≤ w97.heap.size from hb.size)
     have m_ := Aside0.mk (below_step HB.out hb)
     clear HB
     have HB := m_
     clear m_
     clear hb
     refine hK.out _ _ ⟨(blk_cell BK76.out 0).trans rfl, (blk_cell BK76.out 1).trans rfl, (blk_cell BK76.out 2).trans rfl, (blk_cell BK78.out 0).trans rfl, (blk_cell BK78.out 1).trans rfl, (blk_cell BK78.out 2).trans rfl⟩ (fun hHeld => ?_)
     clear hK K
     refine norm_ (show Act.put _ (some 21) _ = _ from Ya_) ?_
     refine pure_ (i := 5) (N := some 16) #[true, true, true, true, true, true, false, false, true, false, false] rfl rfl Yj_ (fun _ _ _ h => h) (Or.inl ⟨by rfl, Ybc_⟩) Ya_ ?_
     refine pure_ (i := 6) (N := some 22) #[true, true, true, true, true, true, true, false, true, false, false] rfl rfl Yj_ (fun _ _ _ h => h) (Or.inl ⟨by rfl, Ybc_⟩) Ya_ ?_
     refine pure_ (i := 7) (N := some 23) #[true, true, true, true, true, true, true, true, true, false, false] rfl rfl Yj_ (fun _ _ _ h => h) (Or.inl ⟨by rfl, Ybc_⟩) Ya_ ?_
     exact norm_ Ybj_ (hCont (w80.heap.size, w82.heap.size, A9, c10, A14, c15, Pw82, gb31) _ ⟨HB, HO11, HO16, BK76, BK78, BK95, GEgb31, NBgb2_gb31, NBgb4_gb31, ⟨by have := HSw75.out; have := HSw77.out; have := HSw79.out; have := HSw80.out; have := HSw82.out; have := HSw94.out; have := HSw96.out; have := HSw97.out; omega⟩⟩)
   ·skip
    refine box_step (N := 6) (by rfl) rfl (cs := #[.int .i64 0, .int .i64 0, .int .i64 0]) (t := 43) ?_ ?_
    ·first | (go_simp; done) | (go_simp; rfl)
    intro gb31 hg w98 hbox hb
    have NBgb2_gb31 := Aside0.mk (show gb2 ≠ gb31 by rw [hg]; exact Nat.ne_of_lt (blk_lt BK76.out))
    have NBgb4_gb31 := Aside0.mk (show gb4 ≠ gb31 by rw [hg]; exact Nat.ne_of_lt (blk_lt BK78.out))
    have GEgb31 := Aside0.mk (show w.heap.size ≤ gb31 by rw [hg]; exact below_size Yb_)
    have BK99 := Aside0.mk hbox
    have m_ := Aside0.mk (blk_below BK76.out hb)
    clear BK76
    have BK76 := m_
    clear m_
    have m_ := Aside0.mk (blk_below BK78.out hb)
    clear BK78
    have BK78 := m_
    clear m_
    have HSw98 := Aside0.mk (show w80.heap.size ≤ w98.heap.size from hb.size)
    have m_ := Aside0.mk (below_step HB.out hb)
    clear HB
    have HB := m_
    clear m_
    clear hb hbox hg
    refine hK.out _ _ ⟨(blk_cell BK76.out 0).trans rfl, (blk_cell BK76.out 1).trans rfl, (blk_cell BK76.out 2).trans rfl, (blk_cell BK78.out 0).trans rfl, (blk_cell BK78.out 1).trans rfl, (blk_cell BK78.out 2).trans rfl⟩ (fun hHeld => ?_)
    clear hK K
    refine norm_ (show Act.put _ (some 6) _ = _ from Ya_) ?_
    refine one_ (i := 1) (N := some 18) #[true, true, true, false, false, false, false, false, true, false, false] rfl rfl Yj_ (by decide) (fun K hK => ?_)
    refine goes_ Try.func12 Yj_ rfl #[.agg #[.slice A0_0 l0_0.length c0_0, .int .i64 a0_1, .slice A0_2 l0_2.length c0_2]] (by rfl) rfl rfl Yf_ ?_
    (with_reducible refine (Bq.calls2 k _ _ l0_0 a0_1 _ _ l0_2 r8 r12 r13 w98 (Kd.C_below HR0_0.out Yb_) HC0_0.out (Kd.C_below HR0_2.out Yb_) HC0_2.out A18.out).mono ?_)
    rintro e w100 ⟨Pw100, v103, v104, rfl, ho101, ho102, hb⟩
    refine ⟨_, rfl, ?_⟩
    have m_ := Aside0.mk (blk_below BK76.out hb)
    clear BK76
    have BK76 := m_
    clear m_
    have m_ := Aside0.mk (blk_below BK78.out hb)
    clear BK78
    have BK78 := m_
    clear m_
    have m_ := Aside0.mk (blk_below BK99.out hb)
    clear BK99
    have BK99 := m_
    clear m_
    have HSw100 := Aside0.mk (show w98.heap.size ≤ w100.heap.size from hb.size)
    have m_ := (show Kd.S (Kd.slice 3 (Kd.int .i64)) 73 w100 w.heap.size (fun k_ => (w98.heap.size ≤ k_ ∧ k_ < w100.heap.size) ∧ Pw100 k_) v103 r8 from Kd.S_mono (Kd.S_lower (Kd.Ea ho101) (below_size Yb_)) (fun k_ hk_ => ⟨⟨hk_.2.1, hk_.2.2.1⟩, hk_.1⟩))
    obtain ⟨A9, c10, e_⟩ := Kd.S_slice m_
    subst e_
    have HO11 := Aside0.mk m_
    clear m_ ho101
    have m_ := (show Kd.S (Kd.slice 3 (Kd.int .i64)) 73 w100 w.heap.size (fun k_ => (w98.heap.size ≤ k_ ∧ k_ < w100.heap.size) ∧ ¬ Pw100 k_) v104 r13 from Kd.S_mono (Kd.S_lower (Kd.Ea ho102) (below_size Yb_)) (fun k_ hk_ => ⟨⟨hk_.2.1, hk_.2.2.1⟩, hk_.1⟩))
    obtain ⟨A14, c15, e_⟩ := Kd.S_slice m_
    subst e_
    have HO16 := Aside0.mk m_
    clear m_ ho102
    have m_ := Aside0.mk (below_step HB.out hb)
    clear HB
    have HB := m_
    clear m_
    clear hb
    refine hK.out _ _ ⟨(blk_cell BK76.out 0).trans rfl, (blk_cell BK76.out 1).trans rfl, (blk_cell BK76.out 2).trans rfl, (blk_cell BK78.out 0).trans rfl, (blk_cell BK78.out 1).trans rfl, (blk_cell BK78.out 2).trans rfl⟩ (fun hHeld => ?_)
    clear hK K
    refine norm_ (show Act.put _ (some 18) _ = _ from Ya_) ?_
    refine one_ (i := 3) (N := some 20) #[true, true, true, true, false, false, false, false, true, false, false] rfl rfl Yj_ (by decide) (fun K hK => ?_)
    refine goes_ Try.func18 Yj_ rfl #[.agg #[.int .i64 a1_0, .int .i64 a1_1, .int .i64 a1_2]] (by rfl) rfl rfl Yf_ ?_
    (with_reducible refine (laws_toOrder.calls a1_0 a1_1 a1_2 r19 r20 r21 w100  A23.out).mono ?_)
    rintro e w105 ⟨rfl, hb⟩
    refine ⟨_, rfl, ?_⟩
    have m_ := Aside0.mk (Kd.Ad HO11.out hb)
    clear HO11
    have HO11 := m_
    clear m_
    have m_ := Aside0.mk (Kd.Ad HO16.out hb)
    clear HO16
    have HO16 := m_
    clear m_
    have m_ := Aside0.mk (blk_below BK76.out hb)
    clear BK76
    have BK76 := m_
    clear m_
    have m_ := Aside0.mk (blk_below BK78.out hb)
    clear BK78
    have BK78 := m_
    clear m_
    have m_ := Aside0.mk (blk_below BK99.out hb)
    clear BK99
    have BK99 := m_
    clear m_
    have HSw105 := Aside0.mk (show w100.heap.size ≤ w105.heap.size from hb.size)
    have m_ := Aside0.mk (below_step HB.out hb)
    clear HB
    have HB := m_
    clear m_
    clear hb
    refine hK.out _ _ ⟨(blk_cell BK76.out 0).trans rfl, (blk_cell BK76.out 1).trans rfl, (blk_cell BK76.out 2).trans rfl, (blk_cell BK78.out 0).trans rfl, (blk_cell BK78.out 1).trans rfl, (blk_cell BK78.out 2).trans rfl⟩ (fun hHeld => ?_)
    clear hK K
    refine norm_ (show Act.put _ (some 20) _ = _ from Ya_) ?_
    refine one_ (i := 4) (N := some 21) #[true, true, true, true, true, false, false, false, true, false, false] rfl rfl Yj_ (by decide) (fun K hK => ?_)
    refine goes_ Try.func17 Yj_ rfl #[.agg #[.slice A9 r8.length c10, .int .i64 r12, .slice A14 r13.length c15], .agg #[.int .i64 r19, .int .i64 r20, .int .i64 r21]] (by rfl) rfl rfl Yf_ ?_
    (with_reducible refine (Cf.calls k _ _ r8 r12 _ _ r13 r19 r20 r21 r24 r25 r26 r53 w105 (Kd.Az HO11.out).2.2 (Nat.le_trans (Nat.le_of_eq (Kd.Az HO11.out).1.symm) (Kd.Az HO11.out).2.1) (Kd.Az HO16.out).2.2 (Nat.le_trans (Nat.le_of_eq (Kd.Az HO16.out).1.symm) (Kd.Az HO16.out).2.1) A29.out).mono ?_)
    rintro e w106 ⟨rfl, hb⟩
    refine ⟨_, rfl, ?_⟩
    have m_ := Aside0.mk (Kd.Ad HO11.out hb)
    clear HO11
    have HO11 := m_
    clear m_
    have m_ := Aside0.mk (Kd.Ad HO16.out hb)
    clear HO16
    have HO16 := m_
    clear m_
    have m_ := Aside0.mk (blk_below BK76.out hb)
    clear BK76
    have BK76 := m_
    clear m_
    have m_ := Aside0.mk (blk_below BK78.out hb)
    clear BK78
    have BK78 := m_
    clear m_
    have m_ := Aside0.mk (blk_below BK99.out hb)
    clear BK99
    have BK99 := m_
    clear m_
    have HSw106 := Aside0.mk (show w105.heap.size ≤ w106.heap.size from hb.size)
    have m_ := Aside0.mk (below_step HB.out hb)
    clear HB
    have HB := m_
    clear m_
    clear hb
    refine hK.out _ _ ⟨(blk_cell BK76.out 0).trans rfl, (blk_cell BK76.out 1).trans rfl, (blk_cell BK76.out 2).trans rfl, (blk_cell BK78.out 0).trans rfl, (blk_cell BK78.out 1).trans rfl, (blk_cell BK78.out 2).trans rfl⟩ (fun hHeld => ?_)
    clear hK K
    refine norm_ (show Act.put _ (some 21) _ = _ from Ya_) ?_
    refine pure_ (i := 5) (N := some 16) #[true, true, true, true, true, true, false, false, true, false, false] rfl rfl Yj_ (fun _ _ _ h => h) (Or.inl ⟨by rfl, Ybc_⟩) Ya_ ?_
    refine pure_ (i := 6) (N := some 22) #[true, true, true, true, true, true, true, false, true, false, false] rfl rfl Yj_ (fun _ _ _ h => h) (Or.inl ⟨by rfl, Ybc_⟩) Ya_ ?_
    refine pure_ (i := 7) (N := some 23) #[true, true, true, true, true, true, true, true, true, false, false] rfl rfl Yj_ (fun _ _ _ h => h) (Or.inl ⟨by rfl, Ybc_⟩) Ya_ ?_
    exact norm_ Ybj_ (hCont (w98.heap.size, w100.heap.size, A9, c10, A14, c15, Pw100, gb31) _ ⟨HB, HO11, HO16, BK76, BK78, BK99, GEgb31, NBgb2_gb31, NBgb4_gb31, ⟨by have := HSw75.out; have := HSw77.out; have := HSw79.out; have := HSw80.out; have := HSw98.out; have := HSw100.out; have := HSw105.out; have := HSw106.out; omega⟩⟩)
  clear HB BK76 BK78
  rintro ⟨lo1_w81, hi1_w81, A9, c10, A14, c15, PJ1_w81, gb31⟩ w81 ⟨HB, HO11, HO16, BK76, BK78, BJ8_w81, GEgb31, NBgb2_gb31, NBgb4_gb31, HSw81⟩
  have hHeld : (fun w' => w'.cell? ⟨gb2, 0, none⟩ = some (.slice A0_0 l0_0.length c0_0) ∧ w'.cell? ⟨gb2, 1, none⟩ = some (.int .i64 a0_1) ∧ w'.cell? ⟨gb2, 2, none⟩ = some (.slice A0_2 l0_2.length c0_2) ∧ w'.cell? ⟨gb4, 0, none⟩ = some (.int .i64 a1_0) ∧ w'.cell? ⟨gb4, 1, none⟩ = some (.int .i64 a1_1) ∧ w'.cell? ⟨gb4, 2, none⟩ = some (.int .i64 a1_2)) w81 := ⟨(blk_cell BK76.out 0).trans rfl, (blk_cell BK76.out 1).trans rfl, (blk_cell BK76.out 2).trans rfl, (blk_cell BK78.out 0).trans rfl, (blk_cell BK78.out 1).trans rfl, (blk_cell BK78.out 2).trans rfl⟩
  refine norm_ (a' := ?_) ?_ ?_
  rotate_left
  ·simp only [D7, Act.put, List.setIfInBounds_toArray, List.set_cons_zero, List.set_cons_succ]
   rfl
  refine one_ (i := 9) (N := none) #[true, true, true, true, true, true, true, true, true, true, false] rfl rfl Yj_ (by decide) (fun K hK => ?_)
  have hs0_ : w81.cell? ⟨gb31, 0, none⟩ = some (.int .i64 0) := (blk_cell BJ8_w81.out 0).trans rfl
  have hfs0_ := blk_frozen BJ8_w81.out 0
  have hs1_ : w81.cell? ⟨gb31, 1, none⟩ = some (.int .i64 0) := (blk_cell BJ8_w81.out 1).trans rfl
  have hfs1_ := blk_frozen BJ8_w81.out 1
  have hs2_ : w81.cell? ⟨gb31, 2, none⟩ = some (.int .i64 0) := (blk_cell BJ8_w81.out 2).trans rfl
  have hfs2_ := blk_frozen BJ8_w81.out 2
  refine Go.Proofs.YtnggfglmjdiaaaaOwn.En (w1 := (((w81.setCell ⟨gb31, 0, none⟩ (.int .i64 r24)).setCell ⟨gb31, 1, none⟩ (.int .i64 r25)).setCell ⟨gb31, 2, none⟩ (.int .i64 r26))) (by rfl) rfl ?_ ?_
  ·first | (go_simp; done) | (go_simp; rfl)
  intro w107 hw
  have hO_ : Go.Proofs.YtnggfglmjdiaaaaOwn.Only w81 w107 gb31 := Yee_
  have hbx_ : w107.heap[gb31]? = some (.cells #[.int .i64 r24, .int .i64 r25, .int .i64 r26] 43 (0, 0)) := (by rw [hw]; refine blk_put (cs := #[.int .i64 r24, .int .i64 r25, .int .i64 0]) ?_ 2 _ rfl; refine blk_put (cs := #[.int .i64 r24, .int .i64 0, .int .i64 0]) ?_ 1 _ rfl; refine blk_put (cs := #[.int .i64 0, .int .i64 0, .int .i64 0]) ?_ 0 _ rfl; exact BJ8_w81.out)
  (try clear hs0_ hfs0_ hs1_ hfs1_ hs2_ hfs2_)
  clear hw
  have m_ := Aside0.mk (Go.Proofs.YtnggfglmjdiaaaaOwn.onlyS HO11.out BJ8_w81.out (by decide) hO_)
  clear HO11
  have HO11 := m_
  clear m_
  have m_ := Aside0.mk (Go.Proofs.YtnggfglmjdiaaaaOwn.onlyS HO16.out BJ8_w81.out (by decide) hO_)
  clear HO16
  have HO16 := m_
  clear m_
  have m_ := Aside0.mk ((hO_.others _ NBgb2_gb31.out).trans BK76.out)
  clear BK76
  have BK76 := m_
  clear m_
  have m_ := Aside0.mk ((hO_.others _ NBgb4_gb31.out).trans BK78.out)
  clear BK78
  have BK78 := m_
  clear m_
  have m_ := Aside0.mk (hO_.below HB.out GEgb31.out)
  clear HB
  have HB := m_
  clear m_
  have HSw107 := Aside0.mk (Nat.le_of_eq hO_.size.symm : w81.heap.size ≤ w107.heap.size)
  clear BJ8_w81
  have BK108 := Aside0.mk hbx_
  clear hbx_ hO_
  refine hK.out _ _ ⟨(blk_cell BK76.out 0).trans rfl, (blk_cell BK76.out 1).trans rfl, (blk_cell BK76.out 2).trans rfl, (blk_cell BK78.out 0).trans rfl, (blk_cell BK78.out 1).trans rfl, (blk_cell BK78.out 2).trans rfl⟩ (fun hHeld => ?_)
  clear hK K
  refine pure_ (i := 10) (N := some 7) #[true, true, true, true, true, true, true, true, true, true, true] rfl rfl Yj_ (fun _ _ _ h => h) (Or.inl ⟨by rfl, Ybc_⟩) Ya_ ?_
  refine done_ Yj_ ?_
  have hzgb2_0 : w107.cell? ⟨gb2, 0, none⟩ = some (.slice A0_0 l0_0.length c0_0) := (blk_cell BK76.out 0).trans rfl
  have hzgb2_1 : w107.cell? ⟨gb2, 1, none⟩ = some (.int .i64 a0_1) := (blk_cell BK76.out 1).trans rfl
  have hzgb2_2 : w107.cell? ⟨gb2, 2, none⟩ = some (.slice A0_2 l0_2.length c0_2) := (blk_cell BK76.out 2).trans rfl
  have hzgb4_0 : w107.cell? ⟨gb4, 0, none⟩ = some (.int .i64 a1_0) := (blk_cell BK78.out 0).trans rfl
  have hzgb4_1 : w107.cell? ⟨gb4, 1, none⟩ = some (.int .i64 a1_1) := (blk_cell BK78.out 1).trans rfl
  have hzgb4_2 : w107.cell? ⟨gb4, 2, none⟩ = some (.int .i64 a1_2) := (blk_cell BK78.out 2).trans rfl
  have hzgb31_0 : w107.cell? ⟨gb31, 0, none⟩ = some (.int .i64 r24) := (blk_cell BK108.out 0).trans rfl
  have hzgb31_1 : w107.cell? ⟨gb31, 1, none⟩ = some (.int .i64 r25) := (blk_cell BK108.out 1).trans rfl
  have hzgb31_2 : w107.cell? ⟨gb31, 2, none⟩ = some (.int .i64 r26) := (blk_cell BK108.out 2).trans rfl
  go_upto_region 7 with (first | ((with_reducible refine gate_callee (f := 12) rfl ?_); (try (refine gate_guard (by rfl) ?_; dsimp only)); refine goesL_ (some 25) rfl rfl Try.func12 Yj_ rfl #[.agg #[.slice A0_0 l0_0.length c0_0, .int .i64 a0_1, .slice A0_2 l0_2.length c0_2]] rfl Yf_ ?_; (with_reducible refine (Bq.calls2 k _ _ l0_0 a0_1 _ _ l0_2 r32 r36 r37 w107 (Kd.C_below HR0_0.out Yb_) HC0_0.out (Kd.C_below HR0_2.out Yb_) HC0_2.out A42.out).mono ?_); rintro e w109 ⟨Pw109, v112, v113, rfl, ho110, ho111, hb⟩; (try clear hzgb2_0 hzgb2_1 hzgb2_2); (try clear hzgb4_0 hzgb4_1 hzgb4_2); (try clear hzgb31_0 hzgb31_1 hzgb31_2); refine ⟨_, rfl, ?_⟩; have m_ := Aside0.mk (Kd.Ad HO11.out hb); clear HO11; have HO11 := m_; clear m_; have m_ := Aside0.mk (Kd.Ad HO16.out hb); clear HO16; have HO16 := m_; clear m_; have m_ := Aside0.mk (blk_below BK76.out hb); clear BK76; have BK76 := m_; clear m_; have m_ := Aside0.mk (blk_below BK78.out hb); clear BK78; have BK78 := m_; clear m_; have m_ := Aside0.mk (blk_below BK108.out hb); clear BK108; have BK108 := m_; clear m_; have HSw109 := Aside0.mk (show w107.heap.size ≤ w109.heap.size from hb.size); have m_ := (show Kd.S (Kd.slice 3 (Kd.int .i64)) 73 w109 w.heap.size (fun k_ => (w107.heap.size ≤ k_ ∧ k_ < w109.heap.size) ∧ Pw109 k_) v112 r32 from Kd.S_mono (Kd.S_lower (Kd.Ea ho110) (below_size Yb_)) (fun k_ hk_ => ⟨⟨hk_.2.1, hk_.2.2.1⟩, hk_.1⟩)); obtain ⟨A33, c34, e_⟩ := Kd.S_slice m_; subst e_; have HO35 := Aside0.mk m_; clear m_ ho110; have m_ := (show Kd.S (Kd.slice 3 (Kd.int .i64)) 73 w109 w.heap.size (fun k_ => (w107.heap.size ≤ k_ ∧ k_ < w109.heap.size) ∧ ¬ Pw109 k_) v113 r37 from Kd.S_mono (Kd.S_lower (Kd.Ea ho111) (below_size Yb_)) (fun k_ hk_ => ⟨⟨hk_.2.1, hk_.2.2.1⟩, hk_.1⟩)); obtain ⟨A38, c39, e_⟩ := Kd.S_slice m_; subst e_; have HO40 := Aside0.mk m_; clear m_ ho111; have m_ := Aside0.mk (below_step HB.out hb); clear HB; have HB := m_; clear m_; clear hb; have hzgb2_0 : w109.cell? ⟨gb2, 0, none⟩ = some (.slice A0_0 l0_0.length c0_0) := (blk_cell BK76.out 0).trans rfl; have hzgb2_1 : w109.cell? ⟨gb2, 1, none⟩ = some (.int .i64 a0_1) := (blk_cell BK76.out 1).trans rfl; have hzgb2_2 : w109.cell? ⟨gb2, 2, none⟩ = some (.slice A0_2 l0_2.length c0_2) := (blk_cell BK76.out 2).trans rfl; have hzgb4_0 : w109.cell? ⟨gb4, 0, none⟩ = some (.int .i64 a1_0) := (blk_cell BK78.out 0).trans rfl; have hzgb4_1 : w109.cell? ⟨gb4, 1, none⟩ = some (.int .i64 a1_1) := (blk_cell BK78.out 1).trans rfl; have hzgb4_2 : w109.cell? ⟨gb4, 2, none⟩ = some (.int .i64 a1_2) := (blk_cell BK78.out 2).trans rfl; have hzgb31_0 : w109.cell? ⟨gb31, 0, none⟩ = some (.int .i64 r24) := (blk_cell BK108.out 0).trans rfl; have hzgb31_1 : w109.cell? ⟨gb31, 1, none⟩ = some (.int .i64 r25) := (blk_cell BK108.out 1).trans rfl; have hzgb31_2 : w109.cell? ⟨gb31, 2, none⟩ = some (.int .i64 r26) := (blk_cell BK108.out 2).trans rfl) | ((with_reducible refine gate_dst (N := 8) rfl ?_); refine box_event ?hg (N := 8) ?hd (cs := #[.slice none 0 0, .int .i64 0, .slice none 0 0]) (t := 34) ?hr ?_; (case hd => rfl); (case hg => rfl); (case hr => first | (go_simp; done) | (go_simp; rfl)); intro gb44 hg w114 hbox hb; (try clear hzgb2_0 hzgb2_1 hzgb2_2); (try clear hzgb4_0 hzgb4_1 hzgb4_2); (try clear hzgb31_0 hzgb31_1 hzgb31_2); (try clear hzgb44_0 hzgb44_1 hzgb44_2); have NBgb2_gb44 := Aside0.mk (show gb2 ≠ gb44 by rw [hg]; exact Nat.ne_of_lt (blk_lt BK76.out)); have NBgb4_gb44 := Aside0.mk (show gb4 ≠ gb44 by rw [hg]; exact Nat.ne_of_lt (blk_lt BK78.out)); have NBgb31_gb44 := Aside0.mk (show gb31 ≠ gb44 by rw [hg]; exact Nat.ne_of_lt (blk_lt BK108.out)); have GEgb44 := Aside0.mk (show w.heap.size ≤ gb44 by rw [hg]; exact below_size Yb_); have BK115 := Aside0.mk hbox; have m_ := Aside0.mk (Kd.Ad HO11.out hb); clear HO11; have HO11 := m_; clear m_; have m_ := Aside0.mk (Kd.Ad HO16.out hb); clear HO16; have HO16 := m_; clear m_; have m_ := Aside0.mk (Kd.Ad HO35.out hb); clear HO35; have HO35 := m_; clear m_; have m_ := Aside0.mk (Kd.Ad HO40.out hb); clear HO40; have HO40 := m_; clear m_; have m_ := Aside0.mk (blk_below BK76.out hb); clear BK76; have BK76 := m_; clear m_; have m_ := Aside0.mk (blk_below BK78.out hb); clear BK78; have BK78 := m_; clear m_; have m_ := Aside0.mk (blk_below BK108.out hb); clear BK108; have BK108 := m_; clear m_; have HSw114 := Aside0.mk (show w109.heap.size ≤ w114.heap.size from hb.size); have m_ := Aside0.mk (below_step HB.out hb); clear HB; have HB := m_; clear m_; clear hb hbox hg; have hzgb2_0 : w114.cell? ⟨gb2, 0, none⟩ = some (.slice A0_0 l0_0.length c0_0) := (blk_cell BK76.out 0).trans rfl; have hzgb2_1 : w114.cell? ⟨gb2, 1, none⟩ = some (.int .i64 a0_1) := (blk_cell BK76.out 1).trans rfl; have hzgb2_2 : w114.cell? ⟨gb2, 2, none⟩ = some (.slice A0_2 l0_2.length c0_2) := (blk_cell BK76.out 2).trans rfl; have hzgb4_0 : w114.cell? ⟨gb4, 0, none⟩ = some (.int .i64 a1_0) := (blk_cell BK78.out 0).trans rfl; have hzgb4_1 : w114.cell? ⟨gb4, 1, none⟩ = some (.int .i64 a1_1) := (blk_cell BK78.out 1).trans rfl; have hzgb4_2 : w114.cell? ⟨gb4, 2, none⟩ = some (.int .i64 a1_2) := (blk_cell BK78.out 2).trans rfl; have hzgb31_0 : w114.cell? ⟨gb31, 0, none⟩ = some (.int .i64 r24) := (blk_cell BK108.out 0).trans rfl; have hzgb31_1 : w114.cell? ⟨gb31, 1, none⟩ = some (.int .i64 r25) := (blk_cell BK108.out 1).trans rfl; have hzgb31_2 : w114.cell? ⟨gb31, 2, none⟩ = some (.int .i64 r26) := (blk_cell BK108.out 2).trans rfl; have hzgb44_0 : w114.cell? ⟨gb44, 0, none⟩ = some (.slice none 0 0) := (blk_cell BK115.out 0).trans rfl; have hzgb44_1 : w114.cell? ⟨gb44, 1, none⟩ = some (.int .i64 0) := (blk_cell BK115.out 1).trans rfl; have hzgb44_2 : w114.cell? ⟨gb44, 2, none⟩ = some (.slice none 0 0) := (blk_cell BK115.out 2).trans rfl) | ((with_reducible refine gate_store (t := 34) (p := 8) rfl ?_); have hs0_ : w114.cell? ⟨gb44, 0, none⟩ = some (.slice none 0 0) := (blk_cell BK115.out 0).trans rfl; have hfs0_ := blk_frozen BK115.out 0; have hs1_ : w114.cell? ⟨gb44, 1, none⟩ = some (.int .i64 0) := (blk_cell BK115.out 1).trans rfl; have hfs1_ := blk_frozen BK115.out 1; have hs2_ : w114.cell? ⟨gb44, 2, none⟩ = some (.slice none 0 0) := (blk_cell BK115.out 2).trans rfl; have hfs2_ := blk_frozen BK115.out 2; refine Fa (t := 34) (p := 8) (v := ?vo_w116) (w1 := (((w114.setCell ⟨gb44, 0, none⟩ (.slice A33 r32.length c34)).setCell ⟨gb44, 1, none⟩ (.int .i64 r36)).setCell ⟨gb44, 2, none⟩ (.slice A38 r37.length c39))) ?hg ?ho ?hn ?hr ?_; (case ho => rfl); (case hg => rfl); (case hn => rfl); (case hr => first | (go_simp; done) | (go_simp; rfl)); intro w116 hw; (try clear hzgb2_0 hzgb2_1 hzgb2_2); (try clear hzgb4_0 hzgb4_1 hzgb4_2); (try clear hzgb31_0 hzgb31_1 hzgb31_2); (try clear hzgb44_0 hzgb44_1 hzgb44_2); have hO_ : Go.Proofs.YtnggfglmjdiaaaaOwn.Only w114 w116 gb44 := Yee_; have hbx_ : w116.heap[gb44]? = some (.cells #[.slice A33 r32.length c34, .int .i64 r36, .slice A38 r37.length c39] 34 (0, 0)) := (by rw [hw]; refine blk_put (cs := #[.slice A33 r32.length c34, .int .i64 r36, .slice none 0 0]) ?_ 2 _ rfl; refine blk_put (cs := #[.slice A33 r32.length c34, .int .i64 0, .slice none 0 0]) ?_ 1 _ rfl; refine blk_put (cs := #[.slice none 0 0, .int .i64 0, .slice none 0 0]) ?_ 0 _ rfl; exact BK115.out); (try clear hs0_ hfs0_ hs1_ hfs1_ hs2_ hfs2_); clear hw; have m_ := Aside0.mk (Go.Proofs.YtnggfglmjdiaaaaOwn.onlyS HO11.out BK115.out (by decide) hO_); clear HO11; have HO11 := m_; clear m_; have m_ := Aside0.mk (Go.Proofs.YtnggfglmjdiaaaaOwn.onlyS HO16.out BK115.out (by decide) hO_); clear HO16; have HO16 := m_; clear m_; have m_ := Aside0.mk (Go.Proofs.YtnggfglmjdiaaaaOwn.onlyS HO35.out BK115.out (by decide) hO_); clear HO35; have HO35 := m_; clear m_; have m_ := Aside0.mk (Go.Proofs.YtnggfglmjdiaaaaOwn.onlyS HO40.out BK115.out (by decide) hO_); clear HO40; have HO40 := m_; clear m_; have m_ := Aside0.mk ((hO_.others _ NBgb2_gb44.out).trans BK76.out); clear BK76; have BK76 := m_; clear m_; have m_ := Aside0.mk ((hO_.others _ NBgb4_gb44.out).trans BK78.out); clear BK78; have BK78 := m_; clear m_; have m_ := Aside0.mk ((hO_.others _ NBgb31_gb44.out).trans BK108.out); clear BK108; have BK108 := m_; clear m_; have m_ := Aside0.mk (hO_.below HB.out GEgb44.out); clear HB; have HB := m_; clear m_; have HSw116 := Aside0.mk (Nat.le_of_eq hO_.size.symm : w114.heap.size ≤ w116.heap.size); clear BK115; have BK117 := Aside0.mk hbx_; clear hbx_ hO_; have hzgb2_0 : w116.cell? ⟨gb2, 0, none⟩ = some (.slice A0_0 l0_0.length c0_0) := (blk_cell BK76.out 0).trans rfl; have hzgb2_1 : w116.cell? ⟨gb2, 1, none⟩ = some (.int .i64 a0_1) := (blk_cell BK76.out 1).trans rfl; have hzgb2_2 : w116.cell? ⟨gb2, 2, none⟩ = some (.slice A0_2 l0_2.length c0_2) := (blk_cell BK76.out 2).trans rfl; have hzgb4_0 : w116.cell? ⟨gb4, 0, none⟩ = some (.int .i64 a1_0) := (blk_cell BK78.out 0).trans rfl; have hzgb4_1 : w116.cell? ⟨gb4, 1, none⟩ = some (.int .i64 a1_1) := (blk_cell BK78.out 1).trans rfl; have hzgb4_2 : w116.cell? ⟨gb4, 2, none⟩ = some (.int .i64 a1_2) := (blk_cell BK78.out 2).trans rfl; have hzgb31_0 : w116.cell? ⟨gb31, 0, none⟩ = some (.int .i64 r24) := (blk_cell BK108.out 0).trans rfl; have hzgb31_1 : w116.cell? ⟨gb31, 1, none⟩ = some (.int .i64 r25) := (blk_cell BK108.out 1).trans rfl; have hzgb31_2 : w116.cell? ⟨gb31, 2, none⟩ = some (.int .i64 r26) := (blk_cell BK108.out 2).trans rfl; have hzgb44_0 : w116.cell? ⟨gb44, 0, none⟩ = some (.slice A33 r32.length c34) := (blk_cell BK117.out 0).trans rfl; have hzgb44_1 : w116.cell? ⟨gb44, 1, none⟩ = some (.int .i64 r36) := (blk_cell BK117.out 1).trans rfl; have hzgb44_2 : w116.cell? ⟨gb44, 2, none⟩ = some (.slice A38 r37.length c39) := (blk_cell BK117.out 2).trans rfl))
  (try clear hzgb2_0 hzgb2_1 hzgb2_2 hzgb31_0 hzgb31_1 hzgb31_2 hzgb44_0 hzgb44_1 hzgb44_2 hzgb4_0 hzgb4_1 hzgb4_2)
  have m_ := Aside0.mk (Kd.S_drew HO11.out)
  clear HO11
  have HO11 := m_
  clear m_
  have m_ := Aside0.mk (Kd.S_drew HO16.out)
  clear HO16
  have HO16 := m_
  clear m_
  have m_ := Aside0.mk (Kd.S_drew HO35.out)
  clear HO35
  have HO35 := m_
  clear m_
  have m_ := Aside0.mk (Kd.S_drew HO40.out)
  clear HO40
  have HO40 := m_
  clear m_
  have m_ := Aside0.mk (blk_drew BK76.out)
  clear BK76
  have BK76 := m_
  clear m_
  have m_ := Aside0.mk (blk_drew BK78.out)
  clear BK78
  have BK78 := m_
  clear m_
  have m_ := Aside0.mk (blk_drew BK108.out)
  clear BK108
  have BK108 := m_
  clear m_
  have m_ := Aside0.mk (blk_drew BK117.out)
  clear BK117
  have BK117 := m_
  clear m_
  have m_ := Aside0.mk (below_drew1 HB.out)
  clear HB
  have HB := m_
  clear m_
  have HSw118 := Aside0.mk (show w116.heap.size ≤ w116.drew.heap.size from Nat.le_refl _)
  refine start_ (n := 10) (S := fun w' => w'.cell? ⟨gb44, 0, none⟩ = some (.slice A33 r32.length c34) ∧ w'.cell? ⟨gb44, 1, none⟩ = some (.int .i64 r36) ∧ w'.cell? ⟨gb44, 2, none⟩ = some (.slice A38 r37.length c39) ∧ w'.cell? ⟨gb4, 0, none⟩ = some (.int .i64 a1_0) ∧ w'.cell? ⟨gb4, 1, none⟩ = some (.int .i64 a1_1) ∧ w'.cell? ⟨gb4, 2, none⟩ = some (.int .i64 a1_2)) (ds := []) #[false, false, false, false, false, false, false, false, false, false] Yj_ rfl rfl ⟨(blk_cell BK117.out 0).trans rfl, (blk_cell BK117.out 1).trans rfl, (blk_cell BK117.out 2).trans rfl, (blk_cell BK78.out 0).trans rfl, (blk_cell BK78.out 1).trans rfl, (blk_cell BK78.out 2).trans rfl⟩ (fun hHeld => ?_)
  generalize w116.drew = w118 at HO11 HO16 HO35 HO40 BK76 BK78 BK108 BK117 HB HSw118 hHeld ⊢
  refine take_ (i := 0) (N := some 27) #[true, false, false, false, false, false, false, false, false, false] rfl rfl Yj_ (fun _ _ _ h => h) (Or.inl ⟨by rfl, Ydd_⟩) hHeld Ya_ ?_
  refine take_ (i := 1) (N := some 28) #[true, true, false, false, false, false, false, false, false, false] rfl rfl Yj_ (fun _ _ _ h => h) (Or.inl ⟨by rfl, Ydd_⟩) hHeld Ya_ ?_
  refine join_ (σ := (Nat)) 2 #[true, true, true, true, true, true, true, true, false, false] (fun s => match s with | gb57 => [(29, .agg #[.int .i64 r45, .int .i64 r46, .int .i64 r47]), (30, .tuple #[.agg #[.int .i64 r50, .int .i64 r51, .int .i64 r52], .bool r53]), (26, .tuple #[.agg #[.int .i64 r50, .int .i64 r51, .int .i64 r52], .bool r53]), (31, .agg #[.int .i64 r50, .int .i64 r51, .int .i64 r52]), (32, .bool r53), (9, .pointer (some ⟨gb57, 0, none⟩))]) (fun s w' => match s with | gb57 => Aside0 (Below w.heap.size w w') ∧ Aside0 (Kd.S (Kd.slice 3 (Kd.int .i64)) 73 w' w.heap.size (fun k_ => (lo1_w81 ≤ k_ ∧ k_ < hi1_w81) ∧ PJ1_w81 k_) (.slice A9 r8.length c10) r8) ∧ Aside0 (Kd.S (Kd.slice 3 (Kd.int .i64)) 73 w' w.heap.size (fun k_ => (lo1_w81 ≤ k_ ∧ k_ < hi1_w81) ∧ ¬ PJ1_w81 k_) (.slice A14 r13.length c15) r13) ∧ Aside0 (Kd.S (Kd.slice 3 (Kd.int .i64)) 73 w' w.heap.size (fun k_ => (w107.heap.size ≤ k_ ∧ k_ < w109.heap.size) ∧ Pw109 k_) (.slice A33 r32.length c34) r32) ∧ Aside0 (Kd.S (Kd.slice 3 (Kd.int .i64)) 73 w' w.heap.size (fun k_ => (w107.heap.size ≤ k_ ∧ k_ < w109.heap.size) ∧ ¬ Pw109 k_) (.slice A38 r37.length c39) r37) ∧ Aside0 (w'.heap[gb2]? = some (.cells #[.slice A0_0 l0_0.length c0_0, .int .i64 a0_1, .slice A0_2 l0_2.length c0_2] 28 (0, 0))) ∧ Aside0 (w'.heap[gb4]? = some (.cells #[.int .i64 a1_0, .int .i64 a1_1, .int .i64 a1_2] 42 (0, 0))) ∧ Aside0 (w'.heap[gb31]? = some (.cells #[.int .i64 r24, .int .i64 r25, .int .i64 r26] 43 (0, 0))) ∧ Aside0 (w'.heap[gb44]? = some (.cells #[.slice A33 r32.length c34, .int .i64 r36, .slice A38 r37.length c39] 34 (0, 0))) ∧ Aside0 (w'.heap[gb57]? = some (.cells #[.int .i64 0, .int .i64 0, .int .i64 0] 43 (0, 0))) ∧ Aside0 (w.heap.size ≤ gb57) ∧ Aside0 (gb2 ≠ gb57) ∧ Aside0 (gb4 ≠ gb57) ∧ Aside0 (gb31 ≠ gb57) ∧ Aside0 (gb44 ≠ gb57) ∧ Aside0 (w118.heap.size ≤ w'.heap.size ∧ w118.heap.size ≤ w'.heap.size)) ?_ ?_
  rotate_left
  ·intro hCont
   refine two_ (i := 2) (j := 7) (Ni := some 29) (Nj := some 9) #[true, true, true, false, false, false, false, false, false, false] #[true, true, false, false, false, false, false, true, false, false] rfl rfl rfl rfl Yj_ (by decide) (by decide) (fun K hK => ?_) (fun K hK => ?_)
   ·skip
    refine goes_ Try.func18 Yj_ rfl #[.agg #[.int .i64 a1_0, .int .i64 a1_1, .int .i64 a1_2]] (by rfl) rfl rfl Yf_ ?_
    (with_reducible refine (laws_toOrder.calls a1_0 a1_1 a1_2 r45 r46 r47 w118  A49.out).mono ?_)
    rintro e w120 ⟨rfl, hb⟩
    refine ⟨_, rfl, ?_⟩
    have m_ := Aside0.mk (Kd.Ad HO11.out hb)
    clear HO11
    have HO11 := m_
    clear m_
    have m_ := Aside0.mk (Kd.Ad HO16.out hb)
    clear HO16
    have HO16 := m_
    clear m_
    have m_ := Aside0.mk (Kd.Ad HO35.out hb)
    clear HO35
    have HO35 := m_
    clear m_
    have m_ := Aside0.mk (Kd.Ad HO40.out hb)
    clear HO40
    have HO40 := m_
    clear m_
    have m_ := Aside0.mk (blk_below BK76.out hb)
    clear BK76
    have BK76 := m_
    clear m_
    have m_ := Aside0.mk (blk_below BK78.out hb)
    clear BK78
    have BK78 := m_
    clear m_
    have m_ := Aside0.mk (blk_below BK108.out hb)
    clear BK108
    have BK108 := m_
    clear m_
    have m_ := Aside0.mk (blk_below BK117.out hb)
    clear BK117
    have BK117 := m_
    clear m_
    have HSw120 := Aside0.mk (show w118.heap.size ≤ w120.heap.size from hb.size)
    have m_ := Aside0.mk (below_step HB.out hb)
    clear HB
    have HB := m_
    clear m_
    clear hb
    refine hK.out _ _ ⟨(blk_cell BK117.out 0).trans rfl, (blk_cell BK117.out 1).trans rfl, (blk_cell BK117.out 2).trans rfl, (blk_cell BK78.out 0).trans rfl, (blk_cell BK78.out 1).trans rfl, (blk_cell BK78.out 2).trans rfl⟩ (fun hHeld => ?_)
    clear hK K
    refine norm_ (show Act.put _ (some 29) _ = _ from Ya_) ?_
    refine two_ (i := 3) (j := 7) (Ni := some 30) (Nj := some 9) #[true, true, true, true, false, false, false, false, false, false] #[true, true, true, false, false, false, false, true, false, false] rfl rfl rfl rfl Yj_ (by decide) (by decide) (fun K hK => ?_) (fun K hK => ?_)
    ·skip
     refine goes_ Try.func19 Yj_ rfl #[.agg #[.slice A33 r32.length c34, .int .i64 r36, .slice A38 r37.length c39], .agg #[.int .i64 r45, .int .i64 r46, .int .i64 r47]] (by rfl) rfl rfl Yf_ ?_
     (with_reducible refine (Bg.calls k _ _ r32 r36 _ _ r37 r45 r46 r47 r50 r51 r52 r53 w120 (Kd.Az HO35.out).2.2 (Nat.le_trans (Nat.le_of_eq (Kd.Az HO35.out).1.symm) (Kd.Az HO35.out).2.1) (Kd.Az HO40.out).2.2 (Nat.le_trans (Nat.le_of_eq (Kd.Az HO40.out).1.symm) (Kd.Az HO40.out).2.1) A55.out).mono ?_)
     rintro e w121 ⟨rfl, hb⟩
     refine ⟨_, rfl, ?_⟩
     have m_ := Aside0.mk (Kd.Ad HO11.out hb)
     clear HO11
     have HO11 := m_
     clear m_
     have m_ := Aside0.mk (Kd.Ad HO16.out hb)
     clear HO16
     have HO16 := m_
     clear m_
     have m_ := Aside0.mk (Kd.Ad HO35.out hb)
     clear HO35
     have HO35 := m_
     clear m_
     have m_ := Aside0.mk (Kd.Ad HO40.out hb)
     clear HO40
     have HO40 := m_
     clear m_
     have m_ := Aside0.mk (blk_below BK76.out hb)
     clear BK76
     have BK76 := m_
     clear m_
     have m_ := Aside0.mk (blk_below BK78.out hb)
     clear BK78
     have BK78 := m_
     clear m_
     have m_ := Aside0.mk (blk_below BK108.out hb)
     clear BK108
     have BK108 := m_
     clear m_
     have m_ := Aside0.mk (blk_below BK117.out hb)
     clear BK117
     have BK117 := m_
     clear m_
     have HSw121 := Aside0.mk (show w120.heap.size ≤ w121.heap.size from hb.size)
     have m_ := Aside0.mk (below_step HB.out hb)
     clear HB
     have HB := m_
     clear m_
     clear hb
     refine hK.out _ _ ⟨(blk_cell BK117.out 0).trans rfl, (blk_cell BK117.out 1).trans rfl, (blk_cell BK117.out 2).trans rfl, (blk_cell BK78.out 0).trans rfl, (blk_cell BK78.out 1).trans rfl, (blk_cell BK78.out 2).trans rfl⟩ (fun hHeld => ?_)
     clear hK K
     refine norm_ (show Act.put _ (some 30) _ = _ from Ya_) ?_
     refine pure_ (i := 4) (N := some 26) #[true, true, true, true, true, false, false, false, false, false] rfl rfl Yj_ (fun _ _ _ h => h) (Or.inl ⟨by rfl, Ybc_⟩) Ya_ ?_
     refine pure_ (i := 5) (N := some 31) #[true, true, true, true, true, true, false, false, false, false] rfl rfl Yj_ (fun _ _ _ h => h) (Or.inl ⟨by rfl, Ybc_⟩) Ya_ ?_
     refine pure_ (i := 6) (N := some 32) #[true, true, true, true, true, true, true, false, false, false] rfl rfl Yj_ (fun _ _ _ h => h) (Or.inl ⟨by rfl, Ybc_⟩) Ya_ ?_
     refine one_ (i := 7) (N := some 9) #[true, true, true, true, true, true, true, true, false, false] rfl rfl Yj_ (by decide) (fun K hK => ?_)
     refine box_step (N := 9) (by rfl) rfl (cs := #[.int .i64 0, .int .i64 0, .int .i64 0]) (t := 43) ?_ ?_
     ·first | (go_simp; done) | (go_simp; rfl)
     intro gb57 hg w122 hbox hb
     have NBgb2_gb57 := Aside0.mk (show gb2 ≠ gb57 by rw [hg]; exact Nat.ne_of_lt (blk_lt BK76.out))
     have NBgb4_gb57 := Aside0.mk (show gb4 ≠ gb57 by rw [hg]; exact Nat.ne_of_lt (blk_lt BK78.out))
     have NBgb31_gb57 := Aside0.mk (show gb31 ≠ gb57 by rw [hg]; exact Nat.ne_of_lt (blk_lt BK108.out))
     have NBgb44_gb57 := Aside0.mk (show gb44 ≠ gb57 by rw [hg]; exact Nat.ne_of_lt (blk_lt BK117.out))
     have GEgb57 := Aside0.mk (show w.heap.size ≤ gb57 by rw [hg]; exact below_size Yb_)
     have BK123 := Aside0.mk hbox
     have m_ := Aside0.mk (Kd.Ad HO11.out hb)
     clear HO11
     have HO11 := m_
     clear m_
     have m_ := Aside0.mk (Kd.Ad HO16.out hb)
     clear HO16
     have HO16 := m_
     clear m_
     have m_ := Aside0.mk (Kd.Ad HO35.out hb)
     clear HO35
     have HO35 := m_
     clear m_
     have m_ := Aside0.mk (Kd.Ad HO40.out hb)
     clear HO40
     have HO40 := m_
     clear m_
     have m_ := Aside0.mk (blk_below BK76.out hb)
     clear BK76
     have BK76 := m_
     clear m_
     have m_ := Aside0.mk (blk_below BK78.out hb)
     clear BK78
     have BK78 := m_
     clear m_
     have m_ := Aside0.mk (blk_below BK108.out hb)
     clear BK108
     have BK108 := m_
     clear m_
     have m_ := Aside0.mk (blk_below BK117.out hb)
     clear BK117
     have BK117 := m_
     clear m_
     have HSw122 := Aside0.mk (show w121.heap.size ≤ w122.heap.size from hb.size)
     have m_ := Aside0.mk (below_step HB.out hb)
     clear HB
     have HB := m_
     clear m_
     clear hb hbox hg
     refine hK.out _ _ ⟨(blk_cell BK117.out 0).trans rfl, (blk_cell BK117.out 1).trans rfl, (blk_cell BK117.out 2).trans rfl, (blk_cell BK78.out 0).trans rfl, (blk_cell BK78.out 1).trans rfl, (blk_cell BK78.out 2).trans rfl⟩ (fun hHeld => ?_)
     clear hK K
     refine norm_ (show Act.put _ (some 9) _ = _ from Ya_) ?_
     exact norm_ Ybj_ (hCont gb57 _ ⟨HB, HO11, HO16, HO35, HO40, BK76, BK78, BK108, BK117, BK123, GEgb57, NBgb2_gb57, NBgb4_gb57, NBgb31_gb57, NBgb44_gb57, ⟨by have := HSw75.out; have := HSw77.out; have := HSw79.out; have := HSw80.out; have := HSw81.out; have := HSw107.out; have := HSw109.out; have := HSw114.out; have := HSw116.out; have := HSw118.out; have := HSw120.out; have := HSw121.out; have := HSw122.out; omega⟩⟩)
    ·skip
     refine box_step (N := 9) (by rfl) rfl (cs := #[.int .i64 0, .int .i64 0, .int .i64 0]) (t := 43) ?_ ?_
     ·first | (go_simp; done) | (go_simp; rfl)
     intro gb57 hg w124 hbox hb
     have NBgb2_gb57 := Aside0.mk (show gb2 ≠ gb57 by rw [hg]; exact Nat.ne_of_lt (blk_lt BK76.out))
     have NBgb4_gb57 := Aside0.mk (show gb4 ≠ gb57 by rw [hg]; exact Nat.ne_of_lt (blk_lt BK78.out))
     have NBgb31_gb57 := Aside0.mk (show gb31 ≠ gb57 by rw [hg]; exact Nat.ne_of_lt (blk_lt BK108.out))
     have NBgb44_gb57 := Aside0.mk (show gb44 ≠ gb57 by rw [hg]; exact Nat.ne_of_lt (blk_lt BK117.out))
     have GEgb57 := Aside0.mk (show w.heap.size ≤ gb57 by rw [hg]; exact below_size Yb_)
     have BK125 := Aside0.mk hbox
     have m_ := Aside0.mk (Kd.Ad HO11.out hb)
     clear HO11
     have HO11 := m_
     clear m_
     have m_ := Aside0.mk (Kd.Ad HO16.out hb)
     clear HO16
     have HO16 := m_
     clear m_
     have m_ := Aside0.mk (Kd.Ad HO35.out hb)
     clear HO35
     have HO35 := m_
     clear m_
     have m_ := Aside0.mk (Kd.Ad HO40.out hb)
     clear HO40
     have HO40 := m_
     clear m_
     have m_ := Aside0.mk (blk_below BK76.out hb)
     clear BK76
     have BK76 := m_
     clear m_
     have m_ := Aside0.mk (blk_below BK78.out hb)
     clear BK78
     have BK78 := m_
     clear m_
     have m_ := Aside0.mk (blk_below BK108.out hb)
     clear BK108
     have BK108 := m_
     clear m_
     have m_ := Aside0.mk (blk_below BK117.out hb)
     clear BK117
     have BK117 := m_
     clear m_
     have HSw124 := Aside0.mk (show w120.heap.size ≤ w124.heap.size from hb.size)
     have m_ := Aside0.mk (below_step HB.out hb)
     clear HB
     have HB := m_
     clear m_
     clear hb hbox hg
     refine hK.out _ _ ⟨(blk_cell BK117.out 0).trans rfl, (blk_cell BK117.out 1).trans rfl, (blk_cell BK117.out 2).trans rfl, (blk_cell BK78.out 0).trans rfl, (blk_cell BK78.out 1).trans rfl, (blk_cell BK78.out 2).trans rfl⟩ (fun hHeld => ?_)
     clear hK K
     refine norm_ (show Act.put _ (some 9) _ = _ from Ya_) ?_
     refine one_ (i := 3) (N := some 30) #[true, true, true, true, false, false, false, true, false, false] rfl rfl Yj_ (by decide) (fun K hK => ?_)
     refine goes_ Try.func19 Yj_ rfl #[.agg #[.slice A33 r32.length c34, .int .i64 r36, .slice A38 r37.length c39], .agg #[.int .i64 r45, .int .i64 r46, .int .i64 r47]] (by rfl) rfl rfl Yf_ ?_
     (with_reducible refine (Bg.calls k _ _ r32 r36 _ _ r37 r45 r46 r47 r50 r51 r52 r53 w124 (Kd.Az HO35.out).2.2 (Nat.le_trans (Nat.le_of_eq (Kd.Az HO35.out).1.symm) (Kd.Az HO35.out).2.1) (Kd.Az HO40.out).2.2 (Nat.le_trans (Nat.le_of_eq (Kd.Az HO40.out).1.symm) (Kd.Az HO40.out).2.1) A55.out).mono ?_)
     rintro e w126 ⟨rfl, hb⟩
     refine ⟨_, rfl, ?_⟩
     have m_ := Aside0.mk (Kd.Ad HO11.out hb)
     clear HO11
     have HO11 := m_
     clear m_
     have m_ := Aside0.mk (Kd.Ad HO16.out hb)
     clear HO16
     have HO16 := m_
     clear m_
     have m_ := Aside0.mk (Kd.Ad HO35.out hb)
     clear HO35
     have HO35 := m_
     clear m_
     have m_ := Aside0.mk (Kd.Ad HO40.out hb)
     clear HO40
     have HO40 := m_
     clear m_
     have m_ := Aside0.mk (blk_below BK76.out hb)
     clear BK76
     have BK76 := m_
     clear m_
     have m_ := Aside0.mk (blk_below BK78.out hb)
     clear BK78
     have BK78 := m_
     clear m_
     have m_ := Aside0.mk (blk_below BK108.out hb)
     clear BK108
     have BK108 := m_
     clear m_
     have m_ := Aside0.mk (blk_below BK117.out hb)
     clear BK117
     have BK117 := m_
     clear m_
     have m_ := Aside0.mk (blk_below BK125.out hb)
     clear BK125
     have BK125 := m_
     clear m_
     have HSw126 := Aside0.mk (show w124.heap.size ≤ w126.heap.size from hb.size)
     have m_ := Aside0.mk (below_step HB.out hb)
     clear HB
     have HB := m_
     clear m_
     clear hb
     refine hK.out _ _ ⟨(blk_cell BK117.out 0).trans rfl, (blk_cell BK117.out 1).trans rfl, (blk_cell BK117.out 2).trans rfl, (blk_cell BK78.out 0).trans rfl, (blk_cell BK78.out 1).trans rfl, (blk_cell BK78.out 2).trans rfl⟩ (fun hHeld => ?_)
     clear hK K
     refine norm_ (show Act.put _ (some 30) _ = _ from Ya_) ?_
     refine pure_ (i := 4) (N := some 26) #[true, true, true, true, true, false, false, true, false, false] rfl rfl Yj_ (fun _ _ _ h => h) (Or.inl ⟨by rfl, Ybc_⟩) Ya_ ?_
     refine pure_ (i := 5) (N := some 31) #[true, true, true, true, true, true, false, true, false, false] rfl rfl Yj_ (fun _ _ _ h => h) (Or.inl ⟨by rfl, Ybc_⟩) Ya_ ?_
     refine pure_ (i := 6) (N := some 32) #[true, true, true, true, true, true, true, true, false, false] rfl rfl Yj_ (fun _ _ _ h => h) (Or.inl ⟨by rfl, Ybc_⟩) Ya_ ?_
     exact norm_ Ybj_ (hCont gb57 _ ⟨HB, HO11, HO16, HO35, HO40, BK76, BK78, BK108, BK117, BK125, GEgb57, NBgb2_gb57, NBgb4_gb57, NBgb31_gb57, NBgb44_gb57, ⟨by have := HSw75.out; have := HSw77.out; have := HSw79.out; have := HSw80.out; have := HSw81.out; have := HSw107.out; have := HSw109.out; have := HSw114.out; have := HSw116.out; have := HSw118.out; have := HSw120.out; have := HSw124.out; have := HSw126.out; omega⟩⟩)
   ·skip
    refine box_step (N := 9) (by rfl) rfl (cs := #[.int .i64 0, .int .i64 0, .int .i64 0]) (t := 43) ?_ ?_
    ·first | (go_simp; done) | (go_simp; rfl)
    intro gb57 hg w127 hbox hb
    have NBgb2_gb57 := Aside0.mk (show gb2 ≠ gb57 by rw [hg]; exact Nat.ne_of_lt (blk_lt BK76.out))
    have NBgb4_gb57 := Aside0.mk (show gb4 ≠ gb57 by rw [hg]; exact Nat.ne_of_lt (blk_lt BK78.out))
    have NBgb31_gb57 := Aside0.mk (show gb31 ≠ gb57 by rw [hg]; exact Nat.ne_of_lt (blk_lt BK108.out))
    have NBgb44_gb57 := Aside0.mk (show gb44 ≠ gb57 by rw [hg]; exact Nat.ne_of_lt (blk_lt BK117.out))
    have GEgb57 := Aside0.mk (show w.heap.size ≤ gb57 by rw [hg]; exact below_size Yb_)
    have BK128 := Aside0.mk hbox
    have m_ := Aside0.mk (Kd.Ad HO11.out hb)
    clear HO11
    have HO11 := m_
    clear m_
    have m_ := Aside0.mk (Kd.Ad HO16.out hb)
    clear HO16
    have HO16 := m_
    clear m_
    have m_ := Aside0.mk (Kd.Ad HO35.out hb)
    clear HO35
    have HO35 := m_
    clear m_
    have m_ := Aside0.mk (Kd.Ad HO40.out hb)
    clear HO40
    have HO40 := m_
    clear m_
    have m_ := Aside0.mk (blk_below BK76.out hb)
    clear BK76
    have BK76 := m_
    clear m_
    have m_ := Aside0.mk (blk_below BK78.out hb)
    clear BK78
    have BK78 := m_
    clear m_
    have m_ := Aside0.mk (blk_below BK108.out hb)
    clear BK108
    have BK108 := m_
    clear m_
    have m_ := Aside0.mk (blk_below BK117.out hb)
    clear BK117
    have BK117 := m_
    clear m_
    have HSw127 := Aside0.mk (show w118.heap.size ≤ w127.heap.size from hb.size)
    have m_ := Aside0.mk (below_step HB.out hb)
    clear HB
    have HB := m_
    clear m_
    clear hb hbox hg
    refine hK.out _ _ ⟨(blk_cell BK117.out 0).trans rfl, (blk_cell BK117.out 1).trans rfl, (blk_cell BK117.out 2).trans rfl, (blk_cell BK78.out 0).trans rfl, (blk_cell BK78.out 1).trans rfl, (blk_cell BK78.out 2).trans rfl⟩ (fun hHeld => ?_)
    clear hK K
    refine norm_ (show Act.put _ (some 9) _ = _ from Ya_) ?_
    refine one_ (i := 2) (N := some 29) #[true, true, true, false, false, false, false, true, false, false] rfl rfl Yj_ (by decide) (fun K hK => ?_)
    refine goes_ Try.func18 Yj_ rfl #[.agg #[.int .i64 a1_0, .int .i64 a1_1, .int .i64 a1_2]] (by rfl) rfl rfl Yf_ ?_
    (with_reducible refine (laws_toOrder.calls a1_0 a1_1 a1_2 r45 r46 r47 w127  A49.out).mono ?_)
    rintro e w129 ⟨rfl, hb⟩
    refine ⟨_, rfl, ?_⟩
    have m_ := Aside0.mk (Kd.Ad HO11.out hb)
    clear HO11
    have HO11 := m_
    clear m_
    have m_ := Aside0.mk (Kd.Ad HO16.out hb)
    clear HO16
    have HO16 := m_
    clear m_
    have m_ := Aside0.mk (Kd.Ad HO35.out hb)
    clear HO35
    have HO35 := m_
    clear m_
    have m_ := Aside0.mk (Kd.Ad HO40.out hb)
    clear HO40
    have HO40 := m_
    clear m_
    have m_ := Aside0.mk (blk_below BK76.out hb)
    clear BK76
    have BK76 := m_
    clear m_
    have m_ := Aside0.mk (blk_below BK78.out hb)
    clear BK78
    have BK78 := m_
    clear m_
    have m_ := Aside0.mk (blk_below BK108.out hb)
    clear BK108
    have BK108 := m_
    clear m_
    have m_ := Aside0.mk (blk_below BK117.out hb)
    clear BK117
    have BK117 := m_
    clear m_
    have m_ := Aside0.mk (blk_below BK128.out hb)
    clear BK128
    have BK128 := m_
    clear m_
    have HSw129 := Aside0.mk (show w127.heap.size ≤ w129.heap.size from hb.size)
    have m_ := Aside0.mk (below_step HB.out hb)
    clear HB
    have HB := m_
    clear m_
    clear hb
    refine hK.out _ _ ⟨(blk_cell BK117.out 0).trans rfl, (blk_cell BK117.out 1).trans rfl, (blk_cell BK117.out 2).trans rfl, (blk_cell BK78.out 0).trans rfl, (blk_cell BK78.out 1).trans rfl, (blk_cell BK78.out 2).trans rfl⟩ (fun hHeld => ?_)
    clear hK K
    refine norm_ (show Act.put _ (some 29) _ = _ from Ya_) ?_
    refine one_ (i := 3) (N := some 30) #[true, true, true, true, false, false, false, true, false, false] rfl rfl Yj_ (by decide) (fun K hK => ?_)
    refine goes_ Try.func19 Yj_ rfl #[.agg #[.slice A33 r32.length c34, .int .i64 r36, .slice A38 r37.length c39], .agg #[.int .i64 r45, .int .i64 r46, .int .i64 r47]] (by rfl) rfl rfl Yf_ ?_
    (with_reducible refine (Bg.calls k _ _ r32 r36 _ _ r37 r45 r46 r47 r50 r51 r52 r53 w129 (Kd.Az HO35.out).2.2 (Nat.le_trans (Nat.le_of_eq (Kd.Az HO35.out).1.symm) (Kd.Az HO35.out).2.1) (Kd.Az HO40.out).2.2 (Nat.le_trans (Nat.le_of_eq (Kd.Az HO40.out).1.symm) (Kd.Az HO40.out).2.1) A55.out).mono ?_)
    rintro e w130 ⟨rfl, hb⟩
    refine ⟨_, rfl, ?_⟩
    have m_ := Aside0.mk (Kd.Ad HO11.out hb)
    clear HO11
    have HO11 := m_
    clear m_
    have m_ := Aside0.mk (Kd.Ad HO16.out hb)
    clear HO16
    have HO16 := m_
    clear m_
    have m_ := Aside0.mk (Kd.Ad HO35.out hb)
    clear HO35
    have HO35 := m_
    clear m_
    have m_ := Aside0.mk (Kd.Ad HO40.out hb)
    clear HO40
    have HO40 := m_
    clear m_
    have m_ := Aside0.mk (blk_below BK76.out hb)
    clear BK76
    have BK76 := m_
    clear m_
    have m_ := Aside0.mk (blk_below BK78.out hb)
    clear BK78
    have BK78 := m_
    clear m_
    have m_ := Aside0.mk (blk_below BK108.out hb)
    clear BK108
    have BK108 := m_
    clear m_
    have m_ := Aside0.mk (blk_below BK117.out hb)
    clear BK117
    have BK117 := m_
    clear m_
    have m_ := Aside0.mk (blk_below BK128.out hb)
    clear BK128
    have BK128 := m_
    clear m_
    have HSw130 := Aside0.mk (show w129.heap.size ≤ w130.heap.size from hb.size)
    have m_ := Aside0.mk (below_step HB.out hb)
    clear HB
    have HB := m_
    clear m_
    clear hb
    refine hK.out _ _ ⟨(blk_cell BK117.out 0).trans rfl, (blk_cell BK117.out 1).trans rfl, (blk_cell BK117.out 2).trans rfl, (blk_cell BK78.out 0).trans rfl, (blk_cell BK78.out 1).trans rfl, (blk_cell BK78.out 2).trans rfl⟩ (fun hHeld => ?_)
    clear hK K
    refine norm_ (show Act.put _ (some 30) _ = _ from Ya_) ?_
    refine pure_ (i := 4) (N := some 26) #[true, true, true, true, true, false, false, true, false, false] rfl rfl Yj_ (fun _ _ _ h => h) (Or.inl ⟨by rfl, Ybc_⟩) Ya_ ?_
    refine pure_ (i := 5) (N := some 31) #[true, true, true, true, true, true, false, true, false, false] rfl rfl Yj_ (fun _ _ _ h => h) (Or.inl ⟨by rfl, Ybc_⟩) Ya_ ?_
    refine pure_ (i := 6) (N := some 32) #[true, true, true, true, true, true, true, true, false, false] rfl rfl Yj_ (fun _ _ _ h => h) (Or.inl ⟨by rfl, Ybc_⟩) Ya_ ?_
    exact norm_ Ybj_ (hCont gb57 _ ⟨HB, HO11, HO16, HO35, HO40, BK76, BK78, BK108, BK117, BK128, GEgb57, NBgb2_gb57, NBgb4_gb57, NBgb31_gb57, NBgb44_gb57, ⟨by have := HSw75.out; have := HSw77.out; have := HSw79.out; have := HSw80.out; have := HSw81.out; have := HSw107.out; have := HSw109.out; have := HSw114.out; have := HSw116.out; have := HSw118.out; have := HSw127.out; have := HSw129.out; have := HSw130.out; omega⟩⟩)
  clear HB HO11 HO16 HO35 HO40 BK76 BK78 BK108 BK117
  rintro gb57 w119 ⟨HB, HO11, HO16, HO35, HO40, BK76, BK78, BK108, BK117, BJ7_w119, GEgb57, NBgb2_gb57, NBgb4_gb57, NBgb31_gb57, NBgb44_gb57, HSw119⟩
  have hHeld : (fun w' => w'.cell? ⟨gb44, 0, none⟩ = some (.slice A33 r32.length c34) ∧ w'.cell? ⟨gb44, 1, none⟩ = some (.int .i64 r36) ∧ w'.cell? ⟨gb44, 2, none⟩ = some (.slice A38 r37.length c39) ∧ w'.cell? ⟨gb4, 0, none⟩ = some (.int .i64 a1_0) ∧ w'.cell? ⟨gb4, 1, none⟩ = some (.int .i64 a1_1) ∧ w'.cell? ⟨gb4, 2, none⟩ = some (.int .i64 a1_2)) w119 := ⟨(blk_cell BK117.out 0).trans rfl, (blk_cell BK117.out 1).trans rfl, (blk_cell BK117.out 2).trans rfl, (blk_cell BK78.out 0).trans rfl, (blk_cell BK78.out 1).trans rfl, (blk_cell BK78.out 2).trans rfl⟩
  refine norm_ (a' := ?_) ?_ ?_
  rotate_left
  ·simp only [D7, Act.put, List.setIfInBounds_toArray, List.set_cons_zero, List.set_cons_succ]
   rfl
  refine one_ (i := 8) (N := none) #[true, true, true, true, true, true, true, true, true, false] rfl rfl Yj_ (by decide) (fun K hK => ?_)
  have hs0_ : w119.cell? ⟨gb57, 0, none⟩ = some (.int .i64 0) := (blk_cell BJ7_w119.out 0).trans rfl
  have hfs0_ := blk_frozen BJ7_w119.out 0
  have hs1_ : w119.cell? ⟨gb57, 1, none⟩ = some (.int .i64 0) := (blk_cell BJ7_w119.out 1).trans rfl
  have hfs1_ := blk_frozen BJ7_w119.out 1
  have hs2_ : w119.cell? ⟨gb57, 2, none⟩ = some (.int .i64 0) := (blk_cell BJ7_w119.out 2).trans rfl
  have hfs2_ := blk_frozen BJ7_w119.out 2
  refine Go.Proofs.YtnggfglmjdiaaaaOwn.En (w1 := (((w119.setCell ⟨gb57, 0, none⟩ (.int .i64 r50)).setCell ⟨gb57, 1, none⟩ (.int .i64 r51)).setCell ⟨gb57, 2, none⟩ (.int .i64 r52))) (by rfl) rfl ?_ ?_
  ·first | (go_simp; done) | (go_simp; rfl)
  intro w131 hw
  have hO_ : Go.Proofs.YtnggfglmjdiaaaaOwn.Only w119 w131 gb57 := Yee_
  have hbx_ : w131.heap[gb57]? = some (.cells #[.int .i64 r50, .int .i64 r51, .int .i64 r52] 43 (0, 0)) := (by rw [hw]; refine blk_put (cs := #[.int .i64 r50, .int .i64 r51, .int .i64 0]) ?_ 2 _ rfl; refine blk_put (cs := #[.int .i64 r50, .int .i64 0, .int .i64 0]) ?_ 1 _ rfl; refine blk_put (cs := #[.int .i64 0, .int .i64 0, .int .i64 0]) ?_ 0 _ rfl; exact BJ7_w119.out)
  (try clear hs0_ hfs0_ hs1_ hfs1_ hs2_ hfs2_)
  clear hw
  have m_ := Aside0.mk (Go.Proofs.YtnggfglmjdiaaaaOwn.onlyS HO11.out BJ7_w119.out (by decide) hO_)
  clear HO11
  have HO11 := m_
  clear m_
  have m_ := Aside0.mk (Go.Proofs.YtnggfglmjdiaaaaOwn.onlyS HO16.out BJ7_w119.out (by decide) hO_)
  clear HO16
  have HO16 := m_
  clear m_
  have m_ := Aside0.mk (Go.Proofs.YtnggfglmjdiaaaaOwn.onlyS HO35.out BJ7_w119.out (by decide) hO_)
  clear HO35
  have HO35 := m_
  clear m_
  have m_ := Aside0.mk (Go.Proofs.YtnggfglmjdiaaaaOwn.onlyS HO40.out BJ7_w119.out (by decide) hO_)
  clear HO40
  have HO40 := m_
  clear m_
  have m_ := Aside0.mk ((hO_.others _ NBgb2_gb57.out).trans BK76.out)
  clear BK76
  have BK76 := m_
  clear m_
  have m_ := Aside0.mk ((hO_.others _ NBgb4_gb57.out).trans BK78.out)
  clear BK78
  have BK78 := m_
  clear m_
  have m_ := Aside0.mk ((hO_.others _ NBgb31_gb57.out).trans BK108.out)
  clear BK108
  have BK108 := m_
  clear m_
  have m_ := Aside0.mk ((hO_.others _ NBgb44_gb57.out).trans BK117.out)
  clear BK117
  have BK117 := m_
  clear m_
  have m_ := Aside0.mk (hO_.below HB.out GEgb57.out)
  clear HB
  have HB := m_
  clear m_
  have HSw131 := Aside0.mk (Nat.le_of_eq hO_.size.symm : w119.heap.size ≤ w131.heap.size)
  clear BJ7_w119
  have BK132 := Aside0.mk hbx_
  clear hbx_ hO_
  refine hK.out _ _ ⟨(blk_cell BK117.out 0).trans rfl, (blk_cell BK117.out 1).trans rfl, (blk_cell BK117.out 2).trans rfl, (blk_cell BK78.out 0).trans rfl, (blk_cell BK78.out 1).trans rfl, (blk_cell BK78.out 2).trans rfl⟩ (fun hHeld => ?_)
  clear hK K
  refine pure_ (i := 9) (N := some 10) #[true, true, true, true, true, true, true, true, true, true] rfl rfl Yj_ (fun _ _ _ h => h) (Or.inl ⟨by rfl, Ybc_⟩) Ya_ ?_
  refine done_ Yj_ ?_
  have hzgb2_0 : w131.cell? ⟨gb2, 0, none⟩ = some (.slice A0_0 l0_0.length c0_0) := (blk_cell BK76.out 0).trans rfl
  have hzgb2_1 : w131.cell? ⟨gb2, 1, none⟩ = some (.int .i64 a0_1) := (blk_cell BK76.out 1).trans rfl
  have hzgb2_2 : w131.cell? ⟨gb2, 2, none⟩ = some (.slice A0_2 l0_2.length c0_2) := (blk_cell BK76.out 2).trans rfl
  have hzgb4_0 : w131.cell? ⟨gb4, 0, none⟩ = some (.int .i64 a1_0) := (blk_cell BK78.out 0).trans rfl
  have hzgb4_1 : w131.cell? ⟨gb4, 1, none⟩ = some (.int .i64 a1_1) := (blk_cell BK78.out 1).trans rfl
  have hzgb4_2 : w131.cell? ⟨gb4, 2, none⟩ = some (.int .i64 a1_2) := (blk_cell BK78.out 2).trans rfl
  have hzgb31_0 : w131.cell? ⟨gb31, 0, none⟩ = some (.int .i64 r24) := (blk_cell BK108.out 0).trans rfl
  have hzgb31_1 : w131.cell? ⟨gb31, 1, none⟩ = some (.int .i64 r25) := (blk_cell BK108.out 1).trans rfl
  have hzgb31_2 : w131.cell? ⟨gb31, 2, none⟩ = some (.int .i64 r26) := (blk_cell BK108.out 2).trans rfl
  have hzgb44_0 : w131.cell? ⟨gb44, 0, none⟩ = some (.slice A33 r32.length c34) := (blk_cell BK117.out 0).trans rfl
  have hzgb44_1 : w131.cell? ⟨gb44, 1, none⟩ = some (.int .i64 r36) := (blk_cell BK117.out 1).trans rfl
  have hzgb44_2 : w131.cell? ⟨gb44, 2, none⟩ = some (.slice A38 r37.length c39) := (blk_cell BK117.out 2).trans rfl
  have hzgb57_0 : w131.cell? ⟨gb57, 0, none⟩ = some (.int .i64 r50) := (blk_cell BK132.out 0).trans rfl
  have hzgb57_1 : w131.cell? ⟨gb57, 1, none⟩ = some (.int .i64 r51) := (blk_cell BK132.out 1).trans rfl
  have hzgb57_2 : w131.cell? ⟨gb57, 2, none⟩ = some (.int .i64 r52) := (blk_cell BK132.out 2).trans rfl
  go_upto_region 10 with (first | ((with_reducible refine gate_callee (f := 20) rfl ?_); (try (refine gate_guard (by rfl) ?_; dsimp only)); refine goesL_ (some 35) rfl rfl Try.func20 Yj_ rfl #[.agg #[.int .i64 r50, .int .i64 r51, .int .i64 r52], .agg #[.int .i64 r24, .int .i64 r25, .int .i64 r26]] rfl Yf_ ?_; (with_reducible refine (laws_eqOrder.calls r50 r51 r52 r24 r25 r26 true w131  A60.out).mono ?_); rintro e w133 ⟨rfl, hb⟩; (try clear hzgb2_0 hzgb2_1 hzgb2_2); (try clear hzgb4_0 hzgb4_1 hzgb4_2); (try clear hzgb31_0 hzgb31_1 hzgb31_2); (try clear hzgb44_0 hzgb44_1 hzgb44_2); (try clear hzgb57_0 hzgb57_1 hzgb57_2); refine ⟨_, rfl, ?_⟩; have m_ := Aside0.mk (Kd.Ad HO11.out hb); clear HO11; have HO11 := m_; clear m_; have m_ := Aside0.mk (Kd.Ad HO16.out hb); clear HO16; have HO16 := m_; clear m_; have m_ := Aside0.mk (Kd.Ad HO35.out hb); clear HO35; have HO35 := m_; clear m_; have m_ := Aside0.mk (Kd.Ad HO40.out hb); clear HO40; have HO40 := m_; clear m_; have m_ := Aside0.mk (blk_below BK76.out hb); clear BK76; have BK76 := m_; clear m_; have m_ := Aside0.mk (blk_below BK78.out hb); clear BK78; have BK78 := m_; clear m_; have m_ := Aside0.mk (blk_below BK108.out hb); clear BK108; have BK108 := m_; clear m_; have m_ := Aside0.mk (blk_below BK117.out hb); clear BK117; have BK117 := m_; clear m_; have m_ := Aside0.mk (blk_below BK132.out hb); clear BK132; have BK132 := m_; clear m_; have HSw133 := Aside0.mk (show w131.heap.size ≤ w133.heap.size from hb.size); have m_ := Aside0.mk (below_step HB.out hb); clear HB; have HB := m_; clear m_; clear hb; have hzgb2_0 : w133.cell? ⟨gb2, 0, none⟩ = some (.slice A0_0 l0_0.length c0_0) := (blk_cell BK76.out 0).trans rfl; have hzgb2_1 : w133.cell? ⟨gb2, 1, none⟩ = some (.int .i64 a0_1) := (blk_cell BK76.out 1).trans rfl; have hzgb2_2 : w133.cell? ⟨gb2, 2, none⟩ = some (.slice A0_2 l0_2.length c0_2) := (blk_cell BK76.out 2).trans rfl; have hzgb4_0 : w133.cell? ⟨gb4, 0, none⟩ = some (.int .i64 a1_0) := (blk_cell BK78.out 0).trans rfl; have hzgb4_1 : w133.cell? ⟨gb4, 1, none⟩ = some (.int .i64 a1_1) := (blk_cell BK78.out 1).trans rfl; have hzgb4_2 : w133.cell? ⟨gb4, 2, none⟩ = some (.int .i64 a1_2) := (blk_cell BK78.out 2).trans rfl; have hzgb31_0 : w133.cell? ⟨gb31, 0, none⟩ = some (.int .i64 r24) := (blk_cell BK108.out 0).trans rfl; have hzgb31_1 : w133.cell? ⟨gb31, 1, none⟩ = some (.int .i64 r25) := (blk_cell BK108.out 1).trans rfl; have hzgb31_2 : w133.cell? ⟨gb31, 2, none⟩ = some (.int .i64 r26) := (blk_cell BK108.out 2).trans rfl; have hzgb44_0 : w133.cell? ⟨gb44, 0, none⟩ = some (.slice A33 r32.length c34) := (blk_cell BK117.out 0).trans rfl; have hzgb44_1 : w133.cell? ⟨gb44, 1, none⟩ = some (.int .i64 r36) := (blk_cell BK117.out 1).trans rfl; have hzgb44_2 : w133.cell? ⟨gb44, 2, none⟩ = some (.slice A38 r37.length c39) := (blk_cell BK117.out 2).trans rfl; have hzgb57_0 : w133.cell? ⟨gb57, 0, none⟩ = some (.int .i64 r50) := (blk_cell BK132.out 0).trans rfl; have hzgb57_1 : w133.cell? ⟨gb57, 1, none⟩ = some (.int .i64 r51) := (blk_cell BK132.out 1).trans rfl; have hzgb57_2 : w133.cell? ⟨gb57, 2, none⟩ = some (.int .i64 r52) := (blk_cell BK132.out 2).trans rfl))
  (try clear hzgb2_0 hzgb2_1 hzgb2_2 hzgb31_0 hzgb31_1 hzgb31_2 hzgb44_0 hzgb44_1 hzgb44_2 hzgb4_0 hzgb4_1 hzgb4_2 hzgb57_0 hzgb57_1 hzgb57_2)
  have m_ := Aside0.mk (Kd.S_drew HO11.out)
  clear HO11
  have HO11 := m_
  clear m_
  have m_ := Aside0.mk (Kd.S_drew HO16.out)
  clear HO16
  have HO16 := m_
  clear m_
  have m_ := Aside0.mk (Kd.S_drew HO35.out)
  clear HO35
  have HO35 := m_
  clear m_
  have m_ := Aside0.mk (Kd.S_drew HO40.out)
  clear HO40
  have HO40 := m_
  clear m_
  have m_ := Aside0.mk (blk_drew BK76.out)
  clear BK76
  have BK76 := m_
  clear m_
  have m_ := Aside0.mk (blk_drew BK78.out)
  clear BK78
  have BK78 := m_
  clear m_
  have m_ := Aside0.mk (blk_drew BK108.out)
  clear BK108
  have BK108 := m_
  clear m_
  have m_ := Aside0.mk (blk_drew BK117.out)
  clear BK117
  have BK117 := m_
  clear m_
  have m_ := Aside0.mk (blk_drew BK132.out)
  clear BK132
  have BK132 := m_
  clear m_
  have m_ := Aside0.mk (below_drew1 HB.out)
  clear HB
  have HB := m_
  clear m_
  have HSw134 := Aside0.mk (show w133.heap.size ≤ w133.drew.heap.size from Nat.le_refl _)
  refine start_ (n := 5) (S := fun w' => w'.cell? ⟨gb44, 0, none⟩ = some (.slice A33 r32.length c34) ∧ w'.cell? ⟨gb44, 1, none⟩ = some (.int .i64 r36) ∧ w'.cell? ⟨gb44, 2, none⟩ = some (.slice A38 r37.length c39) ∧ w'.cell? ⟨gb2, 0, none⟩ = some (.slice A0_0 l0_0.length c0_0) ∧ w'.cell? ⟨gb2, 1, none⟩ = some (.int .i64 a0_1) ∧ w'.cell? ⟨gb2, 2, none⟩ = some (.slice A0_2 l0_2.length c0_2)) (ds := []) #[false, false, false, false, false] Yj_ rfl rfl ⟨(blk_cell BK117.out 0).trans rfl, (blk_cell BK117.out 1).trans rfl, (blk_cell BK117.out 2).trans rfl, (blk_cell BK76.out 0).trans rfl, (blk_cell BK76.out 1).trans rfl, (blk_cell BK76.out 2).trans rfl⟩ (fun hHeld => ?_)
  generalize w133.drew = w134 at HO11 HO16 HO35 HO40 BK76 BK78 BK108 BK117 BK132 HB HSw134 hHeld ⊢
  refine take_ (i := 0) (N := some 42) #[true, false, false, false, false] rfl rfl Yj_ (fun _ _ _ h => h) (Or.inl ⟨by rfl, Ydd_⟩) hHeld Ya_ ?_
  refine take_ (i := 1) (N := some 43) #[true, true, false, false, false] rfl rfl Yj_ (fun _ _ _ h => h) (Or.inl ⟨by rfl, Ydd_⟩) hHeld Ya_ ?_
  refine one_ (i := 2) (N := some 44) #[true, true, true, false, false] rfl rfl Yj_ (by decide) (fun K hK => ?_)
  refine goes_ Try.func12 Yj_ rfl #[.agg #[.slice A0_0 l0_0.length c0_0, .int .i64 a0_1, .slice A0_2 l0_2.length c0_2]] (by rfl) rfl rfl Yf_ ?_
  (with_reducible refine (Bq.calls2 k _ _ l0_0 a0_1 _ _ l0_2 r61 r65 r66 w134 (Kd.C_below HR0_0.out Yb_) HC0_0.out (Kd.C_below HR0_2.out Yb_) HC0_2.out A71.out).mono ?_)
  rintro e w135 ⟨Pw135, v138, v139, rfl, ho136, ho137, hb⟩
  refine ⟨_, rfl, ?_⟩
  have m_ := Aside0.mk (Kd.Ad HO11.out hb)
  clear HO11
  have HO11 := m_
  clear m_
  have m_ := Aside0.mk (Kd.Ad HO16.out hb)
  clear HO16
  have HO16 := m_
  clear m_
  have m_ := Aside0.mk (Kd.Ad HO35.out hb)
  clear HO35
  have HO35 := m_
  clear m_
  have m_ := Aside0.mk (Kd.Ad HO40.out hb)
  clear HO40
  have HO40 := m_
  clear m_
  have m_ := Aside0.mk (blk_below BK76.out hb)
  clear BK76
  have BK76 := m_
  clear m_
  have m_ := Aside0.mk (blk_below BK78.out hb)
  clear BK78
  have BK78 := m_
  clear m_
  have m_ := Aside0.mk (blk_below BK108.out hb)
  clear BK108
  have BK108 := m_
  clear m_
  have m_ := Aside0.mk (blk_below BK117.out hb)
  clear BK117
  have BK117 := m_
  clear m_
  have m_ := Aside0.mk (blk_below BK132.out hb)
  clear BK132
  have BK132 := m_
  clear m_
  have HSw135 := Aside0.mk (show w134.heap.size ≤ w135.heap.size from hb.size)
  have m_ := (show Kd.S (Kd.slice 3 (Kd.int .i64)) 73 w135 w.heap.size (fun k_ => (w134.heap.size ≤ k_ ∧ k_ < w135.heap.size) ∧ Pw135 k_) v138 r61 from Kd.S_mono (Kd.S_lower (Kd.Ea ho136) (below_size Yb_)) (fun k_ hk_ => ⟨⟨hk_.2.1, hk_.2.2.1⟩, hk_.1⟩))
  obtain ⟨A62, c63, e_⟩ := Kd.S_slice m_
  subst e_
  have HO64 := Aside0.mk m_
  clear m_ ho136
  have m_ := (show Kd.S (Kd.slice 3 (Kd.int .i64)) 73 w135 w.heap.size (fun k_ => (w134.heap.size ≤ k_ ∧ k_ < w135.heap.size) ∧ ¬ Pw135 k_) v139 r66 from Kd.S_mono (Kd.S_lower (Kd.Ea ho137) (below_size Yb_)) (fun k_ hk_ => ⟨⟨hk_.2.1, hk_.2.2.1⟩, hk_.1⟩))
  obtain ⟨A67, c68, e_⟩ := Kd.S_slice m_
  subst e_
  have HO69 := Aside0.mk m_
  clear m_ ho137
  have m_ := Aside0.mk (below_step HB.out hb)
  clear HB
  have HB := m_
  clear m_
  clear hb
  refine hK.out _ _ ⟨(blk_cell BK117.out 0).trans rfl, (blk_cell BK117.out 1).trans rfl, (blk_cell BK117.out 2).trans rfl, (blk_cell BK76.out 0).trans rfl, (blk_cell BK76.out 1).trans rfl, (blk_cell BK76.out 2).trans rfl⟩ (fun hHeld => ?_)
  clear hK K
  refine norm_ (show Act.put _ (some 44) _ = _ from Ya_) ?_
  refine one_ (i := 3) (N := some 45) #[true, true, true, true, false] rfl rfl Yj_ (by decide) (fun K hK => ?_)
  refine goes_ Try.func14 Yj_ rfl #[.agg #[.slice A33 r32.length c34, .int .i64 r36, .slice A38 r37.length c39], .agg #[.slice A62 r61.length c63, .int .i64 r65, .slice A67 r66.length c68]] (by rfl) rfl rfl Yf_ ?_
  (with_reducible refine (Dp.calls k _ _ r32 r36 _ _ r37 _ _ r61 r65 _ _ r66 true w135 (Kd.Az HO35.out).2.2 (Nat.le_trans (Nat.le_of_eq (Kd.Az HO35.out).1.symm) (Kd.Az HO35.out).2.1) (Kd.Az HO40.out).2.2 (Nat.le_trans (Nat.le_of_eq (Kd.Az HO40.out).1.symm) (Kd.Az HO40.out).2.1) (Kd.Az HO64.out).2.2 (Nat.le_trans (Nat.le_of_eq (Kd.Az HO64.out).1.symm) (Kd.Az HO64.out).2.1) (Kd.Az HO69.out).2.2 (Nat.le_trans (Nat.le_of_eq (Kd.Az HO69.out).1.symm) (Kd.Az HO69.out).2.1) A74.out).mono ?_)
  rintro e w140 ⟨rfl, hb⟩
  refine ⟨_, rfl, ?_⟩
  have m_ := Aside0.mk (Kd.Ad HO11.out hb)
  clear HO11
  have HO11 := m_
  clear m_
  have m_ := Aside0.mk (Kd.Ad HO16.out hb)
  clear HO16
  have HO16 := m_
  clear m_
  have m_ := Aside0.mk (Kd.Ad HO35.out hb)
  clear HO35
  have HO35 := m_
  clear m_
  have m_ := Aside0.mk (Kd.Ad HO40.out hb)
  clear HO40
  have HO40 := m_
  clear m_
  have m_ := Aside0.mk (Kd.Ad HO64.out hb)
  clear HO64
  have HO64 := m_
  clear m_
  have m_ := Aside0.mk (Kd.Ad HO69.out hb)
  clear HO69
  have HO69 := m_
  clear m_
  have m_ := Aside0.mk (blk_below BK76.out hb)
  clear BK76
  have BK76 := m_
  clear m_
  have m_ := Aside0.mk (blk_below BK78.out hb)
  clear BK78
  have BK78 := m_
  clear m_
  have m_ := Aside0.mk (blk_below BK108.out hb)
  clear BK108
  have BK108 := m_
  clear m_
  have m_ := Aside0.mk (blk_below BK117.out hb)
  clear BK117
  have BK117 := m_
  clear m_
  have m_ := Aside0.mk (blk_below BK132.out hb)
  clear BK132
  have BK132 := m_
  clear m_
  have HSw140 := Aside0.mk (show w135.heap.size ≤ w140.heap.size from hb.size)
  have m_ := Aside0.mk (below_step HB.out hb)
  clear HB
  have HB := m_
  clear m_
  clear hb
  refine hK.out _ _ ⟨(blk_cell BK117.out 0).trans rfl, (blk_cell BK117.out 1).trans rfl, (blk_cell BK117.out 2).trans rfl, (blk_cell BK76.out 0).trans rfl, (blk_cell BK76.out 1).trans rfl, (blk_cell BK76.out 2).trans rfl⟩ (fun hHeld => ?_)
  clear hK K
  refine norm_ (show Act.put _ (some 45) _ = _ from Ya_) ?_
  refine pure_ (i := 4) (N := some 46) #[true, true, true, true, true] rfl rfl Yj_ (fun _ _ _ h => h) (Or.inl ⟨by rfl, Ybc_⟩) Ya_ ?_
  refine done_ Yj_ ?_
  have hzgb2_0 : w140.cell? ⟨gb2, 0, none⟩ = some (.slice A0_0 l0_0.length c0_0) := (blk_cell BK76.out 0).trans rfl
  have hzgb2_1 : w140.cell? ⟨gb2, 1, none⟩ = some (.int .i64 a0_1) := (blk_cell BK76.out 1).trans rfl
  have hzgb2_2 : w140.cell? ⟨gb2, 2, none⟩ = some (.slice A0_2 l0_2.length c0_2) := (blk_cell BK76.out 2).trans rfl
  have hzgb4_0 : w140.cell? ⟨gb4, 0, none⟩ = some (.int .i64 a1_0) := (blk_cell BK78.out 0).trans rfl
  have hzgb4_1 : w140.cell? ⟨gb4, 1, none⟩ = some (.int .i64 a1_1) := (blk_cell BK78.out 1).trans rfl
  have hzgb4_2 : w140.cell? ⟨gb4, 2, none⟩ = some (.int .i64 a1_2) := (blk_cell BK78.out 2).trans rfl
  have hzgb31_0 : w140.cell? ⟨gb31, 0, none⟩ = some (.int .i64 r24) := (blk_cell BK108.out 0).trans rfl
  have hzgb31_1 : w140.cell? ⟨gb31, 1, none⟩ = some (.int .i64 r25) := (blk_cell BK108.out 1).trans rfl
  have hzgb31_2 : w140.cell? ⟨gb31, 2, none⟩ = some (.int .i64 r26) := (blk_cell BK108.out 2).trans rfl
  have hzgb44_0 : w140.cell? ⟨gb44, 0, none⟩ = some (.slice A33 r32.length c34) := (blk_cell BK117.out 0).trans rfl
  have hzgb44_1 : w140.cell? ⟨gb44, 1, none⟩ = some (.int .i64 r36) := (blk_cell BK117.out 1).trans rfl
  have hzgb44_2 : w140.cell? ⟨gb44, 2, none⟩ = some (.slice A38 r37.length c39) := (blk_cell BK117.out 2).trans rfl
  have hzgb57_0 : w140.cell? ⟨gb57, 0, none⟩ = some (.int .i64 r50) := (blk_cell BK132.out 0).trans rfl
  have hzgb57_1 : w140.cell? ⟨gb57, 1, none⟩ = some (.int .i64 r51) := (blk_cell BK132.out 1).trans rfl
  have hzgb57_2 : w140.cell? ⟨gb57, 2, none⟩ = some (.int .i64 r52) := (blk_cell BK132.out 2).trans rfl
  go_wp2_with (first | fail)
  repeat (go_quiet (fail); try go_wp2)
  go_ret
  exact ⟨rfl, by repeat (first | (with_reducible first | exact HB.out | apply below_alloc | apply pw_below_drewN | apply below_drew1) | exact HB.out)⟩
end Go.Proofs.Ytnggfglmjdiaaaa.X

namespace Go.Proofs.YtnggfglmjdiaaaaZ
open Go.ChangeShapes Go.WideShapes Go.ChangeAt Go.RowKit
open Go.Proofs.YtnggfglmjdiaaaaW.PrintWords
section
variable {P : Program}
/-- A reading of type t is a value of kind d, and the value fits. -/
def Opens (P : Program) {α : Type} (d : Kd α) (t : TypeId) (fits : α → Prop) : Prop :=
 ∀ {H : Type} {enc : TypeId × Value → H} {w : World} {base : Nat} {spare : Nat → Bool} {held : Bool} {fuel : Nat} {cs : List Value} {x : DataW H × List MemPlace},
  DataW.trod enc P w base spare held fuel t cs = some x → (∀ n ∈ x.1.weights P t, n ≤ reachBytes) → ∃ v, d.K w v cs ∧ fits v
theorem Fg {k : IntKind} {t : TypeId} (ht : P.underlying t = some (.int k)) : Opens P (Kd.int k) t (fun n => (Lit.int k n).wf = true) := by
 intro H enc w base spare held fuel cs x h _
 obtain ⟨n, rfl, _, hw⟩ := DataW.trod_int ht h
 exact ⟨n, rfl, hw⟩
theorem weightsAll_mem {H : Type} {e : TypeId} {d : DataW H} {n : Nat} : ∀ {l : List (DataW H)}, d ∈ l → n ∈ d.weights P e → n ∈ DataW.weightsAll P e l
 | [], h, _ => by cases h
 | x :: r, h, hn => by
  simp only [DataW.weightsAll, List.mem_append]
  rcases List.mem_cons.1 h with rfl | h
  ·exact .inl hn
  ·exact .inr (weightsAll_mem h hn)
theorem weightsEach_mem {H : Type} {n : Nat} : ∀ {ts : List TypeId} {l : List (DataW H)} {i : Nat} {t : TypeId} {d : DataW H}, ts[i]? = some t → l[i]? = some d → n ∈ d.weights P t → n ∈ DataW.weightsEach P ts l
 | [], l, i, t, d, h, _, _ => by simp at h
 | t :: ts, [], i, _, _, _, h, _ => by simp at h
 | t :: ts, d :: l, 0, _, _, h, k, hn => by
  simp at h k; subst h k
  simp only [DataW.weightsEach, List.mem_append]; exact .inl hn
 | t :: ts, d :: l, i + 1, _, _, h, k, hn => by
  simp at h k
  simp only [DataW.weightsEach, List.mem_append]; exact .inr (weightsEach_mem h k hn)
theorem opens_slice {α : Type} (z : α) {d : Kd α} {t e : TypeId} {fits : α → Prop} (ht : P.underlying t = some (.slice e)) (hsz : P.cellsOf e = d.sz) (he : Opens P d e fits) {B : Nat} (hB : P.bytesOf e = B) :
  Opens P (Kd.slice e d) t (fun l => l.length * B ≤ 140737488351232 ∧ l.length ≤ 9223372036854775807 ∧ ∀ x ∈ l, fits x) := by
 intro H enc w base spare held fuel cs x h hw
 rcases Deep.open_slice ht h with ⟨rfl, rfl⟩ | ⟨a, len, cap, m, n, D, Pl, rfl, hb, hl, hm, hmm, rfl, hc⟩
 ·exact ⟨[], ⟨none, 0, rfl, Nat.le_refl _, Kd.C_nil d w⟩, by simp, by simp, fun x hx => by cases hx⟩
 ·have hlm : len ≤ m := by rw [hmm]; split <;> omega
  have hbnd : len * B ≤ 140737488351232 := by
   have := hw ((((List.range len).map D).length + ((List.range (m - len)).map fun j => D (len + j)).length) * P.bytesOf e) (by simp [DataW.weights, ht])
   simp only [List.length_map, List.length_range, hB] at this
   have h2 : len * B ≤ (len + (m - len)) * B := Nat.mul_le_mul_right _ (by omega)
   exact Nat.le_trans h2 this
  have hel : ∀ i, i < len → ∃ v : α, (∃ c, c.length = d.sz ∧ d.K w v c ∧ ∀ j u, c[j]? = some u → w.cell? (a.add (i * d.sz + j)) = some u) ∧ fits v := by
   intro i hi
   obtain ⟨c, h1, h2⟩ := hc i (by omega)
   obtain ⟨v, hv, hf⟩ := he h2 (fun k hk => hw k (by
    simp only [DataW.weights, ht, List.mem_cons, List.mem_append]
    exact .inr (.inl (weightsAll_mem (d := D i) (List.mem_map.2 ⟨i, List.mem_range.2 hi, rfl⟩) hk))))
   rw [hsz] at h1
   obtain ⟨_, hlen, hcell⟩ := World.cells?_some h1
   refine ⟨v, ⟨c, hlen, hv, fun j u hj => ?_⟩, hf⟩
   have hjl : j < d.sz := by rw [← hlen]; exact (List.getElem?_eq_some_iff.1 hj).1
   rw [← Deep.add_add, hcell j hjl]
   exact hj
  haveI : Inhabited α := ⟨z⟩
  obtain ⟨f, hf⟩ := Deep.choose_lt hel
  refine ⟨(List.range len).map f, ⟨some a, cap, by simp, by simpa using hl, ⟨by simp, ?_, fun _ => ⟨a, rfl, ?_⟩⟩⟩, by simpa using hbnd, by simp; unfold maxLen at hm; omega, ?_⟩
  ·simp; unfold maxLen at hm; omega
  ·intro j p hj
   have hjl : j < len := by
    have := (List.getElem?_eq_some_iff.1 hj).1
    simpa using this
   rw [List.getElem?_map, List.getElem?_range hjl] at hj
   simp only [Option.map_some, Option.some.injEq] at hj
   subst hj
   exact (hf j hjl).1
  ·intro x hx
   obtain ⟨j, hj, rfl⟩ := List.mem_map.1 hx
   exact (hf j (List.mem_range.1 hj)).2
/-- Fields from offset o on to the struct's end L, as a value of kind d. -/
def OpensF (P : Program) {α : Type} (d : Kd α) (fs : List Field) (o L : Nat) (fits : α → Prop) : Prop :=
 ∀ {H : Type} {enc : TypeId × Value → H} {w : World} {base : Nat} {spare : Nat → Bool} {held : Bool} {fuel : Nat} {cs : List Value} {xs : List (DataW H × List MemPlace)},
  cs.length = L → xs.length = fs.length → (∀ (i : Nat) (f : Field), fs[i]? = some f → DataW.trod enc P w base spare held fuel f.type ((cs.drop f.offset).take (P.cellsOf f.type)) = xs[i]?) →
  (∀ n ∈ DataW.weightsEach P (fs.map (·.type)) (xs.map (·.1)), n ≤ reachBytes) → ∃ v, d.K w v (cs.drop o) ∧ fits v
theorem opensF_one {α : Type} {d : Kd α} {f : Field} {o L : Nat} {fits : α → Prop} (t : TypeId) (hft : f.type = t) (ho : f.offset = o) (hL : o + P.cellsOf t = L) (h : Opens P d t fits) : OpensF P d [f] o L fits := by
 intro H enc w base spare held fuel cs xs hlen hxs hf hw
 match xs, hxs with
 | [x], _ =>
  have h0 := hf 0 f rfl
  rw [hft, ho, List.take_of_length_le (by rw [List.length_drop]; omega)] at h0
  exact h h0 (fun n hn => hw n (by rw [hft.symm] at hn; simp [DataW.weightsEach]; exact hn))
theorem opensF_cons {α β : Type} {d : Kd α} {d' : Kd β} {f : Field} {rest : List Field} {o o' L : Nat} {fits : α → Prop} {fits' : β → Prop} (t : TypeId) (hft : f.type = t) (ho : f.offset = o) (hn : o + P.cellsOf t = o') (h : Opens P d t fits) (hr : OpensF P d' rest o' L fits') :
  OpensF P (Kd.pair d d') (f :: rest) o L (fun p => fits p.1 ∧ fits' p.2) := by
 intro H enc w base spare held fuel cs xs hlen hxs hf hw
 match xs, hxs with
 | x :: xs, hxs =>
  have h0 := hf 0 f rfl
  rw [hft, ho] at h0
  obtain ⟨v, hv, fv⟩ := h h0 (fun n hn => hw n (by rw [hft.symm] at hn; simp [DataW.weightsEach]; exact .inl hn))
  obtain ⟨v', hv', fv'⟩ := hr (cs := cs) (xs := xs) hlen (by simpa using hxs) (fun i g hg => by simpa using hf (i + 1) g (by simpa using hg)) (fun n hn => hw n (by simp only [List.map_cons, DataW.weightsEach, List.mem_append]; exact .inr hn))
  exact ⟨(v, v'), ⟨(cs.drop o).take (P.cellsOf t), cs.drop o', by rw [← hn, ← List.drop_drop]; exact (List.take_append_drop _ _).symm, hv, hv'⟩, fv, fv'⟩
theorem Fj {α β : Type} {d : Kd α} {t : TypeId} {fs : Array Field} {L : Nat} {fits : α → Prop} {fits' : β → Prop} (ht : P.underlying t = some (.struct fs)) (hL : P.cellsOf t = L) (h : OpensF P d fs.toList 0 L fits) (g : β → α) (inv : α → β) (hinv : ∀ a, g (inv a) = a) (hf : ∀ a, fits a → fits' (inv a)) :
  Opens P (Kd.iso d g) t fits' := by
 intro H enc w base spare held fuel cs x hx hw
 obtain ⟨xs, n, rfl, rfl, hl, hlen, hff⟩ := DataW.trod_struct ht hx
 obtain ⟨v, hv, fv⟩ := h (cs := cs) (xs := xs) (by rw [hl, hL]) (by simpa using hlen) (fun i f hi => hff i f (by simpa using hi)) (fun k hk => hw k (by simp only [DataW.weights, ht]; exact hk))
 refine ⟨inv v, ?_, hf v fv⟩
 show d.K w (g (inv v)) cs
 rw [hinv]
 simpa using hv
/-- A parameter's weights are among all. -/
theorem weights_param {H : Type} {ts : List TypeId} {ds : List (DataW H)} {j : Nat} {t : TypeId} {d : DataW H} (hsz : (DataW.weightsEach P ts ds).all (· ≤ reachBytes) = true) (ht : ts[j]? = some t) (hd : ds[j]? = some d) : ∀ n ∈ d.weights P t, n ≤ reachBytes := fun n hn => by
 have := List.all_eq_true.1 hsz n (weightsEach_mem ht hd hn)
 simpa using this
end
end Go.Proofs.YtnggfglmjdiaaaaZ

namespace Go.Proofs.Ytnggfglmjdiaaaa.X
open Go.RowKit Go.Proofs.YtnggfglmjdiaaaaW.PrintWords Go.Proofs.YtnggfglmjdiaaaaW.PrintLast Go.Proofs.YtnggfglmjdiaaaaW.PrintMore
open Go.Proofs.YtnggfglmjdiaaaaZ
namespace OFnExactInverseOrder
def fitsT24 (x : S24) : Prop := (x.f0.length * 24 ≤ 140737488351232 ∧ x.f0.length ≤ 9223372036854775807 ∧ ∀ y4 ∈ x.f0, (y4.length * 8 ≤ 140737488351232 ∧ y4.length ≤ 9223372036854775807 ∧ ∀ y2 ∈ y4, (Lit.int .i64 y2).wf = true))
theorem opensT24 : Opens Try.prog k24 24 fitsT24 :=
 Fj (L := 1) Try.underlying24 (by kernel_rfl) (opensF_one 22 rfl rfl (by kernel_rfl) (opens_slice [] Try.underlying22 (by kernel_rfl) (opens_slice 0 Try.underlying73 (by kernel_rfl) (Fg Try.underlying3) (by kernel_rfl)) (by kernel_rfl))) (fun x : S24 => x.f0) (fun p => ⟨p⟩) (fun _ => rfl) (fun _ h => h)
def fitsT26 (x : S26) : Prop := (Lit.int .i64 x.f0).wf = true ∧ (x.f1.length * 24 ≤ 140737488351232 ∧ x.f1.length ≤ 9223372036854775807 ∧ ∀ y4 ∈ x.f1, (y4.length * 8 ≤ 140737488351232 ∧ y4.length ≤ 9223372036854775807 ∧ ∀ y2 ∈ y4, (Lit.int .i64 y2).wf = true))
theorem opensT26 : Opens Try.prog k26 26 fitsT26 :=
 Fj (L := 2) Try.underlying26 (by kernel_rfl) (opensF_cons (o' := 1) 3 rfl rfl (by kernel_rfl) (Fg Try.underlying3) (opensF_one 22 rfl rfl (by kernel_rfl) (opens_slice [] Try.underlying22 (by kernel_rfl) (opens_slice 0 Try.underlying73 (by kernel_rfl) (Fg Try.underlying3) (by kernel_rfl)) (by kernel_rfl)))) (fun x : S26 => (x.f0, x.f1)) (fun p => ⟨p.1, p.2⟩) (fun _ => rfl) (fun _ h => h)
def fitsT28 (x : S28) : Prop := fitsT24 x.f0 ∧ fitsT26 x.f1
theorem opensT28 : Opens Try.prog k28 28 fitsT28 :=
 Fj (L := 3) Try.underlying28 (by kernel_rfl) (opensF_cons (o' := 1) 24 rfl rfl (by kernel_rfl) opensT24 (opensF_one 26 rfl rfl (by kernel_rfl) opensT26)) (fun x : S28 => (x.f0, x.f1)) (fun p => ⟨p.1, p.2⟩) (fun _ => rfl) (fun _ h => h)
def fitsT42 (x : S42) : Prop := (Lit.int .i64 x.f0).wf = true ∧ (Lit.int .i64 x.f1).wf = true ∧ (Lit.int .i64 x.f2).wf = true
theorem opensT42 : Opens Try.prog k42 42 fitsT42 :=
 Fj (L := 3) Try.underlying42 (by kernel_rfl) (opensF_cons (o' := 1) 3 rfl rfl (by kernel_rfl) (Fg Try.underlying3) (opensF_cons (o' := 2) 3 rfl rfl (by kernel_rfl) (Fg Try.underlying3) (opensF_one 3 rfl rfl (by kernel_rfl) (Fg Try.underlying3)))) (fun x : S42 => (x.f0, x.f1, x.f2)) (fun p => ⟨p.1, p.2.1, p.2.2⟩) (fun _ => rfl) (fun _ h => h)
def Pure : Prop := ∀ (x0 : S28) (x1 : S42), fitsT28 x0 → fitsT42 x1 → ∃ k, Di.f k x0.f0.f0 x0.f1.f0 x0.f1.f1 x1.f0 x1.f1 x1.f2 = some true
end OFnExactInverseOrder
end Go.Proofs.Ytnggfglmjdiaaaa.X

namespace Go.Proofs.YtnggfglmjdiaaaaL
open Go.RowKit Go.Proofs.YtnggfglmjdiaaaaW.PrintWords
theorem ev_eq {α : Type} {g : Nat → Option α} {r : α} (h : ∀ k, g k = some r) : Ev g r := ⟨0, fun k _ => h k⟩
theorem ev_rounds {α : Type} {g : Nat → Option α} {r : α} (h : Ev g r) : ∃ k, g k = some r := h.rounds
theorem wrap_id {x : Int} (h0 : -9223372036854775808 ≤ x) (h1 : x ≤ 9223372036854775807) : wrap64 x = x := by unfold wrap64; omega
theorem wrap_succ {n : Nat} (h : n < 9223372036854775807) : wrap64 ((n : Int) + 1) = ((n + 1 : Nat) : Int) := by rw [wrap_id (by omega) (by omega)]; rfl
theorem rd_at (l : List Int) (n : Nat) (h : n < l.length) : rd l (n : Int) = l[n] := by simp [rd, List.getD_eq_getElem?_getD, List.getElem?_eq_getElem h]
/-- A list that is filled from the front. -/
def fill {α β : Type} (f : α → β) (z : β) (l : List α) (n : Nat) : List β := (l.take n).map f ++ List.replicate (l.length - n) z
theorem fill_zero {α β : Type} (f : α → β) (z : β) (l : List α) : fill f z l 0 = List.replicate l.length z := by simp [fill]
theorem fill_length {α β : Type} (f : α → β) (z : β) (l : List α) (n : Nat) (h : n ≤ l.length) : (fill f z l n).length = l.length := by simp only [fill, List.length_append, List.length_map, List.length_take, List.length_replicate]; omega
theorem fill_set {α β : Type} (f : α → β) (z : β) (l : List α) (n : Nat) (h : n < l.length) : (fill f z l n).set n (f l[n]) = fill f z l (n + 1) := by
 have e : l.length - n = (l.length - (n + 1)) + 1 := by omega
 have ht : l.take (n + 1) = l.take n ++ [l[n]] := by rw [List.take_succ_eq_append_getElem h]
 unfold fill
 rw [e, List.replicate_succ, ht, List.set_append_right _ _ (by simp; omega)]
 have : n - ((l.take n).map f).length = 0 := by simp; omega
 rw [this, List.map_append, List.append_assoc]
 rfl
theorem fill_all {α β : Type} (f : α → β) (z : β) (l : List α) : fill f z l l.length = l.map f := by simp [fill]
end Go.Proofs.YtnggfglmjdiaaaaL

namespace Go.Proofs.Ytnggfglmjdiaaaa.X
open Go.RowKit Go.Proofs.YtnggfglmjdiaaaaW.PrintWords Go.Proofs.YtnggfglmjdiaaaaL
theorem eqIntS_ev (l : List Int) (h : l.length ≤ 4611686018427387904) : Ev (fun k => Bc.f k l l) true := by
 have key : ∀ (d n : Nat), n + d = l.length → Ev (fun k => Bc.l0 k l l n) true := by
  intro d
  induction d with
  | zero => intro n hn; exact Ev.step (f := fun _ => some _) (fun k => by simp only [Bc.l0]; rw [if_neg (by omega)]) (Ev.now _)
  | succ d ih =>
   intro n hn
   refine Ev.step (f := fun k => Bc.l0 k l l ((n + 1 : Nat) : Int)) (fun k => ?_) (ih (n + 1) (by omega))
   simp only [Bc.l0]
   rw [if_pos (by omega), if_pos (by omega), if_pos (by omega), wrap_succ (by omega)]
   simp
 exact Ev.congr (f := fun k => Bc.l0 k l l ((0 : Nat) : Int)) (fun k => by unfold Bc.f; rw [if_pos rfl]; rfl) (key l.length 0 (by omega))
theorem rdR (l : List (List Int)) (n : Nat) (h : n < l.length) : rd_L1 l (n : Int) = l[n] := by simp [rd_L1, List.getD_eq_getElem?_getD, List.getElem?_eq_getElem h]
theorem eqIntSS_ev (l : List (List Int)) (h : l.length ≤ 1048576) (hr : ∀ s ∈ l, s.length ≤ 1048576) : Ev (fun k => Ai.f k l l) true := by
 have key : ∀ (d n : Nat), n + d = l.length → Ev (fun k => Ai.l0 k l l n) true := by
  intro d
  induction d with
  | zero => intro n hn; exact Ev.step (f := fun _ => some _) (fun k => by simp only [Ai.l0]; rw [if_neg (by omega)]) (Ev.now _)
  | succ d ih =>
   intro n hn
   have hnl : n < l.length := by omega
   have hm := hr _ (List.getElem_mem hnl)
   refine Ev.step (f := fun k => (Bc.f k l[n] l[n]).bind fun t => if t = true then Ai.l0 k l l ((n + 1 : Nat) : Int) else some false) (fun k => ?_) (Ev.bind (eqIntS_ev l[n] (by have : l[n].length ≤ 1048576 := hm; omega)) ?_)
   ·simp only [Ai.l0]
    rw [if_pos (by omega), if_pos (by omega), if_pos (by omega), rdR l n hnl, wrap_succ (by omega)]
   ·simp only [if_true]; exact ih (n + 1) (by omega)
 exact Ev.congr (f := fun k => Ai.l0 k l l ((0 : Nat) : Int)) (fun k => by unfold Ai.f; rw [if_pos rfl]; rfl) (key l.length 0 (by omega))
theorem szIntS_eq (l : List Int) (a : Int) (h0 : 0 ≤ a) (h1 : a ≤ 1048576) (hl : l.length ≤ 4611686018427387904) : Ep.f l a = some (if a - (l.length : Int) < 0 then -1 else a - (l.length : Int)) := by
 unfold Ep.f
 rw [wrap_id (by omega) (by omega)]
 split <;> rfl
theorem szIntSS_ev (l : List (List Int)) (a : Int) (h0 : 0 ≤ a) (h1 : a ≤ 1048576) (hl : l.length ≤ 4611686018427387904) (hr : ∀ s ∈ l, s.length ≤ 4611686018427387904) :
  ∃ r, Ev (fun k => Ak.f k l a) r ∧ (r < 0 ∨ (0 ≤ r ∧ r ≤ a ∧ (l.length : Int) ≤ a ∧ ∀ s ∈ l, (s.length : Int) ≤ a)) := by
 have key : ∀ (d n : Nat) (x : Int), n + d = l.length → 0 ≤ x → x ≤ a → ∃ r, Ev (fun k => Ak.l0 k l x n) r ∧ (r < 0 ∨ (0 ≤ r ∧ r ≤ x ∧ ∀ s ∈ l.drop n, (s.length : Int) ≤ a)) := by
  intro d
  induction d with
  | zero =>
   intro n x hn hx0 hxa
   exact ⟨x, Ev.step (f := fun _ => some _) (fun k => by simp only [Ak.l0]; rw [if_neg (by omega)]) (Ev.now _), .inr ⟨hx0, Int.le_refl _, by rw [List.drop_of_length_le (by omega)]; simp⟩⟩
  | succ d ih =>
   intro n x hn hx0 hxa
   have hnl : n < l.length := by omega
   have hm := hr _ (List.getElem_mem hnl)
   by_cases c : x - (l[n].length : Int) < 0
   ·refine ⟨-1, Ev.step (f := fun _ => some (-1)) (fun k => ?_) (Ev.now _), .inl (by decide)⟩
    simp only [Ak.l0]
    rw [if_pos (by omega), if_pos (by omega), rdR l n hnl, szIntS_eq _ _ hx0 (by omega) hm, if_pos c]
    rfl
   ·obtain ⟨r, hev, hq⟩ := ih (n + 1) (x - (l[n].length : Int)) (by omega) (by omega) (by omega)
    refine ⟨r, Ev.step (fun k => ?_) hev, hq.imp id (fun z => ⟨z.1, by omega, ?_⟩)⟩
    ·simp only [Ak.l0]
     rw [if_pos (by omega), if_pos (by omega), rdR l n hnl, szIntS_eq _ _ hx0 (by omega) hm, if_neg c]
     simp only [Option.bind_some]
     rw [if_neg c, wrap_succ (by omega)]
    ·rw [List.drop_eq_getElem_cons hnl]
     intro s hs
     rcases List.mem_cons.1 hs with rfl | hs
     ·omega
     ·exact z.2.2 s hs
 by_cases c : a - (l.length : Int) < 0
 ·exact ⟨-1, ev_eq (fun k => by unfold Ak.f; rw [wrap_id (by omega) (by omega), if_pos c]), .inl (by decide)⟩
 ·obtain ⟨r, hev, hq⟩ := key l.length 0 (a - (l.length : Int)) (by omega) (by omega) (by omega)
  refine ⟨r, Ev.congr (fun k => by unfold Ak.f; rw [wrap_id (by omega) (by omega), if_neg c]; rfl) hev, hq.imp id (fun z => ⟨z.1, by omega, by omega, by simpa using z.2.2⟩)⟩
theorem toIntS_ev (l : List Int) (h : l.length ≤ 1048576) : Ev (fun k => Be.f k l) l := by
 have key : ∀ (d n : Nat), n + d = l.length → Ev (fun k => Be.l0 k l (fill id (0 : Int) l n) n) l := by
  intro d
  induction d with
  | zero =>
   intro n hn
   obtain rfl : n = l.length := by omega
   have e : fill id (0 : Int) l l.length = l := by rw [fill_all]; simp
   rw [e]
   exact Ev.step (f := fun _ => some _) (fun k => by simp only [Be.l0]; rw [if_neg (by omega)]) (Ev.now _)
  | succ d ih =>
   intro n hn
   have hnl : n < l.length := by omega
   refine Ev.step (fun k => ?_) (ih (n + 1) (by omega))
   simp only [Be.l0]
   rw [if_pos (by omega), if_pos (by omega), fill_length id _ l n (by omega), if_pos (by omega), rd_at l n hnl, wrap_succ (by omega), Int.toNat_natCast, ← fill_set id _ l n hnl]
   rfl
 refine Ev.congr (fun k => ?_) (key l.length 0 (by omega))
 unfold Be.f
 rw [if_pos (by omega), if_pos (by omega), fill_zero, Int.toNat_natCast]
 rfl
theorem toIntSS_ev (l : List (List Int)) (h : l.length ≤ 1048576) (hr : ∀ s ∈ l, s.length ≤ 1048576) : Ev (fun k => Am.f k l) l := by
 have key : ∀ (d n : Nat), n + d = l.length → Ev (fun k => Am.l0 k l (fill id ([] : List Int) l n) n) l := by
  intro d
  induction d with
  | zero =>
   intro n hn
   obtain rfl : n = l.length := by omega
   have e : fill id ([] : List Int) l l.length = l := by rw [fill_all]; simp
   rw [e]
   exact Ev.step (f := fun _ => some _) (fun k => by simp only [Am.l0]; rw [if_neg (by omega)]) (Ev.now _)
  | succ d ih =>
   intro n hn
   have hnl : n < l.length := by omega
   refine Ev.step (f := fun k => (Be.f k l[n]).bind fun t => Am.l0 k l ((fill id ([] : List Int) l n).set n t) ((n + 1 : Nat) : Int)) (fun k => ?_) (Ev.bind (toIntS_ev _ (hr _ (List.getElem_mem hnl))) ?_)
   ·simp only [Am.l0, fill_length id _ l n (show n ≤ l.length by omega)]
    rw [if_pos (by omega), if_pos (by omega), rdR l n hnl]
    simp only [if_pos (show (n : Int) < (l.length : Int) by omega), wrap_succ (show n < 9223372036854775807 by omega), Int.toNat_natCast]
   ·have e : (fill id ([] : List Int) l n).set n l[n] = fill id ([] : List Int) l (n + 1) := by rw [← fill_set id _ l n hnl]; rfl
    rw [e]
    exact ih (n + 1) (by omega)
 refine Ev.congr (fun k => ?_) (key l.length 0 (by omega))
 unfold Am.f
 rw [if_pos (by omega), if_pos (by omega), fill_zero, Int.toNat_natCast]
 rfl
theorem l1In_eq2 (a b c : Int) : Ba.f a b c = some (decide (b ≤ a) && decide (a ≤ c)) := by
 unfold Ba.f
 by_cases h : a ≥ b
 ·rw [if_pos h]; simp [show b ≤ a from h]
 ·rw [if_neg h]; simp [show ¬ b ≤ a from h]
theorem has_ev (S : List Int) (n : Int) (hS : S.length ≤ 1048576) : Ev (fun k => Ag.f k S n) (decide (n ∈ S)) := by
 have key : ∀ (d i : Nat), i + d = S.length → Ev (fun k => Ag.l0 k S n i) (decide (n ∈ S.drop i)) := by
  intro d
  induction d with
  | zero =>
   intro i hi
   rw [List.drop_of_length_le (by omega)]
   exact Ev.step (f := fun _ => some _) (fun k => by simp only [Ag.l0]; rw [if_neg (by omega)]; simp) (Ev.now _)
  | succ d ih =>
   intro i hi
   have hil : i < S.length := by omega
   rw [List.drop_eq_getElem_cons hil]
   by_cases c : S[i] = n
   ·have e : decide (n ∈ S[i] :: S.drop (i + 1)) = true := decide_eq_true (by rw [c]; exact List.mem_cons_self)
    rw [e]
    exact Ev.step (f := fun _ => some _) (fun k => by simp only [Ag.l0]; rw [if_pos (by omega), if_pos (by omega), rd_at S i hil, if_pos c]) (Ev.now _)
   ·have e : decide (n ∈ S[i] :: S.drop (i + 1)) = decide (n ∈ S.drop (i + 1)) := by
     rw [decide_eq_decide, List.mem_cons]
     exact ⟨fun z => z.elim (fun y => absurd y.symm c) id, .inr⟩
    rw [e]
    refine Ev.step (fun k => ?_) (ih (i + 1) (by omega))
    simp only [Ag.l0]
    rw [if_pos (by omega), if_pos (by omega), rd_at S i hil, if_neg c, wrap_succ (by omega)]
 exact Ev.congr (f := fun k => Ag.l0 k S n ((0 : Nat) : Int)) (fun k => rfl) (by simpa using key S.length 0 (by omega))
theorem spec_l5Good_loop (l : List (List Int)) (hl : l.length ≤ 6) : ∀ (d i : Nat) (S : List Int), i + d = l.length → S.length ≤ 4 * i → Ev (fun k => Af.l0 k S i l) (Cm 4 S (l.drop i)) := by
 intro d
 induction d with
 | zero =>
  intro i S hi hS
  rw [List.drop_of_length_le (by omega)]
  exact Ev.step (f := fun _ => some _) (fun k => by simp only [Af.l0]; rw [if_neg (by omega)]; rfl) (Ev.now _)
 | succ d ih =>
  intro i S hi hS
  have hil : i < l.length := by omega
  rw [List.drop_eq_getElem_cons hil]
  by_cases c : (l[i].length : Int) > 4
  ·rw [Fb 4 _ _ _ c]
   refine Ev.step (f := fun _ => some false) (fun k => ?_) (Ev.now _)
   simp only [Af.l0]
   rw [if_pos (by omega), if_pos (by omega), rdR l i hil, if_pos c]
  ·rw [goodRows_in 4 _ _ _ c]
   have inner : ∀ (e j : Nat) (S2 : List Int), j + e = l[i].length → S2.length ≤ 4 * i + j → Ev (fun k => Af.l1 k S2 i j l) (Ej 4 S2 (l[i].drop j) (l.drop (i + 1))) := by
    intro e
    induction e with
    | zero =>
     intro j S2 hj hS2
     rw [List.drop_of_length_le (by omega), Fh]
     refine Ev.step (fun k => ?_) (ih (i + 1) S2 (by omega) (by omega))
     simp only [Af.l1]
     rw [if_pos (by omega), if_pos (by omega), rdR l i hil, if_neg (by omega), wrap_succ (by omega)]
    | succ e ih2 =>
     intro j S2 hj hS2
     have hjl : j < l[i].length := by omega
     rw [List.drop_eq_getElem_cons hjl]
     have hn := rd_at l[i] j hjl
     refine Ev.step (f := fun k => if (decide ((1 : Int) ≤ l[i][j]) && decide (l[i][j] ≤ 99)) = true then ((Ag.f k S2 l[i][j]).bind fun t => if t = true then some false else Af.l1 k (S2 ++ [l[i][j]]) i ((j + 1 : Nat) : Int) l) else some false) (fun k => ?_) ?_
     ·simp only [Af.l1]
      rw [if_pos (by omega), if_pos (by omega), rdR l i hil, if_pos (by omega), if_pos (by omega), hn, l1In_eq2]
      simp only [Option.bind_some, if_pos (show S2.length < 17592186044416 by omega), wrap_succ (show j < 9223372036854775807 by omega)]
     ·generalize hnn : l[i][j] = n
      rw [hnn] at *
      cases c4 : (decide (1 ≤ n) && decide (n ≤ 99)) with
      | false =>
       rw [Eh 4 S2 n _ _ (.inl (fun z => by simp [z.1, z.2] at c4))]
       exact ev_eq (fun k => if_neg (by simp))
      | true =>
       have hn1 : 1 ≤ n ∧ n ≤ 99 := by simpa using c4
       simp only [if_true]
       refine Ev.bind (has_ev S2 n (by omega)) ?_
       cases c5 : decide (n ∈ S2) with
       | true =>
        rw [Eh 4 S2 n _ _ (.inr c5)]
        simp only [if_true]; exact Ev.now _
       | false =>
        rw [Fq 4 S2 n _ _ hn1.1 hn1.2 c5]
        simp only [Bool.false_eq_true, if_false]
        exact ih2 (j + 1) (S2 ++ [n]) (by omega) (by simp; omega)
   refine Ev.step (fun k => ?_) (inner l[i].length 0 S (by omega) (by omega))
   simp only [Af.l0]
   rw [if_pos (by omega), if_pos (by omega), rdR l i hil, if_neg c]
   rfl
theorem spec_l9Good_loop (m : Int) (l : List (List Int)) (hl : l.length ≤ 6) (hm : m ≤ 4) : ∀ (d i : Nat) (S : List Int), i + d = l.length → S.length ≤ 4 * i → Ev (fun k => Ac.l0 k S i m l) (Cm m S (l.drop i)) := by
 intro d
 induction d with
 | zero =>
  intro i S hi hS
  rw [List.drop_of_length_le (by omega)]
  exact Ev.step (f := fun _ => some _) (fun k => by simp only [Ac.l0]; rw [if_neg (by omega)]; rfl) (Ev.now _)
 | succ d ih =>
  intro i S hi hS
  have hil : i < l.length := by omega
  rw [List.drop_eq_getElem_cons hil]
  by_cases c : (l[i].length : Int) > m
  ·rw [Fb m _ _ _ c]
   refine Ev.step (f := fun _ => some false) (fun k => ?_) (Ev.now _)
   simp only [Ac.l0]
   rw [if_pos (by omega), if_pos (by omega), rdR l i hil, if_pos c]
  ·rw [goodRows_in m _ _ _ c]
   have inner : ∀ (e j : Nat) (S2 : List Int), j + e = l[i].length → S2.length ≤ 4 * i + j → Ev (fun k => Ac.l1 k S2 i j m l) (Ej m S2 (l[i].drop j) (l.drop (i + 1))) := by
    intro e
    induction e with
    | zero =>
     intro j S2 hj hS2
     rw [List.drop_of_length_le (by omega), Fh]
     refine Ev.step (fun k => ?_) (ih (i + 1) S2 (by omega) (by omega))
     simp only [Ac.l1]
     rw [if_pos (by omega), if_pos (by omega), rdR l i hil, if_neg (by omega), wrap_succ (by omega)]
    | succ e ih2 =>
     intro j S2 hj hS2
     have hjl : j < l[i].length := by omega
     rw [List.drop_eq_getElem_cons hjl]
     have hn := rd_at l[i] j hjl
     refine Ev.step (f := fun k => if (decide ((1 : Int) ≤ l[i][j]) && decide (l[i][j] ≤ 99)) = true then ((Ag.f k S2 l[i][j]).bind fun t => if t = true then some false else Ac.l1 k (S2 ++ [l[i][j]]) i ((j + 1 : Nat) : Int) m l) else some false) (fun k => ?_) ?_
     ·simp only [Ac.l1]
      rw [if_pos (by omega), if_pos (by omega), rdR l i hil, if_pos (by omega), if_pos (by omega), hn, l1In_eq2]
      simp only [Option.bind_some, if_pos (show S2.length < 17592186044416 by omega), wrap_succ (show j < 9223372036854775807 by omega)]
     ·generalize hnn : l[i][j] = n
      rw [hnn] at *
      cases c4 : (decide (1 ≤ n) && decide (n ≤ 99)) with
      | false =>
       rw [Eh m S2 n _ _ (.inl (fun z => by simp [z.1, z.2] at c4))]
       exact ev_eq (fun k => if_neg (by simp))
      | true =>
       have hn1 : 1 ≤ n ∧ n ≤ 99 := by simpa using c4
       simp only [if_true]
       refine Ev.bind (has_ev S2 n (by omega)) ?_
       cases c5 : decide (n ∈ S2) with
       | true =>
        rw [Eh m S2 n _ _ (.inr c5)]
        simp only [if_true]; exact Ev.now _
       | false =>
        rw [Fq m S2 n _ _ hn1.1 hn1.2 c5]
        simp only [Bool.false_eq_true, if_false]
        exact ih2 (j + 1) (S2 ++ [n]) (by omega) (by simp; omega)
   refine Ev.step (fun k => ?_) (inner l[i].length 0 S (by omega) (by omega))
   simp only [Ac.l0]
   rw [if_pos (by omega), if_pos (by omega), rdR l i hil, if_neg c]
   rfl
def yardOk (l : List (List Int)) : Bool := (decide ((1 : Int) ≤ (l.length : Int)) && decide ((l.length : Int) ≤ 6)) && Cm 4 [] l
def bayOk (h : Int) (l : List (List Int)) : Bool := (decide ((1 : Int) ≤ h) && decide (h ≤ 4)) && (decide ((1 : Int) ≤ (l.length : Int)) && decide ((l.length : Int) ≤ 5)) && Cm h [] l
theorem implYard_eq (l : List (List Int)) : Dx.f l = some (yardOk l) := rfl
theorem implBay_eq (h : Int) (l : List (List Int)) : Dw.f h l = some (bayOk h l) := rfl
theorem specYard_ev (l : List (List Int)) : Ev (fun k => Af.f k l) (yardOk l) := by
 unfold Af.f yardOk
 rw [l1In_eq2]
 simp only [Option.bind_some]
 cases c : (decide ((1 : Int) ≤ (l.length : Int)) && decide ((l.length : Int) ≤ 6)) with
 | false => simp only [Bool.false_eq_true, if_false, Bool.false_and]; exact Ev.now _
 | true =>
  have h6 : l.length ≤ 6 := by simp at c; omega
  simp only [if_true, Bool.true_and]
  exact spec_l5Good_loop l h6 l.length 0 [] (by omega) (by simp)
theorem specBay_ev (h : Int) (l : List (List Int)) : Ev (fun k => Ac.f k h l) (bayOk h l) := by
 unfold Ac.f bayOk
 simp only [l1In_eq2, Option.bind_some]
 cases c : (decide ((1 : Int) ≤ h) && decide (h ≤ 4)) with
 | false =>
  simp only [Bool.false_eq_true, if_false, Bool.false_and]
  exact Ev.step (f := fun _ => some _) (fun k => by simp only [Ac.j0]; rw [if_pos trivial]) (Ev.now _)
 | true =>
  have h4 : h ≤ 4 := by simp at c; omega
  simp only [if_true, Bool.true_and]
  cases c2 : (decide ((1 : Int) ≤ (l.length : Int)) && decide ((l.length : Int) ≤ 5)) with
  | false =>
   simp only [Bool.not_false, Bool.false_and]
   exact Ev.step (f := fun _ => some _) (fun k => by simp only [Ac.j0]; rw [if_pos trivial]) (Ev.now _)
  | true =>
   have h5 : l.length ≤ 5 := by simp at c2; omega
   simp only [Bool.not_true, Bool.true_and]
   refine Ev.step (f := fun k => Ac.l0 k [] ((0 : Nat) : Int) h l) (fun k => ?_) (by simpa using spec_l9Good_loop h l (by omega) h4 l.length 0 [] (by omega) (by simp))
   simp only [Ac.j0]
   rw [if_neg (by decide)]
   rfl
-- where a number stands
def idxFrom : Nat → List Int → Int → Int
 | _, [], _ => -1
 | k, x :: r, n => if x = n then (k : Int) else idxFrom (k + 1) r n
def findFrom : Nat → List (List Int) → Int → Int × Int
 | _, [], _ => (-1, -1)
 | i, s :: r, n => if idxFrom 0 s n ≥ 0 then ((i : Int), idxFrom 0 s n) else findFrom (i + 1) r n
theorem index_ev (s : List Int) (n : Int) (hs : s.length ≤ 1048576) : Ev (fun k => Ae.f k s n) (idxFrom 0 s n) := by
 have key : ∀ (d i : Nat), i + d = s.length → Ev (fun k => Ae.l0 k s n (s.length : Int) i) (idxFrom i (s.drop i) n) := by
  intro d
  induction d with
  | zero =>
   intro i hi
   rw [List.drop_of_length_le (by omega)]
   exact Ev.step (f := fun _ => some _) (fun k => by simp only [Ae.l0]; rw [if_neg (by omega)]; rfl) (Ev.now _)
  | succ d ih =>
   intro i hi
   have hil : i < s.length := by omega
   rw [List.drop_eq_getElem_cons hil]
   unfold idxFrom
   by_cases c : s[i] = n
   ·rw [if_pos c]
    exact Ev.step (f := fun _ => some _) (fun k => by simp only [Ae.l0]; rw [if_pos (by omega), if_pos (by omega), if_pos (by omega), rd_at s i hil, if_pos c.symm]) (Ev.now _)
   ·rw [if_neg c]
    refine Ev.step (fun k => ?_) (ih (i + 1) (by omega))
    simp only [Ae.l0]
    rw [if_pos (by omega), if_pos (by omega), if_pos (by omega), rd_at s i hil, if_neg (fun z => c z.symm), wrap_succ (by omega)]
 exact Ev.congr (f := fun k => Ae.l0 k s n (s.length : Int) ((0 : Nat) : Int)) (fun k => rfl) (by simpa using key s.length 0 (by omega))
def rowsOk (l : List (List Int)) : Prop := l.length ≤ 1048576 ∧ ∀ s ∈ l, s.length ≤ 1048576
theorem place_ev (l : List (List Int)) (n : Int) (hl : rowsOk l) : Ev (fun k => Aq.f k l n) (findFrom 0 l n) := by
 have key : ∀ (d i : Nat), i + d = l.length → Ev (fun k => Aq.l0 k n l (l.length : Int) i) (findFrom i (l.drop i) n) := by
  intro d
  induction d with
  | zero =>
   intro i hi
   rw [List.drop_of_length_le (by omega)]
   exact Ev.step (f := fun _ => some _) (fun k => by simp only [Aq.l0]; rw [if_neg (by omega)]; rfl) (Ev.now _)
  | succ d ih =>
   intro i hi
   have hil : i < l.length := by omega
   rw [List.drop_eq_getElem_cons hil]
   unfold findFrom
   refine Ev.step (f := fun k => (Ae.f k l[i] n).bind fun t => if t ≥ 0 then some ((i : Int), t) else Aq.l0 k n l (l.length : Int) ((i + 1 : Nat) : Int)) (fun k => ?_) (Ev.bind (index_ev _ n (hl.2 _ (List.getElem_mem hil))) ?_)
   ·have := hl.1
    simp only [Aq.l0]
    rw [if_pos (by omega), if_pos (by omega), if_pos (by omega), rdR l i hil, wrap_succ (by omega)]
   ·by_cases c : idxFrom 0 l[i] n ≥ 0
    ·simp only [if_pos c]; exact Ev.now _
    ·simp only [if_neg c]; exact ih (i + 1) (by omega)
 exact Ev.congr (f := fun k => Aq.l0 k n l (l.length : Int) ((0 : Nat) : Int)) (fun k => rfl) (by simpa using key l.length 0 (by omega))
theorem spec_l5Find_ev (l : List (List Int)) (n : Int) (hl : rowsOk l) : Ev (fun k => spec_l5Find.f k l n) (findFrom 0 l n) := by
 have key : ∀ (d i : Nat), i + d = l.length → Ev (fun k => spec_l5Find.l0 k n i l) (findFrom i (l.drop i) n) := by
  intro d
  induction d with
  | zero =>
   intro i hi
   rw [List.drop_of_length_le (by omega)]
   exact Ev.step (f := fun _ => some _) (fun k => by simp only [spec_l5Find.l0]; rw [if_neg (by omega)]; rfl) (Ev.now _)
  | succ d ih =>
   intro i hi
   have hil : i < l.length := by omega
   have hs := hl.2 _ (List.getElem_mem hil)
   have hl1 := hl.1
   rw [List.drop_eq_getElem_cons hil]
   unfold findFrom
   have inner : ∀ (e j : Nat), j + e = l[i].length → Ev (fun k => spec_l5Find.l1 k n i j l) (if idxFrom j (l[i].drop j) n ≥ 0 then ((i : Int), idxFrom j (l[i].drop j) n) else findFrom (i + 1) (l.drop (i + 1)) n) := by
    intro e
    induction e with
    | zero =>
     intro j hj
     rw [List.drop_of_length_le (by omega)]
     refine Ev.step (fun k => ?_) (ih (i + 1) (by omega))
     simp only [spec_l5Find.l1]
     rw [if_pos (by omega), if_pos (by omega), rdR l i hil, if_neg (by omega), wrap_succ (by omega)]
    | succ e ih2 =>
     intro j hj
     have hjl : j < l[i].length := by omega
     rw [List.drop_eq_getElem_cons hjl]
     unfold idxFrom
     by_cases c : l[i][j] = n
     ·simp only [if_pos c, if_pos (show (j : Int) ≥ 0 by omega)]
      refine Ev.step (f := fun _ => some _) (fun k => ?_) (Ev.now _)
      simp only [spec_l5Find.l1]
      rw [if_pos (by omega), if_pos (by omega), rdR l i hil, if_pos (by omega), if_pos (by omega), rd_at l[i] j hjl, if_pos c]
     ·simp only [if_neg c]
      refine Ev.step (fun k => ?_) (ih2 (j + 1) (by omega))
      simp only [spec_l5Find.l1]
      rw [if_pos (by omega), if_pos (by omega), rdR l i hil, if_pos (by omega), if_pos (by omega), rd_at l[i] j hjl, if_neg c, wrap_succ (by omega)]
   refine Ev.step (fun k => ?_) (inner l[i].length 0 (by omega))
   simp only [spec_l5Find.l0]
   rw [if_pos (by omega)]
   rfl
 exact Ev.congr (f := fun k => spec_l5Find.l0 k n ((0 : Nat) : Int) l) (fun k => rfl) (by simpa using key l.length 0 (by omega))
/-- None of a row's numbers stands in a yard. -/
def apart (Y : List (List Int)) (s : List Int) : Bool := s.all fun n => decide ((findFrom 0 Y n).1 < 0)
def termOk (Y : List (List Int)) (h : Int) (S : List (List Int)) : Bool := yardOk Y && bayOk h S && S.all (apart Y)
theorem spec_l24Good_loop (Y : List (List Int)) (h : Int) (S : List (List Int)) (hY : rowsOk Y) (hS : rowsOk S) : ∀ (d i : Nat), i + d = S.length → Ev (fun k => Aa.l0 k i Y h S) ((S.drop i).all (apart Y)) := by
 have hS1 := hS.1
 intro d
 induction d with
 | zero =>
  intro i hi
  rw [List.drop_of_length_le (by omega)]
  exact Ev.step (f := fun _ => some _) (fun k => by simp only [Aa.l0]; rw [if_neg (by omega)]; rfl) (Ev.now _)
 | succ d ih =>
  intro i hi
  have hil : i < S.length := by omega
  have hs := hS.2 _ (List.getElem_mem hil)
  rw [List.drop_eq_getElem_cons hil, List.all_cons]
  have inner : ∀ (e j : Nat), j + e = S[i].length → Ev (fun k => Aa.l1 k i j Y h S) (apart Y (S[i].drop j) && (S.drop (i + 1)).all (apart Y)) := by
   intro e
   induction e with
   | zero =>
    intro j hj
    rw [List.drop_of_length_le (by omega)]
    refine Ev.step (fun k => ?_) (by simpa [apart] using ih (i + 1) (by omega))
    simp only [Aa.l1]
    rw [if_pos (by omega), if_pos (by omega), rdR S i hil, if_neg (by omega), wrap_succ (by omega)]
    rfl
   | succ e ih2 =>
    intro j hj
    have hjl : j < S[i].length := by omega
    rw [List.drop_eq_getElem_cons hjl]
    refine Ev.step (f := fun k => (spec_l5Find.f k Y S[i][j]).bind fun t => if t.1 ≥ 0 then some false else Aa.l1 k i ((j + 1 : Nat) : Int) Y h S) (fun k => ?_) (Ev.bind (spec_l5Find_ev Y _ hY) ?_)
    ·simp only [Aa.l1]
     rw [if_pos (by omega), if_pos (by omega), rdR S i hil, if_pos (by omega), if_pos (by omega), rd_at S[i] j hjl, wrap_succ (by omega)]
    ·by_cases c : (findFrom 0 Y S[i][j]).1 ≥ 0
     ·have e1 : apart Y (S[i][j] :: S[i].drop (j + 1)) = false := by simp only [apart, List.all_cons, decide_eq_false (show ¬ (findFrom 0 Y S[i][j]).1 < 0 by omega), Bool.false_and]
      simp only [if_pos c, e1, Bool.false_and]; exact Ev.now _
     ·have e1 : apart Y (S[i][j] :: S[i].drop (j + 1)) = apart Y (S[i].drop (j + 1)) := by simp only [apart, List.all_cons, decide_eq_true (show (findFrom 0 Y S[i][j]).1 < 0 by omega), Bool.true_and]
      simp only [if_neg c, e1]; exact ih2 (j + 1) (by omega)
  refine Ev.step (fun k => ?_) (inner S[i].length 0 (by omega))
  simp only [Aa.l0]
  rw [if_pos (by omega)]
  rfl
theorem F5 (Y : List (List Int)) (h : Int) (S : List (List Int)) (hY : rowsOk Y) (hS : rowsOk S) : ∀ (d i : Nat), i + d = S.length → Ev (fun k => impl_IsValidTerminal.l0 k S (S.length : Int) i Y h S) ((S.drop i).all (apart Y)) := by
 have hS1 := hS.1
 intro d
 induction d with
 | zero =>
  intro i hi
  rw [List.drop_of_length_le (by omega)]
  exact Ev.step (f := fun _ => some _) (fun k => by simp only [impl_IsValidTerminal.l0]; rw [if_neg (by omega)]; rfl) (Ev.now _)
 | succ d ih =>
  intro i hi
  have hil : i < S.length := by omega
  have hs := hS.2 _ (List.getElem_mem hil)
  rw [List.drop_eq_getElem_cons hil, List.all_cons]
  have inner : ∀ (e j : Nat), j + e = S[i].length → Ev (fun k => impl_IsValidTerminal.l1 k S (S.length : Int) i S[i] (S[i].length : Int) j Y h S) (apart Y (S[i].drop j) && (S.drop (i + 1)).all (apart Y)) := by
   intro e
   induction e with
   | zero =>
    intro j hj
    rw [List.drop_of_length_le (by omega)]
    refine Ev.step (fun k => ?_) (by simpa [apart] using ih (i + 1) (by omega))
    simp only [impl_IsValidTerminal.l1]
    rw [if_neg (by omega), wrap_succ (by omega)]
    rfl
   | succ e ih2 =>
    intro j hj
    have hjl : j < S[i].length := by omega
    rw [List.drop_eq_getElem_cons hjl]
    refine Ev.step (f := fun k => (Aq.f k Y S[i][j]).bind fun t => if t.1 ≥ 0 then some false else impl_IsValidTerminal.l1 k S (S.length : Int) i S[i] (S[i].length : Int) ((j + 1 : Nat) : Int) Y h S) (fun k => ?_) (Ev.bind (place_ev Y _ hY) ?_)
    ·simp only [impl_IsValidTerminal.l1]
     rw [if_pos (by omega), if_pos (by omega), if_pos (by omega), rd_at S[i] j hjl, wrap_succ (by omega)]
    ·by_cases c : (findFrom 0 Y S[i][j]).1 ≥ 0
     ·have e1 : apart Y (S[i][j] :: S[i].drop (j + 1)) = false := by simp only [apart, List.all_cons, decide_eq_false (show ¬ (findFrom 0 Y S[i][j]).1 < 0 by omega), Bool.false_and]
      simp only [if_pos c, e1, Bool.false_and]; exact Ev.now _
     ·have e1 : apart Y (S[i][j] :: S[i].drop (j + 1)) = apart Y (S[i].drop (j + 1)) := by simp only [apart, List.all_cons, decide_eq_true (show (findFrom 0 Y S[i][j]).1 < 0 by omega), Bool.true_and]
      simp only [if_neg c, e1]; exact ih2 (j + 1) (by omega)
  refine Ev.step (fun k => ?_) (inner S[i].length 0 (by omega))
  simp only [impl_IsValidTerminal.l0]
  rw [if_pos (by omega), if_pos (by omega), if_pos (by omega), rdR S i hil]
  rfl
theorem specTerm_ev (Y : List (List Int)) (h : Int) (S : List (List Int)) (hY : rowsOk Y) (hS : rowsOk S) : Ev (fun k => Aa.f k Y h S) (termOk Y h S) := by
 have stop : Ev (fun k => Aa.j0 k true Y h S) false := Ev.step (f := fun _ => some _) (fun k => by simp only [Aa.j0]; rw [if_pos trivial]) (Ev.now _)
 unfold Aa.f termOk
 refine Ev.bind (specYard_ev Y) ?_
 cases c : yardOk Y with
 | false => simp only [Bool.false_eq_true, if_false, Bool.false_and]; exact stop
 | true =>
  simp only [if_true, Bool.true_and]
  refine Ev.bind (specBay_ev h S) ?_
  cases c2 : bayOk h S with
  | false => simp only [Bool.not_false, Bool.false_and]; exact stop
  | true =>
   simp only [Bool.not_true, Bool.true_and]
   refine Ev.step (fun k => ?_) (by simpa using spec_l24Good_loop Y h S hY hS S.length 0 (by omega))
   simp only [Aa.j0]
   rw [if_neg (by decide)]
theorem implTerm_ev (Y : List (List Int)) (h : Int) (S : List (List Int)) (hY : rowsOk Y) (hS : rowsOk S) : Ev (fun k => impl_IsValidTerminal.f k Y h S) (termOk Y h S) := by
 have stop : Ev (fun k => impl_IsValidTerminal.j0 k true Y h S) false := Ev.step (f := fun _ => some _) (fun k => by simp only [impl_IsValidTerminal.j0]; rw [if_pos trivial]) (Ev.now _)
 unfold impl_IsValidTerminal.f termOk
 rw [implYard_eq]
 simp only [Option.bind_some]
 cases c : yardOk Y with
 | false => simp only [Bool.false_eq_true, if_false, Bool.false_and]; exact stop
 | true =>
  simp only [if_true, Bool.true_and]
  rw [implBay_eq]
  simp only [Option.bind_some]
  cases c2 : bayOk h S with
  | false => simp only [Bool.not_false, Bool.false_and]; exact stop
  | true =>
   simp only [Bool.not_true, Bool.true_and]
   refine Ev.step (fun k => ?_) (by simpa using F5 Y h S hY hS S.length 0 (by omega))
   simp only [impl_IsValidTerminal.j0]
   rw [if_neg (by decide)]
theorem szTerm_le (Y : List (List Int)) (h : Int) (S : List (List Int)) (hY : Y.length ≤ 4611686018427387904) (hYr : ∀ s ∈ Y, s.length ≤ 4611686018427387904) (hS : S.length ≤ 4611686018427387904) (hSr : ∀ s ∈ S, s.length ≤ 4611686018427387904) :
  ∃ r, Ev (fun k => Cj.f k Y h S 1048576) r ∧ (¬ r < 0 → r ≤ 1048576 ∧ rowsOk Y ∧ rowsOk S) := by
 unfold Cj.f Dn.f Dv.f
 obtain ⟨r, hr, hq⟩ := szIntSS_ev Y 1048576 (by omega) (by omega) hY hYr
 by_cases c : r < 0
 ·refine ⟨-1, Ev.bind (Ev.bind hr (r := -1) ?_) ?_, fun z => absurd (by decide) z⟩
  ·simp only [if_pos c]; exact Ev.now _
  ·simp only [if_pos (show (-1 : Int) < 0 by decide)]; exact Ev.now _
 ·rcases hq with q | ⟨q1, q2, q3, q4⟩
  ·exact absurd q c
  obtain ⟨r2, hr2, hq2⟩ := szIntSS_ev S r q1 q2 hS hSr
  have hYo : rowsOk Y := ⟨by omega, fun s hs => by have := q4 s hs; omega⟩
  by_cases c2 : r2 < 0
  ·refine ⟨-1, Ev.bind (Ev.bind hr (r := r) ?_) ?_, fun z => absurd (by decide) z⟩
   ·simp only [if_neg c]; exact Ev.now _
   ·simp only [if_neg c]
    refine Ev.bind (Ev.bind hr2 (r := -1) ?_) ?_
    ·simp only [if_pos c2]; exact Ev.now _
    ·simp only [if_pos (show (-1 : Int) < 0 by decide)]; exact Ev.now _
  ·rcases hq2 with p | ⟨p1, p2, p3, p4⟩
   ·exact absurd p c2
   refine ⟨r2, Ev.bind (Ev.bind hr (r := r) ?_) ?_, fun _ => ⟨by omega, hYo, by omega, fun s hs => by have := p4 s hs; omega⟩⟩
   ·simp only [if_neg c]; exact Ev.now _
   ·simp only [if_neg c]
    refine Ev.bind (Ev.bind hr2 (r := r2) ?_) ?_
    ·simp only [if_neg c2]; exact Ev.now _
    ·simp only [if_neg c2]; exact Ev.now _
theorem szTerm_ev (Y : List (List Int)) (h : Int) (S : List (List Int)) (hY : Y.length ≤ 4611686018427387904) (hYr : ∀ s ∈ Y, s.length ≤ 4611686018427387904) (hS : S.length ≤ 4611686018427387904) (hSr : ∀ s ∈ S, s.length ≤ 4611686018427387904) :
  ∃ r, Ev (fun k => Cj.f k Y h S 1048576) r ∧ (¬ r < 0 → rowsOk Y ∧ rowsOk S) := by
 obtain ⟨r, h1, h2⟩ := szTerm_le Y h S hY hYr hS hSr
 exact ⟨r, h1, fun c => (h2 c).2⟩
theorem toTerm_ev (Y : List (List Int)) (h : Int) (S : List (List Int)) (hY : rowsOk Y) (hS : rowsOk S) : Ev (fun k => Bq.f k Y h S) (Y, h, S) := by
 unfold Bq.f Dy.f Dz.f
 exact Ev.bind (Ev.bind (toIntSS_ev Y hY.1 hY.2) (Ev.now _)) (Ev.bind (Ev.bind (toIntSS_ev S hS.1 hS.2) (Ev.now _)) (Ev.now _))
theorem eqTerm_ev (Y : List (List Int)) (h : Int) (S : List (List Int)) (hY : rowsOk Y) (hS : rowsOk S) : Ev (fun k => Dp.f k Y h S Y h S) true := by
 unfold Dp.f Dl.f Dt.f
 refine Ev.bind (Ev.bind (eqIntSS_ev Y hY.1 hY.2) (r := true) (by simp only [if_true]; exact Ev.now _)) ?_
 simp only [if_true]
 refine Ev.bind (Ev.bind (eqIntSS_ev S hS.1 hS.2) (r := true) (by simp only [if_true]; exact Ev.now _)) ?_
 simp only [if_true]
 exact Ev.now _
end Go.Proofs.Ytnggfglmjdiaaaa.X

namespace Go.Proofs.Ytnggfglmjdiaaaa.X
open Go.RowKit Go.Proofs.YtnggfglmjdiaaaaW.PrintWords Go.Proofs.YtnggfglmjdiaaaaW.PrintLast Go.Proofs.YtnggfglmjdiaaaaW.PrintMore
attribute [local go_sem] max2_int min2_int max_two min_two max_three min_three max_four min_four
def Bj.l0 : Nat → List Int → Int → Int → Option (Int × List Int)
 | 0, _, _, _ => none
 | k + 1, x0, x1, x5 => if x5 < (x0.length : Int) then (if 0 ≤ x5 then (Bj.l0 k (x0.set (x5 : Int).toNat x1) (wrap64 (x1 + 1)) (wrap64 (x5 + 1))) else (none)) else (some (x1, x0))
def Bj.f (k : Nat) (l0 : List Int) (a1 : Int) : Option (Int × List Int) := Bj.l0 k l0 a1 0
theorem Bj.mono_l : ∀ k, (∀ y0 y1 y2, LeO (Bj.l0 k y0 y1 y2) (Bj.l0 (k + 1) y0 y1 y2))
 | 0 => fun _ _ _ r h => by simp [Bj.l0] at h
 | k + 1 => by
  have ih0 := Bj.mono_l k
  ·intro y0 y1 y2
   unfold Bj.l0
   repeat' first
   | (with_reducible exact ih0 _ _ _)
   | (with_reducible exact LeO.refl _)
   | (with_reducible exact LeO.none _)
   | (with_reducible refine LeO.ite ?_ ?_)
   | (with_reducible refine LeO.bind ?_ (fun _ => ?_))
   | exact ih0 _ _ _
   | exact LeO.none _
   | refine LeO.ite ?_ ?_
   | refine LeO.bind ?_ (fun _ => ?_)
theorem Bj.mono : ∀ a0 a1 k, LeO (Bj.f k a0 a1) (Bj.f (k + 1) a0 a1) := by
 intro a0 a1 k
 have ih0 := Bj.mono_l k
 unfold Bj.f
 repeat' first
   | (with_reducible exact ih0 _ _ _)
   | (with_reducible exact LeO.refl _)
   | (with_reducible exact LeO.none _)
   | (with_reducible refine LeO.ite ?_ ?_)
   | (with_reducible refine LeO.bind ?_ (fun _ => ?_))
   | exact ih0 _ _ _
   | exact LeO.none _
   | refine LeO.ite ?_ ?_
   | refine LeO.bind ?_ (fun _ => ?_)
set_option maxHeartbeats 8000000 in
set_option maxRecDepth 100000 in
theorem Bj.calls (k : Nat) (P0_ : Nat → Prop) (u9000_ : Value) (l0 : List Int) (a1 : Int) (r1 : Int) (r2 : List Int) (w0 w : World) (hB : Below w0.heap.size w0 w) (ho0 : Kd.R (Kd.int .i64) 3 w w0.heap.size P0_ u9000_ l0) (h : Bj.f k l0 a1 = some (r1, r2)) :
  Calls Try.prog 86 #[u9000_, .int .i64 a1] w fun e w' => e = .returned (.int .i64 r1) ∧ Kd.R (Kd.int .i64) 3 w' w0.heap.size (fun k_ => (P0_ k_ ∨ w.heap.size ≤ k_)) u9000_ r2 ∧ Below w0.heap.size w0 w' ∧ Kept w w' (fun k_ => P0_ k_) := by
 have HO0 := Aside0.mk (show Kd.R (Kd.int .i64) 3 w w0.heap.size (fun k_ => (P0_ k_ ∨ w.heap.size ≤ k_)) u9000_ l0 from Kd.Dq ho0 (fun k_ hk => (.inl hk)))
 have HK := Aside0.mk (Kept.refl w (fun k_ => P0_ k_))
 have HW0 := Aside0.mk hB.size
 have HB := Aside0.mk hB
 clear hB
 have H : (Bj.l0 k l0 a1 0) = some (r1, r2) := h
 clear h
 have H' := Aside0.mk H
 clear H
 go_enter Try.func86, Try.ntmps86
 go_wp2
 go_loopg [1, 5] k (fun kq v1 v5 w' => ∃ (x0_1 : List Int) (x1_1 : Int) (x5_1 : Int), v1 = .int .i64 x1_1 ∧ v5 = .int .i64 x5_1 ∧ Aside0 (Bj.l0 kq x0_1 x1_1 x5_1 = some (r1, r2)) ∧ Aside0 (kq ≤ k) ∧ Aside0 (Kd.R (Kd.int .i64) 3 w' w0.heap.size (fun k_ => (P0_ k_ ∨ w.heap.size ≤ k_)) u9000_ x0_1) ∧ Aside0 (Kept w w' (fun k_ => P0_ k_)) ∧ Aside0 (Below w0.heap.size w0 w'))
 case atStart => exact ⟨(l0), (a1), (0), Ybd_, Ybd_, H', ⟨Nat.le_refl _⟩, ⟨by (with_reducible repeat (first | apply Kd.R_alloc | apply Kd.R_drewN | apply Kd.R_drew)); exact HO0.out⟩, ⟨by repeat (first | (with_reducible first | exact HK.out | apply Kept.alloc | apply Kept.drewN | apply Kept.drew) | exact HK.out)⟩, ⟨by repeat (first | (with_reducible first | exact HB.out | apply below_alloc | apply pw_below_drewN | apply below_drew1) | exact HB.out)⟩⟩
 case round =>
  clear H'
  try clear p2
  obtain ⟨x0_1, x1_1, x5_1, rfl, rfl, HA, HK1, HO_0, HK, HB⟩ := hrel
  cases gk with
  | zero => exact absurd HA.out (by simp [Bj.l0])
  | succ k1 =>
   have H := HA.out
   clear HA
   simp only [Bj.l0] at H
   by_cases c3 : x5_1 < (x0_1.length : Int)
   ·rw [if_pos c3] at H
    have c3b0 : decide (x5_1 < (x0_1.length : Int)) = true := decide_eq_true c3
    clear c3
    by_cases c4 : 0 ≤ x5_1
    ·rw [if_pos c4] at H
     have c4b0 : decide (0 ≤ x5_1) = true := decide_eq_true c4
     clear c4
     obtain ⟨y431, hy431⟩ : ∃ y_ : List Int, y_ = (x0_1.set (x5_1 : Int).toNat x1_1) := ⟨_, rfl⟩
     replace H : (Bj.l0 k1 y431 (wrap64 (x1_1 + 1)) (wrap64 (x5_1 + 1))) = some (r1, r2) := by first | (rw [hy431]; with_reducible exact H) | (have H2_ := (Option.bind_some _ _).symm.trans H; rw [hy431]; with_reducible exact H2_) | (have H2_ := (Option.bind_some _ _).symm.trans H; with_reducible exact H2_) | with_reducible exact H | (rw [hy431]; exact H) | exact H
     have Ny431 := Aside0.mk hy431
     clear hy431
     have H' := Aside0.mk H
     clear H
     obtain ⟨Ao6, co6, eo6⟩ := Kd.Ci HO_0.out
     subst eo6
     have p5 : 0 ≤ (x5_1 : Int) := of_decide_eq_true Yi_
     have q5 : (x5_1 : Int) < ((x0_1.length : Int) : Int) := of_decide_eq_true Yi_
     obtain ⟨go5, co5, eo5, gb5, gl5, cl5, HG5⟩ := Kd.R_form HO_0.out (by omega)
     (first | cases eo5 | (injection eo5 with ea_ en_ ec_; (first | subst ea_ | (injection ea_ with ea_; subst ea_)); subst ec_; clear en_))
     have GB5 := Aside0.mk gb5
     have GG5 := Aside0.mk HG5
     clear gb5 gl5 HG5
     have HMgo5 := Aside0.mk (show (P0_ go5 ∨ w.heap.size ≤ go5) from (HO_0.out.1 _ rfl))
     obtain ⟨hx5_0, hf5_0⟩ := Kd.R_celln 0 HO_0.out (x5_1 : Int) p5 q5
     replace p5 := eq_true p5
     replace q5 := eq_true q5
     have HP7 := Kd.R_putg HO_0.out (x5_1 : Int) x1_1
     go_wp2_with (first | ((with_reducible refine gate_store (t := 3) (p := 15) rfl ?_); refine Fa (t := 3) (p := 15) (v := ?vo_w8) (w1 := (wr.setCell ⟨go5, (x5_1 : Int).toNat, none⟩ (.int .i64 x1_1))) ?hg ?ho ?hn ?hr ?_; (case ho => rfl); (case hg => rfl); (case hn => rfl); (case hr => first | (go_simp; done) | (go_simp; rfl)); intro w8 hw; have hg : wr.grownBy w8 (some go5) := (by rw [hw]; exact HP7.2); have hp_ : Kd.R (Kd.int .i64) 3 w8 w0.heap.size (fun k_ => (P0_ k_ ∨ w.heap.size ≤ k_)) (.slice (some ⟨go5, 0, none⟩) x0_1.length co6) y431 := (by rw [hw, Ny431.out]; exact HP7.1); clear HP7; have n0_ := Aside0.mk (hp_); have n1_ := Aside0.mk ((by rw [hw]; exact below_set (HB.out) GB5.out : Below w0.heap.size w0 w8)); have n2_ := Aside0.mk (Kept.of_grown (S := (fun k_ => P0_ k_)) hg (by repeat (first | (with_reducible first | exact HK.out | apply Kept.alloc | apply Kept.drewN | apply Kept.drew) | exact HK.out)) (fun k_ e_ => (HO_0.out.1 k_ e_))); clear HO_0; clear HB; clear HK; have HO_0 := n0_; have HB := n1_; have HK := n2_; clear n0_ n1_ n2_; clear hg hw hp_))
     go_roundg k1
     case measure => have := HK1.out; omega
     case rel => exact ⟨(y431), (wrap64 (x1_1 + 1)), (wrap64 (x5_1 + 1)), Ybd_, Ybd_, H', ⟨by have := HK1.out; omega⟩, ⟨by (with_reducible repeat (first | apply Kd.R_alloc | apply Kd.R_drewN | apply Kd.R_drew)); exact HO_0.out⟩, ⟨by repeat (first | (with_reducible first | exact HK.out | apply Kept.alloc | apply Kept.drewN | apply Kept.drew) | exact HK.out)⟩, ⟨by repeat (first | (with_reducible first | exact HB.out | apply below_alloc | apply pw_below_drewN | apply below_drew1) | exact HB.out)⟩⟩
    ·rw [if_neg c4] at H
     exact absurd H (by simp)
   ·rw [if_neg c3] at H
    have c3b0 : decide (x5_1 < (x0_1.length : Int)) = false := decide_eq_false c3
    clear c3
    simp only [Option.some.injEq, Prod.mk.injEq] at H
    obtain ⟨rfl, rfl⟩ := H
    obtain ⟨Ao9, co9, eo9⟩ := Kd.Ci HO_0.out
    subst eo9
    go_wp2
    go_ret
    exact ⟨by first | rfl | (simp [errW_none, errW_some] <;> rfl) | (simp [*, errW_none, errW_some] <;> rfl), by (with_reducible repeat (first | apply Kd.R_alloc | apply Kd.R_drewN | apply Kd.R_drew)); exact HO_0.out, by repeat (first | (with_reducible first | exact HB.out | apply below_alloc | apply pw_below_drewN | apply below_drew1) | exact HB.out), by repeat (first | (with_reducible first | exact HK.out | apply Kept.alloc | apply Kept.drewN | apply Kept.drew) | exact HK.out)⟩
def Bf.l0 : Nat → List Int → Int → Int → Option (Int)
 | 0, _, _, _ => none
 | k + 1, x0, x1, x5 => if x5 < (x0.length : Int) then (if 0 ≤ x5 then (if (rd x0 x5) = x1 then (Bf.l0 k x0 (wrap64 (x1 + 1)) (wrap64 (x5 + 1))) else (some (-1))) else (none)) else (some x1)
def Bf.f (k : Nat) (l0 : List Int) (a1 : Int) : Option (Int) := Bf.l0 k l0 a1 0
theorem Bf.mono_l : ∀ k, (∀ y0 y1 y2, LeO (Bf.l0 k y0 y1 y2) (Bf.l0 (k + 1) y0 y1 y2))
 | 0 => fun _ _ _ r h => by simp [Bf.l0] at h
 | k + 1 => by
  have ih0 := Bf.mono_l k
  ·intro y0 y1 y2
   unfold Bf.l0
   repeat' first
   | (with_reducible exact ih0 _ _ _)
   | (with_reducible exact LeO.refl _)
   | (with_reducible exact LeO.none _)
   | (with_reducible refine LeO.ite ?_ ?_)
   | (with_reducible refine LeO.bind ?_ (fun _ => ?_))
   | exact ih0 _ _ _
   | exact LeO.none _
   | refine LeO.ite ?_ ?_
   | refine LeO.bind ?_ (fun _ => ?_)
theorem Bf.mono : ∀ a0 a1 k, LeO (Bf.f k a0 a1) (Bf.f (k + 1) a0 a1) := by
 intro a0 a1 k
 have ih0 := Bf.mono_l k
 unfold Bf.f
 repeat' first
   | (with_reducible exact ih0 _ _ _)
   | (with_reducible exact LeO.refl _)
   | (with_reducible exact LeO.none _)
   | (with_reducible refine LeO.ite ?_ ?_)
   | (with_reducible refine LeO.bind ?_ (fun _ => ?_))
   | exact ih0 _ _ _
   | exact LeO.none _
   | refine LeO.ite ?_ ?_
   | refine LeO.bind ?_ (fun _ => ?_)
set_option maxHeartbeats 8000000 in
set_option maxRecDepth 100000 in
theorem Bf.calls (k : Nat) (A0 : Option Addr) (c0 : Nat) (l0 : List Int) (a1 : Int) (r : Int) (w : World) (hr0 : Kd.C (Kd.int .i64) w A0 l0.length l0) (hc0 : l0.length ≤ c0) (h : Bf.f k l0 a1 = some r) :
  Calls Try.prog 87 #[.slice A0 l0.length c0, .int .i64 a1] w fun e w' => e = .returned (.int .i64 r) ∧ Drawn0 w w' := by
 have HR0 := Aside0.mk hr0
 have HC0 := Aside0.mk hc0
 clear hr0 hc0
 have H : (Bf.l0 k l0 a1 0) = some r := h
 clear h
 have H' := Aside0.mk H
 clear H
 go_enter Try.func87, Try.ntmps87
 go_wp2
 go_loopg [1, 5] k (fun kq v1 v5 w' => ∃ (x1_1 : Int) (x5_1 : Int), v1 = .int .i64 x1_1 ∧ v5 = .int .i64 x5_1 ∧ Aside0 (Bf.l0 kq l0 x1_1 x5_1 = some r) ∧ Aside0 (kq ≤ k) ∧ Drawn0 w w')
 case atStart => exact ⟨(a1), (0), Ybd_, Ybd_, H', ⟨Nat.le_refl _⟩, by repeat (first | exact Drawn0.refl _ | apply Drawn0.step)⟩
 case round =>
  clear H'
  try clear p2
  obtain ⟨x1_1, x5_1, rfl, rfl, HA, HK1, ⟨m1, rfl⟩⟩ := hrel
  cases gk with
  | zero => exact absurd HA.out (by simp [Bf.l0])
  | succ k1 =>
   have H := HA.out
   clear HA
   simp only [Bf.l0] at H
   by_cases c3 : x5_1 < (l0.length : Int)
   ·rw [if_pos c3] at H
    have c3b0 : decide (x5_1 < (l0.length : Int)) = true := decide_eq_true c3
    clear c3
    by_cases c4 : 0 ≤ x5_1
    ·rw [if_pos c4] at H
     have c4b0 : decide (0 ≤ x5_1) = true := decide_eq_true c4
     clear c4
     by_cases c5 : (rd l0 x5_1) = x1_1
     ·rw [if_pos c5] at H
      have c5b0 : ((rd l0 x5_1) == x1_1) = true := beq_iff_eq.mpr c5
      have c5b1 : ((rd l0 x5_1) != x1_1) = false := bne_eq_false_iff_eq.mpr c5
      clear c5
      have H' := Aside0.mk H
      clear H
      have p432 : 0 ≤ (x5_1 : Int) := of_decide_eq_true Yi_
      have q432 : x5_1 < (l0.length : Int) := of_decide_eq_true Yi_
      obtain ⟨ad432, e432, hx432_0⟩ := Kd.Df HR0.out x5_1 p432 q432
      cases e432
      replace p432 := eq_true p432
      replace q432 := eq_true q432
      go_wp2
      go_roundg k1
      case measure => have := HK1.out; omega
      case rel => exact ⟨(wrap64 (x1_1 + 1)), (wrap64 (x5_1 + 1)), Ybd_, Ybd_, H', ⟨by have := HK1.out; omega⟩, by repeat (first | exact Drawn0.refl _ | apply Drawn0.step)⟩
     ·rw [if_neg c5] at H
      have c5b0 : ((rd l0 x5_1) == x1_1) = false := beq_eq_false_iff_ne.mpr c5
      have c5b1 : ((rd l0 x5_1) != x1_1) = true := bne_iff_ne.mpr c5
      obtain rfl := Option.some.inj H
      have p432 : 0 ≤ (x5_1 : Int) := of_decide_eq_true Yi_
      have q432 : x5_1 < (l0.length : Int) := of_decide_eq_true Yi_
      obtain ⟨ad432, e432, hx432_0⟩ := Kd.Df HR0.out x5_1 p432 q432
      cases e432
      replace p432 := eq_true p432
      replace q432 := eq_true q432
      go_wp2
      go_ret
      exact ⟨by first | rfl | (simp; done) | (simp [*]; done), by repeat (first | exact Drawn0.refl _ | apply Drawn0.step)⟩
    ·rw [if_neg c4] at H
     exact absurd H (by simp)
   ·rw [if_neg c3] at H
    have c3b0 : decide (x5_1 < (l0.length : Int)) = false := decide_eq_false c3
    clear c3
    obtain rfl := Option.some.inj H
    go_wp2
    go_ret
    exact ⟨by first | rfl | (simp; done) | (simp [*]; done), by repeat (first | exact Drawn0.refl _ | apply Drawn0.step)⟩
end Go.Proofs.Ytnggfglmjdiaaaa.X

namespace Go.Proofs.Ytnggfglmjdiaaaa.X
open Go.RowKit Go.Proofs.YtnggfglmjdiaaaaW.PrintWords Go.Proofs.YtnggfglmjdiaaaaL
end Go.Proofs.Ytnggfglmjdiaaaa.X

namespace Go.Proofs.Ytnggfglmjdiaaaa.X
open Go.RowKit Go.Proofs.YtnggfglmjdiaaaaW.PrintWords Go.Proofs.YtnggfglmjdiaaaaW.PrintLast Go.Proofs.YtnggfglmjdiaaaaW.PrintMore
attribute [local go_sem] max2_int min2_int max_two min_two max_three min_three max_four min_four
def Bd.l0 : Nat → List (List Int) → Int → Int → Option (Int × List (List Int))
 | 0, _, _, _ => none
 | k + 1, x0, x1, x5 => if x5 < (x0.length : Int) then (if 0 ≤ x5 then ((Bj.f k (rd_L1 x0 x5) x1).bind fun t => Bd.l0 k (x0.set (x5 : Int).toNat t.2) t.1 (wrap64 (x5 + 1))) else none) else some (x1, x0)
def Bd.f (k : Nat) (l0 : List (List Int)) (a1 : Int) : Option (Int × List (List Int)) := Bd.l0 k l0 a1 0
theorem Bd.mono_l : ∀ k y0 y1 y2, LeO (Bd.l0 k y0 y1 y2) (Bd.l0 (k + 1) y0 y1 y2)
 | 0 => fun _ _ _ r h => by simp [Bd.l0] at h
 | k + 1 => by
  intro y0 y1 y2
  have ih := Bd.mono_l k
  unfold Bd.l0
  refine LeO.ite (LeO.ite ?_ (LeO.refl _)) (LeO.refl _)
  exact LeO.bind (Bj.mono _ _ _) (fun _ => ih _ _ _)
theorem Bd.mono (a0 : List (List Int)) (a1 : Int) (k : Nat) : LeO (Bd.f k a0 a1) (Bd.f (k + 1) a0 a1) := Bd.mono_l k _ _ _
set_option maxHeartbeats 8000000 in
set_option maxRecDepth 100000 in
theorem Bd.calls (k : Nat) (P0_ : Nat → Prop) (u9000_ : Value) (l0 : List (List Int)) (a1 : Int) (r1 : Int) (r2 : List (List Int)) (w0 w : World) (hB : Below w0.heap.size w0 w) (ho0 : Kd.S (Kd.slice 3 (Kd.int .i64)) 73 w w0.heap.size P0_ u9000_ l0) (h : Bd.f k l0 a1 = some (r1, r2)) :
  Calls Try.prog 73 #[u9000_, .int .i64 a1] w fun e w' => e = .returned (.int .i64 r1) ∧ Kd.S (Kd.slice 3 (Kd.int .i64)) 73 w' w0.heap.size P0_ u9000_ r2 ∧ Below w0.heap.size w0 w' ∧ Kept w w' (fun k_ => P0_ k_) := by
 have HO := Aside0.mk ho0
 have HK := Aside0.mk (Kept.refl w (fun k_ => P0_ k_))
 have HB := Aside0.mk hB
 clear hB ho0
 have H' := Aside0.mk (show Bd.l0 k l0 a1 0 = some (r1, r2) from h)
 clear h
 go_enter Try.func73, Try.ntmps73
 go_wp2
 go_loopg [1, 5] k (fun kq v1 v5 w' => ∃ (xs : List (List Int)) (x1 : Int) (x5 : Int), v1 = .int .i64 x1 ∧ v5 = .int .i64 x5 ∧ Aside0 (Bd.l0 kq xs x1 x5 = some (r1, r2)) ∧ Aside0 (kq ≤ k) ∧ Aside0 (Kd.S (Kd.slice 3 (Kd.int .i64)) 73 w' w0.heap.size P0_ u9000_ xs) ∧ Aside0 (Kept w w' (fun k_ => P0_ k_)) ∧ Aside0 (Below w0.heap.size w0 w'))
 case atStart => exact ⟨l0, a1, 0, rfl, rfl, H', ⟨Nat.le_refl _⟩, HO, HK, HB⟩
 case round =>
  clear H' HO HK HB
  obtain ⟨xs, x1, x5, rfl, rfl, HA, HK1, HO, HK, HB⟩ := hrel
  cases gk with
  | zero => exact absurd HA.out (by simp [Bd.l0])
  | succ k1 =>
   have H := HA.out
   clear HA
   simp only [Bd.l0] at H
   by_cases c3 : x5 < (xs.length : Int)
   ·rw [if_pos c3] at H
    by_cases c4 : 0 ≤ x5
    ·rw [if_pos c4] at H
     replace H := Option.bind_eq_some_iff.mp H
     obtain ⟨⟨t1, t2⟩, A0, H⟩ := H
     have A5 := Aside0.mk A0
     clear A0
     have H' := Aside0.mk (show Bd.l0 k1 (xs.set (x5 : Int).toNat t2) t1 (wrap64 (x5 + 1)) = some (r1, r2) from H)
     clear H
     obtain ⟨go5, co5, eo5, gb5, gl5, cl5⟩ := Kd.S_form HO.out (by omega)
     subst eo5
     have c3b0 : decide (x5 < (xs.length : Int)) = true := decide_eq_true c3
     have c4b0 : decide (0 ≤ x5) = true := decide_eq_true c4
     obtain ⟨oki, v, hx, hR, hoki, hback⟩ := Go.Proofs.YtnggfglmjdiaaaaOwn.lend HO.out x5 c4 c3
     have HR := Aside0.mk (show Kd.R (Kd.int .i64) 3 wr w0.heap.size oki v (rd_L1 xs x5) from hR)
     have HQ := Aside0.mk hoki
     have HBK := Aside0.mk hback
     clear hR hoki hback gb5 gl5 cl5
     replace c3 := eq_true c3
     replace c4 := eq_true c4
     go_wp2_with (first | ((with_reducible refine gate_callee (f := 86) rfl ?_); (try (refine gate_guard (by rfl) ?_; dsimp only)); refine goesL_ (some 17) rfl rfl Try.func86 Yj_ rfl #[v, .int .i64 x1] rfl Yf_ ?_; (with_reducible refine (Bj.calls k1 oki v (rd_L1 xs x5) x1 t1 t2 w0 _ HB.out HR.out A5.out).mono ?_); rintro e w5 ⟨rfl, ho, hb, hk⟩; refine ⟨_, rfl, ?_⟩; have n0_ := Aside0.mk (HBK.out _ _ _ hk ho); have n1_ := Aside0.mk hb; have n2_ := Aside0.mk (Kept.then_ (S := fun k_ => P0_ k_) HK.out hk (fun k_ hk_ => .inl (HQ.out k_ hk_).1)); clear HO HB HK; have HO := n0_; have HB := n1_; have HK := n2_; clear n0_ n1_ n2_ ho hb hk))
     go_roundg k1
     case measure => have := HK1.out; omega
     case rel => exact ⟨xs.set (x5 : Int).toNat t2, t1, wrap64 (x5 + 1), by first | rfl | (simp; done) | (simp [*]; done), by first | rfl | (simp; done) | (simp [*]; done), H', ⟨by have := HK1.out; omega⟩, HO, HK, HB⟩
    ·rw [if_neg c4] at H
     cases H
   ·rw [if_neg c3] at H
    have c3b0 : decide (x5 < (xs.length : Int)) = false := decide_eq_false c3
    clear c3
    simp only [Option.some.injEq, Prod.mk.injEq] at H
    obtain ⟨rfl, rfl⟩ := H
    obtain ⟨Ao9, co9, eo9⟩ := Kd.S_slice HO.out
    subst eo9
    go_wp2
    go_ret
    exact ⟨rfl, HO.out, HB.out, HK.out⟩
def Au.l0 : Nat → List (List Int) → Int → Int → Option (Int)
 | 0, _, _, _ => none
 | k + 1, x0, x1, x5 => if x5 < (x0.length : Int) then (if 0 ≤ x5 then ((Bf.f k (rd_L1 x0 x5) x1).bind fun t434 => (if t434 < 0 then (some (-1)) else (Au.l0 k x0 t434 (wrap64 (x5 + 1))))) else (none)) else (some x1)
def Au.f (k : Nat) (l0 : List (List Int)) (a1 : Int) : Option (Int) := Au.l0 k l0 a1 0
theorem Au.mono_l : ∀ k, (∀ y0 y1 y2, LeO (Au.l0 k y0 y1 y2) (Au.l0 (k + 1) y0 y1 y2))
 | 0 => fun _ _ _ r h => by simp [Au.l0] at h
 | k + 1 => by
  have ih0 := Au.mono_l k
  ·intro y0 y1 y2
   unfold Au.l0
   repeat' first
   | (with_reducible exact ih0 _ _ _)
   | (with_reducible exact Bf.mono _ _ _)
   | (with_reducible exact LeO.refl _)
   | (with_reducible exact LeO.none _)
   | (with_reducible refine LeO.ite ?_ ?_)
   | (with_reducible refine LeO.bind ?_ (fun _ => ?_))
   | exact ih0 _ _ _
   | exact Bf.mono _ _ _
   | exact LeO.none _
   | refine LeO.ite ?_ ?_
   | refine LeO.bind ?_ (fun _ => ?_)
theorem Au.mono : ∀ a0 a1 k, LeO (Au.f k a0 a1) (Au.f (k + 1) a0 a1) := by
 intro a0 a1 k
 have ih0 := Au.mono_l k
 unfold Au.f
 repeat' first
   | (with_reducible exact ih0 _ _ _)
   | (with_reducible exact Bf.mono _ _ _)
   | (with_reducible exact LeO.refl _)
   | (with_reducible exact LeO.none _)
   | (with_reducible refine LeO.ite ?_ ?_)
   | (with_reducible refine LeO.bind ?_ (fun _ => ?_))
   | exact ih0 _ _ _
   | exact Bf.mono _ _ _
   | exact LeO.none _
   | refine LeO.ite ?_ ?_
   | refine LeO.bind ?_ (fun _ => ?_)
set_option maxHeartbeats 8000000 in
set_option maxRecDepth 100000 in
theorem Au.calls (k : Nat) (A0 : Option Addr) (c0 : Nat) (l0 : List (List Int)) (a1 : Int) (r : Int) (w : World) (hr0 : Kd.C (Kd.slice 3 (Kd.int .i64)) w A0 l0.length l0) (hc0 : l0.length ≤ c0) (h : Au.f k l0 a1 = some r) :
  Calls Try.prog 74 #[.slice A0 l0.length c0, .int .i64 a1] w fun e w' => e = .returned (.int .i64 r) ∧ Drawn0 w w' := by
 have HR0 := Aside0.mk hr0
 have HC0 := Aside0.mk hc0
 clear hr0 hc0
 have H : (Au.l0 k l0 a1 0) = some r := h
 clear h
 have H' := Aside0.mk H
 clear H
 go_enter Try.func74, Try.ntmps74
 go_wp2
 go_loopg [1, 5] k (fun kq v1 v5 w' => ∃ (x1_1 : Int) (x5_1 : Int), v1 = .int .i64 x1_1 ∧ v5 = .int .i64 x5_1 ∧ Aside0 (Au.l0 kq l0 x1_1 x5_1 = some r) ∧ Aside0 (kq ≤ k) ∧ Drawn0 w w')
 case atStart => exact ⟨(a1), (0), Ybd_, Ybd_, H', ⟨Nat.le_refl _⟩, by repeat (first | exact Drawn0.refl _ | apply Drawn0.step)⟩
 case round =>
  clear H'
  try clear p2
  obtain ⟨x1_1, x5_1, rfl, rfl, HA, HK1, ⟨m1, rfl⟩⟩ := hrel
  cases gk with
  | zero => exact absurd HA.out (by simp [Au.l0])
  | succ k1 =>
   have H := HA.out
   clear HA
   simp only [Au.l0] at H
   by_cases c3 : x5_1 < (l0.length : Int)
   ·rw [if_pos c3] at H
    have c3b0 : decide (x5_1 < (l0.length : Int)) = true := decide_eq_true c3
    clear c3
    by_cases c4 : 0 ≤ x5_1
    ·rw [if_pos c4] at H
     have c4b0 : decide (0 ≤ x5_1) = true := decide_eq_true c4
     clear c4
     replace H := Option.bind_eq_some_iff.mp H
     obtain ⟨t434, A50, H⟩ := H
     try dsimp only at H
     have A5 := Aside0.mk A50
     clear A50
     by_cases c6 : t434 < 0
     ·rw [if_pos c6] at H
      have c6b0 : decide (t434 < 0) = true := decide_eq_true c6
      clear c6
      obtain rfl := Option.some.inj H
      have p433 : 0 ≤ (x5_1 : Int) := of_decide_eq_true Yi_
      have q433 : x5_1 < (l0.length : Int) := of_decide_eq_true Yi_
      obtain ⟨ad433, A433_0, c433_0, e433, hx433_0, hl433_0, hi433_0⟩ := Bv HR0.out x5_1 p433 q433
      cases e433
      have HR433_0 := Aside0.mk hi433_0
      have HC433_0 := Aside0.mk hl433_0
      clear hi433_0 hl433_0
      replace p433 := eq_true p433
      replace q433 := eq_true q433
      go_wp2_with (first | ((with_reducible refine gate_callee (f := 87) rfl ?_); refine goesL_ (some 17) rfl rfl Try.func87 Yj_ rfl #[.slice A433_0 (rd_L1 l0 x5_1).length c433_0, .int .i64 x1_1] rfl Yf_ ?_; (with_reducible refine (Bf.calls k1 _ _ (rd_L1 l0 x5_1) x1_1 t434 _ ?side1 ?side2 A5.out).mono ?_); (case side1 => repeat (first | exact HR433_0.out | (with_reducible refine Kd.C_alloc ?_ _) | (with_reducible refine Kd.C_drewN ?_ _) | (with_reducible refine Kd.C_drew ?_))); (case side2 => exact HC433_0.out); rintro e w' ⟨rfl, ⟨nd, rfl⟩⟩; refine ⟨_, rfl, ?_⟩))
      go_ret
      exact ⟨by first | rfl | (simp; done) | (simp [*]; done), by repeat (first | exact Drawn0.refl _ | apply Drawn0.step)⟩
     ·rw [if_neg c6] at H
      have c6b0 : decide (t434 < 0) = false := decide_eq_false c6
      clear c6
      have H' := Aside0.mk H
      clear H
      have p433 : 0 ≤ (x5_1 : Int) := of_decide_eq_true Yi_
      have q433 : x5_1 < (l0.length : Int) := of_decide_eq_true Yi_
      obtain ⟨ad433, A433_0, c433_0, e433, hx433_0, hl433_0, hi433_0⟩ := Bv HR0.out x5_1 p433 q433
      cases e433
      have HR433_0 := Aside0.mk hi433_0
      have HC433_0 := Aside0.mk hl433_0
      clear hi433_0 hl433_0
      replace p433 := eq_true p433
      replace q433 := eq_true q433
      go_wp2_with (first | ((with_reducible refine gate_callee (f := 87) rfl ?_); refine goesL_ (some 17) rfl rfl Try.func87 Yj_ rfl #[.slice A433_0 (rd_L1 l0 x5_1).length c433_0, .int .i64 x1_1] rfl Yf_ ?_; (with_reducible refine (Bf.calls k1 _ _ (rd_L1 l0 x5_1) x1_1 t434 _ ?side1 ?side2 A5.out).mono ?_); (case side1 => repeat (first | exact HR433_0.out | (with_reducible refine Kd.C_alloc ?_ _) | (with_reducible refine Kd.C_drewN ?_ _) | (with_reducible refine Kd.C_drew ?_))); (case side2 => exact HC433_0.out); rintro e w' ⟨rfl, ⟨nd, rfl⟩⟩; refine ⟨_, rfl, ?_⟩))
      go_roundg k1
      case measure => have := HK1.out; omega
      case rel => exact ⟨(t434), (wrap64 (x5_1 + 1)), Ybd_, Ybd_, H', ⟨by have := HK1.out; omega⟩, by repeat (first | exact Drawn0.refl _ | apply Drawn0.step)⟩
    ·rw [if_neg c4] at H
     exact absurd H (by simp)
   ·rw [if_neg c3] at H
    have c3b0 : decide (x5_1 < (l0.length : Int)) = false := decide_eq_false c3
    clear c3
    obtain rfl := Option.some.inj H
    go_wp2
    go_ret
    exact ⟨by first | rfl | (simp; done) | (simp [*]; done), by repeat (first | exact Drawn0.refl _ | apply Drawn0.step)⟩
end Go.Proofs.Ytnggfglmjdiaaaa.X

namespace Go.Proofs.Ytnggfglmjdiaaaa.X
open Go.RowKit Go.Proofs.YtnggfglmjdiaaaaW.PrintWords Go.Proofs.YtnggfglmjdiaaaaL
def total : List (List Int) → Nat
 | [] => 0
 | r :: l => r.length + total l
end Go.Proofs.Ytnggfglmjdiaaaa.X

namespace Go.Proofs.Ytnggfglmjdiaaaa.X
open Go.RowKit Go.Proofs.YtnggfglmjdiaaaaW.PrintWords Go.Proofs.YtnggfglmjdiaaaaW.PrintLast Go.Proofs.YtnggfglmjdiaaaaW.PrintMore
attribute [local go_sem] max2_int min2_int max_two min_two max_three min_three max_four min_four
def Eb.f (k : Nat) (l0_0 : List (List Int)) (a1 : Int) : Option (Int × List (List Int)) := Bd.f k l0_0 a1
theorem Eb.mono (l0_0 : List (List Int)) (a1 : Int) (k : Nat) : LeO (Eb.f k l0_0 a1) (Eb.f (k + 1) l0_0 a1) := Bd.mono _ _ _
set_option maxHeartbeats 8000000 in
set_option maxRecDepth 100000 in
theorem Eb.calls (k : Nat) (P0_0_ : Nat → Prop) (u9000_ : Value) (l0_0 : List (List Int)) (a1 r1 : Int) (r2 : List (List Int)) (w0 w : World) (hB : Below w0.heap.size w0 w) (ho0_0 : Kd.S (Kd.slice 3 (Kd.int .i64)) 73 w w0.heap.size P0_0_ u9000_ l0_0) (h : Eb.f k l0_0 a1 = some (r1, r2)) :
  Calls Try.prog 52 #[.agg #[u9000_], .int .i64 a1] w fun e w' => e = .returned (.int .i64 r1) ∧ Kd.S (Kd.slice 3 (Kd.int .i64)) 73 w' w0.heap.size P0_0_ u9000_ r2 ∧ Below w0.heap.size w0 w' ∧ Kept w w' (fun k_ => P0_0_ k_) := by
 have hu := Try.underlying31
 have HS := Aside0.mk ho0_0
 have HB := Aside0.mk hB
 have HA := Aside0.mk (show Bd.f k l0_0 a1 = some (r1, r2) from h)
 clear ho0_0 hB h
 obtain ⟨Ao, co, eo⟩ := Kd.S_slice HS.out
 subst eo
 go_enter Try.func52, Try.ntmps52
 go_wp2_with (first | ((with_reducible refine gate_dst (N := 2) rfl ?_); refine box_event ?hg (N := 2) ?hd (cs := #[.slice Ao l0_0.length co]) (t := 31) ?hr ?_; (case hd => rfl); (case hg => rfl); (case hr => first | (go_simp; done) | (go_simp; rfl)); intro gb hg w1 hbox hb; have HSZ := Aside0.mk (show w.heap.size ≤ w1.heap.size from hb.size); have HB1 := Aside0.mk (below_then HB.out HB.out.size hb); have HK1 := Aside0.mk (Kept.of_below hb (fun k_ => P0_0_ k_)); have HS1 := Aside0.mk (Kd.Ad HS.out hb); have BK := Aside0.mk hbox; have hcz : w1.cell? ⟨gb, 0, none⟩ = some (.slice Ao l0_0.length co) := (blk_cell BK.out 0).trans rfl; clear HB HS hb hbox hg) | ((with_reducible refine gate_callee (f := 73) rfl ?_); (try (refine gate_guard (by rfl) ?_; dsimp only)); refine goesL_ (some 8) rfl rfl Try.func73 Yj_ rfl #[.slice Ao l0_0.length co, .int .i64 a1] rfl Yf_ ?_; (with_reducible refine (Bd.calls k P0_0_ (.slice Ao l0_0.length co) l0_0 a1 r1 r2 w0 _ HB1.out HS1.out HA.out).mono ?_); rintro e w5 ⟨rfl, ho, hb, hk⟩; refine ⟨_, rfl, ?_⟩; have HO := Aside0.mk ho; have HB2 := Aside0.mk hb; have HK2 := Aside0.mk (Kept.then_ (S := fun k_ => P0_0_ k_) HK1.out hk (fun k_ hk_ => .inl hk_)); clear ho hb hk))
 go_ret
 exact ⟨rfl, HO.out, HB2.out, HK2.out⟩
def Ef.f (k : Nat) (a0_0 : Int) (l0_1 : List (List Int)) (a1 : Int) : Option (Int × List (List Int)) := Bd.f k l0_1 a1
theorem Ef.mono (a0_0 : Int) (l0_1 : List (List Int)) (a1 : Int) (k : Nat) : LeO (Ef.f k a0_0 l0_1 a1) (Ef.f (k + 1) a0_0 l0_1 a1) := Bd.mono _ _ _
set_option maxHeartbeats 8000000 in
set_option maxRecDepth 100000 in
theorem Ef.calls (k : Nat) (a0_0 : Int) (P0_1_ : Nat → Prop) (u9000_ : Value) (l0_1 : List (List Int)) (a1 r1 : Int) (r2 : List (List Int)) (w0 w : World) (hB : Below w0.heap.size w0 w) (ho0_1 : Kd.S (Kd.slice 3 (Kd.int .i64)) 73 w w0.heap.size P0_1_ u9000_ l0_1) (h : Ef.f k a0_0 l0_1 a1 = some (r1, r2)) :
  Calls Try.prog 53 #[.agg #[.int .i64 a0_0, u9000_], .int .i64 a1] w fun e w' => e = .returned (.int .i64 r1) ∧ Kd.S (Kd.slice 3 (Kd.int .i64)) 73 w' w0.heap.size P0_1_ u9000_ r2 ∧ Below w0.heap.size w0 w' ∧ Kept w w' (fun k_ => P0_1_ k_) := by
 have hu := Try.underlying32
 have HS := Aside0.mk ho0_1
 have HB := Aside0.mk hB
 have HA := Aside0.mk (show Bd.f k l0_1 a1 = some (r1, r2) from h)
 clear ho0_1 hB h
 obtain ⟨Ao, co, eo⟩ := Kd.S_slice HS.out
 subst eo
 go_enter Try.func53, Try.ntmps53
 go_wp2_with (first | ((with_reducible refine gate_dst (N := 2) rfl ?_); refine box_event ?hg (N := 2) ?hd (cs := #[.int .i64 a0_0, .slice Ao l0_1.length co]) (t := 32) ?hr ?_; (case hd => rfl); (case hg => rfl); (case hr => first | (go_simp; done) | (go_simp; rfl)); intro gb hg w1 hbox hb; have HSZ := Aside0.mk (show w.heap.size ≤ w1.heap.size from hb.size); have HB1 := Aside0.mk (below_then HB.out HB.out.size hb); have HK1 := Aside0.mk (Kept.of_below hb (fun k_ => P0_1_ k_)); have HS1 := Aside0.mk (Kd.Ad HS.out hb); have BK := Aside0.mk hbox; have hcz : w1.cell? ⟨gb, 1, none⟩ = some (.slice Ao l0_1.length co) := (blk_cell BK.out 1).trans rfl; clear HB HS hb hbox hg) | ((with_reducible refine gate_callee (f := 73) rfl ?_); (try (refine gate_guard (by rfl) ?_; dsimp only)); refine goesL_ (some 8) rfl rfl Try.func73 Yj_ rfl #[.slice Ao l0_1.length co, .int .i64 a1] rfl Yf_ ?_; (with_reducible refine (Bd.calls k P0_1_ (.slice Ao l0_1.length co) l0_1 a1 r1 r2 w0 _ HB1.out HS1.out HA.out).mono ?_); rintro e w5 ⟨rfl, ho, hb, hk⟩; refine ⟨_, rfl, ?_⟩; have HO := Aside0.mk ho; have HB2 := Aside0.mk hb; have HK2 := Aside0.mk (Kept.then_ (S := fun k_ => P0_1_ k_) HK1.out hk (fun k_ hk_ => .inl hk_)); clear ho hb hk))
 go_ret
 exact ⟨rfl, HO.out, HB2.out, HK2.out⟩
def D9.f (k : Nat) (l0_0 : List (List Int)) (a0_1 : Int) (l0_2 : List (List Int)) (a1 : Int) : Option (Int × List (List Int) × List (List Int)) := (Eb.f k l0_0 a1).bind fun t => (Ef.f k a0_1 l0_2 t.1).bind fun u => some (u.1, t.2, u.2)
theorem D9.mono (l0_0 : List (List Int)) (a0_1 : Int) (l0_2 : List (List Int)) (a1 : Int) (k : Nat) : LeO (D9.f k l0_0 a0_1 l0_2 a1) (D9.f (k + 1) l0_0 a0_1 l0_2 a1) := LeO.bind (Eb.mono _ _ _) (fun _ => LeO.bind (Ef.mono _ _ _ _) (fun _ => LeO.refl _))
set_option maxHeartbeats 8000000 in
set_option maxRecDepth 100000 in
theorem D9.calls (k : Nat) (P0_0_ : Nat → Prop) (u9000_ : Value) (l0_0 : List (List Int)) (a0_1 : Int) (P0_2_ : Nat → Prop) (u9001_ : Value) (l0_2 : List (List Int)) (a1 r1 : Int) (r2 r3 : List (List Int)) (w0 w : World) (hB : Below w0.heap.size w0 w) (ho0_0 : Kd.S (Kd.slice 3 (Kd.int .i64)) 73 w w0.heap.size P0_0_ u9000_ l0_0) (hp0_0_0_2 : ∀ k_, P0_0_ k_ → ¬ P0_2_ k_) (ho0_2 : Kd.S (Kd.slice 3 (Kd.int .i64)) 73 w w0.heap.size P0_2_ u9001_ l0_2) (hp0_2_0_0 : ∀ k_, P0_2_ k_ → ¬ P0_0_ k_) (h : D9.f k l0_0 a0_1 l0_2 a1 = some (r1, r2, r3)) :
  Calls Try.prog 23 #[.agg #[u9000_, .int .i64 a0_1, u9001_], .int .i64 a1] w fun e w' => e = .returned (.int .i64 r1) ∧ Kd.S (Kd.slice 3 (Kd.int .i64)) 73 w' w0.heap.size P0_0_ u9000_ r2 ∧ Kd.S (Kd.slice 3 (Kd.int .i64)) 73 w' w0.heap.size P0_2_ u9001_ r3 ∧ Below w0.heap.size w0 w' ∧ Kept w w' (fun k_ => P0_0_ k_ ∨ P0_2_ k_) := by
 have hu := Try.underlying34
 have hu2 := Try.underlying31
 have hu3 := Try.underlying32
 have HS := Aside0.mk ho0_0
 have HT := Aside0.mk ho0_2
 have HP := Aside0.mk hp0_0_0_2
 have HB := Aside0.mk hB
 unfold D9.f at h
 replace h := Option.bind_eq_some_iff.mp h
 obtain ⟨⟨t1, t2⟩, A0_, h⟩ := h
 have A1 := Aside0.mk A0_
 clear A0_
 dsimp only at h
 replace h := Option.bind_eq_some_iff.mp h
 obtain ⟨⟨u1, u2⟩, A0_, h⟩ := h
 have A2 := Aside0.mk A0_
 clear A0_
 dsimp only at h
 simp only [Option.some.injEq, Prod.mk.injEq] at h
 obtain ⟨rfl, rfl, rfl⟩ := h
 clear ho0_0 ho0_2 hB hp0_0_0_2
 obtain ⟨Ao, co, eo⟩ := Kd.S_slice HS.out
 subst eo
 obtain ⟨Ap, cp, ep⟩ := Kd.S_slice HT.out
 subst ep
 go_enter Try.func23, Try.ntmps23
 go_wp2_with (first | ((with_reducible refine gate_dst (N := 2) rfl ?_); refine box_event ?hg (N := 2) ?hd (cs := #[.slice Ao l0_0.length co, .int .i64 a0_1, .slice Ap l0_2.length cp]) (t := 34) ?hr ?_; (case hd => rfl); (case hg => rfl); (case hr => first | (go_simp; done) | (go_simp; rfl)); intro gb hg w1 hbox hb; have HSZ := Aside0.mk (show w.heap.size ≤ w1.heap.size from hb.size); have HGB := Aside0.mk (show w.heap.size ≤ gb from Nat.le_of_eq hg.symm); have HB1 := Aside0.mk (below_then HB.out HB.out.size hb); have HK1 := Aside0.mk (Kept.of_below hb (fun k_ => P0_0_ k_ ∨ P0_2_ k_)); have HS1 := Aside0.mk (Kd.S_mono (Kd.Ea (Kd.Ad HS.out hb)) (fun k_ hk_ => (⟨hk_.1, hk_.2.2.1⟩ : P0_0_ k_ ∧ k_ < w1.heap.size))); have HT1 := Aside0.mk (Kd.Ad HT.out hb); have HL1 := Aside0.mk (Kd.Ea HS.out); have BK := Aside0.mk hbox; have hcz0 : w1.cell? ⟨gb, 0, none⟩ = some (.slice Ao l0_0.length co) := (blk_cell BK.out 0).trans rfl; have hcz1 : w1.cell? ⟨gb, 1, none⟩ = some (.int .i64 a0_1) := (blk_cell BK.out 1).trans rfl; have hcz2 : w1.cell? ⟨gb, 2, none⟩ = some (.slice Ap l0_2.length cp) := (blk_cell BK.out 2).trans rfl; have HBW := Aside0.mk hb; clear HB hb hbox hg) | ((with_reducible refine gate_callee (f := 52) rfl ?_); (try (refine gate_guard (by rfl) ?_; dsimp only)); refine goesL_ (some 8) rfl rfl Try.func52 Yj_ rfl #[.agg #[.slice Ao l0_0.length co], .int .i64 a1] rfl Yf_ ?_; (with_reducible refine (Eb.calls k (fun k_ => P0_0_ k_ ∧ k_ < w.heap.size) (.slice Ao l0_0.length co) l0_0 a1 t1 t2 w0 _ HB1.out (Kd.Ad (w := w) (Kd.S_mono (Kd.Ea HS.out) (fun k_ hk_ => ⟨hk_.1, hk_.2.2.1⟩)) HBW.out) A1.out).mono ?_); rintro e w5 ⟨rfl, ho, hb, hk⟩; refine ⟨_, rfl, ?_⟩; have HO := Aside0.mk (Kd.S_mono ho (fun k_ hk_ => (hk_.1 : P0_0_ k_))); have HB2 := Aside0.mk hb; have HK2 := Aside0.mk (Kept.then_ (S := fun k_ => P0_0_ k_ ∨ P0_2_ k_) HK1.out hk (fun k_ hk_ => .inl (.inl hk_.1))); have HT2 := Aside0.mk (Kd.S_kept HT1.out hk (fun k_ hk_ hs_ => HP.out k_ hs_.1 hk_)); have BK2 := Aside0.mk (blk_kept BK.out hk (fun hs_ => by have := HGB.out; have h3_ : gb < w.heap.size := hs_.2; omega)); have hcy0 : w5.cell? ⟨gb, 0, none⟩ = some (.slice Ao l0_0.length co) := (blk_cell BK2.out 0).trans rfl; have hcy1 : w5.cell? ⟨gb, 1, none⟩ = some (.int .i64 a0_1) := (blk_cell BK2.out 1).trans rfl; have hcy2 : w5.cell? ⟨gb, 2, none⟩ = some (.slice Ap l0_2.length cp) := (blk_cell BK2.out 2).trans rfl; clear ho hb hk hcz0 hcz1 hcz2) | ((with_reducible refine gate_callee (f := 53) rfl ?_); (try (refine gate_guard (by rfl) ?_; dsimp only)); refine goesL_ (some 12) rfl rfl Try.func53 Yj_ rfl #[.agg #[.int .i64 a0_1, .slice Ap l0_2.length cp], .int .i64 t1] rfl Yf_ ?_; (with_reducible refine (Ef.calls k a0_1 P0_2_ (.slice Ap l0_2.length cp) l0_2 t1 u1 u2 w0 _ HB2.out HT2.out A2.out).mono ?_); rintro e w7 ⟨rfl, ho, hb, hk⟩; refine ⟨_, rfl, ?_⟩; have HO3 := Aside0.mk (Kd.S_kept HO.out hk (fun k_ hk_ hs_ => HP.out k_ hk_ hs_)); have HT3 := Aside0.mk ho; have HB3 := Aside0.mk hb; have HK3 := Aside0.mk (Kept.then_ (S := fun k_ => P0_0_ k_ ∨ P0_2_ k_) HK2.out hk (fun k_ hk_ => .inl (.inr hk_))); clear ho hb hk))
 go_ret
 exact ⟨rfl, HO3.out, HT3.out, HB3.out, HK3.out⟩
def C9.f (k : Nat) (l0_0 : List (List Int)) (a1 : Int) : Option (Int) := (Au.f k l0_0 a1).bind fun t436 => (if t436 < 0 then (some (-1)) else (some t436))
theorem C9.mono : ∀ a0 a1 k, LeO (C9.f k a0 a1) (C9.f (k + 1) a0 a1) := by
 intro a0 a1 k
 unfold C9.f
 repeat' first
   | (with_reducible exact Au.mono _ _ _)
   | (with_reducible exact LeO.refl _)
   | (with_reducible exact LeO.none _)
   | (with_reducible refine LeO.ite ?_ ?_)
   | (with_reducible refine LeO.bind ?_ (fun _ => ?_))
   | exact Au.mono _ _ _
   | exact LeO.none _
   | refine LeO.ite ?_ ?_
   | refine LeO.bind ?_ (fun _ => ?_)
set_option maxHeartbeats 8000000 in
set_option maxRecDepth 100000 in
theorem C9.calls (k : Nat) (A0_0 : Option Addr) (c0_0 : Nat) (l0_0 : List (List Int)) (a1 : Int) (r : Int) (w : World) (hr0_0 : Kd.C (Kd.slice 3 (Kd.int .i64)) w A0_0 l0_0.length l0_0) (hc0_0 : l0_0.length ≤ c0_0) (h : C9.f k l0_0 a1 = some r) :
  Calls Try.prog 54 #[.agg #[.slice A0_0 l0_0.length c0_0], .int .i64 a1] w fun e w' => e = .returned (.int .i64 r) ∧ Below w.heap.size w w' := by
 have hu31 := Try.underlying31
 have HR0_0 := Aside0.mk hr0_0
 have HC0_0 := Aside0.mk hc0_0
 clear hr0_0 hc0_0
 have HB := Aside0.mk (Below.refl w.heap.size w)
 have H : ((Au.f k l0_0 a1).bind fun t436 => (if t436 < 0 then (some (-1)) else (some t436))) = some r := h
 clear h
 replace H := Option.bind_eq_some_iff.mp H
 obtain ⟨t436, A30, H⟩ := H
 try dsimp only at H
 have A3 := Aside0.mk A30
 clear A30
 by_cases c4 : t436 < 0
 ·rw [if_pos c4] at H
  have c4b0 : decide (t436 < 0) = true := decide_eq_true c4
  clear c4
  obtain rfl := Option.some.inj H
  go_enter Try.func54, Try.ntmps54
  go_wp2_with (first | ((with_reducible refine gate_dst (N := 2) rfl ?_); refine box_event ?hg (N := 2) ?hd (cs := #[.slice A0_0 l0_0.length c0_0]) (t := 31) ?hr ?_; (case hd => rfl); (case hg => rfl); (case hr => first | (go_simp; done) | (go_simp; rfl)); intro gb0 hg w5 hbox hb; have n0_ := Aside0.mk (below_step Yb_ hb); have n1_ := Aside0.mk (hbox); have n2_ := Aside0.mk ((by rw [hg]; exact (below_size Yb_) : w.heap.size ≤ gb0)); have n3_ := Aside0.mk ((by rw [hg]; exact (below_size Yb_) : w.heap.size ≤ gb0)); clear HB; have HB := n0_; have BK0 := n1_; have GW0 := n2_; have GE0 := n3_; clear n0_ n1_ n2_ n3_; clear hb hbox hg; have hcz6_0 : w5.cell? ⟨gb0, 0, none⟩ = some (.slice A0_0 l0_0.length c0_0) := (blk_cell BK0.out 0).trans rfl; have hfz6_0 := blk_frozen BK0.out 0) | ((with_reducible refine gate_callee (f := 74) rfl ?_); refine goesL_ (some 8) rfl rfl Try.func74 Yj_ rfl #[.slice A0_0 l0_0.length c0_0, .int .i64 a1] rfl Yf_ ?_; (with_reducible refine (Au.calls k _ _ l0_0 a1 t436 _ ?side1 ?side2 A3.out).mono ?_); (case side1 => repeat (first | exact (Kd.C_below HR0_0.out HB.out) | (with_reducible refine Kd.C_alloc ?_ _) | (with_reducible refine Kd.C_drewN ?_ _) | (with_reducible refine Kd.C_drew ?_))); (case side2 => exact HC0_0.out); rintro e w' ⟨rfl, ⟨nd, rfl⟩⟩; refine ⟨_, rfl, ?_⟩))
  go_ret
  exact ⟨by first | rfl | (simp [errW_none, errW_some] <;> rfl) | (simp [*, errW_none, errW_some] <;> rfl), by repeat (first | (with_reducible first | exact HB.out | apply below_alloc | apply pw_below_drewN | apply below_drew1 | refine below_set ?_ GE0.out) | exact HB.out)⟩
 ·rw [if_neg c4] at H
  have c4b0 : decide (t436 < 0) = false := decide_eq_false c4
  clear c4
  obtain rfl := Option.some.inj H
  go_enter Try.func54, Try.ntmps54
  go_wp2_with (first | ((with_reducible refine gate_dst (N := 2) rfl ?_); refine box_event ?hg (N := 2) ?hd (cs := #[.slice A0_0 l0_0.length c0_0]) (t := 31) ?hr ?_; (case hd => rfl); (case hg => rfl); (case hr => first | (go_simp; done) | (go_simp; rfl)); intro gb0 hg w7 hbox hb; have n0_ := Aside0.mk (below_step Yb_ hb); have n1_ := Aside0.mk (hbox); have n2_ := Aside0.mk ((by rw [hg]; exact (below_size Yb_) : w.heap.size ≤ gb0)); have n3_ := Aside0.mk ((by rw [hg]; exact (below_size Yb_) : w.heap.size ≤ gb0)); clear HB; have HB := n0_; have BK0 := n1_; have GW0 := n2_; have GE0 := n3_; clear n0_ n1_ n2_ n3_; clear hb hbox hg; have hcz8_0 : w7.cell? ⟨gb0, 0, none⟩ = some (.slice A0_0 l0_0.length c0_0) := (blk_cell BK0.out 0).trans rfl; have hfz8_0 := blk_frozen BK0.out 0) | ((with_reducible refine gate_callee (f := 74) rfl ?_); refine goesL_ (some 8) rfl rfl Try.func74 Yj_ rfl #[.slice A0_0 l0_0.length c0_0, .int .i64 a1] rfl Yf_ ?_; (with_reducible refine (Au.calls k _ _ l0_0 a1 t436 _ ?side1 ?side2 A3.out).mono ?_); (case side1 => repeat (first | exact (Kd.C_below HR0_0.out HB.out) | (with_reducible refine Kd.C_alloc ?_ _) | (with_reducible refine Kd.C_drewN ?_ _) | (with_reducible refine Kd.C_drew ?_))); (case side2 => exact HC0_0.out); rintro e w' ⟨rfl, ⟨nd, rfl⟩⟩; refine ⟨_, rfl, ?_⟩))
  go_ret
  exact ⟨by first | rfl | (simp [errW_none, errW_some] <;> rfl) | (simp [*, errW_none, errW_some] <;> rfl), by repeat (first | (with_reducible first | exact HB.out | apply below_alloc | apply pw_below_drewN | apply below_drew1 | refine below_set ?_ GE0.out) | exact HB.out)⟩
def Dj.f (k : Nat) (a0_0 : Int) (l0_1 : List (List Int)) (a1 : Int) : Option (Int) := (Au.f k l0_1 a1).bind fun t438 => (if t438 < 0 then (some (-1)) else (some t438))
theorem Dj.mono : ∀ a0 a1 a2 k, LeO (Dj.f k a0 a1 a2) (Dj.f (k + 1) a0 a1 a2) := by
 intro a0 a1 a2 k
 unfold Dj.f
 repeat' first
   | (with_reducible exact Au.mono _ _ _)
   | (with_reducible exact LeO.refl _)
   | (with_reducible exact LeO.none _)
   | (with_reducible refine LeO.ite ?_ ?_)
   | (with_reducible refine LeO.bind ?_ (fun _ => ?_))
   | exact Au.mono _ _ _
   | exact LeO.none _
   | refine LeO.ite ?_ ?_
   | refine LeO.bind ?_ (fun _ => ?_)
set_option maxHeartbeats 8000000 in
set_option maxRecDepth 100000 in
theorem Dj.calls (k : Nat) (a0_0 : Int) (A0_1 : Option Addr) (c0_1 : Nat) (l0_1 : List (List Int)) (a1 : Int) (r : Int) (w : World) (hr0_1 : Kd.C (Kd.slice 3 (Kd.int .i64)) w A0_1 l0_1.length l0_1) (hc0_1 : l0_1.length ≤ c0_1) (h : Dj.f k a0_0 l0_1 a1 = some r) :
  Calls Try.prog 55 #[.agg #[.int .i64 a0_0, .slice A0_1 l0_1.length c0_1], .int .i64 a1] w fun e w' => e = .returned (.int .i64 r) ∧ Below w.heap.size w w' := by
 have hu32 := Try.underlying32
 have HR0_1 := Aside0.mk hr0_1
 have HC0_1 := Aside0.mk hc0_1
 clear hr0_1 hc0_1
 have HB := Aside0.mk (Below.refl w.heap.size w)
 have H : ((Au.f k l0_1 a1).bind fun t438 => (if t438 < 0 then (some (-1)) else (some t438))) = some r := h
 clear h
 replace H := Option.bind_eq_some_iff.mp H
 obtain ⟨t438, A30, H⟩ := H
 try dsimp only at H
 have A3 := Aside0.mk A30
 clear A30
 by_cases c4 : t438 < 0
 ·rw [if_pos c4] at H
  have c4b0 : decide (t438 < 0) = true := decide_eq_true c4
  clear c4
  obtain rfl := Option.some.inj H
  go_enter Try.func55, Try.ntmps55
  go_wp2_with (first | ((with_reducible refine gate_dst (N := 2) rfl ?_); refine box_event ?hg (N := 2) ?hd (cs := #[.int .i64 a0_0, .slice A0_1 l0_1.length c0_1]) (t := 32) ?hr ?_; (case hd => rfl); (case hg => rfl); (case hr => first | (go_simp; done) | (go_simp; rfl)); intro gb0 hg w5 hbox hb; have n0_ := Aside0.mk (below_step Yb_ hb); have n1_ := Aside0.mk (hbox); have n2_ := Aside0.mk ((by rw [hg]; exact (below_size Yb_) : w.heap.size ≤ gb0)); have n3_ := Aside0.mk ((by rw [hg]; exact (below_size Yb_) : w.heap.size ≤ gb0)); clear HB; have HB := n0_; have BK0 := n1_; have GW0 := n2_; have GE0 := n3_; clear n0_ n1_ n2_ n3_; clear hb hbox hg; have hcz6_0 : w5.cell? ⟨gb0, 0, none⟩ = some (.int .i64 a0_0) := (blk_cell BK0.out 0).trans rfl; have hcz6_1 : w5.cell? ⟨gb0, 1, none⟩ = some (.slice A0_1 l0_1.length c0_1) := (blk_cell BK0.out 1).trans rfl; have hfz6_0 := blk_frozen BK0.out 0; have hfz6_1 := blk_frozen BK0.out 1) | ((with_reducible refine gate_callee (f := 74) rfl ?_); refine goesL_ (some 8) rfl rfl Try.func74 Yj_ rfl #[.slice A0_1 l0_1.length c0_1, .int .i64 a1] rfl Yf_ ?_; (with_reducible refine (Au.calls k _ _ l0_1 a1 t438 _ ?side1 ?side2 A3.out).mono ?_); (case side1 => repeat (first | exact (Kd.C_below HR0_1.out HB.out) | (with_reducible refine Kd.C_alloc ?_ _) | (with_reducible refine Kd.C_drewN ?_ _) | (with_reducible refine Kd.C_drew ?_))); (case side2 => exact HC0_1.out); rintro e w' ⟨rfl, ⟨nd, rfl⟩⟩; refine ⟨_, rfl, ?_⟩))
  go_ret
  exact ⟨by first | rfl | (simp [errW_none, errW_some] <;> rfl) | (simp [*, errW_none, errW_some] <;> rfl), by repeat (first | (with_reducible first | exact HB.out | apply below_alloc | apply pw_below_drewN | apply below_drew1 | refine below_set ?_ GE0.out) | exact HB.out)⟩
 ·rw [if_neg c4] at H
  have c4b0 : decide (t438 < 0) = false := decide_eq_false c4
  clear c4
  obtain rfl := Option.some.inj H
  go_enter Try.func55, Try.ntmps55
  go_wp2_with (first | ((with_reducible refine gate_dst (N := 2) rfl ?_); refine box_event ?hg (N := 2) ?hd (cs := #[.int .i64 a0_0, .slice A0_1 l0_1.length c0_1]) (t := 32) ?hr ?_; (case hd => rfl); (case hg => rfl); (case hr => first | (go_simp; done) | (go_simp; rfl)); intro gb0 hg w7 hbox hb; have n0_ := Aside0.mk (below_step Yb_ hb); have n1_ := Aside0.mk (hbox); have n2_ := Aside0.mk ((by rw [hg]; exact (below_size Yb_) : w.heap.size ≤ gb0)); have n3_ := Aside0.mk ((by rw [hg]; exact (below_size Yb_) : w.heap.size ≤ gb0)); clear HB; have HB := n0_; have BK0 := n1_; have GW0 := n2_; have GE0 := n3_; clear n0_ n1_ n2_ n3_; clear hb hbox hg; have hcz8_0 : w7.cell? ⟨gb0, 0, none⟩ = some (.int .i64 a0_0) := (blk_cell BK0.out 0).trans rfl; have hcz8_1 : w7.cell? ⟨gb0, 1, none⟩ = some (.slice A0_1 l0_1.length c0_1) := (blk_cell BK0.out 1).trans rfl; have hfz8_0 := blk_frozen BK0.out 0; have hfz8_1 := blk_frozen BK0.out 1) | ((with_reducible refine gate_callee (f := 74) rfl ?_); refine goesL_ (some 8) rfl rfl Try.func74 Yj_ rfl #[.slice A0_1 l0_1.length c0_1, .int .i64 a1] rfl Yf_ ?_; (with_reducible refine (Au.calls k _ _ l0_1 a1 t438 _ ?side1 ?side2 A3.out).mono ?_); (case side1 => repeat (first | exact (Kd.C_below HR0_1.out HB.out) | (with_reducible refine Kd.C_alloc ?_ _) | (with_reducible refine Kd.C_drewN ?_ _) | (with_reducible refine Kd.C_drew ?_))); (case side2 => exact HC0_1.out); rintro e w' ⟨rfl, ⟨nd, rfl⟩⟩; refine ⟨_, rfl, ?_⟩))
  go_ret
  exact ⟨by first | rfl | (simp [errW_none, errW_some] <;> rfl) | (simp [*, errW_none, errW_some] <;> rfl), by repeat (first | (with_reducible first | exact HB.out | apply below_alloc | apply pw_below_drewN | apply below_drew1 | refine below_set ?_ GE0.out) | exact HB.out)⟩
def D8.f (k : Nat) (l0_0 : List (List Int)) (a0_1 : Int) (l0_2 : List (List Int)) (a1 : Int) : Option (Int) := (C9.f k l0_0 a1).bind fun t440 => (if t440 < 0 then (some (-1)) else ((Dj.f k a0_1 l0_2 t440).bind fun t441 => (if t441 < 0 then (some (-1)) else (some t441))))
theorem D8.mono : ∀ a0 a1 a2 a3 k, LeO (D8.f k a0 a1 a2 a3) (D8.f (k + 1) a0 a1 a2 a3) := by
 intro a0 a1 a2 a3 k
 unfold D8.f
 repeat' first
   | (with_reducible exact Dj.mono _ _ _ _)
   | (with_reducible exact C9.mono _ _ _)
   | (with_reducible exact LeO.refl _)
   | (with_reducible exact LeO.none _)
   | (with_reducible refine LeO.ite ?_ ?_)
   | (with_reducible refine LeO.bind ?_ (fun _ => ?_))
   | exact Dj.mono _ _ _ _
   | exact C9.mono _ _ _
   | exact LeO.none _
   | refine LeO.ite ?_ ?_
   | refine LeO.bind ?_ (fun _ => ?_)
set_option maxHeartbeats 8000000 in
set_option maxRecDepth 100000 in
theorem D8.calls (k : Nat) (A0_0 : Option Addr) (c0_0 : Nat) (l0_0 : List (List Int)) (a0_1 : Int) (A0_2 : Option Addr) (c0_2 : Nat) (l0_2 : List (List Int)) (a1 : Int) (r : Int) (w : World) (hr0_0 : Kd.C (Kd.slice 3 (Kd.int .i64)) w A0_0 l0_0.length l0_0) (hc0_0 : l0_0.length ≤ c0_0) (hr0_2 : Kd.C (Kd.slice 3 (Kd.int .i64)) w A0_2 l0_2.length l0_2) (hc0_2 : l0_2.length ≤ c0_2) (h : D8.f k l0_0 a0_1 l0_2 a1 = some r) :
  Calls Try.prog 24 #[.agg #[.slice A0_0 l0_0.length c0_0, .int .i64 a0_1, .slice A0_2 l0_2.length c0_2], .int .i64 a1] w fun e w' => e = .returned (.int .i64 r) ∧ Below w.heap.size w w' := by
 have hu34 := Try.underlying34
 have hu31 := Try.underlying31
 have hu32 := Try.underlying32
 have HR0_0 := Aside0.mk hr0_0
 have HC0_0 := Aside0.mk hc0_0
 clear hr0_0 hc0_0
 have HR0_2 := Aside0.mk hr0_2
 have HC0_2 := Aside0.mk hc0_2
 clear hr0_2 hc0_2
 have HB := Aside0.mk (Below.refl w.heap.size w)
 have H : ((C9.f k l0_0 a1).bind fun t440 => (if t440 < 0 then (some (-1)) else ((Dj.f k a0_1 l0_2 t440).bind fun t441 => (if t441 < 0 then (some (-1)) else (some t441))))) = some r := h
 clear h
 replace H := Option.bind_eq_some_iff.mp H
 obtain ⟨t440, A30, H⟩ := H
 try dsimp only at H
 have A3 := Aside0.mk A30
 clear A30
 by_cases c4 : t440 < 0
 ·rw [if_pos c4] at H
  have c4b0 : decide (t440 < 0) = true := decide_eq_true c4
  clear c4
  obtain rfl := Option.some.inj H
  go_enter Try.func24, Try.ntmps24
  go_wp2_with (first | ((with_reducible refine gate_dst (N := 2) rfl ?_); refine box_event ?hg (N := 2) ?hd (cs := #[.slice A0_0 l0_0.length c0_0, .int .i64 a0_1, .slice A0_2 l0_2.length c0_2]) (t := 34) ?hr ?_; (case hd => rfl); (case hg => rfl); (case hr => first | (go_simp; done) | (go_simp; rfl)); intro gb0 hg w5 hbox hb; have n0_ := Aside0.mk (below_step Yb_ hb); have n1_ := Aside0.mk (hbox); have n2_ := Aside0.mk ((by rw [hg]; exact (below_size Yb_) : w.heap.size ≤ gb0)); have n3_ := Aside0.mk ((by rw [hg]; exact (below_size Yb_) : w.heap.size ≤ gb0)); clear HB; have HB := n0_; have BK0 := n1_; have GW0 := n2_; have GE0 := n3_; clear n0_ n1_ n2_ n3_; clear hb hbox hg; have hcz6_0 : w5.cell? ⟨gb0, 0, none⟩ = some (.slice A0_0 l0_0.length c0_0) := (blk_cell BK0.out 0).trans rfl; have hcz6_1 : w5.cell? ⟨gb0, 1, none⟩ = some (.int .i64 a0_1) := (blk_cell BK0.out 1).trans rfl; have hcz6_2 : w5.cell? ⟨gb0, 2, none⟩ = some (.slice A0_2 l0_2.length c0_2) := (blk_cell BK0.out 2).trans rfl; have hfz6_0 := blk_frozen BK0.out 0; have hfz6_1 := blk_frozen BK0.out 1; have hfz6_2 := blk_frozen BK0.out 2) | ((with_reducible refine gate_callee (f := 54) rfl ?_); refine goesL_ (some 8) rfl rfl Try.func54 Yj_ rfl #[.agg #[.slice A0_0 l0_0.length c0_0], .int .i64 a1] rfl Yf_ ?_; (with_reducible refine (C9.calls k _ _ l0_0 a1 t440 _ ?side1 ?side2 A3.out).mono ?_); (case side1 => repeat (first | exact (Kd.C_below HR0_0.out HB.out) | (with_reducible refine Kd.C_alloc ?_ _) | (with_reducible refine Kd.C_drewN ?_ _) | (with_reducible refine Kd.C_drew ?_))); (case side2 => exact HC0_0.out); rintro e w7 ⟨rfl, hb⟩; refine ⟨_, rfl, ?_⟩; have n0_ := Aside0.mk (blk_below (g := gb0) (o := .cells #[.slice A0_0 l0_0.length c0_0, .int .i64 a0_1, .slice A0_2 l0_2.length c0_2] 34 (0, 0)) Yc_ hb); have n1_ := Aside0.mk (below_step Yd_ hb); clear BK0; clear HB; have BK0 := n0_; have HB := n1_; clear n0_ n1_; (try clear hb); (try clear hb2); (try clear hk); (try clear hi)))
  go_ret
  exact ⟨by first | rfl | (simp [errW_none, errW_some] <;> rfl) | (simp [*, errW_none, errW_some] <;> rfl), by repeat (first | (with_reducible first | exact HB.out | apply below_alloc | apply pw_below_drewN | apply below_drew1 | refine below_set ?_ GE0.out) | exact HB.out)⟩
 ·rw [if_neg c4] at H
  have c4b0 : decide (t440 < 0) = false := decide_eq_false c4
  clear c4
  replace H := Option.bind_eq_some_iff.mp H
  obtain ⟨t441, A80, H⟩ := H
  try dsimp only at H
  have A8 := Aside0.mk A80
  clear A80
  by_cases c9 : t441 < 0
  ·rw [if_pos c9] at H
   have c9b0 : decide (t441 < 0) = true := decide_eq_true c9
   clear c9
   obtain rfl := Option.some.inj H
   go_enter Try.func24, Try.ntmps24
   go_wp2_with (first | ((with_reducible refine gate_dst (N := 2) rfl ?_); refine box_event ?hg (N := 2) ?hd (cs := #[.slice A0_0 l0_0.length c0_0, .int .i64 a0_1, .slice A0_2 l0_2.length c0_2]) (t := 34) ?hr ?_; (case hd => rfl); (case hg => rfl); (case hr => first | (go_simp; done) | (go_simp; rfl)); intro gb0 hg w10 hbox hb; have n0_ := Aside0.mk (below_step Yb_ hb); have n1_ := Aside0.mk (hbox); have n2_ := Aside0.mk ((by rw [hg]; exact (below_size Yb_) : w.heap.size ≤ gb0)); have n3_ := Aside0.mk ((by rw [hg]; exact (below_size Yb_) : w.heap.size ≤ gb0)); clear HB; have HB := n0_; have BK0 := n1_; have GW0 := n2_; have GE0 := n3_; clear n0_ n1_ n2_ n3_; clear hb hbox hg; have hcz11_0 : w10.cell? ⟨gb0, 0, none⟩ = some (.slice A0_0 l0_0.length c0_0) := (blk_cell BK0.out 0).trans rfl; have hcz11_1 : w10.cell? ⟨gb0, 1, none⟩ = some (.int .i64 a0_1) := (blk_cell BK0.out 1).trans rfl; have hcz11_2 : w10.cell? ⟨gb0, 2, none⟩ = some (.slice A0_2 l0_2.length c0_2) := (blk_cell BK0.out 2).trans rfl; have hfz11_0 := blk_frozen BK0.out 0; have hfz11_1 := blk_frozen BK0.out 1; have hfz11_2 := blk_frozen BK0.out 2) | ((with_reducible refine gate_callee (f := 54) rfl ?_); refine goesL_ (some 8) rfl rfl Try.func54 Yj_ rfl #[.agg #[.slice A0_0 l0_0.length c0_0], .int .i64 a1] rfl Yf_ ?_; (with_reducible refine (C9.calls k _ _ l0_0 a1 t440 _ ?side1 ?side2 A3.out).mono ?_); (case side1 => repeat (first | exact (Kd.C_below HR0_0.out HB.out) | (with_reducible refine Kd.C_alloc ?_ _) | (with_reducible refine Kd.C_drewN ?_ _) | (with_reducible refine Kd.C_drew ?_))); (case side2 => exact HC0_0.out); rintro e w12 ⟨rfl, hb⟩; refine ⟨_, rfl, ?_⟩; have n0_ := Aside0.mk (blk_below (g := gb0) (o := .cells #[.slice A0_0 l0_0.length c0_0, .int .i64 a0_1, .slice A0_2 l0_2.length c0_2] 34 (0, 0)) Yc_ hb); have n1_ := Aside0.mk (below_step Yd_ hb); clear BK0; clear HB; have BK0 := n0_; have HB := n1_; clear n0_ n1_; (try clear hb); (try clear hb2); (try clear hk); (try clear hi); have hcz13_0 : w12.cell? ⟨gb0, 0, none⟩ = some (.slice A0_0 l0_0.length c0_0) := (blk_cell BK0.out 0).trans rfl; have hcz13_1 : w12.cell? ⟨gb0, 1, none⟩ = some (.int .i64 a0_1) := (blk_cell BK0.out 1).trans rfl; have hcz13_2 : w12.cell? ⟨gb0, 2, none⟩ = some (.slice A0_2 l0_2.length c0_2) := (blk_cell BK0.out 2).trans rfl; have hfz13_0 := blk_frozen BK0.out 0; have hfz13_1 := blk_frozen BK0.out 1; have hfz13_2 := blk_frozen BK0.out 2) | ((with_reducible refine gate_callee (f := 55) rfl ?_); refine goesL_ (some 14) rfl rfl Try.func55 Yj_ rfl #[.agg #[.int .i64 a0_1, .slice A0_2 l0_2.length c0_2], .int .i64 t440] rfl Yf_ ?_; (with_reducible refine (Dj.calls k a0_1 _ _ l0_2 t440 t441 _ ?side1 ?side2 A8.out).mono ?_); (case side1 => repeat (first | exact (Kd.C_below HR0_2.out HB.out) | (with_reducible refine Kd.C_alloc ?_ _) | (with_reducible refine Kd.C_drewN ?_ _) | (with_reducible refine Kd.C_drew ?_))); (case side2 => exact HC0_2.out); rintro e w14 ⟨rfl, hb⟩; refine ⟨_, rfl, ?_⟩; have n0_ := Aside0.mk (blk_below (g := gb0) (o := .cells #[.slice A0_0 l0_0.length c0_0, .int .i64 a0_1, .slice A0_2 l0_2.length c0_2] 34 (0, 0)) Yc_ hb); have n1_ := Aside0.mk (below_step Yd_ hb); clear BK0; clear HB; have BK0 := n0_; have HB := n1_; clear n0_ n1_; (try clear hb); (try clear hb2); (try clear hk); (try clear hi)))
   go_ret
   exact ⟨by first | rfl | (simp [errW_none, errW_some] <;> rfl) | (simp [*, errW_none, errW_some] <;> rfl), by repeat (first | (with_reducible first | exact HB.out | apply below_alloc | apply pw_below_drewN | apply below_drew1 | refine below_set ?_ GE0.out) | exact HB.out)⟩
  ·rw [if_neg c9] at H
   have c9b0 : decide (t441 < 0) = false := decide_eq_false c9
   clear c9
   obtain rfl := Option.some.inj H
   go_enter Try.func24, Try.ntmps24
   go_wp2_with (first | ((with_reducible refine gate_dst (N := 2) rfl ?_); refine box_event ?hg (N := 2) ?hd (cs := #[.slice A0_0 l0_0.length c0_0, .int .i64 a0_1, .slice A0_2 l0_2.length c0_2]) (t := 34) ?hr ?_; (case hd => rfl); (case hg => rfl); (case hr => first | (go_simp; done) | (go_simp; rfl)); intro gb0 hg w15 hbox hb; have n0_ := Aside0.mk (below_step Yb_ hb); have n1_ := Aside0.mk (hbox); have n2_ := Aside0.mk ((by rw [hg]; exact (below_size Yb_) : w.heap.size ≤ gb0)); have n3_ := Aside0.mk ((by rw [hg]; exact (below_size Yb_) : w.heap.size ≤ gb0)); clear HB; have HB := n0_; have BK0 := n1_; have GW0 := n2_; have GE0 := n3_; clear n0_ n1_ n2_ n3_; clear hb hbox hg; have hcz16_0 : w15.cell? ⟨gb0, 0, none⟩ = some (.slice A0_0 l0_0.length c0_0) := (blk_cell BK0.out 0).trans rfl; have hcz16_1 : w15.cell? ⟨gb0, 1, none⟩ = some (.int .i64 a0_1) := (blk_cell BK0.out 1).trans rfl; have hcz16_2 : w15.cell? ⟨gb0, 2, none⟩ = some (.slice A0_2 l0_2.length c0_2) := (blk_cell BK0.out 2).trans rfl; have hfz16_0 := blk_frozen BK0.out 0; have hfz16_1 := blk_frozen BK0.out 1; have hfz16_2 := blk_frozen BK0.out 2) | ((with_reducible refine gate_callee (f := 54) rfl ?_); refine goesL_ (some 8) rfl rfl Try.func54 Yj_ rfl #[.agg #[.slice A0_0 l0_0.length c0_0], .int .i64 a1] rfl Yf_ ?_; (with_reducible refine (C9.calls k _ _ l0_0 a1 t440 _ ?side1 ?side2 A3.out).mono ?_); (case side1 => repeat (first | exact (Kd.C_below HR0_0.out HB.out) | (with_reducible refine Kd.C_alloc ?_ _) | (with_reducible refine Kd.C_drewN ?_ _) | (with_reducible refine Kd.C_drew ?_))); (case side2 => exact HC0_0.out); rintro e w17 ⟨rfl, hb⟩; refine ⟨_, rfl, ?_⟩; have n0_ := Aside0.mk (blk_below (g := gb0) (o := .cells #[.slice A0_0 l0_0.length c0_0, .int .i64 a0_1, .slice A0_2 l0_2.length c0_2] 34 (0, 0)) Yc_ hb); have n1_ := Aside0.mk (below_step Yd_ hb); clear BK0; clear HB; have BK0 := n0_; have HB := n1_; clear n0_ n1_; (try clear hb); (try clear hb2); (try clear hk); (try clear hi); have hcz18_0 : w17.cell? ⟨gb0, 0, none⟩ = some (.slice A0_0 l0_0.length c0_0) := (blk_cell BK0.out 0).trans rfl; have hcz18_1 : w17.cell? ⟨gb0, 1, none⟩ = some (.int .i64 a0_1) := (blk_cell BK0.out 1).trans rfl; have hcz18_2 : w17.cell? ⟨gb0, 2, none⟩ = some (.slice A0_2 l0_2.length c0_2) := (blk_cell BK0.out 2).trans rfl; have hfz18_0 := blk_frozen BK0.out 0; have hfz18_1 := blk_frozen BK0.out 1; have hfz18_2 := blk_frozen BK0.out 2) | ((with_reducible refine gate_callee (f := 55) rfl ?_); refine goesL_ (some 14) rfl rfl Try.func55 Yj_ rfl #[.agg #[.int .i64 a0_1, .slice A0_2 l0_2.length c0_2], .int .i64 t440] rfl Yf_ ?_; (with_reducible refine (Dj.calls k a0_1 _ _ l0_2 t440 t441 _ ?side1 ?side2 A8.out).mono ?_); (case side1 => repeat (first | exact (Kd.C_below HR0_2.out HB.out) | (with_reducible refine Kd.C_alloc ?_ _) | (with_reducible refine Kd.C_drewN ?_ _) | (with_reducible refine Kd.C_drew ?_))); (case side2 => exact HC0_2.out); rintro e w19 ⟨rfl, hb⟩; refine ⟨_, rfl, ?_⟩; have n0_ := Aside0.mk (blk_below (g := gb0) (o := .cells #[.slice A0_0 l0_0.length c0_0, .int .i64 a0_1, .slice A0_2 l0_2.length c0_2] 34 (0, 0)) Yc_ hb); have n1_ := Aside0.mk (below_step Yd_ hb); clear BK0; clear HB; have BK0 := n0_; have HB := n1_; clear n0_ n1_; (try clear hb); (try clear hb2); (try clear hk); (try clear hi)))
   go_ret
   exact ⟨by first | rfl | (simp [errW_none, errW_some] <;> rfl) | (simp [*, errW_none, errW_some] <;> rfl), by repeat (first | (with_reducible first | exact HB.out | apply below_alloc | apply pw_below_drewN | apply below_drew1 | refine below_set ?_ GE0.out) | exact HB.out)⟩
end Go.Proofs.Ytnggfglmjdiaaaa.X

namespace Go.Proofs.Ytnggfglmjdiaaaa.X
open Go.RowKit Go.Proofs.YtnggfglmjdiaaaaW.PrintWords Go.Proofs.YtnggfglmjdiaaaaL
theorem clone_eq (s : List Int) (h : s.length ≤ 1048576) : Dc.f s = some s := if_pos (by omega)
theorem l1Own_eq (s : List Int) (h : s.length ≤ 1048576) : Cb.f s = some s := by
 unfold Cb.f
 simp only [Option.bind_some, List.length_nil, List.nil_append]
 exact if_pos (by omega)
theorem implOwnYard_ev (l : List (List Int)) (hl : rowsOk l) : Ev (fun k => Aj.f k l) l := by
 have key : ∀ (d i : Nat), i + d = l.length → Ev (fun k => Aj.l0 k l (l.length : Int) i (l.take i)) l := by
  intro d
  induction d with
  | zero =>
   intro i hi
   refine Ev.step (f := fun _ => some l) (fun k => ?_) (Ev.now _)
   simp only [Aj.l0]; rw [if_neg (by omega), List.take_of_length_le (by omega)]
  | succ d ih =>
   intro i hi
   have hil : i < l.length := by omega
   have hl1 := hl.1
   refine Ev.step (fun k => ?_) (ih (i + 1) (by omega))
   simp only [Aj.l0]
   rw [if_pos (by omega), if_pos (by omega), if_pos (by omega), rdR l i hil, clone_eq _ (hl.2 _ (List.getElem_mem hil)), wrap_succ (by omega), List.take_succ_eq_append_getElem hil]
   simp only [Option.bind_some]
   rw [if_pos (by rw [List.length_take]; omega)]
 exact Ev.congr (fun k => rfl) (key l.length 0 (by omega))
theorem implOwnBay_ev (h : Int) (l : List (List Int)) (hl : rowsOk l) : Ev (fun k => Aw.f k h l) (h, l) := by
 have key : ∀ (d i : Nat), i + d = l.length → Ev (fun k => Aw.l0 k l (l.length : Int) i h (l.take i)) (h, l) := by
  intro d
  induction d with
  | zero =>
   intro i hi
   refine Ev.step (f := fun _ => some (h, l)) (fun k => ?_) (Ev.now _)
   simp only [Aw.l0]; rw [if_neg (by omega), List.take_of_length_le (by omega)]
  | succ d ih =>
   intro i hi
   have hil : i < l.length := by omega
   have hl1 := hl.1
   refine Ev.step (fun k => ?_) (ih (i + 1) (by omega))
   simp only [Aw.l0]
   rw [if_pos (by omega), if_pos (by omega), if_pos (by omega), rdR l i hil, clone_eq _ (hl.2 _ (List.getElem_mem hil)), wrap_succ (by omega), List.take_succ_eq_append_getElem hil]
   simp only [Option.bind_some]
   rw [if_pos (by rw [List.length_take]; omega)]
 exact Ev.congr (fun k => rfl) (key l.length 0 (by omega))
theorem specOwnYard_ev (l : List (List Int)) (hl : rowsOk l) : Ev (fun k => spec_l5Own.f k l) l := by
 have key : ∀ (d i : Nat), i + d = l.length → Ev (fun k => spec_l5Own.l0 k i l (l.take i)) l := by
  intro d
  induction d with
  | zero =>
   intro i hi
   refine Ev.step (f := fun _ => some l) (fun k => ?_) (Ev.now _)
   simp only [spec_l5Own.l0]; rw [if_neg (by omega), List.take_of_length_le (by omega)]
  | succ d ih =>
   intro i hi
   have hil : i < l.length := by omega
   have hl1 := hl.1
   refine Ev.step (fun k => ?_) (ih (i + 1) (by omega))
   simp only [spec_l5Own.l0]
   rw [if_pos (by omega), if_pos (by omega), rdR l i hil, l1Own_eq _ (hl.2 _ (List.getElem_mem hil)), wrap_succ (by omega), List.take_succ_eq_append_getElem hil]
   simp only [Option.bind_some]
   rw [if_pos (by rw [List.length_take]; omega)]
 exact Ev.congr (fun k => rfl) (key l.length 0 (by omega))
theorem specOwnBay_ev (h : Int) (l : List (List Int)) (hl : rowsOk l) : Ev (fun k => spec_l9Own.f k h l) (h, l) := by
 have key : ∀ (d i : Nat), i + d = l.length → Ev (fun k => spec_l9Own.l0 k i h l h (l.take i)) (h, l) := by
  intro d
  induction d with
  | zero =>
   intro i hi
   refine Ev.step (f := fun _ => some (h, l)) (fun k => ?_) (Ev.now _)
   simp only [spec_l9Own.l0]; rw [if_neg (by omega), List.take_of_length_le (by omega)]
  | succ d ih =>
   intro i hi
   have hil : i < l.length := by omega
   have hl1 := hl.1
   refine Ev.step (fun k => ?_) (ih (i + 1) (by omega))
   simp only [spec_l9Own.l0]
   rw [if_pos (by omega), if_pos (by omega), rdR l i hil, l1Own_eq _ (hl.2 _ (List.getElem_mem hil)), wrap_succ (by omega), List.take_succ_eq_append_getElem hil]
   simp only [Option.bind_some]
   rw [if_pos (by rw [List.length_take]; omega)]
 exact Ev.congr (fun k => rfl) (key l.length 0 (by omega))
theorem implOwnTerm_ev (Y : List (List Int)) (h : Int) (S : List (List Int)) (hY : rowsOk Y) (hS : rowsOk S) : Ev (fun k => impl_ownTerminal.f k Y h S) (Y, h, S) :=
 Ev.bind (implOwnYard_ev Y hY) (Ev.bind (implOwnBay_ev h S hS) (Ev.now _))
theorem specOwnTerm_ev (Y : List (List Int)) (h : Int) (S : List (List Int)) (hY : rowsOk Y) (hS : rowsOk S) : Ev (fun k => spec_l24Own.f k Y h S) (Y, h, S) :=
 Ev.bind (specOwnYard_ev Y hY) (Ev.bind (specOwnBay_ev h S hS) (Ev.now _))
def termN (Y S : List (List Int)) : Nat := total Y + total S
theorem Fv (m : Int) : ∀ (l : List (List Int)) (S : List Int), Cm m S l = true → ∀ s ∈ l, (s.length : Int) ≤ m
 | [], _, _ => by simp
 | s :: r, S, h => by
  unfold Cm at h
  by_cases c : (s.length : Int) > m
  ·rw [if_pos c] at h; cases h
  ·rw [if_neg c] at h
   cases g : Ey S s with
   | none => rw [g] at h; cases h
   | some S2 =>
    rw [g] at h
    intro x hx
    rcases List.mem_cons.1 hx with rfl | hx
    ·omega
    ·exact Fv m r S2 h x hx
theorem total_le (m : Nat) : ∀ (l : List (List Int)), (∀ s ∈ l, s.length ≤ m) → total l ≤ m * l.length
 | [], _ => by simp [total]
 | r :: l, h => by
  have := total_le m l (fun s hs => h s (by simp [hs])); have h1 := h r (by simp)
  rw [total, List.length_cons, Nat.mul_succ]; omega
theorem term_small (Y : List (List Int)) (h : Int) (S : List (List Int)) (ht : termOk Y h S = true) : Y.length ≤ 6 ∧ S.length ≤ 5 ∧ h ≤ 4 ∧ (∀ s ∈ Y, s.length ≤ 4) ∧ (∀ s ∈ S, s.length ≤ 4) ∧ termN Y S ≤ 44 := by
 unfold termOk yardOk bayOk at ht
 simp only [Bool.and_eq_true, decide_eq_true_eq] at ht
 obtain ⟨⟨⟨⟨a1, a2⟩, a3⟩, ⟨⟨⟨b0, b1⟩, b2, b3⟩, b4⟩⟩, _⟩ := ht
 have h1 : ∀ s ∈ Y, s.length ≤ 4 := fun s hs => by have := Fv 4 Y [] a3 s hs; omega
 have h2 : ∀ s ∈ S, s.length ≤ 4 := fun s hs => by have := Fv h S [] b4 s hs; omega
 have t1 := total_le 4 Y h1
 have t2 := total_le 4 S h2
 exact ⟨by omega, by omega, by omega, h1, h2, by unfold termN; omega⟩
end Go.Proofs.Ytnggfglmjdiaaaa.X

