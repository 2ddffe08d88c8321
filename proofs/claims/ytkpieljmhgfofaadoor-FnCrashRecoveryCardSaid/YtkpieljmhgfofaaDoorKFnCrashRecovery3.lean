/- Texts that the proof of the law FnCrashRecovery leans on, part 4 of 6. -/
import Derived.Test.YtkpieljmhgfofaaDoorKFnCrashRecovery1
import Derived.Test.YtkpieljmhgfofaaDoorKFnCrashRecovery2
set_option linter.unusedVariables false
set_option linter.unusedSimpArgs false
namespace Go.Proofs.YtkpieljmhgfofaaDoor.X
open Go.RowKit Go.Proofs.YtkpieljmhgfofaaDoorW.PrintWords Go.Proofs.YtkpieljmhgfofaaDoorW.PrintLast Go.Proofs.YtkpieljmhgfofaaDoorW.PrintMore
attribute [local go_sem] max2_int min2_int max_two min_two max_three min_three max_four min_four
open Go.Proofs.YtkpieljmhgfofaaDoorG
def Ef.f (k : Nat) (a0_0 : ByteArray) (a0_1 : ByteArray) (a0_2 : Int) : Option (ByteArray × ByteArray × Int × Bool) := (spec_l27Log.f k a0_0 a0_1 a0_2).bind fun t307 => (if t307 = true then (if a0_0.size + a0_1.size ≤ 9223372036854775807 then (some (a0_0 ++ a0_1, (⟨#[]⟩ : ByteArray), a0_2, true)) else (none)) else (some ((⟨#[]⟩ : ByteArray), (⟨#[]⟩ : ByteArray), 0, false)))
theorem Ef.mono : ∀ a0 a1 a2 k, LeO (Ef.f k a0 a1 a2) (Ef.f (k + 1) a0 a1 a2) := by
  intro a0 a1 a2 k
  unfold Ef.f
  repeat' first
      | (with_reducible exact spec_l27Log.mono _ _ _ _)
      | (with_reducible exact LeO.refl _)
      | (with_reducible exact LeO.none _)
      | (with_reducible refine LeO.ite ?_ ?_)
      | (with_reducible refine LeO.bind ?_ (fun _ => ?_))
      | exact spec_l27Log.mono _ _ _ _
      | exact LeO.none _
      | refine LeO.ite ?_ ?_
      | refine LeO.bind ?_ (fun _ => ?_)
set_option maxHeartbeats 8000000 in
set_option maxRecDepth 100000 in
theorem Ef.calls (k : Nat) (a0_0 : ByteArray) (a0_1 : ByteArray) (a0_2 : Int) (r1 : ByteArray) (r2 : ByteArray) (r3 : Int) (r4 : Bool) (w : World) (h : Ef.f k a0_0 a0_1 a0_2 = some (r1, r2, r3, r4)) :
    Calls Tryd.prog 26 #[.agg #[.string a0_0, .string a0_1, .int .i64 a0_2]] w fun e w' => e = .returned (.tuple #[.agg #[.string r1, .string r2, .int .i64 r3], .bool r4]) ∧ Below w.heap.size w w' := by
  have hu31 := Tryd.underlying31
  have HB := Aside0.mk (Below.refl w.heap.size w)
  have H : ((spec_l27Log.f k a0_0 a0_1 a0_2).bind fun t307 => (if t307 = true then (if a0_0.size + a0_1.size ≤ 9223372036854775807 then (some (a0_0 ++ a0_1, (⟨#[]⟩ : ByteArray), a0_2, true)) else (none)) else (some ((⟨#[]⟩ : ByteArray), (⟨#[]⟩ : ByteArray), 0, false)))) = some (r1, r2, r3, r4) := h
  clear h
  replace H := Option.bind_eq_some_iff.mp H
  obtain ⟨t307, A20, H⟩ := H
  replace H : (if t307 = true then (if a0_0.size + a0_1.size ≤ 9223372036854775807 then (some (a0_0 ++ a0_1, (⟨#[]⟩ : ByteArray), a0_2, true)) else (none)) else (some ((⟨#[]⟩ : ByteArray), (⟨#[]⟩ : ByteArray), 0, false))) = some (r1, r2, r3, r4) := H
  have A2 := Aside0.mk A20
  clear A20
  by_cases c3 : t307 = true
  · subst c3
    have H1 : (if a0_0.size + a0_1.size ≤ 9223372036854775807 then (some (a0_0 ++ a0_1, (⟨#[]⟩ : ByteArray), a0_2, true)) else (none)) = some (r1, r2, r3, r4) := by rw [if_pos rfl] at H; exact H
    clear H
    have H := H1
    clear H1
    by_cases c4 : a0_0.size + a0_1.size ≤ 9223372036854775807
    · rw [if_pos c4] at H
      have c4b0 := eq_true c4
      have c4b1 : decide (a0_0.size + a0_1.size ≤ 9223372036854775807) = true := decide_eq_true c4
      try have c4b2 : (9223372036854775807 < a0_0.size + a0_1.size) = False := eq_false (Nat.not_lt.2 c4)
      simp only [Option.some.injEq, Prod.mk.injEq] at H
      obtain ⟨rfl, rfl, rfl, rfl⟩ := H
      go_enter Tryd.func26, Tryd.ntmps26
      go_wp2_with (first | ((with_reducible refine gate_dst (N := 1) rfl ?_); refine box_event ?hg (N := 1) ?hd (cs := #[.string a0_0, .string a0_1, .int .i64 a0_2]) (t := 31) ?hr ?_; (case hd => rfl); (case hg => rfl); (case hr => first | (go_simp; done) | (go_simp; rfl)); intro gb0 hg w5 hbox hb; have n0_ := Aside0.mk (below_step Ya_ hb); have n1_ := Aside0.mk (hbox); have n2_ := Aside0.mk ((by rw [hg]; exact (below_size Ya_) : w.heap.size ≤ gb0)); have n3_ := Aside0.mk ((by rw [hg]; exact (below_size Ya_) : w.heap.size ≤ gb0)); clear HB; have HB := n0_; have BK0 := n1_; have GW0 := n2_; have GE0 := n3_; clear n0_ n1_ n2_ n3_; clear hb hbox hg) | ((with_reducible refine gate_dst (N := 2) rfl ?_); refine box_event ?hg (N := 2) ?hd (cs := #[.string (⟨#[]⟩ : ByteArray), .string (⟨#[]⟩ : ByteArray), .int .i64 0]) (t := 31) ?hr ?_; (case hd => rfl); (case hg => rfl); (case hr => first | (go_simp; done) | (go_simp; rfl)); intro gb1 hg w6 hbox hb; have n0_ := Aside0.mk (blk_below (g := gb0) (o := .cells #[.string a0_0, .string a0_1, .int .i64 a0_2] 31 (0, 0)) Yd_ hb); have n1_ := Aside0.mk (below_step Yb_ hb); have n2_ := Aside0.mk (hbox); have n3_ := Aside0.mk ((by rw [hg]; exact (below_size Yb_) : w.heap.size ≤ gb1)); have n4_ := Aside0.mk ((by rw [hg]; exact (below_size Yb_) : w.heap.size ≤ gb1)); have n5_ := Aside0.mk ((by rw [hg]; exact Nat.ne_of_lt (blk_lt (g := gb0) (o := .cells #[.string a0_0, .string a0_1, .int .i64 a0_2] 31 (0, 0)) Yd_) : gb0 ≠ gb1)); have n6_ := Aside0.mk ((by rw [hg]; exact Nat.ne_of_gt (blk_lt (g := gb0) (o := .cells #[.string a0_0, .string a0_1, .int .i64 a0_2] 31 (0, 0)) Yd_) : gb1 ≠ gb0)); clear BK0; clear HB; have BK0 := n0_; have HB := n1_; have BK1 := n2_; have GW1 := n3_; have GE1 := n4_; have NB0_1 := n5_; have NB1_0 := n6_; clear n0_ n1_ n2_ n3_ n4_ n5_ n6_; clear hb hbox hg; have hnb7 := NB0_1.out; have hnc7 := NB1_0.out; have hcz8_0 : w6.cell? ⟨gb0, 0, none⟩ = some (.string a0_0) := (blk_cell BK0.out 0).trans rfl; have hcz8_1 : w6.cell? ⟨gb0, 1, none⟩ = some (.string a0_1) := (blk_cell BK0.out 1).trans rfl; have hcz8_2 : w6.cell? ⟨gb0, 2, none⟩ = some (.int .i64 a0_2) := (blk_cell BK0.out 2).trans rfl; have hfz8_0 := Ac BK0.out 0; have hfz8_1 := Ac BK0.out 1; have hfz8_2 := Ac BK0.out 2) | ((with_reducible refine gate_callee (f := 49) rfl ?_); refine goesL_ (some 5) rfl rfl Tryd.func49 (by kernel_rfl) rfl #[.agg #[.string a0_0, .string a0_1, .int .i64 a0_2]] rfl Yc_ ?_; (with_reducible refine (spec_l27Log.calls k a0_0 a0_1 a0_2 true _ A2.out).mono ?_); rintro e w9 ⟨rfl, hb⟩; refine ⟨_, rfl, ?_⟩; have n0_ := Aside0.mk (blk_below (g := gb0) (o := .cells #[.string a0_0, .string a0_1, .int .i64 a0_2] 31 (0, 0)) Yd_ hb); have n1_ := Aside0.mk (blk_below (g := gb1) (o := .cells #[.string (⟨#[]⟩ : ByteArray), .string (⟨#[]⟩ : ByteArray), .int .i64 0] 31 (0, 0)) Yg_ hb); have n2_ := Aside0.mk (below_step Ye_ hb); clear BK0; clear BK1; clear HB; have BK0 := n0_; have BK1 := n1_; have HB := n2_; clear n0_ n1_ n2_; (try clear hb); (try clear hb2); (try clear hk); (try clear hi); have hcz10_0 : w9.cell? ⟨gb0, 0, none⟩ = some (.string a0_0) := (blk_cell BK0.out 0).trans rfl; have hcz10_1 : w9.cell? ⟨gb0, 1, none⟩ = some (.string a0_1) := (blk_cell BK0.out 1).trans rfl; have hcz10_2 : w9.cell? ⟨gb0, 2, none⟩ = some (.int .i64 a0_2) := (blk_cell BK0.out 2).trans rfl; have hfz10_0 := Ac BK0.out 0; have hfz10_1 := Ac BK0.out 1; have hfz10_2 := Ac BK0.out 2; have hcz11_0 : w9.cell? ⟨gb1, 0, none⟩ = some (.string (⟨#[]⟩ : ByteArray)) := (blk_cell BK1.out 0).trans rfl; have hcz11_1 : w9.cell? ⟨gb1, 1, none⟩ = some (.string (⟨#[]⟩ : ByteArray)) := (blk_cell BK1.out 1).trans rfl; have hcz11_2 : w9.cell? ⟨gb1, 2, none⟩ = some (.int .i64 0) := (blk_cell BK1.out 2).trans rfl; have hfz11_0 := Ac BK1.out 0; have hfz11_1 := Ac BK1.out 1; have hfz11_2 := Ac BK1.out 2))
      refine bodyPost_ret (Fe rfl _ _ gb1 31 #[.string (a0_0 ++ a0_1), .string (⟨#[]⟩ : ByteArray), .int .i64 a0_2] (0, 0) _ rfl Ydi_ Tryd.underlying31 rfl (by kernel_rfl)) rfl ?_
      exact ⟨by first | rfl | (simp [Af, Ag] <;> rfl) | (simp [*, Af, Ag] <;> rfl), by repeat (first | (with_reducible first | exact HB.out | apply below_alloc | apply pw_below_drewN | apply below_drew1 | refine below_set ?_ GE0.out | refine below_set ?_ GE1.out) | exact HB.out)⟩
    · rw [if_neg c4] at H
      exact absurd H (by simp)
  · replace c3 := Bool.eq_false_iff.mpr c3
    subst c3
    have H1 : (some ((⟨#[]⟩ : ByteArray), (⟨#[]⟩ : ByteArray), 0, false)) = some (r1, r2, r3, r4) := by rw [if_neg (show ¬ (false = true) by decide)] at H; exact H
    clear H
    have H := H1
    clear H1
    simp only [Option.some.injEq, Prod.mk.injEq] at H
    obtain ⟨rfl, rfl, rfl, rfl⟩ := H
    go_enter Tryd.func26, Tryd.ntmps26
    go_wp2_with (first | ((with_reducible refine gate_dst (N := 1) rfl ?_); refine box_event ?hg (N := 1) ?hd (cs := #[.string a0_0, .string a0_1, .int .i64 a0_2]) (t := 31) ?hr ?_; (case hd => rfl); (case hg => rfl); (case hr => first | (go_simp; done) | (go_simp; rfl)); intro gb0 hg w12 hbox hb; have n0_ := Aside0.mk (below_step Ya_ hb); have n1_ := Aside0.mk (hbox); have n2_ := Aside0.mk ((by rw [hg]; exact (below_size Ya_) : w.heap.size ≤ gb0)); have n3_ := Aside0.mk ((by rw [hg]; exact (below_size Ya_) : w.heap.size ≤ gb0)); clear HB; have HB := n0_; have BK0 := n1_; have GW0 := n2_; have GE0 := n3_; clear n0_ n1_ n2_ n3_; clear hb hbox hg) | ((with_reducible refine gate_dst (N := 2) rfl ?_); refine box_event ?hg (N := 2) ?hd (cs := #[.string (⟨#[]⟩ : ByteArray), .string (⟨#[]⟩ : ByteArray), .int .i64 0]) (t := 31) ?hr ?_; (case hd => rfl); (case hg => rfl); (case hr => first | (go_simp; done) | (go_simp; rfl)); intro gb1 hg w13 hbox hb; have n0_ := Aside0.mk (blk_below (g := gb0) (o := .cells #[.string a0_0, .string a0_1, .int .i64 a0_2] 31 (0, 0)) Yd_ hb); have n1_ := Aside0.mk (below_step Yb_ hb); have n2_ := Aside0.mk (hbox); have n3_ := Aside0.mk ((by rw [hg]; exact (below_size Yb_) : w.heap.size ≤ gb1)); have n4_ := Aside0.mk ((by rw [hg]; exact (below_size Yb_) : w.heap.size ≤ gb1)); have n5_ := Aside0.mk ((by rw [hg]; exact Nat.ne_of_lt (blk_lt (g := gb0) (o := .cells #[.string a0_0, .string a0_1, .int .i64 a0_2] 31 (0, 0)) Yd_) : gb0 ≠ gb1)); have n6_ := Aside0.mk ((by rw [hg]; exact Nat.ne_of_gt (blk_lt (g := gb0) (o := .cells #[.string a0_0, .string a0_1, .int .i64 a0_2] 31 (0, 0)) Yd_) : gb1 ≠ gb0)); clear BK0; clear HB; have BK0 := n0_; have HB := n1_; have BK1 := n2_; have GW1 := n3_; have GE1 := n4_; have NB0_1 := n5_; have NB1_0 := n6_; clear n0_ n1_ n2_ n3_ n4_ n5_ n6_; clear hb hbox hg; have hnb14 := NB0_1.out; have hnc14 := NB1_0.out; have hcz15_0 : w13.cell? ⟨gb0, 0, none⟩ = some (.string a0_0) := (blk_cell BK0.out 0).trans rfl; have hcz15_1 : w13.cell? ⟨gb0, 1, none⟩ = some (.string a0_1) := (blk_cell BK0.out 1).trans rfl; have hcz15_2 : w13.cell? ⟨gb0, 2, none⟩ = some (.int .i64 a0_2) := (blk_cell BK0.out 2).trans rfl; have hfz15_0 := Ac BK0.out 0; have hfz15_1 := Ac BK0.out 1; have hfz15_2 := Ac BK0.out 2) | ((with_reducible refine gate_callee (f := 49) rfl ?_); refine goesL_ (some 5) rfl rfl Tryd.func49 (by kernel_rfl) rfl #[.agg #[.string a0_0, .string a0_1, .int .i64 a0_2]] rfl Yc_ ?_; (with_reducible refine (spec_l27Log.calls k a0_0 a0_1 a0_2 false _ A2.out).mono ?_); rintro e w16 ⟨rfl, hb⟩; refine ⟨_, rfl, ?_⟩; have n0_ := Aside0.mk (blk_below (g := gb0) (o := .cells #[.string a0_0, .string a0_1, .int .i64 a0_2] 31 (0, 0)) Yd_ hb); have n1_ := Aside0.mk (blk_below (g := gb1) (o := .cells #[.string (⟨#[]⟩ : ByteArray), .string (⟨#[]⟩ : ByteArray), .int .i64 0] 31 (0, 0)) Yg_ hb); have n2_ := Aside0.mk (below_step Ye_ hb); clear BK0; clear BK1; clear HB; have BK0 := n0_; have BK1 := n1_; have HB := n2_; clear n0_ n1_ n2_; (try clear hb); (try clear hb2); (try clear hk); (try clear hi); have hcz17_0 : w16.cell? ⟨gb1, 0, none⟩ = some (.string (⟨#[]⟩ : ByteArray)) := (blk_cell BK1.out 0).trans rfl; have hcz17_1 : w16.cell? ⟨gb1, 1, none⟩ = some (.string (⟨#[]⟩ : ByteArray)) := (blk_cell BK1.out 1).trans rfl; have hcz17_2 : w16.cell? ⟨gb1, 2, none⟩ = some (.int .i64 0) := (blk_cell BK1.out 2).trans rfl; have hfz17_0 := Ac BK1.out 0; have hfz17_1 := Ac BK1.out 1; have hfz17_2 := Ac BK1.out 2))
    refine bodyPost_ret (Fe rfl _ _ gb1 31 #[.string (⟨#[]⟩ : ByteArray), .string (⟨#[]⟩ : ByteArray), .int .i64 0] (0, 0) _ rfl Ydh_ Tryd.underlying31 rfl (by kernel_rfl)) rfl ?_
    exact ⟨by first | rfl | (simp [Af, Ag] <;> rfl) | (simp [*, Af, Ag] <;> rfl), by repeat (first | (with_reducible first | exact HB.out | apply below_alloc | apply pw_below_drewN | apply below_drew1 | refine below_set ?_ GE0.out | refine below_set ?_ GE1.out) | exact HB.out)⟩
end Go.Proofs.YtkpieljmhgfofaaDoor.X

namespace Go.Proofs.YtkpieljmhgfofaaDoor.X
open Go.RowKit Go.Proofs.YtkpieljmhgfofaaDoorW.PrintWords Go.Proofs.YtkpieljmhgfofaaDoorW.PrintLast Go.Proofs.YtkpieljmhgfofaaDoorW.PrintMore
attribute [local go_sem] max2_int min2_int max_two min_two max_three min_three max_four min_four
open Go.Proofs.YtkpieljmhgfofaaDoorG
def Az.j0 : Nat → Bool → ByteArray → ByteArray → Int → ByteArray → ByteArray → Option (ByteArray × ByteArray × Int × Int)
  | 0, _, _, _, _, _, _ => none
  | k + 1, x13, x331000, x331001, x331002, x332000, x332001 => if x13 = true then (some (x331000, x331001, x331002, 1)) else (if x331002 = 60 then (some (x331000, x331001, x331002, 2)) else ((Bi.f k x331002 x332000 x332001).bind fun t335 => (if x331001.size + t335.size ≤ 9223372036854775807 then (some (x331000, x331001 ++ t335, wrap64 (x331002 + 1), 0)) else (none))))
def Az.f (k : Nat) (a0_0 : ByteArray) (a0_1 : ByteArray) (a0_2 : Int) (a1_0 : ByteArray) (a1_1 : ByteArray) : Option (ByteArray × ByteArray × Int × Int) := (spec_l27Log.f k a0_0 a0_1 a0_2).bind fun t333 => (if t333 = true then ((Df.f k a1_0 a1_1).bind fun t334 => (Az.j0 k (!t334) a0_0 a0_1 a0_2 a1_0 a1_1)) else (Az.j0 k true a0_0 a0_1 a0_2 a1_0 a1_1))
theorem Az.Ec : ∀ k, (∀ y0 y1 y2 y3 y4 y5, LeO (Az.j0 k y0 y1 y2 y3 y4 y5) (Az.j0 (k + 1) y0 y1 y2 y3 y4 y5))
  | 0 => fun _ _ _ _ _ _ r h => by simp [Az.j0] at h
  | k + 1 => by
    have ih0 := Az.Ec k
    · intro y0 y1 y2 y3 y4 y5
      unfold Az.j0
      repeat' first
      | (with_reducible exact ih0 _ _ _ _ _ _)
      | (with_reducible exact Df.mono _ _ _)
      | (with_reducible exact Bi.mono _ _ _ _)
      | (with_reducible exact spec_l27Log.mono _ _ _ _)
      | (with_reducible exact LeO.refl _)
      | (with_reducible exact LeO.none _)
      | (with_reducible refine LeO.ite ?_ ?_)
      | (with_reducible refine LeO.bind ?_ (fun _ => ?_))
      | exact ih0 _ _ _ _ _ _
      | exact Df.mono _ _ _
      | exact Bi.mono _ _ _ _
      | exact spec_l27Log.mono _ _ _ _
      | exact LeO.none _
      | refine LeO.ite ?_ ?_
      | refine LeO.bind ?_ (fun _ => ?_)
theorem Az.mono : ∀ a0 a1 a2 a3 a4 k, LeO (Az.f k a0 a1 a2 a3 a4) (Az.f (k + 1) a0 a1 a2 a3 a4) := by
  intro a0 a1 a2 a3 a4 k
  have ih0 := Az.Ec k
  unfold Az.f
  repeat' first
      | (with_reducible exact ih0 _ _ _ _ _ _)
      | (with_reducible exact Df.mono _ _ _)
      | (with_reducible exact Bi.mono _ _ _ _)
      | (with_reducible exact spec_l27Log.mono _ _ _ _)
      | (with_reducible exact LeO.refl _)
      | (with_reducible exact LeO.none _)
      | (with_reducible refine LeO.ite ?_ ?_)
      | (with_reducible refine LeO.bind ?_ (fun _ => ?_))
      | exact ih0 _ _ _ _ _ _
      | exact Df.mono _ _ _
      | exact Bi.mono _ _ _ _
      | exact spec_l27Log.mono _ _ _ _
      | exact LeO.none _
      | refine LeO.ite ?_ ?_
      | refine LeO.bind ?_ (fun _ => ?_)
def Az.T5 : Bool × List (List Nat × List Nat) := (true, [([], []), ([0], [0]), ([], []), ([2], [2]), ([], []), ([3, 4], [3, 4]), ([1, 5], [1, 5]), ([0, 1, 2, 3, 4, 5, 6], []), ([7, 6, 5, 0, 1, 2, 3, 4, 5, 6], [6, 7])])
def Az.B5 : List Nat := [0, 1, 0, 4, 0, 28, 63, 127, 255]
theorem Az.tab5 : rtab .any (opsOf Tryd.f28 5) = Az.T5 := by kernel_rfl
theorem Az.bits5 : Gm Az.T5.2 Az.B5 = true := by kernel_rfl
set_option maxHeartbeats 8000000 in
set_option maxRecDepth 100000 in
theorem Az.calls (k : Nat) (a0_0 : ByteArray) (a0_1 : ByteArray) (a0_2 : Int) (a1_0 : ByteArray) (a1_1 : ByteArray) (r1 : ByteArray) (r2 : ByteArray) (r3 : Int) (r4 : Int) (w : World) (h : Az.f k a0_0 a0_1 a0_2 a1_0 a1_1 = some (r1, r2, r3, r4)) :
    Calls Tryd.prog 28 #[.agg #[.string a0_0, .string a0_1, .int .i64 a0_2], .agg #[.string a1_0, .string a1_1]] w fun e w' => e = .returned (.tuple #[.agg #[.string r1, .string r2, .int .i64 r3], .int .i64 r4]) ∧ Below w.heap.size w w' := by
  have hu31 := Tryd.underlying31
  have hu27 := Tryd.underlying27
  have HB := Aside0.mk (Below.refl w.heap.size w)
  have H : ((spec_l27Log.f k a0_0 a0_1 a0_2).bind fun t333 => (if t333 = true then ((Df.f k a1_0 a1_1).bind fun t334 => (Az.j0 k (!t334) a0_0 a0_1 a0_2 a1_0 a1_1)) else (Az.j0 k true a0_0 a0_1 a0_2 a1_0 a1_1))) = some (r1, r2, r3, r4) := h
  clear h
  have HC3 := Aside0.mk H
  clear H
  go_enter Tryd.func28, Tryd.ntmps28
  go_upto_region 1 with (first | ((with_reducible refine gate_dst (N := 2) rfl ?_); refine box_event ?hg (N := 2) ?hd (cs := #[.string a0_0, .string a0_1, .int .i64 a0_2]) (t := 31) ?hr ?_; (case hd => rfl); (case hg => rfl); (case hr => first | (go_simp; done) | (go_simp; rfl)); intro gb0 hg w4 hbox hb; have n0_ := Aside0.mk (below_step Ya_ hb); have n1_ := Aside0.mk (hbox); have n2_ := Aside0.mk ((by rw [hg]; exact (below_size Ya_) : w.heap.size ≤ gb0)); have n3_ := Aside0.mk ((by rw [hg]; exact (below_size Ya_) : w.heap.size ≤ gb0)); clear HB; have HB := n0_; have BK0 := n1_; have GW0 := n2_; have GE0 := n3_; clear n0_ n1_ n2_ n3_; clear hb hbox hg) | ((with_reducible refine gate_dst (N := 3) rfl ?_); refine box_event ?hg (N := 3) ?hd (cs := #[.string a1_0, .string a1_1]) (t := 27) ?hr ?_; (case hd => rfl); (case hg => rfl); (case hr => first | (go_simp; done) | (go_simp; rfl)); intro gb1 hg w5 hbox hb; have n0_ := Aside0.mk (blk_below (g := gb0) (o := .cells #[.string a0_0, .string a0_1, .int .i64 a0_2] 31 (0, 0)) Yd_ hb); have n1_ := Aside0.mk (below_step Yb_ hb); have n2_ := Aside0.mk (hbox); have n3_ := Aside0.mk ((by rw [hg]; exact (below_size Yb_) : w.heap.size ≤ gb1)); have n4_ := Aside0.mk ((by rw [hg]; exact (below_size Yb_) : w.heap.size ≤ gb1)); have n5_ := Aside0.mk ((by rw [hg]; exact Nat.ne_of_lt (blk_lt (g := gb0) (o := .cells #[.string a0_0, .string a0_1, .int .i64 a0_2] 31 (0, 0)) Yd_) : gb0 ≠ gb1)); have n6_ := Aside0.mk ((by rw [hg]; exact Nat.ne_of_gt (blk_lt (g := gb0) (o := .cells #[.string a0_0, .string a0_1, .int .i64 a0_2] 31 (0, 0)) Yd_) : gb1 ≠ gb0)); clear BK0; clear HB; have BK0 := n0_; have HB := n1_; have BK1 := n2_; have GW1 := n3_; have GE1 := n4_; have NB0_1 := n5_; have NB1_0 := n6_; clear n0_ n1_ n2_ n3_ n4_ n5_ n6_; clear hb hbox hg) | ((with_reducible refine gate_dst (N := 4) rfl ?_); refine box_event ?hg (N := 4) ?hd (cs := #[.string (⟨#[]⟩ : ByteArray), .string (⟨#[]⟩ : ByteArray), .int .i64 0]) (t := 31) ?hr ?_; (case hd => rfl); (case hg => rfl); (case hr => first | (go_simp; done) | (go_simp; rfl)); intro gb2 hg w6 hbox hb; have n0_ := Aside0.mk (blk_below (g := gb0) (o := .cells #[.string a0_0, .string a0_1, .int .i64 a0_2] 31 (0, 0)) Yd_ hb); have n1_ := Aside0.mk (blk_below (g := gb1) (o := .cells #[.string a1_0, .string a1_1] 27 (0, 0)) Yg_ hb); have n2_ := Aside0.mk (below_step Ye_ hb); have n3_ := Aside0.mk (hbox); have n4_ := Aside0.mk ((by rw [hg]; exact (below_size Ye_) : w.heap.size ≤ gb2)); have n5_ := Aside0.mk ((by rw [hg]; exact (below_size Ye_) : w.heap.size ≤ gb2)); have n6_ := Aside0.mk ((by rw [hg]; exact Nat.ne_of_lt (blk_lt (g := gb0) (o := .cells #[.string a0_0, .string a0_1, .int .i64 a0_2] 31 (0, 0)) Yd_) : gb0 ≠ gb2)); have n7_ := Aside0.mk ((by rw [hg]; exact Nat.ne_of_gt (blk_lt (g := gb0) (o := .cells #[.string a0_0, .string a0_1, .int .i64 a0_2] 31 (0, 0)) Yd_) : gb2 ≠ gb0)); have n8_ := Aside0.mk ((by rw [hg]; exact Nat.ne_of_lt (blk_lt (g := gb1) (o := .cells #[.string a1_0, .string a1_1] 27 (0, 0)) Yg_) : gb1 ≠ gb2)); have n9_ := Aside0.mk ((by rw [hg]; exact Nat.ne_of_gt (blk_lt (g := gb1) (o := .cells #[.string a1_0, .string a1_1] 27 (0, 0)) Yg_) : gb2 ≠ gb1)); clear BK0; clear BK1; clear HB; have BK0 := n0_; have BK1 := n1_; have HB := n2_; have BK2 := n3_; have GW2 := n4_; have GE2 := n5_; have NB0_2 := n6_; have NB2_0 := n7_; have NB1_2 := n8_; have NB2_1 := n9_; clear n0_ n1_ n2_ n3_ n4_ n5_ n6_ n7_ n8_ n9_; clear hb hbox hg))
  (try simp only [Act.put, List.setIfInBounds_toArray, List.set_cons_zero, List.set_cons_succ])
  go_cut [13] (fun v13 wc => ∃ (kq : Nat) (x13_2 : Bool), v13 = .bool x13_2 ∧ Aside0 (Az.j0 kq x13_2 a0_0 a0_1 a0_2 a1_0 a1_1 = some (r1, r2, r3, r4)) ∧ Aside0 (kq ≤ k) ∧ Aside0 (wc.heap[gb0]? = some (.cells #[.string a0_0, .string a0_1, .int .i64 a0_2] 31 (0, 0))) ∧ Aside0 (wc.heap[gb1]? = some (.cells #[.string a1_0, .string a1_1] 27 (0, 0))) ∧ Aside0 (wc.heap[gb2]? = some (.cells #[.string (⟨#[]⟩ : ByteArray), .string (⟨#[]⟩ : ByteArray), .int .i64 0] 31 (0, 0))) ∧ Aside0 (Below w.heap.size w wc))
  case first =>
    have H := HC3.out
    clear HC3
    replace H := Option.bind_eq_some_iff.mp H
    obtain ⟨t333, A70, H⟩ := H
    replace H : (if t333 = true then ((Df.f k a1_0 a1_1).bind fun t334 => (Az.j0 k (!t334) a0_0 a0_1 a0_2 a1_0 a1_1)) else (Az.j0 k true a0_0 a0_1 a0_2 a1_0 a1_1)) = some (r1, r2, r3, r4) := H
    have A7 := Aside0.mk A70
    clear A70
    by_cases c8 : t333 = true
    · subst c8
      have H1 : ((Df.f k a1_0 a1_1).bind fun t334 => (Az.j0 k (!t334) a0_0 a0_1 a0_2 a1_0 a1_1)) = some (r1, r2, r3, r4) := by rw [if_pos rfl] at H; exact H
      clear H
      have H := H1
      clear H1
      replace H := Option.bind_eq_some_iff.mp H
      obtain ⟨t334, A90, H⟩ := H
      replace H : (Az.j0 k (!t334) a0_0 a0_1 a0_2 a1_0 a1_1) = some (r1, r2, r3, r4) := H
      have A9 := Aside0.mk A90
      clear A90
      have H' := Aside0.mk H
      clear H
      have hnb10 := NB0_1.out
      have hnc10 := NB1_0.out
      have hnb11 := NB0_2.out
      have hnc11 := NB2_0.out
      have hcz12_0 : w6.cell? ⟨gb0, 0, none⟩ = some (.string a0_0) := (blk_cell BK0.out 0).trans rfl
      have hcz12_1 : w6.cell? ⟨gb0, 1, none⟩ = some (.string a0_1) := (blk_cell BK0.out 1).trans rfl
      have hcz12_2 : w6.cell? ⟨gb0, 2, none⟩ = some (.int .i64 a0_2) := (blk_cell BK0.out 2).trans rfl
      have hfz12_0 := Ac BK0.out 0
      have hfz12_1 := Ac BK0.out 1
      have hfz12_2 := Ac BK0.out 2
      go_wp2_with (first | ((with_reducible refine gate_callee (f := 49) rfl ?_); refine goesL_ (some 7) rfl rfl Tryd.func49 (by kernel_rfl) rfl #[.agg #[.string a0_0, .string a0_1, .int .i64 a0_2]] rfl Yc_ ?_; (with_reducible refine (spec_l27Log.calls k a0_0 a0_1 a0_2 true _ A7.out).mono ?_); rintro e w13 ⟨rfl, hb⟩; refine ⟨_, rfl, ?_⟩; have n0_ := Aside0.mk (blk_below (g := gb0) (o := .cells #[.string a0_0, .string a0_1, .int .i64 a0_2] 31 (0, 0)) Yd_ hb); have n1_ := Aside0.mk (blk_below (g := gb1) (o := .cells #[.string a1_0, .string a1_1] 27 (0, 0)) Yg_ hb); have n2_ := Aside0.mk (blk_below (g := gb2) (o := .cells #[.string (⟨#[]⟩ : ByteArray), .string (⟨#[]⟩ : ByteArray), .int .i64 0] 31 (0, 0)) Yi_ hb); have n3_ := Aside0.mk (below_step Ybc_ hb); clear BK0; clear BK1; clear BK2; clear HB; have BK0 := n0_; have BK1 := n1_; have BK2 := n2_; have HB := n3_; clear n0_ n1_ n2_ n3_; (try clear hb); (try clear hb2); (try clear hk); (try clear hi); have hnb14 := NB1_2.out; have hnc14 := NB2_1.out; have hcz15_0 : w13.cell? ⟨gb1, 0, none⟩ = some (.string a1_0) := (blk_cell BK1.out 0).trans rfl; have hcz15_1 : w13.cell? ⟨gb1, 1, none⟩ = some (.string a1_1) := (blk_cell BK1.out 1).trans rfl; have hfz15_0 := Ac BK1.out 0; have hfz15_1 := Ac BK1.out 1) | (go_at_call 43; (with_reducible refine (Df.calls k a1_0 a1_1 t334 _ A9.out).mono ?_); rintro e w16 ⟨rfl, hb⟩; have n0_ := Aside0.mk (blk_below (g := gb0) (o := .cells #[.string a0_0, .string a0_1, .int .i64 a0_2] 31 (0, 0)) Yd_ hb); have n1_ := Aside0.mk (blk_below (g := gb1) (o := .cells #[.string a1_0, .string a1_1] 27 (0, 0)) Yg_ hb); have n2_ := Aside0.mk (blk_below (g := gb2) (o := .cells #[.string (⟨#[]⟩ : ByteArray), .string (⟨#[]⟩ : ByteArray), .int .i64 0] 31 (0, 0)) Yi_ hb); have n3_ := Aside0.mk (below_step Ybc_ hb); clear BK0; clear BK1; clear BK2; clear HB; have BK0 := n0_; have BK1 := n1_; have BK2 := n2_; have HB := n3_; clear n0_ n1_ n2_ n3_; (try clear hb); (try clear hb2); (try clear hk); (try clear hi)))
      go_meet
      case rel => exact ⟨_, (!t334), Ybg_, H', ⟨by first | omega | exact Nat.le_refl _⟩, ⟨by (with_reducible repeat (first | refine blk_drewN ?_ _ | refine blk_drew ?_ | refine blk_alloc ?_ _)); exact BK0.out⟩, ⟨by (with_reducible repeat (first | refine blk_drewN ?_ _ | refine blk_drew ?_ | refine blk_alloc ?_ _)); exact BK1.out⟩, ⟨by (with_reducible repeat (first | refine blk_drewN ?_ _ | refine blk_drew ?_ | refine blk_alloc ?_ _)); exact BK2.out⟩, ⟨by repeat (first | (with_reducible first | exact HB.out | apply below_alloc | apply pw_below_drewN | apply below_drew1 | refine below_set ?_ GE0.out | refine below_set ?_ GE1.out | refine below_set ?_ GE2.out) | exact HB.out)⟩⟩
    · replace c8 := Bool.eq_false_iff.mpr c8
      subst c8
      have H1 : (Az.j0 k true a0_0 a0_1 a0_2 a1_0 a1_1) = some (r1, r2, r3, r4) := by rw [if_neg (show ¬ (false = true) by decide)] at H; exact H
      clear H
      have H := H1
      clear H1
      have H' := Aside0.mk H
      clear H
      have hnb17 := NB0_1.out
      have hnc17 := NB1_0.out
      have hnb18 := NB0_2.out
      have hnc18 := NB2_0.out
      have hcz19_0 : w6.cell? ⟨gb0, 0, none⟩ = some (.string a0_0) := (blk_cell BK0.out 0).trans rfl
      have hcz19_1 : w6.cell? ⟨gb0, 1, none⟩ = some (.string a0_1) := (blk_cell BK0.out 1).trans rfl
      have hcz19_2 : w6.cell? ⟨gb0, 2, none⟩ = some (.int .i64 a0_2) := (blk_cell BK0.out 2).trans rfl
      have hfz19_0 := Ac BK0.out 0
      have hfz19_1 := Ac BK0.out 1
      have hfz19_2 := Ac BK0.out 2
      go_wp2_with (first | ((with_reducible refine gate_callee (f := 49) rfl ?_); refine goesL_ (some 7) rfl rfl Tryd.func49 (by kernel_rfl) rfl #[.agg #[.string a0_0, .string a0_1, .int .i64 a0_2]] rfl Yc_ ?_; (with_reducible refine (spec_l27Log.calls k a0_0 a0_1 a0_2 false _ A7.out).mono ?_); rintro e w20 ⟨rfl, hb⟩; refine ⟨_, rfl, ?_⟩; have n0_ := Aside0.mk (blk_below (g := gb0) (o := .cells #[.string a0_0, .string a0_1, .int .i64 a0_2] 31 (0, 0)) Yd_ hb); have n1_ := Aside0.mk (blk_below (g := gb1) (o := .cells #[.string a1_0, .string a1_1] 27 (0, 0)) Yg_ hb); have n2_ := Aside0.mk (blk_below (g := gb2) (o := .cells #[.string (⟨#[]⟩ : ByteArray), .string (⟨#[]⟩ : ByteArray), .int .i64 0] 31 (0, 0)) Yi_ hb); have n3_ := Aside0.mk (below_step Ybc_ hb); clear BK0; clear BK1; clear BK2; clear HB; have BK0 := n0_; have BK1 := n1_; have BK2 := n2_; have HB := n3_; clear n0_ n1_ n2_ n3_; (try clear hb); (try clear hb2); (try clear hk); (try clear hi)))
      go_meet
      case rel => exact ⟨_, (true), Ybg_, H', ⟨by first | omega | exact Nat.le_refl _⟩, ⟨by (with_reducible repeat (first | refine blk_drewN ?_ _ | refine blk_drew ?_ | refine blk_alloc ?_ _)); exact BK0.out⟩, ⟨by (with_reducible repeat (first | refine blk_drewN ?_ _ | refine blk_drew ?_ | refine blk_alloc ?_ _)); exact BK1.out⟩, ⟨by (with_reducible repeat (first | refine blk_drewN ?_ _ | refine blk_drew ?_ | refine blk_alloc ?_ _)); exact BK2.out⟩, ⟨by repeat (first | (with_reducible first | exact HB.out | apply below_alloc | apply pw_below_drewN | apply below_drew1 | refine below_set ?_ GE0.out | refine below_set ?_ GE1.out | refine below_set ?_ GE2.out) | exact HB.out)⟩⟩
  case rest =>
    clear HC3
    try clear c1
    try clear c2
    try clear p2
    try clear c4
    try clear c8
    try clear c10
    try clear c11
    try clear c14
    try clear c17
    try clear c18
    try clear hcz12_0
    try clear hcz12_1
    try clear hcz12_2
    try clear hcz15_0
    try clear hcz15_1
    try clear hcz19_0
    try clear hcz19_1
    try clear hcz19_2
    try clear hfz12_0
    try clear hfz12_1
    try clear hfz12_2
    try clear hfz15_0
    try clear hfz15_1
    try clear hfz19_0
    try clear hfz19_1
    try clear hfz19_2
    obtain ⟨kq, x13_2, rfl, HA, HJ2, BK0, BK1, BK2, HB⟩ := hcut
    cases kq with
    | zero => exact absurd HA.out (by simp [Az.j0])
    | succ kj2 =>
      have H := HA.out
      clear HA
      simp only [Az.j0] at H
      by_cases c21 : x13_2 = true
      · subst c21
        have H1 : (some (a0_0, a0_1, a0_2, 1)) = some (r1, r2, r3, r4) := by rw [if_pos rfl] at H; exact H
        clear H
        have H := H1
        clear H1
        simp only [Option.some.injEq, Prod.mk.injEq] at H
        obtain ⟨rfl, rfl, rfl, rfl⟩ := H
        have hnb22 := NB0_1.out
        have hnc22 := NB1_0.out
        have hnb23 := NB0_2.out
        have hnc23 := NB2_0.out
        have hcz24_0 : wc.cell? ⟨gb0, 0, none⟩ = some (.string a0_0) := (blk_cell BK0.out 0).trans rfl
        have hcz24_1 : wc.cell? ⟨gb0, 1, none⟩ = some (.string a0_1) := (blk_cell BK0.out 1).trans rfl
        have hcz24_2 : wc.cell? ⟨gb0, 2, none⟩ = some (.int .i64 a0_2) := (blk_cell BK0.out 2).trans rfl
        have hfz24_0 := Ac BK0.out 0
        have hfz24_1 := Ac BK0.out 1
        have hfz24_2 := Ac BK0.out 2
        have hnb25 := NB2_1.out
        have hnc25 := NB1_2.out
        have hcz26_0 : wc.cell? ⟨gb2, 0, none⟩ = some (.string (⟨#[]⟩ : ByteArray)) := (blk_cell BK2.out 0).trans rfl
        have hcz26_1 : wc.cell? ⟨gb2, 1, none⟩ = some (.string (⟨#[]⟩ : ByteArray)) := (blk_cell BK2.out 1).trans rfl
        have hcz26_2 : wc.cell? ⟨gb2, 2, none⟩ = some (.int .i64 0) := (blk_cell BK2.out 2).trans rfl
        have hfz26_0 := Ac BK2.out 0
        have hfz26_1 := Ac BK2.out 1
        have hfz26_2 := Ac BK2.out 2
        go_wp2
        refine bodyPost_ret (Fe rfl _ _ gb2 31 #[.string a0_0, .string a0_1, .int .i64 a0_2] (0, 0) _ rfl Ybf_ Tryd.underlying31 rfl (by kernel_rfl)) rfl ?_
        exact ⟨by first | rfl | (simp [Af, Ag] <;> rfl) | (simp [*, Af, Ag] <;> rfl), by repeat (first | (with_reducible first | exact HB.out | apply below_alloc | apply pw_below_drewN | apply below_drew1 | refine below_set ?_ GE0.out | refine below_set ?_ GE1.out | refine below_set ?_ GE2.out) | exact HB.out)⟩
      · replace c21 := Bool.eq_false_iff.mpr c21
        subst c21
        have H1 : (if a0_2 = 60 then (some (a0_0, a0_1, a0_2, 2)) else ((Bi.f kj2 a0_2 a1_0 a1_1).bind fun t335 => (if a0_1.size + t335.size ≤ 9223372036854775807 then (some (a0_0, a0_1 ++ t335, wrap64 (a0_2 + 1), 0)) else (none)))) = some (r1, r2, r3, r4) := by rw [if_neg (show ¬ (false = true) by decide)] at H; exact H
        clear H
        have H := H1
        clear H1
        by_cases c27 : a0_2 = 60
        · rw [if_pos c27] at H
          have c27b0 : (a0_2 == 60) = true := beq_iff_eq.mpr c27
          have c27b1 : (a0_2 != 60) = false := bne_eq_false_iff_eq.mpr c27
          clear c27
          simp only [Option.some.injEq, Prod.mk.injEq] at H
          obtain ⟨rfl, rfl, rfl, rfl⟩ := H
          have hnb28 := NB0_1.out
          have hnc28 := NB1_0.out
          have hnb29 := NB0_2.out
          have hnc29 := NB2_0.out
          have hcz30_0 : wc.cell? ⟨gb0, 0, none⟩ = some (.string a0_0) := (blk_cell BK0.out 0).trans rfl
          have hcz30_1 : wc.cell? ⟨gb0, 1, none⟩ = some (.string a0_1) := (blk_cell BK0.out 1).trans rfl
          have hcz30_2 : wc.cell? ⟨gb0, 2, none⟩ = some (.int .i64 a0_2) := (blk_cell BK0.out 2).trans rfl
          have hfz30_0 := Ac BK0.out 0
          have hfz30_1 := Ac BK0.out 1
          have hfz30_2 := Ac BK0.out 2
          have hnb31 := NB2_1.out
          have hnc31 := NB1_2.out
          have hcz32_0 : wc.cell? ⟨gb2, 0, none⟩ = some (.string (⟨#[]⟩ : ByteArray)) := (blk_cell BK2.out 0).trans rfl
          have hcz32_1 : wc.cell? ⟨gb2, 1, none⟩ = some (.string (⟨#[]⟩ : ByteArray)) := (blk_cell BK2.out 1).trans rfl
          have hcz32_2 : wc.cell? ⟨gb2, 2, none⟩ = some (.int .i64 0) := (blk_cell BK2.out 2).trans rfl
          have hfz32_0 := Ac BK2.out 0
          have hfz32_1 := Ac BK2.out 1
          have hfz32_2 := Ac BK2.out 2
          go_wp2
          refine bodyPost_ret (Fe rfl _ _ gb2 31 #[.string a0_0, .string a0_1, .int .i64 a0_2] (0, 0) _ rfl Ybf_ Tryd.underlying31 rfl (by kernel_rfl)) rfl ?_
          exact ⟨by first | rfl | (simp [Af, Ag] <;> rfl) | (simp [*, Af, Ag] <;> rfl), by repeat (first | (with_reducible first | exact HB.out | apply below_alloc | apply pw_below_drewN | apply below_drew1 | refine below_set ?_ GE0.out | refine below_set ?_ GE1.out | refine below_set ?_ GE2.out) | exact HB.out)⟩
        · rw [if_neg c27] at H
          have c27b0 : (a0_2 == 60) = false := beq_eq_false_iff_ne.mpr c27
          have c27b1 : (a0_2 != 60) = true := bne_iff_ne.mpr c27
          replace H := Option.bind_eq_some_iff.mp H
          obtain ⟨t335, A330, H⟩ := H
          replace H : (if a0_1.size + t335.size ≤ 9223372036854775807 then (some (a0_0, a0_1 ++ t335, wrap64 (a0_2 + 1), 0)) else (none)) = some (r1, r2, r3, r4) := H
          have A33 := Aside0.mk A330
          clear A330
          by_cases c34 : a0_1.size + t335.size ≤ 9223372036854775807
          · rw [if_pos c34] at H
            have c34b0 := eq_true c34
            have c34b1 : decide (a0_1.size + t335.size ≤ 9223372036854775807) = true := decide_eq_true c34
            try have c34b2 : (9223372036854775807 < a0_1.size + t335.size) = False := eq_false (Nat.not_lt.2 c34)
            simp only [Option.some.injEq, Prod.mk.injEq] at H
            obtain ⟨rfl, rfl, rfl, rfl⟩ := H
            have hnb35 := NB0_1.out
            have hnc35 := NB1_0.out
            have hnb36 := NB0_2.out
            have hnc36 := NB2_0.out
            have hcz37_0 : wc.cell? ⟨gb0, 0, none⟩ = some (.string a0_0) := (blk_cell BK0.out 0).trans rfl
            have hcz37_1 : wc.cell? ⟨gb0, 1, none⟩ = some (.string a0_1) := (blk_cell BK0.out 1).trans rfl
            have hcz37_2 : wc.cell? ⟨gb0, 2, none⟩ = some (.int .i64 a0_2) := (blk_cell BK0.out 2).trans rfl
            have hfz37_0 := Ac BK0.out 0
            have hfz37_1 := Ac BK0.out 1
            have hfz37_2 := Ac BK0.out 2
            try go_wp2
            have n0_ := Aside0.mk (blk_drew BK0.out)
            have n1_ := Aside0.mk (blk_drew BK1.out)
            have n2_ := Aside0.mk (blk_drew BK2.out)
            have n3_ := Aside0.mk (below_drew1 HB.out)
            clear BK0
            clear BK1
            clear BK2
            clear HB
            have BK0 := n0_
            have BK1 := n1_
            have BK2 := n2_
            have HB := n3_
            clear n0_ n1_ n2_ n3_
            refine start_ (n := 9) (S := fun w' => w'.cell? ⟨gb0, 0, none⟩ = some (.string a0_0) ∧ w'.cell? ⟨gb0, 1, none⟩ = some (.string a0_1) ∧ w'.cell? ⟨gb0, 2, none⟩ = some (.int .i64 a0_2) ∧ w'.cell? ⟨gb1, 0, none⟩ = some (.string a1_0) ∧ w'.cell? ⟨gb1, 1, none⟩ = some (.string a1_1)) (ds := [8]) #[false, false, false, false, false, false, false, false, false] (by kernel_rfl) rfl rfl ⟨(blk_cell BK0.out 0).trans rfl, (blk_cell BK0.out 1).trans rfl, (blk_cell BK0.out 2).trans rfl, (blk_cell BK1.out 0).trans rfl, (blk_cell BK1.out 1).trans rfl⟩ (fun hHeld => ?_); refine Gi Az.tab5 Az.bits5 (fun HT_ HW_ => ?_)
            generalize wc.drew = w38 at BK0 BK1 BK2 HB hHeld ⊢
            refine pure_ (i := 0) (N := some 19) (v := ?_) (a' := ?_) #[true, false, false, false, false, false, false, false, false] rfl rfl (Cj HT_.out (by kernel_rfl)) (fun _ _ _ h => h) (Or.inl ⟨by rfl, ?_⟩) ?_ ?_
            rotate_left
            · intro w'
              go_simp
              with_reducible rfl
            rotate_left
            · simp only [Act.put, List.setIfInBounds_toArray, List.set_cons_zero, List.set_cons_succ, i64_w, i32_w]
              rfl
            refine pure_ (i := 2) (N := some 21) (v := ?_) (a' := ?_) #[true, false, true, false, false, false, false, false, false] rfl rfl (Cj HT_.out (by kernel_rfl)) (fun _ _ _ h => h) (Or.inl ⟨by rfl, ?_⟩) ?_ ?_
            rotate_left
            · intro w'
              go_simp
              with_reducible rfl
            rotate_left
            · simp only [Act.put, List.setIfInBounds_toArray, List.set_cons_zero, List.set_cons_succ, i64_w, i32_w]
              rfl
            refine take_ (i := 1) (N := some 20) (v := ?_) (a' := ?_) #[true, true, true, false, false, false, false, false, false] rfl rfl (Et HT_.out HW_.out (by kernel_rfl)) (fun _ _ _ h => h) (Or.inl ⟨by rfl, ?_⟩) hHeld ?_ ?_
            rotate_left
            · rintro w' ⟨s0, s1, s2, s3, s4⟩
              go_simp
              with_reducible rfl
            rotate_left
            · simp only [Act.put, List.setIfInBounds_toArray, List.set_cons_zero, List.set_cons_succ, i64_w, i32_w]
              rfl
            refine take_ (i := 3) (N := some 22) (v := ?_) (a' := ?_) #[true, true, true, true, false, false, false, false, false] rfl rfl (Et HT_.out HW_.out (by kernel_rfl)) (fun _ _ _ h => h) (Or.inl ⟨by rfl, ?_⟩) hHeld ?_ ?_
            rotate_left
            · rintro w' ⟨s0, s1, s2, s3, s4⟩
              go_simp
              with_reducible rfl
            rotate_left
            · simp only [Act.put, List.setIfInBounds_toArray, List.set_cons_zero, List.set_cons_succ, i64_w, i32_w]
              rfl
            refine take_ (i := 4) (N := some 23) (v := ?_) (a' := ?_) #[true, true, true, true, true, false, false, false, false] rfl rfl (Et HT_.out HW_.out (by kernel_rfl)) (fun _ _ _ h => h) (Or.inl ⟨by rfl, ?_⟩) hHeld ?_ ?_
            rotate_left
            · rintro w' ⟨s0, s1, s2, s3, s4⟩
              go_simp
              with_reducible rfl
            rotate_left
            · simp only [Act.put, List.setIfInBounds_toArray, List.set_cons_zero, List.set_cons_succ, i64_w, i32_w]
              rfl
            refine one_ (i := 5) (N := some 24) #[true, true, true, true, true, true, false, false, false] rfl rfl (Fp HT_.out (by kernel_rfl)) (by decide) (fun K hK => ?_)
            refine goes_ Tryd.func44 (by kernel_rfl) rfl #[.int .i64 a0_2, .agg #[.string a1_0, .string a1_1]] (by rfl) rfl rfl Yc_ ?_
            with_reducible refine (Bi.calls kj2 a0_2 a1_0 a1_1 t335 _ A33.out).mono ?_
            rintro e w39 ⟨rfl, hb⟩
            refine ⟨_, rfl, ?_⟩
            have n0_ := Aside0.mk (blk_below (g := gb0) (o := .cells #[.string a0_0, .string a0_1, .int .i64 a0_2] 31 (0, 0)) Yd_ hb)
            have n1_ := Aside0.mk (blk_below (g := gb1) (o := .cells #[.string a1_0, .string a1_1] 27 (0, 0)) Yg_ hb)
            have n2_ := Aside0.mk (blk_below (g := gb2) (o := .cells #[.string (⟨#[]⟩ : ByteArray), .string (⟨#[]⟩ : ByteArray), .int .i64 0] 31 (0, 0)) Yi_ hb)
            have n3_ := Aside0.mk (below_step Ybc_ hb)
            clear BK0
            clear BK1
            clear BK2
            clear HB
            have BK0 := n0_
            have BK1 := n1_
            have BK2 := n2_
            have HB := n3_
            clear n0_ n1_ n2_ n3_
            (try clear hb)
            (try clear hb2)
            (try clear hk)
            (try clear hi)
            refine hK.out _ _ ⟨(blk_cell BK0.out 0).trans rfl, (blk_cell BK0.out 1).trans rfl, (blk_cell BK0.out 2).trans rfl, (blk_cell BK1.out 0).trans rfl, (blk_cell BK1.out 1).trans rfl⟩ (fun hHeld => ?_)
            clear hK K
            refine norm_ (a' := ?_) ?_ ?_
            rotate_left
            · show Act.put _ (some 24) _ = _
              simp only [Act.put, List.setIfInBounds_toArray, List.set_cons_zero, List.set_cons_succ, i64_w, i32_w]
              rfl
            refine pure_ (i := 6) (N := some 25) (v := ?_) (a' := ?_) #[true, true, true, true, true, true, true, false, false] rfl rfl (Cj HT_.out (by kernel_rfl)) (fun _ _ _ h => h) (Or.inl ⟨by rfl, ?_⟩) ?_ ?_
            rotate_left
            · intro w'
              go_simp
              with_reducible rfl
            rotate_left
            · simp only [Act.put, List.setIfInBounds_toArray, List.set_cons_zero, List.set_cons_succ, i64_w, i32_w]
              rfl
            refine pure_ (i := 7) (N := some 26) (v := ?_) (a' := ?_) #[true, true, true, true, true, true, true, true, false] rfl rfl (Cj HT_.out (by kernel_rfl)) (fun _ _ _ h => h) (Or.inl ⟨by rfl, ?_⟩) ?_ ?_
            rotate_left
            · intro w'
              go_simp
              with_reducible rfl
            rotate_left
            · simp only [Act.put, List.setIfInBounds_toArray, List.set_cons_zero, List.set_cons_succ, i64_w, i32_w]
              rfl
            refine last_ (i := 8) (N := none) #[true, true, true, true, true, true, true, true, true] rfl rfl (Fp HT_.out (by kernel_rfl)) (by decide) (fun K hK => ?_)
            have hs40 : w39.cell? ⟨gb0, 1, none⟩ = some (.string a0_1) := (blk_cell BK0.out 1).trans rfl
            have hfs40 := Ac BK0.out 1
            have hns40_1 := NB1_0.out
            have hns40_2 := NB2_0.out
            have hms40_1 := NB0_1.out
            have hms40_2 := NB0_2.out
            refine skip_ (w1 := ?_) (by rfl) rfl ?_ ?_
            rotate_left
            · go_simp
              rfl
            refine hK.out _ _ ?_
            clear hK K
            refine done_ (G5 HT_.out (by kernel_rfl)) ?_
            have hcz41_0 : w39.cell? ⟨gb0, 0, none⟩ = some (.string a0_0) := (blk_cell BK0.out 0).trans rfl
            have hcz41_1 : w39.cell? ⟨gb0, 1, none⟩ = some (.string a0_1) := (blk_cell BK0.out 1).trans rfl
            have hcz41_2 : w39.cell? ⟨gb0, 2, none⟩ = some (.int .i64 a0_2) := (blk_cell BK0.out 2).trans rfl
            have hfz41_0 := Ac BK0.out 0
            have hfz41_1 := Ac BK0.out 1
            have hfz41_2 := Ac BK0.out 2
            have hnb42 := NB2_1.out
            have hnc42 := NB1_2.out
            have hcz43_0 : w39.cell? ⟨gb2, 0, none⟩ = some (.string (⟨#[]⟩ : ByteArray)) := (blk_cell BK2.out 0).trans rfl
            have hcz43_1 : w39.cell? ⟨gb2, 1, none⟩ = some (.string (⟨#[]⟩ : ByteArray)) := (blk_cell BK2.out 1).trans rfl
            have hcz43_2 : w39.cell? ⟨gb2, 2, none⟩ = some (.int .i64 0) := (blk_cell BK2.out 2).trans rfl
            have hfz43_0 := Ac BK2.out 0
            have hfz43_1 := Ac BK2.out 1
            have hfz43_2 := Ac BK2.out 2
            try go_wp2
            refine bodyPost_ret (Fe rfl _ _ gb2 31 #[.string a0_0, .string (a0_1 ++ t335), .int .i64 (wrap64 (a0_2 + 1))] (0, 0) _ rfl (by (with_reducible repeat (first | refine blk_drewN ?_ _ | refine blk_drew ?_ | refine blk_alloc ?_ _)); refine Ak (cs := #[.string a0_0, .string (a0_1 ++ t335), .int .i64 0]) ?_ 2 _ rfl; (with_reducible repeat (first | refine blk_drewN ?_ _ | refine blk_drew ?_ | refine blk_alloc ?_ _)); refine Ak (cs := #[.string a0_0, .string (⟨#[]⟩ : ByteArray), .int .i64 0]) ?_ 1 _ rfl; (with_reducible repeat (first | refine blk_drewN ?_ _ | refine blk_drew ?_ | refine blk_alloc ?_ _)); refine Ak (cs := #[.string (⟨#[]⟩ : ByteArray), .string (⟨#[]⟩ : ByteArray), .int .i64 0]) ?_ 0 _ rfl; (with_reducible repeat (first | refine blk_drewN ?_ _ | refine blk_drew ?_ | refine blk_alloc ?_ _)); refine blk_far ?_ NB2_0.out _; (with_reducible repeat (first | refine blk_drewN ?_ _ | refine blk_drew ?_ | refine blk_alloc ?_ _)); refine blk_far ?_ NB2_0.out _; (with_reducible repeat (first | refine blk_drewN ?_ _ | refine blk_drew ?_ | refine blk_alloc ?_ _)); exact BK2.out) Tryd.underlying31 rfl (by kernel_rfl)) rfl ?_
            exact ⟨by first | rfl | (simp [Af, Ag] <;> rfl) | (simp [*, Af, Ag] <;> rfl), by repeat (first | (with_reducible first | exact HB.out | apply below_alloc | apply pw_below_drewN | apply below_drew1 | refine below_set ?_ GE0.out | refine below_set ?_ GE1.out | refine below_set ?_ GE2.out) | exact HB.out)⟩
          · rw [if_neg c34] at H
            exact absurd H (by simp)
end Go.Proofs.YtkpieljmhgfofaaDoor.X

namespace Go.Proofs.YtkpieljmhgfofaaDoor.X
open Go.RowKit Go.Proofs.YtkpieljmhgfofaaDoorW.PrintWords Go.Proofs.YtkpieljmhgfofaaDoorW.PrintLast Go.Proofs.YtkpieljmhgfofaaDoorW.PrintMore
attribute [local go_sem] max2_int min2_int max_two min_two max_three min_three max_four min_four
open Go.Proofs.YtkpieljmhgfofaaDoorG
def D9.f (s0_0 : List Int) (s0_1 : Int) (s0_2 : Int) (a1 : Int) : Option (Bool × Int × Int) := (Am.f s0_0 s0_1 s0_2 a1).bind fun bt433 => (some ((bt433.1 == 0), bt433.2.1, bt433.2.2))
set_option maxHeartbeats 8000000 in
set_option maxRecDepth 100000 in
theorem D9.calls (g : Nat) (s0_0 : List Int) (s0_1 : Int) (s0_2 : Int) (a1 : Int) (r1 : Bool) (r2 : Int) (r3 : Int) (w0 w : World) (hI : Aa w0 w g s0_0 s0_1 s0_2) (hB : Below w0.heap.size w0 w) (h : D9.f s0_0 s0_1 s0_2 a1 = some (r1, r2, r3)) :
    Calls Tryd.prog 54 #[.pointer (some ⟨g, 0, none⟩), .int .i64 a1] w fun e w' => e = .returned (.bool r1) ∧ Aa w0 w' g s0_0 r2 r3 ∧ Below w0.heap.size w0 w' ∧ Ad w w' g none := by
  have HI0 := Aside0.mk hI
  have HK := Aside0.mk (Ad.refl w g none)
  have HL := Aside0.mk hB.size
  clear hI
  have HW0 := Aside0.mk hB.size
  have HB := Aside0.mk hB
  clear hB
  have H : ((Am.f s0_0 s0_1 s0_2 a1).bind fun bt433 => (some ((bt433.1 == 0), bt433.2.1, bt433.2.2))) = some (r1, r2, r3) := h
  clear h
  replace H := Option.bind_eq_some_iff.mp H
  obtain ⟨⟨t433, t434, t435⟩, A30, H⟩ := H
  replace H : (some ((t433 == 0), t434, t435)) = some (r1, r2, r3) := H
  have A3 := Aside0.mk A30
  clear A30
  simp only [Option.some.injEq, Prod.mk.injEq] at H
  obtain ⟨rfl, rfl, rfl⟩ := H
  go_enter Tryd.func54, Tryd.ntmps54
  go_wp2_with (first | ((with_reducible refine gate_callee (f := 55) rfl ?_); refine goesL_ (some 7) rfl rfl Tryd.func55 (by kernel_rfl) rfl #[.pointer (some ⟨g, 0, none⟩), .int .i64 a1] rfl Yc_ ?_; (with_reducible refine (Am.calls g s0_0 s0_1 s0_2 a1 t433 t434 t435 w0 _ ?side1 ?side2 A3.out).mono ?_); (case side1 => repeat (first | (with_reducible first | exact HI0.out | apply Aa.alloc | apply Aa.drewN | apply Aa.drew | apply Aa.Au | apply Aa.Aw) | exact HI0.out)); (case side2 => repeat (first | (with_reducible first | exact HB.out | apply below_alloc | apply pw_below_drewN | apply below_drew1 | refine below_set ?_ (Aa.ge HI0.out)) | exact HB.out)); rintro e w4 ⟨rfl, hi, hb, hk⟩; refine ⟨_, rfl, ?_⟩; have n0_ := Aside0.mk (Ad.trans Yf_ hk (.inl rfl)); have n1_ := Aside0.mk (hb); have n2_ := Aside0.mk (hi); clear HK; clear HB; clear HI0; have HK := n0_; have HB := n1_; have HI0 := n2_; clear n0_ n1_ n2_; (try clear hb); (try clear hb2); (try clear hk); (try clear hi)))
  go_ret
  exact ⟨by first | rfl | (simp [Af, Ag] <;> rfl) | (simp [*, Af, Ag] <;> rfl), by repeat (first | (with_reducible first | exact HI0.out | apply Aa.alloc | apply Aa.drewN | apply Aa.drew | apply Aa.Au | apply Aa.Aw) | exact HI0.out), by repeat (first | (with_reducible first | exact HB.out | apply below_alloc | apply pw_below_drewN | apply below_drew1 | refine below_set ?_ (Aa.ge HI0.out)) | exact HB.out), by repeat (first | (with_reducible first | exact HK.out | apply Ad.Ce | apply Ah | apply Aj | apply Ai) | exact HK.out)⟩
end Go.Proofs.YtkpieljmhgfofaaDoor.X

namespace Go.Proofs.YtkpieljmhgfofaaDoor.X
open Go.RowKit Go.Proofs.YtkpieljmhgfofaaDoorW.PrintWords Go.Proofs.YtkpieljmhgfofaaDoorW.PrintLast Go.Proofs.YtkpieljmhgfofaaDoorW.PrintMore
attribute [local go_sem] max2_int min2_int max_two min_two max_three min_three max_four min_four
open Go.Proofs.YtkpieljmhgfofaaDoorG
def Cm.f (s0_0 : List Int) (s0_1 : Int) (s0_2 : Int) (l1 : List ByteArray) : Option (ByteArray × Int × Int) := (Am.f s0_0 s0_1 s0_2 (l1.length : Int)).bind fun bt436 => (if 0 ≤ bt436.1 then (if bt436.1 < (l1.length : Int) then (some (Bf ByteArray.empty l1 bt436.1, bt436.2.1, bt436.2.2)) else (none)) else (none))
set_option maxHeartbeats 8000000 in
set_option maxRecDepth 100000 in
theorem Cm.calls (g : Nat) (s0_0 : List Int) (s0_1 : Int) (s0_2 : Int) (A1 : Option Addr) (c1 : Nat) (l1 : List ByteArray) (r1 : ByteArray) (r2 : Int) (r3 : Int) (w0 w : World) (hI : Aa w0 w g s0_0 s0_1 s0_2) (hB : Below w0.heap.size w0 w) (hr1 : Kd.C Kd.string w A1 l1.length l1) (hc1 : l1.length ≤ c1) (hf1 : ∀ ad, A1 = some ad → 0 < l1.length → ad.block ≠ g) (h : Cm.f s0_0 s0_1 s0_2 l1 = some (r1, r2, r3)) :
    Calls Tryd.prog 72 #[.pointer (some ⟨g, 0, none⟩), .slice A1 l1.length c1] w fun e w' => e = .returned (.string r1) ∧ Aa w0 w' g s0_0 r2 r3 ∧ Below w0.heap.size w0 w' ∧ Ad w w' g none := by
  have HR1 := Aside0.mk hr1
  have HC1 := Aside0.mk hc1
  clear hr1 hc1
  have HI0 := Aside0.mk hI
  have HK := Aside0.mk (Ad.refl w g none)
  have HL := Aside0.mk hB.size
  clear hI
  have HW0 := Aside0.mk hB.size
  have HB := Aside0.mk hB
  clear hB
  have H : ((Am.f s0_0 s0_1 s0_2 (l1.length : Int)).bind fun bt436 => (if 0 ≤ bt436.1 then (if bt436.1 < (l1.length : Int) then (some (Bf ByteArray.empty l1 bt436.1, bt436.2.1, bt436.2.2)) else (none)) else (none))) = some (r1, r2, r3) := h
  clear h
  replace H := Option.bind_eq_some_iff.mp H
  obtain ⟨⟨t436, t437, t438⟩, A30, H⟩ := H
  replace H : (if 0 ≤ t436 then (if t436 < (l1.length : Int) then (some (Bf ByteArray.empty l1 t436, t437, t438)) else (none)) else (none)) = some (r1, r2, r3) := H
  have A3 := Aside0.mk A30
  clear A30
  by_cases c4 : 0 ≤ t436
  · rw [if_pos c4] at H
    have c4b0 : decide (0 ≤ t436) = true := decide_eq_true c4
    clear c4
    by_cases c5 : t436 < (l1.length : Int)
    · rw [if_pos c5] at H
      have c5b0 : decide (t436 < (l1.length : Int)) = true := decide_eq_true c5
      clear c5
      simp only [Option.some.injEq, Prod.mk.injEq] at H
      obtain ⟨rfl, rfl, rfl⟩ := H
      go_enter Tryd.func72, Tryd.ntmps72
      go_wp2_with (first | ((with_reducible refine gate_callee (f := 55) rfl ?_); refine goesL_ (some 9) rfl rfl Tryd.func55 (by kernel_rfl) rfl #[.pointer (some ⟨g, 0, none⟩), .int .i64 (l1.length : Int)] rfl Yc_ ?_; (with_reducible refine (Am.calls g s0_0 s0_1 s0_2 (l1.length : Int) t436 t437 t438 w0 _ ?side1 ?side2 A3.out).mono ?_); (case side1 => repeat (first | (with_reducible first | exact HI0.out | apply Aa.alloc | apply Aa.drewN | apply Aa.drew | apply Aa.Au | apply Aa.Aw) | exact HI0.out)); (case side2 => repeat (first | (with_reducible first | exact HB.out | apply below_alloc | apply pw_below_drewN | apply below_drew1 | refine below_set ?_ (Aa.ge HI0.out)) | exact HB.out)); rintro e w6 ⟨rfl, hi, hb, hk⟩; refine ⟨_, rfl, ?_⟩; have n0_ := Aside0.mk (Ad.trans Yf_ hk (.inl rfl)); have n1_ := Aside0.mk (hb); have n2_ := Aside0.mk (hi); clear HK; clear HB; clear HI0; have HK := n0_; have HB := n1_; have HI0 := n2_; clear n0_ n1_ n2_; (try clear hb); (try clear hb2); (try clear hk); (try clear hi); have p439 : 0 ≤ (t436 : Int) := of_decide_eq_true Yba_; have q439 : t436 < (l1.length : Int) := of_decide_eq_true Yba_; obtain ⟨ad439, e439, hx439_0⟩ := Kd.Gv HR1.out t436 p439 q439; cases e439; replace hx439_0 := keep_cell HK.out hx439_0 (by first | (rw [add_block]; exact hf1 _ rfl (by omega)) | exact hf1 _ rfl (by omega) | exact hf1 ad439 rfl (by omega)); replace p439 := eq_true p439; replace q439 := eq_true q439))
      go_ret
      exact ⟨by first | rfl | (simp [Af, Ag] <;> rfl) | (simp [*, Af, Ag] <;> rfl), by repeat (first | (with_reducible first | exact HI0.out | apply Aa.alloc | apply Aa.drewN | apply Aa.drew | apply Aa.Au | apply Aa.Aw) | exact HI0.out), by repeat (first | (with_reducible first | exact HB.out | apply below_alloc | apply pw_below_drewN | apply below_drew1 | refine below_set ?_ (Aa.ge HI0.out)) | exact HB.out), by repeat (first | (with_reducible first | exact HK.out | apply Ad.Ce | apply Ah | apply Aj | apply Ai) | exact HK.out)⟩
    · rw [if_neg c5] at H
      exact absurd H (by simp)
  · rw [if_neg c4] at H
    exact absurd H (by simp)
end Go.Proofs.YtkpieljmhgfofaaDoor.X

namespace Go.Proofs.YtkpieljmhgfofaaDoor.X
open Go.RowKit Go.Proofs.YtkpieljmhgfofaaDoorW.PrintWords Go.Proofs.YtkpieljmhgfofaaDoorW.PrintLast Go.Proofs.YtkpieljmhgfofaaDoorW.PrintMore
attribute [local go_sem] max2_int min2_int max_two min_two max_three min_three max_four min_four
open Go.Proofs.YtkpieljmhgfofaaDoorG
def Dn.f (s0_0 : List Int) (s0_1 : Int) (s0_2 : Int) : Option (ByteArray × ByteArray × Int × Int) := (Cm.f s0_0 s0_1 s0_2 (([(⟨#[99, 111, 117, 110, 116]⟩ : ByteArray), (⟨#[115, 111, 114, 116, 32, 109, 101, 114, 103, 101]⟩ : ByteArray), (⟨#[120]⟩ : ByteArray), (⟨#[115, 101, 108, 101, 99, 116, 32, 50]⟩ : ByteArray), (⟨#[48, 32, 49]⟩ : ByteArray)] : List ByteArray))).bind fun bt444 => ((Cm.f s0_0 bt444.2.1 bt444.2.2 (([(⟨#[]⟩ : ByteArray), (⟨#[51]⟩ : ByteArray), (⟨#[63]⟩ : ByteArray), (⟨#[97, 64, 98]⟩ : ByteArray), (⟨#[51, 32, 49, 32, 50]⟩ : ByteArray)] : List ByteArray))).bind fun bt450 => ((Am.f s0_0 bt450.2.1 bt450.2.2 24).bind fun bt454 => (if bt454.1 = 0 then (if 3 ≤ 281474976710656 then ((Cm.f s0_0 bt454.2.1 bt454.2.2 (([(⟨#[]⟩ : ByteArray), (⟨#[97, 64, 98]⟩ : ByteArray), (⟨#[97, 35]⟩ : ByteArray), (⟨#[10]⟩ : ByteArray), strOfNums (List.replicate 3 0)] : List ByteArray))).bind fun bt463 => (some (bt463.1, bt450.1, bt463.2.1, bt463.2.2))) else (none)) else (if bt454.1 = 1 then ((Cm.f s0_0 bt454.2.1 bt454.2.2 (([(⟨#[35]⟩ : ByteArray), (⟨#[10]⟩ : ByteArray), (⟨#[127]⟩ : ByteArray)] : List ByteArray))).bind fun bt469 => (some (bt444.1, bt469.1, bt469.2.1, bt469.2.2))) else (some (bt444.1, bt450.1, bt454.2.1, bt454.2.2))))))
set_option maxHeartbeats 8000000 in
set_option maxRecDepth 100000 in
theorem Dn.calls (g : Nat) (s0_0 : List Int) (s0_1 : Int) (s0_2 : Int) (r1 : ByteArray) (r2 : ByteArray) (r3 : Int) (r4 : Int) (w0 w : World) (hI : Aa w0 w g s0_0 s0_1 s0_2) (hB : Below w0.heap.size w0 w) (h : Dn.f s0_0 s0_1 s0_2 = some (r1, r2, r3, r4)) :
    Calls Tryd.prog 56 #[.pointer (some ⟨g, 0, none⟩)] w fun e w' => e = .returned (.agg #[.string r1, .string r2]) ∧ Aa w0 w' g s0_0 r3 r4 ∧ Below w0.heap.size w0 w' ∧ Ad w w' g none := by
  have hu27 := Tryd.underlying27
  have HI0 := Aside0.mk hI
  have HK := Aside0.mk (Ad.refl w g none)
  have HL := Aside0.mk hB.size
  clear hI
  have HW0 := Aside0.mk hB.size
  have HB := Aside0.mk hB
  clear hB
  have H : ((Cm.f s0_0 s0_1 s0_2 (([(⟨#[99, 111, 117, 110, 116]⟩ : ByteArray), (⟨#[115, 111, 114, 116, 32, 109, 101, 114, 103, 101]⟩ : ByteArray), (⟨#[120]⟩ : ByteArray), (⟨#[115, 101, 108, 101, 99, 116, 32, 50]⟩ : ByteArray), (⟨#[48, 32, 49]⟩ : ByteArray)] : List ByteArray))).bind fun bt444 => ((Cm.f s0_0 bt444.2.1 bt444.2.2 (([(⟨#[]⟩ : ByteArray), (⟨#[51]⟩ : ByteArray), (⟨#[63]⟩ : ByteArray), (⟨#[97, 64, 98]⟩ : ByteArray), (⟨#[51, 32, 49, 32, 50]⟩ : ByteArray)] : List ByteArray))).bind fun bt450 => ((Am.f s0_0 bt450.2.1 bt450.2.2 24).bind fun bt454 => (if bt454.1 = 0 then (if 3 ≤ 281474976710656 then ((Cm.f s0_0 bt454.2.1 bt454.2.2 (([(⟨#[]⟩ : ByteArray), (⟨#[97, 64, 98]⟩ : ByteArray), (⟨#[97, 35]⟩ : ByteArray), (⟨#[10]⟩ : ByteArray), strOfNums (List.replicate 3 0)] : List ByteArray))).bind fun bt463 => (some (bt463.1, bt450.1, bt463.2.1, bt463.2.2))) else (none)) else (if bt454.1 = 1 then ((Cm.f s0_0 bt454.2.1 bt454.2.2 (([(⟨#[35]⟩ : ByteArray), (⟨#[10]⟩ : ByteArray), (⟨#[127]⟩ : ByteArray)] : List ByteArray))).bind fun bt469 => (some (bt444.1, bt469.1, bt469.2.1, bt469.2.2))) else (some (bt444.1, bt450.1, bt454.2.1, bt454.2.2))))))) = some (r1, r2, r3, r4) := h
  clear h
  obtain ⟨y441, hy441⟩ : ∃ y_ : List ByteArray, y_ = (([(⟨#[99, 111, 117, 110, 116]⟩ : ByteArray), (⟨#[115, 111, 114, 116, 32, 109, 101, 114, 103, 101]⟩ : ByteArray), (⟨#[120]⟩ : ByteArray), (⟨#[115, 101, 108, 101, 99, 116, 32, 50]⟩ : ByteArray), (⟨#[48, 32, 49]⟩ : ByteArray)] : List ByteArray)) := ⟨_, rfl⟩
  replace H : ((Cm.f s0_0 s0_1 s0_2 y441).bind fun bt444 => ((Cm.f s0_0 bt444.2.1 bt444.2.2 (([(⟨#[]⟩ : ByteArray), (⟨#[51]⟩ : ByteArray), (⟨#[63]⟩ : ByteArray), (⟨#[97, 64, 98]⟩ : ByteArray), (⟨#[51, 32, 49, 32, 50]⟩ : ByteArray)] : List ByteArray))).bind fun bt450 => ((Am.f s0_0 bt450.2.1 bt450.2.2 24).bind fun bt454 => (if bt454.1 = 0 then (if 3 ≤ 281474976710656 then ((Cm.f s0_0 bt454.2.1 bt454.2.2 (([(⟨#[]⟩ : ByteArray), (⟨#[97, 64, 98]⟩ : ByteArray), (⟨#[97, 35]⟩ : ByteArray), (⟨#[10]⟩ : ByteArray), strOfNums (List.replicate 3 0)] : List ByteArray))).bind fun bt463 => (some (bt463.1, bt450.1, bt463.2.1, bt463.2.2))) else (none)) else (if bt454.1 = 1 then ((Cm.f s0_0 bt454.2.1 bt454.2.2 (([(⟨#[35]⟩ : ByteArray), (⟨#[10]⟩ : ByteArray), (⟨#[127]⟩ : ByteArray)] : List ByteArray))).bind fun bt469 => (some (bt444.1, bt469.1, bt469.2.1, bt469.2.2))) else (some (bt444.1, bt450.1, bt454.2.1, bt454.2.2))))))) = some (r1, r2, r3, r4) := by first | (rw [hy441]; with_reducible exact H) | (have H2_ := (Option.bind_some _ _).symm.trans H; rw [hy441]; with_reducible exact H2_) | (have H2_ := (Option.bind_some _ _).symm.trans H; with_reducible exact H2_) | with_reducible exact H | (rw [hy441]; exact H) | exact H
  have Ny441 := Aside0.mk hy441
  clear hy441
  replace H := Option.bind_eq_some_iff.mp H
  obtain ⟨⟨t444, t445, t446⟩, A20, H⟩ := H
  replace H : ((Cm.f s0_0 t445 t446 (([(⟨#[]⟩ : ByteArray), (⟨#[51]⟩ : ByteArray), (⟨#[63]⟩ : ByteArray), (⟨#[97, 64, 98]⟩ : ByteArray), (⟨#[51, 32, 49, 32, 50]⟩ : ByteArray)] : List ByteArray))).bind fun bt450 => ((Am.f s0_0 bt450.2.1 bt450.2.2 24).bind fun bt454 => (if bt454.1 = 0 then (if 3 ≤ 281474976710656 then ((Cm.f s0_0 bt454.2.1 bt454.2.2 (([(⟨#[]⟩ : ByteArray), (⟨#[97, 64, 98]⟩ : ByteArray), (⟨#[97, 35]⟩ : ByteArray), (⟨#[10]⟩ : ByteArray), strOfNums (List.replicate 3 0)] : List ByteArray))).bind fun bt463 => (some (bt463.1, bt450.1, bt463.2.1, bt463.2.2))) else (none)) else (if bt454.1 = 1 then ((Cm.f s0_0 bt454.2.1 bt454.2.2 (([(⟨#[35]⟩ : ByteArray), (⟨#[10]⟩ : ByteArray), (⟨#[127]⟩ : ByteArray)] : List ByteArray))).bind fun bt469 => (some (t444, bt469.1, bt469.2.1, bt469.2.2))) else (some (t444, bt450.1, bt454.2.1, bt454.2.2)))))) = some (r1, r2, r3, r4) := H
  have A2 := Aside0.mk A20
  clear A20
  obtain ⟨y447, hy447⟩ : ∃ y_ : List ByteArray, y_ = (([(⟨#[]⟩ : ByteArray), (⟨#[51]⟩ : ByteArray), (⟨#[63]⟩ : ByteArray), (⟨#[97, 64, 98]⟩ : ByteArray), (⟨#[51, 32, 49, 32, 50]⟩ : ByteArray)] : List ByteArray)) := ⟨_, rfl⟩
  replace H : ((Cm.f s0_0 t445 t446 y447).bind fun bt450 => ((Am.f s0_0 bt450.2.1 bt450.2.2 24).bind fun bt454 => (if bt454.1 = 0 then (if 3 ≤ 281474976710656 then ((Cm.f s0_0 bt454.2.1 bt454.2.2 (([(⟨#[]⟩ : ByteArray), (⟨#[97, 64, 98]⟩ : ByteArray), (⟨#[97, 35]⟩ : ByteArray), (⟨#[10]⟩ : ByteArray), strOfNums (List.replicate 3 0)] : List ByteArray))).bind fun bt463 => (some (bt463.1, bt450.1, bt463.2.1, bt463.2.2))) else (none)) else (if bt454.1 = 1 then ((Cm.f s0_0 bt454.2.1 bt454.2.2 (([(⟨#[35]⟩ : ByteArray), (⟨#[10]⟩ : ByteArray), (⟨#[127]⟩ : ByteArray)] : List ByteArray))).bind fun bt469 => (some (t444, bt469.1, bt469.2.1, bt469.2.2))) else (some (t444, bt450.1, bt454.2.1, bt454.2.2)))))) = some (r1, r2, r3, r4) := by first | (rw [hy447]; with_reducible exact H) | (have H2_ := (Option.bind_some _ _).symm.trans H; rw [hy447]; with_reducible exact H2_) | (have H2_ := (Option.bind_some _ _).symm.trans H; with_reducible exact H2_) | with_reducible exact H | (rw [hy447]; exact H) | exact H
  have Ny447 := Aside0.mk hy447
  clear hy447
  replace H := Option.bind_eq_some_iff.mp H
  obtain ⟨⟨t450, t451, t452⟩, A30, H⟩ := H
  replace H : ((Am.f s0_0 t451 t452 24).bind fun bt454 => (if bt454.1 = 0 then (if 3 ≤ 281474976710656 then ((Cm.f s0_0 bt454.2.1 bt454.2.2 (([(⟨#[]⟩ : ByteArray), (⟨#[97, 64, 98]⟩ : ByteArray), (⟨#[97, 35]⟩ : ByteArray), (⟨#[10]⟩ : ByteArray), strOfNums (List.replicate 3 0)] : List ByteArray))).bind fun bt463 => (some (bt463.1, t450, bt463.2.1, bt463.2.2))) else (none)) else (if bt454.1 = 1 then ((Cm.f s0_0 bt454.2.1 bt454.2.2 (([(⟨#[35]⟩ : ByteArray), (⟨#[10]⟩ : ByteArray), (⟨#[127]⟩ : ByteArray)] : List ByteArray))).bind fun bt469 => (some (t444, bt469.1, bt469.2.1, bt469.2.2))) else (some (t444, t450, bt454.2.1, bt454.2.2))))) = some (r1, r2, r3, r4) := H
  have A3 := Aside0.mk A30
  clear A30
  replace H := Option.bind_eq_some_iff.mp H
  obtain ⟨⟨t454, t455, t456⟩, A40, H⟩ := H
  replace H : (if t454 = 0 then (if 3 ≤ 281474976710656 then ((Cm.f s0_0 t455 t456 (([(⟨#[]⟩ : ByteArray), (⟨#[97, 64, 98]⟩ : ByteArray), (⟨#[97, 35]⟩ : ByteArray), (⟨#[10]⟩ : ByteArray), strOfNums (List.replicate 3 0)] : List ByteArray))).bind fun bt463 => (some (bt463.1, t450, bt463.2.1, bt463.2.2))) else (none)) else (if t454 = 1 then ((Cm.f s0_0 t455 t456 (([(⟨#[35]⟩ : ByteArray), (⟨#[10]⟩ : ByteArray), (⟨#[127]⟩ : ByteArray)] : List ByteArray))).bind fun bt469 => (some (t444, bt469.1, bt469.2.1, bt469.2.2))) else (some (t444, t450, t455, t456)))) = some (r1, r2, r3, r4) := H
  have A4 := Aside0.mk A40
  clear A40
  by_cases c5 : t454 = 0
  · rw [if_pos c5] at H
    have c5b0 : (t454 == 0) = true := beq_iff_eq.mpr c5
    have c5b1 : (t454 != 0) = false := bne_eq_false_iff_eq.mpr c5
    clear c5
    by_cases c6 : 3 ≤ 281474976710656
    · rw [if_pos c6] at H
      have c6b0 := eq_true c6
      have c6b1 : decide (3 ≤ 281474976710656) = true := decide_eq_true c6
      clear c6
      obtain ⟨y457, hy457⟩ : ∃ y_ : List Int, y_ = (List.replicate 3 0) := ⟨_, rfl⟩
      replace H : ((Cm.f s0_0 t455 t456 (([(⟨#[]⟩ : ByteArray), (⟨#[97, 64, 98]⟩ : ByteArray), (⟨#[97, 35]⟩ : ByteArray), (⟨#[10]⟩ : ByteArray), strOfNums y457] : List ByteArray))).bind fun bt463 => (some (bt463.1, t450, bt463.2.1, bt463.2.2))) = some (r1, r2, r3, r4) := by first | (rw [hy457]; with_reducible exact H) | (have H2_ := (Option.bind_some _ _).symm.trans H; rw [hy457]; with_reducible exact H2_) | (have H2_ := (Option.bind_some _ _).symm.trans H; with_reducible exact H2_) | with_reducible exact H | (rw [hy457]; exact H) | exact H
      have Ny457 := Aside0.mk hy457
      clear hy457
      obtain ⟨y460, hy460⟩ : ∃ y_ : List ByteArray, y_ = (([(⟨#[]⟩ : ByteArray), (⟨#[97, 64, 98]⟩ : ByteArray), (⟨#[97, 35]⟩ : ByteArray), (⟨#[10]⟩ : ByteArray), strOfNums y457] : List ByteArray)) := ⟨_, rfl⟩
      replace H : ((Cm.f s0_0 t455 t456 y460).bind fun bt463 => (some (bt463.1, t450, bt463.2.1, bt463.2.2))) = some (r1, r2, r3, r4) := by first | (rw [hy460]; with_reducible exact H) | (have H2_ := (Option.bind_some _ _).symm.trans H; rw [hy460]; with_reducible exact H2_) | (have H2_ := (Option.bind_some _ _).symm.trans H; with_reducible exact H2_) | with_reducible exact H | (rw [hy460]; exact H) | exact H
      have Ny460 := Aside0.mk hy460
      clear hy460
      replace H := Option.bind_eq_some_iff.mp H
      obtain ⟨⟨t463, t464, t465⟩, A70, H⟩ := H
      replace H : (some (t463, t450, t464, t465)) = some (r1, r2, r3, r4) := H
      have A7 := Aside0.mk A70
      clear A70
      simp only [Option.some.injEq, Prod.mk.injEq] at H
      obtain ⟨rfl, rfl, rfl, rfl⟩ := H
      go_enter Tryd.func56, Tryd.ntmps56
      go_wp2_with (first | ((with_reducible refine gate_dst (N := 2) rfl ?_); refine box_event ?hg (N := 2) ?hd (cs := #[.string (⟨#[]⟩ : ByteArray), .string (⟨#[]⟩ : ByteArray)]) (t := 27) ?hr ?_; (case hd => rfl); (case hg => rfl); (case hr => first | (go_simp; done) | (go_simp; rfl)); intro gb440 hg w8 hbox hb; have n0_ := Aside0.mk (Aa.below Yda_ hb); have n1_ := Aside0.mk (Ad.trans Yf_ (Ad.of_below hb g none) (.inl rfl)); have n2_ := Aside0.mk (below_step Ycf_ hb); have n3_ := Aside0.mk (hbox); have n4_ := Aside0.mk ((by rw [hg]; exact (Dp (w := w) (g := g) (row := none) Yf_) : w.heap.size ≤ gb440)); have n5_ := Aside0.mk ((Nat.le_trans HW0.out (by rw [hg]; exact (Dp (w := w) (g := g) (row := none) Yf_) : w.heap.size ≤ gb440) : w0.heap.size ≤ gb440)); have n6_ := Aside0.mk ((by rw [hg]; exact Nat.ne_of_lt (Aa.lt (show Aa w0 _ g s0_0 s0_1 s0_2 from by repeat (first | (with_reducible first | exact HI0.out | apply Aa.alloc | apply Aa.drewN | apply Aa.drew | apply Aa.Au | apply Aa.Aw) | exact HI0.out))) : g ≠ gb440)); have n7_ := Aside0.mk ((by rw [hg]; exact Nat.ne_of_gt (Aa.lt (show Aa w0 _ g s0_0 s0_1 s0_2 from by repeat (first | (with_reducible first | exact HI0.out | apply Aa.alloc | apply Aa.drewN | apply Aa.drew | apply Aa.Au | apply Aa.Aw) | exact HI0.out))) : gb440 ≠ g)); clear HI0; clear HK; clear HB; have HI0 := n0_; have HK := n1_; have HB := n2_; have BK440 := n3_; have GW440 := n4_; have GE440 := n5_; have NB0_440 := n6_; have NB440_0 := n7_; clear n0_ n1_ n2_ n3_ n4_ n5_ n6_ n7_; clear hb hbox hg) | ((with_reducible refine gate_dst (N := 5) rfl ?_); refine Kd.R_lit Kd.string _ 9 ?hg (N := 5) ?hd (xs := ([(⟨#[99, 111, 117, 110, 116]⟩ : ByteArray), (⟨#[115, 111, 114, 116, 32, 109, 101, 114, 103, 101]⟩ : ByteArray), (⟨#[120]⟩ : ByteArray), (⟨#[115, 101, 108, 101, 99, 116, 32, 50]⟩ : ByteArray), (⟨#[48, 32, 49]⟩ : ByteArray)] : List ByteArray)) (inner := [.string (⟨#[99, 111, 117, 110, 116]⟩ : ByteArray), .string (⟨#[115, 111, 114, 116, 32, 109, 101, 114, 103, 101]⟩ : ByteArray), .string (⟨#[120]⟩ : ByteArray), .string (⟨#[115, 101, 108, 101, 99, 116, 32, 50]⟩ : ByteArray), .string (⟨#[48, 32, 49]⟩ : ByteArray)]) (ok := fun _ => True) (okp := fun _ => True) ?hr ?hp (fun _ hk => hk) trivial (Below.refl _ _) (Nat.le_refl _) (by simp) ?_; (case hd => rfl); (case hg => rfl); (case hr => first | (go_simp; done) | (go_simp; rfl)); (case hp => exact (Dc.one (show Kd.M Kd.string _ _ _ (⟨#[99, 111, 117, 110, 116]⟩ : ByteArray) [.string (⟨#[99, 111, 117, 110, 116]⟩ : ByteArray)] from rfl) (Dc.one (show Kd.M Kd.string _ _ _ (⟨#[115, 111, 114, 116, 32, 109, 101, 114, 103, 101]⟩ : ByteArray) [.string (⟨#[115, 111, 114, 116, 32, 109, 101, 114, 103, 101]⟩ : ByteArray)] from rfl) (Dc.one (show Kd.M Kd.string _ _ _ (⟨#[120]⟩ : ByteArray) [.string (⟨#[120]⟩ : ByteArray)] from rfl) (Dc.one (show Kd.M Kd.string _ _ _ (⟨#[115, 101, 108, 101, 99, 116, 32, 50]⟩ : ByteArray) [.string (⟨#[115, 101, 108, 101, 99, 116, 32, 50]⟩ : ByteArray)] from rfl) (Dc.one (show Kd.M Kd.string _ _ _ (⟨#[48, 32, 49]⟩ : ByteArray) [.string (⟨#[48, 32, 49]⟩ : ByteArray)] from rfl) (Dc.none _ _))))))); intro v442 w9 ho10 hb hg_ hnew_; clear hg_ hnew_; (first | rw [← Ny441.out] at ho10 | (simp only [Int.reduceToNat] at ho10; rw [← Ny441.out] at ho10)); have n0_ := Aside0.mk (Kd.D6 ho10 (Dp (w := w) (g := g) (row := none) Yh_)); have n1_ := Aside0.mk (Aa.below Yce_ hb); have n2_ := Aside0.mk (blk_below (g := gb440) (o := .cells #[.string (⟨#[]⟩ : ByteArray), .string (⟨#[]⟩ : ByteArray)] 27 (0, 0)) Yj_ hb); have n3_ := Aside0.mk (Ad.trans Yh_ (Ad.of_below hb g none) (.inl rfl)); have n4_ := Aside0.mk (below_step Yca_ hb); clear HI0; clear BK440; clear HK; clear HB; have HO443 := n0_; have HI0 := n1_; have BK440 := n2_; have HK := n3_; have HB := n4_; clear n0_ n1_ n2_ n3_ n4_; clear hb ho10; obtain ⟨Ao11, co11, eo11⟩ := Kd.Eg HO443.out; subst eo11) | ((with_reducible refine gate_callee (f := 72) rfl ?_); refine goesL_ (some 6) rfl rfl Tryd.func72 (by kernel_rfl) rfl #[.pointer (some ⟨g, 0, none⟩), .slice Ao11 y441.length co11] rfl Yc_ ?_; (with_reducible refine (Cm.calls g s0_0 s0_1 s0_2 _ _ y441 t444 t445 t446 w0 _ ?side1 ?side2 ?side3 ?side4 ?side5 A2.out).mono ?_); (case side1 => repeat (first | (with_reducible first | exact HI0.out | apply Aa.alloc | apply Aa.drewN | apply Aa.drew | apply Aa.Au | apply Aa.Aw | refine Aa.far ?_ NB0_440.out _) | exact HI0.out)); (case side2 => repeat (first | (with_reducible first | exact HB.out | apply below_alloc | apply pw_below_drewN | apply below_drew1 | refine below_set ?_ (Aa.ge HI0.out) | refine below_set ?_ GE440.out) | exact HB.out)); (case side3 => repeat (first | exact (Kd.Ei HO443.out).2.2 | (with_reducible refine Kd.Gs ?_ _) | (with_reducible refine Kd.Gt ?_ _) | (with_reducible refine Kd.C_drew ?_))); (case side4 => exact (Kd.Ei HO443.out).2.1); (case side5 => exact Gw (Aa.own_ne HI0.out HO443.out (by decide))); rintro e w12 ⟨rfl, hi, hb, hk⟩; refine ⟨_, rfl, ?_⟩; have n0_ := Aside0.mk (Ad.blk hk (g' := gb440) (o := .cells #[.string (⟨#[]⟩ : ByteArray), .string (⟨#[]⟩ : ByteArray)] 27 (0, 0)) Yj_ NB440_0.out (by simp)); have n1_ := Aside0.mk (Kd.Dl (Kd.Ff (Aa.apart (show Aa w0 _ g s0_0 s0_1 s0_2 from by repeat (first | (with_reducible first | exact HI0.out | apply Aa.alloc | apply Aa.drewN | apply Aa.drew | apply Aa.Au | apply Aa.Aw | refine Aa.far ?_ NB0_440.out _) | exact HI0.out)) Ybh_ (by decide)) hk (fun _ h => h.2)) (fun _ h => h.1)); have n2_ := Aside0.mk (Ad.trans Yh_ hk (.inl rfl)); have n3_ := Aside0.mk (hb); have n4_ := Aside0.mk (hi); clear BK440; clear HO443; clear HK; clear HB; clear HI0; have BK440 := n0_; have HO443 := n1_; have HK := n2_; have HB := n3_; have HI0 := n4_; clear n0_ n1_ n2_ n3_ n4_; (try clear hb); (try clear hb2); (try clear hk); (try clear hi)) | ((with_reducible refine gate_dst (N := 8) rfl ?_); refine Kd.R_lit Kd.string _ 9 ?hg (N := 8) ?hd (xs := ([(⟨#[]⟩ : ByteArray), (⟨#[51]⟩ : ByteArray), (⟨#[63]⟩ : ByteArray), (⟨#[97, 64, 98]⟩ : ByteArray), (⟨#[51, 32, 49, 32, 50]⟩ : ByteArray)] : List ByteArray)) (inner := [.string (⟨#[]⟩ : ByteArray), .string (⟨#[51]⟩ : ByteArray), .string (⟨#[63]⟩ : ByteArray), .string (⟨#[97, 64, 98]⟩ : ByteArray), .string (⟨#[51, 32, 49, 32, 50]⟩ : ByteArray)]) (ok := fun _ => True) (okp := fun _ => True) ?hr ?hp (fun _ hk => hk) trivial (Below.refl _ _) (Nat.le_refl _) (by simp) ?_; (case hd => rfl); (case hg => rfl); (case hr => first | (go_simp; done) | (go_simp; rfl)); (case hp => exact (Dc.one (show Kd.M Kd.string _ _ _ (⟨#[]⟩ : ByteArray) [.string (⟨#[]⟩ : ByteArray)] from rfl) (Dc.one (show Kd.M Kd.string _ _ _ (⟨#[51]⟩ : ByteArray) [.string (⟨#[51]⟩ : ByteArray)] from rfl) (Dc.one (show Kd.M Kd.string _ _ _ (⟨#[63]⟩ : ByteArray) [.string (⟨#[63]⟩ : ByteArray)] from rfl) (Dc.one (show Kd.M Kd.string _ _ _ (⟨#[97, 64, 98]⟩ : ByteArray) [.string (⟨#[97, 64, 98]⟩ : ByteArray)] from rfl) (Dc.one (show Kd.M Kd.string _ _ _ (⟨#[51, 32, 49, 32, 50]⟩ : ByteArray) [.string (⟨#[51, 32, 49, 32, 50]⟩ : ByteArray)] from rfl) (Dc.none _ _))))))); intro v448 w13 ho14 hb hg_ hnew_; clear hg_ hnew_; (first | rw [← Ny447.out] at ho14 | (simp only [Int.reduceToNat] at ho14; rw [← Ny447.out] at ho14)); have n0_ := Aside0.mk (Kd.Gn Ybh_ (Kd.R_base ho14) hb); have n1_ := Aside0.mk (Kd.D6 (Kd.R_new' ho14 (Kd.R_lt Ybh_)) (Dp (w := w) (g := g) (row := none) Yh_)); have n2_ := Aside0.mk (Aa.below Yce_ hb); have n3_ := Aside0.mk (blk_below (g := gb440) (o := .cells #[.string (⟨#[]⟩ : ByteArray), .string (⟨#[]⟩ : ByteArray)] 27 (0, 0)) Yj_ hb); have n4_ := Aside0.mk (Ad.trans Yh_ (Ad.of_below hb g none) (.inl rfl)); have n5_ := Aside0.mk (below_step Yca_ hb); clear HO443; clear HI0; clear BK440; clear HK; clear HB; have HO443 := n0_; have HO449 := n1_; have HI0 := n2_; have BK440 := n3_; have HK := n4_; have HB := n5_; clear n0_ n1_ n2_ n3_ n4_ n5_; clear hb ho14; obtain ⟨Ao15, co15, eo15⟩ := Kd.Eg HO449.out; subst eo15) | ((with_reducible refine gate_callee (f := 72) rfl ?_); refine goesL_ (some 9) rfl rfl Tryd.func72 (by kernel_rfl) rfl #[.pointer (some ⟨g, 0, none⟩), .slice Ao15 y447.length co15] rfl Yc_ ?_; (with_reducible refine (Cm.calls g s0_0 t445 t446 _ _ y447 t450 t451 t452 w0 _ ?side1 ?side2 ?side3 ?side4 ?side5 A3.out).mono ?_); (case side1 => repeat (first | (with_reducible first | exact HI0.out | apply Aa.alloc | apply Aa.drewN | apply Aa.drew | apply Aa.Au | apply Aa.Aw | refine Aa.far ?_ NB0_440.out _) | exact HI0.out)); (case side2 => repeat (first | (with_reducible first | exact HB.out | apply below_alloc | apply pw_below_drewN | apply below_drew1 | refine below_set ?_ (Aa.ge HI0.out) | refine below_set ?_ GE440.out) | exact HB.out)); (case side3 => repeat (first | exact (Kd.Ei HO449.out).2.2 | (with_reducible refine Kd.Gs ?_ _) | (with_reducible refine Kd.Gt ?_ _) | (with_reducible refine Kd.C_drew ?_))); (case side4 => exact (Kd.Ei HO449.out).2.1); (case side5 => exact Gw (Aa.own_ne HI0.out HO449.out (by decide))); rintro e w16 ⟨rfl, hi, hb, hk⟩; refine ⟨_, rfl, ?_⟩; have n0_ := Aside0.mk (Ad.blk hk (g' := gb440) (o := .cells #[.string (⟨#[]⟩ : ByteArray), .string (⟨#[]⟩ : ByteArray)] 27 (0, 0)) Yj_ NB440_0.out (by simp)); have n1_ := Aside0.mk (Kd.Dl (Kd.Ff (Aa.apart (show Aa w0 _ g s0_0 t445 t446 from by repeat (first | (with_reducible first | exact HI0.out | apply Aa.alloc | apply Aa.drewN | apply Aa.drew | apply Aa.Au | apply Aa.Aw | refine Aa.far ?_ NB0_440.out _) | exact HI0.out)) Ybh_ (by decide)) hk (fun _ h => h.2)) (fun _ h => h.1)); have n2_ := Aside0.mk (Kd.Dl (Kd.Ff (Aa.apart (show Aa w0 _ g s0_0 t445 t446 from by repeat (first | (with_reducible first | exact HI0.out | apply Aa.alloc | apply Aa.drewN | apply Aa.drew | apply Aa.Au | apply Aa.Aw | refine Aa.far ?_ NB0_440.out _) | exact HI0.out)) Yci_ (by decide)) hk (fun _ h => h.2)) (fun _ h => h.1)); have n3_ := Aside0.mk (Ad.trans Yh_ hk (.inl rfl)); have n4_ := Aside0.mk (hb); have n5_ := Aside0.mk (hi); clear BK440; clear HO443; clear HO449; clear HK; clear HB; clear HI0; have BK440 := n0_; have HO443 := n1_; have HO449 := n2_; have HK := n3_; have HB := n4_; have HI0 := n5_; clear n0_ n1_ n2_ n3_ n4_ n5_; (try clear hb); (try clear hb2); (try clear hk); (try clear hi)) | ((with_reducible refine gate_dst (N := 3) rfl ?_); refine box_event ?hg (N := 3) ?hd (cs := #[.string (⟨#[]⟩ : ByteArray), .string (⟨#[]⟩ : ByteArray)]) (t := 27) ?hr ?_; (case hd => rfl); (case hg => rfl); (case hr => first | (go_simp; done) | (go_simp; rfl)); intro gb453 hg w17 hbox hb; have n0_ := Aside0.mk (Kd.Eb Ybh_ hb); have n1_ := Aside0.mk (Kd.Eb Yci_ hb); have n2_ := Aside0.mk (Aa.below Yce_ hb); have n3_ := Aside0.mk (blk_below (g := gb440) (o := .cells #[.string (⟨#[]⟩ : ByteArray), .string (⟨#[]⟩ : ByteArray)] 27 (0, 0)) Yj_ hb); have n4_ := Aside0.mk (Ad.trans Yh_ (Ad.of_below hb g none) (.inl rfl)); have n5_ := Aside0.mk (below_step Yca_ hb); have n6_ := Aside0.mk (hbox); have n7_ := Aside0.mk ((by rw [hg]; exact (Dp (w := w) (g := g) (row := none) Yh_) : w.heap.size ≤ gb453)); have n8_ := Aside0.mk ((Nat.le_trans HW0.out (by rw [hg]; exact (Dp (w := w) (g := g) (row := none) Yh_) : w.heap.size ≤ gb453) : w0.heap.size ≤ gb453)); have n9_ := Aside0.mk ((by rw [hg]; exact Nat.ne_of_lt (blk_lt (g := gb440) (o := .cells #[.string (⟨#[]⟩ : ByteArray), .string (⟨#[]⟩ : ByteArray)] 27 (0, 0)) Yj_) : gb440 ≠ gb453)); have n10_ := Aside0.mk ((by rw [hg]; exact Nat.ne_of_gt (blk_lt (g := gb440) (o := .cells #[.string (⟨#[]⟩ : ByteArray), .string (⟨#[]⟩ : ByteArray)] 27 (0, 0)) Yj_) : gb453 ≠ gb440)); have n11_ := Aside0.mk ((by rw [hg]; exact Nat.ne_of_lt (Aa.lt (show Aa w0 _ g s0_0 t451 t452 from by repeat (first | (with_reducible first | exact HI0.out | apply Aa.alloc | apply Aa.drewN | apply Aa.drew | apply Aa.Au | apply Aa.Aw | refine Aa.far ?_ NB0_440.out _) | exact HI0.out))) : g ≠ gb453)); have n12_ := Aside0.mk ((by rw [hg]; exact Nat.ne_of_gt (Aa.lt (show Aa w0 _ g s0_0 t451 t452 from by repeat (first | (with_reducible first | exact HI0.out | apply Aa.alloc | apply Aa.drewN | apply Aa.drew | apply Aa.Au | apply Aa.Aw | refine Aa.far ?_ NB0_440.out _) | exact HI0.out))) : gb453 ≠ g)); clear HO443; clear HO449; clear HI0; clear BK440; clear HK; clear HB; have HO443 := n0_; have HO449 := n1_; have HI0 := n2_; have BK440 := n3_; have HK := n4_; have HB := n5_; have BK453 := n6_; have GW453 := n7_; have GE453 := n8_; have NB440_453 := n9_; have NB453_440 := n10_; have NB0_453 := n11_; have NB453_0 := n12_; clear n0_ n1_ n2_ n3_ n4_ n5_ n6_ n7_ n8_ n9_ n10_ n11_ n12_; clear hb hbox hg; have hnb18 := NB453_440.out; have hnc18 := NB440_453.out; have hnb19 := NB453_0.out; have hnc19 := NB0_453.out; have hcz20_0 : w17.cell? ⟨gb453, 0, none⟩ = some (.string (⟨#[]⟩ : ByteArray)) := (blk_cell BK453.out 0).trans rfl; have hcz20_1 : w17.cell? ⟨gb453, 1, none⟩ = some (.string (⟨#[]⟩ : ByteArray)) := (blk_cell BK453.out 1).trans rfl; have hfz20_0 := Ac BK453.out 0; have hfz20_1 := Ac BK453.out 1) | ((with_reducible refine gate_callee (f := 55) rfl ?_); refine goesL_ (some 12) rfl rfl Tryd.func55 (by kernel_rfl) rfl #[.pointer (some ⟨g, 0, none⟩), .int .i64 24] rfl Yc_ ?_; (with_reducible refine (Am.calls g s0_0 t451 t452 24 t454 t455 t456 w0 _ ?side1 ?side2 A4.out).mono ?_); (case side1 => repeat (first | (with_reducible first | exact HI0.out | apply Aa.alloc | apply Aa.drewN | apply Aa.drew | apply Aa.Au | apply Aa.Aw | refine Aa.far ?_ NB0_440.out _ | refine Aa.far ?_ NB0_453.out _) | exact HI0.out)); (case side2 => repeat (first | (with_reducible first | exact HB.out | apply below_alloc | apply pw_below_drewN | apply below_drew1 | refine below_set ?_ (Aa.ge HI0.out) | refine below_set ?_ GE440.out | refine below_set ?_ GE453.out) | exact HB.out)); rintro e w21 ⟨rfl, hi, hb, hk⟩; refine ⟨_, rfl, ?_⟩; have n0_ := Aside0.mk (Ad.blk hk (g' := gb440) (o := .cells #[.string (⟨#[]⟩ : ByteArray), .string (⟨#[]⟩ : ByteArray)] 27 (0, 0)) Yde_ NB440_0.out (by simp)); have n1_ := Aside0.mk (Kd.Dl (Kd.Ff (Aa.apart (show Aa w0 _ g s0_0 t451 t452 from by repeat (first | (with_reducible first | exact HI0.out | apply Aa.alloc | apply Aa.drewN | apply Aa.drew | apply Aa.Au | apply Aa.Aw | refine Aa.far ?_ NB0_440.out _ | refine Aa.far ?_ NB0_453.out _) | exact HI0.out)) Yee_ (by decide)) hk (fun _ h => h.2)) (fun _ h => h.1)); have n2_ := Aside0.mk (Kd.Dl (Kd.Ff (Aa.apart (show Aa w0 _ g s0_0 t451 t452 from by repeat (first | (with_reducible first | exact HI0.out | apply Aa.alloc | apply Aa.drewN | apply Aa.drew | apply Aa.Au | apply Aa.Aw | refine Aa.far ?_ NB0_440.out _ | refine Aa.far ?_ NB0_453.out _) | exact HI0.out)) Yef_ (by decide)) hk (fun _ h => h.2)) (fun _ h => h.1)); have n3_ := Aside0.mk (Ad.blk hk (g' := gb453) (o := .cells #[.string t444, .string t450] 27 (0, 0)) Ydb_ NB453_0.out (by simp)); have n4_ := Aside0.mk (Ad.trans Ybj_ hk (.inl rfl)); have n5_ := Aside0.mk (hb); have n6_ := Aside0.mk (hi); clear BK440; clear HO443; clear HO449; clear BK453; clear HK; clear HB; clear HI0; have BK440 := n0_; have HO443 := n1_; have HO449 := n2_; have BK453 := n3_; have HK := n4_; have HB := n5_; have HI0 := n6_; clear n0_ n1_ n2_ n3_ n4_ n5_ n6_; (try clear hb); (try clear hb2); (try clear hk); (try clear hi)) | ((with_reducible refine gate_dst (N := 16) rfl ?_); refine Kd.R_make (Kd.int .u8) _ 5 rfl (N := 16) rfl 53 _ _ rfl 3 rfl rfl Tryd.underlying53 (.int .u8 0) 1 info5 rfl (by decide) (by omega) 0 (ok := fun _ => True) (okp := fun _ => True) rfl (fun _ hk => hk) trivial (by omega) (by omega) (Below.refl _ _) (Nat.le_refl _) ?_; intro v458 w22 ho23 hb hg_ hnew_; clear hg_ hnew_; (first | rw [← Ny457.out] at ho23 | (simp only [Int.reduceToNat] at ho23; rw [← Ny457.out] at ho23)); have n0_ := Aside0.mk (Kd.Eb Ybh_ hb); have n1_ := Aside0.mk (Kd.Eb Yci_ hb); have n2_ := Aside0.mk (Kd.D6 ho23 (Dp (w := w) (g := g) (row := none) Ybj_)); have n3_ := Aside0.mk (Aa.below Yff_ hb); have n4_ := Aside0.mk (blk_below (g := gb440) (o := .cells #[.string (⟨#[]⟩ : ByteArray), .string (⟨#[]⟩ : ByteArray)] 27 (0, 0)) Yj_ hb); have n5_ := Aside0.mk (blk_below (g := gb453) (o := .cells #[.string t444, .string t450] 27 (0, 0)) Yej_ hb); have n6_ := Aside0.mk (Ad.trans Ybj_ (Ad.of_below hb g none) (.inl rfl)); have n7_ := Aside0.mk (below_step Yfb_ hb); clear HO443; clear HO449; clear HI0; clear BK440; clear BK453; clear HK; clear HB; have HO443 := n0_; have HO449 := n1_; have HO459 := n2_; have HI0 := n3_; have BK440 := n4_; have BK453 := n5_; have HK := n6_; have HB := n7_; clear n0_ n1_ n2_ n3_ n4_ n5_ n6_ n7_; clear hb ho23; have hcv24 := own_string (P := Tryd.prog) Tryd.underlying53 Tryd.underlying5 Tryd.underlying9 (Kd.own_of_R HO459.out)) | ((with_reducible refine gate_dst (N := 18) rfl ?_); refine Kd.R_lit Kd.string _ 9 ?hg (N := 18) ?hd (xs := ([(⟨#[]⟩ : ByteArray), (⟨#[97, 64, 98]⟩ : ByteArray), (⟨#[97, 35]⟩ : ByteArray), (⟨#[10]⟩ : ByteArray), strOfNums y457] : List ByteArray)) (inner := [.string (⟨#[]⟩ : ByteArray), .string (⟨#[97, 64, 98]⟩ : ByteArray), .string (⟨#[97, 35]⟩ : ByteArray), .string (⟨#[10]⟩ : ByteArray), .string (strOfNums y457)]) (ok := fun _ => True) (okp := fun _ => True) ?hr ?hp (fun _ hk => hk) trivial (Below.refl _ _) (Nat.le_refl _) (by simp) ?_; (case hd => rfl); (case hg => rfl); (case hr => first | (go_simp; done) | (go_simp; rfl)); (case hp => exact (Dc.one (show Kd.M Kd.string _ _ _ (⟨#[]⟩ : ByteArray) [.string (⟨#[]⟩ : ByteArray)] from rfl) (Dc.one (show Kd.M Kd.string _ _ _ (⟨#[97, 64, 98]⟩ : ByteArray) [.string (⟨#[97, 64, 98]⟩ : ByteArray)] from rfl) (Dc.one (show Kd.M Kd.string _ _ _ (⟨#[97, 35]⟩ : ByteArray) [.string (⟨#[97, 35]⟩ : ByteArray)] from rfl) (Dc.one (show Kd.M Kd.string _ _ _ (⟨#[10]⟩ : ByteArray) [.string (⟨#[10]⟩ : ByteArray)] from rfl) (Dc.one (show Kd.M Kd.string _ _ _ (strOfNums y457) [.string (strOfNums y457)] from rfl) (Dc.none _ _))))))); intro v461 w25 ho26 hb hg_ hnew_; clear hg_ hnew_; (first | rw [← Ny460.out] at ho26 | (simp only [Int.reduceToNat] at ho26; rw [← Ny460.out] at ho26)); have n0_ := Aside0.mk (Kd.Gn Ybh_ (Kd.R_base ho26) hb); have n1_ := Aside0.mk (Kd.Gn Yci_ (Kd.R_base ho26) hb); have n2_ := Aside0.mk (Kd.Eb (by (with_reducible repeat (first | apply Kd.Bc | apply Kd.Ba | apply Kd.Be)); exact HO459.out) hb); have n3_ := Aside0.mk (Kd.D6 (Kd.R_new' (Kd.R_new' ho26 (Kd.R_lt Ybh_)) (Kd.R_lt Yci_)) (Dp (w := w) (g := g) (row := none) Ybj_)); have n4_ := Aside0.mk (Aa.below Yff_ hb); have n5_ := Aside0.mk (blk_below (g := gb440) (o := .cells #[.string (⟨#[]⟩ : ByteArray), .string (⟨#[]⟩ : ByteArray)] 27 (0, 0)) Yj_ hb); have n6_ := Aside0.mk (blk_below (g := gb453) (o := .cells #[.string t444, .string t450] 27 (0, 0)) Yej_ hb); have n7_ := Aside0.mk (Ad.trans Ybj_ (Ad.of_below hb g none) (.inl rfl)); have n8_ := Aside0.mk (below_step Yfb_ hb); clear HO443; clear HO449; clear HO459; clear HI0; clear BK440; clear BK453; clear HK; clear HB; have HO443 := n0_; have HO449 := n1_; have HO459 := n2_; have HO462 := n3_; have HI0 := n4_; have BK440 := n5_; have BK453 := n6_; have HK := n7_; have HB := n8_; clear n0_ n1_ n2_ n3_ n4_ n5_ n6_ n7_ n8_; clear hb ho26; obtain ⟨Ao27, co27, eo27⟩ := Kd.Eg HO462.out; subst eo27) | ((with_reducible refine gate_callee (f := 72) rfl ?_); refine goesL_ (some 19) rfl rfl Tryd.func72 (by kernel_rfl) rfl #[.pointer (some ⟨g, 0, none⟩), .slice Ao27 y460.length co27] rfl Yc_ ?_; (with_reducible refine (Cm.calls g s0_0 t455 t456 _ _ y460 t463 t464 t465 w0 _ ?side1 ?side2 ?side3 ?side4 ?side5 A7.out).mono ?_); (case side1 => repeat (first | (with_reducible first | exact HI0.out | apply Aa.alloc | apply Aa.drewN | apply Aa.drew | apply Aa.Au | apply Aa.Aw | refine Aa.far ?_ NB0_440.out _ | refine Aa.far ?_ NB0_453.out _) | exact HI0.out)); (case side2 => repeat (first | (with_reducible first | exact HB.out | apply below_alloc | apply pw_below_drewN | apply below_drew1 | refine below_set ?_ (Aa.ge HI0.out) | refine below_set ?_ GE440.out | refine below_set ?_ GE453.out) | exact HB.out)); (case side3 => repeat (first | exact (Kd.Ei HO462.out).2.2 | (with_reducible refine Kd.Gs ?_ _) | (with_reducible refine Kd.Gt ?_ _) | (with_reducible refine Kd.C_drew ?_))); (case side4 => exact (Kd.Ei HO462.out).2.1); (case side5 => exact Gw (Aa.own_ne HI0.out HO462.out (by decide))); rintro e w28 ⟨rfl, hi, hb, hk⟩; refine ⟨_, rfl, ?_⟩; have n0_ := Aside0.mk (Ad.blk hk (g' := gb440) (o := .cells #[.string (⟨#[]⟩ : ByteArray), .string (⟨#[]⟩ : ByteArray)] 27 (0, 0)) Yj_ NB440_0.out (by simp)); have n1_ := Aside0.mk (Kd.Dl (Kd.Ff (Aa.apart (show Aa w0 _ g s0_0 t455 t456 from by repeat (first | (with_reducible first | exact HI0.out | apply Aa.alloc | apply Aa.drewN | apply Aa.drew | apply Aa.Au | apply Aa.Aw | refine Aa.far ?_ NB0_440.out _ | refine Aa.far ?_ NB0_453.out _) | exact HI0.out)) Ybh_ (by decide)) hk (fun _ h => h.2)) (fun _ h => h.1)); have n2_ := Aside0.mk (Kd.Dl (Kd.Ff (Aa.apart (show Aa w0 _ g s0_0 t455 t456 from by repeat (first | (with_reducible first | exact HI0.out | apply Aa.alloc | apply Aa.drewN | apply Aa.drew | apply Aa.Au | apply Aa.Aw | refine Aa.far ?_ NB0_440.out _ | refine Aa.far ?_ NB0_453.out _) | exact HI0.out)) Yci_ (by decide)) hk (fun _ h => h.2)) (fun _ h => h.1)); have n3_ := Aside0.mk (Ad.blk hk (g' := gb453) (o := .cells #[.string t444, .string t450] 27 (0, 0)) Yej_ NB453_0.out (by simp)); have n4_ := Aside0.mk (Kd.Dl (Kd.Ff (Aa.apart (show Aa w0 _ g s0_0 t455 t456 from by repeat (first | (with_reducible first | exact HI0.out | apply Aa.alloc | apply Aa.drewN | apply Aa.drew | apply Aa.Au | apply Aa.Aw | refine Aa.far ?_ NB0_440.out _ | refine Aa.far ?_ NB0_453.out _) | exact HI0.out)) (by (with_reducible repeat (first | apply Kd.Bc | apply Kd.Ba | apply Kd.Be)); exact HO459.out) (by decide)) hk (fun _ h => h.2)) (fun _ h => h.1)); have n5_ := Aside0.mk (Kd.Dl (Kd.Ff (Aa.apart (show Aa w0 _ g s0_0 t455 t456 from by repeat (first | (with_reducible first | exact HI0.out | apply Aa.alloc | apply Aa.drewN | apply Aa.drew | apply Aa.Au | apply Aa.Aw | refine Aa.far ?_ NB0_440.out _ | refine Aa.far ?_ NB0_453.out _) | exact HI0.out)) (by (with_reducible repeat (first | apply Kd.Bc | apply Kd.Ba | apply Kd.Be)); exact HO462.out) (by decide)) hk (fun _ h => h.2)) (fun _ h => h.1)); have n6_ := Aside0.mk (Ad.trans Ybj_ hk (.inl rfl)); have n7_ := Aside0.mk (hb); have n8_ := Aside0.mk (hi); clear BK440; clear HO443; clear HO449; clear BK453; clear HO459; clear HO462; clear HK; clear HB; clear HI0; have BK440 := n0_; have HO443 := n1_; have HO449 := n2_; have BK453 := n3_; have HO459 := n4_; have HO462 := n5_; have HK := n6_; have HB := n7_; have HI0 := n8_; clear n0_ n1_ n2_ n3_ n4_ n5_ n6_ n7_ n8_; (try clear hb); (try clear hb2); (try clear hk); (try clear hi); have hcz29_0 : w28.cell? ⟨gb453, 0, none⟩ = some (.string t444) := (blk_cell BK453.out 0).trans rfl; have hcz29_1 : w28.cell? ⟨gb453, 1, none⟩ = some (.string t450) := (blk_cell BK453.out 1).trans rfl; have hfz29_0 := Ac BK453.out 0; have hfz29_1 := Ac BK453.out 1; have hnb30 := NB440_0.out; have hnc30 := NB0_440.out; have hcz31_0 : w28.cell? ⟨gb440, 0, none⟩ = some (.string (⟨#[]⟩ : ByteArray)) := (blk_cell BK440.out 0).trans rfl; have hcz31_1 : w28.cell? ⟨gb440, 1, none⟩ = some (.string (⟨#[]⟩ : ByteArray)) := (blk_cell BK440.out 1).trans rfl; have hfz31_0 := Ac BK440.out 0; have hfz31_1 := Ac BK440.out 1))
      refine bodyPost_ret (results_cell_row rfl _ _ gb440 27 #[.string t463, .string t450] (0, 0) _ rfl (by (with_reducible repeat (first | refine blk_drewN ?_ _ | refine blk_drew ?_ | refine blk_alloc ?_ _)); refine Ak (cs := #[.string t463, .string (⟨#[]⟩ : ByteArray)]) ?_ 1 _ rfl; (with_reducible repeat (first | refine blk_drewN ?_ _ | refine blk_drew ?_ | refine blk_alloc ?_ _)); refine Ak (cs := #[.string (⟨#[]⟩ : ByteArray), .string (⟨#[]⟩ : ByteArray)]) ?_ 0 _ rfl; (with_reducible repeat (first | refine blk_drewN ?_ _ | refine blk_drew ?_ | refine blk_alloc ?_ _)); refine blk_far ?_ NB440_453.out _; (with_reducible repeat (first | refine blk_drewN ?_ _ | refine blk_drew ?_ | refine blk_alloc ?_ _)); exact BK440.out) Tryd.underlying27 rfl (by kernel_rfl)) rfl ?_
      exact ⟨by first | rfl | (simp [Af, Ag] <;> rfl) | (simp [*, Af, Ag] <;> rfl), by repeat (first | (with_reducible first | exact HI0.out | apply Aa.alloc | apply Aa.drewN | apply Aa.drew | apply Aa.Au | apply Aa.Aw | refine Aa.far ?_ NB0_440.out _ | refine Aa.far ?_ NB0_453.out _) | exact HI0.out), by repeat (first | (with_reducible first | exact HB.out | apply below_alloc | apply pw_below_drewN | apply below_drew1 | refine below_set ?_ (Aa.ge HI0.out) | refine below_set ?_ GE440.out | refine below_set ?_ GE453.out) | exact HB.out), by repeat (first | (with_reducible first | exact HK.out | apply Ad.Ce | apply Ah | apply Aj | apply Ai | refine Aq ?_ GW440.out _ | refine Aq ?_ GW453.out _) | exact HK.out)⟩
    · rw [if_neg c6] at H
      exact absurd H (by simp)
  · rw [if_neg c5] at H
    have c5b0 : (t454 == 0) = false := beq_eq_false_iff_ne.mpr c5
    have c5b1 : (t454 != 0) = true := bne_iff_ne.mpr c5
    by_cases c32 : t454 = 1
    · rw [if_pos c32] at H
      have c32b0 : (t454 == 1) = true := beq_iff_eq.mpr c32
      have c32b1 : (t454 != 1) = false := bne_eq_false_iff_eq.mpr c32
      clear c32
      obtain ⟨y466, hy466⟩ : ∃ y_ : List ByteArray, y_ = (([(⟨#[35]⟩ : ByteArray), (⟨#[10]⟩ : ByteArray), (⟨#[127]⟩ : ByteArray)] : List ByteArray)) := ⟨_, rfl⟩
      replace H : ((Cm.f s0_0 t455 t456 y466).bind fun bt469 => (some (t444, bt469.1, bt469.2.1, bt469.2.2))) = some (r1, r2, r3, r4) := by first | (rw [hy466]; with_reducible exact H) | (have H2_ := (Option.bind_some _ _).symm.trans H; rw [hy466]; with_reducible exact H2_) | (have H2_ := (Option.bind_some _ _).symm.trans H; with_reducible exact H2_) | with_reducible exact H | (rw [hy466]; exact H) | exact H
      have Ny466 := Aside0.mk hy466
      clear hy466
      replace H := Option.bind_eq_some_iff.mp H
      obtain ⟨⟨t469, t470, t471⟩, A330, H⟩ := H
      replace H : (some (t444, t469, t470, t471)) = some (r1, r2, r3, r4) := H
      have A33 := Aside0.mk A330
      clear A330
      simp only [Option.some.injEq, Prod.mk.injEq] at H
      obtain ⟨rfl, rfl, rfl, rfl⟩ := H
      go_enter Tryd.func56, Tryd.ntmps56
      go_wp2_with (first | ((with_reducible refine gate_dst (N := 2) rfl ?_); refine box_event ?hg (N := 2) ?hd (cs := #[.string (⟨#[]⟩ : ByteArray), .string (⟨#[]⟩ : ByteArray)]) (t := 27) ?hr ?_; (case hd => rfl); (case hg => rfl); (case hr => first | (go_simp; done) | (go_simp; rfl)); intro gb440 hg w34 hbox hb; have n0_ := Aside0.mk (Aa.below Yda_ hb); have n1_ := Aside0.mk (Ad.trans Yf_ (Ad.of_below hb g none) (.inl rfl)); have n2_ := Aside0.mk (below_step Ycf_ hb); have n3_ := Aside0.mk (hbox); have n4_ := Aside0.mk ((by rw [hg]; exact (Dp (w := w) (g := g) (row := none) Yf_) : w.heap.size ≤ gb440)); have n5_ := Aside0.mk ((Nat.le_trans HW0.out (by rw [hg]; exact (Dp (w := w) (g := g) (row := none) Yf_) : w.heap.size ≤ gb440) : w0.heap.size ≤ gb440)); have n6_ := Aside0.mk ((by rw [hg]; exact Nat.ne_of_lt (Aa.lt (show Aa w0 _ g s0_0 s0_1 s0_2 from by repeat (first | (with_reducible first | exact HI0.out | apply Aa.alloc | apply Aa.drewN | apply Aa.drew | apply Aa.Au | apply Aa.Aw) | exact HI0.out))) : g ≠ gb440)); have n7_ := Aside0.mk ((by rw [hg]; exact Nat.ne_of_gt (Aa.lt (show Aa w0 _ g s0_0 s0_1 s0_2 from by repeat (first | (with_reducible first | exact HI0.out | apply Aa.alloc | apply Aa.drewN | apply Aa.drew | apply Aa.Au | apply Aa.Aw) | exact HI0.out))) : gb440 ≠ g)); clear HI0; clear HK; clear HB; have HI0 := n0_; have HK := n1_; have HB := n2_; have BK440 := n3_; have GW440 := n4_; have GE440 := n5_; have NB0_440 := n6_; have NB440_0 := n7_; clear n0_ n1_ n2_ n3_ n4_ n5_ n6_ n7_; clear hb hbox hg) | ((with_reducible refine gate_dst (N := 5) rfl ?_); refine Kd.R_lit Kd.string _ 9 ?hg (N := 5) ?hd (xs := ([(⟨#[99, 111, 117, 110, 116]⟩ : ByteArray), (⟨#[115, 111, 114, 116, 32, 109, 101, 114, 103, 101]⟩ : ByteArray), (⟨#[120]⟩ : ByteArray), (⟨#[115, 101, 108, 101, 99, 116, 32, 50]⟩ : ByteArray), (⟨#[48, 32, 49]⟩ : ByteArray)] : List ByteArray)) (inner := [.string (⟨#[99, 111, 117, 110, 116]⟩ : ByteArray), .string (⟨#[115, 111, 114, 116, 32, 109, 101, 114, 103, 101]⟩ : ByteArray), .string (⟨#[120]⟩ : ByteArray), .string (⟨#[115, 101, 108, 101, 99, 116, 32, 50]⟩ : ByteArray), .string (⟨#[48, 32, 49]⟩ : ByteArray)]) (ok := fun _ => True) (okp := fun _ => True) ?hr ?hp (fun _ hk => hk) trivial (Below.refl _ _) (Nat.le_refl _) (by simp) ?_; (case hd => rfl); (case hg => rfl); (case hr => first | (go_simp; done) | (go_simp; rfl)); (case hp => exact (Dc.one (show Kd.M Kd.string _ _ _ (⟨#[99, 111, 117, 110, 116]⟩ : ByteArray) [.string (⟨#[99, 111, 117, 110, 116]⟩ : ByteArray)] from rfl) (Dc.one (show Kd.M Kd.string _ _ _ (⟨#[115, 111, 114, 116, 32, 109, 101, 114, 103, 101]⟩ : ByteArray) [.string (⟨#[115, 111, 114, 116, 32, 109, 101, 114, 103, 101]⟩ : ByteArray)] from rfl) (Dc.one (show Kd.M Kd.string _ _ _ (⟨#[120]⟩ : ByteArray) [.string (⟨#[120]⟩ : ByteArray)] from rfl) (Dc.one (show Kd.M Kd.string _ _ _ (⟨#[115, 101, 108, 101, 99, 116, 32, 50]⟩ : ByteArray) [.string (⟨#[115, 101, 108, 101, 99, 116, 32, 50]⟩ : ByteArray)] from rfl) (Dc.one (show Kd.M Kd.string _ _ _ (⟨#[48, 32, 49]⟩ : ByteArray) [.string (⟨#[48, 32, 49]⟩ : ByteArray)] from rfl) (Dc.none _ _))))))); intro v442 w35 ho36 hb hg_ hnew_; clear hg_ hnew_; (first | rw [← Ny441.out] at ho36 | (simp only [Int.reduceToNat] at ho36; rw [← Ny441.out] at ho36)); have n0_ := Aside0.mk (Kd.D6 ho36 (Dp (w := w) (g := g) (row := none) Yh_)); have n1_ := Aside0.mk (Aa.below Yce_ hb); have n2_ := Aside0.mk (blk_below (g := gb440) (o := .cells #[.string (⟨#[]⟩ : ByteArray), .string (⟨#[]⟩ : ByteArray)] 27 (0, 0)) Yj_ hb); have n3_ := Aside0.mk (Ad.trans Yh_ (Ad.of_below hb g none) (.inl rfl)); have n4_ := Aside0.mk (below_step Yca_ hb); clear HI0; clear BK440; clear HK; clear HB; have HO443 := n0_; have HI0 := n1_; have BK440 := n2_; have HK := n3_; have HB := n4_; clear n0_ n1_ n2_ n3_ n4_; clear hb ho36; obtain ⟨Ao37, co37, eo37⟩ := Kd.Eg HO443.out; subst eo37) | ((with_reducible refine gate_callee (f := 72) rfl ?_); refine goesL_ (some 6) rfl rfl Tryd.func72 (by kernel_rfl) rfl #[.pointer (some ⟨g, 0, none⟩), .slice Ao37 y441.length co37] rfl Yc_ ?_; (with_reducible refine (Cm.calls g s0_0 s0_1 s0_2 _ _ y441 t444 t445 t446 w0 _ ?side1 ?side2 ?side3 ?side4 ?side5 A2.out).mono ?_); (case side1 => repeat (first | (with_reducible first | exact HI0.out | apply Aa.alloc | apply Aa.drewN | apply Aa.drew | apply Aa.Au | apply Aa.Aw | refine Aa.far ?_ NB0_440.out _) | exact HI0.out)); (case side2 => repeat (first | (with_reducible first | exact HB.out | apply below_alloc | apply pw_below_drewN | apply below_drew1 | refine below_set ?_ (Aa.ge HI0.out) | refine below_set ?_ GE440.out) | exact HB.out)); (case side3 => repeat (first | exact (Kd.Ei HO443.out).2.2 | (with_reducible refine Kd.Gs ?_ _) | (with_reducible refine Kd.Gt ?_ _) | (with_reducible refine Kd.C_drew ?_))); (case side4 => exact (Kd.Ei HO443.out).2.1); (case side5 => exact Gw (Aa.own_ne HI0.out HO443.out (by decide))); rintro e w38 ⟨rfl, hi, hb, hk⟩; refine ⟨_, rfl, ?_⟩; have n0_ := Aside0.mk (Ad.blk hk (g' := gb440) (o := .cells #[.string (⟨#[]⟩ : ByteArray), .string (⟨#[]⟩ : ByteArray)] 27 (0, 0)) Yj_ NB440_0.out (by simp)); have n1_ := Aside0.mk (Kd.Dl (Kd.Ff (Aa.apart (show Aa w0 _ g s0_0 s0_1 s0_2 from by repeat (first | (with_reducible first | exact HI0.out | apply Aa.alloc | apply Aa.drewN | apply Aa.drew | apply Aa.Au | apply Aa.Aw | refine Aa.far ?_ NB0_440.out _) | exact HI0.out)) Ybh_ (by decide)) hk (fun _ h => h.2)) (fun _ h => h.1)); have n2_ := Aside0.mk (Ad.trans Yh_ hk (.inl rfl)); have n3_ := Aside0.mk (hb); have n4_ := Aside0.mk (hi); clear BK440; clear HO443; clear HK; clear HB; clear HI0; have BK440 := n0_; have HO443 := n1_; have HK := n2_; have HB := n3_; have HI0 := n4_; clear n0_ n1_ n2_ n3_ n4_; (try clear hb); (try clear hb2); (try clear hk); (try clear hi)) | ((with_reducible refine gate_dst (N := 8) rfl ?_); refine Kd.R_lit Kd.string _ 9 ?hg (N := 8) ?hd (xs := ([(⟨#[]⟩ : ByteArray), (⟨#[51]⟩ : ByteArray), (⟨#[63]⟩ : ByteArray), (⟨#[97, 64, 98]⟩ : ByteArray), (⟨#[51, 32, 49, 32, 50]⟩ : ByteArray)] : List ByteArray)) (inner := [.string (⟨#[]⟩ : ByteArray), .string (⟨#[51]⟩ : ByteArray), .string (⟨#[63]⟩ : ByteArray), .string (⟨#[97, 64, 98]⟩ : ByteArray), .string (⟨#[51, 32, 49, 32, 50]⟩ : ByteArray)]) (ok := fun _ => True) (okp := fun _ => True) ?hr ?hp (fun _ hk => hk) trivial (Below.refl _ _) (Nat.le_refl _) (by simp) ?_; (case hd => rfl); (case hg => rfl); (case hr => first | (go_simp; done) | (go_simp; rfl)); (case hp => exact (Dc.one (show Kd.M Kd.string _ _ _ (⟨#[]⟩ : ByteArray) [.string (⟨#[]⟩ : ByteArray)] from rfl) (Dc.one (show Kd.M Kd.string _ _ _ (⟨#[51]⟩ : ByteArray) [.string (⟨#[51]⟩ : ByteArray)] from rfl) (Dc.one (show Kd.M Kd.string _ _ _ (⟨#[63]⟩ : ByteArray) [.string (⟨#[63]⟩ : ByteArray)] from rfl) (Dc.one (show Kd.M Kd.string _ _ _ (⟨#[97, 64, 98]⟩ : ByteArray) [.string (⟨#[97, 64, 98]⟩ : ByteArray)] from rfl) (Dc.one (show Kd.M Kd.string _ _ _ (⟨#[51, 32, 49, 32, 50]⟩ : ByteArray) [.string (⟨#[51, 32, 49, 32, 50]⟩ : ByteArray)] from rfl) (Dc.none _ _))))))); intro v448 w39 ho40 hb hg_ hnew_; clear hg_ hnew_; (first | rw [← Ny447.out] at ho40 | (simp only [Int.reduceToNat] at ho40; rw [← Ny447.out] at ho40)); have n0_ := Aside0.mk (Kd.Gn Ybh_ (Kd.R_base ho40) hb); have n1_ := Aside0.mk (Kd.D6 (Kd.R_new' ho40 (Kd.R_lt Ybh_)) (Dp (w := w) (g := g) (row := none) Yh_)); have n2_ := Aside0.mk (Aa.below Yce_ hb); have n3_ := Aside0.mk (blk_below (g := gb440) (o := .cells #[.string (⟨#[]⟩ : ByteArray), .string (⟨#[]⟩ : ByteArray)] 27 (0, 0)) Yj_ hb); have n4_ := Aside0.mk (Ad.trans Yh_ (Ad.of_below hb g none) (.inl rfl)); have n5_ := Aside0.mk (below_step Yca_ hb); clear HO443; clear HI0; clear BK440; clear HK; clear HB; have HO443 := n0_; have HO449 := n1_; have HI0 := n2_; have BK440 := n3_; have HK := n4_; have HB := n5_; clear n0_ n1_ n2_ n3_ n4_ n5_; clear hb ho40; obtain ⟨Ao41, co41, eo41⟩ := Kd.Eg HO449.out; subst eo41) | ((with_reducible refine gate_callee (f := 72) rfl ?_); refine goesL_ (some 9) rfl rfl Tryd.func72 (by kernel_rfl) rfl #[.pointer (some ⟨g, 0, none⟩), .slice Ao41 y447.length co41] rfl Yc_ ?_; (with_reducible refine (Cm.calls g s0_0 t445 t446 _ _ y447 t450 t451 t452 w0 _ ?side1 ?side2 ?side3 ?side4 ?side5 A3.out).mono ?_); (case side1 => repeat (first | (with_reducible first | exact HI0.out | apply Aa.alloc | apply Aa.drewN | apply Aa.drew | apply Aa.Au | apply Aa.Aw | refine Aa.far ?_ NB0_440.out _) | exact HI0.out)); (case side2 => repeat (first | (with_reducible first | exact HB.out | apply below_alloc | apply pw_below_drewN | apply below_drew1 | refine below_set ?_ (Aa.ge HI0.out) | refine below_set ?_ GE440.out) | exact HB.out)); (case side3 => repeat (first | exact (Kd.Ei HO449.out).2.2 | (with_reducible refine Kd.Gs ?_ _) | (with_reducible refine Kd.Gt ?_ _) | (with_reducible refine Kd.C_drew ?_))); (case side4 => exact (Kd.Ei HO449.out).2.1); (case side5 => exact Gw (Aa.own_ne HI0.out HO449.out (by decide))); rintro e w42 ⟨rfl, hi, hb, hk⟩; refine ⟨_, rfl, ?_⟩; have n0_ := Aside0.mk (Ad.blk hk (g' := gb440) (o := .cells #[.string (⟨#[]⟩ : ByteArray), .string (⟨#[]⟩ : ByteArray)] 27 (0, 0)) Yj_ NB440_0.out (by simp)); have n1_ := Aside0.mk (Kd.Dl (Kd.Ff (Aa.apart (show Aa w0 _ g s0_0 t445 t446 from by repeat (first | (with_reducible first | exact HI0.out | apply Aa.alloc | apply Aa.drewN | apply Aa.drew | apply Aa.Au | apply Aa.Aw | refine Aa.far ?_ NB0_440.out _) | exact HI0.out)) Ybh_ (by decide)) hk (fun _ h => h.2)) (fun _ h => h.1)); have n2_ := Aside0.mk (Kd.Dl (Kd.Ff (Aa.apart (show Aa w0 _ g s0_0 t445 t446 from by repeat (first | (with_reducible first | exact HI0.out | apply Aa.alloc | apply Aa.drewN | apply Aa.drew | apply Aa.Au | apply Aa.Aw | refine Aa.far ?_ NB0_440.out _) | exact HI0.out)) Yci_ (by decide)) hk (fun _ h => h.2)) (fun _ h => h.1)); have n3_ := Aside0.mk (Ad.trans Yh_ hk (.inl rfl)); have n4_ := Aside0.mk (hb); have n5_ := Aside0.mk (hi); clear BK440; clear HO443; clear HO449; clear HK; clear HB; clear HI0; have BK440 := n0_; have HO443 := n1_; have HO449 := n2_; have HK := n3_; have HB := n4_; have HI0 := n5_; clear n0_ n1_ n2_ n3_ n4_ n5_; (try clear hb); (try clear hb2); (try clear hk); (try clear hi)) | ((with_reducible refine gate_dst (N := 3) rfl ?_); refine box_event ?hg (N := 3) ?hd (cs := #[.string (⟨#[]⟩ : ByteArray), .string (⟨#[]⟩ : ByteArray)]) (t := 27) ?hr ?_; (case hd => rfl); (case hg => rfl); (case hr => first | (go_simp; done) | (go_simp; rfl)); intro gb453 hg w43 hbox hb; have n0_ := Aside0.mk (Kd.Eb Ybh_ hb); have n1_ := Aside0.mk (Kd.Eb Yci_ hb); have n2_ := Aside0.mk (Aa.below Yce_ hb); have n3_ := Aside0.mk (blk_below (g := gb440) (o := .cells #[.string (⟨#[]⟩ : ByteArray), .string (⟨#[]⟩ : ByteArray)] 27 (0, 0)) Yj_ hb); have n4_ := Aside0.mk (Ad.trans Yh_ (Ad.of_below hb g none) (.inl rfl)); have n5_ := Aside0.mk (below_step Yca_ hb); have n6_ := Aside0.mk (hbox); have n7_ := Aside0.mk ((by rw [hg]; exact (Dp (w := w) (g := g) (row := none) Yh_) : w.heap.size ≤ gb453)); have n8_ := Aside0.mk ((Nat.le_trans HW0.out (by rw [hg]; exact (Dp (w := w) (g := g) (row := none) Yh_) : w.heap.size ≤ gb453) : w0.heap.size ≤ gb453)); have n9_ := Aside0.mk ((by rw [hg]; exact Nat.ne_of_lt (blk_lt (g := gb440) (o := .cells #[.string (⟨#[]⟩ : ByteArray), .string (⟨#[]⟩ : ByteArray)] 27 (0, 0)) Yj_) : gb440 ≠ gb453)); have n10_ := Aside0.mk ((by rw [hg]; exact Nat.ne_of_gt (blk_lt (g := gb440) (o := .cells #[.string (⟨#[]⟩ : ByteArray), .string (⟨#[]⟩ : ByteArray)] 27 (0, 0)) Yj_) : gb453 ≠ gb440)); have n11_ := Aside0.mk ((by rw [hg]; exact Nat.ne_of_lt (Aa.lt (show Aa w0 _ g s0_0 t451 t452 from by repeat (first | (with_reducible first | exact HI0.out | apply Aa.alloc | apply Aa.drewN | apply Aa.drew | apply Aa.Au | apply Aa.Aw | refine Aa.far ?_ NB0_440.out _) | exact HI0.out))) : g ≠ gb453)); have n12_ := Aside0.mk ((by rw [hg]; exact Nat.ne_of_gt (Aa.lt (show Aa w0 _ g s0_0 t451 t452 from by repeat (first | (with_reducible first | exact HI0.out | apply Aa.alloc | apply Aa.drewN | apply Aa.drew | apply Aa.Au | apply Aa.Aw | refine Aa.far ?_ NB0_440.out _) | exact HI0.out))) : gb453 ≠ g)); clear HO443; clear HO449; clear HI0; clear BK440; clear HK; clear HB; have HO443 := n0_; have HO449 := n1_; have HI0 := n2_; have BK440 := n3_; have HK := n4_; have HB := n5_; have BK453 := n6_; have GW453 := n7_; have GE453 := n8_; have NB440_453 := n9_; have NB453_440 := n10_; have NB0_453 := n11_; have NB453_0 := n12_; clear n0_ n1_ n2_ n3_ n4_ n5_ n6_ n7_ n8_ n9_ n10_ n11_ n12_; clear hb hbox hg; have hnb44 := NB453_440.out; have hnc44 := NB440_453.out; have hnb45 := NB453_0.out; have hnc45 := NB0_453.out; have hcz46_0 : w43.cell? ⟨gb453, 0, none⟩ = some (.string (⟨#[]⟩ : ByteArray)) := (blk_cell BK453.out 0).trans rfl; have hcz46_1 : w43.cell? ⟨gb453, 1, none⟩ = some (.string (⟨#[]⟩ : ByteArray)) := (blk_cell BK453.out 1).trans rfl; have hfz46_0 := Ac BK453.out 0; have hfz46_1 := Ac BK453.out 1) | ((with_reducible refine gate_callee (f := 55) rfl ?_); refine goesL_ (some 12) rfl rfl Tryd.func55 (by kernel_rfl) rfl #[.pointer (some ⟨g, 0, none⟩), .int .i64 24] rfl Yc_ ?_; (with_reducible refine (Am.calls g s0_0 t451 t452 24 t454 t455 t456 w0 _ ?side1 ?side2 A4.out).mono ?_); (case side1 => repeat (first | (with_reducible first | exact HI0.out | apply Aa.alloc | apply Aa.drewN | apply Aa.drew | apply Aa.Au | apply Aa.Aw | refine Aa.far ?_ NB0_440.out _ | refine Aa.far ?_ NB0_453.out _) | exact HI0.out)); (case side2 => repeat (first | (with_reducible first | exact HB.out | apply below_alloc | apply pw_below_drewN | apply below_drew1 | refine below_set ?_ (Aa.ge HI0.out) | refine below_set ?_ GE440.out | refine below_set ?_ GE453.out) | exact HB.out)); rintro e w47 ⟨rfl, hi, hb, hk⟩; refine ⟨_, rfl, ?_⟩; have n0_ := Aside0.mk (Ad.blk hk (g' := gb440) (o := .cells #[.string (⟨#[]⟩ : ByteArray), .string (⟨#[]⟩ : ByteArray)] 27 (0, 0)) Yde_ NB440_0.out (by simp)); have n1_ := Aside0.mk (Kd.Dl (Kd.Ff (Aa.apart (show Aa w0 _ g s0_0 t451 t452 from by repeat (first | (with_reducible first | exact HI0.out | apply Aa.alloc | apply Aa.drewN | apply Aa.drew | apply Aa.Au | apply Aa.Aw | refine Aa.far ?_ NB0_440.out _ | refine Aa.far ?_ NB0_453.out _) | exact HI0.out)) Yee_ (by decide)) hk (fun _ h => h.2)) (fun _ h => h.1)); have n2_ := Aside0.mk (Kd.Dl (Kd.Ff (Aa.apart (show Aa w0 _ g s0_0 t451 t452 from by repeat (first | (with_reducible first | exact HI0.out | apply Aa.alloc | apply Aa.drewN | apply Aa.drew | apply Aa.Au | apply Aa.Aw | refine Aa.far ?_ NB0_440.out _ | refine Aa.far ?_ NB0_453.out _) | exact HI0.out)) Yef_ (by decide)) hk (fun _ h => h.2)) (fun _ h => h.1)); have n3_ := Aside0.mk (Ad.blk hk (g' := gb453) (o := .cells #[.string t444, .string t450] 27 (0, 0)) Ydb_ NB453_0.out (by simp)); have n4_ := Aside0.mk (Ad.trans Ybj_ hk (.inl rfl)); have n5_ := Aside0.mk (hb); have n6_ := Aside0.mk (hi); clear BK440; clear HO443; clear HO449; clear BK453; clear HK; clear HB; clear HI0; have BK440 := n0_; have HO443 := n1_; have HO449 := n2_; have BK453 := n3_; have HK := n4_; have HB := n5_; have HI0 := n6_; clear n0_ n1_ n2_ n3_ n4_ n5_ n6_; (try clear hb); (try clear hb2); (try clear hk); (try clear hi)) | ((with_reducible refine gate_dst (N := 24) rfl ?_); refine Kd.R_lit Kd.string _ 9 ?hg (N := 24) ?hd (xs := ([(⟨#[35]⟩ : ByteArray), (⟨#[10]⟩ : ByteArray), (⟨#[127]⟩ : ByteArray)] : List ByteArray)) (inner := [.string (⟨#[35]⟩ : ByteArray), .string (⟨#[10]⟩ : ByteArray), .string (⟨#[127]⟩ : ByteArray)]) (ok := fun _ => True) (okp := fun _ => True) ?hr ?hp (fun _ hk => hk) trivial (Below.refl _ _) (Nat.le_refl _) (by simp) ?_; (case hd => rfl); (case hg => rfl); (case hr => first | (go_simp; done) | (go_simp; rfl)); (case hp => exact (Dc.one (show Kd.M Kd.string _ _ _ (⟨#[35]⟩ : ByteArray) [.string (⟨#[35]⟩ : ByteArray)] from rfl) (Dc.one (show Kd.M Kd.string _ _ _ (⟨#[10]⟩ : ByteArray) [.string (⟨#[10]⟩ : ByteArray)] from rfl) (Dc.one (show Kd.M Kd.string _ _ _ (⟨#[127]⟩ : ByteArray) [.string (⟨#[127]⟩ : ByteArray)] from rfl) (Dc.none _ _))))); intro v467 w48 ho49 hb hg_ hnew_; clear hg_ hnew_; (first | rw [← Ny466.out] at ho49 | (simp only [Int.reduceToNat] at ho49; rw [← Ny466.out] at ho49)); have n0_ := Aside0.mk (Kd.Gn Ybh_ (Kd.R_base ho49) hb); have n1_ := Aside0.mk (Kd.Gn Yci_ (Kd.R_base ho49) hb); have n2_ := Aside0.mk (Kd.D6 (Kd.R_new' (Kd.R_new' ho49 (Kd.R_lt Ybh_)) (Kd.R_lt Yci_)) (Dp (w := w) (g := g) (row := none) Ybj_)); have n3_ := Aside0.mk (Aa.below Yff_ hb); have n4_ := Aside0.mk (blk_below (g := gb440) (o := .cells #[.string (⟨#[]⟩ : ByteArray), .string (⟨#[]⟩ : ByteArray)] 27 (0, 0)) Yj_ hb); have n5_ := Aside0.mk (blk_below (g := gb453) (o := .cells #[.string t444, .string t450] 27 (0, 0)) Yej_ hb); have n6_ := Aside0.mk (Ad.trans Ybj_ (Ad.of_below hb g none) (.inl rfl)); have n7_ := Aside0.mk (below_step Yfb_ hb); clear HO443; clear HO449; clear HI0; clear BK440; clear BK453; clear HK; clear HB; have HO443 := n0_; have HO449 := n1_; have HO468 := n2_; have HI0 := n3_; have BK440 := n4_; have BK453 := n5_; have HK := n6_; have HB := n7_; clear n0_ n1_ n2_ n3_ n4_ n5_ n6_ n7_; clear hb ho49; obtain ⟨Ao50, co50, eo50⟩ := Kd.Eg HO468.out; subst eo50) | ((with_reducible refine gate_callee (f := 72) rfl ?_); refine goesL_ (some 25) rfl rfl Tryd.func72 (by kernel_rfl) rfl #[.pointer (some ⟨g, 0, none⟩), .slice Ao50 y466.length co50] rfl Yc_ ?_; (with_reducible refine (Cm.calls g s0_0 t455 t456 _ _ y466 t469 t470 t471 w0 _ ?side1 ?side2 ?side3 ?side4 ?side5 A33.out).mono ?_); (case side1 => repeat (first | (with_reducible first | exact HI0.out | apply Aa.alloc | apply Aa.drewN | apply Aa.drew | apply Aa.Au | apply Aa.Aw | refine Aa.far ?_ NB0_440.out _ | refine Aa.far ?_ NB0_453.out _) | exact HI0.out)); (case side2 => repeat (first | (with_reducible first | exact HB.out | apply below_alloc | apply pw_below_drewN | apply below_drew1 | refine below_set ?_ (Aa.ge HI0.out) | refine below_set ?_ GE440.out | refine below_set ?_ GE453.out) | exact HB.out)); (case side3 => repeat (first | exact (Kd.Ei HO468.out).2.2 | (with_reducible refine Kd.Gs ?_ _) | (with_reducible refine Kd.Gt ?_ _) | (with_reducible refine Kd.C_drew ?_))); (case side4 => exact (Kd.Ei HO468.out).2.1); (case side5 => exact Gw (Aa.own_ne HI0.out HO468.out (by decide))); rintro e w51 ⟨rfl, hi, hb, hk⟩; refine ⟨_, rfl, ?_⟩; have n0_ := Aside0.mk (Ad.blk hk (g' := gb440) (o := .cells #[.string (⟨#[]⟩ : ByteArray), .string (⟨#[]⟩ : ByteArray)] 27 (0, 0)) Yj_ NB440_0.out (by simp)); have n1_ := Aside0.mk (Kd.Dl (Kd.Ff (Aa.apart (show Aa w0 _ g s0_0 t455 t456 from by repeat (first | (with_reducible first | exact HI0.out | apply Aa.alloc | apply Aa.drewN | apply Aa.drew | apply Aa.Au | apply Aa.Aw | refine Aa.far ?_ NB0_440.out _ | refine Aa.far ?_ NB0_453.out _) | exact HI0.out)) Ybh_ (by decide)) hk (fun _ h => h.2)) (fun _ h => h.1)); have n2_ := Aside0.mk (Kd.Dl (Kd.Ff (Aa.apart (show Aa w0 _ g s0_0 t455 t456 from by repeat (first | (with_reducible first | exact HI0.out | apply Aa.alloc | apply Aa.drewN | apply Aa.drew | apply Aa.Au | apply Aa.Aw | refine Aa.far ?_ NB0_440.out _ | refine Aa.far ?_ NB0_453.out _) | exact HI0.out)) Yci_ (by decide)) hk (fun _ h => h.2)) (fun _ h => h.1)); have n3_ := Aside0.mk (Ad.blk hk (g' := gb453) (o := .cells #[.string t444, .string t450] 27 (0, 0)) Yej_ NB453_0.out (by simp)); have n4_ := Aside0.mk (Kd.Dl (Kd.Ff (Aa.apart (show Aa w0 _ g s0_0 t455 t456 from by repeat (first | (with_reducible first | exact HI0.out | apply Aa.alloc | apply Aa.drewN | apply Aa.drew | apply Aa.Au | apply Aa.Aw | refine Aa.far ?_ NB0_440.out _ | refine Aa.far ?_ NB0_453.out _) | exact HI0.out)) (by (with_reducible repeat (first | apply Kd.Bc | apply Kd.Ba | apply Kd.Be)); exact HO468.out) (by decide)) hk (fun _ h => h.2)) (fun _ h => h.1)); have n5_ := Aside0.mk (Ad.trans Ybj_ hk (.inl rfl)); have n6_ := Aside0.mk (hb); have n7_ := Aside0.mk (hi); clear BK440; clear HO443; clear HO449; clear BK453; clear HO468; clear HK; clear HB; clear HI0; have BK440 := n0_; have HO443 := n1_; have HO449 := n2_; have BK453 := n3_; have HO468 := n4_; have HK := n5_; have HB := n6_; have HI0 := n7_; clear n0_ n1_ n2_ n3_ n4_ n5_ n6_ n7_; (try clear hb); (try clear hb2); (try clear hk); (try clear hi); have hcz52_0 : w51.cell? ⟨gb453, 0, none⟩ = some (.string t444) := (blk_cell BK453.out 0).trans rfl; have hcz52_1 : w51.cell? ⟨gb453, 1, none⟩ = some (.string t450) := (blk_cell BK453.out 1).trans rfl; have hfz52_0 := Ac BK453.out 0; have hfz52_1 := Ac BK453.out 1; have hnb53 := NB440_0.out; have hnc53 := NB0_440.out; have hcz54_0 : w51.cell? ⟨gb440, 0, none⟩ = some (.string (⟨#[]⟩ : ByteArray)) := (blk_cell BK440.out 0).trans rfl; have hcz54_1 : w51.cell? ⟨gb440, 1, none⟩ = some (.string (⟨#[]⟩ : ByteArray)) := (blk_cell BK440.out 1).trans rfl; have hfz54_0 := Ac BK440.out 0; have hfz54_1 := Ac BK440.out 1))
      refine bodyPost_ret (results_cell_row rfl _ _ gb440 27 #[.string t444, .string t469] (0, 0) _ rfl (by (with_reducible repeat (first | refine blk_drewN ?_ _ | refine blk_drew ?_ | refine blk_alloc ?_ _)); refine Ak (cs := #[.string t444, .string (⟨#[]⟩ : ByteArray)]) ?_ 1 _ rfl; (with_reducible repeat (first | refine blk_drewN ?_ _ | refine blk_drew ?_ | refine blk_alloc ?_ _)); refine Ak (cs := #[.string (⟨#[]⟩ : ByteArray), .string (⟨#[]⟩ : ByteArray)]) ?_ 0 _ rfl; (with_reducible repeat (first | refine blk_drewN ?_ _ | refine blk_drew ?_ | refine blk_alloc ?_ _)); refine blk_far ?_ NB440_453.out _; (with_reducible repeat (first | refine blk_drewN ?_ _ | refine blk_drew ?_ | refine blk_alloc ?_ _)); exact BK440.out) Tryd.underlying27 rfl (by kernel_rfl)) rfl ?_
      exact ⟨by first | rfl | (simp [Af, Ag] <;> rfl) | (simp [*, Af, Ag] <;> rfl), by repeat (first | (with_reducible first | exact HI0.out | apply Aa.alloc | apply Aa.drewN | apply Aa.drew | apply Aa.Au | apply Aa.Aw | refine Aa.far ?_ NB0_440.out _ | refine Aa.far ?_ NB0_453.out _) | exact HI0.out), by repeat (first | (with_reducible first | exact HB.out | apply below_alloc | apply pw_below_drewN | apply below_drew1 | refine below_set ?_ (Aa.ge HI0.out) | refine below_set ?_ GE440.out | refine below_set ?_ GE453.out) | exact HB.out), by repeat (first | (with_reducible first | exact HK.out | apply Ad.Ce | apply Ah | apply Aj | apply Ai | refine Aq ?_ GW440.out _ | refine Aq ?_ GW453.out _) | exact HK.out)⟩
    · rw [if_neg c32] at H
      have c32b0 : (t454 == 1) = false := beq_eq_false_iff_ne.mpr c32
      have c32b1 : (t454 != 1) = true := bne_iff_ne.mpr c32
      simp only [Option.some.injEq, Prod.mk.injEq] at H
      obtain ⟨rfl, rfl, rfl, rfl⟩ := H
      go_enter Tryd.func56, Tryd.ntmps56
      go_wp2_with (first | ((with_reducible refine gate_dst (N := 2) rfl ?_); refine box_event ?hg (N := 2) ?hd (cs := #[.string (⟨#[]⟩ : ByteArray), .string (⟨#[]⟩ : ByteArray)]) (t := 27) ?hr ?_; (case hd => rfl); (case hg => rfl); (case hr => first | (go_simp; done) | (go_simp; rfl)); intro gb440 hg w55 hbox hb; have n0_ := Aside0.mk (Aa.below Yda_ hb); have n1_ := Aside0.mk (Ad.trans Yf_ (Ad.of_below hb g none) (.inl rfl)); have n2_ := Aside0.mk (below_step Ycf_ hb); have n3_ := Aside0.mk (hbox); have n4_ := Aside0.mk ((by rw [hg]; exact (Dp (w := w) (g := g) (row := none) Yf_) : w.heap.size ≤ gb440)); have n5_ := Aside0.mk ((Nat.le_trans HW0.out (by rw [hg]; exact (Dp (w := w) (g := g) (row := none) Yf_) : w.heap.size ≤ gb440) : w0.heap.size ≤ gb440)); have n6_ := Aside0.mk ((by rw [hg]; exact Nat.ne_of_lt (Aa.lt (show Aa w0 _ g s0_0 s0_1 s0_2 from by repeat (first | (with_reducible first | exact HI0.out | apply Aa.alloc | apply Aa.drewN | apply Aa.drew | apply Aa.Au | apply Aa.Aw) | exact HI0.out))) : g ≠ gb440)); have n7_ := Aside0.mk ((by rw [hg]; exact Nat.ne_of_gt (Aa.lt (show Aa w0 _ g s0_0 s0_1 s0_2 from by repeat (first | (with_reducible first | exact HI0.out | apply Aa.alloc | apply Aa.drewN | apply Aa.drew | apply Aa.Au | apply Aa.Aw) | exact HI0.out))) : gb440 ≠ g)); clear HI0; clear HK; clear HB; have HI0 := n0_; have HK := n1_; have HB := n2_; have BK440 := n3_; have GW440 := n4_; have GE440 := n5_; have NB0_440 := n6_; have NB440_0 := n7_; clear n0_ n1_ n2_ n3_ n4_ n5_ n6_ n7_; clear hb hbox hg) | ((with_reducible refine gate_dst (N := 5) rfl ?_); refine Kd.R_lit Kd.string _ 9 ?hg (N := 5) ?hd (xs := ([(⟨#[99, 111, 117, 110, 116]⟩ : ByteArray), (⟨#[115, 111, 114, 116, 32, 109, 101, 114, 103, 101]⟩ : ByteArray), (⟨#[120]⟩ : ByteArray), (⟨#[115, 101, 108, 101, 99, 116, 32, 50]⟩ : ByteArray), (⟨#[48, 32, 49]⟩ : ByteArray)] : List ByteArray)) (inner := [.string (⟨#[99, 111, 117, 110, 116]⟩ : ByteArray), .string (⟨#[115, 111, 114, 116, 32, 109, 101, 114, 103, 101]⟩ : ByteArray), .string (⟨#[120]⟩ : ByteArray), .string (⟨#[115, 101, 108, 101, 99, 116, 32, 50]⟩ : ByteArray), .string (⟨#[48, 32, 49]⟩ : ByteArray)]) (ok := fun _ => True) (okp := fun _ => True) ?hr ?hp (fun _ hk => hk) trivial (Below.refl _ _) (Nat.le_refl _) (by simp) ?_; (case hd => rfl); (case hg => rfl); (case hr => first | (go_simp; done) | (go_simp; rfl)); (case hp => exact (Dc.one (show Kd.M Kd.string _ _ _ (⟨#[99, 111, 117, 110, 116]⟩ : ByteArray) [.string (⟨#[99, 111, 117, 110, 116]⟩ : ByteArray)] from rfl) (Dc.one (show Kd.M Kd.string _ _ _ (⟨#[115, 111, 114, 116, 32, 109, 101, 114, 103, 101]⟩ : ByteArray) [.string (⟨#[115, 111, 114, 116, 32, 109, 101, 114, 103, 101]⟩ : ByteArray)] from rfl) (Dc.one (show Kd.M Kd.string _ _ _ (⟨#[120]⟩ : ByteArray) [.string (⟨#[120]⟩ : ByteArray)] from rfl) (Dc.one (show Kd.M Kd.string _ _ _ (⟨#[115, 101, 108, 101, 99, 116, 32, 50]⟩ : ByteArray) [.string (⟨#[115, 101, 108, 101, 99, 116, 32, 50]⟩ : ByteArray)] from rfl) (Dc.one (show Kd.M Kd.string _ _ _ (⟨#[48, 32, 49]⟩ : ByteArray) [.string (⟨#[48, 32, 49]⟩ : ByteArray)] from rfl) (Dc.none _ _))))))); intro v442 w56 ho57 hb hg_ hnew_; clear hg_ hnew_; (first | rw [← Ny441.out] at ho57 | (simp only [Int.reduceToNat] at ho57; rw [← Ny441.out] at ho57)); have n0_ := Aside0.mk (Kd.D6 ho57 (Dp (w := w) (g := g) (row := none) Yh_)); have n1_ := Aside0.mk (Aa.below Yce_ hb); have n2_ := Aside0.mk (blk_below (g := gb440) (o := .cells #[.string (⟨#[]⟩ : ByteArray), .string (⟨#[]⟩ : ByteArray)] 27 (0, 0)) Yj_ hb); have n3_ := Aside0.mk (Ad.trans Yh_ (Ad.of_below hb g none) (.inl rfl)); have n4_ := Aside0.mk (below_step Yca_ hb); clear HI0; clear BK440; clear HK; clear HB; have HO443 := n0_; have HI0 := n1_; have BK440 := n2_; have HK := n3_; have HB := n4_; clear n0_ n1_ n2_ n3_ n4_; clear hb ho57; obtain ⟨Ao58, co58, eo58⟩ := Kd.Eg HO443.out; subst eo58) | ((with_reducible refine gate_callee (f := 72) rfl ?_); refine goesL_ (some 6) rfl rfl Tryd.func72 (by kernel_rfl) rfl #[.pointer (some ⟨g, 0, none⟩), .slice Ao58 y441.length co58] rfl Yc_ ?_; (with_reducible refine (Cm.calls g s0_0 s0_1 s0_2 _ _ y441 t444 t445 t446 w0 _ ?side1 ?side2 ?side3 ?side4 ?side5 A2.out).mono ?_); (case side1 => repeat (first | (with_reducible first | exact HI0.out | apply Aa.alloc | apply Aa.drewN | apply Aa.drew | apply Aa.Au | apply Aa.Aw | refine Aa.far ?_ NB0_440.out _) | exact HI0.out)); (case side2 => repeat (first | (with_reducible first | exact HB.out | apply below_alloc | apply pw_below_drewN | apply below_drew1 | refine below_set ?_ (Aa.ge HI0.out) | refine below_set ?_ GE440.out) | exact HB.out)); (case side3 => repeat (first | exact (Kd.Ei HO443.out).2.2 | (with_reducible refine Kd.Gs ?_ _) | (with_reducible refine Kd.Gt ?_ _) | (with_reducible refine Kd.C_drew ?_))); (case side4 => exact (Kd.Ei HO443.out).2.1); (case side5 => exact Gw (Aa.own_ne HI0.out HO443.out (by decide))); rintro e w59 ⟨rfl, hi, hb, hk⟩; refine ⟨_, rfl, ?_⟩; have n0_ := Aside0.mk (Ad.blk hk (g' := gb440) (o := .cells #[.string (⟨#[]⟩ : ByteArray), .string (⟨#[]⟩ : ByteArray)] 27 (0, 0)) Yj_ NB440_0.out (by simp)); have n1_ := Aside0.mk (Kd.Dl (Kd.Ff (Aa.apart (show Aa w0 _ g s0_0 s0_1 s0_2 from by repeat (first | (with_reducible first | exact HI0.out | apply Aa.alloc | apply Aa.drewN | apply Aa.drew | apply Aa.Au | apply Aa.Aw | refine Aa.far ?_ NB0_440.out _) | exact HI0.out)) Ybh_ (by decide)) hk (fun _ h => h.2)) (fun _ h => h.1)); have n2_ := Aside0.mk (Ad.trans Yh_ hk (.inl rfl)); have n3_ := Aside0.mk (hb); have n4_ := Aside0.mk (hi); clear BK440; clear HO443; clear HK; clear HB; clear HI0; have BK440 := n0_; have HO443 := n1_; have HK := n2_; have HB := n3_; have HI0 := n4_; clear n0_ n1_ n2_ n3_ n4_; (try clear hb); (try clear hb2); (try clear hk); (try clear hi)) | ((with_reducible refine gate_dst (N := 8) rfl ?_); refine Kd.R_lit Kd.string _ 9 ?hg (N := 8) ?hd (xs := ([(⟨#[]⟩ : ByteArray), (⟨#[51]⟩ : ByteArray), (⟨#[63]⟩ : ByteArray), (⟨#[97, 64, 98]⟩ : ByteArray), (⟨#[51, 32, 49, 32, 50]⟩ : ByteArray)] : List ByteArray)) (inner := [.string (⟨#[]⟩ : ByteArray), .string (⟨#[51]⟩ : ByteArray), .string (⟨#[63]⟩ : ByteArray), .string (⟨#[97, 64, 98]⟩ : ByteArray), .string (⟨#[51, 32, 49, 32, 50]⟩ : ByteArray)]) (ok := fun _ => True) (okp := fun _ => True) ?hr ?hp (fun _ hk => hk) trivial (Below.refl _ _) (Nat.le_refl _) (by simp) ?_; (case hd => rfl); (case hg => rfl); (case hr => first | (go_simp; done) | (go_simp; rfl)); (case hp => exact (Dc.one (show Kd.M Kd.string _ _ _ (⟨#[]⟩ : ByteArray) [.string (⟨#[]⟩ : ByteArray)] from rfl) (Dc.one (show Kd.M Kd.string _ _ _ (⟨#[51]⟩ : ByteArray) [.string (⟨#[51]⟩ : ByteArray)] from rfl) (Dc.one (show Kd.M Kd.string _ _ _ (⟨#[63]⟩ : ByteArray) [.string (⟨#[63]⟩ : ByteArray)] from rfl) (Dc.one (show Kd.M Kd.string _ _ _ (⟨#[97, 64, 98]⟩ : ByteArray) [.string (⟨#[97, 64, 98]⟩ : ByteArray)] from rfl) (Dc.one (show Kd.M Kd.string _ _ _ (⟨#[51, 32, 49, 32, 50]⟩ : ByteArray) [.string (⟨#[51, 32, 49, 32, 50]⟩ : ByteArray)] from rfl) (Dc.none _ _))))))); intro v448 w60 ho61 hb hg_ hnew_; clear hg_ hnew_; (first | rw [← Ny447.out] at ho61 | (simp only [Int.reduceToNat] at ho61; rw [← Ny447.out] at ho61)); have n0_ := Aside0.mk (Kd.Gn Ybh_ (Kd.R_base ho61) hb); have n1_ := Aside0.mk (Kd.D6 (Kd.R_new' ho61 (Kd.R_lt Ybh_)) (Dp (w := w) (g := g) (row := none) Yh_)); have n2_ := Aside0.mk (Aa.below Yce_ hb); have n3_ := Aside0.mk (blk_below (g := gb440) (o := .cells #[.string (⟨#[]⟩ : ByteArray), .string (⟨#[]⟩ : ByteArray)] 27 (0, 0)) Yj_ hb); have n4_ := Aside0.mk (Ad.trans Yh_ (Ad.of_below hb g none) (.inl rfl)); have n5_ := Aside0.mk (below_step Yca_ hb); clear HO443; clear HI0; clear BK440; clear HK; clear HB; have HO443 := n0_; have HO449 := n1_; have HI0 := n2_; have BK440 := n3_; have HK := n4_; have HB := n5_; clear n0_ n1_ n2_ n3_ n4_ n5_; clear hb ho61; obtain ⟨Ao62, co62, eo62⟩ := Kd.Eg HO449.out; subst eo62) | ((with_reducible refine gate_callee (f := 72) rfl ?_); refine goesL_ (some 9) rfl rfl Tryd.func72 (by kernel_rfl) rfl #[.pointer (some ⟨g, 0, none⟩), .slice Ao62 y447.length co62] rfl Yc_ ?_; (with_reducible refine (Cm.calls g s0_0 t445 t446 _ _ y447 t450 t451 t452 w0 _ ?side1 ?side2 ?side3 ?side4 ?side5 A3.out).mono ?_); (case side1 => repeat (first | (with_reducible first | exact HI0.out | apply Aa.alloc | apply Aa.drewN | apply Aa.drew | apply Aa.Au | apply Aa.Aw | refine Aa.far ?_ NB0_440.out _) | exact HI0.out)); (case side2 => repeat (first | (with_reducible first | exact HB.out | apply below_alloc | apply pw_below_drewN | apply below_drew1 | refine below_set ?_ (Aa.ge HI0.out) | refine below_set ?_ GE440.out) | exact HB.out)); (case side3 => repeat (first | exact (Kd.Ei HO449.out).2.2 | (with_reducible refine Kd.Gs ?_ _) | (with_reducible refine Kd.Gt ?_ _) | (with_reducible refine Kd.C_drew ?_))); (case side4 => exact (Kd.Ei HO449.out).2.1); (case side5 => exact Gw (Aa.own_ne HI0.out HO449.out (by decide))); rintro e w63 ⟨rfl, hi, hb, hk⟩; refine ⟨_, rfl, ?_⟩; have n0_ := Aside0.mk (Ad.blk hk (g' := gb440) (o := .cells #[.string (⟨#[]⟩ : ByteArray), .string (⟨#[]⟩ : ByteArray)] 27 (0, 0)) Yj_ NB440_0.out (by simp)); have n1_ := Aside0.mk (Kd.Dl (Kd.Ff (Aa.apart (show Aa w0 _ g s0_0 t445 t446 from by repeat (first | (with_reducible first | exact HI0.out | apply Aa.alloc | apply Aa.drewN | apply Aa.drew | apply Aa.Au | apply Aa.Aw | refine Aa.far ?_ NB0_440.out _) | exact HI0.out)) Ybh_ (by decide)) hk (fun _ h => h.2)) (fun _ h => h.1)); have n2_ := Aside0.mk (Kd.Dl (Kd.Ff (Aa.apart (show Aa w0 _ g s0_0 t445 t446 from by repeat (first | (with_reducible first | exact HI0.out | apply Aa.alloc | apply Aa.drewN | apply Aa.drew | apply Aa.Au | apply Aa.Aw | refine Aa.far ?_ NB0_440.out _) | exact HI0.out)) Yci_ (by decide)) hk (fun _ h => h.2)) (fun _ h => h.1)); have n3_ := Aside0.mk (Ad.trans Yh_ hk (.inl rfl)); have n4_ := Aside0.mk (hb); have n5_ := Aside0.mk (hi); clear BK440; clear HO443; clear HO449; clear HK; clear HB; clear HI0; have BK440 := n0_; have HO443 := n1_; have HO449 := n2_; have HK := n3_; have HB := n4_; have HI0 := n5_; clear n0_ n1_ n2_ n3_ n4_ n5_; (try clear hb); (try clear hb2); (try clear hk); (try clear hi)) | ((with_reducible refine gate_dst (N := 3) rfl ?_); refine box_event ?hg (N := 3) ?hd (cs := #[.string (⟨#[]⟩ : ByteArray), .string (⟨#[]⟩ : ByteArray)]) (t := 27) ?hr ?_; (case hd => rfl); (case hg => rfl); (case hr => first | (go_simp; done) | (go_simp; rfl)); intro gb453 hg w64 hbox hb; have n0_ := Aside0.mk (Kd.Eb Ybh_ hb); have n1_ := Aside0.mk (Kd.Eb Yci_ hb); have n2_ := Aside0.mk (Aa.below Yce_ hb); have n3_ := Aside0.mk (blk_below (g := gb440) (o := .cells #[.string (⟨#[]⟩ : ByteArray), .string (⟨#[]⟩ : ByteArray)] 27 (0, 0)) Yj_ hb); have n4_ := Aside0.mk (Ad.trans Yh_ (Ad.of_below hb g none) (.inl rfl)); have n5_ := Aside0.mk (below_step Yca_ hb); have n6_ := Aside0.mk (hbox); have n7_ := Aside0.mk ((by rw [hg]; exact (Dp (w := w) (g := g) (row := none) Yh_) : w.heap.size ≤ gb453)); have n8_ := Aside0.mk ((Nat.le_trans HW0.out (by rw [hg]; exact (Dp (w := w) (g := g) (row := none) Yh_) : w.heap.size ≤ gb453) : w0.heap.size ≤ gb453)); have n9_ := Aside0.mk ((by rw [hg]; exact Nat.ne_of_lt (blk_lt (g := gb440) (o := .cells #[.string (⟨#[]⟩ : ByteArray), .string (⟨#[]⟩ : ByteArray)] 27 (0, 0)) Yj_) : gb440 ≠ gb453)); have n10_ := Aside0.mk ((by rw [hg]; exact Nat.ne_of_gt (blk_lt (g := gb440) (o := .cells #[.string (⟨#[]⟩ : ByteArray), .string (⟨#[]⟩ : ByteArray)] 27 (0, 0)) Yj_) : gb453 ≠ gb440)); have n11_ := Aside0.mk ((by rw [hg]; exact Nat.ne_of_lt (Aa.lt (show Aa w0 _ g s0_0 t451 t452 from by repeat (first | (with_reducible first | exact HI0.out | apply Aa.alloc | apply Aa.drewN | apply Aa.drew | apply Aa.Au | apply Aa.Aw | refine Aa.far ?_ NB0_440.out _) | exact HI0.out))) : g ≠ gb453)); have n12_ := Aside0.mk ((by rw [hg]; exact Nat.ne_of_gt (Aa.lt (show Aa w0 _ g s0_0 t451 t452 from by repeat (first | (with_reducible first | exact HI0.out | apply Aa.alloc | apply Aa.drewN | apply Aa.drew | apply Aa.Au | apply Aa.Aw | refine Aa.far ?_ NB0_440.out _) | exact HI0.out))) : gb453 ≠ g)); clear HO443; clear HO449; clear HI0; clear BK440; clear HK; clear HB; have HO443 := n0_; have HO449 := n1_; have HI0 := n2_; have BK440 := n3_; have HK := n4_; have HB := n5_; have BK453 := n6_; have GW453 := n7_; have GE453 := n8_; have NB440_453 := n9_; have NB453_440 := n10_; have NB0_453 := n11_; have NB453_0 := n12_; clear n0_ n1_ n2_ n3_ n4_ n5_ n6_ n7_ n8_ n9_ n10_ n11_ n12_; clear hb hbox hg; have hnb65 := NB453_440.out; have hnc65 := NB440_453.out; have hnb66 := NB453_0.out; have hnc66 := NB0_453.out; have hcz67_0 : w64.cell? ⟨gb453, 0, none⟩ = some (.string (⟨#[]⟩ : ByteArray)) := (blk_cell BK453.out 0).trans rfl; have hcz67_1 : w64.cell? ⟨gb453, 1, none⟩ = some (.string (⟨#[]⟩ : ByteArray)) := (blk_cell BK453.out 1).trans rfl; have hfz67_0 := Ac BK453.out 0; have hfz67_1 := Ac BK453.out 1) | ((with_reducible refine gate_callee (f := 55) rfl ?_); refine goesL_ (some 12) rfl rfl Tryd.func55 (by kernel_rfl) rfl #[.pointer (some ⟨g, 0, none⟩), .int .i64 24] rfl Yc_ ?_; (with_reducible refine (Am.calls g s0_0 t451 t452 24 t454 t455 t456 w0 _ ?side1 ?side2 A4.out).mono ?_); (case side1 => repeat (first | (with_reducible first | exact HI0.out | apply Aa.alloc | apply Aa.drewN | apply Aa.drew | apply Aa.Au | apply Aa.Aw | refine Aa.far ?_ NB0_440.out _ | refine Aa.far ?_ NB0_453.out _) | exact HI0.out)); (case side2 => repeat (first | (with_reducible first | exact HB.out | apply below_alloc | apply pw_below_drewN | apply below_drew1 | refine below_set ?_ (Aa.ge HI0.out) | refine below_set ?_ GE440.out | refine below_set ?_ GE453.out) | exact HB.out)); rintro e w68 ⟨rfl, hi, hb, hk⟩; refine ⟨_, rfl, ?_⟩; have n0_ := Aside0.mk (Ad.blk hk (g' := gb440) (o := .cells #[.string (⟨#[]⟩ : ByteArray), .string (⟨#[]⟩ : ByteArray)] 27 (0, 0)) Yde_ NB440_0.out (by simp)); have n1_ := Aside0.mk (Kd.Dl (Kd.Ff (Aa.apart (show Aa w0 _ g s0_0 t451 t452 from by repeat (first | (with_reducible first | exact HI0.out | apply Aa.alloc | apply Aa.drewN | apply Aa.drew | apply Aa.Au | apply Aa.Aw | refine Aa.far ?_ NB0_440.out _ | refine Aa.far ?_ NB0_453.out _) | exact HI0.out)) Yee_ (by decide)) hk (fun _ h => h.2)) (fun _ h => h.1)); have n2_ := Aside0.mk (Kd.Dl (Kd.Ff (Aa.apart (show Aa w0 _ g s0_0 t451 t452 from by repeat (first | (with_reducible first | exact HI0.out | apply Aa.alloc | apply Aa.drewN | apply Aa.drew | apply Aa.Au | apply Aa.Aw | refine Aa.far ?_ NB0_440.out _ | refine Aa.far ?_ NB0_453.out _) | exact HI0.out)) Yef_ (by decide)) hk (fun _ h => h.2)) (fun _ h => h.1)); have n3_ := Aside0.mk (Ad.blk hk (g' := gb453) (o := .cells #[.string t444, .string t450] 27 (0, 0)) Ydb_ NB453_0.out (by simp)); have n4_ := Aside0.mk (Ad.trans Ybj_ hk (.inl rfl)); have n5_ := Aside0.mk (hb); have n6_ := Aside0.mk (hi); clear BK440; clear HO443; clear HO449; clear BK453; clear HK; clear HB; clear HI0; have BK440 := n0_; have HO443 := n1_; have HO449 := n2_; have BK453 := n3_; have HK := n4_; have HB := n5_; have HI0 := n6_; clear n0_ n1_ n2_ n3_ n4_ n5_ n6_; (try clear hb); (try clear hb2); (try clear hk); (try clear hi); have hcz69_0 : w68.cell? ⟨gb453, 0, none⟩ = some (.string t444) := (blk_cell BK453.out 0).trans rfl; have hcz69_1 : w68.cell? ⟨gb453, 1, none⟩ = some (.string t450) := (blk_cell BK453.out 1).trans rfl; have hfz69_0 := Ac BK453.out 0; have hfz69_1 := Ac BK453.out 1; have hnb70 := NB440_0.out; have hnc70 := NB0_440.out; have hcz71_0 : w68.cell? ⟨gb440, 0, none⟩ = some (.string (⟨#[]⟩ : ByteArray)) := (blk_cell BK440.out 0).trans rfl; have hcz71_1 : w68.cell? ⟨gb440, 1, none⟩ = some (.string (⟨#[]⟩ : ByteArray)) := (blk_cell BK440.out 1).trans rfl; have hfz71_0 := Ac BK440.out 0; have hfz71_1 := Ac BK440.out 1))
      refine bodyPost_ret (results_cell_row rfl _ _ gb440 27 #[.string t444, .string t450] (0, 0) _ rfl (by (with_reducible repeat (first | refine blk_drewN ?_ _ | refine blk_drew ?_ | refine blk_alloc ?_ _)); refine Ak (cs := #[.string t444, .string (⟨#[]⟩ : ByteArray)]) ?_ 1 _ rfl; (with_reducible repeat (first | refine blk_drewN ?_ _ | refine blk_drew ?_ | refine blk_alloc ?_ _)); refine Ak (cs := #[.string (⟨#[]⟩ : ByteArray), .string (⟨#[]⟩ : ByteArray)]) ?_ 0 _ rfl; (with_reducible repeat (first | refine blk_drewN ?_ _ | refine blk_drew ?_ | refine blk_alloc ?_ _)); exact BK440.out) Tryd.underlying27 rfl (by kernel_rfl)) rfl ?_
      exact ⟨by first | rfl | (simp [Af, Ag] <;> rfl) | (simp [*, Af, Ag] <;> rfl), by repeat (first | (with_reducible first | exact HI0.out | apply Aa.alloc | apply Aa.drewN | apply Aa.drew | apply Aa.Au | apply Aa.Aw | refine Aa.far ?_ NB0_440.out _ | refine Aa.far ?_ NB0_453.out _) | exact HI0.out), by repeat (first | (with_reducible first | exact HB.out | apply below_alloc | apply pw_below_drewN | apply below_drew1 | refine below_set ?_ (Aa.ge HI0.out) | refine below_set ?_ GE440.out | refine below_set ?_ GE453.out) | exact HB.out), by repeat (first | (with_reducible first | exact HK.out | apply Ad.Ce | apply Ah | apply Aj | apply Ai | refine Aq ?_ GW440.out _ | refine Aq ?_ GW453.out _) | exact HK.out)⟩
end Go.Proofs.YtkpieljmhgfofaaDoor.X

namespace Go.Proofs.YtkpieljmhgfofaaDoor.X
open Go.RowKit Go.Proofs.YtkpieljmhgfofaaDoorW.PrintWords Go.Proofs.YtkpieljmhgfofaaDoorW.PrintLast Go.Proofs.YtkpieljmhgfofaaDoorW.PrintMore
attribute [local go_sem] max2_int min2_int max_two min_two max_three min_three max_four min_four
open Go.Proofs.YtkpieljmhgfofaaDoorG
def Ar.l0 : Nat → Int → List Int → Int → Int → ByteArray → ByteArray → Int → Option (ByteArray × ByteArray × Int × Int × Int)
  | 0, _, _, _, _, _, _, _ => none
  | k + 1, x4, x1000, x1001, x1002, x474000, x474001, x474002 => if x4 > 0 then ((Dn.f x1000 x1001 x1002).bind fun bt477 => ((Az.f k x474000 x474001 x474002 bt477.1 bt477.2.1).bind fun bt481 => ((D9.f x1000 bt477.2.2.1 bt477.2.2.2 4).bind fun bt485 => (if bt485.1 = true then ((Ef.f k bt481.1 bt481.2.1 bt481.2.2.1).bind fun bt488 => (Ar.l0 k (wrap64 (x4 - 1)) x1000 bt485.2.1 bt485.2.2 bt488.1 bt488.2.1 bt488.2.2.1)) else (Ar.l0 k (wrap64 (x4 - 1)) x1000 bt485.2.1 bt485.2.2 bt481.1 bt481.2.1 bt481.2.2.1))))) else (some (x474000, x474001, x474002, x1001, x1002))
def Ar.f (k : Nat) (s0_0 : List Int) (s0_1 : Int) (s0_2 : Int) : Option (ByteArray × ByteArray × Int × Int × Int) := (Am.f s0_0 s0_1 s0_2 7).bind fun bt474 => (Ar.l0 k bt474.1 s0_0 bt474.2.1 bt474.2.2 (⟨#[]⟩ : ByteArray) (⟨#[]⟩ : ByteArray) 0)
theorem Ar.Ec : ∀ k, (∀ y0 y1 y2 y3 y4 y5 y6, LeO (Ar.l0 k y0 y1 y2 y3 y4 y5 y6) (Ar.l0 (k + 1) y0 y1 y2 y3 y4 y5 y6))
  | 0 => fun _ _ _ _ _ _ _ r h => by simp [Ar.l0] at h
  | k + 1 => by
    have ih0 := Ar.Ec k
    · intro y0 y1 y2 y3 y4 y5 y6
      unfold Ar.l0
      repeat' first
      | (with_reducible exact ih0 _ _ _ _ _ _ _)
      | (with_reducible exact Az.mono _ _ _ _ _ _)
      | (with_reducible exact Ef.mono _ _ _ _)
      | (with_reducible exact LeO.refl _)
      | (with_reducible exact LeO.none _)
      | (with_reducible refine LeO.ite ?_ ?_)
      | (with_reducible refine LeO.bind ?_ (fun _ => ?_))
      | exact ih0 _ _ _ _ _ _ _
      | exact Az.mono _ _ _ _ _ _
      | exact Ef.mono _ _ _ _
      | exact LeO.none _
      | refine LeO.ite ?_ ?_
      | refine LeO.bind ?_ (fun _ => ?_)
theorem Ar.mono : ∀ a0 a1 a2 k, LeO (Ar.f k a0 a1 a2) (Ar.f (k + 1) a0 a1 a2) := by
  intro a0 a1 a2 k
  have ih0 := Ar.Ec k
  unfold Ar.f
  repeat' first
      | (with_reducible exact ih0 _ _ _ _ _ _ _)
      | (with_reducible exact Az.mono _ _ _ _ _ _)
      | (with_reducible exact Ef.mono _ _ _ _)
      | (with_reducible exact LeO.refl _)
      | (with_reducible exact LeO.none _)
      | (with_reducible refine LeO.ite ?_ ?_)
      | (with_reducible refine LeO.bind ?_ (fun _ => ?_))
      | exact ih0 _ _ _ _ _ _ _
      | exact Az.mono _ _ _ _ _ _
      | exact Ef.mono _ _ _ _
      | exact LeO.none _
      | refine LeO.ite ?_ ?_
      | refine LeO.bind ?_ (fun _ => ?_)
def Ar.T5 : Bool × List (List Nat × List Nat) := (true, [([], []), ([], []), ([1], [1]), ([0, 2, 2], [0, 2]), ([3], [3]), ([4], [4]), ([4], [4]), ([5, 3, 0, 1, 2, 3, 4, 5], [5])])
def Ar.B5 : List Nat := [0, 0, 2, 7, 15, 31, 31, 63]
theorem Ar.tab5 : rtab .any (opsOf Tryd.f60 5) = Ar.T5 := by kernel_rfl
theorem Ar.bits5 : Gm Ar.T5.2 Ar.B5 = true := by kernel_rfl
set_option maxHeartbeats 8000000 in
set_option maxRecDepth 100000 in
theorem Ar.calls (k : Nat) (g : Nat) (s0_0 : List Int) (s0_1 : Int) (s0_2 : Int) (r1 : ByteArray) (r2 : ByteArray) (r3 : Int) (r4 : Int) (r5 : Int) (w0 w : World) (hI : Aa w0 w g s0_0 s0_1 s0_2) (hB : Below w0.heap.size w0 w) (h : Ar.f k s0_0 s0_1 s0_2 = some (r1, r2, r3, r4, r5)) :
    Calls Tryd.prog 60 #[.pointer (some ⟨g, 0, none⟩)] w fun e w' => e = .returned (.agg #[.string r1, .string r2, .int .i64 r3]) ∧ Aa w0 w' g s0_0 r4 r5 ∧ Below w0.heap.size w0 w' ∧ Ad w w' g none := by
  have hu31 := Tryd.underlying31
  have HI0 := Aside0.mk hI
  have HK := Aside0.mk (Ad.refl w g none)
  have HL := Aside0.mk hB.size
  clear hI
  have HW0 := Aside0.mk hB.size
  have HB := Aside0.mk hB
  clear hB
  have H : ((Am.f s0_0 s0_1 s0_2 7).bind fun bt474 => (Ar.l0 k bt474.1 s0_0 bt474.2.1 bt474.2.2 (⟨#[]⟩ : ByteArray) (⟨#[]⟩ : ByteArray) 0)) = some (r1, r2, r3, r4, r5) := h
  clear h
  replace H := Option.bind_eq_some_iff.mp H
  obtain ⟨⟨t474, t475, t476⟩, A20, H⟩ := H
  replace H : (Ar.l0 k t474 s0_0 t475 t476 (⟨#[]⟩ : ByteArray) (⟨#[]⟩ : ByteArray) 0) = some (r1, r2, r3, r4, r5) := H
  have A2 := Aside0.mk A20
  clear A20
  have H' := Aside0.mk H
  clear H
  go_enter Tryd.func60, Tryd.ntmps60
  go_wp2_with (first | ((with_reducible refine gate_dst (N := 2) rfl ?_); refine box_event ?hg (N := 2) ?hd (cs := #[.string (⟨#[]⟩ : ByteArray), .string (⟨#[]⟩ : ByteArray), .int .i64 0]) (t := 31) ?hr ?_; (case hd => rfl); (case hg => rfl); (case hr => first | (go_simp; done) | (go_simp; rfl)); intro gb472 hg w3 hbox hb; have n0_ := Aside0.mk (Aa.below Yda_ hb); have n1_ := Aside0.mk (Ad.trans Yf_ (Ad.of_below hb g none) (.inl rfl)); have n2_ := Aside0.mk (below_step Ycf_ hb); have n3_ := Aside0.mk (hbox); have n4_ := Aside0.mk ((by rw [hg]; exact (Dp (w := w) (g := g) (row := none) Yf_) : w.heap.size ≤ gb472)); have n5_ := Aside0.mk ((Nat.le_trans HW0.out (by rw [hg]; exact (Dp (w := w) (g := g) (row := none) Yf_) : w.heap.size ≤ gb472) : w0.heap.size ≤ gb472)); have n6_ := Aside0.mk ((by rw [hg]; exact Nat.ne_of_lt (Aa.lt (show Aa w0 _ g s0_0 s0_1 s0_2 from by repeat (first | (with_reducible first | exact HI0.out | apply Aa.alloc | apply Aa.drewN | apply Aa.drew | apply Aa.Au | apply Aa.Aw) | exact HI0.out))) : g ≠ gb472)); have n7_ := Aside0.mk ((by rw [hg]; exact Nat.ne_of_gt (Aa.lt (show Aa w0 _ g s0_0 s0_1 s0_2 from by repeat (first | (with_reducible first | exact HI0.out | apply Aa.alloc | apply Aa.drewN | apply Aa.drew | apply Aa.Au | apply Aa.Aw) | exact HI0.out))) : gb472 ≠ g)); clear HI0; clear HK; clear HB; have HI0 := n0_; have HK := n1_; have HB := n2_; have BK472 := n3_; have GW472 := n4_; have GE472 := n5_; have NB0_472 := n6_; have NB472_0 := n7_; clear n0_ n1_ n2_ n3_ n4_ n5_ n6_ n7_; clear hb hbox hg) | ((with_reducible refine gate_dst (N := 3) rfl ?_); refine box_event ?hg (N := 3) ?hd (cs := #[.string (⟨#[]⟩ : ByteArray), .string (⟨#[]⟩ : ByteArray), .int .i64 0]) (t := 31) ?hr ?_; (case hd => rfl); (case hg => rfl); (case hr => first | (go_simp; done) | (go_simp; rfl)); intro gb473 hg w4 hbox hb; have n0_ := Aside0.mk (Aa.below (by repeat (first | (with_reducible first | exact HI0.out | apply Aa.alloc | apply Aa.drewN | apply Aa.drew | apply Aa.Au | apply Aa.Aw | refine Aa.far ?_ NB0_472.out _) | exact HI0.out)) hb); have n1_ := Aside0.mk (blk_below (g := gb472) (o := .cells #[.string (⟨#[]⟩ : ByteArray), .string (⟨#[]⟩ : ByteArray), .int .i64 0] 31 (0, 0)) Ydd_ hb); have n2_ := Aside0.mk (Ad.trans Ygd_ (Ad.of_below hb g none) (.inl rfl)); have n3_ := Aside0.mk (below_step (by repeat (first | (with_reducible first | exact HB.out | apply below_alloc | apply pw_below_drewN | apply below_drew1 | refine below_set ?_ (Aa.ge HI0.out) | refine below_set ?_ GE472.out) | exact HB.out)) hb); have n4_ := Aside0.mk (hbox); have n5_ := Aside0.mk ((by rw [hg]; exact (Dp (w := w) (g := g) (row := none) Ygd_) : w.heap.size ≤ gb473)); have n6_ := Aside0.mk ((Nat.le_trans HW0.out (by rw [hg]; exact (Dp (w := w) (g := g) (row := none) Ygd_) : w.heap.size ≤ gb473) : w0.heap.size ≤ gb473)); have n7_ := Aside0.mk ((by rw [hg]; exact Nat.ne_of_lt (blk_lt (g := gb472) (o := .cells #[.string (⟨#[]⟩ : ByteArray), .string (⟨#[]⟩ : ByteArray), .int .i64 0] 31 (0, 0)) Ydd_) : gb472 ≠ gb473)); have n8_ := Aside0.mk ((by rw [hg]; exact Nat.ne_of_gt (blk_lt (g := gb472) (o := .cells #[.string (⟨#[]⟩ : ByteArray), .string (⟨#[]⟩ : ByteArray), .int .i64 0] 31 (0, 0)) Ydd_) : gb473 ≠ gb472)); have n9_ := Aside0.mk ((by rw [hg]; exact Nat.ne_of_lt (Aa.lt (show Aa w0 _ g s0_0 s0_1 s0_2 from by repeat (first | (with_reducible first | exact HI0.out | apply Aa.alloc | apply Aa.drewN | apply Aa.drew | apply Aa.Au | apply Aa.Aw | refine Aa.far ?_ NB0_472.out _) | exact HI0.out))) : g ≠ gb473)); have n10_ := Aside0.mk ((by rw [hg]; exact Nat.ne_of_gt (Aa.lt (show Aa w0 _ g s0_0 s0_1 s0_2 from by repeat (first | (with_reducible first | exact HI0.out | apply Aa.alloc | apply Aa.drewN | apply Aa.drew | apply Aa.Au | apply Aa.Aw | refine Aa.far ?_ NB0_472.out _) | exact HI0.out))) : gb473 ≠ g)); clear HI0; clear BK472; clear HK; clear HB; have HI0 := n0_; have BK472 := n1_; have HK := n2_; have HB := n3_; have BK473 := n4_; have GW473 := n5_; have GE473 := n6_; have NB472_473 := n7_; have NB473_472 := n8_; have NB0_473 := n9_; have NB473_0 := n10_; clear n0_ n1_ n2_ n3_ n4_ n5_ n6_ n7_ n8_ n9_ n10_; clear hb hbox hg; have hnb5 := NB473_472.out; have hnc5 := NB472_473.out; have hnb6 := NB473_0.out; have hnc6 := NB0_473.out; have hcz7_0 : w4.cell? ⟨gb473, 0, none⟩ = some (.string (⟨#[]⟩ : ByteArray)) := (blk_cell BK473.out 0).trans rfl; have hcz7_1 : w4.cell? ⟨gb473, 1, none⟩ = some (.string (⟨#[]⟩ : ByteArray)) := (blk_cell BK473.out 1).trans rfl; have hcz7_2 : w4.cell? ⟨gb473, 2, none⟩ = some (.int .i64 0) := (blk_cell BK473.out 2).trans rfl; have hfz7_0 := Ac BK473.out 0; have hfz7_1 := Ac BK473.out 1; have hfz7_2 := Ac BK473.out 2) | ((with_reducible refine gate_callee (f := 55) rfl ?_); refine goesL_ (some 7) rfl rfl Tryd.func55 (by kernel_rfl) rfl #[.pointer (some ⟨g, 0, none⟩), .int .i64 7] rfl Yc_ ?_; (with_reducible refine (Am.calls g s0_0 s0_1 s0_2 7 t474 t475 t476 w0 _ ?side1 ?side2 A2.out).mono ?_); (case side1 => repeat (first | (with_reducible first | exact HI0.out | apply Aa.alloc | apply Aa.drewN | apply Aa.drew | apply Aa.Au | apply Aa.Aw | refine Aa.far ?_ NB0_472.out _ | refine Aa.far ?_ NB0_473.out _) | exact HI0.out)); (case side2 => repeat (first | (with_reducible first | exact HB.out | apply below_alloc | apply pw_below_drewN | apply below_drew1 | refine below_set ?_ (Aa.ge HI0.out) | refine below_set ?_ GE472.out | refine below_set ?_ GE473.out) | exact HB.out)); rintro e w8 ⟨rfl, hi, hb, hk⟩; refine ⟨_, rfl, ?_⟩; have n0_ := Aside0.mk (Ad.blk hk (g' := gb472) (o := .cells #[.string (⟨#[]⟩ : ByteArray), .string (⟨#[]⟩ : ByteArray), .int .i64 0] 31 (0, 0)) Ycj_ NB472_0.out (by simp)); have n1_ := Aside0.mk (Ad.blk hk (g' := gb473) (o := .cells #[.string (⟨#[]⟩ : ByteArray), .string (⟨#[]⟩ : ByteArray), .int .i64 0] 31 (0, 0)) (by (with_reducible repeat (first | refine blk_drewN ?_ _ | refine blk_drew ?_ | refine blk_alloc ?_ _)); refine Ak (cs := #[.string (⟨#[]⟩ : ByteArray), .string (⟨#[]⟩ : ByteArray), .int .i64 0]) ?_ 2 _ rfl; (with_reducible repeat (first | refine blk_drewN ?_ _ | refine blk_drew ?_ | refine blk_alloc ?_ _)); refine Ak (cs := #[.string (⟨#[]⟩ : ByteArray), .string (⟨#[]⟩ : ByteArray), .int .i64 0]) ?_ 1 _ rfl; (with_reducible repeat (first | refine blk_drewN ?_ _ | refine blk_drew ?_ | refine blk_alloc ?_ _)); refine Ak (cs := #[.string (⟨#[]⟩ : ByteArray), .string (⟨#[]⟩ : ByteArray), .int .i64 0]) ?_ 0 _ rfl; (with_reducible repeat (first | refine blk_drewN ?_ _ | refine blk_drew ?_ | refine blk_alloc ?_ _)); exact BK473.out) NB473_0.out (by simp)); have n2_ := Aside0.mk (Ad.trans Ycg_ hk (.inl rfl)); have n3_ := Aside0.mk (hb); have n4_ := Aside0.mk (hi); clear BK472; clear BK473; clear HK; clear HB; clear HI0; have BK472 := n0_; have BK473 := n1_; have HK := n2_; have HB := n3_; have HI0 := n4_; clear n0_ n1_ n2_ n3_ n4_; (try clear hb); (try clear hb2); (try clear hk); (try clear hi)))
  go_loopg [4] k (fun kq v4 w' => ∃ (x4_1 : Int) (x1001_1 : Int) (x1002_1 : Int) (x474000_1 : ByteArray) (x474001_1 : ByteArray) (x474002_1 : Int), v4 = .int .i64 x4_1 ∧ Aside0 (Ar.l0 kq x4_1 s0_0 x1001_1 x1002_1 x474000_1 x474001_1 x474002_1 = some (r1, r2, r3, r4, r5)) ∧ Aside0 (kq ≤ k) ∧ Aside0 (w'.heap[gb472]? = some (.cells #[.string (⟨#[]⟩ : ByteArray), .string (⟨#[]⟩ : ByteArray), .int .i64 0] 31 (0, 0))) ∧ Aside0 (w'.heap[gb473]? = some (.cells #[.string x474000_1, .string x474001_1, .int .i64 x474002_1] 31 (0, 0))) ∧ Aside0 (Aa w0 w' g s0_0 x1001_1 x1002_1) ∧ Aside0 (Ad w w' g none) ∧ Aside0 (Below w0.heap.size w0 w'))
  case atStart => exact ⟨(t474), (t475), (t476), ((⟨#[]⟩ : ByteArray)), ((⟨#[]⟩ : ByteArray)), (0), Ybg_, H', ⟨Nat.le_refl _⟩, ⟨by (with_reducible repeat (first | refine blk_drewN ?_ _ | refine blk_drew ?_ | refine blk_alloc ?_ _)); exact BK472.out⟩, ⟨by (with_reducible repeat (first | refine blk_drewN ?_ _ | refine blk_drew ?_ | refine blk_alloc ?_ _)); exact BK473.out⟩, ⟨by repeat (first | (with_reducible first | exact HI0.out | apply Aa.alloc | apply Aa.drewN | apply Aa.drew | apply Aa.Au | apply Aa.Aw | refine Aa.far ?_ NB0_472.out _ | refine Aa.far ?_ NB0_473.out _) | exact HI0.out)⟩, ⟨by repeat (first | (with_reducible first | exact HK.out | apply Ad.Ce | apply Ah | apply Aj | apply Ai | refine Aq ?_ GW472.out _ | refine Aq ?_ GW473.out _) | exact HK.out)⟩, ⟨by repeat (first | (with_reducible first | exact HB.out | apply below_alloc | apply pw_below_drewN | apply below_drew1 | refine below_set ?_ (Aa.ge HI0.out) | refine below_set ?_ GE472.out | refine below_set ?_ GE473.out) | exact HB.out)⟩⟩
  case round =>
    clear H'
    try clear p2
    try clear c5
    try clear c6
    try clear hcz7_0
    try clear hcz7_1
    try clear hcz7_2
    try clear hfz7_0
    try clear hfz7_1
    try clear hfz7_2
    obtain ⟨x4_1, x1001_1, x1002_1, x474000_1, x474001_1, x474002_1, rfl, HA, HK1, BK472, BK473, HI0, HK, HB⟩ := hrel
    cases gk with
    | zero => exact absurd HA.out (by simp [Ar.l0])
    | succ k1 =>
      have H := HA.out
      clear HA
      simp only [Ar.l0] at H
      by_cases c9 : x4_1 > 0
      · rw [if_pos c9] at H
        have c9b0 : decide (0 < x4_1) = true := decide_eq_true c9
        clear c9
        replace H := Option.bind_eq_some_iff.mp H
        obtain ⟨⟨t477, t478, t479, t480⟩, A100, H⟩ := H
        replace H : ((Az.f k1 x474000_1 x474001_1 x474002_1 t477 t478).bind fun bt481 => ((D9.f s0_0 t479 t480 4).bind fun bt485 => (if bt485.1 = true then ((Ef.f k1 bt481.1 bt481.2.1 bt481.2.2.1).bind fun bt488 => (Ar.l0 k1 (wrap64 (x4_1 - 1)) s0_0 bt485.2.1 bt485.2.2 bt488.1 bt488.2.1 bt488.2.2.1)) else (Ar.l0 k1 (wrap64 (x4_1 - 1)) s0_0 bt485.2.1 bt485.2.2 bt481.1 bt481.2.1 bt481.2.2.1)))) = some (r1, r2, r3, r4, r5) := H
        have A10 := Aside0.mk A100
        clear A100
        replace H := Option.bind_eq_some_iff.mp H
        obtain ⟨⟨t481, t482, t483, t484⟩, A110, H⟩ := H
        replace H : ((D9.f s0_0 t479 t480 4).bind fun bt485 => (if bt485.1 = true then ((Ef.f k1 t481 t482 t483).bind fun bt488 => (Ar.l0 k1 (wrap64 (x4_1 - 1)) s0_0 bt485.2.1 bt485.2.2 bt488.1 bt488.2.1 bt488.2.2.1)) else (Ar.l0 k1 (wrap64 (x4_1 - 1)) s0_0 bt485.2.1 bt485.2.2 t481 t482 t483))) = some (r1, r2, r3, r4, r5) := H
        have A11 := Aside0.mk A110
        clear A110
        replace H := Option.bind_eq_some_iff.mp H
        obtain ⟨⟨t485, t486, t487⟩, A120, H⟩ := H
        replace H : (if t485 = true then ((Ef.f k1 t481 t482 t483).bind fun bt488 => (Ar.l0 k1 (wrap64 (x4_1 - 1)) s0_0 t486 t487 bt488.1 bt488.2.1 bt488.2.2.1)) else (Ar.l0 k1 (wrap64 (x4_1 - 1)) s0_0 t486 t487 t481 t482 t483)) = some (r1, r2, r3, r4, r5) := H
        have A12 := Aside0.mk A120
        clear A120
        by_cases c13 : t485 = true
        · subst c13
          have H1 : ((Ef.f k1 t481 t482 t483).bind fun bt488 => (Ar.l0 k1 (wrap64 (x4_1 - 1)) s0_0 t486 t487 bt488.1 bt488.2.1 bt488.2.2.1)) = some (r1, r2, r3, r4, r5) := by rw [if_pos rfl] at H; exact H
          clear H
          have H := H1
          clear H1
          replace H := Option.bind_eq_some_iff.mp H
          obtain ⟨⟨t488, t489, t490, t491⟩, A140, H⟩ := H
          replace H : (Ar.l0 k1 (wrap64 (x4_1 - 1)) s0_0 t486 t487 t488 t489 t490) = some (r1, r2, r3, r4, r5) := H
          have A14 := Aside0.mk A140
          clear A140
          have H' := Aside0.mk H
          clear H
          try go_wp2
          have n0_ := Aside0.mk (blk_drew BK472.out)
          have n1_ := Aside0.mk (blk_drew BK473.out)
          have n2_ := Aside0.mk (Aa.drew HI0.out)
          have n3_ := Aside0.mk (Aj HK.out)
          have n4_ := Aside0.mk (below_drew1 HB.out)
          clear BK472
          clear BK473
          clear HI0
          clear HK
          clear HB
          have BK472 := n0_
          have BK473 := n1_
          have HI0 := n2_
          have HK := n3_
          have HB := n4_
          clear n0_ n1_ n2_ n3_ n4_
          refine start_ (n := 8) (S := fun w' => w'.cell? ⟨gb473, 0, none⟩ = some (.string x474000_1) ∧ w'.cell? ⟨gb473, 1, none⟩ = some (.string x474001_1) ∧ w'.cell? ⟨gb473, 2, none⟩ = some (.int .i64 x474002_1)) (ds := [7]) #[false, false, false, false, false, false, false, false] (by kernel_rfl) rfl rfl ⟨(blk_cell BK473.out 0).trans rfl, (blk_cell BK473.out 1).trans rfl, (blk_cell BK473.out 2).trans rfl⟩ (fun hHeld => ?_); refine Gi Ar.tab5 Ar.bits5 (fun HT_ HW_ => ?_)
          generalize wr.drew = w15 at BK472 BK473 HI0 HK HB hHeld ⊢
          refine pure_ (i := 1) (N := some 14) (v := ?_) (a' := ?_) #[false, true, false, false, false, false, false, false] rfl rfl (Cj HT_.out (by kernel_rfl)) (fun _ _ _ h => h) (Or.inl ⟨by rfl, ?_⟩) ?_ ?_
          rotate_left
          · intro w'
            go_simp
            with_reducible rfl
          rotate_left
          · simp only [Act.put, List.setIfInBounds_toArray, List.set_cons_zero, List.set_cons_succ, i64_w, i32_w]
            rfl
          refine take_ (i := 0) (N := some 13) (v := ?_) (a' := ?_) #[true, true, false, false, false, false, false, false] rfl rfl (Et HT_.out HW_.out (by kernel_rfl)) (fun _ _ _ h => h) (Or.inl ⟨by rfl, ?_⟩) hHeld ?_ ?_
          rotate_left
          · rintro w' ⟨s0, s1, s2⟩
            go_simp
            with_reducible rfl
          rotate_left
          · simp only [Act.put, List.setIfInBounds_toArray, List.set_cons_zero, List.set_cons_succ, i64_w, i32_w]
            rfl
          refine one_ (i := 2) (N := some 15) #[true, true, true, false, false, false, false, false] rfl rfl (Fp HT_.out (by kernel_rfl)) (by decide) (fun K hK => ?_)
          refine goes_ Tryd.func56 (by kernel_rfl) rfl #[.pointer (some ⟨g, 0, none⟩)] (by rfl) rfl rfl Yc_ ?_
          with_reducible refine (Dn.calls g s0_0 x1001_1 x1002_1 t477 t478 t479 t480 w0 _ ?side1 ?side2 A10.out).mono ?_
          (case side1 => repeat (first | (with_reducible first | exact HI0.out | apply Aa.alloc | apply Aa.drewN | apply Aa.drew | apply Aa.Au | apply Aa.Aw | refine Aa.far ?_ NB0_472.out _ | refine Aa.far ?_ NB0_473.out _) | exact HI0.out))
          (case side2 => repeat (first | (with_reducible first | exact HB.out | apply below_alloc | apply pw_below_drewN | apply below_drew1 | refine below_set ?_ (Aa.ge HI0.out) | refine below_set ?_ GE472.out | refine below_set ?_ GE473.out) | exact HB.out))
          rintro e w16 ⟨rfl, hi, hb, hk⟩
          refine ⟨_, rfl, ?_⟩
          have n0_ := Aside0.mk (Ad.blk hk (g' := gb472) (o := .cells #[.string (⟨#[]⟩ : ByteArray), .string (⟨#[]⟩ : ByteArray), .int .i64 0] 31 (0, 0)) Ydd_ NB472_0.out (by simp))
          have n1_ := Aside0.mk (Ad.blk hk (g' := gb473) (o := .cells #[.string x474000_1, .string x474001_1, .int .i64 x474002_1] 31 (0, 0)) Yfa_ NB473_0.out (by simp))
          have n2_ := Aside0.mk (Ad.trans Ycg_ hk (.inl rfl))
          have n3_ := Aside0.mk (hb)
          have n4_ := Aside0.mk (hi)
          clear BK472
          clear BK473
          clear HK
          clear HB
          clear HI0
          have BK472 := n0_
          have BK473 := n1_
          have HK := n2_
          have HB := n3_
          have HI0 := n4_
          clear n0_ n1_ n2_ n3_ n4_
          (try clear hb)
          (try clear hb2)
          (try clear hk)
          (try clear hi)
          refine hK.out _ _ ⟨(blk_cell BK473.out 0).trans rfl, (blk_cell BK473.out 1).trans rfl, (blk_cell BK473.out 2).trans rfl⟩ (fun hHeld => ?_)
          clear hK K
          refine norm_ (a' := ?_) ?_ ?_
          rotate_left
          · show Act.put _ (some 15) _ = _
            simp only [Act.put, List.setIfInBounds_toArray, List.set_cons_zero, List.set_cons_succ, i64_w, i32_w]
            rfl
          refine one_ (i := 3) (N := some 16) #[true, true, true, true, false, false, false, false] rfl rfl (Fp HT_.out (by kernel_rfl)) (by decide) (fun K hK => ?_)
          refine goes_ Tryd.func28 (by kernel_rfl) rfl #[.agg #[.string x474000_1, .string x474001_1, .int .i64 x474002_1], .agg #[.string t477, .string t478]] (by rfl) rfl rfl Yc_ ?_
          with_reducible refine (Az.calls k1 x474000_1 x474001_1 x474002_1 t477 t478 t481 t482 t483 t484 _ A11.out).mono ?_
          rintro e w17 ⟨rfl, hb⟩
          refine ⟨_, rfl, ?_⟩
          have n0_ := Aside0.mk (blk_below (g := gb472) (o := .cells #[.string (⟨#[]⟩ : ByteArray), .string (⟨#[]⟩ : ByteArray), .int .i64 0] 31 (0, 0)) Ydd_ hb)
          have n1_ := Aside0.mk (blk_below (g := gb473) (o := .cells #[.string x474000_1, .string x474001_1, .int .i64 x474002_1] 31 (0, 0)) Yfa_ hb)
          have n2_ := Aside0.mk (Aa.below Yfg_ hb)
          have n3_ := Aside0.mk (Ad.trans Ycg_ (Ad.of_below hb g none) (.inl rfl))
          have n4_ := Aside0.mk (below_step Yfc_ hb)
          clear BK472
          clear BK473
          clear HI0
          clear HK
          clear HB
          have BK472 := n0_
          have BK473 := n1_
          have HI0 := n2_
          have HK := n3_
          have HB := n4_
          clear n0_ n1_ n2_ n3_ n4_
          (try clear hb)
          (try clear hb2)
          (try clear hk)
          (try clear hi)
          refine hK.out _ _ ⟨(blk_cell BK473.out 0).trans rfl, (blk_cell BK473.out 1).trans rfl, (blk_cell BK473.out 2).trans rfl⟩ (fun hHeld => ?_)
          clear hK K
          refine norm_ (a' := ?_) ?_ ?_
          rotate_left
          · show Act.put _ (some 16) _ = _
            simp only [Act.put, List.setIfInBounds_toArray, List.set_cons_zero, List.set_cons_succ, i64_w, i32_w]
            rfl
          refine pure_ (i := 4) (N := some 12) (v := ?_) (a' := ?_) #[true, true, true, true, true, false, false, false] rfl rfl (Cj HT_.out (by kernel_rfl)) (fun _ _ _ h => h) (Or.inl ⟨by rfl, ?_⟩) ?_ ?_
          rotate_left
          · intro w'
            go_simp
            with_reducible rfl
          rotate_left
          · simp only [Act.put, List.setIfInBounds_toArray, List.set_cons_zero, List.set_cons_succ, i64_w, i32_w]
            rfl
          refine pure_ (i := 5) (N := some 17) (v := ?_) (a' := ?_) #[true, true, true, true, true, true, false, false] rfl rfl (Cj HT_.out (by kernel_rfl)) (fun _ _ _ h => h) (Or.inl ⟨by rfl, ?_⟩) ?_ ?_
          rotate_left
          · intro w'
            go_simp
            with_reducible rfl
          rotate_left
          · simp only [Act.put, List.setIfInBounds_toArray, List.set_cons_zero, List.set_cons_succ, i64_w, i32_w]
            rfl
          refine pure_ (i := 6) (N := some 18) (v := ?_) (a' := ?_) #[true, true, true, true, true, true, true, false] rfl rfl (Cj HT_.out (by kernel_rfl)) (fun _ _ _ h => h) (Or.inl ⟨by rfl, ?_⟩) ?_ ?_
          rotate_left
          · intro w'
            go_simp
            with_reducible rfl
          rotate_left
          · simp only [Act.put, List.setIfInBounds_toArray, List.set_cons_zero, List.set_cons_succ, i64_w, i32_w]
            rfl
          refine last_ (i := 7) (N := none) #[true, true, true, true, true, true, true, true] rfl rfl (Fp HT_.out (by kernel_rfl)) (by decide) (fun K hK => ?_)
          have hs18 : w17.cell? ⟨gb473, 0, none⟩ = some (.string x474000_1) := (blk_cell BK473.out 0).trans rfl
          have hfs18 := Ac BK473.out 0
          have hns18_0 := NB472_473.out
          have hms18_0 := NB473_472.out
          have hs19 : w17.cell? ⟨gb473, 1, none⟩ = some (.string x474001_1) := (blk_cell BK473.out 1).trans rfl
          have hfs19 := Ac BK473.out 1
          have hns19_0 := NB472_473.out
          have hms19_0 := NB473_472.out
          have hs20 : w17.cell? ⟨gb473, 2, none⟩ = some (.int .i64 x474002_1) := (blk_cell BK473.out 2).trans rfl
          have hfs20 := Ac BK473.out 2
          have hns20_0 := NB472_473.out
          have hms20_0 := NB473_472.out
          refine skip_ (w1 := ?_) (by rfl) rfl ?_ ?_
          rotate_left
          · go_simp
            rfl
          refine hK.out _ _ ?_
          clear hK K
          refine done_ (G5 HT_.out (by kernel_rfl)) ?_
          try go_wp2_with (first | ((with_reducible refine gate_callee (f := 54) rfl ?_); refine goesL_ (some 20) rfl rfl Tryd.func54 (by kernel_rfl) rfl #[.pointer (some ⟨g, 0, none⟩), .int .i64 4] rfl Yc_ ?_; (with_reducible refine (D9.calls g s0_0 t479 t480 4 true t486 t487 w0 _ ?side1 ?side2 A12.out).mono ?_); (case side1 => repeat (first | (with_reducible first | exact HI0.out | apply Aa.alloc | apply Aa.drewN | apply Aa.drew | apply Aa.Au | apply Aa.Aw | refine Aa.far ?_ NB0_472.out _ | refine Aa.far ?_ NB0_473.out _) | exact HI0.out)); (case side2 => repeat (first | (with_reducible first | exact HB.out | apply below_alloc | apply pw_below_drewN | apply below_drew1 | refine below_set ?_ (Aa.ge HI0.out) | refine below_set ?_ GE472.out | refine below_set ?_ GE473.out) | exact HB.out)); rintro e w21 ⟨rfl, hi, hb, hk⟩; refine ⟨_, rfl, ?_⟩; have n0_ := Aside0.mk (Ad.blk hk (g' := gb472) (o := .cells #[.string (⟨#[]⟩ : ByteArray), .string (⟨#[]⟩ : ByteArray), .int .i64 0] 31 (0, 0)) Ycj_ NB472_0.out (by simp)); have n1_ := Aside0.mk (Ad.blk hk (g' := gb473) (o := .cells #[.string t481, .string t482, .int .i64 t483] 31 (0, 0)) Yeb_ NB473_0.out (by simp)); have n2_ := Aside0.mk (Ad.trans Ycg_ hk (.inl rfl)); have n3_ := Aside0.mk (hb); have n4_ := Aside0.mk (hi); clear BK472; clear BK473; clear HK; clear HB; clear HI0; have BK472 := n0_; have BK473 := n1_; have HK := n2_; have HB := n3_; have HI0 := n4_; clear n0_ n1_ n2_ n3_ n4_; (try clear hb); (try clear hb2); (try clear hk); (try clear hi); have hnb22 := NB473_472.out; have hnc22 := NB472_473.out; have hnb23 := NB473_0.out; have hnc23 := NB0_473.out; have hcz24_0 : w21.cell? ⟨gb473, 0, none⟩ = some (.string t481) := (blk_cell BK473.out 0).trans rfl; have hcz24_1 : w21.cell? ⟨gb473, 1, none⟩ = some (.string t482) := (blk_cell BK473.out 1).trans rfl; have hcz24_2 : w21.cell? ⟨gb473, 2, none⟩ = some (.int .i64 t483) := (blk_cell BK473.out 2).trans rfl; have hfz24_0 := Ac BK473.out 0; have hfz24_1 := Ac BK473.out 1; have hfz24_2 := Ac BK473.out 2) | ((with_reducible refine gate_callee (f := 26) rfl ?_); refine goesL_ (some 23) rfl rfl Tryd.func26 (by kernel_rfl) rfl #[.agg #[.string t481, .string t482, .int .i64 t483]] rfl Yc_ ?_; (with_reducible refine (Ef.calls k1 t481 t482 t483 t488 t489 t490 t491 _ A14.out).mono ?_); rintro e w25 ⟨rfl, hb⟩; refine ⟨_, rfl, ?_⟩; have n0_ := Aside0.mk (blk_below (g := gb472) (o := .cells #[.string (⟨#[]⟩ : ByteArray), .string (⟨#[]⟩ : ByteArray), .int .i64 0] 31 (0, 0)) Ydd_ hb); have n1_ := Aside0.mk (blk_below (g := gb473) (o := .cells #[.string t481, .string t482, .int .i64 t483] 31 (0, 0)) Yfa_ hb); have n2_ := Aside0.mk (Aa.below Yfg_ hb); have n3_ := Aside0.mk (Ad.trans Ycg_ (Ad.of_below hb g none) (.inl rfl)); have n4_ := Aside0.mk (below_step Yfc_ hb); clear BK472; clear BK473; clear HI0; clear HK; clear HB; have BK472 := n0_; have BK473 := n1_; have HI0 := n2_; have HK := n3_; have HB := n4_; clear n0_ n1_ n2_ n3_ n4_; (try clear hb); (try clear hb2); (try clear hk); (try clear hi); have hcz26_0 : w25.cell? ⟨gb473, 0, none⟩ = some (.string t481) := (blk_cell BK473.out 0).trans rfl; have hcz26_1 : w25.cell? ⟨gb473, 1, none⟩ = some (.string t482) := (blk_cell BK473.out 1).trans rfl; have hcz26_2 : w25.cell? ⟨gb473, 2, none⟩ = some (.int .i64 t483) := (blk_cell BK473.out 2).trans rfl; have hfz26_0 := Ac BK473.out 0; have hfz26_1 := Ac BK473.out 1; have hfz26_2 := Ac BK473.out 2))
          go_roundg k1
          case measure => have := HK1.out; omega
          case rel => exact ⟨(wrap64 (x4_1 - 1)), (t486), (t487), (t488), (t489), (t490), Ybg_, H', ⟨by have := HK1.out; omega⟩, ⟨by (with_reducible repeat (first | refine blk_drewN ?_ _ | refine blk_drew ?_ | refine blk_alloc ?_ _)); refine blk_far ?_ NB472_473.out _; (with_reducible repeat (first | refine blk_drewN ?_ _ | refine blk_drew ?_ | refine blk_alloc ?_ _)); refine blk_far ?_ NB472_473.out _; (with_reducible repeat (first | refine blk_drewN ?_ _ | refine blk_drew ?_ | refine blk_alloc ?_ _)); refine blk_far ?_ NB472_473.out _; (with_reducible repeat (first | refine blk_drewN ?_ _ | refine blk_drew ?_ | refine blk_alloc ?_ _)); exact BK472.out⟩, ⟨by (with_reducible repeat (first | refine blk_drewN ?_ _ | refine blk_drew ?_ | refine blk_alloc ?_ _)); refine Ak (cs := #[.string t488, .string t489, .int .i64 t483]) ?_ 2 _ rfl; (with_reducible repeat (first | refine blk_drewN ?_ _ | refine blk_drew ?_ | refine blk_alloc ?_ _)); refine Ak (cs := #[.string t488, .string t482, .int .i64 t483]) ?_ 1 _ rfl; (with_reducible repeat (first | refine blk_drewN ?_ _ | refine blk_drew ?_ | refine blk_alloc ?_ _)); refine Ak (cs := #[.string t481, .string t482, .int .i64 t483]) ?_ 0 _ rfl; (with_reducible repeat (first | refine blk_drewN ?_ _ | refine blk_drew ?_ | refine blk_alloc ?_ _)); exact BK473.out⟩, ⟨by repeat (first | (with_reducible first | exact HI0.out | apply Aa.alloc | apply Aa.drewN | apply Aa.drew | apply Aa.Au | apply Aa.Aw | refine Aa.far ?_ NB0_472.out _ | refine Aa.far ?_ NB0_473.out _) | exact HI0.out)⟩, ⟨by repeat (first | (with_reducible first | exact HK.out | apply Ad.Ce | apply Ah | apply Aj | apply Ai | refine Aq ?_ GW472.out _ | refine Aq ?_ GW473.out _) | exact HK.out)⟩, ⟨by repeat (first | (with_reducible first | exact HB.out | apply below_alloc | apply pw_below_drewN | apply below_drew1 | refine below_set ?_ (Aa.ge HI0.out) | refine below_set ?_ GE472.out | refine below_set ?_ GE473.out) | exact HB.out)⟩⟩
        · replace c13 := Bool.eq_false_iff.mpr c13
          subst c13
          have H1 : (Ar.l0 k1 (wrap64 (x4_1 - 1)) s0_0 t486 t487 t481 t482 t483) = some (r1, r2, r3, r4, r5) := by rw [if_neg (show ¬ (false = true) by decide)] at H; exact H
          clear H
          have H := H1
          clear H1
          have H' := Aside0.mk H
          clear H
          try go_wp2
          have n0_ := Aside0.mk (blk_drew BK472.out)
          have n1_ := Aside0.mk (blk_drew BK473.out)
          have n2_ := Aside0.mk (Aa.drew HI0.out)
          have n3_ := Aside0.mk (Aj HK.out)
          have n4_ := Aside0.mk (below_drew1 HB.out)
          clear BK472
          clear BK473
          clear HI0
          clear HK
          clear HB
          have BK472 := n0_
          have BK473 := n1_
          have HI0 := n2_
          have HK := n3_
          have HB := n4_
          clear n0_ n1_ n2_ n3_ n4_
          refine start_ (n := 8) (S := fun w' => w'.cell? ⟨gb473, 0, none⟩ = some (.string x474000_1) ∧ w'.cell? ⟨gb473, 1, none⟩ = some (.string x474001_1) ∧ w'.cell? ⟨gb473, 2, none⟩ = some (.int .i64 x474002_1)) (ds := [7]) #[false, false, false, false, false, false, false, false] (by kernel_rfl) rfl rfl ⟨(blk_cell BK473.out 0).trans rfl, (blk_cell BK473.out 1).trans rfl, (blk_cell BK473.out 2).trans rfl⟩ (fun hHeld => ?_); refine Gi Ar.tab5 Ar.bits5 (fun HT_ HW_ => ?_)
          generalize wr.drew = w27 at BK472 BK473 HI0 HK HB hHeld ⊢
          refine pure_ (i := 1) (N := some 14) (v := ?_) (a' := ?_) #[false, true, false, false, false, false, false, false] rfl rfl (Cj HT_.out (by kernel_rfl)) (fun _ _ _ h => h) (Or.inl ⟨by rfl, ?_⟩) ?_ ?_
          rotate_left
          · intro w'
            go_simp
            with_reducible rfl
          rotate_left
          · simp only [Act.put, List.setIfInBounds_toArray, List.set_cons_zero, List.set_cons_succ, i64_w, i32_w]
            rfl
          refine take_ (i := 0) (N := some 13) (v := ?_) (a' := ?_) #[true, true, false, false, false, false, false, false] rfl rfl (Et HT_.out HW_.out (by kernel_rfl)) (fun _ _ _ h => h) (Or.inl ⟨by rfl, ?_⟩) hHeld ?_ ?_
          rotate_left
          · rintro w' ⟨s0, s1, s2⟩
            go_simp
            with_reducible rfl
          rotate_left
          · simp only [Act.put, List.setIfInBounds_toArray, List.set_cons_zero, List.set_cons_succ, i64_w, i32_w]
            rfl
          refine one_ (i := 2) (N := some 15) #[true, true, true, false, false, false, false, false] rfl rfl (Fp HT_.out (by kernel_rfl)) (by decide) (fun K hK => ?_)
          refine goes_ Tryd.func56 (by kernel_rfl) rfl #[.pointer (some ⟨g, 0, none⟩)] (by rfl) rfl rfl Yc_ ?_
          with_reducible refine (Dn.calls g s0_0 x1001_1 x1002_1 t477 t478 t479 t480 w0 _ ?side1 ?side2 A10.out).mono ?_
          (case side1 => repeat (first | (with_reducible first | exact HI0.out | apply Aa.alloc | apply Aa.drewN | apply Aa.drew | apply Aa.Au | apply Aa.Aw | refine Aa.far ?_ NB0_472.out _ | refine Aa.far ?_ NB0_473.out _) | exact HI0.out))
          (case side2 => repeat (first | (with_reducible first | exact HB.out | apply below_alloc | apply pw_below_drewN | apply below_drew1 | refine below_set ?_ (Aa.ge HI0.out) | refine below_set ?_ GE472.out | refine below_set ?_ GE473.out) | exact HB.out))
          rintro e w28 ⟨rfl, hi, hb, hk⟩
          refine ⟨_, rfl, ?_⟩
          have n0_ := Aside0.mk (Ad.blk hk (g' := gb472) (o := .cells #[.string (⟨#[]⟩ : ByteArray), .string (⟨#[]⟩ : ByteArray), .int .i64 0] 31 (0, 0)) Ydd_ NB472_0.out (by simp))
          have n1_ := Aside0.mk (Ad.blk hk (g' := gb473) (o := .cells #[.string x474000_1, .string x474001_1, .int .i64 x474002_1] 31 (0, 0)) Yfa_ NB473_0.out (by simp))
          have n2_ := Aside0.mk (Ad.trans Ycg_ hk (.inl rfl))
          have n3_ := Aside0.mk (hb)
          have n4_ := Aside0.mk (hi)
          clear BK472
          clear BK473
          clear HK
          clear HB
          clear HI0
          have BK472 := n0_
          have BK473 := n1_
          have HK := n2_
          have HB := n3_
          have HI0 := n4_
          clear n0_ n1_ n2_ n3_ n4_
          (try clear hb)
          (try clear hb2)
          (try clear hk)
          (try clear hi)
          refine hK.out _ _ ⟨(blk_cell BK473.out 0).trans rfl, (blk_cell BK473.out 1).trans rfl, (blk_cell BK473.out 2).trans rfl⟩ (fun hHeld => ?_)
          clear hK K
          refine norm_ (a' := ?_) ?_ ?_
          rotate_left
          · show Act.put _ (some 15) _ = _
            simp only [Act.put, List.setIfInBounds_toArray, List.set_cons_zero, List.set_cons_succ, i64_w, i32_w]
            rfl
          refine one_ (i := 3) (N := some 16) #[true, true, true, true, false, false, false, false] rfl rfl (Fp HT_.out (by kernel_rfl)) (by decide) (fun K hK => ?_)
          refine goes_ Tryd.func28 (by kernel_rfl) rfl #[.agg #[.string x474000_1, .string x474001_1, .int .i64 x474002_1], .agg #[.string t477, .string t478]] (by rfl) rfl rfl Yc_ ?_
          with_reducible refine (Az.calls k1 x474000_1 x474001_1 x474002_1 t477 t478 t481 t482 t483 t484 _ A11.out).mono ?_
          rintro e w29 ⟨rfl, hb⟩
          refine ⟨_, rfl, ?_⟩
          have n0_ := Aside0.mk (blk_below (g := gb472) (o := .cells #[.string (⟨#[]⟩ : ByteArray), .string (⟨#[]⟩ : ByteArray), .int .i64 0] 31 (0, 0)) Ydd_ hb)
          have n1_ := Aside0.mk (blk_below (g := gb473) (o := .cells #[.string x474000_1, .string x474001_1, .int .i64 x474002_1] 31 (0, 0)) Yfa_ hb)
          have n2_ := Aside0.mk (Aa.below Yfg_ hb)
          have n3_ := Aside0.mk (Ad.trans Ycg_ (Ad.of_below hb g none) (.inl rfl))
          have n4_ := Aside0.mk (below_step Yfc_ hb)
          clear BK472
          clear BK473
          clear HI0
          clear HK
          clear HB
          have BK472 := n0_
          have BK473 := n1_
          have HI0 := n2_
          have HK := n3_
          have HB := n4_
          clear n0_ n1_ n2_ n3_ n4_
          (try clear hb)
          (try clear hb2)
          (try clear hk)
          (try clear hi)
          refine hK.out _ _ ⟨(blk_cell BK473.out 0).trans rfl, (blk_cell BK473.out 1).trans rfl, (blk_cell BK473.out 2).trans rfl⟩ (fun hHeld => ?_)
          clear hK K
          refine norm_ (a' := ?_) ?_ ?_
          rotate_left
          · show Act.put _ (some 16) _ = _
            simp only [Act.put, List.setIfInBounds_toArray, List.set_cons_zero, List.set_cons_succ, i64_w, i32_w]
            rfl
          refine pure_ (i := 4) (N := some 12) (v := ?_) (a' := ?_) #[true, true, true, true, true, false, false, false] rfl rfl (Cj HT_.out (by kernel_rfl)) (fun _ _ _ h => h) (Or.inl ⟨by rfl, ?_⟩) ?_ ?_
          rotate_left
          · intro w'
            go_simp
            with_reducible rfl
          rotate_left
          · simp only [Act.put, List.setIfInBounds_toArray, List.set_cons_zero, List.set_cons_succ, i64_w, i32_w]
            rfl
          refine pure_ (i := 5) (N := some 17) (v := ?_) (a' := ?_) #[true, true, true, true, true, true, false, false] rfl rfl (Cj HT_.out (by kernel_rfl)) (fun _ _ _ h => h) (Or.inl ⟨by rfl, ?_⟩) ?_ ?_
          rotate_left
          · intro w'
            go_simp
            with_reducible rfl
          rotate_left
          · simp only [Act.put, List.setIfInBounds_toArray, List.set_cons_zero, List.set_cons_succ, i64_w, i32_w]
            rfl
          refine pure_ (i := 6) (N := some 18) (v := ?_) (a' := ?_) #[true, true, true, true, true, true, true, false] rfl rfl (Cj HT_.out (by kernel_rfl)) (fun _ _ _ h => h) (Or.inl ⟨by rfl, ?_⟩) ?_ ?_
          rotate_left
          · intro w'
            go_simp
            with_reducible rfl
          rotate_left
          · simp only [Act.put, List.setIfInBounds_toArray, List.set_cons_zero, List.set_cons_succ, i64_w, i32_w]
            rfl
          refine last_ (i := 7) (N := none) #[true, true, true, true, true, true, true, true] rfl rfl (Fp HT_.out (by kernel_rfl)) (by decide) (fun K hK => ?_)
          have hs30 : w29.cell? ⟨gb473, 0, none⟩ = some (.string x474000_1) := (blk_cell BK473.out 0).trans rfl
          have hfs30 := Ac BK473.out 0
          have hns30_0 := NB472_473.out
          have hms30_0 := NB473_472.out
          have hs31 : w29.cell? ⟨gb473, 1, none⟩ = some (.string x474001_1) := (blk_cell BK473.out 1).trans rfl
          have hfs31 := Ac BK473.out 1
          have hns31_0 := NB472_473.out
          have hms31_0 := NB473_472.out
          have hs32 : w29.cell? ⟨gb473, 2, none⟩ = some (.int .i64 x474002_1) := (blk_cell BK473.out 2).trans rfl
          have hfs32 := Ac BK473.out 2
          have hns32_0 := NB472_473.out
          have hms32_0 := NB473_472.out
          refine skip_ (w1 := ?_) (by rfl) rfl ?_ ?_
          rotate_left
          · go_simp
            rfl
          refine hK.out _ _ ?_
          clear hK K
          refine done_ (G5 HT_.out (by kernel_rfl)) ?_
          try go_wp2_with (first | ((with_reducible refine gate_callee (f := 54) rfl ?_); refine goesL_ (some 20) rfl rfl Tryd.func54 (by kernel_rfl) rfl #[.pointer (some ⟨g, 0, none⟩), .int .i64 4] rfl Yc_ ?_; (with_reducible refine (D9.calls g s0_0 t479 t480 4 false t486 t487 w0 _ ?side1 ?side2 A12.out).mono ?_); (case side1 => repeat (first | (with_reducible first | exact HI0.out | apply Aa.alloc | apply Aa.drewN | apply Aa.drew | apply Aa.Au | apply Aa.Aw | refine Aa.far ?_ NB0_472.out _ | refine Aa.far ?_ NB0_473.out _) | exact HI0.out)); (case side2 => repeat (first | (with_reducible first | exact HB.out | apply below_alloc | apply pw_below_drewN | apply below_drew1 | refine below_set ?_ (Aa.ge HI0.out) | refine below_set ?_ GE472.out | refine below_set ?_ GE473.out) | exact HB.out)); rintro e w33 ⟨rfl, hi, hb, hk⟩; refine ⟨_, rfl, ?_⟩; have n0_ := Aside0.mk (Ad.blk hk (g' := gb472) (o := .cells #[.string (⟨#[]⟩ : ByteArray), .string (⟨#[]⟩ : ByteArray), .int .i64 0] 31 (0, 0)) Ycj_ NB472_0.out (by simp)); have n1_ := Aside0.mk (Ad.blk hk (g' := gb473) (o := .cells #[.string t481, .string t482, .int .i64 t483] 31 (0, 0)) Yeb_ NB473_0.out (by simp)); have n2_ := Aside0.mk (Ad.trans Ycg_ hk (.inl rfl)); have n3_ := Aside0.mk (hb); have n4_ := Aside0.mk (hi); clear BK472; clear BK473; clear HK; clear HB; clear HI0; have BK472 := n0_; have BK473 := n1_; have HK := n2_; have HB := n3_; have HI0 := n4_; clear n0_ n1_ n2_ n3_ n4_; (try clear hb); (try clear hb2); (try clear hk); (try clear hi)))
          go_roundg k1
          case measure => have := HK1.out; omega
          case rel => exact ⟨(wrap64 (x4_1 - 1)), (t486), (t487), (t481), (t482), (t483), Ybg_, H', ⟨by have := HK1.out; omega⟩, ⟨by (with_reducible repeat (first | refine blk_drewN ?_ _ | refine blk_drew ?_ | refine blk_alloc ?_ _)); exact BK472.out⟩, ⟨by (with_reducible repeat (first | refine blk_drewN ?_ _ | refine blk_drew ?_ | refine blk_alloc ?_ _)); exact BK473.out⟩, ⟨by repeat (first | (with_reducible first | exact HI0.out | apply Aa.alloc | apply Aa.drewN | apply Aa.drew | apply Aa.Au | apply Aa.Aw | refine Aa.far ?_ NB0_472.out _ | refine Aa.far ?_ NB0_473.out _) | exact HI0.out)⟩, ⟨by repeat (first | (with_reducible first | exact HK.out | apply Ad.Ce | apply Ah | apply Aj | apply Ai | refine Aq ?_ GW472.out _ | refine Aq ?_ GW473.out _) | exact HK.out)⟩, ⟨by repeat (first | (with_reducible first | exact HB.out | apply below_alloc | apply pw_below_drewN | apply below_drew1 | refine below_set ?_ (Aa.ge HI0.out) | refine below_set ?_ GE472.out | refine below_set ?_ GE473.out) | exact HB.out)⟩⟩
      · rw [if_neg c9] at H
        have c9b0 : decide (0 < x4_1) = false := decide_eq_false c9
        clear c9
        simp only [Option.some.injEq, Prod.mk.injEq] at H
        obtain ⟨rfl, rfl, rfl, rfl, rfl⟩ := H
        have hnb34 := NB473_472.out
        have hnc34 := NB472_473.out
        have hnb35 := NB473_0.out
        have hnc35 := NB0_473.out
        have hcz36_0 : wr.cell? ⟨gb473, 0, none⟩ = some (.string x474000_1) := (blk_cell BK473.out 0).trans rfl
        have hcz36_1 : wr.cell? ⟨gb473, 1, none⟩ = some (.string x474001_1) := (blk_cell BK473.out 1).trans rfl
        have hcz36_2 : wr.cell? ⟨gb473, 2, none⟩ = some (.int .i64 x474002_1) := (blk_cell BK473.out 2).trans rfl
        have hfz36_0 := Ac BK473.out 0
        have hfz36_1 := Ac BK473.out 1
        have hfz36_2 := Ac BK473.out 2
        have hnb37 := NB472_0.out
        have hnc37 := NB0_472.out
        have hcz38_0 : wr.cell? ⟨gb472, 0, none⟩ = some (.string (⟨#[]⟩ : ByteArray)) := (blk_cell BK472.out 0).trans rfl
        have hcz38_1 : wr.cell? ⟨gb472, 1, none⟩ = some (.string (⟨#[]⟩ : ByteArray)) := (blk_cell BK472.out 1).trans rfl
        have hcz38_2 : wr.cell? ⟨gb472, 2, none⟩ = some (.int .i64 0) := (blk_cell BK472.out 2).trans rfl
        have hfz38_0 := Ac BK472.out 0
        have hfz38_1 := Ac BK472.out 1
        have hfz38_2 := Ac BK472.out 2
        go_wp2
        refine bodyPost_ret (results_cell_row rfl _ _ gb472 31 #[.string x474000_1, .string x474001_1, .int .i64 x474002_1] (0, 0) _ rfl (by (with_reducible repeat (first | refine blk_drewN ?_ _ | refine blk_drew ?_ | refine blk_alloc ?_ _)); refine Ak (cs := #[.string x474000_1, .string x474001_1, .int .i64 0]) ?_ 2 _ rfl; (with_reducible repeat (first | refine blk_drewN ?_ _ | refine blk_drew ?_ | refine blk_alloc ?_ _)); refine Ak (cs := #[.string x474000_1, .string (⟨#[]⟩ : ByteArray), .int .i64 0]) ?_ 1 _ rfl; (with_reducible repeat (first | refine blk_drewN ?_ _ | refine blk_drew ?_ | refine blk_alloc ?_ _)); refine Ak (cs := #[.string (⟨#[]⟩ : ByteArray), .string (⟨#[]⟩ : ByteArray), .int .i64 0]) ?_ 0 _ rfl; (with_reducible repeat (first | refine blk_drewN ?_ _ | refine blk_drew ?_ | refine blk_alloc ?_ _)); exact BK472.out) Tryd.underlying31 rfl (by kernel_rfl)) rfl ?_
        exact ⟨by first | rfl | (simp [Af, Ag] <;> rfl) | (simp [*, Af, Ag] <;> rfl), by repeat (first | (with_reducible first | exact HI0.out | apply Aa.alloc | apply Aa.drewN | apply Aa.drew | apply Aa.Au | apply Aa.Aw | refine Aa.far ?_ NB0_472.out _ | refine Aa.far ?_ NB0_473.out _) | exact HI0.out), by repeat (first | (with_reducible first | exact HB.out | apply below_alloc | apply pw_below_drewN | apply below_drew1 | refine below_set ?_ (Aa.ge HI0.out) | refine below_set ?_ GE472.out | refine below_set ?_ GE473.out) | exact HB.out), by repeat (first | (with_reducible first | exact HK.out | apply Ad.Ce | apply Ah | apply Aj | apply Ai | refine Aq ?_ GW472.out _ | refine Aq ?_ GW473.out _) | exact HK.out)⟩
end Go.Proofs.YtkpieljmhgfofaaDoor.X

namespace Go.Proofs.YtkpieljmhgfofaaDoor.X
open Go.RowKit Go.Proofs.YtkpieljmhgfofaaDoorW.PrintWords Go.Proofs.YtkpieljmhgfofaaDoorW.PrintLast Go.Proofs.YtkpieljmhgfofaaDoorW.PrintMore
attribute [local go_sem] max2_int min2_int max_two min_two max_three min_three max_four min_four
open Go.Proofs.YtkpieljmhgfofaaDoorG
def D7.f (s0_0 : List Int) (s0_1 : Int) (s0_2 : Int) (a1 : ByteArray) (a2 : ByteArray) : Option (ByteArray × Int × Int) :=
  if a1.toList = ([] : List UInt8) then (if 1 ≤ (a2.size : Int) then some (a2.extract 0 1, s0_1, s0_2) else none)
  else (Am.f s0_0 s0_1 s0_2 (a1.size : Int)).bind fun p => (Am.f s0_0 p.2.1 p.2.2 (a2.size : Int)).bind fun q =>
    (Am.f s0_0 q.2.1 q.2.2 3).bind fun m => if (0 ≤ q.1 ∧ q.1 < (a2.size : Int)) ∧ (0 ≤ p.1 ∧ p.1 < (a1.size : Int)) ∧ a1.size ≤ 4611686018427387904 ∧ a2.size ≤ 4611686018427387904 then
      some (if m.1 = 0 then ((a1.extract 0 p.1.toNat ++ (a2.extract q.1.toNat a2.size).extract 0 1) ++ a1.extract p.1.toNat a1.size, m.2.1, m.2.2)
        else if m.1 = 1 then ((a1.extract 0 p.1.toNat ++ (a2.extract q.1.toNat a2.size).extract 0 1) ++ a1.extract (p.1 + 1).toNat a1.size, m.2.1, m.2.2)
        else (a1.extract 0 p.1.toNat ++ a1.extract (p.1 + 1).toNat a1.size, m.2.1, m.2.2)) else none
set_option maxHeartbeats 8000000 in
set_option maxRecDepth 100000 in
theorem D7.calls (g : Nat) (s0_0 : List Int) (s0_1 : Int) (s0_2 : Int) (a1 : ByteArray) (a2 : ByteArray) (r1 : ByteArray) (r2 : Int) (r3 : Int) (w0 w : World) (hI : Aa w0 w g s0_0 s0_1 s0_2) (hB : Below w0.heap.size w0 w) (h : D7.f s0_0 s0_1 s0_2 a1 a2 = some (r1, r2, r3)) :
    Calls Tryd.prog 61 #[.pointer (some ⟨g, 0, none⟩), .string a1, .string a2] w fun e w' => e = .returned (.string r1) ∧ Aa w0 w' g s0_0 r2 r3 ∧ Below w0.heap.size w0 w' ∧ Ad w w' g none := by
  have HI0 := Aside0.mk hI
  have HK := Aside0.mk (Ad.refl w g none)
  have HB := Aside0.mk hB
  clear hI hB
  unfold D7.f at h
  by_cases c4 : a1.toList = ([] : List UInt8)
  · rw [if_pos c4] at h
    have c4b0 : (a1.toList == ([] : List UInt8)) = true := beq_iff_eq.mpr c4
    clear c4
    by_cases c6 : 1 ≤ (a2.size : Int)
    · rw [if_pos c6] at h
      simp only [Option.some.injEq, Prod.mk.injEq] at h
      obtain ⟨rfl, rfl, rfl⟩ := h
      have c6b := eq_true c6
      have c6c : decide (1 ≤ (a2.size : Int)) = true := decide_eq_true c6
      have c6d : (1 ≤ a2.size) = True := eq_true (by omega)
      clear c6
      go_enter Tryd.func61, Tryd.ntmps61
      go_wp2
      go_ret
      exact ⟨by first | rfl | (simp [*]; done), by repeat (first | (with_reducible first | exact HI0.out | apply Aa.alloc | apply Aa.drewN | apply Aa.drew | apply Aa.Au | apply Aa.Aw) | exact HI0.out), by repeat (first | (with_reducible first | exact HB.out | apply below_alloc | apply pw_below_drewN | apply below_drew1 | refine below_set ?_ (Aa.ge HI0.out)) | exact HB.out), by repeat (first | (with_reducible first | exact HK.out | apply Ad.Ce | apply Ah | apply Aj | apply Ai) | exact HK.out)⟩
    · rw [if_neg c6] at h; cases h
  · rw [if_neg c4] at h
    have c4b0 : (a1.toList == ([] : List UInt8)) = false := beq_eq_false_iff_ne.mpr c4
    clear c4
    replace h := Option.bind_eq_some_iff.mp h
    obtain ⟨⟨p, p2, p3⟩, A1, h⟩ := h
    replace h := Option.bind_eq_some_iff.mp h
    obtain ⟨⟨q, q2, q3⟩, A2, h⟩ := h
    replace h := Option.bind_eq_some_iff.mp h
    obtain ⟨⟨m, m2, m3⟩, A3, h⟩ := h
    have AA1 := Aside0.mk A1
    have AA2 := Aside0.mk A2
    have AA3 := Aside0.mk A3
    clear A1 A2 A3
    dsimp only at h AA1 AA2 AA3
    by_cases c : (0 ≤ q ∧ q < (a2.size : Int)) ∧ (0 ≤ p ∧ p < (a1.size : Int)) ∧ a1.size ≤ 4611686018427387904 ∧ a2.size ≤ 4611686018427387904
    · rw [if_pos c] at h
      have CC := Aside0.mk c
      have hp0 : 0 ≤ p := c.2.1.1
      have hq0 : 0 ≤ q := c.1.1
      obtain ⟨pn, rfl⟩ := Int.eq_ofNat_of_zero_le hp0
      obtain ⟨qn, rfl⟩ := Int.eq_ofNat_of_zero_le hq0
      have x1 : ((qn : Int) ≤ (a2.size : Int)) = True := eq_true (by omega)
      have x1n : (qn ≤ a2.size) = True := eq_true (by omega)
      have x2n : (1 ≤ a2.size - qn) = True := eq_true (by omega)
      have x2i : ((1 : Int) ≤ ((a2.size - qn : Nat) : Int)) = True := eq_true (by omega)
      have x2j : (qn < a2.size) = True := eq_true (by omega)
      have x2k : (qn + 1 ≤ a2.size) = True := eq_true (by omega)
      have x3n : (pn ≤ a1.size) = True := eq_true (by omega)
      have x4n : (pn + 1 ≤ a1.size) = True := eq_true (by omega)
      have x5 : wrap64 ((pn : Int) + 1) = (pn : Int) + 1 := by unfold wrap64; omega
      have x6 : ((pn : Int) + 1).toNat = pn + 1 := by omega
      simp only [Option.some.injEq, Int.toNat_natCast, x6] at h
      have X5 := Aside0.mk x5
      clear c hp0 hq0 x5 x6
      have HH := Aside0.mk h
      clear h
      by_cases d0 : m = 0
      · subst d0
        have H2 := Aside0.mk (HH.out.symm.trans (if_pos rfl))
        clear HH
        simp only [Prod.mk.injEq] at H2
        obtain ⟨rfl, rfl, rfl⟩ := H2.out
        clear H2
        go_enter Tryd.func61, Tryd.ntmps61
        go_wp2_with (first | (go_at_call 55; (with_reducible refine (Am.calls g s0_0 s0_1 s0_2 (a1.size : Int) (pn : Int) p2 p3 w0 _ ?side1 ?side2 AA1.out).mono ?_); (case side1 => repeat (first | (with_reducible first | exact HI0.out | apply Aa.alloc | apply Aa.drewN | apply Aa.drew | apply Aa.Au | apply Aa.Aw) | exact HI0.out)); (case side2 => repeat (first | (with_reducible first | exact HB.out | apply below_alloc | apply pw_below_drewN | apply below_drew1 | refine below_set ?_ (Aa.ge HI0.out)) | exact HB.out)); rintro e w' ⟨rfl, hi, hb, hk⟩; have n0_ := Aside0.mk (Ad.trans Yf_ hk (.inl rfl)); have n1_ := Aside0.mk hb; have n2_ := Aside0.mk hi; clear HK HB HI0; have HK := n0_; have HB := n1_; have HI0 := n2_; clear n0_ n1_ n2_ hb hk hi) | (go_at_call 55; (with_reducible refine (Am.calls g s0_0 p2 p3 (a2.size : Int) (qn : Int) q2 q3 w0 _ ?side1 ?side2 AA2.out).mono ?_); (case side1 => repeat (first | (with_reducible first | exact HI0.out | apply Aa.alloc | apply Aa.drewN | apply Aa.drew | apply Aa.Au | apply Aa.Aw) | exact HI0.out)); (case side2 => repeat (first | (with_reducible first | exact HB.out | apply below_alloc | apply pw_below_drewN | apply below_drew1 | refine below_set ?_ (Aa.ge HI0.out)) | exact HB.out)); rintro e w' ⟨rfl, hi, hb, hk⟩; have n0_ := Aside0.mk (Ad.trans Yf_ hk (.inl rfl)); have n1_ := Aside0.mk hb; have n2_ := Aside0.mk hi; clear HK HB HI0; have HK := n0_; have HB := n1_; have HI0 := n2_; clear n0_ n1_ n2_ hb hk hi) | (go_at_call 55; (with_reducible refine (Am.calls g s0_0 q2 q3 3 0 _ _ w0 _ ?side1 ?side2 AA3.out).mono ?_); (case side1 => repeat (first | (with_reducible first | exact HI0.out | apply Aa.alloc | apply Aa.drewN | apply Aa.drew | apply Aa.Au | apply Aa.Aw) | exact HI0.out)); (case side2 => repeat (first | (with_reducible first | exact HB.out | apply below_alloc | apply pw_below_drewN | apply below_drew1 | refine below_set ?_ (Aa.ge HI0.out)) | exact HB.out)); rintro e w' ⟨rfl, hi, hb, hk⟩; have n0_ := Aside0.mk (Ad.trans Yf_ hk (.inl rfl)); have n1_ := Aside0.mk hb; have n2_ := Aside0.mk hi; clear HK HB HI0; have HK := n0_; have HB := n1_; have HI0 := n2_; clear n0_ n1_ n2_ hb hk hi))
        have hC := CC.out
        have z0 : (9223372036854775807 < pn + 1) = False := eq_false (by omega)
        have z1 : (9223372036854775807 < pn + 1 + (a1.size - pn)) = False := eq_false (by omega)
        clear hC
        repeat (go_quiet (fail); try go_wp2)
        go_ret
        exact ⟨by first | rfl | (simp [*]; done), by repeat (first | (with_reducible first | exact HI0.out | apply Aa.alloc | apply Aa.drewN | apply Aa.drew | apply Aa.Au | apply Aa.Aw) | exact HI0.out), by repeat (first | (with_reducible first | exact HB.out | apply below_alloc | apply pw_below_drewN | apply below_drew1 | refine below_set ?_ (Aa.ge HI0.out)) | exact HB.out), by repeat (first | (with_reducible first | exact HK.out | apply Ad.Ce | apply Ah | apply Aj | apply Ai) | exact HK.out)⟩
      · by_cases d1 : m = 1
        · subst d1
          have H2 := Aside0.mk (HH.out.symm.trans ((if_neg d0).trans (if_pos rfl)))
          clear HH d0
          simp only [Prod.mk.injEq] at H2
          obtain ⟨rfl, rfl, rfl⟩ := H2.out
          clear H2
          go_enter Tryd.func61, Tryd.ntmps61
          go_wp2_with (first | (go_at_call 55; (with_reducible refine (Am.calls g s0_0 s0_1 s0_2 (a1.size : Int) (pn : Int) p2 p3 w0 _ ?side1 ?side2 AA1.out).mono ?_); (case side1 => repeat (first | (with_reducible first | exact HI0.out | apply Aa.alloc | apply Aa.drewN | apply Aa.drew | apply Aa.Au | apply Aa.Aw) | exact HI0.out)); (case side2 => repeat (first | (with_reducible first | exact HB.out | apply below_alloc | apply pw_below_drewN | apply below_drew1 | refine below_set ?_ (Aa.ge HI0.out)) | exact HB.out)); rintro e w' ⟨rfl, hi, hb, hk⟩; have n0_ := Aside0.mk (Ad.trans Yf_ hk (.inl rfl)); have n1_ := Aside0.mk hb; have n2_ := Aside0.mk hi; clear HK HB HI0; have HK := n0_; have HB := n1_; have HI0 := n2_; clear n0_ n1_ n2_ hb hk hi) | (go_at_call 55; (with_reducible refine (Am.calls g s0_0 p2 p3 (a2.size : Int) (qn : Int) q2 q3 w0 _ ?side1 ?side2 AA2.out).mono ?_); (case side1 => repeat (first | (with_reducible first | exact HI0.out | apply Aa.alloc | apply Aa.drewN | apply Aa.drew | apply Aa.Au | apply Aa.Aw) | exact HI0.out)); (case side2 => repeat (first | (with_reducible first | exact HB.out | apply below_alloc | apply pw_below_drewN | apply below_drew1 | refine below_set ?_ (Aa.ge HI0.out)) | exact HB.out)); rintro e w' ⟨rfl, hi, hb, hk⟩; have n0_ := Aside0.mk (Ad.trans Yf_ hk (.inl rfl)); have n1_ := Aside0.mk hb; have n2_ := Aside0.mk hi; clear HK HB HI0; have HK := n0_; have HB := n1_; have HI0 := n2_; clear n0_ n1_ n2_ hb hk hi) | (go_at_call 55; (with_reducible refine (Am.calls g s0_0 q2 q3 3 1 _ _ w0 _ ?side1 ?side2 AA3.out).mono ?_); (case side1 => repeat (first | (with_reducible first | exact HI0.out | apply Aa.alloc | apply Aa.drewN | apply Aa.drew | apply Aa.Au | apply Aa.Aw) | exact HI0.out)); (case side2 => repeat (first | (with_reducible first | exact HB.out | apply below_alloc | apply pw_below_drewN | apply below_drew1 | refine below_set ?_ (Aa.ge HI0.out)) | exact HB.out)); rintro e w' ⟨rfl, hi, hb, hk⟩; have n0_ := Aside0.mk (Ad.trans Yf_ hk (.inl rfl)); have n1_ := Aside0.mk hb; have n2_ := Aside0.mk hi; clear HK HB HI0; have HK := n0_; have HB := n1_; have HI0 := n2_; clear n0_ n1_ n2_ hb hk hi))
          have hC := CC.out
          have x5 := X5.out
          have x5b : ((pn : Int) + 1 ≤ (a1.size : Int)) = True := eq_true (by omega)
          have x5c : (0 ≤ (pn : Int) + 1) = True := eq_true (by omega)
          have x6 : ((pn : Int) + 1).toNat = pn + 1 := by omega
          have z0 : (9223372036854775807 < pn + 1) = False := eq_false (by omega)
          have z1 : (9223372036854775807 < pn + 1 + (a1.size - (pn + 1))) = False := eq_false (by omega)
          have z2 : (9223372036854775807 < a1.size) = False := eq_false (by omega)
          clear hC
          repeat (go_quiet (fail); try go_wp2)
          go_ret
          exact ⟨by first | rfl | (simp [*]; done), by repeat (first | (with_reducible first | exact HI0.out | apply Aa.alloc | apply Aa.drewN | apply Aa.drew | apply Aa.Au | apply Aa.Aw) | exact HI0.out), by repeat (first | (with_reducible first | exact HB.out | apply below_alloc | apply pw_below_drewN | apply below_drew1 | refine below_set ?_ (Aa.ge HI0.out)) | exact HB.out), by repeat (first | (with_reducible first | exact HK.out | apply Ad.Ce | apply Ah | apply Aj | apply Ai) | exact HK.out)⟩
        · have H2 := Aside0.mk (HH.out.symm.trans ((if_neg d0).trans (if_neg d1)))
          clear HH
          simp only [Prod.mk.injEq] at H2
          obtain ⟨rfl, rfl, rfl⟩ := H2.out
          clear H2
          have d0b : (m == 0) = false := beq_eq_false_iff_ne.mpr d0
          have d1b : (m == 1) = false := beq_eq_false_iff_ne.mpr d1
          clear d0 d1
          go_enter Tryd.func61, Tryd.ntmps61
          go_wp2_with (first | (go_at_call 55; (with_reducible refine (Am.calls g s0_0 s0_1 s0_2 (a1.size : Int) (pn : Int) p2 p3 w0 _ ?side1 ?side2 AA1.out).mono ?_); (case side1 => repeat (first | (with_reducible first | exact HI0.out | apply Aa.alloc | apply Aa.drewN | apply Aa.drew | apply Aa.Au | apply Aa.Aw) | exact HI0.out)); (case side2 => repeat (first | (with_reducible first | exact HB.out | apply below_alloc | apply pw_below_drewN | apply below_drew1 | refine below_set ?_ (Aa.ge HI0.out)) | exact HB.out)); rintro e w' ⟨rfl, hi, hb, hk⟩; have n0_ := Aside0.mk (Ad.trans Yf_ hk (.inl rfl)); have n1_ := Aside0.mk hb; have n2_ := Aside0.mk hi; clear HK HB HI0; have HK := n0_; have HB := n1_; have HI0 := n2_; clear n0_ n1_ n2_ hb hk hi) | (go_at_call 55; (with_reducible refine (Am.calls g s0_0 p2 p3 (a2.size : Int) (qn : Int) q2 q3 w0 _ ?side1 ?side2 AA2.out).mono ?_); (case side1 => repeat (first | (with_reducible first | exact HI0.out | apply Aa.alloc | apply Aa.drewN | apply Aa.drew | apply Aa.Au | apply Aa.Aw) | exact HI0.out)); (case side2 => repeat (first | (with_reducible first | exact HB.out | apply below_alloc | apply pw_below_drewN | apply below_drew1 | refine below_set ?_ (Aa.ge HI0.out)) | exact HB.out)); rintro e w' ⟨rfl, hi, hb, hk⟩; have n0_ := Aside0.mk (Ad.trans Yf_ hk (.inl rfl)); have n1_ := Aside0.mk hb; have n2_ := Aside0.mk hi; clear HK HB HI0; have HK := n0_; have HB := n1_; have HI0 := n2_; clear n0_ n1_ n2_ hb hk hi) | (go_at_call 55; (with_reducible refine (Am.calls g s0_0 q2 q3 3 m _ _ w0 _ ?side1 ?side2 AA3.out).mono ?_); (case side1 => repeat (first | (with_reducible first | exact HI0.out | apply Aa.alloc | apply Aa.drewN | apply Aa.drew | apply Aa.Au | apply Aa.Aw) | exact HI0.out)); (case side2 => repeat (first | (with_reducible first | exact HB.out | apply below_alloc | apply pw_below_drewN | apply below_drew1 | refine below_set ?_ (Aa.ge HI0.out)) | exact HB.out)); rintro e w' ⟨rfl, hi, hb, hk⟩; have n0_ := Aside0.mk (Ad.trans Yf_ hk (.inl rfl)); have n1_ := Aside0.mk hb; have n2_ := Aside0.mk hi; clear HK HB HI0; have HK := n0_; have HB := n1_; have HI0 := n2_; clear n0_ n1_ n2_ hb hk hi))
          have hC := CC.out
          have x5 := X5.out
          have x5b : ((pn : Int) + 1 ≤ (a1.size : Int)) = True := eq_true (by omega)
          have x5c : (0 ≤ (pn : Int) + 1) = True := eq_true (by omega)
          have x6 : ((pn : Int) + 1).toNat = pn + 1 := by omega
          have z0 : (9223372036854775807 < pn + (a1.size - (pn + 1))) = False := eq_false (by omega)
          clear hC
          repeat (go_quiet (fail); try go_wp2)
          go_ret
          exact ⟨by first | rfl | (simp [*]; done), by repeat (first | (with_reducible first | exact HI0.out | apply Aa.alloc | apply Aa.drewN | apply Aa.drew | apply Aa.Au | apply Aa.Aw) | exact HI0.out), by repeat (first | (with_reducible first | exact HB.out | apply below_alloc | apply pw_below_drewN | apply below_drew1 | refine below_set ?_ (Aa.ge HI0.out)) | exact HB.out), by repeat (first | (with_reducible first | exact HK.out | apply Ad.Ce | apply Ah | apply Aj | apply Ai) | exact HK.out)⟩
    · rw [if_neg c] at h; cases h
end Go.Proofs.YtkpieljmhgfofaaDoor.X

namespace Go.Proofs.YtkpieljmhgfofaaDoor.X
open Go.RowKit Go.Proofs.YtkpieljmhgfofaaDoorW.PrintWords Go.Proofs.YtkpieljmhgfofaaDoorW.PrintLast Go.Proofs.YtkpieljmhgfofaaDoorW.PrintMore
attribute [local go_sem] max2_int min2_int max_two min_two max_three min_three max_four min_four
open Go.Proofs.YtkpieljmhgfofaaDoorG
def Eh.f (k : Nat) (s0_0 : List Int) (s0_1 : Int) (s0_2 : Int) : Option (ByteArray × ByteArray × Int × Int × Int) := (Ar.f k s0_0 s0_1 s0_2).bind fun bt493 => ((Am.f s0_0 bt493.2.2.2.1 bt493.2.2.2.2 24).bind fun bt499 => (if bt499.1 = 0 then (some (bt493.1, bt493.2.1, wrap64 (bt493.2.2.1 + 1), bt499.2.1, bt499.2.2)) else (if bt499.1 = 1 then ((D7.f s0_0 bt499.2.1 bt499.2.2 bt493.2.1 (⟨#[35, 64, 10, 48, 49]⟩ : ByteArray)).bind fun bt502 => (some (bt493.1, bt502.1, bt493.2.2.1, bt502.2.1, bt502.2.2))) else (if bt499.1 = 2 then (if bt493.1.size + bt493.2.1.size ≤ 9223372036854775807 then (some (bt493.1 ++ bt493.2.1, bt493.2.1, bt493.2.2.1, bt499.2.1, bt499.2.2)) else (none)) else (some (bt493.1, bt493.2.1, bt493.2.2.1, bt499.2.1, bt499.2.2))))))
theorem Eh.mono : ∀ a0 a1 a2 k, LeO (Eh.f k a0 a1 a2) (Eh.f (k + 1) a0 a1 a2) := by
  intro a0 a1 a2 k
  unfold Eh.f
  repeat' first
      | (with_reducible exact Ar.mono _ _ _ _)
      | (with_reducible exact LeO.refl _)
      | (with_reducible exact LeO.none _)
      | (with_reducible refine LeO.ite ?_ ?_)
      | (with_reducible refine LeO.bind ?_ (fun _ => ?_))
      | exact Ar.mono _ _ _ _
      | exact LeO.none _
      | refine LeO.ite ?_ ?_
      | refine LeO.bind ?_ (fun _ => ?_)
set_option maxHeartbeats 8000000 in
set_option maxRecDepth 100000 in
theorem Eh.calls (k : Nat) (g : Nat) (s0_0 : List Int) (s0_1 : Int) (s0_2 : Int) (r1 : ByteArray) (r2 : ByteArray) (r3 : Int) (r4 : Int) (r5 : Int) (w0 w : World) (hI : Aa w0 w g s0_0 s0_1 s0_2) (hB : Below w0.heap.size w0 w) (h : Eh.f k s0_0 s0_1 s0_2 = some (r1, r2, r3, r4, r5)) :
    Calls Tryd.prog 53 #[.pointer (some ⟨g, 0, none⟩)] w fun e w' => e = .returned (.agg #[.string r1, .string r2, .int .i64 r3]) ∧ Aa w0 w' g s0_0 r4 r5 ∧ Below w0.heap.size w0 w' ∧ Ad w w' g none := by
  have hu31 := Tryd.underlying31
  have HI0 := Aside0.mk hI
  have HK := Aside0.mk (Ad.refl w g none)
  have HL := Aside0.mk hB.size
  clear hI
  have HW0 := Aside0.mk hB.size
  have HB := Aside0.mk hB
  clear hB
  have H : ((Ar.f k s0_0 s0_1 s0_2).bind fun bt493 => ((Am.f s0_0 bt493.2.2.2.1 bt493.2.2.2.2 24).bind fun bt499 => (if bt499.1 = 0 then (some (bt493.1, bt493.2.1, wrap64 (bt493.2.2.1 + 1), bt499.2.1, bt499.2.2)) else (if bt499.1 = 1 then ((D7.f s0_0 bt499.2.1 bt499.2.2 bt493.2.1 (⟨#[35, 64, 10, 48, 49]⟩ : ByteArray)).bind fun bt502 => (some (bt493.1, bt502.1, bt493.2.2.1, bt502.2.1, bt502.2.2))) else (if bt499.1 = 2 then (if bt493.1.size + bt493.2.1.size ≤ 9223372036854775807 then (some (bt493.1 ++ bt493.2.1, bt493.2.1, bt493.2.2.1, bt499.2.1, bt499.2.2)) else (none)) else (some (bt493.1, bt493.2.1, bt493.2.2.1, bt499.2.1, bt499.2.2))))))) = some (r1, r2, r3, r4, r5) := h
  clear h
  replace H := Option.bind_eq_some_iff.mp H
  obtain ⟨⟨t493, t494, t495, t496, t497⟩, A20, H⟩ := H
  replace H : ((Am.f s0_0 t496 t497 24).bind fun bt499 => (if bt499.1 = 0 then (some (t493, t494, wrap64 (t495 + 1), bt499.2.1, bt499.2.2)) else (if bt499.1 = 1 then ((D7.f s0_0 bt499.2.1 bt499.2.2 t494 (⟨#[35, 64, 10, 48, 49]⟩ : ByteArray)).bind fun bt502 => (some (t493, bt502.1, t495, bt502.2.1, bt502.2.2))) else (if bt499.1 = 2 then (if t493.size + t494.size ≤ 9223372036854775807 then (some (t493 ++ t494, t494, t495, bt499.2.1, bt499.2.2)) else (none)) else (some (t493, t494, t495, bt499.2.1, bt499.2.2)))))) = some (r1, r2, r3, r4, r5) := H
  have A2 := Aside0.mk A20
  clear A20
  replace H := Option.bind_eq_some_iff.mp H
  obtain ⟨⟨t499, t500, t501⟩, A30, H⟩ := H
  replace H : (if t499 = 0 then (some (t493, t494, wrap64 (t495 + 1), t500, t501)) else (if t499 = 1 then ((D7.f s0_0 t500 t501 t494 (⟨#[35, 64, 10, 48, 49]⟩ : ByteArray)).bind fun bt502 => (some (t493, bt502.1, t495, bt502.2.1, bt502.2.2))) else (if t499 = 2 then (if t493.size + t494.size ≤ 9223372036854775807 then (some (t493 ++ t494, t494, t495, t500, t501)) else (none)) else (some (t493, t494, t495, t500, t501))))) = some (r1, r2, r3, r4, r5) := H
  have A3 := Aside0.mk A30
  clear A30
  by_cases c4 : t499 = 0
  · rw [if_pos c4] at H
    have c4b0 : (t499 == 0) = true := beq_iff_eq.mpr c4
    have c4b1 : (t499 != 0) = false := bne_eq_false_iff_eq.mpr c4
    clear c4
    simp only [Option.some.injEq, Prod.mk.injEq] at H
    obtain ⟨rfl, rfl, rfl, rfl, rfl⟩ := H
    go_enter Tryd.func53, Tryd.ntmps53
    go_wp2_with (first | ((with_reducible refine gate_dst (N := 2) rfl ?_); refine box_event ?hg (N := 2) ?hd (cs := #[.string (⟨#[]⟩ : ByteArray), .string (⟨#[]⟩ : ByteArray), .int .i64 0]) (t := 31) ?hr ?_; (case hd => rfl); (case hg => rfl); (case hr => first | (go_simp; done) | (go_simp; rfl)); intro gb492 hg w5 hbox hb; have n0_ := Aside0.mk (Aa.below Yda_ hb); have n1_ := Aside0.mk (Ad.trans Yf_ (Ad.of_below hb g none) (.inl rfl)); have n2_ := Aside0.mk (below_step Ycf_ hb); have n3_ := Aside0.mk (hbox); have n4_ := Aside0.mk ((by rw [hg]; exact (Dp (w := w) (g := g) (row := none) Yf_) : w.heap.size ≤ gb492)); have n5_ := Aside0.mk ((Nat.le_trans HW0.out (by rw [hg]; exact (Dp (w := w) (g := g) (row := none) Yf_) : w.heap.size ≤ gb492) : w0.heap.size ≤ gb492)); have n6_ := Aside0.mk ((by rw [hg]; exact Nat.ne_of_lt (Aa.lt (show Aa w0 _ g s0_0 s0_1 s0_2 from by repeat (first | (with_reducible first | exact HI0.out | apply Aa.alloc | apply Aa.drewN | apply Aa.drew | apply Aa.Au | apply Aa.Aw) | exact HI0.out))) : g ≠ gb492)); have n7_ := Aside0.mk ((by rw [hg]; exact Nat.ne_of_gt (Aa.lt (show Aa w0 _ g s0_0 s0_1 s0_2 from by repeat (first | (with_reducible first | exact HI0.out | apply Aa.alloc | apply Aa.drewN | apply Aa.drew | apply Aa.Au | apply Aa.Aw) | exact HI0.out))) : gb492 ≠ g)); clear HI0; clear HK; clear HB; have HI0 := n0_; have HK := n1_; have HB := n2_; have BK492 := n3_; have GW492 := n4_; have GE492 := n5_; have NB0_492 := n6_; have NB492_0 := n7_; clear n0_ n1_ n2_ n3_ n4_ n5_ n6_ n7_; clear hb hbox hg) | ((with_reducible refine gate_callee (f := 60) rfl ?_); refine goesL_ (some 5) rfl rfl Tryd.func60 (by kernel_rfl) rfl #[.pointer (some ⟨g, 0, none⟩)] rfl Yc_ ?_; (with_reducible refine (Ar.calls k g s0_0 s0_1 s0_2 t493 t494 t495 t496 t497 w0 _ ?side1 ?side2 A2.out).mono ?_); (case side1 => repeat (first | (with_reducible first | exact HI0.out | apply Aa.alloc | apply Aa.drewN | apply Aa.drew | apply Aa.Au | apply Aa.Aw | refine Aa.far ?_ NB0_492.out _) | exact HI0.out)); (case side2 => repeat (first | (with_reducible first | exact HB.out | apply below_alloc | apply pw_below_drewN | apply below_drew1 | refine below_set ?_ (Aa.ge HI0.out) | refine below_set ?_ GE492.out) | exact HB.out)); rintro e w6 ⟨rfl, hi, hb, hk⟩; refine ⟨_, rfl, ?_⟩; have n0_ := Aside0.mk (Ad.blk hk (g' := gb492) (o := .cells #[.string (⟨#[]⟩ : ByteArray), .string (⟨#[]⟩ : ByteArray), .int .i64 0] 31 (0, 0)) Ybi_ NB492_0.out (by simp)); have n1_ := Aside0.mk (Ad.trans Ybd_ hk (.inl rfl)); have n2_ := Aside0.mk (hb); have n3_ := Aside0.mk (hi); clear BK492; clear HK; clear HB; clear HI0; have BK492 := n0_; have HK := n1_; have HB := n2_; have HI0 := n3_; clear n0_ n1_ n2_ n3_; (try clear hb); (try clear hb2); (try clear hk); (try clear hi)) | ((with_reducible refine gate_dst (N := 3) rfl ?_); refine box_event ?hg (N := 3) ?hd (cs := #[.string (⟨#[]⟩ : ByteArray), .string (⟨#[]⟩ : ByteArray), .int .i64 0]) (t := 31) ?hr ?_; (case hd => rfl); (case hg => rfl); (case hr => first | (go_simp; done) | (go_simp; rfl)); intro gb498 hg w7 hbox hb; have n0_ := Aside0.mk (Aa.below Yeg_ hb); have n1_ := Aside0.mk (blk_below (g := gb492) (o := .cells #[.string (⟨#[]⟩ : ByteArray), .string (⟨#[]⟩ : ByteArray), .int .i64 0] 31 (0, 0)) Ybi_ hb); have n2_ := Aside0.mk (Ad.trans Ybd_ (Ad.of_below hb g none) (.inl rfl)); have n3_ := Aside0.mk (below_step Yec_ hb); have n4_ := Aside0.mk (hbox); have n5_ := Aside0.mk ((by rw [hg]; exact (Dp (w := w) (g := g) (row := none) Ybd_) : w.heap.size ≤ gb498)); have n6_ := Aside0.mk ((Nat.le_trans HW0.out (by rw [hg]; exact (Dp (w := w) (g := g) (row := none) Ybd_) : w.heap.size ≤ gb498) : w0.heap.size ≤ gb498)); have n7_ := Aside0.mk ((by rw [hg]; exact Nat.ne_of_lt (blk_lt (g := gb492) (o := .cells #[.string (⟨#[]⟩ : ByteArray), .string (⟨#[]⟩ : ByteArray), .int .i64 0] 31 (0, 0)) Ybi_) : gb492 ≠ gb498)); have n8_ := Aside0.mk ((by rw [hg]; exact Nat.ne_of_gt (blk_lt (g := gb492) (o := .cells #[.string (⟨#[]⟩ : ByteArray), .string (⟨#[]⟩ : ByteArray), .int .i64 0] 31 (0, 0)) Ybi_) : gb498 ≠ gb492)); have n9_ := Aside0.mk ((by rw [hg]; exact Nat.ne_of_lt (Aa.lt (show Aa w0 _ g s0_0 t496 t497 from by repeat (first | (with_reducible first | exact HI0.out | apply Aa.alloc | apply Aa.drewN | apply Aa.drew | apply Aa.Au | apply Aa.Aw | refine Aa.far ?_ NB0_492.out _) | exact HI0.out))) : g ≠ gb498)); have n10_ := Aside0.mk ((by rw [hg]; exact Nat.ne_of_gt (Aa.lt (show Aa w0 _ g s0_0 t496 t497 from by repeat (first | (with_reducible first | exact HI0.out | apply Aa.alloc | apply Aa.drewN | apply Aa.drew | apply Aa.Au | apply Aa.Aw | refine Aa.far ?_ NB0_492.out _) | exact HI0.out))) : gb498 ≠ g)); clear HI0; clear BK492; clear HK; clear HB; have HI0 := n0_; have BK492 := n1_; have HK := n2_; have HB := n3_; have BK498 := n4_; have GW498 := n5_; have GE498 := n6_; have NB492_498 := n7_; have NB498_492 := n8_; have NB0_498 := n9_; have NB498_0 := n10_; clear n0_ n1_ n2_ n3_ n4_ n5_ n6_ n7_ n8_ n9_ n10_; clear hb hbox hg; have hnb8 := NB498_492.out; have hnc8 := NB492_498.out; have hnb9 := NB498_0.out; have hnc9 := NB0_498.out; have hcz10_0 : w7.cell? ⟨gb498, 0, none⟩ = some (.string (⟨#[]⟩ : ByteArray)) := (blk_cell BK498.out 0).trans rfl; have hcz10_1 : w7.cell? ⟨gb498, 1, none⟩ = some (.string (⟨#[]⟩ : ByteArray)) := (blk_cell BK498.out 1).trans rfl; have hcz10_2 : w7.cell? ⟨gb498, 2, none⟩ = some (.int .i64 0) := (blk_cell BK498.out 2).trans rfl; have hfz10_0 := Ac BK498.out 0; have hfz10_1 := Ac BK498.out 1; have hfz10_2 := Ac BK498.out 2) | ((with_reducible refine gate_callee (f := 55) rfl ?_); refine goesL_ (some 7) rfl rfl Tryd.func55 (by kernel_rfl) rfl #[.pointer (some ⟨g, 0, none⟩), .int .i64 24] rfl Yc_ ?_; (with_reducible refine (Am.calls g s0_0 t496 t497 24 t499 t500 t501 w0 _ ?side1 ?side2 A3.out).mono ?_); (case side1 => repeat (first | (with_reducible first | exact HI0.out | apply Aa.alloc | apply Aa.drewN | apply Aa.drew | apply Aa.Au | apply Aa.Aw | refine Aa.far ?_ NB0_492.out _ | refine Aa.far ?_ NB0_498.out _) | exact HI0.out)); (case side2 => repeat (first | (with_reducible first | exact HB.out | apply below_alloc | apply pw_below_drewN | apply below_drew1 | refine below_set ?_ (Aa.ge HI0.out) | refine below_set ?_ GE492.out | refine below_set ?_ GE498.out) | exact HB.out)); rintro e w11 ⟨rfl, hi, hb, hk⟩; refine ⟨_, rfl, ?_⟩; have n0_ := Aside0.mk (Ad.blk hk (g' := gb492) (o := .cells #[.string (⟨#[]⟩ : ByteArray), .string (⟨#[]⟩ : ByteArray), .int .i64 0] 31 (0, 0)) Ycb_ NB492_0.out (by simp)); have n1_ := Aside0.mk (Ad.blk hk (g' := gb498) (o := .cells #[.string t493, .string t494, .int .i64 t495] 31 (0, 0)) Ybe_ NB498_0.out (by simp)); have n2_ := Aside0.mk (Ad.trans Yea_ hk (.inl rfl)); have n3_ := Aside0.mk (hb); have n4_ := Aside0.mk (hi); clear BK492; clear BK498; clear HK; clear HB; clear HI0; have BK492 := n0_; have BK498 := n1_; have HK := n2_; have HB := n3_; have HI0 := n4_; clear n0_ n1_ n2_ n3_ n4_; (try clear hb); (try clear hb2); (try clear hk); (try clear hi); have hcz12_0 : w11.cell? ⟨gb498, 0, none⟩ = some (.string t493) := (blk_cell BK498.out 0).trans rfl; have hcz12_1 : w11.cell? ⟨gb498, 1, none⟩ = some (.string t494) := (blk_cell BK498.out 1).trans rfl; have hcz12_2 : w11.cell? ⟨gb498, 2, none⟩ = some (.int .i64 t495) := (blk_cell BK498.out 2).trans rfl; have hfz12_0 := Ac BK498.out 0; have hfz12_1 := Ac BK498.out 1; have hfz12_2 := Ac BK498.out 2; have hnb13 := NB492_0.out; have hnc13 := NB0_492.out; have hcz14_0 : w11.cell? ⟨gb492, 0, none⟩ = some (.string (⟨#[]⟩ : ByteArray)) := (blk_cell BK492.out 0).trans rfl; have hcz14_1 : w11.cell? ⟨gb492, 1, none⟩ = some (.string (⟨#[]⟩ : ByteArray)) := (blk_cell BK492.out 1).trans rfl; have hcz14_2 : w11.cell? ⟨gb492, 2, none⟩ = some (.int .i64 0) := (blk_cell BK492.out 2).trans rfl; have hfz14_0 := Ac BK492.out 0; have hfz14_1 := Ac BK492.out 1; have hfz14_2 := Ac BK492.out 2))
    refine bodyPost_ret (results_cell_row rfl _ _ gb492 31 #[.string t493, .string t494, .int .i64 (wrap64 (t495 + 1))] (0, 0) _ rfl (by (with_reducible repeat (first | refine blk_drewN ?_ _ | refine blk_drew ?_ | refine blk_alloc ?_ _)); refine Ak (cs := #[.string t493, .string t494, .int .i64 0]) ?_ 2 _ rfl; (with_reducible repeat (first | refine blk_drewN ?_ _ | refine blk_drew ?_ | refine blk_alloc ?_ _)); refine Ak (cs := #[.string t493, .string (⟨#[]⟩ : ByteArray), .int .i64 0]) ?_ 1 _ rfl; (with_reducible repeat (first | refine blk_drewN ?_ _ | refine blk_drew ?_ | refine blk_alloc ?_ _)); refine Ak (cs := #[.string (⟨#[]⟩ : ByteArray), .string (⟨#[]⟩ : ByteArray), .int .i64 0]) ?_ 0 _ rfl; (with_reducible repeat (first | refine blk_drewN ?_ _ | refine blk_drew ?_ | refine blk_alloc ?_ _)); refine blk_far ?_ NB492_498.out _; (with_reducible repeat (first | refine blk_drewN ?_ _ | refine blk_drew ?_ | refine blk_alloc ?_ _)); exact BK492.out) Tryd.underlying31 rfl (by kernel_rfl)) rfl ?_
    exact ⟨by first | rfl | (simp [Af, Ag] <;> rfl) | (simp [*, Af, Ag] <;> rfl), by repeat (first | (with_reducible first | exact HI0.out | apply Aa.alloc | apply Aa.drewN | apply Aa.drew | apply Aa.Au | apply Aa.Aw | refine Aa.far ?_ NB0_492.out _ | refine Aa.far ?_ NB0_498.out _) | exact HI0.out), by repeat (first | (with_reducible first | exact HB.out | apply below_alloc | apply pw_below_drewN | apply below_drew1 | refine below_set ?_ (Aa.ge HI0.out) | refine below_set ?_ GE492.out | refine below_set ?_ GE498.out) | exact HB.out), by repeat (first | (with_reducible first | exact HK.out | apply Ad.Ce | apply Ah | apply Aj | apply Ai | refine Aq ?_ GW492.out _ | refine Aq ?_ GW498.out _) | exact HK.out)⟩
  · rw [if_neg c4] at H
    have c4b0 : (t499 == 0) = false := beq_eq_false_iff_ne.mpr c4
    have c4b1 : (t499 != 0) = true := bne_iff_ne.mpr c4
    by_cases c15 : t499 = 1
    · rw [if_pos c15] at H
      have c15b0 : (t499 == 1) = true := beq_iff_eq.mpr c15
      have c15b1 : (t499 != 1) = false := bne_eq_false_iff_eq.mpr c15
      clear c15
      replace H := Option.bind_eq_some_iff.mp H
      obtain ⟨⟨t502, t503, t504⟩, A160, H⟩ := H
      replace H : (some (t493, t502, t495, t503, t504)) = some (r1, r2, r3, r4, r5) := H
      have A16 := Aside0.mk A160
      clear A160
      simp only [Option.some.injEq, Prod.mk.injEq] at H
      obtain ⟨rfl, rfl, rfl, rfl, rfl⟩ := H
      go_enter Tryd.func53, Tryd.ntmps53
      go_wp2_with (first | ((with_reducible refine gate_dst (N := 2) rfl ?_); refine box_event ?hg (N := 2) ?hd (cs := #[.string (⟨#[]⟩ : ByteArray), .string (⟨#[]⟩ : ByteArray), .int .i64 0]) (t := 31) ?hr ?_; (case hd => rfl); (case hg => rfl); (case hr => first | (go_simp; done) | (go_simp; rfl)); intro gb492 hg w17 hbox hb; have n0_ := Aside0.mk (Aa.below Yda_ hb); have n1_ := Aside0.mk (Ad.trans Yf_ (Ad.of_below hb g none) (.inl rfl)); have n2_ := Aside0.mk (below_step Ycf_ hb); have n3_ := Aside0.mk (hbox); have n4_ := Aside0.mk ((by rw [hg]; exact (Dp (w := w) (g := g) (row := none) Yf_) : w.heap.size ≤ gb492)); have n5_ := Aside0.mk ((Nat.le_trans HW0.out (by rw [hg]; exact (Dp (w := w) (g := g) (row := none) Yf_) : w.heap.size ≤ gb492) : w0.heap.size ≤ gb492)); have n6_ := Aside0.mk ((by rw [hg]; exact Nat.ne_of_lt (Aa.lt (show Aa w0 _ g s0_0 s0_1 s0_2 from by repeat (first | (with_reducible first | exact HI0.out | apply Aa.alloc | apply Aa.drewN | apply Aa.drew | apply Aa.Au | apply Aa.Aw) | exact HI0.out))) : g ≠ gb492)); have n7_ := Aside0.mk ((by rw [hg]; exact Nat.ne_of_gt (Aa.lt (show Aa w0 _ g s0_0 s0_1 s0_2 from by repeat (first | (with_reducible first | exact HI0.out | apply Aa.alloc | apply Aa.drewN | apply Aa.drew | apply Aa.Au | apply Aa.Aw) | exact HI0.out))) : gb492 ≠ g)); clear HI0; clear HK; clear HB; have HI0 := n0_; have HK := n1_; have HB := n2_; have BK492 := n3_; have GW492 := n4_; have GE492 := n5_; have NB0_492 := n6_; have NB492_0 := n7_; clear n0_ n1_ n2_ n3_ n4_ n5_ n6_ n7_; clear hb hbox hg) | ((with_reducible refine gate_callee (f := 60) rfl ?_); refine goesL_ (some 5) rfl rfl Tryd.func60 (by kernel_rfl) rfl #[.pointer (some ⟨g, 0, none⟩)] rfl Yc_ ?_; (with_reducible refine (Ar.calls k g s0_0 s0_1 s0_2 t493 t494 t495 t496 t497 w0 _ ?side1 ?side2 A2.out).mono ?_); (case side1 => repeat (first | (with_reducible first | exact HI0.out | apply Aa.alloc | apply Aa.drewN | apply Aa.drew | apply Aa.Au | apply Aa.Aw | refine Aa.far ?_ NB0_492.out _) | exact HI0.out)); (case side2 => repeat (first | (with_reducible first | exact HB.out | apply below_alloc | apply pw_below_drewN | apply below_drew1 | refine below_set ?_ (Aa.ge HI0.out) | refine below_set ?_ GE492.out) | exact HB.out)); rintro e w18 ⟨rfl, hi, hb, hk⟩; refine ⟨_, rfl, ?_⟩; have n0_ := Aside0.mk (Ad.blk hk (g' := gb492) (o := .cells #[.string (⟨#[]⟩ : ByteArray), .string (⟨#[]⟩ : ByteArray), .int .i64 0] 31 (0, 0)) Ybi_ NB492_0.out (by simp)); have n1_ := Aside0.mk (Ad.trans Ybd_ hk (.inl rfl)); have n2_ := Aside0.mk (hb); have n3_ := Aside0.mk (hi); clear BK492; clear HK; clear HB; clear HI0; have BK492 := n0_; have HK := n1_; have HB := n2_; have HI0 := n3_; clear n0_ n1_ n2_ n3_; (try clear hb); (try clear hb2); (try clear hk); (try clear hi)) | ((with_reducible refine gate_dst (N := 3) rfl ?_); refine box_event ?hg (N := 3) ?hd (cs := #[.string (⟨#[]⟩ : ByteArray), .string (⟨#[]⟩ : ByteArray), .int .i64 0]) (t := 31) ?hr ?_; (case hd => rfl); (case hg => rfl); (case hr => first | (go_simp; done) | (go_simp; rfl)); intro gb498 hg w19 hbox hb; have n0_ := Aside0.mk (Aa.below Yeg_ hb); have n1_ := Aside0.mk (blk_below (g := gb492) (o := .cells #[.string (⟨#[]⟩ : ByteArray), .string (⟨#[]⟩ : ByteArray), .int .i64 0] 31 (0, 0)) Ybi_ hb); have n2_ := Aside0.mk (Ad.trans Ybd_ (Ad.of_below hb g none) (.inl rfl)); have n3_ := Aside0.mk (below_step Yec_ hb); have n4_ := Aside0.mk (hbox); have n5_ := Aside0.mk ((by rw [hg]; exact (Dp (w := w) (g := g) (row := none) Ybd_) : w.heap.size ≤ gb498)); have n6_ := Aside0.mk ((Nat.le_trans HW0.out (by rw [hg]; exact (Dp (w := w) (g := g) (row := none) Ybd_) : w.heap.size ≤ gb498) : w0.heap.size ≤ gb498)); have n7_ := Aside0.mk ((by rw [hg]; exact Nat.ne_of_lt (blk_lt (g := gb492) (o := .cells #[.string (⟨#[]⟩ : ByteArray), .string (⟨#[]⟩ : ByteArray), .int .i64 0] 31 (0, 0)) Ybi_) : gb492 ≠ gb498)); have n8_ := Aside0.mk ((by rw [hg]; exact Nat.ne_of_gt (blk_lt (g := gb492) (o := .cells #[.string (⟨#[]⟩ : ByteArray), .string (⟨#[]⟩ : ByteArray), .int .i64 0] 31 (0, 0)) Ybi_) : gb498 ≠ gb492)); have n9_ := Aside0.mk ((by rw [hg]; exact Nat.ne_of_lt (Aa.lt (show Aa w0 _ g s0_0 t496 t497 from by repeat (first | (with_reducible first | exact HI0.out | apply Aa.alloc | apply Aa.drewN | apply Aa.drew | apply Aa.Au | apply Aa.Aw | refine Aa.far ?_ NB0_492.out _) | exact HI0.out))) : g ≠ gb498)); have n10_ := Aside0.mk ((by rw [hg]; exact Nat.ne_of_gt (Aa.lt (show Aa w0 _ g s0_0 t496 t497 from by repeat (first | (with_reducible first | exact HI0.out | apply Aa.alloc | apply Aa.drewN | apply Aa.drew | apply Aa.Au | apply Aa.Aw | refine Aa.far ?_ NB0_492.out _) | exact HI0.out))) : gb498 ≠ g)); clear HI0; clear BK492; clear HK; clear HB; have HI0 := n0_; have BK492 := n1_; have HK := n2_; have HB := n3_; have BK498 := n4_; have GW498 := n5_; have GE498 := n6_; have NB492_498 := n7_; have NB498_492 := n8_; have NB0_498 := n9_; have NB498_0 := n10_; clear n0_ n1_ n2_ n3_ n4_ n5_ n6_ n7_ n8_ n9_ n10_; clear hb hbox hg; have hnb20 := NB498_492.out; have hnc20 := NB492_498.out; have hnb21 := NB498_0.out; have hnc21 := NB0_498.out; have hcz22_0 : w19.cell? ⟨gb498, 0, none⟩ = some (.string (⟨#[]⟩ : ByteArray)) := (blk_cell BK498.out 0).trans rfl; have hcz22_1 : w19.cell? ⟨gb498, 1, none⟩ = some (.string (⟨#[]⟩ : ByteArray)) := (blk_cell BK498.out 1).trans rfl; have hcz22_2 : w19.cell? ⟨gb498, 2, none⟩ = some (.int .i64 0) := (blk_cell BK498.out 2).trans rfl; have hfz22_0 := Ac BK498.out 0; have hfz22_1 := Ac BK498.out 1; have hfz22_2 := Ac BK498.out 2) | ((with_reducible refine gate_callee (f := 55) rfl ?_); refine goesL_ (some 7) rfl rfl Tryd.func55 (by kernel_rfl) rfl #[.pointer (some ⟨g, 0, none⟩), .int .i64 24] rfl Yc_ ?_; (with_reducible refine (Am.calls g s0_0 t496 t497 24 t499 t500 t501 w0 _ ?side1 ?side2 A3.out).mono ?_); (case side1 => repeat (first | (with_reducible first | exact HI0.out | apply Aa.alloc | apply Aa.drewN | apply Aa.drew | apply Aa.Au | apply Aa.Aw | refine Aa.far ?_ NB0_492.out _ | refine Aa.far ?_ NB0_498.out _) | exact HI0.out)); (case side2 => repeat (first | (with_reducible first | exact HB.out | apply below_alloc | apply pw_below_drewN | apply below_drew1 | refine below_set ?_ (Aa.ge HI0.out) | refine below_set ?_ GE492.out | refine below_set ?_ GE498.out) | exact HB.out)); rintro e w23 ⟨rfl, hi, hb, hk⟩; refine ⟨_, rfl, ?_⟩; have n0_ := Aside0.mk (Ad.blk hk (g' := gb492) (o := .cells #[.string (⟨#[]⟩ : ByteArray), .string (⟨#[]⟩ : ByteArray), .int .i64 0] 31 (0, 0)) Ycb_ NB492_0.out (by simp)); have n1_ := Aside0.mk (Ad.blk hk (g' := gb498) (o := .cells #[.string t493, .string t494, .int .i64 t495] 31 (0, 0)) Ybe_ NB498_0.out (by simp)); have n2_ := Aside0.mk (Ad.trans Yea_ hk (.inl rfl)); have n3_ := Aside0.mk (hb); have n4_ := Aside0.mk (hi); clear BK492; clear BK498; clear HK; clear HB; clear HI0; have BK492 := n0_; have BK498 := n1_; have HK := n2_; have HB := n3_; have HI0 := n4_; clear n0_ n1_ n2_ n3_ n4_; (try clear hb); (try clear hb2); (try clear hk); (try clear hi); have hcz24_0 : w23.cell? ⟨gb498, 0, none⟩ = some (.string t493) := (blk_cell BK498.out 0).trans rfl; have hcz24_1 : w23.cell? ⟨gb498, 1, none⟩ = some (.string t494) := (blk_cell BK498.out 1).trans rfl; have hcz24_2 : w23.cell? ⟨gb498, 2, none⟩ = some (.int .i64 t495) := (blk_cell BK498.out 2).trans rfl; have hfz24_0 := Ac BK498.out 0; have hfz24_1 := Ac BK498.out 1; have hfz24_2 := Ac BK498.out 2) | ((with_reducible refine gate_callee (f := 61) rfl ?_); refine goesL_ (some 19) rfl rfl Tryd.func61 (by kernel_rfl) rfl #[.pointer (some ⟨g, 0, none⟩), .string t494, .string (⟨#[35, 64, 10, 48, 49]⟩ : ByteArray)] rfl Yc_ ?_; (with_reducible refine (D7.calls g s0_0 t500 t501 t494 (⟨#[35, 64, 10, 48, 49]⟩ : ByteArray) t502 t503 t504 w0 _ ?side1 ?side2 A16.out).mono ?_); (case side1 => repeat (first | (with_reducible first | exact HI0.out | apply Aa.alloc | apply Aa.drewN | apply Aa.drew | apply Aa.Au | apply Aa.Aw | refine Aa.far ?_ NB0_492.out _ | refine Aa.far ?_ NB0_498.out _) | exact HI0.out)); (case side2 => repeat (first | (with_reducible first | exact HB.out | apply below_alloc | apply pw_below_drewN | apply below_drew1 | refine below_set ?_ (Aa.ge HI0.out) | refine below_set ?_ GE492.out | refine below_set ?_ GE498.out) | exact HB.out)); rintro e w25 ⟨rfl, hi, hb, hk⟩; refine ⟨_, rfl, ?_⟩; have n0_ := Aside0.mk (Ad.blk hk (g' := gb492) (o := .cells #[.string (⟨#[]⟩ : ByteArray), .string (⟨#[]⟩ : ByteArray), .int .i64 0] 31 (0, 0)) Ybi_ NB492_0.out (by simp)); have n1_ := Aside0.mk (Ad.blk hk (g' := gb498) (o := .cells #[.string t493, .string t494, .int .i64 t495] 31 (0, 0)) (by (with_reducible repeat (first | refine blk_drewN ?_ _ | refine blk_drew ?_ | refine blk_alloc ?_ _)); exact BK498.out) NB498_0.out (by simp)); have n2_ := Aside0.mk (Ad.trans Yea_ hk (.inl rfl)); have n3_ := Aside0.mk (hb); have n4_ := Aside0.mk (hi); clear BK492; clear BK498; clear HK; clear HB; clear HI0; have BK492 := n0_; have BK498 := n1_; have HK := n2_; have HB := n3_; have HI0 := n4_; clear n0_ n1_ n2_ n3_ n4_; (try clear hb); (try clear hb2); (try clear hk); (try clear hi); have hcz26_0 : w25.cell? ⟨gb498, 0, none⟩ = some (.string t493) := (blk_cell BK498.out 0).trans rfl; have hcz26_1 : w25.cell? ⟨gb498, 1, none⟩ = some (.string t494) := (blk_cell BK498.out 1).trans rfl; have hcz26_2 : w25.cell? ⟨gb498, 2, none⟩ = some (.int .i64 t495) := (blk_cell BK498.out 2).trans rfl; have hfz26_0 := Ac BK498.out 0; have hfz26_1 := Ac BK498.out 1; have hfz26_2 := Ac BK498.out 2; have hnb27 := NB492_0.out; have hnc27 := NB0_492.out; have hcz28_0 : w25.cell? ⟨gb492, 0, none⟩ = some (.string (⟨#[]⟩ : ByteArray)) := (blk_cell BK492.out 0).trans rfl; have hcz28_1 : w25.cell? ⟨gb492, 1, none⟩ = some (.string (⟨#[]⟩ : ByteArray)) := (blk_cell BK492.out 1).trans rfl; have hcz28_2 : w25.cell? ⟨gb492, 2, none⟩ = some (.int .i64 0) := (blk_cell BK492.out 2).trans rfl; have hfz28_0 := Ac BK492.out 0; have hfz28_1 := Ac BK492.out 1; have hfz28_2 := Ac BK492.out 2))
      refine bodyPost_ret (results_cell_row rfl _ _ gb492 31 #[.string t493, .string t502, .int .i64 t495] (0, 0) _ rfl (by (with_reducible repeat (first | refine blk_drewN ?_ _ | refine blk_drew ?_ | refine blk_alloc ?_ _)); refine Ak (cs := #[.string t493, .string t502, .int .i64 0]) ?_ 2 _ rfl; (with_reducible repeat (first | refine blk_drewN ?_ _ | refine blk_drew ?_ | refine blk_alloc ?_ _)); refine Ak (cs := #[.string t493, .string (⟨#[]⟩ : ByteArray), .int .i64 0]) ?_ 1 _ rfl; (with_reducible repeat (first | refine blk_drewN ?_ _ | refine blk_drew ?_ | refine blk_alloc ?_ _)); refine Ak (cs := #[.string (⟨#[]⟩ : ByteArray), .string (⟨#[]⟩ : ByteArray), .int .i64 0]) ?_ 0 _ rfl; (with_reducible repeat (first | refine blk_drewN ?_ _ | refine blk_drew ?_ | refine blk_alloc ?_ _)); refine blk_far ?_ NB492_498.out _; (with_reducible repeat (first | refine blk_drewN ?_ _ | refine blk_drew ?_ | refine blk_alloc ?_ _)); exact BK492.out) Tryd.underlying31 rfl (by kernel_rfl)) rfl ?_
      exact ⟨by first | rfl | (simp [Af, Ag] <;> rfl) | (simp [*, Af, Ag] <;> rfl), by repeat (first | (with_reducible first | exact HI0.out | apply Aa.alloc | apply Aa.drewN | apply Aa.drew | apply Aa.Au | apply Aa.Aw | refine Aa.far ?_ NB0_492.out _ | refine Aa.far ?_ NB0_498.out _) | exact HI0.out), by repeat (first | (with_reducible first | exact HB.out | apply below_alloc | apply pw_below_drewN | apply below_drew1 | refine below_set ?_ (Aa.ge HI0.out) | refine below_set ?_ GE492.out | refine below_set ?_ GE498.out) | exact HB.out), by repeat (first | (with_reducible first | exact HK.out | apply Ad.Ce | apply Ah | apply Aj | apply Ai | refine Aq ?_ GW492.out _ | refine Aq ?_ GW498.out _) | exact HK.out)⟩
    · rw [if_neg c15] at H
      have c15b0 : (t499 == 1) = false := beq_eq_false_iff_ne.mpr c15
      have c15b1 : (t499 != 1) = true := bne_iff_ne.mpr c15
      by_cases c29 : t499 = 2
      · rw [if_pos c29] at H
        have c29b0 : (t499 == 2) = true := beq_iff_eq.mpr c29
        have c29b1 : (t499 != 2) = false := bne_eq_false_iff_eq.mpr c29
        clear c29
        by_cases c30 : t493.size + t494.size ≤ 9223372036854775807
        · rw [if_pos c30] at H
          have c30b0 := eq_true c30
          have c30b1 : decide (t493.size + t494.size ≤ 9223372036854775807) = true := decide_eq_true c30
          try have c30b2 : (9223372036854775807 < t493.size + t494.size) = False := eq_false (Nat.not_lt.2 c30)
          simp only [Option.some.injEq, Prod.mk.injEq] at H
          obtain ⟨rfl, rfl, rfl, rfl, rfl⟩ := H
          go_enter Tryd.func53, Tryd.ntmps53
          go_wp2_with (first | ((with_reducible refine gate_dst (N := 2) rfl ?_); refine box_event ?hg (N := 2) ?hd (cs := #[.string (⟨#[]⟩ : ByteArray), .string (⟨#[]⟩ : ByteArray), .int .i64 0]) (t := 31) ?hr ?_; (case hd => rfl); (case hg => rfl); (case hr => first | (go_simp; done) | (go_simp; rfl)); intro gb492 hg w31 hbox hb; have n0_ := Aside0.mk (Aa.below Yda_ hb); have n1_ := Aside0.mk (Ad.trans Yf_ (Ad.of_below hb g none) (.inl rfl)); have n2_ := Aside0.mk (below_step Ycf_ hb); have n3_ := Aside0.mk (hbox); have n4_ := Aside0.mk ((by rw [hg]; exact (Dp (w := w) (g := g) (row := none) Yf_) : w.heap.size ≤ gb492)); have n5_ := Aside0.mk ((Nat.le_trans HW0.out (by rw [hg]; exact (Dp (w := w) (g := g) (row := none) Yf_) : w.heap.size ≤ gb492) : w0.heap.size ≤ gb492)); have n6_ := Aside0.mk ((by rw [hg]; exact Nat.ne_of_lt (Aa.lt (show Aa w0 _ g s0_0 s0_1 s0_2 from by repeat (first | (with_reducible first | exact HI0.out | apply Aa.alloc | apply Aa.drewN | apply Aa.drew | apply Aa.Au | apply Aa.Aw) | exact HI0.out))) : g ≠ gb492)); have n7_ := Aside0.mk ((by rw [hg]; exact Nat.ne_of_gt (Aa.lt (show Aa w0 _ g s0_0 s0_1 s0_2 from by repeat (first | (with_reducible first | exact HI0.out | apply Aa.alloc | apply Aa.drewN | apply Aa.drew | apply Aa.Au | apply Aa.Aw) | exact HI0.out))) : gb492 ≠ g)); clear HI0; clear HK; clear HB; have HI0 := n0_; have HK := n1_; have HB := n2_; have BK492 := n3_; have GW492 := n4_; have GE492 := n5_; have NB0_492 := n6_; have NB492_0 := n7_; clear n0_ n1_ n2_ n3_ n4_ n5_ n6_ n7_; clear hb hbox hg) | ((with_reducible refine gate_callee (f := 60) rfl ?_); refine goesL_ (some 5) rfl rfl Tryd.func60 (by kernel_rfl) rfl #[.pointer (some ⟨g, 0, none⟩)] rfl Yc_ ?_; (with_reducible refine (Ar.calls k g s0_0 s0_1 s0_2 t493 t494 t495 t496 t497 w0 _ ?side1 ?side2 A2.out).mono ?_); (case side1 => repeat (first | (with_reducible first | exact HI0.out | apply Aa.alloc | apply Aa.drewN | apply Aa.drew | apply Aa.Au | apply Aa.Aw | refine Aa.far ?_ NB0_492.out _) | exact HI0.out)); (case side2 => repeat (first | (with_reducible first | exact HB.out | apply below_alloc | apply pw_below_drewN | apply below_drew1 | refine below_set ?_ (Aa.ge HI0.out) | refine below_set ?_ GE492.out) | exact HB.out)); rintro e w32 ⟨rfl, hi, hb, hk⟩; refine ⟨_, rfl, ?_⟩; have n0_ := Aside0.mk (Ad.blk hk (g' := gb492) (o := .cells #[.string (⟨#[]⟩ : ByteArray), .string (⟨#[]⟩ : ByteArray), .int .i64 0] 31 (0, 0)) Ybi_ NB492_0.out (by simp)); have n1_ := Aside0.mk (Ad.trans Ybd_ hk (.inl rfl)); have n2_ := Aside0.mk (hb); have n3_ := Aside0.mk (hi); clear BK492; clear HK; clear HB; clear HI0; have BK492 := n0_; have HK := n1_; have HB := n2_; have HI0 := n3_; clear n0_ n1_ n2_ n3_; (try clear hb); (try clear hb2); (try clear hk); (try clear hi)) | ((with_reducible refine gate_dst (N := 3) rfl ?_); refine box_event ?hg (N := 3) ?hd (cs := #[.string (⟨#[]⟩ : ByteArray), .string (⟨#[]⟩ : ByteArray), .int .i64 0]) (t := 31) ?hr ?_; (case hd => rfl); (case hg => rfl); (case hr => first | (go_simp; done) | (go_simp; rfl)); intro gb498 hg w33 hbox hb; have n0_ := Aside0.mk (Aa.below Yeg_ hb); have n1_ := Aside0.mk (blk_below (g := gb492) (o := .cells #[.string (⟨#[]⟩ : ByteArray), .string (⟨#[]⟩ : ByteArray), .int .i64 0] 31 (0, 0)) Ybi_ hb); have n2_ := Aside0.mk (Ad.trans Ybd_ (Ad.of_below hb g none) (.inl rfl)); have n3_ := Aside0.mk (below_step Yec_ hb); have n4_ := Aside0.mk (hbox); have n5_ := Aside0.mk ((by rw [hg]; exact (Dp (w := w) (g := g) (row := none) Ybd_) : w.heap.size ≤ gb498)); have n6_ := Aside0.mk ((Nat.le_trans HW0.out (by rw [hg]; exact (Dp (w := w) (g := g) (row := none) Ybd_) : w.heap.size ≤ gb498) : w0.heap.size ≤ gb498)); have n7_ := Aside0.mk ((by rw [hg]; exact Nat.ne_of_lt (blk_lt (g := gb492) (o := .cells #[.string (⟨#[]⟩ : ByteArray), .string (⟨#[]⟩ : ByteArray), .int .i64 0] 31 (0, 0)) Ybi_) : gb492 ≠ gb498)); have n8_ := Aside0.mk ((by rw [hg]; exact Nat.ne_of_gt (blk_lt (g := gb492) (o := .cells #[.string (⟨#[]⟩ : ByteArray), .string (⟨#[]⟩ : ByteArray), .int .i64 0] 31 (0, 0)) Ybi_) : gb498 ≠ gb492)); have n9_ := Aside0.mk ((by rw [hg]; exact Nat.ne_of_lt (Aa.lt (show Aa w0 _ g s0_0 t496 t497 from by repeat (first | (with_reducible first | exact HI0.out | apply Aa.alloc | apply Aa.drewN | apply Aa.drew | apply Aa.Au | apply Aa.Aw | refine Aa.far ?_ NB0_492.out _) | exact HI0.out))) : g ≠ gb498)); have n10_ := Aside0.mk ((by rw [hg]; exact Nat.ne_of_gt (Aa.lt (show Aa w0 _ g s0_0 t496 t497 from by repeat (first | (with_reducible first | exact HI0.out | apply Aa.alloc | apply Aa.drewN | apply Aa.drew | apply Aa.Au | apply Aa.Aw | refine Aa.far ?_ NB0_492.out _) | exact HI0.out))) : gb498 ≠ g)); clear HI0; clear BK492; clear HK; clear HB; have HI0 := n0_; have BK492 := n1_; have HK := n2_; have HB := n3_; have BK498 := n4_; have GW498 := n5_; have GE498 := n6_; have NB492_498 := n7_; have NB498_492 := n8_; have NB0_498 := n9_; have NB498_0 := n10_; clear n0_ n1_ n2_ n3_ n4_ n5_ n6_ n7_ n8_ n9_ n10_; clear hb hbox hg; have hnb34 := NB498_492.out; have hnc34 := NB492_498.out; have hnb35 := NB498_0.out; have hnc35 := NB0_498.out; have hcz36_0 : w33.cell? ⟨gb498, 0, none⟩ = some (.string (⟨#[]⟩ : ByteArray)) := (blk_cell BK498.out 0).trans rfl; have hcz36_1 : w33.cell? ⟨gb498, 1, none⟩ = some (.string (⟨#[]⟩ : ByteArray)) := (blk_cell BK498.out 1).trans rfl; have hcz36_2 : w33.cell? ⟨gb498, 2, none⟩ = some (.int .i64 0) := (blk_cell BK498.out 2).trans rfl; have hfz36_0 := Ac BK498.out 0; have hfz36_1 := Ac BK498.out 1; have hfz36_2 := Ac BK498.out 2) | ((with_reducible refine gate_callee (f := 55) rfl ?_); refine goesL_ (some 7) rfl rfl Tryd.func55 (by kernel_rfl) rfl #[.pointer (some ⟨g, 0, none⟩), .int .i64 24] rfl Yc_ ?_; (with_reducible refine (Am.calls g s0_0 t496 t497 24 t499 t500 t501 w0 _ ?side1 ?side2 A3.out).mono ?_); (case side1 => repeat (first | (with_reducible first | exact HI0.out | apply Aa.alloc | apply Aa.drewN | apply Aa.drew | apply Aa.Au | apply Aa.Aw | refine Aa.far ?_ NB0_492.out _ | refine Aa.far ?_ NB0_498.out _) | exact HI0.out)); (case side2 => repeat (first | (with_reducible first | exact HB.out | apply below_alloc | apply pw_below_drewN | apply below_drew1 | refine below_set ?_ (Aa.ge HI0.out) | refine below_set ?_ GE492.out | refine below_set ?_ GE498.out) | exact HB.out)); rintro e w37 ⟨rfl, hi, hb, hk⟩; refine ⟨_, rfl, ?_⟩; have n0_ := Aside0.mk (Ad.blk hk (g' := gb492) (o := .cells #[.string (⟨#[]⟩ : ByteArray), .string (⟨#[]⟩ : ByteArray), .int .i64 0] 31 (0, 0)) Ycb_ NB492_0.out (by simp)); have n1_ := Aside0.mk (Ad.blk hk (g' := gb498) (o := .cells #[.string t493, .string t494, .int .i64 t495] 31 (0, 0)) Ybe_ NB498_0.out (by simp)); have n2_ := Aside0.mk (Ad.trans Yea_ hk (.inl rfl)); have n3_ := Aside0.mk (hb); have n4_ := Aside0.mk (hi); clear BK492; clear BK498; clear HK; clear HB; clear HI0; have BK492 := n0_; have BK498 := n1_; have HK := n2_; have HB := n3_; have HI0 := n4_; clear n0_ n1_ n2_ n3_ n4_; (try clear hb); (try clear hb2); (try clear hk); (try clear hi); have hcz38_0 : w37.cell? ⟨gb498, 0, none⟩ = some (.string t493) := (blk_cell BK498.out 0).trans rfl; have hcz38_1 : w37.cell? ⟨gb498, 1, none⟩ = some (.string t494) := (blk_cell BK498.out 1).trans rfl; have hcz38_2 : w37.cell? ⟨gb498, 2, none⟩ = some (.int .i64 t495) := (blk_cell BK498.out 2).trans rfl; have hfz38_0 := Ac BK498.out 0; have hfz38_1 := Ac BK498.out 1; have hfz38_2 := Ac BK498.out 2; have hnb39 := NB492_0.out; have hnc39 := NB0_492.out; have hcz40_0 : w37.cell? ⟨gb492, 0, none⟩ = some (.string (⟨#[]⟩ : ByteArray)) := (blk_cell BK492.out 0).trans rfl; have hcz40_1 : w37.cell? ⟨gb492, 1, none⟩ = some (.string (⟨#[]⟩ : ByteArray)) := (blk_cell BK492.out 1).trans rfl; have hcz40_2 : w37.cell? ⟨gb492, 2, none⟩ = some (.int .i64 0) := (blk_cell BK492.out 2).trans rfl; have hfz40_0 := Ac BK492.out 0; have hfz40_1 := Ac BK492.out 1; have hfz40_2 := Ac BK492.out 2))
          refine bodyPost_ret (results_cell_row rfl _ _ gb492 31 #[.string (t493 ++ t494), .string t494, .int .i64 t495] (0, 0) _ rfl (by (with_reducible repeat (first | refine blk_drewN ?_ _ | refine blk_drew ?_ | refine blk_alloc ?_ _)); refine Ak (cs := #[.string (t493 ++ t494), .string t494, .int .i64 0]) ?_ 2 _ rfl; (with_reducible repeat (first | refine blk_drewN ?_ _ | refine blk_drew ?_ | refine blk_alloc ?_ _)); refine Ak (cs := #[.string (t493 ++ t494), .string (⟨#[]⟩ : ByteArray), .int .i64 0]) ?_ 1 _ rfl; (with_reducible repeat (first | refine blk_drewN ?_ _ | refine blk_drew ?_ | refine blk_alloc ?_ _)); refine Ak (cs := #[.string (⟨#[]⟩ : ByteArray), .string (⟨#[]⟩ : ByteArray), .int .i64 0]) ?_ 0 _ rfl; (with_reducible repeat (first | refine blk_drewN ?_ _ | refine blk_drew ?_ | refine blk_alloc ?_ _)); refine blk_far ?_ NB492_498.out _; (with_reducible repeat (first | refine blk_drewN ?_ _ | refine blk_drew ?_ | refine blk_alloc ?_ _)); exact BK492.out) Tryd.underlying31 rfl (by kernel_rfl)) rfl ?_
          exact ⟨by first | rfl | (simp [Af, Ag] <;> rfl) | (simp [*, Af, Ag] <;> rfl), by repeat (first | (with_reducible first | exact HI0.out | apply Aa.alloc | apply Aa.drewN | apply Aa.drew | apply Aa.Au | apply Aa.Aw | refine Aa.far ?_ NB0_492.out _ | refine Aa.far ?_ NB0_498.out _) | exact HI0.out), by repeat (first | (with_reducible first | exact HB.out | apply below_alloc | apply pw_below_drewN | apply below_drew1 | refine below_set ?_ (Aa.ge HI0.out) | refine below_set ?_ GE492.out | refine below_set ?_ GE498.out) | exact HB.out), by repeat (first | (with_reducible first | exact HK.out | apply Ad.Ce | apply Ah | apply Aj | apply Ai | refine Aq ?_ GW492.out _ | refine Aq ?_ GW498.out _) | exact HK.out)⟩
        · rw [if_neg c30] at H
          exact absurd H (by simp)
      · rw [if_neg c29] at H
        have c29b0 : (t499 == 2) = false := beq_eq_false_iff_ne.mpr c29
        have c29b1 : (t499 != 2) = true := bne_iff_ne.mpr c29
        simp only [Option.some.injEq, Prod.mk.injEq] at H
        obtain ⟨rfl, rfl, rfl, rfl, rfl⟩ := H
        go_enter Tryd.func53, Tryd.ntmps53
        go_wp2_with (first | ((with_reducible refine gate_dst (N := 2) rfl ?_); refine box_event ?hg (N := 2) ?hd (cs := #[.string (⟨#[]⟩ : ByteArray), .string (⟨#[]⟩ : ByteArray), .int .i64 0]) (t := 31) ?hr ?_; (case hd => rfl); (case hg => rfl); (case hr => first | (go_simp; done) | (go_simp; rfl)); intro gb492 hg w41 hbox hb; have n0_ := Aside0.mk (Aa.below Yda_ hb); have n1_ := Aside0.mk (Ad.trans Yf_ (Ad.of_below hb g none) (.inl rfl)); have n2_ := Aside0.mk (below_step Ycf_ hb); have n3_ := Aside0.mk (hbox); have n4_ := Aside0.mk ((by rw [hg]; exact (Dp (w := w) (g := g) (row := none) Yf_) : w.heap.size ≤ gb492)); have n5_ := Aside0.mk ((Nat.le_trans HW0.out (by rw [hg]; exact (Dp (w := w) (g := g) (row := none) Yf_) : w.heap.size ≤ gb492) : w0.heap.size ≤ gb492)); have n6_ := Aside0.mk ((by rw [hg]; exact Nat.ne_of_lt (Aa.lt (show Aa w0 _ g s0_0 s0_1 s0_2 from by repeat (first | (with_reducible first | exact HI0.out | apply Aa.alloc | apply Aa.drewN | apply Aa.drew | apply Aa.Au | apply Aa.Aw) | exact HI0.out))) : g ≠ gb492)); have n7_ := Aside0.mk ((by rw [hg]; exact Nat.ne_of_gt (Aa.lt (show Aa w0 _ g s0_0 s0_1 s0_2 from by repeat (first | (with_reducible first | exact HI0.out | apply Aa.alloc | apply Aa.drewN | apply Aa.drew | apply Aa.Au | apply Aa.Aw) | exact HI0.out))) : gb492 ≠ g)); clear HI0; clear HK; clear HB; have HI0 := n0_; have HK := n1_; have HB := n2_; have BK492 := n3_; have GW492 := n4_; have GE492 := n5_; have NB0_492 := n6_; have NB492_0 := n7_; clear n0_ n1_ n2_ n3_ n4_ n5_ n6_ n7_; clear hb hbox hg) | ((with_reducible refine gate_callee (f := 60) rfl ?_); refine goesL_ (some 5) rfl rfl Tryd.func60 (by kernel_rfl) rfl #[.pointer (some ⟨g, 0, none⟩)] rfl Yc_ ?_; (with_reducible refine (Ar.calls k g s0_0 s0_1 s0_2 t493 t494 t495 t496 t497 w0 _ ?side1 ?side2 A2.out).mono ?_); (case side1 => repeat (first | (with_reducible first | exact HI0.out | apply Aa.alloc | apply Aa.drewN | apply Aa.drew | apply Aa.Au | apply Aa.Aw | refine Aa.far ?_ NB0_492.out _) | exact HI0.out)); (case side2 => repeat (first | (with_reducible first | exact HB.out | apply below_alloc | apply pw_below_drewN | apply below_drew1 | refine below_set ?_ (Aa.ge HI0.out) | refine below_set ?_ GE492.out) | exact HB.out)); rintro e w42 ⟨rfl, hi, hb, hk⟩; refine ⟨_, rfl, ?_⟩; have n0_ := Aside0.mk (Ad.blk hk (g' := gb492) (o := .cells #[.string (⟨#[]⟩ : ByteArray), .string (⟨#[]⟩ : ByteArray), .int .i64 0] 31 (0, 0)) Ybi_ NB492_0.out (by simp)); have n1_ := Aside0.mk (Ad.trans Ybd_ hk (.inl rfl)); have n2_ := Aside0.mk (hb); have n3_ := Aside0.mk (hi); clear BK492; clear HK; clear HB; clear HI0; have BK492 := n0_; have HK := n1_; have HB := n2_; have HI0 := n3_; clear n0_ n1_ n2_ n3_; (try clear hb); (try clear hb2); (try clear hk); (try clear hi)) | ((with_reducible refine gate_dst (N := 3) rfl ?_); refine box_event ?hg (N := 3) ?hd (cs := #[.string (⟨#[]⟩ : ByteArray), .string (⟨#[]⟩ : ByteArray), .int .i64 0]) (t := 31) ?hr ?_; (case hd => rfl); (case hg => rfl); (case hr => first | (go_simp; done) | (go_simp; rfl)); intro gb498 hg w43 hbox hb; have n0_ := Aside0.mk (Aa.below Yeg_ hb); have n1_ := Aside0.mk (blk_below (g := gb492) (o := .cells #[.string (⟨#[]⟩ : ByteArray), .string (⟨#[]⟩ : ByteArray), .int .i64 0] 31 (0, 0)) Ybi_ hb); have n2_ := Aside0.mk (Ad.trans Ybd_ (Ad.of_below hb g none) (.inl rfl)); have n3_ := Aside0.mk (below_step Yec_ hb); have n4_ := Aside0.mk (hbox); have n5_ := Aside0.mk ((by rw [hg]; exact (Dp (w := w) (g := g) (row := none) Ybd_) : w.heap.size ≤ gb498)); have n6_ := Aside0.mk ((Nat.le_trans HW0.out (by rw [hg]; exact (Dp (w := w) (g := g) (row := none) Ybd_) : w.heap.size ≤ gb498) : w0.heap.size ≤ gb498)); have n7_ := Aside0.mk ((by rw [hg]; exact Nat.ne_of_lt (blk_lt (g := gb492) (o := .cells #[.string (⟨#[]⟩ : ByteArray), .string (⟨#[]⟩ : ByteArray), .int .i64 0] 31 (0, 0)) Ybi_) : gb492 ≠ gb498)); have n8_ := Aside0.mk ((by rw [hg]; exact Nat.ne_of_gt (blk_lt (g := gb492) (o := .cells #[.string (⟨#[]⟩ : ByteArray), .string (⟨#[]⟩ : ByteArray), .int .i64 0] 31 (0, 0)) Ybi_) : gb498 ≠ gb492)); have n9_ := Aside0.mk ((by rw [hg]; exact Nat.ne_of_lt (Aa.lt (show Aa w0 _ g s0_0 t496 t497 from by repeat (first | (with_reducible first | exact HI0.out | apply Aa.alloc | apply Aa.drewN | apply Aa.drew | apply Aa.Au | apply Aa.Aw | refine Aa.far ?_ NB0_492.out _) | exact HI0.out))) : g ≠ gb498)); have n10_ := Aside0.mk ((by rw [hg]; exact Nat.ne_of_gt (Aa.lt (show Aa w0 _ g s0_0 t496 t497 from by repeat (first | (with_reducible first | exact HI0.out | apply Aa.alloc | apply Aa.drewN | apply Aa.drew | apply Aa.Au | apply Aa.Aw | refine Aa.far ?_ NB0_492.out _) | exact HI0.out))) : gb498 ≠ g)); clear HI0; clear BK492; clear HK; clear HB; have HI0 := n0_; have BK492 := n1_; have HK := n2_; have HB := n3_; have BK498 := n4_; have GW498 := n5_; have GE498 := n6_; have NB492_498 := n7_; have NB498_492 := n8_; have NB0_498 := n9_; have NB498_0 := n10_; clear n0_ n1_ n2_ n3_ n4_ n5_ n6_ n7_ n8_ n9_ n10_; clear hb hbox hg; have hnb44 := NB498_492.out; have hnc44 := NB492_498.out; have hnb45 := NB498_0.out; have hnc45 := NB0_498.out; have hcz46_0 : w43.cell? ⟨gb498, 0, none⟩ = some (.string (⟨#[]⟩ : ByteArray)) := (blk_cell BK498.out 0).trans rfl; have hcz46_1 : w43.cell? ⟨gb498, 1, none⟩ = some (.string (⟨#[]⟩ : ByteArray)) := (blk_cell BK498.out 1).trans rfl; have hcz46_2 : w43.cell? ⟨gb498, 2, none⟩ = some (.int .i64 0) := (blk_cell BK498.out 2).trans rfl; have hfz46_0 := Ac BK498.out 0; have hfz46_1 := Ac BK498.out 1; have hfz46_2 := Ac BK498.out 2) | ((with_reducible refine gate_callee (f := 55) rfl ?_); refine goesL_ (some 7) rfl rfl Tryd.func55 (by kernel_rfl) rfl #[.pointer (some ⟨g, 0, none⟩), .int .i64 24] rfl Yc_ ?_; (with_reducible refine (Am.calls g s0_0 t496 t497 24 t499 t500 t501 w0 _ ?side1 ?side2 A3.out).mono ?_); (case side1 => repeat (first | (with_reducible first | exact HI0.out | apply Aa.alloc | apply Aa.drewN | apply Aa.drew | apply Aa.Au | apply Aa.Aw | refine Aa.far ?_ NB0_492.out _ | refine Aa.far ?_ NB0_498.out _) | exact HI0.out)); (case side2 => repeat (first | (with_reducible first | exact HB.out | apply below_alloc | apply pw_below_drewN | apply below_drew1 | refine below_set ?_ (Aa.ge HI0.out) | refine below_set ?_ GE492.out | refine below_set ?_ GE498.out) | exact HB.out)); rintro e w47 ⟨rfl, hi, hb, hk⟩; refine ⟨_, rfl, ?_⟩; have n0_ := Aside0.mk (Ad.blk hk (g' := gb492) (o := .cells #[.string (⟨#[]⟩ : ByteArray), .string (⟨#[]⟩ : ByteArray), .int .i64 0] 31 (0, 0)) Ycb_ NB492_0.out (by simp)); have n1_ := Aside0.mk (Ad.blk hk (g' := gb498) (o := .cells #[.string t493, .string t494, .int .i64 t495] 31 (0, 0)) Ybe_ NB498_0.out (by simp)); have n2_ := Aside0.mk (Ad.trans Yea_ hk (.inl rfl)); have n3_ := Aside0.mk (hb); have n4_ := Aside0.mk (hi); clear BK492; clear BK498; clear HK; clear HB; clear HI0; have BK492 := n0_; have BK498 := n1_; have HK := n2_; have HB := n3_; have HI0 := n4_; clear n0_ n1_ n2_ n3_ n4_; (try clear hb); (try clear hb2); (try clear hk); (try clear hi); have hcz48_0 : w47.cell? ⟨gb498, 0, none⟩ = some (.string t493) := (blk_cell BK498.out 0).trans rfl; have hcz48_1 : w47.cell? ⟨gb498, 1, none⟩ = some (.string t494) := (blk_cell BK498.out 1).trans rfl; have hcz48_2 : w47.cell? ⟨gb498, 2, none⟩ = some (.int .i64 t495) := (blk_cell BK498.out 2).trans rfl; have hfz48_0 := Ac BK498.out 0; have hfz48_1 := Ac BK498.out 1; have hfz48_2 := Ac BK498.out 2; have hnb49 := NB492_0.out; have hnc49 := NB0_492.out; have hcz50_0 : w47.cell? ⟨gb492, 0, none⟩ = some (.string (⟨#[]⟩ : ByteArray)) := (blk_cell BK492.out 0).trans rfl; have hcz50_1 : w47.cell? ⟨gb492, 1, none⟩ = some (.string (⟨#[]⟩ : ByteArray)) := (blk_cell BK492.out 1).trans rfl; have hcz50_2 : w47.cell? ⟨gb492, 2, none⟩ = some (.int .i64 0) := (blk_cell BK492.out 2).trans rfl; have hfz50_0 := Ac BK492.out 0; have hfz50_1 := Ac BK492.out 1; have hfz50_2 := Ac BK492.out 2))
        refine bodyPost_ret (results_cell_row rfl _ _ gb492 31 #[.string t493, .string t494, .int .i64 t495] (0, 0) _ rfl (by (with_reducible repeat (first | refine blk_drewN ?_ _ | refine blk_drew ?_ | refine blk_alloc ?_ _)); refine Ak (cs := #[.string t493, .string t494, .int .i64 0]) ?_ 2 _ rfl; (with_reducible repeat (first | refine blk_drewN ?_ _ | refine blk_drew ?_ | refine blk_alloc ?_ _)); refine Ak (cs := #[.string t493, .string (⟨#[]⟩ : ByteArray), .int .i64 0]) ?_ 1 _ rfl; (with_reducible repeat (first | refine blk_drewN ?_ _ | refine blk_drew ?_ | refine blk_alloc ?_ _)); refine Ak (cs := #[.string (⟨#[]⟩ : ByteArray), .string (⟨#[]⟩ : ByteArray), .int .i64 0]) ?_ 0 _ rfl; (with_reducible repeat (first | refine blk_drewN ?_ _ | refine blk_drew ?_ | refine blk_alloc ?_ _)); exact BK492.out) Tryd.underlying31 rfl (by kernel_rfl)) rfl ?_
        exact ⟨by first | rfl | (simp [Af, Ag] <;> rfl) | (simp [*, Af, Ag] <;> rfl), by repeat (first | (with_reducible first | exact HI0.out | apply Aa.alloc | apply Aa.drewN | apply Aa.drew | apply Aa.Au | apply Aa.Aw | refine Aa.far ?_ NB0_492.out _ | refine Aa.far ?_ NB0_498.out _) | exact HI0.out), by repeat (first | (with_reducible first | exact HB.out | apply below_alloc | apply pw_below_drewN | apply below_drew1 | refine below_set ?_ (Aa.ge HI0.out) | refine below_set ?_ GE492.out | refine below_set ?_ GE498.out) | exact HB.out), by repeat (first | (with_reducible first | exact HK.out | apply Ad.Ce | apply Ah | apply Aj | apply Ai | refine Aq ?_ GW492.out _ | refine Aq ?_ GW498.out _) | exact HK.out)⟩
end Go.Proofs.YtkpieljmhgfofaaDoor.X

namespace Go.Proofs.YtkpieljmhgfofaaDoor.X
open Go.RowKit Go.Proofs.YtkpieljmhgfofaaDoorW.PrintWords Go.Proofs.YtkpieljmhgfofaaDoorW.PrintLast Go.Proofs.YtkpieljmhgfofaaDoorW.PrintMore
attribute [local go_sem] max2_int min2_int max_two min_two max_three min_three max_four min_four
open Go.Proofs.YtkpieljmhgfofaaDoorG
def Dq.f (k : Nat) (l0 : List Int) : Option (ByteArray × ByteArray × Int × Int × Bool) := (Eh.f k l0 0 0).bind fun bt664 => ((Am.f l0 bt664.2.2.2.1 bt664.2.2.2.2 (wrap64 ((bt664.2.1.size : Int) + 3))).bind fun bt670 => ((D9.f l0 bt670.2.1 bt670.2.2 2).bind fun bt673 => (some (bt664.1, bt664.2.1, bt664.2.2.1, wrap64 (bt670.1 - 1), bt673.1))))
theorem Dq.mono : ∀ a0 k, LeO (Dq.f k a0) (Dq.f (k + 1) a0) := by
  intro a0 k
  unfold Dq.f
  repeat' first
      | (with_reducible exact Eh.mono _ _ _ _)
      | (with_reducible exact LeO.refl _)
      | (with_reducible exact LeO.none _)
      | (with_reducible refine LeO.ite ?_ ?_)
      | (with_reducible refine LeO.bind ?_ (fun _ => ?_))
      | exact Eh.mono _ _ _ _
      | exact LeO.none _
      | refine LeO.ite ?_ ?_
      | refine LeO.bind ?_ (fun _ => ?_)
set_option maxHeartbeats 8000000 in
set_option maxRecDepth 100000 in
theorem Dq.calls (k : Nat) (A0 : Option Addr) (c0 : Nat) (l0 : List Int) (r1 : ByteArray) (r2 : ByteArray) (r3 : Int) (r4 : Int) (r5 : Bool) (w : World) (hr0 : Kd.C (Kd.int .u8) w A0 l0.length l0) (hc0 : l0.length ≤ c0) (h : Dq.f k l0 = some (r1, r2, r3, r4, r5)) :
    Calls Tryd.prog 41 #[.slice A0 l0.length c0] w fun e w' => e = .returned (.tuple #[.agg #[.string r1, .string r2, .int .i64 r3], .int .i64 r4, .bool r5]) ∧ Below w.heap.size w w' := by
  have hu31 := Tryd.underlying31
  have hu74 := Tryd.underlying74
  have HR0 := Aside0.mk hr0
  have HC0 := Aside0.mk hc0
  clear hr0 hc0
  have HB := Aside0.mk (Below.refl w.heap.size w)
  have H : ((Eh.f k l0 0 0).bind fun bt664 => ((Am.f l0 bt664.2.2.2.1 bt664.2.2.2.2 (wrap64 ((bt664.2.1.size : Int) + 3))).bind fun bt670 => ((D9.f l0 bt670.2.1 bt670.2.2 2).bind fun bt673 => (some (bt664.1, bt664.2.1, bt664.2.2.1, wrap64 (bt670.1 - 1), bt673.1))))) = some (r1, r2, r3, r4, r5) := h
  clear h
  replace H := Option.bind_eq_some_iff.mp H
  obtain ⟨⟨t664, t665, t666, t667, t668⟩, A20, H⟩ := H
  replace H : ((Am.f l0 t667 t668 (wrap64 ((t665.size : Int) + 3))).bind fun bt670 => ((D9.f l0 bt670.2.1 bt670.2.2 2).bind fun bt673 => (some (t664, t665, t666, wrap64 (bt670.1 - 1), bt673.1)))) = some (r1, r2, r3, r4, r5) := H
  have A2 := Aside0.mk A20
  clear A20
  replace H := Option.bind_eq_some_iff.mp H
  obtain ⟨⟨t670, t671, t672⟩, A30, H⟩ := H
  replace H : ((D9.f l0 t671 t672 2).bind fun bt673 => (some (t664, t665, t666, wrap64 (t670 - 1), bt673.1))) = some (r1, r2, r3, r4, r5) := H
  have A3 := Aside0.mk A30
  clear A30
  replace H := Option.bind_eq_some_iff.mp H
  obtain ⟨⟨t673, t674, t675⟩, A40, H⟩ := H
  replace H : (some (t664, t665, t666, wrap64 (t670 - 1), t673)) = some (r1, r2, r3, r4, r5) := H
  have A4 := Aside0.mk A40
  clear A40
  simp only [Option.some.injEq, Prod.mk.injEq] at H
  obtain ⟨rfl, rfl, rfl, rfl, rfl⟩ := H
  go_enter Tryd.func41, Tryd.ntmps41
  try go_wp2_with (first | ((with_reducible refine gate_dst (N := 2) rfl ?_); refine box_event ?hg (N := 2) ?hd (cs := #[.string (⟨#[]⟩ : ByteArray), .string (⟨#[]⟩ : ByteArray), .int .i64 0]) (t := 31) ?hr ?_; (case hd => rfl); (case hg => rfl); (case hr => first | (go_simp; done) | (go_simp; rfl)); intro gb0 hg w5 hbox hb; have n0_ := Aside0.mk (below_step Ya_ hb); have n1_ := Aside0.mk (hbox); have n2_ := Aside0.mk ((by rw [hg]; exact (below_size Ya_) : w.heap.size ≤ gb0)); have n3_ := Aside0.mk ((by rw [hg]; exact (below_size Ya_) : w.heap.size ≤ gb0)); clear HB; have HB := n0_; have BK0 := n1_; have GW0 := n2_; have GE0 := n3_; clear n0_ n1_ n2_ n3_; clear hb hbox hg) | ((with_reducible refine gate_dst (N := 10) rfl ?_); refine box_event ?hg (N := 10) ?hd (cs := #[.slice A0 l0.length c0, .int .i64 0, .int .u64 0]) (t := 74) ?hr ?_; (case hd => rfl); (case hg => rfl); (case hr => first | (go_simp; done) | (go_simp; rfl)); intro gb1 hg w6 hbox hb; have n0_ := Aside0.mk (blk_below (g := gb0) (o := .cells #[.string (⟨#[]⟩ : ByteArray), .string (⟨#[]⟩ : ByteArray), .int .i64 0] 31 (0, 0)) Yd_ hb); have n1_ := Aside0.mk (below_step Yb_ hb); have n2_ := Aside0.mk ((by rw [hg]; exact (below_size Yb_) : w.heap.size ≤ gb1)); have n3_ := Aside0.mk ((by rw [hg]; exact (below_size Yb_) : w.heap.size ≤ gb1)); have n4_ := Aside0.mk ((by rw [hg]; exact Nat.ne_of_lt (blk_lt (g := gb0) (o := .cells #[.string (⟨#[]⟩ : ByteArray), .string (⟨#[]⟩ : ByteArray), .int .i64 0] 31 (0, 0)) Yd_) : gb0 ≠ gb1)); have n5_ := Aside0.mk ((by rw [hg]; exact Nat.ne_of_gt (blk_lt (g := gb0) (o := .cells #[.string (⟨#[]⟩ : ByteArray), .string (⟨#[]⟩ : ByteArray), .int .i64 0] 31 (0, 0)) Yd_) : gb1 ≠ gb0)); have n6_ := Aside0.mk ((⟨_, _, hbox, (by rw [hg]; exact (below_size Yb_)), HR0.out⟩ : Aa w w6 gb1 l0 0 0)); clear BK0; clear HB; have BK0 := n0_; have HB := n1_; have GW1 := n2_; have GE1 := n3_; have NB0_1 := n4_; have NB1_0 := n5_; have HI663 := n6_; clear n0_ n1_ n2_ n3_ n4_ n5_ n6_; clear hb hbox hg) | ((with_reducible refine gate_callee (f := 53) rfl ?_); refine goesL_ (some 12) rfl rfl Tryd.func53 (by kernel_rfl) rfl #[.pointer (some ⟨gb1, 0, none⟩)] rfl Yc_ ?_; (with_reducible refine (Eh.calls k gb1 l0 0 0 t664 t665 t666 t667 t668 w _ ?side1 ?side2 A2.out).mono ?_); (case side1 => repeat (first | (with_reducible first | exact HI663.out | apply Aa.alloc | apply Aa.drewN | apply Aa.drew | apply Aa.Au | apply Aa.Aw | refine Aa.far ?_ NB1_0.out _) | exact HI663.out)); (case side2 => repeat (first | (with_reducible first | exact HB.out | apply below_alloc | apply pw_below_drewN | apply below_drew1 | refine below_set ?_ (Aa.ge HI663.out) | refine below_set ?_ GE0.out) | exact HB.out)); rintro e w7 ⟨rfl, hi, hb, hk⟩; refine ⟨_, rfl, ?_⟩; have n0_ := Aside0.mk (Ad.blk hk (g' := gb0) (o := .cells #[.string (⟨#[]⟩ : ByteArray), .string (⟨#[]⟩ : ByteArray), .int .i64 0] 31 (0, 0)) Yd_ NB0_1.out (by simp)); have n1_ := Aside0.mk (hb); have n2_ := Aside0.mk (hi); clear BK0; clear HB; clear HI663; have BK0 := n0_; have HB := n1_; have HI663 := n2_; clear n0_ n1_ n2_; (try clear hb); (try clear hb2); (try clear hk); (try clear hi)) | ((with_reducible refine gate_dst (N := 6) rfl ?_); refine box_event ?hg (N := 6) ?hd (cs := #[.string (⟨#[]⟩ : ByteArray), .string (⟨#[]⟩ : ByteArray), .int .i64 0]) (t := 31) ?hr ?_; (case hd => rfl); (case hg => rfl); (case hr => first | (go_simp; done) | (go_simp; rfl)); intro gb2 hg w8 hbox hb; have n0_ := Aside0.mk (blk_below (g := gb0) (o := .cells #[.string (⟨#[]⟩ : ByteArray), .string (⟨#[]⟩ : ByteArray), .int .i64 0] 31 (0, 0)) Yd_ hb); have n1_ := Aside0.mk (Aa.below (by repeat (first | (with_reducible first | exact HI663.out | apply Aa.alloc | apply Aa.drewN | apply Aa.drew | apply Aa.Au | apply Aa.Aw | refine Aa.far ?_ NB1_0.out _) | exact HI663.out)) hb); have n2_ := Aside0.mk (below_step Yfh_ hb); have n3_ := Aside0.mk (hbox); have n4_ := Aside0.mk ((by rw [hg]; exact (below_size Yfh_) : w.heap.size ≤ gb2)); have n5_ := Aside0.mk ((by rw [hg]; exact (below_size Yfh_) : w.heap.size ≤ gb2)); have n6_ := Aside0.mk ((by rw [hg]; exact Nat.ne_of_lt (blk_lt (g := gb0) (o := .cells #[.string (⟨#[]⟩ : ByteArray), .string (⟨#[]⟩ : ByteArray), .int .i64 0] 31 (0, 0)) Yd_) : gb0 ≠ gb2)); have n7_ := Aside0.mk ((by rw [hg]; exact Nat.ne_of_gt (blk_lt (g := gb0) (o := .cells #[.string (⟨#[]⟩ : ByteArray), .string (⟨#[]⟩ : ByteArray), .int .i64 0] 31 (0, 0)) Yd_) : gb2 ≠ gb0)); have n8_ := Aside0.mk ((by rw [hg]; exact Nat.ne_of_lt (Aa.lt (show Aa w _ gb1 l0 t667 t668 from by repeat (first | (with_reducible first | exact HI663.out | apply Aa.alloc | apply Aa.drewN | apply Aa.drew | apply Aa.Au | apply Aa.Aw | refine Aa.far ?_ NB1_0.out _) | exact HI663.out))) : gb1 ≠ gb2)); have n9_ := Aside0.mk ((by rw [hg]; exact Nat.ne_of_gt (Aa.lt (show Aa w _ gb1 l0 t667 t668 from by repeat (first | (with_reducible first | exact HI663.out | apply Aa.alloc | apply Aa.drewN | apply Aa.drew | apply Aa.Au | apply Aa.Aw | refine Aa.far ?_ NB1_0.out _) | exact HI663.out))) : gb2 ≠ gb1)); clear BK0; clear HI663; clear HB; have BK0 := n0_; have HI663 := n1_; have HB := n2_; have BK2 := n3_; have GW2 := n4_; have GE2 := n5_; have NB0_2 := n6_; have NB2_0 := n7_; have NB1_2 := n8_; have NB2_1 := n9_; clear n0_ n1_ n2_ n3_ n4_ n5_ n6_ n7_ n8_ n9_; clear hb hbox hg; have hnb9 := NB2_0.out; have hnc9 := NB0_2.out; have hnb10 := NB2_1.out; have hnc10 := NB1_2.out; have hcz11_0 : w8.cell? ⟨gb2, 0, none⟩ = some (.string (⟨#[]⟩ : ByteArray)) := (blk_cell BK2.out 0).trans rfl; have hcz11_1 : w8.cell? ⟨gb2, 1, none⟩ = some (.string (⟨#[]⟩ : ByteArray)) := (blk_cell BK2.out 1).trans rfl; have hcz11_2 : w8.cell? ⟨gb2, 2, none⟩ = some (.int .i64 0) := (blk_cell BK2.out 2).trans rfl; have hfz11_0 := Ac BK2.out 0; have hfz11_1 := Ac BK2.out 1; have hfz11_2 := Ac BK2.out 2) | ((with_reducible refine gate_callee (f := 55) rfl ?_); refine goesL_ (some 18) rfl rfl Tryd.func55 (by kernel_rfl) rfl #[.pointer (some ⟨gb1, 0, none⟩), .int .i64 (wrap64 ((t665.size : Int) + 3))] rfl Yc_ ?_; (with_reducible refine (Am.calls gb1 l0 t667 t668 (wrap64 ((t665.size : Int) + 3)) t670 t671 t672 w _ ?side1 ?side2 A3.out).mono ?_); (case side1 => repeat (first | (with_reducible first | exact HI663.out | apply Aa.alloc | apply Aa.drewN | apply Aa.drew | apply Aa.Au | apply Aa.Aw | refine Aa.far ?_ NB1_0.out _ | refine Aa.far ?_ NB1_2.out _) | exact HI663.out)); (case side2 => repeat (first | (with_reducible first | exact HB.out | apply below_alloc | apply pw_below_drewN | apply below_drew1 | refine below_set ?_ (Aa.ge HI663.out) | refine below_set ?_ GE0.out | refine below_set ?_ GE2.out) | exact HB.out)); rintro e w12 ⟨rfl, hi, hb, hk⟩; refine ⟨_, rfl, ?_⟩; have n0_ := Aside0.mk (Ad.blk hk (g' := gb0) (o := .cells #[.string (⟨#[]⟩ : ByteArray), .string (⟨#[]⟩ : ByteArray), .int .i64 0] 31 (0, 0)) (by (with_reducible repeat (first | refine blk_drewN ?_ _ | refine blk_drew ?_ | refine blk_alloc ?_ _)); refine blk_far ?_ NB0_2.out _; (with_reducible repeat (first | refine blk_drewN ?_ _ | refine blk_drew ?_ | refine blk_alloc ?_ _)); refine blk_far ?_ NB0_2.out _; (with_reducible repeat (first | refine blk_drewN ?_ _ | refine blk_drew ?_ | refine blk_alloc ?_ _)); refine blk_far ?_ NB0_2.out _; (with_reducible repeat (first | refine blk_drewN ?_ _ | refine blk_drew ?_ | refine blk_alloc ?_ _)); exact BK0.out) NB0_1.out (by simp)); have n1_ := Aside0.mk (Ad.blk hk (g' := gb2) (o := .cells #[.string t664, .string t665, .int .i64 t666] 31 (0, 0)) (by (with_reducible repeat (first | refine blk_drewN ?_ _ | refine blk_drew ?_ | refine blk_alloc ?_ _)); refine Ak (cs := #[.string t664, .string t665, .int .i64 0]) ?_ 2 _ rfl; (with_reducible repeat (first | refine blk_drewN ?_ _ | refine blk_drew ?_ | refine blk_alloc ?_ _)); refine Ak (cs := #[.string t664, .string (⟨#[]⟩ : ByteArray), .int .i64 0]) ?_ 1 _ rfl; (with_reducible repeat (first | refine blk_drewN ?_ _ | refine blk_drew ?_ | refine blk_alloc ?_ _)); refine Ak (cs := #[.string (⟨#[]⟩ : ByteArray), .string (⟨#[]⟩ : ByteArray), .int .i64 0]) ?_ 0 _ rfl; (with_reducible repeat (first | refine blk_drewN ?_ _ | refine blk_drew ?_ | refine blk_alloc ?_ _)); exact BK2.out) NB2_1.out (by simp)); have n2_ := Aside0.mk (hb); have n3_ := Aside0.mk (hi); clear BK0; clear BK2; clear HB; clear HI663; have BK0 := n0_; have BK2 := n1_; have HB := n2_; have HI663 := n3_; clear n0_ n1_ n2_ n3_; (try clear hb); (try clear hb2); (try clear hk); (try clear hi)))
  have n0_ := Aside0.mk (blk_drew BK0.out)
  have n1_ := Aside0.mk (blk_drew BK2.out)
  have n2_ := Aside0.mk (Aa.drew HI663.out)
  have n3_ := Aside0.mk (below_drew1 HB.out)
  clear BK0
  clear BK2
  clear HI663
  clear HB
  have BK0 := n0_
  have BK2 := n1_
  have HI663 := n2_
  have HB := n3_
  clear n0_ n1_ n2_ n3_
  refine start_ (n := 7) (S := fun w' => w'.cell? ⟨gb2, 0, none⟩ = some (.string t664) ∧ w'.cell? ⟨gb2, 1, none⟩ = some (.string t665) ∧ w'.cell? ⟨gb2, 2, none⟩ = some (.int .i64 t666)) (ds := []) #[false, false, false, false, false, false, false] (by kernel_rfl) rfl rfl ⟨(blk_cell BK2.out 0).trans rfl, (blk_cell BK2.out 1).trans rfl, (blk_cell BK2.out 2).trans rfl⟩ (fun hHeld => ?_)
  generalize w12.drew = w13 at BK0 BK2 HI663 HB hHeld ⊢
  refine pure_ (i := 1) (N := some 21) (v := ?_) (a' := ?_) #[false, true, false, false, false, false, false] rfl rfl (by kernel_rfl) (fun _ _ _ h => h) (Or.inl ⟨by rfl, ?_⟩) ?_ ?_
  rotate_left
  · intro w'
    go_simp
    with_reducible rfl
  rotate_left
  · simp only [Act.put, List.setIfInBounds_toArray, List.set_cons_zero, List.set_cons_succ, i64_w, i32_w]
    rfl
  refine pure_ (i := 2) (N := some 22) (v := ?_) (a' := ?_) #[false, true, true, false, false, false, false] rfl rfl (by kernel_rfl) (fun _ _ _ h => h) (Or.inl ⟨by rfl, ?_⟩) ?_ ?_
  rotate_left
  · intro w'
    go_simp
    with_reducible rfl
  rotate_left
  · simp only [Act.put, List.setIfInBounds_toArray, List.set_cons_zero, List.set_cons_succ, i64_w, i32_w]
    rfl
  refine take_ (i := 0) (N := some 20) (v := ?_) (a' := ?_) #[true, true, true, false, false, false, false] rfl rfl (by kernel_rfl) (fun _ _ _ h => h) (Or.inl ⟨by rfl, ?_⟩) hHeld ?_ ?_
  rotate_left
  · rintro w' ⟨s0, s1, s2⟩
    go_simp
    with_reducible rfl
  rotate_left
  · simp only [Act.put, List.setIfInBounds_toArray, List.set_cons_zero, List.set_cons_succ, i64_w, i32_w]
    rfl
  refine one_ (i := 3) (N := some 23) #[true, true, true, true, false, false, false] rfl rfl (by kernel_rfl) (by decide) (fun K hK => ?_)
  refine goes_ Tryd.func54 (by kernel_rfl) rfl #[.pointer (some ⟨gb1, 0, none⟩), .int .i64 2] (by rfl) rfl rfl Yc_ ?_
  with_reducible refine (D9.calls gb1 l0 t671 t672 2 t673 t674 t675 w _ ?side1 ?side2 A4.out).mono ?_
  (case side1 => repeat (first | (with_reducible first | exact HI663.out | apply Aa.alloc | apply Aa.drewN | apply Aa.drew | apply Aa.Au | apply Aa.Aw | refine Aa.far ?_ NB1_0.out _ | refine Aa.far ?_ NB1_2.out _) | exact HI663.out))
  (case side2 => repeat (first | (with_reducible first | exact HB.out | apply below_alloc | apply pw_below_drewN | apply below_drew1 | refine below_set ?_ (Aa.ge HI663.out) | refine below_set ?_ GE0.out | refine below_set ?_ GE2.out) | exact HB.out))
  rintro e w14 ⟨rfl, hi, hb, hk⟩
  refine ⟨_, rfl, ?_⟩
  have n0_ := Aside0.mk (Ad.blk hk (g' := gb0) (o := .cells #[.string (⟨#[]⟩ : ByteArray), .string (⟨#[]⟩ : ByteArray), .int .i64 0] 31 (0, 0)) Yd_ NB0_1.out (by simp))
  have n1_ := Aside0.mk (Ad.blk hk (g' := gb2) (o := .cells #[.string t664, .string t665, .int .i64 t666] 31 (0, 0)) Yi_ NB2_1.out (by simp))
  have n2_ := Aside0.mk (hb)
  have n3_ := Aside0.mk (hi)
  clear BK0
  clear BK2
  clear HB
  clear HI663
  have BK0 := n0_
  have BK2 := n1_
  have HB := n2_
  have HI663 := n3_
  clear n0_ n1_ n2_ n3_
  (try clear hb)
  (try clear hb2)
  (try clear hk)
  (try clear hi)
  refine hK.out _ _ ⟨(blk_cell BK2.out 0).trans rfl, (blk_cell BK2.out 1).trans rfl, (blk_cell BK2.out 2).trans rfl⟩ (fun hHeld => ?_)
  clear hK K
  refine norm_ (a' := ?_) ?_ ?_
  rotate_left
  · show Act.put _ (some 23) _ = _
    simp only [Act.put, List.setIfInBounds_toArray, List.set_cons_zero, List.set_cons_succ, i64_w, i32_w]
    rfl
  refine one_ (i := 4) (N := none) #[true, true, true, true, true, false, false] rfl rfl (by kernel_rfl) (by decide) (fun K hK => ?_)
  have hs15 : w14.cell? ⟨gb0, 0, none⟩ = some (.string (⟨#[]⟩ : ByteArray)) := (blk_cell BK0.out 0).trans rfl
  have hfs15 := Ac BK0.out 0
  have hns15_1 := NB2_0.out
  have hms15_1 := NB0_2.out
  have hs16 : w14.cell? ⟨gb0, 1, none⟩ = some (.string (⟨#[]⟩ : ByteArray)) := (blk_cell BK0.out 1).trans rfl
  have hfs16 := Ac BK0.out 1
  have hns16_1 := NB2_0.out
  have hms16_1 := NB0_2.out
  have hs17 : w14.cell? ⟨gb0, 2, none⟩ = some (.int .i64 0) := (blk_cell BK0.out 2).trans rfl
  have hfs17 := Ac BK0.out 2
  have hns17_1 := NB2_0.out
  have hms17_1 := NB0_2.out
  refine skip_ (w1 := ?_) (by rfl) rfl ?_ ?_
  rotate_left
  · go_simp
    rfl
  refine hK.out _ _ ⟨((cell_far (p := ⟨gb0, _, none⟩) NB2_0.out _).trans (((cell_far (p := ⟨gb0, _, none⟩) NB2_0.out _).trans (((cell_far (p := ⟨gb0, _, none⟩) NB2_0.out _).trans (hHeld.1)))))), ((cell_far (p := ⟨gb0, _, none⟩) NB2_0.out _).trans (((cell_far (p := ⟨gb0, _, none⟩) NB2_0.out _).trans (((cell_far (p := ⟨gb0, _, none⟩) NB2_0.out _).trans (hHeld.2.1)))))), ((cell_far (p := ⟨gb0, _, none⟩) NB2_0.out _).trans (((cell_far (p := ⟨gb0, _, none⟩) NB2_0.out _).trans (((cell_far (p := ⟨gb0, _, none⟩) NB2_0.out _).trans (hHeld.2.2))))))⟩ (fun hHeld => ?_)
  clear hK K
  refine pure_ (i := 5) (N := some 3) (v := ?_) (a' := ?_) #[true, true, true, true, true, true, false] rfl rfl (by kernel_rfl) (fun _ _ _ h => h) (Or.inl ⟨by rfl, ?_⟩) ?_ ?_
  rotate_left
  · intro w'
    go_simp
    with_reducible rfl
  rotate_left
  · simp only [Act.put, List.setIfInBounds_toArray, List.set_cons_zero, List.set_cons_succ, i64_w, i32_w]
    rfl
  refine pure_ (i := 6) (N := some 4) (v := ?_) (a' := ?_) #[true, true, true, true, true, true, true] rfl rfl (by kernel_rfl) (fun _ _ _ h => h) (Or.inl ⟨by rfl, ?_⟩) ?_ ?_
  rotate_left
  · intro w'
    go_simp
    with_reducible rfl
  rotate_left
  · simp only [Act.put, List.setIfInBounds_toArray, List.set_cons_zero, List.set_cons_succ, i64_w, i32_w]
    rfl
  refine done_ (by kernel_rfl) ?_
  try go_wp2
  refine bodyPost_ret (Fh rfl _ _ gb0 31 #[.string t664, .string t665, .int .i64 t666] (0, 0) _ rfl (by (with_reducible repeat (first | refine blk_drewN ?_ _ | refine blk_drew ?_ | refine blk_alloc ?_ _)); refine Ak (cs := #[.string t664, .string t665, .int .i64 0]) ?_ 2 _ rfl; (with_reducible repeat (first | refine blk_drewN ?_ _ | refine blk_drew ?_ | refine blk_alloc ?_ _)); refine Ak (cs := #[.string t664, .string (⟨#[]⟩ : ByteArray), .int .i64 0]) ?_ 1 _ rfl; (with_reducible repeat (first | refine blk_drewN ?_ _ | refine blk_drew ?_ | refine blk_alloc ?_ _)); refine Ak (cs := #[.string (⟨#[]⟩ : ByteArray), .string (⟨#[]⟩ : ByteArray), .int .i64 0]) ?_ 0 _ rfl; (with_reducible repeat (first | refine blk_drewN ?_ _ | refine blk_drew ?_ | refine blk_alloc ?_ _)); exact BK0.out) Tryd.underlying31 rfl (by kernel_rfl)) rfl ?_
  exact ⟨by first | rfl | (simp [Af, Ag] <;> rfl) | (simp [*, Af, Ag] <;> rfl), by repeat (first | (with_reducible first | exact HB.out | apply below_alloc | apply pw_below_drewN | apply below_drew1 | refine below_set ?_ (Aa.ge HI663.out) | refine below_set ?_ GE0.out | refine below_set ?_ GE2.out) | exact HB.out)⟩
end Go.Proofs.YtkpieljmhgfofaaDoor.X

