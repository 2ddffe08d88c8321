/- Texts that the proof of the law FnExactRunOrders leans on, part 6 of 7. -/
import Derived.Deep.Slices
import Derived.ChangeSame
import Derived.ChangeArms
import Derived.DataReads
import Derived.SizedLaws
import Derived.ProofKit
import Derived.Lib.SmallJoins
import Derived.ChangeOld
import Derived.Below
import Derived.Test.YtnggfglmjdiaaaaKFnExactRunOrders0
import Derived.Test.YtnggfglmjdiaaaaKFnExactRunOrders1
import Derived.Test.YtnggfglmjdiaaaaKFnExactRunOrders2
import Derived.Test.YtnggfglmjdiaaaaKFnExactRunOrders3
import Derived.Test.YtnggfglmjdiaaaaKFnExactRunOrders4
set_option linter.unusedVariables false
set_option linter.unusedSimpArgs false
namespace Go.Proofs.Ytnggfglmjdiaaaa.X
open Go.RowKit Go.Proofs.YtnggfglmjdiaaaaW.PrintWords Go.Proofs.YtnggfglmjdiaaaaW.PrintLast Go.Proofs.YtnggfglmjdiaaaaW.PrintMore
attribute [local go_sem] max2_int min2_int max_two min_two max_three min_three max_four min_four
mutual
def Ah.j0 : Nat → List (S43) → Bool → List (List Int) → Int → List (List Int) → Option ((List (List Int)) × Int × (List (List Int)) × Int × Bool)
 | 0, _, _, _, _, _ => none
 | k + 1, x1, x20, x720000, x720001, x720002 => if x20 = true then (some (([] : List (List Int)), 0, ([] : List (List Int)), 0, false)) else ((impl_ownTerminal.f k x720000 x720001 x720002).bind fun bt722 => (Ah.l0 k x1 x1 (x1.length : Int) 0 bt722.1 bt722.2.1 bt722.2.2))
def Ah.l0 : Nat → List (S43) → List (S43) → Int → Int → List (List Int) → Int → List (List Int) → Option ((List (List Int)) × Int × (List (List Int)) × Int × Bool)
 | 0, _, _, _, _, _, _, _ => none
 | k + 1, x1, x24, x25, x26, x730000, x730001, x730002 => if x26 < x25 then (if 0 ≤ x26 then (if x26 < (x24.length : Int) then ((impl_makeOrder.f k x730000 x730001 x730002 ((Aa x24 x26).f0) ((Aa x24 x26).f1) ((Aa x24 x26).f2)).bind fun bt732 => (if bt732.2.2.2.2 = true then (Ah.l0 k x1 x24 x25 (wrap64 (x26 + 1)) bt732.1 bt732.2.1 bt732.2.2.1) else (some (x730000, x730001, x730002, x26, true)))) else (none)) else (none)) else (some (x730000, x730001, x730002, (x1.length : Int), true))
end
def Ah.f (k : Nat) (l0_0 : List (List Int)) (a0_1 : Int) (l0_2 : List (List Int)) (l1 : List (S43)) : Option ((List (List Int)) × Int × (List (List Int)) × Int × Bool) := (impl_IsValidTerminal.f k l0_0 a0_1 l0_2).bind fun t721 => (if t721 = true then (Ah.j0 k l1 (decide ((l1.length : Int) > 30)) l0_0 a0_1 l0_2) else (Ah.j0 k l1 true l0_0 a0_1 l0_2))
theorem Ah.mono_l : ∀ k, (∀ y0 y1 y2 y3 y4, LeO (Ah.j0 k y0 y1 y2 y3 y4) (Ah.j0 (k + 1) y0 y1 y2 y3 y4)) ∧ (∀ y0 y1 y2 y3 y4 y5 y6, LeO (Ah.l0 k y0 y1 y2 y3 y4 y5 y6) (Ah.l0 (k + 1) y0 y1 y2 y3 y4 y5 y6))
 | 0 => ⟨fun _ _ _ _ _ r h => by simp [Ah.j0] at h, fun _ _ _ _ _ _ _ r h => by simp [Ah.l0] at h⟩
 | k + 1 => by
  obtain ⟨ih0, ih1⟩ := Ah.mono_l k
  refine ⟨?_, ?_⟩
  ·intro y0 y1 y2 y3 y4
   unfold Ah.j0
   repeat' first
   | (with_reducible exact ih0 _ _ _ _ _)
   | (with_reducible exact ih1 _ _ _ _ _ _ _)
   | (with_reducible exact impl_IsValidTerminal.mono _ _ _ _)
   | (with_reducible exact impl_makeOrder.mono _ _ _ _ _ _ _)
   | (with_reducible exact impl_ownTerminal.mono _ _ _ _)
   | (with_reducible exact LeO.refl _)
   | (with_reducible exact LeO.none _)
   | (with_reducible refine LeO.ite ?_ ?_)
   | (with_reducible refine LeO.bind ?_ (fun _ => ?_))
   | exact ih0 _ _ _ _ _
   | exact ih1 _ _ _ _ _ _ _
   | exact impl_IsValidTerminal.mono _ _ _ _
   | exact impl_makeOrder.mono _ _ _ _ _ _ _
   | exact impl_ownTerminal.mono _ _ _ _
   | exact LeO.none _
   | refine LeO.ite ?_ ?_
   | refine LeO.bind ?_ (fun _ => ?_)
  ·intro y0 y1 y2 y3 y4 y5 y6
   unfold Ah.l0
   repeat' first
   | (with_reducible exact ih0 _ _ _ _ _)
   | (with_reducible exact ih1 _ _ _ _ _ _ _)
   | (with_reducible exact impl_IsValidTerminal.mono _ _ _ _)
   | (with_reducible exact impl_makeOrder.mono _ _ _ _ _ _ _)
   | (with_reducible exact impl_ownTerminal.mono _ _ _ _)
   | (with_reducible exact LeO.refl _)
   | (with_reducible exact LeO.none _)
   | (with_reducible refine LeO.ite ?_ ?_)
   | (with_reducible refine LeO.bind ?_ (fun _ => ?_))
   | exact ih0 _ _ _ _ _
   | exact ih1 _ _ _ _ _ _ _
   | exact impl_IsValidTerminal.mono _ _ _ _
   | exact impl_makeOrder.mono _ _ _ _ _ _ _
   | exact impl_ownTerminal.mono _ _ _ _
   | exact LeO.none _
   | refine LeO.ite ?_ ?_
   | refine LeO.bind ?_ (fun _ => ?_)
theorem Ah.mono : ∀ a0 a1 a2 a3 k, LeO (Ah.f k a0 a1 a2 a3) (Ah.f (k + 1) a0 a1 a2 a3) := by
 intro a0 a1 a2 a3 k
 obtain ⟨ih0, ih1⟩ := Ah.mono_l k
 unfold Ah.f
 repeat' first
   | (with_reducible exact ih0 _ _ _ _ _)
   | (with_reducible exact ih1 _ _ _ _ _ _ _)
   | (with_reducible exact impl_IsValidTerminal.mono _ _ _ _)
   | (with_reducible exact impl_makeOrder.mono _ _ _ _ _ _ _)
   | (with_reducible exact impl_ownTerminal.mono _ _ _ _)
   | (with_reducible exact LeO.refl _)
   | (with_reducible exact LeO.none _)
   | (with_reducible refine LeO.ite ?_ ?_)
   | (with_reducible refine LeO.bind ?_ (fun _ => ?_))
   | exact ih0 _ _ _ _ _
   | exact ih1 _ _ _ _ _ _ _
   | exact impl_IsValidTerminal.mono _ _ _ _
   | exact impl_makeOrder.mono _ _ _ _ _ _ _
   | exact impl_ownTerminal.mono _ _ _ _
   | exact LeO.none _
   | refine LeO.ite ?_ ?_
   | refine LeO.bind ?_ (fun _ => ?_)
set_option maxHeartbeats 8000000 in
set_option maxRecDepth 100000 in
theorem Ah.calls2 (k : Nat) (A0_0 : Option Addr) (c0_0 : Nat) (l0_0 : List (List Int)) (a0_1 : Int) (A0_2 : Option Addr) (c0_2 : Nat) (l0_2 : List (List Int)) (A1 : Option Addr) (c1 : Nat) (l1 : List (S43)) (r1 : List (List Int)) (r2 : Int) (r3 : List (List Int)) (r4 : Int) (r5 : Bool) (w : World) (hr0_0 : Kd.C (Kd.slice 3 (Kd.int .i64)) w A0_0 l0_0.length l0_0) (hc0_0 : l0_0.length ≤ c0_0) (hr0_2 : Kd.C (Kd.slice 3 (Kd.int .i64)) w A0_2 l0_2.length l0_2) (hc0_2 : l0_2.length ≤ c0_2) (hr1 : Kd.C k43 w A1 l1.length l1) (hc1 : l1.length ≤ c1) (h : Ah.f k l0_0 a0_1 l0_2 l1 = some (r1, r2, r3, r4, r5)) :
  Calls Try.prog 36 #[.agg #[.slice A0_0 l0_0.length c0_0, .int .i64 a0_1, .slice A0_2 l0_2.length c0_2], .slice A1 l1.length c1] w fun e w' => ∃ (P_ : Nat → Prop) (v0_ v2_ : Value), e = .returned (.tuple #[.agg #[v0_, .int .i64 r2, v2_], .int .i64 r4, .bool r5]) ∧ Kd.S (Kd.slice 3 (Kd.int .i64)) 73 w' w.heap.size (fun k_ => P_ k_) v0_ r1 ∧ Kd.S (Kd.slice 3 (Kd.int .i64)) 73 w' w.heap.size (fun k_ => ¬ P_ k_) v2_ r3 ∧ Below w.heap.size w w' := by
 have hu34 := Try.underlying34
 have hu43 := Try.underlying43
 have HR0_0 := Aside0.mk hr0_0
 have HC0_0 := Aside0.mk hc0_0
 clear hr0_0 hc0_0
 have HR0_2 := Aside0.mk hr0_2
 have HC0_2 := Aside0.mk hc0_2
 clear hr0_2 hc0_2
 have HR1 := Aside0.mk hr1
 have HC1 := Aside0.mk hc1
 clear hr1 hc1
 have HB := Aside0.mk (Below.refl w.heap.size w)
 have H : ((impl_IsValidTerminal.f k l0_0 a0_1 l0_2).bind fun t721 => (if t721 = true then (Ah.j0 k l1 (decide ((l1.length : Int) > 30)) l0_0 a0_1 l0_2) else (Ah.j0 k l1 true l0_0 a0_1 l0_2))) = some (r1, r2, r3, r4, r5) := h
 clear h
 have HC3 := Aside0.mk H
 clear H
 go_enter Try.func36, Try.ntmps36
 go_upto_region 1 with (first | ((with_reducible refine gate_dst (N := 2) rfl ?_); (try (refine gate_guard (by rfl) ?_; dsimp only)); refine box_event (by rfl) (N := 2) (by rfl) (cs := #[.slice A0_0 l0_0.length c0_0, .int .i64 a0_1, .slice A0_2 l0_2.length c0_2]) (t := 34) Ybf_ ?_; intro gb0 hg w4 hbox hb; have BK0 := Aside0.mk (hbox); have GW0 := Aside0.mk ((by rw [hg]; exact (below_size Yb_) : w.heap.size ≤ gb0)); have GE0 := Aside0.mk ((by rw [hg]; exact (below_size Yb_) : w.heap.size ≤ gb0)); replace HB := Aside0.mk (below_step Yb_ hb); clear hb hbox hg) | ((with_reducible refine gate_dst (N := 4) rfl ?_); (try (refine gate_guard (by rfl) ?_; dsimp only)); refine box_event (by rfl) (N := 4) (by rfl) (cs := #[.slice none 0 0, .int .i64 0, .slice none 0 0]) (t := 34) Ybf_ ?_; intro gb1 hg w5 hbox hb; have BK1 := Aside0.mk (hbox); have GW1 := Aside0.mk ((by rw [hg]; exact (below_size Yd_) : w.heap.size ≤ gb1)); have GE1 := Aside0.mk ((by rw [hg]; exact (below_size Yd_) : w.heap.size ≤ gb1)); replace HB := Aside0.mk (below_step Yd_ hb); have NB0_1 := Aside0.mk ((by rw [hg]; exact Nat.ne_of_lt (blk_lt (g := gb0) (o := .cells #[.slice A0_0 l0_0.length c0_0, .int .i64 a0_1, .slice A0_2 l0_2.length c0_2] 34 (0, 0)) Yc_) : gb0 ≠ gb1)); have NB1_0 := Aside0.mk ((by rw [hg]; exact Nat.ne_of_gt (blk_lt (g := gb0) (o := .cells #[.slice A0_0 l0_0.length c0_0, .int .i64 a0_1, .slice A0_2 l0_2.length c0_2] 34 (0, 0)) Yc_) : gb1 ≠ gb0)); replace BK0 := Aside0.mk (blk_below (g := gb0) (o := .cells #[.slice A0_0 l0_0.length c0_0, .int .i64 a0_1, .slice A0_2 l0_2.length c0_2] 34 (0, 0)) Yc_ hb); clear hb hbox hg))
 (try simp only [Act.put, List.setIfInBounds_toArray, List.set_cons_zero, List.set_cons_succ])
 go_cut [20] (fun v20 wc => ∃ (kq : Nat) (x20_2 : Bool), v20 = .bool x20_2 ∧ Aside0 (Ah.j0 kq l1 x20_2 l0_0 a0_1 l0_2 = some (r1, r2, r3, r4, r5)) ∧ Aside0 (kq ≤ k) ∧ Aside0 (wc.heap[gb0]? = some (.cells #[(.slice A0_0 l0_0.length c0_0), .int .i64 a0_1, (.slice A0_2 l0_2.length c0_2)] 34 (0, 0))) ∧ Aside0 (wc.heap[gb1]? = some (.cells #[(.slice none 0 0), .int .i64 0, (.slice none 0 0)] 34 (0, 0))) ∧ Aside0 (Below w.heap.size w wc))
 case first =>
  have H := HC3.out
  clear HC3
  replace H := Option.bind_eq_some_iff.mp H
  obtain ⟨t721, A60, H⟩ := H
  try dsimp only at H
  have A6 := Aside0.mk A60
  clear A60
  by_cases c7 : t721 = true
  ·subst c7
   have H1 : (Ah.j0 k l1 (decide ((l1.length : Int) > 30)) l0_0 a0_1 l0_2) = some (r1, r2, r3, r4, r5) := by rw [if_pos rfl] at H; exact H
   clear H
   have H := H1
   clear H1
   have H' := Aside0.mk H
   clear H
   have hnb8 := NB0_1.out
   have hnc8 := NB1_0.out
   obtain ⟨hcz9_0, hcz9_1, hcz9_2⟩ := cl3_ BK0.out
   obtain ⟨hfz9_0, hfz9_1, hfz9_2⟩ := fz3_ BK0.out
   go_wp2_with (first | (go_at_call 13; (with_reducible refine (impl_IsValidTerminal.calls k _ _ l0_0 a0_1 _ _ l0_2 true _ ?side1 ?side2 ?side3 ?side4 A6.out).mono ?_); (case side1 => repeat (first | exact (Kd.C_below HR0_0.out HB.out) | (with_reducible refine Kd.C_alloc ?_ _) | (with_reducible refine Kd.C_drewN ?_ _) | (with_reducible refine Kd.C_drew ?_))); (case side2 => exact HC0_0.out); (case side3 => repeat (first | exact (Kd.C_below HR0_2.out HB.out) | (with_reducible refine Kd.C_alloc ?_ _) | (with_reducible refine Kd.C_drewN ?_ _) | (with_reducible refine Kd.C_drew ?_))); (case side4 => exact HC0_2.out); rintro e w10 ⟨rfl, hb⟩; replace BK0 := Aside0.mk (blk_below (g := gb0) (o := .cells #[.slice A0_0 l0_0.length c0_0, .int .i64 a0_1, .slice A0_2 l0_2.length c0_2] 34 (0, 0)) Yc_ hb); replace BK1 := Aside0.mk (blk_below (g := gb1) (o := .cells #[.slice none 0 0, .int .i64 0, .slice none 0 0] 34 (0, 0)) Yg_ hb); replace HB := Aside0.mk (below_step Yf_ hb); (try clear hb); (try clear hb2); (try clear hk); (try clear hi)))
   go_meet
   case rel => exact ⟨_, (decide ((l1.length : Int) > 30)), Ybe_, H', ⟨by first | omega | exact Nat.le_refl _⟩, ⟨by (with_reducible repeat (first | apply blk_drewN | apply blk_drew | apply blk_alloc)); exact BK0.out⟩, ⟨by (with_reducible repeat (first | apply blk_drewN | apply blk_drew | apply blk_alloc)); exact BK1.out⟩, ⟨by repeat (first | (with_reducible first | exact HB.out | apply below_alloc | apply pw_below_drewN | apply below_drew1 | refine below_set ?_ GE0.out | refine below_set ?_ GE1.out) | exact HB.out)⟩⟩
  ·replace c7 := Bool.eq_false_iff.mpr c7
   subst c7
   have H1 : (Ah.j0 k l1 true l0_0 a0_1 l0_2) = some (r1, r2, r3, r4, r5) := by rw [if_neg (show ¬ (false = true) by decide)] at H; exact H
   clear H
   have H := H1
   clear H1
   have H' := Aside0.mk H
   clear H
   have hnb11 := NB0_1.out
   have hnc11 := NB1_0.out
   obtain ⟨hcz12_0, hcz12_1, hcz12_2⟩ := cl3_ BK0.out
   obtain ⟨hfz12_0, hfz12_1, hfz12_2⟩ := fz3_ BK0.out
   go_wp2_with (first | (go_at_call 13; (with_reducible refine (impl_IsValidTerminal.calls k _ _ l0_0 a0_1 _ _ l0_2 false _ ?side1 ?side2 ?side3 ?side4 A6.out).mono ?_); (case side1 => repeat (first | exact (Kd.C_below HR0_0.out HB.out) | (with_reducible refine Kd.C_alloc ?_ _) | (with_reducible refine Kd.C_drewN ?_ _) | (with_reducible refine Kd.C_drew ?_))); (case side2 => exact HC0_0.out); (case side3 => repeat (first | exact (Kd.C_below HR0_2.out HB.out) | (with_reducible refine Kd.C_alloc ?_ _) | (with_reducible refine Kd.C_drewN ?_ _) | (with_reducible refine Kd.C_drew ?_))); (case side4 => exact HC0_2.out); rintro e w13 ⟨rfl, hb⟩; replace BK0 := Aside0.mk (blk_below (g := gb0) (o := .cells #[.slice A0_0 l0_0.length c0_0, .int .i64 a0_1, .slice A0_2 l0_2.length c0_2] 34 (0, 0)) Yc_ hb); replace BK1 := Aside0.mk (blk_below (g := gb1) (o := .cells #[.slice none 0 0, .int .i64 0, .slice none 0 0] 34 (0, 0)) Yg_ hb); replace HB := Aside0.mk (below_step Yf_ hb); (try clear hb); (try clear hb2); (try clear hk); (try clear hi)))
   go_meet
   case rel => exact ⟨_, (true), Ybe_, H', ⟨by first | omega | exact Nat.le_refl _⟩, ⟨by (with_reducible repeat (first | apply blk_drewN | apply blk_drew | apply blk_alloc)); exact BK0.out⟩, ⟨by (with_reducible repeat (first | apply blk_drewN | apply blk_drew | apply blk_alloc)); exact BK1.out⟩, ⟨by repeat (first | (with_reducible first | exact HB.out | apply below_alloc | apply pw_below_drewN | apply below_drew1 | refine below_set ?_ GE0.out | refine below_set ?_ GE1.out) | exact HB.out)⟩⟩
 case rest =>
  clear HC3
  try clear c1; try clear p2; try clear c3; try clear c7; try clear c8; try clear c11; try clear c13; try clear hcz12_0; try clear hcz12_1; try clear hcz12_2; try clear hcz9_0; try clear hcz9_1; try clear hcz9_2; try clear hfz12_0; try clear hfz12_1; try clear hfz12_2; try clear hfz9_0; try clear hfz9_1; try clear hfz9_2
  obtain ⟨kq, x20_2, rfl, HA, HJ2, BK0, BK1, HB⟩ := hcut
  cases kq with
  | zero => exact absurd HA.out (by simp [Ah.j0])
  | succ kj2 =>
   have H := HA.out
   clear HA
   simp only [Ah.j0] at H
   by_cases c14 : x20_2 = true
   ·subst c14
    have H1 : (some (([] : List (List Int)), 0, ([] : List (List Int)), 0, false)) = some (r1, r2, r3, r4, r5) := by rw [if_pos rfl] at H; exact H
    clear H
    have H := H1
    clear H1
    simp only [Option.some.injEq, Prod.mk.injEq] at H
    obtain ⟨rfl, rfl, rfl, rfl, rfl⟩ := H
    have hnb15 := NB1_0.out
    have hnc15 := NB0_1.out
    obtain ⟨hcz16_0, hcz16_1, hcz16_2⟩ := cl3_ BK1.out
    obtain ⟨hfz16_0, hfz16_1, hfz16_2⟩ := fz3_ BK1.out
    go_wp2
    refine bodyPost_ret (Di rfl _ _ gb1 34 #[.slice none 0 0, .int .i64 0, .slice none 0 0] (0, 0) _ rfl Yde_ Try.underlying34 rfl Ybb_) rfl ?_
    exact ⟨fun _ => True, _, _, Yi_, Ych_, Ych_, Yf_⟩
   ·replace c14 := Bool.eq_false_iff.mpr c14
    subst c14
    have H1 : ((impl_ownTerminal.f kj2 l0_0 a0_1 l0_2).bind fun bt722 => (Ah.l0 kj2 l1 l1 (l1.length : Int) 0 bt722.1 bt722.2.1 bt722.2.2)) = some (r1, r2, r3, r4, r5) := by rw [if_neg (show ¬ (false = true) by decide)] at H; exact H
    clear H
    have H := H1
    clear H1
    replace H := Option.bind_eq_some_iff.mp H
    obtain ⟨⟨t722, t725, t726⟩, A170, H⟩ := H
    try dsimp only at H
    have A17 := Aside0.mk A170
    clear A170
    have H' := Aside0.mk H
    clear H
    have hnb18 := NB0_1.out
    have hnc18 := NB1_0.out
    obtain ⟨hcz19_0, hcz19_1, hcz19_2⟩ := cl3_ BK0.out
    obtain ⟨hfz19_0, hfz19_1, hfz19_2⟩ := fz3_ BK0.out
    go_wp2_with (first | (go_at_call 60; (with_reducible refine (impl_ownTerminal.calls2 kj2 _ _ l0_0 a0_1 _ _ l0_2 t722 t725 t726 _ ?side1 ?side2 ?side3 ?side4 A17.out).mono ?_); (case side1 => repeat (first | exact (Kd.C_below HR0_0.out HB.out) | (with_reducible refine Kd.C_alloc ?_ _) | (with_reducible refine Kd.C_drewN ?_ _) | (with_reducible refine Kd.C_drew ?_))); (case side2 => exact HC0_0.out); (case side3 => repeat (first | exact (Kd.C_below HR0_2.out HB.out) | (with_reducible refine Kd.C_alloc ?_ _) | (with_reducible refine Kd.C_drewN ?_ _) | (with_reducible refine Kd.C_drew ?_))); (case side4 => exact HC0_2.out); rintro e w20 ⟨P_, v723, v727, rfl, ho0, ho1, hb⟩; have HO724 := Aside0.mk (Kd.S_lower ho0 (below_size Yf_)); have HO728 := Aside0.mk (Kd.S_lower ho1 (below_size Yf_)); replace BK0 := Aside0.mk (blk_below (g := gb0) (o := .cells #[.slice A0_0 l0_0.length c0_0, .int .i64 a0_1, .slice A0_2 l0_2.length c0_2] 34 (0, 0)) Yc_ hb); replace BK1 := Aside0.mk (blk_below (g := gb1) (o := .cells #[.slice none 0 0, .int .i64 0, .slice none 0 0] 34 (0, 0)) Yg_ hb); replace HB := Aside0.mk (below_step Yf_ hb); (try clear hb); (try clear hb2); (try clear hk); (try clear hi); (try clear ho0); (try clear ho1)) | ((with_reducible refine gate_dst (N := 7) rfl ?_); (try (refine gate_guard (by rfl) ?_; dsimp only)); refine box_event (by rfl) (N := 7) (by rfl) (cs := #[.slice none 0 0, .int .i64 0, .slice none 0 0]) (t := 34) Ybf_ ?_; intro gb2 hg w21 hbox hb; replace HO724 := Aside0.mk (Kd.Ac (by (with_reducible repeat (first | apply Kd.S_alloc | apply Kd.S_drewN | apply Kd.S_drew)); exact HO724.out) hb); replace HO728 := Aside0.mk (Kd.Ac (by (with_reducible repeat (first | apply Kd.S_alloc | apply Kd.S_drewN | apply Kd.S_drew)); exact HO728.out) hb); have BK2 := Aside0.mk (hbox); have GW2 := Aside0.mk ((by rw [hg]; exact (below_size Yf_) : w.heap.size ≤ gb2)); have GE2 := Aside0.mk ((by rw [hg]; exact (below_size Yf_) : w.heap.size ≤ gb2)); replace HB := Aside0.mk (below_step Yf_ hb); have NB0_2 := Aside0.mk ((by rw [hg]; exact Nat.ne_of_lt (blk_lt (g := gb0) (o := .cells #[.slice A0_0 l0_0.length c0_0, .int .i64 a0_1, .slice A0_2 l0_2.length c0_2] 34 (0, 0)) Yc_) : gb0 ≠ gb2)); have NB2_0 := Aside0.mk ((by rw [hg]; exact Nat.ne_of_gt (blk_lt (g := gb0) (o := .cells #[.slice A0_0 l0_0.length c0_0, .int .i64 a0_1, .slice A0_2 l0_2.length c0_2] 34 (0, 0)) Yc_) : gb2 ≠ gb0)); replace BK0 := Aside0.mk (blk_below (g := gb0) (o := .cells #[.slice A0_0 l0_0.length c0_0, .int .i64 a0_1, .slice A0_2 l0_2.length c0_2] 34 (0, 0)) Yc_ hb); have NB1_2 := Aside0.mk ((by rw [hg]; exact Nat.ne_of_lt (blk_lt (g := gb1) (o := .cells #[.slice none 0 0, .int .i64 0, .slice none 0 0] 34 (0, 0)) Yg_) : gb1 ≠ gb2)); have NB2_1 := Aside0.mk ((by rw [hg]; exact Nat.ne_of_gt (blk_lt (g := gb1) (o := .cells #[.slice none 0 0, .int .i64 0, .slice none 0 0] 34 (0, 0)) Yg_) : gb2 ≠ gb1)); replace BK1 := Aside0.mk (blk_below (g := gb1) (o := .cells #[.slice none 0 0, .int .i64 0, .slice none 0 0] 34 (0, 0)) Yg_ hb); clear hb hbox hg; obtain ⟨Ao22, co22, eo22⟩ := Kd.S_slice HO724.out; subst eo22; have hnb23 := NB2_0.out; have hnc23 := NB0_2.out; have hnb24 := NB2_1.out; have hnc24 := NB1_2.out; obtain ⟨hcz25_0, hcz25_1, hcz25_2⟩ := cl3_ BK2.out; obtain ⟨hfz25_0, hfz25_1, hfz25_2⟩ := fz3_ BK2.out; obtain ⟨Ao26, co26, eo26⟩ := Kd.S_slice HO728.out; subst eo26))
    go_loopg [26] kj2 (fun kq v26 w' => ∃ (Q_ : Nat → Prop) (x26_2 : Int) (x721001_2 : Int) (x730000_2 : List (List Int)) (x730001_2 : Int) (x730002_2 : List (List Int)) (u730000 : Value) (u730002 : Value), v26 = .int .i64 x26_2 ∧ Aside0 (Ah.l0 kq l1 l1 (l1.length : Int) x26_2 x730000_2 x730001_2 x730002_2 = some (r1, r2, r3, r4, r5)) ∧ Aside0 (kq ≤ kj2) ∧ Aside0 (Kd.S (Kd.slice 3 (Kd.int .i64)) 73 w' w.heap.size (fun k_ => Q_ k_) u730000 x730000_2) ∧ Aside0 (Kd.S (Kd.slice 3 (Kd.int .i64)) 73 w' w.heap.size (fun k_ => ¬ Q_ k_) u730002 x730002_2) ∧ Aside0 (w'.heap[gb0]? = some (.cells #[(.slice A0_0 l0_0.length c0_0), .int .i64 a0_1, (.slice A0_2 l0_2.length c0_2)] 34 (0, 0))) ∧ Aside0 (w'.heap[gb1]? = some (.cells #[(.slice none 0 0), .int .i64 x721001_2, (.slice none 0 0)] 34 (0, 0))) ∧ Aside0 (w'.heap[gb2]? = some (.cells #[u730000, .int .i64 x730001_2, u730002] 34 (0, 0))) ∧ Aside0 (Below w.heap.size w w'))
    case atStart => exact ⟨_, (0), (0), (t722), (t725), (t726), (.slice Ao22 t722.length co22), (.slice Ao26 t726.length co26), Ybe_, H', ⟨Nat.le_refl _⟩, ⟨by (with_reducible repeat (first | apply Kd.S_alloc | apply Kd.S_drewN | apply Kd.S_drew)); exact Kd.S_mono (Kd.S_far (p := ⟨gb2, 2, none⟩) (Kd.S_far (p := ⟨gb2, 1, none⟩) (Kd.S_far (p := ⟨gb2, 0, none⟩) (Kd.S_types HO724.out BK2.out (by decide)) (fun _ hk => hk.2) (.slice Ao22 t722.length co22)) (fun _ hk => hk.2) (.int .i64 t725)) (fun _ hk => hk.2) (.slice Ao26 t726.length co26)) (fun _ hk => hk.1)⟩, ⟨by (with_reducible repeat (first | apply Kd.S_alloc | apply Kd.S_drewN | apply Kd.S_drew)); exact Kd.S_mono (Kd.S_far (p := ⟨gb2, 2, none⟩) (Kd.S_far (p := ⟨gb2, 1, none⟩) (Kd.S_far (p := ⟨gb2, 0, none⟩) (Kd.S_types HO728.out BK2.out (by decide)) (fun _ hk => hk.2) (.slice Ao22 t722.length co22)) (fun _ hk => hk.2) (.int .i64 t725)) (fun _ hk => hk.2) (.slice Ao26 t726.length co26)) (fun _ hk => hk.1)⟩, ⟨by (with_reducible repeat (first | apply blk_drewN | apply blk_drew | apply blk_alloc)); refine Ai ?_ NB0_2.out _; (with_reducible repeat (first | apply blk_drewN | apply blk_drew | apply blk_alloc)); refine Ai ?_ NB0_2.out _; (with_reducible repeat (first | apply blk_drewN | apply blk_drew | apply blk_alloc)); refine Ai ?_ NB0_2.out _; (with_reducible repeat (first | apply blk_drewN | apply blk_drew | apply blk_alloc)); exact BK0.out⟩, ⟨by (with_reducible repeat (first | apply blk_drewN | apply blk_drew | apply blk_alloc)); refine Ai ?_ NB1_2.out _; (with_reducible repeat (first | apply blk_drewN | apply blk_drew | apply blk_alloc)); refine Ai ?_ NB1_2.out _; (with_reducible repeat (first | apply blk_drewN | apply blk_drew | apply blk_alloc)); refine Ai ?_ NB1_2.out _; (with_reducible repeat (first | apply blk_drewN | apply blk_drew | apply blk_alloc)); exact BK1.out⟩, ⟨by (with_reducible repeat (first | apply blk_drewN | apply blk_drew | apply blk_alloc)); refine blk_put (cs := #[.slice Ao22 t722.length co22, .int .i64 t725, .slice none 0 0]) ?_ 2 _ rfl; (with_reducible repeat (first | apply blk_drewN | apply blk_drew | apply blk_alloc)); refine blk_put (cs := #[.slice Ao22 t722.length co22, .int .i64 0, .slice none 0 0]) ?_ 1 _ rfl; (with_reducible repeat (first | apply blk_drewN | apply blk_drew | apply blk_alloc)); refine blk_put (cs := #[.slice none 0 0, .int .i64 0, .slice none 0 0]) ?_ 0 _ rfl; (with_reducible repeat (first | apply blk_drewN | apply blk_drew | apply blk_alloc)); exact BK2.out⟩, ⟨by repeat (first | (with_reducible first | exact HB.out | apply below_alloc | apply pw_below_drewN | apply below_drew1 | refine below_set ?_ GE0.out | refine below_set ?_ GE1.out | refine below_set ?_ GE2.out) | exact HB.out)⟩⟩
    case round =>
     clear H'
     try clear c1; try clear c2; try clear p2; try clear c3; try clear c6; try clear c7; try clear c8; try clear c11; try clear c13; try clear c14; try clear c15; try clear c18; try clear c23; try clear c24; try clear hcz12_0; try clear hcz12_1; try clear hcz12_2; try clear hcz16_0; try clear hcz16_1; try clear hcz16_2; try clear hcz19_0; try clear hcz19_1; try clear hcz19_2; try clear hcz25_0; try clear hcz25_1; try clear hcz25_2; try clear hcz9_0; try clear hcz9_1; try clear hcz9_2; try clear hfz12_0; try clear hfz12_1; try clear hfz12_2; try clear hfz16_0; try clear hfz16_1; try clear hfz16_2; try clear hfz19_0; try clear hfz19_1; try clear hfz19_2; try clear hfz25_0; try clear hfz25_1; try clear hfz25_2; try clear hfz9_0; try clear hfz9_1; try clear hfz9_2; try clear p2
     obtain ⟨Q_, x26_2, x721001_2, x730000_2, x730001_2, x730002_2, u730000, u730002, rfl, HA, HK2, HO_730000, HO_730002, BK0, BK1, BK2, HB⟩ := hrel
     cases gk with
     | zero => exact absurd HA.out (by simp [Ah.l0])
     | succ k2 =>
      have H := HA.out
      clear HA
      simp only [Ah.l0] at H
      by_cases c27 : x26_2 < (l1.length : Int)
      ·rw [if_pos c27] at H
       have c27b0 : decide (x26_2 < (l1.length : Int)) = true := decide_eq_true c27
       clear c27
       by_cases c28 : 0 ≤ x26_2
       ·rw [if_pos c28] at H
        have c28b0 : decide (0 ≤ x26_2) = true := decide_eq_true c28
        clear c28
        by_cases c29 : x26_2 < (l1.length : Int)
        ·rw [if_pos c29] at H
         have c29b0 : decide (x26_2 < (l1.length : Int)) = true := decide_eq_true c29
         clear c29
         replace H := Option.bind_eq_some_iff.mp H
         obtain ⟨⟨t732, t735, t736, t739, t740⟩, A300, H⟩ := H
         try dsimp only at H
         have A30 := Aside0.mk A300
         clear A300
         by_cases c31 : t740 = true
         ·subst c31
          have H1 : (Ah.l0 k2 l1 l1 (l1.length : Int) (wrap64 (x26_2 + 1)) t732 t735 t736) = some (r1, r2, r3, r4, r5) := by rw [if_pos rfl] at H; exact H
          clear H
          have H := H1
          clear H1
          have H' := Aside0.mk H
          clear H
          have p730 : 0 ≤ (x26_2 : Int) := of_decide_eq_true Yh_
          have q730 : x26_2 < (l1.length : Int) := of_decide_eq_true Yh_
          obtain ⟨ad730, e730, hx730_0, hx730_1, hx730_2⟩ := E5 HR1.out x26_2 p730 q730
          cases e730
          replace hx730_0 := (HB.out.cell (World.block_lt_of_cell? w _ hx730_0)).trans hx730_0
          replace hx730_1 := (HB.out.cell (World.block_lt_of_cell? w _ hx730_1)).trans hx730_1
          replace hx730_2 := (HB.out.cell (World.block_lt_of_cell? w _ hx730_2)).trans hx730_2
          replace p730 := eq_true p730
          replace q730 := eq_true q730
          go_wp2_with (first | ((with_reducible refine gate_dst (N := 9) rfl ?_); (try (refine gate_guard (by rfl) ?_; dsimp only)); refine box_event (by rfl) (N := 9) (by rfl) (cs := #[.int .i64 0, .int .i64 0, .int .i64 0]) (t := 43) Ybf_ ?_; intro gb3 hg w32 hbox hb; replace HO_730000 := Aside0.mk (Kd.Ac Yfc_ hb); replace HO_730002 := Aside0.mk (Kd.Ac Yfd_ hb); have BK3 := Aside0.mk (hbox); have GW3 := Aside0.mk ((by rw [hg]; exact (below_size Ye_) : w.heap.size ≤ gb3)); have GE3 := Aside0.mk ((by rw [hg]; exact (below_size Ye_) : w.heap.size ≤ gb3)); replace HB := Aside0.mk (below_step Ye_ hb); have NB0_3 := Aside0.mk ((by rw [hg]; exact Nat.ne_of_lt (blk_lt (g := gb0) (o := .cells #[.slice A0_0 l0_0.length c0_0, .int .i64 a0_1, .slice A0_2 l0_2.length c0_2] 34 (0, 0)) Yc_) : gb0 ≠ gb3)); have NB3_0 := Aside0.mk ((by rw [hg]; exact Nat.ne_of_gt (blk_lt (g := gb0) (o := .cells #[.slice A0_0 l0_0.length c0_0, .int .i64 a0_1, .slice A0_2 l0_2.length c0_2] 34 (0, 0)) Yc_) : gb3 ≠ gb0)); replace BK0 := Aside0.mk (blk_below (g := gb0) (o := .cells #[.slice A0_0 l0_0.length c0_0, .int .i64 a0_1, .slice A0_2 l0_2.length c0_2] 34 (0, 0)) Yc_ hb); have NB1_3 := Aside0.mk ((by rw [hg]; exact Nat.ne_of_lt (blk_lt (g := gb1) (o := .cells #[.slice none 0 0, .int .i64 x721001_2, .slice none 0 0] 34 (0, 0)) Yg_) : gb1 ≠ gb3)); have NB3_1 := Aside0.mk ((by rw [hg]; exact Nat.ne_of_gt (blk_lt (g := gb1) (o := .cells #[.slice none 0 0, .int .i64 x721001_2, .slice none 0 0] 34 (0, 0)) Yg_) : gb3 ≠ gb1)); replace BK1 := Aside0.mk (blk_below (g := gb1) (o := .cells #[.slice none 0 0, .int .i64 x721001_2, .slice none 0 0] 34 (0, 0)) Yg_ hb); have NB2_3 := Aside0.mk ((by rw [hg]; exact Nat.ne_of_lt (blk_lt (g := gb2) (o := .cells #[u730000, .int .i64 x730001_2, u730002] 34 (0, 0)) Ybd_) : gb2 ≠ gb3)); have NB3_2 := Aside0.mk ((by rw [hg]; exact Nat.ne_of_gt (blk_lt (g := gb2) (o := .cells #[u730000, .int .i64 x730001_2, u730002] 34 (0, 0)) Ybd_) : gb3 ≠ gb2)); replace BK2 := Aside0.mk (blk_below (g := gb2) (o := .cells #[u730000, .int .i64 x730001_2, u730002] 34 (0, 0)) Ybd_ hb); clear hb hbox hg; have hnb33 := NB3_0.out; have hnc33 := NB0_3.out; have hnb34 := NB3_1.out; have hnc34 := NB1_3.out; have hnb35 := NB3_2.out; have hnc35 := NB2_3.out; obtain ⟨hcz36_0, hcz36_1, hcz36_2⟩ := cl3_ BK3.out; obtain ⟨hfz36_0, hfz36_1, hfz36_2⟩ := fz3_ BK3.out; have hnb37 := NB2_0.out; have hnc37 := NB0_2.out; have hnb38 := NB2_1.out; have hnc38 := NB1_2.out; obtain ⟨hcz39_0, hcz39_1, hcz39_2⟩ := cl3_ BK2.out; obtain ⟨hfz39_0, hfz39_1, hfz39_2⟩ := fz3_ BK2.out; obtain ⟨Ao40, co40, eo40⟩ := Kd.S_slice HO_730000.out; subst eo40; obtain ⟨Ao41, co41, eo41⟩ := Kd.S_slice HO_730002.out; subst eo41) | (go_at_call 50; (with_reducible refine (impl_makeOrder.calls2 k2 _ _ x730000_2 x730001_2 _ _ x730002_2 ((Aa l1 x26_2).f0) ((Aa l1 x26_2).f1) ((Aa l1 x26_2).f2) t732 t735 t736 t739 true _ ?side1 ?side2 ?side3 ?side4 A30.out).mono ?_); (case side1 => refine (Kd.Af (e := 73) (base := w.heap.size) (ok := fun k_ => Q_ k_) (n := x730000_2.length) (c := co40) ?_).2.2; exact Yca_); (case side2 => exact (Kd.Af HO_730000.out).2.1); (case side3 => refine (Kd.Af (e := 73) (base := w.heap.size) (ok := fun k_ => ¬ Q_ k_) (n := x730002_2.length) (c := co41) ?_).2.2; exact Ycb_); (case side4 => exact (Kd.Af HO_730002.out).2.1); rintro e w42 ⟨P_, v733, v737, rfl, ho0, ho1, hb⟩; have HO734 := Aside0.mk (Kd.S_lower (Kd.D9 (Kd.D9 ho0 (Kd.S_lt Yca_)) (Kd.S_lt Ycb_)) (below_size Ybc_)); have HO738 := Aside0.mk (Kd.S_lower (Kd.D9 (Kd.D9 ho1 (Kd.S_lt Yca_)) (Kd.S_lt Ycb_)) (below_size Ybc_)); replace HO_730000 := Aside0.mk (Kd.S_mono (Kd.Ea (Kd.Ea (Kd.S_old Yca_ hb) (Kd.Eb ho0)) (Kd.Eb ho1)) (fun _ h_ => h_.1)); replace HO_730002 := Aside0.mk (Kd.S_mono (Kd.Ea (Kd.Ea (Kd.S_old Ycb_ hb) (Kd.Eb ho0)) (Kd.Eb ho1)) (fun _ h_ => h_.1)); replace BK0 := Aside0.mk (blk_below (g := gb0) (o := .cells #[.slice A0_0 l0_0.length c0_0, .int .i64 a0_1, .slice A0_2 l0_2.length c0_2] 34 (0, 0)) Yea_ hb); replace BK1 := Aside0.mk (blk_below (g := gb1) (o := .cells #[.slice none 0 0, .int .i64 x721001_2, .slice none 0 0] 34 (0, 0)) Yeb_ hb); replace BK2 := Aside0.mk (blk_below (g := gb2) (o := .cells #[.slice Ao40 x730000_2.length co40, .int .i64 x730001_2, .slice Ao41 x730002_2.length co41] 34 (0, 0)) Yec_ hb); replace BK3 := Aside0.mk (blk_below (g := gb3) (o := .cells #[.int .i64 ((Aa l1 x26_2).f0), .int .i64 ((Aa l1 x26_2).f1), .int .i64 ((Aa l1 x26_2).f2)] 43 (0, 0)) Ydd_ hb); replace HB := Aside0.mk (below_step Ybc_ hb); (try clear hb); (try clear hb2); (try clear hk); (try clear hi); (try clear ho0); (try clear ho1)) | ((with_reducible refine gate_dst (N := 10) rfl ?_); (try (refine gate_guard (by rfl) ?_; dsimp only)); refine box_event (by rfl) (N := 10) (by rfl) (cs := #[.slice none 0 0, .int .i64 0, .slice none 0 0]) (t := 34) Ybf_ ?_; intro gb4 hg w43 hbox hb; replace HO_730000 := Aside0.mk (Kd.Ac Yfc_ hb); replace HO_730002 := Aside0.mk (Kd.Ac Yfd_ hb); replace HO734 := Aside0.mk (Kd.Ac Yha_ hb); replace HO738 := Aside0.mk (Kd.Ac Yhb_ hb); have BK4 := Aside0.mk (hbox); have GW4 := Aside0.mk ((by rw [hg]; exact (below_size Ybc_) : w.heap.size ≤ gb4)); have GE4 := Aside0.mk ((by rw [hg]; exact (below_size Ybc_) : w.heap.size ≤ gb4)); replace HB := Aside0.mk (below_step Ybc_ hb); have NB0_4 := Aside0.mk ((by rw [hg]; exact Nat.ne_of_lt (blk_lt (g := gb0) (o := .cells #[.slice A0_0 l0_0.length c0_0, .int .i64 a0_1, .slice A0_2 l0_2.length c0_2] 34 (0, 0)) Yc_) : gb0 ≠ gb4)); have NB4_0 := Aside0.mk ((by rw [hg]; exact Nat.ne_of_gt (blk_lt (g := gb0) (o := .cells #[.slice A0_0 l0_0.length c0_0, .int .i64 a0_1, .slice A0_2 l0_2.length c0_2] 34 (0, 0)) Yc_) : gb4 ≠ gb0)); replace BK0 := Aside0.mk (blk_below (g := gb0) (o := .cells #[.slice A0_0 l0_0.length c0_0, .int .i64 a0_1, .slice A0_2 l0_2.length c0_2] 34 (0, 0)) Yc_ hb); have NB1_4 := Aside0.mk ((by rw [hg]; exact Nat.ne_of_lt (blk_lt (g := gb1) (o := .cells #[.slice none 0 0, .int .i64 x721001_2, .slice none 0 0] 34 (0, 0)) Yg_) : gb1 ≠ gb4)); have NB4_1 := Aside0.mk ((by rw [hg]; exact Nat.ne_of_gt (blk_lt (g := gb1) (o := .cells #[.slice none 0 0, .int .i64 x721001_2, .slice none 0 0] 34 (0, 0)) Yg_) : gb4 ≠ gb1)); replace BK1 := Aside0.mk (blk_below (g := gb1) (o := .cells #[.slice none 0 0, .int .i64 x721001_2, .slice none 0 0] 34 (0, 0)) Yg_ hb); have NB2_4 := Aside0.mk ((by rw [hg]; exact Nat.ne_of_lt (blk_lt (g := gb2) (o := .cells #[.slice Ao40 x730000_2.length co40, .int .i64 x730001_2, .slice Ao41 x730002_2.length co41] 34 (0, 0)) Ybd_) : gb2 ≠ gb4)); have NB4_2 := Aside0.mk ((by rw [hg]; exact Nat.ne_of_gt (blk_lt (g := gb2) (o := .cells #[.slice Ao40 x730000_2.length co40, .int .i64 x730001_2, .slice Ao41 x730002_2.length co41] 34 (0, 0)) Ybd_) : gb4 ≠ gb2)); replace BK2 := Aside0.mk (blk_below (g := gb2) (o := .cells #[.slice Ao40 x730000_2.length co40, .int .i64 x730001_2, .slice Ao41 x730002_2.length co41] 34 (0, 0)) Ybd_ hb); have NB3_4 := Aside0.mk ((by rw [hg]; exact Nat.ne_of_lt (blk_lt (g := gb3) (o := .cells #[.int .i64 ((Aa l1 x26_2).f0), .int .i64 ((Aa l1 x26_2).f1), .int .i64 ((Aa l1 x26_2).f2)] 43 (0, 0)) Ycf_) : gb3 ≠ gb4)); have NB4_3 := Aside0.mk ((by rw [hg]; exact Nat.ne_of_gt (blk_lt (g := gb3) (o := .cells #[.int .i64 ((Aa l1 x26_2).f0), .int .i64 ((Aa l1 x26_2).f1), .int .i64 ((Aa l1 x26_2).f2)] 43 (0, 0)) Ycf_) : gb4 ≠ gb3)); replace BK3 := Aside0.mk (blk_below (g := gb3) (o := .cells #[.int .i64 ((Aa l1 x26_2).f0), .int .i64 ((Aa l1 x26_2).f1), .int .i64 ((Aa l1 x26_2).f2)] 43 (0, 0)) Ycf_ hb); clear hb hbox hg; obtain ⟨Ao44, co44, eo44⟩ := Kd.S_slice HO734.out; subst eo44; have hnb45 := NB4_0.out; have hnc45 := NB0_4.out; have hnb46 := NB4_1.out; have hnc46 := NB1_4.out; have hnb47 := NB4_2.out; have hnc47 := NB2_4.out; have hnb48 := NB4_3.out; have hnc48 := NB3_4.out; obtain ⟨hcz49_0, hcz49_1, hcz49_2⟩ := cl3_ BK4.out; obtain ⟨hfz49_0, hfz49_1, hfz49_2⟩ := fz3_ BK4.out; obtain ⟨Ao50, co50, eo50⟩ := Kd.S_slice HO738.out; subst eo50; obtain ⟨hcz51_0, hcz51_1, hcz51_2⟩ := cl3_ BK2.out; obtain ⟨hfz51_0, hfz51_1, hfz51_2⟩ := fz3_ BK2.out))
          go_roundg k2
          case measure => have := HJ2.out; have := HK2.out; omega
          case rel => exact ⟨_, (wrap64 (x26_2 + 1)), (x721001_2), (t732), (t735), (t736), (.slice Ao44 t732.length co44), (.slice Ao50 t736.length co50), Ybe_, H', ⟨by have := HJ2.out; have := HK2.out; omega⟩, ⟨by (with_reducible repeat (first | apply Kd.S_alloc | apply Kd.S_drewN | apply Kd.S_drew)); exact Kd.S_mono (Kd.S_far (p := ⟨gb2, 2, none⟩) (Kd.S_far (p := ⟨gb2, 1, none⟩) (Kd.S_far (p := ⟨gb2, 0, none⟩) (Kd.S_far (p := ⟨gb4, 2, none⟩) (Kd.S_far (p := ⟨gb4, 1, none⟩) (Kd.S_far (p := ⟨gb4, 0, none⟩) (Kd.S_types (Kd.S_types HO734.out BK4.out (by decide)) BK2.out (by decide)) (fun _ hk => hk.1.2) (.slice Ao44 t732.length co44)) (fun _ hk => hk.1.2) (.int .i64 t735)) (fun _ hk => hk.1.2) (.slice Ao50 t736.length co50)) (fun _ hk => hk.2) (.slice Ao44 t732.length co44)) (fun _ hk => hk.2) (.int .i64 t735)) (fun _ hk => hk.2) (.slice Ao50 t736.length co50)) (fun _ hk => hk.1.1.1.1)⟩, ⟨by (with_reducible repeat (first | apply Kd.S_alloc | apply Kd.S_drewN | apply Kd.S_drew)); exact Kd.S_mono (Kd.S_far (p := ⟨gb2, 2, none⟩) (Kd.S_far (p := ⟨gb2, 1, none⟩) (Kd.S_far (p := ⟨gb2, 0, none⟩) (Kd.S_far (p := ⟨gb4, 2, none⟩) (Kd.S_far (p := ⟨gb4, 1, none⟩) (Kd.S_far (p := ⟨gb4, 0, none⟩) (Kd.S_types (Kd.S_types HO738.out BK4.out (by decide)) BK2.out (by decide)) (fun _ hk => hk.1.2) (.slice Ao44 t732.length co44)) (fun _ hk => hk.1.2) (.int .i64 t735)) (fun _ hk => hk.1.2) (.slice Ao50 t736.length co50)) (fun _ hk => hk.2) (.slice Ao44 t732.length co44)) (fun _ hk => hk.2) (.int .i64 t735)) (fun _ hk => hk.2) (.slice Ao50 t736.length co50)) (fun _ hk => hk.1.1.1.1)⟩, ⟨by (with_reducible repeat (first | apply blk_drewN | apply blk_drew | apply blk_alloc)); refine Ai ?_ NB0_2.out _; (with_reducible repeat (first | apply blk_drewN | apply blk_drew | apply blk_alloc)); refine Ai ?_ NB0_2.out _; (with_reducible repeat (first | apply blk_drewN | apply blk_drew | apply blk_alloc)); refine Ai ?_ NB0_2.out _; (with_reducible repeat (first | apply blk_drewN | apply blk_drew | apply blk_alloc)); refine Ai ?_ NB0_4.out _; (with_reducible repeat (first | apply blk_drewN | apply blk_drew | apply blk_alloc)); refine Ai ?_ NB0_4.out _; (with_reducible repeat (first | apply blk_drewN | apply blk_drew | apply blk_alloc)); refine Ai ?_ NB0_4.out _; (with_reducible repeat (first | apply blk_drewN | apply blk_drew | apply blk_alloc)); exact BK0.out⟩, ⟨by (with_reducible repeat (first | apply blk_drewN | apply blk_drew | apply blk_alloc)); refine Ai ?_ NB1_2.out _; (with_reducible repeat (first | apply blk_drewN | apply blk_drew | apply blk_alloc)); refine Ai ?_ NB1_2.out _; (with_reducible repeat (first | apply blk_drewN | apply blk_drew | apply blk_alloc)); refine Ai ?_ NB1_2.out _; (with_reducible repeat (first | apply blk_drewN | apply blk_drew | apply blk_alloc)); refine Ai ?_ NB1_4.out _; (with_reducible repeat (first | apply blk_drewN | apply blk_drew | apply blk_alloc)); refine Ai ?_ NB1_4.out _; (with_reducible repeat (first | apply blk_drewN | apply blk_drew | apply blk_alloc)); refine Ai ?_ NB1_4.out _; (with_reducible repeat (first | apply blk_drewN | apply blk_drew | apply blk_alloc)); exact BK1.out⟩, ⟨by (with_reducible repeat (first | apply blk_drewN | apply blk_drew | apply blk_alloc)); refine blk_put (cs := #[.slice Ao44 t732.length co44, .int .i64 t735, .slice Ao41 x730002_2.length co41]) ?_ 2 _ rfl; (with_reducible repeat (first | apply blk_drewN | apply blk_drew | apply blk_alloc)); refine blk_put (cs := #[.slice Ao44 t732.length co44, .int .i64 x730001_2, .slice Ao41 x730002_2.length co41]) ?_ 1 _ rfl; (with_reducible repeat (first | apply blk_drewN | apply blk_drew | apply blk_alloc)); refine blk_put (cs := #[.slice Ao40 x730000_2.length co40, .int .i64 x730001_2, .slice Ao41 x730002_2.length co41]) ?_ 0 _ rfl; (with_reducible repeat (first | apply blk_drewN | apply blk_drew | apply blk_alloc)); refine Ai ?_ NB2_4.out _; (with_reducible repeat (first | apply blk_drewN | apply blk_drew | apply blk_alloc)); refine Ai ?_ NB2_4.out _; (with_reducible repeat (first | apply blk_drewN | apply blk_drew | apply blk_alloc)); refine Ai ?_ NB2_4.out _; (with_reducible repeat (first | apply blk_drewN | apply blk_drew | apply blk_alloc)); exact BK2.out⟩, ⟨by repeat (first | (with_reducible first | exact HB.out | apply below_alloc | apply pw_below_drewN | apply below_drew1 | refine below_set ?_ GE0.out | refine below_set ?_ GE1.out | refine below_set ?_ GE2.out | refine below_set ?_ GE3.out | refine below_set ?_ GE4.out) | exact HB.out)⟩⟩
         ·replace c31 := Bool.eq_false_iff.mpr c31
          subst c31
          have H1 : (some (x730000_2, x730001_2, x730002_2, x26_2, true)) = some (r1, r2, r3, r4, r5) := by rw [if_neg (show ¬ (false = true) by decide)] at H; exact H
          clear H
          have H := H1
          clear H1
          simp only [Option.some.injEq, Prod.mk.injEq] at H
          obtain ⟨rfl, rfl, rfl, rfl, rfl⟩ := H
          have p730 : 0 ≤ (x26_2 : Int) := of_decide_eq_true Yh_
          have q730 : x26_2 < (l1.length : Int) := of_decide_eq_true Yh_
          obtain ⟨ad730, e730, hx730_0, hx730_1, hx730_2⟩ := E5 HR1.out x26_2 p730 q730
          cases e730
          replace hx730_0 := (HB.out.cell (World.block_lt_of_cell? w _ hx730_0)).trans hx730_0
          replace hx730_1 := (HB.out.cell (World.block_lt_of_cell? w _ hx730_1)).trans hx730_1
          replace hx730_2 := (HB.out.cell (World.block_lt_of_cell? w _ hx730_2)).trans hx730_2
          replace p730 := eq_true p730
          replace q730 := eq_true q730
          go_wp2_with (first | ((with_reducible refine gate_dst (N := 9) rfl ?_); (try (refine gate_guard (by rfl) ?_; dsimp only)); refine box_event (by rfl) (N := 9) (by rfl) (cs := #[.int .i64 0, .int .i64 0, .int .i64 0]) (t := 43) Ybf_ ?_; intro gb3 hg w52 hbox hb; replace HO_730000 := Aside0.mk (Kd.Ac Yfc_ hb); replace HO_730002 := Aside0.mk (Kd.Ac Yfd_ hb); have BK3 := Aside0.mk (hbox); have GW3 := Aside0.mk ((by rw [hg]; exact (below_size Ye_) : w.heap.size ≤ gb3)); have GE3 := Aside0.mk ((by rw [hg]; exact (below_size Ye_) : w.heap.size ≤ gb3)); replace HB := Aside0.mk (below_step Ye_ hb); have NB0_3 := Aside0.mk ((by rw [hg]; exact Nat.ne_of_lt (blk_lt (g := gb0) (o := .cells #[.slice A0_0 l0_0.length c0_0, .int .i64 a0_1, .slice A0_2 l0_2.length c0_2] 34 (0, 0)) Yc_) : gb0 ≠ gb3)); have NB3_0 := Aside0.mk ((by rw [hg]; exact Nat.ne_of_gt (blk_lt (g := gb0) (o := .cells #[.slice A0_0 l0_0.length c0_0, .int .i64 a0_1, .slice A0_2 l0_2.length c0_2] 34 (0, 0)) Yc_) : gb3 ≠ gb0)); replace BK0 := Aside0.mk (blk_below (g := gb0) (o := .cells #[.slice A0_0 l0_0.length c0_0, .int .i64 a0_1, .slice A0_2 l0_2.length c0_2] 34 (0, 0)) Yc_ hb); have NB1_3 := Aside0.mk ((by rw [hg]; exact Nat.ne_of_lt (blk_lt (g := gb1) (o := .cells #[.slice none 0 0, .int .i64 x721001_2, .slice none 0 0] 34 (0, 0)) Yg_) : gb1 ≠ gb3)); have NB3_1 := Aside0.mk ((by rw [hg]; exact Nat.ne_of_gt (blk_lt (g := gb1) (o := .cells #[.slice none 0 0, .int .i64 x721001_2, .slice none 0 0] 34 (0, 0)) Yg_) : gb3 ≠ gb1)); replace BK1 := Aside0.mk (blk_below (g := gb1) (o := .cells #[.slice none 0 0, .int .i64 x721001_2, .slice none 0 0] 34 (0, 0)) Yg_ hb); have NB2_3 := Aside0.mk ((by rw [hg]; exact Nat.ne_of_lt (blk_lt (g := gb2) (o := .cells #[u730000, .int .i64 x730001_2, u730002] 34 (0, 0)) Ybd_) : gb2 ≠ gb3)); have NB3_2 := Aside0.mk ((by rw [hg]; exact Nat.ne_of_gt (blk_lt (g := gb2) (o := .cells #[u730000, .int .i64 x730001_2, u730002] 34 (0, 0)) Ybd_) : gb3 ≠ gb2)); replace BK2 := Aside0.mk (blk_below (g := gb2) (o := .cells #[u730000, .int .i64 x730001_2, u730002] 34 (0, 0)) Ybd_ hb); clear hb hbox hg; have hnb53 := NB3_0.out; have hnc53 := NB0_3.out; have hnb54 := NB3_1.out; have hnc54 := NB1_3.out; have hnb55 := NB3_2.out; have hnc55 := NB2_3.out; obtain ⟨hcz56_0, hcz56_1, hcz56_2⟩ := cl3_ BK3.out; obtain ⟨hfz56_0, hfz56_1, hfz56_2⟩ := fz3_ BK3.out; have hnb57 := NB2_0.out; have hnc57 := NB0_2.out; have hnb58 := NB2_1.out; have hnc58 := NB1_2.out; obtain ⟨hcz59_0, hcz59_1, hcz59_2⟩ := cl3_ BK2.out; obtain ⟨hfz59_0, hfz59_1, hfz59_2⟩ := fz3_ BK2.out; obtain ⟨Ao60, co60, eo60⟩ := Kd.S_slice HO_730000.out; subst eo60; obtain ⟨Ao61, co61, eo61⟩ := Kd.S_slice HO_730002.out; subst eo61) | (go_at_call 50; (with_reducible refine (impl_makeOrder.calls2 k2 _ _ x730000_2 x730001_2 _ _ x730002_2 ((Aa l1 x26_2).f0) ((Aa l1 x26_2).f1) ((Aa l1 x26_2).f2) t732 t735 t736 t739 false _ ?side1 ?side2 ?side3 ?side4 A30.out).mono ?_); (case side1 => refine (Kd.Af (e := 73) (base := w.heap.size) (ok := fun k_ => Q_ k_) (n := x730000_2.length) (c := co60) ?_).2.2; exact Yca_); (case side2 => exact (Kd.Af HO_730000.out).2.1); (case side3 => refine (Kd.Af (e := 73) (base := w.heap.size) (ok := fun k_ => ¬ Q_ k_) (n := x730002_2.length) (c := co61) ?_).2.2; exact Ycb_); (case side4 => exact (Kd.Af HO_730002.out).2.1); rintro e w62 ⟨P_, v733, v737, rfl, ho0, ho1, hb⟩; have HO734 := Aside0.mk (Kd.S_lower (Kd.D9 (Kd.D9 ho0 (Kd.S_lt Yca_)) (Kd.S_lt Ycb_)) (below_size Ybc_)); have HO738 := Aside0.mk (Kd.S_lower (Kd.D9 (Kd.D9 ho1 (Kd.S_lt Yca_)) (Kd.S_lt Ycb_)) (below_size Ybc_)); replace HO_730000 := Aside0.mk (Kd.S_mono (Kd.Ea (Kd.Ea (Kd.S_old Yca_ hb) (Kd.Eb ho0)) (Kd.Eb ho1)) (fun _ h_ => h_.1)); replace HO_730002 := Aside0.mk (Kd.S_mono (Kd.Ea (Kd.Ea (Kd.S_old Ycb_ hb) (Kd.Eb ho0)) (Kd.Eb ho1)) (fun _ h_ => h_.1)); replace BK0 := Aside0.mk (blk_below (g := gb0) (o := .cells #[.slice A0_0 l0_0.length c0_0, .int .i64 a0_1, .slice A0_2 l0_2.length c0_2] 34 (0, 0)) Yea_ hb); replace BK1 := Aside0.mk (blk_below (g := gb1) (o := .cells #[.slice none 0 0, .int .i64 x721001_2, .slice none 0 0] 34 (0, 0)) Yeb_ hb); replace BK2 := Aside0.mk (blk_below (g := gb2) (o := .cells #[.slice Ao60 x730000_2.length co60, .int .i64 x730001_2, .slice Ao61 x730002_2.length co61] 34 (0, 0)) Yec_ hb); replace BK3 := Aside0.mk (blk_below (g := gb3) (o := .cells #[.int .i64 ((Aa l1 x26_2).f0), .int .i64 ((Aa l1 x26_2).f1), .int .i64 ((Aa l1 x26_2).f2)] 43 (0, 0)) Ydd_ hb); replace HB := Aside0.mk (below_step Ybc_ hb); (try clear hb); (try clear hb2); (try clear hk); (try clear hi); (try clear ho0); (try clear ho1)) | ((with_reducible refine gate_dst (N := 10) rfl ?_); (try (refine gate_guard (by rfl) ?_; dsimp only)); refine box_event (by rfl) (N := 10) (by rfl) (cs := #[.slice none 0 0, .int .i64 0, .slice none 0 0]) (t := 34) Ybf_ ?_; intro gb4 hg w63 hbox hb; replace HO_730000 := Aside0.mk (Kd.Ac Yfc_ hb); replace HO_730002 := Aside0.mk (Kd.Ac Yfd_ hb); replace HO734 := Aside0.mk (Kd.Ac Yha_ hb); replace HO738 := Aside0.mk (Kd.Ac Yhb_ hb); have BK4 := Aside0.mk (hbox); have GW4 := Aside0.mk ((by rw [hg]; exact (below_size Ybc_) : w.heap.size ≤ gb4)); have GE4 := Aside0.mk ((by rw [hg]; exact (below_size Ybc_) : w.heap.size ≤ gb4)); replace HB := Aside0.mk (below_step Ybc_ hb); have NB0_4 := Aside0.mk ((by rw [hg]; exact Nat.ne_of_lt (blk_lt (g := gb0) (o := .cells #[.slice A0_0 l0_0.length c0_0, .int .i64 a0_1, .slice A0_2 l0_2.length c0_2] 34 (0, 0)) Yc_) : gb0 ≠ gb4)); have NB4_0 := Aside0.mk ((by rw [hg]; exact Nat.ne_of_gt (blk_lt (g := gb0) (o := .cells #[.slice A0_0 l0_0.length c0_0, .int .i64 a0_1, .slice A0_2 l0_2.length c0_2] 34 (0, 0)) Yc_) : gb4 ≠ gb0)); replace BK0 := Aside0.mk (blk_below (g := gb0) (o := .cells #[.slice A0_0 l0_0.length c0_0, .int .i64 a0_1, .slice A0_2 l0_2.length c0_2] 34 (0, 0)) Yc_ hb); have NB1_4 := Aside0.mk ((by rw [hg]; exact Nat.ne_of_lt (blk_lt (g := gb1) (o := .cells #[.slice none 0 0, .int .i64 x721001_2, .slice none 0 0] 34 (0, 0)) Yg_) : gb1 ≠ gb4)); have NB4_1 := Aside0.mk ((by rw [hg]; exact Nat.ne_of_gt (blk_lt (g := gb1) (o := .cells #[.slice none 0 0, .int .i64 x721001_2, .slice none 0 0] 34 (0, 0)) Yg_) : gb4 ≠ gb1)); replace BK1 := Aside0.mk (blk_below (g := gb1) (o := .cells #[.slice none 0 0, .int .i64 x721001_2, .slice none 0 0] 34 (0, 0)) Yg_ hb); have NB2_4 := Aside0.mk ((by rw [hg]; exact Nat.ne_of_lt (blk_lt (g := gb2) (o := .cells #[.slice Ao60 x730000_2.length co60, .int .i64 x730001_2, .slice Ao61 x730002_2.length co61] 34 (0, 0)) Ybd_) : gb2 ≠ gb4)); have NB4_2 := Aside0.mk ((by rw [hg]; exact Nat.ne_of_gt (blk_lt (g := gb2) (o := .cells #[.slice Ao60 x730000_2.length co60, .int .i64 x730001_2, .slice Ao61 x730002_2.length co61] 34 (0, 0)) Ybd_) : gb4 ≠ gb2)); replace BK2 := Aside0.mk (blk_below (g := gb2) (o := .cells #[.slice Ao60 x730000_2.length co60, .int .i64 x730001_2, .slice Ao61 x730002_2.length co61] 34 (0, 0)) Ybd_ hb); have NB3_4 := Aside0.mk ((by rw [hg]; exact Nat.ne_of_lt (blk_lt (g := gb3) (o := .cells #[.int .i64 ((Aa l1 x26_2).f0), .int .i64 ((Aa l1 x26_2).f1), .int .i64 ((Aa l1 x26_2).f2)] 43 (0, 0)) Ycf_) : gb3 ≠ gb4)); have NB4_3 := Aside0.mk ((by rw [hg]; exact Nat.ne_of_gt (blk_lt (g := gb3) (o := .cells #[.int .i64 ((Aa l1 x26_2).f0), .int .i64 ((Aa l1 x26_2).f1), .int .i64 ((Aa l1 x26_2).f2)] 43 (0, 0)) Ycf_) : gb4 ≠ gb3)); replace BK3 := Aside0.mk (blk_below (g := gb3) (o := .cells #[.int .i64 ((Aa l1 x26_2).f0), .int .i64 ((Aa l1 x26_2).f1), .int .i64 ((Aa l1 x26_2).f2)] 43 (0, 0)) Ycf_ hb); clear hb hbox hg; obtain ⟨Ao64, co64, eo64⟩ := Kd.S_slice HO734.out; subst eo64; have hnb65 := NB4_0.out; have hnc65 := NB0_4.out; have hnb66 := NB4_1.out; have hnc66 := NB1_4.out; have hnb67 := NB4_2.out; have hnc67 := NB2_4.out; have hnb68 := NB4_3.out; have hnc68 := NB3_4.out; obtain ⟨hcz69_0, hcz69_1, hcz69_2⟩ := cl3_ BK4.out; obtain ⟨hfz69_0, hfz69_1, hfz69_2⟩ := fz3_ BK4.out; obtain ⟨Ao70, co70, eo70⟩ := Kd.S_slice HO738.out; subst eo70; obtain ⟨hcz71_0, hcz71_1, hcz71_2⟩ := cl3_ BK2.out; obtain ⟨hfz71_0, hfz71_1, hfz71_2⟩ := fz3_ BK2.out; have hnb72 := NB1_0.out; have hnc72 := NB0_1.out; obtain ⟨hcz73_0, hcz73_1, hcz73_2⟩ := cl3_ BK1.out; obtain ⟨hfz73_0, hfz73_1, hfz73_2⟩ := fz3_ BK1.out))
          refine bodyPost_ret (Di rfl _ _ gb1 34 #[.slice Ao60 x730000_2.length co60, .int .i64 x730001_2, .slice Ao61 x730002_2.length co61] (0, 0) _ rfl (by (with_reducible repeat (first | apply blk_drewN | apply blk_drew | apply blk_alloc)); refine blk_put (cs := #[.slice Ao60 x730000_2.length co60, .int .i64 x730001_2, .slice none 0 0]) ?_ 2 _ rfl; (with_reducible repeat (first | apply blk_drewN | apply blk_drew | apply blk_alloc)); refine blk_put (cs := #[.slice Ao60 x730000_2.length co60, .int .i64 x721001_2, .slice none 0 0]) ?_ 1 _ rfl; (with_reducible repeat (first | apply blk_drewN | apply blk_drew | apply blk_alloc)); refine blk_put (cs := #[.slice none 0 0, .int .i64 x721001_2, .slice none 0 0]) ?_ 0 _ rfl; (with_reducible repeat (first | apply blk_drewN | apply blk_drew | apply blk_alloc)); refine Ai ?_ NB1_4.out _; (with_reducible repeat (first | apply blk_drewN | apply blk_drew | apply blk_alloc)); refine Ai ?_ NB1_4.out _; (with_reducible repeat (first | apply blk_drewN | apply blk_drew | apply blk_alloc)); refine Ai ?_ NB1_4.out _; (with_reducible repeat (first | apply blk_drewN | apply blk_drew | apply blk_alloc)); exact BK1.out) Try.underlying34 rfl Ybb_) rfl ?_
          exact ⟨_, _, _, Yi_, (by (with_reducible repeat (first | apply Kd.S_alloc | apply Kd.S_drewN | apply Kd.S_drew)); exact Kd.S_mono (Kd.S_far (p := ⟨gb1, 2, none⟩) (Kd.S_far (p := ⟨gb1, 1, none⟩) (Kd.S_far (p := ⟨gb1, 0, none⟩) (Kd.S_far (p := ⟨gb4, 2, none⟩) (Kd.S_far (p := ⟨gb4, 1, none⟩) (Kd.S_far (p := ⟨gb4, 0, none⟩) (Kd.S_types (Kd.S_types HO_730000.out BK4.out (by decide)) BK1.out (by decide)) (fun _ hk => hk.1.2) (.slice Ao64 t732.length co64)) (fun _ hk => hk.1.2) (.int .i64 t735)) (fun _ hk => hk.1.2) (.slice Ao70 t736.length co70)) (fun _ hk => hk.2) (.slice Ao60 x730000_2.length co60)) (fun _ hk => hk.2) (.int .i64 x730001_2)) (fun _ hk => hk.2) (.slice Ao61 x730002_2.length co61)) (fun _ hk => hk.1.1.1.1)), (by (with_reducible repeat (first | apply Kd.S_alloc | apply Kd.S_drewN | apply Kd.S_drew)); exact Kd.S_mono (Kd.S_far (p := ⟨gb1, 2, none⟩) (Kd.S_far (p := ⟨gb1, 1, none⟩) (Kd.S_far (p := ⟨gb1, 0, none⟩) (Kd.S_far (p := ⟨gb4, 2, none⟩) (Kd.S_far (p := ⟨gb4, 1, none⟩) (Kd.S_far (p := ⟨gb4, 0, none⟩) (Kd.S_types (Kd.S_types HO_730002.out BK4.out (by decide)) BK1.out (by decide)) (fun _ hk => hk.1.2) (.slice Ao64 t732.length co64)) (fun _ hk => hk.1.2) (.int .i64 t735)) (fun _ hk => hk.1.2) (.slice Ao70 t736.length co70)) (fun _ hk => hk.2) (.slice Ao60 x730000_2.length co60)) (fun _ hk => hk.2) (.int .i64 x730001_2)) (fun _ hk => hk.2) (.slice Ao61 x730002_2.length co61)) (fun _ hk => hk.1.1.1.1)), (by repeat (first | (with_reducible first | exact HB.out | apply below_alloc | apply pw_below_drewN | apply below_drew1 | refine below_set ?_ GE0.out | refine below_set ?_ GE1.out | refine below_set ?_ GE2.out | refine below_set ?_ GE3.out | refine below_set ?_ GE4.out) | exact HB.out))⟩
        ·rw [if_neg c29] at H
         exact absurd H (by simp)
       ·rw [if_neg c28] at H
        exact absurd H (by simp)
      ·rw [if_neg c27] at H
       have c27b0 : decide (x26_2 < (l1.length : Int)) = false := decide_eq_false c27
       clear c27
       simp only [Option.some.injEq, Prod.mk.injEq] at H
       obtain ⟨rfl, rfl, rfl, rfl, rfl⟩ := H
       have hnb74 := NB2_0.out
       have hnc74 := NB0_2.out
       have hnb75 := NB2_1.out
       have hnc75 := NB1_2.out
       obtain ⟨hcz76_0, hcz76_1, hcz76_2⟩ := cl3_ BK2.out
       obtain ⟨hfz76_0, hfz76_1, hfz76_2⟩ := fz3_ BK2.out
       obtain ⟨Ao77, co77, eo77⟩ := Kd.S_slice HO_730000.out
       subst eo77
       have hnb78 := NB1_0.out
       have hnc78 := NB0_1.out
       obtain ⟨hcz79_0, hcz79_1, hcz79_2⟩ := cl3_ BK1.out
       obtain ⟨hfz79_0, hfz79_1, hfz79_2⟩ := fz3_ BK1.out
       obtain ⟨Ao80, co80, eo80⟩ := Kd.S_slice HO_730002.out
       subst eo80
       go_wp2
       refine bodyPost_ret (Di rfl _ _ gb1 34 #[.slice Ao77 x730000_2.length co77, .int .i64 x730001_2, .slice Ao80 x730002_2.length co80] (0, 0) _ rfl (by (with_reducible repeat (first | apply blk_drewN | apply blk_drew | apply blk_alloc)); refine blk_put (cs := #[.slice Ao77 x730000_2.length co77, .int .i64 x730001_2, .slice none 0 0]) ?_ 2 _ rfl; (with_reducible repeat (first | apply blk_drewN | apply blk_drew | apply blk_alloc)); refine blk_put (cs := #[.slice Ao77 x730000_2.length co77, .int .i64 x721001_2, .slice none 0 0]) ?_ 1 _ rfl; (with_reducible repeat (first | apply blk_drewN | apply blk_drew | apply blk_alloc)); refine blk_put (cs := #[.slice none 0 0, .int .i64 x721001_2, .slice none 0 0]) ?_ 0 _ rfl; (with_reducible repeat (first | apply blk_drewN | apply blk_drew | apply blk_alloc)); exact BK1.out) Try.underlying34 rfl Ybb_) rfl ?_
       exact ⟨_, _, _, Yi_, (by (with_reducible repeat (first | apply Kd.S_alloc | apply Kd.S_drewN | apply Kd.S_drew)); exact Kd.S_mono (Kd.S_far (p := ⟨gb1, 2, none⟩) (Kd.S_far (p := ⟨gb1, 1, none⟩) (Kd.S_far (p := ⟨gb1, 0, none⟩) (Kd.S_types HO_730000.out BK1.out (by decide)) (fun _ hk => hk.2) (.slice Ao77 x730000_2.length co77)) (fun _ hk => hk.2) (.int .i64 x730001_2)) (fun _ hk => hk.2) (.slice Ao80 x730002_2.length co80)) (fun _ hk => hk.1)), (by (with_reducible repeat (first | apply Kd.S_alloc | apply Kd.S_drewN | apply Kd.S_drew)); exact Kd.S_mono (Kd.S_far (p := ⟨gb1, 2, none⟩) (Kd.S_far (p := ⟨gb1, 1, none⟩) (Kd.S_far (p := ⟨gb1, 0, none⟩) (Kd.S_types HO_730002.out BK1.out (by decide)) (fun _ hk => hk.2) (.slice Ao77 x730000_2.length co77)) (fun _ hk => hk.2) (.int .i64 x730001_2)) (fun _ hk => hk.2) (.slice Ao80 x730002_2.length co80)) (fun _ hk => hk.1)), Ye_⟩
set_option maxRecDepth 100000 in
theorem Ah.calls (k : Nat) (A0_0 : Option Addr) (c0_0 : Nat) (l0_0 : List (List Int)) (a0_1 : Int) (A0_2 : Option Addr) (c0_2 : Nat) (l0_2 : List (List Int)) (A1 : Option Addr) (c1 : Nat) (l1 : List (S43)) (r1 : List (List Int)) (r2 : Int) (r3 : List (List Int)) (r4 : Int) (r5 : Bool) (w : World) (hr0_0 : Kd.C (Kd.slice 3 (Kd.int .i64)) w A0_0 l0_0.length l0_0) (hc0_0 : l0_0.length ≤ c0_0) (hr0_2 : Kd.C (Kd.slice 3 (Kd.int .i64)) w A0_2 l0_2.length l0_2) (hc0_2 : l0_2.length ≤ c0_2) (hr1 : Kd.C k43 w A1 l1.length l1) (hc1 : l1.length ≤ c1) (h : Ah.f k l0_0 a0_1 l0_2 l1 = some (r1, r2, r3, r4, r5)) :
  Calls Try.prog 36 #[.agg #[.slice A0_0 l0_0.length c0_0, .int .i64 a0_1, .slice A0_2 l0_2.length c0_2], .slice A1 l1.length c1] w fun e w' => ∃ v0_ v2_ : Value, e = .returned (.tuple #[.agg #[v0_, .int .i64 r2, v2_], .int .i64 r4, .bool r5]) ∧ Kd.S (Kd.slice 3 (Kd.int .i64)) 73 w' w.heap.size (fun k_ => some k_ ≠ (v2_ : Value).ownBlock) v0_ r1 ∧ Kd.S (Kd.slice 3 (Kd.int .i64)) 73 w' w.heap.size (fun k_ => some k_ ≠ (v0_ : Value).ownBlock) v2_ r3 ∧ Below w.heap.size w w' := by
 refine (Ah.calls2 k A0_0 c0_0 l0_0 a0_1 A0_2 c0_2 l0_2 A1 c1 l1 r1 r2 r3 r4 r5 w hr0_0 hc0_0 hr0_2 hc0_2 hr1 hc1 h).mono ?_
 rintro e w' ⟨P_, v0_, v2_, he, h1, h2, hb⟩
 exact ⟨v0_, v2_, he, Kd.S_mono h1 (fun k_ hk e_ => ((Kd.S_R h2).1 k_ e_.symm) hk), Kd.S_mono h2 (fun k_ hk e_ => hk ((Kd.S_R h1).1 k_ e_.symm)), hb⟩
def Ef.f (k : Nat) (l0_0 : List (List Int)) (a0_1 : Int) (l0_2 : List (List Int)) (l1 : List (S42)) : Option (Bool) := ((Dn.f k l0_0 a0_1 l0_2 1048576).bind fun t4 => (if t4 < 0 then some true else ((Fa.f l1 t4).bind fun t7 => (if t7 < 0 then some true else ((Ci.f k l0_0 a0_1 l0_2).bind fun t18 => ((Aw.f k l1).bind fun t24 => ((Ag.f k t18.1 t18.2.1 t18.2.2 t24).bind fun t37 => ((Ci.f k l0_0 a0_1 l0_2).bind fun t50 => ((Aw.f k l1).bind fun t58 => ((Ah.f k t50.1 t50.2.1 t50.2.2 t58).bind fun t71 => ((Cm.f k t71.1 t71.2.1 t71.2.2.1 t37.1 t37.2.1 t37.2.2.1).bind fun t76 => (if t76 = true then (if t71.2.2.2.1 = t37.2.2.2.1 then (if t71.2.2.2.2 = t37.2.2.2.2 then ((Ci.f k l0_0 a0_1 l0_2).bind fun t87 => ((Cm.f k t50.1 t50.2.1 t50.2.2 t87.1 t87.2.1 t87.2.2).bind fun t90 => (if t90 = true then ((Aw.f k l1).bind fun t96 => ((Aq.f k t58 t96).bind fun t99 => (if t99 = true then ((Dk.f k t50.1 t50.2.1 t50.2.2 1).bind fun t104 => ((Bh.f k t58 t104.1).bind fun t108 => ((Cm.f k t71.1 t71.2.1 t71.2.2.1 t37.1 t37.2.1 t37.2.2.1).bind fun t111 => (if t111 = true then (if ¬ t108.1 < 0 then (if t71.2.2.2.1 = t37.2.2.2.1 then (if t71.2.2.2.2 = t37.2.2.2.2 then ((Dk.f k t71.1 t71.2.1 t71.2.2.1 1).bind fun t116 => ((Dj.f k t116.2.1 t71.2.1 t116.2.2 1).bind fun t119 => (if ¬ t119 < 0 then (if t119 = t116.1 then ((Ci.f k l0_0 a0_1 l0_2).bind fun t130 => ((Aw.f k l1).bind fun t136 => ((Ah.f k t130.1 t130.2.1 t130.2.2 t136).bind fun t149 => ((Cm.f k t149.1 t149.2.1 t149.2.2.1 t37.1 t37.2.1 t37.2.2.1).bind fun t154 => (if t154 = true then (if t149.2.2.2.1 = t37.2.2.2.1 then (if t149.2.2.2.2 = t37.2.2.2.2 then ((Dj.f k t116.2.1 t71.2.1 t116.2.2 1).bind fun t157 => (if ¬ t157 < 0 then (if t157 = t116.1 then some true else none) else none)) else none) else none) else none))))) else none) else none))) else none) else none) else none) else none)))) else none))) else none))) else none) else none) else none))))))))))))
set_option maxHeartbeats 8000000 in
set_option maxRecDepth 100000 in
theorem Ef.calls (k : Nat) (A0_0 : Option Addr) (c0_0 : Nat) (l0_0 : List (List Int)) (a0_1 : Int) (A0_2 : Option Addr) (c0_2 : Nat) (l0_2 : List (List Int)) (A1 : Option Addr) (c1 : Nat) (l1 : List (S42)) (r : Bool) (w : World) (hr0_0 : Kd.C (Kd.slice 3 (Kd.int .i64)) w A0_0 l0_0.length l0_0) (hc0_0 : l0_0.length ≤ c0_0) (hr0_2 : Kd.C (Kd.slice 3 (Kd.int .i64)) w A0_2 l0_2.length l0_2) (hc0_2 : l0_2.length ≤ c0_2) (hr1 : Kd.C k42 w A1 l1.length l1) (hc1 : l1.length ≤ c1) (h : Ef.f k l0_0 a0_1 l0_2 l1 = some r) (_hr : r = true) :
  Calls Try.prog 9 #[.agg #[.slice A0_0 l0_0.length c0_0, .int .i64 a0_1, .slice A0_2 l0_2.length c0_2], .slice A1 l1.length c1] w fun e w' => e = .returned (.bool r) ∧ Below w.heap.size w w' := by
 have hu28 := Try.underlying28
 have hu34 := Try.underlying34
 have HR0_0 := Aside0.mk hr0_0
 have HC0_0 := Aside0.mk hc0_0
 clear hr0_0 hc0_0
 have HR0_2 := Aside0.mk hr0_2
 have HC0_2 := Aside0.mk hc0_2
 clear hr0_2 hc0_2
 have HR1 := Aside0.mk hr1
 have HC1 := Aside0.mk hc1
 clear hr1 hc1
 have HB := Aside0.mk (Below.refl w.heap.size w)
 unfold Ef.f at h
 replace h := Option.bind_eq_some_iff.mp h
 obtain ⟨r3, a_, h⟩ := h
 have A5 := Aside0.mk a_
 clear a_
 by_cases c_ : r3 < 0
 ·rw [if_pos c_] at h
  obtain rfl := Option.some.inj h
  have cb1 : decide (r3 < 0) = true := decide_eq_true c_
  clear c_
  go_enter Try.func9, Try.ntmps9
  go_wp2_with (first | ((with_reducible refine gate_dst (N := 2) rfl ?_); refine box_event (by rfl) (N := 2) (by rfl) (cs := #[.slice A0_0 l0_0.length c0_0, .int .i64 a0_1, .slice A0_2 l0_2.length c0_2]) (t := 28) Ybf_ ?_; intro gb2 hg w159 hbox hb; (try clear hzgb2_0 hzgb2_1 hzgb2_2); have GEgb2 := Aside0.mk (show w.heap.size ≤ gb2 by rw [hg]; exact below_size Yb_); have BK160 := Aside0.mk hbox; have HSw159 := Aside0.mk hb.size; replace HB := Aside0.mk (below_step HB.out hb); clear hb hbox hg; obtain ⟨hzgb2_0, hzgb2_1, hzgb2_2⟩ := cl3_ BK160.out) | (go_at_call 10; (with_reducible refine (Dn.calls k _ _ l0_0 a0_1 _ _ l0_2 1048576 r3 w159 (Kd.C_below HR0_0.out Yb_) HC0_0.out (Kd.C_below HR0_2.out Yb_) HC0_2.out A5.out).mono ?_); rintro e w161 ⟨rfl, hb⟩; (try clear hzgb2_0 hzgb2_1 hzgb2_2); replace BK160 := Aside0.mk (blk_below BK160.out hb); have HSw161 := Aside0.mk hb.size; replace HB := Aside0.mk (below_step HB.out hb); clear hb; obtain ⟨hzgb2_0, hzgb2_1, hzgb2_2⟩ := cl3_ BK160.out))
  repeat (go_quiet (fail); try go_wp2)
  go_ret
  exact ⟨rfl, Yb_⟩
 ·rw [if_neg c_] at h
  have cb1 : decide (r3 < 0) = false := decide_eq_false c_
  clear c_
  replace h := Option.bind_eq_some_iff.mp h
  obtain ⟨r6, a_, h⟩ := h
  have A8 := Aside0.mk a_
  clear a_
  by_cases c_ : r6 < 0
  ·rw [if_pos c_] at h
   obtain rfl := Option.some.inj h
   have cb2 : decide (r6 < 0) = true := decide_eq_true c_
   clear c_
   go_enter Try.func9, Try.ntmps9
   go_wp2_with (first | ((with_reducible refine gate_dst (N := 2) rfl ?_); refine box_event (by rfl) (N := 2) (by rfl) (cs := #[.slice A0_0 l0_0.length c0_0, .int .i64 a0_1, .slice A0_2 l0_2.length c0_2]) (t := 28) Ybf_ ?_; intro gb2 hg w159 hbox hb; (try clear hzgb2_0 hzgb2_1 hzgb2_2); have GEgb2 := Aside0.mk (show w.heap.size ≤ gb2 by rw [hg]; exact below_size Yb_); have BK160 := Aside0.mk hbox; have HSw159 := Aside0.mk hb.size; replace HB := Aside0.mk (below_step HB.out hb); clear hb hbox hg; obtain ⟨hzgb2_0, hzgb2_1, hzgb2_2⟩ := cl3_ BK160.out) | (go_at_call 10; (with_reducible refine (Dn.calls k _ _ l0_0 a0_1 _ _ l0_2 1048576 r3 w159 (Kd.C_below HR0_0.out Yb_) HC0_0.out (Kd.C_below HR0_2.out Yb_) HC0_2.out A5.out).mono ?_); rintro e w161 ⟨rfl, hb⟩; (try clear hzgb2_0 hzgb2_1 hzgb2_2); replace BK160 := Aside0.mk (blk_below BK160.out hb); have HSw161 := Aside0.mk hb.size; replace HB := Aside0.mk (below_step HB.out hb); clear hb; obtain ⟨hzgb2_0, hzgb2_1, hzgb2_2⟩ := cl3_ BK160.out) | (go_at_call 33; (with_reducible refine (Fa.calls _ _ l1 r3 r6 w161 (Kd.C_below HR1.out Yb_) HC1.out A8.out).mono ?_); rintro e w162 ⟨rfl, hb_⟩; (try clear hzgb2_0 hzgb2_1 hzgb2_2); have hb := Drawn0.below hb_; clear hb_; replace BK160 := Aside0.mk (blk_below BK160.out hb); have HSw162 := Aside0.mk hb.size; replace HB := Aside0.mk (below_step HB.out hb); clear hb; obtain ⟨hzgb2_0, hzgb2_1, hzgb2_2⟩ := cl3_ BK160.out))
   repeat (go_quiet (fail); try go_wp2)
   go_ret
   exact ⟨rfl, Yb_⟩
  ·rw [if_neg c_] at h
   have cb2 : decide (r6 < 0) = false := decide_eq_false c_
   clear c_
   replace h := Option.bind_eq_some_iff.mp h
   obtain ⟨⟨r9, r13, r14⟩, a_, h⟩ := h
   have A19 := Aside0.mk a_
   clear a_
   dsimp only at h
   replace h := Option.bind_eq_some_iff.mp h
   obtain ⟨r20, a_, h⟩ := h
   have A25 := Aside0.mk a_
   clear a_
   replace h := Option.bind_eq_some_iff.mp h
   obtain ⟨⟨r26, r30, r31, r35, r36⟩, a_, h⟩ := h
   have A38 := Aside0.mk a_
   clear a_
   dsimp only at h
   replace h := Option.bind_eq_some_iff.mp h
   obtain ⟨⟨r41, r45, r46⟩, a_, h⟩ := h
   have A51 := Aside0.mk a_
   clear a_
   dsimp only at h
   replace h := Option.bind_eq_some_iff.mp h
   obtain ⟨r54, a_, h⟩ := h
   have A59 := Aside0.mk a_
   clear a_
   replace h := Option.bind_eq_some_iff.mp h
   obtain ⟨⟨r60, r64, r65, r69, r70⟩, a_, h⟩ := h
   have A72 := Aside0.mk a_
   clear a_
   dsimp only at h
   replace h := Option.bind_eq_some_iff.mp h
   obtain ⟨r75, a_, h⟩ := h
   have A77 := Aside0.mk a_
   clear a_
   replace h := Go.Proofs.YtnggfglmjdiaaaaOwn.En h
   have c_ := h.1
   replace h := h.2
   subst c_
   replace h := Go.Proofs.YtnggfglmjdiaaaaOwn.En h
   have c_ := h.1
   replace h := h.2
   subst c_
   replace h := Go.Proofs.YtnggfglmjdiaaaaOwn.En h
   have c_ := h.1
   replace h := h.2
   subst c_
   replace h := Option.bind_eq_some_iff.mp h
   obtain ⟨⟨r78, r82, r83⟩, a_, h⟩ := h
   have A88 := Aside0.mk a_
   clear a_
   dsimp only at h
   replace h := Option.bind_eq_some_iff.mp h
   obtain ⟨r89, a_, h⟩ := h
   have A91 := Aside0.mk a_
   clear a_
   replace h := Go.Proofs.YtnggfglmjdiaaaaOwn.En h
   have c_ := h.1
   replace h := h.2
   subst c_
   replace h := Option.bind_eq_some_iff.mp h
   obtain ⟨r92, a_, h⟩ := h
   have A97 := Aside0.mk a_
   clear a_
   replace h := Option.bind_eq_some_iff.mp h
   obtain ⟨r98, a_, h⟩ := h
   have A100 := Aside0.mk a_
   clear a_
   replace h := Go.Proofs.YtnggfglmjdiaaaaOwn.En h
   have c_ := h.1
   replace h := h.2
   subst c_
   replace h := Option.bind_eq_some_iff.mp h
   obtain ⟨⟨r101, r102, r103⟩, a_, h⟩ := h
   have A105 := Aside0.mk a_
   clear a_
   dsimp only at h
   replace h := Option.bind_eq_some_iff.mp h
   obtain ⟨⟨r106, r107⟩, a_, h⟩ := h
   have A109 := Aside0.mk a_
   clear a_
   dsimp only at h
   replace h := Option.bind_eq_some_iff.mp h
   obtain ⟨r110, a_, h⟩ := h
   have A112 := Aside0.mk a_
   clear a_
   replace h := Go.Proofs.YtnggfglmjdiaaaaOwn.En h
   have c_ := h.1
   replace h := h.2
   subst c_
   replace h := Go.Proofs.YtnggfglmjdiaaaaOwn.En h
   have c_ := h.1
   replace h := h.2
   have cb3 : decide (r106 < 0) = false := decide_eq_false c_
   clear c_
   replace h := Go.Proofs.YtnggfglmjdiaaaaOwn.En h
   have c_ := h.1
   replace h := h.2
   clear c_
   replace h := Go.Proofs.YtnggfglmjdiaaaaOwn.En h
   have c_ := h.1
   replace h := h.2
   clear c_
   replace h := Option.bind_eq_some_iff.mp h
   obtain ⟨⟨r113, r114, r115⟩, a_, h⟩ := h
   have A117 := Aside0.mk a_
   clear a_
   dsimp only at h
   replace h := Option.bind_eq_some_iff.mp h
   obtain ⟨r118, a_, h⟩ := h
   have A120 := Aside0.mk a_
   clear a_
   replace h := Go.Proofs.YtnggfglmjdiaaaaOwn.En h
   have c_ := h.1
   replace h := h.2
   have cb4 : decide (r118 < 0) = false := decide_eq_false c_
   clear c_
   replace h := Go.Proofs.YtnggfglmjdiaaaaOwn.En h
   have c_ := h.1
   replace h := h.2
   subst c_
   replace h := Option.bind_eq_some_iff.mp h
   obtain ⟨⟨r121, r125, r126⟩, a_, h⟩ := h
   have A131 := Aside0.mk a_
   clear a_
   dsimp only at h
   replace h := Option.bind_eq_some_iff.mp h
   obtain ⟨r132, a_, h⟩ := h
   have A137 := Aside0.mk a_
   clear a_
   replace h := Option.bind_eq_some_iff.mp h
   obtain ⟨⟨r138, r142, r143, r147, r148⟩, a_, h⟩ := h
   have A150 := Aside0.mk a_
   clear a_
   dsimp only at h
   replace h := Option.bind_eq_some_iff.mp h
   obtain ⟨r153, a_, h⟩ := h
   have A155 := Aside0.mk a_
   clear a_
   replace h := Go.Proofs.YtnggfglmjdiaaaaOwn.En h
   have c_ := h.1
   replace h := h.2
   subst c_
   replace h := Go.Proofs.YtnggfglmjdiaaaaOwn.En h
   have c_ := h.1
   replace h := h.2
   subst c_
   replace h := Go.Proofs.YtnggfglmjdiaaaaOwn.En h
   have c_ := h.1
   replace h := h.2
   subst c_
   replace h := Option.bind_eq_some_iff.mp h
   obtain ⟨r156, a_, h⟩ := h
   have A158 := Aside0.mk a_
   clear a_
   replace h := Go.Proofs.YtnggfglmjdiaaaaOwn.En h
   have c_ := h.1
   replace h := h.2
   have cb5 : decide (r156 < 0) = false := decide_eq_false c_
   clear c_
   replace h := Go.Proofs.YtnggfglmjdiaaaaOwn.En h
   have c_ := h.1
   replace h := h.2
   subst c_
   obtain rfl := Option.some.inj h
   go_enter Try.func9, Try.ntmps9
   go_upto_region 14 with (first | ((with_reducible refine gate_dst (N := 2) rfl ?_); refine box_event (by rfl) (N := 2) (by rfl) (cs := #[.slice A0_0 l0_0.length c0_0, .int .i64 a0_1, .slice A0_2 l0_2.length c0_2]) (t := 28) Ybf_ ?_; intro gb2 hg w159 hbox hb; (try clear hzgb2_0 hzgb2_1 hzgb2_2); have GEgb2 := Aside0.mk (show w.heap.size ≤ gb2 by rw [hg]; exact below_size Yb_); have BK160 := Aside0.mk hbox; have HSw159 := Aside0.mk hb.size; replace HB := Aside0.mk (below_step HB.out hb); clear hb hbox hg; obtain ⟨hzgb2_0, hzgb2_1, hzgb2_2⟩ := cl3_ BK160.out) | (go_at_call 10; (with_reducible refine (Dn.calls k _ _ l0_0 a0_1 _ _ l0_2 1048576 r3 w159 (Kd.C_below HR0_0.out Yb_) HC0_0.out (Kd.C_below HR0_2.out Yb_) HC0_2.out A5.out).mono ?_); rintro e w161 ⟨rfl, hb⟩; (try clear hzgb2_0 hzgb2_1 hzgb2_2); replace BK160 := Aside0.mk (blk_below BK160.out hb); have HSw161 := Aside0.mk hb.size; replace HB := Aside0.mk (below_step HB.out hb); clear hb; obtain ⟨hzgb2_0, hzgb2_1, hzgb2_2⟩ := cl3_ BK160.out) | (go_at_call 33; (with_reducible refine (Fa.calls _ _ l1 r3 r6 w161 (Kd.C_below HR1.out Yb_) HC1.out A8.out).mono ?_); rintro e w162 ⟨rfl, hb_⟩; (try clear hzgb2_0 hzgb2_1 hzgb2_2); have hb := Drawn0.below hb_; clear hb_; replace BK160 := Aside0.mk (blk_below BK160.out hb); have HSw162 := Aside0.mk hb.size; replace HB := Aside0.mk (below_step HB.out hb); clear hb; obtain ⟨hzgb2_0, hzgb2_1, hzgb2_2⟩ := cl3_ BK160.out) | (go_at_call 12; (with_reducible refine (Ci.calls2 k _ _ l0_0 a0_1 _ _ l0_2 r9 r13 r14 w162 (Kd.C_below HR0_0.out Yb_) HC0_0.out (Kd.C_below HR0_2.out Yb_) HC0_2.out A19.out).mono ?_); rintro e w163 ⟨Pw163, v166, v167, rfl, ho164, ho165, hb⟩; (try clear hzgb2_0 hzgb2_1 hzgb2_2); replace BK160 := Aside0.mk (blk_below BK160.out hb); have HSw163 := Aside0.mk hb.size; have m_ := (show Kd.S (Kd.slice 3 (Kd.int .i64)) 73 w163 w.heap.size (fun k_ => (w162.heap.size ≤ k_ ∧ k_ < w163.heap.size) ∧ Pw163 k_) v166 r9 from Kd.S_mono (Kd.S_lower (Kd.D6 ho164) (below_size Yb_)) (fun k_ hk_ => ⟨⟨hk_.2.1, hk_.2.2.1⟩, hk_.1⟩)); obtain ⟨A10, c11, e_⟩ := Kd.S_slice m_; subst e_; have HO12 := Aside0.mk m_; clear m_ ho164; have m_ := (show Kd.S (Kd.slice 3 (Kd.int .i64)) 73 w163 w.heap.size (fun k_ => (w162.heap.size ≤ k_ ∧ k_ < w163.heap.size) ∧ ¬ Pw163 k_) v167 r14 from Kd.S_mono (Kd.S_lower (Kd.D6 ho165) (below_size Yb_)) (fun k_ hk_ => ⟨⟨hk_.2.1, hk_.2.2.1⟩, hk_.1⟩)); obtain ⟨A15, c16, e_⟩ := Kd.S_slice m_; subst e_; have HO17 := Aside0.mk m_; clear m_ ho165; replace HB := Aside0.mk (below_step HB.out hb); clear hb; obtain ⟨hzgb2_0, hzgb2_1, hzgb2_2⟩ := cl3_ BK160.out) | (go_at_call 35; (with_reducible refine (Aw.calls k _ _ l1 r20 w163 (Kd.C_below HR1.out Yb_) HC1.out A25.out).mono ?_); rintro e w168 ⟨v170, rfl, ho169, hb⟩; (try clear hzgb2_0 hzgb2_1 hzgb2_2); replace HO12 := Aside0.mk (Kd.Ac HO12.out hb); replace HO17 := Aside0.mk (Kd.Ac HO17.out hb); replace BK160 := Aside0.mk (blk_below BK160.out hb); have HSw168 := Aside0.mk hb.size; have m_ := (show Kd.R k43 43 w168 w.heap.size (fun k_ => (w163.heap.size ≤ k_ ∧ k_ < w168.heap.size) ∧ True) v170 r20 from Kd.Dl (Kd.R_lower (Kd.Ff ho169) (below_size Yb_)) (fun k_ hk_ => ⟨⟨hk_.2.1, hk_.2.2.1⟩, trivial⟩)); obtain ⟨A21, c22, e_⟩ := Kd.Dc m_; subst e_; have HO23 := Aside0.mk m_; clear m_ ho169; replace HB := Aside0.mk (below_step HB.out hb); clear hb; obtain ⟨hzgb2_0, hzgb2_1, hzgb2_2⟩ := cl3_ BK160.out) | (go_at_call 34; (with_reducible refine (Ag.calls k _ _ r9 r13 _ _ r14 _ _ r20 r26 r30 r31 r147 r148 w168 (Kd.Af HO12.out).2.2 (Nat.le_trans (Nat.le_of_eq (Kd.Af HO12.out).1.symm) (Kd.Af HO12.out).2.1) (Kd.Af HO17.out).2.2 (Nat.le_trans (Nat.le_of_eq (Kd.Af HO17.out).1.symm) (Kd.Af HO17.out).2.1) (Kd.Bo HO23.out).2.2 (Nat.le_trans (Nat.le_of_eq (Kd.Bo HO23.out).1.symm) (Kd.Bo HO23.out).2.1) A38.out).mono ?_); rintro e w171 ⟨v174, v175, rfl, ho172, ho173, hb⟩; (try clear hzgb2_0 hzgb2_1 hzgb2_2); replace HO12 := Aside0.mk (Kd.Ac HO12.out hb); replace HO17 := Aside0.mk (Kd.Ac HO17.out hb); replace HO23 := Aside0.mk (Kd.Cb HO23.out hb); replace BK160 := Aside0.mk (blk_below BK160.out hb); have HSw171 := Aside0.mk hb.size; have m_ := (show Kd.S (Kd.slice 3 (Kd.int .i64)) 73 w171 w.heap.size (fun k_ => (w168.heap.size ≤ k_ ∧ k_ < w171.heap.size) ∧ True) v174 r26 from Kd.S_mono (Kd.S_lower (Kd.D6 ho172) (below_size Yb_)) (fun k_ hk_ => ⟨⟨hk_.2.1, hk_.2.2.1⟩, trivial⟩)); obtain ⟨A27, c28, e_⟩ := Kd.S_slice m_; subst e_; have HO29 := Aside0.mk m_; clear m_ ho172; have m_ := (show Kd.S (Kd.slice 3 (Kd.int .i64)) 73 w171 w.heap.size (fun k_ => (w168.heap.size ≤ k_ ∧ k_ < w171.heap.size) ∧ True) v175 r31 from Kd.S_mono (Kd.S_lower (Kd.D6 ho173) (below_size Yb_)) (fun k_ hk_ => ⟨⟨hk_.2.1, hk_.2.2.1⟩, trivial⟩)); obtain ⟨A32, c33, e_⟩ := Kd.S_slice m_; subst e_; have HO34 := Aside0.mk m_; clear m_ ho173; replace HB := Aside0.mk (below_step HB.out hb); clear hb; obtain ⟨hzgb2_0, hzgb2_1, hzgb2_2⟩ := cl3_ BK160.out) | ((with_reducible refine gate_dst (N := 6) rfl ?_); refine box_event (by rfl) (N := 6) (by rfl) (cs := #[.slice none 0 0, .int .i64 0, .slice none 0 0]) (t := 34) Ybf_ ?_; intro gb40 hg w176 hbox hb; (try clear hzgb2_0 hzgb2_1 hzgb2_2); (try clear hzgb40_0 hzgb40_1 hzgb40_2); have NBgb2_gb40 := Aside0.mk (show gb2 ≠ gb40 by rw [hg]; exact Nat.ne_of_lt (blk_lt BK160.out)); have GEgb40 := Aside0.mk (show w.heap.size ≤ gb40 by rw [hg]; exact below_size Yb_); have BK177 := Aside0.mk hbox; replace HO12 := Aside0.mk (Kd.Ac HO12.out hb); replace HO17 := Aside0.mk (Kd.Ac HO17.out hb); replace HO23 := Aside0.mk (Kd.Cb HO23.out hb); replace HO29 := Aside0.mk (Kd.Ac HO29.out hb); replace HO34 := Aside0.mk (Kd.Ac HO34.out hb); replace BK160 := Aside0.mk (blk_below BK160.out hb); have HSw176 := Aside0.mk hb.size; replace HB := Aside0.mk (below_step HB.out hb); clear hb hbox hg; obtain ⟨hzgb2_0, hzgb2_1, hzgb2_2⟩ := cl3_ BK160.out; obtain ⟨hzgb40_0, hzgb40_1, hzgb40_2⟩ := cl3_ BK177.out) | ((with_reducible refine gate_store (t := 34) (p := 6) rfl ?_); have hs0_ : w176.cell? ⟨gb40, 0, none⟩ = some (.slice none 0 0) := (blk_cell BK177.out 0).trans rfl; have hfs0_ := blk_frozen BK177.out 0; have hs1_ : w176.cell? ⟨gb40, 1, none⟩ = some (.int .i64 0) := (blk_cell BK177.out 1).trans rfl; have hfs1_ := blk_frozen BK177.out 1; have hs2_ : w176.cell? ⟨gb40, 2, none⟩ = some (.slice none 0 0) := (blk_cell BK177.out 2).trans rfl; have hfs2_ := blk_frozen BK177.out 2; refine Ei (t := 34) (p := 6) (v := ?vo_w178) (w1 := (((w176.setCell ⟨gb40, 0, none⟩ (.slice A27 r26.length c28)).setCell ⟨gb40, 1, none⟩ (.int .i64 r30)).setCell ⟨gb40, 2, none⟩ (.slice A32 r31.length c33))) ?hg ?ho ?hn ?hr ?_; (case ho => rfl); (case hg => rfl); (case hn => rfl); (case hr => first | (go_simp; done) | (go_simp; rfl)); intro w178 hw; (try clear hzgb2_0 hzgb2_1 hzgb2_2); (try clear hzgb40_0 hzgb40_1 hzgb40_2); have hO_ : Go.Proofs.YtnggfglmjdiaaaaOwn.Only w176 w178 gb40 := Yfi_; have hbx_ : w178.heap[gb40]? = some (.cells #[.slice A27 r26.length c28, .int .i64 r30, .slice A32 r31.length c33] 34 (0, 0)) := (by rw [hw]; refine blk_put (cs := #[.slice A27 r26.length c28, .int .i64 r30, .slice none 0 0]) ?_ 2 _ rfl; refine blk_put (cs := #[.slice A27 r26.length c28, .int .i64 0, .slice none 0 0]) ?_ 1 _ rfl; refine blk_put (cs := #[.slice none 0 0, .int .i64 0, .slice none 0 0]) ?_ 0 _ rfl; exact BK177.out); (try clear hs0_ hfs0_ hs1_ hfs1_ hs2_ hfs2_); clear hw; replace HO12 := Aside0.mk (Go.Proofs.YtnggfglmjdiaaaaOwn.Dy HO12.out BK177.out (by decide) hO_); replace HO17 := Aside0.mk (Go.Proofs.YtnggfglmjdiaaaaOwn.Dy HO17.out BK177.out (by decide) hO_); replace HO23 := Aside0.mk (Go.Proofs.YtnggfglmjdiaaaaOwn.onlyR HO23.out BK177.out (by decide) hO_); replace HO29 := Aside0.mk (Go.Proofs.YtnggfglmjdiaaaaOwn.Dy HO29.out BK177.out (by decide) hO_); replace HO34 := Aside0.mk (Go.Proofs.YtnggfglmjdiaaaaOwn.Dy HO34.out BK177.out (by decide) hO_); replace BK160 := Aside0.mk ((hO_.others _ NBgb2_gb40.out).trans BK160.out); replace HB := Aside0.mk (hO_.below HB.out GEgb40.out); have HSw178 := Aside0.mk (Nat.le_of_eq hO_.size.symm : w176.heap.size ≤ w178.heap.size); clear BK177; have BK179 := Aside0.mk hbx_; clear hbx_ hO_; obtain ⟨hzgb2_0, hzgb2_1, hzgb2_2⟩ := cl3_ BK160.out; obtain ⟨hzgb40_0, hzgb40_1, hzgb40_2⟩ := cl3_ BK179.out) | (go_at_call 12; (with_reducible refine (Ci.calls2 k _ _ l0_0 a0_1 _ _ l0_2 r41 r45 r46 w178 (Kd.C_below HR0_0.out Yb_) HC0_0.out (Kd.C_below HR0_2.out Yb_) HC0_2.out A51.out).mono ?_); rintro e w180 ⟨Pw180, v183, v184, rfl, ho181, ho182, hb⟩; (try clear hzgb2_0 hzgb2_1 hzgb2_2); (try clear hzgb40_0 hzgb40_1 hzgb40_2); replace HO12 := Aside0.mk (Kd.Ac HO12.out hb); replace HO17 := Aside0.mk (Kd.Ac HO17.out hb); replace HO23 := Aside0.mk (Kd.Cb HO23.out hb); replace HO29 := Aside0.mk (Kd.Ac HO29.out hb); replace HO34 := Aside0.mk (Kd.Ac HO34.out hb); replace BK160 := Aside0.mk (blk_below BK160.out hb); replace BK179 := Aside0.mk (blk_below BK179.out hb); have HSw180 := Aside0.mk hb.size; have m_ := (show Kd.S (Kd.slice 3 (Kd.int .i64)) 73 w180 w.heap.size (fun k_ => (w178.heap.size ≤ k_ ∧ k_ < w180.heap.size) ∧ Pw180 k_) v183 r41 from Kd.S_mono (Kd.S_lower (Kd.D6 ho181) (below_size Yb_)) (fun k_ hk_ => ⟨⟨hk_.2.1, hk_.2.2.1⟩, hk_.1⟩)); obtain ⟨A42, c43, e_⟩ := Kd.S_slice m_; subst e_; have HO44 := Aside0.mk m_; clear m_ ho181; have m_ := (show Kd.S (Kd.slice 3 (Kd.int .i64)) 73 w180 w.heap.size (fun k_ => (w178.heap.size ≤ k_ ∧ k_ < w180.heap.size) ∧ ¬ Pw180 k_) v184 r46 from Kd.S_mono (Kd.S_lower (Kd.D6 ho182) (below_size Yb_)) (fun k_ hk_ => ⟨⟨hk_.2.1, hk_.2.2.1⟩, hk_.1⟩)); obtain ⟨A47, c48, e_⟩ := Kd.S_slice m_; subst e_; have HO49 := Aside0.mk m_; clear m_ ho182; replace HB := Aside0.mk (below_step HB.out hb); clear hb; obtain ⟨hzgb2_0, hzgb2_1, hzgb2_2⟩ := cl3_ BK160.out; obtain ⟨hzgb40_0, hzgb40_1, hzgb40_2⟩ := cl3_ BK179.out) | ((with_reducible refine gate_dst (N := 9) rfl ?_); refine box_event (by rfl) (N := 9) (by rfl) (cs := #[.slice none 0 0, .int .i64 0, .slice none 0 0]) (t := 34) Ybf_ ?_; intro gb53 hg w185 hbox hb; (try clear hzgb2_0 hzgb2_1 hzgb2_2); (try clear hzgb40_0 hzgb40_1 hzgb40_2); (try clear hzgb53_0 hzgb53_1 hzgb53_2); have NBgb2_gb53 := Aside0.mk (show gb2 ≠ gb53 by rw [hg]; exact Nat.ne_of_lt (blk_lt BK160.out)); have NBgb40_gb53 := Aside0.mk (show gb40 ≠ gb53 by rw [hg]; exact Nat.ne_of_lt (blk_lt BK179.out)); have GEgb53 := Aside0.mk (show w.heap.size ≤ gb53 by rw [hg]; exact below_size Yb_); have BK186 := Aside0.mk hbox; replace HO12 := Aside0.mk (Kd.Ac HO12.out hb); replace HO17 := Aside0.mk (Kd.Ac HO17.out hb); replace HO23 := Aside0.mk (Kd.Cb HO23.out hb); replace HO29 := Aside0.mk (Kd.Ac HO29.out hb); replace HO34 := Aside0.mk (Kd.Ac HO34.out hb); replace HO44 := Aside0.mk (Kd.Ac HO44.out hb); replace HO49 := Aside0.mk (Kd.Ac HO49.out hb); replace BK160 := Aside0.mk (blk_below BK160.out hb); replace BK179 := Aside0.mk (blk_below BK179.out hb); have HSw185 := Aside0.mk hb.size; replace HB := Aside0.mk (below_step HB.out hb); clear hb hbox hg; obtain ⟨hzgb2_0, hzgb2_1, hzgb2_2⟩ := cl3_ BK160.out; obtain ⟨hzgb40_0, hzgb40_1, hzgb40_2⟩ := cl3_ BK179.out; obtain ⟨hzgb53_0, hzgb53_1, hzgb53_2⟩ := cl3_ BK186.out) | ((with_reducible refine gate_store (t := 34) (p := 9) rfl ?_); have hs0_ : w185.cell? ⟨gb53, 0, none⟩ = some (.slice none 0 0) := (blk_cell BK186.out 0).trans rfl; have hfs0_ := blk_frozen BK186.out 0; have hs1_ : w185.cell? ⟨gb53, 1, none⟩ = some (.int .i64 0) := (blk_cell BK186.out 1).trans rfl; have hfs1_ := blk_frozen BK186.out 1; have hs2_ : w185.cell? ⟨gb53, 2, none⟩ = some (.slice none 0 0) := (blk_cell BK186.out 2).trans rfl; have hfs2_ := blk_frozen BK186.out 2; refine Ei (t := 34) (p := 9) (v := ?vo_w187) (w1 := (((w185.setCell ⟨gb53, 0, none⟩ (.slice A42 r41.length c43)).setCell ⟨gb53, 1, none⟩ (.int .i64 r45)).setCell ⟨gb53, 2, none⟩ (.slice A47 r46.length c48))) ?hg ?ho ?hn ?hr ?_; (case ho => rfl); (case hg => rfl); (case hn => rfl); (case hr => first | (go_simp; done) | (go_simp; rfl)); intro w187 hw; (try clear hzgb2_0 hzgb2_1 hzgb2_2); (try clear hzgb40_0 hzgb40_1 hzgb40_2); (try clear hzgb53_0 hzgb53_1 hzgb53_2); have hO_ : Go.Proofs.YtnggfglmjdiaaaaOwn.Only w185 w187 gb53 := Yfi_; have hbx_ : w187.heap[gb53]? = some (.cells #[.slice A42 r41.length c43, .int .i64 r45, .slice A47 r46.length c48] 34 (0, 0)) := (by rw [hw]; refine blk_put (cs := #[.slice A42 r41.length c43, .int .i64 r45, .slice none 0 0]) ?_ 2 _ rfl; refine blk_put (cs := #[.slice A42 r41.length c43, .int .i64 0, .slice none 0 0]) ?_ 1 _ rfl; refine blk_put (cs := #[.slice none 0 0, .int .i64 0, .slice none 0 0]) ?_ 0 _ rfl; exact BK186.out); (try clear hs0_ hfs0_ hs1_ hfs1_ hs2_ hfs2_); clear hw; replace HO12 := Aside0.mk (Go.Proofs.YtnggfglmjdiaaaaOwn.Dy HO12.out BK186.out (by decide) hO_); replace HO17 := Aside0.mk (Go.Proofs.YtnggfglmjdiaaaaOwn.Dy HO17.out BK186.out (by decide) hO_); replace HO23 := Aside0.mk (Go.Proofs.YtnggfglmjdiaaaaOwn.onlyR HO23.out BK186.out (by decide) hO_); replace HO29 := Aside0.mk (Go.Proofs.YtnggfglmjdiaaaaOwn.Dy HO29.out BK186.out (by decide) hO_); replace HO34 := Aside0.mk (Go.Proofs.YtnggfglmjdiaaaaOwn.Dy HO34.out BK186.out (by decide) hO_); replace HO44 := Aside0.mk (Go.Proofs.YtnggfglmjdiaaaaOwn.Dy HO44.out BK186.out (by decide) hO_); replace HO49 := Aside0.mk (Go.Proofs.YtnggfglmjdiaaaaOwn.Dy HO49.out BK186.out (by decide) hO_); replace BK160 := Aside0.mk ((hO_.others _ NBgb2_gb53.out).trans BK160.out); replace BK179 := Aside0.mk ((hO_.others _ NBgb40_gb53.out).trans BK179.out); replace HB := Aside0.mk (hO_.below HB.out GEgb53.out); have HSw187 := Aside0.mk (Nat.le_of_eq hO_.size.symm : w185.heap.size ≤ w187.heap.size); clear BK186; have BK188 := Aside0.mk hbx_; clear hbx_ hO_; obtain ⟨hzgb2_0, hzgb2_1, hzgb2_2⟩ := cl3_ BK160.out; obtain ⟨hzgb40_0, hzgb40_1, hzgb40_2⟩ := cl3_ BK179.out; obtain ⟨hzgb53_0, hzgb53_1, hzgb53_2⟩ := cl3_ BK188.out) | (go_at_call 35; (with_reducible refine (Aw.calls k _ _ l1 r54 w187 (Kd.C_below HR1.out Yb_) HC1.out A59.out).mono ?_); rintro e w189 ⟨v191, rfl, ho190, hb⟩; (try clear hzgb2_0 hzgb2_1 hzgb2_2); (try clear hzgb40_0 hzgb40_1 hzgb40_2); (try clear hzgb53_0 hzgb53_1 hzgb53_2); replace HO12 := Aside0.mk (Kd.Ac HO12.out hb); replace HO17 := Aside0.mk (Kd.Ac HO17.out hb); replace HO23 := Aside0.mk (Kd.Cb HO23.out hb); replace HO29 := Aside0.mk (Kd.Ac HO29.out hb); replace HO34 := Aside0.mk (Kd.Ac HO34.out hb); replace HO44 := Aside0.mk (Kd.Ac HO44.out hb); replace HO49 := Aside0.mk (Kd.Ac HO49.out hb); replace BK160 := Aside0.mk (blk_below BK160.out hb); replace BK179 := Aside0.mk (blk_below BK179.out hb); replace BK188 := Aside0.mk (blk_below BK188.out hb); have HSw189 := Aside0.mk hb.size; have m_ := (show Kd.R k43 43 w189 w.heap.size (fun k_ => (w187.heap.size ≤ k_ ∧ k_ < w189.heap.size) ∧ True) v191 r54 from Kd.Dl (Kd.R_lower (Kd.Ff ho190) (below_size Yb_)) (fun k_ hk_ => ⟨⟨hk_.2.1, hk_.2.2.1⟩, trivial⟩)); obtain ⟨A55, c56, e_⟩ := Kd.Dc m_; subst e_; have HO57 := Aside0.mk m_; clear m_ ho190; replace HB := Aside0.mk (below_step HB.out hb); clear hb; obtain ⟨hzgb2_0, hzgb2_1, hzgb2_2⟩ := cl3_ BK160.out; obtain ⟨hzgb40_0, hzgb40_1, hzgb40_2⟩ := cl3_ BK179.out; obtain ⟨hzgb53_0, hzgb53_1, hzgb53_2⟩ := cl3_ BK188.out) | (go_at_call 36; (with_reducible refine (Ah.calls2 k _ _ r41 r45 _ _ r46 _ _ r54 r60 r64 r65 r147 r148 w189 (Kd.Af HO44.out).2.2 (Nat.le_trans (Nat.le_of_eq (Kd.Af HO44.out).1.symm) (Kd.Af HO44.out).2.1) (Kd.Af HO49.out).2.2 (Nat.le_trans (Nat.le_of_eq (Kd.Af HO49.out).1.symm) (Kd.Af HO49.out).2.1) (Kd.Bo HO57.out).2.2 (Nat.le_trans (Nat.le_of_eq (Kd.Bo HO57.out).1.symm) (Kd.Bo HO57.out).2.1) A72.out).mono ?_); rintro e w192 ⟨Pw192, v195, v196, rfl, ho193, ho194, hb⟩; (try clear hzgb2_0 hzgb2_1 hzgb2_2); (try clear hzgb40_0 hzgb40_1 hzgb40_2); (try clear hzgb53_0 hzgb53_1 hzgb53_2); replace HO12 := Aside0.mk (Kd.Ac HO12.out hb); replace HO17 := Aside0.mk (Kd.Ac HO17.out hb); replace HO23 := Aside0.mk (Kd.Cb HO23.out hb); replace HO29 := Aside0.mk (Kd.Ac HO29.out hb); replace HO34 := Aside0.mk (Kd.Ac HO34.out hb); replace HO44 := Aside0.mk (Kd.Ac HO44.out hb); replace HO49 := Aside0.mk (Kd.Ac HO49.out hb); replace HO57 := Aside0.mk (Kd.Cb HO57.out hb); replace BK160 := Aside0.mk (blk_below BK160.out hb); replace BK179 := Aside0.mk (blk_below BK179.out hb); replace BK188 := Aside0.mk (blk_below BK188.out hb); have HSw192 := Aside0.mk hb.size; have m_ := (show Kd.S (Kd.slice 3 (Kd.int .i64)) 73 w192 w.heap.size (fun k_ => (w189.heap.size ≤ k_ ∧ k_ < w192.heap.size) ∧ Pw192 k_) v195 r60 from Kd.S_mono (Kd.S_lower (Kd.D6 ho193) (below_size Yb_)) (fun k_ hk_ => ⟨⟨hk_.2.1, hk_.2.2.1⟩, hk_.1⟩)); obtain ⟨A61, c62, e_⟩ := Kd.S_slice m_; subst e_; have HO63 := Aside0.mk m_; clear m_ ho193; have m_ := (show Kd.S (Kd.slice 3 (Kd.int .i64)) 73 w192 w.heap.size (fun k_ => (w189.heap.size ≤ k_ ∧ k_ < w192.heap.size) ∧ ¬ Pw192 k_) v196 r65 from Kd.S_mono (Kd.S_lower (Kd.D6 ho194) (below_size Yb_)) (fun k_ hk_ => ⟨⟨hk_.2.1, hk_.2.2.1⟩, hk_.1⟩)); obtain ⟨A66, c67, e_⟩ := Kd.S_slice m_; subst e_; have HO68 := Aside0.mk m_; clear m_ ho194; replace HB := Aside0.mk (below_step HB.out hb); clear hb; obtain ⟨hzgb2_0, hzgb2_1, hzgb2_2⟩ := cl3_ BK160.out; obtain ⟨hzgb40_0, hzgb40_1, hzgb40_2⟩ := cl3_ BK179.out; obtain ⟨hzgb53_0, hzgb53_1, hzgb53_2⟩ := cl3_ BK188.out) | ((with_reducible refine gate_dst (N := 11) rfl ?_); refine box_event (by rfl) (N := 11) (by rfl) (cs := #[.slice none 0 0, .int .i64 0, .slice none 0 0]) (t := 34) Ybf_ ?_; intro gb74 hg w197 hbox hb; (try clear hzgb2_0 hzgb2_1 hzgb2_2); (try clear hzgb40_0 hzgb40_1 hzgb40_2); (try clear hzgb53_0 hzgb53_1 hzgb53_2); (try clear hzgb74_0 hzgb74_1 hzgb74_2); have NBgb2_gb74 := Aside0.mk (show gb2 ≠ gb74 by rw [hg]; exact Nat.ne_of_lt (blk_lt BK160.out)); have NBgb40_gb74 := Aside0.mk (show gb40 ≠ gb74 by rw [hg]; exact Nat.ne_of_lt (blk_lt BK179.out)); have NBgb53_gb74 := Aside0.mk (show gb53 ≠ gb74 by rw [hg]; exact Nat.ne_of_lt (blk_lt BK188.out)); have GEgb74 := Aside0.mk (show w.heap.size ≤ gb74 by rw [hg]; exact below_size Yb_); have BK198 := Aside0.mk hbox; replace HO12 := Aside0.mk (Kd.Ac HO12.out hb); replace HO17 := Aside0.mk (Kd.Ac HO17.out hb); replace HO23 := Aside0.mk (Kd.Cb HO23.out hb); replace HO29 := Aside0.mk (Kd.Ac HO29.out hb); replace HO34 := Aside0.mk (Kd.Ac HO34.out hb); replace HO44 := Aside0.mk (Kd.Ac HO44.out hb); replace HO49 := Aside0.mk (Kd.Ac HO49.out hb); replace HO57 := Aside0.mk (Kd.Cb HO57.out hb); replace HO63 := Aside0.mk (Kd.Ac HO63.out hb); replace HO68 := Aside0.mk (Kd.Ac HO68.out hb); replace BK160 := Aside0.mk (blk_below BK160.out hb); replace BK179 := Aside0.mk (blk_below BK179.out hb); replace BK188 := Aside0.mk (blk_below BK188.out hb); have HSw197 := Aside0.mk hb.size; replace HB := Aside0.mk (below_step HB.out hb); clear hb hbox hg; obtain ⟨hzgb2_0, hzgb2_1, hzgb2_2⟩ := cl3_ BK160.out; obtain ⟨hzgb40_0, hzgb40_1, hzgb40_2⟩ := cl3_ BK179.out; obtain ⟨hzgb53_0, hzgb53_1, hzgb53_2⟩ := cl3_ BK188.out; obtain ⟨hzgb74_0, hzgb74_1, hzgb74_2⟩ := cl3_ BK198.out) | ((with_reducible refine gate_store (t := 34) (p := 11) rfl ?_); have hs0_ : w197.cell? ⟨gb74, 0, none⟩ = some (.slice none 0 0) := (blk_cell BK198.out 0).trans rfl; have hfs0_ := blk_frozen BK198.out 0; have hs1_ : w197.cell? ⟨gb74, 1, none⟩ = some (.int .i64 0) := (blk_cell BK198.out 1).trans rfl; have hfs1_ := blk_frozen BK198.out 1; have hs2_ : w197.cell? ⟨gb74, 2, none⟩ = some (.slice none 0 0) := (blk_cell BK198.out 2).trans rfl; have hfs2_ := blk_frozen BK198.out 2; refine Ei (t := 34) (p := 11) (v := ?vo_w199) (w1 := (((w197.setCell ⟨gb74, 0, none⟩ (.slice A61 r60.length c62)).setCell ⟨gb74, 1, none⟩ (.int .i64 r64)).setCell ⟨gb74, 2, none⟩ (.slice A66 r65.length c67))) ?hg ?ho ?hn ?hr ?_; (case ho => rfl); (case hg => rfl); (case hn => rfl); (case hr => first | (go_simp; done) | (go_simp; rfl)); intro w199 hw; (try clear hzgb2_0 hzgb2_1 hzgb2_2); (try clear hzgb40_0 hzgb40_1 hzgb40_2); (try clear hzgb53_0 hzgb53_1 hzgb53_2); (try clear hzgb74_0 hzgb74_1 hzgb74_2); have hO_ : Go.Proofs.YtnggfglmjdiaaaaOwn.Only w197 w199 gb74 := Yfi_; have hbx_ : w199.heap[gb74]? = some (.cells #[.slice A61 r60.length c62, .int .i64 r64, .slice A66 r65.length c67] 34 (0, 0)) := (by rw [hw]; refine blk_put (cs := #[.slice A61 r60.length c62, .int .i64 r64, .slice none 0 0]) ?_ 2 _ rfl; refine blk_put (cs := #[.slice A61 r60.length c62, .int .i64 0, .slice none 0 0]) ?_ 1 _ rfl; refine blk_put (cs := #[.slice none 0 0, .int .i64 0, .slice none 0 0]) ?_ 0 _ rfl; exact BK198.out); (try clear hs0_ hfs0_ hs1_ hfs1_ hs2_ hfs2_); clear hw; replace HO12 := Aside0.mk (Go.Proofs.YtnggfglmjdiaaaaOwn.Dy HO12.out BK198.out (by decide) hO_); replace HO17 := Aside0.mk (Go.Proofs.YtnggfglmjdiaaaaOwn.Dy HO17.out BK198.out (by decide) hO_); replace HO23 := Aside0.mk (Go.Proofs.YtnggfglmjdiaaaaOwn.onlyR HO23.out BK198.out (by decide) hO_); replace HO29 := Aside0.mk (Go.Proofs.YtnggfglmjdiaaaaOwn.Dy HO29.out BK198.out (by decide) hO_); replace HO34 := Aside0.mk (Go.Proofs.YtnggfglmjdiaaaaOwn.Dy HO34.out BK198.out (by decide) hO_); replace HO44 := Aside0.mk (Go.Proofs.YtnggfglmjdiaaaaOwn.Dy HO44.out BK198.out (by decide) hO_); replace HO49 := Aside0.mk (Go.Proofs.YtnggfglmjdiaaaaOwn.Dy HO49.out BK198.out (by decide) hO_); replace HO57 := Aside0.mk (Go.Proofs.YtnggfglmjdiaaaaOwn.onlyR HO57.out BK198.out (by decide) hO_); replace HO63 := Aside0.mk (Go.Proofs.YtnggfglmjdiaaaaOwn.Dy HO63.out BK198.out (by decide) hO_); replace HO68 := Aside0.mk (Go.Proofs.YtnggfglmjdiaaaaOwn.Dy HO68.out BK198.out (by decide) hO_); replace BK160 := Aside0.mk ((hO_.others _ NBgb2_gb74.out).trans BK160.out); replace BK179 := Aside0.mk ((hO_.others _ NBgb40_gb74.out).trans BK179.out); replace BK188 := Aside0.mk ((hO_.others _ NBgb53_gb74.out).trans BK188.out); replace HB := Aside0.mk (hO_.below HB.out GEgb74.out); have HSw199 := Aside0.mk (Nat.le_of_eq hO_.size.symm : w197.heap.size ≤ w199.heap.size); clear BK198; have BK200 := Aside0.mk hbx_; clear hbx_ hO_; obtain ⟨hzgb2_0, hzgb2_1, hzgb2_2⟩ := cl3_ BK160.out; obtain ⟨hzgb40_0, hzgb40_1, hzgb40_2⟩ := cl3_ BK179.out; obtain ⟨hzgb53_0, hzgb53_1, hzgb53_2⟩ := cl3_ BK188.out; obtain ⟨hzgb74_0, hzgb74_1, hzgb74_2⟩ := cl3_ BK200.out) | (go_at_call 14; (with_reducible refine (Cm.calls k _ _ r60 r64 _ _ r65 _ _ r26 r30 _ _ r31 true w199 (Kd.Af HO63.out).2.2 (Nat.le_trans (Nat.le_of_eq (Kd.Af HO63.out).1.symm) (Kd.Af HO63.out).2.1) (Kd.Af HO68.out).2.2 (Nat.le_trans (Nat.le_of_eq (Kd.Af HO68.out).1.symm) (Kd.Af HO68.out).2.1) (Kd.Af HO29.out).2.2 (Nat.le_trans (Nat.le_of_eq (Kd.Af HO29.out).1.symm) (Kd.Af HO29.out).2.1) (Kd.Af HO34.out).2.2 (Nat.le_trans (Nat.le_of_eq (Kd.Af HO34.out).1.symm) (Kd.Af HO34.out).2.1) A77.out).mono ?_); rintro e w201 ⟨rfl, hb⟩; (try clear hzgb2_0 hzgb2_1 hzgb2_2); (try clear hzgb40_0 hzgb40_1 hzgb40_2); (try clear hzgb53_0 hzgb53_1 hzgb53_2); (try clear hzgb74_0 hzgb74_1 hzgb74_2); replace HO12 := Aside0.mk (Kd.Ac HO12.out hb); replace HO17 := Aside0.mk (Kd.Ac HO17.out hb); replace HO23 := Aside0.mk (Kd.Cb HO23.out hb); replace HO29 := Aside0.mk (Kd.Ac HO29.out hb); replace HO34 := Aside0.mk (Kd.Ac HO34.out hb); replace HO44 := Aside0.mk (Kd.Ac HO44.out hb); replace HO49 := Aside0.mk (Kd.Ac HO49.out hb); replace HO57 := Aside0.mk (Kd.Cb HO57.out hb); replace HO63 := Aside0.mk (Kd.Ac HO63.out hb); replace HO68 := Aside0.mk (Kd.Ac HO68.out hb); replace BK160 := Aside0.mk (blk_below BK160.out hb); replace BK179 := Aside0.mk (blk_below BK179.out hb); replace BK188 := Aside0.mk (blk_below BK188.out hb); replace BK200 := Aside0.mk (blk_below BK200.out hb); have HSw201 := Aside0.mk hb.size; replace HB := Aside0.mk (below_step HB.out hb); clear hb; obtain ⟨hzgb2_0, hzgb2_1, hzgb2_2⟩ := cl3_ BK160.out; obtain ⟨hzgb40_0, hzgb40_1, hzgb40_2⟩ := cl3_ BK179.out; obtain ⟨hzgb53_0, hzgb53_1, hzgb53_2⟩ := cl3_ BK188.out; obtain ⟨hzgb74_0, hzgb74_1, hzgb74_2⟩ := cl3_ BK200.out))
   (try clear hzgb2_0 hzgb2_1 hzgb2_2 hzgb40_0 hzgb40_1 hzgb40_2 hzgb53_0 hzgb53_1 hzgb53_2 hzgb74_0 hzgb74_1 hzgb74_2)
   replace HO12 := Aside0.mk (Kd.S_drew HO12.out)
   replace HO17 := Aside0.mk (Kd.S_drew HO17.out)
   replace HO23 := Aside0.mk (Kd.R_drew HO23.out)
   replace HO29 := Aside0.mk (Kd.S_drew HO29.out)
   replace HO34 := Aside0.mk (Kd.S_drew HO34.out)
   replace HO44 := Aside0.mk (Kd.S_drew HO44.out)
   replace HO49 := Aside0.mk (Kd.S_drew HO49.out)
   replace HO57 := Aside0.mk (Kd.R_drew HO57.out)
   replace HO63 := Aside0.mk (Kd.S_drew HO63.out)
   replace HO68 := Aside0.mk (Kd.S_drew HO68.out)
   replace BK160 := Aside0.mk (blk_drew BK160.out)
   replace BK179 := Aside0.mk (blk_drew BK179.out)
   replace BK188 := Aside0.mk (blk_drew BK188.out)
   replace BK200 := Aside0.mk (blk_drew BK200.out)
   replace HB := Aside0.mk (below_drew1 HB.out)
   have HSw202 := Aside0.mk (show w201.heap.size ≤ w201.drew.heap.size from Nat.le_refl _)
   refine start_ (n := 5) (S := fun w' => w'.cell? ⟨gb53, 0, none⟩ = some (.slice A42 r41.length c43) ∧ w'.cell? ⟨gb53, 1, none⟩ = some (.int .i64 r45) ∧ w'.cell? ⟨gb53, 2, none⟩ = some (.slice A47 r46.length c48) ∧ w'.cell? ⟨gb2, 0, none⟩ = some (.slice A0_0 l0_0.length c0_0) ∧ w'.cell? ⟨gb2, 1, none⟩ = some (.int .i64 a0_1) ∧ w'.cell? ⟨gb2, 2, none⟩ = some (.slice A0_2 l0_2.length c0_2)) (ds := []) #[false, false, false, false, false] Ybb_ rfl rfl ⟨(blk_cell BK188.out 0).trans rfl, (blk_cell BK188.out 1).trans rfl, (blk_cell BK188.out 2).trans rfl, (blk_cell BK160.out 0).trans rfl, (blk_cell BK160.out 1).trans rfl, (blk_cell BK160.out 2).trans rfl⟩ (fun hHeld => ?_)
   generalize w201.drew = w202 at HO12 HO17 HO23 HO29 HO34 HO44 HO49 HO57 HO63 HO68 BK160 BK179 BK188 BK200 HB HSw202 hHeld ⊢
   refine take_ (i := 0) (N := some 64) #[true, false, false, false, false] rfl rfl Ybb_ (fun _ _ _ h => h) (Or.inl ⟨by rfl, Ydj_⟩) hHeld Ya_ ?_
   refine take_ (i := 1) (N := some 65) #[true, true, false, false, false] rfl rfl Ybb_ (fun _ _ _ h => h) (Or.inl ⟨by rfl, Ydj_⟩) hHeld Ya_ ?_
   refine one_ (i := 2) (N := some 66) #[true, true, true, false, false] rfl rfl Ybb_ (by decide) (fun K hK => ?_)
   refine goes_ Try.func12 Ybb_ rfl #[.agg #[.slice A0_0 l0_0.length c0_0, .int .i64 a0_1, .slice A0_2 l0_2.length c0_2]] (by rfl) rfl rfl Yj_ ?_
   (with_reducible refine (Ci.calls2 k _ _ l0_0 a0_1 _ _ l0_2 r78 r82 r83 w202 (Kd.C_below HR0_0.out Yb_) HC0_0.out (Kd.C_below HR0_2.out Yb_) HC0_2.out A88.out).mono ?_)
   rintro e w203 ⟨Pw203, v206, v207, rfl, ho204, ho205, hb⟩
   refine ⟨_, rfl, ?_⟩
   replace HO12 := Aside0.mk (Kd.Ac HO12.out hb)
   replace HO17 := Aside0.mk (Kd.Ac HO17.out hb)
   replace HO23 := Aside0.mk (Kd.Cb HO23.out hb)
   replace HO29 := Aside0.mk (Kd.Ac HO29.out hb)
   replace HO34 := Aside0.mk (Kd.Ac HO34.out hb)
   replace HO44 := Aside0.mk (Kd.Ac HO44.out hb)
   replace HO49 := Aside0.mk (Kd.Ac HO49.out hb)
   replace HO57 := Aside0.mk (Kd.Cb HO57.out hb)
   replace HO63 := Aside0.mk (Kd.Ac HO63.out hb)
   replace HO68 := Aside0.mk (Kd.Ac HO68.out hb)
   replace BK160 := Aside0.mk (blk_below BK160.out hb)
   replace BK179 := Aside0.mk (blk_below BK179.out hb)
   replace BK188 := Aside0.mk (blk_below BK188.out hb)
   replace BK200 := Aside0.mk (blk_below BK200.out hb)
   have HSw203 := Aside0.mk hb.size
   have m_ := (show Kd.S (Kd.slice 3 (Kd.int .i64)) 73 w203 w.heap.size (fun k_ => (w202.heap.size ≤ k_ ∧ k_ < w203.heap.size) ∧ Pw203 k_) v206 r78 from Kd.S_mono (Kd.S_lower (Kd.D6 ho204) (below_size Yb_)) (fun k_ hk_ => ⟨⟨hk_.2.1, hk_.2.2.1⟩, hk_.1⟩))
   obtain ⟨A79, c80, e_⟩ := Kd.S_slice m_
   subst e_
   have HO81 := Aside0.mk m_
   clear m_ ho204
   have m_ := (show Kd.S (Kd.slice 3 (Kd.int .i64)) 73 w203 w.heap.size (fun k_ => (w202.heap.size ≤ k_ ∧ k_ < w203.heap.size) ∧ ¬ Pw203 k_) v207 r83 from Kd.S_mono (Kd.S_lower (Kd.D6 ho205) (below_size Yb_)) (fun k_ hk_ => ⟨⟨hk_.2.1, hk_.2.2.1⟩, hk_.1⟩))
   obtain ⟨A84, c85, e_⟩ := Kd.S_slice m_
   subst e_
   have HO86 := Aside0.mk m_
   clear m_ ho205
   replace HB := Aside0.mk (below_step HB.out hb)
   clear hb
   refine hK.out _ _ ⟨(blk_cell BK188.out 0).trans rfl, (blk_cell BK188.out 1).trans rfl, (blk_cell BK188.out 2).trans rfl, (blk_cell BK160.out 0).trans rfl, (blk_cell BK160.out 1).trans rfl, (blk_cell BK160.out 2).trans rfl⟩ (fun hHeld => ?_)
   clear hK K
   refine norm_ (show Act.put _ (some 66) _ = _ from Ya_) ?_
   refine one_ (i := 3) (N := some 67) #[true, true, true, true, false] rfl rfl Ybb_ (by decide) (fun K hK => ?_)
   refine goes_ Try.func14 Ybb_ rfl #[.agg #[.slice A42 r41.length c43, .int .i64 r45, .slice A47 r46.length c48], .agg #[.slice A79 r78.length c80, .int .i64 r82, .slice A84 r83.length c85]] (by rfl) rfl rfl Yj_ ?_
   (with_reducible refine (Cm.calls k _ _ r41 r45 _ _ r46 _ _ r78 r82 _ _ r83 true w203 (Kd.Af HO44.out).2.2 (Nat.le_trans (Nat.le_of_eq (Kd.Af HO44.out).1.symm) (Kd.Af HO44.out).2.1) (Kd.Af HO49.out).2.2 (Nat.le_trans (Nat.le_of_eq (Kd.Af HO49.out).1.symm) (Kd.Af HO49.out).2.1) (Kd.Af HO81.out).2.2 (Nat.le_trans (Nat.le_of_eq (Kd.Af HO81.out).1.symm) (Kd.Af HO81.out).2.1) (Kd.Af HO86.out).2.2 (Nat.le_trans (Nat.le_of_eq (Kd.Af HO86.out).1.symm) (Kd.Af HO86.out).2.1) A91.out).mono ?_)
   rintro e w208 ⟨rfl, hb⟩
   refine ⟨_, rfl, ?_⟩
   replace HO12 := Aside0.mk (Kd.Ac HO12.out hb)
   replace HO17 := Aside0.mk (Kd.Ac HO17.out hb)
   replace HO23 := Aside0.mk (Kd.Cb HO23.out hb)
   replace HO29 := Aside0.mk (Kd.Ac HO29.out hb)
   replace HO34 := Aside0.mk (Kd.Ac HO34.out hb)
   replace HO44 := Aside0.mk (Kd.Ac HO44.out hb)
   replace HO49 := Aside0.mk (Kd.Ac HO49.out hb)
   replace HO57 := Aside0.mk (Kd.Cb HO57.out hb)
   replace HO63 := Aside0.mk (Kd.Ac HO63.out hb)
   replace HO68 := Aside0.mk (Kd.Ac HO68.out hb)
   replace HO81 := Aside0.mk (Kd.Ac HO81.out hb)
   replace HO86 := Aside0.mk (Kd.Ac HO86.out hb)
   replace BK160 := Aside0.mk (blk_below BK160.out hb)
   replace BK179 := Aside0.mk (blk_below BK179.out hb)
   replace BK188 := Aside0.mk (blk_below BK188.out hb)
   replace BK200 := Aside0.mk (blk_below BK200.out hb)
   have HSw208 := Aside0.mk hb.size
   replace HB := Aside0.mk (below_step HB.out hb)
   clear hb
   refine hK.out _ _ ⟨(blk_cell BK188.out 0).trans rfl, (blk_cell BK188.out 1).trans rfl, (blk_cell BK188.out 2).trans rfl, (blk_cell BK160.out 0).trans rfl, (blk_cell BK160.out 1).trans rfl, (blk_cell BK160.out 2).trans rfl⟩ (fun hHeld => ?_)
   clear hK K
   refine norm_ (show Act.put _ (some 67) _ = _ from Ya_) ?_
   refine pure_ (i := 4) (N := some 68) #[true, true, true, true, true] rfl rfl Ybb_ (fun _ _ _ h => h) (Or.inl ⟨by rfl, Ybg_⟩) Ya_ ?_
   refine done_ Ybb_ ?_
   obtain ⟨hzgb2_0, hzgb2_1, hzgb2_2⟩ := cl3_ BK160.out
   obtain ⟨hzgb40_0, hzgb40_1, hzgb40_2⟩ := cl3_ BK179.out
   obtain ⟨hzgb53_0, hzgb53_1, hzgb53_2⟩ := cl3_ BK188.out
   obtain ⟨hzgb74_0, hzgb74_1, hzgb74_2⟩ := cl3_ BK200.out
   go_wp2_with (first | (go_at_call 35; (with_reducible refine (Aw.calls k _ _ l1 r92 w208 (Kd.C_below HR1.out Yb_) HC1.out A97.out).mono ?_); rintro e w209 ⟨v211, rfl, ho210, hb⟩; (try clear hzgb2_0 hzgb2_1 hzgb2_2); (try clear hzgb40_0 hzgb40_1 hzgb40_2); (try clear hzgb53_0 hzgb53_1 hzgb53_2); (try clear hzgb74_0 hzgb74_1 hzgb74_2); replace HO12 := Aside0.mk (Kd.Ac HO12.out hb); replace HO17 := Aside0.mk (Kd.Ac HO17.out hb); replace HO23 := Aside0.mk (Kd.Cb HO23.out hb); replace HO29 := Aside0.mk (Kd.Ac HO29.out hb); replace HO34 := Aside0.mk (Kd.Ac HO34.out hb); replace HO44 := Aside0.mk (Kd.Ac HO44.out hb); replace HO49 := Aside0.mk (Kd.Ac HO49.out hb); replace HO57 := Aside0.mk (Kd.Cb HO57.out hb); replace HO63 := Aside0.mk (Kd.Ac HO63.out hb); replace HO68 := Aside0.mk (Kd.Ac HO68.out hb); replace HO81 := Aside0.mk (Kd.Ac HO81.out hb); replace HO86 := Aside0.mk (Kd.Ac HO86.out hb); replace BK160 := Aside0.mk (blk_below BK160.out hb); replace BK179 := Aside0.mk (blk_below BK179.out hb); replace BK188 := Aside0.mk (blk_below BK188.out hb); replace BK200 := Aside0.mk (blk_below BK200.out hb); have HSw209 := Aside0.mk hb.size; have m_ := (show Kd.R k43 43 w209 w.heap.size (fun k_ => (w208.heap.size ≤ k_ ∧ k_ < w209.heap.size) ∧ True) v211 r92 from Kd.Dl (Kd.R_lower (Kd.Ff ho210) (below_size Yb_)) (fun k_ hk_ => ⟨⟨hk_.2.1, hk_.2.2.1⟩, trivial⟩)); obtain ⟨A93, c94, e_⟩ := Kd.Dc m_; subst e_; have HO95 := Aside0.mk m_; clear m_ ho210; replace HB := Aside0.mk (below_step HB.out hb); clear hb; obtain ⟨hzgb2_0, hzgb2_1, hzgb2_2⟩ := cl3_ BK160.out; obtain ⟨hzgb40_0, hzgb40_1, hzgb40_2⟩ := cl3_ BK179.out; obtain ⟨hzgb53_0, hzgb53_1, hzgb53_2⟩ := cl3_ BK188.out; obtain ⟨hzgb74_0, hzgb74_1, hzgb74_2⟩ := cl3_ BK200.out) | (go_at_call 27; (with_reducible refine (Aq.calls k _ _ r54 _ _ r92 true w209 (Kd.Bo HO57.out).2.2 (Nat.le_trans (Nat.le_of_eq (Kd.Bo HO57.out).1.symm) (Kd.Bo HO57.out).2.1) (Kd.Bo HO95.out).2.2 (Nat.le_trans (Nat.le_of_eq (Kd.Bo HO95.out).1.symm) (Kd.Bo HO95.out).2.1) A100.out).mono ?_); rintro e w212 ⟨rfl, hb⟩; (try clear hzgb2_0 hzgb2_1 hzgb2_2); (try clear hzgb40_0 hzgb40_1 hzgb40_2); (try clear hzgb53_0 hzgb53_1 hzgb53_2); (try clear hzgb74_0 hzgb74_1 hzgb74_2); replace HO12 := Aside0.mk (Kd.Ac HO12.out hb); replace HO17 := Aside0.mk (Kd.Ac HO17.out hb); replace HO23 := Aside0.mk (Kd.Cb HO23.out hb); replace HO29 := Aside0.mk (Kd.Ac HO29.out hb); replace HO34 := Aside0.mk (Kd.Ac HO34.out hb); replace HO44 := Aside0.mk (Kd.Ac HO44.out hb); replace HO49 := Aside0.mk (Kd.Ac HO49.out hb); replace HO57 := Aside0.mk (Kd.Cb HO57.out hb); replace HO63 := Aside0.mk (Kd.Ac HO63.out hb); replace HO68 := Aside0.mk (Kd.Ac HO68.out hb); replace HO81 := Aside0.mk (Kd.Ac HO81.out hb); replace HO86 := Aside0.mk (Kd.Ac HO86.out hb); replace HO95 := Aside0.mk (Kd.Cb HO95.out hb); replace BK160 := Aside0.mk (blk_below BK160.out hb); replace BK179 := Aside0.mk (blk_below BK179.out hb); replace BK188 := Aside0.mk (blk_below BK188.out hb); replace BK200 := Aside0.mk (blk_below BK200.out hb); have HSw212 := Aside0.mk hb.size; replace HB := Aside0.mk (below_step HB.out hb); clear hb; obtain ⟨hzgb2_0, hzgb2_1, hzgb2_2⟩ := cl3_ BK160.out; obtain ⟨hzgb40_0, hzgb40_1, hzgb40_2⟩ := cl3_ BK179.out; obtain ⟨hzgb53_0, hzgb53_1, hzgb53_2⟩ := cl3_ BK188.out; obtain ⟨hzgb74_0, hzgb74_1, hzgb74_2⟩ := cl3_ BK200.out) | (go_at_call 23; (with_reducible refine (Dk.calls k (fun k_ => (((((w178.heap.size ≤ k_ ∧ k_ < w180.heap.size) ∧ Pw180 k_) ∧ k_ ≠ gb2) ∧ k_ ≠ gb40) ∧ k_ ≠ gb53) ∧ k_ ≠ gb74) (.slice A42 r41.length c43) r41 r45 (fun k_ => (((((w178.heap.size ≤ k_ ∧ k_ < w180.heap.size) ∧ ¬ Pw180 k_) ∧ k_ ≠ gb2) ∧ k_ ≠ gb40) ∧ k_ ≠ gb53) ∧ k_ ≠ gb74) (.slice A47 r46.length c48) r46 1 r101 r102 r103 w w212 HB.out (Kd.S_types (Kd.S_types (Kd.S_types (Kd.S_types HO44.out BK160.out (by decide)) BK179.out (by decide)) BK188.out (by decide)) BK200.out (by decide)) (fun k_ h1_ h2_ => absurd h1_.1.1.1.1.2 h2_.1.1.1.1.2) (Kd.S_types (Kd.S_types (Kd.S_types (Kd.S_types HO49.out BK160.out (by decide)) BK179.out (by decide)) BK188.out (by decide)) BK200.out (by decide)) (fun k_ h1_ h2_ => absurd h2_.1.1.1.1.2 h1_.1.1.1.1.2) A105.out).mono ?_); rintro e w213 ⟨rfl, ho214, ho215, hb, hk⟩; (try clear hzgb2_0 hzgb2_1 hzgb2_2); (try clear hzgb40_0 hzgb40_1 hzgb40_2); (try clear hzgb53_0 hzgb53_1 hzgb53_2); (try clear hzgb74_0 hzgb74_1 hzgb74_2); replace HO12 := Aside0.mk (show Kd.S (Kd.slice 3 (Kd.int .i64)) 73 w213 w.heap.size (fun k_ => (w162.heap.size ≤ k_ ∧ k_ < w163.heap.size) ∧ Pw163 k_) (.slice A10 r9.length c11) r9 from Kd.Ec HO12.out hk (fun k_ hk_ hs_ => by rcases hs_ with hs_ | hs_ <;> first | (have := HSw159.out; have := HSw161.out; have := HSw162.out; have := HSw163.out; have := HSw168.out; have := HSw171.out; have := HSw176.out; have := HSw178.out; have := HSw180.out; have := HSw185.out; have := HSw187.out; have := HSw189.out; have := HSw192.out; have := HSw197.out; have := HSw199.out; have := HSw201.out; have := HSw202.out; have := HSw203.out; have := HSw208.out; have := HSw209.out; have := HSw212.out; have h1_ : w162.heap.size ≤ k_ ∧ k_ < w163.heap.size := hk_.1; have h2_ : w178.heap.size ≤ k_ ∧ k_ < w180.heap.size := hs_.1.1.1.1.1; omega) | (have := HSw159.out; have := HSw161.out; have := HSw162.out; have := HSw163.out; have := HSw168.out; have := HSw171.out; have := HSw176.out; have := HSw178.out; have := HSw180.out; have := HSw185.out; have := HSw187.out; have := HSw189.out; have := HSw192.out; have := HSw197.out; have := HSw199.out; have := HSw201.out; have := HSw202.out; have := HSw203.out; have := HSw208.out; have := HSw209.out; have := HSw212.out; have h1_ : w162.heap.size ≤ k_ ∧ k_ < w163.heap.size := hk_.1; have h2_ : w178.heap.size ≤ k_ ∧ k_ < w180.heap.size := hs_.1.1.1.1.1; omega))); replace HO17 := Aside0.mk (show Kd.S (Kd.slice 3 (Kd.int .i64)) 73 w213 w.heap.size (fun k_ => (w162.heap.size ≤ k_ ∧ k_ < w163.heap.size) ∧ ¬ Pw163 k_) (.slice A15 r14.length c16) r14 from Kd.Ec HO17.out hk (fun k_ hk_ hs_ => by rcases hs_ with hs_ | hs_ <;> first | (have := HSw159.out; have := HSw161.out; have := HSw162.out; have := HSw163.out; have := HSw168.out; have := HSw171.out; have := HSw176.out; have := HSw178.out; have := HSw180.out; have := HSw185.out; have := HSw187.out; have := HSw189.out; have := HSw192.out; have := HSw197.out; have := HSw199.out; have := HSw201.out; have := HSw202.out; have := HSw203.out; have := HSw208.out; have := HSw209.out; have := HSw212.out; have h1_ : w162.heap.size ≤ k_ ∧ k_ < w163.heap.size := hk_.1; have h2_ : w178.heap.size ≤ k_ ∧ k_ < w180.heap.size := hs_.1.1.1.1.1; omega) | (have := HSw159.out; have := HSw161.out; have := HSw162.out; have := HSw163.out; have := HSw168.out; have := HSw171.out; have := HSw176.out; have := HSw178.out; have := HSw180.out; have := HSw185.out; have := HSw187.out; have := HSw189.out; have := HSw192.out; have := HSw197.out; have := HSw199.out; have := HSw201.out; have := HSw202.out; have := HSw203.out; have := HSw208.out; have := HSw209.out; have := HSw212.out; have h1_ : w162.heap.size ≤ k_ ∧ k_ < w163.heap.size := hk_.1; have h2_ : w178.heap.size ≤ k_ ∧ k_ < w180.heap.size := hs_.1.1.1.1.1; omega))); replace HO23 := Aside0.mk (show Kd.R k43 43 w213 w.heap.size (fun k_ => (w163.heap.size ≤ k_ ∧ k_ < w168.heap.size) ∧ True) (.slice A21 r20.length c22) r20 from Kd.R_kept HO23.out hk (fun k_ hk_ hs_ => by rcases hs_ with hs_ | hs_ <;> first | (have := HSw159.out; have := HSw161.out; have := HSw162.out; have := HSw163.out; have := HSw168.out; have := HSw171.out; have := HSw176.out; have := HSw178.out; have := HSw180.out; have := HSw185.out; have := HSw187.out; have := HSw189.out; have := HSw192.out; have := HSw197.out; have := HSw199.out; have := HSw201.out; have := HSw202.out; have := HSw203.out; have := HSw208.out; have := HSw209.out; have := HSw212.out; have h1_ : w163.heap.size ≤ k_ ∧ k_ < w168.heap.size := hk_.1; have h2_ : w178.heap.size ≤ k_ ∧ k_ < w180.heap.size := hs_.1.1.1.1.1; omega) | (have := HSw159.out; have := HSw161.out; have := HSw162.out; have := HSw163.out; have := HSw168.out; have := HSw171.out; have := HSw176.out; have := HSw178.out; have := HSw180.out; have := HSw185.out; have := HSw187.out; have := HSw189.out; have := HSw192.out; have := HSw197.out; have := HSw199.out; have := HSw201.out; have := HSw202.out; have := HSw203.out; have := HSw208.out; have := HSw209.out; have := HSw212.out; have h1_ : w163.heap.size ≤ k_ ∧ k_ < w168.heap.size := hk_.1; have h2_ : w178.heap.size ≤ k_ ∧ k_ < w180.heap.size := hs_.1.1.1.1.1; omega))); replace HO29 := Aside0.mk (show Kd.S (Kd.slice 3 (Kd.int .i64)) 73 w213 w.heap.size (fun k_ => (w168.heap.size ≤ k_ ∧ k_ < w171.heap.size) ∧ True) (.slice A27 r26.length c28) r26 from Kd.Ec HO29.out hk (fun k_ hk_ hs_ => by rcases hs_ with hs_ | hs_ <;> first | (have := HSw159.out; have := HSw161.out; have := HSw162.out; have := HSw163.out; have := HSw168.out; have := HSw171.out; have := HSw176.out; have := HSw178.out; have := HSw180.out; have := HSw185.out; have := HSw187.out; have := HSw189.out; have := HSw192.out; have := HSw197.out; have := HSw199.out; have := HSw201.out; have := HSw202.out; have := HSw203.out; have := HSw208.out; have := HSw209.out; have := HSw212.out; have h1_ : w168.heap.size ≤ k_ ∧ k_ < w171.heap.size := hk_.1; have h2_ : w178.heap.size ≤ k_ ∧ k_ < w180.heap.size := hs_.1.1.1.1.1; omega) | (have := HSw159.out; have := HSw161.out; have := HSw162.out; have := HSw163.out; have := HSw168.out; have := HSw171.out; have := HSw176.out; have := HSw178.out; have := HSw180.out; have := HSw185.out; have := HSw187.out; have := HSw189.out; have := HSw192.out; have := HSw197.out; have := HSw199.out; have := HSw201.out; have := HSw202.out; have := HSw203.out; have := HSw208.out; have := HSw209.out; have := HSw212.out; have h1_ : w168.heap.size ≤ k_ ∧ k_ < w171.heap.size := hk_.1; have h2_ : w178.heap.size ≤ k_ ∧ k_ < w180.heap.size := hs_.1.1.1.1.1; omega))); replace HO34 := Aside0.mk (show Kd.S (Kd.slice 3 (Kd.int .i64)) 73 w213 w.heap.size (fun k_ => (w168.heap.size ≤ k_ ∧ k_ < w171.heap.size) ∧ True) (.slice A32 r31.length c33) r31 from Kd.Ec HO34.out hk (fun k_ hk_ hs_ => by rcases hs_ with hs_ | hs_ <;> first | (have := HSw159.out; have := HSw161.out; have := HSw162.out; have := HSw163.out; have := HSw168.out; have := HSw171.out; have := HSw176.out; have := HSw178.out; have := HSw180.out; have := HSw185.out; have := HSw187.out; have := HSw189.out; have := HSw192.out; have := HSw197.out; have := HSw199.out; have := HSw201.out; have := HSw202.out; have := HSw203.out; have := HSw208.out; have := HSw209.out; have := HSw212.out; have h1_ : w168.heap.size ≤ k_ ∧ k_ < w171.heap.size := hk_.1; have h2_ : w178.heap.size ≤ k_ ∧ k_ < w180.heap.size := hs_.1.1.1.1.1; omega) | (have := HSw159.out; have := HSw161.out; have := HSw162.out; have := HSw163.out; have := HSw168.out; have := HSw171.out; have := HSw176.out; have := HSw178.out; have := HSw180.out; have := HSw185.out; have := HSw187.out; have := HSw189.out; have := HSw192.out; have := HSw197.out; have := HSw199.out; have := HSw201.out; have := HSw202.out; have := HSw203.out; have := HSw208.out; have := HSw209.out; have := HSw212.out; have h1_ : w168.heap.size ≤ k_ ∧ k_ < w171.heap.size := hk_.1; have h2_ : w178.heap.size ≤ k_ ∧ k_ < w180.heap.size := hs_.1.1.1.1.1; omega))); replace HO57 := Aside0.mk (show Kd.R k43 43 w213 w.heap.size (fun k_ => (w187.heap.size ≤ k_ ∧ k_ < w189.heap.size) ∧ True) (.slice A55 r54.length c56) r54 from Kd.R_kept HO57.out hk (fun k_ hk_ hs_ => by rcases hs_ with hs_ | hs_ <;> first | (have := HSw159.out; have := HSw161.out; have := HSw162.out; have := HSw163.out; have := HSw168.out; have := HSw171.out; have := HSw176.out; have := HSw178.out; have := HSw180.out; have := HSw185.out; have := HSw187.out; have := HSw189.out; have := HSw192.out; have := HSw197.out; have := HSw199.out; have := HSw201.out; have := HSw202.out; have := HSw203.out; have := HSw208.out; have := HSw209.out; have := HSw212.out; have h1_ : w187.heap.size ≤ k_ ∧ k_ < w189.heap.size := hk_.1; have h2_ : w178.heap.size ≤ k_ ∧ k_ < w180.heap.size := hs_.1.1.1.1.1; omega) | (have := HSw159.out; have := HSw161.out; have := HSw162.out; have := HSw163.out; have := HSw168.out; have := HSw171.out; have := HSw176.out; have := HSw178.out; have := HSw180.out; have := HSw185.out; have := HSw187.out; have := HSw189.out; have := HSw192.out; have := HSw197.out; have := HSw199.out; have := HSw201.out; have := HSw202.out; have := HSw203.out; have := HSw208.out; have := HSw209.out; have := HSw212.out; have h1_ : w187.heap.size ≤ k_ ∧ k_ < w189.heap.size := hk_.1; have h2_ : w178.heap.size ≤ k_ ∧ k_ < w180.heap.size := hs_.1.1.1.1.1; omega))); replace HO63 := Aside0.mk (show Kd.S (Kd.slice 3 (Kd.int .i64)) 73 w213 w.heap.size (fun k_ => (w189.heap.size ≤ k_ ∧ k_ < w192.heap.size) ∧ Pw192 k_) (.slice A61 r60.length c62) r60 from Kd.Ec HO63.out hk (fun k_ hk_ hs_ => by rcases hs_ with hs_ | hs_ <;> first | (have := HSw159.out; have := HSw161.out; have := HSw162.out; have := HSw163.out; have := HSw168.out; have := HSw171.out; have := HSw176.out; have := HSw178.out; have := HSw180.out; have := HSw185.out; have := HSw187.out; have := HSw189.out; have := HSw192.out; have := HSw197.out; have := HSw199.out; have := HSw201.out; have := HSw202.out; have := HSw203.out; have := HSw208.out; have := HSw209.out; have := HSw212.out; have h1_ : w189.heap.size ≤ k_ ∧ k_ < w192.heap.size := hk_.1; have h2_ : w178.heap.size ≤ k_ ∧ k_ < w180.heap.size := hs_.1.1.1.1.1; omega) | (have := HSw159.out; have := HSw161.out; have := HSw162.out; have := HSw163.out; have := HSw168.out; have := HSw171.out; have := HSw176.out; have := HSw178.out; have := HSw180.out; have := HSw185.out; have := HSw187.out; have := HSw189.out; have := HSw192.out; have := HSw197.out; have := HSw199.out; have := HSw201.out; have := HSw202.out; have := HSw203.out; have := HSw208.out; have := HSw209.out; have := HSw212.out; have h1_ : w189.heap.size ≤ k_ ∧ k_ < w192.heap.size := hk_.1; have h2_ : w178.heap.size ≤ k_ ∧ k_ < w180.heap.size := hs_.1.1.1.1.1; omega))); replace HO68 := Aside0.mk (show Kd.S (Kd.slice 3 (Kd.int .i64)) 73 w213 w.heap.size (fun k_ => (w189.heap.size ≤ k_ ∧ k_ < w192.heap.size) ∧ ¬ Pw192 k_) (.slice A66 r65.length c67) r65 from Kd.Ec HO68.out hk (fun k_ hk_ hs_ => by rcases hs_ with hs_ | hs_ <;> first | (have := HSw159.out; have := HSw161.out; have := HSw162.out; have := HSw163.out; have := HSw168.out; have := HSw171.out; have := HSw176.out; have := HSw178.out; have := HSw180.out; have := HSw185.out; have := HSw187.out; have := HSw189.out; have := HSw192.out; have := HSw197.out; have := HSw199.out; have := HSw201.out; have := HSw202.out; have := HSw203.out; have := HSw208.out; have := HSw209.out; have := HSw212.out; have h1_ : w189.heap.size ≤ k_ ∧ k_ < w192.heap.size := hk_.1; have h2_ : w178.heap.size ≤ k_ ∧ k_ < w180.heap.size := hs_.1.1.1.1.1; omega) | (have := HSw159.out; have := HSw161.out; have := HSw162.out; have := HSw163.out; have := HSw168.out; have := HSw171.out; have := HSw176.out; have := HSw178.out; have := HSw180.out; have := HSw185.out; have := HSw187.out; have := HSw189.out; have := HSw192.out; have := HSw197.out; have := HSw199.out; have := HSw201.out; have := HSw202.out; have := HSw203.out; have := HSw208.out; have := HSw209.out; have := HSw212.out; have h1_ : w189.heap.size ≤ k_ ∧ k_ < w192.heap.size := hk_.1; have h2_ : w178.heap.size ≤ k_ ∧ k_ < w180.heap.size := hs_.1.1.1.1.1; omega))); replace HO81 := Aside0.mk (show Kd.S (Kd.slice 3 (Kd.int .i64)) 73 w213 w.heap.size (fun k_ => (w202.heap.size ≤ k_ ∧ k_ < w203.heap.size) ∧ Pw203 k_) (.slice A79 r78.length c80) r78 from Kd.Ec HO81.out hk (fun k_ hk_ hs_ => by rcases hs_ with hs_ | hs_ <;> first | (have := HSw159.out; have := HSw161.out; have := HSw162.out; have := HSw163.out; have := HSw168.out; have := HSw171.out; have := HSw176.out; have := HSw178.out; have := HSw180.out; have := HSw185.out; have := HSw187.out; have := HSw189.out; have := HSw192.out; have := HSw197.out; have := HSw199.out; have := HSw201.out; have := HSw202.out; have := HSw203.out; have := HSw208.out; have := HSw209.out; have := HSw212.out; have h1_ : w202.heap.size ≤ k_ ∧ k_ < w203.heap.size := hk_.1; have h2_ : w178.heap.size ≤ k_ ∧ k_ < w180.heap.size := hs_.1.1.1.1.1; omega) | (have := HSw159.out; have := HSw161.out; have := HSw162.out; have := HSw163.out; have := HSw168.out; have := HSw171.out; have := HSw176.out; have := HSw178.out; have := HSw180.out; have := HSw185.out; have := HSw187.out; have := HSw189.out; have := HSw192.out; have := HSw197.out; have := HSw199.out; have := HSw201.out; have := HSw202.out; have := HSw203.out; have := HSw208.out; have := HSw209.out; have := HSw212.out; have h1_ : w202.heap.size ≤ k_ ∧ k_ < w203.heap.size := hk_.1; have h2_ : w178.heap.size ≤ k_ ∧ k_ < w180.heap.size := hs_.1.1.1.1.1; omega))); replace HO86 := Aside0.mk (show Kd.S (Kd.slice 3 (Kd.int .i64)) 73 w213 w.heap.size (fun k_ => (w202.heap.size ≤ k_ ∧ k_ < w203.heap.size) ∧ ¬ Pw203 k_) (.slice A84 r83.length c85) r83 from Kd.Ec HO86.out hk (fun k_ hk_ hs_ => by rcases hs_ with hs_ | hs_ <;> first | (have := HSw159.out; have := HSw161.out; have := HSw162.out; have := HSw163.out; have := HSw168.out; have := HSw171.out; have := HSw176.out; have := HSw178.out; have := HSw180.out; have := HSw185.out; have := HSw187.out; have := HSw189.out; have := HSw192.out; have := HSw197.out; have := HSw199.out; have := HSw201.out; have := HSw202.out; have := HSw203.out; have := HSw208.out; have := HSw209.out; have := HSw212.out; have h1_ : w202.heap.size ≤ k_ ∧ k_ < w203.heap.size := hk_.1; have h2_ : w178.heap.size ≤ k_ ∧ k_ < w180.heap.size := hs_.1.1.1.1.1; omega) | (have := HSw159.out; have := HSw161.out; have := HSw162.out; have := HSw163.out; have := HSw168.out; have := HSw171.out; have := HSw176.out; have := HSw178.out; have := HSw180.out; have := HSw185.out; have := HSw187.out; have := HSw189.out; have := HSw192.out; have := HSw197.out; have := HSw199.out; have := HSw201.out; have := HSw202.out; have := HSw203.out; have := HSw208.out; have := HSw209.out; have := HSw212.out; have h1_ : w202.heap.size ≤ k_ ∧ k_ < w203.heap.size := hk_.1; have h2_ : w178.heap.size ≤ k_ ∧ k_ < w180.heap.size := hs_.1.1.1.1.1; omega))); replace HO95 := Aside0.mk (show Kd.R k43 43 w213 w.heap.size (fun k_ => (w208.heap.size ≤ k_ ∧ k_ < w209.heap.size) ∧ True) (.slice A93 r92.length c94) r92 from Kd.R_kept HO95.out hk (fun k_ hk_ hs_ => by rcases hs_ with hs_ | hs_ <;> first | (have := HSw159.out; have := HSw161.out; have := HSw162.out; have := HSw163.out; have := HSw168.out; have := HSw171.out; have := HSw176.out; have := HSw178.out; have := HSw180.out; have := HSw185.out; have := HSw187.out; have := HSw189.out; have := HSw192.out; have := HSw197.out; have := HSw199.out; have := HSw201.out; have := HSw202.out; have := HSw203.out; have := HSw208.out; have := HSw209.out; have := HSw212.out; have h1_ : w208.heap.size ≤ k_ ∧ k_ < w209.heap.size := hk_.1; have h2_ : w178.heap.size ≤ k_ ∧ k_ < w180.heap.size := hs_.1.1.1.1.1; omega) | (have := HSw159.out; have := HSw161.out; have := HSw162.out; have := HSw163.out; have := HSw168.out; have := HSw171.out; have := HSw176.out; have := HSw178.out; have := HSw180.out; have := HSw185.out; have := HSw187.out; have := HSw189.out; have := HSw192.out; have := HSw197.out; have := HSw199.out; have := HSw201.out; have := HSw202.out; have := HSw203.out; have := HSw208.out; have := HSw209.out; have := HSw212.out; have h1_ : w208.heap.size ≤ k_ ∧ k_ < w209.heap.size := hk_.1; have h2_ : w178.heap.size ≤ k_ ∧ k_ < w180.heap.size := hs_.1.1.1.1.1; omega))); replace BK160 := Aside0.mk (Et BK160.out hk (fun hs_ => by rcases hs_ with hs_ | hs_ <;> exact hs_.1.1.1.2 rfl)); replace BK179 := Aside0.mk (Et BK179.out hk (fun hs_ => by rcases hs_ with hs_ | hs_ <;> exact hs_.1.1.2 rfl)); replace BK188 := Aside0.mk (Et BK188.out hk (fun hs_ => by rcases hs_ with hs_ | hs_ <;> exact hs_.1.2 rfl)); replace BK200 := Aside0.mk (Et BK200.out hk (fun hs_ => by rcases hs_ with hs_ | hs_ <;> exact hs_.2 rfl)); clear HB; have HB := Aside0.mk hb; have HSw213 := Aside0.mk hk.1; clear HO44; have HO216 := Aside0.mk ho214; clear ho214; clear HO49; have HO217 := Aside0.mk ho215; clear ho215; (try clear hb hk); obtain ⟨hzgb2_0, hzgb2_1, hzgb2_2⟩ := cl3_ BK160.out; obtain ⟨hzgb40_0, hzgb40_1, hzgb40_2⟩ := cl3_ BK179.out; obtain ⟨hzgb53_0, hzgb53_1, hzgb53_2⟩ := cl3_ BK188.out; obtain ⟨hzgb74_0, hzgb74_1, hzgb74_2⟩ := cl3_ BK200.out) | (go_at_call 28; (with_reducible refine (Bh.calls k (fun k_ => (((((w187.heap.size ≤ k_ ∧ k_ < w189.heap.size) ∧ True) ∧ k_ ≠ gb2) ∧ k_ ≠ gb40) ∧ k_ ≠ gb53) ∧ k_ ≠ gb74) (.slice A55 r54.length c56) r54 r101 r106 r107 w w213 HB.out (Kd.R_types (Kd.R_types (Kd.R_types (Kd.R_types HO57.out BK160.out (by decide)) BK179.out (by decide)) BK188.out (by decide)) BK200.out (by decide)) A109.out).mono ?_); rintro e w218 ⟨rfl, ho219, hb, hk⟩; (try clear hzgb2_0 hzgb2_1 hzgb2_2); (try clear hzgb40_0 hzgb40_1 hzgb40_2); (try clear hzgb53_0 hzgb53_1 hzgb53_2); (try clear hzgb74_0 hzgb74_1 hzgb74_2); clear HO216; clear HO217; replace HO12 := Aside0.mk (show Kd.S (Kd.slice 3 (Kd.int .i64)) 73 w218 w.heap.size (fun k_ => (w162.heap.size ≤ k_ ∧ k_ < w163.heap.size) ∧ Pw163 k_) (.slice A10 r9.length c11) r9 from Kd.Ec HO12.out hk (fun k_ hk_ hs_ => by (have := HSw159.out; have := HSw161.out; have := HSw162.out; have := HSw163.out; have := HSw168.out; have := HSw171.out; have := HSw176.out; have := HSw178.out; have := HSw180.out; have := HSw185.out; have := HSw187.out; have := HSw189.out; have := HSw192.out; have := HSw197.out; have := HSw199.out; have := HSw201.out; have := HSw202.out; have := HSw203.out; have := HSw208.out; have := HSw209.out; have := HSw212.out; have := HSw213.out; have h1_ : w162.heap.size ≤ k_ ∧ k_ < w163.heap.size := hk_.1; have h2_ : w187.heap.size ≤ k_ ∧ k_ < w189.heap.size := hs_.1.1.1.1.1; omega))); replace HO17 := Aside0.mk (show Kd.S (Kd.slice 3 (Kd.int .i64)) 73 w218 w.heap.size (fun k_ => (w162.heap.size ≤ k_ ∧ k_ < w163.heap.size) ∧ ¬ Pw163 k_) (.slice A15 r14.length c16) r14 from Kd.Ec HO17.out hk (fun k_ hk_ hs_ => by (have := HSw159.out; have := HSw161.out; have := HSw162.out; have := HSw163.out; have := HSw168.out; have := HSw171.out; have := HSw176.out; have := HSw178.out; have := HSw180.out; have := HSw185.out; have := HSw187.out; have := HSw189.out; have := HSw192.out; have := HSw197.out; have := HSw199.out; have := HSw201.out; have := HSw202.out; have := HSw203.out; have := HSw208.out; have := HSw209.out; have := HSw212.out; have := HSw213.out; have h1_ : w162.heap.size ≤ k_ ∧ k_ < w163.heap.size := hk_.1; have h2_ : w187.heap.size ≤ k_ ∧ k_ < w189.heap.size := hs_.1.1.1.1.1; omega))); replace HO23 := Aside0.mk (show Kd.R k43 43 w218 w.heap.size (fun k_ => (w163.heap.size ≤ k_ ∧ k_ < w168.heap.size) ∧ True) (.slice A21 r20.length c22) r20 from Kd.R_kept HO23.out hk (fun k_ hk_ hs_ => by (have := HSw159.out; have := HSw161.out; have := HSw162.out; have := HSw163.out; have := HSw168.out; have := HSw171.out; have := HSw176.out; have := HSw178.out; have := HSw180.out; have := HSw185.out; have := HSw187.out; have := HSw189.out; have := HSw192.out; have := HSw197.out; have := HSw199.out; have := HSw201.out; have := HSw202.out; have := HSw203.out; have := HSw208.out; have := HSw209.out; have := HSw212.out; have := HSw213.out; have h1_ : w163.heap.size ≤ k_ ∧ k_ < w168.heap.size := hk_.1; have h2_ : w187.heap.size ≤ k_ ∧ k_ < w189.heap.size := hs_.1.1.1.1.1; omega))); replace HO29 := Aside0.mk (show Kd.S (Kd.slice 3 (Kd.int .i64)) 73 w218 w.heap.size (fun k_ => (w168.heap.size ≤ k_ ∧ k_ < w171.heap.size) ∧ True) (.slice A27 r26.length c28) r26 from Kd.Ec HO29.out hk (fun k_ hk_ hs_ => by (have := HSw159.out; have := HSw161.out; have := HSw162.out; have := HSw163.out; have := HSw168.out; have := HSw171.out; have := HSw176.out; have := HSw178.out; have := HSw180.out; have := HSw185.out; have := HSw187.out; have := HSw189.out; have := HSw192.out; have := HSw197.out; have := HSw199.out; have := HSw201.out; have := HSw202.out; have := HSw203.out; have := HSw208.out; have := HSw209.out; have := HSw212.out; have := HSw213.out; have h1_ : w168.heap.size ≤ k_ ∧ k_ < w171.heap.size := hk_.1; have h2_ : w187.heap.size ≤ k_ ∧ k_ < w189.heap.size := hs_.1.1.1.1.1; omega))); replace HO34 := Aside0.mk (show Kd.S (Kd.slice 3 (Kd.int .i64)) 73 w218 w.heap.size (fun k_ => (w168.heap.size ≤ k_ ∧ k_ < w171.heap.size) ∧ True) (.slice A32 r31.length c33) r31 from Kd.Ec HO34.out hk (fun k_ hk_ hs_ => by (have := HSw159.out; have := HSw161.out; have := HSw162.out; have := HSw163.out; have := HSw168.out; have := HSw171.out; have := HSw176.out; have := HSw178.out; have := HSw180.out; have := HSw185.out; have := HSw187.out; have := HSw189.out; have := HSw192.out; have := HSw197.out; have := HSw199.out; have := HSw201.out; have := HSw202.out; have := HSw203.out; have := HSw208.out; have := HSw209.out; have := HSw212.out; have := HSw213.out; have h1_ : w168.heap.size ≤ k_ ∧ k_ < w171.heap.size := hk_.1; have h2_ : w187.heap.size ≤ k_ ∧ k_ < w189.heap.size := hs_.1.1.1.1.1; omega))); replace HO63 := Aside0.mk (show Kd.S (Kd.slice 3 (Kd.int .i64)) 73 w218 w.heap.size (fun k_ => (w189.heap.size ≤ k_ ∧ k_ < w192.heap.size) ∧ Pw192 k_) (.slice A61 r60.length c62) r60 from Kd.Ec HO63.out hk (fun k_ hk_ hs_ => by (have := HSw159.out; have := HSw161.out; have := HSw162.out; have := HSw163.out; have := HSw168.out; have := HSw171.out; have := HSw176.out; have := HSw178.out; have := HSw180.out; have := HSw185.out; have := HSw187.out; have := HSw189.out; have := HSw192.out; have := HSw197.out; have := HSw199.out; have := HSw201.out; have := HSw202.out; have := HSw203.out; have := HSw208.out; have := HSw209.out; have := HSw212.out; have := HSw213.out; have h1_ : w189.heap.size ≤ k_ ∧ k_ < w192.heap.size := hk_.1; have h2_ : w187.heap.size ≤ k_ ∧ k_ < w189.heap.size := hs_.1.1.1.1.1; omega))); replace HO68 := Aside0.mk (show Kd.S (Kd.slice 3 (Kd.int .i64)) 73 w218 w.heap.size (fun k_ => (w189.heap.size ≤ k_ ∧ k_ < w192.heap.size) ∧ ¬ Pw192 k_) (.slice A66 r65.length c67) r65 from Kd.Ec HO68.out hk (fun k_ hk_ hs_ => by (have := HSw159.out; have := HSw161.out; have := HSw162.out; have := HSw163.out; have := HSw168.out; have := HSw171.out; have := HSw176.out; have := HSw178.out; have := HSw180.out; have := HSw185.out; have := HSw187.out; have := HSw189.out; have := HSw192.out; have := HSw197.out; have := HSw199.out; have := HSw201.out; have := HSw202.out; have := HSw203.out; have := HSw208.out; have := HSw209.out; have := HSw212.out; have := HSw213.out; have h1_ : w189.heap.size ≤ k_ ∧ k_ < w192.heap.size := hk_.1; have h2_ : w187.heap.size ≤ k_ ∧ k_ < w189.heap.size := hs_.1.1.1.1.1; omega))); replace HO81 := Aside0.mk (show Kd.S (Kd.slice 3 (Kd.int .i64)) 73 w218 w.heap.size (fun k_ => (w202.heap.size ≤ k_ ∧ k_ < w203.heap.size) ∧ Pw203 k_) (.slice A79 r78.length c80) r78 from Kd.Ec HO81.out hk (fun k_ hk_ hs_ => by (have := HSw159.out; have := HSw161.out; have := HSw162.out; have := HSw163.out; have := HSw168.out; have := HSw171.out; have := HSw176.out; have := HSw178.out; have := HSw180.out; have := HSw185.out; have := HSw187.out; have := HSw189.out; have := HSw192.out; have := HSw197.out; have := HSw199.out; have := HSw201.out; have := HSw202.out; have := HSw203.out; have := HSw208.out; have := HSw209.out; have := HSw212.out; have := HSw213.out; have h1_ : w202.heap.size ≤ k_ ∧ k_ < w203.heap.size := hk_.1; have h2_ : w187.heap.size ≤ k_ ∧ k_ < w189.heap.size := hs_.1.1.1.1.1; omega))); replace HO86 := Aside0.mk (show Kd.S (Kd.slice 3 (Kd.int .i64)) 73 w218 w.heap.size (fun k_ => (w202.heap.size ≤ k_ ∧ k_ < w203.heap.size) ∧ ¬ Pw203 k_) (.slice A84 r83.length c85) r83 from Kd.Ec HO86.out hk (fun k_ hk_ hs_ => by (have := HSw159.out; have := HSw161.out; have := HSw162.out; have := HSw163.out; have := HSw168.out; have := HSw171.out; have := HSw176.out; have := HSw178.out; have := HSw180.out; have := HSw185.out; have := HSw187.out; have := HSw189.out; have := HSw192.out; have := HSw197.out; have := HSw199.out; have := HSw201.out; have := HSw202.out; have := HSw203.out; have := HSw208.out; have := HSw209.out; have := HSw212.out; have := HSw213.out; have h1_ : w202.heap.size ≤ k_ ∧ k_ < w203.heap.size := hk_.1; have h2_ : w187.heap.size ≤ k_ ∧ k_ < w189.heap.size := hs_.1.1.1.1.1; omega))); replace HO95 := Aside0.mk (show Kd.R k43 43 w218 w.heap.size (fun k_ => (w208.heap.size ≤ k_ ∧ k_ < w209.heap.size) ∧ True) (.slice A93 r92.length c94) r92 from Kd.R_kept HO95.out hk (fun k_ hk_ hs_ => by (have := HSw159.out; have := HSw161.out; have := HSw162.out; have := HSw163.out; have := HSw168.out; have := HSw171.out; have := HSw176.out; have := HSw178.out; have := HSw180.out; have := HSw185.out; have := HSw187.out; have := HSw189.out; have := HSw192.out; have := HSw197.out; have := HSw199.out; have := HSw201.out; have := HSw202.out; have := HSw203.out; have := HSw208.out; have := HSw209.out; have := HSw212.out; have := HSw213.out; have h1_ : w208.heap.size ≤ k_ ∧ k_ < w209.heap.size := hk_.1; have h2_ : w187.heap.size ≤ k_ ∧ k_ < w189.heap.size := hs_.1.1.1.1.1; omega))); replace BK160 := Aside0.mk (Et BK160.out hk (fun hs_ => hs_.1.1.1.2 rfl)); replace BK179 := Aside0.mk (Et BK179.out hk (fun hs_ => hs_.1.1.2 rfl)); replace BK188 := Aside0.mk (Et BK188.out hk (fun hs_ => hs_.1.2 rfl)); replace BK200 := Aside0.mk (Et BK200.out hk (fun hs_ => hs_.2 rfl)); clear HB; have HB := Aside0.mk hb; have HSw218 := Aside0.mk hk.1; clear HO57; have HO220 := Aside0.mk ho219; clear ho219; (try clear hb hk); obtain ⟨hzgb2_0, hzgb2_1, hzgb2_2⟩ := cl3_ BK160.out; obtain ⟨hzgb40_0, hzgb40_1, hzgb40_2⟩ := cl3_ BK179.out; obtain ⟨hzgb53_0, hzgb53_1, hzgb53_2⟩ := cl3_ BK188.out; obtain ⟨hzgb74_0, hzgb74_1, hzgb74_2⟩ := cl3_ BK200.out) | (go_at_call 14; (with_reducible refine (Cm.calls k _ _ r60 r64 _ _ r65 _ _ r26 r30 _ _ r31 true w218 (Kd.Af HO63.out).2.2 (Nat.le_trans (Nat.le_of_eq (Kd.Af HO63.out).1.symm) (Kd.Af HO63.out).2.1) (Kd.Af HO68.out).2.2 (Nat.le_trans (Nat.le_of_eq (Kd.Af HO68.out).1.symm) (Kd.Af HO68.out).2.1) (Kd.Af HO29.out).2.2 (Nat.le_trans (Nat.le_of_eq (Kd.Af HO29.out).1.symm) (Kd.Af HO29.out).2.1) (Kd.Af HO34.out).2.2 (Nat.le_trans (Nat.le_of_eq (Kd.Af HO34.out).1.symm) (Kd.Af HO34.out).2.1) A112.out).mono ?_); rintro e w221 ⟨rfl, hb⟩; (try clear hzgb2_0 hzgb2_1 hzgb2_2); (try clear hzgb40_0 hzgb40_1 hzgb40_2); (try clear hzgb53_0 hzgb53_1 hzgb53_2); (try clear hzgb74_0 hzgb74_1 hzgb74_2); replace HO12 := Aside0.mk (Kd.Ac HO12.out hb); replace HO17 := Aside0.mk (Kd.Ac HO17.out hb); replace HO23 := Aside0.mk (Kd.Cb HO23.out hb); replace HO29 := Aside0.mk (Kd.Ac HO29.out hb); replace HO34 := Aside0.mk (Kd.Ac HO34.out hb); replace HO63 := Aside0.mk (Kd.Ac HO63.out hb); replace HO68 := Aside0.mk (Kd.Ac HO68.out hb); replace HO81 := Aside0.mk (Kd.Ac HO81.out hb); replace HO86 := Aside0.mk (Kd.Ac HO86.out hb); replace HO95 := Aside0.mk (Kd.Cb HO95.out hb); replace HO220 := Aside0.mk (Kd.Cb HO220.out hb); replace BK160 := Aside0.mk (blk_below BK160.out hb); replace BK179 := Aside0.mk (blk_below BK179.out hb); replace BK188 := Aside0.mk (blk_below BK188.out hb); replace BK200 := Aside0.mk (blk_below BK200.out hb); have HSw221 := Aside0.mk hb.size; replace HB := Aside0.mk (below_step HB.out hb); clear hb; obtain ⟨hzgb2_0, hzgb2_1, hzgb2_2⟩ := cl3_ BK160.out; obtain ⟨hzgb40_0, hzgb40_1, hzgb40_2⟩ := cl3_ BK179.out; obtain ⟨hzgb53_0, hzgb53_1, hzgb53_2⟩ := cl3_ BK188.out; obtain ⟨hzgb74_0, hzgb74_1, hzgb74_2⟩ := cl3_ BK200.out) | (go_at_call 23; (with_reducible refine (Dk.calls k (fun k_ => (((((w189.heap.size ≤ k_ ∧ k_ < w192.heap.size) ∧ Pw192 k_) ∧ k_ ≠ gb2) ∧ k_ ≠ gb40) ∧ k_ ≠ gb53) ∧ k_ ≠ gb74) (.slice A61 r60.length c62) r60 r64 (fun k_ => (((((w189.heap.size ≤ k_ ∧ k_ < w192.heap.size) ∧ ¬ Pw192 k_) ∧ k_ ≠ gb2) ∧ k_ ≠ gb40) ∧ k_ ≠ gb53) ∧ k_ ≠ gb74) (.slice A66 r65.length c67) r65 1 r156 r114 r115 w w221 HB.out (Kd.S_types (Kd.S_types (Kd.S_types (Kd.S_types HO63.out BK160.out (by decide)) BK179.out (by decide)) BK188.out (by decide)) BK200.out (by decide)) (fun k_ h1_ h2_ => absurd h1_.1.1.1.1.2 h2_.1.1.1.1.2) (Kd.S_types (Kd.S_types (Kd.S_types (Kd.S_types HO68.out BK160.out (by decide)) BK179.out (by decide)) BK188.out (by decide)) BK200.out (by decide)) (fun k_ h1_ h2_ => absurd h2_.1.1.1.1.2 h1_.1.1.1.1.2) A117.out).mono ?_); rintro e w222 ⟨rfl, ho223, ho224, hb, hk⟩; (try clear hzgb2_0 hzgb2_1 hzgb2_2); (try clear hzgb40_0 hzgb40_1 hzgb40_2); (try clear hzgb53_0 hzgb53_1 hzgb53_2); (try clear hzgb74_0 hzgb74_1 hzgb74_2); clear HO220; replace HO12 := Aside0.mk (show Kd.S (Kd.slice 3 (Kd.int .i64)) 73 w222 w.heap.size (fun k_ => (w162.heap.size ≤ k_ ∧ k_ < w163.heap.size) ∧ Pw163 k_) (.slice A10 r9.length c11) r9 from Kd.Ec HO12.out hk (fun k_ hk_ hs_ => by rcases hs_ with hs_ | hs_ <;> first | (have := HSw159.out; have := HSw161.out; have := HSw162.out; have := HSw163.out; have := HSw168.out; have := HSw171.out; have := HSw176.out; have := HSw178.out; have := HSw180.out; have := HSw185.out; have := HSw187.out; have := HSw189.out; have := HSw192.out; have := HSw197.out; have := HSw199.out; have := HSw201.out; have := HSw202.out; have := HSw203.out; have := HSw208.out; have := HSw209.out; have := HSw212.out; have := HSw213.out; have := HSw218.out; have := HSw221.out; have h1_ : w162.heap.size ≤ k_ ∧ k_ < w163.heap.size := hk_.1; have h2_ : w189.heap.size ≤ k_ ∧ k_ < w192.heap.size := hs_.1.1.1.1.1; omega) | (have := HSw159.out; have := HSw161.out; have := HSw162.out; have := HSw163.out; have := HSw168.out; have := HSw171.out; have := HSw176.out; have := HSw178.out; have := HSw180.out; have := HSw185.out; have := HSw187.out; have := HSw189.out; have := HSw192.out; have := HSw197.out; have := HSw199.out; have := HSw201.out; have := HSw202.out; have := HSw203.out; have := HSw208.out; have := HSw209.out; have := HSw212.out; have := HSw213.out; have := HSw218.out; have := HSw221.out; have h1_ : w162.heap.size ≤ k_ ∧ k_ < w163.heap.size := hk_.1; have h2_ : w189.heap.size ≤ k_ ∧ k_ < w192.heap.size := hs_.1.1.1.1.1; omega))); replace HO17 := Aside0.mk (show Kd.S (Kd.slice 3 (Kd.int .i64)) 73 w222 w.heap.size (fun k_ => (w162.heap.size ≤ k_ ∧ k_ < w163.heap.size) ∧ ¬ Pw163 k_) (.slice A15 r14.length c16) r14 from Kd.Ec HO17.out hk (fun k_ hk_ hs_ => by rcases hs_ with hs_ | hs_ <;> first | (have := HSw159.out; have := HSw161.out; have := HSw162.out; have := HSw163.out; have := HSw168.out; have := HSw171.out; have := HSw176.out; have := HSw178.out; have := HSw180.out; have := HSw185.out; have := HSw187.out; have := HSw189.out; have := HSw192.out; have := HSw197.out; have := HSw199.out; have := HSw201.out; have := HSw202.out; have := HSw203.out; have := HSw208.out; have := HSw209.out; have := HSw212.out; have := HSw213.out; have := HSw218.out; have := HSw221.out; have h1_ : w162.heap.size ≤ k_ ∧ k_ < w163.heap.size := hk_.1; have h2_ : w189.heap.size ≤ k_ ∧ k_ < w192.heap.size := hs_.1.1.1.1.1; omega) | (have := HSw159.out; have := HSw161.out; have := HSw162.out; have := HSw163.out; have := HSw168.out; have := HSw171.out; have := HSw176.out; have := HSw178.out; have := HSw180.out; have := HSw185.out; have := HSw187.out; have := HSw189.out; have := HSw192.out; have := HSw197.out; have := HSw199.out; have := HSw201.out; have := HSw202.out; have := HSw203.out; have := HSw208.out; have := HSw209.out; have := HSw212.out; have := HSw213.out; have := HSw218.out; have := HSw221.out; have h1_ : w162.heap.size ≤ k_ ∧ k_ < w163.heap.size := hk_.1; have h2_ : w189.heap.size ≤ k_ ∧ k_ < w192.heap.size := hs_.1.1.1.1.1; omega))); replace HO23 := Aside0.mk (show Kd.R k43 43 w222 w.heap.size (fun k_ => (w163.heap.size ≤ k_ ∧ k_ < w168.heap.size) ∧ True) (.slice A21 r20.length c22) r20 from Kd.R_kept HO23.out hk (fun k_ hk_ hs_ => by rcases hs_ with hs_ | hs_ <;> first | (have := HSw159.out; have := HSw161.out; have := HSw162.out; have := HSw163.out; have := HSw168.out; have := HSw171.out; have := HSw176.out; have := HSw178.out; have := HSw180.out; have := HSw185.out; have := HSw187.out; have := HSw189.out; have := HSw192.out; have := HSw197.out; have := HSw199.out; have := HSw201.out; have := HSw202.out; have := HSw203.out; have := HSw208.out; have := HSw209.out; have := HSw212.out; have := HSw213.out; have := HSw218.out; have := HSw221.out; have h1_ : w163.heap.size ≤ k_ ∧ k_ < w168.heap.size := hk_.1; have h2_ : w189.heap.size ≤ k_ ∧ k_ < w192.heap.size := hs_.1.1.1.1.1; omega) | (have := HSw159.out; have := HSw161.out; have := HSw162.out; have := HSw163.out; have := HSw168.out; have := HSw171.out; have := HSw176.out; have := HSw178.out; have := HSw180.out; have := HSw185.out; have := HSw187.out; have := HSw189.out; have := HSw192.out; have := HSw197.out; have := HSw199.out; have := HSw201.out; have := HSw202.out; have := HSw203.out; have := HSw208.out; have := HSw209.out; have := HSw212.out; have := HSw213.out; have := HSw218.out; have := HSw221.out; have h1_ : w163.heap.size ≤ k_ ∧ k_ < w168.heap.size := hk_.1; have h2_ : w189.heap.size ≤ k_ ∧ k_ < w192.heap.size := hs_.1.1.1.1.1; omega))); replace HO29 := Aside0.mk (show Kd.S (Kd.slice 3 (Kd.int .i64)) 73 w222 w.heap.size (fun k_ => (w168.heap.size ≤ k_ ∧ k_ < w171.heap.size) ∧ True) (.slice A27 r26.length c28) r26 from Kd.Ec HO29.out hk (fun k_ hk_ hs_ => by rcases hs_ with hs_ | hs_ <;> first | (have := HSw159.out; have := HSw161.out; have := HSw162.out; have := HSw163.out; have := HSw168.out; have := HSw171.out; have := HSw176.out; have := HSw178.out; have := HSw180.out; have := HSw185.out; have := HSw187.out; have := HSw189.out; have := HSw192.out; have := HSw197.out; have := HSw199.out; have := HSw201.out; have := HSw202.out; have := HSw203.out; have := HSw208.out; have := HSw209.out; have := HSw212.out; have := HSw213.out; have := HSw218.out; have := HSw221.out; have h1_ : w168.heap.size ≤ k_ ∧ k_ < w171.heap.size := hk_.1; have h2_ : w189.heap.size ≤ k_ ∧ k_ < w192.heap.size := hs_.1.1.1.1.1; omega) | (have := HSw159.out; have := HSw161.out; have := HSw162.out; have := HSw163.out; have := HSw168.out; have := HSw171.out; have := HSw176.out; have := HSw178.out; have := HSw180.out; have := HSw185.out; have := HSw187.out; have := HSw189.out; have := HSw192.out; have := HSw197.out; have := HSw199.out; have := HSw201.out; have := HSw202.out; have := HSw203.out; have := HSw208.out; have := HSw209.out; have := HSw212.out; have := HSw213.out; have := HSw218.out; have := HSw221.out; have h1_ : w168.heap.size ≤ k_ ∧ k_ < w171.heap.size := hk_.1; have h2_ : w189.heap.size ≤ k_ ∧ k_ < w192.heap.size := hs_.1.1.1.1.1; omega))); replace HO34 := Aside0.mk (show Kd.S (Kd.slice 3 (Kd.int .i64)) 73 w222 w.heap.size (fun k_ => (w168.heap.size ≤ k_ ∧ k_ < w171.heap.size) ∧ True) (.slice A32 r31.length c33) r31 from Kd.Ec HO34.out hk (fun k_ hk_ hs_ => by rcases hs_ with hs_ | hs_ <;> first | (have := HSw159.out; have := HSw161.out; have := HSw162.out; have := HSw163.out; have := HSw168.out; have := HSw171.out; have := HSw176.out; have := HSw178.out; have := HSw180.out; have := HSw185.out; have := HSw187.out; have := HSw189.out; have := HSw192.out; have := HSw197.out; have := HSw199.out; have := HSw201.out; have := HSw202.out; have := HSw203.out; have := HSw208.out; have := HSw209.out; have := HSw212.out; have := HSw213.out; have := HSw218.out; have := HSw221.out; have h1_ : w168.heap.size ≤ k_ ∧ k_ < w171.heap.size := hk_.1; have h2_ : w189.heap.size ≤ k_ ∧ k_ < w192.heap.size := hs_.1.1.1.1.1; omega) | (have := HSw159.out; have := HSw161.out; have := HSw162.out; have := HSw163.out; have := HSw168.out; have := HSw171.out; have := HSw176.out; have := HSw178.out; have := HSw180.out; have := HSw185.out; have := HSw187.out; have := HSw189.out; have := HSw192.out; have := HSw197.out; have := HSw199.out; have := HSw201.out; have := HSw202.out; have := HSw203.out; have := HSw208.out; have := HSw209.out; have := HSw212.out; have := HSw213.out; have := HSw218.out; have := HSw221.out; have h1_ : w168.heap.size ≤ k_ ∧ k_ < w171.heap.size := hk_.1; have h2_ : w189.heap.size ≤ k_ ∧ k_ < w192.heap.size := hs_.1.1.1.1.1; omega))); replace HO81 := Aside0.mk (show Kd.S (Kd.slice 3 (Kd.int .i64)) 73 w222 w.heap.size (fun k_ => (w202.heap.size ≤ k_ ∧ k_ < w203.heap.size) ∧ Pw203 k_) (.slice A79 r78.length c80) r78 from Kd.Ec HO81.out hk (fun k_ hk_ hs_ => by rcases hs_ with hs_ | hs_ <;> first | (have := HSw159.out; have := HSw161.out; have := HSw162.out; have := HSw163.out; have := HSw168.out; have := HSw171.out; have := HSw176.out; have := HSw178.out; have := HSw180.out; have := HSw185.out; have := HSw187.out; have := HSw189.out; have := HSw192.out; have := HSw197.out; have := HSw199.out; have := HSw201.out; have := HSw202.out; have := HSw203.out; have := HSw208.out; have := HSw209.out; have := HSw212.out; have := HSw213.out; have := HSw218.out; have := HSw221.out; have h1_ : w202.heap.size ≤ k_ ∧ k_ < w203.heap.size := hk_.1; have h2_ : w189.heap.size ≤ k_ ∧ k_ < w192.heap.size := hs_.1.1.1.1.1; omega) | (have := HSw159.out; have := HSw161.out; have := HSw162.out; have := HSw163.out; have := HSw168.out; have := HSw171.out; have := HSw176.out; have := HSw178.out; have := HSw180.out; have := HSw185.out; have := HSw187.out; have := HSw189.out; have := HSw192.out; have := HSw197.out; have := HSw199.out; have := HSw201.out; have := HSw202.out; have := HSw203.out; have := HSw208.out; have := HSw209.out; have := HSw212.out; have := HSw213.out; have := HSw218.out; have := HSw221.out; have h1_ : w202.heap.size ≤ k_ ∧ k_ < w203.heap.size := hk_.1; have h2_ : w189.heap.size ≤ k_ ∧ k_ < w192.heap.size := hs_.1.1.1.1.1; omega))); replace HO86 := Aside0.mk (show Kd.S (Kd.slice 3 (Kd.int .i64)) 73 w222 w.heap.size (fun k_ => (w202.heap.size ≤ k_ ∧ k_ < w203.heap.size) ∧ ¬ Pw203 k_) (.slice A84 r83.length c85) r83 from Kd.Ec HO86.out hk (fun k_ hk_ hs_ => by rcases hs_ with hs_ | hs_ <;> first | (have := HSw159.out; have := HSw161.out; have := HSw162.out; have := HSw163.out; have := HSw168.out; have := HSw171.out; have := HSw176.out; have := HSw178.out; have := HSw180.out; have := HSw185.out; have := HSw187.out; have := HSw189.out; have := HSw192.out; have := HSw197.out; have := HSw199.out; have := HSw201.out; have := HSw202.out; have := HSw203.out; have := HSw208.out; have := HSw209.out; have := HSw212.out; have := HSw213.out; have := HSw218.out; have := HSw221.out; have h1_ : w202.heap.size ≤ k_ ∧ k_ < w203.heap.size := hk_.1; have h2_ : w189.heap.size ≤ k_ ∧ k_ < w192.heap.size := hs_.1.1.1.1.1; omega) | (have := HSw159.out; have := HSw161.out; have := HSw162.out; have := HSw163.out; have := HSw168.out; have := HSw171.out; have := HSw176.out; have := HSw178.out; have := HSw180.out; have := HSw185.out; have := HSw187.out; have := HSw189.out; have := HSw192.out; have := HSw197.out; have := HSw199.out; have := HSw201.out; have := HSw202.out; have := HSw203.out; have := HSw208.out; have := HSw209.out; have := HSw212.out; have := HSw213.out; have := HSw218.out; have := HSw221.out; have h1_ : w202.heap.size ≤ k_ ∧ k_ < w203.heap.size := hk_.1; have h2_ : w189.heap.size ≤ k_ ∧ k_ < w192.heap.size := hs_.1.1.1.1.1; omega))); replace HO95 := Aside0.mk (show Kd.R k43 43 w222 w.heap.size (fun k_ => (w208.heap.size ≤ k_ ∧ k_ < w209.heap.size) ∧ True) (.slice A93 r92.length c94) r92 from Kd.R_kept HO95.out hk (fun k_ hk_ hs_ => by rcases hs_ with hs_ | hs_ <;> first | (have := HSw159.out; have := HSw161.out; have := HSw162.out; have := HSw163.out; have := HSw168.out; have := HSw171.out; have := HSw176.out; have := HSw178.out; have := HSw180.out; have := HSw185.out; have := HSw187.out; have := HSw189.out; have := HSw192.out; have := HSw197.out; have := HSw199.out; have := HSw201.out; have := HSw202.out; have := HSw203.out; have := HSw208.out; have := HSw209.out; have := HSw212.out; have := HSw213.out; have := HSw218.out; have := HSw221.out; have h1_ : w208.heap.size ≤ k_ ∧ k_ < w209.heap.size := hk_.1; have h2_ : w189.heap.size ≤ k_ ∧ k_ < w192.heap.size := hs_.1.1.1.1.1; omega) | (have := HSw159.out; have := HSw161.out; have := HSw162.out; have := HSw163.out; have := HSw168.out; have := HSw171.out; have := HSw176.out; have := HSw178.out; have := HSw180.out; have := HSw185.out; have := HSw187.out; have := HSw189.out; have := HSw192.out; have := HSw197.out; have := HSw199.out; have := HSw201.out; have := HSw202.out; have := HSw203.out; have := HSw208.out; have := HSw209.out; have := HSw212.out; have := HSw213.out; have := HSw218.out; have := HSw221.out; have h1_ : w208.heap.size ≤ k_ ∧ k_ < w209.heap.size := hk_.1; have h2_ : w189.heap.size ≤ k_ ∧ k_ < w192.heap.size := hs_.1.1.1.1.1; omega))); replace BK160 := Aside0.mk (Et BK160.out hk (fun hs_ => by rcases hs_ with hs_ | hs_ <;> exact hs_.1.1.1.2 rfl)); replace BK179 := Aside0.mk (Et BK179.out hk (fun hs_ => by rcases hs_ with hs_ | hs_ <;> exact hs_.1.1.2 rfl)); replace BK188 := Aside0.mk (Et BK188.out hk (fun hs_ => by rcases hs_ with hs_ | hs_ <;> exact hs_.1.2 rfl)); replace BK200 := Aside0.mk (Et BK200.out hk (fun hs_ => by rcases hs_ with hs_ | hs_ <;> exact hs_.2 rfl)); clear HB; have HB := Aside0.mk hb; have HSw222 := Aside0.mk hk.1; clear HO63; have HO225 := Aside0.mk ho223; clear ho223; clear HO68; have HO226 := Aside0.mk ho224; clear ho224; (try clear hb hk); obtain ⟨hzgb2_0, hzgb2_1, hzgb2_2⟩ := cl3_ BK160.out; obtain ⟨hzgb40_0, hzgb40_1, hzgb40_2⟩ := cl3_ BK179.out; obtain ⟨hzgb53_0, hzgb53_1, hzgb53_2⟩ := cl3_ BK188.out; obtain ⟨hzgb74_0, hzgb74_1, hzgb74_2⟩ := cl3_ BK200.out) | (go_at_call 24; have hcall_ := Dj.calls k _ _ r114 r64 _ _ r115 1 r156 w222 (Kd.Af HO225.out).2.2 (Nat.le_trans (Nat.le_of_eq (Kd.Af HO225.out).1.symm) (Kd.Af HO225.out).2.1) (Kd.Af HO226.out).2.2 (Nat.le_trans (Nat.le_of_eq (Kd.Af HO226.out).1.symm) (Kd.Af HO226.out).2.1) A120.out; rw [← (show r60.length = r114.length from (Kd.Af HO225.out).1)] at hcall_; rw [← (show r65.length = r115.length from (Kd.Af HO226.out).1)] at hcall_; refine hcall_.mono ?_; (try clear hcall_); rintro e w227 ⟨rfl, hb⟩; (try clear hzgb2_0 hzgb2_1 hzgb2_2); (try clear hzgb40_0 hzgb40_1 hzgb40_2); (try clear hzgb53_0 hzgb53_1 hzgb53_2); (try clear hzgb74_0 hzgb74_1 hzgb74_2); replace HO12 := Aside0.mk (Kd.Ac HO12.out hb); replace HO17 := Aside0.mk (Kd.Ac HO17.out hb); replace HO23 := Aside0.mk (Kd.Cb HO23.out hb); replace HO29 := Aside0.mk (Kd.Ac HO29.out hb); replace HO34 := Aside0.mk (Kd.Ac HO34.out hb); replace HO81 := Aside0.mk (Kd.Ac HO81.out hb); replace HO86 := Aside0.mk (Kd.Ac HO86.out hb); replace HO95 := Aside0.mk (Kd.Cb HO95.out hb); replace HO225 := Aside0.mk (Kd.Ac HO225.out hb); replace HO226 := Aside0.mk (Kd.Ac HO226.out hb); replace BK160 := Aside0.mk (blk_below BK160.out hb); replace BK179 := Aside0.mk (blk_below BK179.out hb); replace BK188 := Aside0.mk (blk_below BK188.out hb); replace BK200 := Aside0.mk (blk_below BK200.out hb); have HSw227 := Aside0.mk hb.size; replace HB := Aside0.mk (below_step HB.out hb); clear hb; obtain ⟨hzgb2_0, hzgb2_1, hzgb2_2⟩ := cl3_ BK160.out; obtain ⟨hzgb40_0, hzgb40_1, hzgb40_2⟩ := cl3_ BK179.out; obtain ⟨hzgb53_0, hzgb53_1, hzgb53_2⟩ := cl3_ BK188.out; obtain ⟨hzgb74_0, hzgb74_1, hzgb74_2⟩ := cl3_ BK200.out) | (go_at_call 12; (with_reducible refine (Ci.calls2 k _ _ l0_0 a0_1 _ _ l0_2 r121 r125 r126 w227 (Kd.C_below HR0_0.out Yb_) HC0_0.out (Kd.C_below HR0_2.out Yb_) HC0_2.out A131.out).mono ?_); rintro e w228 ⟨Pw228, v231, v232, rfl, ho229, ho230, hb⟩; (try clear hzgb2_0 hzgb2_1 hzgb2_2); (try clear hzgb40_0 hzgb40_1 hzgb40_2); (try clear hzgb53_0 hzgb53_1 hzgb53_2); (try clear hzgb74_0 hzgb74_1 hzgb74_2); replace HO12 := Aside0.mk (Kd.Ac HO12.out hb); replace HO17 := Aside0.mk (Kd.Ac HO17.out hb); replace HO23 := Aside0.mk (Kd.Cb HO23.out hb); replace HO29 := Aside0.mk (Kd.Ac HO29.out hb); replace HO34 := Aside0.mk (Kd.Ac HO34.out hb); replace HO81 := Aside0.mk (Kd.Ac HO81.out hb); replace HO86 := Aside0.mk (Kd.Ac HO86.out hb); replace HO95 := Aside0.mk (Kd.Cb HO95.out hb); replace HO225 := Aside0.mk (Kd.Ac HO225.out hb); replace HO226 := Aside0.mk (Kd.Ac HO226.out hb); replace BK160 := Aside0.mk (blk_below BK160.out hb); replace BK179 := Aside0.mk (blk_below BK179.out hb); replace BK188 := Aside0.mk (blk_below BK188.out hb); replace BK200 := Aside0.mk (blk_below BK200.out hb); have HSw228 := Aside0.mk hb.size; have m_ := (show Kd.S (Kd.slice 3 (Kd.int .i64)) 73 w228 w.heap.size (fun k_ => (w227.heap.size ≤ k_ ∧ k_ < w228.heap.size) ∧ Pw228 k_) v231 r121 from Kd.S_mono (Kd.S_lower (Kd.D6 ho229) (below_size Yb_)) (fun k_ hk_ => ⟨⟨hk_.2.1, hk_.2.2.1⟩, hk_.1⟩)); obtain ⟨A122, c123, e_⟩ := Kd.S_slice m_; subst e_; have HO124 := Aside0.mk m_; clear m_ ho229; have m_ := (show Kd.S (Kd.slice 3 (Kd.int .i64)) 73 w228 w.heap.size (fun k_ => (w227.heap.size ≤ k_ ∧ k_ < w228.heap.size) ∧ ¬ Pw228 k_) v232 r126 from Kd.S_mono (Kd.S_lower (Kd.D6 ho230) (below_size Yb_)) (fun k_ hk_ => ⟨⟨hk_.2.1, hk_.2.2.1⟩, hk_.1⟩)); obtain ⟨A127, c128, e_⟩ := Kd.S_slice m_; subst e_; have HO129 := Aside0.mk m_; clear m_ ho230; replace HB := Aside0.mk (below_step HB.out hb); clear hb; obtain ⟨hzgb2_0, hzgb2_1, hzgb2_2⟩ := cl3_ BK160.out; obtain ⟨hzgb40_0, hzgb40_1, hzgb40_2⟩ := cl3_ BK179.out; obtain ⟨hzgb53_0, hzgb53_1, hzgb53_2⟩ := cl3_ BK188.out; obtain ⟨hzgb74_0, hzgb74_1, hzgb74_2⟩ := cl3_ BK200.out) | (go_at_call 35; (with_reducible refine (Aw.calls k _ _ l1 r132 w228 (Kd.C_below HR1.out Yb_) HC1.out A137.out).mono ?_); rintro e w233 ⟨v235, rfl, ho234, hb⟩; (try clear hzgb2_0 hzgb2_1 hzgb2_2); (try clear hzgb40_0 hzgb40_1 hzgb40_2); (try clear hzgb53_0 hzgb53_1 hzgb53_2); (try clear hzgb74_0 hzgb74_1 hzgb74_2); replace HO12 := Aside0.mk (Kd.Ac HO12.out hb); replace HO17 := Aside0.mk (Kd.Ac HO17.out hb); replace HO23 := Aside0.mk (Kd.Cb HO23.out hb); replace HO29 := Aside0.mk (Kd.Ac HO29.out hb); replace HO34 := Aside0.mk (Kd.Ac HO34.out hb); replace HO81 := Aside0.mk (Kd.Ac HO81.out hb); replace HO86 := Aside0.mk (Kd.Ac HO86.out hb); replace HO95 := Aside0.mk (Kd.Cb HO95.out hb); replace HO124 := Aside0.mk (Kd.Ac HO124.out hb); replace HO129 := Aside0.mk (Kd.Ac HO129.out hb); replace HO225 := Aside0.mk (Kd.Ac HO225.out hb); replace HO226 := Aside0.mk (Kd.Ac HO226.out hb); replace BK160 := Aside0.mk (blk_below BK160.out hb); replace BK179 := Aside0.mk (blk_below BK179.out hb); replace BK188 := Aside0.mk (blk_below BK188.out hb); replace BK200 := Aside0.mk (blk_below BK200.out hb); have HSw233 := Aside0.mk hb.size; have m_ := (show Kd.R k43 43 w233 w.heap.size (fun k_ => (w228.heap.size ≤ k_ ∧ k_ < w233.heap.size) ∧ True) v235 r132 from Kd.Dl (Kd.R_lower (Kd.Ff ho234) (below_size Yb_)) (fun k_ hk_ => ⟨⟨hk_.2.1, hk_.2.2.1⟩, trivial⟩)); obtain ⟨A133, c134, e_⟩ := Kd.Dc m_; subst e_; have HO135 := Aside0.mk m_; clear m_ ho234; replace HB := Aside0.mk (below_step HB.out hb); clear hb; obtain ⟨hzgb2_0, hzgb2_1, hzgb2_2⟩ := cl3_ BK160.out; obtain ⟨hzgb40_0, hzgb40_1, hzgb40_2⟩ := cl3_ BK179.out; obtain ⟨hzgb53_0, hzgb53_1, hzgb53_2⟩ := cl3_ BK188.out; obtain ⟨hzgb74_0, hzgb74_1, hzgb74_2⟩ := cl3_ BK200.out) | (go_at_call 36; (with_reducible refine (Ah.calls2 k _ _ r121 r125 _ _ r126 _ _ r132 r138 r142 r143 r147 r148 w233 (Kd.Af HO124.out).2.2 (Nat.le_trans (Nat.le_of_eq (Kd.Af HO124.out).1.symm) (Kd.Af HO124.out).2.1) (Kd.Af HO129.out).2.2 (Nat.le_trans (Nat.le_of_eq (Kd.Af HO129.out).1.symm) (Kd.Af HO129.out).2.1) (Kd.Bo HO135.out).2.2 (Nat.le_trans (Nat.le_of_eq (Kd.Bo HO135.out).1.symm) (Kd.Bo HO135.out).2.1) A150.out).mono ?_); rintro e w236 ⟨Pw236, v239, v240, rfl, ho237, ho238, hb⟩; (try clear hzgb2_0 hzgb2_1 hzgb2_2); (try clear hzgb40_0 hzgb40_1 hzgb40_2); (try clear hzgb53_0 hzgb53_1 hzgb53_2); (try clear hzgb74_0 hzgb74_1 hzgb74_2); replace HO12 := Aside0.mk (Kd.Ac HO12.out hb); replace HO17 := Aside0.mk (Kd.Ac HO17.out hb); replace HO23 := Aside0.mk (Kd.Cb HO23.out hb); replace HO29 := Aside0.mk (Kd.Ac HO29.out hb); replace HO34 := Aside0.mk (Kd.Ac HO34.out hb); replace HO81 := Aside0.mk (Kd.Ac HO81.out hb); replace HO86 := Aside0.mk (Kd.Ac HO86.out hb); replace HO95 := Aside0.mk (Kd.Cb HO95.out hb); replace HO124 := Aside0.mk (Kd.Ac HO124.out hb); replace HO129 := Aside0.mk (Kd.Ac HO129.out hb); replace HO135 := Aside0.mk (Kd.Cb HO135.out hb); replace HO225 := Aside0.mk (Kd.Ac HO225.out hb); replace HO226 := Aside0.mk (Kd.Ac HO226.out hb); replace BK160 := Aside0.mk (blk_below BK160.out hb); replace BK179 := Aside0.mk (blk_below BK179.out hb); replace BK188 := Aside0.mk (blk_below BK188.out hb); replace BK200 := Aside0.mk (blk_below BK200.out hb); have HSw236 := Aside0.mk hb.size; have m_ := (show Kd.S (Kd.slice 3 (Kd.int .i64)) 73 w236 w.heap.size (fun k_ => (w233.heap.size ≤ k_ ∧ k_ < w236.heap.size) ∧ Pw236 k_) v239 r138 from Kd.S_mono (Kd.S_lower (Kd.D6 ho237) (below_size Yb_)) (fun k_ hk_ => ⟨⟨hk_.2.1, hk_.2.2.1⟩, hk_.1⟩)); obtain ⟨A139, c140, e_⟩ := Kd.S_slice m_; subst e_; have HO141 := Aside0.mk m_; clear m_ ho237; have m_ := (show Kd.S (Kd.slice 3 (Kd.int .i64)) 73 w236 w.heap.size (fun k_ => (w233.heap.size ≤ k_ ∧ k_ < w236.heap.size) ∧ ¬ Pw236 k_) v240 r143 from Kd.S_mono (Kd.S_lower (Kd.D6 ho238) (below_size Yb_)) (fun k_ hk_ => ⟨⟨hk_.2.1, hk_.2.2.1⟩, hk_.1⟩)); obtain ⟨A144, c145, e_⟩ := Kd.S_slice m_; subst e_; have HO146 := Aside0.mk m_; clear m_ ho238; replace HB := Aside0.mk (below_step HB.out hb); clear hb; obtain ⟨hzgb2_0, hzgb2_1, hzgb2_2⟩ := cl3_ BK160.out; obtain ⟨hzgb40_0, hzgb40_1, hzgb40_2⟩ := cl3_ BK179.out; obtain ⟨hzgb53_0, hzgb53_1, hzgb53_2⟩ := cl3_ BK188.out; obtain ⟨hzgb74_0, hzgb74_1, hzgb74_2⟩ := cl3_ BK200.out) | ((with_reducible refine gate_dst (N := 17) rfl ?_); refine box_event (by rfl) (N := 17) (by rfl) (cs := #[.slice none 0 0, .int .i64 0, .slice none 0 0]) (t := 34) Ybf_ ?_; intro gb152 hg w241 hbox hb; (try clear hzgb2_0 hzgb2_1 hzgb2_2); (try clear hzgb40_0 hzgb40_1 hzgb40_2); (try clear hzgb53_0 hzgb53_1 hzgb53_2); (try clear hzgb74_0 hzgb74_1 hzgb74_2); (try clear hzgb152_0 hzgb152_1 hzgb152_2); have NBgb2_gb152 := Aside0.mk (show gb2 ≠ gb152 by rw [hg]; exact Nat.ne_of_lt (blk_lt BK160.out)); have NBgb40_gb152 := Aside0.mk (show gb40 ≠ gb152 by rw [hg]; exact Nat.ne_of_lt (blk_lt BK179.out)); have NBgb53_gb152 := Aside0.mk (show gb53 ≠ gb152 by rw [hg]; exact Nat.ne_of_lt (blk_lt BK188.out)); have NBgb74_gb152 := Aside0.mk (show gb74 ≠ gb152 by rw [hg]; exact Nat.ne_of_lt (blk_lt BK200.out)); have GEgb152 := Aside0.mk (show w.heap.size ≤ gb152 by rw [hg]; exact below_size Yb_); have BK242 := Aside0.mk hbox; replace HO12 := Aside0.mk (Kd.Ac HO12.out hb); replace HO17 := Aside0.mk (Kd.Ac HO17.out hb); replace HO23 := Aside0.mk (Kd.Cb HO23.out hb); replace HO29 := Aside0.mk (Kd.Ac HO29.out hb); replace HO34 := Aside0.mk (Kd.Ac HO34.out hb); replace HO81 := Aside0.mk (Kd.Ac HO81.out hb); replace HO86 := Aside0.mk (Kd.Ac HO86.out hb); replace HO95 := Aside0.mk (Kd.Cb HO95.out hb); replace HO124 := Aside0.mk (Kd.Ac HO124.out hb); replace HO129 := Aside0.mk (Kd.Ac HO129.out hb); replace HO135 := Aside0.mk (Kd.Cb HO135.out hb); replace HO141 := Aside0.mk (Kd.Ac HO141.out hb); replace HO146 := Aside0.mk (Kd.Ac HO146.out hb); replace HO225 := Aside0.mk (Kd.Ac HO225.out hb); replace HO226 := Aside0.mk (Kd.Ac HO226.out hb); replace BK160 := Aside0.mk (blk_below BK160.out hb); replace BK179 := Aside0.mk (blk_below BK179.out hb); replace BK188 := Aside0.mk (blk_below BK188.out hb); replace BK200 := Aside0.mk (blk_below BK200.out hb); have HSw241 := Aside0.mk hb.size; replace HB := Aside0.mk (below_step HB.out hb); clear hb hbox hg; obtain ⟨hzgb2_0, hzgb2_1, hzgb2_2⟩ := cl3_ BK160.out; obtain ⟨hzgb40_0, hzgb40_1, hzgb40_2⟩ := cl3_ BK179.out; obtain ⟨hzgb53_0, hzgb53_1, hzgb53_2⟩ := cl3_ BK188.out; obtain ⟨hzgb74_0, hzgb74_1, hzgb74_2⟩ := cl3_ BK200.out; obtain ⟨hzgb152_0, hzgb152_1, hzgb152_2⟩ := cl3_ BK242.out) | ((with_reducible refine gate_store (t := 34) (p := 17) rfl ?_); have hs0_ : w241.cell? ⟨gb152, 0, none⟩ = some (.slice none 0 0) := (blk_cell BK242.out 0).trans rfl; have hfs0_ := blk_frozen BK242.out 0; have hs1_ : w241.cell? ⟨gb152, 1, none⟩ = some (.int .i64 0) := (blk_cell BK242.out 1).trans rfl; have hfs1_ := blk_frozen BK242.out 1; have hs2_ : w241.cell? ⟨gb152, 2, none⟩ = some (.slice none 0 0) := (blk_cell BK242.out 2).trans rfl; have hfs2_ := blk_frozen BK242.out 2; refine Ei (t := 34) (p := 17) (v := ?vo_w243) (w1 := (((w241.setCell ⟨gb152, 0, none⟩ (.slice A139 r138.length c140)).setCell ⟨gb152, 1, none⟩ (.int .i64 r142)).setCell ⟨gb152, 2, none⟩ (.slice A144 r143.length c145))) ?hg ?ho ?hn ?hr ?_; (case ho => rfl); (case hg => rfl); (case hn => rfl); (case hr => first | (go_simp; done) | (go_simp; rfl)); intro w243 hw; (try clear hzgb2_0 hzgb2_1 hzgb2_2); (try clear hzgb40_0 hzgb40_1 hzgb40_2); (try clear hzgb53_0 hzgb53_1 hzgb53_2); (try clear hzgb74_0 hzgb74_1 hzgb74_2); (try clear hzgb152_0 hzgb152_1 hzgb152_2); have hO_ : Go.Proofs.YtnggfglmjdiaaaaOwn.Only w241 w243 gb152 := Yfi_; have hbx_ : w243.heap[gb152]? = some (.cells #[.slice A139 r138.length c140, .int .i64 r142, .slice A144 r143.length c145] 34 (0, 0)) := (by rw [hw]; refine blk_put (cs := #[.slice A139 r138.length c140, .int .i64 r142, .slice none 0 0]) ?_ 2 _ rfl; refine blk_put (cs := #[.slice A139 r138.length c140, .int .i64 0, .slice none 0 0]) ?_ 1 _ rfl; refine blk_put (cs := #[.slice none 0 0, .int .i64 0, .slice none 0 0]) ?_ 0 _ rfl; exact BK242.out); (try clear hs0_ hfs0_ hs1_ hfs1_ hs2_ hfs2_); clear hw; replace HO12 := Aside0.mk (Go.Proofs.YtnggfglmjdiaaaaOwn.Dy HO12.out BK242.out (by decide) hO_); replace HO17 := Aside0.mk (Go.Proofs.YtnggfglmjdiaaaaOwn.Dy HO17.out BK242.out (by decide) hO_); replace HO23 := Aside0.mk (Go.Proofs.YtnggfglmjdiaaaaOwn.onlyR HO23.out BK242.out (by decide) hO_); replace HO29 := Aside0.mk (Go.Proofs.YtnggfglmjdiaaaaOwn.Dy HO29.out BK242.out (by decide) hO_); replace HO34 := Aside0.mk (Go.Proofs.YtnggfglmjdiaaaaOwn.Dy HO34.out BK242.out (by decide) hO_); replace HO81 := Aside0.mk (Go.Proofs.YtnggfglmjdiaaaaOwn.Dy HO81.out BK242.out (by decide) hO_); replace HO86 := Aside0.mk (Go.Proofs.YtnggfglmjdiaaaaOwn.Dy HO86.out BK242.out (by decide) hO_); replace HO95 := Aside0.mk (Go.Proofs.YtnggfglmjdiaaaaOwn.onlyR HO95.out BK242.out (by decide) hO_); replace HO124 := Aside0.mk (Go.Proofs.YtnggfglmjdiaaaaOwn.Dy HO124.out BK242.out (by decide) hO_); replace HO129 := Aside0.mk (Go.Proofs.YtnggfglmjdiaaaaOwn.Dy HO129.out BK242.out (by decide) hO_); replace HO135 := Aside0.mk (Go.Proofs.YtnggfglmjdiaaaaOwn.onlyR HO135.out BK242.out (by decide) hO_); replace HO141 := Aside0.mk (Go.Proofs.YtnggfglmjdiaaaaOwn.Dy HO141.out BK242.out (by decide) hO_); replace HO146 := Aside0.mk (Go.Proofs.YtnggfglmjdiaaaaOwn.Dy HO146.out BK242.out (by decide) hO_); replace HO225 := Aside0.mk (Go.Proofs.YtnggfglmjdiaaaaOwn.Dy HO225.out BK242.out (by decide) hO_); replace HO226 := Aside0.mk (Go.Proofs.YtnggfglmjdiaaaaOwn.Dy HO226.out BK242.out (by decide) hO_); replace BK160 := Aside0.mk ((hO_.others _ NBgb2_gb152.out).trans BK160.out); replace BK179 := Aside0.mk ((hO_.others _ NBgb40_gb152.out).trans BK179.out); replace BK188 := Aside0.mk ((hO_.others _ NBgb53_gb152.out).trans BK188.out); replace BK200 := Aside0.mk ((hO_.others _ NBgb74_gb152.out).trans BK200.out); replace HB := Aside0.mk (hO_.below HB.out GEgb152.out); have HSw243 := Aside0.mk (Nat.le_of_eq hO_.size.symm : w241.heap.size ≤ w243.heap.size); clear BK242; have BK244 := Aside0.mk hbx_; clear hbx_ hO_; obtain ⟨hzgb2_0, hzgb2_1, hzgb2_2⟩ := cl3_ BK160.out; obtain ⟨hzgb40_0, hzgb40_1, hzgb40_2⟩ := cl3_ BK179.out; obtain ⟨hzgb53_0, hzgb53_1, hzgb53_2⟩ := cl3_ BK188.out; obtain ⟨hzgb74_0, hzgb74_1, hzgb74_2⟩ := cl3_ BK200.out; obtain ⟨hzgb152_0, hzgb152_1, hzgb152_2⟩ := cl3_ BK244.out) | (go_at_call 14; (with_reducible refine (Cm.calls k _ _ r138 r142 _ _ r143 _ _ r26 r30 _ _ r31 true w243 (Kd.Af HO141.out).2.2 (Nat.le_trans (Nat.le_of_eq (Kd.Af HO141.out).1.symm) (Kd.Af HO141.out).2.1) (Kd.Af HO146.out).2.2 (Nat.le_trans (Nat.le_of_eq (Kd.Af HO146.out).1.symm) (Kd.Af HO146.out).2.1) (Kd.Af HO29.out).2.2 (Nat.le_trans (Nat.le_of_eq (Kd.Af HO29.out).1.symm) (Kd.Af HO29.out).2.1) (Kd.Af HO34.out).2.2 (Nat.le_trans (Nat.le_of_eq (Kd.Af HO34.out).1.symm) (Kd.Af HO34.out).2.1) A155.out).mono ?_); rintro e w245 ⟨rfl, hb⟩; (try clear hzgb2_0 hzgb2_1 hzgb2_2); (try clear hzgb40_0 hzgb40_1 hzgb40_2); (try clear hzgb53_0 hzgb53_1 hzgb53_2); (try clear hzgb74_0 hzgb74_1 hzgb74_2); (try clear hzgb152_0 hzgb152_1 hzgb152_2); replace HO12 := Aside0.mk (Kd.Ac HO12.out hb); replace HO17 := Aside0.mk (Kd.Ac HO17.out hb); replace HO23 := Aside0.mk (Kd.Cb HO23.out hb); replace HO29 := Aside0.mk (Kd.Ac HO29.out hb); replace HO34 := Aside0.mk (Kd.Ac HO34.out hb); replace HO81 := Aside0.mk (Kd.Ac HO81.out hb); replace HO86 := Aside0.mk (Kd.Ac HO86.out hb); replace HO95 := Aside0.mk (Kd.Cb HO95.out hb); replace HO124 := Aside0.mk (Kd.Ac HO124.out hb); replace HO129 := Aside0.mk (Kd.Ac HO129.out hb); replace HO135 := Aside0.mk (Kd.Cb HO135.out hb); replace HO141 := Aside0.mk (Kd.Ac HO141.out hb); replace HO146 := Aside0.mk (Kd.Ac HO146.out hb); replace HO225 := Aside0.mk (Kd.Ac HO225.out hb); replace HO226 := Aside0.mk (Kd.Ac HO226.out hb); replace BK160 := Aside0.mk (blk_below BK160.out hb); replace BK179 := Aside0.mk (blk_below BK179.out hb); replace BK188 := Aside0.mk (blk_below BK188.out hb); replace BK200 := Aside0.mk (blk_below BK200.out hb); replace BK244 := Aside0.mk (blk_below BK244.out hb); have HSw245 := Aside0.mk hb.size; replace HB := Aside0.mk (below_step HB.out hb); clear hb; obtain ⟨hzgb2_0, hzgb2_1, hzgb2_2⟩ := cl3_ BK160.out; obtain ⟨hzgb40_0, hzgb40_1, hzgb40_2⟩ := cl3_ BK179.out; obtain ⟨hzgb53_0, hzgb53_1, hzgb53_2⟩ := cl3_ BK188.out; obtain ⟨hzgb74_0, hzgb74_1, hzgb74_2⟩ := cl3_ BK200.out; obtain ⟨hzgb152_0, hzgb152_1, hzgb152_2⟩ := cl3_ BK244.out) | (go_at_call 24; have hcall_ := Dj.calls k _ _ r114 r64 _ _ r115 1 r156 w245 (Kd.Af HO225.out).2.2 (Nat.le_trans (Nat.le_of_eq (Kd.Af HO225.out).1.symm) (Kd.Af HO225.out).2.1) (Kd.Af HO226.out).2.2 (Nat.le_trans (Nat.le_of_eq (Kd.Af HO226.out).1.symm) (Kd.Af HO226.out).2.1) A158.out; rw [← (show r60.length = r114.length from (Kd.Af HO225.out).1)] at hcall_; rw [← (show r65.length = r115.length from (Kd.Af HO226.out).1)] at hcall_; refine hcall_.mono ?_; (try clear hcall_); rintro e w246 ⟨rfl, hb⟩; (try clear hzgb2_0 hzgb2_1 hzgb2_2); (try clear hzgb40_0 hzgb40_1 hzgb40_2); (try clear hzgb53_0 hzgb53_1 hzgb53_2); (try clear hzgb74_0 hzgb74_1 hzgb74_2); (try clear hzgb152_0 hzgb152_1 hzgb152_2); replace HO12 := Aside0.mk (Kd.Ac HO12.out hb); replace HO17 := Aside0.mk (Kd.Ac HO17.out hb); replace HO23 := Aside0.mk (Kd.Cb HO23.out hb); replace HO29 := Aside0.mk (Kd.Ac HO29.out hb); replace HO34 := Aside0.mk (Kd.Ac HO34.out hb); replace HO81 := Aside0.mk (Kd.Ac HO81.out hb); replace HO86 := Aside0.mk (Kd.Ac HO86.out hb); replace HO95 := Aside0.mk (Kd.Cb HO95.out hb); replace HO124 := Aside0.mk (Kd.Ac HO124.out hb); replace HO129 := Aside0.mk (Kd.Ac HO129.out hb); replace HO135 := Aside0.mk (Kd.Cb HO135.out hb); replace HO141 := Aside0.mk (Kd.Ac HO141.out hb); replace HO146 := Aside0.mk (Kd.Ac HO146.out hb); replace HO225 := Aside0.mk (Kd.Ac HO225.out hb); replace HO226 := Aside0.mk (Kd.Ac HO226.out hb); replace BK160 := Aside0.mk (blk_below BK160.out hb); replace BK179 := Aside0.mk (blk_below BK179.out hb); replace BK188 := Aside0.mk (blk_below BK188.out hb); replace BK200 := Aside0.mk (blk_below BK200.out hb); replace BK244 := Aside0.mk (blk_below BK244.out hb); have HSw246 := Aside0.mk hb.size; replace HB := Aside0.mk (below_step HB.out hb); clear hb; obtain ⟨hzgb2_0, hzgb2_1, hzgb2_2⟩ := cl3_ BK160.out; obtain ⟨hzgb40_0, hzgb40_1, hzgb40_2⟩ := cl3_ BK179.out; obtain ⟨hzgb53_0, hzgb53_1, hzgb53_2⟩ := cl3_ BK188.out; obtain ⟨hzgb74_0, hzgb74_1, hzgb74_2⟩ := cl3_ BK200.out; obtain ⟨hzgb152_0, hzgb152_1, hzgb152_2⟩ := cl3_ BK244.out))
   repeat (go_quiet (fail); try go_wp2)
   go_ret
   exact ⟨rfl, Yb_⟩
end Go.Proofs.Ytnggfglmjdiaaaa.X

namespace Go.Proofs.YtnggfglmjdiaaaaZ
open Go.ChangeShapes Go.WideShapes Go.ChangeAt Go.RowKit
open Go.Proofs.YtnggfglmjdiaaaaW.PrintWords
section
variable {P : Program}
/-- A reading of type t is a value of kind d, and the value fits. -/
def Opens (P : Program) {α : Type} (d : Kd α) (t : TypeId) (fits : α → Prop) : Prop :=
 ∀ {H : Type} {enc : TypeId × Value → H} {w : World} {base : Nat} {spare : Nat → Bool} {held : Bool} {fuel : Nat} {cs : List Value} {x : DataW H × List MemPlace},
  DataW.trod enc P w base spare held fuel t cs = some x → (∀ n ∈ x.1.weights P t, n ≤ reachBytes) → ∃ v, d.K w v cs ∧ fits v
theorem Gq {k : IntKind} {t : TypeId} (ht : P.underlying t = some (.int k)) : Opens P (Kd.int k) t (fun n => (Lit.int k n).wf = true) := by
 intro H enc w base spare held fuel cs x h _
 obtain ⟨n, rfl, _, hw⟩ := DataW.trod_int ht h
 exact ⟨n, rfl, hw⟩
theorem weightsAll_mem {H : Type} {e : TypeId} {d : DataW H} {n : Nat} : ∀ {l : List (DataW H)}, d ∈ l → n ∈ d.weights P e → n ∈ DataW.weightsAll P e l
 | [], h, _ => by cases h
 | x :: r, h, hn => by
  simp only [DataW.weightsAll, List.mem_append]
  rcases List.mem_cons.1 h with rfl | h
  ·exact .inl hn
  ·exact .inr (weightsAll_mem h hn)
theorem weightsEach_mem {H : Type} {n : Nat} : ∀ {ts : List TypeId} {l : List (DataW H)} {i : Nat} {t : TypeId} {d : DataW H}, ts[i]? = some t → l[i]? = some d → n ∈ d.weights P t → n ∈ DataW.weightsEach P ts l
 | [], l, i, t, d, h, _, _ => by simp at h
 | t :: ts, [], i, _, _, _, h, _ => by simp at h
 | t :: ts, d :: l, 0, _, _, h, k, hn => by
  simp at h k; subst h k
  simp only [DataW.weightsEach, List.mem_append]; exact .inl hn
 | t :: ts, d :: l, i + 1, _, _, h, k, hn => by
  simp at h k
  simp only [DataW.weightsEach, List.mem_append]; exact .inr (weightsEach_mem h k hn)
theorem Gl {α : Type} (z : α) {d : Kd α} {t e : TypeId} {fits : α → Prop} (ht : P.underlying t = some (.slice e)) (hsz : P.cellsOf e = d.sz) (he : Opens P d e fits) {B : Nat} (hB : P.bytesOf e = B) :
  Opens P (Kd.slice e d) t (fun l => l.length * B ≤ 140737488351232 ∧ l.length ≤ 9223372036854775807 ∧ ∀ x ∈ l, fits x) := by
 intro H enc w base spare held fuel cs x h hw
 rcases Deep.open_slice ht h with ⟨rfl, rfl⟩ | ⟨a, len, cap, m, n, D, Pl, rfl, hb, hl, hm, hmm, rfl, hc⟩
 ·exact ⟨[], ⟨none, 0, rfl, Nat.le_refl _, Kd.C_nil d w⟩, by simp, by simp, fun x hx => by cases hx⟩
 ·have hlm : len ≤ m := by rw [hmm]; split <;> omega
  have hbnd : len * B ≤ 140737488351232 := by
   have := hw ((((List.range len).map D).length + ((List.range (m - len)).map fun j => D (len + j)).length) * P.bytesOf e) (by simp [DataW.weights, ht])
   simp only [List.length_map, List.length_range, hB] at this
   have h2 : len * B ≤ (len + (m - len)) * B := Nat.mul_le_mul_right _ (by omega)
   exact Nat.le_trans h2 this
  have hel : ∀ i, i < len → ∃ v : α, (∃ c, c.length = d.sz ∧ d.K w v c ∧ ∀ j u, c[j]? = some u → w.cell? (a.add (i * d.sz + j)) = some u) ∧ fits v := by
   intro i hi
   obtain ⟨c, h1, h2⟩ := hc i (by omega)
   obtain ⟨v, hv, hf⟩ := he h2 (fun k hk => hw k (by
    simp only [DataW.weights, ht, List.mem_cons, List.mem_append]
    exact .inr (.inl (weightsAll_mem (d := D i) (List.mem_map.2 ⟨i, List.mem_range.2 hi, rfl⟩) hk))))
   rw [hsz] at h1
   obtain ⟨_, hlen, hcell⟩ := World.cells?_some h1
   refine ⟨v, ⟨c, hlen, hv, fun j u hj => ?_⟩, hf⟩
   have hjl : j < d.sz := by rw [← hlen]; exact (List.getElem?_eq_some_iff.1 hj).1
   rw [← Deep.add_add, hcell j hjl]
   exact hj
  haveI : Inhabited α := ⟨z⟩
  obtain ⟨f, hf⟩ := Deep.choose_lt hel
  refine ⟨(List.range len).map f, ⟨some a, cap, by simp, by simpa using hl, ⟨by simp, ?_, fun _ => ⟨a, rfl, ?_⟩⟩⟩, by simpa using hbnd, by simp; unfold maxLen at hm; omega, ?_⟩
  ·simp; unfold maxLen at hm; omega
  ·intro j p hj
   have hjl : j < len := by
    have := (List.getElem?_eq_some_iff.1 hj).1
    simpa using this
   rw [List.getElem?_map, List.getElem?_range hjl] at hj
   simp only [Option.map_some, Option.some.injEq] at hj
   subst hj
   exact (hf j hjl).1
  ·intro x hx
   obtain ⟨j, hj, rfl⟩ := List.mem_map.1 hx
   exact (hf j (List.mem_range.1 hj)).2
/-- Fields from offset o on to the struct's end L, as a value of kind d. -/
def OpensF (P : Program) {α : Type} (d : Kd α) (fs : List Field) (o L : Nat) (fits : α → Prop) : Prop :=
 ∀ {H : Type} {enc : TypeId × Value → H} {w : World} {base : Nat} {spare : Nat → Bool} {held : Bool} {fuel : Nat} {cs : List Value} {xs : List (DataW H × List MemPlace)},
  cs.length = L → xs.length = fs.length → (∀ (i : Nat) (f : Field), fs[i]? = some f → DataW.trod enc P w base spare held fuel f.type ((cs.drop f.offset).take (P.cellsOf f.type)) = xs[i]?) →
  (∀ n ∈ DataW.weightsEach P (fs.map (·.type)) (xs.map (·.1)), n ≤ reachBytes) → ∃ v, d.K w v (cs.drop o) ∧ fits v
theorem opensF_one {α : Type} {d : Kd α} {f : Field} {o L : Nat} {fits : α → Prop} (t : TypeId) (hft : f.type = t) (ho : f.offset = o) (hL : o + P.cellsOf t = L) (h : Opens P d t fits) : OpensF P d [f] o L fits := by
 intro H enc w base spare held fuel cs xs hlen hxs hf hw
 match xs, hxs with
 | [x], _ =>
  have h0 := hf 0 f rfl
  rw [hft, ho, List.take_of_length_le (by rw [List.length_drop]; omega)] at h0
  exact h h0 (fun n hn => hw n (by rw [hft.symm] at hn; simp [DataW.weightsEach]; exact hn))
theorem opensF_cons {α β : Type} {d : Kd α} {d' : Kd β} {f : Field} {rest : List Field} {o o' L : Nat} {fits : α → Prop} {fits' : β → Prop} (t : TypeId) (hft : f.type = t) (ho : f.offset = o) (hn : o + P.cellsOf t = o') (h : Opens P d t fits) (hr : OpensF P d' rest o' L fits') :
  OpensF P (Kd.pair d d') (f :: rest) o L (fun p => fits p.1 ∧ fits' p.2) := by
 intro H enc w base spare held fuel cs xs hlen hxs hf hw
 match xs, hxs with
 | x :: xs, hxs =>
  have h0 := hf 0 f rfl
  rw [hft, ho] at h0
  obtain ⟨v, hv, fv⟩ := h h0 (fun n hn => hw n (by rw [hft.symm] at hn; simp [DataW.weightsEach]; exact .inl hn))
  obtain ⟨v', hv', fv'⟩ := hr (cs := cs) (xs := xs) hlen (by simpa using hxs) (fun i g hg => by simpa using hf (i + 1) g (by simpa using hg)) (fun n hn => hw n (by simp only [List.map_cons, DataW.weightsEach, List.mem_append]; exact .inr hn))
  exact ⟨(v, v'), ⟨(cs.drop o).take (P.cellsOf t), cs.drop o', by rw [← hn, ← List.drop_drop]; exact (List.take_append_drop _ _).symm, hv, hv'⟩, fv, fv'⟩
theorem Gs {α β : Type} {d : Kd α} {t : TypeId} {fs : Array Field} {L : Nat} {fits : α → Prop} {fits' : β → Prop} (ht : P.underlying t = some (.struct fs)) (hL : P.cellsOf t = L) (h : OpensF P d fs.toList 0 L fits) (g : β → α) (inv : α → β) (hinv : ∀ a, g (inv a) = a) (hf : ∀ a, fits a → fits' (inv a)) :
  Opens P (Kd.iso d g) t fits' := by
 intro H enc w base spare held fuel cs x hx hw
 obtain ⟨xs, n, rfl, rfl, hl, hlen, hff⟩ := DataW.trod_struct ht hx
 obtain ⟨v, hv, fv⟩ := h (cs := cs) (xs := xs) (by rw [hl, hL]) (by simpa using hlen) (fun i f hi => hff i f (by simpa using hi)) (fun k hk => hw k (by simp only [DataW.weights, ht]; exact hk))
 refine ⟨inv v, ?_, hf v fv⟩
 show d.K w (g (inv v)) cs
 rw [hinv]
 simpa using hv
/-- A parameter's weights are among all. -/
theorem weights_param {H : Type} {ts : List TypeId} {ds : List (DataW H)} {j : Nat} {t : TypeId} {d : DataW H} (hsz : (DataW.weightsEach P ts ds).all (· ≤ reachBytes) = true) (ht : ts[j]? = some t) (hd : ds[j]? = some d) : ∀ n ∈ d.weights P t, n ≤ reachBytes := fun n hn => by
 have := List.all_eq_true.1 hsz n (weightsEach_mem ht hd hn)
 simpa using this
end
end Go.Proofs.YtnggfglmjdiaaaaZ

namespace Go.Proofs.Ytnggfglmjdiaaaa.X
open Go.RowKit Go.Proofs.YtnggfglmjdiaaaaW.PrintWords Go.Proofs.YtnggfglmjdiaaaaW.PrintLast Go.Proofs.YtnggfglmjdiaaaaW.PrintMore
open Go.Proofs.YtnggfglmjdiaaaaZ
namespace OFnExactRunOrders
def fitsT24 (x : S24) : Prop := (x.f0.length * 24 ≤ 140737488351232 ∧ x.f0.length ≤ 9223372036854775807 ∧ ∀ y4 ∈ x.f0, (y4.length * 8 ≤ 140737488351232 ∧ y4.length ≤ 9223372036854775807 ∧ ∀ y2 ∈ y4, (Lit.int .i64 y2).wf = true))
theorem opensT24 : Opens Try.prog k24 24 fitsT24 :=
 Gs (L := 1) Try.underlying24 (by kernel_rfl) (opensF_one 22 rfl rfl (by kernel_rfl) (Gl [] Try.underlying22 (by kernel_rfl) (Gl 0 Try.underlying73 (by kernel_rfl) (Gq Try.underlying3) (by kernel_rfl)) (by kernel_rfl))) (fun x : S24 => x.f0) (fun p => ⟨p⟩) (fun _ => rfl) (fun _ h => h)
def fitsT26 (x : S26) : Prop := (Lit.int .i64 x.f0).wf = true ∧ (x.f1.length * 24 ≤ 140737488351232 ∧ x.f1.length ≤ 9223372036854775807 ∧ ∀ y4 ∈ x.f1, (y4.length * 8 ≤ 140737488351232 ∧ y4.length ≤ 9223372036854775807 ∧ ∀ y2 ∈ y4, (Lit.int .i64 y2).wf = true))
theorem opensT26 : Opens Try.prog k26 26 fitsT26 :=
 Gs (L := 2) Try.underlying26 (by kernel_rfl) (opensF_cons (o' := 1) 3 rfl rfl (by kernel_rfl) (Gq Try.underlying3) (opensF_one 22 rfl rfl (by kernel_rfl) (Gl [] Try.underlying22 (by kernel_rfl) (Gl 0 Try.underlying73 (by kernel_rfl) (Gq Try.underlying3) (by kernel_rfl)) (by kernel_rfl)))) (fun x : S26 => (x.f0, x.f1)) (fun p => ⟨p.1, p.2⟩) (fun _ => rfl) (fun _ h => h)
def fitsT28 (x : S28) : Prop := fitsT24 x.f0 ∧ fitsT26 x.f1
theorem opensT28 : Opens Try.prog k28 28 fitsT28 :=
 Gs (L := 3) Try.underlying28 (by kernel_rfl) (opensF_cons (o' := 1) 24 rfl rfl (by kernel_rfl) opensT24 (opensF_one 26 rfl rfl (by kernel_rfl) opensT26)) (fun x : S28 => (x.f0, x.f1)) (fun p => ⟨p.1, p.2⟩) (fun _ => rfl) (fun _ h => h)
def fitsT42 (x : S42) : Prop := (Lit.int .i64 x.f0).wf = true ∧ (Lit.int .i64 x.f1).wf = true ∧ (Lit.int .i64 x.f2).wf = true
theorem opensT42 : Opens Try.prog k42 42 fitsT42 :=
 Gs (L := 3) Try.underlying42 (by kernel_rfl) (opensF_cons (o' := 1) 3 rfl rfl (by kernel_rfl) (Gq Try.underlying3) (opensF_cons (o' := 2) 3 rfl rfl (by kernel_rfl) (Gq Try.underlying3) (opensF_one 3 rfl rfl (by kernel_rfl) (Gq Try.underlying3)))) (fun x : S42 => (x.f0, x.f1, x.f2)) (fun p => ⟨p.1, p.2.1, p.2.2⟩) (fun _ => rfl) (fun _ h => h)
def Pure : Prop := ∀ (x0 : S28) (l1 : List (S42)), fitsT28 x0 → (l1.length * 24 ≤ 140737488351232 ∧ l1.length ≤ 9223372036854775807 ∧ ∀ y2 ∈ l1, fitsT42 y2) → ∃ k, Ef.f k x0.f0.f0 x0.f1.f0 x0.f1.f1 l1 = some true
end OFnExactRunOrders
end Go.Proofs.Ytnggfglmjdiaaaa.X

namespace Go.Proofs.YtnggfglmjdiaaaaL
open Go.RowKit Go.Proofs.YtnggfglmjdiaaaaW.PrintWords
theorem ev_eq {α : Type} {g : Nat → Option α} {r : α} (h : ∀ k, g k = some r) : Ev g r := ⟨0, fun k _ => h k⟩
theorem ev_rounds {α : Type} {g : Nat → Option α} {r : α} (h : Ev g r) : ∃ k, g k = some r := h.rounds
theorem wrap_id {x : Int} (h0 : -9223372036854775808 ≤ x) (h1 : x ≤ 9223372036854775807) : wrap64 x = x := by unfold wrap64; omega
theorem wrap_succ {n : Nat} (h : n < 9223372036854775807) : wrap64 ((n : Int) + 1) = ((n + 1 : Nat) : Int) := by rw [wrap_id (by omega) (by omega)]; rfl
theorem rd_at (l : List Int) (n : Nat) (h : n < l.length) : rd l (n : Int) = l[n] := by simp [rd, List.getD_eq_getElem?_getD, List.getElem?_eq_getElem h]
/-- A list that is filled from the front. -/
def fill {α β : Type} (f : α → β) (z : β) (l : List α) (n : Nat) : List β := (l.take n).map f ++ List.replicate (l.length - n) z
theorem fill_zero {α β : Type} (f : α → β) (z : β) (l : List α) : fill f z l 0 = List.replicate l.length z := by simp [fill]
theorem fill_length {α β : Type} (f : α → β) (z : β) (l : List α) (n : Nat) (h : n ≤ l.length) : (fill f z l n).length = l.length := by simp only [fill, List.length_append, List.length_map, List.length_take, List.length_replicate]; omega
theorem fill_set {α β : Type} (f : α → β) (z : β) (l : List α) (n : Nat) (h : n < l.length) : (fill f z l n).set n (f l[n]) = fill f z l (n + 1) := by
 have e : l.length - n = (l.length - (n + 1)) + 1 := by omega
 have ht : l.take (n + 1) = l.take n ++ [l[n]] := by rw [List.take_succ_eq_append_getElem h]
 unfold fill
 rw [e, List.replicate_succ, ht, List.set_append_right _ _ (by simp; omega)]
 have : n - ((l.take n).map f).length = 0 := by simp; omega
 rw [this, List.map_append, List.append_assoc]
 rfl
theorem fill_all {α β : Type} (f : α → β) (z : β) (l : List α) : fill f z l l.length = l.map f := by simp [fill]
end Go.Proofs.YtnggfglmjdiaaaaL

namespace Go.Proofs.Ytnggfglmjdiaaaa.X
open Go.RowKit Go.Proofs.YtnggfglmjdiaaaaW.PrintWords Go.Proofs.YtnggfglmjdiaaaaL
theorem eqIntS_ev (l : List Int) (h : l.length ≤ 4611686018427387904) : Ev (fun k => Bj.f k l l) true := by
 have key : ∀ (d n : Nat), n + d = l.length → Ev (fun k => Bj.l0 k l l n) true := by
  intro d
  induction d with
  | zero => intro n hn; exact Ev.step (f := fun _ => some _) (fun k => by simp only [Bj.l0]; rw [if_neg (by omega)]) (Ev.now _)
  | succ d ih =>
   intro n hn
   refine Ev.step (f := fun k => Bj.l0 k l l ((n + 1 : Nat) : Int)) (fun k => ?_) (ih (n + 1) (by omega))
   simp only [Bj.l0]
   rw [if_pos (by omega), if_pos (by omega), if_pos (by omega), wrap_succ (by omega)]
   simp
 exact Ev.congr (f := fun k => Bj.l0 k l l ((0 : Nat) : Int)) (fun k => by unfold Bj.f; rw [if_pos rfl]; rfl) (key l.length 0 (by omega))
theorem rdR (l : List (List Int)) (n : Nat) (h : n < l.length) : rd_L1 l (n : Int) = l[n] := by simp [rd_L1, List.getD_eq_getElem?_getD, List.getElem?_eq_getElem h]
theorem eqIntSS_ev (l : List (List Int)) (h : l.length ≤ 1048576) (hr : ∀ s ∈ l, s.length ≤ 1048576) : Ev (fun k => Az.f k l l) true := by
 have key : ∀ (d n : Nat), n + d = l.length → Ev (fun k => Az.l0 k l l n) true := by
  intro d
  induction d with
  | zero => intro n hn; exact Ev.step (f := fun _ => some _) (fun k => by simp only [Az.l0]; rw [if_neg (by omega)]) (Ev.now _)
  | succ d ih =>
   intro n hn
   have hnl : n < l.length := by omega
   have hm := hr _ (List.getElem_mem hnl)
   refine Ev.step (f := fun k => (Bj.f k l[n] l[n]).bind fun t => if t = true then Az.l0 k l l ((n + 1 : Nat) : Int) else some false) (fun k => ?_) (Ev.bind (eqIntS_ev l[n] (by have : l[n].length ≤ 1048576 := hm; omega)) ?_)
   ·simp only [Az.l0]
    rw [if_pos (by omega), if_pos (by omega), if_pos (by omega), rdR l n hnl, wrap_succ (by omega)]
   ·simp only [if_true]; exact ih (n + 1) (by omega)
 exact Ev.congr (f := fun k => Az.l0 k l l ((0 : Nat) : Int)) (fun k => by unfold Az.f; rw [if_pos rfl]; rfl) (key l.length 0 (by omega))
theorem szIntS_eq (l : List Int) (a : Int) (h0 : 0 ≤ a) (h1 : a ≤ 1048576) (hl : l.length ≤ 4611686018427387904) : Fp.f l a = some (if a - (l.length : Int) < 0 then -1 else a - (l.length : Int)) := by
 unfold Fp.f
 rw [wrap_id (by omega) (by omega)]
 split <;> rfl
theorem szIntSS_ev (l : List (List Int)) (a : Int) (h0 : 0 ≤ a) (h1 : a ≤ 1048576) (hl : l.length ≤ 4611686018427387904) (hr : ∀ s ∈ l, s.length ≤ 4611686018427387904) :
  ∃ r, Ev (fun k => Bc.f k l a) r ∧ (r < 0 ∨ (0 ≤ r ∧ r ≤ a ∧ (l.length : Int) ≤ a ∧ ∀ s ∈ l, (s.length : Int) ≤ a)) := by
 have key : ∀ (d n : Nat) (x : Int), n + d = l.length → 0 ≤ x → x ≤ a → ∃ r, Ev (fun k => Bc.l0 k l x n) r ∧ (r < 0 ∨ (0 ≤ r ∧ r ≤ x ∧ ∀ s ∈ l.drop n, (s.length : Int) ≤ a)) := by
  intro d
  induction d with
  | zero =>
   intro n x hn hx0 hxa
   exact ⟨x, Ev.step (f := fun _ => some _) (fun k => by simp only [Bc.l0]; rw [if_neg (by omega)]) (Ev.now _), .inr ⟨hx0, Int.le_refl _, by rw [List.drop_of_length_le (by omega)]; simp⟩⟩
  | succ d ih =>
   intro n x hn hx0 hxa
   have hnl : n < l.length := by omega
   have hm := hr _ (List.getElem_mem hnl)
   by_cases c : x - (l[n].length : Int) < 0
   ·refine ⟨-1, Ev.step (f := fun _ => some (-1)) (fun k => ?_) (Ev.now _), .inl (by decide)⟩
    simp only [Bc.l0]
    rw [if_pos (by omega), if_pos (by omega), rdR l n hnl, szIntS_eq _ _ hx0 (by omega) hm, if_pos c]
    rfl
   ·obtain ⟨r, hev, hq⟩ := ih (n + 1) (x - (l[n].length : Int)) (by omega) (by omega) (by omega)
    refine ⟨r, Ev.step (fun k => ?_) hev, hq.imp id (fun z => ⟨z.1, by omega, ?_⟩)⟩
    ·simp only [Bc.l0]
     rw [if_pos (by omega), if_pos (by omega), rdR l n hnl, szIntS_eq _ _ hx0 (by omega) hm, if_neg c]
     simp only [Option.bind_some]
     rw [if_neg c, wrap_succ (by omega)]
    ·rw [List.drop_eq_getElem_cons hnl]
     intro s hs
     rcases List.mem_cons.1 hs with rfl | hs
     ·omega
     ·exact z.2.2 s hs
 by_cases c : a - (l.length : Int) < 0
 ·exact ⟨-1, ev_eq (fun k => by unfold Bc.f; rw [wrap_id (by omega) (by omega), if_pos c]), .inl (by decide)⟩
 ·obtain ⟨r, hev, hq⟩ := key l.length 0 (a - (l.length : Int)) (by omega) (by omega) (by omega)
  refine ⟨r, Ev.congr (fun k => by unfold Bc.f; rw [wrap_id (by omega) (by omega), if_neg c]; rfl) hev, hq.imp id (fun z => ⟨z.1, by omega, by omega, by simpa using z.2.2⟩)⟩
theorem toIntS_ev (l : List Int) (h : l.length ≤ 1048576) : Ev (fun k => Bv.f k l) l := by
 have key : ∀ (d n : Nat), n + d = l.length → Ev (fun k => Bv.l0 k l (fill id (0 : Int) l n) n) l := by
  intro d
  induction d with
  | zero =>
   intro n hn
   obtain rfl : n = l.length := by omega
   have e : fill id (0 : Int) l l.length = l := by rw [fill_all]; simp
   rw [e]
   exact Ev.step (f := fun _ => some _) (fun k => by simp only [Bv.l0]; rw [if_neg (by omega)]) (Ev.now _)
  | succ d ih =>
   intro n hn
   have hnl : n < l.length := by omega
   refine Ev.step (fun k => ?_) (ih (n + 1) (by omega))
   simp only [Bv.l0]
   rw [if_pos (by omega), if_pos (by omega), fill_length id _ l n (by omega), if_pos (by omega), rd_at l n hnl, wrap_succ (by omega), Int.toNat_natCast, ← fill_set id _ l n hnl]
   rfl
 refine Ev.congr (fun k => ?_) (key l.length 0 (by omega))
 unfold Bv.f
 rw [if_pos (by omega), if_pos (by omega), fill_zero, Int.toNat_natCast]
 rfl
theorem toIntSS_ev (l : List (List Int)) (h : l.length ≤ 1048576) (hr : ∀ s ∈ l, s.length ≤ 1048576) : Ev (fun k => Be.f k l) l := by
 have key : ∀ (d n : Nat), n + d = l.length → Ev (fun k => Be.l0 k l (fill id ([] : List Int) l n) n) l := by
  intro d
  induction d with
  | zero =>
   intro n hn
   obtain rfl : n = l.length := by omega
   have e : fill id ([] : List Int) l l.length = l := by rw [fill_all]; simp
   rw [e]
   exact Ev.step (f := fun _ => some _) (fun k => by simp only [Be.l0]; rw [if_neg (by omega)]) (Ev.now _)
  | succ d ih =>
   intro n hn
   have hnl : n < l.length := by omega
   refine Ev.step (f := fun k => (Bv.f k l[n]).bind fun t => Be.l0 k l ((fill id ([] : List Int) l n).set n t) ((n + 1 : Nat) : Int)) (fun k => ?_) (Ev.bind (toIntS_ev _ (hr _ (List.getElem_mem hnl))) ?_)
   ·simp only [Be.l0, fill_length id _ l n (show n ≤ l.length by omega)]
    rw [if_pos (by omega), if_pos (by omega), rdR l n hnl]
    simp only [if_pos (show (n : Int) < (l.length : Int) by omega), wrap_succ (show n < 9223372036854775807 by omega), Int.toNat_natCast]
   ·have e : (fill id ([] : List Int) l n).set n l[n] = fill id ([] : List Int) l (n + 1) := by rw [← fill_set id _ l n hnl]; rfl
    rw [e]
    exact ih (n + 1) (by omega)
 refine Ev.congr (fun k => ?_) (key l.length 0 (by omega))
 unfold Be.f
 rw [if_pos (by omega), if_pos (by omega), fill_zero, Int.toNat_natCast]
 rfl
theorem l1In_eq2 (a b c : Int) : Bi.f a b c = some (decide (b ≤ a) && decide (a ≤ c)) := by
 unfold Bi.f
 by_cases h : a ≥ b
 ·rw [if_pos h]; simp [show b ≤ a from h]
 ·rw [if_neg h]; simp [show ¬ b ≤ a from h]
theorem has_ev (S : List Int) (n : Int) (hS : S.length ≤ 1048576) : Ev (fun k => Am.f k S n) (decide (n ∈ S)) := by
 have key : ∀ (d i : Nat), i + d = S.length → Ev (fun k => Am.l0 k S n i) (decide (n ∈ S.drop i)) := by
  intro d
  induction d with
  | zero =>
   intro i hi
   rw [List.drop_of_length_le (by omega)]
   exact Ev.step (f := fun _ => some _) (fun k => by simp only [Am.l0]; rw [if_neg (by omega)]; simp) (Ev.now _)
  | succ d ih =>
   intro i hi
   have hil : i < S.length := by omega
   rw [List.drop_eq_getElem_cons hil]
   by_cases c : S[i] = n
   ·have e : decide (n ∈ S[i] :: S.drop (i + 1)) = true := decide_eq_true (by rw [c]; exact List.mem_cons_self)
    rw [e]
    exact Ev.step (f := fun _ => some _) (fun k => by simp only [Am.l0]; rw [if_pos (by omega), if_pos (by omega), rd_at S i hil, if_pos c]) (Ev.now _)
   ·have e : decide (n ∈ S[i] :: S.drop (i + 1)) = decide (n ∈ S.drop (i + 1)) := by
     rw [decide_eq_decide, List.mem_cons]
     exact ⟨fun z => z.elim (fun y => absurd y.symm c) id, .inr⟩
    rw [e]
    refine Ev.step (fun k => ?_) (ih (i + 1) (by omega))
    simp only [Am.l0]
    rw [if_pos (by omega), if_pos (by omega), rd_at S i hil, if_neg c, wrap_succ (by omega)]
 exact Ev.congr (f := fun k => Am.l0 k S n ((0 : Nat) : Int)) (fun k => rfl) (by simpa using key S.length 0 (by omega))
theorem spec_l5Good_loop (l : List (List Int)) (hl : l.length ≤ 6) : ∀ (d i : Nat) (S : List Int), i + d = l.length → S.length ≤ 4 * i → Ev (fun k => Ak.l0 k S i l) (Du 4 S (l.drop i)) := by
 intro d
 induction d with
 | zero =>
  intro i S hi hS
  rw [List.drop_of_length_le (by omega)]
  exact Ev.step (f := fun _ => some _) (fun k => by simp only [Ak.l0]; rw [if_neg (by omega)]; rfl) (Ev.now _)
 | succ d ih =>
  intro i S hi hS
  have hil : i < l.length := by omega
  rw [List.drop_eq_getElem_cons hil]
  by_cases c : (l[i].length : Int) > 4
  ·rw [Gn 4 _ _ _ c]
   refine Ev.step (f := fun _ => some false) (fun k => ?_) (Ev.now _)
   simp only [Ak.l0]
   rw [if_pos (by omega), if_pos (by omega), rdR l i hil, if_pos c]
  ·rw [goodRows_in 4 _ _ _ c]
   have inner : ∀ (e j : Nat) (S2 : List Int), j + e = l[i].length → S2.length ≤ 4 * i + j → Ev (fun k => Ak.l1 k S2 i j l) (Fg 4 S2 (l[i].drop j) (l.drop (i + 1))) := by
    intro e
    induction e with
    | zero =>
     intro j S2 hj hS2
     rw [List.drop_of_length_le (by omega), Gu]
     refine Ev.step (fun k => ?_) (ih (i + 1) S2 (by omega) (by omega))
     simp only [Ak.l1]
     rw [if_pos (by omega), if_pos (by omega), rdR l i hil, if_neg (by omega), wrap_succ (by omega)]
    | succ e ih2 =>
     intro j S2 hj hS2
     have hjl : j < l[i].length := by omega
     rw [List.drop_eq_getElem_cons hjl]
     have hn := rd_at l[i] j hjl
     refine Ev.step (f := fun k => if (decide ((1 : Int) ≤ l[i][j]) && decide (l[i][j] ≤ 99)) = true then ((Am.f k S2 l[i][j]).bind fun t => if t = true then some false else Ak.l1 k (S2 ++ [l[i][j]]) i ((j + 1 : Nat) : Int) l) else some false) (fun k => ?_) ?_
     ·simp only [Ak.l1]
      rw [if_pos (by omega), if_pos (by omega), rdR l i hil, if_pos (by omega), if_pos (by omega), hn, l1In_eq2]
      simp only [Option.bind_some, if_pos (show S2.length < 17592186044416 by omega), wrap_succ (show j < 9223372036854775807 by omega)]
     ·generalize hnn : l[i][j] = n
      rw [hnn] at *
      cases c4 : (decide (1 ≤ n) && decide (n ≤ 99)) with
      | false =>
       rw [Fb 4 S2 n _ _ (.inl (fun z => by simp [z.1, z.2] at c4))]
       exact ev_eq (fun k => if_neg (by simp))
      | true =>
       have hn1 : 1 ≤ n ∧ n ≤ 99 := by simpa using c4
       simp only [if_true]
       refine Ev.bind (has_ev S2 n (by omega)) ?_
       cases c5 : decide (n ∈ S2) with
       | true =>
        rw [Fb 4 S2 n _ _ (.inr c5)]
        simp only [if_true]; exact Ev.now _
       | false =>
        rw [Gt 4 S2 n _ _ hn1.1 hn1.2 c5]
        simp only [Bool.false_eq_true, if_false]
        exact ih2 (j + 1) (S2 ++ [n]) (by omega) (by simp; omega)
   refine Ev.step (fun k => ?_) (inner l[i].length 0 S (by omega) (by omega))
   simp only [Ak.l0]
   rw [if_pos (by omega), if_pos (by omega), rdR l i hil, if_neg c]
   rfl
theorem spec_l9Good_loop (m : Int) (l : List (List Int)) (hl : l.length ≤ 6) (hm : m ≤ 4) : ∀ (d i : Nat) (S : List Int), i + d = l.length → S.length ≤ 4 * i → Ev (fun k => Ae.l0 k S i m l) (Du m S (l.drop i)) := by
 intro d
 induction d with
 | zero =>
  intro i S hi hS
  rw [List.drop_of_length_le (by omega)]
  exact Ev.step (f := fun _ => some _) (fun k => by simp only [Ae.l0]; rw [if_neg (by omega)]; rfl) (Ev.now _)
 | succ d ih =>
  intro i S hi hS
  have hil : i < l.length := by omega
  rw [List.drop_eq_getElem_cons hil]
  by_cases c : (l[i].length : Int) > m
  ·rw [Gn m _ _ _ c]
   refine Ev.step (f := fun _ => some false) (fun k => ?_) (Ev.now _)
   simp only [Ae.l0]
   rw [if_pos (by omega), if_pos (by omega), rdR l i hil, if_pos c]
  ·rw [goodRows_in m _ _ _ c]
   have inner : ∀ (e j : Nat) (S2 : List Int), j + e = l[i].length → S2.length ≤ 4 * i + j → Ev (fun k => Ae.l1 k S2 i j m l) (Fg m S2 (l[i].drop j) (l.drop (i + 1))) := by
    intro e
    induction e with
    | zero =>
     intro j S2 hj hS2
     rw [List.drop_of_length_le (by omega), Gu]
     refine Ev.step (fun k => ?_) (ih (i + 1) S2 (by omega) (by omega))
     simp only [Ae.l1]
     rw [if_pos (by omega), if_pos (by omega), rdR l i hil, if_neg (by omega), wrap_succ (by omega)]
    | succ e ih2 =>
     intro j S2 hj hS2
     have hjl : j < l[i].length := by omega
     rw [List.drop_eq_getElem_cons hjl]
     have hn := rd_at l[i] j hjl
     refine Ev.step (f := fun k => if (decide ((1 : Int) ≤ l[i][j]) && decide (l[i][j] ≤ 99)) = true then ((Am.f k S2 l[i][j]).bind fun t => if t = true then some false else Ae.l1 k (S2 ++ [l[i][j]]) i ((j + 1 : Nat) : Int) m l) else some false) (fun k => ?_) ?_
     ·simp only [Ae.l1]
      rw [if_pos (by omega), if_pos (by omega), rdR l i hil, if_pos (by omega), if_pos (by omega), hn, l1In_eq2]
      simp only [Option.bind_some, if_pos (show S2.length < 17592186044416 by omega), wrap_succ (show j < 9223372036854775807 by omega)]
     ·generalize hnn : l[i][j] = n
      rw [hnn] at *
      cases c4 : (decide (1 ≤ n) && decide (n ≤ 99)) with
      | false =>
       rw [Fb m S2 n _ _ (.inl (fun z => by simp [z.1, z.2] at c4))]
       exact ev_eq (fun k => if_neg (by simp))
      | true =>
       have hn1 : 1 ≤ n ∧ n ≤ 99 := by simpa using c4
       simp only [if_true]
       refine Ev.bind (has_ev S2 n (by omega)) ?_
       cases c5 : decide (n ∈ S2) with
       | true =>
        rw [Fb m S2 n _ _ (.inr c5)]
        simp only [if_true]; exact Ev.now _
       | false =>
        rw [Gt m S2 n _ _ hn1.1 hn1.2 c5]
        simp only [Bool.false_eq_true, if_false]
        exact ih2 (j + 1) (S2 ++ [n]) (by omega) (by simp; omega)
   refine Ev.step (fun k => ?_) (inner l[i].length 0 S (by omega) (by omega))
   simp only [Ae.l0]
   rw [if_pos (by omega), if_pos (by omega), rdR l i hil, if_neg c]
   rfl
def yardOk (l : List (List Int)) : Bool := (decide ((1 : Int) ≤ (l.length : Int)) && decide ((l.length : Int) ≤ 6)) && Du 4 [] l
def bayOk (h : Int) (l : List (List Int)) : Bool := (decide ((1 : Int) ≤ h) && decide (h ≤ 4)) && (decide ((1 : Int) ≤ (l.length : Int)) && decide ((l.length : Int) ≤ 5)) && Du h [] l
theorem implYard_eq (l : List (List Int)) : Eg.f l = some (yardOk l) := rfl
theorem implBay_eq (h : Int) (l : List (List Int)) : Ee.f h l = some (bayOk h l) := rfl
theorem specYard_ev (l : List (List Int)) : Ev (fun k => Ak.f k l) (yardOk l) := by
 unfold Ak.f yardOk
 rw [l1In_eq2]
 simp only [Option.bind_some]
 cases c : (decide ((1 : Int) ≤ (l.length : Int)) && decide ((l.length : Int) ≤ 6)) with
 | false => simp only [Bool.false_eq_true, if_false, Bool.false_and]; exact Ev.now _
 | true =>
  have h6 : l.length ≤ 6 := by simp at c; omega
  simp only [if_true, Bool.true_and]
  exact spec_l5Good_loop l h6 l.length 0 [] (by omega) (by simp)
theorem specBay_ev (h : Int) (l : List (List Int)) : Ev (fun k => Ae.f k h l) (bayOk h l) := by
 unfold Ae.f bayOk
 simp only [l1In_eq2, Option.bind_some]
 cases c : (decide ((1 : Int) ≤ h) && decide (h ≤ 4)) with
 | false =>
  simp only [Bool.false_eq_true, if_false, Bool.false_and]
  exact Ev.step (f := fun _ => some _) (fun k => by simp only [Ae.j0]; rw [if_pos trivial]) (Ev.now _)
 | true =>
  have h4 : h ≤ 4 := by simp at c; omega
  simp only [if_true, Bool.true_and]
  cases c2 : (decide ((1 : Int) ≤ (l.length : Int)) && decide ((l.length : Int) ≤ 5)) with
  | false =>
   simp only [Bool.not_false, Bool.false_and]
   exact Ev.step (f := fun _ => some _) (fun k => by simp only [Ae.j0]; rw [if_pos trivial]) (Ev.now _)
  | true =>
   have h5 : l.length ≤ 5 := by simp at c2; omega
   simp only [Bool.not_true, Bool.true_and]
   refine Ev.step (f := fun k => Ae.l0 k [] ((0 : Nat) : Int) h l) (fun k => ?_) (by simpa using spec_l9Good_loop h l (by omega) h4 l.length 0 [] (by omega) (by simp))
   simp only [Ae.j0]
   rw [if_neg (by decide)]
   rfl
-- where a number stands
def idxFrom : Nat → List Int → Int → Int
 | _, [], _ => -1
 | k, x :: r, n => if x = n then (k : Int) else idxFrom (k + 1) r n
def findFrom : Nat → List (List Int) → Int → Int × Int
 | _, [], _ => (-1, -1)
 | i, s :: r, n => if idxFrom 0 s n ≥ 0 then ((i : Int), idxFrom 0 s n) else findFrom (i + 1) r n
theorem index_ev (s : List Int) (n : Int) (hs : s.length ≤ 1048576) : Ev (fun k => Aj.f k s n) (idxFrom 0 s n) := by
 have key : ∀ (d i : Nat), i + d = s.length → Ev (fun k => Aj.l0 k s n (s.length : Int) i) (idxFrom i (s.drop i) n) := by
  intro d
  induction d with
  | zero =>
   intro i hi
   rw [List.drop_of_length_le (by omega)]
   exact Ev.step (f := fun _ => some _) (fun k => by simp only [Aj.l0]; rw [if_neg (by omega)]; rfl) (Ev.now _)
  | succ d ih =>
   intro i hi
   have hil : i < s.length := by omega
   rw [List.drop_eq_getElem_cons hil]
   unfold idxFrom
   by_cases c : s[i] = n
   ·rw [if_pos c]
    exact Ev.step (f := fun _ => some _) (fun k => by simp only [Aj.l0]; rw [if_pos (by omega), if_pos (by omega), if_pos (by omega), rd_at s i hil, if_pos c.symm]) (Ev.now _)
   ·rw [if_neg c]
    refine Ev.step (fun k => ?_) (ih (i + 1) (by omega))
    simp only [Aj.l0]
    rw [if_pos (by omega), if_pos (by omega), if_pos (by omega), rd_at s i hil, if_neg (fun z => c z.symm), wrap_succ (by omega)]
 exact Ev.congr (f := fun k => Aj.l0 k s n (s.length : Int) ((0 : Nat) : Int)) (fun k => rfl) (by simpa using key s.length 0 (by omega))
def rowsOk (l : List (List Int)) : Prop := l.length ≤ 1048576 ∧ ∀ s ∈ l, s.length ≤ 1048576
theorem place_ev (l : List (List Int)) (n : Int) (hl : rowsOk l) : Ev (fun k => Bd.f k l n) (findFrom 0 l n) := by
 have key : ∀ (d i : Nat), i + d = l.length → Ev (fun k => Bd.l0 k n l (l.length : Int) i) (findFrom i (l.drop i) n) := by
  intro d
  induction d with
  | zero =>
   intro i hi
   rw [List.drop_of_length_le (by omega)]
   exact Ev.step (f := fun _ => some _) (fun k => by simp only [Bd.l0]; rw [if_neg (by omega)]; rfl) (Ev.now _)
  | succ d ih =>
   intro i hi
   have hil : i < l.length := by omega
   rw [List.drop_eq_getElem_cons hil]
   unfold findFrom
   refine Ev.step (f := fun k => (Aj.f k l[i] n).bind fun t => if t ≥ 0 then some ((i : Int), t) else Bd.l0 k n l (l.length : Int) ((i + 1 : Nat) : Int)) (fun k => ?_) (Ev.bind (index_ev _ n (hl.2 _ (List.getElem_mem hil))) ?_)
   ·have := hl.1
    simp only [Bd.l0]
    rw [if_pos (by omega), if_pos (by omega), if_pos (by omega), rdR l i hil, wrap_succ (by omega)]
   ·by_cases c : idxFrom 0 l[i] n ≥ 0
    ·simp only [if_pos c]; exact Ev.now _
    ·simp only [if_neg c]; exact ih (i + 1) (by omega)
 exact Ev.congr (f := fun k => Bd.l0 k n l (l.length : Int) ((0 : Nat) : Int)) (fun k => rfl) (by simpa using key l.length 0 (by omega))
theorem spec_l5Find_ev (l : List (List Int)) (n : Int) (hl : rowsOk l) : Ev (fun k => spec_l5Find.f k l n) (findFrom 0 l n) := by
 have key : ∀ (d i : Nat), i + d = l.length → Ev (fun k => spec_l5Find.l0 k n i l) (findFrom i (l.drop i) n) := by
  intro d
  induction d with
  | zero =>
   intro i hi
   rw [List.drop_of_length_le (by omega)]
   exact Ev.step (f := fun _ => some _) (fun k => by simp only [spec_l5Find.l0]; rw [if_neg (by omega)]; rfl) (Ev.now _)
  | succ d ih =>
   intro i hi
   have hil : i < l.length := by omega
   have hs := hl.2 _ (List.getElem_mem hil)
   have hl1 := hl.1
   rw [List.drop_eq_getElem_cons hil]
   unfold findFrom
   have inner : ∀ (e j : Nat), j + e = l[i].length → Ev (fun k => spec_l5Find.l1 k n i j l) (if idxFrom j (l[i].drop j) n ≥ 0 then ((i : Int), idxFrom j (l[i].drop j) n) else findFrom (i + 1) (l.drop (i + 1)) n) := by
    intro e
    induction e with
    | zero =>
     intro j hj
     rw [List.drop_of_length_le (by omega)]
     refine Ev.step (fun k => ?_) (ih (i + 1) (by omega))
     simp only [spec_l5Find.l1]
     rw [if_pos (by omega), if_pos (by omega), rdR l i hil, if_neg (by omega), wrap_succ (by omega)]
    | succ e ih2 =>
     intro j hj
     have hjl : j < l[i].length := by omega
     rw [List.drop_eq_getElem_cons hjl]
     unfold idxFrom
     by_cases c : l[i][j] = n
     ·simp only [if_pos c, if_pos (show (j : Int) ≥ 0 by omega)]
      refine Ev.step (f := fun _ => some _) (fun k => ?_) (Ev.now _)
      simp only [spec_l5Find.l1]
      rw [if_pos (by omega), if_pos (by omega), rdR l i hil, if_pos (by omega), if_pos (by omega), rd_at l[i] j hjl, if_pos c]
     ·simp only [if_neg c]
      refine Ev.step (fun k => ?_) (ih2 (j + 1) (by omega))
      simp only [spec_l5Find.l1]
      rw [if_pos (by omega), if_pos (by omega), rdR l i hil, if_pos (by omega), if_pos (by omega), rd_at l[i] j hjl, if_neg c, wrap_succ (by omega)]
   refine Ev.step (fun k => ?_) (inner l[i].length 0 (by omega))
   simp only [spec_l5Find.l0]
   rw [if_pos (by omega)]
   rfl
 exact Ev.congr (f := fun k => spec_l5Find.l0 k n ((0 : Nat) : Int) l) (fun k => rfl) (by simpa using key l.length 0 (by omega))
/-- None of a row's numbers stands in a yard. -/
def apart (Y : List (List Int)) (s : List Int) : Bool := s.all fun n => decide ((findFrom 0 Y n).1 < 0)
def termOk (Y : List (List Int)) (h : Int) (S : List (List Int)) : Bool := yardOk Y && bayOk h S && S.all (apart Y)
theorem spec_l24Good_loop (Y : List (List Int)) (h : Int) (S : List (List Int)) (hY : rowsOk Y) (hS : rowsOk S) : ∀ (d i : Nat), i + d = S.length → Ev (fun k => Ad.l0 k i Y h S) ((S.drop i).all (apart Y)) := by
 have hS1 := hS.1
 intro d
 induction d with
 | zero =>
  intro i hi
  rw [List.drop_of_length_le (by omega)]
  exact Ev.step (f := fun _ => some _) (fun k => by simp only [Ad.l0]; rw [if_neg (by omega)]; rfl) (Ev.now _)
 | succ d ih =>
  intro i hi
  have hil : i < S.length := by omega
  have hs := hS.2 _ (List.getElem_mem hil)
  rw [List.drop_eq_getElem_cons hil, List.all_cons]
  have inner : ∀ (e j : Nat), j + e = S[i].length → Ev (fun k => Ad.l1 k i j Y h S) (apart Y (S[i].drop j) && (S.drop (i + 1)).all (apart Y)) := by
   intro e
   induction e with
   | zero =>
    intro j hj
    rw [List.drop_of_length_le (by omega)]
    refine Ev.step (fun k => ?_) (by simpa [apart] using ih (i + 1) (by omega))
    simp only [Ad.l1]
    rw [if_pos (by omega), if_pos (by omega), rdR S i hil, if_neg (by omega), wrap_succ (by omega)]
    rfl
   | succ e ih2 =>
    intro j hj
    have hjl : j < S[i].length := by omega
    rw [List.drop_eq_getElem_cons hjl]
    refine Ev.step (f := fun k => (spec_l5Find.f k Y S[i][j]).bind fun t => if t.1 ≥ 0 then some false else Ad.l1 k i ((j + 1 : Nat) : Int) Y h S) (fun k => ?_) (Ev.bind (spec_l5Find_ev Y _ hY) ?_)
    ·simp only [Ad.l1]
     rw [if_pos (by omega), if_pos (by omega), rdR S i hil, if_pos (by omega), if_pos (by omega), rd_at S[i] j hjl, wrap_succ (by omega)]
    ·by_cases c : (findFrom 0 Y S[i][j]).1 ≥ 0
     ·have e1 : apart Y (S[i][j] :: S[i].drop (j + 1)) = false := by simp only [apart, List.all_cons, decide_eq_false (show ¬ (findFrom 0 Y S[i][j]).1 < 0 by omega), Bool.false_and]
      simp only [if_pos c, e1, Bool.false_and]; exact Ev.now _
     ·have e1 : apart Y (S[i][j] :: S[i].drop (j + 1)) = apart Y (S[i].drop (j + 1)) := by simp only [apart, List.all_cons, decide_eq_true (show (findFrom 0 Y S[i][j]).1 < 0 by omega), Bool.true_and]
      simp only [if_neg c, e1]; exact ih2 (j + 1) (by omega)
  refine Ev.step (fun k => ?_) (inner S[i].length 0 (by omega))
  simp only [Ad.l0]
  rw [if_pos (by omega)]
  rfl
theorem Gy (Y : List (List Int)) (h : Int) (S : List (List Int)) (hY : rowsOk Y) (hS : rowsOk S) : ∀ (d i : Nat), i + d = S.length → Ev (fun k => impl_IsValidTerminal.l0 k S (S.length : Int) i Y h S) ((S.drop i).all (apart Y)) := by
 have hS1 := hS.1
 intro d
 induction d with
 | zero =>
  intro i hi
  rw [List.drop_of_length_le (by omega)]
  exact Ev.step (f := fun _ => some _) (fun k => by simp only [impl_IsValidTerminal.l0]; rw [if_neg (by omega)]; rfl) (Ev.now _)
 | succ d ih =>
  intro i hi
  have hil : i < S.length := by omega
  have hs := hS.2 _ (List.getElem_mem hil)
  rw [List.drop_eq_getElem_cons hil, List.all_cons]
  have inner : ∀ (e j : Nat), j + e = S[i].length → Ev (fun k => impl_IsValidTerminal.l1 k S (S.length : Int) i S[i] (S[i].length : Int) j Y h S) (apart Y (S[i].drop j) && (S.drop (i + 1)).all (apart Y)) := by
   intro e
   induction e with
   | zero =>
    intro j hj
    rw [List.drop_of_length_le (by omega)]
    refine Ev.step (fun k => ?_) (by simpa [apart] using ih (i + 1) (by omega))
    simp only [impl_IsValidTerminal.l1]
    rw [if_neg (by omega), wrap_succ (by omega)]
    rfl
   | succ e ih2 =>
    intro j hj
    have hjl : j < S[i].length := by omega
    rw [List.drop_eq_getElem_cons hjl]
    refine Ev.step (f := fun k => (Bd.f k Y S[i][j]).bind fun t => if t.1 ≥ 0 then some false else impl_IsValidTerminal.l1 k S (S.length : Int) i S[i] (S[i].length : Int) ((j + 1 : Nat) : Int) Y h S) (fun k => ?_) (Ev.bind (place_ev Y _ hY) ?_)
    ·simp only [impl_IsValidTerminal.l1]
     rw [if_pos (by omega), if_pos (by omega), if_pos (by omega), rd_at S[i] j hjl, wrap_succ (by omega)]
    ·by_cases c : (findFrom 0 Y S[i][j]).1 ≥ 0
     ·have e1 : apart Y (S[i][j] :: S[i].drop (j + 1)) = false := by simp only [apart, List.all_cons, decide_eq_false (show ¬ (findFrom 0 Y S[i][j]).1 < 0 by omega), Bool.false_and]
      simp only [if_pos c, e1, Bool.false_and]; exact Ev.now _
     ·have e1 : apart Y (S[i][j] :: S[i].drop (j + 1)) = apart Y (S[i].drop (j + 1)) := by simp only [apart, List.all_cons, decide_eq_true (show (findFrom 0 Y S[i][j]).1 < 0 by omega), Bool.true_and]
      simp only [if_neg c, e1]; exact ih2 (j + 1) (by omega)
  refine Ev.step (fun k => ?_) (inner S[i].length 0 (by omega))
  simp only [impl_IsValidTerminal.l0]
  rw [if_pos (by omega), if_pos (by omega), if_pos (by omega), rdR S i hil]
  rfl
theorem specTerm_ev (Y : List (List Int)) (h : Int) (S : List (List Int)) (hY : rowsOk Y) (hS : rowsOk S) : Ev (fun k => Ad.f k Y h S) (termOk Y h S) := by
 have stop : Ev (fun k => Ad.j0 k true Y h S) false := Ev.step (f := fun _ => some _) (fun k => by simp only [Ad.j0]; rw [if_pos trivial]) (Ev.now _)
 unfold Ad.f termOk
 refine Ev.bind (specYard_ev Y) ?_
 cases c : yardOk Y with
 | false => simp only [Bool.false_eq_true, if_false, Bool.false_and]; exact stop
 | true =>
  simp only [if_true, Bool.true_and]
  refine Ev.bind (specBay_ev h S) ?_
  cases c2 : bayOk h S with
  | false => simp only [Bool.not_false, Bool.false_and]; exact stop
  | true =>
   simp only [Bool.not_true, Bool.true_and]
   refine Ev.step (fun k => ?_) (by simpa using spec_l24Good_loop Y h S hY hS S.length 0 (by omega))
   simp only [Ad.j0]
   rw [if_neg (by decide)]
theorem implTerm_ev (Y : List (List Int)) (h : Int) (S : List (List Int)) (hY : rowsOk Y) (hS : rowsOk S) : Ev (fun k => impl_IsValidTerminal.f k Y h S) (termOk Y h S) := by
 have stop : Ev (fun k => impl_IsValidTerminal.j0 k true Y h S) false := Ev.step (f := fun _ => some _) (fun k => by simp only [impl_IsValidTerminal.j0]; rw [if_pos trivial]) (Ev.now _)
 unfold impl_IsValidTerminal.f termOk
 rw [implYard_eq]
 simp only [Option.bind_some]
 cases c : yardOk Y with
 | false => simp only [Bool.false_eq_true, if_false, Bool.false_and]; exact stop
 | true =>
  simp only [if_true, Bool.true_and]
  rw [implBay_eq]
  simp only [Option.bind_some]
  cases c2 : bayOk h S with
  | false => simp only [Bool.not_false, Bool.false_and]; exact stop
  | true =>
   simp only [Bool.not_true, Bool.true_and]
   refine Ev.step (fun k => ?_) (by simpa using Gy Y h S hY hS S.length 0 (by omega))
   simp only [impl_IsValidTerminal.j0]
   rw [if_neg (by decide)]
theorem szTerm_le (Y : List (List Int)) (h : Int) (S : List (List Int)) (hY : Y.length ≤ 4611686018427387904) (hYr : ∀ s ∈ Y, s.length ≤ 4611686018427387904) (hS : S.length ≤ 4611686018427387904) (hSr : ∀ s ∈ S, s.length ≤ 4611686018427387904) :
  ∃ r, Ev (fun k => Dn.f k Y h S 1048576) r ∧ (¬ r < 0 → r ≤ 1048576 ∧ rowsOk Y ∧ rowsOk S) := by
 unfold Dn.f D5.f Ed.f
 obtain ⟨r, hr, hq⟩ := szIntSS_ev Y 1048576 (by omega) (by omega) hY hYr
 by_cases c : r < 0
 ·refine ⟨-1, Ev.bind (Ev.bind hr (r := -1) ?_) ?_, fun z => absurd (by decide) z⟩
  ·simp only [if_pos c]; exact Ev.now _
  ·simp only [if_pos (show (-1 : Int) < 0 by decide)]; exact Ev.now _
 ·rcases hq with q | ⟨q1, q2, q3, q4⟩
  ·exact absurd q c
  obtain ⟨r2, hr2, hq2⟩ := szIntSS_ev S r q1 q2 hS hSr
  have hYo : rowsOk Y := ⟨by omega, fun s hs => by have := q4 s hs; omega⟩
  by_cases c2 : r2 < 0
  ·refine ⟨-1, Ev.bind (Ev.bind hr (r := r) ?_) ?_, fun z => absurd (by decide) z⟩
   ·simp only [if_neg c]; exact Ev.now _
   ·simp only [if_neg c]
    refine Ev.bind (Ev.bind hr2 (r := -1) ?_) ?_
    ·simp only [if_pos c2]; exact Ev.now _
    ·simp only [if_pos (show (-1 : Int) < 0 by decide)]; exact Ev.now _
  ·rcases hq2 with p | ⟨p1, p2, p3, p4⟩
   ·exact absurd p c2
   refine ⟨r2, Ev.bind (Ev.bind hr (r := r) ?_) ?_, fun _ => ⟨by omega, hYo, by omega, fun s hs => by have := p4 s hs; omega⟩⟩
   ·simp only [if_neg c]; exact Ev.now _
   ·simp only [if_neg c]
    refine Ev.bind (Ev.bind hr2 (r := r2) ?_) ?_
    ·simp only [if_neg c2]; exact Ev.now _
    ·simp only [if_neg c2]; exact Ev.now _
theorem toTerm_ev (Y : List (List Int)) (h : Int) (S : List (List Int)) (hY : rowsOk Y) (hS : rowsOk S) : Ev (fun k => Ci.f k Y h S) (Y, h, S) := by
 unfold Ci.f Eh.f Ej.f
 exact Ev.bind (Ev.bind (toIntSS_ev Y hY.1 hY.2) (Ev.now _)) (Ev.bind (Ev.bind (toIntSS_ev S hS.1 hS.2) (Ev.now _)) (Ev.now _))
theorem eqTerm_ev (Y : List (List Int)) (h : Int) (S : List (List Int)) (hY : rowsOk Y) (hS : rowsOk S) : Ev (fun k => Cm.f k Y h S Y h S) true := by
 unfold Cm.f Dz.f D7.f
 refine Ev.bind (Ev.bind (eqIntSS_ev Y hY.1 hY.2) (r := true) (by simp only [if_true]; exact Ev.now _)) ?_
 simp only [if_true]
 refine Ev.bind (Ev.bind (eqIntSS_ev S hS.1 hS.2) (r := true) (by simp only [if_true]; exact Ev.now _)) ?_
 simp only [if_true]
 exact Ev.now _
end Go.Proofs.Ytnggfglmjdiaaaa.X

namespace Go.Proofs.Ytnggfglmjdiaaaa.X
open Go.RowKit Go.Proofs.YtnggfglmjdiaaaaW.PrintWords Go.Proofs.YtnggfglmjdiaaaaL
def cntF : Nat → Nat → List Int
 | _, 0 => []
 | a, n + 1 => (a : Int) :: cntF (a + 1) n
theorem rd_mid (p : List Int) (x : Int) (r : List Int) : rd (p ++ x :: r) (p.length : Int) = x := by simp [rd]
theorem set_mid {α : Type} (p : List α) (x y : α) (r : List α) : (p ++ x :: r).set p.length y = (p ++ [y]) ++ r := by
 rw [List.set_append_right _ _ (Nat.le_refl _), Nat.sub_self, List.set_cons_zero, List.append_assoc]; rfl
theorem rdL_mid (p : List (List Int)) (x : List Int) (r : List (List Int)) : rd_L1 (p ++ x :: r) (p.length : Int) = x := by simp [rd_L1]
theorem markIntS_loop : ∀ (r p : List Int) (a : Nat), a + r.length ≤ 4611686018427387904 → p.length + r.length ≤ 4611686018427387904 →
  Ev (fun k => Bq.l0 k (p ++ r) (a : Int) (p.length : Int)) (((a + r.length : Nat) : Int), p ++ cntF a r.length)
 | [], p, a, _, _ => Ev.step (f := fun _ => some _) (fun k => by simp only [Bq.l0]; rw [if_neg (by simp)]; simp [cntF]) (Ev.now _)
 | x :: r, p, a, h, h2 => by
  rw [List.length_cons] at h h2
  have ih := markIntS_loop r (p ++ [(a : Int)]) (a + 1) (by omega) (by rw [List.length_append]; simp; omega)
  rw [List.length_cons, cntF, show a + (r.length + 1) = a + 1 + r.length by omega, show p ++ (a : Int) :: cntF (a + 1) r.length = p ++ [(a : Int)] ++ cntF (a + 1) r.length by simp]
  refine Ev.step (fun k => ?_) ih
  simp only [Bq.l0]
  rw [if_pos (by simp; omega), if_pos (by omega), Int.toNat_natCast, set_mid, wrap_id (x := (a : Int) + 1) (by omega) (by omega), wrap_succ (by omega), List.length_append]
  rfl
theorem markIntS_at (l : List Int) (a : Nat) (h : a + l.length ≤ 4611686018427387904) : Ev (fun k => Bq.f k l (a : Int)) (((a + l.length : Nat) : Int), cntF a l.length) :=
 Ev.congr (fun k => rfl) (markIntS_loop l [] a h (by simp; omega))
theorem heldIntS_loop : ∀ (n : Nat) (p : List Int) (a : Nat), a + n ≤ 4611686018427387904 → p.length + n ≤ 4611686018427387904 →
  Ev (fun k => Bl.l0 k (p ++ cntF a n) (a : Int) (p.length : Int)) ((a + n : Nat) : Int)
 | 0, p, a, _, _ => Ev.step (f := fun _ => some _) (fun k => by simp only [Bl.l0]; rw [if_neg (by simp [cntF])]; simp) (Ev.now _)
 | n + 1, p, a, h, h2 => by
  have ih := heldIntS_loop n (p ++ [(a : Int)]) (a + 1) (by omega) (by rw [List.length_append]; simp; omega)
  rw [show a + (n + 1) = a + 1 + n by omega]
  refine Ev.step (fun k => ?_) ih
  have e : p ++ cntF a (n + 1) = p ++ (a : Int) :: cntF (a + 1) n := rfl
  simp only [Bl.l0]
  rw [e, if_pos (by simp; omega), if_pos (by omega), rd_mid, if_pos rfl, wrap_id (x := (a : Int) + 1) (by omega) (by omega), wrap_succ (by omega), List.length_append, List.append_assoc]
  rfl
theorem heldIntS_at (n a : Nat) (h : a + n ≤ 4611686018427387904) : Ev (fun k => Bl.f k (cntF a n) (a : Int)) ((a + n : Nat) : Int) :=
 Ev.congr (fun k => rfl) (heldIntS_loop n [] a h (by simp; omega))
def total : List (List Int) → Nat
 | [] => 0
 | r :: l => r.length + total l
def Dt : List (List Int) → Nat → List (List Int)
 | [], _ => []
 | r :: l, a => cntF a r.length :: Dt l (a + r.length)
theorem markIntSS_loop : ∀ (r p : List (List Int)) (a : Nat), a + total r ≤ 4611686018427387904 → p.length + r.length ≤ 4611686018427387904 →
  Ev (fun k => Bf.l0 k (p ++ r) (a : Int) (p.length : Int)) (((a + total r : Nat) : Int), p ++ Dt r a)
 | [], p, a, _, _ => Ev.step (f := fun _ => some _) (fun k => by simp only [Bf.l0]; rw [if_neg (by simp)]; simp [total, Dt]) (Ev.now _)
 | x :: r, p, a, h, h2 => by
  rw [List.length_cons] at h2
  rw [total] at h
  have ih := markIntSS_loop r (p ++ [cntF a x.length]) (a + x.length) (by omega) (by rw [List.length_append]; simp; omega)
  rw [total, Dt, show a + (x.length + total r) = a + x.length + total r by omega, show p ++ cntF a x.length :: Dt r (a + x.length) = p ++ [cntF a x.length] ++ Dt r (a + x.length) by simp]
  refine Ev.step (f := fun k => (Bq.f k x (a : Int)).bind fun t => Bf.l0 k ((p ++ x :: r).set p.length t.2) t.1 ((p.length + 1 : Nat) : Int)) (fun k => ?_) (Ev.bind (markIntS_at x a (by omega)) ?_)
  ·simp only [Bf.l0]
   rw [if_pos (by simp; omega), if_pos (by omega), rdL_mid, Int.toNat_natCast, wrap_succ (by omega)]
  ·simp only [set_mid]
   rw [List.length_append] at ih
   exact ih
theorem markIntSS_at (l : List (List Int)) (a : Nat) (h : a + total l ≤ 4611686018427387904) (h2 : l.length ≤ 4611686018427387904) : Ev (fun k => Bf.f k l (a : Int)) (((a + total l : Nat) : Int), Dt l a) :=
 Ev.congr (fun k => rfl) (markIntSS_loop l [] a h (by simp; omega))
theorem heldIntSS_loop : ∀ (r p : List (List Int)) (a : Nat), a + total r ≤ 4611686018427387904 → p.length + r.length ≤ 4611686018427387904 →
  Ev (fun k => Au.l0 k (p ++ Dt r a) (a : Int) (p.length : Int)) ((a + total r : Nat) : Int)
 | [], p, a, _, _ => Ev.step (f := fun _ => some _) (fun k => by simp only [Au.l0]; rw [if_neg (by simp [Dt])]; simp [total]) (Ev.now _)
 | x :: r, p, a, h, h2 => by
  rw [List.length_cons] at h2
  rw [total] at h
  have ih := heldIntSS_loop r (p ++ [cntF a x.length]) (a + x.length) (by omega) (by rw [List.length_append]; simp; omega)
  rw [total, show a + (x.length + total r) = a + x.length + total r by omega]
  have e : p ++ Dt (x :: r) a = p ++ cntF a x.length :: Dt r (a + x.length) := rfl
  refine Ev.step (f := fun k => (Bl.f k (cntF a x.length) (a : Int)).bind fun t => if t < 0 then some (-1) else Au.l0 k (p ++ cntF a x.length :: Dt r (a + x.length)) t ((p.length + 1 : Nat) : Int)) (fun k => ?_) (Ev.bind (heldIntS_at x.length a (by omega)) ?_)
  ·simp only [Au.l0]
   rw [e, if_pos (by simp; omega), if_pos (by omega), rdL_mid, wrap_succ (by omega)]
  ·rw [List.length_append, List.append_assoc] at ih
   exact Ev.congr (fun k => if_neg (by omega)) ih
theorem heldIntSS_at (l : List (List Int)) (a : Nat) (h : a + total l ≤ 4611686018427387904) (h2 : l.length ≤ 4611686018427387904) : Ev (fun k => Au.f k (Dt l a) (a : Int)) ((a + total l : Nat) : Int) :=
 Ev.congr (fun k => rfl) (heldIntSS_loop l [] a h (by simp; omega))
theorem clone_eq (s : List Int) (h : s.length ≤ 1048576) : Dv.f s = some s := if_pos (by omega)
theorem l1Own_eq (s : List Int) (h : s.length ≤ 1048576) : Dh.f s = some s := by
 unfold Dh.f
 simp only [Option.bind_some, List.length_nil, List.nil_append]
 exact if_pos (by omega)
theorem implOwnYard_ev (l : List (List Int)) (hl : rowsOk l) : Ev (fun k => Ba.f k l) l := by
 have key : ∀ (d i : Nat), i + d = l.length → Ev (fun k => Ba.l0 k l (l.length : Int) i (l.take i)) l := by
  intro d
  induction d with
  | zero =>
   intro i hi
   refine Ev.step (f := fun _ => some l) (fun k => ?_) (Ev.now _)
   simp only [Ba.l0]; rw [if_neg (by omega), List.take_of_length_le (by omega)]
  | succ d ih =>
   intro i hi
   have hil : i < l.length := by omega
   have hl1 := hl.1
   refine Ev.step (fun k => ?_) (ih (i + 1) (by omega))
   simp only [Ba.l0]
   rw [if_pos (by omega), if_pos (by omega), if_pos (by omega), rdR l i hil, clone_eq _ (hl.2 _ (List.getElem_mem hil)), wrap_succ (by omega), List.take_succ_eq_append_getElem hil]
   simp only [Option.bind_some]
   rw [if_pos (by rw [List.length_take]; omega)]
 exact Ev.congr (fun k => rfl) (key l.length 0 (by omega))
theorem implOwnBay_ev (h : Int) (l : List (List Int)) (hl : rowsOk l) : Ev (fun k => Bg.f k h l) (h, l) := by
 have key : ∀ (d i : Nat), i + d = l.length → Ev (fun k => Bg.l0 k l (l.length : Int) i h (l.take i)) (h, l) := by
  intro d
  induction d with
  | zero =>
   intro i hi
   refine Ev.step (f := fun _ => some (h, l)) (fun k => ?_) (Ev.now _)
   simp only [Bg.l0]; rw [if_neg (by omega), List.take_of_length_le (by omega)]
  | succ d ih =>
   intro i hi
   have hil : i < l.length := by omega
   have hl1 := hl.1
   refine Ev.step (fun k => ?_) (ih (i + 1) (by omega))
   simp only [Bg.l0]
   rw [if_pos (by omega), if_pos (by omega), if_pos (by omega), rdR l i hil, clone_eq _ (hl.2 _ (List.getElem_mem hil)), wrap_succ (by omega), List.take_succ_eq_append_getElem hil]
   simp only [Option.bind_some]
   rw [if_pos (by rw [List.length_take]; omega)]
 exact Ev.congr (fun k => rfl) (key l.length 0 (by omega))
theorem specOwnYard_ev (l : List (List Int)) (hl : rowsOk l) : Ev (fun k => spec_l5Own.f k l) l := by
 have key : ∀ (d i : Nat), i + d = l.length → Ev (fun k => spec_l5Own.l0 k i l (l.take i)) l := by
  intro d
  induction d with
  | zero =>
   intro i hi
   refine Ev.step (f := fun _ => some l) (fun k => ?_) (Ev.now _)
   simp only [spec_l5Own.l0]; rw [if_neg (by omega), List.take_of_length_le (by omega)]
  | succ d ih =>
   intro i hi
   have hil : i < l.length := by omega
   have hl1 := hl.1
   refine Ev.step (fun k => ?_) (ih (i + 1) (by omega))
   simp only [spec_l5Own.l0]
   rw [if_pos (by omega), if_pos (by omega), rdR l i hil, l1Own_eq _ (hl.2 _ (List.getElem_mem hil)), wrap_succ (by omega), List.take_succ_eq_append_getElem hil]
   simp only [Option.bind_some]
   rw [if_pos (by rw [List.length_take]; omega)]
 exact Ev.congr (fun k => rfl) (key l.length 0 (by omega))
theorem specOwnBay_ev (h : Int) (l : List (List Int)) (hl : rowsOk l) : Ev (fun k => spec_l9Own.f k h l) (h, l) := by
 have key : ∀ (d i : Nat), i + d = l.length → Ev (fun k => spec_l9Own.l0 k i h l h (l.take i)) (h, l) := by
  intro d
  induction d with
  | zero =>
   intro i hi
   refine Ev.step (f := fun _ => some (h, l)) (fun k => ?_) (Ev.now _)
   simp only [spec_l9Own.l0]; rw [if_neg (by omega), List.take_of_length_le (by omega)]
  | succ d ih =>
   intro i hi
   have hil : i < l.length := by omega
   have hl1 := hl.1
   refine Ev.step (fun k => ?_) (ih (i + 1) (by omega))
   simp only [spec_l9Own.l0]
   rw [if_pos (by omega), if_pos (by omega), rdR l i hil, l1Own_eq _ (hl.2 _ (List.getElem_mem hil)), wrap_succ (by omega), List.take_succ_eq_append_getElem hil]
   simp only [Option.bind_some]
   rw [if_pos (by rw [List.length_take]; omega)]
 exact Ev.congr (fun k => rfl) (key l.length 0 (by omega))
theorem implOwnTerm_ev (Y : List (List Int)) (h : Int) (S : List (List Int)) (hY : rowsOk Y) (hS : rowsOk S) : Ev (fun k => impl_ownTerminal.f k Y h S) (Y, h, S) :=
 Ev.bind (implOwnYard_ev Y hY) (Ev.bind (implOwnBay_ev h S hS) (Ev.now _))
theorem specOwnTerm_ev (Y : List (List Int)) (h : Int) (S : List (List Int)) (hY : rowsOk Y) (hS : rowsOk S) : Ev (fun k => spec_l24Own.f k Y h S) (Y, h, S) :=
 Ev.bind (specOwnYard_ev Y hY) (Ev.bind (specOwnBay_ev h S hS) (Ev.now _))
def termN (Y S : List (List Int)) : Nat := total Y + total S
theorem markTerm_at (Y : List (List Int)) (h : Int) (S : List (List Int)) (a : Nat) (ht : a + termN Y S ≤ 4611686018427387904) (hY : Y.length ≤ 4611686018427387904) (hS : S.length ≤ 4611686018427387904) :
  Ev (fun k => Dk.f k Y h S (a : Int)) (((a + termN Y S : Nat) : Int), Dt Y a, Dt S (a + total Y)) := by
 unfold termN at *
 rw [show a + (total Y + total S) = a + total Y + total S by omega]
 refine Ev.bind (markIntSS_at Y a (by omega) hY) ?_
 refine Ev.bind (markIntSS_at S (a + total Y) (by omega) hS) ?_
 exact Ev.now _
theorem heldTerm_at (Y : List (List Int)) (h : Int) (S : List (List Int)) (a : Nat) (ht : a + termN Y S ≤ 4611686018427387904) (hY : Y.length ≤ 4611686018427387904) (hS : S.length ≤ 4611686018427387904) :
  Ev (fun k => Dj.f k (Dt Y a) h (Dt S (a + total Y)) (a : Int)) ((a + termN Y S : Nat) : Int) := by
 unfold termN at *
 have hy : Ev (fun k => Dp.f k (Dt Y a) (a : Int)) ((a + total Y : Nat) : Int) := by
  refine Ev.bind (heldIntSS_at Y a (by omega) hY) ?_
  exact ev_eq (fun k => if_neg (by omega))
 have hb : Ev (fun k => Dq.f k h (Dt S (a + total Y)) ((a + total Y : Nat) : Int)) ((a + total Y + total S : Nat) : Int) := by
  refine Ev.bind (heldIntSS_at S (a + total Y) (by omega) hS) ?_
  exact ev_eq (fun k => if_neg (by omega))
 rw [show a + (total Y + total S) = a + total Y + total S by omega]
 refine Ev.bind hy (Ev.congr (f := fun k => (Dq.f k h (Dt S (a + total Y)) ((a + total Y : Nat) : Int)).bind fun t => if t < 0 then some (-1) else some t) (fun k => if_neg (by omega)) (Ev.bind hb ?_))
 exact ev_eq (fun k => if_neg (by omega))
theorem Gw (m : Int) : ∀ (l : List (List Int)) (S : List Int), Du m S l = true → ∀ s ∈ l, (s.length : Int) ≤ m
 | [], _, _ => by simp
 | s :: r, S, h => by
  unfold Du at h
  by_cases c : (s.length : Int) > m
  ·rw [if_pos c] at h; cases h
  ·rw [if_neg c] at h
   cases g : F9 S s with
   | none => rw [g] at h; cases h
   | some S2 =>
    rw [g] at h
    intro x hx
    rcases List.mem_cons.1 hx with rfl | hx
    ·omega
    ·exact Gw m r S2 h x hx
theorem total_le (m : Nat) : ∀ (l : List (List Int)), (∀ s ∈ l, s.length ≤ m) → total l ≤ m * l.length
 | [], _ => by simp [total]
 | r :: l, h => by
  have := total_le m l (fun s hs => h s (by simp [hs])); have h1 := h r (by simp)
  rw [total, List.length_cons, Nat.mul_succ]; omega
theorem term_small (Y : List (List Int)) (h : Int) (S : List (List Int)) (ht : termOk Y h S = true) : Y.length ≤ 6 ∧ S.length ≤ 5 ∧ h ≤ 4 ∧ (∀ s ∈ Y, s.length ≤ 4) ∧ (∀ s ∈ S, s.length ≤ 4) ∧ termN Y S ≤ 44 := by
 unfold termOk yardOk bayOk at ht
 simp only [Bool.and_eq_true, decide_eq_true_eq] at ht
 obtain ⟨⟨⟨⟨a1, a2⟩, a3⟩, ⟨⟨⟨b0, b1⟩, b2, b3⟩, b4⟩⟩, _⟩ := ht
 have h1 : ∀ s ∈ Y, s.length ≤ 4 := fun s hs => by have := Gw 4 Y [] a3 s hs; omega
 have h2 : ∀ s ∈ S, s.length ≤ 4 := fun s hs => by have := Gw h S [] b4 s hs; omega
 have t1 := total_le 4 Y h1
 have t2 := total_le 4 S h2
 exact ⟨by omega, by omega, by omega, h1, h2, by unfold termN; omega⟩
theorem goodRow_iff : ∀ (s S S2 : List Int), S.Nodup → (F9 S s = some S2 ↔ (S2 = S ++ s ∧ (∀ n ∈ s, 1 ≤ n ∧ n ≤ 99) ∧ (S ++ s).Nodup))
 | [], S, S2, hS => by simp [F9, hS]; exact ⟨fun h => h.symm, fun h => h.symm⟩
 | n :: r, S, S2, hS => by
  unfold F9
  by_cases c : 1 ≤ n ∧ n ≤ 99 ∧ ¬ n ∈ S
  ·have hS' : (S ++ [n]).Nodup := by rw [List.nodup_append]; exact ⟨hS, by simp, fun a ha b hb e => c.2.2 (by simp at hb; rw [← hb, ← e]; exact ha)⟩
   rw [if_pos c, goodRow_iff r (S ++ [n]) S2 hS']
   simp only [List.append_assoc, List.singleton_append, List.mem_cons, forall_eq_or_imp]
   exact ⟨fun h => ⟨h.1, ⟨⟨c.1, c.2.1⟩, h.2.1⟩, h.2.2⟩, fun h => ⟨h.1, h.2.1.2, h.2.2⟩⟩
  ·rw [if_neg c]
   refine ⟨fun h => (by cases h), fun h => (c ⟨(h.2.1 n (by simp)).1, (h.2.1 n (by simp)).2, fun hn => ?_⟩).elim⟩
   have := h.2.2
   rw [List.nodup_append] at this
   exact this.2.2 n hn n (by simp) rfl
theorem goodRows_iff (m : Int) : ∀ (l : List (List Int)) (S : List Int), S.Nodup → (Du m S l = true ↔ ((∀ s ∈ l, (s.length : Int) ≤ m) ∧ (∀ s ∈ l, ∀ n ∈ s, 1 ≤ n ∧ n ≤ 99) ∧ (S ++ l.flatten).Nodup))
 | [], S, hS => by simp [Du, hS]
 | s :: r, S, hS => by
  unfold Du
  by_cases c : (s.length : Int) > m
  ·rw [if_pos c]; exact ⟨fun h => (by cases h), fun h => absurd (h.1 s (by simp)) (by omega)⟩
  ·rw [if_neg c]
   cases g : F9 S s with
   | none =>
    refine ⟨fun h => (by cases h), fun h => ?_⟩
    have hn : (S ++ s).Nodup := by
     have := h.2.2; rw [List.flatten_cons, ← List.append_assoc, List.nodup_append] at this; exact this.1
    have := (goodRow_iff s S (S ++ s) hS).2 ⟨rfl, h.2.1 s (by simp), hn⟩
    rw [g] at this; cases this
   | some S2 =>
    obtain ⟨rfl, h1, h2⟩ := (goodRow_iff s S S2 hS).1 g
    simp only
    rw [goodRows_iff m r (S ++ s) h2]
    simp only [List.flatten_cons, List.mem_cons, forall_eq_or_imp, List.append_assoc]
    exact ⟨fun h => ⟨⟨by omega, h.1⟩, ⟨h1, h.2.1⟩, h.2.2⟩, fun h => ⟨h.1.2, h.2.1.2, h.2.2⟩⟩
theorem idxFrom_hit : ∀ (l : List Int) (k : Nat) (n : Int), 0 ≤ idxFrom k l n → ∃ j : Nat, idxFrom k l n = ((k + j : Nat) : Int) ∧ l[j]? = some n
 | [], k, n, h => by simp [idxFrom] at h
 | x :: r, k, n, h => by
  unfold idxFrom at h ⊢
  by_cases c : x = n
  ·rw [if_pos c]; exact ⟨0, rfl, by simp [c]⟩
  ·rw [if_neg c] at h ⊢
   obtain ⟨j, hj, hx⟩ := idxFrom_hit r (k + 1) n h
   exact ⟨j + 1, by rw [hj]; congr 1; omega, by simpa using hx⟩
theorem idxFrom_in : ∀ (l : List Int) (k : Nat) (n : Int), n ∈ l → 0 ≤ idxFrom k l n
 | [], k, n, h => by simp at h
 | x :: r, k, n, h => by
  unfold idxFrom
  by_cases c : x = n
  ·rw [if_pos c]; omega
  ·rw [if_neg c]
   rcases List.mem_cons.1 h with e | h
   ·exact absurd e.symm c
   ·exact idxFrom_in r (k + 1) n h
theorem find_hit : ∀ (l : List (List Int)) (k : Nat) (n : Int), 0 ≤ (findFrom k l n).1 → ∃ (i j : Nat) (s : List Int), findFrom k l n = (((k + i : Nat) : Int), (j : Int)) ∧ l[i]? = some s ∧ s[j]? = some n
 | [], k, n, h => by simp [findFrom] at h
 | x :: r, k, n, h => by
  unfold findFrom at h ⊢
  by_cases c : idxFrom 0 x n ≥ 0
  ·rw [if_pos c]
   obtain ⟨j, hj, hx⟩ := idxFrom_hit x 0 n c
   exact ⟨0, j, x, by rw [hj]; simp, rfl, hx⟩
  ·rw [if_neg c] at h ⊢
   obtain ⟨i, j, s, hj, hs, hx⟩ := find_hit r (k + 1) n h
   exact ⟨i + 1, j, s, by rw [hj]; congr 2; omega, by simpa using hs, hx⟩
theorem find_in : ∀ (l : List (List Int)) (k : Nat) (n : Int), n ∈ l.flatten → 0 ≤ (findFrom k l n).1
 | [], k, n, h => by simp at h
 | x :: r, k, n, h => by
  unfold findFrom
  by_cases c : idxFrom 0 x n ≥ 0
  ·rw [if_pos c]; omega
  ·rw [if_neg c]
   rw [List.flatten_cons, List.mem_append] at h
   rcases h with h | h
   ·exact absurd (idxFrom_in x 0 n h) c
   ·exact find_in r (k + 1) n h
theorem place_one {l : List (List Int)} (hn : l.flatten.Nodup) {i j i' j' : Nat} {s s' : List Int} {n : Int} (h1 : l[i]? = some s) (h2 : s[j]? = some n) (h1' : l[i']? = some s') (h2' : s'[j']? = some n) : i = i' ∧ j = j' ∧ s = s' := by
 have hp := List.pairwise_flatten.1 hn
 have hi : i = i' := by
  obtain ⟨a, ea⟩ := List.getElem?_eq_some_iff.1 h1
  obtain ⟨b, eb⟩ := List.getElem?_eq_some_iff.1 h1'
  have hq := List.pairwise_iff_getElem.1 hp.2
  rcases Nat.lt_trichotomy i i' with c | c | c
  ·exact absurd rfl (hq i i' a b c n (by rw [ea]; exact List.mem_of_getElem? h2) n (by rw [eb]; exact List.mem_of_getElem? h2'))
  ·exact c
  ·exact absurd rfl (hq i' i b a c n (by rw [eb]; exact List.mem_of_getElem? h2') n (by rw [ea]; exact List.mem_of_getElem? h2))
 subst hi
 obtain rfl : s = s' := Option.some.inj (h1.symm.trans h1')
 obtain ⟨a, ea⟩ := List.getElem?_eq_some_iff.1 h2
 obtain ⟨b, eb⟩ := List.getElem?_eq_some_iff.1 h2'
 have hs := List.pairwise_iff_getElem.1 (hp.1 s (List.mem_of_getElem? h1))
 refine ⟨rfl, ?_, rfl⟩
 rcases Nat.lt_trichotomy j j' with c | c | c
 ·exact absurd (ea.trans eb.symm) (hs j j' a b c)
 ·exact c
 ·exact absurd (eb.trans ea.symm) (hs j' j b a c)
theorem topIs_iff (b : Int) (s : List Int) : topIs b s = true ↔ (0 < s.length ∧ s[s.length - 1]? = some b) := by
 unfold topIs rd
 by_cases c : 0 < s.length
 ·have e : ((s.length : Int) - 1).toNat = s.length - 1 := by omega
  rw [e]
  simp [c, List.getD_eq_getElem?_getD, List.getElem?_eq_getElem (show s.length - 1 < s.length by omega)]
 ·simp [c]
theorem find_top {l : List (List Int)} (hn : l.flatten.Nodup) {i : Nat} {s : List Int} {b : Int} (hi : l[i]? = some s) (ht : topIs b s = true) : findFrom 0 l b = ((i : Int), (s.length : Int) - 1) ∧ idxRow (topIs b) l = (i : Int) := by
 obtain ⟨h0, hl⟩ := (topIs_iff b s).1 ht
 constructor
 ·obtain ⟨i', j', s', he, h1, h2⟩ := find_hit l 0 b (find_in l 0 b (List.mem_flatten.2 ⟨s, List.mem_of_getElem? hi, List.mem_of_getElem? hl⟩))
  obtain ⟨rfl, rfl, rfl⟩ := place_one hn hi hl h1 h2
  rw [he]
  congr 1
  ·simp
  ·omega
 ·obtain ⟨hil, he⟩ := List.getElem?_eq_some_iff.1 hi
  have e : l.findIdx? (topIs b) = some i := by
   rw [List.findIdx?_eq_some_iff_getElem]
   refine ⟨hil, by rw [he]; exact ht, fun j hj => ?_⟩
   cases c : topIs b l[j] with
   | false => simp
   | true =>
    have c2 := (topIs_iff b _).1 c
    have := place_one hn hi hl (List.getElem?_eq_getElem (by omega)) c2.2
    omega
  simp [idxRow, e]
theorem idxRow_at (b : Int) (l : List (List Int)) (h : ¬ idxRow (topIs b) l < 0) : ∃ (i : Nat) (s : List Int), idxRow (topIs b) l = (i : Int) ∧ l[i]? = some s ∧ topIs b s = true := by
 unfold idxRow at h ⊢
 cases e : l.findIdx? (topIs b) with
 | none => rw [e] at h; exact absurd (by decide) h
 | some n =>
  rw [List.findIdx?_eq_some_iff_getElem] at e
  obtain ⟨hn, hp, _⟩ := e
  exact ⟨n, l[n], rfl, List.getElem?_eq_getElem hn, hp⟩
theorem find_low {l : List (List Int)} {b : Int} (hx : idxRow (topIs b) l < 0) (h : 0 ≤ (findFrom 0 l b).1) : (findFrom 0 l b).2 ≠ ((rd_L1 l (findFrom 0 l b).1).length : Int) - 1 := by
 obtain ⟨i, j, s, he, h1, h2⟩ := find_hit l 0 b h
 rw [he]
 simp only [Nat.zero_add]
 intro hc
 have er : rd_L1 l (i : Int) = s := by simp [rd_L1, List.getD_eq_getElem?_getD, h1]
 rw [er] at hc
 obtain ⟨a, ea⟩ := List.getElem?_eq_some_iff.1 h2
 have ht : topIs b s = true := (topIs_iff b s).2 ⟨by omega, by rw [show s.length - 1 = j by omega]; exact h2⟩
 unfold idxRow at hx
 cases e : l.findIdx? (topIs b) with
 | some n => rw [e] at hx; simp at hx; omega
 | none =>
  rw [List.findIdx?_eq_none_iff] at e
  rw [e s (List.mem_of_getElem? h1)] at ht; cases ht
theorem rdL_some {l : List (List Int)} {i : Nat} {s : List Int} (h : l[i]? = some s) : rd_L1 l (i : Int) = s := by simp [rd_L1, List.getD_eq_getElem?_getD, h]
theorem len_cut (l : List (List Int)) (i : Int) : (cutRow l i).length = l.length := by simp [cutRow]
abbrev Rows := List (List Int)
def finI (Y : Rows) (h : Int) (B : Rows) (a : Int) : Rows × Int × Rows × Int × Bool := if termOk Y h B = true then (Y, h, B, a, true) else ([], 0, [], 0, false)
/-- The program's step. -/
def makeI (Y : Rows) (h : Int) (B : Rows) (K b dd : Int) : Rows × Int × Rows × Int × Bool :=
 if K = 1 then (if idxRow (topIs b) Y < 0 then ([], 0, [], 0, false) else if inRows Y dd = true then (if dd = idxRow (topIs b) Y then ([], 0, [], 0, false) else finI (putRow (cutRow Y (idxRow (topIs b) Y)) dd b) h B (idxRow (topIs b) Y)) else ([], 0, [], 0, false))
 else if K = 2 then (if idxRow (topIs b) Y < 0 then ([], 0, [], 0, false) else if inRows B dd = true then finI (cutRow Y (idxRow (topIs b) Y)) h (putRow B dd b) (idxRow (topIs b) Y) else ([], 0, [], 0, false))
 else if K = 3 then (if idxRow (topIs b) B < 0 then ([], 0, [], 0, false) else if inRows Y dd = true then finI (putRow Y dd b) h (cutRow B (idxRow (topIs b) B)) (idxRow (topIs b) B) else ([], 0, [], 0, false))
 else ([], 0, [], 0, false)
def finS (Y : Rows) (h : Int) (B : Rows) : Rows × Int × Rows × Bool := if termOk Y h B = true then (Y, h, B, true) else ([], 0, [], false)
/-- The last of its row is found. -/
def Ez (l : Rows) (q : Int × Int) : Prop := 0 ≤ q.1 ∧ q.2 = ((rd_L1 l q.1).length : Int) - 1
instance (l : Rows) (q : Int × Int) : Decidable (Ez l q) := inferInstanceAs (Decidable (_ ∧ _))
/-- The reference's step. -/
def makeS (Y : Rows) (h : Int) (B : Rows) (K b dd : Int) : Rows × Int × Rows × Bool :=
 if K = 3 then (if Ez B (findFrom 0 B b) then (if inRows Y dd = true then finS (putRow Y dd b) h (cutRow B (findFrom 0 B b).1) else ([], 0, [], false)) else ([], 0, [], false))
 else if Ez Y (findFrom 0 Y b) then (if K = 1 then (if dd = (findFrom 0 Y b).1 then ([], 0, [], false) else if inRows Y dd = true then finS (putRow (cutRow Y (findFrom 0 Y b).1) dd b) h B else ([], 0, [], false))
  else if K = 2 then (if inRows B dd = true then finS (cutRow Y (findFrom 0 Y b).1) h (putRow B dd b) else ([], 0, [], false)) else ([], 0, [], false)) else ([], 0, [], false)
def four (r : Rows × Int × Rows × Int × Bool) : Rows × Int × Rows × Bool := (r.1, r.2.1, r.2.2.1, r.2.2.2.2)
theorem found_idx {l : Rows} (hn : l.flatten.Nodup) (b : Int) : (Ez l (findFrom 0 l b) ∧ ¬ idxRow (topIs b) l < 0 ∧ (findFrom 0 l b).1 = idxRow (topIs b) l) ∨ (¬ Ez l (findFrom 0 l b) ∧ idxRow (topIs b) l < 0) := by
 by_cases c : idxRow (topIs b) l < 0
 ·exact .inr ⟨fun h => find_low c h.1 h.2, c⟩
 ·obtain ⟨i, s, hi, hs, ht⟩ := idxRow_at b l c
  obtain ⟨h1, h2⟩ := find_top hn hs ht
  exact .inl ⟨⟨by rw [h1]; simp, by rw [h1]; simp only; rw [rdL_some hs]⟩, c, by rw [h1, h2]⟩
theorem four_fin (Y : Rows) (h : Int) (B : Rows) (a : Int) : four (finI Y h B a) = finS Y h B := by
 unfold finI finS; by_cases c : termOk Y h B = true
 ·rw [if_pos c, if_pos c]; rfl
 ·rw [if_neg c, if_neg c]; rfl
theorem make_eq {Y : Rows} {h : Int} {B : Rows} (hY : Y.flatten.Nodup) (hB : B.flatten.Nodup) (K b dd : Int) : makeS Y h B K b dd = four (makeI Y h B K b dd) := by
 unfold makeS makeI
 by_cases k3 : K = 3
 ·subst k3
  rw [if_pos (rfl : (3 : Int) = 3), if_neg (show ¬ (3 : Int) = 1 by decide), if_neg (show ¬ (3 : Int) = 2 by decide), if_pos (rfl : (3 : Int) = 3)]
  rcases found_idx hB b with ⟨h1, h2, h3⟩ | ⟨h1, h2⟩
  ·rw [if_pos h1, if_neg h2, h3]
   by_cases c : inRows Y dd = true
   ·rw [if_pos c, if_pos c, four_fin]
   ·rw [if_neg c, if_neg c]; rfl
  ·rw [if_neg h1, if_pos h2]; rfl
 ·rw [if_neg k3]
  rcases found_idx hY b with ⟨h1, h2, h3⟩ | ⟨h1, h2⟩
  ·rw [if_pos h1, h3]
   by_cases k1 : K = 1
   ·rw [if_pos k1, if_pos k1, if_neg h2]
    by_cases c : inRows Y dd = true
    ·rw [if_pos c, if_pos c]
     by_cases c2 : dd = idxRow (topIs b) Y
     ·rw [if_pos c2, if_pos c2]; rfl
     ·rw [if_neg c2, if_neg c2, four_fin]
    ·rw [if_neg c, if_neg c]; split <;> rfl
   ·rw [if_neg k1, if_neg k1]
    by_cases k2 : K = 2
    ·rw [if_pos k2, if_pos k2, if_neg h2]
     by_cases c : inRows B dd = true
     ·rw [if_pos c, if_pos c, four_fin]
     ·rw [if_neg c, if_neg c]; rfl
    ·rw [if_neg k2, if_neg k2, if_neg k3]; rfl
  ·rw [if_neg h1]
   by_cases k1 : K = 1
   ·rw [if_pos k1, if_pos h2]; rfl
   ·rw [if_neg k1]
    by_cases k2 : K = 2
    ·rw [if_pos k2, if_pos h2]; rfl
    ·rw [if_neg k2, if_neg k3]; rfl
end Go.Proofs.Ytnggfglmjdiaaaa.X

namespace Go.Proofs.Ytnggfglmjdiaaaa.X
open Go.RowKit Go.Proofs.YtnggfglmjdiaaaaW.PrintWords Go.Proofs.YtnggfglmjdiaaaaW.PrintLast Go.Proofs.YtnggfglmjdiaaaaW.PrintMore
attribute [local go_sem] max2_int min2_int max_two min_two max_three min_three max_four min_four
def Fe.f (k : Nat) (l0_0 : List (List Int)) (a0_1 : Int) (l0_2 : List (List Int)) (a1_0 : Int) (a1_1 : Int) (a1_2 : Int) : Option ((List (List Int)) × Int × (List (List Int)) × Bool) := (Ad.f k l0_0 a0_1 l0_2).bind fun t332 => (if t332 = true then ((spec_l24Make.f k l0_0 a0_1 l0_2 a1_0 a1_1 a1_2).bind fun bt333 => (some (bt333.1, bt333.2.1, bt333.2.2.1, bt333.2.2.2))) else (some (([] : List (List Int)), 0, ([] : List (List Int)), false)))
theorem Fe.mono : ∀ a0 a1 a2 a3 a4 a5 k, LeO (Fe.f k a0 a1 a2 a3 a4 a5) (Fe.f (k + 1) a0 a1 a2 a3 a4 a5) := by
 intro a0 a1 a2 a3 a4 a5 k
 unfold Fe.f
 repeat' first
   | (with_reducible exact Ad.mono _ _ _ _)
   | (with_reducible exact spec_l24Make.mono _ _ _ _ _ _ _)
   | (with_reducible exact LeO.refl _)
   | (with_reducible exact LeO.none _)
   | (with_reducible refine LeO.ite ?_ ?_)
   | (with_reducible refine LeO.bind ?_ (fun _ => ?_))
   | exact Ad.mono _ _ _ _
   | exact spec_l24Make.mono _ _ _ _ _ _ _
   | exact LeO.none _
   | refine LeO.ite ?_ ?_
   | refine LeO.bind ?_ (fun _ => ?_)
set_option maxHeartbeats 8000000 in
set_option maxRecDepth 100000 in
theorem Fe.calls (k : Nat) (A0_0 : Option Addr) (c0_0 : Nat) (l0_0 : List (List Int)) (a0_1 : Int) (A0_2 : Option Addr) (c0_2 : Nat) (l0_2 : List (List Int)) (a1_0 : Int) (a1_1 : Int) (a1_2 : Int) (r1 : List (List Int)) (r2 : Int) (r3 : List (List Int)) (r4 : Bool) (w : World) (hr0_0 : Kd.C (Kd.slice 3 (Kd.int .i64)) w A0_0 l0_0.length l0_0) (hc0_0 : l0_0.length ≤ c0_0) (hr0_2 : Kd.C (Kd.slice 3 (Kd.int .i64)) w A0_2 l0_2.length l0_2) (hc0_2 : l0_2.length ≤ c0_2) (h : Fe.f k l0_0 a0_1 l0_2 a1_0 a1_1 a1_2 = some (r1, r2, r3, r4)) :
  Calls Try.prog 21 #[.agg #[.slice A0_0 l0_0.length c0_0, .int .i64 a0_1, .slice A0_2 l0_2.length c0_2], .agg #[.int .i64 a1_0, .int .i64 a1_1, .int .i64 a1_2]] w fun e w' => ∃ v0_ v2_ : Value, e = .returned (.tuple #[.agg #[v0_, .int .i64 r2, v2_], .bool r4]) ∧ Kd.S (Kd.slice 3 (Kd.int .i64)) 73 w' w.heap.size (fun k_ => some k_ ≠ (v2_ : Value).ownBlock) v0_ r1 ∧ Kd.S (Kd.slice 3 (Kd.int .i64)) 73 w' w.heap.size (fun k_ => some k_ ≠ (v0_ : Value).ownBlock) v2_ r3 ∧ Below w.heap.size w w' := by
 have hu34 := Try.underlying34
 have hu43 := Try.underlying43
 have HR0_0 := Aside0.mk hr0_0
 have HC0_0 := Aside0.mk hc0_0
 clear hr0_0 hc0_0
 have HR0_2 := Aside0.mk hr0_2
 have HC0_2 := Aside0.mk hc0_2
 clear hr0_2 hc0_2
 have HB := Aside0.mk (Below.refl w.heap.size w)
 have H : ((Ad.f k l0_0 a0_1 l0_2).bind fun t332 => (if t332 = true then ((spec_l24Make.f k l0_0 a0_1 l0_2 a1_0 a1_1 a1_2).bind fun bt333 => (some (bt333.1, bt333.2.1, bt333.2.2.1, bt333.2.2.2))) else (some (([] : List (List Int)), 0, ([] : List (List Int)), false)))) = some (r1, r2, r3, r4) := h
 clear h
 replace H := Option.bind_eq_some_iff.mp H
 obtain ⟨t332, A30, H⟩ := H
 try dsimp only at H
 have A3 := Aside0.mk A30
 clear A30
 by_cases c4 : t332 = true
 ·subst c4
  have H1 : ((spec_l24Make.f k l0_0 a0_1 l0_2 a1_0 a1_1 a1_2).bind fun bt333 => (some (bt333.1, bt333.2.1, bt333.2.2.1, bt333.2.2.2))) = some (r1, r2, r3, r4) := by rw [if_pos rfl] at H; exact H
  clear H
  have H := H1
  clear H1
  replace H := Option.bind_eq_some_iff.mp H
  obtain ⟨⟨t333, t336, t337, t340⟩, A50, H⟩ := H
  try dsimp only at H
  have A5 := Aside0.mk A50
  clear A50
  simp only [Option.some.injEq, Prod.mk.injEq] at H
  obtain ⟨rfl, rfl, rfl, rfl⟩ := H
  go_enter Try.func21, Try.ntmps21
  go_wp2_with (first | ((with_reducible refine gate_dst (N := 2) rfl ?_); refine box_event (by rfl) (N := 2) (by rfl) (cs := #[.slice A0_0 l0_0.length c0_0, .int .i64 a0_1, .slice A0_2 l0_2.length c0_2]) (t := 34) Ybf_ ?_; intro gb0 hg w6 hbox hb; have BK0 := Aside0.mk (hbox); have GW0 := Aside0.mk ((by rw [hg]; exact (below_size Yb_) : w.heap.size ≤ gb0)); have GE0 := Aside0.mk ((by rw [hg]; exact (below_size Yb_) : w.heap.size ≤ gb0)); replace HB := Aside0.mk (below_step Yb_ hb); clear hb hbox hg) | ((with_reducible refine gate_dst (N := 3) rfl ?_); refine box_event (by rfl) (N := 3) (by rfl) (cs := #[.int .i64 a1_0, .int .i64 a1_1, .int .i64 a1_2]) (t := 43) Ybf_ ?_; intro gb1 hg w7 hbox hb; have BK1 := Aside0.mk (hbox); have GW1 := Aside0.mk ((by rw [hg]; exact (below_size Yd_) : w.heap.size ≤ gb1)); have GE1 := Aside0.mk ((by rw [hg]; exact (below_size Yd_) : w.heap.size ≤ gb1)); replace HB := Aside0.mk (below_step Yd_ hb); have NB0_1 := Aside0.mk ((by rw [hg]; exact Nat.ne_of_lt (blk_lt (g := gb0) (o := .cells #[.slice A0_0 l0_0.length c0_0, .int .i64 a0_1, .slice A0_2 l0_2.length c0_2] 34 (0, 0)) Yc_) : gb0 ≠ gb1)); have NB1_0 := Aside0.mk ((by rw [hg]; exact Nat.ne_of_gt (blk_lt (g := gb0) (o := .cells #[.slice A0_0 l0_0.length c0_0, .int .i64 a0_1, .slice A0_2 l0_2.length c0_2] 34 (0, 0)) Yc_) : gb1 ≠ gb0)); replace BK0 := Aside0.mk (blk_below (g := gb0) (o := .cells #[.slice A0_0 l0_0.length c0_0, .int .i64 a0_1, .slice A0_2 l0_2.length c0_2] 34 (0, 0)) Yc_ hb); clear hb hbox hg) | ((with_reducible refine gate_dst (N := 4) rfl ?_); refine box_event (by rfl) (N := 4) (by rfl) (cs := #[.slice none 0 0, .int .i64 0, .slice none 0 0]) (t := 34) Ybf_ ?_; intro gb2 hg w8 hbox hb; have BK2 := Aside0.mk (hbox); have GW2 := Aside0.mk ((by rw [hg]; exact (below_size Yf_) : w.heap.size ≤ gb2)); have GE2 := Aside0.mk ((by rw [hg]; exact (below_size Yf_) : w.heap.size ≤ gb2)); replace HB := Aside0.mk (below_step Yf_ hb); have NB0_2 := Aside0.mk ((by rw [hg]; exact Nat.ne_of_lt (blk_lt (g := gb0) (o := .cells #[.slice A0_0 l0_0.length c0_0, .int .i64 a0_1, .slice A0_2 l0_2.length c0_2] 34 (0, 0)) Yc_) : gb0 ≠ gb2)); have NB2_0 := Aside0.mk ((by rw [hg]; exact Nat.ne_of_gt (blk_lt (g := gb0) (o := .cells #[.slice A0_0 l0_0.length c0_0, .int .i64 a0_1, .slice A0_2 l0_2.length c0_2] 34 (0, 0)) Yc_) : gb2 ≠ gb0)); replace BK0 := Aside0.mk (blk_below (g := gb0) (o := .cells #[.slice A0_0 l0_0.length c0_0, .int .i64 a0_1, .slice A0_2 l0_2.length c0_2] 34 (0, 0)) Yc_ hb); have NB1_2 := Aside0.mk ((by rw [hg]; exact Nat.ne_of_lt (blk_lt (g := gb1) (o := .cells #[.int .i64 a1_0, .int .i64 a1_1, .int .i64 a1_2] 43 (0, 0)) Yg_) : gb1 ≠ gb2)); have NB2_1 := Aside0.mk ((by rw [hg]; exact Nat.ne_of_gt (blk_lt (g := gb1) (o := .cells #[.int .i64 a1_0, .int .i64 a1_1, .int .i64 a1_2] 43 (0, 0)) Yg_) : gb2 ≠ gb1)); replace BK1 := Aside0.mk (blk_below (g := gb1) (o := .cells #[.int .i64 a1_0, .int .i64 a1_1, .int .i64 a1_2] 43 (0, 0)) Yg_ hb); clear hb hbox hg; have hnb9 := NB0_1.out; have hnc9 := NB1_0.out; have hnb10 := NB0_2.out; have hnc10 := NB2_0.out; obtain ⟨hcz11_0, hcz11_1, hcz11_2⟩ := cl3_ BK0.out; obtain ⟨hfz11_0, hfz11_1, hfz11_2⟩ := fz3_ BK0.out) | (go_at_call 39; (with_reducible refine (Ad.calls k _ _ l0_0 a0_1 _ _ l0_2 true _ ?side1 ?side2 ?side3 ?side4 A3.out).mono ?_); (case side1 => repeat (first | exact (Kd.C_below HR0_0.out HB.out) | (with_reducible refine Kd.C_alloc ?_ _) | (with_reducible refine Kd.C_drewN ?_ _) | (with_reducible refine Kd.C_drew ?_))); (case side2 => exact HC0_0.out); (case side3 => repeat (first | exact (Kd.C_below HR0_2.out HB.out) | (with_reducible refine Kd.C_alloc ?_ _) | (with_reducible refine Kd.C_drewN ?_ _) | (with_reducible refine Kd.C_drew ?_))); (case side4 => exact HC0_2.out); rintro e w12 ⟨rfl, hb⟩; replace BK0 := Aside0.mk (blk_below (g := gb0) (o := .cells #[.slice A0_0 l0_0.length c0_0, .int .i64 a0_1, .slice A0_2 l0_2.length c0_2] 34 (0, 0)) Yc_ hb); replace BK1 := Aside0.mk (blk_below (g := gb1) (o := .cells #[.int .i64 a1_0, .int .i64 a1_1, .int .i64 a1_2] 43 (0, 0)) Yg_ hb); replace BK2 := Aside0.mk (blk_below (g := gb2) (o := .cells #[.slice none 0 0, .int .i64 0, .slice none 0 0] 34 (0, 0)) Ybd_ hb); replace HB := Aside0.mk (below_step Ye_ hb); (try clear hb); (try clear hb2); (try clear hk); (try clear hi); obtain ⟨hcz13_0, hcz13_1, hcz13_2⟩ := cl3_ BK0.out; obtain ⟨hfz13_0, hfz13_1, hfz13_2⟩ := fz3_ BK0.out; have hnb14 := NB1_2.out; have hnc14 := NB2_1.out; obtain ⟨hcz15_0, hcz15_1, hcz15_2⟩ := cl3_ BK1.out; obtain ⟨hfz15_0, hfz15_1, hfz15_2⟩ := fz3_ BK1.out) | (go_at_call 51; (with_reducible refine (spec_l24Make.calls k _ _ l0_0 a0_1 _ _ l0_2 a1_0 a1_1 a1_2 t333 t336 t337 t340 _ ?side1 ?side2 ?side3 ?side4 A5.out).mono ?_); (case side1 => repeat (first | exact (Kd.C_below HR0_0.out HB.out) | (with_reducible refine Kd.C_alloc ?_ _) | (with_reducible refine Kd.C_drewN ?_ _) | (with_reducible refine Kd.C_drew ?_))); (case side2 => exact HC0_0.out); (case side3 => repeat (first | exact (Kd.C_below HR0_2.out HB.out) | (with_reducible refine Kd.C_alloc ?_ _) | (with_reducible refine Kd.C_drewN ?_ _) | (with_reducible refine Kd.C_drew ?_))); (case side4 => exact HC0_2.out); rintro e w16 ⟨v334, v338, rfl, ho0, ho1, hb⟩; have HO335 := Aside0.mk (Kd.S_lower ho0 (below_size Ye_)); have HO339 := Aside0.mk (Kd.S_lower ho1 (below_size Ye_)); replace BK0 := Aside0.mk (blk_below (g := gb0) (o := .cells #[.slice A0_0 l0_0.length c0_0, .int .i64 a0_1, .slice A0_2 l0_2.length c0_2] 34 (0, 0)) Yc_ hb); replace BK1 := Aside0.mk (blk_below (g := gb1) (o := .cells #[.int .i64 a1_0, .int .i64 a1_1, .int .i64 a1_2] 43 (0, 0)) Yg_ hb); replace BK2 := Aside0.mk (blk_below (g := gb2) (o := .cells #[.slice none 0 0, .int .i64 0, .slice none 0 0] 34 (0, 0)) Ybd_ hb); replace HB := Aside0.mk (below_step Ye_ hb); (try clear hb); (try clear hb2); (try clear hk); (try clear hi); (try clear ho0); (try clear ho1); obtain ⟨Ao17, co17, eo17⟩ := Kd.S_slice HO335.out; subst eo17; obtain ⟨hcz18_0, hcz18_1, hcz18_2⟩ := cl3_ BK2.out; obtain ⟨hfz18_0, hfz18_1, hfz18_2⟩ := fz3_ BK2.out; obtain ⟨Ao19, co19, eo19⟩ := Kd.S_slice HO339.out; subst eo19))
  refine bodyPost_ret (Df rfl _ _ gb2 34 #[.slice Ao17 t333.length co17, .int .i64 t336, .slice Ao19 t337.length co19] (0, 0) _ rfl (by (with_reducible repeat (first | apply blk_drewN | apply blk_drew | apply blk_alloc)); refine blk_put (cs := #[.slice Ao17 t333.length co17, .int .i64 t336, .slice none 0 0]) ?_ 2 _ rfl; (with_reducible repeat (first | apply blk_drewN | apply blk_drew | apply blk_alloc)); refine blk_put (cs := #[.slice Ao17 t333.length co17, .int .i64 0, .slice none 0 0]) ?_ 1 _ rfl; (with_reducible repeat (first | apply blk_drewN | apply blk_drew | apply blk_alloc)); refine blk_put (cs := #[.slice none 0 0, .int .i64 0, .slice none 0 0]) ?_ 0 _ rfl; (with_reducible repeat (first | apply blk_drewN | apply blk_drew | apply blk_alloc)); exact BK2.out) Try.underlying34 rfl Ybb_) rfl ?_
  exact ⟨_, _, Yi_, (by (with_reducible repeat (first | apply Kd.S_alloc | apply Kd.S_drewN | apply Kd.S_drew)); exact Kd.S_mono (Kd.S_far (p := ⟨gb2, 2, none⟩) (Kd.S_far (p := ⟨gb2, 1, none⟩) (Kd.S_far (p := ⟨gb2, 0, none⟩) (Kd.S_types HO335.out BK2.out (by decide)) (fun _ hk => hk.2) (.slice Ao17 t333.length co17)) (fun _ hk => hk.2) (.int .i64 t336)) (fun _ hk => hk.2) (.slice Ao19 t337.length co19)) (fun _ hk => hk.1)), (by (with_reducible repeat (first | apply Kd.S_alloc | apply Kd.S_drewN | apply Kd.S_drew)); exact Kd.S_mono (Kd.S_far (p := ⟨gb2, 2, none⟩) (Kd.S_far (p := ⟨gb2, 1, none⟩) (Kd.S_far (p := ⟨gb2, 0, none⟩) (Kd.S_types HO339.out BK2.out (by decide)) (fun _ hk => hk.2) (.slice Ao17 t333.length co17)) (fun _ hk => hk.2) (.int .i64 t336)) (fun _ hk => hk.2) (.slice Ao19 t337.length co19)) (fun _ hk => hk.1)), Ye_⟩
 ·replace c4 := Bool.eq_false_iff.mpr c4
  subst c4
  have H1 : (some (([] : List (List Int)), 0, ([] : List (List Int)), false)) = some (r1, r2, r3, r4) := by rw [if_neg (show ¬ (false = true) by decide)] at H; exact H
  clear H
  have H := H1
  clear H1
  simp only [Option.some.injEq, Prod.mk.injEq] at H
  obtain ⟨rfl, rfl, rfl, rfl⟩ := H
  go_enter Try.func21, Try.ntmps21
  go_wp2_with (first | ((with_reducible refine gate_dst (N := 2) rfl ?_); refine box_event (by rfl) (N := 2) (by rfl) (cs := #[.slice A0_0 l0_0.length c0_0, .int .i64 a0_1, .slice A0_2 l0_2.length c0_2]) (t := 34) Ybf_ ?_; intro gb0 hg w20 hbox hb; have BK0 := Aside0.mk (hbox); have GW0 := Aside0.mk ((by rw [hg]; exact (below_size Yb_) : w.heap.size ≤ gb0)); have GE0 := Aside0.mk ((by rw [hg]; exact (below_size Yb_) : w.heap.size ≤ gb0)); replace HB := Aside0.mk (below_step Yb_ hb); clear hb hbox hg) | ((with_reducible refine gate_dst (N := 3) rfl ?_); refine box_event (by rfl) (N := 3) (by rfl) (cs := #[.int .i64 a1_0, .int .i64 a1_1, .int .i64 a1_2]) (t := 43) Ybf_ ?_; intro gb1 hg w21 hbox hb; have BK1 := Aside0.mk (hbox); have GW1 := Aside0.mk ((by rw [hg]; exact (below_size Yd_) : w.heap.size ≤ gb1)); have GE1 := Aside0.mk ((by rw [hg]; exact (below_size Yd_) : w.heap.size ≤ gb1)); replace HB := Aside0.mk (below_step Yd_ hb); have NB0_1 := Aside0.mk ((by rw [hg]; exact Nat.ne_of_lt (blk_lt (g := gb0) (o := .cells #[.slice A0_0 l0_0.length c0_0, .int .i64 a0_1, .slice A0_2 l0_2.length c0_2] 34 (0, 0)) Yc_) : gb0 ≠ gb1)); have NB1_0 := Aside0.mk ((by rw [hg]; exact Nat.ne_of_gt (blk_lt (g := gb0) (o := .cells #[.slice A0_0 l0_0.length c0_0, .int .i64 a0_1, .slice A0_2 l0_2.length c0_2] 34 (0, 0)) Yc_) : gb1 ≠ gb0)); replace BK0 := Aside0.mk (blk_below (g := gb0) (o := .cells #[.slice A0_0 l0_0.length c0_0, .int .i64 a0_1, .slice A0_2 l0_2.length c0_2] 34 (0, 0)) Yc_ hb); clear hb hbox hg) | ((with_reducible refine gate_dst (N := 4) rfl ?_); refine box_event (by rfl) (N := 4) (by rfl) (cs := #[.slice none 0 0, .int .i64 0, .slice none 0 0]) (t := 34) Ybf_ ?_; intro gb2 hg w22 hbox hb; have BK2 := Aside0.mk (hbox); have GW2 := Aside0.mk ((by rw [hg]; exact (below_size Yf_) : w.heap.size ≤ gb2)); have GE2 := Aside0.mk ((by rw [hg]; exact (below_size Yf_) : w.heap.size ≤ gb2)); replace HB := Aside0.mk (below_step Yf_ hb); have NB0_2 := Aside0.mk ((by rw [hg]; exact Nat.ne_of_lt (blk_lt (g := gb0) (o := .cells #[.slice A0_0 l0_0.length c0_0, .int .i64 a0_1, .slice A0_2 l0_2.length c0_2] 34 (0, 0)) Yc_) : gb0 ≠ gb2)); have NB2_0 := Aside0.mk ((by rw [hg]; exact Nat.ne_of_gt (blk_lt (g := gb0) (o := .cells #[.slice A0_0 l0_0.length c0_0, .int .i64 a0_1, .slice A0_2 l0_2.length c0_2] 34 (0, 0)) Yc_) : gb2 ≠ gb0)); replace BK0 := Aside0.mk (blk_below (g := gb0) (o := .cells #[.slice A0_0 l0_0.length c0_0, .int .i64 a0_1, .slice A0_2 l0_2.length c0_2] 34 (0, 0)) Yc_ hb); have NB1_2 := Aside0.mk ((by rw [hg]; exact Nat.ne_of_lt (blk_lt (g := gb1) (o := .cells #[.int .i64 a1_0, .int .i64 a1_1, .int .i64 a1_2] 43 (0, 0)) Yg_) : gb1 ≠ gb2)); have NB2_1 := Aside0.mk ((by rw [hg]; exact Nat.ne_of_gt (blk_lt (g := gb1) (o := .cells #[.int .i64 a1_0, .int .i64 a1_1, .int .i64 a1_2] 43 (0, 0)) Yg_) : gb2 ≠ gb1)); replace BK1 := Aside0.mk (blk_below (g := gb1) (o := .cells #[.int .i64 a1_0, .int .i64 a1_1, .int .i64 a1_2] 43 (0, 0)) Yg_ hb); clear hb hbox hg; have hnb23 := NB0_1.out; have hnc23 := NB1_0.out; have hnb24 := NB0_2.out; have hnc24 := NB2_0.out; obtain ⟨hcz25_0, hcz25_1, hcz25_2⟩ := cl3_ BK0.out; obtain ⟨hfz25_0, hfz25_1, hfz25_2⟩ := fz3_ BK0.out) | (go_at_call 39; (with_reducible refine (Ad.calls k _ _ l0_0 a0_1 _ _ l0_2 false _ ?side1 ?side2 ?side3 ?side4 A3.out).mono ?_); (case side1 => repeat (first | exact (Kd.C_below HR0_0.out HB.out) | (with_reducible refine Kd.C_alloc ?_ _) | (with_reducible refine Kd.C_drewN ?_ _) | (with_reducible refine Kd.C_drew ?_))); (case side2 => exact HC0_0.out); (case side3 => repeat (first | exact (Kd.C_below HR0_2.out HB.out) | (with_reducible refine Kd.C_alloc ?_ _) | (with_reducible refine Kd.C_drewN ?_ _) | (with_reducible refine Kd.C_drew ?_))); (case side4 => exact HC0_2.out); rintro e w26 ⟨rfl, hb⟩; replace BK0 := Aside0.mk (blk_below (g := gb0) (o := .cells #[.slice A0_0 l0_0.length c0_0, .int .i64 a0_1, .slice A0_2 l0_2.length c0_2] 34 (0, 0)) Yc_ hb); replace BK1 := Aside0.mk (blk_below (g := gb1) (o := .cells #[.int .i64 a1_0, .int .i64 a1_1, .int .i64 a1_2] 43 (0, 0)) Yg_ hb); replace BK2 := Aside0.mk (blk_below (g := gb2) (o := .cells #[.slice none 0 0, .int .i64 0, .slice none 0 0] 34 (0, 0)) Ybd_ hb); replace HB := Aside0.mk (below_step Ye_ hb); (try clear hb); (try clear hb2); (try clear hk); (try clear hi); have hnb27 := NB2_1.out; have hnc27 := NB1_2.out; obtain ⟨hcz28_0, hcz28_1, hcz28_2⟩ := cl3_ BK2.out; obtain ⟨hfz28_0, hfz28_1, hfz28_2⟩ := fz3_ BK2.out))
  refine bodyPost_ret (Df rfl _ _ gb2 34 #[.slice none 0 0, .int .i64 0, .slice none 0 0] (0, 0) _ rfl Ydf_ Try.underlying34 rfl Ybb_) rfl ?_
  exact ⟨_, _, Yi_, Ych_, Ych_, Ye_⟩
def Em.f (k : Nat) (l0_0 : List (List Int)) (a0_1 : Int) (l0_2 : List (List Int)) (a1_0 : Int) (a1_1 : Int) (a1_2 : Int) : Option ((List (List Int)) × Int × (List (List Int)) × Bool) := (impl_IsValidTerminal.f k l0_0 a0_1 l0_2).bind fun t420 => (if t420 = true then ((impl_makeOrder.f k l0_0 a0_1 l0_2 a1_0 a1_1 a1_2).bind fun bt421 => (some (bt421.1, bt421.2.1, bt421.2.2.1, bt421.2.2.2.2))) else (some (([] : List (List Int)), 0, ([] : List (List Int)), false)))
theorem Em.mono : ∀ a0 a1 a2 a3 a4 a5 k, LeO (Em.f k a0 a1 a2 a3 a4 a5) (Em.f (k + 1) a0 a1 a2 a3 a4 a5) := by
 intro a0 a1 a2 a3 a4 a5 k
 unfold Em.f
 repeat' first
   | (with_reducible exact impl_IsValidTerminal.mono _ _ _ _)
   | (with_reducible exact impl_makeOrder.mono _ _ _ _ _ _ _)
   | (with_reducible exact LeO.refl _)
   | (with_reducible exact LeO.none _)
   | (with_reducible refine LeO.ite ?_ ?_)
   | (with_reducible refine LeO.bind ?_ (fun _ => ?_))
   | exact impl_IsValidTerminal.mono _ _ _ _
   | exact impl_makeOrder.mono _ _ _ _ _ _ _
   | exact LeO.none _
   | refine LeO.ite ?_ ?_
   | refine LeO.bind ?_ (fun _ => ?_)
set_option maxHeartbeats 8000000 in
set_option maxRecDepth 100000 in
theorem Em.calls2 (k : Nat) (A0_0 : Option Addr) (c0_0 : Nat) (l0_0 : List (List Int)) (a0_1 : Int) (A0_2 : Option Addr) (c0_2 : Nat) (l0_2 : List (List Int)) (a1_0 : Int) (a1_1 : Int) (a1_2 : Int) (r1 : List (List Int)) (r2 : Int) (r3 : List (List Int)) (r4 : Bool) (w : World) (hr0_0 : Kd.C (Kd.slice 3 (Kd.int .i64)) w A0_0 l0_0.length l0_0) (hc0_0 : l0_0.length ≤ c0_0) (hr0_2 : Kd.C (Kd.slice 3 (Kd.int .i64)) w A0_2 l0_2.length l0_2) (hc0_2 : l0_2.length ≤ c0_2) (h : Em.f k l0_0 a0_1 l0_2 a1_0 a1_1 a1_2 = some (r1, r2, r3, r4)) :
  Calls Try.prog 22 #[.agg #[.slice A0_0 l0_0.length c0_0, .int .i64 a0_1, .slice A0_2 l0_2.length c0_2], .agg #[.int .i64 a1_0, .int .i64 a1_1, .int .i64 a1_2]] w fun e w' => ∃ (P_ : Nat → Prop) (v0_ v2_ : Value), e = .returned (.tuple #[.agg #[v0_, .int .i64 r2, v2_], .bool r4]) ∧ Kd.S (Kd.slice 3 (Kd.int .i64)) 73 w' w.heap.size (fun k_ => P_ k_) v0_ r1 ∧ Kd.S (Kd.slice 3 (Kd.int .i64)) 73 w' w.heap.size (fun k_ => ¬ P_ k_) v2_ r3 ∧ Below w.heap.size w w' := by
 have hu34 := Try.underlying34
 have hu43 := Try.underlying43
 have HR0_0 := Aside0.mk hr0_0
 have HC0_0 := Aside0.mk hc0_0
 clear hr0_0 hc0_0
 have HR0_2 := Aside0.mk hr0_2
 have HC0_2 := Aside0.mk hc0_2
 clear hr0_2 hc0_2
 have HB := Aside0.mk (Below.refl w.heap.size w)
 have H : ((impl_IsValidTerminal.f k l0_0 a0_1 l0_2).bind fun t420 => (if t420 = true then ((impl_makeOrder.f k l0_0 a0_1 l0_2 a1_0 a1_1 a1_2).bind fun bt421 => (some (bt421.1, bt421.2.1, bt421.2.2.1, bt421.2.2.2.2))) else (some (([] : List (List Int)), 0, ([] : List (List Int)), false)))) = some (r1, r2, r3, r4) := h
 clear h
 replace H := Option.bind_eq_some_iff.mp H
 obtain ⟨t420, A30, H⟩ := H
 try dsimp only at H
 have A3 := Aside0.mk A30
 clear A30
 by_cases c4 : t420 = true
 ·subst c4
  have H1 : ((impl_makeOrder.f k l0_0 a0_1 l0_2 a1_0 a1_1 a1_2).bind fun bt421 => (some (bt421.1, bt421.2.1, bt421.2.2.1, bt421.2.2.2.2))) = some (r1, r2, r3, r4) := by rw [if_pos rfl] at H; exact H
  clear H
  have H := H1
  clear H1
  replace H := Option.bind_eq_some_iff.mp H
  obtain ⟨⟨t421, t424, t425, t428, t429⟩, A50, H⟩ := H
  try dsimp only at H
  have A5 := Aside0.mk A50
  clear A50
  simp only [Option.some.injEq, Prod.mk.injEq] at H
  obtain ⟨rfl, rfl, rfl, rfl⟩ := H
  go_enter Try.func22, Try.ntmps22
  go_wp2_with (first | ((with_reducible refine gate_dst (N := 2) rfl ?_); refine box_event (by rfl) (N := 2) (by rfl) (cs := #[.slice A0_0 l0_0.length c0_0, .int .i64 a0_1, .slice A0_2 l0_2.length c0_2]) (t := 34) Ybf_ ?_; intro gb0 hg w6 hbox hb; have BK0 := Aside0.mk (hbox); have GW0 := Aside0.mk ((by rw [hg]; exact (below_size Yb_) : w.heap.size ≤ gb0)); have GE0 := Aside0.mk ((by rw [hg]; exact (below_size Yb_) : w.heap.size ≤ gb0)); replace HB := Aside0.mk (below_step Yb_ hb); clear hb hbox hg) | ((with_reducible refine gate_dst (N := 3) rfl ?_); refine box_event (by rfl) (N := 3) (by rfl) (cs := #[.int .i64 a1_0, .int .i64 a1_1, .int .i64 a1_2]) (t := 43) Ybf_ ?_; intro gb1 hg w7 hbox hb; have BK1 := Aside0.mk (hbox); have GW1 := Aside0.mk ((by rw [hg]; exact (below_size Yd_) : w.heap.size ≤ gb1)); have GE1 := Aside0.mk ((by rw [hg]; exact (below_size Yd_) : w.heap.size ≤ gb1)); replace HB := Aside0.mk (below_step Yd_ hb); have NB0_1 := Aside0.mk ((by rw [hg]; exact Nat.ne_of_lt (blk_lt (g := gb0) (o := .cells #[.slice A0_0 l0_0.length c0_0, .int .i64 a0_1, .slice A0_2 l0_2.length c0_2] 34 (0, 0)) Yc_) : gb0 ≠ gb1)); have NB1_0 := Aside0.mk ((by rw [hg]; exact Nat.ne_of_gt (blk_lt (g := gb0) (o := .cells #[.slice A0_0 l0_0.length c0_0, .int .i64 a0_1, .slice A0_2 l0_2.length c0_2] 34 (0, 0)) Yc_) : gb1 ≠ gb0)); replace BK0 := Aside0.mk (blk_below (g := gb0) (o := .cells #[.slice A0_0 l0_0.length c0_0, .int .i64 a0_1, .slice A0_2 l0_2.length c0_2] 34 (0, 0)) Yc_ hb); clear hb hbox hg) | ((with_reducible refine gate_dst (N := 4) rfl ?_); refine box_event (by rfl) (N := 4) (by rfl) (cs := #[.slice none 0 0, .int .i64 0, .slice none 0 0]) (t := 34) Ybf_ ?_; intro gb2 hg w8 hbox hb; have BK2 := Aside0.mk (hbox); have GW2 := Aside0.mk ((by rw [hg]; exact (below_size Yf_) : w.heap.size ≤ gb2)); have GE2 := Aside0.mk ((by rw [hg]; exact (below_size Yf_) : w.heap.size ≤ gb2)); replace HB := Aside0.mk (below_step Yf_ hb); have NB0_2 := Aside0.mk ((by rw [hg]; exact Nat.ne_of_lt (blk_lt (g := gb0) (o := .cells #[.slice A0_0 l0_0.length c0_0, .int .i64 a0_1, .slice A0_2 l0_2.length c0_2] 34 (0, 0)) Yc_) : gb0 ≠ gb2)); have NB2_0 := Aside0.mk ((by rw [hg]; exact Nat.ne_of_gt (blk_lt (g := gb0) (o := .cells #[.slice A0_0 l0_0.length c0_0, .int .i64 a0_1, .slice A0_2 l0_2.length c0_2] 34 (0, 0)) Yc_) : gb2 ≠ gb0)); replace BK0 := Aside0.mk (blk_below (g := gb0) (o := .cells #[.slice A0_0 l0_0.length c0_0, .int .i64 a0_1, .slice A0_2 l0_2.length c0_2] 34 (0, 0)) Yc_ hb); have NB1_2 := Aside0.mk ((by rw [hg]; exact Nat.ne_of_lt (blk_lt (g := gb1) (o := .cells #[.int .i64 a1_0, .int .i64 a1_1, .int .i64 a1_2] 43 (0, 0)) Yg_) : gb1 ≠ gb2)); have NB2_1 := Aside0.mk ((by rw [hg]; exact Nat.ne_of_gt (blk_lt (g := gb1) (o := .cells #[.int .i64 a1_0, .int .i64 a1_1, .int .i64 a1_2] 43 (0, 0)) Yg_) : gb2 ≠ gb1)); replace BK1 := Aside0.mk (blk_below (g := gb1) (o := .cells #[.int .i64 a1_0, .int .i64 a1_1, .int .i64 a1_2] 43 (0, 0)) Yg_ hb); clear hb hbox hg; have hnb9 := NB0_1.out; have hnc9 := NB1_0.out; have hnb10 := NB0_2.out; have hnc10 := NB2_0.out; obtain ⟨hcz11_0, hcz11_1, hcz11_2⟩ := cl3_ BK0.out; obtain ⟨hfz11_0, hfz11_1, hfz11_2⟩ := fz3_ BK0.out) | (go_at_call 13; (with_reducible refine (impl_IsValidTerminal.calls k _ _ l0_0 a0_1 _ _ l0_2 true _ ?side1 ?side2 ?side3 ?side4 A3.out).mono ?_); (case side1 => repeat (first | exact (Kd.C_below HR0_0.out HB.out) | (with_reducible refine Kd.C_alloc ?_ _) | (with_reducible refine Kd.C_drewN ?_ _) | (with_reducible refine Kd.C_drew ?_))); (case side2 => exact HC0_0.out); (case side3 => repeat (first | exact (Kd.C_below HR0_2.out HB.out) | (with_reducible refine Kd.C_alloc ?_ _) | (with_reducible refine Kd.C_drewN ?_ _) | (with_reducible refine Kd.C_drew ?_))); (case side4 => exact HC0_2.out); rintro e w12 ⟨rfl, hb⟩; replace BK0 := Aside0.mk (blk_below (g := gb0) (o := .cells #[.slice A0_0 l0_0.length c0_0, .int .i64 a0_1, .slice A0_2 l0_2.length c0_2] 34 (0, 0)) Yc_ hb); replace BK1 := Aside0.mk (blk_below (g := gb1) (o := .cells #[.int .i64 a1_0, .int .i64 a1_1, .int .i64 a1_2] 43 (0, 0)) Yg_ hb); replace BK2 := Aside0.mk (blk_below (g := gb2) (o := .cells #[.slice none 0 0, .int .i64 0, .slice none 0 0] 34 (0, 0)) Ybd_ hb); replace HB := Aside0.mk (below_step Ye_ hb); (try clear hb); (try clear hb2); (try clear hk); (try clear hi); obtain ⟨hcz13_0, hcz13_1, hcz13_2⟩ := cl3_ BK0.out; obtain ⟨hfz13_0, hfz13_1, hfz13_2⟩ := fz3_ BK0.out; have hnb14 := NB1_2.out; have hnc14 := NB2_1.out; obtain ⟨hcz15_0, hcz15_1, hcz15_2⟩ := cl3_ BK1.out; obtain ⟨hfz15_0, hfz15_1, hfz15_2⟩ := fz3_ BK1.out) | (go_at_call 50; (with_reducible refine (impl_makeOrder.calls2 k _ _ l0_0 a0_1 _ _ l0_2 a1_0 a1_1 a1_2 t421 t424 t425 t428 t429 _ ?side1 ?side2 ?side3 ?side4 A5.out).mono ?_); (case side1 => repeat (first | exact (Kd.C_below HR0_0.out HB.out) | (with_reducible refine Kd.C_alloc ?_ _) | (with_reducible refine Kd.C_drewN ?_ _) | (with_reducible refine Kd.C_drew ?_))); (case side2 => exact HC0_0.out); (case side3 => repeat (first | exact (Kd.C_below HR0_2.out HB.out) | (with_reducible refine Kd.C_alloc ?_ _) | (with_reducible refine Kd.C_drewN ?_ _) | (with_reducible refine Kd.C_drew ?_))); (case side4 => exact HC0_2.out); rintro e w16 ⟨P_, v422, v426, rfl, ho0, ho1, hb⟩; have HO423 := Aside0.mk (Kd.S_lower ho0 (below_size Ye_)); have HO427 := Aside0.mk (Kd.S_lower ho1 (below_size Ye_)); replace BK0 := Aside0.mk (blk_below (g := gb0) (o := .cells #[.slice A0_0 l0_0.length c0_0, .int .i64 a0_1, .slice A0_2 l0_2.length c0_2] 34 (0, 0)) Yc_ hb); replace BK1 := Aside0.mk (blk_below (g := gb1) (o := .cells #[.int .i64 a1_0, .int .i64 a1_1, .int .i64 a1_2] 43 (0, 0)) Yg_ hb); replace BK2 := Aside0.mk (blk_below (g := gb2) (o := .cells #[.slice none 0 0, .int .i64 0, .slice none 0 0] 34 (0, 0)) Ybd_ hb); replace HB := Aside0.mk (below_step Ye_ hb); (try clear hb); (try clear hb2); (try clear hk); (try clear hi); (try clear ho0); (try clear ho1)) | ((with_reducible refine gate_dst (N := 6) rfl ?_); refine box_event (by rfl) (N := 6) (by rfl) (cs := #[.slice none 0 0, .int .i64 0, .slice none 0 0]) (t := 34) Ybf_ ?_; intro gb3 hg w17 hbox hb; replace HO423 := Aside0.mk (Kd.Ac (by (with_reducible repeat (first | apply Kd.S_alloc | apply Kd.S_drewN | apply Kd.S_drew)); exact HO423.out) hb); replace HO427 := Aside0.mk (Kd.Ac (by (with_reducible repeat (first | apply Kd.S_alloc | apply Kd.S_drewN | apply Kd.S_drew)); exact HO427.out) hb); have BK3 := Aside0.mk (hbox); have GW3 := Aside0.mk ((by rw [hg]; exact (below_size Ye_) : w.heap.size ≤ gb3)); have GE3 := Aside0.mk ((by rw [hg]; exact (below_size Ye_) : w.heap.size ≤ gb3)); replace HB := Aside0.mk (below_step Ye_ hb); have NB0_3 := Aside0.mk ((by rw [hg]; exact Nat.ne_of_lt (blk_lt (g := gb0) (o := .cells #[.slice A0_0 l0_0.length c0_0, .int .i64 a0_1, .slice A0_2 l0_2.length c0_2] 34 (0, 0)) Yc_) : gb0 ≠ gb3)); have NB3_0 := Aside0.mk ((by rw [hg]; exact Nat.ne_of_gt (blk_lt (g := gb0) (o := .cells #[.slice A0_0 l0_0.length c0_0, .int .i64 a0_1, .slice A0_2 l0_2.length c0_2] 34 (0, 0)) Yc_) : gb3 ≠ gb0)); replace BK0 := Aside0.mk (blk_below (g := gb0) (o := .cells #[.slice A0_0 l0_0.length c0_0, .int .i64 a0_1, .slice A0_2 l0_2.length c0_2] 34 (0, 0)) Yc_ hb); have NB1_3 := Aside0.mk ((by rw [hg]; exact Nat.ne_of_lt (blk_lt (g := gb1) (o := .cells #[.int .i64 a1_0, .int .i64 a1_1, .int .i64 a1_2] 43 (0, 0)) Yg_) : gb1 ≠ gb3)); have NB3_1 := Aside0.mk ((by rw [hg]; exact Nat.ne_of_gt (blk_lt (g := gb1) (o := .cells #[.int .i64 a1_0, .int .i64 a1_1, .int .i64 a1_2] 43 (0, 0)) Yg_) : gb3 ≠ gb1)); replace BK1 := Aside0.mk (blk_below (g := gb1) (o := .cells #[.int .i64 a1_0, .int .i64 a1_1, .int .i64 a1_2] 43 (0, 0)) Yg_ hb); have NB2_3 := Aside0.mk ((by rw [hg]; exact Nat.ne_of_lt (blk_lt (g := gb2) (o := .cells #[.slice none 0 0, .int .i64 0, .slice none 0 0] 34 (0, 0)) Ybd_) : gb2 ≠ gb3)); have NB3_2 := Aside0.mk ((by rw [hg]; exact Nat.ne_of_gt (blk_lt (g := gb2) (o := .cells #[.slice none 0 0, .int .i64 0, .slice none 0 0] 34 (0, 0)) Ybd_) : gb3 ≠ gb2)); replace BK2 := Aside0.mk (blk_below (g := gb2) (o := .cells #[.slice none 0 0, .int .i64 0, .slice none 0 0] 34 (0, 0)) Ybd_ hb); clear hb hbox hg; obtain ⟨Ao18, co18, eo18⟩ := Kd.S_slice HO423.out; subst eo18; have hnb19 := NB3_0.out; have hnc19 := NB0_3.out; have hnb20 := NB3_1.out; have hnc20 := NB1_3.out; have hnb21 := NB3_2.out; have hnc21 := NB2_3.out; obtain ⟨hcz22_0, hcz22_1, hcz22_2⟩ := cl3_ BK3.out; obtain ⟨hfz22_0, hfz22_1, hfz22_2⟩ := fz3_ BK3.out; obtain ⟨Ao23, co23, eo23⟩ := Kd.S_slice HO427.out; subst eo23; obtain ⟨hcz24_0, hcz24_1, hcz24_2⟩ := cl3_ BK2.out; obtain ⟨hfz24_0, hfz24_1, hfz24_2⟩ := fz3_ BK2.out))
  refine bodyPost_ret (Df rfl _ _ gb2 34 #[.slice Ao18 t421.length co18, .int .i64 t424, .slice Ao23 t425.length co23] (0, 0) _ rfl (by (with_reducible repeat (first | apply blk_drewN | apply blk_drew | apply blk_alloc)); refine blk_put (cs := #[.slice Ao18 t421.length co18, .int .i64 t424, .slice none 0 0]) ?_ 2 _ rfl; (with_reducible repeat (first | apply blk_drewN | apply blk_drew | apply blk_alloc)); refine blk_put (cs := #[.slice Ao18 t421.length co18, .int .i64 0, .slice none 0 0]) ?_ 1 _ rfl; (with_reducible repeat (first | apply blk_drewN | apply blk_drew | apply blk_alloc)); refine blk_put (cs := #[.slice none 0 0, .int .i64 0, .slice none 0 0]) ?_ 0 _ rfl; (with_reducible repeat (first | apply blk_drewN | apply blk_drew | apply blk_alloc)); refine Ai ?_ NB2_3.out _; (with_reducible repeat (first | apply blk_drewN | apply blk_drew | apply blk_alloc)); refine Ai ?_ NB2_3.out _; (with_reducible repeat (first | apply blk_drewN | apply blk_drew | apply blk_alloc)); refine Ai ?_ NB2_3.out _; (with_reducible repeat (first | apply blk_drewN | apply blk_drew | apply blk_alloc)); exact BK2.out) Try.underlying34 rfl Ybb_) rfl ?_
  exact ⟨P_, _, _, Yi_, (by (with_reducible repeat (first | apply Kd.S_alloc | apply Kd.S_drewN | apply Kd.S_drew)); exact Kd.S_mono (Kd.S_far (p := ⟨gb2, 2, none⟩) (Kd.S_far (p := ⟨gb2, 1, none⟩) (Kd.S_far (p := ⟨gb2, 0, none⟩) (Kd.S_far (p := ⟨gb3, 2, none⟩) (Kd.S_far (p := ⟨gb3, 1, none⟩) (Kd.S_far (p := ⟨gb3, 0, none⟩) (Kd.S_types (Kd.S_types HO423.out BK3.out (by decide)) BK2.out (by decide)) (fun _ hk => hk.1.2) (.slice Ao18 t421.length co18)) (fun _ hk => hk.1.2) (.int .i64 t424)) (fun _ hk => hk.1.2) (.slice Ao23 t425.length co23)) (fun _ hk => hk.2) (.slice Ao18 t421.length co18)) (fun _ hk => hk.2) (.int .i64 t424)) (fun _ hk => hk.2) (.slice Ao23 t425.length co23)) (fun _ hk => hk.1.1)), (by (with_reducible repeat (first | apply Kd.S_alloc | apply Kd.S_drewN | apply Kd.S_drew)); exact Kd.S_mono (Kd.S_far (p := ⟨gb2, 2, none⟩) (Kd.S_far (p := ⟨gb2, 1, none⟩) (Kd.S_far (p := ⟨gb2, 0, none⟩) (Kd.S_far (p := ⟨gb3, 2, none⟩) (Kd.S_far (p := ⟨gb3, 1, none⟩) (Kd.S_far (p := ⟨gb3, 0, none⟩) (Kd.S_types (Kd.S_types HO427.out BK3.out (by decide)) BK2.out (by decide)) (fun _ hk => hk.1.2) (.slice Ao18 t421.length co18)) (fun _ hk => hk.1.2) (.int .i64 t424)) (fun _ hk => hk.1.2) (.slice Ao23 t425.length co23)) (fun _ hk => hk.2) (.slice Ao18 t421.length co18)) (fun _ hk => hk.2) (.int .i64 t424)) (fun _ hk => hk.2) (.slice Ao23 t425.length co23)) (fun _ hk => hk.1.1)), Ybc_⟩
 ·replace c4 := Bool.eq_false_iff.mpr c4
  subst c4
  have H1 : (some (([] : List (List Int)), 0, ([] : List (List Int)), false)) = some (r1, r2, r3, r4) := by rw [if_neg (show ¬ (false = true) by decide)] at H; exact H
  clear H
  have H := H1
  clear H1
  simp only [Option.some.injEq, Prod.mk.injEq] at H
  obtain ⟨rfl, rfl, rfl, rfl⟩ := H
  go_enter Try.func22, Try.ntmps22
  go_wp2_with (first | ((with_reducible refine gate_dst (N := 2) rfl ?_); refine box_event (by rfl) (N := 2) (by rfl) (cs := #[.slice A0_0 l0_0.length c0_0, .int .i64 a0_1, .slice A0_2 l0_2.length c0_2]) (t := 34) Ybf_ ?_; intro gb0 hg w25 hbox hb; have BK0 := Aside0.mk (hbox); have GW0 := Aside0.mk ((by rw [hg]; exact (below_size Yb_) : w.heap.size ≤ gb0)); have GE0 := Aside0.mk ((by rw [hg]; exact (below_size Yb_) : w.heap.size ≤ gb0)); replace HB := Aside0.mk (below_step Yb_ hb); clear hb hbox hg) | ((with_reducible refine gate_dst (N := 3) rfl ?_); refine box_event (by rfl) (N := 3) (by rfl) (cs := #[.int .i64 a1_0, .int .i64 a1_1, .int .i64 a1_2]) (t := 43) Ybf_ ?_; intro gb1 hg w26 hbox hb; have BK1 := Aside0.mk (hbox); have GW1 := Aside0.mk ((by rw [hg]; exact (below_size Yd_) : w.heap.size ≤ gb1)); have GE1 := Aside0.mk ((by rw [hg]; exact (below_size Yd_) : w.heap.size ≤ gb1)); replace HB := Aside0.mk (below_step Yd_ hb); have NB0_1 := Aside0.mk ((by rw [hg]; exact Nat.ne_of_lt (blk_lt (g := gb0) (o := .cells #[.slice A0_0 l0_0.length c0_0, .int .i64 a0_1, .slice A0_2 l0_2.length c0_2] 34 (0, 0)) Yc_) : gb0 ≠ gb1)); have NB1_0 := Aside0.mk ((by rw [hg]; exact Nat.ne_of_gt (blk_lt (g := gb0) (o := .cells #[.slice A0_0 l0_0.length c0_0, .int .i64 a0_1, .slice A0_2 l0_2.length c0_2] 34 (0, 0)) Yc_) : gb1 ≠ gb0)); replace BK0 := Aside0.mk (blk_below (g := gb0) (o := .cells #[.slice A0_0 l0_0.length c0_0, .int .i64 a0_1, .slice A0_2 l0_2.length c0_2] 34 (0, 0)) Yc_ hb); clear hb hbox hg) | ((with_reducible refine gate_dst (N := 4) rfl ?_); refine box_event (by rfl) (N := 4) (by rfl) (cs := #[.slice none 0 0, .int .i64 0, .slice none 0 0]) (t := 34) Ybf_ ?_; intro gb2 hg w27 hbox hb; have BK2 := Aside0.mk (hbox); have GW2 := Aside0.mk ((by rw [hg]; exact (below_size Yf_) : w.heap.size ≤ gb2)); have GE2 := Aside0.mk ((by rw [hg]; exact (below_size Yf_) : w.heap.size ≤ gb2)); replace HB := Aside0.mk (below_step Yf_ hb); have NB0_2 := Aside0.mk ((by rw [hg]; exact Nat.ne_of_lt (blk_lt (g := gb0) (o := .cells #[.slice A0_0 l0_0.length c0_0, .int .i64 a0_1, .slice A0_2 l0_2.length c0_2] 34 (0, 0)) Yc_) : gb0 ≠ gb2)); have NB2_0 := Aside0.mk ((by rw [hg]; exact Nat.ne_of_gt (blk_lt (g := gb0) (o := .cells #[.slice A0_0 l0_0.length c0_0, .int .i64 a0_1, .slice A0_2 l0_2.length c0_2] 34 (0, 0)) Yc_) : gb2 ≠ gb0)); replace BK0 := Aside0.mk (blk_below (g := gb0) (o := .cells #[.slice A0_0 l0_0.length c0_0, .int .i64 a0_1, .slice A0_2 l0_2.length c0_2] 34 (0, 0)) Yc_ hb); have NB1_2 := Aside0.mk ((by rw [hg]; exact Nat.ne_of_lt (blk_lt (g := gb1) (o := .cells #[.int .i64 a1_0, .int .i64 a1_1, .int .i64 a1_2] 43 (0, 0)) Yg_) : gb1 ≠ gb2)); have NB2_1 := Aside0.mk ((by rw [hg]; exact Nat.ne_of_gt (blk_lt (g := gb1) (o := .cells #[.int .i64 a1_0, .int .i64 a1_1, .int .i64 a1_2] 43 (0, 0)) Yg_) : gb2 ≠ gb1)); replace BK1 := Aside0.mk (blk_below (g := gb1) (o := .cells #[.int .i64 a1_0, .int .i64 a1_1, .int .i64 a1_2] 43 (0, 0)) Yg_ hb); clear hb hbox hg; have hnb28 := NB0_1.out; have hnc28 := NB1_0.out; have hnb29 := NB0_2.out; have hnc29 := NB2_0.out; obtain ⟨hcz30_0, hcz30_1, hcz30_2⟩ := cl3_ BK0.out; obtain ⟨hfz30_0, hfz30_1, hfz30_2⟩ := fz3_ BK0.out) | (go_at_call 13; (with_reducible refine (impl_IsValidTerminal.calls k _ _ l0_0 a0_1 _ _ l0_2 false _ ?side1 ?side2 ?side3 ?side4 A3.out).mono ?_); (case side1 => repeat (first | exact (Kd.C_below HR0_0.out HB.out) | (with_reducible refine Kd.C_alloc ?_ _) | (with_reducible refine Kd.C_drewN ?_ _) | (with_reducible refine Kd.C_drew ?_))); (case side2 => exact HC0_0.out); (case side3 => repeat (first | exact (Kd.C_below HR0_2.out HB.out) | (with_reducible refine Kd.C_alloc ?_ _) | (with_reducible refine Kd.C_drewN ?_ _) | (with_reducible refine Kd.C_drew ?_))); (case side4 => exact HC0_2.out); rintro e w31 ⟨rfl, hb⟩; replace BK0 := Aside0.mk (blk_below (g := gb0) (o := .cells #[.slice A0_0 l0_0.length c0_0, .int .i64 a0_1, .slice A0_2 l0_2.length c0_2] 34 (0, 0)) Yc_ hb); replace BK1 := Aside0.mk (blk_below (g := gb1) (o := .cells #[.int .i64 a1_0, .int .i64 a1_1, .int .i64 a1_2] 43 (0, 0)) Yg_ hb); replace BK2 := Aside0.mk (blk_below (g := gb2) (o := .cells #[.slice none 0 0, .int .i64 0, .slice none 0 0] 34 (0, 0)) Ybd_ hb); replace HB := Aside0.mk (below_step Ye_ hb); (try clear hb); (try clear hb2); (try clear hk); (try clear hi); have hnb32 := NB2_1.out; have hnc32 := NB1_2.out; obtain ⟨hcz33_0, hcz33_1, hcz33_2⟩ := cl3_ BK2.out; obtain ⟨hfz33_0, hfz33_1, hfz33_2⟩ := fz3_ BK2.out))
  refine bodyPost_ret (Df rfl _ _ gb2 34 #[.slice none 0 0, .int .i64 0, .slice none 0 0] (0, 0) _ rfl Ydf_ Try.underlying34 rfl Ybb_) rfl ?_
  exact ⟨fun _ => True, _, _, Yi_, Ych_, Ych_, Ye_⟩
set_option maxRecDepth 100000 in
theorem Em.calls (k : Nat) (A0_0 : Option Addr) (c0_0 : Nat) (l0_0 : List (List Int)) (a0_1 : Int) (A0_2 : Option Addr) (c0_2 : Nat) (l0_2 : List (List Int)) (a1_0 : Int) (a1_1 : Int) (a1_2 : Int) (r1 : List (List Int)) (r2 : Int) (r3 : List (List Int)) (r4 : Bool) (w : World) (hr0_0 : Kd.C (Kd.slice 3 (Kd.int .i64)) w A0_0 l0_0.length l0_0) (hc0_0 : l0_0.length ≤ c0_0) (hr0_2 : Kd.C (Kd.slice 3 (Kd.int .i64)) w A0_2 l0_2.length l0_2) (hc0_2 : l0_2.length ≤ c0_2) (h : Em.f k l0_0 a0_1 l0_2 a1_0 a1_1 a1_2 = some (r1, r2, r3, r4)) :
  Calls Try.prog 22 #[.agg #[.slice A0_0 l0_0.length c0_0, .int .i64 a0_1, .slice A0_2 l0_2.length c0_2], .agg #[.int .i64 a1_0, .int .i64 a1_1, .int .i64 a1_2]] w fun e w' => ∃ v0_ v2_ : Value, e = .returned (.tuple #[.agg #[v0_, .int .i64 r2, v2_], .bool r4]) ∧ Kd.S (Kd.slice 3 (Kd.int .i64)) 73 w' w.heap.size (fun k_ => some k_ ≠ (v2_ : Value).ownBlock) v0_ r1 ∧ Kd.S (Kd.slice 3 (Kd.int .i64)) 73 w' w.heap.size (fun k_ => some k_ ≠ (v0_ : Value).ownBlock) v2_ r3 ∧ Below w.heap.size w w' := by
 refine (Em.calls2 k A0_0 c0_0 l0_0 a0_1 A0_2 c0_2 l0_2 a1_0 a1_1 a1_2 r1 r2 r3 r4 w hr0_0 hc0_0 hr0_2 hc0_2 h).mono ?_
 rintro e w' ⟨P_, v0_, v2_, he, h1, h2, hb⟩
 exact ⟨v0_, v2_, he, Kd.S_mono h1 (fun k_ hk e_ => ((Kd.S_R h2).1 k_ e_.symm) hk), Kd.S_mono h2 (fun k_ hk e_ => hk ((Kd.S_R h1).1 k_ e_.symm)), hb⟩
end Go.Proofs.Ytnggfglmjdiaaaa.X

namespace Go.Proofs.Ytnggfglmjdiaaaa.X
open Go.RowKit Go.Proofs.YtnggfglmjdiaaaaW.PrintWords Go.Proofs.YtnggfglmjdiaaaaL
theorem spec_l9Find_ev (h : Int) (l : List (List Int)) (n : Int) (hl : rowsOk l) : Ev (fun k => spec_l9Find.f k h l n) (findFrom 0 l n) := by
 have key : ∀ (d i : Nat), i + d = l.length → Ev (fun k => spec_l9Find.l0 k n i h l) (findFrom i (l.drop i) n) := by
  intro d
  induction d with
  | zero =>
   intro i hi
   rw [List.drop_of_length_le (by omega)]
   exact Ev.step (f := fun _ => some _) (fun k => by simp only [spec_l9Find.l0]; rw [if_neg (by omega)]; rfl) (Ev.now _)
  | succ d ih =>
   intro i hi
   have hil : i < l.length := by omega
   have hs := hl.2 _ (List.getElem_mem hil)
   have hl1 := hl.1
   rw [List.drop_eq_getElem_cons hil]
   unfold findFrom
   have inner : ∀ (e j : Nat), j + e = l[i].length → Ev (fun k => spec_l9Find.l1 k n i j h l) (if idxFrom j (l[i].drop j) n ≥ 0 then ((i : Int), idxFrom j (l[i].drop j) n) else findFrom (i + 1) (l.drop (i + 1)) n) := by
    intro e
    induction e with
    | zero =>
     intro j hj
     rw [List.drop_of_length_le (by omega)]
     refine Ev.step (fun k => ?_) (ih (i + 1) (by omega))
     simp only [spec_l9Find.l1]
     rw [if_pos (by omega), if_pos (by omega), rdR l i hil, if_neg (by omega), wrap_succ (by omega)]
    | succ e ih2 =>
     intro j hj
     have hjl : j < l[i].length := by omega
     rw [List.drop_eq_getElem_cons hjl]
     unfold idxFrom
     by_cases c : l[i][j] = n
     ·simp only [if_pos c, if_pos (show (j : Int) ≥ 0 by omega)]
      refine Ev.step (f := fun _ => some _) (fun k => ?_) (Ev.now _)
      simp only [spec_l9Find.l1]
      rw [if_pos (by omega), if_pos (by omega), rdR l i hil, if_pos (by omega), if_pos (by omega), rd_at l[i] j hjl, if_pos c]
     ·simp only [if_neg c]
      refine Ev.step (fun k => ?_) (ih2 (j + 1) (by omega))
      simp only [spec_l9Find.l1]
      rw [if_pos (by omega), if_pos (by omega), rdR l i hil, if_pos (by omega), if_pos (by omega), rd_at l[i] j hjl, if_neg c, wrap_succ (by omega)]
   refine Ev.step (fun k => ?_) (inner l[i].length 0 (by omega))
   simp only [spec_l9Find.l0]
   rw [if_pos (by omega)]
   rfl
 exact Ev.congr (f := fun k => spec_l9Find.l0 k n ((0 : Nat) : Int) h l) (fun k => rfl) (by simpa using key l.length 0 (by omega))
end Go.Proofs.Ytnggfglmjdiaaaa.X

