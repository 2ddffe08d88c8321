/- Texts that the proof of the law FnExactRunOrders leans on, part 3 of 7. -/
import Derived.WalkKit
import Derived.Maps.OwnOps
import Derived.Maps.Views
import Derived.Deep.Draws
import Derived.Lib.SliceRun
import Derived.Shelf.Abstract
import Derived.Test.YtnggfglmjdiaaaaKFnExactRunOrders1
set_option linter.unusedVariables false
set_option linter.unusedSimpArgs false
namespace Go.Proofs.Ytnggfglmjdiaaaa.X
open Go.RowKit Go.Proofs.YtnggfglmjdiaaaaW.PrintWords Go.Proofs.YtnggfglmjdiaaaaW.PrintLast Go.Proofs.YtnggfglmjdiaaaaW.PrintMore
attribute [local go_sem] max2_int min2_int max_two min_two max_three min_three max_four min_four
mutual
def Ak.l0 : Nat → List Int → Int → List (List Int) → Option (Bool)
 | 0, _, _, _ => none
 | k + 1, x3, x4, x116000 => if x4 < (x116000.length : Int) then (if 0 ≤ x4 then (if ((rd_L1 x116000 x4).length : Int) > 4 then (some false) else (Ak.l1 k x3 x4 0 x116000)) else (none)) else (some true)
def Ak.l1 : Nat → List Int → Int → Int → List (List Int) → Option (Bool)
 | 0, _, _, _, _ => none
 | k + 1, x3, x4, x5, x116000 => if 0 ≤ x4 then (if x4 < (x116000.length : Int) then (if x5 < ((rd_L1 x116000 x4).length : Int) then (if 0 ≤ x5 then ((Bi.f (rd (rd_L1 x116000 x4) x5) 1 99).bind fun t124 => (if t124 = true then ((Am.f k x3 (rd (rd_L1 x116000 x4) x5)).bind fun t125 => (if t125 = true then (some false) else (if x3.length < 17592186044416 then (Ak.l1 k (x3 ++ [rd (rd_L1 x116000 x4) x5]) x4 (wrap64 (x5 + 1)) x116000) else (none)))) else (some false))) else (none)) else (Ak.l0 k x3 (wrap64 (x4 + 1)) x116000)) else (none)) else (none)
end
def Ak.f (k : Nat) (l0_0 : List (List Int)) : Option (Bool) := (Bi.f (l0_0.length : Int) 1 6).bind fun t116 => (if t116 = true then (Ak.l0 k (([] : List Int)) 0 l0_0) else (some false))
theorem Ak.mono_l : ∀ k, (∀ y0 y1 y2, LeO (Ak.l0 k y0 y1 y2) (Ak.l0 (k + 1) y0 y1 y2)) ∧ (∀ y0 y1 y2 y3, LeO (Ak.l1 k y0 y1 y2 y3) (Ak.l1 (k + 1) y0 y1 y2 y3))
 | 0 => ⟨fun _ _ _ r h => by simp [Ak.l0] at h, fun _ _ _ _ r h => by simp [Ak.l1] at h⟩
 | k + 1 => by
  obtain ⟨ih0, ih1⟩ := Ak.mono_l k
  refine ⟨?_, ?_⟩
  ·intro y0 y1 y2
   unfold Ak.l0
   repeat' first
   | (with_reducible exact ih0 _ _ _)
   | (with_reducible exact ih1 _ _ _ _)
   | (with_reducible exact Am.mono _ _ _)
   | (with_reducible exact LeO.refl _)
   | (with_reducible exact LeO.none _)
   | (with_reducible refine LeO.ite ?_ ?_)
   | (with_reducible refine LeO.bind ?_ (fun _ => ?_))
   | exact ih0 _ _ _
   | exact ih1 _ _ _ _
   | exact Am.mono _ _ _
   | exact LeO.none _
   | refine LeO.ite ?_ ?_
   | refine LeO.bind ?_ (fun _ => ?_)
  ·intro y0 y1 y2 y3
   unfold Ak.l1
   repeat' first
   | (with_reducible exact ih0 _ _ _)
   | (with_reducible exact ih1 _ _ _ _)
   | (with_reducible exact Am.mono _ _ _)
   | (with_reducible exact LeO.refl _)
   | (with_reducible exact LeO.none _)
   | (with_reducible refine LeO.ite ?_ ?_)
   | (with_reducible refine LeO.bind ?_ (fun _ => ?_))
   | exact ih0 _ _ _
   | exact ih1 _ _ _ _
   | exact Am.mono _ _ _
   | exact LeO.none _
   | refine LeO.ite ?_ ?_
   | refine LeO.bind ?_ (fun _ => ?_)
theorem Ak.mono : ∀ a0 k, LeO (Ak.f k a0) (Ak.f (k + 1) a0) := by
 intro a0 k
 obtain ⟨ih0, ih1⟩ := Ak.mono_l k
 unfold Ak.f
 repeat' first
   | (with_reducible exact ih0 _ _ _)
   | (with_reducible exact ih1 _ _ _ _)
   | (with_reducible exact Am.mono _ _ _)
   | (with_reducible exact LeO.refl _)
   | (with_reducible exact LeO.none _)
   | (with_reducible refine LeO.ite ?_ ?_)
   | (with_reducible refine LeO.bind ?_ (fun _ => ?_))
   | exact ih0 _ _ _
   | exact ih1 _ _ _ _
   | exact Am.mono _ _ _
   | exact LeO.none _
   | refine LeO.ite ?_ ?_
   | refine LeO.bind ?_ (fun _ => ?_)
set_option maxHeartbeats 8000000 in
set_option maxRecDepth 100000 in
theorem Ak.calls (k : Nat) (A0_0 : Option Addr) (c0_0 : Nat) (l0_0 : List (List Int)) (r : Bool) (w : World) (hr0_0 : Kd.C (Kd.slice 3 (Kd.int .i64)) w A0_0 l0_0.length l0_0) (hc0_0 : l0_0.length ≤ c0_0) (h : Ak.f k l0_0 = some r) :
  Calls Try.prog 62 #[.agg #[.slice A0_0 l0_0.length c0_0]] w fun e w' => e = .returned (.bool r) ∧ Below w.heap.size w w' := by
 have hu31 := Try.underlying31
 have HR0_0 := Aside0.mk hr0_0
 have HC0_0 := Aside0.mk hc0_0
 clear hr0_0 hc0_0
 have HB := Aside0.mk (Below.refl w.heap.size w)
 have H : ((Bi.f (l0_0.length : Int) 1 6).bind fun t116 => (if t116 = true then (Ak.l0 k (([] : List Int)) 0 l0_0) else (some false))) = some r := h
 clear h
 replace H := Option.bind_eq_some_iff.mp H
 obtain ⟨t116, A20, H⟩ := H
 try dsimp only at H
 have A2 := Aside0.mk A20
 clear A20
 by_cases c3 : t116 = true
 ·subst c3
  have H1 : (Ak.l0 k (([] : List Int)) 0 l0_0) = some r := by rw [if_pos rfl] at H; exact H
  clear H
  have H := H1
  clear H1
  obtain ⟨y117, hy117⟩ : ∃ y_ : List Int, y_ = (([] : List Int)) := ⟨_, rfl⟩
  replace H : (Ak.l0 k y117 0 l0_0) = some r := by first | (rw [hy117]; with_reducible exact H) | (have H2_ := (Option.bind_some _ _).symm.trans H; rw [hy117]; with_reducible exact H2_) | (have H2_ := (Option.bind_some _ _).symm.trans H; with_reducible exact H2_) | with_reducible exact H | (rw [hy117]; exact H) | exact H
  have Ny117 := Aside0.mk hy117
  clear hy117
  have H' := Aside0.mk H
  clear H
  go_enter Try.func62, Try.ntmps62
  go_wp2_with (first | ((with_reducible refine gate_dst (N := 1) rfl ?_); refine box_event (by rfl) (N := 1) (by rfl) (cs := #[.slice A0_0 l0_0.length c0_0]) (t := 31) Ybf_ ?_; intro gb0 hg w4 hbox hb; have BK0 := Aside0.mk (hbox); have GW0 := Aside0.mk ((by rw [hg]; exact (below_size Yb_) : w.heap.size ≤ gb0)); have GE0 := Aside0.mk ((by rw [hg]; exact (below_size Yb_) : w.heap.size ≤ gb0)); replace HB := Aside0.mk (below_step Yb_ hb); clear hb hbox hg; have hcz5_0 : w4.cell? ⟨gb0, 0, none⟩ = some (.slice A0_0 l0_0.length c0_0) := (blk_cell BK0.out 0).trans rfl; have hfz5_0 := blk_frozen BK0.out 0) | ((with_reducible refine gate_callee (f := 71) rfl ?_); refine goesL_ (some 10) rfl rfl Try.func71 Ybb_ rfl #[.int .i64 (l0_0.length : Int), .int .i64 1, .int .i64 6] rfl Yj_ ?_; (with_reducible refine (Bi.calls (l0_0.length : Int) 1 6 true _ A2.out).mono ?_); rintro e w' ⟨rfl, ⟨nd, rfl⟩⟩; refine ⟨_, rfl, ?_⟩) | ((with_reducible refine gate_dst (N := 12) rfl ?_); refine Kd.R_lit (Kd.int .i64) _ 3 ?hg (N := 12) ?hd (xs := ([] : List Int)) (inner := []) (ok := fun _ => True) (okp := fun _ => True) ?hr ?hp (fun _ hk => hk) trivial (Below.refl _ _) (Nat.le_refl _) (by simp) ?_; (case hd => rfl); (case hg => rfl); (case hr => first | (go_simp; done) | (go_simp; rfl)); (case hp => exact (Reps.none _ _)); intro v118 w6 ho7 hb hg_ hnew_; clear hg_ hnew_; (first | rw [← Ny117.out] at ho7 | (simp only [Int.reduceToNat] at ho7; rw [← Ny117.out] at ho7)); have HO119 := Aside0.mk (Kd.R_lower ho7 (below_size Yd_)); replace BK0 := Aside0.mk (blk_below (g := gb0) (o := .cells #[.slice A0_0 l0_0.length c0_0] 31 (0, 0)) Yc_ hb); replace HB := Aside0.mk (below_step Yd_ hb); clear hb ho7))
  go_loopg [3, 4] k (fun kq v3 v4 w' => ∃ (x3_1 : List Int) (x4_1 : Int), v4 = .int .i64 x4_1 ∧ Aside0 (Ak.l0 kq x3_1 x4_1 l0_0 = some r) ∧ Aside0 (kq ≤ k) ∧ Aside0 (Kd.R (Kd.int .i64) 3 w' w.heap.size (fun _ => True) v3 x3_1) ∧ Aside0 (w'.heap[gb0]? = some (.cells #[(.slice A0_0 l0_0.length c0_0)] 31 (0, 0))) ∧ Aside0 (Below w.heap.size w w'))
  case atStart => exact ⟨(y117), (0), Ybe_, H', ⟨Nat.le_refl _⟩, ⟨by (with_reducible repeat (first | apply Kd.R_alloc | apply Kd.R_drewN | apply Kd.R_drew)); exact HO119.out⟩, ⟨by (with_reducible repeat (first | apply blk_drewN | apply blk_drew | apply blk_alloc)); exact BK0.out⟩, ⟨by repeat (first | (with_reducible first | exact HB.out | apply below_alloc | apply pw_below_drewN | apply below_drew1 | refine below_set ?_ GE0.out) | exact HB.out)⟩⟩
  case round =>
   clear H'
   try clear p2; try clear c3; try clear c6; try clear c7; try clear hcz5_0; try clear hfz5_0
   obtain ⟨x3_1, x4_1, rfl, HA, HK1, HO_3, BK0, HB⟩ := hrel
   cases gk with
   | zero => exact absurd HA.out (by simp [Ak.l0])
   | succ k1 =>
    have H := HA.out
    clear HA
    simp only [Ak.l0] at H
    by_cases c8 : x4_1 < (l0_0.length : Int)
    ·rw [if_pos c8] at H
     have c8b0 : decide (x4_1 < (l0_0.length : Int)) = true := decide_eq_true c8
     clear c8
     by_cases c9 : 0 ≤ x4_1
     ·rw [if_pos c9] at H
      have c9b0 : decide (0 ≤ x4_1) = true := decide_eq_true c9
      clear c9
      by_cases c10 : ((rd_L1 l0_0 x4_1).length : Int) > 4
      ·rw [if_pos c10] at H
       have c10b0 : decide (4 < ((rd_L1 l0_0 x4_1).length : Int)) = true := decide_eq_true c10
       have c10b1 : decide (4 < (rd_L1 l0_0 x4_1).length) = true := decide_eq_true (by omega)
       clear c10
       obtain rfl := Option.some.inj H
       have hcz11_0 : wr.cell? ⟨gb0, 0, none⟩ = some (.slice A0_0 l0_0.length c0_0) := (blk_cell BK0.out 0).trans rfl
       have hfz11_0 := blk_frozen BK0.out 0
       have p120 : 0 ≤ (x4_1 : Int) := of_decide_eq_true Yh_
       have q120 : x4_1 < (l0_0.length : Int) := of_decide_eq_true Yh_
       obtain ⟨ad120, A120_0, c120_0, e120, hx120_0, hl120_0, hi120_0⟩ := Cj HR0_0.out x4_1 p120 q120
       cases e120
       replace hx120_0 := (HB.out.cell (World.block_lt_of_cell? w _ hx120_0)).trans hx120_0
       have HR120_0 := Aside0.mk hi120_0
       have HC120_0 := Aside0.mk hl120_0
       clear hi120_0 hl120_0
       replace p120 := eq_true p120
       replace q120 := eq_true q120
       go_wp2
       go_ret
       exact ⟨Yi_, Yd_⟩
      ·rw [if_neg c10] at H
       have c10b0 : decide (4 < ((rd_L1 l0_0 x4_1).length : Int)) = false := decide_eq_false c10
       have c10b1 : decide (4 < (rd_L1 l0_0 x4_1).length) = false := decide_eq_false (by omega)
       clear c10
       have H' := Aside0.mk H
       clear H
       have hcz12_0 : wr.cell? ⟨gb0, 0, none⟩ = some (.slice A0_0 l0_0.length c0_0) := (blk_cell BK0.out 0).trans rfl
       have hfz12_0 := blk_frozen BK0.out 0
       have p120 : 0 ≤ (x4_1 : Int) := of_decide_eq_true Yh_
       have q120 : x4_1 < (l0_0.length : Int) := of_decide_eq_true Yh_
       obtain ⟨ad120, A120_0, c120_0, e120, hx120_0, hl120_0, hi120_0⟩ := Cj HR0_0.out x4_1 p120 q120
       cases e120
       replace hx120_0 := (HB.out.cell (World.block_lt_of_cell? w _ hx120_0)).trans hx120_0
       have HR120_0 := Aside0.mk hi120_0
       have HC120_0 := Aside0.mk hl120_0
       clear hi120_0 hl120_0
       replace p120 := eq_true p120
       replace q120 := eq_true q120
       go_wp2
       go_loopg [3, 5] k1 (fun kq v3 v5 w' => ∃ (x3_2 : List Int) (x5_2 : Int), v5 = .int .i64 x5_2 ∧ Aside0 (Ak.l1 kq x3_2 x4_1 x5_2 l0_0 = some r) ∧ Aside0 (kq ≤ k1) ∧ Aside0 (Kd.R (Kd.int .i64) 3 w' w.heap.size (fun _ => True) v3 x3_2) ∧ Aside0 (w'.heap[gb0]? = some (.cells #[(.slice (some ad120) l0_0.length c0_0)] 31 (0, 0))) ∧ Aside0 (Below w.heap.size w w'))
       case atStart => exact ⟨(x3_1), (0), Ybe_, H', ⟨Nat.le_refl _⟩, ⟨by (with_reducible repeat (first | apply Kd.R_alloc | apply Kd.R_drewN | apply Kd.R_drew)); exact HO_3.out⟩, ⟨by (with_reducible repeat (first | apply blk_drewN | apply blk_drew | apply blk_alloc)); exact BK0.out⟩, ⟨by repeat (first | (with_reducible first | exact HB.out | apply below_alloc | apply pw_below_drewN | apply below_drew1 | refine below_set ?_ GE0.out) | exact HB.out)⟩⟩
       case round =>
        clear H'
        try clear c1; try clear p1; try clear q1; try clear hx1; try clear p2; try clear c3; try clear c6; try clear c7; try clear c8; try clear c8b0; try clear c9; try clear c9b0; try clear c10; try clear c10b0; try clear c10b1; try clear c12; try clear p12; try clear q12; try clear hx12; try clear hcz11_0; try clear hcz12_0; try clear hcz5_0; try clear hfz11_0; try clear hfz12_0; try clear hfz5_0; try clear hx120_0; try clear p120; try clear p2; try clear q120
        obtain ⟨x3_2, x5_2, rfl, HA, HK2, HO_3, BK0, HB⟩ := hrel
        cases gk with
        | zero => exact absurd HA.out (by simp [Ak.l1])
        | succ k2 =>
         have H := HA.out
         clear HA
         simp only [Ak.l1] at H
         by_cases c13 : 0 ≤ x4_1
         ·rw [if_pos c13] at H
          have c13b0 : decide (0 ≤ x4_1) = true := decide_eq_true c13
          clear c13
          by_cases c14 : x4_1 < (l0_0.length : Int)
          ·rw [if_pos c14] at H
           have c14b0 : decide (x4_1 < (l0_0.length : Int)) = true := decide_eq_true c14
           clear c14
           by_cases c15 : x5_2 < ((rd_L1 l0_0 x4_1).length : Int)
           ·rw [if_pos c15] at H
            have c15b0 : decide (x5_2 < ((rd_L1 l0_0 x4_1).length : Int)) = true := decide_eq_true c15
            clear c15
            by_cases c16 : 0 ≤ x5_2
            ·rw [if_pos c16] at H
             have c16b0 : decide (0 ≤ x5_2) = true := decide_eq_true c16
             clear c16
             replace H := Option.bind_eq_some_iff.mp H
             obtain ⟨t124, A170, H⟩ := H
             try dsimp only at H
             have A17 := Aside0.mk A170
             clear A170
             by_cases c18 : t124 = true
             ·subst c18
              have H1 : ((Am.f k2 x3_2 (rd (rd_L1 l0_0 x4_1) x5_2)).bind fun t125 => (if t125 = true then (some false) else (if x3_2.length < 17592186044416 then (Ak.l1 k2 (x3_2 ++ [rd (rd_L1 l0_0 x4_1) x5_2]) x4_1 (wrap64 (x5_2 + 1)) l0_0) else (none)))) = some r := by rw [if_pos rfl] at H; exact H
              clear H
              have H := H1
              clear H1
              replace H := Option.bind_eq_some_iff.mp H
              obtain ⟨t125, A190, H⟩ := H
              try dsimp only at H
              have A19 := Aside0.mk A190
              clear A190
              by_cases c20 : t125 = true
              ·subst c20
               have H1 : (some false) = some r := by rw [if_pos rfl] at H; exact H
               clear H
               have H := H1
               clear H1
               obtain rfl := Option.some.inj H
               have hcz21_0 : wr.cell? ⟨gb0, 0, none⟩ = some (.slice (some ad120) l0_0.length c0_0) := (blk_cell BK0.out 0).trans rfl
               have hfz21_0 := blk_frozen BK0.out 0
               have p121 : 0 ≤ (x4_1 : Int) := of_decide_eq_true Yh_
               have q121 : x4_1 < (l0_0.length : Int) := of_decide_eq_true Yh_
               obtain ⟨ad121, A121_0, c121_0, e121, hx121_0, hl121_0, hi121_0⟩ := Cj HR0_0.out x4_1 p121 q121
               obtain rfl : ad120 = ad121 := (by injection e121)
               replace hx121_0 := (HB.out.cell (World.block_lt_of_cell? w _ hx121_0)).trans hx121_0
               have HR121_0 := Aside0.mk hi121_0
               have HC121_0 := Aside0.mk hl121_0
               clear hi121_0 hl121_0
               replace p121 := eq_true p121
               replace q121 := eq_true q121
               have p122 : 0 ≤ (x4_1 : Int) := of_decide_eq_true Yh_
               have q122 : x4_1 < (l0_0.length : Int) := of_decide_eq_true Yh_
               obtain ⟨ad122, A122_0, c122_0, e122, hx122_0, hl122_0, hi122_0⟩ := Cj HR0_0.out x4_1 p122 q122
               obtain rfl : ad120 = ad122 := (by injection e122)
               replace hx122_0 := (HB.out.cell (World.block_lt_of_cell? w _ hx122_0)).trans hx122_0
               have HR122_0 := Aside0.mk hi122_0
               have HC122_0 := Aside0.mk hl122_0
               clear hi122_0 hl122_0
               replace p122 := eq_true p122
               replace q122 := eq_true q122
               have ea_ := Option.some.inj (hx121_0.symm.trans hx122_0)
               injection ea_ with ea_ en_ ec_
               subst ea_
               subst ec_
               clear en_
               have p123 : 0 ≤ (x5_2 : Int) := of_decide_eq_true Yh_
               have q123 : x5_2 < ((rd_L1 l0_0 x4_1).length : Int) := of_decide_eq_true Yh_
               obtain ⟨ad123, e123, hx123_0⟩ := Kd.Dw HR122_0.out x5_2 p123 q123
               cases e123
               replace hx123_0 := (HB.out.cell (World.block_lt_of_cell? w _ hx123_0)).trans hx123_0
               replace p123 := eq_true p123
               replace q123 := eq_true q123
               go_wp2_with (first | (go_at_call 71; (with_reducible refine (Bi.calls (rd (rd_L1 l0_0 x4_1) x5_2) 1 99 true _ A17.out).mono ?_); rintro e w' ⟨rfl, ⟨nd, rfl⟩⟩; obtain ⟨Ao22, co22, eo22⟩ := Kd.Dc HO_3.out; subst eo22) | (go_at_call 83; (with_reducible refine (Am.calls k2 _ _ x3_2 (rd (rd_L1 l0_0 x4_1) x5_2) true _ ?side1 ?side2 A19.out).mono ?_); (case side1 => repeat (first | exact (Kd.Bo HO_3.out).2.2 | (with_reducible refine Kd.C_alloc ?_ _) | (with_reducible refine Kd.C_drewN ?_ _) | (with_reducible refine Kd.C_drew ?_))); (case side2 => exact (Kd.Bo HO_3.out).2.1); rintro e w' ⟨rfl, ⟨nd, rfl⟩⟩))
               go_ret
               exact ⟨Yi_, Yd_⟩
              ·replace c20 := Bool.eq_false_iff.mpr c20
               subst c20
               have H1 : (if x3_2.length < 17592186044416 then (Ak.l1 k2 (x3_2 ++ [rd (rd_L1 l0_0 x4_1) x5_2]) x4_1 (wrap64 (x5_2 + 1)) l0_0) else (none)) = some r := by rw [if_neg (show ¬ (false = true) by decide)] at H; exact H
               clear H
               have H := H1
               clear H1
               by_cases c23 : x3_2.length < 17592186044416
               ·rw [if_pos c23] at H
                have LMc23 := Aside0.mk c23
                clear c23
                obtain ⟨y126, hy126⟩ : ∃ y_ : List Int, y_ = (x3_2 ++ [rd (rd_L1 l0_0 x4_1) x5_2]) := ⟨_, rfl⟩
                replace H : (Ak.l1 k2 y126 x4_1 (wrap64 (x5_2 + 1)) l0_0) = some r := by first | (rw [hy126]; with_reducible exact H) | (have H2_ := (Option.bind_some _ _).symm.trans H; rw [hy126]; with_reducible exact H2_) | (have H2_ := (Option.bind_some _ _).symm.trans H; with_reducible exact H2_) | with_reducible exact H | (rw [hy126]; exact H) | exact H
                have Ny126 := Aside0.mk hy126
                clear hy126
                have H' := Aside0.mk H
                clear H
                have hcz24_0 : wr.cell? ⟨gb0, 0, none⟩ = some (.slice (some ad120) l0_0.length c0_0) := (blk_cell BK0.out 0).trans rfl
                have hfz24_0 := blk_frozen BK0.out 0
                have p121 : 0 ≤ (x4_1 : Int) := of_decide_eq_true Yh_
                have q121 : x4_1 < (l0_0.length : Int) := of_decide_eq_true Yh_
                obtain ⟨ad121, A121_0, c121_0, e121, hx121_0, hl121_0, hi121_0⟩ := Cj HR0_0.out x4_1 p121 q121
                obtain rfl : ad120 = ad121 := (by injection e121)
                replace hx121_0 := (HB.out.cell (World.block_lt_of_cell? w _ hx121_0)).trans hx121_0
                have HR121_0 := Aside0.mk hi121_0
                have HC121_0 := Aside0.mk hl121_0
                clear hi121_0 hl121_0
                replace p121 := eq_true p121
                replace q121 := eq_true q121
                have p122 : 0 ≤ (x4_1 : Int) := of_decide_eq_true Yh_
                have q122 : x4_1 < (l0_0.length : Int) := of_decide_eq_true Yh_
                obtain ⟨ad122, A122_0, c122_0, e122, hx122_0, hl122_0, hi122_0⟩ := Cj HR0_0.out x4_1 p122 q122
                obtain rfl : ad120 = ad122 := (by injection e122)
                replace hx122_0 := (HB.out.cell (World.block_lt_of_cell? w _ hx122_0)).trans hx122_0
                have HR122_0 := Aside0.mk hi122_0
                have HC122_0 := Aside0.mk hl122_0
                clear hi122_0 hl122_0
                replace p122 := eq_true p122
                replace q122 := eq_true q122
                have ea_ := Option.some.inj (hx121_0.symm.trans hx122_0)
                injection ea_ with ea_ en_ ec_
                subst ea_
                subst ec_
                clear en_
                have p123 : 0 ≤ (x5_2 : Int) := of_decide_eq_true Yh_
                have q123 : x5_2 < ((rd_L1 l0_0 x4_1).length : Int) := of_decide_eq_true Yh_
                obtain ⟨ad123, e123, hx123_0⟩ := Kd.Dw HR122_0.out x5_2 p123 q123
                cases e123
                replace hx123_0 := (HB.out.cell (World.block_lt_of_cell? w _ hx123_0)).trans hx123_0
                replace p123 := eq_true p123
                replace q123 := eq_true q123
                go_wp2_with (first | (go_at_call 71; (with_reducible refine (Bi.calls (rd (rd_L1 l0_0 x4_1) x5_2) 1 99 true _ A17.out).mono ?_); rintro e w' ⟨rfl, ⟨nd, rfl⟩⟩; obtain ⟨Ao25, co25, eo25⟩ := Kd.Dc HO_3.out; subst eo25) | (go_at_call 83; (with_reducible refine (Am.calls k2 _ _ x3_2 (rd (rd_L1 l0_0 x4_1) x5_2) false _ ?side1 ?side2 A19.out).mono ?_); (case side1 => repeat (first | exact (Kd.Bo HO_3.out).2.2 | (with_reducible refine Kd.C_alloc ?_ _) | (with_reducible refine Kd.C_drewN ?_ _) | (with_reducible refine Kd.C_drew ?_))); (case side2 => exact (Kd.Bo HO_3.out).2.1); rintro e w' ⟨rfl, ⟨nd, rfl⟩⟩) | ((with_reducible refine F5 (b := .append) (xs := #[.tmp 53, .tmp 55]) rfl ?_); at_builtin; refine Kd.R_append (Kd.int .i64) (w0 := w) w.heap.size rfl (.tmp 53) (.tmp 55) 73 3 (.int .i64 0) 8 rfl Try.underlying73 info3 rfl (by decide) (by omega) (.slice Ao25 x3_2.length co25) x3_2 (rd (rd_L1 l0_0 x4_1) x5_2) [.int .i64 (rd (rd_L1 l0_0 x4_1) x5_2)] (fun _ => True) (fun _ => False) rfl rfl ?aP (fun _ hk => hk.elim) ?aF ?aO ?aB ?aS ?aL ?_; (case aP => exact rfl); (case aB => exact Yd_); (case aF => exact (fun _ _ => trivial)); (case aO => exact Ydc_); (case aS => exact (below_size Yd_)); (case aL => have := LMc23.out; omega); intro v127 w26 ho hb hg hat; rw [← Ny126.out] at ho; replace BK0 := Aside0.mk (C9 (g := gb0) (o := .cells #[.slice (some ad120) l0_0.length c0_0] 31 (0, 0)) Yc_ hg (Kd.R_ne HO_3.out BK0.out (by decide))); replace HB := Aside0.mk (hb); have HO128 := Aside0.mk (ho); clear HO_3; clear ho hb hg hat))
                go_roundg k2
                case measure => have := HK1.out; have := HK2.out; omega
                case rel => exact ⟨(y126), (wrap64 (x5_2 + 1)), Ybe_, H', ⟨by have := HK1.out; have := HK2.out; omega⟩, ⟨by (with_reducible repeat (first | apply Kd.R_alloc | apply Kd.R_drewN | apply Kd.R_drew)); exact HO128.out⟩, ⟨by (with_reducible repeat (first | apply blk_drewN | apply blk_drew | apply blk_alloc)); exact BK0.out⟩, ⟨by repeat (first | (with_reducible first | exact HB.out | apply below_alloc | apply pw_below_drewN | apply below_drew1 | refine below_set ?_ GE0.out) | exact HB.out)⟩⟩
               ·rw [if_neg c23] at H
                exact absurd H (by simp)
             ·replace c18 := Bool.eq_false_iff.mpr c18
              subst c18
              have H1 : (some false) = some r := by rw [if_neg (show ¬ (false = true) by decide)] at H; exact H
              clear H
              have H := H1
              clear H1
              obtain rfl := Option.some.inj H
              have hcz27_0 : wr.cell? ⟨gb0, 0, none⟩ = some (.slice (some ad120) l0_0.length c0_0) := (blk_cell BK0.out 0).trans rfl
              have hfz27_0 := blk_frozen BK0.out 0
              have p121 : 0 ≤ (x4_1 : Int) := of_decide_eq_true Yh_
              have q121 : x4_1 < (l0_0.length : Int) := of_decide_eq_true Yh_
              obtain ⟨ad121, A121_0, c121_0, e121, hx121_0, hl121_0, hi121_0⟩ := Cj HR0_0.out x4_1 p121 q121
              obtain rfl : ad120 = ad121 := (by injection e121)
              replace hx121_0 := (HB.out.cell (World.block_lt_of_cell? w _ hx121_0)).trans hx121_0
              have HR121_0 := Aside0.mk hi121_0
              have HC121_0 := Aside0.mk hl121_0
              clear hi121_0 hl121_0
              replace p121 := eq_true p121
              replace q121 := eq_true q121
              have p122 : 0 ≤ (x4_1 : Int) := of_decide_eq_true Yh_
              have q122 : x4_1 < (l0_0.length : Int) := of_decide_eq_true Yh_
              obtain ⟨ad122, A122_0, c122_0, e122, hx122_0, hl122_0, hi122_0⟩ := Cj HR0_0.out x4_1 p122 q122
              obtain rfl : ad120 = ad122 := (by injection e122)
              replace hx122_0 := (HB.out.cell (World.block_lt_of_cell? w _ hx122_0)).trans hx122_0
              have HR122_0 := Aside0.mk hi122_0
              have HC122_0 := Aside0.mk hl122_0
              clear hi122_0 hl122_0
              replace p122 := eq_true p122
              replace q122 := eq_true q122
              have ea_ := Option.some.inj (hx121_0.symm.trans hx122_0)
              injection ea_ with ea_ en_ ec_
              subst ea_
              subst ec_
              clear en_
              have p123 : 0 ≤ (x5_2 : Int) := of_decide_eq_true Yh_
              have q123 : x5_2 < ((rd_L1 l0_0 x4_1).length : Int) := of_decide_eq_true Yh_
              obtain ⟨ad123, e123, hx123_0⟩ := Kd.Dw HR122_0.out x5_2 p123 q123
              cases e123
              replace hx123_0 := (HB.out.cell (World.block_lt_of_cell? w _ hx123_0)).trans hx123_0
              replace p123 := eq_true p123
              replace q123 := eq_true q123
              go_wp2_with (first | ((with_reducible refine gate_callee (f := 71) rfl ?_); refine goesL_ (some 46) rfl rfl Try.func71 Ybb_ rfl #[.int .i64 (rd (rd_L1 l0_0 x4_1) x5_2), .int .i64 1, .int .i64 99] rfl Yj_ ?_; (with_reducible refine (Bi.calls (rd (rd_L1 l0_0 x4_1) x5_2) 1 99 false _ A17.out).mono ?_); rintro e w' ⟨rfl, ⟨nd, rfl⟩⟩; refine ⟨_, rfl, ?_⟩))
              go_ret
              exact ⟨Yi_, Yd_⟩
            ·rw [if_neg c16] at H
             exact absurd H (by simp)
           ·rw [if_neg c15] at H
            have c15b0 : decide (x5_2 < ((rd_L1 l0_0 x4_1).length : Int)) = false := decide_eq_false c15
            clear c15
            have H' := Aside0.mk H
            clear H
            have hcz28_0 : wr.cell? ⟨gb0, 0, none⟩ = some (.slice (some ad120) l0_0.length c0_0) := (blk_cell BK0.out 0).trans rfl
            have hfz28_0 := blk_frozen BK0.out 0
            have p121 : 0 ≤ (x4_1 : Int) := of_decide_eq_true Yh_
            have q121 : x4_1 < (l0_0.length : Int) := of_decide_eq_true Yh_
            obtain ⟨ad121, A121_0, c121_0, e121, hx121_0, hl121_0, hi121_0⟩ := Cj HR0_0.out x4_1 p121 q121
            obtain rfl : ad120 = ad121 := (by injection e121)
            replace hx121_0 := (HB.out.cell (World.block_lt_of_cell? w _ hx121_0)).trans hx121_0
            have HR121_0 := Aside0.mk hi121_0
            have HC121_0 := Aside0.mk hl121_0
            clear hi121_0 hl121_0
            replace p121 := eq_true p121
            replace q121 := eq_true q121
            go_wp2
            go_roundg k2
            case measure => have := HK1.out; have := HK2.out; omega
            case rel => exact ⟨(x3_2), (wrap64 (x4_1 + 1)), Ybe_, H', ⟨by have := HK1.out; have := HK2.out; omega⟩, ⟨by (with_reducible repeat (first | apply Kd.R_alloc | apply Kd.R_drewN | apply Kd.R_drew)); exact HO_3.out⟩, ⟨by (with_reducible repeat (first | apply blk_drewN | apply blk_drew | apply blk_alloc)); exact BK0.out⟩, ⟨by repeat (first | (with_reducible first | exact HB.out | apply below_alloc | apply pw_below_drewN | apply below_drew1 | refine below_set ?_ GE0.out) | exact HB.out)⟩⟩
          ·rw [if_neg c14] at H
           exact absurd H (by simp)
         ·rw [if_neg c13] at H
          exact absurd H (by simp)
     ·rw [if_neg c9] at H
      exact absurd H (by simp)
    ·rw [if_neg c8] at H
     have c8b0 : decide (x4_1 < (l0_0.length : Int)) = false := decide_eq_false c8
     clear c8
     obtain rfl := Option.some.inj H
     have hcz29_0 : wr.cell? ⟨gb0, 0, none⟩ = some (.slice A0_0 l0_0.length c0_0) := (blk_cell BK0.out 0).trans rfl
     have hfz29_0 := blk_frozen BK0.out 0
     go_wp2
     go_ret
     exact ⟨Yi_, Yd_⟩
 ·replace c3 := Bool.eq_false_iff.mpr c3
  subst c3
  have H1 : (some false) = some r := by rw [if_neg (show ¬ (false = true) by decide)] at H; exact H
  clear H
  have H := H1
  clear H1
  obtain rfl := Option.some.inj H
  go_enter Try.func62, Try.ntmps62
  go_wp2_with (first | ((with_reducible refine gate_dst (N := 1) rfl ?_); refine box_event (by rfl) (N := 1) (by rfl) (cs := #[.slice A0_0 l0_0.length c0_0]) (t := 31) Ybf_ ?_; intro gb0 hg w30 hbox hb; have BK0 := Aside0.mk (hbox); have GW0 := Aside0.mk ((by rw [hg]; exact (below_size Yb_) : w.heap.size ≤ gb0)); have GE0 := Aside0.mk ((by rw [hg]; exact (below_size Yb_) : w.heap.size ≤ gb0)); replace HB := Aside0.mk (below_step Yb_ hb); clear hb hbox hg; have hcz31_0 : w30.cell? ⟨gb0, 0, none⟩ = some (.slice A0_0 l0_0.length c0_0) := (blk_cell BK0.out 0).trans rfl; have hfz31_0 := blk_frozen BK0.out 0) | ((with_reducible refine gate_callee (f := 71) rfl ?_); refine goesL_ (some 10) rfl rfl Try.func71 Ybb_ rfl #[.int .i64 (l0_0.length : Int), .int .i64 1, .int .i64 6] rfl Yj_ ?_; (with_reducible refine (Bi.calls (l0_0.length : Int) 1 6 false _ A2.out).mono ?_); rintro e w' ⟨rfl, ⟨nd, rfl⟩⟩; refine ⟨_, rfl, ?_⟩))
  go_ret
  exact ⟨Yi_, Yd_⟩
mutual
def Ae.j0 : Nat → Bool → Int → List (List Int) → Option (Bool)
 | 0, _, _, _ => none
 | k + 1, x17, x130000, x130001 => if x17 = true then (some false) else (Ae.l0 k (([] : List Int)) 0 x130000 x130001)
def Ae.l0 : Nat → List Int → Int → Int → List (List Int) → Option (Bool)
 | 0, _, _, _, _ => none
 | k + 1, x3, x4, x130000, x130001 => if x4 < (x130001.length : Int) then (if 0 ≤ x4 then (if ((rd_L1 x130001 x4).length : Int) > x130000 then (some false) else (Ae.l1 k x3 x4 0 x130000 x130001)) else (none)) else (some true)
def Ae.l1 : Nat → List Int → Int → Int → Int → List (List Int) → Option (Bool)
 | 0, _, _, _, _, _ => none
 | k + 1, x3, x4, x5, x130000, x130001 => if 0 ≤ x4 then (if x4 < (x130001.length : Int) then (if x5 < ((rd_L1 x130001 x4).length : Int) then (if 0 ≤ x5 then ((Bi.f (rd (rd_L1 x130001 x4) x5) 1 99).bind fun t139 => (if t139 = true then ((Am.f k x3 (rd (rd_L1 x130001 x4) x5)).bind fun t140 => (if t140 = true then (some false) else (if x3.length < 17592186044416 then (Ae.l1 k (x3 ++ [rd (rd_L1 x130001 x4) x5]) x4 (wrap64 (x5 + 1)) x130000 x130001) else (none)))) else (some false))) else (none)) else (Ae.l0 k x3 (wrap64 (x4 + 1)) x130000 x130001)) else (none)) else (none)
end
def Ae.f (k : Nat) (a0_0 : Int) (l0_1 : List (List Int)) : Option (Bool) := (Bi.f a0_0 1 4).bind fun t130 => (if t130 = true then ((Bi.f (l0_1.length : Int) 1 5).bind fun t131 => (Ae.j0 k (!t131) a0_0 l0_1)) else (Ae.j0 k true a0_0 l0_1))
theorem Ae.mono_l : ∀ k, (∀ y0 y1 y2, LeO (Ae.j0 k y0 y1 y2) (Ae.j0 (k + 1) y0 y1 y2)) ∧ (∀ y0 y1 y2 y3, LeO (Ae.l0 k y0 y1 y2 y3) (Ae.l0 (k + 1) y0 y1 y2 y3)) ∧ (∀ y0 y1 y2 y3 y4, LeO (Ae.l1 k y0 y1 y2 y3 y4) (Ae.l1 (k + 1) y0 y1 y2 y3 y4))
 | 0 => ⟨fun _ _ _ r h => by simp [Ae.j0] at h, fun _ _ _ _ r h => by simp [Ae.l0] at h, fun _ _ _ _ _ r h => by simp [Ae.l1] at h⟩
 | k + 1 => by
  obtain ⟨ih0, ih1, ih2⟩ := Ae.mono_l k
  refine ⟨?_, ?_, ?_⟩
  ·intro y0 y1 y2
   unfold Ae.j0
   repeat' first
   | (with_reducible exact ih0 _ _ _)
   | (with_reducible exact ih1 _ _ _ _)
   | (with_reducible exact ih2 _ _ _ _ _)
   | (with_reducible exact Am.mono _ _ _)
   | (with_reducible exact LeO.refl _)
   | (with_reducible exact LeO.none _)
   | (with_reducible refine LeO.ite ?_ ?_)
   | (with_reducible refine LeO.bind ?_ (fun _ => ?_))
   | exact ih0 _ _ _
   | exact ih1 _ _ _ _
   | exact ih2 _ _ _ _ _
   | exact Am.mono _ _ _
   | exact LeO.none _
   | refine LeO.ite ?_ ?_
   | refine LeO.bind ?_ (fun _ => ?_)
  ·intro y0 y1 y2 y3
   unfold Ae.l0
   repeat' first
   | (with_reducible exact ih0 _ _ _)
   | (with_reducible exact ih1 _ _ _ _)
   | (with_reducible exact ih2 _ _ _ _ _)
   | (with_reducible exact Am.mono _ _ _)
   | (with_reducible exact LeO.refl _)
   | (with_reducible exact LeO.none _)
   | (with_reducible refine LeO.ite ?_ ?_)
   | (with_reducible refine LeO.bind ?_ (fun _ => ?_))
   | exact ih0 _ _ _
   | exact ih1 _ _ _ _
   | exact ih2 _ _ _ _ _
   | exact Am.mono _ _ _
   | exact LeO.none _
   | refine LeO.ite ?_ ?_
   | refine LeO.bind ?_ (fun _ => ?_)
  ·intro y0 y1 y2 y3 y4
   unfold Ae.l1
   repeat' first
   | (with_reducible exact ih0 _ _ _)
   | (with_reducible exact ih1 _ _ _ _)
   | (with_reducible exact ih2 _ _ _ _ _)
   | (with_reducible exact Am.mono _ _ _)
   | (with_reducible exact LeO.refl _)
   | (with_reducible exact LeO.none _)
   | (with_reducible refine LeO.ite ?_ ?_)
   | (with_reducible refine LeO.bind ?_ (fun _ => ?_))
   | exact ih0 _ _ _
   | exact ih1 _ _ _ _
   | exact ih2 _ _ _ _ _
   | exact Am.mono _ _ _
   | exact LeO.none _
   | refine LeO.ite ?_ ?_
   | refine LeO.bind ?_ (fun _ => ?_)
theorem Ae.mono : ∀ a0 a1 k, LeO (Ae.f k a0 a1) (Ae.f (k + 1) a0 a1) := by
 intro a0 a1 k
 obtain ⟨ih0, ih1, ih2⟩ := Ae.mono_l k
 unfold Ae.f
 repeat' first
   | (with_reducible exact ih0 _ _ _)
   | (with_reducible exact ih1 _ _ _ _)
   | (with_reducible exact ih2 _ _ _ _ _)
   | (with_reducible exact Am.mono _ _ _)
   | (with_reducible exact LeO.refl _)
   | (with_reducible exact LeO.none _)
   | (with_reducible refine LeO.ite ?_ ?_)
   | (with_reducible refine LeO.bind ?_ (fun _ => ?_))
   | exact ih0 _ _ _
   | exact ih1 _ _ _ _
   | exact ih2 _ _ _ _ _
   | exact Am.mono _ _ _
   | exact LeO.none _
   | refine LeO.ite ?_ ?_
   | refine LeO.bind ?_ (fun _ => ?_)
set_option maxHeartbeats 8000000 in
set_option maxRecDepth 100000 in
theorem Ae.calls (k : Nat) (a0_0 : Int) (A0_1 : Option Addr) (c0_1 : Nat) (l0_1 : List (List Int)) (r : Bool) (w : World) (hr0_1 : Kd.C (Kd.slice 3 (Kd.int .i64)) w A0_1 l0_1.length l0_1) (hc0_1 : l0_1.length ≤ c0_1) (h : Ae.f k a0_0 l0_1 = some r) :
  Calls Try.prog 63 #[.agg #[.int .i64 a0_0, .slice A0_1 l0_1.length c0_1]] w fun e w' => e = .returned (.bool r) ∧ Below w.heap.size w w' := by
 have hu32 := Try.underlying32
 have HR0_1 := Aside0.mk hr0_1
 have HC0_1 := Aside0.mk hc0_1
 clear hr0_1 hc0_1
 have HB := Aside0.mk (Below.refl w.heap.size w)
 have H : ((Bi.f a0_0 1 4).bind fun t130 => (if t130 = true then ((Bi.f (l0_1.length : Int) 1 5).bind fun t131 => (Ae.j0 k (!t131) a0_0 l0_1)) else (Ae.j0 k true a0_0 l0_1))) = some r := h
 clear h
 have HC2 := Aside0.mk H
 clear H
 go_enter Try.func63, Try.ntmps63
 go_upto_region 1 with (first | ((with_reducible refine gate_dst (N := 1) rfl ?_); (try (refine gate_guard (by rfl) ?_; dsimp only)); refine box_event (by rfl) (N := 1) (by rfl) (cs := #[.int .i64 a0_0, .slice A0_1 l0_1.length c0_1]) (t := 32) Ybf_ ?_; intro gb0 hg w3 hbox hb; have BK0 := Aside0.mk (hbox); have GW0 := Aside0.mk ((by rw [hg]; exact (below_size Yb_) : w.heap.size ≤ gb0)); have GE0 := Aside0.mk ((by rw [hg]; exact (below_size Yb_) : w.heap.size ≤ gb0)); replace HB := Aside0.mk (below_step Yb_ hb); clear hb hbox hg))
 repeat (go_quiet (first | ((with_reducible refine gate_dst (N := 1) rfl ?_); (try (refine gate_guard (by rfl) ?_; dsimp only)); refine box_event (by rfl) (N := 1) (by rfl) (cs := #[.int .i64 a0_0, .slice A0_1 l0_1.length c0_1]) (t := 32) Ybf_ ?_; intro gb0 hg w3 hbox hb; have n0_ := Aside0.mk (below_step Yb_ hb); have n1_ := Aside0.mk (hbox); have n2_ := Aside0.mk ((by rw [hg]; exact (below_size Yb_) : w.heap.size ≤ gb0)); have n3_ := Aside0.mk ((by rw [hg]; exact (below_size Yb_) : w.heap.size ≤ gb0)); clear HB; have HB := n0_; have BK0 := n1_; have GW0 := n2_; have GE0 := n3_; clear n0_ n1_ n2_ n3_; clear hb hbox hg)); go_upto_region 1 with (first | ((with_reducible refine gate_dst (N := 1) rfl ?_); (try (refine gate_guard (by rfl) ?_; dsimp only)); refine box_event (by rfl) (N := 1) (by rfl) (cs := #[.int .i64 a0_0, .slice A0_1 l0_1.length c0_1]) (t := 32) Ybf_ ?_; intro gb0 hg w3 hbox hb; have n0_ := Aside0.mk (below_step Yb_ hb); have n1_ := Aside0.mk (hbox); have n2_ := Aside0.mk ((by rw [hg]; exact (below_size Yb_) : w.heap.size ≤ gb0)); have n3_ := Aside0.mk ((by rw [hg]; exact (below_size Yb_) : w.heap.size ≤ gb0)); clear HB; have HB := n0_; have BK0 := n1_; have GW0 := n2_; have GE0 := n3_; clear n0_ n1_ n2_ n3_; clear hb hbox hg)))
 (try simp only [Act.put, List.setIfInBounds_toArray, List.set_cons_zero, List.set_cons_succ])
 go_cut [17] (fun v17 wc => ∃ (kq : Nat) (x17_1 : Bool), v17 = .bool x17_1 ∧ Aside0 (Ae.j0 kq x17_1 a0_0 l0_1 = some r) ∧ Aside0 (kq ≤ k) ∧ Aside0 (wc.heap[gb0]? = some (.cells #[.int .i64 a0_0, (.slice A0_1 l0_1.length c0_1)] 32 (0, 0))) ∧ Aside0 (Below w.heap.size w wc))
 case first =>
  have H := HC2.out
  clear HC2
  replace H := Option.bind_eq_some_iff.mp H
  obtain ⟨t130, A40, H⟩ := H
  try dsimp only at H
  have A4 := Aside0.mk A40
  clear A40
  by_cases c5 : t130 = true
  ·subst c5
   have H1 : ((Bi.f (l0_1.length : Int) 1 5).bind fun t131 => (Ae.j0 k (!t131) a0_0 l0_1)) = some r := by rw [if_pos rfl] at H; exact H
   clear H
   have H := H1
   clear H1
   replace H := Option.bind_eq_some_iff.mp H
   obtain ⟨t131, A60, H⟩ := H
   try dsimp only at H
   have A6 := Aside0.mk A60
   clear A60
   have H' := Aside0.mk H
   clear H
   obtain ⟨hcz7_0, hcz7_1⟩ := cl2_ BK0.out
   obtain ⟨hfz7_0, hfz7_1⟩ := fz2_ BK0.out
   go_wp2_with (first | (go_at_call 71; (with_reducible refine (Bi.calls a0_0 1 4 true _ A4.out).mono ?_); rintro e w' ⟨rfl, ⟨nd, rfl⟩⟩; (try first | exact ⟨rfl, _, World.drewN_drewN _ _ _⟩ | exact ⟨rfl, _, Eq.trans (World.drewN_drewN _ _ _) (congrArg (World.drewN _) (Nat.add_assoc _ _ _))⟩)) | (go_at_call 71; (with_reducible refine (Bi.calls (l0_1.length : Int) 1 5 t131 _ A6.out).mono ?_); rintro e w' ⟨rfl, ⟨nd, rfl⟩⟩; (try first | exact ⟨rfl, _, World.drewN_drewN _ _ _⟩ | exact ⟨rfl, _, Eq.trans (World.drewN_drewN _ _ _) (congrArg (World.drewN _) (Nat.add_assoc _ _ _))⟩)))
   repeat (go_quiet (first | (go_at_call 71; (with_reducible refine (Bi.calls a0_0 1 4 true _ A4.out).mono ?_); rintro e w' ⟨rfl, ⟨nd, rfl⟩⟩; (try first | exact ⟨rfl, _, World.drewN_drewN _ _ _⟩ | exact ⟨rfl, _, Eq.trans (World.drewN_drewN _ _ _) (congrArg (World.drewN _) (Nat.add_assoc _ _ _))⟩)) | (go_at_call 71; (with_reducible refine (Bi.calls (l0_1.length : Int) 1 5 t131 _ A6.out).mono ?_); rintro e w' ⟨rfl, ⟨nd, rfl⟩⟩; (try first | exact ⟨rfl, _, World.drewN_drewN _ _ _⟩ | exact ⟨rfl, _, Eq.trans (World.drewN_drewN _ _ _) (congrArg (World.drewN _) (Nat.add_assoc _ _ _))⟩))); try go_wp2_with (first | (go_at_call 71; (with_reducible refine (Bi.calls a0_0 1 4 true _ A4.out).mono ?_); rintro e w' ⟨rfl, ⟨nd, rfl⟩⟩; (try first | exact ⟨rfl, _, World.drewN_drewN _ _ _⟩ | exact ⟨rfl, _, Eq.trans (World.drewN_drewN _ _ _) (congrArg (World.drewN _) (Nat.add_assoc _ _ _))⟩)) | (go_at_call 71; (with_reducible refine (Bi.calls (l0_1.length : Int) 1 5 t131 _ A6.out).mono ?_); rintro e w' ⟨rfl, ⟨nd, rfl⟩⟩; (try first | exact ⟨rfl, _, World.drewN_drewN _ _ _⟩ | exact ⟨rfl, _, Eq.trans (World.drewN_drewN _ _ _) (congrArg (World.drewN _) (Nat.add_assoc _ _ _))⟩))))
   go_meet
   case rel => exact ⟨_, (!t131), Ybe_, H', ⟨by first | omega | exact Nat.le_refl _⟩, ⟨by (with_reducible repeat (first | apply blk_drewN | apply blk_drew | apply blk_alloc)); exact BK0.out⟩, ⟨by repeat (first | (with_reducible first | exact HB.out | apply below_alloc | apply pw_below_drewN | apply below_drew1 | refine below_set ?_ GE0.out) | exact HB.out)⟩⟩
  ·replace c5 := Bool.eq_false_iff.mpr c5
   subst c5
   have H1 : (Ae.j0 k true a0_0 l0_1) = some r := by rw [if_neg (show ¬ (false = true) by decide)] at H; exact H
   clear H
   have H := H1
   clear H1
   have H' := Aside0.mk H
   clear H
   obtain ⟨hcz8_0, hcz8_1⟩ := cl2_ BK0.out
   obtain ⟨hfz8_0, hfz8_1⟩ := fz2_ BK0.out
   go_wp2_with (first | (go_at_call 71; (with_reducible refine (Bi.calls a0_0 1 4 false _ A4.out).mono ?_); rintro e w' ⟨rfl, ⟨nd, rfl⟩⟩; (try first | exact ⟨rfl, _, World.drewN_drewN _ _ _⟩ | exact ⟨rfl, _, Eq.trans (World.drewN_drewN _ _ _) (congrArg (World.drewN _) (Nat.add_assoc _ _ _))⟩)))
   repeat (go_quiet (first | (go_at_call 71; (with_reducible refine (Bi.calls a0_0 1 4 false _ A4.out).mono ?_); rintro e w' ⟨rfl, ⟨nd, rfl⟩⟩; (try first | exact ⟨rfl, _, World.drewN_drewN _ _ _⟩ | exact ⟨rfl, _, Eq.trans (World.drewN_drewN _ _ _) (congrArg (World.drewN _) (Nat.add_assoc _ _ _))⟩))); try go_wp2_with (first | (go_at_call 71; (with_reducible refine (Bi.calls a0_0 1 4 false _ A4.out).mono ?_); rintro e w' ⟨rfl, ⟨nd, rfl⟩⟩; (try first | exact ⟨rfl, _, World.drewN_drewN _ _ _⟩ | exact ⟨rfl, _, Eq.trans (World.drewN_drewN _ _ _) (congrArg (World.drewN _) (Nat.add_assoc _ _ _))⟩))))
   go_meet
   case rel => exact ⟨_, (true), Ybe_, H', ⟨by first | omega | exact Nat.le_refl _⟩, ⟨by (with_reducible repeat (first | apply blk_drewN | apply blk_drew | apply blk_alloc)); exact BK0.out⟩, ⟨by repeat (first | (with_reducible first | exact HB.out | apply below_alloc | apply pw_below_drewN | apply below_drew1 | refine below_set ?_ GE0.out) | exact HB.out)⟩⟩
 case rest =>
  clear HC2
  try clear p2; try clear c5; try clear c6; try clear hcz7_0; try clear hcz7_1; try clear hcz8_0; try clear hcz8_1; try clear hfz7_0; try clear hfz7_1; try clear hfz8_0; try clear hfz8_1
  obtain ⟨kq, x17_1, rfl, HA, HJ1, BK0, HB⟩ := hcut
  cases kq with
  | zero => exact absurd HA.out (by simp [Ae.j0])
  | succ kj1 =>
   have H := HA.out
   clear HA
   simp only [Ae.j0] at H
   by_cases c9 : x17_1 = true
   ·subst c9
    have H1 : (some false) = some r := by rw [if_pos rfl] at H; exact H
    clear H
    have H := H1
    clear H1
    obtain rfl := Option.some.inj H
    go_wp2
    repeat (go_quiet (fail); try go_wp2)
    go_ret
    exact ⟨Yi_, Yd_⟩
   ·replace c9 := Bool.eq_false_iff.mpr c9
    subst c9
    have H1 : (Ae.l0 kj1 (([] : List Int)) 0 a0_0 l0_1) = some r := by rw [if_neg (show ¬ (false = true) by decide)] at H; exact H
    clear H
    have H := H1
    clear H1
    obtain ⟨y132, hy132⟩ : ∃ y_ : List Int, y_ = (([] : List Int)) := ⟨_, rfl⟩
    replace H : (Ae.l0 kj1 y132 0 a0_0 l0_1) = some r := by first | (rw [hy132]; with_reducible exact H) | (have H2_ := (Option.bind_some _ _).symm.trans H; rw [hy132]; with_reducible exact H2_) | (have H2_ := (Option.bind_some _ _).symm.trans H; with_reducible exact H2_) | with_reducible exact H | (rw [hy132]; exact H) | exact H
    have Ny132 := Aside0.mk hy132
    clear hy132
    have H' := Aside0.mk H
    clear H
    go_wp2_with (first | ((with_reducible refine gate_dst (N := 18) rfl ?_); (try (refine gate_guard (by rfl) ?_; dsimp only)); refine Kd.R_lit (Kd.int .i64) _ 3 ?hg (N := 18) ?hd (xs := ([] : List Int)) (inner := []) (ok := fun _ => True) (okp := fun _ => True) ?hr ?hp (fun _ hk => hk) trivial (Below.refl _ _) (Nat.le_refl _) (by simp) ?_; (case hd => rfl); (case hg => rfl); (case hr => first | (go_simp; done) | (go_simp; rfl)); (case hp => exact (Reps.none _ _)); intro v133 w10 ho11 hb hg_ hnew_; clear hg_ hnew_; (first | rw [← Ny132.out] at ho11 | (simp only [Int.reduceToNat] at ho11; rw [← Ny132.out] at ho11)); have HO134 := Aside0.mk (Kd.R_lower ho11 (below_size Yd_)); replace BK0 := Aside0.mk (blk_below (g := gb0) (o := .cells #[.int .i64 a0_0, .slice A0_1 l0_1.length c0_1] 32 (0, 0)) Yc_ hb); replace HB := Aside0.mk (below_step Yd_ hb); clear hb ho11))
    repeat (go_quiet (first | ((with_reducible refine gate_dst (N := 18) rfl ?_); (try (refine gate_guard (by rfl) ?_; dsimp only)); refine Kd.R_lit (Kd.int .i64) _ 3 ?hg (N := 18) ?hd (xs := ([] : List Int)) (inner := []) (ok := fun _ => True) (okp := fun _ => True) ?hr ?hp (fun _ hk => hk) trivial (Below.refl _ _) (Nat.le_refl _) (by simp) ?_; (case hd => rfl); (case hg => rfl); (case hr => first | (go_simp; done) | (go_simp; rfl)); (case hp => exact (Reps.none _ _)); intro v133 w10 ho11 hb hg_ hnew_; clear hg_ hnew_; (first | rw [← Ny132.out] at ho11 | (simp only [Int.reduceToNat] at ho11; rw [← Ny132.out] at ho11)); have n0_ := Aside0.mk (Kd.R_lower ho11 (below_size Yd_)); have n1_ := Aside0.mk (blk_below (g := gb0) (o := .cells #[.int .i64 a0_0, .slice A0_1 l0_1.length c0_1] 32 (0, 0)) Yc_ hb); have n2_ := Aside0.mk (below_step Yd_ hb); clear BK0; clear HB; have HO134 := n0_; have BK0 := n1_; have HB := n2_; clear n0_ n1_ n2_; clear hb ho11)); try go_wp2_with (first | ((with_reducible refine gate_dst (N := 18) rfl ?_); (try (refine gate_guard (by rfl) ?_; dsimp only)); refine Kd.R_lit (Kd.int .i64) _ 3 ?hg (N := 18) ?hd (xs := ([] : List Int)) (inner := []) (ok := fun _ => True) (okp := fun _ => True) ?hr ?hp (fun _ hk => hk) trivial (Below.refl _ _) (Nat.le_refl _) (by simp) ?_; (case hd => rfl); (case hg => rfl); (case hr => first | (go_simp; done) | (go_simp; rfl)); (case hp => exact (Reps.none _ _)); intro v133 w10 ho11 hb hg_ hnew_; clear hg_ hnew_; (first | rw [← Ny132.out] at ho11 | (simp only [Int.reduceToNat] at ho11; rw [← Ny132.out] at ho11)); have n0_ := Aside0.mk (Kd.R_lower ho11 (below_size Yd_)); have n1_ := Aside0.mk (blk_below (g := gb0) (o := .cells #[.int .i64 a0_0, .slice A0_1 l0_1.length c0_1] 32 (0, 0)) Yc_ hb); have n2_ := Aside0.mk (below_step Yd_ hb); clear BK0; clear HB; have HO134 := n0_; have BK0 := n1_; have HB := n2_; clear n0_ n1_ n2_; clear hb ho11)))
    go_loopg [3, 4] kj1 (fun kq v3 v4 w' => ∃ (x3_2 : List Int) (x4_2 : Int), v4 = .int .i64 x4_2 ∧ Aside0 (Ae.l0 kq x3_2 x4_2 a0_0 l0_1 = some r) ∧ Aside0 (kq ≤ kj1) ∧ Aside0 (Kd.R (Kd.int .i64) 3 w' w.heap.size (fun _ => True) v3 x3_2) ∧ Aside0 (w'.heap[gb0]? = some (.cells #[.int .i64 a0_0, (.slice A0_1 l0_1.length c0_1)] 32 (0, 0))) ∧ Aside0 (Below w.heap.size w w'))
    case atStart => exact ⟨(y132), (0), Ybe_, H', ⟨Nat.le_refl _⟩, ⟨by (with_reducible repeat (first | apply Kd.R_alloc | apply Kd.R_drewN | apply Kd.R_drew)); exact HO134.out⟩, ⟨by (with_reducible repeat (first | apply blk_drewN | apply blk_drew | apply blk_alloc)); exact BK0.out⟩, ⟨by repeat (first | (with_reducible first | exact HB.out | apply below_alloc | apply pw_below_drewN | apply below_drew1 | refine below_set ?_ GE0.out) | exact HB.out)⟩⟩
    case round =>
     clear H'
     try clear p2; try clear c5; try clear c6; try clear c9; try clear hcz7_0; try clear hcz7_1; try clear hcz8_0; try clear hcz8_1; try clear hfz7_0; try clear hfz7_1; try clear hfz8_0; try clear hfz8_1; try clear p2
     obtain ⟨x3_2, x4_2, rfl, HA, HK2, HO_3, BK0, HB⟩ := hrel
     cases gk with
     | zero => exact absurd HA.out (by simp [Ae.l0])
     | succ k2 =>
      have H := HA.out
      clear HA
      simp only [Ae.l0] at H
      by_cases c12 : x4_2 < (l0_1.length : Int)
      ·rw [if_pos c12] at H
       have c12b0 : decide (x4_2 < (l0_1.length : Int)) = true := decide_eq_true c12
       clear c12
       by_cases c13 : 0 ≤ x4_2
       ·rw [if_pos c13] at H
        have c13b0 : decide (0 ≤ x4_2) = true := decide_eq_true c13
        clear c13
        by_cases c14 : ((rd_L1 l0_1 x4_2).length : Int) > a0_0
        ·rw [if_pos c14] at H
         have c14b0 : decide (a0_0 < ((rd_L1 l0_1 x4_2).length : Int)) = true := decide_eq_true c14
         clear c14
         obtain rfl := Option.some.inj H
         obtain ⟨hcz15_0, hcz15_1⟩ := cl2_ BK0.out
         obtain ⟨hfz15_0, hfz15_1⟩ := fz2_ BK0.out
         have p135 : 0 ≤ (x4_2 : Int) := of_decide_eq_true Yh_
         have q135 : x4_2 < (l0_1.length : Int) := of_decide_eq_true Yh_
         obtain ⟨ad135, A135_0, c135_0, e135, hx135_0, hl135_0, hi135_0⟩ := Cj HR0_1.out x4_2 p135 q135
         cases e135
         replace hx135_0 := (HB.out.cell (World.block_lt_of_cell? w _ hx135_0)).trans hx135_0
         have HR135_0 := Aside0.mk hi135_0
         have HC135_0 := Aside0.mk hl135_0
         clear hi135_0 hl135_0
         replace p135 := eq_true p135
         replace q135 := eq_true q135
         go_wp2
         repeat (go_quiet (fail); try go_wp2)
         go_ret
         exact ⟨Yi_, Yd_⟩
        ·rw [if_neg c14] at H
         have c14b0 : decide (a0_0 < ((rd_L1 l0_1 x4_2).length : Int)) = false := decide_eq_false c14
         clear c14
         have H' := Aside0.mk H
         clear H
         obtain ⟨hcz16_0, hcz16_1⟩ := cl2_ BK0.out
         obtain ⟨hfz16_0, hfz16_1⟩ := fz2_ BK0.out
         have p135 : 0 ≤ (x4_2 : Int) := of_decide_eq_true Yh_
         have q135 : x4_2 < (l0_1.length : Int) := of_decide_eq_true Yh_
         obtain ⟨ad135, A135_0, c135_0, e135, hx135_0, hl135_0, hi135_0⟩ := Cj HR0_1.out x4_2 p135 q135
         cases e135
         replace hx135_0 := (HB.out.cell (World.block_lt_of_cell? w _ hx135_0)).trans hx135_0
         have HR135_0 := Aside0.mk hi135_0
         have HC135_0 := Aside0.mk hl135_0
         clear hi135_0 hl135_0
         replace p135 := eq_true p135
         replace q135 := eq_true q135
         go_wp2
         repeat (go_quiet (fail); try go_wp2)
         go_loopg [3, 5] k2 (fun kq v3 v5 w' => ∃ (x3_3 : List Int) (x5_3 : Int), v5 = .int .i64 x5_3 ∧ Aside0 (Ae.l1 kq x3_3 x4_2 x5_3 a0_0 l0_1 = some r) ∧ Aside0 (kq ≤ k2) ∧ Aside0 (Kd.R (Kd.int .i64) 3 w' w.heap.size (fun _ => True) v3 x3_3) ∧ Aside0 (w'.heap[gb0]? = some (.cells #[.int .i64 a0_0, (.slice (some ad135) l0_1.length c0_1)] 32 (0, 0))) ∧ Aside0 (Below w.heap.size w w'))
         case atStart => exact ⟨(x3_2), (0), Ybe_, H', ⟨Nat.le_refl _⟩, ⟨by (with_reducible repeat (first | apply Kd.R_alloc | apply Kd.R_drewN | apply Kd.R_drew)); exact HO_3.out⟩, ⟨by (with_reducible repeat (first | apply blk_drewN | apply blk_drew | apply blk_alloc)); exact BK0.out⟩, ⟨by repeat (first | (with_reducible first | exact HB.out | apply below_alloc | apply pw_below_drewN | apply below_drew1 | refine below_set ?_ GE0.out) | exact HB.out)⟩⟩
         case round =>
          clear H'
          try clear c1; try clear p1; try clear q1; try clear hx1; try clear p2; try clear c5; try clear c6; try clear c9; try clear c12; try clear c12b0; try clear c13; try clear c13b0; try clear p13; try clear q13; try clear hx13; try clear c14; try clear c14b0; try clear hcz15_0; try clear hcz15_1; try clear hcz16_0; try clear hcz16_1; try clear hcz7_0; try clear hcz7_1; try clear hcz8_0; try clear hcz8_1; try clear hfz15_0; try clear hfz15_1; try clear hfz16_0; try clear hfz16_1; try clear hfz7_0; try clear hfz7_1; try clear hfz8_0; try clear hfz8_1; try clear hx135_0; try clear p135; try clear p2; try clear q135
          obtain ⟨x3_3, x5_3, rfl, HA, HK3, HO_3, BK0, HB⟩ := hrel
          cases gk with
          | zero => exact absurd HA.out (by simp [Ae.l1])
          | succ k3 =>
           have H := HA.out
           clear HA
           simp only [Ae.l1] at H
           by_cases c17 : 0 ≤ x4_2
           ·rw [if_pos c17] at H
            have c17b0 : decide (0 ≤ x4_2) = true := decide_eq_true c17
            clear c17
            by_cases c18 : x4_2 < (l0_1.length : Int)
            ·rw [if_pos c18] at H
             have c18b0 : decide (x4_2 < (l0_1.length : Int)) = true := decide_eq_true c18
             clear c18
             by_cases c19 : x5_3 < ((rd_L1 l0_1 x4_2).length : Int)
             ·rw [if_pos c19] at H
              have c19b0 : decide (x5_3 < ((rd_L1 l0_1 x4_2).length : Int)) = true := decide_eq_true c19
              clear c19
              by_cases c20 : 0 ≤ x5_3
              ·rw [if_pos c20] at H
               have c20b0 : decide (0 ≤ x5_3) = true := decide_eq_true c20
               clear c20
               replace H := Option.bind_eq_some_iff.mp H
               obtain ⟨t139, A210, H⟩ := H
               try dsimp only at H
               have A21 := Aside0.mk A210
               clear A210
               by_cases c22 : t139 = true
               ·subst c22
                have H1 : ((Am.f k3 x3_3 (rd (rd_L1 l0_1 x4_2) x5_3)).bind fun t140 => (if t140 = true then (some false) else (if x3_3.length < 17592186044416 then (Ae.l1 k3 (x3_3 ++ [rd (rd_L1 l0_1 x4_2) x5_3]) x4_2 (wrap64 (x5_3 + 1)) a0_0 l0_1) else (none)))) = some r := by rw [if_pos rfl] at H; exact H
                clear H
                have H := H1
                clear H1
                replace H := Option.bind_eq_some_iff.mp H
                obtain ⟨t140, A230, H⟩ := H
                try dsimp only at H
                have A23 := Aside0.mk A230
                clear A230
                by_cases c24 : t140 = true
                ·subst c24
                 have H1 : (some false) = some r := by rw [if_pos rfl] at H; exact H
                 clear H
                 have H := H1
                 clear H1
                 obtain rfl := Option.some.inj H
                 obtain ⟨hcz25_0, hcz25_1⟩ := cl2_ BK0.out
                 obtain ⟨hfz25_0, hfz25_1⟩ := fz2_ BK0.out
                 have p136 : 0 ≤ (x4_2 : Int) := of_decide_eq_true Yh_
                 have q136 : x4_2 < (l0_1.length : Int) := of_decide_eq_true Yh_
                 obtain ⟨ad136, A136_0, c136_0, e136, hx136_0, hl136_0, hi136_0⟩ := Cj HR0_1.out x4_2 p136 q136
                 obtain rfl : ad135 = ad136 := (by injection e136)
                 replace hx136_0 := (HB.out.cell (World.block_lt_of_cell? w _ hx136_0)).trans hx136_0
                 have HR136_0 := Aside0.mk hi136_0
                 have HC136_0 := Aside0.mk hl136_0
                 clear hi136_0 hl136_0
                 replace p136 := eq_true p136
                 replace q136 := eq_true q136
                 have p137 : 0 ≤ (x4_2 : Int) := of_decide_eq_true Yh_
                 have q137 : x4_2 < (l0_1.length : Int) := of_decide_eq_true Yh_
                 obtain ⟨ad137, A137_0, c137_0, e137, hx137_0, hl137_0, hi137_0⟩ := Cj HR0_1.out x4_2 p137 q137
                 obtain rfl : ad135 = ad137 := (by injection e137)
                 replace hx137_0 := (HB.out.cell (World.block_lt_of_cell? w _ hx137_0)).trans hx137_0
                 have HR137_0 := Aside0.mk hi137_0
                 have HC137_0 := Aside0.mk hl137_0
                 clear hi137_0 hl137_0
                 replace p137 := eq_true p137
                 replace q137 := eq_true q137
                 have ea_ := Option.some.inj (hx136_0.symm.trans hx137_0)
                 injection ea_ with ea_ en_ ec_
                 subst ea_
                 subst ec_
                 clear en_
                 have p138 : 0 ≤ (x5_3 : Int) := of_decide_eq_true Yh_
                 have q138 : x5_3 < ((rd_L1 l0_1 x4_2).length : Int) := of_decide_eq_true Yh_
                 obtain ⟨ad138, e138, hx138_0⟩ := Kd.Dw HR137_0.out x5_3 p138 q138
                 cases e138
                 replace hx138_0 := (HB.out.cell (World.block_lt_of_cell? w _ hx138_0)).trans hx138_0
                 replace p138 := eq_true p138
                 replace q138 := eq_true q138
                 go_wp2_with (first | (go_at_call 71; (with_reducible refine (Bi.calls (rd (rd_L1 l0_1 x4_2) x5_3) 1 99 true _ A21.out).mono ?_); rintro e w' ⟨rfl, ⟨nd, rfl⟩⟩; (try first | exact ⟨rfl, _, World.drewN_drewN _ _ _⟩ | exact ⟨rfl, _, Eq.trans (World.drewN_drewN _ _ _) (congrArg (World.drewN _) (Nat.add_assoc _ _ _))⟩); obtain ⟨Ao26, co26, eo26⟩ := Kd.Dc HO_3.out; subst eo26) | (go_at_call 83; (with_reducible refine (Am.calls k3 _ _ x3_3 (rd (rd_L1 l0_1 x4_2) x5_3) true _ ?side1 ?side2 A23.out).mono ?_); (case side1 => repeat (first | exact (Kd.Bo HO_3.out).2.2 | (with_reducible refine Kd.C_alloc ?_ _) | (with_reducible refine Kd.C_drewN ?_ _) | (with_reducible refine Kd.C_drew ?_))); (case side2 => exact (Kd.Bo HO_3.out).2.1); rintro e w' ⟨rfl, ⟨nd, rfl⟩⟩; (try first | exact ⟨rfl, _, World.drewN_drewN _ _ _⟩ | exact ⟨rfl, _, Eq.trans (World.drewN_drewN _ _ _) (congrArg (World.drewN _) (Nat.add_assoc _ _ _))⟩)))
                 repeat (go_quiet (first | (go_at_call 71; (with_reducible refine (Bi.calls (rd (rd_L1 l0_1 x4_2) x5_3) 1 99 true _ A21.out).mono ?_); rintro e w' ⟨rfl, ⟨nd, rfl⟩⟩; (try first | exact ⟨rfl, _, World.drewN_drewN _ _ _⟩ | exact ⟨rfl, _, Eq.trans (World.drewN_drewN _ _ _) (congrArg (World.drewN _) (Nat.add_assoc _ _ _))⟩); obtain ⟨Ao26, co26, eo26⟩ := Kd.Dc HO_3.out; subst eo26) | (go_at_call 83; (with_reducible refine (Am.calls k3 _ _ x3_3 (rd (rd_L1 l0_1 x4_2) x5_3) true _ ?side1 ?side2 A23.out).mono ?_); (case side1 => repeat (first | exact (Kd.Bo HO_3.out).2.2 | (with_reducible refine Kd.C_alloc ?_ _) | (with_reducible refine Kd.C_drewN ?_ _) | (with_reducible refine Kd.C_drew ?_))); (case side2 => exact (Kd.Bo HO_3.out).2.1); rintro e w' ⟨rfl, ⟨nd, rfl⟩⟩; (try first | exact ⟨rfl, _, World.drewN_drewN _ _ _⟩ | exact ⟨rfl, _, Eq.trans (World.drewN_drewN _ _ _) (congrArg (World.drewN _) (Nat.add_assoc _ _ _))⟩))); try go_wp2_with (first | (go_at_call 71; (with_reducible refine (Bi.calls (rd (rd_L1 l0_1 x4_2) x5_3) 1 99 true _ A21.out).mono ?_); rintro e w' ⟨rfl, ⟨nd, rfl⟩⟩; (try first | exact ⟨rfl, _, World.drewN_drewN _ _ _⟩ | exact ⟨rfl, _, Eq.trans (World.drewN_drewN _ _ _) (congrArg (World.drewN _) (Nat.add_assoc _ _ _))⟩); obtain ⟨Ao26, co26, eo26⟩ := Kd.Dc HO_3.out; subst eo26) | (go_at_call 83; (with_reducible refine (Am.calls k3 _ _ x3_3 (rd (rd_L1 l0_1 x4_2) x5_3) true _ ?side1 ?side2 A23.out).mono ?_); (case side1 => repeat (first | exact (Kd.Bo HO_3.out).2.2 | (with_reducible refine Kd.C_alloc ?_ _) | (with_reducible refine Kd.C_drewN ?_ _) | (with_reducible refine Kd.C_drew ?_))); (case side2 => exact (Kd.Bo HO_3.out).2.1); rintro e w' ⟨rfl, ⟨nd, rfl⟩⟩; (try first | exact ⟨rfl, _, World.drewN_drewN _ _ _⟩ | exact ⟨rfl, _, Eq.trans (World.drewN_drewN _ _ _) (congrArg (World.drewN _) (Nat.add_assoc _ _ _))⟩))))
                 go_ret
                 exact ⟨Yi_, Yd_⟩
                ·replace c24 := Bool.eq_false_iff.mpr c24
                 subst c24
                 have H1 : (if x3_3.length < 17592186044416 then (Ae.l1 k3 (x3_3 ++ [rd (rd_L1 l0_1 x4_2) x5_3]) x4_2 (wrap64 (x5_3 + 1)) a0_0 l0_1) else (none)) = some r := by rw [if_neg (show ¬ (false = true) by decide)] at H; exact H
                 clear H
                 have H := H1
                 clear H1
                 by_cases c27 : x3_3.length < 17592186044416
                 ·rw [if_pos c27] at H
                  have LMc27 := Aside0.mk c27
                  clear c27
                  obtain ⟨y141, hy141⟩ : ∃ y_ : List Int, y_ = (x3_3 ++ [rd (rd_L1 l0_1 x4_2) x5_3]) := ⟨_, rfl⟩
                  replace H : (Ae.l1 k3 y141 x4_2 (wrap64 (x5_3 + 1)) a0_0 l0_1) = some r := by first | (rw [hy141]; with_reducible exact H) | (have H2_ := (Option.bind_some _ _).symm.trans H; rw [hy141]; with_reducible exact H2_) | (have H2_ := (Option.bind_some _ _).symm.trans H; with_reducible exact H2_) | with_reducible exact H | (rw [hy141]; exact H) | exact H
                  have Ny141 := Aside0.mk hy141
                  clear hy141
                  have H' := Aside0.mk H
                  clear H
                  obtain ⟨hcz28_0, hcz28_1⟩ := cl2_ BK0.out
                  obtain ⟨hfz28_0, hfz28_1⟩ := fz2_ BK0.out
                  have p136 : 0 ≤ (x4_2 : Int) := of_decide_eq_true Yh_
                  have q136 : x4_2 < (l0_1.length : Int) := of_decide_eq_true Yh_
                  obtain ⟨ad136, A136_0, c136_0, e136, hx136_0, hl136_0, hi136_0⟩ := Cj HR0_1.out x4_2 p136 q136
                  obtain rfl : ad135 = ad136 := (by injection e136)
                  replace hx136_0 := (HB.out.cell (World.block_lt_of_cell? w _ hx136_0)).trans hx136_0
                  have HR136_0 := Aside0.mk hi136_0
                  have HC136_0 := Aside0.mk hl136_0
                  clear hi136_0 hl136_0
                  replace p136 := eq_true p136
                  replace q136 := eq_true q136
                  have p137 : 0 ≤ (x4_2 : Int) := of_decide_eq_true Yh_
                  have q137 : x4_2 < (l0_1.length : Int) := of_decide_eq_true Yh_
                  obtain ⟨ad137, A137_0, c137_0, e137, hx137_0, hl137_0, hi137_0⟩ := Cj HR0_1.out x4_2 p137 q137
                  obtain rfl : ad135 = ad137 := (by injection e137)
                  replace hx137_0 := (HB.out.cell (World.block_lt_of_cell? w _ hx137_0)).trans hx137_0
                  have HR137_0 := Aside0.mk hi137_0
                  have HC137_0 := Aside0.mk hl137_0
                  clear hi137_0 hl137_0
                  replace p137 := eq_true p137
                  replace q137 := eq_true q137
                  have ea_ := Option.some.inj (hx136_0.symm.trans hx137_0)
                  injection ea_ with ea_ en_ ec_
                  subst ea_
                  subst ec_
                  clear en_
                  have p138 : 0 ≤ (x5_3 : Int) := of_decide_eq_true Yh_
                  have q138 : x5_3 < ((rd_L1 l0_1 x4_2).length : Int) := of_decide_eq_true Yh_
                  obtain ⟨ad138, e138, hx138_0⟩ := Kd.Dw HR137_0.out x5_3 p138 q138
                  cases e138
                  replace hx138_0 := (HB.out.cell (World.block_lt_of_cell? w _ hx138_0)).trans hx138_0
                  replace p138 := eq_true p138
                  replace q138 := eq_true q138
                  go_wp2_with (first | (go_at_call 71; (with_reducible refine (Bi.calls (rd (rd_L1 l0_1 x4_2) x5_3) 1 99 true _ A21.out).mono ?_); rintro e w' ⟨rfl, ⟨nd, rfl⟩⟩; (try first | exact ⟨rfl, _, World.drewN_drewN _ _ _⟩ | exact ⟨rfl, _, Eq.trans (World.drewN_drewN _ _ _) (congrArg (World.drewN _) (Nat.add_assoc _ _ _))⟩); obtain ⟨Ao29, co29, eo29⟩ := Kd.Dc HO_3.out; subst eo29) | (go_at_call 83; (with_reducible refine (Am.calls k3 _ _ x3_3 (rd (rd_L1 l0_1 x4_2) x5_3) false _ ?side1 ?side2 A23.out).mono ?_); (case side1 => repeat (first | exact (Kd.Bo HO_3.out).2.2 | (with_reducible refine Kd.C_alloc ?_ _) | (with_reducible refine Kd.C_drewN ?_ _) | (with_reducible refine Kd.C_drew ?_))); (case side2 => exact (Kd.Bo HO_3.out).2.1); rintro e w' ⟨rfl, ⟨nd, rfl⟩⟩; (try first | exact ⟨rfl, _, World.drewN_drewN _ _ _⟩ | exact ⟨rfl, _, Eq.trans (World.drewN_drewN _ _ _) (congrArg (World.drewN _) (Nat.add_assoc _ _ _))⟩)) | ((with_reducible refine F5 (b := .append) (xs := #[.tmp 61, .tmp 63]) rfl ?_); (try (refine gate_guard (by rfl) ?_; dsimp only)); at_builtin; refine Kd.R_append (Kd.int .i64) (w0 := w) w.heap.size rfl (.tmp 61) (.tmp 63) 73 3 (.int .i64 0) 8 rfl Try.underlying73 info3 rfl (by decide) (by omega) (.slice Ao29 x3_3.length co29) x3_3 (rd (rd_L1 l0_1 x4_2) x5_3) [.int .i64 (rd (rd_L1 l0_1 x4_2) x5_3)] (fun _ => True) (fun _ => False) rfl rfl ?aP (fun _ hk => hk.elim) ?aF ?aO ?aB ?aS ?aL ?_; (case aP => exact rfl); (case aB => exact Yd_); (case aF => exact (fun _ _ => trivial)); (case aO => exact Ydc_); (case aS => exact (below_size Yd_)); (case aL => have := LMc27.out; omega); intro v142 w30 ho hb hg hat; rw [← Ny141.out] at ho; replace BK0 := Aside0.mk (C9 (g := gb0) (o := .cells #[.int .i64 a0_0, .slice (some ad135) l0_1.length c0_1] 32 (0, 0)) Yc_ hg (Kd.R_ne HO_3.out BK0.out (by decide))); replace HB := Aside0.mk (hb); have HO143 := Aside0.mk (ho); clear HO_3; clear ho hb hg hat))
                  repeat (go_quiet (first | (go_at_call 71; (with_reducible refine (Bi.calls (rd (rd_L1 l0_1 x4_2) x5_3) 1 99 true _ A21.out).mono ?_); rintro e w' ⟨rfl, ⟨nd, rfl⟩⟩; (try first | exact ⟨rfl, _, World.drewN_drewN _ _ _⟩ | exact ⟨rfl, _, Eq.trans (World.drewN_drewN _ _ _) (congrArg (World.drewN _) (Nat.add_assoc _ _ _))⟩); obtain ⟨Ao29, co29, eo29⟩ := Kd.Dc HO_3.out; subst eo29) | (go_at_call 83; (with_reducible refine (Am.calls k3 _ _ x3_3 (rd (rd_L1 l0_1 x4_2) x5_3) false _ ?side1 ?side2 A23.out).mono ?_); (case side1 => repeat (first | exact (Kd.Bo HO_3.out).2.2 | (with_reducible refine Kd.C_alloc ?_ _) | (with_reducible refine Kd.C_drewN ?_ _) | (with_reducible refine Kd.C_drew ?_))); (case side2 => exact (Kd.Bo HO_3.out).2.1); rintro e w' ⟨rfl, ⟨nd, rfl⟩⟩; (try first | exact ⟨rfl, _, World.drewN_drewN _ _ _⟩ | exact ⟨rfl, _, Eq.trans (World.drewN_drewN _ _ _) (congrArg (World.drewN _) (Nat.add_assoc _ _ _))⟩)) | ((with_reducible refine F5 (b := .append) (xs := #[.tmp 61, .tmp 63]) rfl ?_); (try (refine gate_guard (by rfl) ?_; dsimp only)); at_builtin; refine Kd.R_append (Kd.int .i64) (w0 := w) w.heap.size rfl (.tmp 61) (.tmp 63) 73 3 (.int .i64 0) 8 rfl Try.underlying73 info3 rfl (by decide) (by omega) (.slice Ao29 x3_3.length co29) x3_3 (rd (rd_L1 l0_1 x4_2) x5_3) [.int .i64 (rd (rd_L1 l0_1 x4_2) x5_3)] (fun _ => True) (fun _ => False) rfl rfl ?aP (fun _ hk => hk.elim) ?aF ?aO ?aB ?aS ?aL ?_; (case aP => exact rfl); (case aB => exact Yd_); (case aF => exact (fun _ _ => trivial)); (case aO => exact Ydc_); (case aS => exact (below_size Yd_)); (case aL => have := LMc27.out; omega); intro v142 w30 ho hb hg hat; rw [← Ny141.out] at ho; have n0_ := Aside0.mk (C9 (g := gb0) (o := .cells #[.int .i64 a0_0, .slice (some ad135) l0_1.length c0_1] 32 (0, 0)) Yc_ hg (Kd.R_ne HO_3.out BK0.out (by decide))); have n1_ := Aside0.mk (hb); have n2_ := Aside0.mk (ho); clear BK0; clear HB; clear HO_3; have BK0 := n0_; have HB := n1_; have HO143 := n2_; clear n0_ n1_ n2_; clear ho hb hg hat)); try go_wp2_with (first | (go_at_call 71; (with_reducible refine (Bi.calls (rd (rd_L1 l0_1 x4_2) x5_3) 1 99 true _ A21.out).mono ?_); rintro e w' ⟨rfl, ⟨nd, rfl⟩⟩; (try first | exact ⟨rfl, _, World.drewN_drewN _ _ _⟩ | exact ⟨rfl, _, Eq.trans (World.drewN_drewN _ _ _) (congrArg (World.drewN _) (Nat.add_assoc _ _ _))⟩); obtain ⟨Ao29, co29, eo29⟩ := Kd.Dc HO_3.out; subst eo29) | (go_at_call 83; (with_reducible refine (Am.calls k3 _ _ x3_3 (rd (rd_L1 l0_1 x4_2) x5_3) false _ ?side1 ?side2 A23.out).mono ?_); (case side1 => repeat (first | exact (Kd.Bo HO_3.out).2.2 | (with_reducible refine Kd.C_alloc ?_ _) | (with_reducible refine Kd.C_drewN ?_ _) | (with_reducible refine Kd.C_drew ?_))); (case side2 => exact (Kd.Bo HO_3.out).2.1); rintro e w' ⟨rfl, ⟨nd, rfl⟩⟩; (try first | exact ⟨rfl, _, World.drewN_drewN _ _ _⟩ | exact ⟨rfl, _, Eq.trans (World.drewN_drewN _ _ _) (congrArg (World.drewN _) (Nat.add_assoc _ _ _))⟩)) | ((with_reducible refine F5 (b := .append) (xs := #[.tmp 61, .tmp 63]) rfl ?_); (try (refine gate_guard (by rfl) ?_; dsimp only)); at_builtin; refine Kd.R_append (Kd.int .i64) (w0 := w) w.heap.size rfl (.tmp 61) (.tmp 63) 73 3 (.int .i64 0) 8 rfl Try.underlying73 info3 rfl (by decide) (by omega) (.slice Ao29 x3_3.length co29) x3_3 (rd (rd_L1 l0_1 x4_2) x5_3) [.int .i64 (rd (rd_L1 l0_1 x4_2) x5_3)] (fun _ => True) (fun _ => False) rfl rfl ?aP (fun _ hk => hk.elim) ?aF ?aO ?aB ?aS ?aL ?_; (case aP => exact rfl); (case aB => exact Yd_); (case aF => exact (fun _ _ => trivial)); (case aO => exact Ydc_); (case aS => exact (below_size Yd_)); (case aL => have := LMc27.out; omega); intro v142 w30 ho hb hg hat; rw [← Ny141.out] at ho; have n0_ := Aside0.mk (C9 (g := gb0) (o := .cells #[.int .i64 a0_0, .slice (some ad135) l0_1.length c0_1] 32 (0, 0)) Yc_ hg (Kd.R_ne HO_3.out BK0.out (by decide))); have n1_ := Aside0.mk (hb); have n2_ := Aside0.mk (ho); clear BK0; clear HB; clear HO_3; have BK0 := n0_; have HB := n1_; have HO143 := n2_; clear n0_ n1_ n2_; clear ho hb hg hat)))
                  go_roundg k3
                  case measure => have := HJ1.out; have := HK2.out; have := HK3.out; omega
                  case rel => exact ⟨(y141), (wrap64 (x5_3 + 1)), Ybe_, H', ⟨by have := HJ1.out; have := HK2.out; have := HK3.out; omega⟩, ⟨by (with_reducible repeat (first | apply Kd.R_alloc | apply Kd.R_drewN | apply Kd.R_drew)); exact HO143.out⟩, ⟨by (with_reducible repeat (first | apply blk_drewN | apply blk_drew | apply blk_alloc)); exact BK0.out⟩, ⟨by repeat (first | (with_reducible first | exact HB.out | apply below_alloc | apply pw_below_drewN | apply below_drew1 | refine below_set ?_ GE0.out) | exact HB.out)⟩⟩
                 ·rw [if_neg c27] at H
                  exact absurd H (by simp)
               ·replace c22 := Bool.eq_false_iff.mpr c22
                subst c22
                have H1 : (some false) = some r := by rw [if_neg (show ¬ (false = true) by decide)] at H; exact H
                clear H
                have H := H1
                clear H1
                obtain rfl := Option.some.inj H
                obtain ⟨hcz31_0, hcz31_1⟩ := cl2_ BK0.out
                obtain ⟨hfz31_0, hfz31_1⟩ := fz2_ BK0.out
                have p136 : 0 ≤ (x4_2 : Int) := of_decide_eq_true Yh_
                have q136 : x4_2 < (l0_1.length : Int) := of_decide_eq_true Yh_
                obtain ⟨ad136, A136_0, c136_0, e136, hx136_0, hl136_0, hi136_0⟩ := Cj HR0_1.out x4_2 p136 q136
                obtain rfl : ad135 = ad136 := (by injection e136)
                replace hx136_0 := (HB.out.cell (World.block_lt_of_cell? w _ hx136_0)).trans hx136_0
                have HR136_0 := Aside0.mk hi136_0
                have HC136_0 := Aside0.mk hl136_0
                clear hi136_0 hl136_0
                replace p136 := eq_true p136
                replace q136 := eq_true q136
                have p137 : 0 ≤ (x4_2 : Int) := of_decide_eq_true Yh_
                have q137 : x4_2 < (l0_1.length : Int) := of_decide_eq_true Yh_
                obtain ⟨ad137, A137_0, c137_0, e137, hx137_0, hl137_0, hi137_0⟩ := Cj HR0_1.out x4_2 p137 q137
                obtain rfl : ad135 = ad137 := (by injection e137)
                replace hx137_0 := (HB.out.cell (World.block_lt_of_cell? w _ hx137_0)).trans hx137_0
                have HR137_0 := Aside0.mk hi137_0
                have HC137_0 := Aside0.mk hl137_0
                clear hi137_0 hl137_0
                replace p137 := eq_true p137
                replace q137 := eq_true q137
                have ea_ := Option.some.inj (hx136_0.symm.trans hx137_0)
                injection ea_ with ea_ en_ ec_
                subst ea_
                subst ec_
                clear en_
                have p138 : 0 ≤ (x5_3 : Int) := of_decide_eq_true Yh_
                have q138 : x5_3 < ((rd_L1 l0_1 x4_2).length : Int) := of_decide_eq_true Yh_
                obtain ⟨ad138, e138, hx138_0⟩ := Kd.Dw HR137_0.out x5_3 p138 q138
                cases e138
                replace hx138_0 := (HB.out.cell (World.block_lt_of_cell? w _ hx138_0)).trans hx138_0
                replace p138 := eq_true p138
                replace q138 := eq_true q138
                go_wp2_with (first | (go_at_call 71; (with_reducible refine (Bi.calls (rd (rd_L1 l0_1 x4_2) x5_3) 1 99 false _ A21.out).mono ?_); rintro e w' ⟨rfl, ⟨nd, rfl⟩⟩; (try first | exact ⟨rfl, _, World.drewN_drewN _ _ _⟩ | exact ⟨rfl, _, Eq.trans (World.drewN_drewN _ _ _) (congrArg (World.drewN _) (Nat.add_assoc _ _ _))⟩)))
                repeat (go_quiet (first | (go_at_call 71; (with_reducible refine (Bi.calls (rd (rd_L1 l0_1 x4_2) x5_3) 1 99 false _ A21.out).mono ?_); rintro e w' ⟨rfl, ⟨nd, rfl⟩⟩; (try first | exact ⟨rfl, _, World.drewN_drewN _ _ _⟩ | exact ⟨rfl, _, Eq.trans (World.drewN_drewN _ _ _) (congrArg (World.drewN _) (Nat.add_assoc _ _ _))⟩))); try go_wp2_with (first | (go_at_call 71; (with_reducible refine (Bi.calls (rd (rd_L1 l0_1 x4_2) x5_3) 1 99 false _ A21.out).mono ?_); rintro e w' ⟨rfl, ⟨nd, rfl⟩⟩; (try first | exact ⟨rfl, _, World.drewN_drewN _ _ _⟩ | exact ⟨rfl, _, Eq.trans (World.drewN_drewN _ _ _) (congrArg (World.drewN _) (Nat.add_assoc _ _ _))⟩))))
                go_ret
                exact ⟨Yi_, Yd_⟩
              ·rw [if_neg c20] at H
               exact absurd H (by simp)
             ·rw [if_neg c19] at H
              have c19b0 : decide (x5_3 < ((rd_L1 l0_1 x4_2).length : Int)) = false := decide_eq_false c19
              clear c19
              have H' := Aside0.mk H
              clear H
              obtain ⟨hcz32_0, hcz32_1⟩ := cl2_ BK0.out
              obtain ⟨hfz32_0, hfz32_1⟩ := fz2_ BK0.out
              have p136 : 0 ≤ (x4_2 : Int) := of_decide_eq_true Yh_
              have q136 : x4_2 < (l0_1.length : Int) := of_decide_eq_true Yh_
              obtain ⟨ad136, A136_0, c136_0, e136, hx136_0, hl136_0, hi136_0⟩ := Cj HR0_1.out x4_2 p136 q136
              obtain rfl : ad135 = ad136 := (by injection e136)
              replace hx136_0 := (HB.out.cell (World.block_lt_of_cell? w _ hx136_0)).trans hx136_0
              have HR136_0 := Aside0.mk hi136_0
              have HC136_0 := Aside0.mk hl136_0
              clear hi136_0 hl136_0
              replace p136 := eq_true p136
              replace q136 := eq_true q136
              go_wp2
              repeat (go_quiet (fail); try go_wp2)
              go_roundg k3
              case measure => have := HJ1.out; have := HK2.out; have := HK3.out; omega
              case rel => exact ⟨(x3_3), (wrap64 (x4_2 + 1)), Ybe_, H', ⟨by have := HJ1.out; have := HK2.out; have := HK3.out; omega⟩, ⟨by (with_reducible repeat (first | apply Kd.R_alloc | apply Kd.R_drewN | apply Kd.R_drew)); exact HO_3.out⟩, ⟨by (with_reducible repeat (first | apply blk_drewN | apply blk_drew | apply blk_alloc)); exact BK0.out⟩, ⟨by repeat (first | (with_reducible first | exact HB.out | apply below_alloc | apply pw_below_drewN | apply below_drew1 | refine below_set ?_ GE0.out) | exact HB.out)⟩⟩
            ·rw [if_neg c18] at H
             exact absurd H (by simp)
           ·rw [if_neg c17] at H
            exact absurd H (by simp)
       ·rw [if_neg c13] at H
        exact absurd H (by simp)
      ·rw [if_neg c12] at H
       have c12b0 : decide (x4_2 < (l0_1.length : Int)) = false := decide_eq_false c12
       clear c12
       obtain rfl := Option.some.inj H
       obtain ⟨hcz33_0, hcz33_1⟩ := cl2_ BK0.out
       obtain ⟨hfz33_0, hfz33_1⟩ := fz2_ BK0.out
       go_wp2
       repeat (go_quiet (fail); try go_wp2)
       go_ret
       exact ⟨Yi_, Yd_⟩
mutual
def Ad.j0 : Nat → Bool → List (List Int) → Int → List (List Int) → Option (Bool)
 | 0, _, _, _, _ => none
 | k + 1, x16, x145000, x145001, x145002 => if x16 = true then (some false) else (Ad.l0 k 0 x145000 x145001 x145002)
def Ad.l0 : Nat → Int → List (List Int) → Int → List (List Int) → Option (Bool)
 | 0, _, _, _, _ => none
 | k + 1, x3, x145000, x145001, x145002 => if x3 < (x145002.length : Int) then (Ad.l1 k x3 0 x145000 x145001 x145002) else (some true)
def Ad.l1 : Nat → Int → Int → List (List Int) → Int → List (List Int) → Option (Bool)
 | 0, _, _, _, _, _ => none
 | k + 1, x3, x4, x145000, x145001, x145002 => if 0 ≤ x3 then (if x3 < (x145002.length : Int) then (if x4 < ((rd_L1 x145002 x3).length : Int) then (if 0 ≤ x4 then ((spec_l5Find.f k x145000 (rd (rd_L1 x145002 x3) x4)).bind fun bt150 => (if bt150.1 ≥ 0 then (some false) else (Ad.l1 k x3 (wrap64 (x4 + 1)) x145000 x145001 x145002))) else (none)) else (Ad.l0 k (wrap64 (x3 + 1)) x145000 x145001 x145002)) else (none)) else (none)
end
def Ad.f (k : Nat) (l0_0 : List (List Int)) (a0_1 : Int) (l0_2 : List (List Int)) : Option (Bool) := (Ak.f k l0_0).bind fun t145 => (if t145 = true then ((Ae.f k a0_1 l0_2).bind fun t146 => (Ad.j0 k (!t146) l0_0 a0_1 l0_2)) else (Ad.j0 k true l0_0 a0_1 l0_2))
theorem Ad.mono_l : ∀ k, (∀ y0 y1 y2 y3, LeO (Ad.j0 k y0 y1 y2 y3) (Ad.j0 (k + 1) y0 y1 y2 y3)) ∧ (∀ y0 y1 y2 y3, LeO (Ad.l0 k y0 y1 y2 y3) (Ad.l0 (k + 1) y0 y1 y2 y3)) ∧ (∀ y0 y1 y2 y3 y4, LeO (Ad.l1 k y0 y1 y2 y3 y4) (Ad.l1 (k + 1) y0 y1 y2 y3 y4))
 | 0 => ⟨fun _ _ _ _ r h => by simp [Ad.j0] at h, fun _ _ _ _ r h => by simp [Ad.l0] at h, fun _ _ _ _ _ r h => by simp [Ad.l1] at h⟩
 | k + 1 => by
  obtain ⟨ih0, ih1, ih2⟩ := Ad.mono_l k
  refine ⟨?_, ?_, ?_⟩
  ·intro y0 y1 y2 y3
   unfold Ad.j0
   repeat' first
   | (with_reducible exact ih0 _ _ _ _)
   | (with_reducible exact ih1 _ _ _ _)
   | (with_reducible exact ih2 _ _ _ _ _)
   | (with_reducible exact spec_l5Find.mono _ _ _)
   | (with_reducible exact Ak.mono _ _)
   | (with_reducible exact Ae.mono _ _ _)
   | (with_reducible exact LeO.refl _)
   | (with_reducible exact LeO.none _)
   | (with_reducible refine LeO.ite ?_ ?_)
   | (with_reducible refine LeO.bind ?_ (fun _ => ?_))
   | exact ih0 _ _ _ _
   | exact ih1 _ _ _ _
   | exact ih2 _ _ _ _ _
   | exact spec_l5Find.mono _ _ _
   | exact Ak.mono _ _
   | exact Ae.mono _ _ _
   | exact LeO.none _
   | refine LeO.ite ?_ ?_
   | refine LeO.bind ?_ (fun _ => ?_)
  ·intro y0 y1 y2 y3
   unfold Ad.l0
   repeat' first
   | (with_reducible exact ih0 _ _ _ _)
   | (with_reducible exact ih1 _ _ _ _)
   | (with_reducible exact ih2 _ _ _ _ _)
   | (with_reducible exact spec_l5Find.mono _ _ _)
   | (with_reducible exact Ak.mono _ _)
   | (with_reducible exact Ae.mono _ _ _)
   | (with_reducible exact LeO.refl _)
   | (with_reducible exact LeO.none _)
   | (with_reducible refine LeO.ite ?_ ?_)
   | (with_reducible refine LeO.bind ?_ (fun _ => ?_))
   | exact ih0 _ _ _ _
   | exact ih1 _ _ _ _
   | exact ih2 _ _ _ _ _
   | exact spec_l5Find.mono _ _ _
   | exact Ak.mono _ _
   | exact Ae.mono _ _ _
   | exact LeO.none _
   | refine LeO.ite ?_ ?_
   | refine LeO.bind ?_ (fun _ => ?_)
  ·intro y0 y1 y2 y3 y4
   unfold Ad.l1
   repeat' first
   | (with_reducible exact ih0 _ _ _ _)
   | (with_reducible exact ih1 _ _ _ _)
   | (with_reducible exact ih2 _ _ _ _ _)
   | (with_reducible exact spec_l5Find.mono _ _ _)
   | (with_reducible exact Ak.mono _ _)
   | (with_reducible exact Ae.mono _ _ _)
   | (with_reducible exact LeO.refl _)
   | (with_reducible exact LeO.none _)
   | (with_reducible refine LeO.ite ?_ ?_)
   | (with_reducible refine LeO.bind ?_ (fun _ => ?_))
   | exact ih0 _ _ _ _
   | exact ih1 _ _ _ _
   | exact ih2 _ _ _ _ _
   | exact spec_l5Find.mono _ _ _
   | exact Ak.mono _ _
   | exact Ae.mono _ _ _
   | exact LeO.none _
   | refine LeO.ite ?_ ?_
   | refine LeO.bind ?_ (fun _ => ?_)
theorem Ad.mono : ∀ a0 a1 a2 k, LeO (Ad.f k a0 a1 a2) (Ad.f (k + 1) a0 a1 a2) := by
 intro a0 a1 a2 k
 obtain ⟨ih0, ih1, ih2⟩ := Ad.mono_l k
 unfold Ad.f
 repeat' first
   | (with_reducible exact ih0 _ _ _ _)
   | (with_reducible exact ih1 _ _ _ _)
   | (with_reducible exact ih2 _ _ _ _ _)
   | (with_reducible exact spec_l5Find.mono _ _ _)
   | (with_reducible exact Ak.mono _ _)
   | (with_reducible exact Ae.mono _ _ _)
   | (with_reducible exact LeO.refl _)
   | (with_reducible exact LeO.none _)
   | (with_reducible refine LeO.ite ?_ ?_)
   | (with_reducible refine LeO.bind ?_ (fun _ => ?_))
   | exact ih0 _ _ _ _
   | exact ih1 _ _ _ _
   | exact ih2 _ _ _ _ _
   | exact spec_l5Find.mono _ _ _
   | exact Ak.mono _ _
   | exact Ae.mono _ _ _
   | exact LeO.none _
   | refine LeO.ite ?_ ?_
   | refine LeO.bind ?_ (fun _ => ?_)
def Ad.T9 : Bool × List (List Nat × List Nat) := (true, [([], []), ([0], [0]), ([], []), ([2], [2]), ([3], [3]), ([], []), ([4, 5], [4, 5]), ([6], [6]), ([], []), ([7, 8], [7, 8]), ([9], [9]), ([1, 10], [1, 10]), ([11], [11]), ([12], [12]), ([12], [12]), ([13, 11, 0, 1, 2, 3, 4, 5, 6, 7, 8, 9, 10, 11, 12, 13], [13]), ([14, 15, 0, 1, 2, 3, 4, 5, 6, 7, 8, 9, 10, 11, 12, 13, 14, 15], [14])])
def Ad.B9 : List Nat := [0, 1, 0, 4, 12, 0, 60, 124, 0, 508, 1020, 2047, 4095, 8191, 8191, 16383, 65535]
theorem Ad.tab9 : rtab .any (opsOf Try.f39 9) = Ad.T9 := by kernel_rfl
theorem Ad.bits9 : waitsOk Ad.T9.2 Ad.B9 = true := by kernel_rfl
set_option maxHeartbeats 8000000 in
set_option maxRecDepth 100000 in
theorem Ad.calls (k : Nat) (A0_0 : Option Addr) (c0_0 : Nat) (l0_0 : List (List Int)) (a0_1 : Int) (A0_2 : Option Addr) (c0_2 : Nat) (l0_2 : List (List Int)) (r : Bool) (w : World) (hr0_0 : Kd.C (Kd.slice 3 (Kd.int .i64)) w A0_0 l0_0.length l0_0) (hc0_0 : l0_0.length ≤ c0_0) (hr0_2 : Kd.C (Kd.slice 3 (Kd.int .i64)) w A0_2 l0_2.length l0_2) (hc0_2 : l0_2.length ≤ c0_2) (h : Ad.f k l0_0 a0_1 l0_2 = some r) :
  Calls Try.prog 39 #[.agg #[.slice A0_0 l0_0.length c0_0, .int .i64 a0_1, .slice A0_2 l0_2.length c0_2]] w fun e w' => e = .returned (.bool r) ∧ Below w.heap.size w w' := by
 have hu34 := Try.underlying34
 have hu31 := Try.underlying31
 have hu32 := Try.underlying32
 have HR0_0 := Aside0.mk hr0_0
 have HC0_0 := Aside0.mk hc0_0
 clear hr0_0 hc0_0
 have HR0_2 := Aside0.mk hr0_2
 have HC0_2 := Aside0.mk hc0_2
 clear hr0_2 hc0_2
 have HB := Aside0.mk (Below.refl w.heap.size w)
 have H : ((Ak.f k l0_0).bind fun t145 => (if t145 = true then ((Ae.f k a0_1 l0_2).bind fun t146 => (Ad.j0 k (!t146) l0_0 a0_1 l0_2)) else (Ad.j0 k true l0_0 a0_1 l0_2))) = some r := h
 clear h
 have HC2 := Aside0.mk H
 clear H
 go_enter Try.func39, Try.ntmps39
 go_upto_region 1 with (first | ((with_reducible refine gate_dst (N := 1) rfl ?_); refine box_event (by rfl) (N := 1) (by rfl) (cs := #[.slice A0_0 l0_0.length c0_0, .int .i64 a0_1, .slice A0_2 l0_2.length c0_2]) (t := 34) Ybf_ ?_; intro gb0 hg w3 hbox hb; have BK0 := Aside0.mk (hbox); have GW0 := Aside0.mk ((by rw [hg]; exact (below_size Yb_) : w.heap.size ≤ gb0)); have GE0 := Aside0.mk ((by rw [hg]; exact (below_size Yb_) : w.heap.size ≤ gb0)); replace HB := Aside0.mk (below_step Yb_ hb); clear hb hbox hg))
 (try simp only [Act.put, List.setIfInBounds_toArray, List.set_cons_zero, List.set_cons_succ])
 go_cut [16] (fun v16 wc => ∃ (kq : Nat) (x16_1 : Bool), v16 = .bool x16_1 ∧ Aside0 (Ad.j0 kq x16_1 l0_0 a0_1 l0_2 = some r) ∧ Aside0 (kq ≤ k) ∧ Aside0 (wc.heap[gb0]? = some (.cells #[(.slice A0_0 l0_0.length c0_0), .int .i64 a0_1, (.slice A0_2 l0_2.length c0_2)] 34 (0, 0))) ∧ Aside0 (Below w.heap.size w wc))
 case first =>
  have H := HC2.out
  clear HC2
  replace H := Option.bind_eq_some_iff.mp H
  obtain ⟨t145, A40, H⟩ := H
  try dsimp only at H
  have A4 := Aside0.mk A40
  clear A40
  by_cases c5 : t145 = true
  ·subst c5
   have H1 : ((Ae.f k a0_1 l0_2).bind fun t146 => (Ad.j0 k (!t146) l0_0 a0_1 l0_2)) = some r := by rw [if_pos rfl] at H; exact H
   clear H
   have H := H1
   clear H1
   replace H := Option.bind_eq_some_iff.mp H
   obtain ⟨t146, A60, H⟩ := H
   try dsimp only at H
   have A6 := Aside0.mk A60
   clear A60
   have H' := Aside0.mk H
   clear H
   obtain ⟨hcz7_0, hcz7_1, hcz7_2⟩ := cl3_ BK0.out
   obtain ⟨hfz7_0, hfz7_1, hfz7_2⟩ := fz3_ BK0.out
   go_wp2_with (first | (go_at_call 62; (with_reducible refine (Ak.calls k _ _ l0_0 true _ ?side1 ?side2 A4.out).mono ?_); (case side1 => repeat (first | exact (Kd.C_below HR0_0.out HB.out) | (with_reducible refine Kd.C_alloc ?_ _) | (with_reducible refine Kd.C_drewN ?_ _) | (with_reducible refine Kd.C_drew ?_))); (case side2 => exact HC0_0.out); rintro e w8 ⟨rfl, hb⟩; replace BK0 := Aside0.mk (blk_below (g := gb0) (o := .cells #[.slice A0_0 l0_0.length c0_0, .int .i64 a0_1, .slice A0_2 l0_2.length c0_2] 34 (0, 0)) Yc_ hb); replace HB := Aside0.mk (below_step Yd_ hb); (try clear hb); (try clear hb2); (try clear hk); (try clear hi); obtain ⟨hcz9_0, hcz9_1, hcz9_2⟩ := cl3_ BK0.out; obtain ⟨hfz9_0, hfz9_1, hfz9_2⟩ := fz3_ BK0.out) | (go_at_call 63; (with_reducible refine (Ae.calls k a0_1 _ _ l0_2 t146 _ ?side1 ?side2 A6.out).mono ?_); (case side1 => repeat (first | exact (Kd.C_below HR0_2.out HB.out) | (with_reducible refine Kd.C_alloc ?_ _) | (with_reducible refine Kd.C_drewN ?_ _) | (with_reducible refine Kd.C_drew ?_))); (case side2 => exact HC0_2.out); rintro e w10 ⟨rfl, hb⟩; replace BK0 := Aside0.mk (blk_below (g := gb0) (o := .cells #[.slice A0_0 l0_0.length c0_0, .int .i64 a0_1, .slice A0_2 l0_2.length c0_2] 34 (0, 0)) Yc_ hb); replace HB := Aside0.mk (below_step Yd_ hb); (try clear hb); (try clear hb2); (try clear hk); (try clear hi)))
   go_meet
   case rel => exact ⟨_, (!t146), Ybe_, H', ⟨by first | omega | exact Nat.le_refl _⟩, ⟨by (with_reducible repeat (first | apply blk_drewN | apply blk_drew | apply blk_alloc)); exact BK0.out⟩, ⟨by repeat (first | (with_reducible first | exact HB.out | apply below_alloc | apply pw_below_drewN | apply below_drew1 | refine below_set ?_ GE0.out) | exact HB.out)⟩⟩
  ·replace c5 := Bool.eq_false_iff.mpr c5
   subst c5
   have H1 : (Ad.j0 k true l0_0 a0_1 l0_2) = some r := by rw [if_neg (show ¬ (false = true) by decide)] at H; exact H
   clear H
   have H := H1
   clear H1
   have H' := Aside0.mk H
   clear H
   obtain ⟨hcz11_0, hcz11_1, hcz11_2⟩ := cl3_ BK0.out
   obtain ⟨hfz11_0, hfz11_1, hfz11_2⟩ := fz3_ BK0.out
   go_wp2_with (first | (go_at_call 62; (with_reducible refine (Ak.calls k _ _ l0_0 false _ ?side1 ?side2 A4.out).mono ?_); (case side1 => repeat (first | exact (Kd.C_below HR0_0.out HB.out) | (with_reducible refine Kd.C_alloc ?_ _) | (with_reducible refine Kd.C_drewN ?_ _) | (with_reducible refine Kd.C_drew ?_))); (case side2 => exact HC0_0.out); rintro e w12 ⟨rfl, hb⟩; replace BK0 := Aside0.mk (blk_below (g := gb0) (o := .cells #[.slice A0_0 l0_0.length c0_0, .int .i64 a0_1, .slice A0_2 l0_2.length c0_2] 34 (0, 0)) Yc_ hb); replace HB := Aside0.mk (below_step Yd_ hb); (try clear hb); (try clear hb2); (try clear hk); (try clear hi)))
   go_meet
   case rel => exact ⟨_, (true), Ybe_, H', ⟨by first | omega | exact Nat.le_refl _⟩, ⟨by (with_reducible repeat (first | apply blk_drewN | apply blk_drew | apply blk_alloc)); exact BK0.out⟩, ⟨by repeat (first | (with_reducible first | exact HB.out | apply below_alloc | apply pw_below_drewN | apply below_drew1 | refine below_set ?_ GE0.out) | exact HB.out)⟩⟩
 case rest =>
  clear HC2
  try clear p2; try clear c3; try clear c5; try clear c6; try clear hcz11_0; try clear hcz11_1; try clear hcz11_2; try clear hcz7_0; try clear hcz7_1; try clear hcz7_2; try clear hcz9_0; try clear hcz9_1; try clear hcz9_2; try clear hfz11_0; try clear hfz11_1; try clear hfz11_2; try clear hfz7_0; try clear hfz7_1; try clear hfz7_2; try clear hfz9_0; try clear hfz9_1; try clear hfz9_2
  obtain ⟨kq, x16_1, rfl, HA, HJ1, BK0, HB⟩ := hcut
  cases kq with
  | zero => exact absurd HA.out (by simp [Ad.j0])
  | succ kj1 =>
   have H := HA.out
   clear HA
   simp only [Ad.j0] at H
   by_cases c13 : x16_1 = true
   ·subst c13
    have H1 : (some false) = some r := by rw [if_pos rfl] at H; exact H
    clear H
    have H := H1
    clear H1
    obtain rfl := Option.some.inj H
    go_wp2
    go_ret
    exact ⟨Yi_, Yd_⟩
   ·replace c13 := Bool.eq_false_iff.mpr c13
    subst c13
    have H1 : (Ad.l0 kj1 0 l0_0 a0_1 l0_2) = some r := by rw [if_neg (show ¬ (false = true) by decide)] at H; exact H
    clear H
    have H := H1
    clear H1
    have H' := Aside0.mk H
    clear H
    go_wp2
    go_loopg [3] kj1 (fun kq v3 w' => ∃ (x3_2 : Int), v3 = .int .i64 x3_2 ∧ Aside0 (Ad.l0 kq x3_2 l0_0 a0_1 l0_2 = some r) ∧ Aside0 (kq ≤ kj1) ∧ Aside0 (w'.heap[gb0]? = some (.cells #[(.slice A0_0 l0_0.length c0_0), .int .i64 a0_1, (.slice A0_2 l0_2.length c0_2)] 34 (0, 0))) ∧ Aside0 (Below w.heap.size w w'))
    case atStart => exact ⟨(0), Ybe_, H', ⟨Nat.le_refl _⟩, ⟨by (with_reducible repeat (first | apply blk_drewN | apply blk_drew | apply blk_alloc)); exact BK0.out⟩, ⟨by repeat (first | (with_reducible first | exact HB.out | apply below_alloc | apply pw_below_drewN | apply below_drew1 | refine below_set ?_ GE0.out) | exact HB.out)⟩⟩
    case round =>
     clear H'
     try clear c1; try clear p2; try clear c3; try clear c5; try clear c6; try clear c13; try clear hcz11_0; try clear hcz11_1; try clear hcz11_2; try clear hcz7_0; try clear hcz7_1; try clear hcz7_2; try clear hcz9_0; try clear hcz9_1; try clear hcz9_2; try clear hfz11_0; try clear hfz11_1; try clear hfz11_2; try clear hfz7_0; try clear hfz7_1; try clear hfz7_2; try clear hfz9_0; try clear hfz9_1; try clear hfz9_2; try clear p2
     obtain ⟨x3_2, rfl, HA, HK2, BK0, HB⟩ := hrel
     cases gk with
     | zero => exact absurd HA.out (by simp [Ad.l0])
     | succ k2 =>
      have H := HA.out
      clear HA
      simp only [Ad.l0] at H
      by_cases c14 : x3_2 < (l0_2.length : Int)
      ·rw [if_pos c14] at H
       have c14b0 : decide (x3_2 < (l0_2.length : Int)) = true := decide_eq_true c14
       clear c14
       have H' := Aside0.mk H
       clear H
       obtain ⟨hcz15_0, hcz15_1, hcz15_2⟩ := cl3_ BK0.out
       obtain ⟨hfz15_0, hfz15_1, hfz15_2⟩ := fz3_ BK0.out
       go_wp2
       go_loopg [4] k2 (fun kq v4 w' => ∃ (x4_3 : Int), v4 = .int .i64 x4_3 ∧ Aside0 (Ad.l1 kq x3_2 x4_3 l0_0 a0_1 l0_2 = some r) ∧ Aside0 (kq ≤ k2) ∧ Aside0 (w'.heap[gb0]? = some (.cells #[(.slice A0_0 l0_0.length c0_0), .int .i64 a0_1, (.slice A0_2 l0_2.length c0_2)] 34 (0, 0))) ∧ Aside0 (Below w.heap.size w w'))
       case atStart => exact ⟨(0), Ybe_, H', ⟨Nat.le_refl _⟩, ⟨by (with_reducible repeat (first | apply blk_drewN | apply blk_drew | apply blk_alloc)); exact BK0.out⟩, ⟨by repeat (first | (with_reducible first | exact HB.out | apply below_alloc | apply pw_below_drewN | apply below_drew1 | refine below_set ?_ GE0.out) | exact HB.out)⟩⟩
       case round =>
        clear H'
        try clear c1; try clear p2; try clear c3; try clear c5; try clear c6; try clear c13; try clear c14; try clear c14b0; try clear hcz11_0; try clear hcz11_1; try clear hcz11_2; try clear hcz15_0; try clear hcz15_1; try clear hcz15_2; try clear hcz7_0; try clear hcz7_1; try clear hcz7_2; try clear hcz9_0; try clear hcz9_1; try clear hcz9_2; try clear hfz11_0; try clear hfz11_1; try clear hfz11_2; try clear hfz15_0; try clear hfz15_1; try clear hfz15_2; try clear hfz7_0; try clear hfz7_1; try clear hfz7_2; try clear hfz9_0; try clear hfz9_1; try clear hfz9_2; try clear p2
        obtain ⟨x4_3, rfl, HA, HK3, BK0, HB⟩ := hrel
        cases gk with
        | zero => exact absurd HA.out (by simp [Ad.l1])
        | succ k3 =>
         have H := HA.out
         clear HA
         simp only [Ad.l1] at H
         by_cases c16 : 0 ≤ x3_2
         ·rw [if_pos c16] at H
          have c16b0 : decide (0 ≤ x3_2) = true := decide_eq_true c16
          clear c16
          by_cases c17 : x3_2 < (l0_2.length : Int)
          ·rw [if_pos c17] at H
           have c17b0 : decide (x3_2 < (l0_2.length : Int)) = true := decide_eq_true c17
           clear c17
           by_cases c18 : x4_3 < ((rd_L1 l0_2 x3_2).length : Int)
           ·rw [if_pos c18] at H
            have c18b0 : decide (x4_3 < ((rd_L1 l0_2 x3_2).length : Int)) = true := decide_eq_true c18
            clear c18
            by_cases c19 : 0 ≤ x4_3
            ·rw [if_pos c19] at H
             have c19b0 : decide (0 ≤ x4_3) = true := decide_eq_true c19
             clear c19
             replace H := Option.bind_eq_some_iff.mp H
             obtain ⟨⟨t150, t151⟩, A200, H⟩ := H
             try dsimp only at H
             have A20 := Aside0.mk A200
             clear A200
             by_cases c21 : t150 ≥ 0
             ·rw [if_pos c21] at H
              have c21b0 : decide (0 ≤ t150) = true := decide_eq_true c21
              clear c21
              obtain rfl := Option.some.inj H
              obtain ⟨hcz22_0, hcz22_1, hcz22_2⟩ := cl3_ BK0.out
              obtain ⟨hfz22_0, hfz22_1, hfz22_2⟩ := fz3_ BK0.out
              have p147 : 0 ≤ (x3_2 : Int) := of_decide_eq_true Yh_
              have q147 : x3_2 < (l0_2.length : Int) := of_decide_eq_true Yh_
              obtain ⟨ad147, A147_0, c147_0, e147, hx147_0, hl147_0, hi147_0⟩ := Cj HR0_2.out x3_2 p147 q147
              cases e147
              replace hx147_0 := (HB.out.cell (World.block_lt_of_cell? w _ hx147_0)).trans hx147_0
              have HR147_0 := Aside0.mk hi147_0
              have HC147_0 := Aside0.mk hl147_0
              clear hi147_0 hl147_0
              replace p147 := eq_true p147
              replace q147 := eq_true q147
              try go_wp2
              replace BK0 := Aside0.mk (blk_drew BK0.out)
              replace HB := Aside0.mk (below_drew1 HB.out)
              have p148 : 0 ≤ (x3_2 : Int) := of_decide_eq_true Yh_
              have q148 : x3_2 < (l0_2.length : Int) := of_decide_eq_true Yh_
              obtain ⟨ad148, A148_0, c148_0, e148, hx148_0, hl148_0, hi148_0⟩ := Cj HR0_2.out x3_2 p148 q148
              have hw148_0 := hx148_0
              obtain rfl : ad147 = ad148 := (by injection e148)
              replace hx148_0 := (HB.out.cell (World.block_lt_of_cell? w _ hx148_0)).trans hx148_0
              have HR148_0 := Aside0.mk hi148_0
              have HC148_0 := Aside0.mk hl148_0
              clear hi148_0 hl148_0
              replace p148 := eq_true p148
              replace q148 := eq_true q148
              have p149 : 0 ≤ (x4_3 : Int) := of_decide_eq_true Yh_
              have q149 : x4_3 < ((rd_L1 l0_2 x3_2).length : Int) := of_decide_eq_true Yh_
              obtain ⟨ad149, e149, hx149_0⟩ := Kd.Dw HR148_0.out x4_3 p149 q149
              have hw149_0 := hx149_0
              cases e149
              replace hx149_0 := (HB.out.cell (World.block_lt_of_cell? w _ hx149_0)).trans hx149_0
              replace p149 := eq_true p149
              replace q149 := eq_true q149
              refine start_ (n := 17) (S := fun w' => w'.cell? ⟨gb0, 0, none⟩ = some (.slice A0_0 l0_0.length c0_0) ∧ w'.cell? ⟨gb0, 1, none⟩ = some (.int .i64 a0_1) ∧ w'.cell? ⟨gb0, 2, none⟩ = some (.slice (some ad147) l0_2.length c0_2) ∧ w'.cell? (ad147.add (x3_2).toNat) = some (.slice (some ad149) (rd_L1 l0_2 x3_2).length c148_0) ∧ w'.cell? (ad149.add (x4_3).toNat) = some (.int .i64 (rd (rd_L1 l0_2 x3_2) x4_3))) (ds := []) #[false, false, false, false, false, false, false, false, false, false, false, false, false, false, false, false, false] Ybb_ rfl rfl ⟨(blk_cell BK0.out 0).trans rfl, (blk_cell BK0.out 1).trans rfl, (blk_cell BK0.out 2).trans rfl, ((HB.out.cell (World.block_lt_of_cell? w _ hw148_0)).trans hw148_0), ((HB.out.cell (World.block_lt_of_cell? w _ hw149_0)).trans hw149_0)⟩ (fun hHeld => ?_); refine with_tabW Ad.tab9 Ad.bits9 (fun HT_ HW_ => ?_)
              generalize wr.drew = w23 at BK0 HB HR148_0 hx148_0 hx149_0 hHeld ⊢
              refine pure_ (i := 0) (N := some 37) #[true, false, false, false, false, false, false, false, false, false, false, false, false, false, false, false, false] rfl rfl (any_of HT_.out Ybb_) (fun _ _ _ h => h) (Or.inl ⟨by rfl, Ybg_⟩) Ya_ ?_
              refine pure_ (i := 2) (N := some 39) #[true, false, true, false, false, false, false, false, false, false, false, false, false, false, false, false, false] rfl rfl (any_of HT_.out Ybb_) (fun _ _ _ h => h) (Or.inl ⟨by rfl, Ybg_⟩) Ya_ ?_
              refine pure_ (i := 3) (N := some 40) #[true, false, true, true, false, false, false, false, false, false, false, false, false, false, false, false, false] rfl rfl (any_of HT_.out Ybb_) (fun _ _ _ h => h) (Or.inl ⟨by rfl, Ybg_⟩) Ya_ ?_
              refine pure_ (i := 5) (N := some 42) #[true, false, true, true, false, true, false, false, false, false, false, false, false, false, false, false, false] rfl rfl (any_of HT_.out Ybb_) (fun _ _ _ h => h) (Or.inl ⟨by rfl, Ybg_⟩) Ya_ ?_
              refine pure_ (i := 8) (N := some 45) #[true, false, true, true, false, true, false, false, true, false, false, false, false, false, false, false, false] rfl rfl (any_of HT_.out Ybb_) (fun _ _ _ h => h) (Or.inl ⟨by rfl, Ybg_⟩) Ya_ ?_
              refine take_ (i := 1) (N := some 38) #[true, true, true, true, false, true, false, false, true, false, false, false, false, false, false, false, false] rfl rfl (take_ofW HT_.out HW_.out Ybb_) (fun _ _ _ h => h) (Or.inl ⟨by rfl, Ydg_⟩) hHeld Ya_ ?_
              refine take_ (i := 4) (N := some 41) #[true, true, true, true, true, true, false, false, true, false, false, false, false, false, false, false, false] rfl rfl (take_ofW HT_.out HW_.out Ybb_) (fun _ _ _ h => h) (Or.inl ⟨by rfl, Ydg_⟩) hHeld Ya_ ?_
              refine pure_ (i := 6) (N := some 43) #[true, true, true, true, true, true, true, false, true, false, false, false, false, false, false, false, false] rfl rfl (any_of HT_.out Ybb_) (fun _ _ _ h => h) (Or.inl ⟨by rfl, Ybg_⟩) Ya_ ?_
              refine take_ (i := 7) (N := some 44) #[true, true, true, true, true, true, true, true, true, false, false, false, false, false, false, false, false] rfl rfl (take_ofW HT_.out HW_.out Ybb_) (fun _ _ _ h => h) (Or.inl ⟨by rfl, Ydg_⟩) hHeld Ya_ ?_
              refine pure_ (i := 9) (N := some 46) #[true, true, true, true, true, true, true, true, true, true, false, false, false, false, false, false, false] rfl rfl (any_of HT_.out Ybb_) (fun _ _ _ h => h) (Or.inl ⟨by rfl, Ybg_⟩) Ya_ ?_
              refine take_ (i := 10) (N := some 47) #[true, true, true, true, true, true, true, true, true, true, true, false, false, false, false, false, false] rfl rfl (take_ofW HT_.out HW_.out Ybb_) (fun _ _ _ h => h) (Or.inl ⟨by rfl, Ydg_⟩) hHeld Ya_ ?_
              refine one_ (i := 11) (N := some 48) #[true, true, true, true, true, true, true, true, true, true, true, true, false, false, false, false, false] rfl rfl (one_of HT_.out Ybb_) (by decide) (fun K hK => ?_)
              refine goes_ Try.func47 Ybb_ rfl #[.agg #[.slice A0_0 l0_0.length c0_0], .int .i64 (rd (rd_L1 l0_2 x3_2) x4_3)] (by rfl) rfl rfl Yj_ ?_
              with_reducible refine (spec_l5Find.calls k3 _ _ l0_0 (rd (rd_L1 l0_2 x3_2) x4_3) t150 t151 _ ?side1 ?side2 A20.out).mono ?_
              (case side1 => repeat (first | exact (Kd.C_below HR0_0.out HB.out) | (with_reducible refine Kd.C_alloc ?_ _) | (with_reducible refine Kd.C_drewN ?_ _) | (with_reducible refine Kd.C_drew ?_)))
              (case side2 => exact HC0_0.out)
              rintro e w24 ⟨rfl, hb⟩
              refine ⟨_, rfl, ?_⟩
              replace BK0 := Aside0.mk (blk_below (g := gb0) (o := .cells #[.slice A0_0 l0_0.length c0_0, .int .i64 a0_1, .slice (some ad147) l0_2.length c0_2] 34 (0, 0)) Yc_ hb)
              replace HB := Aside0.mk (below_step Yd_ hb)
              (try clear hb)
              (try clear hb2)
              (try clear hk)
              (try clear hi)
              refine hK.out _ _ ⟨(blk_cell BK0.out 0).trans rfl, (blk_cell BK0.out 1).trans rfl, (blk_cell BK0.out 2).trans rfl, ((HB.out.cell (World.block_lt_of_cell? w _ hw148_0)).trans hw148_0), ((HB.out.cell (World.block_lt_of_cell? w _ hw149_0)).trans hw149_0)⟩ (fun hHeld => ?_)
              clear hK K
              refine norm_ (show Act.put _ (some 48) _ = _ from Ya_) ?_
              refine pure_ (i := 12) (N := some 36) #[true, true, true, true, true, true, true, true, true, true, true, true, true, false, false, false, false] rfl rfl (any_of HT_.out Ybb_) (fun _ _ _ h => h) (Or.inl ⟨by rfl, Ybg_⟩) Ya_ ?_
              refine pure_ (i := 13) (N := some 49) #[true, true, true, true, true, true, true, true, true, true, true, true, true, true, false, false, false] rfl rfl (any_of HT_.out Ybb_) (fun _ _ _ h => h) (Or.inl ⟨by rfl, Ybg_⟩) Ya_ ?_
              refine pure_ (i := 14) (N := some 50) #[true, true, true, true, true, true, true, true, true, true, true, true, true, true, true, false, false] rfl rfl (any_of HT_.out Ybb_) (fun _ _ _ h => h) (Or.inl ⟨by rfl, Ybg_⟩) Ya_ ?_
              refine pure_ (i := 15) (N := some 5) #[true, true, true, true, true, true, true, true, true, true, true, true, true, true, true, true, false] rfl rfl (any_of HT_.out Ybb_) (fun _ _ _ h => h) (Or.inl ⟨by rfl, Ybg_⟩) Ya_ ?_
              refine pure_ (i := 16) (N := some 6) #[true, true, true, true, true, true, true, true, true, true, true, true, true, true, true, true, true] rfl rfl (any_of HT_.out Ybb_) (fun _ _ _ h => h) (Or.inl ⟨by rfl, Ybg_⟩) Ya_ ?_
              refine done_ (done_of HT_.out Ybb_) ?_
              try go_wp2
              go_ret
              exact ⟨Yi_, Yd_⟩
             ·rw [if_neg c21] at H
              have c21b0 : decide (0 ≤ t150) = false := decide_eq_false c21
              clear c21
              have H' := Aside0.mk H
              clear H
              obtain ⟨hcz25_0, hcz25_1, hcz25_2⟩ := cl3_ BK0.out
              obtain ⟨hfz25_0, hfz25_1, hfz25_2⟩ := fz3_ BK0.out
              have p147 : 0 ≤ (x3_2 : Int) := of_decide_eq_true Yh_
              have q147 : x3_2 < (l0_2.length : Int) := of_decide_eq_true Yh_
              obtain ⟨ad147, A147_0, c147_0, e147, hx147_0, hl147_0, hi147_0⟩ := Cj HR0_2.out x3_2 p147 q147
              cases e147
              replace hx147_0 := (HB.out.cell (World.block_lt_of_cell? w _ hx147_0)).trans hx147_0
              have HR147_0 := Aside0.mk hi147_0
              have HC147_0 := Aside0.mk hl147_0
              clear hi147_0 hl147_0
              replace p147 := eq_true p147
              replace q147 := eq_true q147
              try go_wp2
              replace BK0 := Aside0.mk (blk_drew BK0.out)
              replace HB := Aside0.mk (below_drew1 HB.out)
              have p148 : 0 ≤ (x3_2 : Int) := of_decide_eq_true Yh_
              have q148 : x3_2 < (l0_2.length : Int) := of_decide_eq_true Yh_
              obtain ⟨ad148, A148_0, c148_0, e148, hx148_0, hl148_0, hi148_0⟩ := Cj HR0_2.out x3_2 p148 q148
              have hw148_0 := hx148_0
              obtain rfl : ad147 = ad148 := (by injection e148)
              replace hx148_0 := (HB.out.cell (World.block_lt_of_cell? w _ hx148_0)).trans hx148_0
              have HR148_0 := Aside0.mk hi148_0
              have HC148_0 := Aside0.mk hl148_0
              clear hi148_0 hl148_0
              replace p148 := eq_true p148
              replace q148 := eq_true q148
              have p149 : 0 ≤ (x4_3 : Int) := of_decide_eq_true Yh_
              have q149 : x4_3 < ((rd_L1 l0_2 x3_2).length : Int) := of_decide_eq_true Yh_
              obtain ⟨ad149, e149, hx149_0⟩ := Kd.Dw HR148_0.out x4_3 p149 q149
              have hw149_0 := hx149_0
              cases e149
              replace hx149_0 := (HB.out.cell (World.block_lt_of_cell? w _ hx149_0)).trans hx149_0
              replace p149 := eq_true p149
              replace q149 := eq_true q149
              refine start_ (n := 17) (S := fun w' => w'.cell? ⟨gb0, 0, none⟩ = some (.slice A0_0 l0_0.length c0_0) ∧ w'.cell? ⟨gb0, 1, none⟩ = some (.int .i64 a0_1) ∧ w'.cell? ⟨gb0, 2, none⟩ = some (.slice (some ad147) l0_2.length c0_2) ∧ w'.cell? (ad147.add (x3_2).toNat) = some (.slice (some ad149) (rd_L1 l0_2 x3_2).length c148_0) ∧ w'.cell? (ad149.add (x4_3).toNat) = some (.int .i64 (rd (rd_L1 l0_2 x3_2) x4_3))) (ds := []) #[false, false, false, false, false, false, false, false, false, false, false, false, false, false, false, false, false] Ybb_ rfl rfl ⟨(blk_cell BK0.out 0).trans rfl, (blk_cell BK0.out 1).trans rfl, (blk_cell BK0.out 2).trans rfl, ((HB.out.cell (World.block_lt_of_cell? w _ hw148_0)).trans hw148_0), ((HB.out.cell (World.block_lt_of_cell? w _ hw149_0)).trans hw149_0)⟩ (fun hHeld => ?_); refine with_tabW Ad.tab9 Ad.bits9 (fun HT_ HW_ => ?_)
              generalize wr.drew = w26 at BK0 HB HR148_0 hx148_0 hx149_0 hHeld ⊢
              refine pure_ (i := 0) (N := some 37) #[true, false, false, false, false, false, false, false, false, false, false, false, false, false, false, false, false] rfl rfl (any_of HT_.out Ybb_) (fun _ _ _ h => h) (Or.inl ⟨by rfl, Ybg_⟩) Ya_ ?_
              refine pure_ (i := 2) (N := some 39) #[true, false, true, false, false, false, false, false, false, false, false, false, false, false, false, false, false] rfl rfl (any_of HT_.out Ybb_) (fun _ _ _ h => h) (Or.inl ⟨by rfl, Ybg_⟩) Ya_ ?_
              refine pure_ (i := 3) (N := some 40) #[true, false, true, true, false, false, false, false, false, false, false, false, false, false, false, false, false] rfl rfl (any_of HT_.out Ybb_) (fun _ _ _ h => h) (Or.inl ⟨by rfl, Ybg_⟩) Ya_ ?_
              refine pure_ (i := 5) (N := some 42) #[true, false, true, true, false, true, false, false, false, false, false, false, false, false, false, false, false] rfl rfl (any_of HT_.out Ybb_) (fun _ _ _ h => h) (Or.inl ⟨by rfl, Ybg_⟩) Ya_ ?_
              refine pure_ (i := 8) (N := some 45) #[true, false, true, true, false, true, false, false, true, false, false, false, false, false, false, false, false] rfl rfl (any_of HT_.out Ybb_) (fun _ _ _ h => h) (Or.inl ⟨by rfl, Ybg_⟩) Ya_ ?_
              refine take_ (i := 1) (N := some 38) #[true, true, true, true, false, true, false, false, true, false, false, false, false, false, false, false, false] rfl rfl (take_ofW HT_.out HW_.out Ybb_) (fun _ _ _ h => h) (Or.inl ⟨by rfl, Ydg_⟩) hHeld Ya_ ?_
              refine take_ (i := 4) (N := some 41) #[true, true, true, true, true, true, false, false, true, false, false, false, false, false, false, false, false] rfl rfl (take_ofW HT_.out HW_.out Ybb_) (fun _ _ _ h => h) (Or.inl ⟨by rfl, Ydg_⟩) hHeld Ya_ ?_
              refine pure_ (i := 6) (N := some 43) #[true, true, true, true, true, true, true, false, true, false, false, false, false, false, false, false, false] rfl rfl (any_of HT_.out Ybb_) (fun _ _ _ h => h) (Or.inl ⟨by rfl, Ybg_⟩) Ya_ ?_
              refine take_ (i := 7) (N := some 44) #[true, true, true, true, true, true, true, true, true, false, false, false, false, false, false, false, false] rfl rfl (take_ofW HT_.out HW_.out Ybb_) (fun _ _ _ h => h) (Or.inl ⟨by rfl, Ydg_⟩) hHeld Ya_ ?_
              refine pure_ (i := 9) (N := some 46) #[true, true, true, true, true, true, true, true, true, true, false, false, false, false, false, false, false] rfl rfl (any_of HT_.out Ybb_) (fun _ _ _ h => h) (Or.inl ⟨by rfl, Ybg_⟩) Ya_ ?_
              refine take_ (i := 10) (N := some 47) #[true, true, true, true, true, true, true, true, true, true, true, false, false, false, false, false, false] rfl rfl (take_ofW HT_.out HW_.out Ybb_) (fun _ _ _ h => h) (Or.inl ⟨by rfl, Ydg_⟩) hHeld Ya_ ?_
              refine one_ (i := 11) (N := some 48) #[true, true, true, true, true, true, true, true, true, true, true, true, false, false, false, false, false] rfl rfl (one_of HT_.out Ybb_) (by decide) (fun K hK => ?_)
              refine goes_ Try.func47 Ybb_ rfl #[.agg #[.slice A0_0 l0_0.length c0_0], .int .i64 (rd (rd_L1 l0_2 x3_2) x4_3)] (by rfl) rfl rfl Yj_ ?_
              with_reducible refine (spec_l5Find.calls k3 _ _ l0_0 (rd (rd_L1 l0_2 x3_2) x4_3) t150 t151 _ ?side1 ?side2 A20.out).mono ?_
              (case side1 => repeat (first | exact (Kd.C_below HR0_0.out HB.out) | (with_reducible refine Kd.C_alloc ?_ _) | (with_reducible refine Kd.C_drewN ?_ _) | (with_reducible refine Kd.C_drew ?_)))
              (case side2 => exact HC0_0.out)
              rintro e w27 ⟨rfl, hb⟩
              refine ⟨_, rfl, ?_⟩
              replace BK0 := Aside0.mk (blk_below (g := gb0) (o := .cells #[.slice A0_0 l0_0.length c0_0, .int .i64 a0_1, .slice (some ad147) l0_2.length c0_2] 34 (0, 0)) Yc_ hb)
              replace HB := Aside0.mk (below_step Yd_ hb)
              (try clear hb)
              (try clear hb2)
              (try clear hk)
              (try clear hi)
              refine hK.out _ _ ⟨(blk_cell BK0.out 0).trans rfl, (blk_cell BK0.out 1).trans rfl, (blk_cell BK0.out 2).trans rfl, ((HB.out.cell (World.block_lt_of_cell? w _ hw148_0)).trans hw148_0), ((HB.out.cell (World.block_lt_of_cell? w _ hw149_0)).trans hw149_0)⟩ (fun hHeld => ?_)
              clear hK K
              refine norm_ (show Act.put _ (some 48) _ = _ from Ya_) ?_
              refine pure_ (i := 12) (N := some 36) #[true, true, true, true, true, true, true, true, true, true, true, true, true, false, false, false, false] rfl rfl (any_of HT_.out Ybb_) (fun _ _ _ h => h) (Or.inl ⟨by rfl, Ybg_⟩) Ya_ ?_
              refine pure_ (i := 13) (N := some 49) #[true, true, true, true, true, true, true, true, true, true, true, true, true, true, false, false, false] rfl rfl (any_of HT_.out Ybb_) (fun _ _ _ h => h) (Or.inl ⟨by rfl, Ybg_⟩) Ya_ ?_
              refine pure_ (i := 14) (N := some 50) #[true, true, true, true, true, true, true, true, true, true, true, true, true, true, true, false, false] rfl rfl (any_of HT_.out Ybb_) (fun _ _ _ h => h) (Or.inl ⟨by rfl, Ybg_⟩) Ya_ ?_
              refine pure_ (i := 15) (N := some 5) #[true, true, true, true, true, true, true, true, true, true, true, true, true, true, true, true, false] rfl rfl (any_of HT_.out Ybb_) (fun _ _ _ h => h) (Or.inl ⟨by rfl, Ybg_⟩) Ya_ ?_
              refine pure_ (i := 16) (N := some 6) #[true, true, true, true, true, true, true, true, true, true, true, true, true, true, true, true, true] rfl rfl (any_of HT_.out Ybb_) (fun _ _ _ h => h) (Or.inl ⟨by rfl, Ybg_⟩) Ya_ ?_
              refine done_ (done_of HT_.out Ybb_) ?_
              try go_wp2
              go_roundg k3
              case measure => have := HJ1.out; have := HK2.out; have := HK3.out; omega
              case rel => exact ⟨(wrap64 (x4_3 + 1)), Ybe_, H', ⟨by have := HJ1.out; have := HK2.out; have := HK3.out; omega⟩, ⟨by (with_reducible repeat (first | apply blk_drewN | apply blk_drew | apply blk_alloc)); exact BK0.out⟩, ⟨by repeat (first | (with_reducible first | exact HB.out | apply below_alloc | apply pw_below_drewN | apply below_drew1 | refine below_set ?_ GE0.out) | exact HB.out)⟩⟩
            ·rw [if_neg c19] at H
             exact absurd H (by simp)
           ·rw [if_neg c18] at H
            have c18b0 : decide (x4_3 < ((rd_L1 l0_2 x3_2).length : Int)) = false := decide_eq_false c18
            clear c18
            have H' := Aside0.mk H
            clear H
            obtain ⟨hcz28_0, hcz28_1, hcz28_2⟩ := cl3_ BK0.out
            obtain ⟨hfz28_0, hfz28_1, hfz28_2⟩ := fz3_ BK0.out
            have p147 : 0 ≤ (x3_2 : Int) := of_decide_eq_true Yh_
            have q147 : x3_2 < (l0_2.length : Int) := of_decide_eq_true Yh_
            obtain ⟨ad147, A147_0, c147_0, e147, hx147_0, hl147_0, hi147_0⟩ := Cj HR0_2.out x3_2 p147 q147
            cases e147
            replace hx147_0 := (HB.out.cell (World.block_lt_of_cell? w _ hx147_0)).trans hx147_0
            have HR147_0 := Aside0.mk hi147_0
            have HC147_0 := Aside0.mk hl147_0
            clear hi147_0 hl147_0
            replace p147 := eq_true p147
            replace q147 := eq_true q147
            go_wp2
            go_roundg k3
            case measure => have := HJ1.out; have := HK2.out; have := HK3.out; omega
            case rel => exact ⟨(wrap64 (x3_2 + 1)), Ybe_, H', ⟨by have := HJ1.out; have := HK2.out; have := HK3.out; omega⟩, ⟨by (with_reducible repeat (first | apply blk_drewN | apply blk_drew | apply blk_alloc)); exact BK0.out⟩, ⟨by repeat (first | (with_reducible first | exact HB.out | apply below_alloc | apply pw_below_drewN | apply below_drew1 | refine below_set ?_ GE0.out) | exact HB.out)⟩⟩
          ·rw [if_neg c17] at H
           exact absurd H (by simp)
         ·rw [if_neg c16] at H
          exact absurd H (by simp)
      ·rw [if_neg c14] at H
       have c14b0 : decide (x3_2 < (l0_2.length : Int)) = false := decide_eq_false c14
       clear c14
       obtain rfl := Option.some.inj H
       obtain ⟨hcz29_0, hcz29_1, hcz29_2⟩ := cl3_ BK0.out
       obtain ⟨hfz29_0, hfz29_1, hfz29_2⟩ := fz3_ BK0.out
       go_wp2
       go_ret
       exact ⟨Yi_, Yd_⟩
mutual
def spec_l9Find.l0 : Nat → Int → Int → Int → List (List Int) → Option (Int × Int)
 | 0, _, _, _, _ => none
 | k + 1, x1, x6, x243000, x243001 => if x6 < (x243001.length : Int) then (spec_l9Find.l1 k x1 x6 0 x243000 x243001) else (some ((-1), (-1)))
def spec_l9Find.l1 : Nat → Int → Int → Int → Int → List (List Int) → Option (Int × Int)
 | 0, _, _, _, _, _ => none
 | k + 1, x1, x6, x7, x243000, x243001 => if 0 ≤ x6 then (if x6 < (x243001.length : Int) then (if x7 < ((rd_L1 x243001 x6).length : Int) then (if 0 ≤ x7 then (if (rd (rd_L1 x243001 x6) x7) = x1 then (some (x6, x7)) else (spec_l9Find.l1 k x1 x6 (wrap64 (x7 + 1)) x243000 x243001)) else (none)) else (spec_l9Find.l0 k x1 (wrap64 (x6 + 1)) x243000 x243001)) else (none)) else (none)
end
def spec_l9Find.f (k : Nat) (a0_0 : Int) (l0_1 : List (List Int)) (a1 : Int) : Option (Int × Int) := spec_l9Find.l0 k a1 0 a0_0 l0_1
theorem spec_l9Find.mono_l : ∀ k, (∀ y0 y1 y2 y3, LeO (spec_l9Find.l0 k y0 y1 y2 y3) (spec_l9Find.l0 (k + 1) y0 y1 y2 y3)) ∧ (∀ y0 y1 y2 y3 y4, LeO (spec_l9Find.l1 k y0 y1 y2 y3 y4) (spec_l9Find.l1 (k + 1) y0 y1 y2 y3 y4))
 | 0 => ⟨fun _ _ _ _ r h => by simp [spec_l9Find.l0] at h, fun _ _ _ _ _ r h => by simp [spec_l9Find.l1] at h⟩
 | k + 1 => by
  obtain ⟨ih0, ih1⟩ := spec_l9Find.mono_l k
  refine ⟨?_, ?_⟩
  ·intro y0 y1 y2 y3
   unfold spec_l9Find.l0
   repeat' first
   | (with_reducible exact ih0 _ _ _ _)
   | (with_reducible exact ih1 _ _ _ _ _)
   | (with_reducible exact LeO.refl _)
   | (with_reducible exact LeO.none _)
   | (with_reducible refine LeO.ite ?_ ?_)
   | (with_reducible refine LeO.bind ?_ (fun _ => ?_))
   | exact ih0 _ _ _ _
   | exact ih1 _ _ _ _ _
   | exact LeO.none _
   | refine LeO.ite ?_ ?_
   | refine LeO.bind ?_ (fun _ => ?_)
  ·intro y0 y1 y2 y3 y4
   unfold spec_l9Find.l1
   repeat' first
   | (with_reducible exact ih0 _ _ _ _)
   | (with_reducible exact ih1 _ _ _ _ _)
   | (with_reducible exact LeO.refl _)
   | (with_reducible exact LeO.none _)
   | (with_reducible refine LeO.ite ?_ ?_)
   | (with_reducible refine LeO.bind ?_ (fun _ => ?_))
   | exact ih0 _ _ _ _
   | exact ih1 _ _ _ _ _
   | exact LeO.none _
   | refine LeO.ite ?_ ?_
   | refine LeO.bind ?_ (fun _ => ?_)
theorem spec_l9Find.mono : ∀ a0 a1 a2 k, LeO (spec_l9Find.f k a0 a1 a2) (spec_l9Find.f (k + 1) a0 a1 a2) := by
 intro a0 a1 a2 k
 obtain ⟨ih0, ih1⟩ := spec_l9Find.mono_l k
 unfold spec_l9Find.f
 repeat' first
   | (with_reducible exact ih0 _ _ _ _)
   | (with_reducible exact ih1 _ _ _ _ _)
   | (with_reducible exact LeO.refl _)
   | (with_reducible exact LeO.none _)
   | (with_reducible refine LeO.ite ?_ ?_)
   | (with_reducible refine LeO.bind ?_ (fun _ => ?_))
   | exact ih0 _ _ _ _
   | exact ih1 _ _ _ _ _
   | exact LeO.none _
   | refine LeO.ite ?_ ?_
   | refine LeO.bind ?_ (fun _ => ?_)
set_option maxHeartbeats 8000000 in
set_option maxRecDepth 100000 in
theorem spec_l9Find.calls (k : Nat) (a0_0 : Int) (A0_1 : Option Addr) (c0_1 : Nat) (l0_1 : List (List Int)) (a1 : Int) (r1 : Int) (r2 : Int) (w : World) (hr0_1 : Kd.C (Kd.slice 3 (Kd.int .i64)) w A0_1 l0_1.length l0_1) (hc0_1 : l0_1.length ≤ c0_1) (h : spec_l9Find.f k a0_0 l0_1 a1 = some (r1, r2)) :
  Calls Try.prog 48 #[.agg #[.int .i64 a0_0, .slice A0_1 l0_1.length c0_1], .int .i64 a1] w fun e w' => e = .returned (.tuple #[.int .i64 r1, .int .i64 r2]) ∧ Below w.heap.size w w' := by
 have hu32 := Try.underlying32
 have HR0_1 := Aside0.mk hr0_1
 have HC0_1 := Aside0.mk hc0_1
 clear hr0_1 hc0_1
 have HB := Aside0.mk (Below.refl w.heap.size w)
 have H : (spec_l9Find.l0 k a1 0 a0_0 l0_1) = some (r1, r2) := h
 clear h
 have H' := Aside0.mk H
 clear H
 go_enter Try.func48, Try.ntmps48
 go_wp2_with (first | ((with_reducible refine gate_dst (N := 2) rfl ?_); refine box_event (by rfl) (N := 2) (by rfl) (cs := #[.int .i64 a0_0, .slice A0_1 l0_1.length c0_1]) (t := 32) Ybf_ ?_; intro gb0 hg w3 hbox hb; have BK0 := Aside0.mk (hbox); have GW0 := Aside0.mk ((by rw [hg]; exact (below_size Yb_) : w.heap.size ≤ gb0)); have GE0 := Aside0.mk ((by rw [hg]; exact (below_size Yb_) : w.heap.size ≤ gb0)); replace HB := Aside0.mk (below_step Yb_ hb); clear hb hbox hg))
 go_loopg [6] k (fun kq v6 w' => ∃ (x6_1 : Int), v6 = .int .i64 x6_1 ∧ Aside0 (spec_l9Find.l0 kq a1 x6_1 a0_0 l0_1 = some (r1, r2)) ∧ Aside0 (kq ≤ k) ∧ Aside0 (w'.heap[gb0]? = some (.cells #[.int .i64 a0_0, (.slice A0_1 l0_1.length c0_1)] 32 (0, 0))) ∧ Aside0 (Below w.heap.size w w'))
 case atStart => exact ⟨(0), Ybe_, H', ⟨Nat.le_refl _⟩, ⟨by (with_reducible repeat (first | apply blk_drewN | apply blk_drew | apply blk_alloc)); exact BK0.out⟩, ⟨by repeat (first | (with_reducible first | exact HB.out | apply below_alloc | apply pw_below_drewN | apply below_drew1 | refine below_set ?_ GE0.out) | exact HB.out)⟩⟩
 case round =>
  clear H'
  try clear p2
  obtain ⟨x6_1, rfl, HA, HK1, BK0, HB⟩ := hrel
  cases gk with
  | zero => exact absurd HA.out (by simp [spec_l9Find.l0])
  | succ k1 =>
   have H := HA.out
   clear HA
   simp only [spec_l9Find.l0] at H
   by_cases c4 : x6_1 < (l0_1.length : Int)
   ·rw [if_pos c4] at H
    have c4b0 : decide (x6_1 < (l0_1.length : Int)) = true := decide_eq_true c4
    clear c4
    have H' := Aside0.mk H
    clear H
    obtain ⟨hcz5_0, hcz5_1⟩ := cl2_ BK0.out
    obtain ⟨hfz5_0, hfz5_1⟩ := fz2_ BK0.out
    go_wp2
    go_loopg [7] k1 (fun kq v7 w' => ∃ (x7_2 : Int), v7 = .int .i64 x7_2 ∧ Aside0 (spec_l9Find.l1 kq a1 x6_1 x7_2 a0_0 l0_1 = some (r1, r2)) ∧ Aside0 (kq ≤ k1) ∧ Aside0 (w'.heap[gb0]? = some (.cells #[.int .i64 a0_0, (.slice A0_1 l0_1.length c0_1)] 32 (0, 0))) ∧ Aside0 (Below w.heap.size w w'))
    case atStart => exact ⟨(0), Ybe_, H', ⟨Nat.le_refl _⟩, ⟨by (with_reducible repeat (first | apply blk_drewN | apply blk_drew | apply blk_alloc)); exact BK0.out⟩, ⟨by repeat (first | (with_reducible first | exact HB.out | apply below_alloc | apply pw_below_drewN | apply below_drew1 | refine below_set ?_ GE0.out) | exact HB.out)⟩⟩
    case round =>
     clear H'
     try clear p2; try clear c4; try clear c4b0; try clear hcz5_0; try clear hcz5_1; try clear hfz5_0; try clear hfz5_1; try clear p2
     obtain ⟨x7_2, rfl, HA, HK2, BK0, HB⟩ := hrel
     cases gk with
     | zero => exact absurd HA.out (by simp [spec_l9Find.l1])
     | succ k2 =>
      have H := HA.out
      clear HA
      simp only [spec_l9Find.l1] at H
      by_cases c6 : 0 ≤ x6_1
      ·rw [if_pos c6] at H
       have c6b0 : decide (0 ≤ x6_1) = true := decide_eq_true c6
       clear c6
       by_cases c7 : x6_1 < (l0_1.length : Int)
       ·rw [if_pos c7] at H
        have c7b0 : decide (x6_1 < (l0_1.length : Int)) = true := decide_eq_true c7
        clear c7
        by_cases c8 : x7_2 < ((rd_L1 l0_1 x6_1).length : Int)
        ·rw [if_pos c8] at H
         have c8b0 : decide (x7_2 < ((rd_L1 l0_1 x6_1).length : Int)) = true := decide_eq_true c8
         clear c8
         by_cases c9 : 0 ≤ x7_2
         ·rw [if_pos c9] at H
          have c9b0 : decide (0 ≤ x7_2) = true := decide_eq_true c9
          clear c9
          by_cases c10 : (rd (rd_L1 l0_1 x6_1) x7_2) = a1
          ·rw [if_pos c10] at H
           have c10b0 : ((rd (rd_L1 l0_1 x6_1) x7_2) == a1) = true := beq_iff_eq.mpr c10
           have c10b1 : ((rd (rd_L1 l0_1 x6_1) x7_2) != a1) = false := bne_eq_false_iff_eq.mpr c10
           clear c10
           simp only [Option.some.injEq, Prod.mk.injEq] at H
           obtain ⟨rfl, rfl⟩ := H
           obtain ⟨hcz11_0, hcz11_1⟩ := cl2_ BK0.out
           obtain ⟨hfz11_0, hfz11_1⟩ := fz2_ BK0.out
           have p243 : 0 ≤ (x6_1 : Int) := of_decide_eq_true Yh_
           have q243 : x6_1 < (l0_1.length : Int) := of_decide_eq_true Yh_
           obtain ⟨ad243, A243_0, c243_0, e243, hx243_0, hl243_0, hi243_0⟩ := Cj HR0_1.out x6_1 p243 q243
           cases e243
           replace hx243_0 := (HB.out.cell (World.block_lt_of_cell? w _ hx243_0)).trans hx243_0
           have HR243_0 := Aside0.mk hi243_0
           have HC243_0 := Aside0.mk hl243_0
           clear hi243_0 hl243_0
           replace p243 := eq_true p243
           replace q243 := eq_true q243
           have p244 : 0 ≤ (x6_1 : Int) := of_decide_eq_true Yh_
           have q244 : x6_1 < (l0_1.length : Int) := of_decide_eq_true Yh_
           obtain ⟨ad244, A244_0, c244_0, e244, hx244_0, hl244_0, hi244_0⟩ := Cj HR0_1.out x6_1 p244 q244
           obtain rfl : ad243 = ad244 := (by injection e244)
           replace hx244_0 := (HB.out.cell (World.block_lt_of_cell? w _ hx244_0)).trans hx244_0
           have HR244_0 := Aside0.mk hi244_0
           have HC244_0 := Aside0.mk hl244_0
           clear hi244_0 hl244_0
           replace p244 := eq_true p244
           replace q244 := eq_true q244
           have ea_ := Option.some.inj (hx243_0.symm.trans hx244_0)
           injection ea_ with ea_ en_ ec_
           subst ea_
           subst ec_
           clear en_
           have p245 : 0 ≤ (x7_2 : Int) := of_decide_eq_true Yh_
           have q245 : x7_2 < ((rd_L1 l0_1 x6_1).length : Int) := of_decide_eq_true Yh_
           obtain ⟨ad245, e245, hx245_0⟩ := Kd.Dw HR244_0.out x7_2 p245 q245
           cases e245
           replace hx245_0 := (HB.out.cell (World.block_lt_of_cell? w _ hx245_0)).trans hx245_0
           replace p245 := eq_true p245
           replace q245 := eq_true q245
           go_wp2
           go_ret2
           exact ⟨Yi_, Yd_⟩
          ·rw [if_neg c10] at H
           have c10b0 : ((rd (rd_L1 l0_1 x6_1) x7_2) == a1) = false := beq_eq_false_iff_ne.mpr c10
           have c10b1 : ((rd (rd_L1 l0_1 x6_1) x7_2) != a1) = true := bne_iff_ne.mpr c10
           have H' := Aside0.mk H
           clear H
           obtain ⟨hcz12_0, hcz12_1⟩ := cl2_ BK0.out
           obtain ⟨hfz12_0, hfz12_1⟩ := fz2_ BK0.out
           have p243 : 0 ≤ (x6_1 : Int) := of_decide_eq_true Yh_
           have q243 : x6_1 < (l0_1.length : Int) := of_decide_eq_true Yh_
           obtain ⟨ad243, A243_0, c243_0, e243, hx243_0, hl243_0, hi243_0⟩ := Cj HR0_1.out x6_1 p243 q243
           cases e243
           replace hx243_0 := (HB.out.cell (World.block_lt_of_cell? w _ hx243_0)).trans hx243_0
           have HR243_0 := Aside0.mk hi243_0
           have HC243_0 := Aside0.mk hl243_0
           clear hi243_0 hl243_0
           replace p243 := eq_true p243
           replace q243 := eq_true q243
           have p244 : 0 ≤ (x6_1 : Int) := of_decide_eq_true Yh_
           have q244 : x6_1 < (l0_1.length : Int) := of_decide_eq_true Yh_
           obtain ⟨ad244, A244_0, c244_0, e244, hx244_0, hl244_0, hi244_0⟩ := Cj HR0_1.out x6_1 p244 q244
           obtain rfl : ad243 = ad244 := (by injection e244)
           replace hx244_0 := (HB.out.cell (World.block_lt_of_cell? w _ hx244_0)).trans hx244_0
           have HR244_0 := Aside0.mk hi244_0
           have HC244_0 := Aside0.mk hl244_0
           clear hi244_0 hl244_0
           replace p244 := eq_true p244
           replace q244 := eq_true q244
           have ea_ := Option.some.inj (hx243_0.symm.trans hx244_0)
           injection ea_ with ea_ en_ ec_
           subst ea_
           subst ec_
           clear en_
           have p245 : 0 ≤ (x7_2 : Int) := of_decide_eq_true Yh_
           have q245 : x7_2 < ((rd_L1 l0_1 x6_1).length : Int) := of_decide_eq_true Yh_
           obtain ⟨ad245, e245, hx245_0⟩ := Kd.Dw HR244_0.out x7_2 p245 q245
           cases e245
           replace hx245_0 := (HB.out.cell (World.block_lt_of_cell? w _ hx245_0)).trans hx245_0
           replace p245 := eq_true p245
           replace q245 := eq_true q245
           go_wp2
           go_roundg k2
           case measure => have := HK1.out; have := HK2.out; omega
           case rel => exact ⟨(wrap64 (x7_2 + 1)), Ybe_, H', ⟨by have := HK1.out; have := HK2.out; omega⟩, ⟨by (with_reducible repeat (first | apply blk_drewN | apply blk_drew | apply blk_alloc)); exact BK0.out⟩, ⟨by repeat (first | (with_reducible first | exact HB.out | apply below_alloc | apply pw_below_drewN | apply below_drew1 | refine below_set ?_ GE0.out) | exact HB.out)⟩⟩
         ·rw [if_neg c9] at H
          exact absurd H (by simp)
        ·rw [if_neg c8] at H
         have c8b0 : decide (x7_2 < ((rd_L1 l0_1 x6_1).length : Int)) = false := decide_eq_false c8
         clear c8
         have H' := Aside0.mk H
         clear H
         obtain ⟨hcz13_0, hcz13_1⟩ := cl2_ BK0.out
         obtain ⟨hfz13_0, hfz13_1⟩ := fz2_ BK0.out
         have p243 : 0 ≤ (x6_1 : Int) := of_decide_eq_true Yh_
         have q243 : x6_1 < (l0_1.length : Int) := of_decide_eq_true Yh_
         obtain ⟨ad243, A243_0, c243_0, e243, hx243_0, hl243_0, hi243_0⟩ := Cj HR0_1.out x6_1 p243 q243
         cases e243
         replace hx243_0 := (HB.out.cell (World.block_lt_of_cell? w _ hx243_0)).trans hx243_0
         have HR243_0 := Aside0.mk hi243_0
         have HC243_0 := Aside0.mk hl243_0
         clear hi243_0 hl243_0
         replace p243 := eq_true p243
         replace q243 := eq_true q243
         go_wp2
         go_roundg k2
         case measure => have := HK1.out; have := HK2.out; omega
         case rel => exact ⟨(wrap64 (x6_1 + 1)), Ybe_, H', ⟨by have := HK1.out; have := HK2.out; omega⟩, ⟨by (with_reducible repeat (first | apply blk_drewN | apply blk_drew | apply blk_alloc)); exact BK0.out⟩, ⟨by repeat (first | (with_reducible first | exact HB.out | apply below_alloc | apply pw_below_drewN | apply below_drew1 | refine below_set ?_ GE0.out) | exact HB.out)⟩⟩
       ·rw [if_neg c7] at H
        exact absurd H (by simp)
      ·rw [if_neg c6] at H
       exact absurd H (by simp)
   ·rw [if_neg c4] at H
    have c4b0 : decide (x6_1 < (l0_1.length : Int)) = false := decide_eq_false c4
    clear c4
    simp only [Option.some.injEq, Prod.mk.injEq] at H
    obtain ⟨rfl, rfl⟩ := H
    obtain ⟨hcz14_0, hcz14_1⟩ := cl2_ BK0.out
    obtain ⟨hfz14_0, hfz14_1⟩ := fz2_ BK0.out
    go_wp2
    go_ret2
    exact ⟨Yi_, Yd_⟩
def Bz.f (a0 : Int) (a1 : Int) (a2 : Int) : Option (Bool) := if a0 ≥ a1 then (some (decide (a0 ≤ a2))) else (some false)
set_option maxHeartbeats 8000000 in
set_option maxRecDepth 100000 in
theorem Bz.calls (a0 : Int) (a1 : Int) (a2 : Int) (r : Bool) (w : World) (h : Bz.f a0 a1 a2 = some r) :
  Calls Try.prog 65 #[.int .i64 a0, .int .i64 a1, .int .i64 a2] w fun e w' => e = .returned (.bool r) ∧ Drawn0 w w' := by
 have H : (if a0 ≥ a1 then (some (decide (a0 ≤ a2))) else (some false)) = some r := h
 clear h
 by_cases c4 : a0 ≥ a1
 ·rw [if_pos c4] at H
  have c4b0 : decide (a1 ≤ a0) = true := decide_eq_true c4
  clear c4
  obtain rfl := Option.some.inj H
  go_enter Try.func65, Try.ntmps65
  go_wp2
  go_ret
  exact ⟨Ybe_, Ycc_⟩
 ·rw [if_neg c4] at H
  have c4b0 : decide (a1 ≤ a0) = false := decide_eq_false c4
  clear c4
  obtain rfl := Option.some.inj H
  go_enter Try.func65, Try.ntmps65
  go_wp2
  go_ret
  exact ⟨Ybe_, Ycc_⟩
end Go.Proofs.Ytnggfglmjdiaaaa.X

namespace Go.Proofs.YtnggfglmjdiaaaaMp
open Go Go.RowKit Go.Maps
theorem plainElem_bool_inv {H : Type} {P : Program} {e : TypeId} (he : P.underlying e = some .bool) {v : Value} {d : DataW H} {ps : List MemPlace} (h : plainElem (H := H) P e v = some (d, ps)) : ∃ c : Bool, v = .bool c ∧ d = .lit (.bool c) ∧ ps = [] := by
 unfold plainElem at h
 rw [he] at h
 cases v <;> simp at h
 rename_i c
 exact ⟨c, rfl, h.1.symm, h.2⟩
theorem lookup_bool {H : Type} {P : Program} {w : World} {k t e : TypeId} {b n : Nat} {D : DataW H} (h : w.ownsMap P k (plainElem P e) b n D) (K : Keyed P k) (ht : P.underlying t = some (.map k e)) (he : P.underlying e = some .bool) (hz : (zeroValue e).run P w = .ok (.bool false) w)
  {key : Value} {kl : Lit} (hkey : keyOf P k key = some kl) : ∃ c : Bool, (Instr.lookup t (.map (some b)) key false).run P w = .ok (.bool c) w ∧ D.atKey kl (.lit (.bool false)) = .lit (.bool c) := by
 obtain ⟨v, ps, hrun, hv⟩ := h.lookup K ht hz (plainElem_bool he false) hkey
 obtain ⟨c, rfl, hc, _⟩ := plainElem_bool_inv he hv
 exact ⟨c, hrun, hc⟩
/-- Block b is a map keyed by ints in which just the keys of S are told as true. -/
def Ce (P : Program) (k e : TypeId) (w : World) (b : Nat) (S : List Int) : Prop :=
 ∃ D : DataW Unit, w.ownsMap P k (plainElem P e) b S.length D ∧ IsMap D ∧ ∀ x : Int, D.atKey (.int .i64 x) (.lit (.bool false)) = .lit (.bool (decide (x ∈ S)))
variable {P : Program} {k e : TypeId} {w w' : World} {b : Nat} {S : List Int}
theorem Ce.made (P : Program) (k e : TypeId) (w : World) : Ce P k e (w.alloc (.map #[] 0)) w.heap.size [] :=
 ⟨.map [], World.ownsMap_made _ _ _ _, ⟨[], rfl⟩, fun x => by simp [DataW.atKey]⟩
theorem Ce.lt (h : Ce P k e w b S) : b < w.heap.size := h.choose_spec.1.lt
theorem Ce.block (h : Ce P k e w b S) (hb : w'.heap[b]? = w.heap[b]?) : Ce P k e w' b S := by
 obtain ⟨D, ⟨es, clock, h0, F, hs, hD⟩, hm, hx⟩ := h
 exact ⟨D, ⟨es, clock, hb.trans h0, F, hs, hD⟩, hm, hx⟩
theorem Ce.below (h : Ce P k e w b S) (hb : Below w.heap.size w w') : Ce P k e w' b S := h.block (hb.block b h.lt)
theorem Ce.alloc (h : Ce P k e w b S) (o : Obj) : Ce P k e (w.alloc o) b S := h.below ((Below.refl _ _).alloc (Nat.le_refl _) _)
theorem Ce.drew (h : Ce P k e w b S) : Ce P k e w.drew b S := h.block rfl
theorem Ce.drewN (h : Ce P k e w b S) (n : Nat) : Ce P k e (w.drewN n) b S := h.block rfl
theorem Ce.grown {row : Option Nat} (h : Ce P k e w b S) (hg : w.grownBy w' row) (hne : some b ≠ row) : Ce P k e w' b S := h.block (hg.block b h.lt hne)
theorem Ce.setCell (h : Ce P k e w b S) {p : Addr} (u : Value) (hne : b ≠ p.block) : Ce P k e (w.setCell p u) b S := h.block (Below.heap_setCell w p u b hne)
theorem Ce.look {t : TypeId} (h : Ce P k e w b S) (hk : P.underlying k = some (.int .i64)) (ht : P.underlying t = some (.map k e)) (he : P.underlying e = some .bool) (hz : (zeroValue e).run P w = .ok (.bool false) w) {x : Int} (hx : (Lit.int .i64 x).wf = true) :
  (Instr.lookup t (.map (some b)) (.int .i64 x) false).run P w = .ok (.bool (decide (x ∈ S))) w := by
 obtain ⟨D, ho, _, hat⟩ := h
 obtain ⟨c, hrun, hc⟩ := lookup_bool ho (int_keyed hk) ht he hz (keyOf_int_mk hk hx)
 rw [hat x] at hc
 simp only [DataW.lit.injEq, Lit.bool.injEq] at hc
 rw [hrun, hc]
theorem Ce.put {t : TypeId} (h : Ce P k e w b S) (hk : P.underlying k = some (.int .i64)) (ht : P.underlying t = some (.map k e)) (he : P.underlying e = some .bool) (hn : S.length < maxLen) {x : Int} (hx : (Lit.int .i64 x).wf = true) :
  ∃ w', (Instr.mapUpdate t (.map (some b)) (.int .i64 x) (.bool true)).run P w = .ok () w' ∧ Ce P k e w' b (S ++ [x]) ∧ w.grownBy w' (some b) := by
 obtain ⟨D, ho, hm, hat⟩ := h
 obtain ⟨w', hrun, ho', hg⟩ := ho.update (int_keyed hk) ht hn (keyOf_int_mk hk hx) (plainElem_bool he true)
 refine ⟨w', hrun, ⟨_, by rw [List.length_append]; exact ho', hm.put _ _, fun y => ?_⟩, hg⟩
 by_cases hy : y = x
 ·subst hy
  rw [atKey_put_same hm (by first | exact trivial | simp [WideAt.IsKeyLit])]
  simp
 ·rw [atKey_put_other (by simpa using hy), hat y]
  simp [hy]
theorem wpList_put_set {ops : Array Oper} {rest : List Oper} {o : Oper} {a : Act} {Q : Exit → Act → World → Prop} (w : World)
  (hg : o.guard = none) (m x v : Operand) (t : TypeId) (hop : o.op = Op.mapUpdate t m x v ∨ o.op = Op.insert t m x v) (k e : TypeId) (hk : P.underlying k = some (.int .i64)) (ht : P.underlying t = some (.map k e)) (he : P.underlying e = some .bool) (b : Nat) (S : List Int) (hn : S.length < maxLen)
  (hm : a.eval m = .map (some b)) (h : Ce P k e w b S) (key : Int) (hx : a.eval x = .int .i64 key) (hv : a.eval v = .bool true) (hwf : (Lit.int .i64 key).wf = true)
  (hK : ∀ w', Ce P k e w' b (S ++ [key]) → w.grownBy w' (some b) → wpList P ops Q rest (a.put o.dst undef) w') : wpList P ops Q (o :: rest) a w := by
 refine wpList_plain hg fun K' hK' => ?_
 obtain ⟨w', hrun, r1, r2⟩ := h.put hk ht he hn hwf
 unfold Oper.wp
 rcases hop with hop | hop <;> simp [execOp, hop, hm, hx, hv, hrun, Result.andThen] <;> exact hK' _ _ (hK w' r1 r2)
theorem wf_i64 {x : Int} (h0 : -9223372036854775808 ≤ x) (h1 : x ≤ 9223372036854775807) : (Lit.int .i64 x).wf = true := by
 simp [Lit.wf, IntKind.min, IntKind.max, IntKind.signed, IntKind.bits]; omega
end Go.Proofs.YtnggfglmjdiaaaaMp

namespace Go.Proofs.Ytnggfglmjdiaaaa.X
open Go.RowKit Go.Proofs.YtnggfglmjdiaaaaW.PrintWords Go.Proofs.YtnggfglmjdiaaaaW.PrintLast Go.Proofs.YtnggfglmjdiaaaaW.PrintMore
attribute [local go_sem] max2_int min2_int max_two min_two max_three min_three max_four min_four
-- NEEDS impl_within.calls
/-- A row's numbers, put to those seen; none if one is out of range or was seen. -/
def F9 : List Int → List Int → Option (List Int)
 | S, [] => some S
 | S, n :: r => if 1 ≤ n ∧ n ≤ 99 ∧ ¬ n ∈ S then F9 (S ++ [n]) r else none
def Du (m : Int) : List Int → List (List Int) → Bool
 | _, [] => true
 | S, s :: r => if (s.length : Int) > m then false else match F9 S s with | none => false | some S2 => Du m S2 r
def Fg (m : Int) (S : List Int) (s : List Int) (r : List (List Int)) : Bool := match F9 S s with | none => false | some S2 => Du m S2 r
theorem Gu (m : Int) (S : List Int) (r : List (List Int)) : Fg m S [] r = Du m S r := rfl
theorem Gt (m : Int) (S : List Int) (n : Int) (s : List Int) (r : List (List Int)) (h1 : 1 ≤ n) (h2 : n ≤ 99) (h3 : decide (n ∈ S) = false) : Fg m S (n :: s) r = Fg m (S ++ [n]) s r := by
 unfold Fg; rw [F9, if_pos ⟨h1, h2, of_decide_eq_false h3⟩]
theorem Fb (m : Int) (S : List Int) (n : Int) (s : List Int) (r : List (List Int)) (h : ¬ (1 ≤ n ∧ n ≤ 99) ∨ decide (n ∈ S) = true) : Fg m S (n :: s) r = false := by
 unfold Fg; rw [F9, if_neg (fun z => h.elim (fun a => a ⟨z.1, z.2.1⟩) (fun a => z.2.2 (of_decide_eq_true a)))]
theorem Gn (m : Int) (S : List Int) (s : List Int) (r : List (List Int)) (h : (s.length : Int) > m) : Du m S (s :: r) = false := by rw [Du, if_pos h]
theorem goodRows_in (m : Int) (S : List Int) (s : List Int) (r : List (List Int)) (h : ¬ (s.length : Int) > m) : Du m S (s :: r) = Fg m S s r := by rw [Du, if_neg h]; rfl
theorem Gh (a b c : Int) : Bz.f a b c = some (decide (b ≤ a) && decide (a ≤ c)) := by
 unfold Bz.f
 by_cases h : a ≥ b
 ·rw [if_pos h]; simp [show b ≤ a from h]
 ·rw [if_neg h]; simp [show ¬ b ≤ a from h]
theorem zeroB_ (w : World) : (zeroValue 4).run Try.prog w = .ok (.bool false) w := by kernel_rfl
theorem row_at (l : List (List Int)) (i : Nat) (h : i < l.length) : rd_L1 l (i : Int) = l[i] := by simp [rd_L1, List.getD_eq_getElem?_getD, List.getElem?_eq_getElem h]
theorem num_at (l : List Int) (i : Nat) (h : i < l.length) : rd l (i : Int) = l[i] := by simp [rd, List.getD_eq_getElem?_getD, List.getElem?_eq_getElem h]
def Eg.f (l0_0 : List (List Int)) : Option Bool := some ((decide (1 ≤ (l0_0.length : Int)) && decide ((l0_0.length : Int) ≤ 6)) && Du 4 [] l0_0)
set_option maxHeartbeats 8000000 in
set_option maxRecDepth 100000 in
theorem Eg.calls (A0_0 : Option Addr) (c0_0 : Nat) (l0_0 : List (List Int)) (r : Bool) (w : World) (hr : Kd.C (Kd.slice 3 (Kd.int .i64)) w A0_0 l0_0.length l0_0) (hc : l0_0.length ≤ c0_0) (h : Eg.f l0_0 = some r) :
  Calls Try.prog 42 #[.agg #[.slice A0_0 l0_0.length c0_0]] w fun e w' => e = .returned (.bool r) ∧ Below w.heap.size w w' := by
 have hu := Try.underlying31
 have HR := Aside0.mk hr
 clear hr hc
 have HB := Aside0.mk (Below.refl w.heap.size w)
 have hmm := @run_makeMap Try.prog
 have hL0 : l0_0.length ≤ 9223372036854775807 := HR.out.2.1
 simp only [Eg.f, Option.some.injEq] at h
 have g0 : Bz.f (l0_0.length : Int) 1 6 = some (decide (1 ≤ (l0_0.length : Int)) && decide ((l0_0.length : Int) ≤ 6)) := Gh _ _ _
 have G0 := Aside0.mk g0
 clear g0
 cases e0 : (decide (1 ≤ (l0_0.length : Int)) && decide ((l0_0.length : Int) ≤ 6)) with
 | false =>
  have HF := Aside0.mk (show r = false by rw [← h]; simp [e0])
  clear h
  rw [e0] at G0
  clear e0
  obtain rfl := HF.out
  go_enter Try.func42, Try.ntmps42
  go_wp2_with (first | ((with_reducible refine gate_dst (N := 1) rfl ?_); refine box_event (by rfl) (N := 1) (by rfl) (cs := #[.slice A0_0 l0_0.length c0_0]) (t := 31) Ybf_ ?_; intro gb hg w1 hbox hb; have n0_ := Aside0.mk (below_step Yb_ hb); have n3_ := Aside0.mk hbox; have GWS := Aside0.mk (Nat.le_trans (below_size Yb_) hb.size); clear HB; have HB := n0_; have BK := n3_; clear n0_ n3_ hb hbox hg; have hcz0 : w1.cell? ⟨gb, 0, none⟩ = some (.slice A0_0 l0_0.length c0_0) := (blk_cell BK.out 0).trans rfl; have hca0 : ∀ (nn : Nat) (oo : Obj), ((w1.drewN nn).alloc oo).cell? ⟨gb, 0, none⟩ = some (.slice A0_0 l0_0.length c0_0) := fun nn oo => (blk_cell (blk_alloc (blk_drewN BK.out nn) oo) 0).trans rfl) | ((with_reducible refine gate_callee (f := 65) rfl ?_); (try (refine gate_guard (by rfl) ?_; dsimp only)); refine goesL_ (some 11) rfl rfl Try.func65 Ybb_ rfl #[.int .i64 (l0_0.length : Int), .int .i64 1, .int .i64 6] rfl Yj_ ?_; (with_reducible refine (Bz.calls (l0_0.length : Int) 1 6 false _ G0.out).mono ?_); rintro e w' ⟨rfl, ⟨nd, rfl⟩⟩; refine ⟨_, rfl, ?_⟩))
  go_ret
  exact ⟨rfl, Yb_⟩
 | true =>
  have HG := Aside0.mk (show Du 4 [] l0_0 = r by rw [← h]; simp [e0])
  clear h
  have hL6 : l0_0.length ≤ 6 := by simp at e0; omega
  rw [e0] at G0
  clear e0
  have HL6 := Aside0.mk hL6
  clear hL6
  go_enter Try.func42, Try.ntmps42
  go_wp2_with (first | ((with_reducible refine gate_dst (N := 1) rfl ?_); refine box_event (by rfl) (N := 1) (by rfl) (cs := #[.slice A0_0 l0_0.length c0_0]) (t := 31) Ybf_ ?_; intro gb hg w1 hbox hb; have n0_ := Aside0.mk (below_step Yb_ hb); have n3_ := Aside0.mk hbox; have GWS := Aside0.mk (Nat.le_trans (below_size Yb_) hb.size); clear HB; have HB := n0_; have BK := n3_; clear n0_ n3_ hb hbox hg; have hcz0 : w1.cell? ⟨gb, 0, none⟩ = some (.slice A0_0 l0_0.length c0_0) := (blk_cell BK.out 0).trans rfl; have hca0 : ∀ (nn : Nat) (oo : Obj), ((w1.drewN nn).alloc oo).cell? ⟨gb, 0, none⟩ = some (.slice A0_0 l0_0.length c0_0) := fun nn oo => (blk_cell (blk_alloc (blk_drewN BK.out nn) oo) 0).trans rfl) | ((with_reducible refine gate_callee (f := 65) rfl ?_); (try (refine gate_guard (by rfl) ?_; dsimp only)); refine goesL_ (some 11) rfl rfl Try.func65 Ybb_ rfl #[.int .i64 (l0_0.length : Int), .int .i64 1, .int .i64 6] rfl Yj_ ?_; (with_reducible refine (Bz.calls (l0_0.length : Int) 1 6 true _ G0.out).mono ?_); rintro e w' ⟨rfl, ⟨nd, rfl⟩⟩; refine ⟨_, rfl, ?_⟩))
  clear hmm
  have hBK1 := blk_cell BK.out 0
  have HLT := Aside0.mk (blk_lt BK.out)
  clear hBK1
  go_loopg [17] l0_0.length (fun gg v17 w' => ∃ (i : Nat) (S : List Int), v17 = .int .i64 (i : Int) ∧ Aside0 (i ≤ l0_0.length ∧ l0_0.length - i ≤ gg ∧ S.length ≤ 4 * i) ∧ Aside0 (Du 4 S (l0_0.drop i) = r) ∧ Aside0 (Go.Proofs.YtnggfglmjdiaaaaMp.Ce Try.prog 3 4 w' w1.heap.size S) ∧ Aside0 (w'.heap[gb]? = some (.cells #[.slice A0_0 l0_0.length c0_0] 31 (0, 0))) ∧ Aside0 (Below w.heap.size w w'))
  case atStart => exact ⟨0, [], rfl, ⟨by omega, by omega, by simp⟩, HG, ⟨Go.Proofs.YtnggfglmjdiaaaaMp.Ce.made _ _ _ _⟩, ⟨by (with_reducible repeat (first | apply blk_drewN | apply blk_drew | apply blk_alloc)); exact BK.out⟩, ⟨by repeat (first | (with_reducible first | exact HB.out | apply below_alloc | apply pw_below_drewN | apply below_drew1) | exact HB.out)⟩⟩
  case round =>
   clear HG HB BK hcz0 hca0
   obtain ⟨i, S, rfl, HI, HG, HM, BK, HB⟩ := hrel
   have hi := HI.out
   by_cases c1 : i < l0_0.length
   ·have c1b : decide ((i : Int) < (l0_0.length : Int)) = true := decide_eq_true (by omega)
    have c1c : decide (i < l0_0.length) = true := decide_eq_true c1
    obtain ⟨ad, Ar, cr, er, hx, hcl, hrr⟩ := Cj HR.out (i : Int) (by omega) (by omega)
    cases er
    replace hx := (HB.out.cell (World.block_lt_of_cell? w _ hx)).trans hx
    rw [row_at l0_0 i c1] at hx hcl hrr
    rw [Int.toNat_natCast] at hx
    have HRR := Aside0.mk hrr
    have hdr : l0_0.drop i = l0_0[i] :: l0_0.drop (i + 1) := List.drop_eq_getElem_cons c1
    rw [hdr] at HG
    obtain ⟨row, hrow⟩ : ∃ row, row = l0_0[i] := ⟨_, rfl⟩
    rw [← hrow] at HG hx HRR
    clear hrr hcl hdr hrow
    have C1 := Aside0.mk c1
    have HV := Aside0.mk (show wrap64 ((i : Int) + 1) = (i : Int) + 1 by unfold wrap64; omega)
    have hr9 : row.length ≤ 9223372036854775807 := HRR.out.2.1
    have pi : (0 ≤ (i : Int)) = True := eq_true (by omega)
    have qi : ((i : Int) < (l0_0.length : Int)) = True := eq_true (by omega)
    have qi2 : (i < l0_0.length) = True := eq_true c1
    clear c1 hi
    have hcy0 : wr.cell? ⟨gb, 0, none⟩ = some (.slice (some ad) l0_0.length c0_0) := (blk_cell BK.out 0).trans rfl
    by_cases c2 : (row.length : Int) > 4
    ·have HF := Aside0.mk (HG.out.symm.trans (Gn 4 S row _ c2))
     have c2b : decide (4 < (row.length : Int)) = true := decide_eq_true c2
     have c2c : decide (4 < row.length) = true := decide_eq_true (by omega)
     clear c2
     obtain rfl := HF.out
     go_wp2
     go_ret
     exact ⟨rfl, Yb_⟩
    ·have HG2 := Aside0.mk ((goodRows_in 4 S row _ c2).symm.trans HG.out)
     have c2b : decide (4 < (row.length : Int)) = false := decide_eq_false c2
     have c2c : decide (4 < row.length) = false := decide_eq_false (by omega)
     have hr4 : row.length ≤ 4 := by omega
     have HR4 := Aside0.mk hr4
     clear hr4 c2 HG
     go_wp2
     clear c2b c2c
     go_loopg [26] row.length (fun gg v26 w' => ∃ (k : Nat) (S2 : List Int), v26 = .int .i64 (k : Int) ∧ Aside0 (k ≤ row.length ∧ row.length - k ≤ gg ∧ S2.length ≤ 4 * i + k) ∧ Aside0 (Fg 4 S2 (row.drop k) (l0_0.drop (i + 1)) = r) ∧ Aside0 (Go.Proofs.YtnggfglmjdiaaaaMp.Ce Try.prog 3 4 w' w1.heap.size S2) ∧ Aside0 (w'.heap[gb]? = some (.cells #[.slice (some ad) l0_0.length c0_0] 31 (0, 0))) ∧ Aside0 (Below w.heap.size w w'))
     case atStart => exact ⟨0, S, rfl, ⟨by omega, by omega, by have := HI.out; omega⟩, HG2, ⟨by (with_reducible repeat (first | apply Go.Proofs.YtnggfglmjdiaaaaMp.Ce.alloc | apply Go.Proofs.YtnggfglmjdiaaaaMp.Ce.drewN | apply Go.Proofs.YtnggfglmjdiaaaaMp.Ce.drew)); exact HM.out⟩, ⟨by (with_reducible repeat (first | apply blk_drewN | apply blk_drew | apply blk_alloc)); exact BK.out⟩, ⟨by repeat (first | (with_reducible first | exact HB.out | apply below_alloc | apply pw_below_drewN | apply below_drew1) | exact HB.out)⟩⟩
     case round =>
      clear HG2 HM HB BK hx hcy0
      obtain ⟨k, S2, rfl, HK, HG, HM, BK, HB⟩ := hrel
      have hk := HK.out
      by_cases c3 : k < row.length
      ·have c3b : decide ((k : Int) < (row.length : Int)) = true := decide_eq_true (by omega)
       have c3c : decide (k < row.length) = true := decide_eq_true c3
       obtain ⟨ad2, e2, hy⟩ := Kd.Dw HRR.out (k : Int) (by omega) (by omega)
       cases e2
       replace hy := (HB.out.cell (World.block_lt_of_cell? w _ hy)).trans hy
       rw [num_at row k c3] at hy
       rw [Int.toNat_natCast] at hy
       have hdr : row.drop k = row[k] :: row.drop (k + 1) := List.drop_eq_getElem_cons c3
       rw [hdr] at HG
       obtain ⟨n, hn⟩ : ∃ n, n = row[k] := ⟨_, rfl⟩
       rw [← hn] at HG hy
       clear hdr hn
       have C3 := Aside0.mk c3
       have HW := Aside0.mk (show wrap64 ((k : Int) + 1) = (k : Int) + 1 by unfold wrap64; omega)
       have pk : (0 ≤ (k : Int)) = True := eq_true (by omega)
       have qk : ((k : Int) < (row.length : Int)) = True := eq_true (by omega)
       have qk2 : (k < row.length) = True := eq_true c3
       clear c3 hk
       have GW := Aside0.mk (Gh n 1 99)
       cases c4 : (decide (1 ≤ n) && decide (n ≤ 99)) with
       | false =>
        have HF := Aside0.mk (HG.out.symm.trans (Fb 4 S2 n _ _ (.inl (fun z => by simp [z.1, z.2] at c4))))
        rw [c4] at GW
        clear c4
        obtain rfl := HF.out
        go_wp2_with (first | ((with_reducible refine gate_callee (f := 65) rfl ?_); (try (refine gate_guard (by rfl) ?_; dsimp only)); refine goesL_ (some 31) rfl rfl Try.func65 Ybb_ rfl #[.int .i64 n, .int .i64 1, .int .i64 99] rfl Yj_ ?_; (with_reducible refine (Bz.calls n 1 99 false _ GW.out).mono ?_); rintro e w' ⟨rfl, ⟨nd, rfl⟩⟩; refine ⟨_, rfl, ?_⟩))
        go_ret
        exact ⟨rfl, Yb_⟩
       | true =>
        have hn1 : 1 ≤ n ∧ n ≤ 99 := by simpa using c4
        have HN := Aside0.mk hn1
        clear hn1
        rw [c4] at GW
        clear c4
        have hlk := fun nn => (Go.Proofs.YtnggfglmjdiaaaaMp.Ce.drewN HM.out nn).look (t := 86) Try.underlying3 Try.underlying86 Try.underlying4 (zeroB_ _) (x := n) (Go.Proofs.YtnggfglmjdiaaaaMp.wf_i64 Ygc_ Ygc_)
        cases c5 : decide (n ∈ S2) with
        | true =>
         have HF := Aside0.mk (HG.out.symm.trans (Fb 4 S2 n _ _ (.inr c5)))
         rw [c5] at hlk
         clear c5
         obtain rfl := HF.out
         go_wp2_with (first | ((with_reducible refine gate_callee (f := 65) rfl ?_); (try (refine gate_guard (by rfl) ?_; dsimp only)); refine goesL_ (some 31) rfl rfl Try.func65 Ybb_ rfl #[.int .i64 n, .int .i64 1, .int .i64 99] rfl Yj_ ?_; (with_reducible refine (Bz.calls n 1 99 true _ GW.out).mono ?_); rintro e w' ⟨rfl, ⟨nd, rfl⟩⟩; refine ⟨_, rfl, ?_⟩))
         go_ret
         exact ⟨rfl, Yb_⟩
        | false =>
         have HG3 := Aside0.mk ((Gt 4 S2 n _ _ HN.out.1 HN.out.2 c5).symm.trans HG.out)
         rw [c5] at hlk
         clear c5 HG
         go_wp2_with (first | ((with_reducible refine gate_callee (f := 65) rfl ?_); (try (refine gate_guard (by rfl) ?_; dsimp only)); refine goesL_ (some 31) rfl rfl Try.func65 Ybb_ rfl #[.int .i64 n, .int .i64 1, .int .i64 99] rfl Yj_ ?_; (with_reducible refine (Bz.calls n 1 99 true _ GW.out).mono ?_); rintro e w' ⟨rfl, ⟨nd, rfl⟩⟩; refine ⟨_, rfl, ?_⟩) | (at_mapUpdate; refine Go.Proofs.YtnggfglmjdiaaaaMp.wpList_put_set _ rfl _ _ _ 86 (.inl rfl) 3 4 Try.underlying3 Try.underlying86 Try.underlying4 w1.heap.size S2 (by have := HK.out; have := C1.out; have := HL6.out; have := HR4.out; unfold maxLen; omega) rfl Ygb_ n rfl rfl (Go.Proofs.YtnggfglmjdiaaaaMp.wf_i64 Ygc_ Ygc_) ?_; intro w8 hs8 hg8; have n0_ := Aside0.mk hs8; have n1_ := Aside0.mk (C9 Ygh_ hg8 (by have := HLT.out; intro e_; injection e_ with e_; omega)); have n2_ := Aside0.mk (Below.grown Yb_ hg8 (below_size Yb_) (fun j hj => by cases hj; exact GWS.out)); clear HM BK HB; have HM := n0_; have BK := n1_; have HB := n2_; clear n0_ n1_ n2_ hs8 hg8))
         go_roundg (row.length - (k + 1))
         case measure => have := HK.out; have := C3.out; omega
         case rel => exact ⟨k + 1, S2 ++ [n], by rw [HW.out]; rfl, ⟨by have := C3.out; omega, by omega, by have := HK.out; simp; omega⟩, HG3, ⟨by (with_reducible repeat (first | apply Go.Proofs.YtnggfglmjdiaaaaMp.Ce.alloc | apply Go.Proofs.YtnggfglmjdiaaaaMp.Ce.drewN | apply Go.Proofs.YtnggfglmjdiaaaaMp.Ce.drew)); exact HM.out⟩, ⟨by (with_reducible repeat (first | apply blk_drewN | apply blk_drew | apply blk_alloc)); exact BK.out⟩, ⟨by repeat (first | (with_reducible first | exact HB.out | apply below_alloc | apply pw_below_drewN | apply below_drew1) | exact HB.out)⟩⟩
      ·have c3b : decide ((k : Int) < (row.length : Int)) = false := decide_eq_false (by omega)
       have c3c : decide (k < row.length) = false := decide_eq_false c3
       have hdr : row.drop k = [] := List.drop_of_length_le (by omega)
       rw [hdr, Gu] at HG
       have HKE := Aside0.mk (show k = row.length by omega)
       clear hdr c3 hk
       go_wp2
       go_roundg (l0_0.length - (i + 1))
       case measure => have := HI.out; have := C1.out; omega
       case rel => exact ⟨i + 1, S2, by rw [HV.out]; rfl, ⟨by have := C1.out; omega, by omega, by have := HK.out; have := HR4.out; omega⟩, HG, ⟨by (with_reducible repeat (first | apply Go.Proofs.YtnggfglmjdiaaaaMp.Ce.alloc | apply Go.Proofs.YtnggfglmjdiaaaaMp.Ce.drewN | apply Go.Proofs.YtnggfglmjdiaaaaMp.Ce.drew)); exact HM.out⟩, ⟨by (with_reducible repeat (first | apply blk_drewN | apply blk_drew | apply blk_alloc)); exact BK.out⟩, ⟨by repeat (first | (with_reducible first | exact HB.out | apply below_alloc | apply pw_below_drewN | apply below_drew1) | exact HB.out)⟩⟩
   ·have c1b : decide ((i : Int) < (l0_0.length : Int)) = false := decide_eq_false (by omega)
    have c1c : decide (i < l0_0.length) = false := decide_eq_false c1
    have hdr : l0_0.drop i = [] := List.drop_of_length_le (by omega)
    rw [hdr] at HG
    clear hdr c1 hi
    obtain rfl := HG.out
    go_wp2
    go_ret
    exact ⟨rfl, Yb_⟩
def Ee.f (a0_0 : Int) (l0_1 : List (List Int)) : Option Bool := some ((decide (1 ≤ a0_0) && decide (a0_0 ≤ 4)) && (decide (1 ≤ (l0_1.length : Int)) && decide ((l0_1.length : Int) ≤ 5)) && Du a0_0 [] l0_1)
set_option maxHeartbeats 8000000 in
set_option maxRecDepth 100000 in
theorem Ee.calls (a0_0 : Int) (A0_1 : Option Addr) (c0_1 : Nat) (l0_1 : List (List Int)) (r : Bool) (w : World) (hr : Kd.C (Kd.slice 3 (Kd.int .i64)) w A0_1 l0_1.length l0_1) (hc : l0_1.length ≤ c0_1) (h : Ee.f a0_0 l0_1 = some r) :
  Calls Try.prog 43 #[.agg #[.int .i64 a0_0, .slice A0_1 l0_1.length c0_1]] w fun e w' => e = .returned (.bool r) ∧ Below w.heap.size w w' := by
 have hu := Try.underlying32
 have HR := Aside0.mk hr
 clear hr hc
 have HB := Aside0.mk (Below.refl w.heap.size w)
 have hmm := @run_makeMap Try.prog
 have hL0 : l0_1.length ≤ 9223372036854775807 := HR.out.2.1
 simp only [Ee.f, Option.some.injEq] at h
 have g0 : Bz.f a0_0 1 4 = some (decide (1 ≤ a0_0) && decide (a0_0 ≤ 4)) := Gh _ _ _
 have G0 := Aside0.mk g0
 clear g0
 have g1 : Bz.f (l0_1.length : Int) 1 5 = some (decide (1 ≤ (l0_1.length : Int)) && decide ((l0_1.length : Int) ≤ 5)) := Gh _ _ _
 have G1 := Aside0.mk g1
 clear g1
 cases e0 : (decide (1 ≤ a0_0) && decide (a0_0 ≤ 4)) with
 | false =>
  have HF := Aside0.mk (show r = false by rw [← h]; simp [e0])
  clear h
  rw [e0] at G0
  clear e0
  obtain rfl := HF.out
  go_enter Try.func43, Try.ntmps43
  go_wp2_with (first | ((with_reducible refine gate_dst (N := 1) rfl ?_); refine box_event (by rfl) (N := 1) (by rfl) (cs := #[.int .i64 a0_0, .slice A0_1 l0_1.length c0_1]) (t := 32) Ybf_ ?_; intro gb hg w1 hbox hb; have n0_ := Aside0.mk (below_step Yb_ hb); have n3_ := Aside0.mk hbox; have GWS := Aside0.mk (Nat.le_trans (below_size Yb_) hb.size); clear HB; have HB := n0_; have BK := n3_; clear n0_ n3_ hb hbox hg; obtain ⟨hcz0, hcz1⟩ := cl2_ BK.out; have hca0 : ∀ (nn : Nat) (oo : Obj), ((w1.drewN nn).alloc oo).cell? ⟨gb, 0, none⟩ = some (.int .i64 a0_0) := fun nn oo => (blk_cell (blk_alloc (blk_drewN BK.out nn) oo) 0).trans rfl; have hca1 : ∀ (nn : Nat) (oo : Obj), ((w1.drewN nn).alloc oo).cell? ⟨gb, 1, none⟩ = some (.slice A0_1 l0_1.length c0_1) := fun nn oo => (blk_cell (blk_alloc (blk_drewN BK.out nn) oo) 1).trans rfl) | ((with_reducible refine gate_callee (f := 65) rfl ?_); (try (refine gate_guard (by rfl) ?_; dsimp only)); refine goesL_ (some 10) rfl rfl Try.func65 Ybb_ rfl #[.int .i64 a0_0, .int .i64 1, .int .i64 4] rfl Yj_ ?_; (with_reducible refine (Bz.calls a0_0 1 4 false _ G0.out).mono ?_); rintro e w' ⟨rfl, ⟨nd, rfl⟩⟩; refine ⟨_, rfl, ?_⟩))
  go_ret
  exact ⟨rfl, Yb_⟩
 | true =>
  cases e1 : (decide (1 ≤ (l0_1.length : Int)) && decide ((l0_1.length : Int) ≤ 5)) with
  | false =>
   have HF := Aside0.mk (show r = false by rw [← h]; simp [e0, e1])
   clear h
   rw [e0] at G0
   rw [e1] at G1
   clear e0 e1
   obtain rfl := HF.out
   go_enter Try.func43, Try.ntmps43
   go_wp2_with (first | ((with_reducible refine gate_dst (N := 1) rfl ?_); refine box_event (by rfl) (N := 1) (by rfl) (cs := #[.int .i64 a0_0, .slice A0_1 l0_1.length c0_1]) (t := 32) Ybf_ ?_; intro gb hg w1 hbox hb; have n0_ := Aside0.mk (below_step Yb_ hb); have n3_ := Aside0.mk hbox; have GWS := Aside0.mk (Nat.le_trans (below_size Yb_) hb.size); clear HB; have HB := n0_; have BK := n3_; clear n0_ n3_ hb hbox hg; obtain ⟨hcz0, hcz1⟩ := cl2_ BK.out; have hca0 : ∀ (nn : Nat) (oo : Obj), ((w1.drewN nn).alloc oo).cell? ⟨gb, 0, none⟩ = some (.int .i64 a0_0) := fun nn oo => (blk_cell (blk_alloc (blk_drewN BK.out nn) oo) 0).trans rfl; have hca1 : ∀ (nn : Nat) (oo : Obj), ((w1.drewN nn).alloc oo).cell? ⟨gb, 1, none⟩ = some (.slice A0_1 l0_1.length c0_1) := fun nn oo => (blk_cell (blk_alloc (blk_drewN BK.out nn) oo) 1).trans rfl) | ((with_reducible refine gate_callee (f := 65) rfl ?_); (try (refine gate_guard (by rfl) ?_; dsimp only)); refine goesL_ (some 10) rfl rfl Try.func65 Ybb_ rfl #[.int .i64 a0_0, .int .i64 1, .int .i64 4] rfl Yj_ ?_; (with_reducible refine (Bz.calls a0_0 1 4 true _ G0.out).mono ?_); rintro e w' ⟨rfl, ⟨nd, rfl⟩⟩; refine ⟨_, rfl, ?_⟩) | ((with_reducible refine gate_callee (f := 65) rfl ?_); (try (refine gate_guard (by rfl) ?_; dsimp only)); refine goesL_ (some 16) rfl rfl Try.func65 Ybb_ rfl #[.int .i64 (l0_1.length : Int), .int .i64 1, .int .i64 5] rfl Yj_ ?_; (with_reducible refine (Bz.calls (l0_1.length : Int) 1 5 false _ G1.out).mono ?_); rintro e w' ⟨rfl, ⟨nd, rfl⟩⟩; refine ⟨_, rfl, ?_⟩))
   go_ret
   exact ⟨rfl, Yb_⟩
  | true =>
   have HG := Aside0.mk (show Du a0_0 [] l0_1 = r by rw [← h]; simp [e0, e1])
   clear h
   have hm4 : (a0_0 : Int) ≤ 4 := by simp at e0; omega
   have hL6 : l0_1.length ≤ 6 := by simp at e1; omega
   rw [e0] at G0
   rw [e1] at G1
   clear e0 e1
   have HL6 := Aside0.mk hL6
   clear hL6
   have HM4 := Aside0.mk hm4
   clear hm4
   go_enter Try.func43, Try.ntmps43
   go_wp2_with (first | ((with_reducible refine gate_dst (N := 1) rfl ?_); refine box_event (by rfl) (N := 1) (by rfl) (cs := #[.int .i64 a0_0, .slice A0_1 l0_1.length c0_1]) (t := 32) Ybf_ ?_; intro gb hg w1 hbox hb; have n0_ := Aside0.mk (below_step Yb_ hb); have n3_ := Aside0.mk hbox; have GWS := Aside0.mk (Nat.le_trans (below_size Yb_) hb.size); clear HB; have HB := n0_; have BK := n3_; clear n0_ n3_ hb hbox hg; obtain ⟨hcz0, hcz1⟩ := cl2_ BK.out; have hca0 : ∀ (nn : Nat) (oo : Obj), ((w1.drewN nn).alloc oo).cell? ⟨gb, 0, none⟩ = some (.int .i64 a0_0) := fun nn oo => (blk_cell (blk_alloc (blk_drewN BK.out nn) oo) 0).trans rfl; have hca1 : ∀ (nn : Nat) (oo : Obj), ((w1.drewN nn).alloc oo).cell? ⟨gb, 1, none⟩ = some (.slice A0_1 l0_1.length c0_1) := fun nn oo => (blk_cell (blk_alloc (blk_drewN BK.out nn) oo) 1).trans rfl) | ((with_reducible refine gate_callee (f := 65) rfl ?_); (try (refine gate_guard (by rfl) ?_; dsimp only)); refine goesL_ (some 10) rfl rfl Try.func65 Ybb_ rfl #[.int .i64 a0_0, .int .i64 1, .int .i64 4] rfl Yj_ ?_; (with_reducible refine (Bz.calls a0_0 1 4 true _ G0.out).mono ?_); rintro e w' ⟨rfl, ⟨nd, rfl⟩⟩; refine ⟨_, rfl, ?_⟩) | ((with_reducible refine gate_callee (f := 65) rfl ?_); (try (refine gate_guard (by rfl) ?_; dsimp only)); refine goesL_ (some 16) rfl rfl Try.func65 Ybb_ rfl #[.int .i64 (l0_1.length : Int), .int .i64 1, .int .i64 5] rfl Yj_ ?_; (with_reducible refine (Bz.calls (l0_1.length : Int) 1 5 true _ G1.out).mono ?_); rintro e w' ⟨rfl, ⟨nd, rfl⟩⟩; refine ⟨_, rfl, ?_⟩))
   clear hmm
   have hBK1 := blk_cell BK.out 0
   have HLT := Aside0.mk (blk_lt BK.out)
   clear hBK1
   go_loopg [23] l0_1.length (fun gg v23 w' => ∃ (i : Nat) (S : List Int), v23 = .int .i64 (i : Int) ∧ Aside0 (i ≤ l0_1.length ∧ l0_1.length - i ≤ gg ∧ S.length ≤ 4 * i) ∧ Aside0 (Du a0_0 S (l0_1.drop i) = r) ∧ Aside0 (Go.Proofs.YtnggfglmjdiaaaaMp.Ce Try.prog 3 4 w' w1.heap.size S) ∧ Aside0 (w'.heap[gb]? = some (.cells #[.int .i64 a0_0, .slice A0_1 l0_1.length c0_1] 32 (0, 0))) ∧ Aside0 (Below w.heap.size w w'))
   case atStart => exact ⟨0, [], rfl, ⟨by omega, by omega, by simp⟩, HG, ⟨Go.Proofs.YtnggfglmjdiaaaaMp.Ce.made _ _ _ _⟩, ⟨by (with_reducible repeat (first | apply blk_drewN | apply blk_drew | apply blk_alloc)); exact BK.out⟩, ⟨by repeat (first | (with_reducible first | exact HB.out | apply below_alloc | apply pw_below_drewN | apply below_drew1) | exact HB.out)⟩⟩
   case round =>
    clear HG HB BK hcz0 hca0 hcz1 hca1
    obtain ⟨i, S, rfl, HI, HG, HM, BK, HB⟩ := hrel
    have hi := HI.out
    by_cases c1 : i < l0_1.length
    ·have c1b : decide ((i : Int) < (l0_1.length : Int)) = true := decide_eq_true (by omega)
     have c1c : decide (i < l0_1.length) = true := decide_eq_true c1
     obtain ⟨ad, Ar, cr, er, hx, hcl, hrr⟩ := Cj HR.out (i : Int) (by omega) (by omega)
     cases er
     replace hx := (HB.out.cell (World.block_lt_of_cell? w _ hx)).trans hx
     rw [row_at l0_1 i c1] at hx hcl hrr
     rw [Int.toNat_natCast] at hx
     have HRR := Aside0.mk hrr
     have hdr : l0_1.drop i = l0_1[i] :: l0_1.drop (i + 1) := List.drop_eq_getElem_cons c1
     rw [hdr] at HG
     obtain ⟨row, hrow⟩ : ∃ row, row = l0_1[i] := ⟨_, rfl⟩
     rw [← hrow] at HG hx HRR
     clear hrr hcl hdr hrow
     have C1 := Aside0.mk c1
     have HV := Aside0.mk (show wrap64 ((i : Int) + 1) = (i : Int) + 1 by unfold wrap64; omega)
     have hr9 : row.length ≤ 9223372036854775807 := HRR.out.2.1
     have pi : (0 ≤ (i : Int)) = True := eq_true (by omega)
     have qi : ((i : Int) < (l0_1.length : Int)) = True := eq_true (by omega)
     have qi2 : (i < l0_1.length) = True := eq_true c1
     clear c1 hi
     obtain ⟨hcy0, hcy1⟩ := cl2_ BK.out
     by_cases c2 : (row.length : Int) > a0_0
     ·have HF := Aside0.mk (HG.out.symm.trans (Gn a0_0 S row _ c2))
      have c2b : decide (a0_0 < (row.length : Int)) = true := decide_eq_true c2
      clear c2
      obtain rfl := HF.out
      go_wp2
      go_ret
      exact ⟨rfl, Yb_⟩
     ·have HG2 := Aside0.mk ((goodRows_in a0_0 S row _ c2).symm.trans HG.out)
      have c2b : decide (a0_0 < (row.length : Int)) = false := decide_eq_false c2
      have hr4 : row.length ≤ 4 := by have := HM4.out; omega
      have HR4 := Aside0.mk hr4
      clear hr4 c2 HG
      go_wp2
      clear c2b
      go_loopg [34] row.length (fun gg v34 w' => ∃ (k : Nat) (S2 : List Int), v34 = .int .i64 (k : Int) ∧ Aside0 (k ≤ row.length ∧ row.length - k ≤ gg ∧ S2.length ≤ 4 * i + k) ∧ Aside0 (Fg a0_0 S2 (row.drop k) (l0_1.drop (i + 1)) = r) ∧ Aside0 (Go.Proofs.YtnggfglmjdiaaaaMp.Ce Try.prog 3 4 w' w1.heap.size S2) ∧ Aside0 (w'.heap[gb]? = some (.cells #[.int .i64 a0_0, .slice (some ad) l0_1.length c0_1] 32 (0, 0))) ∧ Aside0 (Below w.heap.size w w'))
      case atStart => exact ⟨0, S, rfl, ⟨by omega, by omega, by have := HI.out; omega⟩, HG2, ⟨by (with_reducible repeat (first | apply Go.Proofs.YtnggfglmjdiaaaaMp.Ce.alloc | apply Go.Proofs.YtnggfglmjdiaaaaMp.Ce.drewN | apply Go.Proofs.YtnggfglmjdiaaaaMp.Ce.drew)); exact HM.out⟩, ⟨by (with_reducible repeat (first | apply blk_drewN | apply blk_drew | apply blk_alloc)); exact BK.out⟩, ⟨by repeat (first | (with_reducible first | exact HB.out | apply below_alloc | apply pw_below_drewN | apply below_drew1) | exact HB.out)⟩⟩
      case round =>
       clear HG2 HM HB BK hx hcy0 hcy1
       obtain ⟨k, S2, rfl, HK, HG, HM, BK, HB⟩ := hrel
       have hk := HK.out
       by_cases c3 : k < row.length
       ·have c3b : decide ((k : Int) < (row.length : Int)) = true := decide_eq_true (by omega)
        have c3c : decide (k < row.length) = true := decide_eq_true c3
        obtain ⟨ad2, e2, hy⟩ := Kd.Dw HRR.out (k : Int) (by omega) (by omega)
        cases e2
        replace hy := (HB.out.cell (World.block_lt_of_cell? w _ hy)).trans hy
        rw [num_at row k c3] at hy
        rw [Int.toNat_natCast] at hy
        have hdr : row.drop k = row[k] :: row.drop (k + 1) := List.drop_eq_getElem_cons c3
        rw [hdr] at HG
        obtain ⟨n, hn⟩ : ∃ n, n = row[k] := ⟨_, rfl⟩
        rw [← hn] at HG hy
        clear hdr hn
        have C3 := Aside0.mk c3
        have HW := Aside0.mk (show wrap64 ((k : Int) + 1) = (k : Int) + 1 by unfold wrap64; omega)
        have pk : (0 ≤ (k : Int)) = True := eq_true (by omega)
        have qk : ((k : Int) < (row.length : Int)) = True := eq_true (by omega)
        have qk2 : (k < row.length) = True := eq_true c3
        clear c3 hk
        have GW := Aside0.mk (Gh n 1 99)
        cases c4 : (decide (1 ≤ n) && decide (n ≤ 99)) with
        | false =>
         have HF := Aside0.mk (HG.out.symm.trans (Fb a0_0 S2 n _ _ (.inl (fun z => by simp [z.1, z.2] at c4))))
         rw [c4] at GW
         clear c4
         obtain rfl := HF.out
         go_wp2_with (first | ((with_reducible refine gate_callee (f := 65) rfl ?_); (try (refine gate_guard (by rfl) ?_; dsimp only)); refine goesL_ (some 39) rfl rfl Try.func65 Ybb_ rfl #[.int .i64 n, .int .i64 1, .int .i64 99] rfl Yj_ ?_; (with_reducible refine (Bz.calls n 1 99 false _ GW.out).mono ?_); rintro e w' ⟨rfl, ⟨nd, rfl⟩⟩; refine ⟨_, rfl, ?_⟩))
         go_ret
         exact ⟨rfl, Yb_⟩
        | true =>
         have hn1 : 1 ≤ n ∧ n ≤ 99 := by simpa using c4
         have HN := Aside0.mk hn1
         clear hn1
         rw [c4] at GW
         clear c4
         have hlk := fun nn => (Go.Proofs.YtnggfglmjdiaaaaMp.Ce.drewN HM.out nn).look (t := 86) Try.underlying3 Try.underlying86 Try.underlying4 (zeroB_ _) (x := n) (Go.Proofs.YtnggfglmjdiaaaaMp.wf_i64 Ygc_ Ygc_)
         cases c5 : decide (n ∈ S2) with
         | true =>
          have HF := Aside0.mk (HG.out.symm.trans (Fb a0_0 S2 n _ _ (.inr c5)))
          rw [c5] at hlk
          clear c5
          obtain rfl := HF.out
          go_wp2_with (first | ((with_reducible refine gate_callee (f := 65) rfl ?_); (try (refine gate_guard (by rfl) ?_; dsimp only)); refine goesL_ (some 39) rfl rfl Try.func65 Ybb_ rfl #[.int .i64 n, .int .i64 1, .int .i64 99] rfl Yj_ ?_; (with_reducible refine (Bz.calls n 1 99 true _ GW.out).mono ?_); rintro e w' ⟨rfl, ⟨nd, rfl⟩⟩; refine ⟨_, rfl, ?_⟩))
          go_ret
          exact ⟨rfl, Yb_⟩
         | false =>
          have HG3 := Aside0.mk ((Gt a0_0 S2 n _ _ HN.out.1 HN.out.2 c5).symm.trans HG.out)
          rw [c5] at hlk
          clear c5 HG
          go_wp2_with (first | ((with_reducible refine gate_callee (f := 65) rfl ?_); (try (refine gate_guard (by rfl) ?_; dsimp only)); refine goesL_ (some 39) rfl rfl Try.func65 Ybb_ rfl #[.int .i64 n, .int .i64 1, .int .i64 99] rfl Yj_ ?_; (with_reducible refine (Bz.calls n 1 99 true _ GW.out).mono ?_); rintro e w' ⟨rfl, ⟨nd, rfl⟩⟩; refine ⟨_, rfl, ?_⟩) | (at_mapUpdate; refine Go.Proofs.YtnggfglmjdiaaaaMp.wpList_put_set _ rfl _ _ _ 86 (.inl rfl) 3 4 Try.underlying3 Try.underlying86 Try.underlying4 w1.heap.size S2 (by have := HK.out; have := C1.out; have := HL6.out; have := HR4.out; unfold maxLen; omega) rfl Ygb_ n rfl rfl (Go.Proofs.YtnggfglmjdiaaaaMp.wf_i64 Ygc_ Ygc_) ?_; intro w8 hs8 hg8; have n0_ := Aside0.mk hs8; have n1_ := Aside0.mk (C9 Ygh_ hg8 (by have := HLT.out; intro e_; injection e_ with e_; omega)); have n2_ := Aside0.mk (Below.grown Yb_ hg8 (below_size Yb_) (fun j hj => by cases hj; exact GWS.out)); clear HM BK HB; have HM := n0_; have BK := n1_; have HB := n2_; clear n0_ n1_ n2_ hs8 hg8))
          go_roundg (row.length - (k + 1))
          case measure => have := HK.out; have := C3.out; omega
          case rel => exact ⟨k + 1, S2 ++ [n], by rw [HW.out]; rfl, ⟨by have := C3.out; omega, by omega, by have := HK.out; simp; omega⟩, HG3, ⟨by (with_reducible repeat (first | apply Go.Proofs.YtnggfglmjdiaaaaMp.Ce.alloc | apply Go.Proofs.YtnggfglmjdiaaaaMp.Ce.drewN | apply Go.Proofs.YtnggfglmjdiaaaaMp.Ce.drew)); exact HM.out⟩, ⟨by (with_reducible repeat (first | apply blk_drewN | apply blk_drew | apply blk_alloc)); exact BK.out⟩, ⟨by repeat (first | (with_reducible first | exact HB.out | apply below_alloc | apply pw_below_drewN | apply below_drew1) | exact HB.out)⟩⟩
       ·have c3b : decide ((k : Int) < (row.length : Int)) = false := decide_eq_false (by omega)
        have c3c : decide (k < row.length) = false := decide_eq_false c3
        have hdr : row.drop k = [] := List.drop_of_length_le (by omega)
        rw [hdr, Gu] at HG
        have HKE := Aside0.mk (show k = row.length by omega)
        clear hdr c3 hk
        go_wp2
        go_roundg (l0_1.length - (i + 1))
        case measure => have := HI.out; have := C1.out; omega
        case rel => exact ⟨i + 1, S2, by rw [HV.out]; rfl, ⟨by have := C1.out; omega, by omega, by have := HK.out; have := HR4.out; omega⟩, HG, ⟨by (with_reducible repeat (first | apply Go.Proofs.YtnggfglmjdiaaaaMp.Ce.alloc | apply Go.Proofs.YtnggfglmjdiaaaaMp.Ce.drewN | apply Go.Proofs.YtnggfglmjdiaaaaMp.Ce.drew)); exact HM.out⟩, ⟨by (with_reducible repeat (first | apply blk_drewN | apply blk_drew | apply blk_alloc)); exact BK.out⟩, ⟨by repeat (first | (with_reducible first | exact HB.out | apply below_alloc | apply pw_below_drewN | apply below_drew1) | exact HB.out)⟩⟩
    ·have c1b : decide ((i : Int) < (l0_1.length : Int)) = false := decide_eq_false (by omega)
     have c1c : decide (i < l0_1.length) = false := decide_eq_false c1
     have hdr : l0_1.drop i = [] := List.drop_of_length_le (by omega)
     rw [hdr] at HG
     clear hdr c1 hi
     obtain rfl := HG.out
     go_wp2
     go_ret
     exact ⟨rfl, Yb_⟩
def Aj.l0 : Nat → List Int → Int → Int → Int → Option (Int)
 | 0, _, _, _, _ => none
 | k + 1, x0, x1, x7, x8 => if x8 < x7 then (if 0 ≤ x8 then (if x8 < (x0.length : Int) then (if x1 = (rd x0 x8) then (some x8) else (Aj.l0 k x0 x1 x7 (wrap64 (x8 + 1)))) else (none)) else (none)) else (some (-1))
def Aj.f (k : Nat) (l0 : List Int) (a1 : Int) : Option (Int) := Aj.l0 k l0 a1 (l0.length : Int) 0
theorem Aj.mono_l : ∀ k, (∀ y0 y1 y2 y3, LeO (Aj.l0 k y0 y1 y2 y3) (Aj.l0 (k + 1) y0 y1 y2 y3))
 | 0 => fun _ _ _ _ r h => by simp [Aj.l0] at h
 | k + 1 => by
  have ih0 := Aj.mono_l k
  ·intro y0 y1 y2 y3
   unfold Aj.l0
   repeat' first
   | (with_reducible exact ih0 _ _ _ _)
   | (with_reducible exact LeO.refl _)
   | (with_reducible exact LeO.none _)
   | (with_reducible refine LeO.ite ?_ ?_)
   | (with_reducible refine LeO.bind ?_ (fun _ => ?_))
   | exact ih0 _ _ _ _
   | exact LeO.none _
   | refine LeO.ite ?_ ?_
   | refine LeO.bind ?_ (fun _ => ?_)
theorem Aj.mono : ∀ a0 a1 k, LeO (Aj.f k a0 a1) (Aj.f (k + 1) a0 a1) := by
 intro a0 a1 k
 have ih0 := Aj.mono_l k
 unfold Aj.f
 repeat' first
   | (with_reducible exact ih0 _ _ _ _)
   | (with_reducible exact LeO.refl _)
   | (with_reducible exact LeO.none _)
   | (with_reducible refine LeO.ite ?_ ?_)
   | (with_reducible refine LeO.bind ?_ (fun _ => ?_))
   | exact ih0 _ _ _ _
   | exact LeO.none _
   | refine LeO.ite ?_ ?_
   | refine LeO.bind ?_ (fun _ => ?_)
set_option maxHeartbeats 8000000 in
set_option maxRecDepth 100000 in
theorem Aj.calls (k : Nat) (A0 : Option Addr) (c0 : Nat) (l0 : List Int) (a1 : Int) (r : Int) (w : World) (hr0 : Kd.C (Kd.int .i64) w A0 l0.length l0) (hc0 : l0.length ≤ c0) (h : Aj.f k l0 a1 = some r) :
  Calls Try.prog 66 #[.slice A0 l0.length c0, .int .i64 a1] w fun e w' => e = .returned (.int .i64 r) ∧ Drawn0 w w' := by
 have HR0 := Aside0.mk hr0
 have HC0 := Aside0.mk hc0
 clear hr0 hc0
 have H : (Aj.l0 k l0 a1 (l0.length : Int) 0) = some r := h
 clear h
 have H' := Aside0.mk H
 clear H
 go_enter Try.func66, Try.ntmps66
 go_wp2
 go_loopg [8] k (fun kq v8 w' => ∃ (x8_1 : Int), v8 = .int .i64 x8_1 ∧ Aside0 (Aj.l0 kq l0 a1 (l0.length : Int) x8_1 = some r) ∧ Aside0 (kq ≤ k) ∧ Drawn0 w w')
 case atStart => exact ⟨(0), Ybe_, H', ⟨Nat.le_refl _⟩, by repeat (first | exact Drawn0.refl _ | apply Drawn0.step)⟩
 case round =>
  clear H'
  try clear p2
  obtain ⟨x8_1, rfl, HA, HK1, ⟨m1, rfl⟩⟩ := hrel
  cases gk with
  | zero => exact absurd HA.out (by simp [Aj.l0])
  | succ k1 =>
   have H := HA.out
   clear HA
   simp only [Aj.l0] at H
   by_cases c3 : x8_1 < (l0.length : Int)
   ·rw [if_pos c3] at H
    have c3b0 : decide (x8_1 < (l0.length : Int)) = true := decide_eq_true c3
    clear c3
    by_cases c4 : 0 ≤ x8_1
    ·rw [if_pos c4] at H
     have c4b0 : decide (0 ≤ x8_1) = true := decide_eq_true c4
     clear c4
     by_cases c5 : x8_1 < (l0.length : Int)
     ·rw [if_pos c5] at H
      have c5b0 : decide (x8_1 < (l0.length : Int)) = true := decide_eq_true c5
      clear c5
      by_cases c6 : a1 = (rd l0 x8_1)
      ·rw [if_pos c6] at H
       have c6b0 : (a1 == (rd l0 x8_1)) = true := beq_iff_eq.mpr c6
       have c6b1 : (a1 != (rd l0 x8_1)) = false := bne_eq_false_iff_eq.mpr c6
       clear c6
       obtain rfl := Option.some.inj H
       have p189 : 0 ≤ (x8_1 : Int) := of_decide_eq_true Yh_
       have q189 : x8_1 < (l0.length : Int) := of_decide_eq_true Yh_
       obtain ⟨ad189, e189, hx189_0⟩ := Kd.Dw HR0.out x8_1 p189 q189
       cases e189
       replace p189 := eq_true p189
       replace q189 := eq_true q189
       go_wp2
       go_ret
       exact ⟨Ybe_, Ycc_⟩
      ·rw [if_neg c6] at H
       have c6b0 : (a1 == (rd l0 x8_1)) = false := beq_eq_false_iff_ne.mpr c6
       have c6b1 : (a1 != (rd l0 x8_1)) = true := bne_iff_ne.mpr c6
       have H' := Aside0.mk H
       clear H
       have p189 : 0 ≤ (x8_1 : Int) := of_decide_eq_true Yh_
       have q189 : x8_1 < (l0.length : Int) := of_decide_eq_true Yh_
       obtain ⟨ad189, e189, hx189_0⟩ := Kd.Dw HR0.out x8_1 p189 q189
       cases e189
       replace p189 := eq_true p189
       replace q189 := eq_true q189
       go_wp2
       go_roundg k1
       case measure => have := HK1.out; omega
       case rel => exact ⟨(wrap64 (x8_1 + 1)), Ybe_, H', ⟨by have := HK1.out; omega⟩, by repeat (first | exact Drawn0.refl _ | apply Drawn0.step)⟩
     ·rw [if_neg c5] at H
      exact absurd H (by simp)
    ·rw [if_neg c4] at H
     exact absurd H (by simp)
   ·rw [if_neg c3] at H
    have c3b0 : decide (x8_1 < (l0.length : Int)) = false := decide_eq_false c3
    clear c3
    obtain rfl := Option.some.inj H
    go_wp2
    go_ret
    exact ⟨Ybe_, Ycc_⟩
def Bd.l0 : Nat → Int → List (List Int) → Int → Int → Option (Int × Int)
 | 0, _, _, _, _ => none
 | k + 1, x1, x10, x11, x12 => if x12 < x11 then (if 0 ≤ x12 then (if x12 < (x10.length : Int) then ((Aj.f k (rd_L1 x10 x12) x1).bind fun t192 => (if t192 ≥ 0 then (some (x12, t192)) else (Bd.l0 k x1 x10 x11 (wrap64 (x12 + 1))))) else (none)) else (none)) else (some ((-1), (-1)))
def Bd.f (k : Nat) (l0_0 : List (List Int)) (a1 : Int) : Option (Int × Int) := Bd.l0 k a1 l0_0 (l0_0.length : Int) 0
theorem Bd.mono_l : ∀ k, (∀ y0 y1 y2 y3, LeO (Bd.l0 k y0 y1 y2 y3) (Bd.l0 (k + 1) y0 y1 y2 y3))
 | 0 => fun _ _ _ _ r h => by simp [Bd.l0] at h
 | k + 1 => by
  have ih0 := Bd.mono_l k
  ·intro y0 y1 y2 y3
   unfold Bd.l0
   repeat' first
   | (with_reducible exact ih0 _ _ _ _)
   | (with_reducible exact Aj.mono _ _ _)
   | (with_reducible exact LeO.refl _)
   | (with_reducible exact LeO.none _)
   | (with_reducible refine LeO.ite ?_ ?_)
   | (with_reducible refine LeO.bind ?_ (fun _ => ?_))
   | exact ih0 _ _ _ _
   | exact Aj.mono _ _ _
   | exact LeO.none _
   | refine LeO.ite ?_ ?_
   | refine LeO.bind ?_ (fun _ => ?_)
theorem Bd.mono : ∀ a0 a1 k, LeO (Bd.f k a0 a1) (Bd.f (k + 1) a0 a1) := by
 intro a0 a1 k
 have ih0 := Bd.mono_l k
 unfold Bd.f
 repeat' first
   | (with_reducible exact ih0 _ _ _ _)
   | (with_reducible exact Aj.mono _ _ _)
   | (with_reducible exact LeO.refl _)
   | (with_reducible exact LeO.none _)
   | (with_reducible refine LeO.ite ?_ ?_)
   | (with_reducible refine LeO.bind ?_ (fun _ => ?_))
   | exact ih0 _ _ _ _
   | exact Aj.mono _ _ _
   | exact LeO.none _
   | refine LeO.ite ?_ ?_
   | refine LeO.bind ?_ (fun _ => ?_)
set_option maxHeartbeats 8000000 in
set_option maxRecDepth 100000 in
theorem Bd.calls (k : Nat) (A0_0 : Option Addr) (c0_0 : Nat) (l0_0 : List (List Int)) (a1 : Int) (r1 : Int) (r2 : Int) (w : World) (hr0_0 : Kd.C (Kd.slice 3 (Kd.int .i64)) w A0_0 l0_0.length l0_0) (hc0_0 : l0_0.length ≤ c0_0) (h : Bd.f k l0_0 a1 = some (r1, r2)) :
  Calls Try.prog 44 #[.agg #[.slice A0_0 l0_0.length c0_0], .int .i64 a1] w fun e w' => e = .returned (.tuple #[.int .i64 r1, .int .i64 r2]) ∧ Below w.heap.size w w' := by
 have hu31 := Try.underlying31
 have HR0_0 := Aside0.mk hr0_0
 have HC0_0 := Aside0.mk hc0_0
 clear hr0_0 hc0_0
 have HB := Aside0.mk (Below.refl w.heap.size w)
 have H : (Bd.l0 k a1 l0_0 (l0_0.length : Int) 0) = some (r1, r2) := h
 clear h
 have H' := Aside0.mk H
 clear H
 go_enter Try.func44, Try.ntmps44
 go_wp2_with (first | ((with_reducible refine gate_dst (N := 2) rfl ?_); refine box_event (by rfl) (N := 2) (by rfl) (cs := #[.slice A0_0 l0_0.length c0_0]) (t := 31) Ybf_ ?_; intro gb0 hg w3 hbox hb; have BK0 := Aside0.mk (hbox); have GW0 := Aside0.mk ((by rw [hg]; exact (below_size Yb_) : w.heap.size ≤ gb0)); have GE0 := Aside0.mk ((by rw [hg]; exact (below_size Yb_) : w.heap.size ≤ gb0)); replace HB := Aside0.mk (below_step Yb_ hb); clear hb hbox hg; have hcz4_0 : w3.cell? ⟨gb0, 0, none⟩ = some (.slice A0_0 l0_0.length c0_0) := (blk_cell BK0.out 0).trans rfl; have hfz4_0 := blk_frozen BK0.out 0))
 go_loopg [12] k (fun kq v12 w' => ∃ (x12_1 : Int), v12 = .int .i64 x12_1 ∧ Aside0 (Bd.l0 kq a1 l0_0 (l0_0.length : Int) x12_1 = some (r1, r2)) ∧ Aside0 (kq ≤ k) ∧ Aside0 (w'.heap[gb0]? = some (.cells #[(.slice A0_0 l0_0.length c0_0)] 31 (0, 0))) ∧ Aside0 (Below w.heap.size w w'))
 case atStart => exact ⟨(0), Ybe_, H', ⟨Nat.le_refl _⟩, ⟨by (with_reducible repeat (first | apply blk_drewN | apply blk_drew | apply blk_alloc)); exact BK0.out⟩, ⟨by repeat (first | (with_reducible first | exact HB.out | apply below_alloc | apply pw_below_drewN | apply below_drew1 | refine below_set ?_ GE0.out) | exact HB.out)⟩⟩
 case round =>
  clear H'
  try clear p2; try clear c4; try clear hcz4_0; try clear hfz4_0
  obtain ⟨x12_1, rfl, HA, HK1, BK0, HB⟩ := hrel
  cases gk with
  | zero => exact absurd HA.out (by simp [Bd.l0])
  | succ k1 =>
   have H := HA.out
   clear HA
   simp only [Bd.l0] at H
   by_cases c5 : x12_1 < (l0_0.length : Int)
   ·rw [if_pos c5] at H
    have c5b0 : decide (x12_1 < (l0_0.length : Int)) = true := decide_eq_true c5
    clear c5
    by_cases c6 : 0 ≤ x12_1
    ·rw [if_pos c6] at H
     have c6b0 : decide (0 ≤ x12_1) = true := decide_eq_true c6
     clear c6
     by_cases c7 : x12_1 < (l0_0.length : Int)
     ·rw [if_pos c7] at H
      have c7b0 : decide (x12_1 < (l0_0.length : Int)) = true := decide_eq_true c7
      clear c7
      replace H := Option.bind_eq_some_iff.mp H
      obtain ⟨t192, A80, H⟩ := H
      try dsimp only at H
      have A8 := Aside0.mk A80
      clear A80
      by_cases c9 : t192 ≥ 0
      ·rw [if_pos c9] at H
       have c9b0 : decide (0 ≤ t192) = true := decide_eq_true c9
       clear c9
       simp only [Option.some.injEq, Prod.mk.injEq] at H
       obtain ⟨rfl, rfl⟩ := H
       have p191 : 0 ≤ (x12_1 : Int) := of_decide_eq_true Yh_
       have q191 : x12_1 < (l0_0.length : Int) := of_decide_eq_true Yh_
       obtain ⟨ad191, A191_0, c191_0, e191, hx191_0, hl191_0, hi191_0⟩ := Cj HR0_0.out x12_1 p191 q191
       cases e191
       replace hx191_0 := (HB.out.cell (World.block_lt_of_cell? w _ hx191_0)).trans hx191_0
       have HR191_0 := Aside0.mk hi191_0
       have HC191_0 := Aside0.mk hl191_0
       clear hi191_0 hl191_0
       replace p191 := eq_true p191
       replace q191 := eq_true q191
       go_wp2_with (first | ((with_reducible refine gate_callee (f := 66) rfl ?_); refine goesL_ (some 19) rfl rfl Try.func66 Ybb_ rfl #[.slice A191_0 (rd_L1 l0_0 x12_1).length c191_0, .int .i64 a1] rfl Yj_ ?_; (with_reducible refine (Aj.calls k1 _ _ (rd_L1 l0_0 x12_1) a1 t192 _ ?side1 ?side2 A8.out).mono ?_); (case side1 => repeat (first | exact (Kd.C_below HR191_0.out HB.out) | (with_reducible refine Kd.C_alloc ?_ _) | (with_reducible refine Kd.C_drewN ?_ _) | (with_reducible refine Kd.C_drew ?_))); (case side2 => exact HC191_0.out); rintro e w' ⟨rfl, ⟨nd, rfl⟩⟩; refine ⟨_, rfl, ?_⟩))
       go_ret2
       exact ⟨Yi_, Yd_⟩
      ·rw [if_neg c9] at H
       have c9b0 : decide (0 ≤ t192) = false := decide_eq_false c9
       clear c9
       have H' := Aside0.mk H
       clear H
       have p191 : 0 ≤ (x12_1 : Int) := of_decide_eq_true Yh_
       have q191 : x12_1 < (l0_0.length : Int) := of_decide_eq_true Yh_
       obtain ⟨ad191, A191_0, c191_0, e191, hx191_0, hl191_0, hi191_0⟩ := Cj HR0_0.out x12_1 p191 q191
       cases e191
       replace hx191_0 := (HB.out.cell (World.block_lt_of_cell? w _ hx191_0)).trans hx191_0
       have HR191_0 := Aside0.mk hi191_0
       have HC191_0 := Aside0.mk hl191_0
       clear hi191_0 hl191_0
       replace p191 := eq_true p191
       replace q191 := eq_true q191
       go_wp2_with (first | ((with_reducible refine gate_callee (f := 66) rfl ?_); refine goesL_ (some 19) rfl rfl Try.func66 Ybb_ rfl #[.slice A191_0 (rd_L1 l0_0 x12_1).length c191_0, .int .i64 a1] rfl Yj_ ?_; (with_reducible refine (Aj.calls k1 _ _ (rd_L1 l0_0 x12_1) a1 t192 _ ?side1 ?side2 A8.out).mono ?_); (case side1 => repeat (first | exact (Kd.C_below HR191_0.out HB.out) | (with_reducible refine Kd.C_alloc ?_ _) | (with_reducible refine Kd.C_drewN ?_ _) | (with_reducible refine Kd.C_drew ?_))); (case side2 => exact HC191_0.out); rintro e w' ⟨rfl, ⟨nd, rfl⟩⟩; refine ⟨_, rfl, ?_⟩))
       go_roundg k1
       case measure => have := HK1.out; omega
       case rel => exact ⟨(wrap64 (x12_1 + 1)), Ybe_, H', ⟨by have := HK1.out; omega⟩, ⟨by (with_reducible repeat (first | apply blk_drewN | apply blk_drew | apply blk_alloc)); exact BK0.out⟩, ⟨by repeat (first | (with_reducible first | exact HB.out | apply below_alloc | apply pw_below_drewN | apply below_drew1 | refine below_set ?_ GE0.out) | exact HB.out)⟩⟩
     ·rw [if_neg c7] at H
      exact absurd H (by simp)
    ·rw [if_neg c6] at H
     exact absurd H (by simp)
   ·rw [if_neg c5] at H
    have c5b0 : decide (x12_1 < (l0_0.length : Int)) = false := decide_eq_false c5
    clear c5
    simp only [Option.some.injEq, Prod.mk.injEq] at H
    obtain ⟨rfl, rfl⟩ := H
    go_wp2
    go_ret2
    exact ⟨Yi_, Yd_⟩
mutual
def impl_IsValidTerminal.j0 : Nat → Bool → List (List Int) → Int → List (List Int) → Option (Bool)
 | 0, _, _, _, _ => none
 | k + 1, x18, x194000, x194001, x194002 => if x18 = true then (some false) else (impl_IsValidTerminal.l0 k x194002 (x194002.length : Int) 0 x194000 x194001 x194002)
def impl_IsValidTerminal.l0 : Nat → List (List Int) → Int → Int → List (List Int) → Int → List (List Int) → Option (Bool)
 | 0, _, _, _, _, _, _ => none
 | k + 1, x21, x22, x23, x194000, x194001, x194002 => if x23 < x22 then (if 0 ≤ x23 then (if x23 < (x21.length : Int) then (impl_IsValidTerminal.l1 k x21 x22 x23 (rd_L1 x21 x23) ((rd_L1 x21 x23).length : Int) 0 x194000 x194001 x194002) else (none)) else (none)) else (some true)
def impl_IsValidTerminal.l1 : Nat → List (List Int) → Int → Int → List Int → Int → Int → List (List Int) → Int → List (List Int) → Option (Bool)
 | 0, _, _, _, _, _, _, _, _, _ => none
 | k + 1, x21, x22, x23, x27, x28, x29, x194000, x194001, x194002 => if x29 < x28 then (if 0 ≤ x29 then (if x29 < (x27.length : Int) then ((Bd.f k x194000 (rd x27 x29)).bind fun bt198 => (if bt198.1 ≥ 0 then (some false) else (impl_IsValidTerminal.l1 k x21 x22 x23 x27 x28 (wrap64 (x29 + 1)) x194000 x194001 x194002))) else (none)) else (none)) else (impl_IsValidTerminal.l0 k x21 x22 (wrap64 (x23 + 1)) x194000 x194001 x194002)
end
def impl_IsValidTerminal.f (k : Nat) (l0_0 : List (List Int)) (a0_1 : Int) (l0_2 : List (List Int)) : Option (Bool) := (Eg.f l0_0).bind fun t194 => (if t194 = true then ((Ee.f a0_1 l0_2).bind fun t195 => (impl_IsValidTerminal.j0 k (!t195) l0_0 a0_1 l0_2)) else (impl_IsValidTerminal.j0 k true l0_0 a0_1 l0_2))
theorem impl_IsValidTerminal.mono_l : ∀ k, (∀ y0 y1 y2 y3, LeO (impl_IsValidTerminal.j0 k y0 y1 y2 y3) (impl_IsValidTerminal.j0 (k + 1) y0 y1 y2 y3)) ∧ (∀ y0 y1 y2 y3 y4 y5, LeO (impl_IsValidTerminal.l0 k y0 y1 y2 y3 y4 y5) (impl_IsValidTerminal.l0 (k + 1) y0 y1 y2 y3 y4 y5)) ∧ (∀ y0 y1 y2 y3 y4 y5 y6 y7 y8, LeO (impl_IsValidTerminal.l1 k y0 y1 y2 y3 y4 y5 y6 y7 y8) (impl_IsValidTerminal.l1 (k + 1) y0 y1 y2 y3 y4 y5 y6 y7 y8))
 | 0 => ⟨fun _ _ _ _ r h => by simp [impl_IsValidTerminal.j0] at h, fun _ _ _ _ _ _ r h => by simp [impl_IsValidTerminal.l0] at h, fun _ _ _ _ _ _ _ _ _ r h => by simp [impl_IsValidTerminal.l1] at h⟩
 | k + 1 => by
  obtain ⟨ih0, ih1, ih2⟩ := impl_IsValidTerminal.mono_l k
  refine ⟨?_, ?_, ?_⟩
  ·intro y0 y1 y2 y3
   unfold impl_IsValidTerminal.j0
   repeat' first
   | (with_reducible exact ih0 _ _ _ _)
   | (with_reducible exact ih1 _ _ _ _ _ _)
   | (with_reducible exact ih2 _ _ _ _ _ _ _ _ _)
   | (with_reducible exact Bd.mono _ _ _)
   | (with_reducible exact LeO.refl _)
   | (with_reducible exact LeO.none _)
   | (with_reducible refine LeO.ite ?_ ?_)
   | (with_reducible refine LeO.bind ?_ (fun _ => ?_))
   | exact ih0 _ _ _ _
   | exact ih1 _ _ _ _ _ _
   | exact ih2 _ _ _ _ _ _ _ _ _
   | exact Bd.mono _ _ _
   | exact LeO.none _
   | refine LeO.ite ?_ ?_
   | refine LeO.bind ?_ (fun _ => ?_)
  ·intro y0 y1 y2 y3 y4 y5
   unfold impl_IsValidTerminal.l0
   repeat' first
   | (with_reducible exact ih0 _ _ _ _)
   | (with_reducible exact ih1 _ _ _ _ _ _)
   | (with_reducible exact ih2 _ _ _ _ _ _ _ _ _)
   | (with_reducible exact Bd.mono _ _ _)
   | (with_reducible exact LeO.refl _)
   | (with_reducible exact LeO.none _)
   | (with_reducible refine LeO.ite ?_ ?_)
   | (with_reducible refine LeO.bind ?_ (fun _ => ?_))
   | exact ih0 _ _ _ _
   | exact ih1 _ _ _ _ _ _
   | exact ih2 _ _ _ _ _ _ _ _ _
   | exact Bd.mono _ _ _
   | exact LeO.none _
   | refine LeO.ite ?_ ?_
   | refine LeO.bind ?_ (fun _ => ?_)
  ·intro y0 y1 y2 y3 y4 y5 y6 y7 y8
   unfold impl_IsValidTerminal.l1
   repeat' first
   | (with_reducible exact ih0 _ _ _ _)
   | (with_reducible exact ih1 _ _ _ _ _ _)
   | (with_reducible exact ih2 _ _ _ _ _ _ _ _ _)
   | (with_reducible exact Bd.mono _ _ _)
   | (with_reducible exact LeO.refl _)
   | (with_reducible exact LeO.none _)
   | (with_reducible refine LeO.ite ?_ ?_)
   | (with_reducible refine LeO.bind ?_ (fun _ => ?_))
   | exact ih0 _ _ _ _
   | exact ih1 _ _ _ _ _ _
   | exact ih2 _ _ _ _ _ _ _ _ _
   | exact Bd.mono _ _ _
   | exact LeO.none _
   | refine LeO.ite ?_ ?_
   | refine LeO.bind ?_ (fun _ => ?_)
theorem impl_IsValidTerminal.mono : ∀ a0 a1 a2 k, LeO (impl_IsValidTerminal.f k a0 a1 a2) (impl_IsValidTerminal.f (k + 1) a0 a1 a2) := by
 intro a0 a1 a2 k
 obtain ⟨ih0, ih1, ih2⟩ := impl_IsValidTerminal.mono_l k
 unfold impl_IsValidTerminal.f
 repeat' first
   | (with_reducible exact ih0 _ _ _ _)
   | (with_reducible exact ih1 _ _ _ _ _ _)
   | (with_reducible exact ih2 _ _ _ _ _ _ _ _ _)
   | (with_reducible exact Bd.mono _ _ _)
   | (with_reducible exact LeO.refl _)
   | (with_reducible exact LeO.none _)
   | (with_reducible refine LeO.ite ?_ ?_)
   | (with_reducible refine LeO.bind ?_ (fun _ => ?_))
   | exact ih0 _ _ _ _
   | exact ih1 _ _ _ _ _ _
   | exact ih2 _ _ _ _ _ _ _ _ _
   | exact Bd.mono _ _ _
   | exact LeO.none _
   | refine LeO.ite ?_ ?_
   | refine LeO.bind ?_ (fun _ => ?_)
set_option maxHeartbeats 8000000 in
set_option maxRecDepth 100000 in
theorem impl_IsValidTerminal.calls (k : Nat) (A0_0 : Option Addr) (c0_0 : Nat) (l0_0 : List (List Int)) (a0_1 : Int) (A0_2 : Option Addr) (c0_2 : Nat) (l0_2 : List (List Int)) (r : Bool) (w : World) (hr0_0 : Kd.C (Kd.slice 3 (Kd.int .i64)) w A0_0 l0_0.length l0_0) (hc0_0 : l0_0.length ≤ c0_0) (hr0_2 : Kd.C (Kd.slice 3 (Kd.int .i64)) w A0_2 l0_2.length l0_2) (hc0_2 : l0_2.length ≤ c0_2) (h : impl_IsValidTerminal.f k l0_0 a0_1 l0_2 = some r) :
  Calls Try.prog 13 #[.agg #[.slice A0_0 l0_0.length c0_0, .int .i64 a0_1, .slice A0_2 l0_2.length c0_2]] w fun e w' => e = .returned (.bool r) ∧ Below w.heap.size w w' := by
 have hu34 := Try.underlying34
 have hu31 := Try.underlying31
 have hu32 := Try.underlying32
 have HR0_0 := Aside0.mk hr0_0
 have HC0_0 := Aside0.mk hc0_0
 clear hr0_0 hc0_0
 have HR0_2 := Aside0.mk hr0_2
 have HC0_2 := Aside0.mk hc0_2
 clear hr0_2 hc0_2
 have HB := Aside0.mk (Below.refl w.heap.size w)
 have H : ((Eg.f l0_0).bind fun t194 => (if t194 = true then ((Ee.f a0_1 l0_2).bind fun t195 => (impl_IsValidTerminal.j0 k (!t195) l0_0 a0_1 l0_2)) else (impl_IsValidTerminal.j0 k true l0_0 a0_1 l0_2))) = some r := h
 clear h
 have HC2 := Aside0.mk H
 clear H
 go_enter Try.func13, Try.ntmps13
 go_upto_region 1 with (first | ((with_reducible refine gate_dst (N := 1) rfl ?_); refine box_event (by rfl) (N := 1) (by rfl) (cs := #[.slice A0_0 l0_0.length c0_0, .int .i64 a0_1, .slice A0_2 l0_2.length c0_2]) (t := 34) Ybf_ ?_; intro gb0 hg w3 hbox hb; have BK0 := Aside0.mk (hbox); have GW0 := Aside0.mk ((by rw [hg]; exact (below_size Yb_) : w.heap.size ≤ gb0)); have GE0 := Aside0.mk ((by rw [hg]; exact (below_size Yb_) : w.heap.size ≤ gb0)); replace HB := Aside0.mk (below_step Yb_ hb); clear hb hbox hg))
 (try simp only [Act.put, List.setIfInBounds_toArray, List.set_cons_zero, List.set_cons_succ])
 go_cut [18] (fun v18 wc => ∃ (kq : Nat) (x18_1 : Bool), v18 = .bool x18_1 ∧ Aside0 (impl_IsValidTerminal.j0 kq x18_1 l0_0 a0_1 l0_2 = some r) ∧ Aside0 (kq ≤ k) ∧ Aside0 (wc.heap[gb0]? = some (.cells #[(.slice A0_0 l0_0.length c0_0), .int .i64 a0_1, (.slice A0_2 l0_2.length c0_2)] 34 (0, 0))) ∧ Aside0 (Below w.heap.size w wc))
 case first =>
  have H := HC2.out
  clear HC2
  replace H := Option.bind_eq_some_iff.mp H
  obtain ⟨t194, A40, H⟩ := H
  try dsimp only at H
  have A4 := Aside0.mk A40
  clear A40
  by_cases c5 : t194 = true
  ·subst c5
   have H1 : ((Ee.f a0_1 l0_2).bind fun t195 => (impl_IsValidTerminal.j0 k (!t195) l0_0 a0_1 l0_2)) = some r := by rw [if_pos rfl] at H; exact H
   clear H
   have H := H1
   clear H1
   replace H := Option.bind_eq_some_iff.mp H
   obtain ⟨t195, A60, H⟩ := H
   try dsimp only at H
   have A6 := Aside0.mk A60
   clear A60
   have H' := Aside0.mk H
   clear H
   obtain ⟨hcz7_0, hcz7_1, hcz7_2⟩ := cl3_ BK0.out
   obtain ⟨hfz7_0, hfz7_1, hfz7_2⟩ := fz3_ BK0.out
   go_wp2_with (first | (go_at_call 42; (with_reducible refine (Eg.calls _ _ l0_0 true _ ?side1 ?side2 A4.out).mono ?_); (case side1 => repeat (first | exact (Kd.C_below HR0_0.out HB.out) | (with_reducible refine Kd.C_alloc ?_ _) | (with_reducible refine Kd.C_drewN ?_ _) | (with_reducible refine Kd.C_drew ?_))); (case side2 => exact HC0_0.out); rintro e w8 ⟨rfl, hb⟩; replace BK0 := Aside0.mk (blk_below (g := gb0) (o := .cells #[.slice A0_0 l0_0.length c0_0, .int .i64 a0_1, .slice A0_2 l0_2.length c0_2] 34 (0, 0)) Yc_ hb); replace HB := Aside0.mk (below_step Yd_ hb); (try clear hb); (try clear hb2); (try clear hk); (try clear hi); obtain ⟨hcz9_0, hcz9_1, hcz9_2⟩ := cl3_ BK0.out; obtain ⟨hfz9_0, hfz9_1, hfz9_2⟩ := fz3_ BK0.out) | (go_at_call 43; (with_reducible refine (Ee.calls a0_1 _ _ l0_2 t195 _ ?side1 ?side2 A6.out).mono ?_); (case side1 => repeat (first | exact (Kd.C_below HR0_2.out HB.out) | (with_reducible refine Kd.C_alloc ?_ _) | (with_reducible refine Kd.C_drewN ?_ _) | (with_reducible refine Kd.C_drew ?_))); (case side2 => exact HC0_2.out); rintro e w10 ⟨rfl, hb⟩; replace BK0 := Aside0.mk (blk_below (g := gb0) (o := .cells #[.slice A0_0 l0_0.length c0_0, .int .i64 a0_1, .slice A0_2 l0_2.length c0_2] 34 (0, 0)) Yc_ hb); replace HB := Aside0.mk (below_step Yd_ hb); (try clear hb); (try clear hb2); (try clear hk); (try clear hi)))
   go_meet
   case rel => exact ⟨_, (!t195), Ybe_, H', ⟨by first | omega | exact Nat.le_refl _⟩, ⟨by (with_reducible repeat (first | apply blk_drewN | apply blk_drew | apply blk_alloc)); exact BK0.out⟩, ⟨by repeat (first | (with_reducible first | exact HB.out | apply below_alloc | apply pw_below_drewN | apply below_drew1 | refine below_set ?_ GE0.out) | exact HB.out)⟩⟩
  ·replace c5 := Bool.eq_false_iff.mpr c5
   subst c5
   have H1 : (impl_IsValidTerminal.j0 k true l0_0 a0_1 l0_2) = some r := by rw [if_neg (show ¬ (false = true) by decide)] at H; exact H
   clear H
   have H := H1
   clear H1
   have H' := Aside0.mk H
   clear H
   obtain ⟨hcz11_0, hcz11_1, hcz11_2⟩ := cl3_ BK0.out
   obtain ⟨hfz11_0, hfz11_1, hfz11_2⟩ := fz3_ BK0.out
   go_wp2_with (first | (go_at_call 42; (with_reducible refine (Eg.calls _ _ l0_0 false _ ?side1 ?side2 A4.out).mono ?_); (case side1 => repeat (first | exact (Kd.C_below HR0_0.out HB.out) | (with_reducible refine Kd.C_alloc ?_ _) | (with_reducible refine Kd.C_drewN ?_ _) | (with_reducible refine Kd.C_drew ?_))); (case side2 => exact HC0_0.out); rintro e w12 ⟨rfl, hb⟩; replace BK0 := Aside0.mk (blk_below (g := gb0) (o := .cells #[.slice A0_0 l0_0.length c0_0, .int .i64 a0_1, .slice A0_2 l0_2.length c0_2] 34 (0, 0)) Yc_ hb); replace HB := Aside0.mk (below_step Yd_ hb); (try clear hb); (try clear hb2); (try clear hk); (try clear hi)))
   go_meet
   case rel => exact ⟨_, (true), Ybe_, H', ⟨by first | omega | exact Nat.le_refl _⟩, ⟨by (with_reducible repeat (first | apply blk_drewN | apply blk_drew | apply blk_alloc)); exact BK0.out⟩, ⟨by repeat (first | (with_reducible first | exact HB.out | apply below_alloc | apply pw_below_drewN | apply below_drew1 | refine below_set ?_ GE0.out) | exact HB.out)⟩⟩
 case rest =>
  clear HC2
  try clear c1; try clear p2; try clear c4; try clear c5; try clear hcz11_0; try clear hcz11_1; try clear hcz11_2; try clear hcz7_0; try clear hcz7_1; try clear hcz7_2; try clear hcz9_0; try clear hcz9_1; try clear hcz9_2; try clear hfz11_0; try clear hfz11_1; try clear hfz11_2; try clear hfz7_0; try clear hfz7_1; try clear hfz7_2; try clear hfz9_0; try clear hfz9_1; try clear hfz9_2
  obtain ⟨kq, x18_1, rfl, HA, HJ1, BK0, HB⟩ := hcut
  cases kq with
  | zero => exact absurd HA.out (by simp [impl_IsValidTerminal.j0])
  | succ kj1 =>
   have H := HA.out
   clear HA
   simp only [impl_IsValidTerminal.j0] at H
   by_cases c13 : x18_1 = true
   ·subst c13
    have H1 : (some false) = some r := by rw [if_pos rfl] at H; exact H
    clear H
    have H := H1
    clear H1
    obtain rfl := Option.some.inj H
    go_wp2
    go_ret
    exact ⟨Yi_, Yd_⟩
   ·replace c13 := Bool.eq_false_iff.mpr c13
    subst c13
    have H1 : (impl_IsValidTerminal.l0 kj1 l0_2 (l0_2.length : Int) 0 l0_0 a0_1 l0_2) = some r := by rw [if_neg (show ¬ (false = true) by decide)] at H; exact H
    clear H
    have H := H1
    clear H1
    have H' := Aside0.mk H
    clear H
    obtain ⟨hcz14_0, hcz14_1, hcz14_2⟩ := cl3_ BK0.out
    obtain ⟨hfz14_0, hfz14_1, hfz14_2⟩ := fz3_ BK0.out
    go_wp2
    go_loopg [23] kj1 (fun kq v23 w' => ∃ (x23_2 : Int), v23 = .int .i64 x23_2 ∧ Aside0 (impl_IsValidTerminal.l0 kq l0_2 (l0_2.length : Int) x23_2 l0_0 a0_1 l0_2 = some r) ∧ Aside0 (kq ≤ kj1) ∧ Aside0 (w'.heap[gb0]? = some (.cells #[(.slice A0_0 l0_0.length c0_0), .int .i64 a0_1, (.slice A0_2 l0_2.length c0_2)] 34 (0, 0))) ∧ Aside0 (Below w.heap.size w w'))
    case atStart => exact ⟨(0), Ybe_, H', ⟨Nat.le_refl _⟩, ⟨by (with_reducible repeat (first | apply blk_drewN | apply blk_drew | apply blk_alloc)); exact BK0.out⟩, ⟨by repeat (first | (with_reducible first | exact HB.out | apply below_alloc | apply pw_below_drewN | apply below_drew1 | refine below_set ?_ GE0.out) | exact HB.out)⟩⟩
    case round =>
     clear H'
     try clear c1; try clear p2; try clear c4; try clear c5; try clear c13; try clear hcz11_0; try clear hcz11_1; try clear hcz11_2; try clear hcz14_0; try clear hcz14_1; try clear hcz14_2; try clear hcz7_0; try clear hcz7_1; try clear hcz7_2; try clear hcz9_0; try clear hcz9_1; try clear hcz9_2; try clear hfz11_0; try clear hfz11_1; try clear hfz11_2; try clear hfz14_0; try clear hfz14_1; try clear hfz14_2; try clear hfz7_0; try clear hfz7_1; try clear hfz7_2; try clear hfz9_0; try clear hfz9_1; try clear hfz9_2; try clear p2
     obtain ⟨x23_2, rfl, HA, HK2, BK0, HB⟩ := hrel
     cases gk with
     | zero => exact absurd HA.out (by simp [impl_IsValidTerminal.l0])
     | succ k2 =>
      have H := HA.out
      clear HA
      simp only [impl_IsValidTerminal.l0] at H
      by_cases c15 : x23_2 < (l0_2.length : Int)
      ·rw [if_pos c15] at H
       have c15b0 : decide (x23_2 < (l0_2.length : Int)) = true := decide_eq_true c15
       clear c15
       by_cases c16 : 0 ≤ x23_2
       ·rw [if_pos c16] at H
        have c16b0 : decide (0 ≤ x23_2) = true := decide_eq_true c16
        clear c16
        by_cases c17 : x23_2 < (l0_2.length : Int)
        ·rw [if_pos c17] at H
         have c17b0 : decide (x23_2 < (l0_2.length : Int)) = true := decide_eq_true c17
         clear c17
         have H' := Aside0.mk H
         clear H
         have p196 : 0 ≤ (x23_2 : Int) := of_decide_eq_true Yh_
         have q196 : x23_2 < (l0_2.length : Int) := of_decide_eq_true Yh_
         obtain ⟨ad196, A196_0, c196_0, e196, hx196_0, hl196_0, hi196_0⟩ := Cj HR0_2.out x23_2 p196 q196
         cases e196
         replace hx196_0 := (HB.out.cell (World.block_lt_of_cell? w _ hx196_0)).trans hx196_0
         have HR196_0 := Aside0.mk hi196_0
         have HC196_0 := Aside0.mk hl196_0
         clear hi196_0 hl196_0
         replace p196 := eq_true p196
         replace q196 := eq_true q196
         go_wp2
         go_loopg [29] k2 (fun kq v29 w' => ∃ (x29_3 : Int), v29 = .int .i64 x29_3 ∧ Aside0 (impl_IsValidTerminal.l1 kq l0_2 (l0_2.length : Int) x23_2 (rd_L1 l0_2 x23_2) ((rd_L1 l0_2 x23_2).length : Int) x29_3 l0_0 a0_1 l0_2 = some r) ∧ Aside0 (kq ≤ k2) ∧ Aside0 (w'.heap[gb0]? = some (.cells #[(.slice A0_0 l0_0.length c0_0), .int .i64 a0_1, (.slice (some ad196) l0_2.length c0_2)] 34 (0, 0))) ∧ Aside0 (Below w.heap.size w w'))
         case atStart => exact ⟨(0), Ybe_, H', ⟨Nat.le_refl _⟩, ⟨by (with_reducible repeat (first | apply blk_drewN | apply blk_drew | apply blk_alloc)); exact BK0.out⟩, ⟨by repeat (first | (with_reducible first | exact HB.out | apply below_alloc | apply pw_below_drewN | apply below_drew1 | refine below_set ?_ GE0.out) | exact HB.out)⟩⟩
         case round =>
          clear H'
          try clear c1; try clear p1; try clear q1; try clear hx1; try clear p2; try clear c4; try clear c5; try clear c13; try clear c15; try clear c15b0; try clear c16; try clear c16b0; try clear c17; try clear c17b0; try clear hcz11_0; try clear hcz11_1; try clear hcz11_2; try clear hcz14_0; try clear hcz14_1; try clear hcz14_2; try clear hcz7_0; try clear hcz7_1; try clear hcz7_2; try clear hcz9_0; try clear hcz9_1; try clear hcz9_2; try clear hfz11_0; try clear hfz11_1; try clear hfz11_2; try clear hfz14_0; try clear hfz14_1; try clear hfz14_2; try clear hfz7_0; try clear hfz7_1; try clear hfz7_2; try clear hfz9_0; try clear hfz9_1; try clear hfz9_2; try clear hx196_0; try clear p196; try clear p2; try clear q196
          obtain ⟨x29_3, rfl, HA, HK3, BK0, HB⟩ := hrel
          cases gk with
          | zero => exact absurd HA.out (by simp [impl_IsValidTerminal.l1])
          | succ k3 =>
           have H := HA.out
           clear HA
           simp only [impl_IsValidTerminal.l1] at H
           by_cases c18 : x29_3 < ((rd_L1 l0_2 x23_2).length : Int)
           ·rw [if_pos c18] at H
            have c18b0 : decide (x29_3 < ((rd_L1 l0_2 x23_2).length : Int)) = true := decide_eq_true c18
            clear c18
            by_cases c19 : 0 ≤ x29_3
            ·rw [if_pos c19] at H
             have c19b0 : decide (0 ≤ x29_3) = true := decide_eq_true c19
             clear c19
             by_cases c20 : x29_3 < ((rd_L1 l0_2 x23_2).length : Int)
             ·rw [if_pos c20] at H
              have c20b0 : decide (x29_3 < ((rd_L1 l0_2 x23_2).length : Int)) = true := decide_eq_true c20
              clear c20
              replace H := Option.bind_eq_some_iff.mp H
              obtain ⟨⟨t198, t199⟩, A210, H⟩ := H
              try dsimp only at H
              have A21 := Aside0.mk A210
              clear A210
              by_cases c22 : t198 ≥ 0
              ·rw [if_pos c22] at H
               have c22b0 : decide (0 ≤ t198) = true := decide_eq_true c22
               clear c22
               obtain rfl := Option.some.inj H
               have p197 : 0 ≤ (x29_3 : Int) := of_decide_eq_true Yh_
               have q197 : x29_3 < ((rd_L1 l0_2 x23_2).length : Int) := of_decide_eq_true Yh_
               obtain ⟨ad197, e197, hx197_0⟩ := Kd.Dw HR196_0.out x29_3 p197 q197
               cases e197
               replace hx197_0 := (HB.out.cell (World.block_lt_of_cell? w _ hx197_0)).trans hx197_0
               replace p197 := eq_true p197
               replace q197 := eq_true q197
               obtain ⟨hcz23_0, hcz23_1, hcz23_2⟩ := cl3_ BK0.out
               obtain ⟨hfz23_0, hfz23_1, hfz23_2⟩ := fz3_ BK0.out
               go_wp2_with (first | (go_at_call 44; (with_reducible refine (Bd.calls k3 _ _ l0_0 (rd (rd_L1 l0_2 x23_2) x29_3) t198 t199 _ ?side1 ?side2 A21.out).mono ?_); (case side1 => repeat (first | exact (Kd.C_below HR0_0.out HB.out) | (with_reducible refine Kd.C_alloc ?_ _) | (with_reducible refine Kd.C_drewN ?_ _) | (with_reducible refine Kd.C_drew ?_))); (case side2 => exact HC0_0.out); rintro e w24 ⟨rfl, hb⟩; replace BK0 := Aside0.mk (blk_below (g := gb0) (o := .cells #[.slice A0_0 l0_0.length c0_0, .int .i64 a0_1, .slice (some ad196) l0_2.length c0_2] 34 (0, 0)) Yc_ hb); replace HB := Aside0.mk (below_step Yd_ hb); (try clear hb); (try clear hb2); (try clear hk); (try clear hi)))
               go_ret
               exact ⟨Yi_, Yd_⟩
              ·rw [if_neg c22] at H
               have c22b0 : decide (0 ≤ t198) = false := decide_eq_false c22
               clear c22
               have H' := Aside0.mk H
               clear H
               have p197 : 0 ≤ (x29_3 : Int) := of_decide_eq_true Yh_
               have q197 : x29_3 < ((rd_L1 l0_2 x23_2).length : Int) := of_decide_eq_true Yh_
               obtain ⟨ad197, e197, hx197_0⟩ := Kd.Dw HR196_0.out x29_3 p197 q197
               cases e197
               replace hx197_0 := (HB.out.cell (World.block_lt_of_cell? w _ hx197_0)).trans hx197_0
               replace p197 := eq_true p197
               replace q197 := eq_true q197
               obtain ⟨hcz25_0, hcz25_1, hcz25_2⟩ := cl3_ BK0.out
               obtain ⟨hfz25_0, hfz25_1, hfz25_2⟩ := fz3_ BK0.out
               go_wp2_with (first | (go_at_call 44; (with_reducible refine (Bd.calls k3 _ _ l0_0 (rd (rd_L1 l0_2 x23_2) x29_3) t198 t199 _ ?side1 ?side2 A21.out).mono ?_); (case side1 => repeat (first | exact (Kd.C_below HR0_0.out HB.out) | (with_reducible refine Kd.C_alloc ?_ _) | (with_reducible refine Kd.C_drewN ?_ _) | (with_reducible refine Kd.C_drew ?_))); (case side2 => exact HC0_0.out); rintro e w26 ⟨rfl, hb⟩; replace BK0 := Aside0.mk (blk_below (g := gb0) (o := .cells #[.slice A0_0 l0_0.length c0_0, .int .i64 a0_1, .slice (some ad196) l0_2.length c0_2] 34 (0, 0)) Yc_ hb); replace HB := Aside0.mk (below_step Yd_ hb); (try clear hb); (try clear hb2); (try clear hk); (try clear hi)))
               go_roundg k3
               case measure => have := HJ1.out; have := HK2.out; have := HK3.out; omega
               case rel => exact ⟨(wrap64 (x29_3 + 1)), Ybe_, H', ⟨by have := HJ1.out; have := HK2.out; have := HK3.out; omega⟩, ⟨by (with_reducible repeat (first | apply blk_drewN | apply blk_drew | apply blk_alloc)); exact BK0.out⟩, ⟨by repeat (first | (with_reducible first | exact HB.out | apply below_alloc | apply pw_below_drewN | apply below_drew1 | refine below_set ?_ GE0.out) | exact HB.out)⟩⟩
             ·rw [if_neg c20] at H
              exact absurd H (by simp)
            ·rw [if_neg c19] at H
             exact absurd H (by simp)
           ·rw [if_neg c18] at H
            have c18b0 : decide (x29_3 < ((rd_L1 l0_2 x23_2).length : Int)) = false := decide_eq_false c18
            clear c18
            have H' := Aside0.mk H
            clear H
            go_wp2
            go_roundg k3
            case measure => have := HJ1.out; have := HK2.out; have := HK3.out; omega
            case rel => exact ⟨(wrap64 (x23_2 + 1)), Ybe_, H', ⟨by have := HJ1.out; have := HK2.out; have := HK3.out; omega⟩, ⟨by (with_reducible repeat (first | apply blk_drewN | apply blk_drew | apply blk_alloc)); exact BK0.out⟩, ⟨by repeat (first | (with_reducible first | exact HB.out | apply below_alloc | apply pw_below_drewN | apply below_drew1 | refine below_set ?_ GE0.out) | exact HB.out)⟩⟩
        ·rw [if_neg c17] at H
         exact absurd H (by simp)
       ·rw [if_neg c16] at H
        exact absurd H (by simp)
      ·rw [if_neg c15] at H
       have c15b0 : decide (x23_2 < (l0_2.length : Int)) = false := decide_eq_false c15
       clear c15
       obtain rfl := Option.some.inj H
       go_wp2
       go_ret
       exact ⟨Yi_, Yd_⟩
def Dv.f (l0 : List Int) : Option (List Int) := if l0.length < 17592186044416 then some l0 else none
set_option maxHeartbeats 8000000 in
set_option maxRecDepth 100000 in
theorem Dv.calls (A0 : Option Addr) (c0 : Nat) (l0 : List Int) (r : List Int) (w : World) (hr0 : Kd.C (Kd.int .i64) w A0 l0.length l0) (hc0 : l0.length ≤ c0) (h : Dv.f l0 = some r) :
  Calls Try.prog 96 #[.slice A0 l0.length c0] w fun e w' => ∃ v0_ : Value, e = .returned (v0_) ∧ Kd.R (Kd.int .i64) 3 w' w.heap.size (fun _ => True) v0_ r ∧ Below w.heap.size w w' := by
 have HR0 := Aside0.mk hr0
 have HC0 := Aside0.mk hc0
 clear hr0 hc0
 have HB := Aside0.mk (Below.refl w.heap.size w)
 unfold Dv.f at h
 have q22 : ∀ (w : World) (a : Option Addr) (n c n' c' : Nat), (binOp .eql 73 (.slice a n c) (.slice none n' c')).run Try.prog w = .ok (.bool a.isNone) w := fun w a n c n' c' => Go.Lib.run_eql_slice_nil w _ _ a n c n' c' Try.underlying73
 by_cases c2 : l0.length < 17592186044416
 ·rw [if_pos c2] at h
  obtain rfl := Option.some.inj h
  have LMc2 := Aside0.mk c2
  clear c2 h
  cases A0 with
  | none =>
   have e0 : l0 = [] := by
    have := HR0.out.2.2
    by_cases z : 0 < l0.length
    ·obtain ⟨ad, ha, _⟩ := this z
     cases ha
    ·exact List.eq_nil_of_length_eq_zero (by omega)
   subst e0
   go_enter Try.func96, Try.ntmps96
   go_wp2
   go_ret
   exact ⟨_, Ybe_, Kd.R_nil _ _ _ _ _, Yb_⟩
  | some ad0 =>
   obtain ⟨y, hy⟩ : ∃ y_ : List Int, y_ = ([] ++ l0) := ⟨_, rfl⟩
   have Ny := Aside0.mk hy
   clear hy
   go_enter Try.func96, Try.ntmps96
   go_wp2_with (first | ((with_reducible refine gate_dst (N := 5) rfl ?_); refine Kd.R_lit (Kd.int .i64) _ 3 ?hg (N := 5) ?hd (xs := ([] : List Int)) (inner := []) (ok := fun _ => True) (okp := fun _ => True) ?hr ?hp (fun _ hk => hk) trivial (Below.refl _ _) (Nat.le_refl _) (by simp) ?_; (case hd => rfl); (case hg => rfl); (case hr => first | (go_simp; done) | (go_simp; rfl)); (case hp => exact (Reps.none _ _)); intro v295 w3 ho4 hb hg_ hnew_; clear hg_ hnew_; have HO := Aside0.mk (Kd.R_lower ho4 (below_size Yb_)); replace HB := Aside0.mk (below_step Yb_ hb); clear hb ho4) | ((with_reducible refine F5 (b := .append) (xs := #[.tmp 5, .tmp 6]) rfl ?_); at_builtin; refine Kd.R_append_rows (Kd.int .i64) (w0 := w) w.heap.size rfl (.tmp 5) (.tmp 6) 73 3 (.int .i64 0) 8 rfl Try.underlying73 info3 rfl (by decide) (by omega) v295 [] l0 _ _ _ (fun _ => True) (fun _ => False) rfl rfl ?aO ?aR (fun _ _ h => h) (fun _ h => h.elim) ?aF ?aB ?aS ?aL ?_; (case aR => repeat (first | exact (Kd.C_below HR0.out HB.out) | (with_reducible refine Kd.C_alloc ?_ _) | (with_reducible refine Kd.C_drewN ?_ _) | (with_reducible refine Kd.C_drew ?_))); (case aB => exact Yb_); (case aF => exact (fun _ _ => trivial)); (case aO => exact (by (with_reducible repeat (first | apply Kd.R_alloc | apply Kd.R_drewN | apply Kd.R_drew)); exact HO.out)); (case aS => exact (below_size Yb_)); (case aL => have := LMc2.out; simp only [List.length_nil]; omega); intro v298 w5 ho hb hg hat; rw [← Ny.out] at ho; replace HB := Aside0.mk (hb); replace HO := Aside0.mk (ho); clear ho hb hg hat))
   go_ret
   exact ⟨_, Ybe_, (by rw [show l0 = y by rw [Ny.out]; rfl]; (with_reducible repeat (first | apply Kd.R_alloc | apply Kd.R_drewN | apply Kd.R_drew)); exact HO.out), Yb_⟩
 ·rw [if_neg c2] at h
  cases h
def Ba.l0 : Nat → List (List Int) → Int → Int → List (List Int) → Option ((List (List Int)))
 | 0, _, _, _, _ => none
 | k + 1, x9, x10, x11, x366000 => if x11 < x10 then (if 0 ≤ x11 then (if x11 < (x9.length : Int) then ((Dv.f (rd_L1 x9 x11)).bind fun t367 => (if x366000.length < 5864062014805 then (Ba.l0 k x9 x10 (wrap64 (x11 + 1)) (x366000 ++ [t367])) else (none))) else (none)) else (none)) else (some x366000)
def Ba.f (k : Nat) (l0_0 : List (List Int)) : Option ((List (List Int))) := Ba.l0 k l0_0 (l0_0.length : Int) 0 (([] : List (List Int)))
theorem Ba.mono_l : ∀ k, (∀ y0 y1 y2 y3, LeO (Ba.l0 k y0 y1 y2 y3) (Ba.l0 (k + 1) y0 y1 y2 y3))
 | 0 => fun _ _ _ _ r h => by simp [Ba.l0] at h
 | k + 1 => by
  have ih0 := Ba.mono_l k
  ·intro y0 y1 y2 y3
   unfold Ba.l0
   repeat' first
   | (with_reducible exact ih0 _ _ _ _)
   | (with_reducible exact LeO.refl _)
   | (with_reducible exact LeO.none _)
   | (with_reducible refine LeO.ite ?_ ?_)
   | (with_reducible refine LeO.bind ?_ (fun _ => ?_))
   | exact ih0 _ _ _ _
   | exact LeO.none _
   | refine LeO.ite ?_ ?_
   | refine LeO.bind ?_ (fun _ => ?_)
theorem Ba.mono : ∀ a0 k, LeO (Ba.f k a0) (Ba.f (k + 1) a0) := by
 intro a0 k
 have ih0 := Ba.mono_l k
 unfold Ba.f
 repeat' first
   | (with_reducible exact ih0 _ _ _ _)
   | (with_reducible exact LeO.refl _)
   | (with_reducible exact LeO.none _)
   | (with_reducible refine LeO.ite ?_ ?_)
   | (with_reducible refine LeO.bind ?_ (fun _ => ?_))
   | exact ih0 _ _ _ _
   | exact LeO.none _
   | refine LeO.ite ?_ ?_
   | refine LeO.bind ?_ (fun _ => ?_)
def Ba.T5 : Bool × List (List Nat × List Nat) := (true, [([], []), ([0], [0]), ([], []), ([2], [2]), ([3], [3]), ([1, 4, 3], [1, 4]), ([0, 1, 2, 3, 4, 5], []), ([6, 5, 5, 0, 1, 2, 3, 4, 5], [5, 6])])
def Ba.B5 : List Nat := [0, 1, 0, 4, 12, 31, 63, 127]
theorem Ba.tab5 : rtab .any (opsOf Try.f80 5) = Ba.T5 := by kernel_rfl
theorem Ba.bits5 : waitsOk Ba.T5.2 Ba.B5 = true := by kernel_rfl
set_option maxHeartbeats 8000000 in
set_option maxRecDepth 100000 in
theorem Ba.calls (k : Nat) (A0_0 : Option Addr) (c0_0 : Nat) (l0_0 : List (List Int)) (r : List (List Int)) (w : World) (hr0_0 : Kd.C (Kd.slice 3 (Kd.int .i64)) w A0_0 l0_0.length l0_0) (hc0_0 : l0_0.length ≤ c0_0) (h : Ba.f k l0_0 = some r) :
  Calls Try.prog 80 #[.agg #[.slice A0_0 l0_0.length c0_0]] w fun e w' => ∃ v0_ : Value, e = .returned (.agg #[v0_]) ∧ Kd.S (Kd.slice 3 (Kd.int .i64)) 73 w' w.heap.size (fun _ => True) v0_ r ∧ Below w.heap.size w w' := by
 have hu31 := Try.underlying31
 have HR0_0 := Aside0.mk hr0_0
 have HC0_0 := Aside0.mk hc0_0
 clear hr0_0 hc0_0
 have HB := Aside0.mk (Below.refl w.heap.size w)
 have H : (Ba.l0 k l0_0 (l0_0.length : Int) 0 (([] : List (List Int)))) = some r := h
 clear h
 obtain ⟨y362, hy362⟩ : ∃ y_ : List (List Int), y_ = (([] : List (List Int))) := ⟨_, rfl⟩
 replace H : (Ba.l0 k l0_0 (l0_0.length : Int) 0 y362) = some r := by first | (rw [hy362]; with_reducible exact H) | (have H2_ := (Option.bind_some _ _).symm.trans H; rw [hy362]; with_reducible exact H2_) | (have H2_ := (Option.bind_some _ _).symm.trans H; with_reducible exact H2_) | with_reducible exact H | (rw [hy362]; exact H) | exact H
 have Ny362 := Aside0.mk hy362
 clear hy362
 have H' := Aside0.mk H
 clear H
 go_enter Try.func80, Try.ntmps80
 go_wp2_with (first | ((with_reducible refine gate_dst (N := 1) rfl ?_); refine box_event (by rfl) (N := 1) (by rfl) (cs := #[.slice A0_0 l0_0.length c0_0]) (t := 31) Ybf_ ?_; intro gb0 hg w2 hbox hb; have BK0 := Aside0.mk (hbox); have GW0 := Aside0.mk ((by rw [hg]; exact (below_size Yb_) : w.heap.size ≤ gb0)); have GE0 := Aside0.mk ((by rw [hg]; exact (below_size Yb_) : w.heap.size ≤ gb0)); replace HB := Aside0.mk (below_step Yb_ hb); clear hb hbox hg) | ((with_reducible refine gate_dst (N := 2) rfl ?_); refine box_event (by rfl) (N := 2) (by rfl) (cs := #[.slice none 0 0]) (t := 31) Ybf_ ?_; intro gb1 hg w3 hbox hb; have BK1 := Aside0.mk (hbox); have GW1 := Aside0.mk ((by rw [hg]; exact (below_size Yd_) : w.heap.size ≤ gb1)); have GE1 := Aside0.mk ((by rw [hg]; exact (below_size Yd_) : w.heap.size ≤ gb1)); replace HB := Aside0.mk (below_step Yd_ hb); have NB0_1 := Aside0.mk ((by rw [hg]; exact Nat.ne_of_lt (blk_lt (g := gb0) (o := .cells #[.slice A0_0 l0_0.length c0_0] 31 (0, 0)) Yc_) : gb0 ≠ gb1)); have NB1_0 := Aside0.mk ((by rw [hg]; exact Nat.ne_of_gt (blk_lt (g := gb0) (o := .cells #[.slice A0_0 l0_0.length c0_0] 31 (0, 0)) Yc_) : gb1 ≠ gb0)); replace BK0 := Aside0.mk (blk_below (g := gb0) (o := .cells #[.slice A0_0 l0_0.length c0_0] 31 (0, 0)) Yc_ hb); clear hb hbox hg) | ((with_reducible refine gate_dst (N := 6) rfl ?_); refine Kd.S_lit (Kd.slice 3 (Kd.int .i64)) _ 73 ?hg (N := 6) ?hd (xs := ([] : List (List Int))) (inner := []) (ok := fun _ => True) (okp := fun _ => True) ?hr ?hp (fun _ hk => hk) trivial (Below.refl _ _) (Nat.le_refl _) (by simp) ?_; (case hd => rfl); (case hg => rfl); (case hr => first | (go_simp; done) | (go_simp; rfl)); (case hp => exact (Reps.none _ _)); intro v363 w4 ho5 hb hg_ hnew_; clear hg_ hnew_; (first | rw [← Ny362.out] at ho5 | (simp only [Int.reduceToNat] at ho5; rw [← Ny362.out] at ho5)); have HO364 := Aside0.mk (Kd.S_lower ho5 (below_size Yf_)); replace BK0 := Aside0.mk (blk_below (g := gb0) (o := .cells #[.slice A0_0 l0_0.length c0_0] 31 (0, 0)) Yc_ hb); replace BK1 := Aside0.mk (blk_below (g := gb1) (o := .cells #[.slice none 0 0] 31 (0, 0)) Yg_ hb); replace HB := Aside0.mk (below_step Yf_ hb); clear hb ho5; obtain ⟨Ao6, co6, eo6⟩ := Kd.S_slice HO364.out; subst eo6) | ((with_reducible refine gate_dst (N := 3) rfl ?_); refine box_event (by rfl) (N := 3) (by rfl) (cs := #[.slice none 0 0]) (t := 31) Ybf_ ?_; intro gb2 hg w7 hbox hb; replace HO364 := Aside0.mk (Kd.Ac (by (with_reducible repeat (first | apply Kd.S_alloc | apply Kd.S_drewN | apply Kd.S_drew)); exact HO364.out) hb); have BK2 := Aside0.mk (hbox); have GW2 := Aside0.mk ((by rw [hg]; exact (below_size Yf_) : w.heap.size ≤ gb2)); have GE2 := Aside0.mk ((by rw [hg]; exact (below_size Yf_) : w.heap.size ≤ gb2)); replace HB := Aside0.mk (below_step Yf_ hb); have NB0_2 := Aside0.mk ((by rw [hg]; exact Nat.ne_of_lt (blk_lt (g := gb0) (o := .cells #[.slice A0_0 l0_0.length c0_0] 31 (0, 0)) Yc_) : gb0 ≠ gb2)); have NB2_0 := Aside0.mk ((by rw [hg]; exact Nat.ne_of_gt (blk_lt (g := gb0) (o := .cells #[.slice A0_0 l0_0.length c0_0] 31 (0, 0)) Yc_) : gb2 ≠ gb0)); replace BK0 := Aside0.mk (blk_below (g := gb0) (o := .cells #[.slice A0_0 l0_0.length c0_0] 31 (0, 0)) Yc_ hb); have NB1_2 := Aside0.mk ((by rw [hg]; exact Nat.ne_of_lt (blk_lt (g := gb1) (o := .cells #[.slice none 0 0] 31 (0, 0)) Yg_) : gb1 ≠ gb2)); have NB2_1 := Aside0.mk ((by rw [hg]; exact Nat.ne_of_gt (blk_lt (g := gb1) (o := .cells #[.slice none 0 0] 31 (0, 0)) Yg_) : gb2 ≠ gb1)); replace BK1 := Aside0.mk (blk_below (g := gb1) (o := .cells #[.slice none 0 0] 31 (0, 0)) Yg_ hb); clear hb hbox hg; have hnb8 := NB2_0.out; have hnc8 := NB0_2.out; have hnb9 := NB2_1.out; have hnc9 := NB1_2.out; have hcz10_0 : w7.cell? ⟨gb2, 0, none⟩ = some (.slice none 0 0) := (blk_cell BK2.out 0).trans rfl; have hfz10_0 := blk_frozen BK2.out 0; have hnb11 := NB0_1.out; have hnc11 := NB1_0.out; have hcz12_0 : w7.cell? ⟨gb0, 0, none⟩ = some (.slice A0_0 l0_0.length c0_0) := (blk_cell BK0.out 0).trans rfl; have hfz12_0 := blk_frozen BK0.out 0))
 go_loopg [11] k (fun kq v11 w' => ∃ (x11_1 : Int) (x366000_1 : List (List Int)) (u366000 : Value), v11 = .int .i64 x11_1 ∧ Aside0 (Ba.l0 kq l0_0 (l0_0.length : Int) x11_1 x366000_1 = some r) ∧ Aside0 (kq ≤ k) ∧ Aside0 (Kd.S (Kd.slice 3 (Kd.int .i64)) 73 w' w.heap.size (fun _ => True) u366000 x366000_1) ∧ Aside0 (w'.heap[gb0]? = some (.cells #[(.slice A0_0 l0_0.length c0_0)] 31 (0, 0))) ∧ Aside0 (w'.heap[gb1]? = some (.cells #[(.slice none 0 0)] 31 (0, 0))) ∧ Aside0 (w'.heap[gb2]? = some (.cells #[u366000] 31 (0, 0))) ∧ Aside0 (Below w.heap.size w w'))
 case atStart => exact ⟨(0), (y362), (.slice Ao6 y362.length co6), Ybe_, H', ⟨Nat.le_refl _⟩, ⟨by (with_reducible repeat (first | apply Kd.S_alloc | apply Kd.S_drewN | apply Kd.S_drew)); exact Kd.S_mono (Kd.S_far (p := ⟨gb2, 0, none⟩) (Kd.S_types HO364.out BK2.out (by decide)) (fun _ hk => hk.2) (.slice Ao6 y362.length co6)) (fun _ hk => trivial)⟩, ⟨by (with_reducible repeat (first | apply blk_drewN | apply blk_drew | apply blk_alloc)); refine Ai ?_ NB0_2.out _; (with_reducible repeat (first | apply blk_drewN | apply blk_drew | apply blk_alloc)); exact BK0.out⟩, ⟨by (with_reducible repeat (first | apply blk_drewN | apply blk_drew | apply blk_alloc)); refine Ai ?_ NB1_2.out _; (with_reducible repeat (first | apply blk_drewN | apply blk_drew | apply blk_alloc)); exact BK1.out⟩, ⟨by (with_reducible repeat (first | apply blk_drewN | apply blk_drew | apply blk_alloc)); refine blk_put (cs := #[.slice none 0 0]) ?_ 0 _ rfl; (with_reducible repeat (first | apply blk_drewN | apply blk_drew | apply blk_alloc)); exact BK2.out⟩, ⟨by repeat (first | (with_reducible first | exact HB.out | apply below_alloc | apply pw_below_drewN | apply below_drew1 | refine below_set ?_ GE0.out | refine below_set ?_ GE1.out | refine below_set ?_ GE2.out) | exact HB.out)⟩⟩
 case round =>
  clear H'
  try clear c1; try clear p2; try clear c8; try clear c9; try clear c11; try clear hcz10_0; try clear hcz12_0; try clear hfz10_0; try clear hfz12_0
  obtain ⟨x11_1, x366000_1, u366000, rfl, HA, HK1, HO_366000, BK0, BK1, BK2, HB⟩ := hrel
  cases gk with
  | zero => exact absurd HA.out (by simp [Ba.l0])
  | succ k1 =>
   have H := HA.out
   clear HA
   simp only [Ba.l0] at H
   by_cases c13 : x11_1 < (l0_0.length : Int)
   ·rw [if_pos c13] at H
    have c13b0 : decide (x11_1 < (l0_0.length : Int)) = true := decide_eq_true c13
    clear c13
    by_cases c14 : 0 ≤ x11_1
    ·rw [if_pos c14] at H
     have c14b0 : decide (0 ≤ x11_1) = true := decide_eq_true c14
     clear c14
     by_cases c15 : x11_1 < (l0_0.length : Int)
     ·rw [if_pos c15] at H
      have c15b0 : decide (x11_1 < (l0_0.length : Int)) = true := decide_eq_true c15
      clear c15
      replace H := Option.bind_eq_some_iff.mp H
      obtain ⟨t367, A160, H⟩ := H
      try dsimp only at H
      have A16 := Aside0.mk A160
      clear A160
      by_cases c17 : x366000_1.length < 5864062014805
      ·rw [if_pos c17] at H
       have LMc17 := Aside0.mk c17
       clear c17
       obtain ⟨y370, hy370⟩ : ∃ y_ : List (List Int), y_ = (x366000_1 ++ [t367]) := ⟨_, rfl⟩
       replace H : (Ba.l0 k1 l0_0 (l0_0.length : Int) (wrap64 (x11_1 + 1)) y370) = some r := by first | (rw [hy370]; with_reducible exact H) | (have H2_ := (Option.bind_some _ _).symm.trans H; rw [hy370]; with_reducible exact H2_) | (have H2_ := (Option.bind_some _ _).symm.trans H; with_reducible exact H2_) | with_reducible exact H | (rw [hy370]; exact H) | exact H
       have Ny370 := Aside0.mk hy370
       clear hy370
       have H' := Aside0.mk H
       clear H
       have p366 : 0 ≤ (x11_1 : Int) := of_decide_eq_true Yh_
       have q366 : x11_1 < (l0_0.length : Int) := of_decide_eq_true Yh_
       obtain ⟨ad366, A366_0, c366_0, e366, hx366_0, hl366_0, hi366_0⟩ := Cj HR0_0.out x11_1 p366 q366
       cases e366
       replace hx366_0 := (HB.out.cell (World.block_lt_of_cell? w _ hx366_0)).trans hx366_0
       have HR366_0 := Aside0.mk hi366_0
       have HC366_0 := Aside0.mk hl366_0
       clear hi366_0 hl366_0
       replace p366 := eq_true p366
       replace q366 := eq_true q366
       try go_wp2
       replace HO_366000 := Aside0.mk (Kd.S_drew HO_366000.out)
       replace BK0 := Aside0.mk (blk_drew BK0.out)
       replace BK1 := Aside0.mk (blk_drew BK1.out)
       replace BK2 := Aside0.mk (blk_drew BK2.out)
       replace HB := Aside0.mk (below_drew1 HB.out)
       refine start_ (n := 8) (S := fun w' => w'.cell? ⟨gb2, 0, none⟩ = some (u366000)) (ds := [7]) #[false, false, false, false, false, false, false, false] Ybb_ rfl rfl ((blk_cell BK2.out 0).trans rfl) (fun hHeld => ?_); refine with_tabW Ba.tab5 Ba.bits5 (fun HT_ HW_ => ?_)
       generalize wr.drew = w18 at HO_366000 BK0 BK1 BK2 HB hHeld ⊢
       refine pure_ (i := 0) (N := some 15) #[true, false, false, false, false, false, false, false] rfl rfl (any_of HT_.out Ybb_) (fun _ _ _ h => h) (Or.inl ⟨by rfl, Ybg_⟩) Ya_ ?_
       refine pure_ (i := 2) (N := some 17) #[true, false, true, false, false, false, false, false] rfl rfl (any_of HT_.out Ybb_) (fun _ _ _ h => h) (Or.inl ⟨by rfl, Ybg_⟩) Ya_ ?_
       refine take_ (i := 1) (N := some 16) #[true, true, true, false, false, false, false, false] rfl rfl (take_ofW HT_.out HW_.out Ybb_) (fun _ _ _ h => h) (Or.inl ⟨by rfl, (by intro w' s0; go_simp; with_reducible rfl)⟩) hHeld Ya_ ?_
       refine one_ (i := 3) (N := some 18) #[true, true, true, true, false, false, false, false] rfl rfl (one_of HT_.out Ybb_) (by decide) (fun K hK => ?_)
       refine goes_ Try.func96 Ybb_ rfl #[.slice A366_0 (rd_L1 l0_0 x11_1).length c366_0] (by rfl) rfl rfl Yj_ ?_
       with_reducible refine (Dv.calls _ _ (rd_L1 l0_0 x11_1) t367 _ ?side1 ?side2 A16.out).mono ?_
       (case side1 => repeat (first | exact (Kd.C_below HR366_0.out HB.out) | (with_reducible refine Kd.C_alloc ?_ _) | (with_reducible refine Kd.C_drewN ?_ _) | (with_reducible refine Kd.C_drew ?_)))
       (case side2 => exact HC366_0.out)
       rintro e w19 ⟨v368, rfl, ho0, hb⟩
       refine ⟨_, rfl, ?_⟩
       replace HO_366000 := Aside0.mk (Kd.S_elder' (by (with_reducible repeat (first | apply Kd.S_alloc | apply Kd.S_drewN | apply Kd.S_drew)); exact HO_366000.out) (Kd.R_base ho0) hb)
       have HO369 := Aside0.mk (Kd.R_lower ho0 (below_size Ye_))
       replace BK0 := Aside0.mk (blk_below (g := gb0) (o := .cells #[.slice (some ad366) l0_0.length c0_0] 31 (0, 0)) Yc_ hb)
       replace BK1 := Aside0.mk (blk_below (g := gb1) (o := .cells #[.slice none 0 0] 31 (0, 0)) Yg_ hb)
       replace BK2 := Aside0.mk (blk_below (g := gb2) (o := .cells #[u366000] 31 (0, 0)) Ybd_ hb)
       replace HB := Aside0.mk (below_step Ye_ hb)
       (try clear hb)
       (try clear hb2)
       (try clear hk)
       (try clear hi)
       (try clear ho0)
       obtain ⟨Ao21, co21, eo21⟩ := Kd.Dc HO369.out
       (first | subst eo21 | (injection eo21 with f1_ f2_ f3_; have f4_ := f1_.symm; have f5_ := f3_.symm; clear f1_ f2_ f3_; subst f4_; subst f5_))
       refine hK.out _ _ ((blk_cell BK2.out 0).trans rfl) (fun hHeld => ?_)
       clear hK K
       refine norm_ (show Act.put _ (some 18) _ = _ from Ya_) ?_
       refine one_ (i := 4) (N := some 19) #[true, true, true, true, true, false, false, false] rfl rfl (one_of HT_.out Ybb_) (by decide) (fun K hK => ?_)
       refine value_ (w1 := ?_) (v := ?_) (by rfl) rfl ?_ ?_
       rotate_left 2
       ·go_simp
        constructor
        ·rfl
        ·rfl
       refine hK.out _ _ ((blk_cell (blk_alloc BK2.out _) 0).trans rfl) (fun hHeld => ?_)
       clear hK K
       refine norm_ (show Act.put _ (some 19) _ = _ from Ya_) ?_
       refine one_ (i := 5) (N := some 20) #[true, true, true, true, true, true, false, false] rfl rfl (one_of HT_.out Ybb_) (by decide) (fun K hK => ?_)
       refine Kd.Gp (Kd.slice 3 (Kd.int .i64)) (w0 := w) w.heap.size (by rfl) (.tmp 16) (.tmp 19) 22 73 (.slice none 0 0) 24 rfl Try.underlying22 info73 rfl (by decide) (by omega) u366000 x366000_1 t367 [.slice Ao21 t367.length co21] (fun _ => True) (fun k_ => some k_ = (.slice Ao21 t367.length co21 : Value).ownBlock) rfl rfl ?aP (fun k_ hk_ => ((Kd.Dl (ok' := fun k_ => ((fun _ => True)) k_ ∧ some k_ ≠ (u366000 : Value).ownBlock) (Kd.Fv (HO369.out) (Kd.Gf HO_366000.out) (by decide)) (fun k_ hk => ⟨trivial, hk.2⟩))).1 k_ hk_.symm) ?aF ?aO ?aB ?aS ?aL ?_
       (case aP => exact Kd.M_row (Kd.Dl (Kd.R_tight rfl (Kd.Dl (ok' := fun k_ => ((fun _ => True)) k_ ∧ some k_ ≠ (u366000 : Value).ownBlock) (Kd.Fv (HO369.out) (Kd.Gf HO_366000.out) (by decide)) (fun k_ hk => ⟨trivial, hk.2⟩))) (fun _ h_ => h_)))
       (case aB => exact Ye_)
       (case aF => exact (fun _ _ => trivial))
       (case aO => exact (by (with_reducible repeat (first | apply Kd.S_alloc | apply Kd.S_drewN | apply Kd.S_drew)); exact Kd.S_mono HO_366000.out (fun k_ hk => ⟨trivial, fun e_ => hk.2 e_⟩)))
       (case aS => exact (below_size Ye_))
       (case aL => have := LMc17.out; omega)
       intro v371 w20 ho hb hg hat
       rw [← Ny370.out] at ho
       replace BK0 := Aside0.mk (C9 (g := gb0) (o := .cells #[.slice (some ad366) l0_0.length c0_0] 31 (0, 0)) Yc_ hg (Kd.S_ne HO_366000.out BK0.out (by decide)))
       replace BK1 := Aside0.mk (C9 (g := gb1) (o := .cells #[.slice none 0 0] 31 (0, 0)) Yg_ hg (Kd.S_ne HO_366000.out BK1.out (by decide)))
       replace BK2 := Aside0.mk (C9 (g := gb2) (o := .cells #[u366000] 31 (0, 0)) Ybd_ hg (Kd.S_ne HO_366000.out BK2.out (by decide)))
       replace HB := Aside0.mk (hb)
       have HO372 := Aside0.mk (ho)
       clear HO_366000
       clear HO369
       clear ho hb hg hat
       obtain ⟨Ao22, co22, eo22⟩ := Kd.S_slice HO372.out
       (first | subst eo22 | (injection eo22 with f1_ f2_ f3_; have f4_ := f1_.symm; have f5_ := f3_.symm; clear f1_ f2_ f3_; subst f4_; subst f5_))
       refine hK.out _ _ ((blk_cell BK2.out 0).trans rfl) (fun hHeld => ?_)
       clear hK K
       refine norm_ (show Act.put _ (some 20) _ = _ from Ya_) ?_
       refine pure_ (i := 6) (N := some 21) #[true, true, true, true, true, true, true, false] rfl rfl (any_of HT_.out Ybb_) (fun _ _ _ h => h) (Or.inl ⟨by rfl, Ybg_⟩) Ya_ ?_
       refine last_ (i := 7) (N := none) #[true, true, true, true, true, true, true, true] rfl rfl (one_of HT_.out Ybb_) (by decide) (fun K hK => ?_)
       have hs23 : w20.cell? ⟨gb2, 0, none⟩ = some (u366000) := (blk_cell BK2.out 0).trans rfl
       have hfs23 := blk_frozen BK2.out 0
       have hns23_0 := NB0_2.out
       have hns23_1 := NB1_2.out
       have hms23_0 := NB2_0.out
       have hms23_1 := NB2_1.out
       refine skip_ (w1 := ?_) (by rfl) rfl ?_ ?_
       rotate_left
       ·go_simp
        rfl
       refine hK.out _ _ ?_
       clear hK K
       refine done_ (done_of HT_.out Ybb_) ?_
       try go_wp2
       go_roundg k1
       case measure => have := HK1.out; omega
       case rel => exact ⟨(wrap64 (x11_1 + 1)), (y370), (.slice Ao22 y370.length co22), Ybe_, H', ⟨by have := HK1.out; omega⟩, ⟨by (with_reducible repeat (first | apply Kd.S_alloc | apply Kd.S_drewN | apply Kd.S_drew)); exact Kd.S_mono (Kd.S_far (p := ⟨gb2, 0, none⟩) (Kd.S_types HO372.out BK2.out (by decide)) (fun _ hk => hk.2) (.slice Ao22 y370.length co22)) (fun _ hk => trivial)⟩, ⟨by (with_reducible repeat (first | apply blk_drewN | apply blk_drew | apply blk_alloc)); refine Ai ?_ NB0_2.out _; (with_reducible repeat (first | apply blk_drewN | apply blk_drew | apply blk_alloc)); exact BK0.out⟩, ⟨by (with_reducible repeat (first | apply blk_drewN | apply blk_drew | apply blk_alloc)); refine Ai ?_ NB1_2.out _; (with_reducible repeat (first | apply blk_drewN | apply blk_drew | apply blk_alloc)); exact BK1.out⟩, ⟨by (with_reducible repeat (first | apply blk_drewN | apply blk_drew | apply blk_alloc)); refine blk_put (cs := #[u366000]) ?_ 0 _ rfl; (with_reducible repeat (first | apply blk_drewN | apply blk_drew | apply blk_alloc)); exact BK2.out⟩, ⟨by repeat (first | (with_reducible first | exact HB.out | apply below_alloc | apply pw_below_drewN | apply below_drew1 | refine below_set ?_ GE0.out | refine below_set ?_ GE1.out | refine below_set ?_ GE2.out) | exact HB.out)⟩⟩
      ·rw [if_neg c17] at H
       exact absurd H (by simp)
     ·rw [if_neg c15] at H
      exact absurd H (by simp)
    ·rw [if_neg c14] at H
     exact absurd H (by simp)
   ·rw [if_neg c13] at H
    have c13b0 : decide (x11_1 < (l0_0.length : Int)) = false := decide_eq_false c13
    clear c13
    obtain rfl := Option.some.inj H
    have hnb24 := NB2_0.out
    have hnc24 := NB0_2.out
    have hnb25 := NB2_1.out
    have hnc25 := NB1_2.out
    have hcz26_0 : wr.cell? ⟨gb2, 0, none⟩ = some (u366000) := (blk_cell BK2.out 0).trans rfl
    have hfz26_0 := blk_frozen BK2.out 0
    obtain ⟨Ao27, co27, eo27⟩ := Kd.S_slice HO_366000.out
    subst eo27
    have hnb28 := NB1_0.out
    have hnc28 := NB0_1.out
    have hcz29_0 : wr.cell? ⟨gb1, 0, none⟩ = some (.slice none 0 0) := (blk_cell BK1.out 0).trans rfl
    have hfz29_0 := blk_frozen BK1.out 0
    go_wp2
    refine bodyPost_ret (results_cell_row rfl _ _ gb1 31 #[.slice Ao27 x366000_1.length co27] (0, 0) _ rfl Yfh_ Try.underlying31 rfl Ybb_) rfl ?_
    exact ⟨_, Yi_, (by (with_reducible repeat (first | apply Kd.S_alloc | apply Kd.S_drewN | apply Kd.S_drew)); exact Kd.S_mono (Kd.S_far (p := ⟨gb1, 0, none⟩) (Kd.S_types HO_366000.out BK1.out (by decide)) (fun _ hk => hk.2) (.slice Ao27 x366000_1.length co27)) (fun _ hk => trivial)), Ye_⟩
def Bg.l0 : Nat → List (List Int) → Int → Int → Int → List (List Int) → Option (Int × (List (List Int)))
 | 0, _, _, _, _, _ => none
 | k + 1, x11, x12, x13, x379000, x379001 => if x13 < x12 then (if 0 ≤ x13 then (if x13 < (x11.length : Int) then ((Dv.f (rd_L1 x11 x13)).bind fun t380 => (if x379001.length < 5864062014805 then (Bg.l0 k x11 x12 (wrap64 (x13 + 1)) x379000 (x379001 ++ [t380])) else (none))) else (none)) else (none)) else (some (x379000, x379001))
def Bg.f (k : Nat) (a0_0 : Int) (l0_1 : List (List Int)) : Option (Int × (List (List Int))) := Bg.l0 k l0_1 (l0_1.length : Int) 0 a0_0 (([] : List (List Int)))
theorem Bg.mono_l : ∀ k, (∀ y0 y1 y2 y3 y4, LeO (Bg.l0 k y0 y1 y2 y3 y4) (Bg.l0 (k + 1) y0 y1 y2 y3 y4))
 | 0 => fun _ _ _ _ _ r h => by simp [Bg.l0] at h
 | k + 1 => by
  have ih0 := Bg.mono_l k
  ·intro y0 y1 y2 y3 y4
   unfold Bg.l0
   repeat' first
   | (with_reducible exact ih0 _ _ _ _ _)
   | (with_reducible exact LeO.refl _)
   | (with_reducible exact LeO.none _)
   | (with_reducible refine LeO.ite ?_ ?_)
   | (with_reducible refine LeO.bind ?_ (fun _ => ?_))
   | exact ih0 _ _ _ _ _
   | exact LeO.none _
   | refine LeO.ite ?_ ?_
   | refine LeO.bind ?_ (fun _ => ?_)
theorem Bg.mono : ∀ a0 a1 k, LeO (Bg.f k a0 a1) (Bg.f (k + 1) a0 a1) := by
 intro a0 a1 k
 have ih0 := Bg.mono_l k
 unfold Bg.f
 repeat' first
   | (with_reducible exact ih0 _ _ _ _ _)
   | (with_reducible exact LeO.refl _)
   | (with_reducible exact LeO.none _)
   | (with_reducible refine LeO.ite ?_ ?_)
   | (with_reducible refine LeO.bind ?_ (fun _ => ?_))
   | exact ih0 _ _ _ _ _
   | exact LeO.none _
   | refine LeO.ite ?_ ?_
   | refine LeO.bind ?_ (fun _ => ?_)
def Bg.T5 : Bool × List (List Nat × List Nat) := (true, [([], []), ([0], [0]), ([], []), ([2], [2]), ([3], [3]), ([1, 4, 3], [1, 4]), ([0, 1, 2, 3, 4, 5], []), ([6, 5, 5, 0, 1, 2, 3, 4, 5], [5, 6])])
def Bg.B5 : List Nat := [0, 1, 0, 4, 12, 31, 63, 127]
theorem Bg.tab5 : rtab .any (opsOf Try.f81 5) = Bg.T5 := by kernel_rfl
theorem Bg.bits5 : waitsOk Bg.T5.2 Bg.B5 = true := by kernel_rfl
set_option maxHeartbeats 8000000 in
set_option maxRecDepth 100000 in
theorem Bg.calls (k : Nat) (a0_0 : Int) (A0_1 : Option Addr) (c0_1 : Nat) (l0_1 : List (List Int)) (r1 : Int) (r2 : List (List Int)) (w : World) (hr0_1 : Kd.C (Kd.slice 3 (Kd.int .i64)) w A0_1 l0_1.length l0_1) (hc0_1 : l0_1.length ≤ c0_1) (h : Bg.f k a0_0 l0_1 = some (r1, r2)) :
  Calls Try.prog 81 #[.agg #[.int .i64 a0_0, .slice A0_1 l0_1.length c0_1]] w fun e w' => ∃ v1_ : Value, e = .returned (.agg #[.int .i64 r1, v1_]) ∧ Kd.S (Kd.slice 3 (Kd.int .i64)) 73 w' w.heap.size (fun _ => True) v1_ r2 ∧ Below w.heap.size w w' := by
 have hu32 := Try.underlying32
 have HR0_1 := Aside0.mk hr0_1
 have HC0_1 := Aside0.mk hc0_1
 clear hr0_1 hc0_1
 have HB := Aside0.mk (Below.refl w.heap.size w)
 have H : (Bg.l0 k l0_1 (l0_1.length : Int) 0 a0_0 (([] : List (List Int)))) = some (r1, r2) := h
 clear h
 obtain ⟨y375, hy375⟩ : ∃ y_ : List (List Int), y_ = (([] : List (List Int))) := ⟨_, rfl⟩
 replace H : (Bg.l0 k l0_1 (l0_1.length : Int) 0 a0_0 y375) = some (r1, r2) := by first | (rw [hy375]; with_reducible exact H) | (have H2_ := (Option.bind_some _ _).symm.trans H; rw [hy375]; with_reducible exact H2_) | (have H2_ := (Option.bind_some _ _).symm.trans H; with_reducible exact H2_) | with_reducible exact H | (rw [hy375]; exact H) | exact H
 have Ny375 := Aside0.mk hy375
 clear hy375
 have H' := Aside0.mk H
 clear H
 go_enter Try.func81, Try.ntmps81
 go_wp2_with (first | ((with_reducible refine gate_dst (N := 1) rfl ?_); refine box_event (by rfl) (N := 1) (by rfl) (cs := #[.int .i64 a0_0, .slice A0_1 l0_1.length c0_1]) (t := 32) Ybf_ ?_; intro gb0 hg w2 hbox hb; have BK0 := Aside0.mk (hbox); have GW0 := Aside0.mk ((by rw [hg]; exact (below_size Yb_) : w.heap.size ≤ gb0)); have GE0 := Aside0.mk ((by rw [hg]; exact (below_size Yb_) : w.heap.size ≤ gb0)); replace HB := Aside0.mk (below_step Yb_ hb); clear hb hbox hg) | ((with_reducible refine gate_dst (N := 2) rfl ?_); refine box_event (by rfl) (N := 2) (by rfl) (cs := #[.int .i64 0, .slice none 0 0]) (t := 32) Ybf_ ?_; intro gb1 hg w3 hbox hb; have BK1 := Aside0.mk (hbox); have GW1 := Aside0.mk ((by rw [hg]; exact (below_size Yd_) : w.heap.size ≤ gb1)); have GE1 := Aside0.mk ((by rw [hg]; exact (below_size Yd_) : w.heap.size ≤ gb1)); replace HB := Aside0.mk (below_step Yd_ hb); have NB0_1 := Aside0.mk ((by rw [hg]; exact Nat.ne_of_lt (blk_lt (g := gb0) (o := .cells #[.int .i64 a0_0, .slice A0_1 l0_1.length c0_1] 32 (0, 0)) Yc_) : gb0 ≠ gb1)); have NB1_0 := Aside0.mk ((by rw [hg]; exact Nat.ne_of_gt (blk_lt (g := gb0) (o := .cells #[.int .i64 a0_0, .slice A0_1 l0_1.length c0_1] 32 (0, 0)) Yc_) : gb1 ≠ gb0)); replace BK0 := Aside0.mk (blk_below (g := gb0) (o := .cells #[.int .i64 a0_0, .slice A0_1 l0_1.length c0_1] 32 (0, 0)) Yc_ hb); clear hb hbox hg; have hnb4 := NB0_1.out; have hnc4 := NB1_0.out; obtain ⟨hcz5_0, hcz5_1⟩ := cl2_ BK0.out; obtain ⟨hfz5_0, hfz5_1⟩ := fz2_ BK0.out) | ((with_reducible refine gate_dst (N := 8) rfl ?_); refine Kd.S_lit (Kd.slice 3 (Kd.int .i64)) _ 73 ?hg (N := 8) ?hd (xs := ([] : List (List Int))) (inner := []) (ok := fun _ => True) (okp := fun _ => True) ?hr ?hp (fun _ hk => hk) trivial (Below.refl _ _) (Nat.le_refl _) (by simp) ?_; (case hd => rfl); (case hg => rfl); (case hr => first | (go_simp; done) | (go_simp; rfl)); (case hp => exact (Reps.none _ _)); intro v376 w6 ho7 hb hg_ hnew_; clear hg_ hnew_; (first | rw [← Ny375.out] at ho7 | (simp only [Int.reduceToNat] at ho7; rw [← Ny375.out] at ho7)); have HO377 := Aside0.mk (Kd.S_lower ho7 (below_size Yf_)); replace BK0 := Aside0.mk (blk_below (g := gb0) (o := .cells #[.int .i64 a0_0, .slice A0_1 l0_1.length c0_1] 32 (0, 0)) Yc_ hb); replace BK1 := Aside0.mk (blk_below (g := gb1) (o := .cells #[.int .i64 0, .slice none 0 0] 32 (0, 0)) Yg_ hb); replace HB := Aside0.mk (below_step Yf_ hb); clear hb ho7; obtain ⟨Ao8, co8, eo8⟩ := Kd.S_slice HO377.out; subst eo8) | ((with_reducible refine gate_dst (N := 3) rfl ?_); refine box_event (by rfl) (N := 3) (by rfl) (cs := #[.int .i64 0, .slice none 0 0]) (t := 32) Ybf_ ?_; intro gb2 hg w9 hbox hb; replace HO377 := Aside0.mk (Kd.Ac (by (with_reducible repeat (first | apply Kd.S_alloc | apply Kd.S_drewN | apply Kd.S_drew)); exact HO377.out) hb); have BK2 := Aside0.mk (hbox); have GW2 := Aside0.mk ((by rw [hg]; exact (below_size Yf_) : w.heap.size ≤ gb2)); have GE2 := Aside0.mk ((by rw [hg]; exact (below_size Yf_) : w.heap.size ≤ gb2)); replace HB := Aside0.mk (below_step Yf_ hb); have NB0_2 := Aside0.mk ((by rw [hg]; exact Nat.ne_of_lt (blk_lt (g := gb0) (o := .cells #[.int .i64 a0_0, .slice A0_1 l0_1.length c0_1] 32 (0, 0)) Yc_) : gb0 ≠ gb2)); have NB2_0 := Aside0.mk ((by rw [hg]; exact Nat.ne_of_gt (blk_lt (g := gb0) (o := .cells #[.int .i64 a0_0, .slice A0_1 l0_1.length c0_1] 32 (0, 0)) Yc_) : gb2 ≠ gb0)); replace BK0 := Aside0.mk (blk_below (g := gb0) (o := .cells #[.int .i64 a0_0, .slice A0_1 l0_1.length c0_1] 32 (0, 0)) Yc_ hb); have NB1_2 := Aside0.mk ((by rw [hg]; exact Nat.ne_of_lt (blk_lt (g := gb1) (o := .cells #[.int .i64 0, .slice none 0 0] 32 (0, 0)) Yg_) : gb1 ≠ gb2)); have NB2_1 := Aside0.mk ((by rw [hg]; exact Nat.ne_of_gt (blk_lt (g := gb1) (o := .cells #[.int .i64 0, .slice none 0 0] 32 (0, 0)) Yg_) : gb2 ≠ gb1)); replace BK1 := Aside0.mk (blk_below (g := gb1) (o := .cells #[.int .i64 0, .slice none 0 0] 32 (0, 0)) Yg_ hb); clear hb hbox hg; have hnb10 := NB2_0.out; have hnc10 := NB0_2.out; have hnb11 := NB2_1.out; have hnc11 := NB1_2.out; obtain ⟨hcz12_0, hcz12_1⟩ := cl2_ BK2.out; obtain ⟨hfz12_0, hfz12_1⟩ := fz2_ BK2.out; obtain ⟨hcz13_0, hcz13_1⟩ := cl2_ BK0.out; obtain ⟨hfz13_0, hfz13_1⟩ := fz2_ BK0.out))
 go_loopg [13] k (fun kq v13 w' => ∃ (x13_1 : Int) (x379001_1 : List (List Int)) (u379001 : Value), v13 = .int .i64 x13_1 ∧ Aside0 (Bg.l0 kq l0_1 (l0_1.length : Int) x13_1 a0_0 x379001_1 = some (r1, r2)) ∧ Aside0 (kq ≤ k) ∧ Aside0 (Kd.S (Kd.slice 3 (Kd.int .i64)) 73 w' w.heap.size (fun _ => True) u379001 x379001_1) ∧ Aside0 (w'.heap[gb0]? = some (.cells #[.int .i64 a0_0, (.slice A0_1 l0_1.length c0_1)] 32 (0, 0))) ∧ Aside0 (w'.heap[gb1]? = some (.cells #[.int .i64 0, (.slice none 0 0)] 32 (0, 0))) ∧ Aside0 (w'.heap[gb2]? = some (.cells #[.int .i64 a0_0, u379001] 32 (0, 0))) ∧ Aside0 (Below w.heap.size w w'))
 case atStart => exact ⟨(0), (y375), (.slice Ao8 y375.length co8), Ybe_, H', ⟨Nat.le_refl _⟩, ⟨by (with_reducible repeat (first | apply Kd.S_alloc | apply Kd.S_drewN | apply Kd.S_drew)); exact Kd.S_mono (Kd.S_far (p := ⟨gb2, 1, none⟩) (Kd.S_far (p := ⟨gb2, 0, none⟩) (Kd.S_types HO377.out BK2.out (by decide)) (fun _ hk => hk.2) (.int .i64 a0_0)) (fun _ hk => hk.2) (.slice Ao8 y375.length co8)) (fun _ hk => trivial)⟩, ⟨by (with_reducible repeat (first | apply blk_drewN | apply blk_drew | apply blk_alloc)); refine Ai ?_ NB0_2.out _; (with_reducible repeat (first | apply blk_drewN | apply blk_drew | apply blk_alloc)); refine Ai ?_ NB0_2.out _; (with_reducible repeat (first | apply blk_drewN | apply blk_drew | apply blk_alloc)); exact BK0.out⟩, ⟨by (with_reducible repeat (first | apply blk_drewN | apply blk_drew | apply blk_alloc)); refine Ai ?_ NB1_2.out _; (with_reducible repeat (first | apply blk_drewN | apply blk_drew | apply blk_alloc)); refine Ai ?_ NB1_2.out _; (with_reducible repeat (first | apply blk_drewN | apply blk_drew | apply blk_alloc)); exact BK1.out⟩, ⟨by (with_reducible repeat (first | apply blk_drewN | apply blk_drew | apply blk_alloc)); refine blk_put (cs := #[.int .i64 a0_0, .slice none 0 0]) ?_ 1 _ rfl; (with_reducible repeat (first | apply blk_drewN | apply blk_drew | apply blk_alloc)); refine blk_put (cs := #[.int .i64 0, .slice none 0 0]) ?_ 0 _ rfl; (with_reducible repeat (first | apply blk_drewN | apply blk_drew | apply blk_alloc)); exact BK2.out⟩, ⟨by repeat (first | (with_reducible first | exact HB.out | apply below_alloc | apply pw_below_drewN | apply below_drew1 | refine below_set ?_ GE0.out | refine below_set ?_ GE1.out | refine below_set ?_ GE2.out) | exact HB.out)⟩⟩
 case round =>
  clear H'
  try clear c1; try clear p2; try clear c4; try clear c8; try clear c10; try clear c11; try clear hcz12_0; try clear hcz12_1; try clear hcz13_0; try clear hcz13_1; try clear hcz5_0; try clear hcz5_1; try clear hfz12_0; try clear hfz12_1; try clear hfz13_0; try clear hfz13_1; try clear hfz5_0; try clear hfz5_1
  obtain ⟨x13_1, x379001_1, u379001, rfl, HA, HK1, HO_379001, BK0, BK1, BK2, HB⟩ := hrel
  cases gk with
  | zero => exact absurd HA.out (by simp [Bg.l0])
  | succ k1 =>
   have H := HA.out
   clear HA
   simp only [Bg.l0] at H
   by_cases c14 : x13_1 < (l0_1.length : Int)
   ·rw [if_pos c14] at H
    have c14b0 : decide (x13_1 < (l0_1.length : Int)) = true := decide_eq_true c14
    clear c14
    by_cases c15 : 0 ≤ x13_1
    ·rw [if_pos c15] at H
     have c15b0 : decide (0 ≤ x13_1) = true := decide_eq_true c15
     clear c15
     by_cases c16 : x13_1 < (l0_1.length : Int)
     ·rw [if_pos c16] at H
      have c16b0 : decide (x13_1 < (l0_1.length : Int)) = true := decide_eq_true c16
      clear c16
      replace H := Option.bind_eq_some_iff.mp H
      obtain ⟨t380, A170, H⟩ := H
      try dsimp only at H
      have A17 := Aside0.mk A170
      clear A170
      by_cases c18 : x379001_1.length < 5864062014805
      ·rw [if_pos c18] at H
       have LMc18 := Aside0.mk c18
       clear c18
       obtain ⟨y383, hy383⟩ : ∃ y_ : List (List Int), y_ = (x379001_1 ++ [t380]) := ⟨_, rfl⟩
       replace H : (Bg.l0 k1 l0_1 (l0_1.length : Int) (wrap64 (x13_1 + 1)) a0_0 y383) = some (r1, r2) := by first | (rw [hy383]; with_reducible exact H) | (have H2_ := (Option.bind_some _ _).symm.trans H; rw [hy383]; with_reducible exact H2_) | (have H2_ := (Option.bind_some _ _).symm.trans H; with_reducible exact H2_) | with_reducible exact H | (rw [hy383]; exact H) | exact H
       have Ny383 := Aside0.mk hy383
       clear hy383
       have H' := Aside0.mk H
       clear H
       have p379 : 0 ≤ (x13_1 : Int) := of_decide_eq_true Yh_
       have q379 : x13_1 < (l0_1.length : Int) := of_decide_eq_true Yh_
       obtain ⟨ad379, A379_0, c379_0, e379, hx379_0, hl379_0, hi379_0⟩ := Cj HR0_1.out x13_1 p379 q379
       cases e379
       replace hx379_0 := (HB.out.cell (World.block_lt_of_cell? w _ hx379_0)).trans hx379_0
       have HR379_0 := Aside0.mk hi379_0
       have HC379_0 := Aside0.mk hl379_0
       clear hi379_0 hl379_0
       replace p379 := eq_true p379
       replace q379 := eq_true q379
       try go_wp2
       replace HO_379001 := Aside0.mk (Kd.S_drew HO_379001.out)
       replace BK0 := Aside0.mk (blk_drew BK0.out)
       replace BK1 := Aside0.mk (blk_drew BK1.out)
       replace BK2 := Aside0.mk (blk_drew BK2.out)
       replace HB := Aside0.mk (below_drew1 HB.out)
       refine start_ (n := 8) (S := fun w' => w'.cell? ⟨gb2, 0, none⟩ = some (.int .i64 a0_0) ∧ w'.cell? ⟨gb2, 1, none⟩ = some (u379001)) (ds := [7]) #[false, false, false, false, false, false, false, false] Ybb_ rfl rfl ⟨(blk_cell BK2.out 0).trans rfl, (blk_cell BK2.out 1).trans rfl⟩ (fun hHeld => ?_); refine with_tabW Bg.tab5 Bg.bits5 (fun HT_ HW_ => ?_)
       generalize wr.drew = w19 at HO_379001 BK0 BK1 BK2 HB hHeld ⊢
       refine pure_ (i := 0) (N := some 17) #[true, false, false, false, false, false, false, false] rfl rfl (any_of HT_.out Ybb_) (fun _ _ _ h => h) (Or.inl ⟨by rfl, Ybg_⟩) Ya_ ?_
       refine pure_ (i := 2) (N := some 19) #[true, false, true, false, false, false, false, false] rfl rfl (any_of HT_.out Ybb_) (fun _ _ _ h => h) (Or.inl ⟨by rfl, Ybg_⟩) Ya_ ?_
       refine take_ (i := 1) (N := some 18) #[true, true, true, false, false, false, false, false] rfl rfl (take_ofW HT_.out HW_.out Ybb_) (fun _ _ _ h => h) (Or.inl ⟨by rfl, (by rintro w' ⟨s0, s1⟩; go_simp; with_reducible rfl)⟩) hHeld Ya_ ?_
       refine one_ (i := 3) (N := some 20) #[true, true, true, true, false, false, false, false] rfl rfl (one_of HT_.out Ybb_) (by decide) (fun K hK => ?_)
       refine goes_ Try.func96 Ybb_ rfl #[.slice A379_0 (rd_L1 l0_1 x13_1).length c379_0] (by rfl) rfl rfl Yj_ ?_
       with_reducible refine (Dv.calls _ _ (rd_L1 l0_1 x13_1) t380 _ ?side1 ?side2 A17.out).mono ?_
       (case side1 => repeat (first | exact (Kd.C_below HR379_0.out HB.out) | (with_reducible refine Kd.C_alloc ?_ _) | (with_reducible refine Kd.C_drewN ?_ _) | (with_reducible refine Kd.C_drew ?_)))
       (case side2 => exact HC379_0.out)
       rintro e w20 ⟨v381, rfl, ho0, hb⟩
       refine ⟨_, rfl, ?_⟩
       replace HO_379001 := Aside0.mk (Kd.S_elder' (by (with_reducible repeat (first | apply Kd.S_alloc | apply Kd.S_drewN | apply Kd.S_drew)); exact HO_379001.out) (Kd.R_base ho0) hb)
       have HO382 := Aside0.mk (Kd.R_lower ho0 (below_size Ye_))
       replace BK0 := Aside0.mk (blk_below (g := gb0) (o := .cells #[.int .i64 a0_0, .slice (some ad379) l0_1.length c0_1] 32 (0, 0)) Yc_ hb)
       replace BK1 := Aside0.mk (blk_below (g := gb1) (o := .cells #[.int .i64 0, .slice none 0 0] 32 (0, 0)) Yg_ hb)
       replace BK2 := Aside0.mk (blk_below (g := gb2) (o := .cells #[.int .i64 a0_0, u379001] 32 (0, 0)) Ybd_ hb)
       replace HB := Aside0.mk (below_step Ye_ hb)
       (try clear hb)
       (try clear hb2)
       (try clear hk)
       (try clear hi)
       (try clear ho0)
       obtain ⟨Ao22, co22, eo22⟩ := Kd.Dc HO382.out
       (first | subst eo22 | (injection eo22 with f1_ f2_ f3_; have f4_ := f1_.symm; have f5_ := f3_.symm; clear f1_ f2_ f3_; subst f4_; subst f5_))
       refine hK.out _ _ ⟨(blk_cell BK2.out 0).trans rfl, (blk_cell BK2.out 1).trans rfl⟩ (fun hHeld => ?_)
       clear hK K
       refine norm_ (show Act.put _ (some 20) _ = _ from Ya_) ?_
       refine one_ (i := 4) (N := some 21) #[true, true, true, true, true, false, false, false] rfl rfl (one_of HT_.out Ybb_) (by decide) (fun K hK => ?_)
       refine value_ (w1 := ?_) (v := ?_) (by rfl) rfl ?_ ?_
       rotate_left 2
       ·go_simp
        constructor
        ·rfl
        ·rfl
       refine hK.out _ _ ⟨(blk_cell (blk_alloc BK2.out _) 0).trans rfl, (blk_cell (blk_alloc BK2.out _) 1).trans rfl⟩ (fun hHeld => ?_)
       clear hK K
       refine norm_ (show Act.put _ (some 21) _ = _ from Ya_) ?_
       refine one_ (i := 5) (N := some 22) #[true, true, true, true, true, true, false, false] rfl rfl (one_of HT_.out Ybb_) (by decide) (fun K hK => ?_)
       refine Kd.Gp (Kd.slice 3 (Kd.int .i64)) (w0 := w) w.heap.size (by rfl) (.tmp 18) (.tmp 21) 22 73 (.slice none 0 0) 24 rfl Try.underlying22 info73 rfl (by decide) (by omega) u379001 x379001_1 t380 [.slice Ao22 t380.length co22] (fun _ => True) (fun k_ => some k_ = (.slice Ao22 t380.length co22 : Value).ownBlock) rfl rfl ?aP (fun k_ hk_ => ((Kd.Dl (ok' := fun k_ => ((fun _ => True)) k_ ∧ some k_ ≠ (u379001 : Value).ownBlock) (Kd.Fv (HO382.out) (Kd.Gf HO_379001.out) (by decide)) (fun k_ hk => ⟨trivial, hk.2⟩))).1 k_ hk_.symm) ?aF ?aO ?aB ?aS ?aL ?_
       (case aP => exact Kd.M_row (Kd.Dl (Kd.R_tight rfl (Kd.Dl (ok' := fun k_ => ((fun _ => True)) k_ ∧ some k_ ≠ (u379001 : Value).ownBlock) (Kd.Fv (HO382.out) (Kd.Gf HO_379001.out) (by decide)) (fun k_ hk => ⟨trivial, hk.2⟩))) (fun _ h_ => h_)))
       (case aB => exact Ye_)
       (case aF => exact (fun _ _ => trivial))
       (case aO => exact (by (with_reducible repeat (first | apply Kd.S_alloc | apply Kd.S_drewN | apply Kd.S_drew)); exact Kd.S_mono HO_379001.out (fun k_ hk => ⟨trivial, fun e_ => hk.2 e_⟩)))
       (case aS => exact (below_size Ye_))
       (case aL => have := LMc18.out; omega)
       intro v384 w21 ho hb hg hat
       rw [← Ny383.out] at ho
       replace BK0 := Aside0.mk (C9 (g := gb0) (o := .cells #[.int .i64 a0_0, .slice (some ad379) l0_1.length c0_1] 32 (0, 0)) Yc_ hg (Kd.S_ne HO_379001.out BK0.out (by decide)))
       replace BK1 := Aside0.mk (C9 (g := gb1) (o := .cells #[.int .i64 0, .slice none 0 0] 32 (0, 0)) Yg_ hg (Kd.S_ne HO_379001.out BK1.out (by decide)))
       replace BK2 := Aside0.mk (C9 (g := gb2) (o := .cells #[.int .i64 a0_0, u379001] 32 (0, 0)) Ybd_ hg (Kd.S_ne HO_379001.out BK2.out (by decide)))
       replace HB := Aside0.mk (hb)
       have HO385 := Aside0.mk (ho)
       clear HO_379001
       clear HO382
       clear ho hb hg hat
       obtain ⟨Ao23, co23, eo23⟩ := Kd.S_slice HO385.out
       (first | subst eo23 | (injection eo23 with f1_ f2_ f3_; have f4_ := f1_.symm; have f5_ := f3_.symm; clear f1_ f2_ f3_; subst f4_; subst f5_))
       refine hK.out _ _ ⟨(blk_cell BK2.out 0).trans rfl, (blk_cell BK2.out 1).trans rfl⟩ (fun hHeld => ?_)
       clear hK K
       refine norm_ (show Act.put _ (some 22) _ = _ from Ya_) ?_
       refine pure_ (i := 6) (N := some 23) #[true, true, true, true, true, true, true, false] rfl rfl (any_of HT_.out Ybb_) (fun _ _ _ h => h) (Or.inl ⟨by rfl, Ybg_⟩) Ya_ ?_
       refine last_ (i := 7) (N := none) #[true, true, true, true, true, true, true, true] rfl rfl (one_of HT_.out Ybb_) (by decide) (fun K hK => ?_)
       have hs24 : w21.cell? ⟨gb2, 1, none⟩ = some (u379001) := (blk_cell BK2.out 1).trans rfl
       have hfs24 := blk_frozen BK2.out 1
       have hns24_0 := NB0_2.out
       have hns24_1 := NB1_2.out
       have hms24_0 := NB2_0.out
       have hms24_1 := NB2_1.out
       refine skip_ (w1 := ?_) (by rfl) rfl ?_ ?_
       rotate_left
       ·go_simp
        rfl
       refine hK.out _ _ ?_
       clear hK K
       refine done_ (done_of HT_.out Ybb_) ?_
       try go_wp2
       go_roundg k1
       case measure => have := HK1.out; omega
       case rel => exact ⟨(wrap64 (x13_1 + 1)), (y383), (.slice Ao23 y383.length co23), Ybe_, H', ⟨by have := HK1.out; omega⟩, ⟨by (with_reducible repeat (first | apply Kd.S_alloc | apply Kd.S_drewN | apply Kd.S_drew)); exact Kd.S_mono (Kd.S_far (p := ⟨gb2, 1, none⟩) (Kd.S_types HO385.out BK2.out (by decide)) (fun _ hk => hk.2) (.slice Ao23 y383.length co23)) (fun _ hk => trivial)⟩, ⟨by (with_reducible repeat (first | apply blk_drewN | apply blk_drew | apply blk_alloc)); refine Ai ?_ NB0_2.out _; (with_reducible repeat (first | apply blk_drewN | apply blk_drew | apply blk_alloc)); exact BK0.out⟩, ⟨by (with_reducible repeat (first | apply blk_drewN | apply blk_drew | apply blk_alloc)); refine Ai ?_ NB1_2.out _; (with_reducible repeat (first | apply blk_drewN | apply blk_drew | apply blk_alloc)); exact BK1.out⟩, ⟨by (with_reducible repeat (first | apply blk_drewN | apply blk_drew | apply blk_alloc)); refine blk_put (cs := #[.int .i64 a0_0, u379001]) ?_ 1 _ rfl; (with_reducible repeat (first | apply blk_drewN | apply blk_drew | apply blk_alloc)); exact BK2.out⟩, ⟨by repeat (first | (with_reducible first | exact HB.out | apply below_alloc | apply pw_below_drewN | apply below_drew1 | refine below_set ?_ GE0.out | refine below_set ?_ GE1.out | refine below_set ?_ GE2.out) | exact HB.out)⟩⟩
      ·rw [if_neg c18] at H
       exact absurd H (by simp)
     ·rw [if_neg c16] at H
      exact absurd H (by simp)
    ·rw [if_neg c15] at H
     exact absurd H (by simp)
   ·rw [if_neg c14] at H
    have c14b0 : decide (x13_1 < (l0_1.length : Int)) = false := decide_eq_false c14
    clear c14
    simp only [Option.some.injEq, Prod.mk.injEq] at H
    obtain ⟨rfl, rfl⟩ := H
    have hnb25 := NB2_0.out
    have hnc25 := NB0_2.out
    have hnb26 := NB2_1.out
    have hnc26 := NB1_2.out
    obtain ⟨hcz27_0, hcz27_1⟩ := cl2_ BK2.out
    obtain ⟨hfz27_0, hfz27_1⟩ := fz2_ BK2.out
    have hnb28 := NB1_0.out
    have hnc28 := NB0_1.out
    obtain ⟨hcz29_0, hcz29_1⟩ := cl2_ BK1.out
    obtain ⟨hfz29_0, hfz29_1⟩ := fz2_ BK1.out
    obtain ⟨Ao30, co30, eo30⟩ := Kd.S_slice HO_379001.out
    subst eo30
    go_wp2
    refine bodyPost_ret (results_cell_row rfl _ _ gb1 32 #[.int .i64 a0_0, .slice Ao30 x379001_1.length co30] (0, 0) _ rfl Yeh_ Try.underlying32 rfl Ybb_) rfl ?_
    exact ⟨_, Yi_, (by (with_reducible repeat (first | apply Kd.S_alloc | apply Kd.S_drewN | apply Kd.S_drew)); exact Kd.S_mono (Kd.S_far (p := ⟨gb1, 1, none⟩) (Kd.S_far (p := ⟨gb1, 0, none⟩) (Kd.S_types HO_379001.out BK1.out (by decide)) (fun _ hk => hk.2) (.int .i64 a0_0)) (fun _ hk => hk.2) (.slice Ao30 x379001_1.length co30)) (fun _ hk => trivial)), Ye_⟩
def impl_ownTerminal.f (k : Nat) (l0_0 : List (List Int)) (a0_1 : Int) (l0_2 : List (List Int)) : Option ((List (List Int)) × Int × (List (List Int))) := (Ba.f k l0_0).bind fun t388 => ((Bg.f k a0_1 l0_2).bind fun bt391 => (some (t388, bt391.1, bt391.2)))
theorem impl_ownTerminal.mono : ∀ a0 a1 a2 k, LeO (impl_ownTerminal.f k a0 a1 a2) (impl_ownTerminal.f (k + 1) a0 a1 a2) := by
 intro a0 a1 a2 k
 unfold impl_ownTerminal.f
 repeat' first
   | (with_reducible exact Bg.mono _ _ _)
   | (with_reducible exact Ba.mono _ _)
   | (with_reducible exact LeO.refl _)
   | (with_reducible exact LeO.none _)
   | (with_reducible refine LeO.ite ?_ ?_)
   | (with_reducible refine LeO.bind ?_ (fun _ => ?_))
   | exact Bg.mono _ _ _
   | exact Ba.mono _ _
   | exact LeO.none _
   | refine LeO.ite ?_ ?_
   | refine LeO.bind ?_ (fun _ => ?_)
def impl_ownTerminal.T1 : Bool × List (List Nat × List Nat) := (true, [([], []), ([0], [0]), ([1], [1]), ([], []), ([3], [3]), ([4, 2], [4]), ([2, 5], [2, 5]), ([6, 5, 0, 1, 2, 3, 4, 5, 6], [6])])
def impl_ownTerminal.B1 : List Nat := [0, 1, 3, 0, 8, 31, 63, 127]
theorem impl_ownTerminal.tab1 : rtab .any (opsOf Try.f60 1) = impl_ownTerminal.T1 := by kernel_rfl
theorem impl_ownTerminal.bits1 : waitsOk impl_ownTerminal.T1.2 impl_ownTerminal.B1 = true := by kernel_rfl
set_option maxHeartbeats 8000000 in
set_option maxRecDepth 100000 in
theorem impl_ownTerminal.calls2 (k : Nat) (A0_0 : Option Addr) (c0_0 : Nat) (l0_0 : List (List Int)) (a0_1 : Int) (A0_2 : Option Addr) (c0_2 : Nat) (l0_2 : List (List Int)) (r1 : List (List Int)) (r2 : Int) (r3 : List (List Int)) (w : World) (hr0_0 : Kd.C (Kd.slice 3 (Kd.int .i64)) w A0_0 l0_0.length l0_0) (hc0_0 : l0_0.length ≤ c0_0) (hr0_2 : Kd.C (Kd.slice 3 (Kd.int .i64)) w A0_2 l0_2.length l0_2) (hc0_2 : l0_2.length ≤ c0_2) (h : impl_ownTerminal.f k l0_0 a0_1 l0_2 = some (r1, r2, r3)) :
  Calls Try.prog 60 #[.agg #[.slice A0_0 l0_0.length c0_0, .int .i64 a0_1, .slice A0_2 l0_2.length c0_2]] w fun e w' => ∃ (P_ : Nat → Prop) (v0_ v2_ : Value), e = .returned (.agg #[v0_, .int .i64 r2, v2_]) ∧ Kd.S (Kd.slice 3 (Kd.int .i64)) 73 w' w.heap.size (fun k_ => P_ k_) v0_ r1 ∧ Kd.S (Kd.slice 3 (Kd.int .i64)) 73 w' w.heap.size (fun k_ => ¬ P_ k_) v2_ r3 ∧ Below w.heap.size w w' := by
 have hu34 := Try.underlying34
 have hu31 := Try.underlying31
 have hu32 := Try.underlying32
 have HR0_0 := Aside0.mk hr0_0
 have HC0_0 := Aside0.mk hc0_0
 clear hr0_0 hc0_0
 have HR0_2 := Aside0.mk hr0_2
 have HC0_2 := Aside0.mk hc0_2
 clear hr0_2 hc0_2
 have HB := Aside0.mk (Below.refl w.heap.size w)
 have H : ((Ba.f k l0_0).bind fun t388 => ((Bg.f k a0_1 l0_2).bind fun bt391 => (some (t388, bt391.1, bt391.2)))) = some (r1, r2, r3) := h
 clear h
 replace H := Option.bind_eq_some_iff.mp H
 obtain ⟨t388, A20, H⟩ := H
 try dsimp only at H
 have A2 := Aside0.mk A20
 clear A20
 replace H := Option.bind_eq_some_iff.mp H
 obtain ⟨⟨t391, t392⟩, A30, H⟩ := H
 try dsimp only at H
 have A3 := Aside0.mk A30
 clear A30
 simp only [Option.some.injEq, Prod.mk.injEq] at H
 obtain ⟨rfl, rfl, rfl⟩ := H
 go_enter Try.func60, Try.ntmps60
 try go_wp2_with (first | ((with_reducible refine gate_dst (N := 1) rfl ?_); refine box_event (by rfl) (N := 1) (by rfl) (cs := #[.slice A0_0 l0_0.length c0_0, .int .i64 a0_1, .slice A0_2 l0_2.length c0_2]) (t := 34) Ybf_ ?_; intro gb0 hg w4 hbox hb; have BK0 := Aside0.mk (hbox); have GW0 := Aside0.mk ((by rw [hg]; exact (below_size Yb_) : w.heap.size ≤ gb0)); have GE0 := Aside0.mk ((by rw [hg]; exact (below_size Yb_) : w.heap.size ≤ gb0)); replace HB := Aside0.mk (below_step Yb_ hb); clear hb hbox hg) | ((with_reducible refine gate_dst (N := 2) rfl ?_); refine box_event (by rfl) (N := 2) (by rfl) (cs := #[.slice none 0 0, .int .i64 0, .slice none 0 0]) (t := 34) Ybf_ ?_; intro gb1 hg w5 hbox hb; have BK1 := Aside0.mk (hbox); have GW1 := Aside0.mk ((by rw [hg]; exact (below_size Yd_) : w.heap.size ≤ gb1)); have GE1 := Aside0.mk ((by rw [hg]; exact (below_size Yd_) : w.heap.size ≤ gb1)); replace HB := Aside0.mk (below_step Yd_ hb); have NB0_1 := Aside0.mk ((by rw [hg]; exact Nat.ne_of_lt (blk_lt (g := gb0) (o := .cells #[.slice A0_0 l0_0.length c0_0, .int .i64 a0_1, .slice A0_2 l0_2.length c0_2] 34 (0, 0)) Yc_) : gb0 ≠ gb1)); have NB1_0 := Aside0.mk ((by rw [hg]; exact Nat.ne_of_gt (blk_lt (g := gb0) (o := .cells #[.slice A0_0 l0_0.length c0_0, .int .i64 a0_1, .slice A0_2 l0_2.length c0_2] 34 (0, 0)) Yc_) : gb1 ≠ gb0)); replace BK0 := Aside0.mk (blk_below (g := gb0) (o := .cells #[.slice A0_0 l0_0.length c0_0, .int .i64 a0_1, .slice A0_2 l0_2.length c0_2] 34 (0, 0)) Yc_ hb); clear hb hbox hg))
 replace BK0 := Aside0.mk (blk_drew BK0.out)
 replace BK1 := Aside0.mk (blk_drew BK1.out)
 replace HB := Aside0.mk (below_drew1 HB.out)
 refine start_ (n := 8) (S := fun w' => w'.cell? ⟨gb0, 0, none⟩ = some (.slice A0_0 l0_0.length c0_0) ∧ w'.cell? ⟨gb0, 1, none⟩ = some (.int .i64 a0_1) ∧ w'.cell? ⟨gb0, 2, none⟩ = some (.slice A0_2 l0_2.length c0_2)) (ds := []) #[false, false, false, false, false, false, false, false] Ybb_ rfl rfl ⟨(blk_cell BK0.out 0).trans rfl, (blk_cell BK0.out 1).trans rfl, (blk_cell BK0.out 2).trans rfl⟩ (fun hHeld => ?_); refine with_tabW impl_ownTerminal.tab1 impl_ownTerminal.bits1 (fun HT_ HW_ => ?_)
 generalize w5.drew = w6 at BK0 BK1 HB hHeld ⊢
 refine pure_ (i := 0) (N := some 3) #[true, false, false, false, false, false, false, false] rfl rfl (any_of HT_.out Ybb_) (fun _ _ _ h => h) (Or.inl ⟨by rfl, Ybg_⟩) Ya_ ?_
 refine pure_ (i := 3) (N := some 6) #[true, false, false, true, false, false, false, false] rfl rfl (any_of HT_.out Ybb_) (fun _ _ _ h => h) (Or.inl ⟨by rfl, Ybg_⟩) Ya_ ?_
 refine take_ (i := 1) (N := some 4) #[true, true, false, true, false, false, false, false] rfl rfl (take_ofW HT_.out HW_.out Ybb_) (fun _ _ _ h => h) (Or.inl ⟨by rfl, Yfb_⟩) hHeld Ya_ ?_
 refine take_ (i := 4) (N := some 7) #[true, true, false, true, true, false, false, false] rfl rfl (take_ofW HT_.out HW_.out Ybb_) (fun _ _ _ h => h) (Or.inl ⟨by rfl, Yfb_⟩) hHeld Ya_ ?_
 refine one_ (i := 2) (N := some 5) #[true, true, true, true, true, false, false, false] rfl rfl (one_of HT_.out Ybb_) (by decide) (fun K hK => ?_)
 refine goes_ Try.func80 Ybb_ rfl #[.agg #[.slice A0_0 l0_0.length c0_0]] (by rfl) rfl rfl Yj_ ?_
 with_reducible refine (Ba.calls k _ _ l0_0 t388 _ ?side1 ?side2 A2.out).mono ?_
 (case side1 => repeat (first | exact (Kd.C_below HR0_0.out HB.out) | (with_reducible refine Kd.C_alloc ?_ _) | (with_reducible refine Kd.C_drewN ?_ _) | (with_reducible refine Kd.C_drew ?_)))
 (case side2 => exact HC0_0.out)
 rintro e w7 ⟨v389, rfl, ho0, hb⟩
 refine ⟨_, rfl, ?_⟩
 have HO390 := Aside0.mk (Kd.S_lower ho0 (below_size Yf_))
 replace BK0 := Aside0.mk (blk_below (g := gb0) (o := .cells #[.slice A0_0 l0_0.length c0_0, .int .i64 a0_1, .slice A0_2 l0_2.length c0_2] 34 (0, 0)) Yc_ hb)
 replace BK1 := Aside0.mk (blk_below (g := gb1) (o := .cells #[.slice none 0 0, .int .i64 0, .slice none 0 0] 34 (0, 0)) Yg_ hb)
 replace HB := Aside0.mk (below_step Yf_ hb)
 (try clear hb)
 (try clear hb2)
 (try clear hk)
 (try clear hi)
 (try clear ho0)
 refine hK.out _ _ ⟨(blk_cell BK0.out 0).trans rfl, (blk_cell BK0.out 1).trans rfl, (blk_cell BK0.out 2).trans rfl⟩ (fun hHeld => ?_)
 clear hK K
 refine norm_ (show Act.put _ (some 5) _ = _ from Ya_) ?_
 refine one_ (i := 5) (N := some 8) #[true, true, true, true, true, true, false, false] rfl rfl (one_of HT_.out Ybb_) (by decide) (fun K hK => ?_)
 refine goes_ Try.func81 Ybb_ rfl #[.agg #[.int .i64 a0_1, .slice A0_2 l0_2.length c0_2]] (by rfl) rfl rfl Yj_ ?_
 with_reducible refine (Bg.calls k a0_1 _ _ l0_2 t391 t392 _ ?side1 ?side2 A3.out).mono ?_
 (case side1 => repeat (first | exact (Kd.C_below HR0_2.out HB.out) | (with_reducible refine Kd.C_alloc ?_ _) | (with_reducible refine Kd.C_drewN ?_ _) | (with_reducible refine Kd.C_drew ?_)))
 (case side2 => exact HC0_2.out)
 rintro e w8 ⟨v393, rfl, ho0, hb⟩
 refine ⟨_, rfl, ?_⟩
 obtain ⟨P_, hu_, hv_⟩ := Go.Proofs.YtnggfglmjdiaaaaOwn.parted (by (with_reducible repeat (first | apply Kd.S_alloc | apply Kd.S_drewN | apply Kd.S_drew)); exact HO390.out) ho0 hb; have n0_ := Aside0.mk hu_
 have n1_ := Aside0.mk (Kd.S_lower hv_ (below_size Yf_))
 have n2_ := Aside0.mk (blk_below (g := gb0) (o := .cells #[.slice A0_0 l0_0.length c0_0, .int .i64 a0_1, .slice A0_2 l0_2.length c0_2] 34 (0, 0)) Yc_ hb)
 have n3_ := Aside0.mk (blk_below (g := gb1) (o := .cells #[.slice none 0 0, .int .i64 0, .slice none 0 0] 34 (0, 0)) Yg_ hb)
 have n4_ := Aside0.mk (below_step Yf_ hb)
 clear HO390
 clear BK0
 clear BK1
 clear HB
 have HO390 := n0_
 have HO394 := n1_
 have BK0 := n2_
 have BK1 := n3_
 have HB := n4_
 clear n0_ n1_ n2_ n3_ n4_
 (try clear hb)
 (try clear hb2)
 (try clear hk)
 (try clear hi)
 (try clear ho0)
 obtain ⟨Ao9, co9, eo9⟩ := Kd.S_slice HO394.out
 (first | subst eo9 | (injection eo9 with f1_ f2_ f3_; have f4_ := f1_.symm; have f5_ := f3_.symm; clear f1_ f2_ f3_; subst f4_; subst f5_))
 obtain ⟨Ao10, co10, eo10⟩ := Kd.S_slice HO390.out
 (first | subst eo10 | (injection eo10 with f1_ f2_ f3_; have f4_ := f1_.symm; have f5_ := f3_.symm; clear f1_ f2_ f3_; subst f4_; subst f5_))
 refine hK.out _ _ ⟨(blk_cell BK0.out 0).trans rfl, (blk_cell BK0.out 1).trans rfl, (blk_cell BK0.out 2).trans rfl⟩ (fun hHeld => ?_)
 clear hK K
 refine norm_ (show Act.put _ (some 8) _ = _ from Ya_) ?_
 refine pure_ (i := 6) (N := some 9) #[true, true, true, true, true, true, true, false] rfl rfl (any_of HT_.out Ybb_) (fun _ _ _ h => h) (Or.inl ⟨by rfl, Ybg_⟩) Ya_ ?_
 refine one_ (i := 7) (N := none) #[true, true, true, true, true, true, true, true] rfl rfl (one_of HT_.out Ybb_) (by decide) (fun K hK => ?_)
 have hs11 : w8.cell? ⟨gb1, 0, none⟩ = some (.slice none 0 0) := (blk_cell BK1.out 0).trans rfl
 have hfs11 := blk_frozen BK1.out 0
 have hns11_0 := NB0_1.out
 have hms11_0 := NB1_0.out
 have hs12 : w8.cell? ⟨gb1, 1, none⟩ = some (.int .i64 0) := (blk_cell BK1.out 1).trans rfl
 have hfs12 := blk_frozen BK1.out 1
 have hns12_0 := NB0_1.out
 have hms12_0 := NB1_0.out
 have hs13 : w8.cell? ⟨gb1, 2, none⟩ = some (.slice none 0 0) := (blk_cell BK1.out 2).trans rfl
 have hfs13 := blk_frozen BK1.out 2
 have hns13_0 := NB0_1.out
 have hms13_0 := NB1_0.out
 refine skip_ (w1 := ?_) (by rfl) rfl ?_ ?_
 rotate_left
 ·go_simp
  rfl
 refine hK.out _ _ ⟨((cell_far (p := ⟨gb1, _, none⟩) NB0_1.out _).trans (((cell_far (p := ⟨gb1, _, none⟩) NB0_1.out _).trans (((cell_far (p := ⟨gb1, _, none⟩) NB0_1.out _).trans (hHeld.1)))))), ((cell_far (p := ⟨gb1, _, none⟩) NB0_1.out _).trans (((cell_far (p := ⟨gb1, _, none⟩) NB0_1.out _).trans (((cell_far (p := ⟨gb1, _, none⟩) NB0_1.out _).trans (hHeld.2.1)))))), ((cell_far (p := ⟨gb1, _, none⟩) NB0_1.out _).trans (((cell_far (p := ⟨gb1, _, none⟩) NB0_1.out _).trans (((cell_far (p := ⟨gb1, _, none⟩) NB0_1.out _).trans (hHeld.2.2))))))⟩ (fun hHeld => ?_)
 clear hK K
 refine done_ (done_of HT_.out Ybb_) ?_
 try go_wp2
 refine bodyPost_ret (results_cell_row rfl _ _ gb1 34 #[.slice Ao10 t388.length co10, .int .i64 t391, .slice Ao9 t392.length co9] (0, 0) _ rfl (by (with_reducible repeat (first | apply blk_drewN | apply blk_drew | apply blk_alloc)); refine blk_put (cs := #[.slice Ao10 t388.length co10, .int .i64 t391, .slice none 0 0]) ?_ 2 _ rfl; (with_reducible repeat (first | apply blk_drewN | apply blk_drew | apply blk_alloc)); refine blk_put (cs := #[.slice Ao10 t388.length co10, .int .i64 0, .slice none 0 0]) ?_ 1 _ rfl; (with_reducible repeat (first | apply blk_drewN | apply blk_drew | apply blk_alloc)); refine blk_put (cs := #[.slice none 0 0, .int .i64 0, .slice none 0 0]) ?_ 0 _ rfl; (with_reducible repeat (first | apply blk_drewN | apply blk_drew | apply blk_alloc)); exact BK1.out) Try.underlying34 rfl Ybb_) rfl ?_
 exact ⟨P_, _, _, Yi_, (by (with_reducible repeat (first | apply Kd.S_alloc | apply Kd.S_drewN | apply Kd.S_drew)); exact Kd.S_mono (Kd.S_far (p := ⟨gb1, 2, none⟩) (Kd.S_far (p := ⟨gb1, 1, none⟩) (Kd.S_far (p := ⟨gb1, 0, none⟩) (Kd.S_types HO390.out BK1.out (by decide)) (fun _ hk => hk.2) (.slice Ao10 t388.length co10)) (fun _ hk => hk.2) (.int .i64 t391)) (fun _ hk => hk.2) (.slice Ao9 t392.length co9)) (fun _ hk => hk.1.2)), (by (with_reducible repeat (first | apply Kd.S_alloc | apply Kd.S_drewN | apply Kd.S_drew)); exact Kd.S_mono (Kd.S_far (p := ⟨gb1, 2, none⟩) (Kd.S_far (p := ⟨gb1, 1, none⟩) (Kd.S_far (p := ⟨gb1, 0, none⟩) (Kd.S_types HO394.out BK1.out (by decide)) (fun _ hk => hk.2) (.slice Ao10 t388.length co10)) (fun _ hk => hk.2) (.int .i64 t391)) (fun _ hk => hk.2) (.slice Ao9 t392.length co9)) (fun _ hk => hk.1.2)), Yf_⟩
set_option maxRecDepth 100000 in
theorem impl_ownTerminal.calls (k : Nat) (A0_0 : Option Addr) (c0_0 : Nat) (l0_0 : List (List Int)) (a0_1 : Int) (A0_2 : Option Addr) (c0_2 : Nat) (l0_2 : List (List Int)) (r1 : List (List Int)) (r2 : Int) (r3 : List (List Int)) (w : World) (hr0_0 : Kd.C (Kd.slice 3 (Kd.int .i64)) w A0_0 l0_0.length l0_0) (hc0_0 : l0_0.length ≤ c0_0) (hr0_2 : Kd.C (Kd.slice 3 (Kd.int .i64)) w A0_2 l0_2.length l0_2) (hc0_2 : l0_2.length ≤ c0_2) (h : impl_ownTerminal.f k l0_0 a0_1 l0_2 = some (r1, r2, r3)) :
  Calls Try.prog 60 #[.agg #[.slice A0_0 l0_0.length c0_0, .int .i64 a0_1, .slice A0_2 l0_2.length c0_2]] w fun e w' => ∃ v0_ v2_ : Value, e = .returned (.agg #[v0_, .int .i64 r2, v2_]) ∧ Kd.S (Kd.slice 3 (Kd.int .i64)) 73 w' w.heap.size (fun k_ => some k_ ≠ (v2_ : Value).ownBlock) v0_ r1 ∧ Kd.S (Kd.slice 3 (Kd.int .i64)) 73 w' w.heap.size (fun k_ => some k_ ≠ (v0_ : Value).ownBlock) v2_ r3 ∧ Below w.heap.size w w' := by
 refine (impl_ownTerminal.calls2 k A0_0 c0_0 l0_0 a0_1 A0_2 c0_2 l0_2 r1 r2 r3 w hr0_0 hc0_0 hr0_2 hc0_2 h).mono ?_
 rintro e w' ⟨P_, v0_, v2_, he, h1, h2, hb⟩
 exact ⟨v0_, v2_, he, Kd.S_mono h1 (fun k_ hk e_ => ((Kd.S_R h2).1 k_ e_.symm) hk), Kd.S_mono h2 (fun k_ hk e_ => hk ((Kd.S_R h1).1 k_ e_.symm)), hb⟩
/-- Where the first row is of which p holds; -1. -/
def idxRow (p : List Int → Bool) (l : List (List Int)) : Int := match l.findIdx? p with | some i => (i : Int) | none => -1
theorem idxRow_hit (p : List Int → Bool) (l : List (List Int)) (x : Int) (h0 : 0 ≤ x) (h1 : x < (l.length : Int)) (hm : ∀ j : Nat, (j : Int) < x → p (rd_L1 l (j : Int)) = false) (hp : p (rd_L1 l x) = true) : idxRow p l = x := by
 obtain ⟨n, rfl⟩ := Int.eq_ofNat_of_zero_le h0
 have hn : n < l.length := by omega
 have e : l.findIdx? p = some n := by
  rw [List.findIdx?_eq_some_iff_getElem]
  refine ⟨hn, ?_, ?_⟩
  ·simpa [rd_L1, List.getD_eq_getElem?_getD, List.getElem?_eq_getElem hn] using hp
  ·intro j hj
   have := hm j (by omega)
   have hjl : j < l.length := by omega
   simpa [rd_L1, List.getD_eq_getElem?_getD, List.getElem?_eq_getElem hjl] using this
 simp [idxRow, e]
theorem idxRow_miss (p : List Int → Bool) (l : List (List Int)) (x : Int) (h1 : ¬ x < (l.length : Int)) (hm : ∀ j : Nat, (j : Int) < x → p (rd_L1 l (j : Int)) = false) : idxRow p l = -1 := by
 have e : l.findIdx? p = none := by
  rw [List.findIdx?_eq_none_iff]
  intro y hy
  obtain ⟨j, hj, rfl⟩ := List.getElem_of_mem hy
  have := hm j (by omega)
  simpa [rd_L1, List.getD_eq_getElem?_getD, List.getElem?_eq_getElem hj] using this
 simp [idxRow, e]
theorem idxRow_spec (p : List Int → Bool) (l : List (List Int)) (h : ¬ idxRow p l < 0) : ∃ n : Nat, idxRow p l = (n : Int) ∧ n < l.length ∧ p (rd_L1 l (n : Int)) = true := by
 unfold idxRow at h ⊢
 cases e : l.findIdx? p with
 | none => rw [e] at h; exact absurd (by decide) h
 | some n =>
  rw [List.findIdx?_eq_some_iff_getElem] at e
  obtain ⟨hn, hp, _⟩ := e
  exact ⟨n, rfl, hn, (by simpa [rd_L1, List.getD_eq_getElem?_getD, List.getElem?_eq_getElem hn] using hp)⟩
set_option maxHeartbeats 2000000 in
theorem slices_IndexFunc_row.calls {p : List Int → Bool} {g : Nat} {lb : Array Value} (eg : ∀ args w, (callFunc g args).run Try.prog w = .ok (.enter g args) w) (A0 : Option Addr) (c0 : Nat) (l0 : List (List Int)) (w : World) (hr0 : Kd.C (Kd.slice 3 (Kd.int .i64)) w A0 l0.length l0)
  (hp : ∀ (W : World) (A : Option Addr) (c : Nat) (s : List Int), Below w.heap.size w W → Kd.C (Kd.int .i64) W A s.length s → s.length ≤ c → Calls Try.prog g (#[.slice A s.length c] ++ lb) W fun e w' => e = .returned (.bool (p s)) ∧ Below w.heap.size w w') :
  Calls Try.prog 68 #[.slice A0 l0.length c0, .func (.func g) #[] lb] w fun e w' => e = .returned (.int .i64 (idxRow p l0)) ∧ Below w.heap.size w w' := by
 have HR0 := Aside0.mk hr0
 clear hr0
 have hL : l0.length ≤ 9223372036854775807 := HR0.out.2.1
 have HP := Aside0.mk hp
 clear hp
 have HB := Aside0.mk (Below.refl w.heap.size w)
 go_enter Try.func68, Try.ntmps68
 go_wp2
 go_loopg [5, 8] l0.length (fun gg _ s8 w' => ∃ x : Int, s8 = .int .i64 x ∧ Aside0 (0 ≤ x ∧ x ≤ (l0.length : Int) ∧ (l0.length : Int) - x ≤ (gg : Int)) ∧ Aside0 (Below w.heap.size w w') ∧ Aside0 (∀ j : Nat, (j : Int) < x → p (rd_L1 l0 (j : Int)) = false))
 case atStart => exact ⟨0, rfl, ⟨by omega, by omega, by omega⟩, HB, ⟨fun j hj => by omega⟩⟩
 case round =>
  clear HB
  obtain ⟨x, rfl, HX, HB, HM⟩ := hrel
  by_cases c4 : x < (l0.length : Int)
  ·have c4b0 : decide (x < (l0.length : Int)) = true := decide_eq_true c4
   have c5b0 : decide (0 ≤ x) = true := decide_eq_true HX.out.1
   have p151 : 0 ≤ x := HX.out.1
   have q151 := c4
   have hw : wrap64 (x + 1) = x + 1 := by have := HX.out.1; unfold wrap64; omega
   have Hw := Aside0.mk hw
   clear hw
   obtain ⟨ad151, A151, c151, e151, hx151, hl151, hi151⟩ := Cj HR0.out x p151 q151
   cases e151
   replace hx151 := (HB.out.cell (World.block_lt_of_cell? w _ hx151)).trans hx151
   have C4 := Aside0.mk c4
   clear c4
   replace p151 := eq_true p151
   replace q151 := eq_true q151
   have HC := Aside0.mk (HP.out wr A151 c151 (rd_L1 l0 x) HB.out (Kd.C_below hi151 HB.out) hl151)
   clear hi151 hl151
   cases hq : p (rd_L1 l0 x) with
   | true =>
    rw [hq] at HC
    have HQ := Aside0.mk hq
    clear hq
    go_wp2_with (go_at_fn g; refine HC.out.mono ?_; rintro e w' ⟨rfl, hb'⟩)
    go_ret
    exact ⟨(by rw [idxRow_hit p l0 x HX.out.1 C4.out HM.out HQ.out]; rfl), hb'⟩
   | false =>
    rw [hq] at HC
    have HQ := Aside0.mk hq
    clear hq
    go_wp2_with (go_at_fn g; refine HC.out.mono ?_; rintro e w' ⟨rfl, hb'⟩)
    have HB' := Aside0.mk hb'
    clear hb'
    go_roundg (l0.length - (x + 1).toNat)
    case measure => have := HX.out; have := C4.out; omega
    case rel =>
     refine ⟨x + 1, by rw [Hw.out], ⟨by have := HX.out; omega, by have := C4.out; omega, by have := HX.out; have := C4.out; omega⟩, HB', ⟨fun j hj => ?_⟩⟩
     by_cases e : (j : Int) = x
     ·rw [e]; exact HQ.out
     ·exact HM.out j (by omega)
  ·have c4b0 : decide (x < (l0.length : Int)) = false := decide_eq_false c4
   have C4 := Aside0.mk c4
   clear c4
   go_wp2
   go_ret
   exact ⟨(by rw [idxRow_miss p l0 x (fun h_ => by have := C4.out; omega) HM.out]; rfl), HB.out⟩
theorem idxRow_int (p : List Int → Bool) (l : List (List Int)) (h : ¬ idxRow p l < 0) : ∃ x : Int, idxRow p l = x ∧ 0 ≤ x ∧ x < (l.length : Int) ∧ p (rd_L1 l x) = true := by
 obtain ⟨n, h1, h2, h3⟩ := idxRow_spec p l h
 exact ⟨(n : Int), h1, by omega, by omega, h3⟩
def slices_IndexFunc_int_int.f (l0 : List (List Int)) (p : List Int → Bool) : Option Int := some (idxRow p l0)
def impl_topOf.f (l0 : List Int) : Option (Int) := if (l0.length : Int) = 0 then (some 0) else (if 0 ≤ (wrap64 ((l0.length : Int) - 1)) then (if (wrap64 ((l0.length : Int) - 1)) < (l0.length : Int) then (some (rd l0 (wrap64 ((l0.length : Int) - 1)))) else (none)) else (none))
set_option maxHeartbeats 8000000 in
set_option maxRecDepth 100000 in
theorem impl_topOf.calls (A0 : Option Addr) (c0 : Nat) (l0 : List Int) (r : Int) (w : World) (hr0 : Kd.C (Kd.int .i64) w A0 l0.length l0) (hc0 : l0.length ≤ c0) (h : impl_topOf.f l0 = some r) :
  Calls Try.prog 70 #[.slice A0 l0.length c0] w fun e w' => e = .returned (.int .i64 r) ∧ Drawn0 w w' := by
 have HR0 := Aside0.mk hr0
 have HC0 := Aside0.mk hc0
 clear hr0 hc0
 have H : (if (l0.length : Int) = 0 then (some 0) else (if 0 ≤ (wrap64 ((l0.length : Int) - 1)) then (if (wrap64 ((l0.length : Int) - 1)) < (l0.length : Int) then (some (rd l0 (wrap64 ((l0.length : Int) - 1)))) else (none)) else (none))) = some r := h
 clear h
 by_cases c2 : (l0.length : Int) = 0
 ·rw [if_pos c2] at H
  have c2b0 : ((l0.length : Int) == 0) = true := beq_iff_eq.mpr c2
  have c2b1 : ((l0.length : Int) != 0) = false := bne_eq_false_iff_eq.mpr c2
  clear c2
  obtain rfl := Option.some.inj H
  go_enter Try.func70, Try.ntmps70
  go_wp2
  go_ret
  exact ⟨Ybe_, Ycc_⟩
 ·rw [if_neg c2] at H
  have c2b0 : ((l0.length : Int) == 0) = false := beq_eq_false_iff_ne.mpr c2
  have c2b1 : ((l0.length : Int) != 0) = true := bne_iff_ne.mpr c2
  have c2b2 : ¬ (l0 = []) := fun h_ => c2 (by rw [h_]; rfl)
  obtain ⟨ji3, hji3⟩ : ∃ j_ : Int, (wrap64 ((l0.length : Int) - 1)) = j_ := ⟨_, rfl⟩
  replace H : (if 0 ≤ (ji3) then (if (ji3) < (l0.length : Int) then (some (rd l0 (ji3))) else (none)) else (none)) = some r := by first | (rw [hji3] at H; exact H) | (simp only [hji3] at H ⊢; exact H)
  have hji3w : (IntKind.i64.wrap ((l0.length : Int) - 1)) = ji3 := (i64_w _).trans hji3
  by_cases c4 : 0 ≤ (ji3)
  ·rw [if_pos c4] at H
   have c4b0 : decide (0 ≤ (ji3)) = true := decide_eq_true c4
   clear c4
   by_cases c5 : (ji3) < (l0.length : Int)
   ·rw [if_pos c5] at H
    have c5b0 : decide ((ji3) < (l0.length : Int)) = true := decide_eq_true c5
    clear c5
    obtain rfl := Option.some.inj H
    have p395 : 0 ≤ ((ji3) : Int) := of_decide_eq_true Yh_
    have q395 : (ji3) < (l0.length : Int) := of_decide_eq_true Yh_
    obtain ⟨ad395, e395, hx395_0⟩ := Kd.Dw HR0.out (ji3) p395 q395
    cases e395
    replace p395 := eq_true p395
    replace q395 := eq_true q395
    go_enter Try.func70, Try.ntmps70
    go_wp2
    go_ret
    exact ⟨(by first | rfl | (simp; done) | (simp only [← hji3] <;> (first | rfl | simp)) | (simp [*]; done)), Ycc_⟩
   ·rw [if_neg c5] at H
    exact absurd H (by simp)
  ·rw [if_neg c4] at H
   exact absurd H (by simp)
end Go.Proofs.Ytnggfglmjdiaaaa.X

