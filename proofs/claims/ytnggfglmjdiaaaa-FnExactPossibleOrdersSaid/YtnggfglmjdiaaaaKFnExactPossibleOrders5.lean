/- Texts that the proof of the law FnExactPossibleOrders leans on, part 6 of 7. -/
import Derived.Deep.Slices
import Derived.ChangeSame
import Derived.ChangeArms
import Derived.DataReads
import Derived.SizedLaws
import Derived.ProofKit
import Derived.Lib.SmallJoins
import Derived.ChangeOld
import Derived.Below
import Derived.Test.YtnggfglmjdiaaaaKFnExactPossibleOrders0
import Derived.Test.YtnggfglmjdiaaaaKFnExactPossibleOrders1
import Derived.Test.YtnggfglmjdiaaaaKFnExactPossibleOrders2
import Derived.Test.YtnggfglmjdiaaaaKFnExactPossibleOrders3
import Derived.Test.YtnggfglmjdiaaaaKFnExactPossibleOrders4
set_option linter.unusedVariables false
set_option linter.unusedSimpArgs false
namespace Go.Proofs.Ytnggfglmjdiaaaa.X
open Go.RowKit Go.Proofs.YtnggfglmjdiaaaaW.PrintWords Go.Proofs.YtnggfglmjdiaaaaW.PrintLast Go.Proofs.YtnggfglmjdiaaaaW.PrintMore
attribute [local go_sem] max2_int min2_int max_two min_two max_three min_three max_four min_four
def Aj.l0 : Nat → List (S43) → List (S43) → Int → Option (Bool)
 | 0, _, _, _ => none
 | k + 1, x0, x1, x5 => if x5 < (x0.length : Int) then (if 0 ≤ x5 then (if x5 < (x1.length : Int) then ((Fg.f ((Ai x0 x5).f0) ((Ai x0 x5).f1) ((Ai x0 x5).f2) ((Ai x1 x5).f0) ((Ai x1 x5).f1) ((Ai x1 x5).f2)).bind fun t485 => (if t485 = true then (Aj.l0 k x0 x1 (wrap64 (x5 + 1))) else (some false))) else (none)) else (none)) else (some true)
def Aj.f (k : Nat) (l0 : List (S43)) (l1 : List (S43)) : Option (Bool) := if (l0.length : Int) = (l1.length : Int) then (Aj.l0 k l0 l1 0) else (some false)
theorem Aj.mono_l : ∀ k, (∀ y0 y1 y2, LeO (Aj.l0 k y0 y1 y2) (Aj.l0 (k + 1) y0 y1 y2))
 | 0 => fun _ _ _ r h => by simp [Aj.l0] at h
 | k + 1 => by
  have ih0 := Aj.mono_l k
  ·intro y0 y1 y2
   unfold Aj.l0
   repeat' first
   | (with_reducible exact ih0 _ _ _)
   | (with_reducible exact LeO.refl _)
   | (with_reducible exact LeO.none _)
   | (with_reducible refine LeO.ite ?_ ?_)
   | (with_reducible refine LeO.bind ?_ (fun _ => ?_))
   | exact ih0 _ _ _
   | exact LeO.none _
   | refine LeO.ite ?_ ?_
   | refine LeO.bind ?_ (fun _ => ?_)
theorem Aj.mono : ∀ a0 a1 k, LeO (Aj.f k a0 a1) (Aj.f (k + 1) a0 a1) := by
 intro a0 a1 k
 have ih0 := Aj.mono_l k
 unfold Aj.f
 repeat' first
   | (with_reducible exact ih0 _ _ _)
   | (with_reducible exact LeO.refl _)
   | (with_reducible exact LeO.none _)
   | (with_reducible refine LeO.ite ?_ ?_)
   | (with_reducible refine LeO.bind ?_ (fun _ => ?_))
   | exact ih0 _ _ _
   | exact LeO.none _
   | refine LeO.ite ?_ ?_
   | refine LeO.bind ?_ (fun _ => ?_)
def Aj.T6 : Bool × List (List Nat × List Nat) := (true, [([], []), ([], []), ([0, 1], [0, 1]), ([2], [2]), ([], []), ([], []), ([4, 5], [4, 5]), ([6], [6]), ([3, 7], [3, 7]), ([8], [8])])
def Aj.B6 : List Nat := [0, 0, 3, 7, 0, 0, 48, 112, 255, 511]
theorem Aj.tab6 : rtab .any (opsOf Try.f27 6) = Aj.T6 := by kernel_rfl
theorem Aj.bits6 : waitsOk Aj.T6.2 Aj.B6 = true := by kernel_rfl
set_option maxHeartbeats 8000000 in
set_option maxRecDepth 100000 in
theorem Aj.calls (k : Nat) (A0 : Option Addr) (c0 : Nat) (l0 : List (S43)) (A1 : Option Addr) (c1 : Nat) (l1 : List (S43)) (r : Bool) (w : World) (hr0 : Kd.C k43 w A0 l0.length l0) (hc0 : l0.length ≤ c0) (hr1 : Kd.C k43 w A1 l1.length l1) (hc1 : l1.length ≤ c1) (h : Aj.f k l0 l1 = some r) :
  Calls Try.prog 27 #[.slice A0 l0.length c0, .slice A1 l1.length c1] w fun e w' => e = .returned (.bool r) ∧ Below w.heap.size w w' := by
 have hu43 := Try.underlying43
 have HR0 := Aside0.mk hr0
 have HC0 := Aside0.mk hc0
 clear hr0 hc0
 have HR1 := Aside0.mk hr1
 have HC1 := Aside0.mk hc1
 clear hr1 hc1
 have HB := Aside0.mk (Below.refl w.heap.size w)
 have H : (if (l0.length : Int) = (l1.length : Int) then (Aj.l0 k l0 l1 0) else (some false)) = some r := h
 clear h
 by_cases c3 : (l0.length : Int) = (l1.length : Int)
 ·rw [if_pos c3] at H
  have c3b0 : ((l0.length : Int) == (l1.length : Int)) = true := beq_iff_eq.mpr c3
  have c3b1 : ((l0.length : Int) != (l1.length : Int)) = false := bne_eq_false_iff_eq.mpr c3
  have c3b2 : (l0.length == l1.length) = true := by first | simpa using c3 | (simp at c3 ⊢; omega)
  clear c3
  have H' := Aside0.mk H
  clear H
  go_enter Try.func27, Try.ntmps27
  go_wp2
  go_loopg [5] k (fun kq v5 w' => ∃ (x5_1 : Int), v5 = .int .i64 x5_1 ∧ Aside0 (Aj.l0 kq l0 l1 x5_1 = some r) ∧ Aside0 (kq ≤ k) ∧ Aside0 (Below w.heap.size w w'))
  case atStart => exact ⟨(0), Ybb_, H', ⟨Nat.le_refl _⟩, ⟨by repeat (first | (with_reducible first | exact HB.out | apply below_alloc | apply pw_below_drewN | apply below_drew1) | exact HB.out)⟩⟩
  case round =>
   clear H'
   try clear c1; try clear c2; try clear p2; try clear c3; try clear c3b0; try clear c3b1; try clear c3b2
   obtain ⟨x5_1, rfl, HA, HK1, HB⟩ := hrel
   cases gk with
   | zero => exact absurd HA.out (by simp [Aj.l0])
   | succ k1 =>
    have H := HA.out
    clear HA
    simp only [Aj.l0] at H
    by_cases c4 : x5_1 < (l0.length : Int)
    ·rw [if_pos c4] at H
     have c4b0 : decide (x5_1 < (l0.length : Int)) = true := decide_eq_true c4
     clear c4
     by_cases c5 : 0 ≤ x5_1
     ·rw [if_pos c5] at H
      have c5b0 : decide (0 ≤ x5_1) = true := decide_eq_true c5
      clear c5
      by_cases c6 : x5_1 < (l1.length : Int)
      ·rw [if_pos c6] at H
       have c6b0 : decide (x5_1 < (l1.length : Int)) = true := decide_eq_true c6
       clear c6
       replace H := Option.bind_eq_some_iff.mp H
       obtain ⟨t485, A70, H⟩ := H
       try dsimp only at H
       have A7 := Aside0.mk A70
       clear A70
       by_cases c8 : t485 = true
       ·subst c8
        have H1 : (Aj.l0 k1 l0 l1 (wrap64 (x5_1 + 1))) = some r := by rw [if_pos rfl] at H; exact H
        clear H
        have H := H1
        clear H1
        have H' := Aside0.mk H
        clear H
        try go_wp2
        have n0_ := Aside0.mk (below_drew1 HB.out)
        clear HB
        have HB := n0_
        clear n0_
        have p483 : 0 ≤ (x5_1 : Int) := of_decide_eq_true Yg_
        have q483 : x5_1 < (l0.length : Int) := of_decide_eq_true Yg_
        obtain ⟨ad483, e483, hx483_0, hx483_1, hx483_2⟩ := Fj HR0.out x5_1 p483 q483
        have hw483_2 := hx483_2
        have hw483_1 := hx483_1
        have hw483_0 := hx483_0
        cases e483
        replace hx483_0 := (HB.out.cell (World.block_lt_of_cell? w _ hx483_0)).trans hx483_0
        replace hx483_1 := (HB.out.cell (World.block_lt_of_cell? w _ hx483_1)).trans hx483_1
        replace hx483_2 := (HB.out.cell (World.block_lt_of_cell? w _ hx483_2)).trans hx483_2
        replace p483 := eq_true p483
        replace q483 := eq_true q483
        have p484 : 0 ≤ (x5_1 : Int) := of_decide_eq_true Yg_
        have q484 : x5_1 < (l1.length : Int) := of_decide_eq_true Yg_
        obtain ⟨ad484, e484, hx484_0, hx484_1, hx484_2⟩ := Fj HR1.out x5_1 p484 q484
        have hw484_2 := hx484_2
        have hw484_1 := hx484_1
        have hw484_0 := hx484_0
        cases e484
        replace hx484_0 := (HB.out.cell (World.block_lt_of_cell? w _ hx484_0)).trans hx484_0
        replace hx484_1 := (HB.out.cell (World.block_lt_of_cell? w _ hx484_1)).trans hx484_1
        replace hx484_2 := (HB.out.cell (World.block_lt_of_cell? w _ hx484_2)).trans hx484_2
        replace p484 := eq_true p484
        replace q484 := eq_true q484
        refine start_ (n := 10) (S := fun w' => w'.cell? (ad483.add ((x5_1).toNat * 3)) = some (.int .i64 ((Ai l0 x5_1).f0)) ∧ w'.cell? ⟨(ad483.add ((x5_1).toNat * 3)).block, (ad483.add ((x5_1).toNat * 3)).off + 1, none⟩ = some (.int .i64 ((Ai l0 x5_1).f1)) ∧ w'.cell? ⟨(ad483.add ((x5_1).toNat * 3)).block, (ad483.add ((x5_1).toNat * 3)).off + 2, none⟩ = some (.int .i64 ((Ai l0 x5_1).f2)) ∧ w'.cell? (ad484.add ((x5_1).toNat * 3)) = some (.int .i64 ((Ai l1 x5_1).f0)) ∧ w'.cell? ⟨(ad484.add ((x5_1).toNat * 3)).block, (ad484.add ((x5_1).toNat * 3)).off + 1, none⟩ = some (.int .i64 ((Ai l1 x5_1).f1)) ∧ w'.cell? ⟨(ad484.add ((x5_1).toNat * 3)).block, (ad484.add ((x5_1).toNat * 3)).off + 2, none⟩ = some (.int .i64 ((Ai l1 x5_1).f2))) (ds := []) #[false, false, false, false, false, false, false, false, false, false] Yba_ rfl rfl ⟨((HB.out.cell (World.block_lt_of_cell? w _ hw483_0)).trans hw483_0), ((HB.out.cell (World.block_lt_of_cell? w _ hw483_1)).trans hw483_1), ((HB.out.cell (World.block_lt_of_cell? w _ hw483_2)).trans hw483_2), ((HB.out.cell (World.block_lt_of_cell? w _ hw484_0)).trans hw484_0), ((HB.out.cell (World.block_lt_of_cell? w _ hw484_1)).trans hw484_1), ((HB.out.cell (World.block_lt_of_cell? w _ hw484_2)).trans hw484_2)⟩ (fun hHeld => ?_); refine with_tabW Aj.tab6 Aj.bits6 (fun HT_ HW_ => ?_)
        generalize wr.drew = w9 at HB hx483_0 hx483_1 hx483_2 hx484_0 hx484_1 hx484_2 hHeld ⊢
        refine pure_ (i := 0) (N := some 17) #[true, false, false, false, false, false, false, false, false, false] rfl rfl (any_of HT_.out Yba_) (fun _ _ _ h => h) (Or.inl ⟨by rfl, Ybc_⟩) Ya_ ?_
        refine pure_ (i := 1) (N := some 18) #[true, true, false, false, false, false, false, false, false, false] rfl rfl (any_of HT_.out Yba_) (fun _ _ _ h => h) (Or.inl ⟨by rfl, Ybc_⟩) Ya_ ?_
        refine pure_ (i := 2) (N := some 19) #[true, true, true, false, false, false, false, false, false, false] rfl rfl (any_of HT_.out Yba_) (fun _ _ _ h => h) (Or.inl ⟨by rfl, Ybc_⟩) Ya_ ?_
        refine pure_ (i := 4) (N := some 21) #[true, true, true, false, true, false, false, false, false, false] rfl rfl (any_of HT_.out Yba_) (fun _ _ _ h => h) (Or.inl ⟨by rfl, Ybc_⟩) Ya_ ?_
        refine pure_ (i := 5) (N := some 22) #[true, true, true, false, true, true, false, false, false, false] rfl rfl (any_of HT_.out Yba_) (fun _ _ _ h => h) (Or.inl ⟨by rfl, Ybc_⟩) Ya_ ?_
        refine pure_ (i := 6) (N := some 23) #[true, true, true, false, true, true, true, false, false, false] rfl rfl (any_of HT_.out Yba_) (fun _ _ _ h => h) (Or.inl ⟨by rfl, Ybc_⟩) Ya_ ?_
        refine take_ (i := 3) (N := some 20) #[true, true, true, true, true, true, true, false, false, false] rfl rfl (take_ofW HT_.out HW_.out Yba_) (fun _ _ _ h => h) (Or.inl ⟨by rfl, Ydf_⟩) hHeld Ya_ ?_
        refine take_ (i := 7) (N := some 24) #[true, true, true, true, true, true, true, true, false, false] rfl rfl (take_ofW HT_.out HW_.out Yba_) (fun _ _ _ h => h) (Or.inl ⟨by rfl, Ydf_⟩) hHeld Ya_ ?_
        refine one_ (i := 8) (N := some 25) #[true, true, true, true, true, true, true, true, true, false] rfl rfl (one_of HT_.out Yba_) (by decide) (fun K hK => ?_)
        refine goes_ Try.func20 Yba_ rfl #[.agg #[.int .i64 ((Ai l0 x5_1).f0), .int .i64 ((Ai l0 x5_1).f1), .int .i64 ((Ai l0 x5_1).f2)], .agg #[.int .i64 ((Ai l1 x5_1).f0), .int .i64 ((Ai l1 x5_1).f1), .int .i64 ((Ai l1 x5_1).f2)]] (by rfl) rfl rfl Ye_ ?_
        with_reducible refine (Fg.calls ((Ai l0 x5_1).f0) ((Ai l0 x5_1).f1) ((Ai l0 x5_1).f2) ((Ai l1 x5_1).f0) ((Ai l1 x5_1).f1) ((Ai l1 x5_1).f2) true _ A7.out).mono ?_
        rintro e w10 ⟨rfl, hb⟩
        refine ⟨_, rfl, ?_⟩
        have n0_ := Aside0.mk (below_step Yb_ hb)
        clear HB
        have HB := n0_
        clear n0_
        (try clear hb)
        (try clear hb2)
        (try clear hk)
        (try clear hi)
        refine hK.out _ _ ⟨((HB.out.cell (World.block_lt_of_cell? w _ hw483_0)).trans hw483_0), ((HB.out.cell (World.block_lt_of_cell? w _ hw483_1)).trans hw483_1), ((HB.out.cell (World.block_lt_of_cell? w _ hw483_2)).trans hw483_2), ((HB.out.cell (World.block_lt_of_cell? w _ hw484_0)).trans hw484_0), ((HB.out.cell (World.block_lt_of_cell? w _ hw484_1)).trans hw484_1), ((HB.out.cell (World.block_lt_of_cell? w _ hw484_2)).trans hw484_2)⟩ (fun hHeld => ?_)
        clear hK K
        refine norm_ (show Act.put _ (some 25) _ = _ from Ya_) ?_
        refine pure_ (i := 9) (N := some 26) #[true, true, true, true, true, true, true, true, true, true] rfl rfl (any_of HT_.out Yba_) (fun _ _ _ h => h) (Or.inl ⟨by rfl, Ybc_⟩) Ya_ ?_
        refine done_ (done_of HT_.out Yba_) ?_
        try go_wp2
        go_roundg k1
        case measure => have := HK1.out; omega
        case rel => exact ⟨(wrap64 (x5_1 + 1)), Ybb_, H', ⟨by have := HK1.out; omega⟩, ⟨by repeat (first | (with_reducible first | exact HB.out | apply below_alloc | apply pw_below_drewN | apply below_drew1) | exact HB.out)⟩⟩
       ·replace c8 := Bool.eq_false_iff.mpr c8
        subst c8
        have H1 : (some false) = some r := by rw [if_neg (show ¬ (false = true) by decide)] at H; exact H
        clear H
        have H := H1
        clear H1
        obtain rfl := Option.some.inj H
        try go_wp2
        have n0_ := Aside0.mk (below_drew1 HB.out)
        clear HB
        have HB := n0_
        clear n0_
        have p483 : 0 ≤ (x5_1 : Int) := of_decide_eq_true Yg_
        have q483 : x5_1 < (l0.length : Int) := of_decide_eq_true Yg_
        obtain ⟨ad483, e483, hx483_0, hx483_1, hx483_2⟩ := Fj HR0.out x5_1 p483 q483
        have hw483_2 := hx483_2
        have hw483_1 := hx483_1
        have hw483_0 := hx483_0
        cases e483
        replace hx483_0 := (HB.out.cell (World.block_lt_of_cell? w _ hx483_0)).trans hx483_0
        replace hx483_1 := (HB.out.cell (World.block_lt_of_cell? w _ hx483_1)).trans hx483_1
        replace hx483_2 := (HB.out.cell (World.block_lt_of_cell? w _ hx483_2)).trans hx483_2
        replace p483 := eq_true p483
        replace q483 := eq_true q483
        have p484 : 0 ≤ (x5_1 : Int) := of_decide_eq_true Yg_
        have q484 : x5_1 < (l1.length : Int) := of_decide_eq_true Yg_
        obtain ⟨ad484, e484, hx484_0, hx484_1, hx484_2⟩ := Fj HR1.out x5_1 p484 q484
        have hw484_2 := hx484_2
        have hw484_1 := hx484_1
        have hw484_0 := hx484_0
        cases e484
        replace hx484_0 := (HB.out.cell (World.block_lt_of_cell? w _ hx484_0)).trans hx484_0
        replace hx484_1 := (HB.out.cell (World.block_lt_of_cell? w _ hx484_1)).trans hx484_1
        replace hx484_2 := (HB.out.cell (World.block_lt_of_cell? w _ hx484_2)).trans hx484_2
        replace p484 := eq_true p484
        replace q484 := eq_true q484
        refine start_ (n := 10) (S := fun w' => w'.cell? (ad483.add ((x5_1).toNat * 3)) = some (.int .i64 ((Ai l0 x5_1).f0)) ∧ w'.cell? ⟨(ad483.add ((x5_1).toNat * 3)).block, (ad483.add ((x5_1).toNat * 3)).off + 1, none⟩ = some (.int .i64 ((Ai l0 x5_1).f1)) ∧ w'.cell? ⟨(ad483.add ((x5_1).toNat * 3)).block, (ad483.add ((x5_1).toNat * 3)).off + 2, none⟩ = some (.int .i64 ((Ai l0 x5_1).f2)) ∧ w'.cell? (ad484.add ((x5_1).toNat * 3)) = some (.int .i64 ((Ai l1 x5_1).f0)) ∧ w'.cell? ⟨(ad484.add ((x5_1).toNat * 3)).block, (ad484.add ((x5_1).toNat * 3)).off + 1, none⟩ = some (.int .i64 ((Ai l1 x5_1).f1)) ∧ w'.cell? ⟨(ad484.add ((x5_1).toNat * 3)).block, (ad484.add ((x5_1).toNat * 3)).off + 2, none⟩ = some (.int .i64 ((Ai l1 x5_1).f2))) (ds := []) #[false, false, false, false, false, false, false, false, false, false] Yba_ rfl rfl ⟨((HB.out.cell (World.block_lt_of_cell? w _ hw483_0)).trans hw483_0), ((HB.out.cell (World.block_lt_of_cell? w _ hw483_1)).trans hw483_1), ((HB.out.cell (World.block_lt_of_cell? w _ hw483_2)).trans hw483_2), ((HB.out.cell (World.block_lt_of_cell? w _ hw484_0)).trans hw484_0), ((HB.out.cell (World.block_lt_of_cell? w _ hw484_1)).trans hw484_1), ((HB.out.cell (World.block_lt_of_cell? w _ hw484_2)).trans hw484_2)⟩ (fun hHeld => ?_); refine with_tabW Aj.tab6 Aj.bits6 (fun HT_ HW_ => ?_)
        generalize wr.drew = w11 at HB hx483_0 hx483_1 hx483_2 hx484_0 hx484_1 hx484_2 hHeld ⊢
        refine pure_ (i := 0) (N := some 17) #[true, false, false, false, false, false, false, false, false, false] rfl rfl (any_of HT_.out Yba_) (fun _ _ _ h => h) (Or.inl ⟨by rfl, Ybc_⟩) Ya_ ?_
        refine pure_ (i := 1) (N := some 18) #[true, true, false, false, false, false, false, false, false, false] rfl rfl (any_of HT_.out Yba_) (fun _ _ _ h => h) (Or.inl ⟨by rfl, Ybc_⟩) Ya_ ?_
        refine pure_ (i := 2) (N := some 19) #[true, true, true, false, false, false, false, false, false, false] rfl rfl (any_of HT_.out Yba_) (fun _ _ _ h => h) (Or.inl ⟨by rfl, Ybc_⟩) Ya_ ?_
        refine pure_ (i := 4) (N := some 21) #[true, true, true, false, true, false, false, false, false, false] rfl rfl (any_of HT_.out Yba_) (fun _ _ _ h => h) (Or.inl ⟨by rfl, Ybc_⟩) Ya_ ?_
        refine pure_ (i := 5) (N := some 22) #[true, true, true, false, true, true, false, false, false, false] rfl rfl (any_of HT_.out Yba_) (fun _ _ _ h => h) (Or.inl ⟨by rfl, Ybc_⟩) Ya_ ?_
        refine pure_ (i := 6) (N := some 23) #[true, true, true, false, true, true, true, false, false, false] rfl rfl (any_of HT_.out Yba_) (fun _ _ _ h => h) (Or.inl ⟨by rfl, Ybc_⟩) Ya_ ?_
        refine take_ (i := 3) (N := some 20) #[true, true, true, true, true, true, true, false, false, false] rfl rfl (take_ofW HT_.out HW_.out Yba_) (fun _ _ _ h => h) (Or.inl ⟨by rfl, Ydf_⟩) hHeld Ya_ ?_
        refine take_ (i := 7) (N := some 24) #[true, true, true, true, true, true, true, true, false, false] rfl rfl (take_ofW HT_.out HW_.out Yba_) (fun _ _ _ h => h) (Or.inl ⟨by rfl, Ydf_⟩) hHeld Ya_ ?_
        refine one_ (i := 8) (N := some 25) #[true, true, true, true, true, true, true, true, true, false] rfl rfl (one_of HT_.out Yba_) (by decide) (fun K hK => ?_)
        refine goes_ Try.func20 Yba_ rfl #[.agg #[.int .i64 ((Ai l0 x5_1).f0), .int .i64 ((Ai l0 x5_1).f1), .int .i64 ((Ai l0 x5_1).f2)], .agg #[.int .i64 ((Ai l1 x5_1).f0), .int .i64 ((Ai l1 x5_1).f1), .int .i64 ((Ai l1 x5_1).f2)]] (by rfl) rfl rfl Ye_ ?_
        with_reducible refine (Fg.calls ((Ai l0 x5_1).f0) ((Ai l0 x5_1).f1) ((Ai l0 x5_1).f2) ((Ai l1 x5_1).f0) ((Ai l1 x5_1).f1) ((Ai l1 x5_1).f2) false _ A7.out).mono ?_
        rintro e w12 ⟨rfl, hb⟩
        refine ⟨_, rfl, ?_⟩
        have n0_ := Aside0.mk (below_step Yb_ hb)
        clear HB
        have HB := n0_
        clear n0_
        (try clear hb)
        (try clear hb2)
        (try clear hk)
        (try clear hi)
        refine hK.out _ _ ⟨((HB.out.cell (World.block_lt_of_cell? w _ hw483_0)).trans hw483_0), ((HB.out.cell (World.block_lt_of_cell? w _ hw483_1)).trans hw483_1), ((HB.out.cell (World.block_lt_of_cell? w _ hw483_2)).trans hw483_2), ((HB.out.cell (World.block_lt_of_cell? w _ hw484_0)).trans hw484_0), ((HB.out.cell (World.block_lt_of_cell? w _ hw484_1)).trans hw484_1), ((HB.out.cell (World.block_lt_of_cell? w _ hw484_2)).trans hw484_2)⟩ (fun hHeld => ?_)
        clear hK K
        refine norm_ (show Act.put _ (some 25) _ = _ from Ya_) ?_
        refine pure_ (i := 9) (N := some 26) #[true, true, true, true, true, true, true, true, true, true] rfl rfl (any_of HT_.out Yba_) (fun _ _ _ h => h) (Or.inl ⟨by rfl, Ybc_⟩) Ya_ ?_
        refine done_ (done_of HT_.out Yba_) ?_
        try go_wp2
        go_ret
        exact ⟨by first | rfl | (simp [errW_none, errW_some] <;> rfl) | (simp [*, errW_none, errW_some] <;> rfl), by repeat (first | (with_reducible first | exact HB.out | apply below_alloc | apply pw_below_drewN | apply below_drew1) | exact HB.out)⟩
      ·rw [if_neg c6] at H
       exact absurd H (by simp)
     ·rw [if_neg c5] at H
      exact absurd H (by simp)
    ·rw [if_neg c4] at H
     have c4b0 : decide (x5_1 < (l0.length : Int)) = false := decide_eq_false c4
     clear c4
     obtain rfl := Option.some.inj H
     go_wp2
     go_ret
     exact ⟨by first | rfl | (simp [errW_none, errW_some] <;> rfl) | (simp [*, errW_none, errW_some] <;> rfl), by repeat (first | (with_reducible first | exact HB.out | apply below_alloc | apply pw_below_drewN | apply below_drew1) | exact HB.out)⟩
 ·rw [if_neg c3] at H
  have c3b0 : ((l0.length : Int) == (l1.length : Int)) = false := beq_eq_false_iff_ne.mpr c3
  have c3b1 : ((l0.length : Int) != (l1.length : Int)) = true := bne_iff_ne.mpr c3
  have c3b2 : (l0.length == l1.length) = false := by first | simpa using c3 | (simp at c3 ⊢; omega)
  obtain rfl := Option.some.inj H
  go_enter Try.func27, Try.ntmps27
  go_wp2
  go_ret
  exact ⟨by first | rfl | (simp [errW_none, errW_some] <;> rfl) | (simp [*, errW_none, errW_some] <;> rfl), by repeat (first | (with_reducible first | exact HB.out | apply below_alloc | apply pw_below_drewN | apply below_drew1) | exact HB.out)⟩
def Bi.l0 : Nat → List (S43) → Int → Int → Option (Int × (List (S43)))
 | 0, _, _, _ => none
 | k + 1, x0, x1, x5 => if x5 < (x0.length : Int) then (if 0 ≤ x5 then ((some (x0.set (x5 : Int).toNat (⟨x1, (Ai x0 x5).f1, (Ai x0 x5).f2⟩ : S43) : List (S43))).bind fun y486 => ((some (y486.set (x5 : Int).toNat (⟨(Ai y486 x5).f0, wrap64 (x1 + 1), (Ai y486 x5).f2⟩ : S43) : List (S43))).bind fun y487 => (Bi.l0 k (y487.set (x5 : Int).toNat (⟨(Ai y487 x5).f0, (Ai y487 x5).f1, wrap64 ((wrap64 (x1 + 1)) + 1)⟩ : S43)) (wrap64 ((wrap64 ((wrap64 (x1 + 1)) + 1)) + 1)) (wrap64 (x5 + 1))))) else (none)) else (some (x1, x0))
def Bi.f (k : Nat) (l0 : List (S43)) (a1 : Int) : Option (Int × (List (S43))) := Bi.l0 k l0 a1 0
theorem Bi.mono_l : ∀ k, (∀ y0 y1 y2, LeO (Bi.l0 k y0 y1 y2) (Bi.l0 (k + 1) y0 y1 y2))
 | 0 => fun _ _ _ r h => by simp [Bi.l0] at h
 | k + 1 => by
  have ih0 := Bi.mono_l k
  ·intro y0 y1 y2
   unfold Bi.l0
   repeat' first
   | (with_reducible exact ih0 _ _ _)
   | (with_reducible exact LeO.refl _)
   | (with_reducible exact LeO.none _)
   | (with_reducible refine LeO.ite ?_ ?_)
   | (with_reducible refine LeO.bind ?_ (fun _ => ?_))
   | exact ih0 _ _ _
   | exact LeO.none _
   | refine LeO.ite ?_ ?_
   | refine LeO.bind ?_ (fun _ => ?_)
theorem Bi.mono : ∀ a0 a1 k, LeO (Bi.f k a0 a1) (Bi.f (k + 1) a0 a1) := by
 intro a0 a1 k
 have ih0 := Bi.mono_l k
 unfold Bi.f
 repeat' first
   | (with_reducible exact ih0 _ _ _)
   | (with_reducible exact LeO.refl _)
   | (with_reducible exact LeO.none _)
   | (with_reducible refine LeO.ite ?_ ?_)
   | (with_reducible refine LeO.bind ?_ (fun _ => ?_))
   | exact ih0 _ _ _
   | exact LeO.none _
   | refine LeO.ite ?_ ?_
   | refine LeO.bind ?_ (fun _ => ?_)
set_option maxHeartbeats 8000000 in
set_option maxRecDepth 100000 in
theorem Bi.calls (k : Nat) (P0_ : Nat → Prop) (u9000_ : Value) (l0 : List (S43)) (a1 : Int) (r1 : Int) (r2 : List (S43)) (w0 w : World) (hB : Below w0.heap.size w0 w) (ho0 : Kd.R k43 43 w w0.heap.size P0_ u9000_ l0) (h : Bi.f k l0 a1 = some (r1, r2)) :
  Calls Try.prog 28 #[u9000_, .int .i64 a1] w fun e w' => e = .returned (.int .i64 r1) ∧ Kd.R k43 43 w' w0.heap.size (fun k_ => (P0_ k_ ∨ w.heap.size ≤ k_)) u9000_ r2 ∧ Below w0.heap.size w0 w' ∧ Kept w w' (fun k_ => P0_ k_) := by
 have HO0 := Aside0.mk (show Kd.R k43 43 w w0.heap.size (fun k_ => (P0_ k_ ∨ w.heap.size ≤ k_)) u9000_ l0 from Kd.Ci ho0 (fun k_ hk => (.inl hk)))
 have HK := Aside0.mk (Kept.refl w (fun k_ => P0_ k_))
 have HW0 := Aside0.mk hB.size
 have HB := Aside0.mk hB
 clear hB
 have H : (Bi.l0 k l0 a1 0) = some (r1, r2) := h
 clear h
 have H' := Aside0.mk H
 clear H
 go_enter Try.func28, Try.ntmps28
 go_wp2
 go_loopg [1, 5] k (fun kq v1 v5 w' => ∃ (x0_1 : List (S43)) (x1_1 : Int) (x5_1 : Int), v1 = .int .i64 x1_1 ∧ v5 = .int .i64 x5_1 ∧ Aside0 (Bi.l0 kq x0_1 x1_1 x5_1 = some (r1, r2)) ∧ Aside0 (kq ≤ k) ∧ Aside0 (Kd.R k43 43 w' w0.heap.size (fun k_ => (P0_ k_ ∨ w.heap.size ≤ k_)) u9000_ x0_1) ∧ Aside0 (Kept w w' (fun k_ => P0_ k_)) ∧ Aside0 (Below w0.heap.size w0 w'))
 case atStart => exact ⟨(l0), (a1), (0), Ybb_, Ybb_, H', ⟨Nat.le_refl _⟩, ⟨by (with_reducible repeat (first | apply Kd.R_alloc | apply Kd.R_drewN | apply Kd.R_drew)); exact HO0.out⟩, ⟨by repeat (first | (with_reducible first | exact HK.out | apply Kept.alloc | apply Kept.drewN | apply Kept.drew) | exact HK.out)⟩, ⟨by repeat (first | (with_reducible first | exact HB.out | apply below_alloc | apply pw_below_drewN | apply below_drew1) | exact HB.out)⟩⟩
 case round =>
  clear H'
  try clear c2; try clear p2
  obtain ⟨x0_1, x1_1, x5_1, rfl, rfl, HA, HK1, HO_0, HK, HB⟩ := hrel
  cases gk with
  | zero => exact absurd HA.out (by simp [Bi.l0])
  | succ k1 =>
   have H := HA.out
   clear HA
   simp only [Bi.l0] at H
   by_cases c3 : x5_1 < (x0_1.length : Int)
   ·rw [if_pos c3] at H
    have c3b0 : decide (x5_1 < (x0_1.length : Int)) = true := decide_eq_true c3
    clear c3
    by_cases c4 : 0 ≤ x5_1
    ·rw [if_pos c4] at H
     have c4b0 : decide (0 ≤ x5_1) = true := decide_eq_true c4
     clear c4
     obtain ⟨y486, hy486⟩ : ∃ y_ : List (S43), y_ = (x0_1.set (x5_1 : Int).toNat (⟨x1_1, (Ai x0_1 x5_1).f1, (Ai x0_1 x5_1).f2⟩ : S43)) := ⟨_, rfl⟩
     replace H : ((some (y486.set (x5_1 : Int).toNat (⟨(Ai y486 x5_1).f0, wrap64 (x1_1 + 1), (Ai y486 x5_1).f2⟩ : S43) : List (S43))).bind fun y487 => (Bi.l0 k1 (y487.set (x5_1 : Int).toNat (⟨(Ai y487 x5_1).f0, (Ai y487 x5_1).f1, wrap64 ((wrap64 (x1_1 + 1)) + 1)⟩ : S43)) (wrap64 ((wrap64 ((wrap64 (x1_1 + 1)) + 1)) + 1)) (wrap64 (x5_1 + 1)))) = some (r1, r2) := by first | (rw [hy486]; with_reducible exact H) | (have H2_ := (Option.bind_some _ _).symm.trans H; rw [hy486]; with_reducible exact H2_) | (have H2_ := (Option.bind_some _ _).symm.trans H; with_reducible exact H2_) | with_reducible exact H | (rw [hy486]; exact H) | exact H
     have Ny486 := Aside0.mk hy486
     clear hy486
     obtain ⟨y487, hy487⟩ : ∃ y_ : List (S43), y_ = (y486.set (x5_1 : Int).toNat (⟨(Ai y486 x5_1).f0, wrap64 (x1_1 + 1), (Ai y486 x5_1).f2⟩ : S43)) := ⟨_, rfl⟩
     replace H : (Bi.l0 k1 (y487.set (x5_1 : Int).toNat (⟨(Ai y487 x5_1).f0, (Ai y487 x5_1).f1, wrap64 ((wrap64 (x1_1 + 1)) + 1)⟩ : S43)) (wrap64 ((wrap64 ((wrap64 (x1_1 + 1)) + 1)) + 1)) (wrap64 (x5_1 + 1))) = some (r1, r2) := by first | (rw [hy487]; with_reducible exact H) | (have H2_ := (Option.bind_some _ _).symm.trans H; rw [hy487]; with_reducible exact H2_) | (have H2_ := (Option.bind_some _ _).symm.trans H; with_reducible exact H2_) | with_reducible exact H | (rw [hy487]; exact H) | exact H
     have Ny487 := Aside0.mk hy487
     clear hy487
     obtain ⟨y488, hy488⟩ : ∃ y_ : List (S43), y_ = (y487.set (x5_1 : Int).toNat (⟨(Ai y487 x5_1).f0, (Ai y487 x5_1).f1, wrap64 ((wrap64 (x1_1 + 1)) + 1)⟩ : S43)) := ⟨_, rfl⟩
     replace H : (Bi.l0 k1 y488 (wrap64 ((wrap64 ((wrap64 (x1_1 + 1)) + 1)) + 1)) (wrap64 (x5_1 + 1))) = some (r1, r2) := by first | (rw [hy488]; with_reducible exact H) | (have H2_ := (Option.bind_some _ _).symm.trans H; rw [hy488]; with_reducible exact H2_) | (have H2_ := (Option.bind_some _ _).symm.trans H; with_reducible exact H2_) | with_reducible exact H | (rw [hy488]; exact H) | exact H
     have Ny488 := Aside0.mk hy488
     clear hy488
     have H' := Aside0.mk H
     clear H
     obtain ⟨Ao8, co8, eo8⟩ := Kd.Di HO_0.out
     subst eo8
     have p5 : 0 ≤ (x5_1 : Int) := of_decide_eq_true Yg_
     have q5 : (x5_1 : Int) < ((x0_1.length : Int) : Int) := of_decide_eq_true Yg_
     obtain ⟨go5, co5, eo5, gb5, gl5, cl5, HG5⟩ := Kd.R_form HO_0.out (by omega)
     (first | cases eo5 | (injection eo5 with ea_ en_ ec_; (first | subst ea_ | (injection ea_ with ea_; subst ea_)); subst ec_; clear en_))
     have GB5 := Aside0.mk gb5
     have GG5 := Aside0.mk HG5
     clear gb5 gl5 HG5
     have HMgo5 := Aside0.mk (show (P0_ go5 ∨ w.heap.size ≤ go5) from (HO_0.out.1 _ rfl))
     obtain ⟨ce5, hcl5, hM5, hcc5, hfr5⟩ := Kd.R_elem HO_0.out z43 (x5_1 : Int) p5 q5
     obtain rfl := Gf hM5
     have hx5_0 : wr.cell? ⟨go5, (x5_1 : Int).toNat * 3, none⟩ = some (.int .i64 ((Ai x0_1 x5_1).f0)) := hcc5 0 _ rfl
     have hx5_1 : wr.cell? ⟨go5, (x5_1 : Int).toNat * 3 + 1, none⟩ = some (.int .i64 ((Ai x0_1 x5_1).f1)) := hcc5 1 _ rfl
     have hx5_2 : wr.cell? ⟨go5, (x5_1 : Int).toNat * 3 + 2, none⟩ = some (.int .i64 ((Ai x0_1 x5_1).f2)) := hcc5 2 _ rfl
     have hf5_0 : wr.frozen? ⟨go5, (x5_1 : Int).toNat * 3, none⟩ = false := hfr5 0
     have hf5_1 : wr.frozen? ⟨go5, (x5_1 : Int).toNat * 3 + 1, none⟩ = false := hfr5 1
     have hf5_2 : wr.frozen? ⟨go5, (x5_1 : Int).toNat * 3 + 2, none⟩ = false := hfr5 2
     clear hcl5 hcc5 hfr5 hM5
     replace p5 := eq_true p5
     replace q5 := eq_true q5
     have HX9 := Aside0.mk (show Kd.R k43 43 wr w0.heap.size (fun k_ => (P0_ k_ ∨ w.heap.size ≤ k_)) (.slice (some ⟨go5, 0, none⟩) x0_1.length co8) x0_1 from Yee_)
     obtain ⟨ce9, hcl9, hM9, hcc9, hfr9⟩ := Kd.R_elem HX9.out z43 (x5_1 : Int) (of_decide_eq_true Yg_) (by have h_ : (x5_1 : Int) < ((x0_1.length : Int) : Int) := of_decide_eq_true Yg_; first | exact h_ | (have e_ := (Kd.Bh HO_0.out).1; omega) | simpa using h_)
     obtain rfl := Gf hM9
     have HP9 := Kd.R_seg HX9.out (x5_1 : Int) (of_decide_eq_true Yg_) (by have h_ : (x5_1 : Int) < ((x0_1.length : Int) : Int) := of_decide_eq_true Yg_; first | exact h_ | (have e_ := (Kd.Bh HO_0.out).1; omega) | simpa using h_) (seg := [.int .i64 x1_1]) (j := 0) hcl9 hcc9 (show 1 ≤ 3 from by decide) (x' := (⟨x1_1, (Ai x0_1 x5_1).f1, (Ai x0_1 x5_1).f2⟩ : S43)) (k43_mkM _ _ _ (⟨x1_1, (Ai x0_1 x5_1).f1, (Ai x0_1 x5_1).f2⟩ : S43) ) (fun _ hk => hk)
     have hx9_0 := hcc9 0 _ rfl
     (try simp only [show (k43).sz = 3 from rfl, Nat.mul_one, Nat.add_zero] at hx9_0)
     have hf9_0 := hfr9 0
     (try simp only [show (k43).sz = 3 from rfl, Nat.mul_one, Nat.add_zero] at hf9_0)
     clear hcl9 hcc9 hfr9 hM9
     go_wp2_with (first | ((with_reducible refine gate_store (t := 3) (p := 16) rfl ?_); refine Eu (t := 3) (p := 16) (v := ?vo_w10) (w1 := (wr.setCell ⟨go5, (x5_1 : Int).toNat * 3, none⟩ (.int .i64 x1_1))) ?hg ?ho ?hn ?hr ?_; (case ho => rfl); (case hg => rfl); (case hn => rfl); (case hr => first | (go_simp; done) | (go_simp; rfl)); intro w10 hw; have hg : wr.grownBy w10 (some go5) := (by rw [hw]; exact HP9.2); have hp_ : Kd.R k43 43 w10 w0.heap.size (fun k_ => (P0_ k_ ∨ w.heap.size ≤ k_)) (.slice (some ⟨go5, 0, none⟩) x0_1.length co8) y486 := (by rw [hw, Ny486.out]; exact HP9.1); clear HP9; have n0_ := Aside0.mk (hp_); have n1_ := Aside0.mk ((by rw [hw]; exact below_set (HB.out) GB5.out : Below w0.heap.size w0 w10)); have n2_ := Aside0.mk (Kept.of_grown (S := (fun k_ => P0_ k_)) hg Ydd_ (fun k_ e_ => (HO_0.out.1 k_ e_))); clear HO_0; clear HB; clear HK; have HO_0 := n0_; have HB := n1_; have HK := n2_; clear n0_ n1_ n2_; clear hg hw hp_; have p6 : 0 ≤ (x5_1 : Int) := of_decide_eq_true Yg_; have q6 : (x5_1 : Int) < ((x0_1.length : Int) : Int) := of_decide_eq_true Yg_; obtain ⟨ce6, hcl6, hM6, hcc6, hfr6⟩ := Kd.R_elem HO_0.out z43 (x5_1 : Int) p6 q6; obtain rfl := Gf hM6; have hx6_0 : w10.cell? ⟨go5, (x5_1 : Int).toNat * 3, none⟩ = some (.int .i64 ((Ai y486 x5_1).f0)) := hcc6 0 _ rfl; have hx6_1 : w10.cell? ⟨go5, (x5_1 : Int).toNat * 3 + 1, none⟩ = some (.int .i64 ((Ai y486 x5_1).f1)) := hcc6 1 _ rfl; have hx6_2 : w10.cell? ⟨go5, (x5_1 : Int).toNat * 3 + 2, none⟩ = some (.int .i64 ((Ai y486 x5_1).f2)) := hcc6 2 _ rfl; have hf6_0 : w10.frozen? ⟨go5, (x5_1 : Int).toNat * 3, none⟩ = false := hfr6 0; have hf6_1 : w10.frozen? ⟨go5, (x5_1 : Int).toNat * 3 + 1, none⟩ = false := hfr6 1; have hf6_2 : w10.frozen? ⟨go5, (x5_1 : Int).toNat * 3 + 2, none⟩ = false := hfr6 2; (try clear hcl6); (try clear hcc6); (try clear hfr6); (try clear hM6); replace p6 := eq_true p6; replace q6 := eq_true q6; have HX11 := Aside0.mk (show Kd.R k43 43 w10 w0.heap.size (fun k_ => (P0_ k_ ∨ w.heap.size ≤ k_)) (.slice (some ⟨go5, 0, none⟩) x0_1.length co8) y486 from Yee_); obtain ⟨ce11, hcl11, hM11, hcc11, hfr11⟩ := Kd.R_elem HX11.out z43 (x5_1 : Int) (of_decide_eq_true Yg_) (by have h_ : (x5_1 : Int) < ((x0_1.length : Int) : Int) := of_decide_eq_true Yg_; first | exact h_ | (have e_ := (Kd.Bh HO_0.out).1; omega) | simpa using h_); obtain rfl := Gf hM11; have HP11 := Kd.R_seg HX11.out (x5_1 : Int) (of_decide_eq_true Yg_) (by have h_ : (x5_1 : Int) < ((x0_1.length : Int) : Int) := of_decide_eq_true Yg_; first | exact h_ | (have e_ := (Kd.Bh HO_0.out).1; omega) | simpa using h_) (seg := [.int .i64 (wrap64 (x1_1 + 1))]) (j := 1) hcl11 hcc11 (show 2 ≤ 3 from by decide) (x' := (⟨(Ai y486 x5_1).f0, wrap64 (x1_1 + 1), (Ai y486 x5_1).f2⟩ : S43)) (k43_mkM _ _ _ (⟨(Ai y486 x5_1).f0, wrap64 (x1_1 + 1), (Ai y486 x5_1).f2⟩ : S43) ) (fun _ hk => hk); have hx11_1 := hcc11 1 _ rfl; (try simp only [show (k43).sz = 3 from rfl, Nat.mul_one, Nat.add_zero] at hx11_1); have hf11_1 := hfr11 1; (try simp only [show (k43).sz = 3 from rfl, Nat.mul_one, Nat.add_zero] at hf11_1); clear hcl11 hcc11 hfr11 hM11) | ((with_reducible refine gate_store (t := 3) (p := 23) rfl ?_); refine Eu (t := 3) (p := 23) (v := ?vo_w12) (w1 := (w10.setCell ⟨go5, (x5_1 : Int).toNat * 3 + 1, none⟩ (.int .i64 (wrap64 (x1_1 + 1))))) ?hg ?ho ?hn ?hr ?_; (case ho => rfl); (case hg => rfl); (case hn => rfl); (case hr => first | (go_simp; done) | (go_simp; rfl)); intro w12 hw; have hg : w10.grownBy w12 (some go5) := (by rw [hw]; exact HP11.2); have hp_ : Kd.R k43 43 w12 w0.heap.size (fun k_ => (P0_ k_ ∨ w.heap.size ≤ k_)) (.slice (some ⟨go5, 0, none⟩) x0_1.length co8) y487 := (by rw [hw, Ny487.out]; exact HP11.1); clear HP11; have n0_ := Aside0.mk (hp_); have n1_ := Aside0.mk ((by rw [hw]; exact below_set (HB.out) GB5.out : Below w0.heap.size w0 w12)); have n2_ := Aside0.mk (Kept.of_grown (S := (fun k_ => P0_ k_)) hg Ydd_ (fun k_ e_ => (HO_0.out.1 k_ e_))); clear HO_0; clear HB; clear HK; have HO_0 := n0_; have HB := n1_; have HK := n2_; clear n0_ n1_ n2_; clear hg hw hp_; have p7 : 0 ≤ (x5_1 : Int) := of_decide_eq_true Yg_; have q7 : (x5_1 : Int) < ((x0_1.length : Int) : Int) := of_decide_eq_true Yg_; obtain ⟨ce7, hcl7, hM7, hcc7, hfr7⟩ := Kd.R_elem HO_0.out z43 (x5_1 : Int) p7 q7; obtain rfl := Gf hM7; have hx7_0 : w12.cell? ⟨go5, (x5_1 : Int).toNat * 3, none⟩ = some (.int .i64 ((Ai y487 x5_1).f0)) := hcc7 0 _ rfl; have hx7_1 : w12.cell? ⟨go5, (x5_1 : Int).toNat * 3 + 1, none⟩ = some (.int .i64 ((Ai y487 x5_1).f1)) := hcc7 1 _ rfl; have hx7_2 : w12.cell? ⟨go5, (x5_1 : Int).toNat * 3 + 2, none⟩ = some (.int .i64 ((Ai y487 x5_1).f2)) := hcc7 2 _ rfl; have hf7_0 : w12.frozen? ⟨go5, (x5_1 : Int).toNat * 3, none⟩ = false := hfr7 0; have hf7_1 : w12.frozen? ⟨go5, (x5_1 : Int).toNat * 3 + 1, none⟩ = false := hfr7 1; have hf7_2 : w12.frozen? ⟨go5, (x5_1 : Int).toNat * 3 + 2, none⟩ = false := hfr7 2; (try clear hcl7); (try clear hcc7); (try clear hfr7); (try clear hM7); replace p7 := eq_true p7; replace q7 := eq_true q7; have HX13 := Aside0.mk (show Kd.R k43 43 w12 w0.heap.size (fun k_ => (P0_ k_ ∨ w.heap.size ≤ k_)) (.slice (some ⟨go5, 0, none⟩) x0_1.length co8) y487 from Yee_); obtain ⟨ce13, hcl13, hM13, hcc13, hfr13⟩ := Kd.R_elem HX13.out z43 (x5_1 : Int) (of_decide_eq_true Yg_) (by have h_ : (x5_1 : Int) < ((x0_1.length : Int) : Int) := of_decide_eq_true Yg_; first | exact h_ | (have e_ := (Kd.Bh HO_0.out).1; omega) | simpa using h_); obtain rfl := Gf hM13; have HP13 := Kd.R_seg HX13.out (x5_1 : Int) (of_decide_eq_true Yg_) (by have h_ : (x5_1 : Int) < ((x0_1.length : Int) : Int) := of_decide_eq_true Yg_; first | exact h_ | (have e_ := (Kd.Bh HO_0.out).1; omega) | simpa using h_) (seg := [.int .i64 (wrap64 ((wrap64 (x1_1 + 1)) + 1))]) (j := 2) hcl13 hcc13 (show 3 ≤ 3 from by decide) (x' := (⟨(Ai y487 x5_1).f0, (Ai y487 x5_1).f1, wrap64 ((wrap64 (x1_1 + 1)) + 1)⟩ : S43)) (k43_mkM _ _ _ (⟨(Ai y487 x5_1).f0, (Ai y487 x5_1).f1, wrap64 ((wrap64 (x1_1 + 1)) + 1)⟩ : S43) ) (fun _ hk => hk); have hx13_2 := hcc13 2 _ rfl; (try simp only [show (k43).sz = 3 from rfl, Nat.mul_one, Nat.add_zero] at hx13_2); have hf13_2 := hfr13 2; (try simp only [show (k43).sz = 3 from rfl, Nat.mul_one, Nat.add_zero] at hf13_2); clear hcl13 hcc13 hfr13 hM13) | ((with_reducible refine gate_store (t := 3) (p := 30) rfl ?_); refine Eu (t := 3) (p := 30) (v := ?vo_w14) (w1 := (w12.setCell ⟨go5, (x5_1 : Int).toNat * 3 + 2, none⟩ (.int .i64 (wrap64 ((wrap64 (x1_1 + 1)) + 1))))) ?hg ?ho ?hn ?hr ?_; (case ho => rfl); (case hg => rfl); (case hn => rfl); (case hr => first | (go_simp; done) | (go_simp; rfl)); intro w14 hw; have hg : w12.grownBy w14 (some go5) := (by rw [hw]; exact HP13.2); have hp_ : Kd.R k43 43 w14 w0.heap.size (fun k_ => (P0_ k_ ∨ w.heap.size ≤ k_)) (.slice (some ⟨go5, 0, none⟩) x0_1.length co8) y488 := (by rw [hw, Ny488.out]; exact HP13.1); clear HP13; have n0_ := Aside0.mk (hp_); have n1_ := Aside0.mk ((by rw [hw]; exact below_set (HB.out) GB5.out : Below w0.heap.size w0 w14)); have n2_ := Aside0.mk (Kept.of_grown (S := (fun k_ => P0_ k_)) hg Ydd_ (fun k_ e_ => (HO_0.out.1 k_ e_))); clear HO_0; clear HB; clear HK; have HO_0 := n0_; have HB := n1_; have HK := n2_; clear n0_ n1_ n2_; clear hg hw hp_))
     go_roundg k1
     case measure => have := HK1.out; omega
     case rel => exact ⟨(y488), (wrap64 ((wrap64 ((wrap64 (x1_1 + 1)) + 1)) + 1)), (wrap64 (x5_1 + 1)), Ybb_, Ybb_, H', ⟨by have := HK1.out; omega⟩, ⟨by (with_reducible repeat (first | apply Kd.R_alloc | apply Kd.R_drewN | apply Kd.R_drew)); exact HO_0.out⟩, ⟨by repeat (first | (with_reducible first | exact HK.out | apply Kept.alloc | apply Kept.drewN | apply Kept.drew) | exact HK.out)⟩, ⟨by repeat (first | (with_reducible first | exact HB.out | apply below_alloc | apply pw_below_drewN | apply below_drew1) | exact HB.out)⟩⟩
    ·rw [if_neg c4] at H
     exact absurd H (by simp)
   ·rw [if_neg c3] at H
    have c3b0 : decide (x5_1 < (x0_1.length : Int)) = false := decide_eq_false c3
    clear c3
    simp only [Option.some.injEq, Prod.mk.injEq] at H
    obtain ⟨rfl, rfl⟩ := H
    obtain ⟨Ao15, co15, eo15⟩ := Kd.Di HO_0.out
    subst eo15
    go_wp2
    go_ret
    exact ⟨by first | rfl | (simp [errW_none, errW_some] <;> rfl) | (simp [*, errW_none, errW_some] <;> rfl), by (with_reducible repeat (first | apply Kd.R_alloc | apply Kd.R_drewN | apply Kd.R_drew)); exact HO_0.out, by repeat (first | (with_reducible first | exact HB.out | apply below_alloc | apply pw_below_drewN | apply below_drew1) | exact HB.out), by repeat (first | (with_reducible first | exact HK.out | apply Kept.alloc | apply Kept.drewN | apply Kept.drew) | exact HK.out)⟩
def Bo.l0 : Nat → List (S43) → Int → Int → Option (Int)
 | 0, _, _, _ => none
 | k + 1, x0, x1, x5 => if x5 < (x0.length : Int) then (if 0 ≤ x5 then (if ((Ai x0 x5).f0) = x1 then (if ((Ai x0 x5).f1) = (wrap64 (x1 + 1)) then (if ((Ai x0 x5).f2) = (wrap64 ((wrap64 (x1 + 1)) + 1)) then (Bo.l0 k x0 (wrap64 ((wrap64 ((wrap64 (x1 + 1)) + 1)) + 1)) (wrap64 (x5 + 1))) else (some (-1))) else (some (-1))) else (some (-1))) else (none)) else (some x1)
def Bo.f (k : Nat) (l0 : List (S43)) (a1 : Int) : Option (Int) := Bo.l0 k l0 a1 0
theorem Bo.mono_l : ∀ k, (∀ y0 y1 y2, LeO (Bo.l0 k y0 y1 y2) (Bo.l0 (k + 1) y0 y1 y2))
 | 0 => fun _ _ _ r h => by simp [Bo.l0] at h
 | k + 1 => by
  have ih0 := Bo.mono_l k
  ·intro y0 y1 y2
   unfold Bo.l0
   repeat' first
   | (with_reducible exact ih0 _ _ _)
   | (with_reducible exact LeO.refl _)
   | (with_reducible exact LeO.none _)
   | (with_reducible refine LeO.ite ?_ ?_)
   | (with_reducible refine LeO.bind ?_ (fun _ => ?_))
   | exact ih0 _ _ _
   | exact LeO.none _
   | refine LeO.ite ?_ ?_
   | refine LeO.bind ?_ (fun _ => ?_)
theorem Bo.mono : ∀ a0 a1 k, LeO (Bo.f k a0 a1) (Bo.f (k + 1) a0 a1) := by
 intro a0 a1 k
 have ih0 := Bo.mono_l k
 unfold Bo.f
 repeat' first
   | (with_reducible exact ih0 _ _ _)
   | (with_reducible exact LeO.refl _)
   | (with_reducible exact LeO.none _)
   | (with_reducible refine LeO.ite ?_ ?_)
   | (with_reducible refine LeO.bind ?_ (fun _ => ?_))
   | exact ih0 _ _ _
   | exact LeO.none _
   | refine LeO.ite ?_ ?_
   | refine LeO.bind ?_ (fun _ => ?_)
set_option maxHeartbeats 8000000 in
set_option maxRecDepth 100000 in
theorem Bo.calls (k : Nat) (A0 : Option Addr) (c0 : Nat) (l0 : List (S43)) (a1 : Int) (r : Int) (w : World) (hr0 : Kd.C k43 w A0 l0.length l0) (hc0 : l0.length ≤ c0) (h : Bo.f k l0 a1 = some r) :
  Calls Try.prog 29 #[.slice A0 l0.length c0, .int .i64 a1] w fun e w' => e = .returned (.int .i64 r) ∧ Drawn0 w w' := by
 have HR0 := Aside0.mk hr0
 have HC0 := Aside0.mk hc0
 clear hr0 hc0
 have H : (Bo.l0 k l0 a1 0) = some r := h
 clear h
 have H' := Aside0.mk H
 clear H
 go_enter Try.func29, Try.ntmps29
 go_wp2
 go_loopg [1, 5] k (fun kq v1 v5 w' => ∃ (x1_1 : Int) (x5_1 : Int), v1 = .int .i64 x1_1 ∧ v5 = .int .i64 x5_1 ∧ Aside0 (Bo.l0 kq l0 x1_1 x5_1 = some r) ∧ Aside0 (kq ≤ k) ∧ Drawn0 w w')
 case atStart => exact ⟨(a1), (0), Ybb_, Ybb_, H', ⟨Nat.le_refl _⟩, by repeat (first | exact Drawn0.refl _ | apply Drawn0.step)⟩
 case round =>
  clear H'
  try clear c2; try clear p2
  obtain ⟨x1_1, x5_1, rfl, rfl, HA, HK1, ⟨m1, rfl⟩⟩ := hrel
  cases gk with
  | zero => exact absurd HA.out (by simp [Bo.l0])
  | succ k1 =>
   have H := HA.out
   clear HA
   simp only [Bo.l0] at H
   by_cases c3 : x5_1 < (l0.length : Int)
   ·rw [if_pos c3] at H
    have c3b0 : decide (x5_1 < (l0.length : Int)) = true := decide_eq_true c3
    clear c3
    by_cases c4 : 0 ≤ x5_1
    ·rw [if_pos c4] at H
     have c4b0 : decide (0 ≤ x5_1) = true := decide_eq_true c4
     clear c4
     by_cases c5 : ((Ai l0 x5_1).f0) = x1_1
     ·rw [if_pos c5] at H
      have c5b0 : (((Ai l0 x5_1).f0) == x1_1) = true := beq_iff_eq.mpr c5
      have c5b1 : (((Ai l0 x5_1).f0) != x1_1) = false := bne_eq_false_iff_eq.mpr c5
      clear c5
      by_cases c6 : ((Ai l0 x5_1).f1) = (wrap64 (x1_1 + 1))
      ·rw [if_pos c6] at H
       have c6b0 : (((Ai l0 x5_1).f1) == (wrap64 (x1_1 + 1))) = true := beq_iff_eq.mpr c6
       have c6b1 : (((Ai l0 x5_1).f1) != (wrap64 (x1_1 + 1))) = false := bne_eq_false_iff_eq.mpr c6
       clear c6
       by_cases c7 : ((Ai l0 x5_1).f2) = (wrap64 ((wrap64 (x1_1 + 1)) + 1))
       ·rw [if_pos c7] at H
        have c7b0 : (((Ai l0 x5_1).f2) == (wrap64 ((wrap64 (x1_1 + 1)) + 1))) = true := beq_iff_eq.mpr c7
        have c7b1 : (((Ai l0 x5_1).f2) != (wrap64 ((wrap64 (x1_1 + 1)) + 1))) = false := bne_eq_false_iff_eq.mpr c7
        clear c7
        have H' := Aside0.mk H
        clear H
        have p489 : 0 ≤ (x5_1 : Int) := of_decide_eq_true Yg_
        have q489 : x5_1 < (l0.length : Int) := of_decide_eq_true Yg_
        obtain ⟨ad489, e489, hx489_0, hx489_1, hx489_2⟩ := Fj HR0.out x5_1 p489 q489
        cases e489
        replace p489 := eq_true p489
        replace q489 := eq_true q489
        have p490 : 0 ≤ (x5_1 : Int) := of_decide_eq_true Yg_
        have q490 : x5_1 < (l0.length : Int) := of_decide_eq_true Yg_
        obtain ⟨ad490, e490, hx490_0, hx490_1, hx490_2⟩ := Fj HR0.out x5_1 p490 q490
        obtain rfl : ad489 = ad490 := (by injection e490)
        replace p490 := eq_true p490
        replace q490 := eq_true q490
        have p491 : 0 ≤ (x5_1 : Int) := of_decide_eq_true Yg_
        have q491 : x5_1 < (l0.length : Int) := of_decide_eq_true Yg_
        obtain ⟨ad491, e491, hx491_0, hx491_1, hx491_2⟩ := Fj HR0.out x5_1 p491 q491
        obtain rfl : ad489 = ad491 := (by injection e491)
        replace p491 := eq_true p491
        replace q491 := eq_true q491
        go_wp2
        go_roundg k1
        case measure => have := HK1.out; omega
        case rel => exact ⟨(wrap64 ((wrap64 ((wrap64 (x1_1 + 1)) + 1)) + 1)), (wrap64 (x5_1 + 1)), Ybb_, Ybb_, H', ⟨by have := HK1.out; omega⟩, by repeat (first | exact Drawn0.refl _ | apply Drawn0.step)⟩
       ·rw [if_neg c7] at H
        have c7b0 : (((Ai l0 x5_1).f2) == (wrap64 ((wrap64 (x1_1 + 1)) + 1))) = false := beq_eq_false_iff_ne.mpr c7
        have c7b1 : (((Ai l0 x5_1).f2) != (wrap64 ((wrap64 (x1_1 + 1)) + 1))) = true := bne_iff_ne.mpr c7
        obtain rfl := Option.some.inj H
        have p489 : 0 ≤ (x5_1 : Int) := of_decide_eq_true Yg_
        have q489 : x5_1 < (l0.length : Int) := of_decide_eq_true Yg_
        obtain ⟨ad489, e489, hx489_0, hx489_1, hx489_2⟩ := Fj HR0.out x5_1 p489 q489
        cases e489
        replace p489 := eq_true p489
        replace q489 := eq_true q489
        have p490 : 0 ≤ (x5_1 : Int) := of_decide_eq_true Yg_
        have q490 : x5_1 < (l0.length : Int) := of_decide_eq_true Yg_
        obtain ⟨ad490, e490, hx490_0, hx490_1, hx490_2⟩ := Fj HR0.out x5_1 p490 q490
        obtain rfl : ad489 = ad490 := (by injection e490)
        replace p490 := eq_true p490
        replace q490 := eq_true q490
        have p491 : 0 ≤ (x5_1 : Int) := of_decide_eq_true Yg_
        have q491 : x5_1 < (l0.length : Int) := of_decide_eq_true Yg_
        obtain ⟨ad491, e491, hx491_0, hx491_1, hx491_2⟩ := Fj HR0.out x5_1 p491 q491
        obtain rfl : ad489 = ad491 := (by injection e491)
        replace p491 := eq_true p491
        replace q491 := eq_true q491
        go_wp2
        go_ret
        exact ⟨by first | rfl | (simp; done) | (simp [*]; done), by repeat (first | exact Drawn0.refl _ | apply Drawn0.step)⟩
      ·rw [if_neg c6] at H
       have c6b0 : (((Ai l0 x5_1).f1) == (wrap64 (x1_1 + 1))) = false := beq_eq_false_iff_ne.mpr c6
       have c6b1 : (((Ai l0 x5_1).f1) != (wrap64 (x1_1 + 1))) = true := bne_iff_ne.mpr c6
       obtain rfl := Option.some.inj H
       have p489 : 0 ≤ (x5_1 : Int) := of_decide_eq_true Yg_
       have q489 : x5_1 < (l0.length : Int) := of_decide_eq_true Yg_
       obtain ⟨ad489, e489, hx489_0, hx489_1, hx489_2⟩ := Fj HR0.out x5_1 p489 q489
       cases e489
       replace p489 := eq_true p489
       replace q489 := eq_true q489
       have p490 : 0 ≤ (x5_1 : Int) := of_decide_eq_true Yg_
       have q490 : x5_1 < (l0.length : Int) := of_decide_eq_true Yg_
       obtain ⟨ad490, e490, hx490_0, hx490_1, hx490_2⟩ := Fj HR0.out x5_1 p490 q490
       obtain rfl : ad489 = ad490 := (by injection e490)
       replace p490 := eq_true p490
       replace q490 := eq_true q490
       go_wp2
       go_ret
       exact ⟨by first | rfl | (simp; done) | (simp [*]; done), by repeat (first | exact Drawn0.refl _ | apply Drawn0.step)⟩
     ·rw [if_neg c5] at H
      have c5b0 : (((Ai l0 x5_1).f0) == x1_1) = false := beq_eq_false_iff_ne.mpr c5
      have c5b1 : (((Ai l0 x5_1).f0) != x1_1) = true := bne_iff_ne.mpr c5
      obtain rfl := Option.some.inj H
      have p489 : 0 ≤ (x5_1 : Int) := of_decide_eq_true Yg_
      have q489 : x5_1 < (l0.length : Int) := of_decide_eq_true Yg_
      obtain ⟨ad489, e489, hx489_0, hx489_1, hx489_2⟩ := Fj HR0.out x5_1 p489 q489
      cases e489
      replace p489 := eq_true p489
      replace q489 := eq_true q489
      go_wp2
      go_ret
      exact ⟨by first | rfl | (simp; done) | (simp [*]; done), by repeat (first | exact Drawn0.refl _ | apply Drawn0.step)⟩
    ·rw [if_neg c4] at H
     exact absurd H (by simp)
   ·rw [if_neg c3] at H
    have c3b0 : decide (x5_1 < (l0.length : Int)) = false := decide_eq_false c3
    clear c3
    obtain rfl := Option.some.inj H
    go_wp2
    go_ret
    exact ⟨by first | rfl | (simp; done) | (simp [*]; done), by repeat (first | exact Drawn0.refl _ | apply Drawn0.step)⟩
def Dp.f (k : Nat) (l0_0 : List (List Int)) (a0_1 : Int) (l0_2 : List (List Int)) : Option (Bool) := ((Dj.f k l0_0 a0_1 l0_2 1048576).bind fun t4 => (if t4 < 0 then some true else ((Cm.f k l0_0 a0_1 l0_2).bind fun t15 => ((Aa.f k t15.1 t15.2.1 t15.2.2).bind fun t22 => ((Cm.f k l0_0 a0_1 l0_2).bind fun t33 => ((impl_PossibleOrders.f k t33.1 t33.2.1 t33.2.2).bind fun t42 => ((Aj.f k t42.1 t22.1).bind fun t45 => (if t45 = true then (if t42.2 = t22.2 then ((Cm.f k l0_0 a0_1 l0_2).bind fun t56 => ((Dz.f k t33.1 t33.2.1 t33.2.2 t56.1 t56.2.1 t56.2.2).bind fun t59 => (if t59 = true then ((Dv.f k t33.1 t33.2.1 t33.2.2 1).bind fun t64 => ((Aj.f k t42.1 t22.1).bind fun t67 => (if t67 = true then (if ¬ t64.1 < 0 then (if t42.2 = t22.2 then ((Bi.f k t42.1 1).bind fun t71 => ((Bo.f k t71.2 1).bind fun t74 => (if ¬ t74 < 0 then (if t74 = t71.1 then ((Cm.f k l0_0 a0_1 l0_2).bind fun t85 => ((impl_PossibleOrders.f k t85.1 t85.2.1 t85.2.2).bind fun t92 => ((Aj.f k t92.1 t22.1).bind fun t95 => (if t95 = true then (if t92.2 = t22.2 then ((Bo.f k t71.2 1).bind fun t98 => (if ¬ t98 < 0 then (if t98 = t71.1 then some true else none) else none)) else none) else none)))) else none) else none))) else none) else none) else none))) else none))) else none) else none))))))))
set_option maxHeartbeats 8000000 in
set_option maxRecDepth 100000 in
theorem Dp.calls (k : Nat) (A0_0 : Option Addr) (c0_0 : Nat) (l0_0 : List (List Int)) (a0_1 : Int) (A0_2 : Option Addr) (c0_2 : Nat) (l0_2 : List (List Int)) (r : Bool) (w : World) (hr0_0 : Kd.C (Kd.slice 3 (Kd.int .i64)) w A0_0 l0_0.length l0_0) (hc0_0 : l0_0.length ≤ c0_0) (hr0_2 : Kd.C (Kd.slice 3 (Kd.int .i64)) w A0_2 l0_2.length l0_2) (hc0_2 : l0_2.length ≤ c0_2) (h : Dp.f k l0_0 a0_1 l0_2 = some r) (_hr : r = true) :
  Calls Try.prog 7 #[.agg #[.slice A0_0 l0_0.length c0_0, .int .i64 a0_1, .slice A0_2 l0_2.length c0_2]] w fun e w' => e = .returned (.bool r) ∧ Below w.heap.size w w' := by
 have hu28 := Try.underlying28
 have hu34 := Try.underlying34
 have HR0_0 := Aside0.mk hr0_0
 have HC0_0 := Aside0.mk hc0_0
 clear hr0_0 hc0_0
 have HR0_2 := Aside0.mk hr0_2
 have HC0_2 := Aside0.mk hc0_2
 clear hr0_2 hc0_2
 have HB := Aside0.mk (Below.refl w.heap.size w)
 unfold Dp.f at h
 replace h := Option.bind_eq_some_iff.mp h
 obtain ⟨r3, a_, h⟩ := h
 have A5 := Aside0.mk a_
 clear a_
 by_cases c_ : r3 < 0
 ·rw [if_pos c_] at h
  obtain rfl := Option.some.inj h
  have cb1 : decide (r3 < 0) = true := decide_eq_true c_
  clear c_
  go_enter Try.func7, Try.ntmps7
  go_wp2_with (first | ((with_reducible refine gate_dst (N := 1) rfl ?_); refine box_event ?hg (N := 1) ?hd (cs := #[.slice A0_0 l0_0.length c0_0, .int .i64 a0_1, .slice A0_2 l0_2.length c0_2]) (t := 28) ?hr ?_; (case hd => rfl); (case hg => rfl); (case hr => first | (go_simp; done) | (go_simp; rfl)); intro gb2 hg w100 hbox hb; (try clear hzgb2_0 hzgb2_1 hzgb2_2); have GEgb2 := Aside0.mk (show w.heap.size ≤ gb2 by rw [hg]; exact below_size Yb_); have BK101 := Aside0.mk hbox; have HSw100 := Aside0.mk (show w.heap.size ≤ w100.heap.size from hb.size); have m_ := Aside0.mk (below_step HB.out hb); clear HB; have HB := m_; clear m_; clear hb hbox hg; have hzgb2_0 : w100.cell? ⟨gb2, 0, none⟩ = some (.slice A0_0 l0_0.length c0_0) := (blk_cell BK101.out 0).trans rfl; have hzgb2_1 : w100.cell? ⟨gb2, 1, none⟩ = some (.int .i64 a0_1) := (blk_cell BK101.out 1).trans rfl; have hzgb2_2 : w100.cell? ⟨gb2, 2, none⟩ = some (.slice A0_2 l0_2.length c0_2) := (blk_cell BK101.out 2).trans rfl) | ((with_reducible refine gate_callee (f := 10) rfl ?_); (try (refine gate_guard (by rfl) ?_; dsimp only)); refine goesL_ (some 16) rfl rfl Try.func10 Yba_ rfl #[.agg #[.slice A0_0 l0_0.length c0_0, .int .i64 a0_1, .slice A0_2 l0_2.length c0_2], .int .i64 1048576] rfl Ye_ ?_; (with_reducible refine (Dj.calls k _ _ l0_0 a0_1 _ _ l0_2 1048576 r3 w100 (Kd.C_below HR0_0.out Yb_) HC0_0.out (Kd.C_below HR0_2.out Yb_) HC0_2.out A5.out).mono ?_); rintro e w102 ⟨rfl, hb⟩; (try clear hzgb2_0 hzgb2_1 hzgb2_2); refine ⟨_, rfl, ?_⟩; have m_ := Aside0.mk (blk_below BK101.out hb); clear BK101; have BK101 := m_; clear m_; have HSw102 := Aside0.mk (show w100.heap.size ≤ w102.heap.size from hb.size); have m_ := Aside0.mk (below_step HB.out hb); clear HB; have HB := m_; clear m_; clear hb; have hzgb2_0 : w102.cell? ⟨gb2, 0, none⟩ = some (.slice A0_0 l0_0.length c0_0) := (blk_cell BK101.out 0).trans rfl; have hzgb2_1 : w102.cell? ⟨gb2, 1, none⟩ = some (.int .i64 a0_1) := (blk_cell BK101.out 1).trans rfl; have hzgb2_2 : w102.cell? ⟨gb2, 2, none⟩ = some (.slice A0_2 l0_2.length c0_2) := (blk_cell BK101.out 2).trans rfl))
  repeat (go_quiet (fail); try go_wp2)
  go_ret
  exact ⟨rfl, by repeat (first | (with_reducible first | exact HB.out | apply below_alloc | apply pw_below_drewN | apply below_drew1) | exact HB.out)⟩
 ·rw [if_neg c_] at h
  have cb1 : decide (r3 < 0) = false := decide_eq_false c_
  clear c_
  replace h := Option.bind_eq_some_iff.mp h
  obtain ⟨⟨r6, r10, r11⟩, a_, h⟩ := h
  have A16 := Aside0.mk a_
  clear a_
  dsimp only at h
  replace h := Option.bind_eq_some_iff.mp h
  obtain ⟨⟨r17, r21⟩, a_, h⟩ := h
  have A23 := Aside0.mk a_
  clear a_
  dsimp only at h
  replace h := Option.bind_eq_some_iff.mp h
  obtain ⟨⟨r24, r28, r29⟩, a_, h⟩ := h
  have A34 := Aside0.mk a_
  clear a_
  dsimp only at h
  replace h := Option.bind_eq_some_iff.mp h
  obtain ⟨⟨r37, r41⟩, a_, h⟩ := h
  have A43 := Aside0.mk a_
  clear a_
  dsimp only at h
  replace h := Option.bind_eq_some_iff.mp h
  obtain ⟨r44, a_, h⟩ := h
  have A46 := Aside0.mk a_
  clear a_
  replace h := Go.Proofs.YtnggfglmjdiaaaaOwn.Es h
  have c_ := h.1
  replace h := h.2
  subst c_
  replace h := Go.Proofs.YtnggfglmjdiaaaaOwn.Es h
  have c_ := h.1
  replace h := h.2
  subst c_
  replace h := Option.bind_eq_some_iff.mp h
  obtain ⟨⟨r47, r51, r52⟩, a_, h⟩ := h
  have A57 := Aside0.mk a_
  clear a_
  dsimp only at h
  replace h := Option.bind_eq_some_iff.mp h
  obtain ⟨r58, a_, h⟩ := h
  have A60 := Aside0.mk a_
  clear a_
  replace h := Go.Proofs.YtnggfglmjdiaaaaOwn.Es h
  have c_ := h.1
  replace h := h.2
  subst c_
  replace h := Option.bind_eq_some_iff.mp h
  obtain ⟨⟨r61, r62, r63⟩, a_, h⟩ := h
  have A65 := Aside0.mk a_
  clear a_
  dsimp only at h
  replace h := Option.bind_eq_some_iff.mp h
  obtain ⟨r66, a_, h⟩ := h
  have A68 := Aside0.mk a_
  clear a_
  replace h := Go.Proofs.YtnggfglmjdiaaaaOwn.Es h
  have c_ := h.1
  replace h := h.2
  subst c_
  replace h := Go.Proofs.YtnggfglmjdiaaaaOwn.Es h
  have c_ := h.1
  replace h := h.2
  have cb2 : decide (r61 < 0) = false := decide_eq_false c_
  clear c_
  replace h := Go.Proofs.YtnggfglmjdiaaaaOwn.Es h
  have c_ := h.1
  replace h := h.2
  clear c_
  replace h := Option.bind_eq_some_iff.mp h
  obtain ⟨⟨r69, r70⟩, a_, h⟩ := h
  have A72 := Aside0.mk a_
  clear a_
  dsimp only at h
  replace h := Option.bind_eq_some_iff.mp h
  obtain ⟨r73, a_, h⟩ := h
  have A75 := Aside0.mk a_
  clear a_
  replace h := Go.Proofs.YtnggfglmjdiaaaaOwn.Es h
  have c_ := h.1
  replace h := h.2
  have cb3 : decide (r73 < 0) = false := decide_eq_false c_
  clear c_
  replace h := Go.Proofs.YtnggfglmjdiaaaaOwn.Es h
  have c_ := h.1
  replace h := h.2
  subst c_
  replace h := Option.bind_eq_some_iff.mp h
  obtain ⟨⟨r76, r80, r81⟩, a_, h⟩ := h
  have A86 := Aside0.mk a_
  clear a_
  dsimp only at h
  replace h := Option.bind_eq_some_iff.mp h
  obtain ⟨⟨r87, r91⟩, a_, h⟩ := h
  have A93 := Aside0.mk a_
  clear a_
  dsimp only at h
  replace h := Option.bind_eq_some_iff.mp h
  obtain ⟨r94, a_, h⟩ := h
  have A96 := Aside0.mk a_
  clear a_
  replace h := Go.Proofs.YtnggfglmjdiaaaaOwn.Es h
  have c_ := h.1
  replace h := h.2
  subst c_
  replace h := Go.Proofs.YtnggfglmjdiaaaaOwn.Es h
  have c_ := h.1
  replace h := h.2
  subst c_
  replace h := Option.bind_eq_some_iff.mp h
  obtain ⟨r97, a_, h⟩ := h
  have A99 := Aside0.mk a_
  clear a_
  replace h := Go.Proofs.YtnggfglmjdiaaaaOwn.Es h
  have c_ := h.1
  replace h := h.2
  have cb4 : decide (r97 < 0) = false := decide_eq_false c_
  clear c_
  replace h := Go.Proofs.YtnggfglmjdiaaaaOwn.Es h
  have c_ := h.1
  replace h := h.2
  subst c_
  obtain rfl := Option.some.inj h
  go_enter Try.func7, Try.ntmps7
  go_upto_region 10 with (first | ((with_reducible refine gate_dst (N := 1) rfl ?_); refine box_event ?hg (N := 1) ?hd (cs := #[.slice A0_0 l0_0.length c0_0, .int .i64 a0_1, .slice A0_2 l0_2.length c0_2]) (t := 28) ?hr ?_; (case hd => rfl); (case hg => rfl); (case hr => first | (go_simp; done) | (go_simp; rfl)); intro gb2 hg w100 hbox hb; (try clear hzgb2_0 hzgb2_1 hzgb2_2); have GEgb2 := Aside0.mk (show w.heap.size ≤ gb2 by rw [hg]; exact below_size Yb_); have BK101 := Aside0.mk hbox; have HSw100 := Aside0.mk (show w.heap.size ≤ w100.heap.size from hb.size); have m_ := Aside0.mk (below_step HB.out hb); clear HB; have HB := m_; clear m_; clear hb hbox hg; have hzgb2_0 : w100.cell? ⟨gb2, 0, none⟩ = some (.slice A0_0 l0_0.length c0_0) := (blk_cell BK101.out 0).trans rfl; have hzgb2_1 : w100.cell? ⟨gb2, 1, none⟩ = some (.int .i64 a0_1) := (blk_cell BK101.out 1).trans rfl; have hzgb2_2 : w100.cell? ⟨gb2, 2, none⟩ = some (.slice A0_2 l0_2.length c0_2) := (blk_cell BK101.out 2).trans rfl) | ((with_reducible refine gate_callee (f := 10) rfl ?_); (try (refine gate_guard (by rfl) ?_; dsimp only)); refine goesL_ (some 16) rfl rfl Try.func10 Yba_ rfl #[.agg #[.slice A0_0 l0_0.length c0_0, .int .i64 a0_1, .slice A0_2 l0_2.length c0_2], .int .i64 1048576] rfl Ye_ ?_; (with_reducible refine (Dj.calls k _ _ l0_0 a0_1 _ _ l0_2 1048576 r3 w100 (Kd.C_below HR0_0.out Yb_) HC0_0.out (Kd.C_below HR0_2.out Yb_) HC0_2.out A5.out).mono ?_); rintro e w102 ⟨rfl, hb⟩; (try clear hzgb2_0 hzgb2_1 hzgb2_2); refine ⟨_, rfl, ?_⟩; have m_ := Aside0.mk (blk_below BK101.out hb); clear BK101; have BK101 := m_; clear m_; have HSw102 := Aside0.mk (show w100.heap.size ≤ w102.heap.size from hb.size); have m_ := Aside0.mk (below_step HB.out hb); clear HB; have HB := m_; clear m_; clear hb; have hzgb2_0 : w102.cell? ⟨gb2, 0, none⟩ = some (.slice A0_0 l0_0.length c0_0) := (blk_cell BK101.out 0).trans rfl; have hzgb2_1 : w102.cell? ⟨gb2, 1, none⟩ = some (.int .i64 a0_1) := (blk_cell BK101.out 1).trans rfl; have hzgb2_2 : w102.cell? ⟨gb2, 2, none⟩ = some (.slice A0_2 l0_2.length c0_2) := (blk_cell BK101.out 2).trans rfl) | ((with_reducible refine gate_callee (f := 12) rfl ?_); (try (refine gate_guard (by rfl) ?_; dsimp only)); refine goesL_ (some 21) rfl rfl Try.func12 Yba_ rfl #[.agg #[.slice A0_0 l0_0.length c0_0, .int .i64 a0_1, .slice A0_2 l0_2.length c0_2]] rfl Ye_ ?_; (with_reducible refine (Cm.calls2 k _ _ l0_0 a0_1 _ _ l0_2 r6 r10 r11 w102 (Kd.C_below HR0_0.out Yb_) HC0_0.out (Kd.C_below HR0_2.out Yb_) HC0_2.out A16.out).mono ?_); rintro e w103 ⟨Pw103, v106, v107, rfl, ho104, ho105, hb⟩; (try clear hzgb2_0 hzgb2_1 hzgb2_2); refine ⟨_, rfl, ?_⟩; have m_ := Aside0.mk (blk_below BK101.out hb); clear BK101; have BK101 := m_; clear m_; have HSw103 := Aside0.mk (show w102.heap.size ≤ w103.heap.size from hb.size); have m_ := (show Kd.S (Kd.slice 3 (Kd.int .i64)) 73 w103 w.heap.size (fun k_ => (w102.heap.size ≤ k_ ∧ k_ < w103.heap.size) ∧ Pw103 k_) v106 r6 from Kd.S_mono (Kd.S_lower (Kd.Eg ho104) (below_size Yb_)) (fun k_ hk_ => ⟨⟨hk_.2.1, hk_.2.2.1⟩, hk_.1⟩)); obtain ⟨A7, c8, e_⟩ := Kd.S_slice m_; subst e_; have HO9 := Aside0.mk m_; clear m_ ho104; have m_ := (show Kd.S (Kd.slice 3 (Kd.int .i64)) 73 w103 w.heap.size (fun k_ => (w102.heap.size ≤ k_ ∧ k_ < w103.heap.size) ∧ ¬ Pw103 k_) v107 r11 from Kd.S_mono (Kd.S_lower (Kd.Eg ho105) (below_size Yb_)) (fun k_ hk_ => ⟨⟨hk_.2.1, hk_.2.2.1⟩, hk_.1⟩)); obtain ⟨A12, c13, e_⟩ := Kd.S_slice m_; subst e_; have HO14 := Aside0.mk m_; clear m_ ho105; have m_ := Aside0.mk (below_step HB.out hb); clear HB; have HB := m_; clear m_; clear hb; have hzgb2_0 : w103.cell? ⟨gb2, 0, none⟩ = some (.slice A0_0 l0_0.length c0_0) := (blk_cell BK101.out 0).trans rfl; have hzgb2_1 : w103.cell? ⟨gb2, 1, none⟩ = some (.int .i64 a0_1) := (blk_cell BK101.out 1).trans rfl; have hzgb2_2 : w103.cell? ⟨gb2, 2, none⟩ = some (.slice A0_2 l0_2.length c0_2) := (blk_cell BK101.out 2).trans rfl) | ((with_reducible refine gate_callee (f := 25) rfl ?_); (try (refine gate_guard (by rfl) ?_; dsimp only)); refine goesL_ (some 22) rfl rfl Try.func25 Yba_ rfl #[.agg #[.slice A7 r6.length c8, .int .i64 r10, .slice A12 r11.length c13]] rfl Ye_ ?_; (with_reducible refine (Aa.calls k _ _ r6 r10 _ _ r11 r17 r91 w103 (Kd.Dc HO9.out).2.2 (Nat.le_trans (Nat.le_of_eq (Kd.Dc HO9.out).1.symm) (Kd.Dc HO9.out).2.1) (Kd.Dc HO14.out).2.2 (Nat.le_trans (Nat.le_of_eq (Kd.Dc HO14.out).1.symm) (Kd.Dc HO14.out).2.1) A23.out).mono ?_); rintro e w108 ⟨v110, rfl, ho109, hb⟩; (try clear hzgb2_0 hzgb2_1 hzgb2_2); refine ⟨_, rfl, ?_⟩; have m_ := Aside0.mk (Kd.Ak HO9.out hb); clear HO9; have HO9 := m_; clear m_; have m_ := Aside0.mk (Kd.Ak HO14.out hb); clear HO14; have HO14 := m_; clear m_; have m_ := Aside0.mk (blk_below BK101.out hb); clear BK101; have BK101 := m_; clear m_; have HSw108 := Aside0.mk (show w103.heap.size ≤ w108.heap.size from hb.size); have m_ := (show Kd.R k43 43 w108 w.heap.size (fun k_ => (w103.heap.size ≤ k_ ∧ k_ < w108.heap.size) ∧ True) v110 r17 from Kd.Ci (Kd.R_lower (Kd.Ey ho109) (below_size Yb_)) (fun k_ hk_ => ⟨⟨hk_.2.1, hk_.2.2.1⟩, trivial⟩)); obtain ⟨A18, c19, e_⟩ := Kd.Di m_; subst e_; have HO20 := Aside0.mk m_; clear m_ ho109; have m_ := Aside0.mk (below_step HB.out hb); clear HB; have HB := m_; clear m_; clear hb; have hzgb2_0 : w108.cell? ⟨gb2, 0, none⟩ = some (.slice A0_0 l0_0.length c0_0) := (blk_cell BK101.out 0).trans rfl; have hzgb2_1 : w108.cell? ⟨gb2, 1, none⟩ = some (.int .i64 a0_1) := (blk_cell BK101.out 1).trans rfl; have hzgb2_2 : w108.cell? ⟨gb2, 2, none⟩ = some (.slice A0_2 l0_2.length c0_2) := (blk_cell BK101.out 2).trans rfl) | ((with_reducible refine gate_callee (f := 12) rfl ?_); (try (refine gate_guard (by rfl) ?_; dsimp only)); refine goesL_ (some 26) rfl rfl Try.func12 Yba_ rfl #[.agg #[.slice A0_0 l0_0.length c0_0, .int .i64 a0_1, .slice A0_2 l0_2.length c0_2]] rfl Ye_ ?_; (with_reducible refine (Cm.calls2 k _ _ l0_0 a0_1 _ _ l0_2 r24 r28 r29 w108 (Kd.C_below HR0_0.out Yb_) HC0_0.out (Kd.C_below HR0_2.out Yb_) HC0_2.out A34.out).mono ?_); rintro e w111 ⟨Pw111, v114, v115, rfl, ho112, ho113, hb⟩; (try clear hzgb2_0 hzgb2_1 hzgb2_2); refine ⟨_, rfl, ?_⟩; have m_ := Aside0.mk (Kd.Ak HO9.out hb); clear HO9; have HO9 := m_; clear m_; have m_ := Aside0.mk (Kd.Ak HO14.out hb); clear HO14; have HO14 := m_; clear m_; have m_ := Aside0.mk (Kd.Cf HO20.out hb); clear HO20; have HO20 := m_; clear m_; have m_ := Aside0.mk (blk_below BK101.out hb); clear BK101; have BK101 := m_; clear m_; have HSw111 := Aside0.mk (show w108.heap.size ≤ w111.heap.size from hb.size); have m_ := (show Kd.S (Kd.slice 3 (Kd.int .i64)) 73 w111 w.heap.size (fun k_ => (w108.heap.size ≤ k_ ∧ k_ < w111.heap.size) ∧ Pw111 k_) v114 r24 from Kd.S_mono (Kd.S_lower (Kd.Eg ho112) (below_size Yb_)) (fun k_ hk_ => ⟨⟨hk_.2.1, hk_.2.2.1⟩, hk_.1⟩)); obtain ⟨A25, c26, e_⟩ := Kd.S_slice m_; subst e_; have HO27 := Aside0.mk m_; clear m_ ho112; have m_ := (show Kd.S (Kd.slice 3 (Kd.int .i64)) 73 w111 w.heap.size (fun k_ => (w108.heap.size ≤ k_ ∧ k_ < w111.heap.size) ∧ ¬ Pw111 k_) v115 r29 from Kd.S_mono (Kd.S_lower (Kd.Eg ho113) (below_size Yb_)) (fun k_ hk_ => ⟨⟨hk_.2.1, hk_.2.2.1⟩, hk_.1⟩)); obtain ⟨A30, c31, e_⟩ := Kd.S_slice m_; subst e_; have HO32 := Aside0.mk m_; clear m_ ho113; have m_ := Aside0.mk (below_step HB.out hb); clear HB; have HB := m_; clear m_; clear hb; have hzgb2_0 : w111.cell? ⟨gb2, 0, none⟩ = some (.slice A0_0 l0_0.length c0_0) := (blk_cell BK101.out 0).trans rfl; have hzgb2_1 : w111.cell? ⟨gb2, 1, none⟩ = some (.int .i64 a0_1) := (blk_cell BK101.out 1).trans rfl; have hzgb2_2 : w111.cell? ⟨gb2, 2, none⟩ = some (.slice A0_2 l0_2.length c0_2) := (blk_cell BK101.out 2).trans rfl) | ((with_reducible refine gate_dst (N := 6) rfl ?_); refine box_event ?hg (N := 6) ?hd (cs := #[.slice none 0 0, .int .i64 0, .slice none 0 0]) (t := 34) ?hr ?_; (case hd => rfl); (case hg => rfl); (case hr => first | (go_simp; done) | (go_simp; rfl)); intro gb36 hg w116 hbox hb; (try clear hzgb2_0 hzgb2_1 hzgb2_2); (try clear hzgb36_0 hzgb36_1 hzgb36_2); have NBgb2_gb36 := Aside0.mk (show gb2 ≠ gb36 by rw [hg]; exact Nat.ne_of_lt (blk_lt BK101.out)); have GEgb36 := Aside0.mk (show w.heap.size ≤ gb36 by rw [hg]; exact below_size Yb_); have BK117 := Aside0.mk hbox; have m_ := Aside0.mk (Kd.Ak HO9.out hb); clear HO9; have HO9 := m_; clear m_; have m_ := Aside0.mk (Kd.Ak HO14.out hb); clear HO14; have HO14 := m_; clear m_; have m_ := Aside0.mk (Kd.Cf HO20.out hb); clear HO20; have HO20 := m_; clear m_; have m_ := Aside0.mk (Kd.Ak HO27.out hb); clear HO27; have HO27 := m_; clear m_; have m_ := Aside0.mk (Kd.Ak HO32.out hb); clear HO32; have HO32 := m_; clear m_; have m_ := Aside0.mk (blk_below BK101.out hb); clear BK101; have BK101 := m_; clear m_; have HSw116 := Aside0.mk (show w111.heap.size ≤ w116.heap.size from hb.size); have m_ := Aside0.mk (below_step HB.out hb); clear HB; have HB := m_; clear m_; clear hb hbox hg; have hzgb2_0 : w116.cell? ⟨gb2, 0, none⟩ = some (.slice A0_0 l0_0.length c0_0) := (blk_cell BK101.out 0).trans rfl; have hzgb2_1 : w116.cell? ⟨gb2, 1, none⟩ = some (.int .i64 a0_1) := (blk_cell BK101.out 1).trans rfl; have hzgb2_2 : w116.cell? ⟨gb2, 2, none⟩ = some (.slice A0_2 l0_2.length c0_2) := (blk_cell BK101.out 2).trans rfl; have hzgb36_0 : w116.cell? ⟨gb36, 0, none⟩ = some (.slice none 0 0) := (blk_cell BK117.out 0).trans rfl; have hzgb36_1 : w116.cell? ⟨gb36, 1, none⟩ = some (.int .i64 0) := (blk_cell BK117.out 1).trans rfl; have hzgb36_2 : w116.cell? ⟨gb36, 2, none⟩ = some (.slice none 0 0) := (blk_cell BK117.out 2).trans rfl) | ((with_reducible refine gate_store (t := 34) (p := 6) rfl ?_); have hs0_ : w116.cell? ⟨gb36, 0, none⟩ = some (.slice none 0 0) := (blk_cell BK117.out 0).trans rfl; have hfs0_ := blk_frozen BK117.out 0; have hs1_ : w116.cell? ⟨gb36, 1, none⟩ = some (.int .i64 0) := (blk_cell BK117.out 1).trans rfl; have hfs1_ := blk_frozen BK117.out 1; have hs2_ : w116.cell? ⟨gb36, 2, none⟩ = some (.slice none 0 0) := (blk_cell BK117.out 2).trans rfl; have hfs2_ := blk_frozen BK117.out 2; refine Eu (t := 34) (p := 6) (v := ?vo_w118) (w1 := (((w116.setCell ⟨gb36, 0, none⟩ (.slice A25 r24.length c26)).setCell ⟨gb36, 1, none⟩ (.int .i64 r28)).setCell ⟨gb36, 2, none⟩ (.slice A30 r29.length c31))) ?hg ?ho ?hn ?hr ?_; (case ho => rfl); (case hg => rfl); (case hn => rfl); (case hr => first | (go_simp; done) | (go_simp; rfl)); intro w118 hw; (try clear hzgb2_0 hzgb2_1 hzgb2_2); (try clear hzgb36_0 hzgb36_1 hzgb36_2); have hO_ : Go.Proofs.YtnggfglmjdiaaaaOwn.Only w116 w118 gb36 := (by rw [hw]; exact (((Go.Proofs.YtnggfglmjdiaaaaOwn.Only.refl _ _).set 0 _).set 1 _).set 2 _); have hbx_ : w118.heap[gb36]? = some (.cells #[.slice A25 r24.length c26, .int .i64 r28, .slice A30 r29.length c31] 34 (0, 0)) := (by rw [hw]; refine blk_put (cs := #[.slice A25 r24.length c26, .int .i64 r28, .slice none 0 0]) ?_ 2 _ rfl; refine blk_put (cs := #[.slice A25 r24.length c26, .int .i64 0, .slice none 0 0]) ?_ 1 _ rfl; refine blk_put (cs := #[.slice none 0 0, .int .i64 0, .slice none 0 0]) ?_ 0 _ rfl; exact BK117.out); (try clear hs0_ hfs0_ hs1_ hfs1_ hs2_ hfs2_); clear hw; have m_ := Aside0.mk (Go.Proofs.YtnggfglmjdiaaaaOwn.onlyS HO9.out BK117.out (by decide) hO_); clear HO9; have HO9 := m_; clear m_; have m_ := Aside0.mk (Go.Proofs.YtnggfglmjdiaaaaOwn.onlyS HO14.out BK117.out (by decide) hO_); clear HO14; have HO14 := m_; clear m_; have m_ := Aside0.mk (Go.Proofs.YtnggfglmjdiaaaaOwn.onlyR HO20.out BK117.out (by decide) hO_); clear HO20; have HO20 := m_; clear m_; have m_ := Aside0.mk (Go.Proofs.YtnggfglmjdiaaaaOwn.onlyS HO27.out BK117.out (by decide) hO_); clear HO27; have HO27 := m_; clear m_; have m_ := Aside0.mk (Go.Proofs.YtnggfglmjdiaaaaOwn.onlyS HO32.out BK117.out (by decide) hO_); clear HO32; have HO32 := m_; clear m_; have m_ := Aside0.mk ((hO_.others _ NBgb2_gb36.out).trans BK101.out); clear BK101; have BK101 := m_; clear m_; have m_ := Aside0.mk (hO_.below HB.out GEgb36.out); clear HB; have HB := m_; clear m_; have HSw118 := Aside0.mk (Nat.le_of_eq hO_.size.symm : w116.heap.size ≤ w118.heap.size); clear BK117; have BK119 := Aside0.mk hbx_; clear hbx_ hO_; have hzgb2_0 : w118.cell? ⟨gb2, 0, none⟩ = some (.slice A0_0 l0_0.length c0_0) := (blk_cell BK101.out 0).trans rfl; have hzgb2_1 : w118.cell? ⟨gb2, 1, none⟩ = some (.int .i64 a0_1) := (blk_cell BK101.out 1).trans rfl; have hzgb2_2 : w118.cell? ⟨gb2, 2, none⟩ = some (.slice A0_2 l0_2.length c0_2) := (blk_cell BK101.out 2).trans rfl; have hzgb36_0 : w118.cell? ⟨gb36, 0, none⟩ = some (.slice A25 r24.length c26) := (blk_cell BK119.out 0).trans rfl; have hzgb36_1 : w118.cell? ⟨gb36, 1, none⟩ = some (.int .i64 r28) := (blk_cell BK119.out 1).trans rfl; have hzgb36_2 : w118.cell? ⟨gb36, 2, none⟩ = some (.slice A30 r29.length c31) := (blk_cell BK119.out 2).trans rfl) | ((with_reducible refine gate_callee (f := 26) rfl ?_); (try (refine gate_guard (by rfl) ?_; dsimp only)); refine goesL_ (some 29) rfl rfl Try.func26 Yba_ rfl #[.agg #[.slice A25 r24.length c26, .int .i64 r28, .slice A30 r29.length c31]] rfl Ye_ ?_; (with_reducible refine (impl_PossibleOrders.calls k _ _ r24 r28 _ _ r29 r37 r91 w118 (Kd.Dc HO27.out).2.2 (Nat.le_trans (Nat.le_of_eq (Kd.Dc HO27.out).1.symm) (Kd.Dc HO27.out).2.1) (Kd.Dc HO32.out).2.2 (Nat.le_trans (Nat.le_of_eq (Kd.Dc HO32.out).1.symm) (Kd.Dc HO32.out).2.1) A43.out).mono ?_); rintro e w120 ⟨v122, rfl, ho121, hb⟩; (try clear hzgb2_0 hzgb2_1 hzgb2_2); (try clear hzgb36_0 hzgb36_1 hzgb36_2); refine ⟨_, rfl, ?_⟩; have m_ := Aside0.mk (Kd.Ak HO9.out hb); clear HO9; have HO9 := m_; clear m_; have m_ := Aside0.mk (Kd.Ak HO14.out hb); clear HO14; have HO14 := m_; clear m_; have m_ := Aside0.mk (Kd.Cf HO20.out hb); clear HO20; have HO20 := m_; clear m_; have m_ := Aside0.mk (Kd.Ak HO27.out hb); clear HO27; have HO27 := m_; clear m_; have m_ := Aside0.mk (Kd.Ak HO32.out hb); clear HO32; have HO32 := m_; clear m_; have m_ := Aside0.mk (blk_below BK101.out hb); clear BK101; have BK101 := m_; clear m_; have m_ := Aside0.mk (blk_below BK119.out hb); clear BK119; have BK119 := m_; clear m_; have HSw120 := Aside0.mk (show w118.heap.size ≤ w120.heap.size from hb.size); have m_ := (show Kd.R k43 43 w120 w.heap.size (fun k_ => (w118.heap.size ≤ k_ ∧ k_ < w120.heap.size) ∧ True) v122 r37 from Kd.Ci (Kd.R_lower (Kd.Ey ho121) (below_size Yb_)) (fun k_ hk_ => ⟨⟨hk_.2.1, hk_.2.2.1⟩, trivial⟩)); obtain ⟨A38, c39, e_⟩ := Kd.Di m_; subst e_; have HO40 := Aside0.mk m_; clear m_ ho121; have m_ := Aside0.mk (below_step HB.out hb); clear HB; have HB := m_; clear m_; clear hb; have hzgb2_0 : w120.cell? ⟨gb2, 0, none⟩ = some (.slice A0_0 l0_0.length c0_0) := (blk_cell BK101.out 0).trans rfl; have hzgb2_1 : w120.cell? ⟨gb2, 1, none⟩ = some (.int .i64 a0_1) := (blk_cell BK101.out 1).trans rfl; have hzgb2_2 : w120.cell? ⟨gb2, 2, none⟩ = some (.slice A0_2 l0_2.length c0_2) := (blk_cell BK101.out 2).trans rfl; have hzgb36_0 : w120.cell? ⟨gb36, 0, none⟩ = some (.slice A25 r24.length c26) := (blk_cell BK119.out 0).trans rfl; have hzgb36_1 : w120.cell? ⟨gb36, 1, none⟩ = some (.int .i64 r28) := (blk_cell BK119.out 1).trans rfl; have hzgb36_2 : w120.cell? ⟨gb36, 2, none⟩ = some (.slice A30 r29.length c31) := (blk_cell BK119.out 2).trans rfl) | ((with_reducible refine gate_callee (f := 27) rfl ?_); (try (refine gate_guard (by rfl) ?_; dsimp only)); refine goesL_ (some 34) rfl rfl Try.func27 Yba_ rfl #[.slice A38 r37.length c39, .slice A18 r17.length c19] rfl Ye_ ?_; (with_reducible refine (Aj.calls k _ _ r37 _ _ r17 true w120 (Kd.Bh HO40.out).2.2 (Nat.le_trans (Nat.le_of_eq (Kd.Bh HO40.out).1.symm) (Kd.Bh HO40.out).2.1) (Kd.Bh HO20.out).2.2 (Nat.le_trans (Nat.le_of_eq (Kd.Bh HO20.out).1.symm) (Kd.Bh HO20.out).2.1) A46.out).mono ?_); rintro e w123 ⟨rfl, hb⟩; (try clear hzgb2_0 hzgb2_1 hzgb2_2); (try clear hzgb36_0 hzgb36_1 hzgb36_2); refine ⟨_, rfl, ?_⟩; have m_ := Aside0.mk (Kd.Ak HO9.out hb); clear HO9; have HO9 := m_; clear m_; have m_ := Aside0.mk (Kd.Ak HO14.out hb); clear HO14; have HO14 := m_; clear m_; have m_ := Aside0.mk (Kd.Cf HO20.out hb); clear HO20; have HO20 := m_; clear m_; have m_ := Aside0.mk (Kd.Ak HO27.out hb); clear HO27; have HO27 := m_; clear m_; have m_ := Aside0.mk (Kd.Ak HO32.out hb); clear HO32; have HO32 := m_; clear m_; have m_ := Aside0.mk (Kd.Cf HO40.out hb); clear HO40; have HO40 := m_; clear m_; have m_ := Aside0.mk (blk_below BK101.out hb); clear BK101; have BK101 := m_; clear m_; have m_ := Aside0.mk (blk_below BK119.out hb); clear BK119; have BK119 := m_; clear m_; have HSw123 := Aside0.mk (show w120.heap.size ≤ w123.heap.size from hb.size); have m_ := Aside0.mk (below_step HB.out hb); clear HB; have HB := m_; clear m_; clear hb; have hzgb2_0 : w123.cell? ⟨gb2, 0, none⟩ = some (.slice A0_0 l0_0.length c0_0) := (blk_cell BK101.out 0).trans rfl; have hzgb2_1 : w123.cell? ⟨gb2, 1, none⟩ = some (.int .i64 a0_1) := (blk_cell BK101.out 1).trans rfl; have hzgb2_2 : w123.cell? ⟨gb2, 2, none⟩ = some (.slice A0_2 l0_2.length c0_2) := (blk_cell BK101.out 2).trans rfl; have hzgb36_0 : w123.cell? ⟨gb36, 0, none⟩ = some (.slice A25 r24.length c26) := (blk_cell BK119.out 0).trans rfl; have hzgb36_1 : w123.cell? ⟨gb36, 1, none⟩ = some (.int .i64 r28) := (blk_cell BK119.out 1).trans rfl; have hzgb36_2 : w123.cell? ⟨gb36, 2, none⟩ = some (.slice A30 r29.length c31) := (blk_cell BK119.out 2).trans rfl))
  (try clear hzgb2_0 hzgb2_1 hzgb2_2 hzgb36_0 hzgb36_1 hzgb36_2)
  have m_ := Aside0.mk (Kd.S_drew HO9.out)
  clear HO9
  have HO9 := m_
  clear m_
  have m_ := Aside0.mk (Kd.S_drew HO14.out)
  clear HO14
  have HO14 := m_
  clear m_
  have m_ := Aside0.mk (Kd.R_drew HO20.out)
  clear HO20
  have HO20 := m_
  clear m_
  have m_ := Aside0.mk (Kd.S_drew HO27.out)
  clear HO27
  have HO27 := m_
  clear m_
  have m_ := Aside0.mk (Kd.S_drew HO32.out)
  clear HO32
  have HO32 := m_
  clear m_
  have m_ := Aside0.mk (Kd.R_drew HO40.out)
  clear HO40
  have HO40 := m_
  clear m_
  have m_ := Aside0.mk (blk_drew BK101.out)
  clear BK101
  have BK101 := m_
  clear m_
  have m_ := Aside0.mk (blk_drew BK119.out)
  clear BK119
  have BK119 := m_
  clear m_
  have m_ := Aside0.mk (below_drew1 HB.out)
  clear HB
  have HB := m_
  clear m_
  have HSw124 := Aside0.mk (show w123.heap.size ≤ w123.drew.heap.size from Nat.le_refl _)
  refine start_ (n := 5) (S := fun w' => w'.cell? ⟨gb36, 0, none⟩ = some (.slice A25 r24.length c26) ∧ w'.cell? ⟨gb36, 1, none⟩ = some (.int .i64 r28) ∧ w'.cell? ⟨gb36, 2, none⟩ = some (.slice A30 r29.length c31) ∧ w'.cell? ⟨gb2, 0, none⟩ = some (.slice A0_0 l0_0.length c0_0) ∧ w'.cell? ⟨gb2, 1, none⟩ = some (.int .i64 a0_1) ∧ w'.cell? ⟨gb2, 2, none⟩ = some (.slice A0_2 l0_2.length c0_2)) (ds := []) #[false, false, false, false, false] Yba_ rfl rfl ⟨(blk_cell BK119.out 0).trans rfl, (blk_cell BK119.out 1).trans rfl, (blk_cell BK119.out 2).trans rfl, (blk_cell BK101.out 0).trans rfl, (blk_cell BK101.out 1).trans rfl, (blk_cell BK101.out 2).trans rfl⟩ (fun hHeld => ?_)
  generalize w123.drew = w124 at HO9 HO14 HO20 HO27 HO32 HO40 BK101 BK119 HB HSw124 hHeld ⊢
  refine take_ (i := 0) (N := some 41) #[true, false, false, false, false] rfl rfl Yba_ (fun _ _ _ h => h) (Or.inl ⟨by rfl, Ydf_⟩) hHeld Ya_ ?_
  refine take_ (i := 1) (N := some 42) #[true, true, false, false, false] rfl rfl Yba_ (fun _ _ _ h => h) (Or.inl ⟨by rfl, Ydf_⟩) hHeld Ya_ ?_
  refine one_ (i := 2) (N := some 43) #[true, true, true, false, false] rfl rfl Yba_ (by decide) (fun K hK => ?_)
  refine goes_ Try.func12 Yba_ rfl #[.agg #[.slice A0_0 l0_0.length c0_0, .int .i64 a0_1, .slice A0_2 l0_2.length c0_2]] (by rfl) rfl rfl Ye_ ?_
  (with_reducible refine (Cm.calls2 k _ _ l0_0 a0_1 _ _ l0_2 r47 r51 r52 w124 (Kd.C_below HR0_0.out Yb_) HC0_0.out (Kd.C_below HR0_2.out Yb_) HC0_2.out A57.out).mono ?_)
  rintro e w125 ⟨Pw125, v128, v129, rfl, ho126, ho127, hb⟩
  refine ⟨_, rfl, ?_⟩
  have m_ := Aside0.mk (Kd.Ak HO9.out hb)
  clear HO9
  have HO9 := m_
  clear m_
  have m_ := Aside0.mk (Kd.Ak HO14.out hb)
  clear HO14
  have HO14 := m_
  clear m_
  have m_ := Aside0.mk (Kd.Cf HO20.out hb)
  clear HO20
  have HO20 := m_
  clear m_
  have m_ := Aside0.mk (Kd.Ak HO27.out hb)
  clear HO27
  have HO27 := m_
  clear m_
  have m_ := Aside0.mk (Kd.Ak HO32.out hb)
  clear HO32
  have HO32 := m_
  clear m_
  have m_ := Aside0.mk (Kd.Cf HO40.out hb)
  clear HO40
  have HO40 := m_
  clear m_
  have m_ := Aside0.mk (blk_below BK101.out hb)
  clear BK101
  have BK101 := m_
  clear m_
  have m_ := Aside0.mk (blk_below BK119.out hb)
  clear BK119
  have BK119 := m_
  clear m_
  have HSw125 := Aside0.mk (show w124.heap.size ≤ w125.heap.size from hb.size)
  have m_ := (show Kd.S (Kd.slice 3 (Kd.int .i64)) 73 w125 w.heap.size (fun k_ => (w124.heap.size ≤ k_ ∧ k_ < w125.heap.size) ∧ Pw125 k_) v128 r47 from Kd.S_mono (Kd.S_lower (Kd.Eg ho126) (below_size Yb_)) (fun k_ hk_ => ⟨⟨hk_.2.1, hk_.2.2.1⟩, hk_.1⟩))
  obtain ⟨A48, c49, e_⟩ := Kd.S_slice m_
  subst e_
  have HO50 := Aside0.mk m_
  clear m_ ho126
  have m_ := (show Kd.S (Kd.slice 3 (Kd.int .i64)) 73 w125 w.heap.size (fun k_ => (w124.heap.size ≤ k_ ∧ k_ < w125.heap.size) ∧ ¬ Pw125 k_) v129 r52 from Kd.S_mono (Kd.S_lower (Kd.Eg ho127) (below_size Yb_)) (fun k_ hk_ => ⟨⟨hk_.2.1, hk_.2.2.1⟩, hk_.1⟩))
  obtain ⟨A53, c54, e_⟩ := Kd.S_slice m_
  subst e_
  have HO55 := Aside0.mk m_
  clear m_ ho127
  have m_ := Aside0.mk (below_step HB.out hb)
  clear HB
  have HB := m_
  clear m_
  clear hb
  refine hK.out _ _ ⟨(blk_cell BK119.out 0).trans rfl, (blk_cell BK119.out 1).trans rfl, (blk_cell BK119.out 2).trans rfl, (blk_cell BK101.out 0).trans rfl, (blk_cell BK101.out 1).trans rfl, (blk_cell BK101.out 2).trans rfl⟩ (fun hHeld => ?_)
  clear hK K
  refine norm_ (show Act.put _ (some 43) _ = _ from Ya_) ?_
  refine one_ (i := 3) (N := some 44) #[true, true, true, true, false] rfl rfl Yba_ (by decide) (fun K hK => ?_)
  refine goes_ Try.func14 Yba_ rfl #[.agg #[.slice A25 r24.length c26, .int .i64 r28, .slice A30 r29.length c31], .agg #[.slice A48 r47.length c49, .int .i64 r51, .slice A53 r52.length c54]] (by rfl) rfl rfl Ye_ ?_
  (with_reducible refine (Dz.calls k _ _ r24 r28 _ _ r29 _ _ r47 r51 _ _ r52 true w125 (Kd.Dc HO27.out).2.2 (Nat.le_trans (Nat.le_of_eq (Kd.Dc HO27.out).1.symm) (Kd.Dc HO27.out).2.1) (Kd.Dc HO32.out).2.2 (Nat.le_trans (Nat.le_of_eq (Kd.Dc HO32.out).1.symm) (Kd.Dc HO32.out).2.1) (Kd.Dc HO50.out).2.2 (Nat.le_trans (Nat.le_of_eq (Kd.Dc HO50.out).1.symm) (Kd.Dc HO50.out).2.1) (Kd.Dc HO55.out).2.2 (Nat.le_trans (Nat.le_of_eq (Kd.Dc HO55.out).1.symm) (Kd.Dc HO55.out).2.1) A60.out).mono ?_)
  rintro e w130 ⟨rfl, hb⟩
  refine ⟨_, rfl, ?_⟩
  have m_ := Aside0.mk (Kd.Ak HO9.out hb)
  clear HO9
  have HO9 := m_
  clear m_
  have m_ := Aside0.mk (Kd.Ak HO14.out hb)
  clear HO14
  have HO14 := m_
  clear m_
  have m_ := Aside0.mk (Kd.Cf HO20.out hb)
  clear HO20
  have HO20 := m_
  clear m_
  have m_ := Aside0.mk (Kd.Ak HO27.out hb)
  clear HO27
  have HO27 := m_
  clear m_
  have m_ := Aside0.mk (Kd.Ak HO32.out hb)
  clear HO32
  have HO32 := m_
  clear m_
  have m_ := Aside0.mk (Kd.Cf HO40.out hb)
  clear HO40
  have HO40 := m_
  clear m_
  have m_ := Aside0.mk (Kd.Ak HO50.out hb)
  clear HO50
  have HO50 := m_
  clear m_
  have m_ := Aside0.mk (Kd.Ak HO55.out hb)
  clear HO55
  have HO55 := m_
  clear m_
  have m_ := Aside0.mk (blk_below BK101.out hb)
  clear BK101
  have BK101 := m_
  clear m_
  have m_ := Aside0.mk (blk_below BK119.out hb)
  clear BK119
  have BK119 := m_
  clear m_
  have HSw130 := Aside0.mk (show w125.heap.size ≤ w130.heap.size from hb.size)
  have m_ := Aside0.mk (below_step HB.out hb)
  clear HB
  have HB := m_
  clear m_
  clear hb
  refine hK.out _ _ ⟨(blk_cell BK119.out 0).trans rfl, (blk_cell BK119.out 1).trans rfl, (blk_cell BK119.out 2).trans rfl, (blk_cell BK101.out 0).trans rfl, (blk_cell BK101.out 1).trans rfl, (blk_cell BK101.out 2).trans rfl⟩ (fun hHeld => ?_)
  clear hK K
  refine norm_ (show Act.put _ (some 44) _ = _ from Ya_) ?_
  refine pure_ (i := 4) (N := some 45) #[true, true, true, true, true] rfl rfl Yba_ (fun _ _ _ h => h) (Or.inl ⟨by rfl, Ybc_⟩) Ya_ ?_
  refine done_ Yba_ ?_
  have hzgb2_0 : w130.cell? ⟨gb2, 0, none⟩ = some (.slice A0_0 l0_0.length c0_0) := (blk_cell BK101.out 0).trans rfl
  have hzgb2_1 : w130.cell? ⟨gb2, 1, none⟩ = some (.int .i64 a0_1) := (blk_cell BK101.out 1).trans rfl
  have hzgb2_2 : w130.cell? ⟨gb2, 2, none⟩ = some (.slice A0_2 l0_2.length c0_2) := (blk_cell BK101.out 2).trans rfl
  have hzgb36_0 : w130.cell? ⟨gb36, 0, none⟩ = some (.slice A25 r24.length c26) := (blk_cell BK119.out 0).trans rfl
  have hzgb36_1 : w130.cell? ⟨gb36, 1, none⟩ = some (.int .i64 r28) := (blk_cell BK119.out 1).trans rfl
  have hzgb36_2 : w130.cell? ⟨gb36, 2, none⟩ = some (.slice A30 r29.length c31) := (blk_cell BK119.out 2).trans rfl
  go_wp2_with (first | ((with_reducible refine gate_callee (f := 23) rfl ?_); (try (refine gate_guard (by rfl) ?_; dsimp only)); refine goesL_ (some 48) rfl rfl Try.func23 Yba_ rfl #[.agg #[.slice A25 r24.length c26, .int .i64 r28, .slice A30 r29.length c31], .int .i64 1] rfl Ye_ ?_; (with_reducible refine (Dv.calls k (fun k_ => (((w108.heap.size ≤ k_ ∧ k_ < w111.heap.size) ∧ Pw111 k_) ∧ k_ ≠ gb2) ∧ k_ ≠ gb36) (.slice A25 r24.length c26) r24 r28 (fun k_ => (((w108.heap.size ≤ k_ ∧ k_ < w111.heap.size) ∧ ¬ Pw111 k_) ∧ k_ ≠ gb2) ∧ k_ ≠ gb36) (.slice A30 r29.length c31) r29 1 r61 r62 r63 w w130 HB.out (Kd.S_types (Kd.S_types HO27.out BK101.out (by decide)) BK119.out (by decide)) (fun k_ h1_ h2_ => absurd h1_.1.1.2 h2_.1.1.2) (Kd.S_types (Kd.S_types HO32.out BK101.out (by decide)) BK119.out (by decide)) (fun k_ h1_ h2_ => absurd h2_.1.1.2 h1_.1.1.2) A65.out).mono ?_); rintro e w131 ⟨rfl, ho132, ho133, hb, hk⟩; (try clear hzgb2_0 hzgb2_1 hzgb2_2); (try clear hzgb36_0 hzgb36_1 hzgb36_2); refine ⟨_, rfl, ?_⟩; have m_ := Aside0.mk (show Kd.S (Kd.slice 3 (Kd.int .i64)) 73 w131 w.heap.size (fun k_ => (w102.heap.size ≤ k_ ∧ k_ < w103.heap.size) ∧ Pw103 k_) (.slice A7 r6.length c8) r6 from Kd.S_kept HO9.out hk (fun k_ hk_ hs_ => by rcases hs_ with hs_ | hs_ <;> first | (have := HSw100.out; have := HSw102.out; have := HSw103.out; have := HSw108.out; have := HSw111.out; have := HSw116.out; have := HSw118.out; have := HSw120.out; have := HSw123.out; have := HSw124.out; have := HSw125.out; have := HSw130.out; have h1_ : w102.heap.size ≤ k_ ∧ k_ < w103.heap.size := hk_.1; have h2_ : w108.heap.size ≤ k_ ∧ k_ < w111.heap.size := hs_.1.1.1; omega) | (have := HSw100.out; have := HSw102.out; have := HSw103.out; have := HSw108.out; have := HSw111.out; have := HSw116.out; have := HSw118.out; have := HSw120.out; have := HSw123.out; have := HSw124.out; have := HSw125.out; have := HSw130.out; have h1_ : w102.heap.size ≤ k_ ∧ k_ < w103.heap.size := hk_.1; have h2_ : w108.heap.size ≤ k_ ∧ k_ < w111.heap.size := hs_.1.1.1; omega))); clear HO9; have HO9 := m_; clear m_; have m_ := Aside0.mk (show Kd.S (Kd.slice 3 (Kd.int .i64)) 73 w131 w.heap.size (fun k_ => (w102.heap.size ≤ k_ ∧ k_ < w103.heap.size) ∧ ¬ Pw103 k_) (.slice A12 r11.length c13) r11 from Kd.S_kept HO14.out hk (fun k_ hk_ hs_ => by rcases hs_ with hs_ | hs_ <;> first | (have := HSw100.out; have := HSw102.out; have := HSw103.out; have := HSw108.out; have := HSw111.out; have := HSw116.out; have := HSw118.out; have := HSw120.out; have := HSw123.out; have := HSw124.out; have := HSw125.out; have := HSw130.out; have h1_ : w102.heap.size ≤ k_ ∧ k_ < w103.heap.size := hk_.1; have h2_ : w108.heap.size ≤ k_ ∧ k_ < w111.heap.size := hs_.1.1.1; omega) | (have := HSw100.out; have := HSw102.out; have := HSw103.out; have := HSw108.out; have := HSw111.out; have := HSw116.out; have := HSw118.out; have := HSw120.out; have := HSw123.out; have := HSw124.out; have := HSw125.out; have := HSw130.out; have h1_ : w102.heap.size ≤ k_ ∧ k_ < w103.heap.size := hk_.1; have h2_ : w108.heap.size ≤ k_ ∧ k_ < w111.heap.size := hs_.1.1.1; omega))); clear HO14; have HO14 := m_; clear m_; have m_ := Aside0.mk (show Kd.R k43 43 w131 w.heap.size (fun k_ => (w103.heap.size ≤ k_ ∧ k_ < w108.heap.size) ∧ True) (.slice A18 r17.length c19) r17 from Kd.R_kept HO20.out hk (fun k_ hk_ hs_ => by rcases hs_ with hs_ | hs_ <;> first | (have := HSw100.out; have := HSw102.out; have := HSw103.out; have := HSw108.out; have := HSw111.out; have := HSw116.out; have := HSw118.out; have := HSw120.out; have := HSw123.out; have := HSw124.out; have := HSw125.out; have := HSw130.out; have h1_ : w103.heap.size ≤ k_ ∧ k_ < w108.heap.size := hk_.1; have h2_ : w108.heap.size ≤ k_ ∧ k_ < w111.heap.size := hs_.1.1.1; omega) | (have := HSw100.out; have := HSw102.out; have := HSw103.out; have := HSw108.out; have := HSw111.out; have := HSw116.out; have := HSw118.out; have := HSw120.out; have := HSw123.out; have := HSw124.out; have := HSw125.out; have := HSw130.out; have h1_ : w103.heap.size ≤ k_ ∧ k_ < w108.heap.size := hk_.1; have h2_ : w108.heap.size ≤ k_ ∧ k_ < w111.heap.size := hs_.1.1.1; omega))); clear HO20; have HO20 := m_; clear m_; have m_ := Aside0.mk (show Kd.R k43 43 w131 w.heap.size (fun k_ => (w118.heap.size ≤ k_ ∧ k_ < w120.heap.size) ∧ True) (.slice A38 r37.length c39) r37 from Kd.R_kept HO40.out hk (fun k_ hk_ hs_ => by rcases hs_ with hs_ | hs_ <;> first | (have := HSw100.out; have := HSw102.out; have := HSw103.out; have := HSw108.out; have := HSw111.out; have := HSw116.out; have := HSw118.out; have := HSw120.out; have := HSw123.out; have := HSw124.out; have := HSw125.out; have := HSw130.out; have h1_ : w118.heap.size ≤ k_ ∧ k_ < w120.heap.size := hk_.1; have h2_ : w108.heap.size ≤ k_ ∧ k_ < w111.heap.size := hs_.1.1.1; omega) | (have := HSw100.out; have := HSw102.out; have := HSw103.out; have := HSw108.out; have := HSw111.out; have := HSw116.out; have := HSw118.out; have := HSw120.out; have := HSw123.out; have := HSw124.out; have := HSw125.out; have := HSw130.out; have h1_ : w118.heap.size ≤ k_ ∧ k_ < w120.heap.size := hk_.1; have h2_ : w108.heap.size ≤ k_ ∧ k_ < w111.heap.size := hs_.1.1.1; omega))); clear HO40; have HO40 := m_; clear m_; have m_ := Aside0.mk (show Kd.S (Kd.slice 3 (Kd.int .i64)) 73 w131 w.heap.size (fun k_ => (w124.heap.size ≤ k_ ∧ k_ < w125.heap.size) ∧ Pw125 k_) (.slice A48 r47.length c49) r47 from Kd.S_kept HO50.out hk (fun k_ hk_ hs_ => by rcases hs_ with hs_ | hs_ <;> first | (have := HSw100.out; have := HSw102.out; have := HSw103.out; have := HSw108.out; have := HSw111.out; have := HSw116.out; have := HSw118.out; have := HSw120.out; have := HSw123.out; have := HSw124.out; have := HSw125.out; have := HSw130.out; have h1_ : w124.heap.size ≤ k_ ∧ k_ < w125.heap.size := hk_.1; have h2_ : w108.heap.size ≤ k_ ∧ k_ < w111.heap.size := hs_.1.1.1; omega) | (have := HSw100.out; have := HSw102.out; have := HSw103.out; have := HSw108.out; have := HSw111.out; have := HSw116.out; have := HSw118.out; have := HSw120.out; have := HSw123.out; have := HSw124.out; have := HSw125.out; have := HSw130.out; have h1_ : w124.heap.size ≤ k_ ∧ k_ < w125.heap.size := hk_.1; have h2_ : w108.heap.size ≤ k_ ∧ k_ < w111.heap.size := hs_.1.1.1; omega))); clear HO50; have HO50 := m_; clear m_; have m_ := Aside0.mk (show Kd.S (Kd.slice 3 (Kd.int .i64)) 73 w131 w.heap.size (fun k_ => (w124.heap.size ≤ k_ ∧ k_ < w125.heap.size) ∧ ¬ Pw125 k_) (.slice A53 r52.length c54) r52 from Kd.S_kept HO55.out hk (fun k_ hk_ hs_ => by rcases hs_ with hs_ | hs_ <;> first | (have := HSw100.out; have := HSw102.out; have := HSw103.out; have := HSw108.out; have := HSw111.out; have := HSw116.out; have := HSw118.out; have := HSw120.out; have := HSw123.out; have := HSw124.out; have := HSw125.out; have := HSw130.out; have h1_ : w124.heap.size ≤ k_ ∧ k_ < w125.heap.size := hk_.1; have h2_ : w108.heap.size ≤ k_ ∧ k_ < w111.heap.size := hs_.1.1.1; omega) | (have := HSw100.out; have := HSw102.out; have := HSw103.out; have := HSw108.out; have := HSw111.out; have := HSw116.out; have := HSw118.out; have := HSw120.out; have := HSw123.out; have := HSw124.out; have := HSw125.out; have := HSw130.out; have h1_ : w124.heap.size ≤ k_ ∧ k_ < w125.heap.size := hk_.1; have h2_ : w108.heap.size ≤ k_ ∧ k_ < w111.heap.size := hs_.1.1.1; omega))); clear HO55; have HO55 := m_; clear m_; have m_ := Aside0.mk (blk_kept BK101.out hk (fun hs_ => by rcases hs_ with hs_ | hs_ <;> exact hs_.1.2 rfl)); clear BK101; have BK101 := m_; clear m_; have m_ := Aside0.mk (blk_kept BK119.out hk (fun hs_ => by rcases hs_ with hs_ | hs_ <;> exact hs_.2 rfl)); clear BK119; have BK119 := m_; clear m_; clear HB; have HB := Aside0.mk hb; have HSw131 := Aside0.mk hk.1; clear HO27; have HO134 := Aside0.mk ho132; clear ho132; clear HO32; have HO135 := Aside0.mk ho133; clear ho133; (try clear hb hk); have hzgb2_0 : w131.cell? ⟨gb2, 0, none⟩ = some (.slice A0_0 l0_0.length c0_0) := (blk_cell BK101.out 0).trans rfl; have hzgb2_1 : w131.cell? ⟨gb2, 1, none⟩ = some (.int .i64 a0_1) := (blk_cell BK101.out 1).trans rfl; have hzgb2_2 : w131.cell? ⟨gb2, 2, none⟩ = some (.slice A0_2 l0_2.length c0_2) := (blk_cell BK101.out 2).trans rfl; have hzgb36_0 : w131.cell? ⟨gb36, 0, none⟩ = some (.slice A25 r24.length c26) := (blk_cell BK119.out 0).trans rfl; have hzgb36_1 : w131.cell? ⟨gb36, 1, none⟩ = some (.int .i64 r28) := (blk_cell BK119.out 1).trans rfl; have hzgb36_2 : w131.cell? ⟨gb36, 2, none⟩ = some (.slice A30 r29.length c31) := (blk_cell BK119.out 2).trans rfl) | ((with_reducible refine gate_callee (f := 27) rfl ?_); (try (refine gate_guard (by rfl) ?_; dsimp only)); refine goesL_ (some 54) rfl rfl Try.func27 Yba_ rfl #[.slice A38 r37.length c39, .slice A18 r17.length c19] rfl Ye_ ?_; (with_reducible refine (Aj.calls k _ _ r37 _ _ r17 true w131 (Kd.Bh HO40.out).2.2 (Nat.le_trans (Nat.le_of_eq (Kd.Bh HO40.out).1.symm) (Kd.Bh HO40.out).2.1) (Kd.Bh HO20.out).2.2 (Nat.le_trans (Nat.le_of_eq (Kd.Bh HO20.out).1.symm) (Kd.Bh HO20.out).2.1) A68.out).mono ?_); rintro e w136 ⟨rfl, hb⟩; (try clear hzgb2_0 hzgb2_1 hzgb2_2); (try clear hzgb36_0 hzgb36_1 hzgb36_2); refine ⟨_, rfl, ?_⟩; have m_ := Aside0.mk (Kd.Ak HO9.out hb); clear HO9; have HO9 := m_; clear m_; have m_ := Aside0.mk (Kd.Ak HO14.out hb); clear HO14; have HO14 := m_; clear m_; have m_ := Aside0.mk (Kd.Cf HO20.out hb); clear HO20; have HO20 := m_; clear m_; have m_ := Aside0.mk (Kd.Cf HO40.out hb); clear HO40; have HO40 := m_; clear m_; have m_ := Aside0.mk (Kd.Ak HO50.out hb); clear HO50; have HO50 := m_; clear m_; have m_ := Aside0.mk (Kd.Ak HO55.out hb); clear HO55; have HO55 := m_; clear m_; have m_ := Aside0.mk (Kd.Ak HO134.out hb); clear HO134; have HO134 := m_; clear m_; have m_ := Aside0.mk (Kd.Ak HO135.out hb); clear HO135; have HO135 := m_; clear m_; have m_ := Aside0.mk (blk_below BK101.out hb); clear BK101; have BK101 := m_; clear m_; have m_ := Aside0.mk (blk_below BK119.out hb); clear BK119; have BK119 := m_; clear m_; have HSw136 := Aside0.mk (show w131.heap.size ≤ w136.heap.size from hb.size); have m_ := Aside0.mk (below_step HB.out hb); clear HB; have HB := m_; clear m_; clear hb; have hzgb2_0 : w136.cell? ⟨gb2, 0, none⟩ = some (.slice A0_0 l0_0.length c0_0) := (blk_cell BK101.out 0).trans rfl; have hzgb2_1 : w136.cell? ⟨gb2, 1, none⟩ = some (.int .i64 a0_1) := (blk_cell BK101.out 1).trans rfl; have hzgb2_2 : w136.cell? ⟨gb2, 2, none⟩ = some (.slice A0_2 l0_2.length c0_2) := (blk_cell BK101.out 2).trans rfl; have hzgb36_0 : w136.cell? ⟨gb36, 0, none⟩ = some (.slice A25 r24.length c26) := (blk_cell BK119.out 0).trans rfl; have hzgb36_1 : w136.cell? ⟨gb36, 1, none⟩ = some (.int .i64 r28) := (blk_cell BK119.out 1).trans rfl; have hzgb36_2 : w136.cell? ⟨gb36, 2, none⟩ = some (.slice A30 r29.length c31) := (blk_cell BK119.out 2).trans rfl) | ((with_reducible refine gate_callee (f := 28) rfl ?_); (try (refine gate_guard (by rfl) ?_; dsimp only)); refine goesL_ (some 64) rfl rfl Try.func28 Yba_ rfl #[.slice A38 r37.length c39, .int .i64 1] rfl Ye_ ?_; (with_reducible refine (Bi.calls k (fun k_ => (((w118.heap.size ≤ k_ ∧ k_ < w120.heap.size) ∧ True) ∧ k_ ≠ gb2) ∧ k_ ≠ gb36) (.slice A38 r37.length c39) r37 1 r97 r70 w w136 HB.out (Kd.E8 (Kd.E8 HO40.out BK101.out (by decide)) BK119.out (by decide)) A72.out).mono ?_); rintro e w137 ⟨rfl, ho138, hb, hk⟩; (try clear hzgb2_0 hzgb2_1 hzgb2_2); (try clear hzgb36_0 hzgb36_1 hzgb36_2); refine ⟨_, rfl, ?_⟩; clear HO134; clear HO135; have m_ := Aside0.mk (show Kd.S (Kd.slice 3 (Kd.int .i64)) 73 w137 w.heap.size (fun k_ => (w102.heap.size ≤ k_ ∧ k_ < w103.heap.size) ∧ Pw103 k_) (.slice A7 r6.length c8) r6 from Kd.S_kept HO9.out hk (fun k_ hk_ hs_ => by (have := HSw100.out; have := HSw102.out; have := HSw103.out; have := HSw108.out; have := HSw111.out; have := HSw116.out; have := HSw118.out; have := HSw120.out; have := HSw123.out; have := HSw124.out; have := HSw125.out; have := HSw130.out; have := HSw131.out; have := HSw136.out; have h1_ : w102.heap.size ≤ k_ ∧ k_ < w103.heap.size := hk_.1; have h2_ : w118.heap.size ≤ k_ ∧ k_ < w120.heap.size := hs_.1.1.1; omega))); clear HO9; have HO9 := m_; clear m_; have m_ := Aside0.mk (show Kd.S (Kd.slice 3 (Kd.int .i64)) 73 w137 w.heap.size (fun k_ => (w102.heap.size ≤ k_ ∧ k_ < w103.heap.size) ∧ ¬ Pw103 k_) (.slice A12 r11.length c13) r11 from Kd.S_kept HO14.out hk (fun k_ hk_ hs_ => by (have := HSw100.out; have := HSw102.out; have := HSw103.out; have := HSw108.out; have := HSw111.out; have := HSw116.out; have := HSw118.out; have := HSw120.out; have := HSw123.out; have := HSw124.out; have := HSw125.out; have := HSw130.out; have := HSw131.out; have := HSw136.out; have h1_ : w102.heap.size ≤ k_ ∧ k_ < w103.heap.size := hk_.1; have h2_ : w118.heap.size ≤ k_ ∧ k_ < w120.heap.size := hs_.1.1.1; omega))); clear HO14; have HO14 := m_; clear m_; have m_ := Aside0.mk (show Kd.R k43 43 w137 w.heap.size (fun k_ => (w103.heap.size ≤ k_ ∧ k_ < w108.heap.size) ∧ True) (.slice A18 r17.length c19) r17 from Kd.R_kept HO20.out hk (fun k_ hk_ hs_ => by (have := HSw100.out; have := HSw102.out; have := HSw103.out; have := HSw108.out; have := HSw111.out; have := HSw116.out; have := HSw118.out; have := HSw120.out; have := HSw123.out; have := HSw124.out; have := HSw125.out; have := HSw130.out; have := HSw131.out; have := HSw136.out; have h1_ : w103.heap.size ≤ k_ ∧ k_ < w108.heap.size := hk_.1; have h2_ : w118.heap.size ≤ k_ ∧ k_ < w120.heap.size := hs_.1.1.1; omega))); clear HO20; have HO20 := m_; clear m_; have m_ := Aside0.mk (show Kd.S (Kd.slice 3 (Kd.int .i64)) 73 w137 w.heap.size (fun k_ => (w124.heap.size ≤ k_ ∧ k_ < w125.heap.size) ∧ Pw125 k_) (.slice A48 r47.length c49) r47 from Kd.S_kept HO50.out hk (fun k_ hk_ hs_ => by (have := HSw100.out; have := HSw102.out; have := HSw103.out; have := HSw108.out; have := HSw111.out; have := HSw116.out; have := HSw118.out; have := HSw120.out; have := HSw123.out; have := HSw124.out; have := HSw125.out; have := HSw130.out; have := HSw131.out; have := HSw136.out; have h1_ : w124.heap.size ≤ k_ ∧ k_ < w125.heap.size := hk_.1; have h2_ : w118.heap.size ≤ k_ ∧ k_ < w120.heap.size := hs_.1.1.1; omega))); clear HO50; have HO50 := m_; clear m_; have m_ := Aside0.mk (show Kd.S (Kd.slice 3 (Kd.int .i64)) 73 w137 w.heap.size (fun k_ => (w124.heap.size ≤ k_ ∧ k_ < w125.heap.size) ∧ ¬ Pw125 k_) (.slice A53 r52.length c54) r52 from Kd.S_kept HO55.out hk (fun k_ hk_ hs_ => by (have := HSw100.out; have := HSw102.out; have := HSw103.out; have := HSw108.out; have := HSw111.out; have := HSw116.out; have := HSw118.out; have := HSw120.out; have := HSw123.out; have := HSw124.out; have := HSw125.out; have := HSw130.out; have := HSw131.out; have := HSw136.out; have h1_ : w124.heap.size ≤ k_ ∧ k_ < w125.heap.size := hk_.1; have h2_ : w118.heap.size ≤ k_ ∧ k_ < w120.heap.size := hs_.1.1.1; omega))); clear HO55; have HO55 := m_; clear m_; have m_ := Aside0.mk (blk_kept BK101.out hk (fun hs_ => hs_.1.2 rfl)); clear BK101; have BK101 := m_; clear m_; have m_ := Aside0.mk (blk_kept BK119.out hk (fun hs_ => hs_.2 rfl)); clear BK119; have BK119 := m_; clear m_; clear HB; have HB := Aside0.mk hb; have HSw137 := Aside0.mk hk.1; clear HO40; have HO139 := Aside0.mk ho138; clear ho138; (try clear hb hk); have hzgb2_0 : w137.cell? ⟨gb2, 0, none⟩ = some (.slice A0_0 l0_0.length c0_0) := (blk_cell BK101.out 0).trans rfl; have hzgb2_1 : w137.cell? ⟨gb2, 1, none⟩ = some (.int .i64 a0_1) := (blk_cell BK101.out 1).trans rfl; have hzgb2_2 : w137.cell? ⟨gb2, 2, none⟩ = some (.slice A0_2 l0_2.length c0_2) := (blk_cell BK101.out 2).trans rfl; have hzgb36_0 : w137.cell? ⟨gb36, 0, none⟩ = some (.slice A25 r24.length c26) := (blk_cell BK119.out 0).trans rfl; have hzgb36_1 : w137.cell? ⟨gb36, 1, none⟩ = some (.int .i64 r28) := (blk_cell BK119.out 1).trans rfl; have hzgb36_2 : w137.cell? ⟨gb36, 2, none⟩ = some (.slice A30 r29.length c31) := (blk_cell BK119.out 2).trans rfl) | ((with_reducible refine gate_callee (f := 29) rfl ?_); (try (refine gate_guard (by rfl) ?_; dsimp only)); refine goesL_ (some 67) rfl rfl Try.func29 Yba_ rfl #[.slice A38 r37.length c39, .int .i64 1] rfl Ye_ ?_; have hcall_ := Bo.calls k _ _ r70 1 r97 w137 (Kd.Bh HO139.out).2.2 (Nat.le_trans (Nat.le_of_eq (Kd.Bh HO139.out).1.symm) (Kd.Bh HO139.out).2.1) A75.out; rw [← (show r37.length = r70.length from (Kd.Bh HO139.out).1)] at hcall_; refine hcall_.mono ?_; (try clear hcall_); rintro e w140 ⟨rfl, hb_⟩; (try clear hzgb2_0 hzgb2_1 hzgb2_2); (try clear hzgb36_0 hzgb36_1 hzgb36_2); refine ⟨_, rfl, ?_⟩; have hb := Drawn0.below hb_; clear hb_; have m_ := Aside0.mk (Kd.Ak HO9.out hb); clear HO9; have HO9 := m_; clear m_; have m_ := Aside0.mk (Kd.Ak HO14.out hb); clear HO14; have HO14 := m_; clear m_; have m_ := Aside0.mk (Kd.Cf HO20.out hb); clear HO20; have HO20 := m_; clear m_; have m_ := Aside0.mk (Kd.Ak HO50.out hb); clear HO50; have HO50 := m_; clear m_; have m_ := Aside0.mk (Kd.Ak HO55.out hb); clear HO55; have HO55 := m_; clear m_; have m_ := Aside0.mk (Kd.Cf HO139.out hb); clear HO139; have HO139 := m_; clear m_; have m_ := Aside0.mk (blk_below BK101.out hb); clear BK101; have BK101 := m_; clear m_; have m_ := Aside0.mk (blk_below BK119.out hb); clear BK119; have BK119 := m_; clear m_; have HSw140 := Aside0.mk (show w137.heap.size ≤ w140.heap.size from hb.size); have m_ := Aside0.mk (below_step HB.out hb); clear HB; have HB := m_; clear m_; clear hb; have hzgb2_0 : w140.cell? ⟨gb2, 0, none⟩ = some (.slice A0_0 l0_0.length c0_0) := (blk_cell BK101.out 0).trans rfl; have hzgb2_1 : w140.cell? ⟨gb2, 1, none⟩ = some (.int .i64 a0_1) := (blk_cell BK101.out 1).trans rfl; have hzgb2_2 : w140.cell? ⟨gb2, 2, none⟩ = some (.slice A0_2 l0_2.length c0_2) := (blk_cell BK101.out 2).trans rfl; have hzgb36_0 : w140.cell? ⟨gb36, 0, none⟩ = some (.slice A25 r24.length c26) := (blk_cell BK119.out 0).trans rfl; have hzgb36_1 : w140.cell? ⟨gb36, 1, none⟩ = some (.int .i64 r28) := (blk_cell BK119.out 1).trans rfl; have hzgb36_2 : w140.cell? ⟨gb36, 2, none⟩ = some (.slice A30 r29.length c31) := (blk_cell BK119.out 2).trans rfl) | ((with_reducible refine gate_callee (f := 12) rfl ?_); (try (refine gate_guard (by rfl) ?_; dsimp only)); refine goesL_ (some 75) rfl rfl Try.func12 Yba_ rfl #[.agg #[.slice A0_0 l0_0.length c0_0, .int .i64 a0_1, .slice A0_2 l0_2.length c0_2]] rfl Ye_ ?_; (with_reducible refine (Cm.calls2 k _ _ l0_0 a0_1 _ _ l0_2 r76 r80 r81 w140 (Kd.C_below HR0_0.out Yb_) HC0_0.out (Kd.C_below HR0_2.out Yb_) HC0_2.out A86.out).mono ?_); rintro e w141 ⟨Pw141, v144, v145, rfl, ho142, ho143, hb⟩; (try clear hzgb2_0 hzgb2_1 hzgb2_2); (try clear hzgb36_0 hzgb36_1 hzgb36_2); refine ⟨_, rfl, ?_⟩; have m_ := Aside0.mk (Kd.Ak HO9.out hb); clear HO9; have HO9 := m_; clear m_; have m_ := Aside0.mk (Kd.Ak HO14.out hb); clear HO14; have HO14 := m_; clear m_; have m_ := Aside0.mk (Kd.Cf HO20.out hb); clear HO20; have HO20 := m_; clear m_; have m_ := Aside0.mk (Kd.Ak HO50.out hb); clear HO50; have HO50 := m_; clear m_; have m_ := Aside0.mk (Kd.Ak HO55.out hb); clear HO55; have HO55 := m_; clear m_; have m_ := Aside0.mk (Kd.Cf HO139.out hb); clear HO139; have HO139 := m_; clear m_; have m_ := Aside0.mk (blk_below BK101.out hb); clear BK101; have BK101 := m_; clear m_; have m_ := Aside0.mk (blk_below BK119.out hb); clear BK119; have BK119 := m_; clear m_; have HSw141 := Aside0.mk (show w140.heap.size ≤ w141.heap.size from hb.size); have m_ := (show Kd.S (Kd.slice 3 (Kd.int .i64)) 73 w141 w.heap.size (fun k_ => (w140.heap.size ≤ k_ ∧ k_ < w141.heap.size) ∧ Pw141 k_) v144 r76 from Kd.S_mono (Kd.S_lower (Kd.Eg ho142) (below_size Yb_)) (fun k_ hk_ => ⟨⟨hk_.2.1, hk_.2.2.1⟩, hk_.1⟩)); obtain ⟨A77, c78, e_⟩ := Kd.S_slice m_; subst e_; have HO79 := Aside0.mk m_; clear m_ ho142; have m_ := (show Kd.S (Kd.slice 3 (Kd.int .i64)) 73 w141 w.heap.size (fun k_ => (w140.heap.size ≤ k_ ∧ k_ < w141.heap.size) ∧ ¬ Pw141 k_) v145 r81 from Kd.S_mono (Kd.S_lower (Kd.Eg ho143) (below_size Yb_)) (fun k_ hk_ => ⟨⟨hk_.2.1, hk_.2.2.1⟩, hk_.1⟩)); obtain ⟨A82, c83, e_⟩ := Kd.S_slice m_; subst e_; have HO84 := Aside0.mk m_; clear m_ ho143; have m_ := Aside0.mk (below_step HB.out hb); clear HB; have HB := m_; clear m_; clear hb; have hzgb2_0 : w141.cell? ⟨gb2, 0, none⟩ = some (.slice A0_0 l0_0.length c0_0) := (blk_cell BK101.out 0).trans rfl; have hzgb2_1 : w141.cell? ⟨gb2, 1, none⟩ = some (.int .i64 a0_1) := (blk_cell BK101.out 1).trans rfl; have hzgb2_2 : w141.cell? ⟨gb2, 2, none⟩ = some (.slice A0_2 l0_2.length c0_2) := (blk_cell BK101.out 2).trans rfl; have hzgb36_0 : w141.cell? ⟨gb36, 0, none⟩ = some (.slice A25 r24.length c26) := (blk_cell BK119.out 0).trans rfl; have hzgb36_1 : w141.cell? ⟨gb36, 1, none⟩ = some (.int .i64 r28) := (blk_cell BK119.out 1).trans rfl; have hzgb36_2 : w141.cell? ⟨gb36, 2, none⟩ = some (.slice A30 r29.length c31) := (blk_cell BK119.out 2).trans rfl) | ((with_reducible refine gate_callee (f := 26) rfl ?_); (try (refine gate_guard (by rfl) ?_; dsimp only)); refine goesL_ (some 76) rfl rfl Try.func26 Yba_ rfl #[.agg #[.slice A77 r76.length c78, .int .i64 r80, .slice A82 r81.length c83]] rfl Ye_ ?_; (with_reducible refine (impl_PossibleOrders.calls k _ _ r76 r80 _ _ r81 r87 r91 w141 (Kd.Dc HO79.out).2.2 (Nat.le_trans (Nat.le_of_eq (Kd.Dc HO79.out).1.symm) (Kd.Dc HO79.out).2.1) (Kd.Dc HO84.out).2.2 (Nat.le_trans (Nat.le_of_eq (Kd.Dc HO84.out).1.symm) (Kd.Dc HO84.out).2.1) A93.out).mono ?_); rintro e w146 ⟨v148, rfl, ho147, hb⟩; (try clear hzgb2_0 hzgb2_1 hzgb2_2); (try clear hzgb36_0 hzgb36_1 hzgb36_2); refine ⟨_, rfl, ?_⟩; have m_ := Aside0.mk (Kd.Ak HO9.out hb); clear HO9; have HO9 := m_; clear m_; have m_ := Aside0.mk (Kd.Ak HO14.out hb); clear HO14; have HO14 := m_; clear m_; have m_ := Aside0.mk (Kd.Cf HO20.out hb); clear HO20; have HO20 := m_; clear m_; have m_ := Aside0.mk (Kd.Ak HO50.out hb); clear HO50; have HO50 := m_; clear m_; have m_ := Aside0.mk (Kd.Ak HO55.out hb); clear HO55; have HO55 := m_; clear m_; have m_ := Aside0.mk (Kd.Ak HO79.out hb); clear HO79; have HO79 := m_; clear m_; have m_ := Aside0.mk (Kd.Ak HO84.out hb); clear HO84; have HO84 := m_; clear m_; have m_ := Aside0.mk (Kd.Cf HO139.out hb); clear HO139; have HO139 := m_; clear m_; have m_ := Aside0.mk (blk_below BK101.out hb); clear BK101; have BK101 := m_; clear m_; have m_ := Aside0.mk (blk_below BK119.out hb); clear BK119; have BK119 := m_; clear m_; have HSw146 := Aside0.mk (show w141.heap.size ≤ w146.heap.size from hb.size); have m_ := (show Kd.R k43 43 w146 w.heap.size (fun k_ => (w141.heap.size ≤ k_ ∧ k_ < w146.heap.size) ∧ True) v148 r87 from Kd.Ci (Kd.R_lower (Kd.Ey ho147) (below_size Yb_)) (fun k_ hk_ => ⟨⟨hk_.2.1, hk_.2.2.1⟩, trivial⟩)); obtain ⟨A88, c89, e_⟩ := Kd.Di m_; subst e_; have HO90 := Aside0.mk m_; clear m_ ho147; have m_ := Aside0.mk (below_step HB.out hb); clear HB; have HB := m_; clear m_; clear hb; have hzgb2_0 : w146.cell? ⟨gb2, 0, none⟩ = some (.slice A0_0 l0_0.length c0_0) := (blk_cell BK101.out 0).trans rfl; have hzgb2_1 : w146.cell? ⟨gb2, 1, none⟩ = some (.int .i64 a0_1) := (blk_cell BK101.out 1).trans rfl; have hzgb2_2 : w146.cell? ⟨gb2, 2, none⟩ = some (.slice A0_2 l0_2.length c0_2) := (blk_cell BK101.out 2).trans rfl; have hzgb36_0 : w146.cell? ⟨gb36, 0, none⟩ = some (.slice A25 r24.length c26) := (blk_cell BK119.out 0).trans rfl; have hzgb36_1 : w146.cell? ⟨gb36, 1, none⟩ = some (.int .i64 r28) := (blk_cell BK119.out 1).trans rfl; have hzgb36_2 : w146.cell? ⟨gb36, 2, none⟩ = some (.slice A30 r29.length c31) := (blk_cell BK119.out 2).trans rfl) | ((with_reducible refine gate_callee (f := 27) rfl ?_); (try (refine gate_guard (by rfl) ?_; dsimp only)); refine goesL_ (some 81) rfl rfl Try.func27 Yba_ rfl #[.slice A88 r87.length c89, .slice A18 r17.length c19] rfl Ye_ ?_; (with_reducible refine (Aj.calls k _ _ r87 _ _ r17 true w146 (Kd.Bh HO90.out).2.2 (Nat.le_trans (Nat.le_of_eq (Kd.Bh HO90.out).1.symm) (Kd.Bh HO90.out).2.1) (Kd.Bh HO20.out).2.2 (Nat.le_trans (Nat.le_of_eq (Kd.Bh HO20.out).1.symm) (Kd.Bh HO20.out).2.1) A96.out).mono ?_); rintro e w149 ⟨rfl, hb⟩; (try clear hzgb2_0 hzgb2_1 hzgb2_2); (try clear hzgb36_0 hzgb36_1 hzgb36_2); refine ⟨_, rfl, ?_⟩; have m_ := Aside0.mk (Kd.Ak HO9.out hb); clear HO9; have HO9 := m_; clear m_; have m_ := Aside0.mk (Kd.Ak HO14.out hb); clear HO14; have HO14 := m_; clear m_; have m_ := Aside0.mk (Kd.Cf HO20.out hb); clear HO20; have HO20 := m_; clear m_; have m_ := Aside0.mk (Kd.Ak HO50.out hb); clear HO50; have HO50 := m_; clear m_; have m_ := Aside0.mk (Kd.Ak HO55.out hb); clear HO55; have HO55 := m_; clear m_; have m_ := Aside0.mk (Kd.Ak HO79.out hb); clear HO79; have HO79 := m_; clear m_; have m_ := Aside0.mk (Kd.Ak HO84.out hb); clear HO84; have HO84 := m_; clear m_; have m_ := Aside0.mk (Kd.Cf HO90.out hb); clear HO90; have HO90 := m_; clear m_; have m_ := Aside0.mk (Kd.Cf HO139.out hb); clear HO139; have HO139 := m_; clear m_; have m_ := Aside0.mk (blk_below BK101.out hb); clear BK101; have BK101 := m_; clear m_; have m_ := Aside0.mk (blk_below BK119.out hb); clear BK119; have BK119 := m_; clear m_; have HSw149 := Aside0.mk (show w146.heap.size ≤ w149.heap.size from hb.size); have m_ := Aside0.mk (below_step HB.out hb); clear HB; have HB := m_; clear m_; clear hb; have hzgb2_0 : w149.cell? ⟨gb2, 0, none⟩ = some (.slice A0_0 l0_0.length c0_0) := (blk_cell BK101.out 0).trans rfl; have hzgb2_1 : w149.cell? ⟨gb2, 1, none⟩ = some (.int .i64 a0_1) := (blk_cell BK101.out 1).trans rfl; have hzgb2_2 : w149.cell? ⟨gb2, 2, none⟩ = some (.slice A0_2 l0_2.length c0_2) := (blk_cell BK101.out 2).trans rfl; have hzgb36_0 : w149.cell? ⟨gb36, 0, none⟩ = some (.slice A25 r24.length c26) := (blk_cell BK119.out 0).trans rfl; have hzgb36_1 : w149.cell? ⟨gb36, 1, none⟩ = some (.int .i64 r28) := (blk_cell BK119.out 1).trans rfl; have hzgb36_2 : w149.cell? ⟨gb36, 2, none⟩ = some (.slice A30 r29.length c31) := (blk_cell BK119.out 2).trans rfl) | ((with_reducible refine gate_callee (f := 29) rfl ?_); (try (refine gate_guard (by rfl) ?_; dsimp only)); refine goesL_ (some 90) rfl rfl Try.func29 Yba_ rfl #[.slice A38 r37.length c39, .int .i64 1] rfl Ye_ ?_; have hcall_ := Bo.calls k _ _ r70 1 r97 w149 (Kd.Bh HO139.out).2.2 (Nat.le_trans (Nat.le_of_eq (Kd.Bh HO139.out).1.symm) (Kd.Bh HO139.out).2.1) A99.out; rw [← (show r37.length = r70.length from (Kd.Bh HO139.out).1)] at hcall_; refine hcall_.mono ?_; (try clear hcall_); rintro e w150 ⟨rfl, hb_⟩; (try clear hzgb2_0 hzgb2_1 hzgb2_2); (try clear hzgb36_0 hzgb36_1 hzgb36_2); refine ⟨_, rfl, ?_⟩; have hb := Drawn0.below hb_; clear hb_; have m_ := Aside0.mk (Kd.Ak HO9.out hb); clear HO9; have HO9 := m_; clear m_; have m_ := Aside0.mk (Kd.Ak HO14.out hb); clear HO14; have HO14 := m_; clear m_; have m_ := Aside0.mk (Kd.Cf HO20.out hb); clear HO20; have HO20 := m_; clear m_; have m_ := Aside0.mk (Kd.Ak HO50.out hb); clear HO50; have HO50 := m_; clear m_; have m_ := Aside0.mk (Kd.Ak HO55.out hb); clear HO55; have HO55 := m_; clear m_; have m_ := Aside0.mk (Kd.Ak HO79.out hb); clear HO79; have HO79 := m_; clear m_; have m_ := Aside0.mk (Kd.Ak HO84.out hb); clear HO84; have HO84 := m_; clear m_; have m_ := Aside0.mk (Kd.Cf HO90.out hb); clear HO90; have HO90 := m_; clear m_; have m_ := Aside0.mk (Kd.Cf HO139.out hb); clear HO139; have HO139 := m_; clear m_; have m_ := Aside0.mk (blk_below BK101.out hb); clear BK101; have BK101 := m_; clear m_; have m_ := Aside0.mk (blk_below BK119.out hb); clear BK119; have BK119 := m_; clear m_; have HSw150 := Aside0.mk (show w149.heap.size ≤ w150.heap.size from hb.size); have m_ := Aside0.mk (below_step HB.out hb); clear HB; have HB := m_; clear m_; clear hb; have hzgb2_0 : w150.cell? ⟨gb2, 0, none⟩ = some (.slice A0_0 l0_0.length c0_0) := (blk_cell BK101.out 0).trans rfl; have hzgb2_1 : w150.cell? ⟨gb2, 1, none⟩ = some (.int .i64 a0_1) := (blk_cell BK101.out 1).trans rfl; have hzgb2_2 : w150.cell? ⟨gb2, 2, none⟩ = some (.slice A0_2 l0_2.length c0_2) := (blk_cell BK101.out 2).trans rfl; have hzgb36_0 : w150.cell? ⟨gb36, 0, none⟩ = some (.slice A25 r24.length c26) := (blk_cell BK119.out 0).trans rfl; have hzgb36_1 : w150.cell? ⟨gb36, 1, none⟩ = some (.int .i64 r28) := (blk_cell BK119.out 1).trans rfl; have hzgb36_2 : w150.cell? ⟨gb36, 2, none⟩ = some (.slice A30 r29.length c31) := (blk_cell BK119.out 2).trans rfl))
  repeat (go_quiet (fail); try go_wp2)
  go_ret
  exact ⟨rfl, by repeat (first | (with_reducible first | exact HB.out | apply below_alloc | apply pw_below_drewN | apply below_drew1) | exact HB.out)⟩
end Go.Proofs.Ytnggfglmjdiaaaa.X

namespace Go.Proofs.YtnggfglmjdiaaaaZ
open Go.ChangeShapes Go.WideShapes Go.ChangeAt Go.RowKit
open Go.Proofs.YtnggfglmjdiaaaaW.PrintWords
section
variable {P : Program}
/-- A reading of type t is a value of kind d, and the value fits. -/
def Opens (P : Program) {α : Type} (d : Kd α) (t : TypeId) (fits : α → Prop) : Prop :=
 ∀ {H : Type} {enc : TypeId × Value → H} {w : World} {base : Nat} {spare : Nat → Bool} {held : Bool} {fuel : Nat} {cs : List Value} {x : DataW H × List MemPlace},
  DataW.trod enc P w base spare held fuel t cs = some x → (∀ n ∈ x.1.weights P t, n ≤ reachBytes) → ∃ v, d.K w v cs ∧ fits v
theorem opens_int {k : IntKind} {t : TypeId} (ht : P.underlying t = some (.int k)) : Opens P (Kd.int k) t (fun n => (Lit.int k n).wf = true) := by
 intro H enc w base spare held fuel cs x h _
 obtain ⟨n, rfl, _, hw⟩ := DataW.trod_int ht h
 exact ⟨n, rfl, hw⟩
theorem weightsAll_mem {H : Type} {e : TypeId} {d : DataW H} {n : Nat} : ∀ {l : List (DataW H)}, d ∈ l → n ∈ d.weights P e → n ∈ DataW.weightsAll P e l
 | [], h, _ => by cases h
 | x :: r, h, hn => by
  simp only [DataW.weightsAll, List.mem_append]
  rcases List.mem_cons.1 h with rfl | h
  ·exact .inl hn
  ·exact .inr (weightsAll_mem h hn)
theorem weightsEach_mem {H : Type} {n : Nat} : ∀ {ts : List TypeId} {l : List (DataW H)} {i : Nat} {t : TypeId} {d : DataW H}, ts[i]? = some t → l[i]? = some d → n ∈ d.weights P t → n ∈ DataW.weightsEach P ts l
 | [], l, i, t, d, h, _, _ => by simp at h
 | t :: ts, [], i, _, _, _, h, _ => by simp at h
 | t :: ts, d :: l, 0, _, _, h, k, hn => by
  simp at h k; subst h k
  simp only [DataW.weightsEach, List.mem_append]; exact .inl hn
 | t :: ts, d :: l, i + 1, _, _, h, k, hn => by
  simp at h k
  simp only [DataW.weightsEach, List.mem_append]; exact .inr (weightsEach_mem h k hn)
theorem opens_slice {α : Type} (z : α) {d : Kd α} {t e : TypeId} {fits : α → Prop} (ht : P.underlying t = some (.slice e)) (hsz : P.cellsOf e = d.sz) (he : Opens P d e fits) {B : Nat} (hB : P.bytesOf e = B) :
  Opens P (Kd.slice e d) t (fun l => l.length * B ≤ 140737488351232 ∧ l.length ≤ 9223372036854775807 ∧ ∀ x ∈ l, fits x) := by
 intro H enc w base spare held fuel cs x h hw
 rcases Deep.open_slice ht h with ⟨rfl, rfl⟩ | ⟨a, len, cap, m, n, D, Pl, rfl, hb, hl, hm, hmm, rfl, hc⟩
 ·exact ⟨[], ⟨none, 0, rfl, Nat.le_refl _, Kd.C_nil d w⟩, by simp, by simp, fun x hx => by cases hx⟩
 ·have hlm : len ≤ m := by rw [hmm]; split <;> omega
  have hbnd : len * B ≤ 140737488351232 := by
   have := hw ((((List.range len).map D).length + ((List.range (m - len)).map fun j => D (len + j)).length) * P.bytesOf e) (by simp [DataW.weights, ht])
   simp only [List.length_map, List.length_range, hB] at this
   have h2 : len * B ≤ (len + (m - len)) * B := Nat.mul_le_mul_right _ (by omega)
   exact Nat.le_trans h2 this
  have hel : ∀ i, i < len → ∃ v : α, (∃ c, c.length = d.sz ∧ d.K w v c ∧ ∀ j u, c[j]? = some u → w.cell? (a.add (i * d.sz + j)) = some u) ∧ fits v := by
   intro i hi
   obtain ⟨c, h1, h2⟩ := hc i (by omega)
   obtain ⟨v, hv, hf⟩ := he h2 (fun k hk => hw k (by
    simp only [DataW.weights, ht, List.mem_cons, List.mem_append]
    exact .inr (.inl (weightsAll_mem (d := D i) (List.mem_map.2 ⟨i, List.mem_range.2 hi, rfl⟩) hk))))
   rw [hsz] at h1
   obtain ⟨_, hlen, hcell⟩ := World.cells?_some h1
   refine ⟨v, ⟨c, hlen, hv, fun j u hj => ?_⟩, hf⟩
   have hjl : j < d.sz := by rw [← hlen]; exact (List.getElem?_eq_some_iff.1 hj).1
   rw [← Deep.add_add, hcell j hjl]
   exact hj
  haveI : Inhabited α := ⟨z⟩
  obtain ⟨f, hf⟩ := Deep.choose_lt hel
  refine ⟨(List.range len).map f, ⟨some a, cap, by simp, by simpa using hl, ⟨by simp, ?_, fun _ => ⟨a, rfl, ?_⟩⟩⟩, by simpa using hbnd, by simp; unfold maxLen at hm; omega, ?_⟩
  ·simp; unfold maxLen at hm; omega
  ·intro j p hj
   have hjl : j < len := by
    have := (List.getElem?_eq_some_iff.1 hj).1
    simpa using this
   rw [List.getElem?_map, List.getElem?_range hjl] at hj
   simp only [Option.map_some, Option.some.injEq] at hj
   subst hj
   exact (hf j hjl).1
  ·intro x hx
   obtain ⟨j, hj, rfl⟩ := List.mem_map.1 hx
   exact (hf j (List.mem_range.1 hj)).2
/-- Fields from offset o on to the struct's end L, as a value of kind d. -/
def OpensF (P : Program) {α : Type} (d : Kd α) (fs : List Field) (o L : Nat) (fits : α → Prop) : Prop :=
 ∀ {H : Type} {enc : TypeId × Value → H} {w : World} {base : Nat} {spare : Nat → Bool} {held : Bool} {fuel : Nat} {cs : List Value} {xs : List (DataW H × List MemPlace)},
  cs.length = L → xs.length = fs.length → (∀ (i : Nat) (f : Field), fs[i]? = some f → DataW.trod enc P w base spare held fuel f.type ((cs.drop f.offset).take (P.cellsOf f.type)) = xs[i]?) →
  (∀ n ∈ DataW.weightsEach P (fs.map (·.type)) (xs.map (·.1)), n ≤ reachBytes) → ∃ v, d.K w v (cs.drop o) ∧ fits v
theorem opensF_one {α : Type} {d : Kd α} {f : Field} {o L : Nat} {fits : α → Prop} (t : TypeId) (hft : f.type = t) (ho : f.offset = o) (hL : o + P.cellsOf t = L) (h : Opens P d t fits) : OpensF P d [f] o L fits := by
 intro H enc w base spare held fuel cs xs hlen hxs hf hw
 match xs, hxs with
 | [x], _ =>
  have h0 := hf 0 f rfl
  rw [hft, ho, List.take_of_length_le (by rw [List.length_drop]; omega)] at h0
  exact h h0 (fun n hn => hw n (by rw [hft.symm] at hn; simp [DataW.weightsEach]; exact hn))
theorem opensF_cons {α β : Type} {d : Kd α} {d' : Kd β} {f : Field} {rest : List Field} {o o' L : Nat} {fits : α → Prop} {fits' : β → Prop} (t : TypeId) (hft : f.type = t) (ho : f.offset = o) (hn : o + P.cellsOf t = o') (h : Opens P d t fits) (hr : OpensF P d' rest o' L fits') :
  OpensF P (Kd.pair d d') (f :: rest) o L (fun p => fits p.1 ∧ fits' p.2) := by
 intro H enc w base spare held fuel cs xs hlen hxs hf hw
 match xs, hxs with
 | x :: xs, hxs =>
  have h0 := hf 0 f rfl
  rw [hft, ho] at h0
  obtain ⟨v, hv, fv⟩ := h h0 (fun n hn => hw n (by rw [hft.symm] at hn; simp [DataW.weightsEach]; exact .inl hn))
  obtain ⟨v', hv', fv'⟩ := hr (cs := cs) (xs := xs) hlen (by simpa using hxs) (fun i g hg => by simpa using hf (i + 1) g (by simpa using hg)) (fun n hn => hw n (by simp only [List.map_cons, DataW.weightsEach, List.mem_append]; exact .inr hn))
  exact ⟨(v, v'), ⟨(cs.drop o).take (P.cellsOf t), cs.drop o', by rw [← hn, ← List.drop_drop]; exact (List.take_append_drop _ _).symm, hv, hv'⟩, fv, fv'⟩
theorem opens_struct {α β : Type} {d : Kd α} {t : TypeId} {fs : Array Field} {L : Nat} {fits : α → Prop} {fits' : β → Prop} (ht : P.underlying t = some (.struct fs)) (hL : P.cellsOf t = L) (h : OpensF P d fs.toList 0 L fits) (g : β → α) (inv : α → β) (hinv : ∀ a, g (inv a) = a) (hf : ∀ a, fits a → fits' (inv a)) :
  Opens P (Kd.iso d g) t fits' := by
 intro H enc w base spare held fuel cs x hx hw
 obtain ⟨xs, n, rfl, rfl, hl, hlen, hff⟩ := DataW.trod_struct ht hx
 obtain ⟨v, hv, fv⟩ := h (cs := cs) (xs := xs) (by rw [hl, hL]) (by simpa using hlen) (fun i f hi => hff i f (by simpa using hi)) (fun k hk => hw k (by simp only [DataW.weights, ht]; exact hk))
 refine ⟨inv v, ?_, hf v fv⟩
 show d.K w (g (inv v)) cs
 rw [hinv]
 simpa using hv
/-- A parameter's weights are among all. -/
theorem weights_param {H : Type} {ts : List TypeId} {ds : List (DataW H)} {j : Nat} {t : TypeId} {d : DataW H} (hsz : (DataW.weightsEach P ts ds).all (· ≤ reachBytes) = true) (ht : ts[j]? = some t) (hd : ds[j]? = some d) : ∀ n ∈ d.weights P t, n ≤ reachBytes := fun n hn => by
 have := List.all_eq_true.1 hsz n (weightsEach_mem ht hd hn)
 simpa using this
end
end Go.Proofs.YtnggfglmjdiaaaaZ

namespace Go.Proofs.Ytnggfglmjdiaaaa.X
open Go.RowKit Go.Proofs.YtnggfglmjdiaaaaW.PrintWords Go.Proofs.YtnggfglmjdiaaaaW.PrintLast Go.Proofs.YtnggfglmjdiaaaaW.PrintMore
open Go.Proofs.YtnggfglmjdiaaaaZ
namespace OFnExactPossibleOrders
def fitsT24 (x : S24) : Prop := (x.f0.length * 24 ≤ 140737488351232 ∧ x.f0.length ≤ 9223372036854775807 ∧ ∀ y4 ∈ x.f0, (y4.length * 8 ≤ 140737488351232 ∧ y4.length ≤ 9223372036854775807 ∧ ∀ y2 ∈ y4, (Lit.int .i64 y2).wf = true))
theorem opensT24 : Opens Try.prog k24 24 fitsT24 :=
 opens_struct (L := 1) Try.underlying24 (by kernel_rfl) (opensF_one 22 rfl rfl (by kernel_rfl) (opens_slice [] Try.underlying22 (by kernel_rfl) (opens_slice 0 Try.underlying73 (by kernel_rfl) (opens_int Try.underlying3) (by kernel_rfl)) (by kernel_rfl))) (fun x : S24 => x.f0) (fun p => ⟨p⟩) (fun _ => rfl) (fun _ h => h)
def fitsT26 (x : S26) : Prop := (Lit.int .i64 x.f0).wf = true ∧ (x.f1.length * 24 ≤ 140737488351232 ∧ x.f1.length ≤ 9223372036854775807 ∧ ∀ y4 ∈ x.f1, (y4.length * 8 ≤ 140737488351232 ∧ y4.length ≤ 9223372036854775807 ∧ ∀ y2 ∈ y4, (Lit.int .i64 y2).wf = true))
theorem opensT26 : Opens Try.prog k26 26 fitsT26 :=
 opens_struct (L := 2) Try.underlying26 (by kernel_rfl) (opensF_cons (o' := 1) 3 rfl rfl (by kernel_rfl) (opens_int Try.underlying3) (opensF_one 22 rfl rfl (by kernel_rfl) (opens_slice [] Try.underlying22 (by kernel_rfl) (opens_slice 0 Try.underlying73 (by kernel_rfl) (opens_int Try.underlying3) (by kernel_rfl)) (by kernel_rfl)))) (fun x : S26 => (x.f0, x.f1)) (fun p => ⟨p.1, p.2⟩) (fun _ => rfl) (fun _ h => h)
def fitsT28 (x : S28) : Prop := fitsT24 x.f0 ∧ fitsT26 x.f1
theorem opensT28 : Opens Try.prog k28 28 fitsT28 :=
 opens_struct (L := 3) Try.underlying28 (by kernel_rfl) (opensF_cons (o' := 1) 24 rfl rfl (by kernel_rfl) opensT24 (opensF_one 26 rfl rfl (by kernel_rfl) opensT26)) (fun x : S28 => (x.f0, x.f1)) (fun p => ⟨p.1, p.2⟩) (fun _ => rfl) (fun _ h => h)
def Pure : Prop := ∀ (x0 : S28), fitsT28 x0 → ∃ k, Dp.f k x0.f0.f0 x0.f1.f0 x0.f1.f1 = some true
end OFnExactPossibleOrders
end Go.Proofs.Ytnggfglmjdiaaaa.X

namespace Go.Proofs.YtnggfglmjdiaaaaL
open Go.RowKit Go.Proofs.YtnggfglmjdiaaaaW.PrintWords
theorem ev_eq {α : Type} {g : Nat → Option α} {r : α} (h : ∀ k, g k = some r) : Ev g r := ⟨0, fun k _ => h k⟩
theorem ev_rounds {α : Type} {g : Nat → Option α} {r : α} (h : Ev g r) : ∃ k, g k = some r := h.rounds
theorem wrap_id {x : Int} (h0 : -9223372036854775808 ≤ x) (h1 : x ≤ 9223372036854775807) : wrap64 x = x := by unfold wrap64; omega
theorem wrap_succ {n : Nat} (h : n < 9223372036854775807) : wrap64 ((n : Int) + 1) = ((n + 1 : Nat) : Int) := by rw [wrap_id (by omega) (by omega)]; rfl
theorem rd_at (l : List Int) (n : Nat) (h : n < l.length) : rd l (n : Int) = l[n] := by simp [rd, List.getD_eq_getElem?_getD, List.getElem?_eq_getElem h]
/-- A list that is filled from the front. -/
def fill {α β : Type} (f : α → β) (z : β) (l : List α) (n : Nat) : List β := (l.take n).map f ++ List.replicate (l.length - n) z
theorem fill_zero {α β : Type} (f : α → β) (z : β) (l : List α) : fill f z l 0 = List.replicate l.length z := by simp [fill]
theorem fill_length {α β : Type} (f : α → β) (z : β) (l : List α) (n : Nat) (h : n ≤ l.length) : (fill f z l n).length = l.length := by simp only [fill, List.length_append, List.length_map, List.length_take, List.length_replicate]; omega
theorem fill_set {α β : Type} (f : α → β) (z : β) (l : List α) (n : Nat) (h : n < l.length) : (fill f z l n).set n (f l[n]) = fill f z l (n + 1) := by
 have e : l.length - n = (l.length - (n + 1)) + 1 := by omega
 have ht : l.take (n + 1) = l.take n ++ [l[n]] := by rw [List.take_succ_eq_append_getElem h]
 unfold fill
 rw [e, List.replicate_succ, ht, List.set_append_right _ _ (by simp; omega)]
 have : n - ((l.take n).map f).length = 0 := by simp; omega
 rw [this, List.map_append, List.append_assoc]
 rfl
theorem fill_all {α β : Type} (f : α → β) (z : β) (l : List α) : fill f z l l.length = l.map f := by simp [fill]
end Go.Proofs.YtnggfglmjdiaaaaL

namespace Go.Proofs.Ytnggfglmjdiaaaa.X
open Go.RowKit Go.Proofs.YtnggfglmjdiaaaaW.PrintWords Go.Proofs.YtnggfglmjdiaaaaL
theorem eqIntS_ev (l : List Int) (h : l.length ≤ 4611686018427387904) : Ev (fun k => Bl.f k l l) true := by
 have key : ∀ (d n : Nat), n + d = l.length → Ev (fun k => Bl.l0 k l l n) true := by
  intro d
  induction d with
  | zero => intro n hn; exact Ev.step (f := fun _ => some _) (fun k => by simp only [Bl.l0]; rw [if_neg (by omega)]) (Ev.now _)
  | succ d ih =>
   intro n hn
   refine Ev.step (f := fun k => Bl.l0 k l l ((n + 1 : Nat) : Int)) (fun k => ?_) (ih (n + 1) (by omega))
   simp only [Bl.l0]
   rw [if_pos (by omega), if_pos (by omega), if_pos (by omega), wrap_succ (by omega)]
   simp
 exact Ev.congr (f := fun k => Bl.l0 k l l ((0 : Nat) : Int)) (fun k => by unfold Bl.f; rw [if_pos rfl]; rfl) (key l.length 0 (by omega))
theorem rdR (l : List (List Int)) (n : Nat) (h : n < l.length) : rd_L1 l (n : Int) = l[n] := by simp [rd_L1, List.getD_eq_getElem?_getD, List.getElem?_eq_getElem h]
theorem eqIntSS_ev (l : List (List Int)) (h : l.length ≤ 1048576) (hr : ∀ s ∈ l, s.length ≤ 1048576) : Ev (fun k => Aw.f k l l) true := by
 have key : ∀ (d n : Nat), n + d = l.length → Ev (fun k => Aw.l0 k l l n) true := by
  intro d
  induction d with
  | zero => intro n hn; exact Ev.step (f := fun _ => some _) (fun k => by simp only [Aw.l0]; rw [if_neg (by omega)]) (Ev.now _)
  | succ d ih =>
   intro n hn
   have hnl : n < l.length := by omega
   have hm := hr _ (List.getElem_mem hnl)
   refine Ev.step (f := fun k => (Bl.f k l[n] l[n]).bind fun t => if t = true then Aw.l0 k l l ((n + 1 : Nat) : Int) else some false) (fun k => ?_) (Ev.bind (eqIntS_ev l[n] (by have : l[n].length ≤ 1048576 := hm; omega)) ?_)
   ·simp only [Aw.l0]
    rw [if_pos (by omega), if_pos (by omega), if_pos (by omega), rdR l n hnl, wrap_succ (by omega)]
   ·simp only [if_true]; exact ih (n + 1) (by omega)
 exact Ev.congr (f := fun k => Aw.l0 k l l ((0 : Nat) : Int)) (fun k => by unfold Aw.f; rw [if_pos rfl]; rfl) (key l.length 0 (by omega))
theorem szIntS_eq (l : List Int) (a : Int) (h0 : 0 ≤ a) (h1 : a ≤ 1048576) (hl : l.length ≤ 4611686018427387904) : Fe.f l a = some (if a - (l.length : Int) < 0 then -1 else a - (l.length : Int)) := by
 unfold Fe.f
 rw [wrap_id (by omega) (by omega)]
 split <;> rfl
theorem szIntSS_ev (l : List (List Int)) (a : Int) (h0 : 0 ≤ a) (h1 : a ≤ 1048576) (hl : l.length ≤ 4611686018427387904) (hr : ∀ s ∈ l, s.length ≤ 4611686018427387904) :
  ∃ r, Ev (fun k => Az.f k l a) r ∧ (r < 0 ∨ (0 ≤ r ∧ r ≤ a ∧ (l.length : Int) ≤ a ∧ ∀ s ∈ l, (s.length : Int) ≤ a)) := by
 have key : ∀ (d n : Nat) (x : Int), n + d = l.length → 0 ≤ x → x ≤ a → ∃ r, Ev (fun k => Az.l0 k l x n) r ∧ (r < 0 ∨ (0 ≤ r ∧ r ≤ x ∧ ∀ s ∈ l.drop n, (s.length : Int) ≤ a)) := by
  intro d
  induction d with
  | zero =>
   intro n x hn hx0 hxa
   exact ⟨x, Ev.step (f := fun _ => some _) (fun k => by simp only [Az.l0]; rw [if_neg (by omega)]) (Ev.now _), .inr ⟨hx0, Int.le_refl _, by rw [List.drop_of_length_le (by omega)]; simp⟩⟩
  | succ d ih =>
   intro n x hn hx0 hxa
   have hnl : n < l.length := by omega
   have hm := hr _ (List.getElem_mem hnl)
   by_cases c : x - (l[n].length : Int) < 0
   ·refine ⟨-1, Ev.step (f := fun _ => some (-1)) (fun k => ?_) (Ev.now _), .inl (by decide)⟩
    simp only [Az.l0]
    rw [if_pos (by omega), if_pos (by omega), rdR l n hnl, szIntS_eq _ _ hx0 (by omega) hm, if_pos c]
    rfl
   ·obtain ⟨r, hev, hq⟩ := ih (n + 1) (x - (l[n].length : Int)) (by omega) (by omega) (by omega)
    refine ⟨r, Ev.step (fun k => ?_) hev, hq.imp id (fun z => ⟨z.1, by omega, ?_⟩)⟩
    ·simp only [Az.l0]
     rw [if_pos (by omega), if_pos (by omega), rdR l n hnl, szIntS_eq _ _ hx0 (by omega) hm, if_neg c]
     simp only [Option.bind_some]
     rw [if_neg c, wrap_succ (by omega)]
    ·rw [List.drop_eq_getElem_cons hnl]
     intro s hs
     rcases List.mem_cons.1 hs with rfl | hs
     ·omega
     ·exact z.2.2 s hs
 by_cases c : a - (l.length : Int) < 0
 ·exact ⟨-1, ev_eq (fun k => by unfold Az.f; rw [wrap_id (by omega) (by omega), if_pos c]), .inl (by decide)⟩
 ·obtain ⟨r, hev, hq⟩ := key l.length 0 (a - (l.length : Int)) (by omega) (by omega) (by omega)
  refine ⟨r, Ev.congr (fun k => by unfold Az.f; rw [wrap_id (by omega) (by omega), if_neg c]; rfl) hev, hq.imp id (fun z => ⟨z.1, by omega, by omega, by simpa using z.2.2⟩)⟩
theorem toIntS_ev (l : List Int) (h : l.length ≤ 1048576) : Ev (fun k => Bv.f k l) l := by
 have key : ∀ (d n : Nat), n + d = l.length → Ev (fun k => Bv.l0 k l (fill id (0 : Int) l n) n) l := by
  intro d
  induction d with
  | zero =>
   intro n hn
   obtain rfl : n = l.length := by omega
   have e : fill id (0 : Int) l l.length = l := by rw [fill_all]; simp
   rw [e]
   exact Ev.step (f := fun _ => some _) (fun k => by simp only [Bv.l0]; rw [if_neg (by omega)]) (Ev.now _)
  | succ d ih =>
   intro n hn
   have hnl : n < l.length := by omega
   refine Ev.step (fun k => ?_) (ih (n + 1) (by omega))
   simp only [Bv.l0]
   rw [if_pos (by omega), if_pos (by omega), fill_length id _ l n (by omega), if_pos (by omega), rd_at l n hnl, wrap_succ (by omega), Int.toNat_natCast, ← fill_set id _ l n hnl]
   rfl
 refine Ev.congr (fun k => ?_) (key l.length 0 (by omega))
 unfold Bv.f
 rw [if_pos (by omega), if_pos (by omega), fill_zero, Int.toNat_natCast]
 rfl
theorem toIntSS_ev (l : List (List Int)) (h : l.length ≤ 1048576) (hr : ∀ s ∈ l, s.length ≤ 1048576) : Ev (fun k => Ba.f k l) l := by
 have key : ∀ (d n : Nat), n + d = l.length → Ev (fun k => Ba.l0 k l (fill id ([] : List Int) l n) n) l := by
  intro d
  induction d with
  | zero =>
   intro n hn
   obtain rfl : n = l.length := by omega
   have e : fill id ([] : List Int) l l.length = l := by rw [fill_all]; simp
   rw [e]
   exact Ev.step (f := fun _ => some _) (fun k => by simp only [Ba.l0]; rw [if_neg (by omega)]) (Ev.now _)
  | succ d ih =>
   intro n hn
   have hnl : n < l.length := by omega
   refine Ev.step (f := fun k => (Bv.f k l[n]).bind fun t => Ba.l0 k l ((fill id ([] : List Int) l n).set n t) ((n + 1 : Nat) : Int)) (fun k => ?_) (Ev.bind (toIntS_ev _ (hr _ (List.getElem_mem hnl))) ?_)
   ·simp only [Ba.l0, fill_length id _ l n (show n ≤ l.length by omega)]
    rw [if_pos (by omega), if_pos (by omega), rdR l n hnl]
    simp only [if_pos (show (n : Int) < (l.length : Int) by omega), wrap_succ (show n < 9223372036854775807 by omega), Int.toNat_natCast]
   ·have e : (fill id ([] : List Int) l n).set n l[n] = fill id ([] : List Int) l (n + 1) := by rw [← fill_set id _ l n hnl]; rfl
    rw [e]
    exact ih (n + 1) (by omega)
 refine Ev.congr (fun k => ?_) (key l.length 0 (by omega))
 unfold Ba.f
 rw [if_pos (by omega), if_pos (by omega), fill_zero, Int.toNat_natCast]
 rfl
theorem l1In_eq2 (a b c : Int) : Bj.f a b c = some (decide (b ≤ a) && decide (a ≤ c)) := by
 unfold Bj.f
 by_cases h : a ≥ b
 ·rw [if_pos h]; simp [show b ≤ a from h]
 ·rw [if_neg h]; simp [show ¬ b ≤ a from h]
theorem has_ev (S : List Int) (n : Int) (hS : S.length ≤ 1048576) : Ev (fun k => Am.f k S n) (decide (n ∈ S)) := by
 have key : ∀ (d i : Nat), i + d = S.length → Ev (fun k => Am.l0 k S n i) (decide (n ∈ S.drop i)) := by
  intro d
  induction d with
  | zero =>
   intro i hi
   rw [List.drop_of_length_le (by omega)]
   exact Ev.step (f := fun _ => some _) (fun k => by simp only [Am.l0]; rw [if_neg (by omega)]; simp) (Ev.now _)
  | succ d ih =>
   intro i hi
   have hil : i < S.length := by omega
   rw [List.drop_eq_getElem_cons hil]
   by_cases c : S[i] = n
   ·have e : decide (n ∈ S[i] :: S.drop (i + 1)) = true := decide_eq_true (by rw [c]; exact List.mem_cons_self)
    rw [e]
    exact Ev.step (f := fun _ => some _) (fun k => by simp only [Am.l0]; rw [if_pos (by omega), if_pos (by omega), rd_at S i hil, if_pos c]) (Ev.now _)
   ·have e : decide (n ∈ S[i] :: S.drop (i + 1)) = decide (n ∈ S.drop (i + 1)) := by
     rw [decide_eq_decide, List.mem_cons]
     exact ⟨fun z => z.elim (fun y => absurd y.symm c) id, .inr⟩
    rw [e]
    refine Ev.step (fun k => ?_) (ih (i + 1) (by omega))
    simp only [Am.l0]
    rw [if_pos (by omega), if_pos (by omega), rd_at S i hil, if_neg c, wrap_succ (by omega)]
 exact Ev.congr (f := fun k => Am.l0 k S n ((0 : Nat) : Int)) (fun k => rfl) (by simpa using key S.length 0 (by omega))
theorem spec_l5Good_loop (l : List (List Int)) (hl : l.length ≤ 6) : ∀ (d i : Nat) (S : List Int), i + d = l.length → S.length ≤ 4 * i → Ev (fun k => Ag.l0 k S i l) (Dl 4 S (l.drop i)) := by
 intro d
 induction d with
 | zero =>
  intro i S hi hS
  rw [List.drop_of_length_le (by omega)]
  exact Ev.step (f := fun _ => some _) (fun k => by simp only [Ag.l0]; rw [if_neg (by omega)]; rfl) (Ev.now _)
 | succ d ih =>
  intro i S hi hS
  have hil : i < l.length := by omega
  rw [List.drop_eq_getElem_cons hil]
  by_cases c : (l[i].length : Int) > 4
  ·rw [F9 4 _ _ _ c]
   refine Ev.step (f := fun _ => some false) (fun k => ?_) (Ev.now _)
   simp only [Ag.l0]
   rw [if_pos (by omega), if_pos (by omega), rdR l i hil, if_pos c]
  ·rw [goodRows_in 4 _ _ _ c]
   have inner : ∀ (e j : Nat) (S2 : List Int), j + e = l[i].length → S2.length ≤ 4 * i + j → Ev (fun k => Ag.l1 k S2 i j l) (Ez 4 S2 (l[i].drop j) (l.drop (i + 1))) := by
    intro e
    induction e with
    | zero =>
     intro j S2 hj hS2
     rw [List.drop_of_length_le (by omega), Gh]
     refine Ev.step (fun k => ?_) (ih (i + 1) S2 (by omega) (by omega))
     simp only [Ag.l1]
     rw [if_pos (by omega), if_pos (by omega), rdR l i hil, if_neg (by omega), wrap_succ (by omega)]
    | succ e ih2 =>
     intro j S2 hj hS2
     have hjl : j < l[i].length := by omega
     rw [List.drop_eq_getElem_cons hjl]
     have hn := rd_at l[i] j hjl
     refine Ev.step (f := fun k => if (decide ((1 : Int) ≤ l[i][j]) && decide (l[i][j] ≤ 99)) = true then ((Am.f k S2 l[i][j]).bind fun t => if t = true then some false else Ag.l1 k (S2 ++ [l[i][j]]) i ((j + 1 : Nat) : Int) l) else some false) (fun k => ?_) ?_
     ·simp only [Ag.l1]
      rw [if_pos (by omega), if_pos (by omega), rdR l i hil, if_pos (by omega), if_pos (by omega), hn, l1In_eq2]
      simp only [Option.bind_some, if_pos (show S2.length < 17592186044416 by omega), wrap_succ (show j < 9223372036854775807 by omega)]
     ·generalize hnn : l[i][j] = n
      rw [hnn] at *
      cases c4 : (decide (1 ≤ n) && decide (n ≤ 99)) with
      | false =>
       rw [Et 4 S2 n _ _ (.inl (fun z => by simp [z.1, z.2] at c4))]
       exact ev_eq (fun k => if_neg (by simp))
      | true =>
       have hn1 : 1 ≤ n ∧ n ≤ 99 := by simpa using c4
       simp only [if_true]
       refine Ev.bind (has_ev S2 n (by omega)) ?_
       cases c5 : decide (n ∈ S2) with
       | true =>
        rw [Et 4 S2 n _ _ (.inr c5)]
        simp only [if_true]; exact Ev.now _
       | false =>
        rw [Gg 4 S2 n _ _ hn1.1 hn1.2 c5]
        simp only [Bool.false_eq_true, if_false]
        exact ih2 (j + 1) (S2 ++ [n]) (by omega) (by simp; omega)
   refine Ev.step (fun k => ?_) (inner l[i].length 0 S (by omega) (by omega))
   simp only [Ag.l0]
   rw [if_pos (by omega), if_pos (by omega), rdR l i hil, if_neg c]
   rfl
theorem spec_l9Good_loop (m : Int) (l : List (List Int)) (hl : l.length ≤ 6) (hm : m ≤ 4) : ∀ (d i : Nat) (S : List Int), i + d = l.length → S.length ≤ 4 * i → Ev (fun k => Ad.l0 k S i m l) (Dl m S (l.drop i)) := by
 intro d
 induction d with
 | zero =>
  intro i S hi hS
  rw [List.drop_of_length_le (by omega)]
  exact Ev.step (f := fun _ => some _) (fun k => by simp only [Ad.l0]; rw [if_neg (by omega)]; rfl) (Ev.now _)
 | succ d ih =>
  intro i S hi hS
  have hil : i < l.length := by omega
  rw [List.drop_eq_getElem_cons hil]
  by_cases c : (l[i].length : Int) > m
  ·rw [F9 m _ _ _ c]
   refine Ev.step (f := fun _ => some false) (fun k => ?_) (Ev.now _)
   simp only [Ad.l0]
   rw [if_pos (by omega), if_pos (by omega), rdR l i hil, if_pos c]
  ·rw [goodRows_in m _ _ _ c]
   have inner : ∀ (e j : Nat) (S2 : List Int), j + e = l[i].length → S2.length ≤ 4 * i + j → Ev (fun k => Ad.l1 k S2 i j m l) (Ez m S2 (l[i].drop j) (l.drop (i + 1))) := by
    intro e
    induction e with
    | zero =>
     intro j S2 hj hS2
     rw [List.drop_of_length_le (by omega), Gh]
     refine Ev.step (fun k => ?_) (ih (i + 1) S2 (by omega) (by omega))
     simp only [Ad.l1]
     rw [if_pos (by omega), if_pos (by omega), rdR l i hil, if_neg (by omega), wrap_succ (by omega)]
    | succ e ih2 =>
     intro j S2 hj hS2
     have hjl : j < l[i].length := by omega
     rw [List.drop_eq_getElem_cons hjl]
     have hn := rd_at l[i] j hjl
     refine Ev.step (f := fun k => if (decide ((1 : Int) ≤ l[i][j]) && decide (l[i][j] ≤ 99)) = true then ((Am.f k S2 l[i][j]).bind fun t => if t = true then some false else Ad.l1 k (S2 ++ [l[i][j]]) i ((j + 1 : Nat) : Int) m l) else some false) (fun k => ?_) ?_
     ·simp only [Ad.l1]
      rw [if_pos (by omega), if_pos (by omega), rdR l i hil, if_pos (by omega), if_pos (by omega), hn, l1In_eq2]
      simp only [Option.bind_some, if_pos (show S2.length < 17592186044416 by omega), wrap_succ (show j < 9223372036854775807 by omega)]
     ·generalize hnn : l[i][j] = n
      rw [hnn] at *
      cases c4 : (decide (1 ≤ n) && decide (n ≤ 99)) with
      | false =>
       rw [Et m S2 n _ _ (.inl (fun z => by simp [z.1, z.2] at c4))]
       exact ev_eq (fun k => if_neg (by simp))
      | true =>
       have hn1 : 1 ≤ n ∧ n ≤ 99 := by simpa using c4
       simp only [if_true]
       refine Ev.bind (has_ev S2 n (by omega)) ?_
       cases c5 : decide (n ∈ S2) with
       | true =>
        rw [Et m S2 n _ _ (.inr c5)]
        simp only [if_true]; exact Ev.now _
       | false =>
        rw [Gg m S2 n _ _ hn1.1 hn1.2 c5]
        simp only [Bool.false_eq_true, if_false]
        exact ih2 (j + 1) (S2 ++ [n]) (by omega) (by simp; omega)
   refine Ev.step (fun k => ?_) (inner l[i].length 0 S (by omega) (by omega))
   simp only [Ad.l0]
   rw [if_pos (by omega), if_pos (by omega), rdR l i hil, if_neg c]
   rfl
def yardOk (l : List (List Int)) : Bool := (decide ((1 : Int) ≤ (l.length : Int)) && decide ((l.length : Int) ≤ 6)) && Dl 4 [] l
def bayOk (h : Int) (l : List (List Int)) : Bool := (decide ((1 : Int) ≤ h) && decide (h ≤ 4)) && (decide ((1 : Int) ≤ (l.length : Int)) && decide ((l.length : Int) ≤ 5)) && Dl h [] l
theorem implYard_eq (l : List (List Int)) : Ea.f l = some (yardOk l) := rfl
theorem implBay_eq (h : Int) (l : List (List Int)) : D8.f h l = some (bayOk h l) := rfl
theorem specYard_ev (l : List (List Int)) : Ev (fun k => Ag.f k l) (yardOk l) := by
 unfold Ag.f yardOk
 rw [l1In_eq2]
 simp only [Option.bind_some]
 cases c : (decide ((1 : Int) ≤ (l.length : Int)) && decide ((l.length : Int) ≤ 6)) with
 | false => simp only [Bool.false_eq_true, if_false, Bool.false_and]; exact Ev.now _
 | true =>
  have h6 : l.length ≤ 6 := by simp at c; omega
  simp only [if_true, Bool.true_and]
  exact spec_l5Good_loop l h6 l.length 0 [] (by omega) (by simp)
theorem specBay_ev (h : Int) (l : List (List Int)) : Ev (fun k => Ad.f k h l) (bayOk h l) := by
 unfold Ad.f bayOk
 simp only [l1In_eq2, Option.bind_some]
 cases c : (decide ((1 : Int) ≤ h) && decide (h ≤ 4)) with
 | false =>
  simp only [Bool.false_eq_true, if_false, Bool.false_and]
  exact Ev.step (f := fun _ => some _) (fun k => by simp only [Ad.j0]; rw [if_pos trivial]) (Ev.now _)
 | true =>
  have h4 : h ≤ 4 := by simp at c; omega
  simp only [if_true, Bool.true_and]
  cases c2 : (decide ((1 : Int) ≤ (l.length : Int)) && decide ((l.length : Int) ≤ 5)) with
  | false =>
   simp only [Bool.not_false, Bool.false_and]
   exact Ev.step (f := fun _ => some _) (fun k => by simp only [Ad.j0]; rw [if_pos trivial]) (Ev.now _)
  | true =>
   have h5 : l.length ≤ 5 := by simp at c2; omega
   simp only [Bool.not_true, Bool.true_and]
   refine Ev.step (f := fun k => Ad.l0 k [] ((0 : Nat) : Int) h l) (fun k => ?_) (by simpa using spec_l9Good_loop h l (by omega) h4 l.length 0 [] (by omega) (by simp))
   simp only [Ad.j0]
   rw [if_neg (by decide)]
   rfl
-- where a number stands
def idxFrom : Nat → List Int → Int → Int
 | _, [], _ => -1
 | k, x :: r, n => if x = n then (k : Int) else idxFrom (k + 1) r n
def Aq : Nat → List (List Int) → Int → Int × Int
 | _, [], _ => (-1, -1)
 | i, s :: r, n => if idxFrom 0 s n ≥ 0 then ((i : Int), idxFrom 0 s n) else Aq (i + 1) r n
theorem index_ev (s : List Int) (n : Int) (hs : s.length ≤ 1048576) : Ev (fun k => Af.f k s n) (idxFrom 0 s n) := by
 have key : ∀ (d i : Nat), i + d = s.length → Ev (fun k => Af.l0 k s n (s.length : Int) i) (idxFrom i (s.drop i) n) := by
  intro d
  induction d with
  | zero =>
   intro i hi
   rw [List.drop_of_length_le (by omega)]
   exact Ev.step (f := fun _ => some _) (fun k => by simp only [Af.l0]; rw [if_neg (by omega)]; rfl) (Ev.now _)
  | succ d ih =>
   intro i hi
   have hil : i < s.length := by omega
   rw [List.drop_eq_getElem_cons hil]
   unfold idxFrom
   by_cases c : s[i] = n
   ·rw [if_pos c]
    exact Ev.step (f := fun _ => some _) (fun k => by simp only [Af.l0]; rw [if_pos (by omega), if_pos (by omega), if_pos (by omega), rd_at s i hil, if_pos c.symm]) (Ev.now _)
   ·rw [if_neg c]
    refine Ev.step (fun k => ?_) (ih (i + 1) (by omega))
    simp only [Af.l0]
    rw [if_pos (by omega), if_pos (by omega), if_pos (by omega), rd_at s i hil, if_neg (fun z => c z.symm), wrap_succ (by omega)]
 exact Ev.congr (f := fun k => Af.l0 k s n (s.length : Int) ((0 : Nat) : Int)) (fun k => rfl) (by simpa using key s.length 0 (by omega))
def rowsOk (l : List (List Int)) : Prop := l.length ≤ 1048576 ∧ ∀ s ∈ l, s.length ≤ 1048576
theorem place_ev (l : List (List Int)) (n : Int) (hl : rowsOk l) : Ev (fun k => Bc.f k l n) (Aq 0 l n) := by
 have key : ∀ (d i : Nat), i + d = l.length → Ev (fun k => Bc.l0 k n l (l.length : Int) i) (Aq i (l.drop i) n) := by
  intro d
  induction d with
  | zero =>
   intro i hi
   rw [List.drop_of_length_le (by omega)]
   exact Ev.step (f := fun _ => some _) (fun k => by simp only [Bc.l0]; rw [if_neg (by omega)]; rfl) (Ev.now _)
  | succ d ih =>
   intro i hi
   have hil : i < l.length := by omega
   rw [List.drop_eq_getElem_cons hil]
   unfold Aq
   refine Ev.step (f := fun k => (Af.f k l[i] n).bind fun t => if t ≥ 0 then some ((i : Int), t) else Bc.l0 k n l (l.length : Int) ((i + 1 : Nat) : Int)) (fun k => ?_) (Ev.bind (index_ev _ n (hl.2 _ (List.getElem_mem hil))) ?_)
   ·have := hl.1
    simp only [Bc.l0]
    rw [if_pos (by omega), if_pos (by omega), if_pos (by omega), rdR l i hil, wrap_succ (by omega)]
   ·by_cases c : idxFrom 0 l[i] n ≥ 0
    ·simp only [if_pos c]; exact Ev.now _
    ·simp only [if_neg c]; exact ih (i + 1) (by omega)
 exact Ev.congr (f := fun k => Bc.l0 k n l (l.length : Int) ((0 : Nat) : Int)) (fun k => rfl) (by simpa using key l.length 0 (by omega))
theorem spec_l5Find_ev (l : List (List Int)) (n : Int) (hl : rowsOk l) : Ev (fun k => Ae.f k l n) (Aq 0 l n) := by
 have key : ∀ (d i : Nat), i + d = l.length → Ev (fun k => Ae.l0 k n i l) (Aq i (l.drop i) n) := by
  intro d
  induction d with
  | zero =>
   intro i hi
   rw [List.drop_of_length_le (by omega)]
   exact Ev.step (f := fun _ => some _) (fun k => by simp only [Ae.l0]; rw [if_neg (by omega)]; rfl) (Ev.now _)
  | succ d ih =>
   intro i hi
   have hil : i < l.length := by omega
   have hs := hl.2 _ (List.getElem_mem hil)
   have hl1 := hl.1
   rw [List.drop_eq_getElem_cons hil]
   unfold Aq
   have inner : ∀ (e j : Nat), j + e = l[i].length → Ev (fun k => Ae.l1 k n i j l) (if idxFrom j (l[i].drop j) n ≥ 0 then ((i : Int), idxFrom j (l[i].drop j) n) else Aq (i + 1) (l.drop (i + 1)) n) := by
    intro e
    induction e with
    | zero =>
     intro j hj
     rw [List.drop_of_length_le (by omega)]
     refine Ev.step (fun k => ?_) (ih (i + 1) (by omega))
     simp only [Ae.l1]
     rw [if_pos (by omega), if_pos (by omega), rdR l i hil, if_neg (by omega), wrap_succ (by omega)]
    | succ e ih2 =>
     intro j hj
     have hjl : j < l[i].length := by omega
     rw [List.drop_eq_getElem_cons hjl]
     unfold idxFrom
     by_cases c : l[i][j] = n
     ·simp only [if_pos c, if_pos (show (j : Int) ≥ 0 by omega)]
      refine Ev.step (f := fun _ => some _) (fun k => ?_) (Ev.now _)
      simp only [Ae.l1]
      rw [if_pos (by omega), if_pos (by omega), rdR l i hil, if_pos (by omega), if_pos (by omega), rd_at l[i] j hjl, if_pos c]
     ·simp only [if_neg c]
      refine Ev.step (fun k => ?_) (ih2 (j + 1) (by omega))
      simp only [Ae.l1]
      rw [if_pos (by omega), if_pos (by omega), rdR l i hil, if_pos (by omega), if_pos (by omega), rd_at l[i] j hjl, if_neg c, wrap_succ (by omega)]
   refine Ev.step (fun k => ?_) (inner l[i].length 0 (by omega))
   simp only [Ae.l0]
   rw [if_pos (by omega)]
   rfl
 exact Ev.congr (f := fun k => Ae.l0 k n ((0 : Nat) : Int) l) (fun k => rfl) (by simpa using key l.length 0 (by omega))
/-- None of a row's numbers stands in a yard. -/
def apart (Y : List (List Int)) (s : List Int) : Bool := s.all fun n => decide ((Aq 0 Y n).1 < 0)
def termOk (Y : List (List Int)) (h : Int) (S : List (List Int)) : Bool := yardOk Y && bayOk h S && S.all (apart Y)
theorem spec_l24Good_loop (Y : List (List Int)) (h : Int) (S : List (List Int)) (hY : rowsOk Y) (hS : rowsOk S) : ∀ (d i : Nat), i + d = S.length → Ev (fun k => Ac.l0 k i Y h S) ((S.drop i).all (apart Y)) := by
 have hS1 := hS.1
 intro d
 induction d with
 | zero =>
  intro i hi
  rw [List.drop_of_length_le (by omega)]
  exact Ev.step (f := fun _ => some _) (fun k => by simp only [Ac.l0]; rw [if_neg (by omega)]; rfl) (Ev.now _)
 | succ d ih =>
  intro i hi
  have hil : i < S.length := by omega
  have hs := hS.2 _ (List.getElem_mem hil)
  rw [List.drop_eq_getElem_cons hil, List.all_cons]
  have inner : ∀ (e j : Nat), j + e = S[i].length → Ev (fun k => Ac.l1 k i j Y h S) (apart Y (S[i].drop j) && (S.drop (i + 1)).all (apart Y)) := by
   intro e
   induction e with
   | zero =>
    intro j hj
    rw [List.drop_of_length_le (by omega)]
    refine Ev.step (fun k => ?_) (by simpa [apart] using ih (i + 1) (by omega))
    simp only [Ac.l1]
    rw [if_pos (by omega), if_pos (by omega), rdR S i hil, if_neg (by omega), wrap_succ (by omega)]
    rfl
   | succ e ih2 =>
    intro j hj
    have hjl : j < S[i].length := by omega
    rw [List.drop_eq_getElem_cons hjl]
    refine Ev.step (f := fun k => (Ae.f k Y S[i][j]).bind fun t => if t.1 ≥ 0 then some false else Ac.l1 k i ((j + 1 : Nat) : Int) Y h S) (fun k => ?_) (Ev.bind (spec_l5Find_ev Y _ hY) ?_)
    ·simp only [Ac.l1]
     rw [if_pos (by omega), if_pos (by omega), rdR S i hil, if_pos (by omega), if_pos (by omega), rd_at S[i] j hjl, wrap_succ (by omega)]
    ·by_cases c : (Aq 0 Y S[i][j]).1 ≥ 0
     ·have e1 : apart Y (S[i][j] :: S[i].drop (j + 1)) = false := by simp only [apart, List.all_cons, decide_eq_false (show ¬ (Aq 0 Y S[i][j]).1 < 0 by omega), Bool.false_and]
      simp only [if_pos c, e1, Bool.false_and]; exact Ev.now _
     ·have e1 : apart Y (S[i][j] :: S[i].drop (j + 1)) = apart Y (S[i].drop (j + 1)) := by simp only [apart, List.all_cons, decide_eq_true (show (Aq 0 Y S[i][j]).1 < 0 by omega), Bool.true_and]
      simp only [if_neg c, e1]; exact ih2 (j + 1) (by omega)
  refine Ev.step (fun k => ?_) (inner S[i].length 0 (by omega))
  simp only [Ac.l0]
  rw [if_pos (by omega)]
  rfl
theorem Gm (Y : List (List Int)) (h : Int) (S : List (List Int)) (hY : rowsOk Y) (hS : rowsOk S) : ∀ (d i : Nat), i + d = S.length → Ev (fun k => impl_IsValidTerminal.l0 k S (S.length : Int) i Y h S) ((S.drop i).all (apart Y)) := by
 have hS1 := hS.1
 intro d
 induction d with
 | zero =>
  intro i hi
  rw [List.drop_of_length_le (by omega)]
  exact Ev.step (f := fun _ => some _) (fun k => by simp only [impl_IsValidTerminal.l0]; rw [if_neg (by omega)]; rfl) (Ev.now _)
 | succ d ih =>
  intro i hi
  have hil : i < S.length := by omega
  have hs := hS.2 _ (List.getElem_mem hil)
  rw [List.drop_eq_getElem_cons hil, List.all_cons]
  have inner : ∀ (e j : Nat), j + e = S[i].length → Ev (fun k => impl_IsValidTerminal.l1 k S (S.length : Int) i S[i] (S[i].length : Int) j Y h S) (apart Y (S[i].drop j) && (S.drop (i + 1)).all (apart Y)) := by
   intro e
   induction e with
   | zero =>
    intro j hj
    rw [List.drop_of_length_le (by omega)]
    refine Ev.step (fun k => ?_) (by simpa [apart] using ih (i + 1) (by omega))
    simp only [impl_IsValidTerminal.l1]
    rw [if_neg (by omega), wrap_succ (by omega)]
    rfl
   | succ e ih2 =>
    intro j hj
    have hjl : j < S[i].length := by omega
    rw [List.drop_eq_getElem_cons hjl]
    refine Ev.step (f := fun k => (Bc.f k Y S[i][j]).bind fun t => if t.1 ≥ 0 then some false else impl_IsValidTerminal.l1 k S (S.length : Int) i S[i] (S[i].length : Int) ((j + 1 : Nat) : Int) Y h S) (fun k => ?_) (Ev.bind (place_ev Y _ hY) ?_)
    ·simp only [impl_IsValidTerminal.l1]
     rw [if_pos (by omega), if_pos (by omega), if_pos (by omega), rd_at S[i] j hjl, wrap_succ (by omega)]
    ·by_cases c : (Aq 0 Y S[i][j]).1 ≥ 0
     ·have e1 : apart Y (S[i][j] :: S[i].drop (j + 1)) = false := by simp only [apart, List.all_cons, decide_eq_false (show ¬ (Aq 0 Y S[i][j]).1 < 0 by omega), Bool.false_and]
      simp only [if_pos c, e1, Bool.false_and]; exact Ev.now _
     ·have e1 : apart Y (S[i][j] :: S[i].drop (j + 1)) = apart Y (S[i].drop (j + 1)) := by simp only [apart, List.all_cons, decide_eq_true (show (Aq 0 Y S[i][j]).1 < 0 by omega), Bool.true_and]
      simp only [if_neg c, e1]; exact ih2 (j + 1) (by omega)
  refine Ev.step (fun k => ?_) (inner S[i].length 0 (by omega))
  simp only [impl_IsValidTerminal.l0]
  rw [if_pos (by omega), if_pos (by omega), if_pos (by omega), rdR S i hil]
  rfl
theorem specTerm_ev (Y : List (List Int)) (h : Int) (S : List (List Int)) (hY : rowsOk Y) (hS : rowsOk S) : Ev (fun k => Ac.f k Y h S) (termOk Y h S) := by
 have stop : Ev (fun k => Ac.j0 k true Y h S) false := Ev.step (f := fun _ => some _) (fun k => by simp only [Ac.j0]; rw [if_pos trivial]) (Ev.now _)
 unfold Ac.f termOk
 refine Ev.bind (specYard_ev Y) ?_
 cases c : yardOk Y with
 | false => simp only [Bool.false_eq_true, if_false, Bool.false_and]; exact stop
 | true =>
  simp only [if_true, Bool.true_and]
  refine Ev.bind (specBay_ev h S) ?_
  cases c2 : bayOk h S with
  | false => simp only [Bool.not_false, Bool.false_and]; exact stop
  | true =>
   simp only [Bool.not_true, Bool.true_and]
   refine Ev.step (fun k => ?_) (by simpa using spec_l24Good_loop Y h S hY hS S.length 0 (by omega))
   simp only [Ac.j0]
   rw [if_neg (by decide)]
theorem implTerm_ev (Y : List (List Int)) (h : Int) (S : List (List Int)) (hY : rowsOk Y) (hS : rowsOk S) : Ev (fun k => impl_IsValidTerminal.f k Y h S) (termOk Y h S) := by
 have stop : Ev (fun k => impl_IsValidTerminal.j0 k true Y h S) false := Ev.step (f := fun _ => some _) (fun k => by simp only [impl_IsValidTerminal.j0]; rw [if_pos trivial]) (Ev.now _)
 unfold impl_IsValidTerminal.f termOk
 rw [implYard_eq]
 simp only [Option.bind_some]
 cases c : yardOk Y with
 | false => simp only [Bool.false_eq_true, if_false, Bool.false_and]; exact stop
 | true =>
  simp only [if_true, Bool.true_and]
  rw [implBay_eq]
  simp only [Option.bind_some]
  cases c2 : bayOk h S with
  | false => simp only [Bool.not_false, Bool.false_and]; exact stop
  | true =>
   simp only [Bool.not_true, Bool.true_and]
   refine Ev.step (fun k => ?_) (by simpa using Gm Y h S hY hS S.length 0 (by omega))
   simp only [impl_IsValidTerminal.j0]
   rw [if_neg (by decide)]
theorem szTerm_le (Y : List (List Int)) (h : Int) (S : List (List Int)) (hY : Y.length ≤ 4611686018427387904) (hYr : ∀ s ∈ Y, s.length ≤ 4611686018427387904) (hS : S.length ≤ 4611686018427387904) (hSr : ∀ s ∈ S, s.length ≤ 4611686018427387904) :
  ∃ r, Ev (fun k => Dj.f k Y h S 1048576) r ∧ (¬ r < 0 → r ≤ 1048576 ∧ rowsOk Y ∧ rowsOk S) := by
 unfold Dj.f D5.f D9.f
 obtain ⟨r, hr, hq⟩ := szIntSS_ev Y 1048576 (by omega) (by omega) hY hYr
 by_cases c : r < 0
 ·refine ⟨-1, Ev.bind (Ev.bind hr (r := -1) ?_) ?_, fun z => absurd (by decide) z⟩
  ·simp only [if_pos c]; exact Ev.now _
  ·simp only [if_pos (show (-1 : Int) < 0 by decide)]; exact Ev.now _
 ·rcases hq with q | ⟨q1, q2, q3, q4⟩
  ·exact absurd q c
  obtain ⟨r2, hr2, hq2⟩ := szIntSS_ev S r q1 q2 hS hSr
  have hYo : rowsOk Y := ⟨by omega, fun s hs => by have := q4 s hs; omega⟩
  by_cases c2 : r2 < 0
  ·refine ⟨-1, Ev.bind (Ev.bind hr (r := r) ?_) ?_, fun z => absurd (by decide) z⟩
   ·simp only [if_neg c]; exact Ev.now _
   ·simp only [if_neg c]
    refine Ev.bind (Ev.bind hr2 (r := -1) ?_) ?_
    ·simp only [if_pos c2]; exact Ev.now _
    ·simp only [if_pos (show (-1 : Int) < 0 by decide)]; exact Ev.now _
  ·rcases hq2 with p | ⟨p1, p2, p3, p4⟩
   ·exact absurd p c2
   refine ⟨r2, Ev.bind (Ev.bind hr (r := r) ?_) ?_, fun _ => ⟨by omega, hYo, by omega, fun s hs => by have := p4 s hs; omega⟩⟩
   ·simp only [if_neg c]; exact Ev.now _
   ·simp only [if_neg c]
    refine Ev.bind (Ev.bind hr2 (r := r2) ?_) ?_
    ·simp only [if_neg c2]; exact Ev.now _
    ·simp only [if_neg c2]; exact Ev.now _
theorem szTerm_ev (Y : List (List Int)) (h : Int) (S : List (List Int)) (hY : Y.length ≤ 4611686018427387904) (hYr : ∀ s ∈ Y, s.length ≤ 4611686018427387904) (hS : S.length ≤ 4611686018427387904) (hSr : ∀ s ∈ S, s.length ≤ 4611686018427387904) :
  ∃ r, Ev (fun k => Dj.f k Y h S 1048576) r ∧ (¬ r < 0 → rowsOk Y ∧ rowsOk S) := by
 obtain ⟨r, h1, h2⟩ := szTerm_le Y h S hY hYr hS hSr
 exact ⟨r, h1, fun c => (h2 c).2⟩
theorem toTerm_ev (Y : List (List Int)) (h : Int) (S : List (List Int)) (hY : rowsOk Y) (hS : rowsOk S) : Ev (fun k => Cm.f k Y h S) (Y, h, S) := by
 unfold Cm.f Eb.f Ec.f
 exact Ev.bind (Ev.bind (toIntSS_ev Y hY.1 hY.2) (Ev.now _)) (Ev.bind (Ev.bind (toIntSS_ev S hS.1 hS.2) (Ev.now _)) (Ev.now _))
theorem eqTerm_ev (Y : List (List Int)) (h : Int) (S : List (List Int)) (hY : rowsOk Y) (hS : rowsOk S) : Ev (fun k => Dz.f k Y h S Y h S) true := by
 unfold Dz.f Dx.f D6.f
 refine Ev.bind (Ev.bind (eqIntSS_ev Y hY.1 hY.2) (r := true) (by simp only [if_true]; exact Ev.now _)) ?_
 simp only [if_true]
 refine Ev.bind (Ev.bind (eqIntSS_ev S hS.1 hS.2) (r := true) (by simp only [if_true]; exact Ev.now _)) ?_
 simp only [if_true]
 exact Ev.now _
end Go.Proofs.Ytnggfglmjdiaaaa.X

namespace Go.Proofs.Ytnggfglmjdiaaaa.X
open Go.RowKit Go.Proofs.YtnggfglmjdiaaaaW.PrintWords Go.Proofs.YtnggfglmjdiaaaaW.PrintLast Go.Proofs.YtnggfglmjdiaaaaW.PrintMore
attribute [local go_sem] max2_int min2_int max_two min_two max_three min_three max_four min_four
def Bz.l0 : Nat → List Int → Int → Int → Option (Int)
 | 0, _, _, _ => none
 | k + 1, x0, x1, x5 => if x5 < (x0.length : Int) then (if 0 ≤ x5 then (if (rd x0 x5) = x1 then (Bz.l0 k x0 (wrap64 (x1 + 1)) (wrap64 (x5 + 1))) else (some (-1))) else (none)) else (some x1)
def Bz.f (k : Nat) (l0 : List Int) (a1 : Int) : Option (Int) := Bz.l0 k l0 a1 0
theorem Bz.mono_l : ∀ k, (∀ y0 y1 y2, LeO (Bz.l0 k y0 y1 y2) (Bz.l0 (k + 1) y0 y1 y2))
 | 0 => fun _ _ _ r h => by simp [Bz.l0] at h
 | k + 1 => by
  have ih0 := Bz.mono_l k
  ·intro y0 y1 y2
   unfold Bz.l0
   repeat' first
   | (with_reducible exact ih0 _ _ _)
   | (with_reducible exact LeO.refl _)
   | (with_reducible exact LeO.none _)
   | (with_reducible refine LeO.ite ?_ ?_)
   | (with_reducible refine LeO.bind ?_ (fun _ => ?_))
   | exact ih0 _ _ _
   | exact LeO.none _
   | refine LeO.ite ?_ ?_
   | refine LeO.bind ?_ (fun _ => ?_)
theorem Bz.mono : ∀ a0 a1 k, LeO (Bz.f k a0 a1) (Bz.f (k + 1) a0 a1) := by
 intro a0 a1 k
 have ih0 := Bz.mono_l k
 unfold Bz.f
 repeat' first
   | (with_reducible exact ih0 _ _ _)
   | (with_reducible exact LeO.refl _)
   | (with_reducible exact LeO.none _)
   | (with_reducible refine LeO.ite ?_ ?_)
   | (with_reducible refine LeO.bind ?_ (fun _ => ?_))
   | exact ih0 _ _ _
   | exact LeO.none _
   | refine LeO.ite ?_ ?_
   | refine LeO.bind ?_ (fun _ => ?_)
set_option maxHeartbeats 8000000 in
set_option maxRecDepth 100000 in
theorem Bz.calls (k : Nat) (A0 : Option Addr) (c0 : Nat) (l0 : List Int) (a1 : Int) (r : Int) (w : World) (hr0 : Kd.C (Kd.int .i64) w A0 l0.length l0) (hc0 : l0.length ≤ c0) (h : Bz.f k l0 a1 = some r) :
  Calls Try.prog 87 #[.slice A0 l0.length c0, .int .i64 a1] w fun e w' => e = .returned (.int .i64 r) ∧ Drawn0 w w' := by
 have HR0 := Aside0.mk hr0
 have HC0 := Aside0.mk hc0
 clear hr0 hc0
 have H : (Bz.l0 k l0 a1 0) = some r := h
 clear h
 have H' := Aside0.mk H
 clear H
 go_enter Try.func87, Try.ntmps87
 go_wp2
 go_loopg [1, 5] k (fun kq v1 v5 w' => ∃ (x1_1 : Int) (x5_1 : Int), v1 = .int .i64 x1_1 ∧ v5 = .int .i64 x5_1 ∧ Aside0 (Bz.l0 kq l0 x1_1 x5_1 = some r) ∧ Aside0 (kq ≤ k) ∧ Drawn0 w w')
 case atStart => exact ⟨(a1), (0), Ybb_, Ybb_, H', ⟨Nat.le_refl _⟩, by repeat (first | exact Drawn0.refl _ | apply Drawn0.step)⟩
 case round =>
  clear H'
  try clear p2
  obtain ⟨x1_1, x5_1, rfl, rfl, HA, HK1, ⟨m1, rfl⟩⟩ := hrel
  cases gk with
  | zero => exact absurd HA.out (by simp [Bz.l0])
  | succ k1 =>
   have H := HA.out
   clear HA
   simp only [Bz.l0] at H
   by_cases c3 : x5_1 < (l0.length : Int)
   ·rw [if_pos c3] at H
    have c3b0 : decide (x5_1 < (l0.length : Int)) = true := decide_eq_true c3
    clear c3
    by_cases c4 : 0 ≤ x5_1
    ·rw [if_pos c4] at H
     have c4b0 : decide (0 ≤ x5_1) = true := decide_eq_true c4
     clear c4
     by_cases c5 : (rd l0 x5_1) = x1_1
     ·rw [if_pos c5] at H
      have c5b0 : ((rd l0 x5_1) == x1_1) = true := beq_iff_eq.mpr c5
      have c5b1 : ((rd l0 x5_1) != x1_1) = false := bne_eq_false_iff_eq.mpr c5
      clear c5
      have H' := Aside0.mk H
      clear H
      have p432 : 0 ≤ (x5_1 : Int) := of_decide_eq_true Yg_
      have q432 : x5_1 < (l0.length : Int) := of_decide_eq_true Yg_
      obtain ⟨ad432, e432, hx432_0⟩ := Kd.Du HR0.out x5_1 p432 q432
      cases e432
      replace p432 := eq_true p432
      replace q432 := eq_true q432
      go_wp2
      go_roundg k1
      case measure => have := HK1.out; omega
      case rel => exact ⟨(wrap64 (x1_1 + 1)), (wrap64 (x5_1 + 1)), Ybb_, Ybb_, H', ⟨by have := HK1.out; omega⟩, by repeat (first | exact Drawn0.refl _ | apply Drawn0.step)⟩
     ·rw [if_neg c5] at H
      have c5b0 : ((rd l0 x5_1) == x1_1) = false := beq_eq_false_iff_ne.mpr c5
      have c5b1 : ((rd l0 x5_1) != x1_1) = true := bne_iff_ne.mpr c5
      obtain rfl := Option.some.inj H
      have p432 : 0 ≤ (x5_1 : Int) := of_decide_eq_true Yg_
      have q432 : x5_1 < (l0.length : Int) := of_decide_eq_true Yg_
      obtain ⟨ad432, e432, hx432_0⟩ := Kd.Du HR0.out x5_1 p432 q432
      cases e432
      replace p432 := eq_true p432
      replace q432 := eq_true q432
      go_wp2
      go_ret
      exact ⟨by first | rfl | (simp; done) | (simp [*]; done), by repeat (first | exact Drawn0.refl _ | apply Drawn0.step)⟩
    ·rw [if_neg c4] at H
     exact absurd H (by simp)
   ·rw [if_neg c3] at H
    have c3b0 : decide (x5_1 < (l0.length : Int)) = false := decide_eq_false c3
    clear c3
    obtain rfl := Option.some.inj H
    go_wp2
    go_ret
    exact ⟨by first | rfl | (simp; done) | (simp [*]; done), by repeat (first | exact Drawn0.refl _ | apply Drawn0.step)⟩
end Go.Proofs.Ytnggfglmjdiaaaa.X

namespace Go.Proofs.Ytnggfglmjdiaaaa.X
open Go.RowKit Go.Proofs.YtnggfglmjdiaaaaW.PrintWords Go.Proofs.YtnggfglmjdiaaaaL
end Go.Proofs.Ytnggfglmjdiaaaa.X

namespace Go.Proofs.Ytnggfglmjdiaaaa.X
open Go.RowKit Go.Proofs.YtnggfglmjdiaaaaW.PrintWords Go.Proofs.YtnggfglmjdiaaaaW.PrintLast Go.Proofs.YtnggfglmjdiaaaaW.PrintMore
attribute [local go_sem] max2_int min2_int max_two min_two max_three min_three max_four min_four
def Bf.l0 : Nat → List (List Int) → Int → Int → Option (Int)
 | 0, _, _, _ => none
 | k + 1, x0, x1, x5 => if x5 < (x0.length : Int) then (if 0 ≤ x5 then ((Bz.f k (rd_L1 x0 x5) x1).bind fun t434 => (if t434 < 0 then (some (-1)) else (Bf.l0 k x0 t434 (wrap64 (x5 + 1))))) else (none)) else (some x1)
def Bf.f (k : Nat) (l0 : List (List Int)) (a1 : Int) : Option (Int) := Bf.l0 k l0 a1 0
theorem Bf.mono_l : ∀ k, (∀ y0 y1 y2, LeO (Bf.l0 k y0 y1 y2) (Bf.l0 (k + 1) y0 y1 y2))
 | 0 => fun _ _ _ r h => by simp [Bf.l0] at h
 | k + 1 => by
  have ih0 := Bf.mono_l k
  ·intro y0 y1 y2
   unfold Bf.l0
   repeat' first
   | (with_reducible exact ih0 _ _ _)
   | (with_reducible exact Bz.mono _ _ _)
   | (with_reducible exact LeO.refl _)
   | (with_reducible exact LeO.none _)
   | (with_reducible refine LeO.ite ?_ ?_)
   | (with_reducible refine LeO.bind ?_ (fun _ => ?_))
   | exact ih0 _ _ _
   | exact Bz.mono _ _ _
   | exact LeO.none _
   | refine LeO.ite ?_ ?_
   | refine LeO.bind ?_ (fun _ => ?_)
theorem Bf.mono : ∀ a0 a1 k, LeO (Bf.f k a0 a1) (Bf.f (k + 1) a0 a1) := by
 intro a0 a1 k
 have ih0 := Bf.mono_l k
 unfold Bf.f
 repeat' first
   | (with_reducible exact ih0 _ _ _)
   | (with_reducible exact Bz.mono _ _ _)
   | (with_reducible exact LeO.refl _)
   | (with_reducible exact LeO.none _)
   | (with_reducible refine LeO.ite ?_ ?_)
   | (with_reducible refine LeO.bind ?_ (fun _ => ?_))
   | exact ih0 _ _ _
   | exact Bz.mono _ _ _
   | exact LeO.none _
   | refine LeO.ite ?_ ?_
   | refine LeO.bind ?_ (fun _ => ?_)
set_option maxHeartbeats 8000000 in
set_option maxRecDepth 100000 in
theorem Bf.calls (k : Nat) (A0 : Option Addr) (c0 : Nat) (l0 : List (List Int)) (a1 : Int) (r : Int) (w : World) (hr0 : Kd.C (Kd.slice 3 (Kd.int .i64)) w A0 l0.length l0) (hc0 : l0.length ≤ c0) (h : Bf.f k l0 a1 = some r) :
  Calls Try.prog 74 #[.slice A0 l0.length c0, .int .i64 a1] w fun e w' => e = .returned (.int .i64 r) ∧ Drawn0 w w' := by
 have HR0 := Aside0.mk hr0
 have HC0 := Aside0.mk hc0
 clear hr0 hc0
 have H : (Bf.l0 k l0 a1 0) = some r := h
 clear h
 have H' := Aside0.mk H
 clear H
 go_enter Try.func74, Try.ntmps74
 go_wp2
 go_loopg [1, 5] k (fun kq v1 v5 w' => ∃ (x1_1 : Int) (x5_1 : Int), v1 = .int .i64 x1_1 ∧ v5 = .int .i64 x5_1 ∧ Aside0 (Bf.l0 kq l0 x1_1 x5_1 = some r) ∧ Aside0 (kq ≤ k) ∧ Drawn0 w w')
 case atStart => exact ⟨(a1), (0), Ybb_, Ybb_, H', ⟨Nat.le_refl _⟩, by repeat (first | exact Drawn0.refl _ | apply Drawn0.step)⟩
 case round =>
  clear H'
  try clear p2
  obtain ⟨x1_1, x5_1, rfl, rfl, HA, HK1, ⟨m1, rfl⟩⟩ := hrel
  cases gk with
  | zero => exact absurd HA.out (by simp [Bf.l0])
  | succ k1 =>
   have H := HA.out
   clear HA
   simp only [Bf.l0] at H
   by_cases c3 : x5_1 < (l0.length : Int)
   ·rw [if_pos c3] at H
    have c3b0 : decide (x5_1 < (l0.length : Int)) = true := decide_eq_true c3
    clear c3
    by_cases c4 : 0 ≤ x5_1
    ·rw [if_pos c4] at H
     have c4b0 : decide (0 ≤ x5_1) = true := decide_eq_true c4
     clear c4
     replace H := Option.bind_eq_some_iff.mp H
     obtain ⟨t434, A50, H⟩ := H
     try dsimp only at H
     have A5 := Aside0.mk A50
     clear A50
     by_cases c6 : t434 < 0
     ·rw [if_pos c6] at H
      have c6b0 : decide (t434 < 0) = true := decide_eq_true c6
      clear c6
      obtain rfl := Option.some.inj H
      have p433 : 0 ≤ (x5_1 : Int) := of_decide_eq_true Yg_
      have q433 : x5_1 < (l0.length : Int) := of_decide_eq_true Yg_
      obtain ⟨ad433, A433_0, c433_0, e433, hx433_0, hl433_0, hi433_0⟩ := C9 HR0.out x5_1 p433 q433
      cases e433
      have HR433_0 := Aside0.mk hi433_0
      have HC433_0 := Aside0.mk hl433_0
      clear hi433_0 hl433_0
      replace p433 := eq_true p433
      replace q433 := eq_true q433
      go_wp2_with (first | ((with_reducible refine gate_callee (f := 87) rfl ?_); refine goesL_ (some 17) rfl rfl Try.func87 Yba_ rfl #[.slice A433_0 (rd_L1 l0 x5_1).length c433_0, .int .i64 x1_1] rfl Ye_ ?_; (with_reducible refine (Bz.calls k1 _ _ (rd_L1 l0 x5_1) x1_1 t434 _ ?side1 ?side2 A5.out).mono ?_); (case side1 => repeat (first | exact HR433_0.out | (with_reducible refine Kd.C_alloc ?_ _) | (with_reducible refine Kd.C_drewN ?_ _) | (with_reducible refine Kd.C_drew ?_))); (case side2 => exact HC433_0.out); rintro e w' ⟨rfl, ⟨nd, rfl⟩⟩; refine ⟨_, rfl, ?_⟩))
      go_ret
      exact ⟨by first | rfl | (simp; done) | (simp [*]; done), by repeat (first | exact Drawn0.refl _ | apply Drawn0.step)⟩
     ·rw [if_neg c6] at H
      have c6b0 : decide (t434 < 0) = false := decide_eq_false c6
      clear c6
      have H' := Aside0.mk H
      clear H
      have p433 : 0 ≤ (x5_1 : Int) := of_decide_eq_true Yg_
      have q433 : x5_1 < (l0.length : Int) := of_decide_eq_true Yg_
      obtain ⟨ad433, A433_0, c433_0, e433, hx433_0, hl433_0, hi433_0⟩ := C9 HR0.out x5_1 p433 q433
      cases e433
      have HR433_0 := Aside0.mk hi433_0
      have HC433_0 := Aside0.mk hl433_0
      clear hi433_0 hl433_0
      replace p433 := eq_true p433
      replace q433 := eq_true q433
      go_wp2_with (first | ((with_reducible refine gate_callee (f := 87) rfl ?_); refine goesL_ (some 17) rfl rfl Try.func87 Yba_ rfl #[.slice A433_0 (rd_L1 l0 x5_1).length c433_0, .int .i64 x1_1] rfl Ye_ ?_; (with_reducible refine (Bz.calls k1 _ _ (rd_L1 l0 x5_1) x1_1 t434 _ ?side1 ?side2 A5.out).mono ?_); (case side1 => repeat (first | exact HR433_0.out | (with_reducible refine Kd.C_alloc ?_ _) | (with_reducible refine Kd.C_drewN ?_ _) | (with_reducible refine Kd.C_drew ?_))); (case side2 => exact HC433_0.out); rintro e w' ⟨rfl, ⟨nd, rfl⟩⟩; refine ⟨_, rfl, ?_⟩))
      go_roundg k1
      case measure => have := HK1.out; omega
      case rel => exact ⟨(t434), (wrap64 (x5_1 + 1)), Ybb_, Ybb_, H', ⟨by have := HK1.out; omega⟩, by repeat (first | exact Drawn0.refl _ | apply Drawn0.step)⟩
    ·rw [if_neg c4] at H
     exact absurd H (by simp)
   ·rw [if_neg c3] at H
    have c3b0 : decide (x5_1 < (l0.length : Int)) = false := decide_eq_false c3
    clear c3
    obtain rfl := Option.some.inj H
    go_wp2
    go_ret
    exact ⟨by first | rfl | (simp; done) | (simp [*]; done), by repeat (first | exact Drawn0.refl _ | apply Drawn0.step)⟩
end Go.Proofs.Ytnggfglmjdiaaaa.X

namespace Go.Proofs.Ytnggfglmjdiaaaa.X
open Go.RowKit Go.Proofs.YtnggfglmjdiaaaaW.PrintWords Go.Proofs.YtnggfglmjdiaaaaL
def cntF : Nat → Nat → List Int
 | _, 0 => []
 | a, n + 1 => (a : Int) :: cntF (a + 1) n
theorem set_mid {α : Type} (p : List α) (x y : α) (r : List α) : (p ++ x :: r).set p.length y = (p ++ [y]) ++ r := by
 rw [List.set_append_right _ _ (Nat.le_refl _), Nat.sub_self, List.set_cons_zero, List.append_assoc]; rfl
theorem rdL_mid (p : List (List Int)) (x : List Int) (r : List (List Int)) : rd_L1 (p ++ x :: r) (p.length : Int) = x := by simp [rd_L1]
theorem markIntS_loop : ∀ (r p : List Int) (a : Nat), a + r.length ≤ 4611686018427387904 → p.length + r.length ≤ 4611686018427387904 →
  Ev (fun k => Bq.l0 k (p ++ r) (a : Int) (p.length : Int)) (((a + r.length : Nat) : Int), p ++ cntF a r.length)
 | [], p, a, _, _ => Ev.step (f := fun _ => some _) (fun k => by simp only [Bq.l0]; rw [if_neg (by simp)]; simp [cntF]) (Ev.now _)
 | x :: r, p, a, h, h2 => by
  rw [List.length_cons] at h h2
  have ih := markIntS_loop r (p ++ [(a : Int)]) (a + 1) (by omega) (by rw [List.length_append]; simp; omega)
  rw [List.length_cons, cntF, show a + (r.length + 1) = a + 1 + r.length by omega, show p ++ (a : Int) :: cntF (a + 1) r.length = p ++ [(a : Int)] ++ cntF (a + 1) r.length by simp]
  refine Ev.step (fun k => ?_) ih
  simp only [Bq.l0]
  rw [if_pos (by simp; omega), if_pos (by omega), Int.toNat_natCast, set_mid, wrap_id (x := (a : Int) + 1) (by omega) (by omega), wrap_succ (by omega), List.length_append]
  rfl
theorem markIntS_at (l : List Int) (a : Nat) (h : a + l.length ≤ 4611686018427387904) : Ev (fun k => Bq.f k l (a : Int)) (((a + l.length : Nat) : Int), cntF a l.length) :=
 Ev.congr (fun k => rfl) (markIntS_loop l [] a h (by simp; omega))
def total : List (List Int) → Nat
 | [] => 0
 | r :: l => r.length + total l
def Fa : List (List Int) → Nat → List (List Int)
 | [], _ => []
 | r :: l, a => cntF a r.length :: Fa l (a + r.length)
theorem markIntSS_loop : ∀ (r p : List (List Int)) (a : Nat), a + total r ≤ 4611686018427387904 → p.length + r.length ≤ 4611686018427387904 →
  Ev (fun k => Bd.l0 k (p ++ r) (a : Int) (p.length : Int)) (((a + total r : Nat) : Int), p ++ Fa r a)
 | [], p, a, _, _ => Ev.step (f := fun _ => some _) (fun k => by simp only [Bd.l0]; rw [if_neg (by simp)]; simp [total, Fa]) (Ev.now _)
 | x :: r, p, a, h, h2 => by
  rw [List.length_cons] at h2
  rw [total] at h
  have ih := markIntSS_loop r (p ++ [cntF a x.length]) (a + x.length) (by omega) (by rw [List.length_append]; simp; omega)
  rw [total, Fa, show a + (x.length + total r) = a + x.length + total r by omega, show p ++ cntF a x.length :: Fa r (a + x.length) = p ++ [cntF a x.length] ++ Fa r (a + x.length) by simp]
  refine Ev.step (f := fun k => (Bq.f k x (a : Int)).bind fun t => Bd.l0 k ((p ++ x :: r).set p.length t.2) t.1 ((p.length + 1 : Nat) : Int)) (fun k => ?_) (Ev.bind (markIntS_at x a (by omega)) ?_)
  ·simp only [Bd.l0]
   rw [if_pos (by simp; omega), if_pos (by omega), rdL_mid, Int.toNat_natCast, wrap_succ (by omega)]
  ·simp only [set_mid]
   rw [List.length_append] at ih
   exact ih
theorem markIntSS_at (l : List (List Int)) (a : Nat) (h : a + total l ≤ 4611686018427387904) (h2 : l.length ≤ 4611686018427387904) : Ev (fun k => Bd.f k l (a : Int)) (((a + total l : Nat) : Int), Fa l a) :=
 Ev.congr (fun k => rfl) (markIntSS_loop l [] a h (by simp; omega))
end Go.Proofs.Ytnggfglmjdiaaaa.X

namespace Go.Proofs.Ytnggfglmjdiaaaa.X
open Go.RowKit Go.Proofs.YtnggfglmjdiaaaaW.PrintWords Go.Proofs.YtnggfglmjdiaaaaW.PrintLast Go.Proofs.YtnggfglmjdiaaaaW.PrintMore
attribute [local go_sem] max2_int min2_int max_two min_two max_three min_three max_four min_four
def Dn.f (k : Nat) (l0_0 : List (List Int)) (a1 : Int) : Option (Int) := (Bf.f k l0_0 a1).bind fun t436 => (if t436 < 0 then (some (-1)) else (some t436))
theorem Dn.mono : ∀ a0 a1 k, LeO (Dn.f k a0 a1) (Dn.f (k + 1) a0 a1) := by
 intro a0 a1 k
 unfold Dn.f
 repeat' first
   | (with_reducible exact Bf.mono _ _ _)
   | (with_reducible exact LeO.refl _)
   | (with_reducible exact LeO.none _)
   | (with_reducible refine LeO.ite ?_ ?_)
   | (with_reducible refine LeO.bind ?_ (fun _ => ?_))
   | exact Bf.mono _ _ _
   | exact LeO.none _
   | refine LeO.ite ?_ ?_
   | refine LeO.bind ?_ (fun _ => ?_)
set_option maxHeartbeats 8000000 in
set_option maxRecDepth 100000 in
theorem Dn.calls (k : Nat) (A0_0 : Option Addr) (c0_0 : Nat) (l0_0 : List (List Int)) (a1 : Int) (r : Int) (w : World) (hr0_0 : Kd.C (Kd.slice 3 (Kd.int .i64)) w A0_0 l0_0.length l0_0) (hc0_0 : l0_0.length ≤ c0_0) (h : Dn.f k l0_0 a1 = some r) :
  Calls Try.prog 54 #[.agg #[.slice A0_0 l0_0.length c0_0], .int .i64 a1] w fun e w' => e = .returned (.int .i64 r) ∧ Below w.heap.size w w' := by
 have hu31 := Try.underlying31
 have HR0_0 := Aside0.mk hr0_0
 have HC0_0 := Aside0.mk hc0_0
 clear hr0_0 hc0_0
 have HB := Aside0.mk (Below.refl w.heap.size w)
 have H : ((Bf.f k l0_0 a1).bind fun t436 => (if t436 < 0 then (some (-1)) else (some t436))) = some r := h
 clear h
 replace H := Option.bind_eq_some_iff.mp H
 obtain ⟨t436, A30, H⟩ := H
 try dsimp only at H
 have A3 := Aside0.mk A30
 clear A30
 by_cases c4 : t436 < 0
 ·rw [if_pos c4] at H
  have c4b0 : decide (t436 < 0) = true := decide_eq_true c4
  clear c4
  obtain rfl := Option.some.inj H
  go_enter Try.func54, Try.ntmps54
  go_wp2_with (first | ((with_reducible refine gate_dst (N := 2) rfl ?_); refine box_event ?hg (N := 2) ?hd (cs := #[.slice A0_0 l0_0.length c0_0]) (t := 31) ?hr ?_; (case hd => rfl); (case hg => rfl); (case hr => first | (go_simp; done) | (go_simp; rfl)); intro gb0 hg w5 hbox hb; have n0_ := Aside0.mk (below_step Yb_ hb); have n1_ := Aside0.mk (hbox); have n2_ := Aside0.mk ((by rw [hg]; exact (below_size Yb_) : w.heap.size ≤ gb0)); have n3_ := Aside0.mk ((by rw [hg]; exact (below_size Yb_) : w.heap.size ≤ gb0)); clear HB; have HB := n0_; have BK0 := n1_; have GW0 := n2_; have GE0 := n3_; clear n0_ n1_ n2_ n3_; clear hb hbox hg; have hcz6_0 : w5.cell? ⟨gb0, 0, none⟩ = some (.slice A0_0 l0_0.length c0_0) := (blk_cell BK0.out 0).trans rfl; have hfz6_0 := blk_frozen BK0.out 0) | ((with_reducible refine gate_callee (f := 74) rfl ?_); refine goesL_ (some 8) rfl rfl Try.func74 Yba_ rfl #[.slice A0_0 l0_0.length c0_0, .int .i64 a1] rfl Ye_ ?_; (with_reducible refine (Bf.calls k _ _ l0_0 a1 t436 _ ?side1 ?side2 A3.out).mono ?_); (case side1 => repeat (first | exact (Kd.C_below HR0_0.out HB.out) | (with_reducible refine Kd.C_alloc ?_ _) | (with_reducible refine Kd.C_drewN ?_ _) | (with_reducible refine Kd.C_drew ?_))); (case side2 => exact HC0_0.out); rintro e w' ⟨rfl, ⟨nd, rfl⟩⟩; refine ⟨_, rfl, ?_⟩))
  go_ret
  exact ⟨by first | rfl | (simp [errW_none, errW_some] <;> rfl) | (simp [*, errW_none, errW_some] <;> rfl), by repeat (first | (with_reducible first | exact HB.out | apply below_alloc | apply pw_below_drewN | apply below_drew1 | refine below_set ?_ GE0.out) | exact HB.out)⟩
 ·rw [if_neg c4] at H
  have c4b0 : decide (t436 < 0) = false := decide_eq_false c4
  clear c4
  obtain rfl := Option.some.inj H
  go_enter Try.func54, Try.ntmps54
  go_wp2_with (first | ((with_reducible refine gate_dst (N := 2) rfl ?_); refine box_event ?hg (N := 2) ?hd (cs := #[.slice A0_0 l0_0.length c0_0]) (t := 31) ?hr ?_; (case hd => rfl); (case hg => rfl); (case hr => first | (go_simp; done) | (go_simp; rfl)); intro gb0 hg w7 hbox hb; have n0_ := Aside0.mk (below_step Yb_ hb); have n1_ := Aside0.mk (hbox); have n2_ := Aside0.mk ((by rw [hg]; exact (below_size Yb_) : w.heap.size ≤ gb0)); have n3_ := Aside0.mk ((by rw [hg]; exact (below_size Yb_) : w.heap.size ≤ gb0)); clear HB; have HB := n0_; have BK0 := n1_; have GW0 := n2_; have GE0 := n3_; clear n0_ n1_ n2_ n3_; clear hb hbox hg; have hcz8_0 : w7.cell? ⟨gb0, 0, none⟩ = some (.slice A0_0 l0_0.length c0_0) := (blk_cell BK0.out 0).trans rfl; have hfz8_0 := blk_frozen BK0.out 0) | ((with_reducible refine gate_callee (f := 74) rfl ?_); refine goesL_ (some 8) rfl rfl Try.func74 Yba_ rfl #[.slice A0_0 l0_0.length c0_0, .int .i64 a1] rfl Ye_ ?_; (with_reducible refine (Bf.calls k _ _ l0_0 a1 t436 _ ?side1 ?side2 A3.out).mono ?_); (case side1 => repeat (first | exact (Kd.C_below HR0_0.out HB.out) | (with_reducible refine Kd.C_alloc ?_ _) | (with_reducible refine Kd.C_drewN ?_ _) | (with_reducible refine Kd.C_drew ?_))); (case side2 => exact HC0_0.out); rintro e w' ⟨rfl, ⟨nd, rfl⟩⟩; refine ⟨_, rfl, ?_⟩))
  go_ret
  exact ⟨by first | rfl | (simp [errW_none, errW_some] <;> rfl) | (simp [*, errW_none, errW_some] <;> rfl), by repeat (first | (with_reducible first | exact HB.out | apply below_alloc | apply pw_below_drewN | apply below_drew1 | refine below_set ?_ GE0.out) | exact HB.out)⟩
def Dw.f (k : Nat) (a0_0 : Int) (l0_1 : List (List Int)) (a1 : Int) : Option (Int) := (Bf.f k l0_1 a1).bind fun t438 => (if t438 < 0 then (some (-1)) else (some t438))
theorem Dw.mono : ∀ a0 a1 a2 k, LeO (Dw.f k a0 a1 a2) (Dw.f (k + 1) a0 a1 a2) := by
 intro a0 a1 a2 k
 unfold Dw.f
 repeat' first
   | (with_reducible exact Bf.mono _ _ _)
   | (with_reducible exact LeO.refl _)
   | (with_reducible exact LeO.none _)
   | (with_reducible refine LeO.ite ?_ ?_)
   | (with_reducible refine LeO.bind ?_ (fun _ => ?_))
   | exact Bf.mono _ _ _
   | exact LeO.none _
   | refine LeO.ite ?_ ?_
   | refine LeO.bind ?_ (fun _ => ?_)
set_option maxHeartbeats 8000000 in
set_option maxRecDepth 100000 in
theorem Dw.calls (k : Nat) (a0_0 : Int) (A0_1 : Option Addr) (c0_1 : Nat) (l0_1 : List (List Int)) (a1 : Int) (r : Int) (w : World) (hr0_1 : Kd.C (Kd.slice 3 (Kd.int .i64)) w A0_1 l0_1.length l0_1) (hc0_1 : l0_1.length ≤ c0_1) (h : Dw.f k a0_0 l0_1 a1 = some r) :
  Calls Try.prog 55 #[.agg #[.int .i64 a0_0, .slice A0_1 l0_1.length c0_1], .int .i64 a1] w fun e w' => e = .returned (.int .i64 r) ∧ Below w.heap.size w w' := by
 have hu32 := Try.underlying32
 have HR0_1 := Aside0.mk hr0_1
 have HC0_1 := Aside0.mk hc0_1
 clear hr0_1 hc0_1
 have HB := Aside0.mk (Below.refl w.heap.size w)
 have H : ((Bf.f k l0_1 a1).bind fun t438 => (if t438 < 0 then (some (-1)) else (some t438))) = some r := h
 clear h
 replace H := Option.bind_eq_some_iff.mp H
 obtain ⟨t438, A30, H⟩ := H
 try dsimp only at H
 have A3 := Aside0.mk A30
 clear A30
 by_cases c4 : t438 < 0
 ·rw [if_pos c4] at H
  have c4b0 : decide (t438 < 0) = true := decide_eq_true c4
  clear c4
  obtain rfl := Option.some.inj H
  go_enter Try.func55, Try.ntmps55
  go_wp2_with (first | ((with_reducible refine gate_dst (N := 2) rfl ?_); refine box_event ?hg (N := 2) ?hd (cs := #[.int .i64 a0_0, .slice A0_1 l0_1.length c0_1]) (t := 32) ?hr ?_; (case hd => rfl); (case hg => rfl); (case hr => first | (go_simp; done) | (go_simp; rfl)); intro gb0 hg w5 hbox hb; have n0_ := Aside0.mk (below_step Yb_ hb); have n1_ := Aside0.mk (hbox); have n2_ := Aside0.mk ((by rw [hg]; exact (below_size Yb_) : w.heap.size ≤ gb0)); have n3_ := Aside0.mk ((by rw [hg]; exact (below_size Yb_) : w.heap.size ≤ gb0)); clear HB; have HB := n0_; have BK0 := n1_; have GW0 := n2_; have GE0 := n3_; clear n0_ n1_ n2_ n3_; clear hb hbox hg; have hcz6_0 : w5.cell? ⟨gb0, 0, none⟩ = some (.int .i64 a0_0) := (blk_cell BK0.out 0).trans rfl; have hcz6_1 : w5.cell? ⟨gb0, 1, none⟩ = some (.slice A0_1 l0_1.length c0_1) := (blk_cell BK0.out 1).trans rfl; have hfz6_0 := blk_frozen BK0.out 0; have hfz6_1 := blk_frozen BK0.out 1) | ((with_reducible refine gate_callee (f := 74) rfl ?_); refine goesL_ (some 8) rfl rfl Try.func74 Yba_ rfl #[.slice A0_1 l0_1.length c0_1, .int .i64 a1] rfl Ye_ ?_; (with_reducible refine (Bf.calls k _ _ l0_1 a1 t438 _ ?side1 ?side2 A3.out).mono ?_); (case side1 => repeat (first | exact (Kd.C_below HR0_1.out HB.out) | (with_reducible refine Kd.C_alloc ?_ _) | (with_reducible refine Kd.C_drewN ?_ _) | (with_reducible refine Kd.C_drew ?_))); (case side2 => exact HC0_1.out); rintro e w' ⟨rfl, ⟨nd, rfl⟩⟩; refine ⟨_, rfl, ?_⟩))
  go_ret
  exact ⟨by first | rfl | (simp [errW_none, errW_some] <;> rfl) | (simp [*, errW_none, errW_some] <;> rfl), by repeat (first | (with_reducible first | exact HB.out | apply below_alloc | apply pw_below_drewN | apply below_drew1 | refine below_set ?_ GE0.out) | exact HB.out)⟩
 ·rw [if_neg c4] at H
  have c4b0 : decide (t438 < 0) = false := decide_eq_false c4
  clear c4
  obtain rfl := Option.some.inj H
  go_enter Try.func55, Try.ntmps55
  go_wp2_with (first | ((with_reducible refine gate_dst (N := 2) rfl ?_); refine box_event ?hg (N := 2) ?hd (cs := #[.int .i64 a0_0, .slice A0_1 l0_1.length c0_1]) (t := 32) ?hr ?_; (case hd => rfl); (case hg => rfl); (case hr => first | (go_simp; done) | (go_simp; rfl)); intro gb0 hg w7 hbox hb; have n0_ := Aside0.mk (below_step Yb_ hb); have n1_ := Aside0.mk (hbox); have n2_ := Aside0.mk ((by rw [hg]; exact (below_size Yb_) : w.heap.size ≤ gb0)); have n3_ := Aside0.mk ((by rw [hg]; exact (below_size Yb_) : w.heap.size ≤ gb0)); clear HB; have HB := n0_; have BK0 := n1_; have GW0 := n2_; have GE0 := n3_; clear n0_ n1_ n2_ n3_; clear hb hbox hg; have hcz8_0 : w7.cell? ⟨gb0, 0, none⟩ = some (.int .i64 a0_0) := (blk_cell BK0.out 0).trans rfl; have hcz8_1 : w7.cell? ⟨gb0, 1, none⟩ = some (.slice A0_1 l0_1.length c0_1) := (blk_cell BK0.out 1).trans rfl; have hfz8_0 := blk_frozen BK0.out 0; have hfz8_1 := blk_frozen BK0.out 1) | ((with_reducible refine gate_callee (f := 74) rfl ?_); refine goesL_ (some 8) rfl rfl Try.func74 Yba_ rfl #[.slice A0_1 l0_1.length c0_1, .int .i64 a1] rfl Ye_ ?_; (with_reducible refine (Bf.calls k _ _ l0_1 a1 t438 _ ?side1 ?side2 A3.out).mono ?_); (case side1 => repeat (first | exact (Kd.C_below HR0_1.out HB.out) | (with_reducible refine Kd.C_alloc ?_ _) | (with_reducible refine Kd.C_drewN ?_ _) | (with_reducible refine Kd.C_drew ?_))); (case side2 => exact HC0_1.out); rintro e w' ⟨rfl, ⟨nd, rfl⟩⟩; refine ⟨_, rfl, ?_⟩))
  go_ret
  exact ⟨by first | rfl | (simp [errW_none, errW_some] <;> rfl) | (simp [*, errW_none, errW_some] <;> rfl), by repeat (first | (with_reducible first | exact HB.out | apply below_alloc | apply pw_below_drewN | apply below_drew1 | refine below_set ?_ GE0.out) | exact HB.out)⟩
def Ef.f (k : Nat) (l0_0 : List (List Int)) (a0_1 : Int) (l0_2 : List (List Int)) (a1 : Int) : Option (Int) := (Dn.f k l0_0 a1).bind fun t440 => (if t440 < 0 then (some (-1)) else ((Dw.f k a0_1 l0_2 t440).bind fun t441 => (if t441 < 0 then (some (-1)) else (some t441))))
theorem Ef.mono : ∀ a0 a1 a2 a3 k, LeO (Ef.f k a0 a1 a2 a3) (Ef.f (k + 1) a0 a1 a2 a3) := by
 intro a0 a1 a2 a3 k
 unfold Ef.f
 repeat' first
   | (with_reducible exact Dw.mono _ _ _ _)
   | (with_reducible exact Dn.mono _ _ _)
   | (with_reducible exact LeO.refl _)
   | (with_reducible exact LeO.none _)
   | (with_reducible refine LeO.ite ?_ ?_)
   | (with_reducible refine LeO.bind ?_ (fun _ => ?_))
   | exact Dw.mono _ _ _ _
   | exact Dn.mono _ _ _
   | exact LeO.none _
   | refine LeO.ite ?_ ?_
   | refine LeO.bind ?_ (fun _ => ?_)
set_option maxHeartbeats 8000000 in
set_option maxRecDepth 100000 in
theorem Ef.calls (k : Nat) (A0_0 : Option Addr) (c0_0 : Nat) (l0_0 : List (List Int)) (a0_1 : Int) (A0_2 : Option Addr) (c0_2 : Nat) (l0_2 : List (List Int)) (a1 : Int) (r : Int) (w : World) (hr0_0 : Kd.C (Kd.slice 3 (Kd.int .i64)) w A0_0 l0_0.length l0_0) (hc0_0 : l0_0.length ≤ c0_0) (hr0_2 : Kd.C (Kd.slice 3 (Kd.int .i64)) w A0_2 l0_2.length l0_2) (hc0_2 : l0_2.length ≤ c0_2) (h : Ef.f k l0_0 a0_1 l0_2 a1 = some r) :
  Calls Try.prog 24 #[.agg #[.slice A0_0 l0_0.length c0_0, .int .i64 a0_1, .slice A0_2 l0_2.length c0_2], .int .i64 a1] w fun e w' => e = .returned (.int .i64 r) ∧ Below w.heap.size w w' := by
 have hu34 := Try.underlying34
 have hu31 := Try.underlying31
 have hu32 := Try.underlying32
 have HR0_0 := Aside0.mk hr0_0
 have HC0_0 := Aside0.mk hc0_0
 clear hr0_0 hc0_0
 have HR0_2 := Aside0.mk hr0_2
 have HC0_2 := Aside0.mk hc0_2
 clear hr0_2 hc0_2
 have HB := Aside0.mk (Below.refl w.heap.size w)
 have H : ((Dn.f k l0_0 a1).bind fun t440 => (if t440 < 0 then (some (-1)) else ((Dw.f k a0_1 l0_2 t440).bind fun t441 => (if t441 < 0 then (some (-1)) else (some t441))))) = some r := h
 clear h
 replace H := Option.bind_eq_some_iff.mp H
 obtain ⟨t440, A30, H⟩ := H
 try dsimp only at H
 have A3 := Aside0.mk A30
 clear A30
 by_cases c4 : t440 < 0
 ·rw [if_pos c4] at H
  have c4b0 : decide (t440 < 0) = true := decide_eq_true c4
  clear c4
  obtain rfl := Option.some.inj H
  go_enter Try.func24, Try.ntmps24
  go_wp2_with (first | ((with_reducible refine gate_dst (N := 2) rfl ?_); refine box_event ?hg (N := 2) ?hd (cs := #[.slice A0_0 l0_0.length c0_0, .int .i64 a0_1, .slice A0_2 l0_2.length c0_2]) (t := 34) ?hr ?_; (case hd => rfl); (case hg => rfl); (case hr => first | (go_simp; done) | (go_simp; rfl)); intro gb0 hg w5 hbox hb; have n0_ := Aside0.mk (below_step Yb_ hb); have n1_ := Aside0.mk (hbox); have n2_ := Aside0.mk ((by rw [hg]; exact (below_size Yb_) : w.heap.size ≤ gb0)); have n3_ := Aside0.mk ((by rw [hg]; exact (below_size Yb_) : w.heap.size ≤ gb0)); clear HB; have HB := n0_; have BK0 := n1_; have GW0 := n2_; have GE0 := n3_; clear n0_ n1_ n2_ n3_; clear hb hbox hg; have hcz6_0 : w5.cell? ⟨gb0, 0, none⟩ = some (.slice A0_0 l0_0.length c0_0) := (blk_cell BK0.out 0).trans rfl; have hcz6_1 : w5.cell? ⟨gb0, 1, none⟩ = some (.int .i64 a0_1) := (blk_cell BK0.out 1).trans rfl; have hcz6_2 : w5.cell? ⟨gb0, 2, none⟩ = some (.slice A0_2 l0_2.length c0_2) := (blk_cell BK0.out 2).trans rfl; have hfz6_0 := blk_frozen BK0.out 0; have hfz6_1 := blk_frozen BK0.out 1; have hfz6_2 := blk_frozen BK0.out 2) | ((with_reducible refine gate_callee (f := 54) rfl ?_); refine goesL_ (some 8) rfl rfl Try.func54 Yba_ rfl #[.agg #[.slice A0_0 l0_0.length c0_0], .int .i64 a1] rfl Ye_ ?_; (with_reducible refine (Dn.calls k _ _ l0_0 a1 t440 _ ?side1 ?side2 A3.out).mono ?_); (case side1 => repeat (first | exact (Kd.C_below HR0_0.out HB.out) | (with_reducible refine Kd.C_alloc ?_ _) | (with_reducible refine Kd.C_drewN ?_ _) | (with_reducible refine Kd.C_drew ?_))); (case side2 => exact HC0_0.out); rintro e w7 ⟨rfl, hb⟩; refine ⟨_, rfl, ?_⟩; have n0_ := Aside0.mk (blk_below (g := gb0) (o := .cells #[.slice A0_0 l0_0.length c0_0, .int .i64 a0_1, .slice A0_2 l0_2.length c0_2] 34 (0, 0)) Yc_ hb); have n1_ := Aside0.mk (below_step Yd_ hb); clear BK0; clear HB; have BK0 := n0_; have HB := n1_; clear n0_ n1_; (try clear hb); (try clear hb2); (try clear hk); (try clear hi)))
  go_ret
  exact ⟨by first | rfl | (simp [errW_none, errW_some] <;> rfl) | (simp [*, errW_none, errW_some] <;> rfl), by repeat (first | (with_reducible first | exact HB.out | apply below_alloc | apply pw_below_drewN | apply below_drew1 | refine below_set ?_ GE0.out) | exact HB.out)⟩
 ·rw [if_neg c4] at H
  have c4b0 : decide (t440 < 0) = false := decide_eq_false c4
  clear c4
  replace H := Option.bind_eq_some_iff.mp H
  obtain ⟨t441, A80, H⟩ := H
  try dsimp only at H
  have A8 := Aside0.mk A80
  clear A80
  by_cases c9 : t441 < 0
  ·rw [if_pos c9] at H
   have c9b0 : decide (t441 < 0) = true := decide_eq_true c9
   clear c9
   obtain rfl := Option.some.inj H
   go_enter Try.func24, Try.ntmps24
   go_wp2_with (first | ((with_reducible refine gate_dst (N := 2) rfl ?_); refine box_event ?hg (N := 2) ?hd (cs := #[.slice A0_0 l0_0.length c0_0, .int .i64 a0_1, .slice A0_2 l0_2.length c0_2]) (t := 34) ?hr ?_; (case hd => rfl); (case hg => rfl); (case hr => first | (go_simp; done) | (go_simp; rfl)); intro gb0 hg w10 hbox hb; have n0_ := Aside0.mk (below_step Yb_ hb); have n1_ := Aside0.mk (hbox); have n2_ := Aside0.mk ((by rw [hg]; exact (below_size Yb_) : w.heap.size ≤ gb0)); have n3_ := Aside0.mk ((by rw [hg]; exact (below_size Yb_) : w.heap.size ≤ gb0)); clear HB; have HB := n0_; have BK0 := n1_; have GW0 := n2_; have GE0 := n3_; clear n0_ n1_ n2_ n3_; clear hb hbox hg; have hcz11_0 : w10.cell? ⟨gb0, 0, none⟩ = some (.slice A0_0 l0_0.length c0_0) := (blk_cell BK0.out 0).trans rfl; have hcz11_1 : w10.cell? ⟨gb0, 1, none⟩ = some (.int .i64 a0_1) := (blk_cell BK0.out 1).trans rfl; have hcz11_2 : w10.cell? ⟨gb0, 2, none⟩ = some (.slice A0_2 l0_2.length c0_2) := (blk_cell BK0.out 2).trans rfl; have hfz11_0 := blk_frozen BK0.out 0; have hfz11_1 := blk_frozen BK0.out 1; have hfz11_2 := blk_frozen BK0.out 2) | ((with_reducible refine gate_callee (f := 54) rfl ?_); refine goesL_ (some 8) rfl rfl Try.func54 Yba_ rfl #[.agg #[.slice A0_0 l0_0.length c0_0], .int .i64 a1] rfl Ye_ ?_; (with_reducible refine (Dn.calls k _ _ l0_0 a1 t440 _ ?side1 ?side2 A3.out).mono ?_); (case side1 => repeat (first | exact (Kd.C_below HR0_0.out HB.out) | (with_reducible refine Kd.C_alloc ?_ _) | (with_reducible refine Kd.C_drewN ?_ _) | (with_reducible refine Kd.C_drew ?_))); (case side2 => exact HC0_0.out); rintro e w12 ⟨rfl, hb⟩; refine ⟨_, rfl, ?_⟩; have n0_ := Aside0.mk (blk_below (g := gb0) (o := .cells #[.slice A0_0 l0_0.length c0_0, .int .i64 a0_1, .slice A0_2 l0_2.length c0_2] 34 (0, 0)) Yc_ hb); have n1_ := Aside0.mk (below_step Yd_ hb); clear BK0; clear HB; have BK0 := n0_; have HB := n1_; clear n0_ n1_; (try clear hb); (try clear hb2); (try clear hk); (try clear hi); have hcz13_0 : w12.cell? ⟨gb0, 0, none⟩ = some (.slice A0_0 l0_0.length c0_0) := (blk_cell BK0.out 0).trans rfl; have hcz13_1 : w12.cell? ⟨gb0, 1, none⟩ = some (.int .i64 a0_1) := (blk_cell BK0.out 1).trans rfl; have hcz13_2 : w12.cell? ⟨gb0, 2, none⟩ = some (.slice A0_2 l0_2.length c0_2) := (blk_cell BK0.out 2).trans rfl; have hfz13_0 := blk_frozen BK0.out 0; have hfz13_1 := blk_frozen BK0.out 1; have hfz13_2 := blk_frozen BK0.out 2) | ((with_reducible refine gate_callee (f := 55) rfl ?_); refine goesL_ (some 14) rfl rfl Try.func55 Yba_ rfl #[.agg #[.int .i64 a0_1, .slice A0_2 l0_2.length c0_2], .int .i64 t440] rfl Ye_ ?_; (with_reducible refine (Dw.calls k a0_1 _ _ l0_2 t440 t441 _ ?side1 ?side2 A8.out).mono ?_); (case side1 => repeat (first | exact (Kd.C_below HR0_2.out HB.out) | (with_reducible refine Kd.C_alloc ?_ _) | (with_reducible refine Kd.C_drewN ?_ _) | (with_reducible refine Kd.C_drew ?_))); (case side2 => exact HC0_2.out); rintro e w14 ⟨rfl, hb⟩; refine ⟨_, rfl, ?_⟩; have n0_ := Aside0.mk (blk_below (g := gb0) (o := .cells #[.slice A0_0 l0_0.length c0_0, .int .i64 a0_1, .slice A0_2 l0_2.length c0_2] 34 (0, 0)) Yc_ hb); have n1_ := Aside0.mk (below_step Yd_ hb); clear BK0; clear HB; have BK0 := n0_; have HB := n1_; clear n0_ n1_; (try clear hb); (try clear hb2); (try clear hk); (try clear hi)))
   go_ret
   exact ⟨by first | rfl | (simp [errW_none, errW_some] <;> rfl) | (simp [*, errW_none, errW_some] <;> rfl), by repeat (first | (with_reducible first | exact HB.out | apply below_alloc | apply pw_below_drewN | apply below_drew1 | refine below_set ?_ GE0.out) | exact HB.out)⟩
  ·rw [if_neg c9] at H
   have c9b0 : decide (t441 < 0) = false := decide_eq_false c9
   clear c9
   obtain rfl := Option.some.inj H
   go_enter Try.func24, Try.ntmps24
   go_wp2_with (first | ((with_reducible refine gate_dst (N := 2) rfl ?_); refine box_event ?hg (N := 2) ?hd (cs := #[.slice A0_0 l0_0.length c0_0, .int .i64 a0_1, .slice A0_2 l0_2.length c0_2]) (t := 34) ?hr ?_; (case hd => rfl); (case hg => rfl); (case hr => first | (go_simp; done) | (go_simp; rfl)); intro gb0 hg w15 hbox hb; have n0_ := Aside0.mk (below_step Yb_ hb); have n1_ := Aside0.mk (hbox); have n2_ := Aside0.mk ((by rw [hg]; exact (below_size Yb_) : w.heap.size ≤ gb0)); have n3_ := Aside0.mk ((by rw [hg]; exact (below_size Yb_) : w.heap.size ≤ gb0)); clear HB; have HB := n0_; have BK0 := n1_; have GW0 := n2_; have GE0 := n3_; clear n0_ n1_ n2_ n3_; clear hb hbox hg; have hcz16_0 : w15.cell? ⟨gb0, 0, none⟩ = some (.slice A0_0 l0_0.length c0_0) := (blk_cell BK0.out 0).trans rfl; have hcz16_1 : w15.cell? ⟨gb0, 1, none⟩ = some (.int .i64 a0_1) := (blk_cell BK0.out 1).trans rfl; have hcz16_2 : w15.cell? ⟨gb0, 2, none⟩ = some (.slice A0_2 l0_2.length c0_2) := (blk_cell BK0.out 2).trans rfl; have hfz16_0 := blk_frozen BK0.out 0; have hfz16_1 := blk_frozen BK0.out 1; have hfz16_2 := blk_frozen BK0.out 2) | ((with_reducible refine gate_callee (f := 54) rfl ?_); refine goesL_ (some 8) rfl rfl Try.func54 Yba_ rfl #[.agg #[.slice A0_0 l0_0.length c0_0], .int .i64 a1] rfl Ye_ ?_; (with_reducible refine (Dn.calls k _ _ l0_0 a1 t440 _ ?side1 ?side2 A3.out).mono ?_); (case side1 => repeat (first | exact (Kd.C_below HR0_0.out HB.out) | (with_reducible refine Kd.C_alloc ?_ _) | (with_reducible refine Kd.C_drewN ?_ _) | (with_reducible refine Kd.C_drew ?_))); (case side2 => exact HC0_0.out); rintro e w17 ⟨rfl, hb⟩; refine ⟨_, rfl, ?_⟩; have n0_ := Aside0.mk (blk_below (g := gb0) (o := .cells #[.slice A0_0 l0_0.length c0_0, .int .i64 a0_1, .slice A0_2 l0_2.length c0_2] 34 (0, 0)) Yc_ hb); have n1_ := Aside0.mk (below_step Yd_ hb); clear BK0; clear HB; have BK0 := n0_; have HB := n1_; clear n0_ n1_; (try clear hb); (try clear hb2); (try clear hk); (try clear hi); have hcz18_0 : w17.cell? ⟨gb0, 0, none⟩ = some (.slice A0_0 l0_0.length c0_0) := (blk_cell BK0.out 0).trans rfl; have hcz18_1 : w17.cell? ⟨gb0, 1, none⟩ = some (.int .i64 a0_1) := (blk_cell BK0.out 1).trans rfl; have hcz18_2 : w17.cell? ⟨gb0, 2, none⟩ = some (.slice A0_2 l0_2.length c0_2) := (blk_cell BK0.out 2).trans rfl; have hfz18_0 := blk_frozen BK0.out 0; have hfz18_1 := blk_frozen BK0.out 1; have hfz18_2 := blk_frozen BK0.out 2) | ((with_reducible refine gate_callee (f := 55) rfl ?_); refine goesL_ (some 14) rfl rfl Try.func55 Yba_ rfl #[.agg #[.int .i64 a0_1, .slice A0_2 l0_2.length c0_2], .int .i64 t440] rfl Ye_ ?_; (with_reducible refine (Dw.calls k a0_1 _ _ l0_2 t440 t441 _ ?side1 ?side2 A8.out).mono ?_); (case side1 => repeat (first | exact (Kd.C_below HR0_2.out HB.out) | (with_reducible refine Kd.C_alloc ?_ _) | (with_reducible refine Kd.C_drewN ?_ _) | (with_reducible refine Kd.C_drew ?_))); (case side2 => exact HC0_2.out); rintro e w19 ⟨rfl, hb⟩; refine ⟨_, rfl, ?_⟩; have n0_ := Aside0.mk (blk_below (g := gb0) (o := .cells #[.slice A0_0 l0_0.length c0_0, .int .i64 a0_1, .slice A0_2 l0_2.length c0_2] 34 (0, 0)) Yc_ hb); have n1_ := Aside0.mk (below_step Yd_ hb); clear BK0; clear HB; have BK0 := n0_; have HB := n1_; clear n0_ n1_; (try clear hb); (try clear hb2); (try clear hk); (try clear hi)))
   go_ret
   exact ⟨by first | rfl | (simp [errW_none, errW_some] <;> rfl) | (simp [*, errW_none, errW_some] <;> rfl), by repeat (first | (with_reducible first | exact HB.out | apply below_alloc | apply pw_below_drewN | apply below_drew1 | refine below_set ?_ GE0.out) | exact HB.out)⟩
end Go.Proofs.Ytnggfglmjdiaaaa.X

namespace Go.Proofs.Ytnggfglmjdiaaaa.X
open Go.RowKit Go.Proofs.YtnggfglmjdiaaaaW.PrintWords Go.Proofs.YtnggfglmjdiaaaaL
theorem clone_eq (s : List Int) (h : s.length ≤ 1048576) : Dq.f s = some s := if_pos (by omega)
theorem l1Own_eq (s : List Int) (h : s.length ≤ 1048576) : Df.f s = some s := by
 unfold Df.f
 simp only [Option.bind_some, List.length_nil, List.nil_append]
 exact if_pos (by omega)
theorem implOwnYard_ev (l : List (List Int)) (hl : rowsOk l) : Ev (fun k => Au.f k l) l := by
 have key : ∀ (d i : Nat), i + d = l.length → Ev (fun k => Au.l0 k l (l.length : Int) i (l.take i)) l := by
  intro d
  induction d with
  | zero =>
   intro i hi
   refine Ev.step (f := fun _ => some l) (fun k => ?_) (Ev.now _)
   simp only [Au.l0]; rw [if_neg (by omega), List.take_of_length_le (by omega)]
  | succ d ih =>
   intro i hi
   have hil : i < l.length := by omega
   have hl1 := hl.1
   refine Ev.step (fun k => ?_) (ih (i + 1) (by omega))
   simp only [Au.l0]
   rw [if_pos (by omega), if_pos (by omega), if_pos (by omega), rdR l i hil, clone_eq _ (hl.2 _ (List.getElem_mem hil)), wrap_succ (by omega), List.take_succ_eq_append_getElem hil]
   simp only [Option.bind_some]
   rw [if_pos (by rw [List.length_take]; omega)]
 exact Ev.congr (fun k => rfl) (key l.length 0 (by omega))
theorem implOwnBay_ev (h : Int) (l : List (List Int)) (hl : rowsOk l) : Ev (fun k => Bg.f k h l) (h, l) := by
 have key : ∀ (d i : Nat), i + d = l.length → Ev (fun k => Bg.l0 k l (l.length : Int) i h (l.take i)) (h, l) := by
  intro d
  induction d with
  | zero =>
   intro i hi
   refine Ev.step (f := fun _ => some (h, l)) (fun k => ?_) (Ev.now _)
   simp only [Bg.l0]; rw [if_neg (by omega), List.take_of_length_le (by omega)]
  | succ d ih =>
   intro i hi
   have hil : i < l.length := by omega
   have hl1 := hl.1
   refine Ev.step (fun k => ?_) (ih (i + 1) (by omega))
   simp only [Bg.l0]
   rw [if_pos (by omega), if_pos (by omega), if_pos (by omega), rdR l i hil, clone_eq _ (hl.2 _ (List.getElem_mem hil)), wrap_succ (by omega), List.take_succ_eq_append_getElem hil]
   simp only [Option.bind_some]
   rw [if_pos (by rw [List.length_take]; omega)]
 exact Ev.congr (fun k => rfl) (key l.length 0 (by omega))
theorem specOwnYard_ev (l : List (List Int)) (hl : rowsOk l) : Ev (fun k => spec_l5Own.f k l) l := by
 have key : ∀ (d i : Nat), i + d = l.length → Ev (fun k => spec_l5Own.l0 k i l (l.take i)) l := by
  intro d
  induction d with
  | zero =>
   intro i hi
   refine Ev.step (f := fun _ => some l) (fun k => ?_) (Ev.now _)
   simp only [spec_l5Own.l0]; rw [if_neg (by omega), List.take_of_length_le (by omega)]
  | succ d ih =>
   intro i hi
   have hil : i < l.length := by omega
   have hl1 := hl.1
   refine Ev.step (fun k => ?_) (ih (i + 1) (by omega))
   simp only [spec_l5Own.l0]
   rw [if_pos (by omega), if_pos (by omega), rdR l i hil, l1Own_eq _ (hl.2 _ (List.getElem_mem hil)), wrap_succ (by omega), List.take_succ_eq_append_getElem hil]
   simp only [Option.bind_some]
   rw [if_pos (by rw [List.length_take]; omega)]
 exact Ev.congr (fun k => rfl) (key l.length 0 (by omega))
theorem specOwnBay_ev (h : Int) (l : List (List Int)) (hl : rowsOk l) : Ev (fun k => spec_l9Own.f k h l) (h, l) := by
 have key : ∀ (d i : Nat), i + d = l.length → Ev (fun k => spec_l9Own.l0 k i h l h (l.take i)) (h, l) := by
  intro d
  induction d with
  | zero =>
   intro i hi
   refine Ev.step (f := fun _ => some (h, l)) (fun k => ?_) (Ev.now _)
   simp only [spec_l9Own.l0]; rw [if_neg (by omega), List.take_of_length_le (by omega)]
  | succ d ih =>
   intro i hi
   have hil : i < l.length := by omega
   have hl1 := hl.1
   refine Ev.step (fun k => ?_) (ih (i + 1) (by omega))
   simp only [spec_l9Own.l0]
   rw [if_pos (by omega), if_pos (by omega), rdR l i hil, l1Own_eq _ (hl.2 _ (List.getElem_mem hil)), wrap_succ (by omega), List.take_succ_eq_append_getElem hil]
   simp only [Option.bind_some]
   rw [if_pos (by rw [List.length_take]; omega)]
 exact Ev.congr (fun k => rfl) (key l.length 0 (by omega))
theorem implOwnTerm_ev (Y : List (List Int)) (h : Int) (S : List (List Int)) (hY : rowsOk Y) (hS : rowsOk S) : Ev (fun k => impl_ownTerminal.f k Y h S) (Y, h, S) :=
 Ev.bind (implOwnYard_ev Y hY) (Ev.bind (implOwnBay_ev h S hS) (Ev.now _))
theorem specOwnTerm_ev (Y : List (List Int)) (h : Int) (S : List (List Int)) (hY : rowsOk Y) (hS : rowsOk S) : Ev (fun k => spec_l24Own.f k Y h S) (Y, h, S) :=
 Ev.bind (specOwnYard_ev Y hY) (Ev.bind (specOwnBay_ev h S hS) (Ev.now _))
def termN (Y S : List (List Int)) : Nat := total Y + total S
theorem markTerm_at (Y : List (List Int)) (h : Int) (S : List (List Int)) (a : Nat) (ht : a + termN Y S ≤ 4611686018427387904) (hY : Y.length ≤ 4611686018427387904) (hS : S.length ≤ 4611686018427387904) :
  Ev (fun k => Dv.f k Y h S (a : Int)) (((a + termN Y S : Nat) : Int), Fa Y a, Fa S (a + total Y)) := by
 unfold termN at *
 rw [show a + (total Y + total S) = a + total Y + total S by omega]
 refine Ev.bind (markIntSS_at Y a (by omega) hY) ?_
 refine Ev.bind (markIntSS_at S (a + total Y) (by omega) hS) ?_
 exact Ev.now _
theorem Gj (m : Int) : ∀ (l : List (List Int)) (S : List Int), Dl m S l = true → ∀ s ∈ l, (s.length : Int) ≤ m
 | [], _, _ => by simp
 | s :: r, S, h => by
  unfold Dl at h
  by_cases c : (s.length : Int) > m
  ·rw [if_pos c] at h; cases h
  ·rw [if_neg c] at h
   cases g : Fv S s with
   | none => rw [g] at h; cases h
   | some S2 =>
    rw [g] at h
    intro x hx
    rcases List.mem_cons.1 hx with rfl | hx
    ·omega
    ·exact Gj m r S2 h x hx
theorem total_le (m : Nat) : ∀ (l : List (List Int)), (∀ s ∈ l, s.length ≤ m) → total l ≤ m * l.length
 | [], _ => by simp [total]
 | r :: l, h => by
  have := total_le m l (fun s hs => h s (by simp [hs])); have h1 := h r (by simp)
  rw [total, List.length_cons, Nat.mul_succ]; omega
theorem term_small (Y : List (List Int)) (h : Int) (S : List (List Int)) (ht : termOk Y h S = true) : Y.length ≤ 6 ∧ S.length ≤ 5 ∧ h ≤ 4 ∧ (∀ s ∈ Y, s.length ≤ 4) ∧ (∀ s ∈ S, s.length ≤ 4) ∧ termN Y S ≤ 44 := by
 unfold termOk yardOk bayOk at ht
 simp only [Bool.and_eq_true, decide_eq_true_eq] at ht
 obtain ⟨⟨⟨⟨a1, a2⟩, a3⟩, ⟨⟨⟨b0, b1⟩, b2, b3⟩, b4⟩⟩, _⟩ := ht
 have h1 : ∀ s ∈ Y, s.length ≤ 4 := fun s hs => by have := Gj 4 Y [] a3 s hs; omega
 have h2 : ∀ s ∈ S, s.length ≤ 4 := fun s hs => by have := Gj h S [] b4 s hs; omega
 have t1 := total_le 4 Y h1
 have t2 := total_le 4 S h2
 exact ⟨by omega, by omega, by omega, h1, h2, by unfold termN; omega⟩
theorem goodRow_iff : ∀ (s S S2 : List Int), S.Nodup → (Fv S s = some S2 ↔ (S2 = S ++ s ∧ (∀ n ∈ s, 1 ≤ n ∧ n ≤ 99) ∧ (S ++ s).Nodup))
 | [], S, S2, hS => by simp [Fv, hS]; exact ⟨fun h => h.symm, fun h => h.symm⟩
 | n :: r, S, S2, hS => by
  unfold Fv
  by_cases c : 1 ≤ n ∧ n ≤ 99 ∧ ¬ n ∈ S
  ·have hS' : (S ++ [n]).Nodup := by rw [List.nodup_append]; exact ⟨hS, by simp, fun a ha b hb e => c.2.2 (by simp at hb; rw [← hb, ← e]; exact ha)⟩
   rw [if_pos c, goodRow_iff r (S ++ [n]) S2 hS']
   simp only [List.append_assoc, List.singleton_append, List.mem_cons, forall_eq_or_imp]
   exact ⟨fun h => ⟨h.1, ⟨⟨c.1, c.2.1⟩, h.2.1⟩, h.2.2⟩, fun h => ⟨h.1, h.2.1.2, h.2.2⟩⟩
  ·rw [if_neg c]
   refine ⟨fun h => (by cases h), fun h => (c ⟨(h.2.1 n (by simp)).1, (h.2.1 n (by simp)).2, fun hn => ?_⟩).elim⟩
   have := h.2.2
   rw [List.nodup_append] at this
   exact this.2.2 n hn n (by simp) rfl
theorem goodRows_iff (m : Int) : ∀ (l : List (List Int)) (S : List Int), S.Nodup → (Dl m S l = true ↔ ((∀ s ∈ l, (s.length : Int) ≤ m) ∧ (∀ s ∈ l, ∀ n ∈ s, 1 ≤ n ∧ n ≤ 99) ∧ (S ++ l.flatten).Nodup))
 | [], S, hS => by simp [Dl, hS]
 | s :: r, S, hS => by
  unfold Dl
  by_cases c : (s.length : Int) > m
  ·rw [if_pos c]; exact ⟨fun h => (by cases h), fun h => absurd (h.1 s (by simp)) (by omega)⟩
  ·rw [if_neg c]
   cases g : Fv S s with
   | none =>
    refine ⟨fun h => (by cases h), fun h => ?_⟩
    have hn : (S ++ s).Nodup := by
     have := h.2.2; rw [List.flatten_cons, ← List.append_assoc, List.nodup_append] at this; exact this.1
    have := (goodRow_iff s S (S ++ s) hS).2 ⟨rfl, h.2.1 s (by simp), hn⟩
    rw [g] at this; cases this
   | some S2 =>
    obtain ⟨rfl, h1, h2⟩ := (goodRow_iff s S S2 hS).1 g
    simp only
    rw [goodRows_iff m r (S ++ s) h2]
    simp only [List.flatten_cons, List.mem_cons, forall_eq_or_imp, List.append_assoc]
    exact ⟨fun h => ⟨⟨by omega, h.1⟩, ⟨h1, h.2.1⟩, h.2.2⟩, fun h => ⟨h.1.2, h.2.1.2, h.2.2⟩⟩
theorem idxFrom_hit : ∀ (l : List Int) (k : Nat) (n : Int), 0 ≤ idxFrom k l n → ∃ j : Nat, idxFrom k l n = ((k + j : Nat) : Int) ∧ l[j]? = some n
 | [], k, n, h => by simp [idxFrom] at h
 | x :: r, k, n, h => by
  unfold idxFrom at h ⊢
  by_cases c : x = n
  ·rw [if_pos c]; exact ⟨0, rfl, by simp [c]⟩
  ·rw [if_neg c] at h ⊢
   obtain ⟨j, hj, hx⟩ := idxFrom_hit r (k + 1) n h
   exact ⟨j + 1, by rw [hj]; congr 1; omega, by simpa using hx⟩
theorem idxFrom_in : ∀ (l : List Int) (k : Nat) (n : Int), n ∈ l → 0 ≤ idxFrom k l n
 | [], k, n, h => by simp at h
 | x :: r, k, n, h => by
  unfold idxFrom
  by_cases c : x = n
  ·rw [if_pos c]; omega
  ·rw [if_neg c]
   rcases List.mem_cons.1 h with e | h
   ·exact absurd e.symm c
   ·exact idxFrom_in r (k + 1) n h
theorem find_hit : ∀ (l : List (List Int)) (k : Nat) (n : Int), 0 ≤ (Aq k l n).1 → ∃ (i j : Nat) (s : List Int), Aq k l n = (((k + i : Nat) : Int), (j : Int)) ∧ l[i]? = some s ∧ s[j]? = some n
 | [], k, n, h => by simp [Aq] at h
 | x :: r, k, n, h => by
  unfold Aq at h ⊢
  by_cases c : idxFrom 0 x n ≥ 0
  ·rw [if_pos c]
   obtain ⟨j, hj, hx⟩ := idxFrom_hit x 0 n c
   exact ⟨0, j, x, by rw [hj]; simp, rfl, hx⟩
  ·rw [if_neg c] at h ⊢
   obtain ⟨i, j, s, hj, hs, hx⟩ := find_hit r (k + 1) n h
   exact ⟨i + 1, j, s, by rw [hj]; congr 2; omega, by simpa using hs, hx⟩
theorem find_in : ∀ (l : List (List Int)) (k : Nat) (n : Int), n ∈ l.flatten → 0 ≤ (Aq k l n).1
 | [], k, n, h => by simp at h
 | x :: r, k, n, h => by
  unfold Aq
  by_cases c : idxFrom 0 x n ≥ 0
  ·rw [if_pos c]; omega
  ·rw [if_neg c]
   rw [List.flatten_cons, List.mem_append] at h
   rcases h with h | h
   ·exact absurd (idxFrom_in x 0 n h) c
   ·exact find_in r (k + 1) n h
theorem place_one {l : List (List Int)} (hn : l.flatten.Nodup) {i j i' j' : Nat} {s s' : List Int} {n : Int} (h1 : l[i]? = some s) (h2 : s[j]? = some n) (h1' : l[i']? = some s') (h2' : s'[j']? = some n) : i = i' ∧ j = j' ∧ s = s' := by
 have hp := List.pairwise_flatten.1 hn
 have hi : i = i' := by
  obtain ⟨a, ea⟩ := List.getElem?_eq_some_iff.1 h1
  obtain ⟨b, eb⟩ := List.getElem?_eq_some_iff.1 h1'
  have hq := List.pairwise_iff_getElem.1 hp.2
  rcases Nat.lt_trichotomy i i' with c | c | c
  ·exact absurd rfl (hq i i' a b c n (by rw [ea]; exact List.mem_of_getElem? h2) n (by rw [eb]; exact List.mem_of_getElem? h2'))
  ·exact c
  ·exact absurd rfl (hq i' i b a c n (by rw [eb]; exact List.mem_of_getElem? h2') n (by rw [ea]; exact List.mem_of_getElem? h2))
 subst hi
 obtain rfl : s = s' := Option.some.inj (h1.symm.trans h1')
 obtain ⟨a, ea⟩ := List.getElem?_eq_some_iff.1 h2
 obtain ⟨b, eb⟩ := List.getElem?_eq_some_iff.1 h2'
 have hs := List.pairwise_iff_getElem.1 (hp.1 s (List.mem_of_getElem? h1))
 refine ⟨rfl, ?_, rfl⟩
 rcases Nat.lt_trichotomy j j' with c | c | c
 ·exact absurd (ea.trans eb.symm) (hs j j' a b c)
 ·exact c
 ·exact absurd (eb.trans ea.symm) (hs j' j b a c)
theorem topIs_iff (b : Int) (s : List Int) : topIs b s = true ↔ (0 < s.length ∧ s[s.length - 1]? = some b) := by
 unfold topIs rd
 by_cases c : 0 < s.length
 ·have e : ((s.length : Int) - 1).toNat = s.length - 1 := by omega
  rw [e]
  simp [c, List.getD_eq_getElem?_getD, List.getElem?_eq_getElem (show s.length - 1 < s.length by omega)]
 ·simp [c]
theorem find_top {l : List (List Int)} (hn : l.flatten.Nodup) {i : Nat} {s : List Int} {b : Int} (hi : l[i]? = some s) (ht : topIs b s = true) : Aq 0 l b = ((i : Int), (s.length : Int) - 1) ∧ idxRow (topIs b) l = (i : Int) := by
 obtain ⟨h0, hl⟩ := (topIs_iff b s).1 ht
 constructor
 ·obtain ⟨i', j', s', he, h1, h2⟩ := find_hit l 0 b (find_in l 0 b (List.mem_flatten.2 ⟨s, List.mem_of_getElem? hi, List.mem_of_getElem? hl⟩))
  obtain ⟨rfl, rfl, rfl⟩ := place_one hn hi hl h1 h2
  rw [he]
  congr 1
  ·simp
  ·omega
 ·obtain ⟨hil, he⟩ := List.getElem?_eq_some_iff.1 hi
  have e : l.findIdx? (topIs b) = some i := by
   rw [List.findIdx?_eq_some_iff_getElem]
   refine ⟨hil, by rw [he]; exact ht, fun j hj => ?_⟩
   cases c : topIs b l[j] with
   | false => simp
   | true =>
    have c2 := (topIs_iff b _).1 c
    have := place_one hn hi hl (List.getElem?_eq_getElem (by omega)) c2.2
    omega
  simp [idxRow, e]
theorem idxRow_at (b : Int) (l : List (List Int)) (h : ¬ idxRow (topIs b) l < 0) : ∃ (i : Nat) (s : List Int), idxRow (topIs b) l = (i : Int) ∧ l[i]? = some s ∧ topIs b s = true := by
 unfold idxRow at h ⊢
 cases e : l.findIdx? (topIs b) with
 | none => rw [e] at h; exact absurd (by decide) h
 | some n =>
  rw [List.findIdx?_eq_some_iff_getElem] at e
  obtain ⟨hn, hp, _⟩ := e
  exact ⟨n, l[n], rfl, List.getElem?_eq_getElem hn, hp⟩
theorem find_low {l : List (List Int)} {b : Int} (hx : idxRow (topIs b) l < 0) (h : 0 ≤ (Aq 0 l b).1) : (Aq 0 l b).2 ≠ ((rd_L1 l (Aq 0 l b).1).length : Int) - 1 := by
 obtain ⟨i, j, s, he, h1, h2⟩ := find_hit l 0 b h
 rw [he]
 simp only [Nat.zero_add]
 intro hc
 have er : rd_L1 l (i : Int) = s := by simp [rd_L1, List.getD_eq_getElem?_getD, h1]
 rw [er] at hc
 obtain ⟨a, ea⟩ := List.getElem?_eq_some_iff.1 h2
 have ht : topIs b s = true := (topIs_iff b s).2 ⟨by omega, by rw [show s.length - 1 = j by omega]; exact h2⟩
 unfold idxRow at hx
 cases e : l.findIdx? (topIs b) with
 | some n => rw [e] at hx; simp at hx; omega
 | none =>
  rw [List.findIdx?_eq_none_iff] at e
  rw [e s (List.mem_of_getElem? h1)] at ht; cases ht
theorem rdL_nat (l : List (List Int)) (i : Nat) : rd_L1 l (i : Int) = l.getD i [] := rfl
theorem rdL_some {l : List (List Int)} {i : Nat} {s : List Int} (h : l[i]? = some s) : rd_L1 l (i : Int) = s := by simp [rd_L1, List.getD_eq_getElem?_getD, h]
theorem len_cut (l : List (List Int)) (i : Int) : (cutRow l i).length = l.length := by simp [cutRow]
abbrev Rows := List (List Int)
def finI (Y : Rows) (h : Int) (B : Rows) (a : Int) : Rows × Int × Rows × Int × Bool := if termOk Y h B = true then (Y, h, B, a, true) else ([], 0, [], 0, false)
/-- The program's step. -/
def makeI (Y : Rows) (h : Int) (B : Rows) (K b dd : Int) : Rows × Int × Rows × Int × Bool :=
 if K = 1 then (if idxRow (topIs b) Y < 0 then ([], 0, [], 0, false) else if inRows Y dd = true then (if dd = idxRow (topIs b) Y then ([], 0, [], 0, false) else finI (putRow (cutRow Y (idxRow (topIs b) Y)) dd b) h B (idxRow (topIs b) Y)) else ([], 0, [], 0, false))
 else if K = 2 then (if idxRow (topIs b) Y < 0 then ([], 0, [], 0, false) else if inRows B dd = true then finI (cutRow Y (idxRow (topIs b) Y)) h (putRow B dd b) (idxRow (topIs b) Y) else ([], 0, [], 0, false))
 else if K = 3 then (if idxRow (topIs b) B < 0 then ([], 0, [], 0, false) else if inRows Y dd = true then finI (putRow Y dd b) h (cutRow B (idxRow (topIs b) B)) (idxRow (topIs b) B) else ([], 0, [], 0, false))
 else ([], 0, [], 0, false)
def finS (Y : Rows) (h : Int) (B : Rows) : Rows × Int × Rows × Bool := if termOk Y h B = true then (Y, h, B, true) else ([], 0, [], false)
/-- The last of its row is found. -/
def En (l : Rows) (q : Int × Int) : Prop := 0 ≤ q.1 ∧ q.2 = ((rd_L1 l q.1).length : Int) - 1
instance (l : Rows) (q : Int × Int) : Decidable (En l q) := inferInstanceAs (Decidable (_ ∧ _))
/-- The reference's step. -/
def makeS (Y : Rows) (h : Int) (B : Rows) (K b dd : Int) : Rows × Int × Rows × Bool :=
 if K = 3 then (if En B (Aq 0 B b) then (if inRows Y dd = true then finS (putRow Y dd b) h (cutRow B (Aq 0 B b).1) else ([], 0, [], false)) else ([], 0, [], false))
 else if En Y (Aq 0 Y b) then (if K = 1 then (if dd = (Aq 0 Y b).1 then ([], 0, [], false) else if inRows Y dd = true then finS (putRow (cutRow Y (Aq 0 Y b).1) dd b) h B else ([], 0, [], false))
  else if K = 2 then (if inRows B dd = true then finS (cutRow Y (Aq 0 Y b).1) h (putRow B dd b) else ([], 0, [], false)) else ([], 0, [], false)) else ([], 0, [], false)
def four (r : Rows × Int × Rows × Int × Bool) : Rows × Int × Rows × Bool := (r.1, r.2.1, r.2.2.1, r.2.2.2.2)
theorem found_idx {l : Rows} (hn : l.flatten.Nodup) (b : Int) : (En l (Aq 0 l b) ∧ ¬ idxRow (topIs b) l < 0 ∧ (Aq 0 l b).1 = idxRow (topIs b) l) ∨ (¬ En l (Aq 0 l b) ∧ idxRow (topIs b) l < 0) := by
 by_cases c : idxRow (topIs b) l < 0
 ·exact .inr ⟨fun h => find_low c h.1 h.2, c⟩
 ·obtain ⟨i, s, hi, hs, ht⟩ := idxRow_at b l c
  obtain ⟨h1, h2⟩ := find_top hn hs ht
  exact .inl ⟨⟨by rw [h1]; simp, by rw [h1]; simp only; rw [rdL_some hs]⟩, c, by rw [h1, h2]⟩
theorem four_fin (Y : Rows) (h : Int) (B : Rows) (a : Int) : four (finI Y h B a) = finS Y h B := by
 unfold finI finS; by_cases c : termOk Y h B = true
 ·rw [if_pos c, if_pos c]; rfl
 ·rw [if_neg c, if_neg c]; rfl
theorem make_eq {Y : Rows} {h : Int} {B : Rows} (hY : Y.flatten.Nodup) (hB : B.flatten.Nodup) (K b dd : Int) : makeS Y h B K b dd = four (makeI Y h B K b dd) := by
 unfold makeS makeI
 by_cases k3 : K = 3
 ·subst k3
  rw [if_pos (rfl : (3 : Int) = 3), if_neg (show ¬ (3 : Int) = 1 by decide), if_neg (show ¬ (3 : Int) = 2 by decide), if_pos (rfl : (3 : Int) = 3)]
  rcases found_idx hB b with ⟨h1, h2, h3⟩ | ⟨h1, h2⟩
  ·rw [if_pos h1, if_neg h2, h3]
   by_cases c : inRows Y dd = true
   ·rw [if_pos c, if_pos c, four_fin]
   ·rw [if_neg c, if_neg c]; rfl
  ·rw [if_neg h1, if_pos h2]; rfl
 ·rw [if_neg k3]
  rcases found_idx hY b with ⟨h1, h2, h3⟩ | ⟨h1, h2⟩
  ·rw [if_pos h1, h3]
   by_cases k1 : K = 1
   ·rw [if_pos k1, if_pos k1, if_neg h2]
    by_cases c : inRows Y dd = true
    ·rw [if_pos c, if_pos c]
     by_cases c2 : dd = idxRow (topIs b) Y
     ·rw [if_pos c2, if_pos c2]; rfl
     ·rw [if_neg c2, if_neg c2, four_fin]
    ·rw [if_neg c, if_neg c]; split <;> rfl
   ·rw [if_neg k1, if_neg k1]
    by_cases k2 : K = 2
    ·rw [if_pos k2, if_pos k2, if_neg h2]
     by_cases c : inRows B dd = true
     ·rw [if_pos c, if_pos c, four_fin]
     ·rw [if_neg c, if_neg c]; rfl
    ·rw [if_neg k2, if_neg k2, if_neg k3]; rfl
  ·rw [if_neg h1]
   by_cases k1 : K = 1
   ·rw [if_pos k1, if_pos h2]; rfl
   ·rw [if_neg k1]
    by_cases k2 : K = 2
    ·rw [if_pos k2, if_pos h2]; rfl
    ·rw [if_neg k2, if_neg k3]; rfl
/-- What is known of a step that was made. -/
theorem makeI_made {Y : Rows} {h : Int} {B : Rows} {K b dd : Int} {Y2 : Rows} {h2 : Int} {B2 : Rows} {a : Int} (e : makeI Y h B K b dd = (Y2, h2, B2, a, true)) :
    termOk Y2 h2 B2 = true ∧ h2 = h ∧ ∃ i j : Nat, a = (i : Int) ∧ dd = (j : Int) ∧
      ((K = 1 ∧ i ≠ j ∧ j < Y.length ∧ i < Y.length ∧ topIs b (rd_L1 Y (i : Int)) = true ∧ Y2 = putRow (cutRow Y (i : Int)) (j : Int) b ∧ B2 = B) ∨
       (K = 2 ∧ j < B.length ∧ i < Y.length ∧ topIs b (rd_L1 Y (i : Int)) = true ∧ Y2 = cutRow Y (i : Int) ∧ B2 = putRow B (j : Int) b) ∨
       (K = 3 ∧ j < Y.length ∧ i < B.length ∧ topIs b (rd_L1 B (i : Int)) = true ∧ Y2 = putRow Y (j : Int) b ∧ B2 = cutRow B (i : Int))) := by
  have fin : ∀ {Y1 : Rows} {h1 : Int} {B1 : Rows} {a1 : Int}, finI Y1 h1 B1 a1 = (Y2, h2, B2, a, true) → termOk Y2 h2 B2 = true ∧ h2 = h1 ∧ a = a1 ∧ Y2 = Y1 ∧ B2 = B1 := by
    intro Y1 h1 B1 a1 hf
    unfold finI at hf
    by_cases c : termOk Y1 h1 B1 = true
    · rw [if_pos c] at hf; cases hf; exact ⟨c, rfl, rfl, rfl, rfl⟩
    · rw [if_neg c] at hf; cases hf
  have lt : ∀ {l : Rows}, inRows l dd = true → ∃ j : Nat, dd = (j : Int) ∧ j < l.length := by
    intro l hl
    unfold inRows at hl
    simp only [Bool.and_eq_true, decide_eq_true_eq] at hl
    exact ⟨dd.toNat, by omega, by omega⟩
  have ix : ∀ {l : Rows}, ¬ idxRow (topIs b) l < 0 → ∃ i : Nat, idxRow (topIs b) l = (i : Int) ∧ i < l.length ∧ topIs b (rd_L1 l (i : Int)) = true := by
    intro l hl
    obtain ⟨i, s, h1, h2, h3⟩ := idxRow_at b l hl
    exact ⟨i, h1, (List.getElem?_eq_some_iff.1 h2).1, by rw [rdL_some h2]; exact h3⟩
  unfold makeI at e
  by_cases k1 : K = 1
  · rw [if_pos k1] at e
    by_cases c : idxRow (topIs b) Y < 0
    · rw [if_pos c] at e; cases e
    · rw [if_neg c] at e
      by_cases c2 : inRows Y dd = true
      · rw [if_pos c2] at e
        by_cases c3 : dd = idxRow (topIs b) Y
        · rw [if_pos c3] at e; cases e
        · rw [if_neg c3] at e
          obtain ⟨i, h1, h2, h3⟩ := ix c
          obtain ⟨j, rfl, h5⟩ := lt c2
          rw [h1] at e c3
          obtain ⟨f1, f2, f3, f4, f5⟩ := fin e
          exact ⟨f1, f2, i, j, f3, rfl, .inl ⟨k1, fun z => c3 (by rw [z]), h5, h2, h3, f4, f5⟩⟩
      · rw [if_neg c2] at e; cases e
  · rw [if_neg k1] at e
    by_cases k2 : K = 2
    · rw [if_pos k2] at e
      by_cases c : idxRow (topIs b) Y < 0
      · rw [if_pos c] at e; cases e
      · rw [if_neg c] at e
        by_cases c2 : inRows B dd = true
        · rw [if_pos c2] at e
          obtain ⟨i, h1, h2, h3⟩ := ix c
          obtain ⟨j, rfl, h5⟩ := lt c2
          rw [h1] at e
          obtain ⟨f1, f2, f3, f4, f5⟩ := fin e
          exact ⟨f1, f2, i, j, f3, rfl, .inr (.inl ⟨k2, h5, h2, h3, f4, f5⟩)⟩
        · rw [if_neg c2] at e; cases e
    · rw [if_neg k2] at e
      by_cases k3 : K = 3
      · rw [if_pos k3] at e
        by_cases c : idxRow (topIs b) B < 0
        · rw [if_pos c] at e; cases e
        · rw [if_neg c] at e
          by_cases c2 : inRows Y dd = true
          · rw [if_pos c2] at e
            obtain ⟨i, h1, h2, h3⟩ := ix c
            obtain ⟨j, rfl, h5⟩ := lt c2
            rw [h1] at e
            obtain ⟨f1, f2, f3, f4, f5⟩ := fin e
            exact ⟨f1, f2, i, j, f3, rfl, .inr (.inr ⟨k3, h5, h2, h3, f4, f5⟩)⟩
          · rw [if_neg c2] at e; cases e
      · rw [if_neg k3] at e; cases e
theorem made_from {Y : Rows} {h : Int} {B : Rows} {K b dd : Int} {Y2 : Rows} {h2 : Int} {B2 : Rows} {a : Int} (hY : Y.flatten.Nodup) (hB : B.flatten.Nodup) (e : makeI Y h B K b dd = (Y2, h2, B2, a, true)) :
  (K = 1 ∨ K = 2 ∨ K = 3) ∧ (K ≠ 3 → a = (Aq 0 Y b).1) ∧ (K = 3 → a = (Aq 0 B b).1) ∧ 0 ≤ a ∧ 0 ≤ dd ∧ (K ≠ 2 → dd < (Y.length : Int)) ∧ (K = 2 → dd < (B.length : Int)) ∧ (b ∈ Y.flatten ∨ b ∈ B.flatten) := by
 obtain ⟨_, rfl, i, j, rfl, rfl, hc⟩ := makeI_made e
 have at_ : ∀ {l : Rows}, i < l.length → l[i]? = some (rd_L1 l (i : Int)) := fun {l} hl => by rw [rdL_nat, List.getD_eq_getElem?_getD, List.getElem?_eq_getElem hl]; rfl
 have mem : ∀ {l : Rows}, i < l.length → topIs b (rd_L1 l (i : Int)) = true → b ∈ l.flatten := fun {l} hl ht => List.mem_flatten.2 ⟨_, List.mem_of_getElem? (at_ hl), List.mem_of_getElem? ((topIs_iff b _).1 ht).2⟩
 rcases hc with ⟨rfl, hne, hj, hi, ht, rfl, rfl⟩ | ⟨rfl, hj, hi, ht, rfl, rfl⟩ | ⟨rfl, hj, hi, ht, rfl, rfl⟩
 ·exact ⟨.inl rfl, fun _ => by rw [(find_top hY (at_ hi) ht).1], fun z => absurd z (by decide), by omega, by omega, fun _ => by omega, fun z => absurd z (by decide), .inl (mem hi ht)⟩
 ·exact ⟨.inr (.inl rfl), fun _ => by rw [(find_top hY (at_ hi) ht).1], fun z => absurd z (by decide), by omega, by omega, fun z => absurd rfl z, fun _ => by omega, .inl (mem hi ht)⟩
 ·exact ⟨.inr (.inr rfl), fun z => absurd rfl z, fun _ => by rw [(find_top hB (at_ hi) ht).1], by omega, by omega, fun _ => by omega, fun z => absurd z (by decide), .inr (mem hi ht)⟩
end Go.Proofs.Ytnggfglmjdiaaaa.X

namespace Go.Proofs.Ytnggfglmjdiaaaa.X
open Go.RowKit Go.Proofs.YtnggfglmjdiaaaaW.PrintWords Go.Proofs.YtnggfglmjdiaaaaW.PrintLast Go.Proofs.YtnggfglmjdiaaaaW.PrintMore
attribute [local go_sem] max2_int min2_int max_two min_two max_three min_three max_four min_four
def Ew.f (k : Nat) (l0_0 : List (List Int)) (a0_1 : Int) (l0_2 : List (List Int)) (a1_0 : Int) (a1_1 : Int) (a1_2 : Int) : Option ((List (List Int)) × Int × (List (List Int)) × Bool) := (Ac.f k l0_0 a0_1 l0_2).bind fun t332 => (if t332 = true then ((spec_l24Make.f k l0_0 a0_1 l0_2 a1_0 a1_1 a1_2).bind fun bt333 => (some (bt333.1, bt333.2.1, bt333.2.2.1, bt333.2.2.2))) else (some (([] : List (List Int)), 0, ([] : List (List Int)), false)))
theorem Ew.mono : ∀ a0 a1 a2 a3 a4 a5 k, LeO (Ew.f k a0 a1 a2 a3 a4 a5) (Ew.f (k + 1) a0 a1 a2 a3 a4 a5) := by
 intro a0 a1 a2 a3 a4 a5 k
 unfold Ew.f
 repeat' first
   | (with_reducible exact Ac.mono _ _ _ _)
   | (with_reducible exact spec_l24Make.mono _ _ _ _ _ _ _)
   | (with_reducible exact LeO.refl _)
   | (with_reducible exact LeO.none _)
   | (with_reducible refine LeO.ite ?_ ?_)
   | (with_reducible refine LeO.bind ?_ (fun _ => ?_))
   | exact Ac.mono _ _ _ _
   | exact spec_l24Make.mono _ _ _ _ _ _ _
   | exact LeO.none _
   | refine LeO.ite ?_ ?_
   | refine LeO.bind ?_ (fun _ => ?_)
set_option maxHeartbeats 8000000 in
set_option maxRecDepth 100000 in
theorem Ew.calls (k : Nat) (A0_0 : Option Addr) (c0_0 : Nat) (l0_0 : List (List Int)) (a0_1 : Int) (A0_2 : Option Addr) (c0_2 : Nat) (l0_2 : List (List Int)) (a1_0 : Int) (a1_1 : Int) (a1_2 : Int) (r1 : List (List Int)) (r2 : Int) (r3 : List (List Int)) (r4 : Bool) (w : World) (hr0_0 : Kd.C (Kd.slice 3 (Kd.int .i64)) w A0_0 l0_0.length l0_0) (hc0_0 : l0_0.length ≤ c0_0) (hr0_2 : Kd.C (Kd.slice 3 (Kd.int .i64)) w A0_2 l0_2.length l0_2) (hc0_2 : l0_2.length ≤ c0_2) (h : Ew.f k l0_0 a0_1 l0_2 a1_0 a1_1 a1_2 = some (r1, r2, r3, r4)) :
  Calls Try.prog 21 #[.agg #[.slice A0_0 l0_0.length c0_0, .int .i64 a0_1, .slice A0_2 l0_2.length c0_2], .agg #[.int .i64 a1_0, .int .i64 a1_1, .int .i64 a1_2]] w fun e w' => ∃ v0_ v2_ : Value, e = .returned (.tuple #[.agg #[v0_, .int .i64 r2, v2_], .bool r4]) ∧ Kd.S (Kd.slice 3 (Kd.int .i64)) 73 w' w.heap.size (fun k_ => some k_ ≠ (v2_ : Value).ownBlock) v0_ r1 ∧ Kd.S (Kd.slice 3 (Kd.int .i64)) 73 w' w.heap.size (fun k_ => some k_ ≠ (v0_ : Value).ownBlock) v2_ r3 ∧ Below w.heap.size w w' := by
 have hu34 := Try.underlying34
 have hu43 := Try.underlying43
 have HR0_0 := Aside0.mk hr0_0
 have HC0_0 := Aside0.mk hc0_0
 clear hr0_0 hc0_0
 have HR0_2 := Aside0.mk hr0_2
 have HC0_2 := Aside0.mk hc0_2
 clear hr0_2 hc0_2
 have HB := Aside0.mk (Below.refl w.heap.size w)
 have H : ((Ac.f k l0_0 a0_1 l0_2).bind fun t332 => (if t332 = true then ((spec_l24Make.f k l0_0 a0_1 l0_2 a1_0 a1_1 a1_2).bind fun bt333 => (some (bt333.1, bt333.2.1, bt333.2.2.1, bt333.2.2.2))) else (some (([] : List (List Int)), 0, ([] : List (List Int)), false)))) = some (r1, r2, r3, r4) := h
 clear h
 replace H := Option.bind_eq_some_iff.mp H
 obtain ⟨t332, A30, H⟩ := H
 try dsimp only at H
 have A3 := Aside0.mk A30
 clear A30
 by_cases c4 : t332 = true
 ·subst c4
  have H1 : ((spec_l24Make.f k l0_0 a0_1 l0_2 a1_0 a1_1 a1_2).bind fun bt333 => (some (bt333.1, bt333.2.1, bt333.2.2.1, bt333.2.2.2))) = some (r1, r2, r3, r4) := by rw [if_pos rfl] at H; exact H
  clear H
  have H := H1
  clear H1
  replace H := Option.bind_eq_some_iff.mp H
  obtain ⟨⟨t333, t336, t337, t340⟩, A50, H⟩ := H
  try dsimp only at H
  have A5 := Aside0.mk A50
  clear A50
  simp only [Option.some.injEq, Prod.mk.injEq] at H
  obtain ⟨rfl, rfl, rfl, rfl⟩ := H
  go_enter Try.func21, Try.ntmps21
  go_wp2_with (first | ((with_reducible refine gate_dst (N := 2) rfl ?_); refine box_event ?hg (N := 2) ?hd (cs := #[.slice A0_0 l0_0.length c0_0, .int .i64 a0_1, .slice A0_2 l0_2.length c0_2]) (t := 34) ?hr ?_; (case hd => rfl); (case hg => rfl); (case hr => first | (go_simp; done) | (go_simp; rfl)); intro gb0 hg w6 hbox hb; have n0_ := Aside0.mk (below_step Yb_ hb); have n1_ := Aside0.mk (hbox); have n2_ := Aside0.mk ((by rw [hg]; exact (below_size Yb_) : w.heap.size ≤ gb0)); have n3_ := Aside0.mk ((by rw [hg]; exact (below_size Yb_) : w.heap.size ≤ gb0)); clear HB; have HB := n0_; have BK0 := n1_; have GW0 := n2_; have GE0 := n3_; clear n0_ n1_ n2_ n3_; clear hb hbox hg) | ((with_reducible refine gate_dst (N := 3) rfl ?_); refine box_event ?hg (N := 3) ?hd (cs := #[.int .i64 a1_0, .int .i64 a1_1, .int .i64 a1_2]) (t := 43) ?hr ?_; (case hd => rfl); (case hg => rfl); (case hr => first | (go_simp; done) | (go_simp; rfl)); intro gb1 hg w7 hbox hb; have n0_ := Aside0.mk (blk_below (g := gb0) (o := .cells #[.slice A0_0 l0_0.length c0_0, .int .i64 a0_1, .slice A0_2 l0_2.length c0_2] 34 (0, 0)) Yc_ hb); have n1_ := Aside0.mk (below_step Yd_ hb); have n2_ := Aside0.mk (hbox); have n3_ := Aside0.mk ((by rw [hg]; exact (below_size Yd_) : w.heap.size ≤ gb1)); have n4_ := Aside0.mk ((by rw [hg]; exact (below_size Yd_) : w.heap.size ≤ gb1)); have n5_ := Aside0.mk ((by rw [hg]; exact Nat.ne_of_lt (blk_lt (g := gb0) (o := .cells #[.slice A0_0 l0_0.length c0_0, .int .i64 a0_1, .slice A0_2 l0_2.length c0_2] 34 (0, 0)) Yc_) : gb0 ≠ gb1)); have n6_ := Aside0.mk ((by rw [hg]; exact Nat.ne_of_gt (blk_lt (g := gb0) (o := .cells #[.slice A0_0 l0_0.length c0_0, .int .i64 a0_1, .slice A0_2 l0_2.length c0_2] 34 (0, 0)) Yc_) : gb1 ≠ gb0)); clear BK0; clear HB; have BK0 := n0_; have HB := n1_; have BK1 := n2_; have GW1 := n3_; have GE1 := n4_; have NB0_1 := n5_; have NB1_0 := n6_; clear n0_ n1_ n2_ n3_ n4_ n5_ n6_; clear hb hbox hg) | ((with_reducible refine gate_dst (N := 4) rfl ?_); refine box_event ?hg (N := 4) ?hd (cs := #[.slice none 0 0, .int .i64 0, .slice none 0 0]) (t := 34) ?hr ?_; (case hd => rfl); (case hg => rfl); (case hr => first | (go_simp; done) | (go_simp; rfl)); intro gb2 hg w8 hbox hb; have n0_ := Aside0.mk (blk_below (g := gb0) (o := .cells #[.slice A0_0 l0_0.length c0_0, .int .i64 a0_1, .slice A0_2 l0_2.length c0_2] 34 (0, 0)) Yc_ hb); have n1_ := Aside0.mk (blk_below (g := gb1) (o := .cells #[.int .i64 a1_0, .int .i64 a1_1, .int .i64 a1_2] 43 (0, 0)) Yi_ hb); have n2_ := Aside0.mk (below_step Yf_ hb); have n3_ := Aside0.mk (hbox); have n4_ := Aside0.mk ((by rw [hg]; exact (below_size Yf_) : w.heap.size ≤ gb2)); have n5_ := Aside0.mk ((by rw [hg]; exact (below_size Yf_) : w.heap.size ≤ gb2)); have n6_ := Aside0.mk ((by rw [hg]; exact Nat.ne_of_lt (blk_lt (g := gb0) (o := .cells #[.slice A0_0 l0_0.length c0_0, .int .i64 a0_1, .slice A0_2 l0_2.length c0_2] 34 (0, 0)) Yc_) : gb0 ≠ gb2)); have n7_ := Aside0.mk ((by rw [hg]; exact Nat.ne_of_gt (blk_lt (g := gb0) (o := .cells #[.slice A0_0 l0_0.length c0_0, .int .i64 a0_1, .slice A0_2 l0_2.length c0_2] 34 (0, 0)) Yc_) : gb2 ≠ gb0)); have n8_ := Aside0.mk ((by rw [hg]; exact Nat.ne_of_lt (blk_lt (g := gb1) (o := .cells #[.int .i64 a1_0, .int .i64 a1_1, .int .i64 a1_2] 43 (0, 0)) Yi_) : gb1 ≠ gb2)); have n9_ := Aside0.mk ((by rw [hg]; exact Nat.ne_of_gt (blk_lt (g := gb1) (o := .cells #[.int .i64 a1_0, .int .i64 a1_1, .int .i64 a1_2] 43 (0, 0)) Yi_) : gb2 ≠ gb1)); clear BK0; clear BK1; clear HB; have BK0 := n0_; have BK1 := n1_; have HB := n2_; have BK2 := n3_; have GW2 := n4_; have GE2 := n5_; have NB0_2 := n6_; have NB2_0 := n7_; have NB1_2 := n8_; have NB2_1 := n9_; clear n0_ n1_ n2_ n3_ n4_ n5_ n6_ n7_ n8_ n9_; clear hb hbox hg; have hnb9 := NB0_1.out; have hnc9 := NB1_0.out; have hnb10 := NB0_2.out; have hnc10 := NB2_0.out; have hcz11_0 : w8.cell? ⟨gb0, 0, none⟩ = some (.slice A0_0 l0_0.length c0_0) := (blk_cell BK0.out 0).trans rfl; have hcz11_1 : w8.cell? ⟨gb0, 1, none⟩ = some (.int .i64 a0_1) := (blk_cell BK0.out 1).trans rfl; have hcz11_2 : w8.cell? ⟨gb0, 2, none⟩ = some (.slice A0_2 l0_2.length c0_2) := (blk_cell BK0.out 2).trans rfl; have hfz11_0 := blk_frozen BK0.out 0; have hfz11_1 := blk_frozen BK0.out 1; have hfz11_2 := blk_frozen BK0.out 2) | ((with_reducible refine gate_callee (f := 39) rfl ?_); refine goesL_ (some 7) rfl rfl Try.func39 Yba_ rfl #[.agg #[.slice A0_0 l0_0.length c0_0, .int .i64 a0_1, .slice A0_2 l0_2.length c0_2]] rfl Ye_ ?_; (with_reducible refine (Ac.calls k _ _ l0_0 a0_1 _ _ l0_2 true _ ?side1 ?side2 ?side3 ?side4 A3.out).mono ?_); (case side1 => repeat (first | exact (Kd.C_below HR0_0.out HB.out) | (with_reducible refine Kd.C_alloc ?_ _) | (with_reducible refine Kd.C_drewN ?_ _) | (with_reducible refine Kd.C_drew ?_))); (case side2 => exact HC0_0.out); (case side3 => repeat (first | exact (Kd.C_below HR0_2.out HB.out) | (with_reducible refine Kd.C_alloc ?_ _) | (with_reducible refine Kd.C_drewN ?_ _) | (with_reducible refine Kd.C_drew ?_))); (case side4 => exact HC0_2.out); rintro e w12 ⟨rfl, hb⟩; refine ⟨_, rfl, ?_⟩; have n0_ := Aside0.mk (blk_below (g := gb0) (o := .cells #[.slice A0_0 l0_0.length c0_0, .int .i64 a0_1, .slice A0_2 l0_2.length c0_2] 34 (0, 0)) Yc_ hb); have n1_ := Aside0.mk (blk_below (g := gb1) (o := .cells #[.int .i64 a1_0, .int .i64 a1_1, .int .i64 a1_2] 43 (0, 0)) Yi_ hb); have n2_ := Aside0.mk (blk_below (g := gb2) (o := .cells #[.slice none 0 0, .int .i64 0, .slice none 0 0] 34 (0, 0)) Ybd_ hb); have n3_ := Aside0.mk (below_step Yh_ hb); clear BK0; clear BK1; clear BK2; clear HB; have BK0 := n0_; have BK1 := n1_; have BK2 := n2_; have HB := n3_; clear n0_ n1_ n2_ n3_; (try clear hb); (try clear hb2); (try clear hk); (try clear hi); have hcz13_0 : w12.cell? ⟨gb0, 0, none⟩ = some (.slice A0_0 l0_0.length c0_0) := (blk_cell BK0.out 0).trans rfl; have hcz13_1 : w12.cell? ⟨gb0, 1, none⟩ = some (.int .i64 a0_1) := (blk_cell BK0.out 1).trans rfl; have hcz13_2 : w12.cell? ⟨gb0, 2, none⟩ = some (.slice A0_2 l0_2.length c0_2) := (blk_cell BK0.out 2).trans rfl; have hfz13_0 := blk_frozen BK0.out 0; have hfz13_1 := blk_frozen BK0.out 1; have hfz13_2 := blk_frozen BK0.out 2; have hnb14 := NB1_2.out; have hnc14 := NB2_1.out; have hcz15_0 : w12.cell? ⟨gb1, 0, none⟩ = some (.int .i64 a1_0) := (blk_cell BK1.out 0).trans rfl; have hcz15_1 : w12.cell? ⟨gb1, 1, none⟩ = some (.int .i64 a1_1) := (blk_cell BK1.out 1).trans rfl; have hcz15_2 : w12.cell? ⟨gb1, 2, none⟩ = some (.int .i64 a1_2) := (blk_cell BK1.out 2).trans rfl; have hfz15_0 := blk_frozen BK1.out 0; have hfz15_1 := blk_frozen BK1.out 1; have hfz15_2 := blk_frozen BK1.out 2) | ((with_reducible refine gate_callee (f := 51) rfl ?_); refine goesL_ (some 12) rfl rfl Try.func51 Yba_ rfl #[.agg #[.slice A0_0 l0_0.length c0_0, .int .i64 a0_1, .slice A0_2 l0_2.length c0_2], .agg #[.int .i64 a1_0, .int .i64 a1_1, .int .i64 a1_2]] rfl Ye_ ?_; (with_reducible refine (spec_l24Make.calls k _ _ l0_0 a0_1 _ _ l0_2 a1_0 a1_1 a1_2 t333 t336 t337 t340 _ ?side1 ?side2 ?side3 ?side4 A5.out).mono ?_); (case side1 => repeat (first | exact (Kd.C_below HR0_0.out HB.out) | (with_reducible refine Kd.C_alloc ?_ _) | (with_reducible refine Kd.C_drewN ?_ _) | (with_reducible refine Kd.C_drew ?_))); (case side2 => exact HC0_0.out); (case side3 => repeat (first | exact (Kd.C_below HR0_2.out HB.out) | (with_reducible refine Kd.C_alloc ?_ _) | (with_reducible refine Kd.C_drewN ?_ _) | (with_reducible refine Kd.C_drew ?_))); (case side4 => exact HC0_2.out); rintro e w16 ⟨v334, v338, rfl, ho0, ho1, hb⟩; refine ⟨_, rfl, ?_⟩; have n0_ := Aside0.mk (Kd.S_lower ho0 (below_size Yh_)); have n1_ := Aside0.mk (Kd.S_lower ho1 (below_size Yh_)); have n2_ := Aside0.mk (blk_below (g := gb0) (o := .cells #[.slice A0_0 l0_0.length c0_0, .int .i64 a0_1, .slice A0_2 l0_2.length c0_2] 34 (0, 0)) Yc_ hb); have n3_ := Aside0.mk (blk_below (g := gb1) (o := .cells #[.int .i64 a1_0, .int .i64 a1_1, .int .i64 a1_2] 43 (0, 0)) Yi_ hb); have n4_ := Aside0.mk (blk_below (g := gb2) (o := .cells #[.slice none 0 0, .int .i64 0, .slice none 0 0] 34 (0, 0)) Ybd_ hb); have n5_ := Aside0.mk (below_step Yh_ hb); clear BK0; clear BK1; clear BK2; clear HB; have HO335 := n0_; have HO339 := n1_; have BK0 := n2_; have BK1 := n3_; have BK2 := n4_; have HB := n5_; clear n0_ n1_ n2_ n3_ n4_ n5_; (try clear hb); (try clear hb2); (try clear hk); (try clear hi); (try clear ho0); (try clear ho1); obtain ⟨Ao17, co17, eo17⟩ := Kd.S_slice HO335.out; subst eo17; have hcz18_0 : w16.cell? ⟨gb2, 0, none⟩ = some (.slice none 0 0) := (blk_cell BK2.out 0).trans rfl; have hcz18_1 : w16.cell? ⟨gb2, 1, none⟩ = some (.int .i64 0) := (blk_cell BK2.out 1).trans rfl; have hcz18_2 : w16.cell? ⟨gb2, 2, none⟩ = some (.slice none 0 0) := (blk_cell BK2.out 2).trans rfl; have hfz18_0 := blk_frozen BK2.out 0; have hfz18_1 := blk_frozen BK2.out 1; have hfz18_2 := blk_frozen BK2.out 2; obtain ⟨Ao19, co19, eo19⟩ := Kd.S_slice HO339.out; subst eo19))
  refine bodyPost_ret (Dh rfl _ _ gb2 34 #[.slice Ao17 t333.length co17, .int .i64 t336, .slice Ao19 t337.length co19] (0, 0) _ rfl (by (with_reducible repeat (first | apply blk_drewN | apply blk_drew | apply blk_alloc)); refine blk_put (cs := #[.slice Ao17 t333.length co17, .int .i64 t336, .slice none 0 0]) ?_ 2 _ rfl; (with_reducible repeat (first | apply blk_drewN | apply blk_drew | apply blk_alloc)); refine blk_put (cs := #[.slice Ao17 t333.length co17, .int .i64 0, .slice none 0 0]) ?_ 1 _ rfl; (with_reducible repeat (first | apply blk_drewN | apply blk_drew | apply blk_alloc)); refine blk_put (cs := #[.slice none 0 0, .int .i64 0, .slice none 0 0]) ?_ 0 _ rfl; (with_reducible repeat (first | apply blk_drewN | apply blk_drew | apply blk_alloc)); exact BK2.out) Try.underlying34 rfl Yba_) rfl ?_
  exact ⟨_, _, by first | rfl | (simp [errW_none, errW_some] <;> rfl) | (simp [*, errW_none, errW_some] <;> rfl), by (with_reducible repeat (first | apply Kd.S_alloc | apply Kd.S_drewN | apply Kd.S_drew)); exact Kd.S_mono (Kd.S_far (p := ⟨gb2, 2, none⟩) (Kd.S_far (p := ⟨gb2, 1, none⟩) (Kd.S_far (p := ⟨gb2, 0, none⟩) (Kd.S_types HO335.out BK2.out (by decide)) (fun _ hk => hk.2) (.slice Ao17 t333.length co17)) (fun _ hk => hk.2) (.int .i64 t336)) (fun _ hk => hk.2) (.slice Ao19 t337.length co19)) (fun _ hk => hk.1), by (with_reducible repeat (first | apply Kd.S_alloc | apply Kd.S_drewN | apply Kd.S_drew)); exact Kd.S_mono (Kd.S_far (p := ⟨gb2, 2, none⟩) (Kd.S_far (p := ⟨gb2, 1, none⟩) (Kd.S_far (p := ⟨gb2, 0, none⟩) (Kd.S_types HO339.out BK2.out (by decide)) (fun _ hk => hk.2) (.slice Ao17 t333.length co17)) (fun _ hk => hk.2) (.int .i64 t336)) (fun _ hk => hk.2) (.slice Ao19 t337.length co19)) (fun _ hk => hk.1), by repeat (first | (with_reducible first | exact HB.out | apply below_alloc | apply pw_below_drewN | apply below_drew1 | refine below_set ?_ GE0.out | refine below_set ?_ GE1.out | refine below_set ?_ GE2.out) | exact HB.out)⟩
 ·replace c4 := Bool.eq_false_iff.mpr c4
  subst c4
  have H1 : (some (([] : List (List Int)), 0, ([] : List (List Int)), false)) = some (r1, r2, r3, r4) := by rw [if_neg (show ¬ (false = true) by decide)] at H; exact H
  clear H
  have H := H1
  clear H1
  simp only [Option.some.injEq, Prod.mk.injEq] at H
  obtain ⟨rfl, rfl, rfl, rfl⟩ := H
  go_enter Try.func21, Try.ntmps21
  go_wp2_with (first | ((with_reducible refine gate_dst (N := 2) rfl ?_); refine box_event ?hg (N := 2) ?hd (cs := #[.slice A0_0 l0_0.length c0_0, .int .i64 a0_1, .slice A0_2 l0_2.length c0_2]) (t := 34) ?hr ?_; (case hd => rfl); (case hg => rfl); (case hr => first | (go_simp; done) | (go_simp; rfl)); intro gb0 hg w20 hbox hb; have n0_ := Aside0.mk (below_step Yb_ hb); have n1_ := Aside0.mk (hbox); have n2_ := Aside0.mk ((by rw [hg]; exact (below_size Yb_) : w.heap.size ≤ gb0)); have n3_ := Aside0.mk ((by rw [hg]; exact (below_size Yb_) : w.heap.size ≤ gb0)); clear HB; have HB := n0_; have BK0 := n1_; have GW0 := n2_; have GE0 := n3_; clear n0_ n1_ n2_ n3_; clear hb hbox hg) | ((with_reducible refine gate_dst (N := 3) rfl ?_); refine box_event ?hg (N := 3) ?hd (cs := #[.int .i64 a1_0, .int .i64 a1_1, .int .i64 a1_2]) (t := 43) ?hr ?_; (case hd => rfl); (case hg => rfl); (case hr => first | (go_simp; done) | (go_simp; rfl)); intro gb1 hg w21 hbox hb; have n0_ := Aside0.mk (blk_below (g := gb0) (o := .cells #[.slice A0_0 l0_0.length c0_0, .int .i64 a0_1, .slice A0_2 l0_2.length c0_2] 34 (0, 0)) Yc_ hb); have n1_ := Aside0.mk (below_step Yd_ hb); have n2_ := Aside0.mk (hbox); have n3_ := Aside0.mk ((by rw [hg]; exact (below_size Yd_) : w.heap.size ≤ gb1)); have n4_ := Aside0.mk ((by rw [hg]; exact (below_size Yd_) : w.heap.size ≤ gb1)); have n5_ := Aside0.mk ((by rw [hg]; exact Nat.ne_of_lt (blk_lt (g := gb0) (o := .cells #[.slice A0_0 l0_0.length c0_0, .int .i64 a0_1, .slice A0_2 l0_2.length c0_2] 34 (0, 0)) Yc_) : gb0 ≠ gb1)); have n6_ := Aside0.mk ((by rw [hg]; exact Nat.ne_of_gt (blk_lt (g := gb0) (o := .cells #[.slice A0_0 l0_0.length c0_0, .int .i64 a0_1, .slice A0_2 l0_2.length c0_2] 34 (0, 0)) Yc_) : gb1 ≠ gb0)); clear BK0; clear HB; have BK0 := n0_; have HB := n1_; have BK1 := n2_; have GW1 := n3_; have GE1 := n4_; have NB0_1 := n5_; have NB1_0 := n6_; clear n0_ n1_ n2_ n3_ n4_ n5_ n6_; clear hb hbox hg) | ((with_reducible refine gate_dst (N := 4) rfl ?_); refine box_event ?hg (N := 4) ?hd (cs := #[.slice none 0 0, .int .i64 0, .slice none 0 0]) (t := 34) ?hr ?_; (case hd => rfl); (case hg => rfl); (case hr => first | (go_simp; done) | (go_simp; rfl)); intro gb2 hg w22 hbox hb; have n0_ := Aside0.mk (blk_below (g := gb0) (o := .cells #[.slice A0_0 l0_0.length c0_0, .int .i64 a0_1, .slice A0_2 l0_2.length c0_2] 34 (0, 0)) Yc_ hb); have n1_ := Aside0.mk (blk_below (g := gb1) (o := .cells #[.int .i64 a1_0, .int .i64 a1_1, .int .i64 a1_2] 43 (0, 0)) Yi_ hb); have n2_ := Aside0.mk (below_step Yf_ hb); have n3_ := Aside0.mk (hbox); have n4_ := Aside0.mk ((by rw [hg]; exact (below_size Yf_) : w.heap.size ≤ gb2)); have n5_ := Aside0.mk ((by rw [hg]; exact (below_size Yf_) : w.heap.size ≤ gb2)); have n6_ := Aside0.mk ((by rw [hg]; exact Nat.ne_of_lt (blk_lt (g := gb0) (o := .cells #[.slice A0_0 l0_0.length c0_0, .int .i64 a0_1, .slice A0_2 l0_2.length c0_2] 34 (0, 0)) Yc_) : gb0 ≠ gb2)); have n7_ := Aside0.mk ((by rw [hg]; exact Nat.ne_of_gt (blk_lt (g := gb0) (o := .cells #[.slice A0_0 l0_0.length c0_0, .int .i64 a0_1, .slice A0_2 l0_2.length c0_2] 34 (0, 0)) Yc_) : gb2 ≠ gb0)); have n8_ := Aside0.mk ((by rw [hg]; exact Nat.ne_of_lt (blk_lt (g := gb1) (o := .cells #[.int .i64 a1_0, .int .i64 a1_1, .int .i64 a1_2] 43 (0, 0)) Yi_) : gb1 ≠ gb2)); have n9_ := Aside0.mk ((by rw [hg]; exact Nat.ne_of_gt (blk_lt (g := gb1) (o := .cells #[.int .i64 a1_0, .int .i64 a1_1, .int .i64 a1_2] 43 (0, 0)) Yi_) : gb2 ≠ gb1)); clear BK0; clear BK1; clear HB; have BK0 := n0_; have BK1 := n1_; have HB := n2_; have BK2 := n3_; have GW2 := n4_; have GE2 := n5_; have NB0_2 := n6_; have NB2_0 := n7_; have NB1_2 := n8_; have NB2_1 := n9_; clear n0_ n1_ n2_ n3_ n4_ n5_ n6_ n7_ n8_ n9_; clear hb hbox hg; have hnb23 := NB0_1.out; have hnc23 := NB1_0.out; have hnb24 := NB0_2.out; have hnc24 := NB2_0.out; have hcz25_0 : w22.cell? ⟨gb0, 0, none⟩ = some (.slice A0_0 l0_0.length c0_0) := (blk_cell BK0.out 0).trans rfl; have hcz25_1 : w22.cell? ⟨gb0, 1, none⟩ = some (.int .i64 a0_1) := (blk_cell BK0.out 1).trans rfl; have hcz25_2 : w22.cell? ⟨gb0, 2, none⟩ = some (.slice A0_2 l0_2.length c0_2) := (blk_cell BK0.out 2).trans rfl; have hfz25_0 := blk_frozen BK0.out 0; have hfz25_1 := blk_frozen BK0.out 1; have hfz25_2 := blk_frozen BK0.out 2) | ((with_reducible refine gate_callee (f := 39) rfl ?_); refine goesL_ (some 7) rfl rfl Try.func39 Yba_ rfl #[.agg #[.slice A0_0 l0_0.length c0_0, .int .i64 a0_1, .slice A0_2 l0_2.length c0_2]] rfl Ye_ ?_; (with_reducible refine (Ac.calls k _ _ l0_0 a0_1 _ _ l0_2 false _ ?side1 ?side2 ?side3 ?side4 A3.out).mono ?_); (case side1 => repeat (first | exact (Kd.C_below HR0_0.out HB.out) | (with_reducible refine Kd.C_alloc ?_ _) | (with_reducible refine Kd.C_drewN ?_ _) | (with_reducible refine Kd.C_drew ?_))); (case side2 => exact HC0_0.out); (case side3 => repeat (first | exact (Kd.C_below HR0_2.out HB.out) | (with_reducible refine Kd.C_alloc ?_ _) | (with_reducible refine Kd.C_drewN ?_ _) | (with_reducible refine Kd.C_drew ?_))); (case side4 => exact HC0_2.out); rintro e w26 ⟨rfl, hb⟩; refine ⟨_, rfl, ?_⟩; have n0_ := Aside0.mk (blk_below (g := gb0) (o := .cells #[.slice A0_0 l0_0.length c0_0, .int .i64 a0_1, .slice A0_2 l0_2.length c0_2] 34 (0, 0)) Yc_ hb); have n1_ := Aside0.mk (blk_below (g := gb1) (o := .cells #[.int .i64 a1_0, .int .i64 a1_1, .int .i64 a1_2] 43 (0, 0)) Yi_ hb); have n2_ := Aside0.mk (blk_below (g := gb2) (o := .cells #[.slice none 0 0, .int .i64 0, .slice none 0 0] 34 (0, 0)) Ybd_ hb); have n3_ := Aside0.mk (below_step Yh_ hb); clear BK0; clear BK1; clear BK2; clear HB; have BK0 := n0_; have BK1 := n1_; have BK2 := n2_; have HB := n3_; clear n0_ n1_ n2_ n3_; (try clear hb); (try clear hb2); (try clear hk); (try clear hi); have hnb27 := NB2_1.out; have hnc27 := NB1_2.out; have hcz28_0 : w26.cell? ⟨gb2, 0, none⟩ = some (.slice none 0 0) := (blk_cell BK2.out 0).trans rfl; have hcz28_1 : w26.cell? ⟨gb2, 1, none⟩ = some (.int .i64 0) := (blk_cell BK2.out 1).trans rfl; have hcz28_2 : w26.cell? ⟨gb2, 2, none⟩ = some (.slice none 0 0) := (blk_cell BK2.out 2).trans rfl; have hfz28_0 := blk_frozen BK2.out 0; have hfz28_1 := blk_frozen BK2.out 1; have hfz28_2 := blk_frozen BK2.out 2))
  refine bodyPost_ret (Dh rfl _ _ gb2 34 #[.slice none 0 0, .int .i64 0, .slice none 0 0] (0, 0) _ rfl Ycc_ Try.underlying34 rfl Yba_) rfl ?_
  exact ⟨_, _, by first | rfl | (simp [errW_none, errW_some] <;> rfl) | (simp [*, errW_none, errW_some] <;> rfl), by first | exact Kd.S_nil _ _ _ _ _ | exact Kd.N_nil _ _ _ _ _ | exact Kd.V_nil _ _ _ _ _ | exact Kd.Q_nil _ _ _ _ _ | exact Kd.R_nil _ _ _ _ _, by first | exact Kd.S_nil _ _ _ _ _ | exact Kd.N_nil _ _ _ _ _ | exact Kd.V_nil _ _ _ _ _ | exact Kd.Q_nil _ _ _ _ _ | exact Kd.R_nil _ _ _ _ _, by repeat (first | (with_reducible first | exact HB.out | apply below_alloc | apply pw_below_drewN | apply below_drew1 | refine below_set ?_ GE0.out | refine below_set ?_ GE1.out | refine below_set ?_ GE2.out) | exact HB.out)⟩
def Ed.f (k : Nat) (l0_0 : List (List Int)) (a0_1 : Int) (l0_2 : List (List Int)) (a1_0 : Int) (a1_1 : Int) (a1_2 : Int) : Option ((List (List Int)) × Int × (List (List Int)) × Bool) := (impl_IsValidTerminal.f k l0_0 a0_1 l0_2).bind fun t420 => (if t420 = true then ((impl_makeOrder.f k l0_0 a0_1 l0_2 a1_0 a1_1 a1_2).bind fun bt421 => (some (bt421.1, bt421.2.1, bt421.2.2.1, bt421.2.2.2.2))) else (some (([] : List (List Int)), 0, ([] : List (List Int)), false)))
theorem Ed.mono : ∀ a0 a1 a2 a3 a4 a5 k, LeO (Ed.f k a0 a1 a2 a3 a4 a5) (Ed.f (k + 1) a0 a1 a2 a3 a4 a5) := by
 intro a0 a1 a2 a3 a4 a5 k
 unfold Ed.f
 repeat' first
   | (with_reducible exact impl_IsValidTerminal.mono _ _ _ _)
   | (with_reducible exact impl_makeOrder.mono _ _ _ _ _ _ _)
   | (with_reducible exact LeO.refl _)
   | (with_reducible exact LeO.none _)
   | (with_reducible refine LeO.ite ?_ ?_)
   | (with_reducible refine LeO.bind ?_ (fun _ => ?_))
   | exact impl_IsValidTerminal.mono _ _ _ _
   | exact impl_makeOrder.mono _ _ _ _ _ _ _
   | exact LeO.none _
   | refine LeO.ite ?_ ?_
   | refine LeO.bind ?_ (fun _ => ?_)
set_option maxHeartbeats 8000000 in
set_option maxRecDepth 100000 in
theorem Ed.calls2 (k : Nat) (A0_0 : Option Addr) (c0_0 : Nat) (l0_0 : List (List Int)) (a0_1 : Int) (A0_2 : Option Addr) (c0_2 : Nat) (l0_2 : List (List Int)) (a1_0 : Int) (a1_1 : Int) (a1_2 : Int) (r1 : List (List Int)) (r2 : Int) (r3 : List (List Int)) (r4 : Bool) (w : World) (hr0_0 : Kd.C (Kd.slice 3 (Kd.int .i64)) w A0_0 l0_0.length l0_0) (hc0_0 : l0_0.length ≤ c0_0) (hr0_2 : Kd.C (Kd.slice 3 (Kd.int .i64)) w A0_2 l0_2.length l0_2) (hc0_2 : l0_2.length ≤ c0_2) (h : Ed.f k l0_0 a0_1 l0_2 a1_0 a1_1 a1_2 = some (r1, r2, r3, r4)) :
  Calls Try.prog 22 #[.agg #[.slice A0_0 l0_0.length c0_0, .int .i64 a0_1, .slice A0_2 l0_2.length c0_2], .agg #[.int .i64 a1_0, .int .i64 a1_1, .int .i64 a1_2]] w fun e w' => ∃ (P_ : Nat → Prop) (v0_ v2_ : Value), e = .returned (.tuple #[.agg #[v0_, .int .i64 r2, v2_], .bool r4]) ∧ Kd.S (Kd.slice 3 (Kd.int .i64)) 73 w' w.heap.size (fun k_ => P_ k_) v0_ r1 ∧ Kd.S (Kd.slice 3 (Kd.int .i64)) 73 w' w.heap.size (fun k_ => ¬ P_ k_) v2_ r3 ∧ Below w.heap.size w w' := by
 have hu34 := Try.underlying34
 have hu43 := Try.underlying43
 have HR0_0 := Aside0.mk hr0_0
 have HC0_0 := Aside0.mk hc0_0
 clear hr0_0 hc0_0
 have HR0_2 := Aside0.mk hr0_2
 have HC0_2 := Aside0.mk hc0_2
 clear hr0_2 hc0_2
 have HB := Aside0.mk (Below.refl w.heap.size w)
 have H : ((impl_IsValidTerminal.f k l0_0 a0_1 l0_2).bind fun t420 => (if t420 = true then ((impl_makeOrder.f k l0_0 a0_1 l0_2 a1_0 a1_1 a1_2).bind fun bt421 => (some (bt421.1, bt421.2.1, bt421.2.2.1, bt421.2.2.2.2))) else (some (([] : List (List Int)), 0, ([] : List (List Int)), false)))) = some (r1, r2, r3, r4) := h
 clear h
 replace H := Option.bind_eq_some_iff.mp H
 obtain ⟨t420, A30, H⟩ := H
 try dsimp only at H
 have A3 := Aside0.mk A30
 clear A30
 by_cases c4 : t420 = true
 ·subst c4
  have H1 : ((impl_makeOrder.f k l0_0 a0_1 l0_2 a1_0 a1_1 a1_2).bind fun bt421 => (some (bt421.1, bt421.2.1, bt421.2.2.1, bt421.2.2.2.2))) = some (r1, r2, r3, r4) := by rw [if_pos rfl] at H; exact H
  clear H
  have H := H1
  clear H1
  replace H := Option.bind_eq_some_iff.mp H
  obtain ⟨⟨t421, t424, t425, t428, t429⟩, A50, H⟩ := H
  try dsimp only at H
  have A5 := Aside0.mk A50
  clear A50
  simp only [Option.some.injEq, Prod.mk.injEq] at H
  obtain ⟨rfl, rfl, rfl, rfl⟩ := H
  go_enter Try.func22, Try.ntmps22
  go_wp2_with (first | ((with_reducible refine gate_dst (N := 2) rfl ?_); refine box_event ?hg (N := 2) ?hd (cs := #[.slice A0_0 l0_0.length c0_0, .int .i64 a0_1, .slice A0_2 l0_2.length c0_2]) (t := 34) ?hr ?_; (case hd => rfl); (case hg => rfl); (case hr => first | (go_simp; done) | (go_simp; rfl)); intro gb0 hg w6 hbox hb; have n0_ := Aside0.mk (below_step Yb_ hb); have n1_ := Aside0.mk (hbox); have n2_ := Aside0.mk ((by rw [hg]; exact (below_size Yb_) : w.heap.size ≤ gb0)); have n3_ := Aside0.mk ((by rw [hg]; exact (below_size Yb_) : w.heap.size ≤ gb0)); clear HB; have HB := n0_; have BK0 := n1_; have GW0 := n2_; have GE0 := n3_; clear n0_ n1_ n2_ n3_; clear hb hbox hg) | ((with_reducible refine gate_dst (N := 3) rfl ?_); refine box_event ?hg (N := 3) ?hd (cs := #[.int .i64 a1_0, .int .i64 a1_1, .int .i64 a1_2]) (t := 43) ?hr ?_; (case hd => rfl); (case hg => rfl); (case hr => first | (go_simp; done) | (go_simp; rfl)); intro gb1 hg w7 hbox hb; have n0_ := Aside0.mk (blk_below (g := gb0) (o := .cells #[.slice A0_0 l0_0.length c0_0, .int .i64 a0_1, .slice A0_2 l0_2.length c0_2] 34 (0, 0)) Yc_ hb); have n1_ := Aside0.mk (below_step Yd_ hb); have n2_ := Aside0.mk (hbox); have n3_ := Aside0.mk ((by rw [hg]; exact (below_size Yd_) : w.heap.size ≤ gb1)); have n4_ := Aside0.mk ((by rw [hg]; exact (below_size Yd_) : w.heap.size ≤ gb1)); have n5_ := Aside0.mk ((by rw [hg]; exact Nat.ne_of_lt (blk_lt (g := gb0) (o := .cells #[.slice A0_0 l0_0.length c0_0, .int .i64 a0_1, .slice A0_2 l0_2.length c0_2] 34 (0, 0)) Yc_) : gb0 ≠ gb1)); have n6_ := Aside0.mk ((by rw [hg]; exact Nat.ne_of_gt (blk_lt (g := gb0) (o := .cells #[.slice A0_0 l0_0.length c0_0, .int .i64 a0_1, .slice A0_2 l0_2.length c0_2] 34 (0, 0)) Yc_) : gb1 ≠ gb0)); clear BK0; clear HB; have BK0 := n0_; have HB := n1_; have BK1 := n2_; have GW1 := n3_; have GE1 := n4_; have NB0_1 := n5_; have NB1_0 := n6_; clear n0_ n1_ n2_ n3_ n4_ n5_ n6_; clear hb hbox hg) | ((with_reducible refine gate_dst (N := 4) rfl ?_); refine box_event ?hg (N := 4) ?hd (cs := #[.slice none 0 0, .int .i64 0, .slice none 0 0]) (t := 34) ?hr ?_; (case hd => rfl); (case hg => rfl); (case hr => first | (go_simp; done) | (go_simp; rfl)); intro gb2 hg w8 hbox hb; have n0_ := Aside0.mk (blk_below (g := gb0) (o := .cells #[.slice A0_0 l0_0.length c0_0, .int .i64 a0_1, .slice A0_2 l0_2.length c0_2] 34 (0, 0)) Yc_ hb); have n1_ := Aside0.mk (blk_below (g := gb1) (o := .cells #[.int .i64 a1_0, .int .i64 a1_1, .int .i64 a1_2] 43 (0, 0)) Yi_ hb); have n2_ := Aside0.mk (below_step Yf_ hb); have n3_ := Aside0.mk (hbox); have n4_ := Aside0.mk ((by rw [hg]; exact (below_size Yf_) : w.heap.size ≤ gb2)); have n5_ := Aside0.mk ((by rw [hg]; exact (below_size Yf_) : w.heap.size ≤ gb2)); have n6_ := Aside0.mk ((by rw [hg]; exact Nat.ne_of_lt (blk_lt (g := gb0) (o := .cells #[.slice A0_0 l0_0.length c0_0, .int .i64 a0_1, .slice A0_2 l0_2.length c0_2] 34 (0, 0)) Yc_) : gb0 ≠ gb2)); have n7_ := Aside0.mk ((by rw [hg]; exact Nat.ne_of_gt (blk_lt (g := gb0) (o := .cells #[.slice A0_0 l0_0.length c0_0, .int .i64 a0_1, .slice A0_2 l0_2.length c0_2] 34 (0, 0)) Yc_) : gb2 ≠ gb0)); have n8_ := Aside0.mk ((by rw [hg]; exact Nat.ne_of_lt (blk_lt (g := gb1) (o := .cells #[.int .i64 a1_0, .int .i64 a1_1, .int .i64 a1_2] 43 (0, 0)) Yi_) : gb1 ≠ gb2)); have n9_ := Aside0.mk ((by rw [hg]; exact Nat.ne_of_gt (blk_lt (g := gb1) (o := .cells #[.int .i64 a1_0, .int .i64 a1_1, .int .i64 a1_2] 43 (0, 0)) Yi_) : gb2 ≠ gb1)); clear BK0; clear BK1; clear HB; have BK0 := n0_; have BK1 := n1_; have HB := n2_; have BK2 := n3_; have GW2 := n4_; have GE2 := n5_; have NB0_2 := n6_; have NB2_0 := n7_; have NB1_2 := n8_; have NB2_1 := n9_; clear n0_ n1_ n2_ n3_ n4_ n5_ n6_ n7_ n8_ n9_; clear hb hbox hg; have hnb9 := NB0_1.out; have hnc9 := NB1_0.out; have hnb10 := NB0_2.out; have hnc10 := NB2_0.out; have hcz11_0 : w8.cell? ⟨gb0, 0, none⟩ = some (.slice A0_0 l0_0.length c0_0) := (blk_cell BK0.out 0).trans rfl; have hcz11_1 : w8.cell? ⟨gb0, 1, none⟩ = some (.int .i64 a0_1) := (blk_cell BK0.out 1).trans rfl; have hcz11_2 : w8.cell? ⟨gb0, 2, none⟩ = some (.slice A0_2 l0_2.length c0_2) := (blk_cell BK0.out 2).trans rfl; have hfz11_0 := blk_frozen BK0.out 0; have hfz11_1 := blk_frozen BK0.out 1; have hfz11_2 := blk_frozen BK0.out 2) | ((with_reducible refine gate_callee (f := 13) rfl ?_); refine goesL_ (some 10) rfl rfl Try.func13 Yba_ rfl #[.agg #[.slice A0_0 l0_0.length c0_0, .int .i64 a0_1, .slice A0_2 l0_2.length c0_2]] rfl Ye_ ?_; (with_reducible refine (impl_IsValidTerminal.calls k _ _ l0_0 a0_1 _ _ l0_2 true _ ?side1 ?side2 ?side3 ?side4 A3.out).mono ?_); (case side1 => repeat (first | exact (Kd.C_below HR0_0.out HB.out) | (with_reducible refine Kd.C_alloc ?_ _) | (with_reducible refine Kd.C_drewN ?_ _) | (with_reducible refine Kd.C_drew ?_))); (case side2 => exact HC0_0.out); (case side3 => repeat (first | exact (Kd.C_below HR0_2.out HB.out) | (with_reducible refine Kd.C_alloc ?_ _) | (with_reducible refine Kd.C_drewN ?_ _) | (with_reducible refine Kd.C_drew ?_))); (case side4 => exact HC0_2.out); rintro e w12 ⟨rfl, hb⟩; refine ⟨_, rfl, ?_⟩; have n0_ := Aside0.mk (blk_below (g := gb0) (o := .cells #[.slice A0_0 l0_0.length c0_0, .int .i64 a0_1, .slice A0_2 l0_2.length c0_2] 34 (0, 0)) Yc_ hb); have n1_ := Aside0.mk (blk_below (g := gb1) (o := .cells #[.int .i64 a1_0, .int .i64 a1_1, .int .i64 a1_2] 43 (0, 0)) Yi_ hb); have n2_ := Aside0.mk (blk_below (g := gb2) (o := .cells #[.slice none 0 0, .int .i64 0, .slice none 0 0] 34 (0, 0)) Ybd_ hb); have n3_ := Aside0.mk (below_step Yh_ hb); clear BK0; clear BK1; clear BK2; clear HB; have BK0 := n0_; have BK1 := n1_; have BK2 := n2_; have HB := n3_; clear n0_ n1_ n2_ n3_; (try clear hb); (try clear hb2); (try clear hk); (try clear hi); have hcz13_0 : w12.cell? ⟨gb0, 0, none⟩ = some (.slice A0_0 l0_0.length c0_0) := (blk_cell BK0.out 0).trans rfl; have hcz13_1 : w12.cell? ⟨gb0, 1, none⟩ = some (.int .i64 a0_1) := (blk_cell BK0.out 1).trans rfl; have hcz13_2 : w12.cell? ⟨gb0, 2, none⟩ = some (.slice A0_2 l0_2.length c0_2) := (blk_cell BK0.out 2).trans rfl; have hfz13_0 := blk_frozen BK0.out 0; have hfz13_1 := blk_frozen BK0.out 1; have hfz13_2 := blk_frozen BK0.out 2; have hnb14 := NB1_2.out; have hnc14 := NB2_1.out; have hcz15_0 : w12.cell? ⟨gb1, 0, none⟩ = some (.int .i64 a1_0) := (blk_cell BK1.out 0).trans rfl; have hcz15_1 : w12.cell? ⟨gb1, 1, none⟩ = some (.int .i64 a1_1) := (blk_cell BK1.out 1).trans rfl; have hcz15_2 : w12.cell? ⟨gb1, 2, none⟩ = some (.int .i64 a1_2) := (blk_cell BK1.out 2).trans rfl; have hfz15_0 := blk_frozen BK1.out 0; have hfz15_1 := blk_frozen BK1.out 1; have hfz15_2 := blk_frozen BK1.out 2) | ((with_reducible refine gate_callee (f := 50) rfl ?_); refine goesL_ (some 16) rfl rfl Try.func50 Yba_ rfl #[.agg #[.slice A0_0 l0_0.length c0_0, .int .i64 a0_1, .slice A0_2 l0_2.length c0_2], .agg #[.int .i64 a1_0, .int .i64 a1_1, .int .i64 a1_2]] rfl Ye_ ?_; (with_reducible refine (impl_makeOrder.calls2 k _ _ l0_0 a0_1 _ _ l0_2 a1_0 a1_1 a1_2 t421 t424 t425 t428 t429 _ ?side1 ?side2 ?side3 ?side4 A5.out).mono ?_); (case side1 => repeat (first | exact (Kd.C_below HR0_0.out HB.out) | (with_reducible refine Kd.C_alloc ?_ _) | (with_reducible refine Kd.C_drewN ?_ _) | (with_reducible refine Kd.C_drew ?_))); (case side2 => exact HC0_0.out); (case side3 => repeat (first | exact (Kd.C_below HR0_2.out HB.out) | (with_reducible refine Kd.C_alloc ?_ _) | (with_reducible refine Kd.C_drewN ?_ _) | (with_reducible refine Kd.C_drew ?_))); (case side4 => exact HC0_2.out); rintro e w16 ⟨P_, v422, v426, rfl, ho0, ho1, hb⟩; refine ⟨_, rfl, ?_⟩; have n0_ := Aside0.mk (Kd.S_lower ho0 (below_size Yh_)); have n1_ := Aside0.mk (Kd.S_lower ho1 (below_size Yh_)); have n2_ := Aside0.mk (blk_below (g := gb0) (o := .cells #[.slice A0_0 l0_0.length c0_0, .int .i64 a0_1, .slice A0_2 l0_2.length c0_2] 34 (0, 0)) Yc_ hb); have n3_ := Aside0.mk (blk_below (g := gb1) (o := .cells #[.int .i64 a1_0, .int .i64 a1_1, .int .i64 a1_2] 43 (0, 0)) Yi_ hb); have n4_ := Aside0.mk (blk_below (g := gb2) (o := .cells #[.slice none 0 0, .int .i64 0, .slice none 0 0] 34 (0, 0)) Ybd_ hb); have n5_ := Aside0.mk (below_step Yh_ hb); clear BK0; clear BK1; clear BK2; clear HB; have HO423 := n0_; have HO427 := n1_; have BK0 := n2_; have BK1 := n3_; have BK2 := n4_; have HB := n5_; clear n0_ n1_ n2_ n3_ n4_ n5_; (try clear hb); (try clear hb2); (try clear hk); (try clear hi); (try clear ho0); (try clear ho1)) | ((with_reducible refine gate_dst (N := 6) rfl ?_); refine box_event ?hg (N := 6) ?hd (cs := #[.slice none 0 0, .int .i64 0, .slice none 0 0]) (t := 34) ?hr ?_; (case hd => rfl); (case hg => rfl); (case hr => first | (go_simp; done) | (go_simp; rfl)); intro gb3 hg w17 hbox hb; have n0_ := Aside0.mk (Kd.Ak (by (with_reducible repeat (first | apply Kd.S_alloc | apply Kd.S_drewN | apply Kd.S_drew)); exact HO423.out) hb); have n1_ := Aside0.mk (Kd.Ak (by (with_reducible repeat (first | apply Kd.S_alloc | apply Kd.S_drewN | apply Kd.S_drew)); exact HO427.out) hb); have n2_ := Aside0.mk (blk_below (g := gb0) (o := .cells #[.slice A0_0 l0_0.length c0_0, .int .i64 a0_1, .slice A0_2 l0_2.length c0_2] 34 (0, 0)) Yc_ hb); have n3_ := Aside0.mk (blk_below (g := gb1) (o := .cells #[.int .i64 a1_0, .int .i64 a1_1, .int .i64 a1_2] 43 (0, 0)) Yi_ hb); have n4_ := Aside0.mk (blk_below (g := gb2) (o := .cells #[.slice none 0 0, .int .i64 0, .slice none 0 0] 34 (0, 0)) Ybd_ hb); have n5_ := Aside0.mk (below_step Yh_ hb); have n6_ := Aside0.mk (hbox); have n7_ := Aside0.mk ((by rw [hg]; exact (below_size Yh_) : w.heap.size ≤ gb3)); have n8_ := Aside0.mk ((by rw [hg]; exact (below_size Yh_) : w.heap.size ≤ gb3)); have n9_ := Aside0.mk ((by rw [hg]; exact Nat.ne_of_lt (blk_lt (g := gb0) (o := .cells #[.slice A0_0 l0_0.length c0_0, .int .i64 a0_1, .slice A0_2 l0_2.length c0_2] 34 (0, 0)) Yc_) : gb0 ≠ gb3)); have n10_ := Aside0.mk ((by rw [hg]; exact Nat.ne_of_gt (blk_lt (g := gb0) (o := .cells #[.slice A0_0 l0_0.length c0_0, .int .i64 a0_1, .slice A0_2 l0_2.length c0_2] 34 (0, 0)) Yc_) : gb3 ≠ gb0)); have n11_ := Aside0.mk ((by rw [hg]; exact Nat.ne_of_lt (blk_lt (g := gb1) (o := .cells #[.int .i64 a1_0, .int .i64 a1_1, .int .i64 a1_2] 43 (0, 0)) Yi_) : gb1 ≠ gb3)); have n12_ := Aside0.mk ((by rw [hg]; exact Nat.ne_of_gt (blk_lt (g := gb1) (o := .cells #[.int .i64 a1_0, .int .i64 a1_1, .int .i64 a1_2] 43 (0, 0)) Yi_) : gb3 ≠ gb1)); have n13_ := Aside0.mk ((by rw [hg]; exact Nat.ne_of_lt (blk_lt (g := gb2) (o := .cells #[.slice none 0 0, .int .i64 0, .slice none 0 0] 34 (0, 0)) Ybd_) : gb2 ≠ gb3)); have n14_ := Aside0.mk ((by rw [hg]; exact Nat.ne_of_gt (blk_lt (g := gb2) (o := .cells #[.slice none 0 0, .int .i64 0, .slice none 0 0] 34 (0, 0)) Ybd_) : gb3 ≠ gb2)); clear HO423; clear HO427; clear BK0; clear BK1; clear BK2; clear HB; have HO423 := n0_; have HO427 := n1_; have BK0 := n2_; have BK1 := n3_; have BK2 := n4_; have HB := n5_; have BK3 := n6_; have GW3 := n7_; have GE3 := n8_; have NB0_3 := n9_; have NB3_0 := n10_; have NB1_3 := n11_; have NB3_1 := n12_; have NB2_3 := n13_; have NB3_2 := n14_; clear n0_ n1_ n2_ n3_ n4_ n5_ n6_ n7_ n8_ n9_ n10_ n11_ n12_ n13_ n14_; clear hb hbox hg; obtain ⟨Ao18, co18, eo18⟩ := Kd.S_slice HO423.out; subst eo18; have hnb19 := NB3_0.out; have hnc19 := NB0_3.out; have hnb20 := NB3_1.out; have hnc20 := NB1_3.out; have hnb21 := NB3_2.out; have hnc21 := NB2_3.out; have hcz22_0 : w17.cell? ⟨gb3, 0, none⟩ = some (.slice none 0 0) := (blk_cell BK3.out 0).trans rfl; have hcz22_1 : w17.cell? ⟨gb3, 1, none⟩ = some (.int .i64 0) := (blk_cell BK3.out 1).trans rfl; have hcz22_2 : w17.cell? ⟨gb3, 2, none⟩ = some (.slice none 0 0) := (blk_cell BK3.out 2).trans rfl; have hfz22_0 := blk_frozen BK3.out 0; have hfz22_1 := blk_frozen BK3.out 1; have hfz22_2 := blk_frozen BK3.out 2; obtain ⟨Ao23, co23, eo23⟩ := Kd.S_slice HO427.out; subst eo23; have hcz24_0 : w17.cell? ⟨gb2, 0, none⟩ = some (.slice none 0 0) := (blk_cell BK2.out 0).trans rfl; have hcz24_1 : w17.cell? ⟨gb2, 1, none⟩ = some (.int .i64 0) := (blk_cell BK2.out 1).trans rfl; have hcz24_2 : w17.cell? ⟨gb2, 2, none⟩ = some (.slice none 0 0) := (blk_cell BK2.out 2).trans rfl; have hfz24_0 := blk_frozen BK2.out 0; have hfz24_1 := blk_frozen BK2.out 1; have hfz24_2 := blk_frozen BK2.out 2))
  refine bodyPost_ret (Dh rfl _ _ gb2 34 #[.slice Ao18 t421.length co18, .int .i64 t424, .slice Ao23 t425.length co23] (0, 0) _ rfl (by (with_reducible repeat (first | apply blk_drewN | apply blk_drew | apply blk_alloc)); refine blk_put (cs := #[.slice Ao18 t421.length co18, .int .i64 t424, .slice none 0 0]) ?_ 2 _ rfl; (with_reducible repeat (first | apply blk_drewN | apply blk_drew | apply blk_alloc)); refine blk_put (cs := #[.slice Ao18 t421.length co18, .int .i64 0, .slice none 0 0]) ?_ 1 _ rfl; (with_reducible repeat (first | apply blk_drewN | apply blk_drew | apply blk_alloc)); refine blk_put (cs := #[.slice none 0 0, .int .i64 0, .slice none 0 0]) ?_ 0 _ rfl; (with_reducible repeat (first | apply blk_drewN | apply blk_drew | apply blk_alloc)); refine Be ?_ NB2_3.out _; (with_reducible repeat (first | apply blk_drewN | apply blk_drew | apply blk_alloc)); refine Be ?_ NB2_3.out _; (with_reducible repeat (first | apply blk_drewN | apply blk_drew | apply blk_alloc)); refine Be ?_ NB2_3.out _; (with_reducible repeat (first | apply blk_drewN | apply blk_drew | apply blk_alloc)); exact BK2.out) Try.underlying34 rfl Yba_) rfl ?_
  exact ⟨P_, _, _, by first | rfl | (simp [errW_none, errW_some] <;> rfl) | (simp [*, errW_none, errW_some] <;> rfl), by (with_reducible repeat (first | apply Kd.S_alloc | apply Kd.S_drewN | apply Kd.S_drew)); exact Kd.S_mono (Kd.S_far (p := ⟨gb2, 2, none⟩) (Kd.S_far (p := ⟨gb2, 1, none⟩) (Kd.S_far (p := ⟨gb2, 0, none⟩) (Kd.S_far (p := ⟨gb3, 2, none⟩) (Kd.S_far (p := ⟨gb3, 1, none⟩) (Kd.S_far (p := ⟨gb3, 0, none⟩) (Kd.S_types (Kd.S_types HO423.out BK3.out (by decide)) BK2.out (by decide)) (fun _ hk => hk.1.2) (.slice Ao18 t421.length co18)) (fun _ hk => hk.1.2) (.int .i64 t424)) (fun _ hk => hk.1.2) (.slice Ao23 t425.length co23)) (fun _ hk => hk.2) (.slice Ao18 t421.length co18)) (fun _ hk => hk.2) (.int .i64 t424)) (fun _ hk => hk.2) (.slice Ao23 t425.length co23)) (fun _ hk => hk.1.1), by (with_reducible repeat (first | apply Kd.S_alloc | apply Kd.S_drewN | apply Kd.S_drew)); exact Kd.S_mono (Kd.S_far (p := ⟨gb2, 2, none⟩) (Kd.S_far (p := ⟨gb2, 1, none⟩) (Kd.S_far (p := ⟨gb2, 0, none⟩) (Kd.S_far (p := ⟨gb3, 2, none⟩) (Kd.S_far (p := ⟨gb3, 1, none⟩) (Kd.S_far (p := ⟨gb3, 0, none⟩) (Kd.S_types (Kd.S_types HO427.out BK3.out (by decide)) BK2.out (by decide)) (fun _ hk => hk.1.2) (.slice Ao18 t421.length co18)) (fun _ hk => hk.1.2) (.int .i64 t424)) (fun _ hk => hk.1.2) (.slice Ao23 t425.length co23)) (fun _ hk => hk.2) (.slice Ao18 t421.length co18)) (fun _ hk => hk.2) (.int .i64 t424)) (fun _ hk => hk.2) (.slice Ao23 t425.length co23)) (fun _ hk => hk.1.1), by repeat (first | (with_reducible first | exact HB.out | apply below_alloc | apply pw_below_drewN | apply below_drew1 | refine below_set ?_ GE0.out | refine below_set ?_ GE1.out | refine below_set ?_ GE2.out | refine below_set ?_ GE3.out) | exact HB.out)⟩
 ·replace c4 := Bool.eq_false_iff.mpr c4
  subst c4
  have H1 : (some (([] : List (List Int)), 0, ([] : List (List Int)), false)) = some (r1, r2, r3, r4) := by rw [if_neg (show ¬ (false = true) by decide)] at H; exact H
  clear H
  have H := H1
  clear H1
  simp only [Option.some.injEq, Prod.mk.injEq] at H
  obtain ⟨rfl, rfl, rfl, rfl⟩ := H
  go_enter Try.func22, Try.ntmps22
  go_wp2_with (first | ((with_reducible refine gate_dst (N := 2) rfl ?_); refine box_event ?hg (N := 2) ?hd (cs := #[.slice A0_0 l0_0.length c0_0, .int .i64 a0_1, .slice A0_2 l0_2.length c0_2]) (t := 34) ?hr ?_; (case hd => rfl); (case hg => rfl); (case hr => first | (go_simp; done) | (go_simp; rfl)); intro gb0 hg w25 hbox hb; have n0_ := Aside0.mk (below_step Yb_ hb); have n1_ := Aside0.mk (hbox); have n2_ := Aside0.mk ((by rw [hg]; exact (below_size Yb_) : w.heap.size ≤ gb0)); have n3_ := Aside0.mk ((by rw [hg]; exact (below_size Yb_) : w.heap.size ≤ gb0)); clear HB; have HB := n0_; have BK0 := n1_; have GW0 := n2_; have GE0 := n3_; clear n0_ n1_ n2_ n3_; clear hb hbox hg) | ((with_reducible refine gate_dst (N := 3) rfl ?_); refine box_event ?hg (N := 3) ?hd (cs := #[.int .i64 a1_0, .int .i64 a1_1, .int .i64 a1_2]) (t := 43) ?hr ?_; (case hd => rfl); (case hg => rfl); (case hr => first | (go_simp; done) | (go_simp; rfl)); intro gb1 hg w26 hbox hb; have n0_ := Aside0.mk (blk_below (g := gb0) (o := .cells #[.slice A0_0 l0_0.length c0_0, .int .i64 a0_1, .slice A0_2 l0_2.length c0_2] 34 (0, 0)) Yc_ hb); have n1_ := Aside0.mk (below_step Yd_ hb); have n2_ := Aside0.mk (hbox); have n3_ := Aside0.mk ((by rw [hg]; exact (below_size Yd_) : w.heap.size ≤ gb1)); have n4_ := Aside0.mk ((by rw [hg]; exact (below_size Yd_) : w.heap.size ≤ gb1)); have n5_ := Aside0.mk ((by rw [hg]; exact Nat.ne_of_lt (blk_lt (g := gb0) (o := .cells #[.slice A0_0 l0_0.length c0_0, .int .i64 a0_1, .slice A0_2 l0_2.length c0_2] 34 (0, 0)) Yc_) : gb0 ≠ gb1)); have n6_ := Aside0.mk ((by rw [hg]; exact Nat.ne_of_gt (blk_lt (g := gb0) (o := .cells #[.slice A0_0 l0_0.length c0_0, .int .i64 a0_1, .slice A0_2 l0_2.length c0_2] 34 (0, 0)) Yc_) : gb1 ≠ gb0)); clear BK0; clear HB; have BK0 := n0_; have HB := n1_; have BK1 := n2_; have GW1 := n3_; have GE1 := n4_; have NB0_1 := n5_; have NB1_0 := n6_; clear n0_ n1_ n2_ n3_ n4_ n5_ n6_; clear hb hbox hg) | ((with_reducible refine gate_dst (N := 4) rfl ?_); refine box_event ?hg (N := 4) ?hd (cs := #[.slice none 0 0, .int .i64 0, .slice none 0 0]) (t := 34) ?hr ?_; (case hd => rfl); (case hg => rfl); (case hr => first | (go_simp; done) | (go_simp; rfl)); intro gb2 hg w27 hbox hb; have n0_ := Aside0.mk (blk_below (g := gb0) (o := .cells #[.slice A0_0 l0_0.length c0_0, .int .i64 a0_1, .slice A0_2 l0_2.length c0_2] 34 (0, 0)) Yc_ hb); have n1_ := Aside0.mk (blk_below (g := gb1) (o := .cells #[.int .i64 a1_0, .int .i64 a1_1, .int .i64 a1_2] 43 (0, 0)) Yi_ hb); have n2_ := Aside0.mk (below_step Yf_ hb); have n3_ := Aside0.mk (hbox); have n4_ := Aside0.mk ((by rw [hg]; exact (below_size Yf_) : w.heap.size ≤ gb2)); have n5_ := Aside0.mk ((by rw [hg]; exact (below_size Yf_) : w.heap.size ≤ gb2)); have n6_ := Aside0.mk ((by rw [hg]; exact Nat.ne_of_lt (blk_lt (g := gb0) (o := .cells #[.slice A0_0 l0_0.length c0_0, .int .i64 a0_1, .slice A0_2 l0_2.length c0_2] 34 (0, 0)) Yc_) : gb0 ≠ gb2)); have n7_ := Aside0.mk ((by rw [hg]; exact Nat.ne_of_gt (blk_lt (g := gb0) (o := .cells #[.slice A0_0 l0_0.length c0_0, .int .i64 a0_1, .slice A0_2 l0_2.length c0_2] 34 (0, 0)) Yc_) : gb2 ≠ gb0)); have n8_ := Aside0.mk ((by rw [hg]; exact Nat.ne_of_lt (blk_lt (g := gb1) (o := .cells #[.int .i64 a1_0, .int .i64 a1_1, .int .i64 a1_2] 43 (0, 0)) Yi_) : gb1 ≠ gb2)); have n9_ := Aside0.mk ((by rw [hg]; exact Nat.ne_of_gt (blk_lt (g := gb1) (o := .cells #[.int .i64 a1_0, .int .i64 a1_1, .int .i64 a1_2] 43 (0, 0)) Yi_) : gb2 ≠ gb1)); clear BK0; clear BK1; clear HB; have BK0 := n0_; have BK1 := n1_; have HB := n2_; have BK2 := n3_; have GW2 := n4_; have GE2 := n5_; have NB0_2 := n6_; have NB2_0 := n7_; have NB1_2 := n8_; have NB2_1 := n9_; clear n0_ n1_ n2_ n3_ n4_ n5_ n6_ n7_ n8_ n9_; clear hb hbox hg; have hnb28 := NB0_1.out; have hnc28 := NB1_0.out; have hnb29 := NB0_2.out; have hnc29 := NB2_0.out; have hcz30_0 : w27.cell? ⟨gb0, 0, none⟩ = some (.slice A0_0 l0_0.length c0_0) := (blk_cell BK0.out 0).trans rfl; have hcz30_1 : w27.cell? ⟨gb0, 1, none⟩ = some (.int .i64 a0_1) := (blk_cell BK0.out 1).trans rfl; have hcz30_2 : w27.cell? ⟨gb0, 2, none⟩ = some (.slice A0_2 l0_2.length c0_2) := (blk_cell BK0.out 2).trans rfl; have hfz30_0 := blk_frozen BK0.out 0; have hfz30_1 := blk_frozen BK0.out 1; have hfz30_2 := blk_frozen BK0.out 2) | ((with_reducible refine gate_callee (f := 13) rfl ?_); refine goesL_ (some 10) rfl rfl Try.func13 Yba_ rfl #[.agg #[.slice A0_0 l0_0.length c0_0, .int .i64 a0_1, .slice A0_2 l0_2.length c0_2]] rfl Ye_ ?_; (with_reducible refine (impl_IsValidTerminal.calls k _ _ l0_0 a0_1 _ _ l0_2 false _ ?side1 ?side2 ?side3 ?side4 A3.out).mono ?_); (case side1 => repeat (first | exact (Kd.C_below HR0_0.out HB.out) | (with_reducible refine Kd.C_alloc ?_ _) | (with_reducible refine Kd.C_drewN ?_ _) | (with_reducible refine Kd.C_drew ?_))); (case side2 => exact HC0_0.out); (case side3 => repeat (first | exact (Kd.C_below HR0_2.out HB.out) | (with_reducible refine Kd.C_alloc ?_ _) | (with_reducible refine Kd.C_drewN ?_ _) | (with_reducible refine Kd.C_drew ?_))); (case side4 => exact HC0_2.out); rintro e w31 ⟨rfl, hb⟩; refine ⟨_, rfl, ?_⟩; have n0_ := Aside0.mk (blk_below (g := gb0) (o := .cells #[.slice A0_0 l0_0.length c0_0, .int .i64 a0_1, .slice A0_2 l0_2.length c0_2] 34 (0, 0)) Yc_ hb); have n1_ := Aside0.mk (blk_below (g := gb1) (o := .cells #[.int .i64 a1_0, .int .i64 a1_1, .int .i64 a1_2] 43 (0, 0)) Yi_ hb); have n2_ := Aside0.mk (blk_below (g := gb2) (o := .cells #[.slice none 0 0, .int .i64 0, .slice none 0 0] 34 (0, 0)) Ybd_ hb); have n3_ := Aside0.mk (below_step Yh_ hb); clear BK0; clear BK1; clear BK2; clear HB; have BK0 := n0_; have BK1 := n1_; have BK2 := n2_; have HB := n3_; clear n0_ n1_ n2_ n3_; (try clear hb); (try clear hb2); (try clear hk); (try clear hi); have hnb32 := NB2_1.out; have hnc32 := NB1_2.out; have hcz33_0 : w31.cell? ⟨gb2, 0, none⟩ = some (.slice none 0 0) := (blk_cell BK2.out 0).trans rfl; have hcz33_1 : w31.cell? ⟨gb2, 1, none⟩ = some (.int .i64 0) := (blk_cell BK2.out 1).trans rfl; have hcz33_2 : w31.cell? ⟨gb2, 2, none⟩ = some (.slice none 0 0) := (blk_cell BK2.out 2).trans rfl; have hfz33_0 := blk_frozen BK2.out 0; have hfz33_1 := blk_frozen BK2.out 1; have hfz33_2 := blk_frozen BK2.out 2))
  refine bodyPost_ret (Dh rfl _ _ gb2 34 #[.slice none 0 0, .int .i64 0, .slice none 0 0] (0, 0) _ rfl Ycc_ Try.underlying34 rfl Yba_) rfl ?_
  exact ⟨fun _ => True, _, _, by first | rfl | (simp [errW_none, errW_some] <;> rfl) | (simp [*, errW_none, errW_some] <;> rfl), by first | exact Kd.S_nil _ _ _ _ _ | exact Kd.N_nil _ _ _ _ _ | exact Kd.V_nil _ _ _ _ _ | exact Kd.Q_nil _ _ _ _ _ | exact Kd.R_nil _ _ _ _ _, by first | exact Kd.S_nil _ _ _ _ _ | exact Kd.N_nil _ _ _ _ _ | exact Kd.V_nil _ _ _ _ _ | exact Kd.Q_nil _ _ _ _ _ | exact Kd.R_nil _ _ _ _ _, by repeat (first | (with_reducible first | exact HB.out | apply below_alloc | apply pw_below_drewN | apply below_drew1 | refine below_set ?_ GE0.out | refine below_set ?_ GE1.out | refine below_set ?_ GE2.out) | exact HB.out)⟩
set_option maxRecDepth 100000 in
theorem Ed.calls (k : Nat) (A0_0 : Option Addr) (c0_0 : Nat) (l0_0 : List (List Int)) (a0_1 : Int) (A0_2 : Option Addr) (c0_2 : Nat) (l0_2 : List (List Int)) (a1_0 : Int) (a1_1 : Int) (a1_2 : Int) (r1 : List (List Int)) (r2 : Int) (r3 : List (List Int)) (r4 : Bool) (w : World) (hr0_0 : Kd.C (Kd.slice 3 (Kd.int .i64)) w A0_0 l0_0.length l0_0) (hc0_0 : l0_0.length ≤ c0_0) (hr0_2 : Kd.C (Kd.slice 3 (Kd.int .i64)) w A0_2 l0_2.length l0_2) (hc0_2 : l0_2.length ≤ c0_2) (h : Ed.f k l0_0 a0_1 l0_2 a1_0 a1_1 a1_2 = some (r1, r2, r3, r4)) :
  Calls Try.prog 22 #[.agg #[.slice A0_0 l0_0.length c0_0, .int .i64 a0_1, .slice A0_2 l0_2.length c0_2], .agg #[.int .i64 a1_0, .int .i64 a1_1, .int .i64 a1_2]] w fun e w' => ∃ v0_ v2_ : Value, e = .returned (.tuple #[.agg #[v0_, .int .i64 r2, v2_], .bool r4]) ∧ Kd.S (Kd.slice 3 (Kd.int .i64)) 73 w' w.heap.size (fun k_ => some k_ ≠ (v2_ : Value).ownBlock) v0_ r1 ∧ Kd.S (Kd.slice 3 (Kd.int .i64)) 73 w' w.heap.size (fun k_ => some k_ ≠ (v0_ : Value).ownBlock) v2_ r3 ∧ Below w.heap.size w w' := by
 refine (Ed.calls2 k A0_0 c0_0 l0_0 a0_1 A0_2 c0_2 l0_2 a1_0 a1_1 a1_2 r1 r2 r3 r4 w hr0_0 hc0_0 hr0_2 hc0_2 h).mono ?_
 rintro e w' ⟨P_, v0_, v2_, he, h1, h2, hb⟩
 exact ⟨v0_, v2_, he, Kd.S_mono h1 (fun k_ hk e_ => ((Kd.S_R h2).1 k_ e_.symm) hk), Kd.S_mono h2 (fun k_ hk e_ => hk ((Kd.S_R h1).1 k_ e_.symm)), hb⟩
end Go.Proofs.Ytnggfglmjdiaaaa.X

namespace Go.Proofs.Ytnggfglmjdiaaaa.X
open Go.RowKit Go.Proofs.YtnggfglmjdiaaaaW.PrintWords Go.Proofs.YtnggfglmjdiaaaaL
theorem spec_l9Find_ev (h : Int) (l : List (List Int)) (n : Int) (hl : rowsOk l) : Ev (fun k => Ah.f k h l n) (Aq 0 l n) := by
 have key : ∀ (d i : Nat), i + d = l.length → Ev (fun k => Ah.l0 k n i h l) (Aq i (l.drop i) n) := by
  intro d
  induction d with
  | zero =>
   intro i hi
   rw [List.drop_of_length_le (by omega)]
   exact Ev.step (f := fun _ => some _) (fun k => by simp only [Ah.l0]; rw [if_neg (by omega)]; rfl) (Ev.now _)
  | succ d ih =>
   intro i hi
   have hil : i < l.length := by omega
   have hs := hl.2 _ (List.getElem_mem hil)
   have hl1 := hl.1
   rw [List.drop_eq_getElem_cons hil]
   unfold Aq
   have inner : ∀ (e j : Nat), j + e = l[i].length → Ev (fun k => Ah.l1 k n i j h l) (if idxFrom j (l[i].drop j) n ≥ 0 then ((i : Int), idxFrom j (l[i].drop j) n) else Aq (i + 1) (l.drop (i + 1)) n) := by
    intro e
    induction e with
    | zero =>
     intro j hj
     rw [List.drop_of_length_le (by omega)]
     refine Ev.step (fun k => ?_) (ih (i + 1) (by omega))
     simp only [Ah.l1]
     rw [if_pos (by omega), if_pos (by omega), rdR l i hil, if_neg (by omega), wrap_succ (by omega)]
    | succ e ih2 =>
     intro j hj
     have hjl : j < l[i].length := by omega
     rw [List.drop_eq_getElem_cons hjl]
     unfold idxFrom
     by_cases c : l[i][j] = n
     ·simp only [if_pos c, if_pos (show (j : Int) ≥ 0 by omega)]
      refine Ev.step (f := fun _ => some _) (fun k => ?_) (Ev.now _)
      simp only [Ah.l1]
      rw [if_pos (by omega), if_pos (by omega), rdR l i hil, if_pos (by omega), if_pos (by omega), rd_at l[i] j hjl, if_pos c]
     ·simp only [if_neg c]
      refine Ev.step (fun k => ?_) (ih2 (j + 1) (by omega))
      simp only [Ah.l1]
      rw [if_pos (by omega), if_pos (by omega), rdR l i hil, if_pos (by omega), if_pos (by omega), rd_at l[i] j hjl, if_neg c, wrap_succ (by omega)]
   refine Ev.step (fun k => ?_) (inner l[i].length 0 (by omega))
   simp only [Ah.l0]
   rw [if_pos (by omega)]
   rfl
 exact Ev.congr (f := fun k => Ah.l0 k n ((0 : Nat) : Int) h l) (fun k => rfl) (by simpa using key l.length 0 (by omega))
end Go.Proofs.Ytnggfglmjdiaaaa.X

namespace Go.Proofs.Ytnggfglmjdiaaaa.X
open Go.RowKit Go.Proofs.YtnggfglmjdiaaaaW.PrintWords Go.Proofs.YtnggfglmjdiaaaaL Go.Proofs.YtnggfglmjdiaaaaOwn
/-- At most six rows of at most m numbers. -/
def sm (m : Nat) (l : Rows) : Prop := l.length ≤ 6 ∧ ∀ s ∈ l, s.length ≤ m
theorem sm_ok {m : Nat} {l : Rows} (h : sm m l) (hm : m ≤ 1048576) : rowsOk l := ⟨by have := h.1; omega, fun s hs => by have := h.2 s hs; omega⟩
theorem sm_up {m n : Nat} {l : Rows} (h : sm m l) (hm : m ≤ n) : sm n l := ⟨h.1, fun s hs => by have := h.2 s hs; omega⟩
theorem sm_rd {m : Nat} {l : Rows} (h : sm m l) (i : Int) : (rd_L1 l i).length ≤ m := by
 unfold rd_L1
 rw [List.getD_eq_getElem?_getD]
 cases e : l[i.toNat]? with
 | none => simp
 | some s => exact h.2 s (List.mem_of_getElem? e)
theorem sm_set {m : Nat} {l : Rows} (h : sm m l) (i : Nat) {s : List Int} (hs : s.length ≤ m) : sm m (l.set i s) := by
 refine ⟨by rw [List.length_set]; exact h.1, fun x hx => ?_⟩
 rcases List.mem_or_eq_of_mem_set hx with hx | rfl
 ·exact h.2 x hx
 ·exact hs
theorem sm_cut {m : Nat} {l : Rows} (h : sm m l) (i : Int) : sm m (cutRow l i) := sm_set h _ (by rw [List.length_take]; have := sm_rd h i; omega)
theorem sm_put {m : Nat} {l : Rows} (h : sm m l) (i b : Int) : sm (m + 1) (putRow l i b) := sm_set (sm_up h (by omega)) _ (by rw [List.length_append, List.length_singleton]; have := sm_rd h i; omega)
theorem term_sm {Y : Rows} {h : Int} {B : Rows} (ok : termOk Y h B = true) : sm 4 Y ∧ sm 4 B := by
 obtain ⟨h1, h2, _, h4, h5, _⟩ := term_small Y h B ok
 exact ⟨⟨h1, h4⟩, ⟨by omega, h5⟩⟩
theorem term_nodup {Y : Rows} {h : Int} {B : Rows} (ok : termOk Y h B = true) : Y.flatten.Nodup ∧ B.flatten.Nodup ∧ (∀ s ∈ Y, ∀ n ∈ s, 1 ≤ n ∧ n ≤ 99) ∧ (∀ s ∈ B, ∀ n ∈ s, 1 ≤ n ∧ n ≤ 99) ∧ ∀ s ∈ B, ∀ n ∈ s, (Aq 0 Y n).1 < 0 := by
 unfold termOk yardOk bayOk at ok
 simp only [Bool.and_eq_true, decide_eq_true_eq] at ok
 obtain ⟨⟨⟨_, a3⟩, ⟨_, b4⟩⟩, c⟩ := ok
 have h1 := (goodRows_iff 4 Y [] List.nodup_nil).1 a3
 have h2 := (goodRows_iff h B [] List.nodup_nil).1 b4
 refine ⟨by simpa using h1.2.2, by simpa using h2.2.2, h1.2.1, h2.2.1, fun s hs n hn => ?_⟩
 have := List.all_eq_true.1 c s hs
 exact of_decide_eq_true (List.all_eq_true.1 this n hn)
theorem ans_ev {Y : Rows} {h : Int} {B : Rows} (a : Int) (hY : sm 5 Y) (hB : sm 5 B) : Ev (fun k => (impl_IsValidTerminal.f k Y h B).bind fun v => moAnswer v Y h B a) (finI Y h B a) := by
 refine Ev.bind (implTerm_ev Y h B (sm_ok hY (by omega)) (sm_ok hB (by omega))) ?_
 unfold finI moAnswer
 by_cases c : termOk Y h B = true
 ·simp only [if_pos c]; exact Ev.now _
 ·simp only [if_neg c]; exact Ev.now _
theorem implMk_ev (Y : Rows) (h : Int) (B : Rows) (K b d : Int) (hY : sm 4 Y) (hB : sm 4 B) : Ev (fun k => impl_makeOrder.f k Y h B K b d) (makeI Y h B K b d) := by
 unfold impl_makeOrder.f
 refine Ev.bind (implOwnTerm_ev Y h B (sm_ok hY (by omega)) (sm_ok hB (by omega))) ?_
 unfold makeI
 dsimp only
 have f1 := sm_rd (sm_cut hY (idxRow (topIs b) Y)) d
 have f2 := sm_rd hB d
 have f3 := sm_rd hY d
 by_cases k1 : K = 1
 ·simp only [if_pos k1]
  by_cases c : idxRow (topIs b) Y < 0
  ·simp only [if_pos c]; exact Ev.now _
  ·simp only [if_neg c]
   by_cases c2 : inRows Y d = true
   ·simp only [if_pos c2]
    by_cases c3 : d = idxRow (topIs b) Y
    ·simp only [if_pos c3]; exact Ev.now _
    ·simp only [if_neg c3]
     refine ev_if (by omega) (ans_ev _ (sm_put (sm_cut hY _) _ _) (sm_up hB (by omega)))
   ·simp only [if_neg c2]; exact Ev.now _
 ·simp only [if_neg k1]
  by_cases k2 : K = 2
  ·simp only [if_pos k2]
   by_cases c : idxRow (topIs b) Y < 0
   ·simp only [if_pos c]; exact Ev.now _
   ·simp only [if_neg c]
    by_cases c2 : inRows B d = true
    ·simp only [if_pos c2]
     refine ev_if (by omega) (ans_ev _ (sm_up (sm_cut hY _) (by omega)) (sm_put hB _ _))
    ·simp only [if_neg c2]; exact Ev.now _
  ·simp only [if_neg k2]
   by_cases k3 : K = 3
   ·simp only [if_pos k3]
    by_cases c : idxRow (topIs b) B < 0
    ·simp only [if_pos c]; exact Ev.now _
    ·simp only [if_neg c]
     by_cases c2 : inRows Y d = true
     ·simp only [if_pos c2]
      refine ev_if (by omega) (ans_ev _ (sm_put hY _ _) (sm_up (sm_cut hB _) (by omega)))
     ·simp only [if_neg c2]; exact Ev.now _
   ·simp only [if_neg k3]; exact Ev.now _
theorem inRows_cut (l : Rows) (i d : Int) : inRows (cutRow l i) d = inRows l d := by unfold inRows; rw [len_cut]
theorem lmFin_ev {Y : Rows} {h : Int} {B : Rows} (hY : sm 5 Y) (hB : sm 5 B) : Ev (fun k => (Ac.f k Y h B).bind fun v => Ff v Y h B) (finS Y h B) := by
 refine Ev.bind (specTerm_ev Y h B (sm_ok hY (by omega)) (sm_ok hB (by omega))) ?_
 unfold finS Ff
 by_cases c : termOk Y h B = true
 ·simp only [if_pos c]; exact Ev.now _
 ·simp only [if_neg c]; exact Ev.now _
theorem lmPutY_ev (Y : Rows) (h : Int) (B : Rows) (b d : Int) (hY : sm 4 Y) (hB : sm 4 B) : Ev (fun k => lmPutY k Y h B b d) (if inRows Y d = true then finS (putRow Y d b) h B else ([], 0, [], false)) := by
 unfold lmPutY
 have f := sm_rd hY d
 by_cases c : inRows Y d = true
 ·simp only [if_pos c]
  have e : Df.f (rd_L1 Y d) = some (rd_L1 Y d) := l1Own_eq _ (by omega)
  simp only [e, Option.isSome_some, if_true, Option.bind_some]
  exact ev_if (by omega) (lmFin_ev (Y := putRow Y d b) (sm_put hY _ _) (sm_up hB (by omega)))
 ·simp only [if_neg c]; exact Ev.now _
theorem lmPutB_ev (Y : Rows) (h : Int) (B : Rows) (b d : Int) (hY : sm 4 Y) (hB : sm 4 B) : Ev (fun k => lmPutB k Y h B b d) (if inRows B d = true then finS Y h (putRow B d b) else ([], 0, [], false)) := by
 unfold lmPutB
 have f := sm_rd hB d
 by_cases c : inRows B d = true
 ·simp only [if_pos c]
  have e : Df.f (rd_L1 B d) = some (rd_L1 B d) := l1Own_eq _ (by omega)
  simp only [e, Option.isSome_some, if_true, Option.bind_some]
  exact ev_if (by omega) (lmFin_ev (B := putRow B d b) (sm_up hY (by omega)) (sm_put hB _ _))
 ·simp only [if_neg c]; exact Ev.now _
theorem lmCut_eq (F : Rows) (b : Int) (ok : Bool) (go : Rows → Option (Rows × Int × Rows × Bool)) :
  lmCut F F (Aq 0 F b).1 (Aq 0 F b).2 ok go = if En F (Aq 0 F b) then (if ok = true then go (cutRow F (Aq 0 F b).1) else some ([], 0, [], false)) else some ([], 0, [], false) := by
 have hl : 0 ≤ (Aq 0 F b).1 → (Aq 0 F b).1 < (F.length : Int) ∧ 0 ≤ (Aq 0 F b).2 := by
  intro h0
  obtain ⟨i, j, s, he, h1, h2⟩ := find_hit F 0 b h0
  have hi := (List.getElem?_eq_some_iff.1 h1).1
  rw [he]
  simp only [Nat.zero_add]
  omega
 by_cases L : En F (Aq 0 F b)
 ·rw [if_pos L]
  obtain ⟨L1, L2⟩ := L
  obtain ⟨h1, h2⟩ := hl L1
  unfold lmCut
  rw [if_neg (show ¬ (Aq 0 F b).1 < 0 by omega), if_pos h1, if_pos L2]
  by_cases c3 : ok = true
  ·rw [if_pos c3, if_pos c3, if_pos (show 0 ≤ (Aq 0 F b).2 ∧ (Aq 0 F b).1 < (F.length : Int) ∧ (Aq 0 F b).2 ≤ ((rd_L1 F (Aq 0 F b).1).length : Int) by omega)]
   unfold cutAt cutRow
   rw [show ((Aq 0 F b).2).toNat = (rd_L1 F (Aq 0 F b).1).length - 1 by omega]
  ·rw [if_neg c3, if_neg c3]
 ·rw [if_neg L]
  unfold lmCut
  by_cases c : (Aq 0 F b).1 < 0
  ·rw [if_pos c]
  ·rw [if_neg c, if_pos (hl (by omega)).1, if_neg (fun z => L ⟨by omega, z⟩)]
theorem specMk_ev (Y : Rows) (h : Int) (B : Rows) (K b d : Int) (hY : sm 4 Y) (hB : sm 4 B) : Ev (fun k => spec_l24Make.f k Y h B K b d) (makeS Y h B K b d) := by
 unfold spec_l24Make.f
 refine Ev.bind (specOwnTerm_ev Y h B (sm_ok hY (by omega)) (sm_ok hB (by omega))) ?_
 unfold makeS
 dsimp only
 by_cases k3 : K = 3
 ·simp only [if_pos k3]
  refine Ev.bind (spec_l9Find_ev h B b (sm_ok hB (by omega))) ?_
  simp only [lmCut_eq, if_true]
  by_cases c : En B (Aq 0 B b)
  ·simp only [if_pos c]
   exact lmPutY_ev Y h _ b d hY (sm_cut hB _)
  ·simp only [if_neg c]; exact Ev.now _
 ·simp only [if_neg k3]
  refine Ev.bind (spec_l5Find_ev Y b (sm_ok hY (by omega))) ?_
  simp only [lmCut_eq]
  by_cases k1 : K = 1
  ·simp only [if_pos k1]
   by_cases c : En Y (Aq 0 Y b)
   ·simp only [if_pos c]
    by_cases c2 : d = (Aq 0 Y b).1
    ·rw [if_pos c2]
     exact ev_eq (fun k => if_neg (by simp [c2]))
    ·rw [if_neg c2]
     refine Ev.congr (fun k => if_pos (by simp [c2])) ?_
     have := lmPutY_ev (cutRow Y (Aq 0 Y b).1) h B b d (sm_cut hY _) hB
     rw [inRows_cut] at this
     exact this
   ·simp only [if_neg c]; exact Ev.now _
  ·simp only [if_neg k1]
   by_cases k2 : K = 2
   ·simp only [if_pos k2, if_true]
    by_cases c : En Y (Aq 0 Y b)
    ·simp only [if_pos c]
     exact lmPutB_ev _ h B b d (sm_cut hY _) hB
    ·simp only [if_neg c]; exact Ev.now _
   ·simp only [if_neg k2, if_true]
    by_cases c : En Y (Aq 0 Y b)
    ·simp only [if_pos c]; exact Ev.now _
    ·simp only [if_neg c]; exact Ev.now _
theorem makeI_etaP {Y : Rows} {h : Int} {B : Rows} {K b d : Int} (c : (makeI Y h B K b d).2.2.2.2 = true) : makeI Y h B K b d = ((makeI Y h B K b d).1, (makeI Y h B K b d).2.1, (makeI Y h B K b d).2.2.1, (makeI Y h B K b d).2.2.2.1, true) := by
 rw [← c]
theorem specMk4_ev {Y : Rows} {h : Int} {B : Rows} (K b d : Int) (ok : termOk Y h B = true) : Ev (fun k => spec_l24Make.f k Y h B K b d) (four (makeI Y h B K b d)) := by
 obtain ⟨h1, h2, _⟩ := term_nodup ok
 rw [← make_eq h1 h2]
 exact specMk_ev Y h B K b d (term_sm ok).1 (term_sm ok).2
end Go.Proofs.Ytnggfglmjdiaaaa.X

