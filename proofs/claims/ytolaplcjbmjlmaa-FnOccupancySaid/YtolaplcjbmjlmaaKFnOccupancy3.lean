/- Texts that the proof of the law FnOccupancy leans on, part 4 of 6. -/
import Derived.Deep.Slices
import Derived.ChangeSame
import Derived.ChangeArms
import Derived.DataReads
import Derived.SizedLaws
import Derived.ProofKit
import Derived.Lib.SmallJoins
import Derived.ChangeOld
import Derived.Below
import Derived.Test.YtolaplcjbmjlmaaKFnOccupancy0
import Derived.Test.YtolaplcjbmjlmaaKFnOccupancy1
import Derived.Test.YtolaplcjbmjlmaaKFnOccupancy2
-- written by a program of this session (wip/ext.py) out of the translation. Not trusted: Lean checks it.
namespace Go.Proofs.Ytolaplcjbmjlmaa.X
open Go.RowKit Go.Proofs.YtolaplcjbmjlmaaW.PrintWords Go.Proofs.YtolaplcjbmjlmaaW.PrintLast Go.Proofs.YtolaplcjbmjlmaaW.PrintMore
attribute [local go_sem] max2_int min2_int max_two min_two max_three min_three max_four min_four   -- for this text's walks alone
set_option linter.unusedVariables false
set_option linter.unusedSimpArgs false

/-! ### spec_DrawOccupancy: function 37 -/
def spec_DrawOccupancy.f (k : Nat) (l0 : List Int) : Option ((List (S59)) × Int × Int × Int) := (spec_l1Cur_stays.f k l0 0 0).bind fun bt420 => ((some (([0, 5, 20, 239, (-1), 240] : List Int) : List Int)).bind fun y425 => ((spec_l1Cur_pick.f l0 bt420.2.1 bt420.2.2 24).bind fun bt428 => (if 0 ≤ (wrap64 (4 + (wrap64 (Int.tdiv bt428.1 11)))) then (if (wrap64 (4 + (wrap64 (Int.tdiv bt428.1 11)))) ≤ (y425.length : Int) then ((spec_l1Cur_among.f l0 bt428.2.1 bt428.2.2 (y425.take ((wrap64 (4 + (wrap64 (Int.tdiv bt428.1 11)))) : Int).toNat)).bind fun bt435 => ((some (([240, 30, 60, wrap64 (bt435.1 + 1), bt435.1, 241] : List Int) : List Int)).bind fun y438 => ((spec_l1Cur_pick.f l0 bt435.2.1 bt435.2.2 24).bind fun bt441 => (if 0 ≤ (wrap64 (4 + (wrap64 (Int.tdiv bt441.1 11)))) then (if (wrap64 (4 + (wrap64 (Int.tdiv bt441.1 11)))) ≤ (y438.length : Int) then ((spec_l1Cur_among.f l0 bt441.2.1 bt441.2.2 (y438.take ((wrap64 (4 + (wrap64 (Int.tdiv bt441.1 11)))) : Int).toNat)).bind fun bt448 => ((some (([1, 2, 6, 1000, 0, 1001] : List Int) : List Int)).bind fun y451 => ((spec_l1Cur_pick.f l0 bt448.2.1 bt448.2.2 24).bind fun bt454 => (if 0 ≤ (wrap64 (4 + (wrap64 (Int.tdiv bt454.1 11)))) then (if (wrap64 (4 + (wrap64 (Int.tdiv bt454.1 11)))) ≤ (y451.length : Int) then ((spec_l1Cur_among.f l0 bt454.2.1 bt454.2.2 (y451.take ((wrap64 (4 + (wrap64 (Int.tdiv bt454.1 11)))) : Int).toNat)).bind fun bt461 => (some (bt420.1, bt435.1, bt448.1, bt461.1))) else (none)) else (none))))) else (none)) else (none))))) else (none)) else (none))))
theorem spec_DrawOccupancy.mono : ∀ a0 k, LeO (spec_DrawOccupancy.f k a0) (spec_DrawOccupancy.f (k + 1) a0) := by
  intro a0 k
  unfold spec_DrawOccupancy.f
  repeat' first
      | (with_reducible exact spec_l1Cur_stays.mono _ _ _ _)
      | (with_reducible exact LeO.refl _)
      | (with_reducible exact LeO.none _)
      | (with_reducible refine LeO.ite ?_ ?_)
      | (with_reducible refine LeO.bind ?_ (fun _ => ?_))
      | exact spec_l1Cur_stays.mono _ _ _ _
      | exact LeO.none _
      | refine LeO.ite ?_ ?_
      | refine LeO.bind ?_ (fun _ => ?_)
set_option maxHeartbeats 8000000 in
set_option maxRecDepth 100000 in
theorem spec_DrawOccupancy.calls (k : Nat) (A0 : Option Addr) (c0 : Nat) (l0 : List Int) (r1 : List (S59)) (r2 : Int) (r3 : Int) (r4 : Int) (w : World) (hr0 : Kd.C (Kd.int .u8) w A0 l0.length l0) (hc0 : l0.length ≤ c0) (h : spec_DrawOccupancy.f k l0 = some (r1, r2, r3, r4)) :
    Calls Try.prog 37 #[.slice A0 l0.length c0] w fun e w' => ∃ v0_ : Value, e = .returned (.tuple #[v0_, .int .i64 r2, .int .i64 r3, .int .i64 r4]) ∧ Kd.R k59 59 w' w.heap.size (fun _ => True) v0_ r1 ∧ Below w.heap.size w w' := by
  have hu73 := Try.underlying73
  have HR0 := Aside0.mk hr0
  have HC0 := Aside0.mk hc0
  clear hr0 hc0
  have HB := Aside0.mk (Below.refl w.heap.size w)
  have H : ((spec_l1Cur_stays.f k l0 0 0).bind fun bt420 => ((some (([0, 5, 20, 239, (-1), 240] : List Int) : List Int)).bind fun y425 => ((spec_l1Cur_pick.f l0 bt420.2.1 bt420.2.2 24).bind fun bt428 => (if 0 ≤ (wrap64 (4 + (wrap64 (Int.tdiv bt428.1 11)))) then (if (wrap64 (4 + (wrap64 (Int.tdiv bt428.1 11)))) ≤ (y425.length : Int) then ((spec_l1Cur_among.f l0 bt428.2.1 bt428.2.2 (y425.take ((wrap64 (4 + (wrap64 (Int.tdiv bt428.1 11)))) : Int).toNat)).bind fun bt435 => ((some (([240, 30, 60, wrap64 (bt435.1 + 1), bt435.1, 241] : List Int) : List Int)).bind fun y438 => ((spec_l1Cur_pick.f l0 bt435.2.1 bt435.2.2 24).bind fun bt441 => (if 0 ≤ (wrap64 (4 + (wrap64 (Int.tdiv bt441.1 11)))) then (if (wrap64 (4 + (wrap64 (Int.tdiv bt441.1 11)))) ≤ (y438.length : Int) then ((spec_l1Cur_among.f l0 bt441.2.1 bt441.2.2 (y438.take ((wrap64 (4 + (wrap64 (Int.tdiv bt441.1 11)))) : Int).toNat)).bind fun bt448 => ((some (([1, 2, 6, 1000, 0, 1001] : List Int) : List Int)).bind fun y451 => ((spec_l1Cur_pick.f l0 bt448.2.1 bt448.2.2 24).bind fun bt454 => (if 0 ≤ (wrap64 (4 + (wrap64 (Int.tdiv bt454.1 11)))) then (if (wrap64 (4 + (wrap64 (Int.tdiv bt454.1 11)))) ≤ (y451.length : Int) then ((spec_l1Cur_among.f l0 bt454.2.1 bt454.2.2 (y451.take ((wrap64 (4 + (wrap64 (Int.tdiv bt454.1 11)))) : Int).toNat)).bind fun bt461 => (some (bt420.1, bt435.1, bt448.1, bt461.1))) else (none)) else (none))))) else (none)) else (none))))) else (none)) else (none))))) = some (r1, r2, r3, r4) := h
  clear h
  replace H := Option.bind_eq_some_iff.mp H
  obtain ⟨⟨t420, t423, t424⟩, A20, H⟩ := H
  replace H : ((some (([0, 5, 20, 239, (-1), 240] : List Int) : List Int)).bind fun y425 => ((spec_l1Cur_pick.f l0 t423 t424 24).bind fun bt428 => (if 0 ≤ (wrap64 (4 + (wrap64 (Int.tdiv bt428.1 11)))) then (if (wrap64 (4 + (wrap64 (Int.tdiv bt428.1 11)))) ≤ (y425.length : Int) then ((spec_l1Cur_among.f l0 bt428.2.1 bt428.2.2 (y425.take ((wrap64 (4 + (wrap64 (Int.tdiv bt428.1 11)))) : Int).toNat)).bind fun bt435 => ((some (([240, 30, 60, wrap64 (bt435.1 + 1), bt435.1, 241] : List Int) : List Int)).bind fun y438 => ((spec_l1Cur_pick.f l0 bt435.2.1 bt435.2.2 24).bind fun bt441 => (if 0 ≤ (wrap64 (4 + (wrap64 (Int.tdiv bt441.1 11)))) then (if (wrap64 (4 + (wrap64 (Int.tdiv bt441.1 11)))) ≤ (y438.length : Int) then ((spec_l1Cur_among.f l0 bt441.2.1 bt441.2.2 (y438.take ((wrap64 (4 + (wrap64 (Int.tdiv bt441.1 11)))) : Int).toNat)).bind fun bt448 => ((some (([1, 2, 6, 1000, 0, 1001] : List Int) : List Int)).bind fun y451 => ((spec_l1Cur_pick.f l0 bt448.2.1 bt448.2.2 24).bind fun bt454 => (if 0 ≤ (wrap64 (4 + (wrap64 (Int.tdiv bt454.1 11)))) then (if (wrap64 (4 + (wrap64 (Int.tdiv bt454.1 11)))) ≤ (y451.length : Int) then ((spec_l1Cur_among.f l0 bt454.2.1 bt454.2.2 (y451.take ((wrap64 (4 + (wrap64 (Int.tdiv bt454.1 11)))) : Int).toNat)).bind fun bt461 => (some (t420, bt435.1, bt448.1, bt461.1))) else (none)) else (none))))) else (none)) else (none))))) else (none)) else (none)))) = some (r1, r2, r3, r4) := H
  have A2 := Aside0.mk A20
  clear A20
  obtain ⟨y425, hy425⟩ : ∃ y_ : List Int, y_ = (([0, 5, 20, 239, (-1), 240] : List Int)) := ⟨_, rfl⟩
  replace H : ((spec_l1Cur_pick.f l0 t423 t424 24).bind fun bt428 => (if 0 ≤ (wrap64 (4 + (wrap64 (Int.tdiv bt428.1 11)))) then (if (wrap64 (4 + (wrap64 (Int.tdiv bt428.1 11)))) ≤ (y425.length : Int) then ((spec_l1Cur_among.f l0 bt428.2.1 bt428.2.2 (y425.take ((wrap64 (4 + (wrap64 (Int.tdiv bt428.1 11)))) : Int).toNat)).bind fun bt435 => ((some (([240, 30, 60, wrap64 (bt435.1 + 1), bt435.1, 241] : List Int) : List Int)).bind fun y438 => ((spec_l1Cur_pick.f l0 bt435.2.1 bt435.2.2 24).bind fun bt441 => (if 0 ≤ (wrap64 (4 + (wrap64 (Int.tdiv bt441.1 11)))) then (if (wrap64 (4 + (wrap64 (Int.tdiv bt441.1 11)))) ≤ (y438.length : Int) then ((spec_l1Cur_among.f l0 bt441.2.1 bt441.2.2 (y438.take ((wrap64 (4 + (wrap64 (Int.tdiv bt441.1 11)))) : Int).toNat)).bind fun bt448 => ((some (([1, 2, 6, 1000, 0, 1001] : List Int) : List Int)).bind fun y451 => ((spec_l1Cur_pick.f l0 bt448.2.1 bt448.2.2 24).bind fun bt454 => (if 0 ≤ (wrap64 (4 + (wrap64 (Int.tdiv bt454.1 11)))) then (if (wrap64 (4 + (wrap64 (Int.tdiv bt454.1 11)))) ≤ (y451.length : Int) then ((spec_l1Cur_among.f l0 bt454.2.1 bt454.2.2 (y451.take ((wrap64 (4 + (wrap64 (Int.tdiv bt454.1 11)))) : Int).toNat)).bind fun bt461 => (some (t420, bt435.1, bt448.1, bt461.1))) else (none)) else (none))))) else (none)) else (none))))) else (none)) else (none))) = some (r1, r2, r3, r4) := by first | (rw [hy425]; with_reducible exact H) | (have H2_ := (Option.bind_some _ _).symm.trans H; rw [hy425]; with_reducible exact H2_) | (have H2_ := (Option.bind_some _ _).symm.trans H; with_reducible exact H2_) | with_reducible exact H | (rw [hy425]; exact H) | exact H
  have Ny425 := Aside0.mk hy425
  clear hy425
  replace H := Option.bind_eq_some_iff.mp H
  obtain ⟨⟨t428, t429, t430⟩, A30, H⟩ := H
  replace H : (if 0 ≤ (wrap64 (4 + (wrap64 (Int.tdiv t428 11)))) then (if (wrap64 (4 + (wrap64 (Int.tdiv t428 11)))) ≤ (y425.length : Int) then ((spec_l1Cur_among.f l0 t429 t430 (y425.take ((wrap64 (4 + (wrap64 (Int.tdiv t428 11)))) : Int).toNat)).bind fun bt435 => ((some (([240, 30, 60, wrap64 (bt435.1 + 1), bt435.1, 241] : List Int) : List Int)).bind fun y438 => ((spec_l1Cur_pick.f l0 bt435.2.1 bt435.2.2 24).bind fun bt441 => (if 0 ≤ (wrap64 (4 + (wrap64 (Int.tdiv bt441.1 11)))) then (if (wrap64 (4 + (wrap64 (Int.tdiv bt441.1 11)))) ≤ (y438.length : Int) then ((spec_l1Cur_among.f l0 bt441.2.1 bt441.2.2 (y438.take ((wrap64 (4 + (wrap64 (Int.tdiv bt441.1 11)))) : Int).toNat)).bind fun bt448 => ((some (([1, 2, 6, 1000, 0, 1001] : List Int) : List Int)).bind fun y451 => ((spec_l1Cur_pick.f l0 bt448.2.1 bt448.2.2 24).bind fun bt454 => (if 0 ≤ (wrap64 (4 + (wrap64 (Int.tdiv bt454.1 11)))) then (if (wrap64 (4 + (wrap64 (Int.tdiv bt454.1 11)))) ≤ (y451.length : Int) then ((spec_l1Cur_among.f l0 bt454.2.1 bt454.2.2 (y451.take ((wrap64 (4 + (wrap64 (Int.tdiv bt454.1 11)))) : Int).toNat)).bind fun bt461 => (some (t420, bt435.1, bt448.1, bt461.1))) else (none)) else (none))))) else (none)) else (none))))) else (none)) else (none)) = some (r1, r2, r3, r4) := H
  have A3 := Aside0.mk A30
  clear A30
  obtain ⟨ji4, hji4⟩ : ∃ j_ : Int, (wrap64 (4 + (wrap64 (Int.tdiv t428 11)))) = j_ := ⟨_, rfl⟩
  replace H : (if 0 ≤ (ji4) then (if (ji4) ≤ (y425.length : Int) then ((spec_l1Cur_among.f l0 t429 t430 (y425.take ((ji4) : Int).toNat)).bind fun bt435 => ((some (([240, 30, 60, wrap64 (bt435.1 + 1), bt435.1, 241] : List Int) : List Int)).bind fun y438 => ((spec_l1Cur_pick.f l0 bt435.2.1 bt435.2.2 24).bind fun bt441 => (if 0 ≤ (wrap64 (4 + (wrap64 (Int.tdiv bt441.1 11)))) then (if (wrap64 (4 + (wrap64 (Int.tdiv bt441.1 11)))) ≤ (y438.length : Int) then ((spec_l1Cur_among.f l0 bt441.2.1 bt441.2.2 (y438.take ((wrap64 (4 + (wrap64 (Int.tdiv bt441.1 11)))) : Int).toNat)).bind fun bt448 => ((some (([1, 2, 6, 1000, 0, 1001] : List Int) : List Int)).bind fun y451 => ((spec_l1Cur_pick.f l0 bt448.2.1 bt448.2.2 24).bind fun bt454 => (if 0 ≤ (wrap64 (4 + (wrap64 (Int.tdiv bt454.1 11)))) then (if (wrap64 (4 + (wrap64 (Int.tdiv bt454.1 11)))) ≤ (y451.length : Int) then ((spec_l1Cur_among.f l0 bt454.2.1 bt454.2.2 (y451.take ((wrap64 (4 + (wrap64 (Int.tdiv bt454.1 11)))) : Int).toNat)).bind fun bt461 => (some (t420, bt435.1, bt448.1, bt461.1))) else (none)) else (none))))) else (none)) else (none))))) else (none)) else (none)) = some (r1, r2, r3, r4) := by first | (rw [hji4] at H; exact H) | (simp only [hji4] at H ⊢; exact H)
  (try rw [hji4] at A2)
  (try rw [hji4] at A3)
  have hji4w : (IntKind.i64.wrap (4 + (wrap64 (Int.tdiv t428 11)))) = ji4 := (i64_w _).trans hji4
  by_cases c5 : 0 ≤ (ji4)
  · rw [if_pos c5] at H
    have c5b0 := eq_true c5
    have c5b1 : decide (0 ≤ (ji4)) = true := decide_eq_true c5
    clear c5
    by_cases c6 : (ji4) ≤ (y425.length : Int)
    · rw [if_pos c6] at H
      have c6b0 := eq_true c6
      have c6b1 : decide ((ji4) ≤ (y425.length : Int)) = true := decide_eq_true c6
      clear c6
      obtain ⟨y431, hy431⟩ : ∃ y_ : List Int, y_ = (y425.take ((ji4) : Int).toNat) := ⟨_, rfl⟩
      replace H : ((spec_l1Cur_among.f l0 t429 t430 y431).bind fun bt435 => ((some (([240, 30, 60, wrap64 (bt435.1 + 1), bt435.1, 241] : List Int) : List Int)).bind fun y438 => ((spec_l1Cur_pick.f l0 bt435.2.1 bt435.2.2 24).bind fun bt441 => (if 0 ≤ (wrap64 (4 + (wrap64 (Int.tdiv bt441.1 11)))) then (if (wrap64 (4 + (wrap64 (Int.tdiv bt441.1 11)))) ≤ (y438.length : Int) then ((spec_l1Cur_among.f l0 bt441.2.1 bt441.2.2 (y438.take ((wrap64 (4 + (wrap64 (Int.tdiv bt441.1 11)))) : Int).toNat)).bind fun bt448 => ((some (([1, 2, 6, 1000, 0, 1001] : List Int) : List Int)).bind fun y451 => ((spec_l1Cur_pick.f l0 bt448.2.1 bt448.2.2 24).bind fun bt454 => (if 0 ≤ (wrap64 (4 + (wrap64 (Int.tdiv bt454.1 11)))) then (if (wrap64 (4 + (wrap64 (Int.tdiv bt454.1 11)))) ≤ (y451.length : Int) then ((spec_l1Cur_among.f l0 bt454.2.1 bt454.2.2 (y451.take ((wrap64 (4 + (wrap64 (Int.tdiv bt454.1 11)))) : Int).toNat)).bind fun bt461 => (some (t420, bt435.1, bt448.1, bt461.1))) else (none)) else (none))))) else (none)) else (none))))) = some (r1, r2, r3, r4) := by first | (rw [hy431]; with_reducible exact H) | (have H2_ := (Option.bind_some _ _).symm.trans H; rw [hy431]; with_reducible exact H2_) | (have H2_ := (Option.bind_some _ _).symm.trans H; with_reducible exact H2_) | with_reducible exact H | (rw [hy431]; exact H) | exact H
      have Ny431 := Aside0.mk hy431
      clear hy431
      replace H := Option.bind_eq_some_iff.mp H
      obtain ⟨⟨t435, t436, t437⟩, A70, H⟩ := H
      replace H : ((some (([240, 30, 60, wrap64 (t435 + 1), t435, 241] : List Int) : List Int)).bind fun y438 => ((spec_l1Cur_pick.f l0 t436 t437 24).bind fun bt441 => (if 0 ≤ (wrap64 (4 + (wrap64 (Int.tdiv bt441.1 11)))) then (if (wrap64 (4 + (wrap64 (Int.tdiv bt441.1 11)))) ≤ (y438.length : Int) then ((spec_l1Cur_among.f l0 bt441.2.1 bt441.2.2 (y438.take ((wrap64 (4 + (wrap64 (Int.tdiv bt441.1 11)))) : Int).toNat)).bind fun bt448 => ((some (([1, 2, 6, 1000, 0, 1001] : List Int) : List Int)).bind fun y451 => ((spec_l1Cur_pick.f l0 bt448.2.1 bt448.2.2 24).bind fun bt454 => (if 0 ≤ (wrap64 (4 + (wrap64 (Int.tdiv bt454.1 11)))) then (if (wrap64 (4 + (wrap64 (Int.tdiv bt454.1 11)))) ≤ (y451.length : Int) then ((spec_l1Cur_among.f l0 bt454.2.1 bt454.2.2 (y451.take ((wrap64 (4 + (wrap64 (Int.tdiv bt454.1 11)))) : Int).toNat)).bind fun bt461 => (some (t420, t435, bt448.1, bt461.1))) else (none)) else (none))))) else (none)) else (none)))) = some (r1, r2, r3, r4) := H
      have A7 := Aside0.mk A70
      clear A70
      obtain ⟨y438, hy438⟩ : ∃ y_ : List Int, y_ = (([240, 30, 60, wrap64 (t435 + 1), t435, 241] : List Int)) := ⟨_, rfl⟩
      replace H : ((spec_l1Cur_pick.f l0 t436 t437 24).bind fun bt441 => (if 0 ≤ (wrap64 (4 + (wrap64 (Int.tdiv bt441.1 11)))) then (if (wrap64 (4 + (wrap64 (Int.tdiv bt441.1 11)))) ≤ (y438.length : Int) then ((spec_l1Cur_among.f l0 bt441.2.1 bt441.2.2 (y438.take ((wrap64 (4 + (wrap64 (Int.tdiv bt441.1 11)))) : Int).toNat)).bind fun bt448 => ((some (([1, 2, 6, 1000, 0, 1001] : List Int) : List Int)).bind fun y451 => ((spec_l1Cur_pick.f l0 bt448.2.1 bt448.2.2 24).bind fun bt454 => (if 0 ≤ (wrap64 (4 + (wrap64 (Int.tdiv bt454.1 11)))) then (if (wrap64 (4 + (wrap64 (Int.tdiv bt454.1 11)))) ≤ (y451.length : Int) then ((spec_l1Cur_among.f l0 bt454.2.1 bt454.2.2 (y451.take ((wrap64 (4 + (wrap64 (Int.tdiv bt454.1 11)))) : Int).toNat)).bind fun bt461 => (some (t420, t435, bt448.1, bt461.1))) else (none)) else (none))))) else (none)) else (none))) = some (r1, r2, r3, r4) := by first | (rw [hy438]; with_reducible exact H) | (have H2_ := (Option.bind_some _ _).symm.trans H; rw [hy438]; with_reducible exact H2_) | (have H2_ := (Option.bind_some _ _).symm.trans H; with_reducible exact H2_) | with_reducible exact H | (rw [hy438]; exact H) | exact H
      have Ny438 := Aside0.mk hy438
      clear hy438
      replace H := Option.bind_eq_some_iff.mp H
      obtain ⟨⟨t441, t442, t443⟩, A80, H⟩ := H
      replace H : (if 0 ≤ (wrap64 (4 + (wrap64 (Int.tdiv t441 11)))) then (if (wrap64 (4 + (wrap64 (Int.tdiv t441 11)))) ≤ (y438.length : Int) then ((spec_l1Cur_among.f l0 t442 t443 (y438.take ((wrap64 (4 + (wrap64 (Int.tdiv t441 11)))) : Int).toNat)).bind fun bt448 => ((some (([1, 2, 6, 1000, 0, 1001] : List Int) : List Int)).bind fun y451 => ((spec_l1Cur_pick.f l0 bt448.2.1 bt448.2.2 24).bind fun bt454 => (if 0 ≤ (wrap64 (4 + (wrap64 (Int.tdiv bt454.1 11)))) then (if (wrap64 (4 + (wrap64 (Int.tdiv bt454.1 11)))) ≤ (y451.length : Int) then ((spec_l1Cur_among.f l0 bt454.2.1 bt454.2.2 (y451.take ((wrap64 (4 + (wrap64 (Int.tdiv bt454.1 11)))) : Int).toNat)).bind fun bt461 => (some (t420, t435, bt448.1, bt461.1))) else (none)) else (none))))) else (none)) else (none)) = some (r1, r2, r3, r4) := H
      have A8 := Aside0.mk A80
      clear A80
      obtain ⟨ji9, hji9⟩ : ∃ j_ : Int, (wrap64 (4 + (wrap64 (Int.tdiv t441 11)))) = j_ := ⟨_, rfl⟩
      replace H : (if 0 ≤ (ji9) then (if (ji9) ≤ (y438.length : Int) then ((spec_l1Cur_among.f l0 t442 t443 (y438.take ((ji9) : Int).toNat)).bind fun bt448 => ((some (([1, 2, 6, 1000, 0, 1001] : List Int) : List Int)).bind fun y451 => ((spec_l1Cur_pick.f l0 bt448.2.1 bt448.2.2 24).bind fun bt454 => (if 0 ≤ (wrap64 (4 + (wrap64 (Int.tdiv bt454.1 11)))) then (if (wrap64 (4 + (wrap64 (Int.tdiv bt454.1 11)))) ≤ (y451.length : Int) then ((spec_l1Cur_among.f l0 bt454.2.1 bt454.2.2 (y451.take ((wrap64 (4 + (wrap64 (Int.tdiv bt454.1 11)))) : Int).toNat)).bind fun bt461 => (some (t420, t435, bt448.1, bt461.1))) else (none)) else (none))))) else (none)) else (none)) = some (r1, r2, r3, r4) := by first | (rw [hji9] at H; exact H) | (simp only [hji9] at H ⊢; exact H)
      (try rw [hji9] at A2)
      (try rw [hji9] at A3)
      (try rw [hji9] at A7)
      (try rw [hji9] at A8)
      have hji9w : (IntKind.i64.wrap (4 + (wrap64 (Int.tdiv t441 11)))) = ji9 := (i64_w _).trans hji9
      by_cases c10 : 0 ≤ (ji9)
      · rw [if_pos c10] at H
        have c10b0 := eq_true c10
        have c10b1 : decide (0 ≤ (ji9)) = true := decide_eq_true c10
        clear c10
        by_cases c11 : (ji9) ≤ (y438.length : Int)
        · rw [if_pos c11] at H
          have c11b0 := eq_true c11
          have c11b1 : decide ((ji9) ≤ (y438.length : Int)) = true := decide_eq_true c11
          clear c11
          obtain ⟨y444, hy444⟩ : ∃ y_ : List Int, y_ = (y438.take ((ji9) : Int).toNat) := ⟨_, rfl⟩
          replace H : ((spec_l1Cur_among.f l0 t442 t443 y444).bind fun bt448 => ((some (([1, 2, 6, 1000, 0, 1001] : List Int) : List Int)).bind fun y451 => ((spec_l1Cur_pick.f l0 bt448.2.1 bt448.2.2 24).bind fun bt454 => (if 0 ≤ (wrap64 (4 + (wrap64 (Int.tdiv bt454.1 11)))) then (if (wrap64 (4 + (wrap64 (Int.tdiv bt454.1 11)))) ≤ (y451.length : Int) then ((spec_l1Cur_among.f l0 bt454.2.1 bt454.2.2 (y451.take ((wrap64 (4 + (wrap64 (Int.tdiv bt454.1 11)))) : Int).toNat)).bind fun bt461 => (some (t420, t435, bt448.1, bt461.1))) else (none)) else (none))))) = some (r1, r2, r3, r4) := by first | (rw [hy444]; with_reducible exact H) | (have H2_ := (Option.bind_some _ _).symm.trans H; rw [hy444]; with_reducible exact H2_) | (have H2_ := (Option.bind_some _ _).symm.trans H; with_reducible exact H2_) | with_reducible exact H | (rw [hy444]; exact H) | exact H
          have Ny444 := Aside0.mk hy444
          clear hy444
          replace H := Option.bind_eq_some_iff.mp H
          obtain ⟨⟨t448, t449, t450⟩, A120, H⟩ := H
          replace H : ((some (([1, 2, 6, 1000, 0, 1001] : List Int) : List Int)).bind fun y451 => ((spec_l1Cur_pick.f l0 t449 t450 24).bind fun bt454 => (if 0 ≤ (wrap64 (4 + (wrap64 (Int.tdiv bt454.1 11)))) then (if (wrap64 (4 + (wrap64 (Int.tdiv bt454.1 11)))) ≤ (y451.length : Int) then ((spec_l1Cur_among.f l0 bt454.2.1 bt454.2.2 (y451.take ((wrap64 (4 + (wrap64 (Int.tdiv bt454.1 11)))) : Int).toNat)).bind fun bt461 => (some (t420, t435, t448, bt461.1))) else (none)) else (none)))) = some (r1, r2, r3, r4) := H
          have A12 := Aside0.mk A120
          clear A120
          obtain ⟨y451, hy451⟩ : ∃ y_ : List Int, y_ = (([1, 2, 6, 1000, 0, 1001] : List Int)) := ⟨_, rfl⟩
          replace H : ((spec_l1Cur_pick.f l0 t449 t450 24).bind fun bt454 => (if 0 ≤ (wrap64 (4 + (wrap64 (Int.tdiv bt454.1 11)))) then (if (wrap64 (4 + (wrap64 (Int.tdiv bt454.1 11)))) ≤ (y451.length : Int) then ((spec_l1Cur_among.f l0 bt454.2.1 bt454.2.2 (y451.take ((wrap64 (4 + (wrap64 (Int.tdiv bt454.1 11)))) : Int).toNat)).bind fun bt461 => (some (t420, t435, t448, bt461.1))) else (none)) else (none))) = some (r1, r2, r3, r4) := by first | (rw [hy451]; with_reducible exact H) | (have H2_ := (Option.bind_some _ _).symm.trans H; rw [hy451]; with_reducible exact H2_) | (have H2_ := (Option.bind_some _ _).symm.trans H; with_reducible exact H2_) | with_reducible exact H | (rw [hy451]; exact H) | exact H
          have Ny451 := Aside0.mk hy451
          clear hy451
          replace H := Option.bind_eq_some_iff.mp H
          obtain ⟨⟨t454, t455, t456⟩, A130, H⟩ := H
          replace H : (if 0 ≤ (wrap64 (4 + (wrap64 (Int.tdiv t454 11)))) then (if (wrap64 (4 + (wrap64 (Int.tdiv t454 11)))) ≤ (y451.length : Int) then ((spec_l1Cur_among.f l0 t455 t456 (y451.take ((wrap64 (4 + (wrap64 (Int.tdiv t454 11)))) : Int).toNat)).bind fun bt461 => (some (t420, t435, t448, bt461.1))) else (none)) else (none)) = some (r1, r2, r3, r4) := H
          have A13 := Aside0.mk A130
          clear A130
          obtain ⟨ji14, hji14⟩ : ∃ j_ : Int, (wrap64 (4 + (wrap64 (Int.tdiv t454 11)))) = j_ := ⟨_, rfl⟩
          replace H : (if 0 ≤ (ji14) then (if (ji14) ≤ (y451.length : Int) then ((spec_l1Cur_among.f l0 t455 t456 (y451.take ((ji14) : Int).toNat)).bind fun bt461 => (some (t420, t435, t448, bt461.1))) else (none)) else (none)) = some (r1, r2, r3, r4) := by first | (rw [hji14] at H; exact H) | (simp only [hji14] at H ⊢; exact H)
          (try rw [hji14] at A2)
          (try rw [hji14] at A3)
          (try rw [hji14] at A7)
          (try rw [hji14] at A8)
          (try rw [hji14] at A12)
          (try rw [hji14] at A13)
          have hji14w : (IntKind.i64.wrap (4 + (wrap64 (Int.tdiv t454 11)))) = ji14 := (i64_w _).trans hji14
          by_cases c15 : 0 ≤ (ji14)
          · rw [if_pos c15] at H
            have c15b0 := eq_true c15
            have c15b1 : decide (0 ≤ (ji14)) = true := decide_eq_true c15
            clear c15
            by_cases c16 : (ji14) ≤ (y451.length : Int)
            · rw [if_pos c16] at H
              have c16b0 := eq_true c16
              have c16b1 : decide ((ji14) ≤ (y451.length : Int)) = true := decide_eq_true c16
              clear c16
              obtain ⟨y457, hy457⟩ : ∃ y_ : List Int, y_ = (y451.take ((ji14) : Int).toNat) := ⟨_, rfl⟩
              replace H : ((spec_l1Cur_among.f l0 t455 t456 y457).bind fun bt461 => (some (t420, t435, t448, bt461.1))) = some (r1, r2, r3, r4) := by first | (rw [hy457]; with_reducible exact H) | (have H2_ := (Option.bind_some _ _).symm.trans H; rw [hy457]; with_reducible exact H2_) | (have H2_ := (Option.bind_some _ _).symm.trans H; with_reducible exact H2_) | with_reducible exact H | (rw [hy457]; exact H) | exact H
              have Ny457 := Aside0.mk hy457
              clear hy457
              replace H := Option.bind_eq_some_iff.mp H
              obtain ⟨⟨t461, t462, t463⟩, A170, H⟩ := H
              replace H : (some (t420, t435, t448, t461)) = some (r1, r2, r3, r4) := H
              have A17 := Aside0.mk A170
              clear A170
              simp only [Option.some.injEq, Prod.mk.injEq] at H
              obtain ⟨rfl, rfl, rfl, rfl⟩ := H
              go_enter Try.func37, Try.ntmps37
              go_wp2_with (first | ((with_reducible refine gate_dst (N := 11) rfl ?_); refine box_event ?hg (N := 11) ?hd (cs := #[.slice A0 l0.length c0, .int .i64 0, .int .u64 0]) (t := 73) ?hr ?_; (case hd => rfl); (case hg => rfl); (case hr => first | (go_simp; done) | (go_simp; rfl)); intro gb419 hg w18 hbox hb; have n0_ := Aside0.mk (below_step (by repeat (first | (with_reducible first | exact HB.out | apply below_alloc | apply pw_below_drewN | apply below_drew1) | exact HB.out)) hb); have n1_ := Aside0.mk ((by rw [hg]; exact (below_size (by repeat (first | (with_reducible first | exact HB.out | apply below_alloc | apply pw_below_drewN | apply below_drew1) | exact HB.out))) : w.heap.size ≤ gb419)); have n2_ := Aside0.mk ((by rw [hg]; exact (below_size (by repeat (first | (with_reducible first | exact HB.out | apply below_alloc | apply pw_below_drewN | apply below_drew1) | exact HB.out))) : w.heap.size ≤ gb419)); have n3_ := Aside0.mk ((⟨_, _, hbox, (by rw [hg]; exact (below_size (by repeat (first | (with_reducible first | exact HB.out | apply below_alloc | apply pw_below_drewN | apply below_drew1) | exact HB.out)))), HR0.out⟩ : IsS73 w w18 gb419 l0 0 0)); clear HB; have HB := n0_; have GW419 := n1_; have GE419 := n2_; have HI419 := n3_; clear n0_ n1_ n2_ n3_; clear hb hbox hg) | ((with_reducible refine gate_callee (f := 67) rfl ?_); refine goesL_ (some 13) rfl rfl Try.func67 (by kernel_rfl) rfl #[.pointer (some ⟨gb419, 0, none⟩)] rfl (by (try simp only [List.map_toArray, List.map_cons, List.map_nil]); first | done | rfl | (simp only [List.length_drop, List.length_take]; rfl)) ?_; (with_reducible refine (spec_l1Cur_stays.calls k gb419 l0 0 0 t420 t423 t424 w _ ?side1 ?side2 A2.out).mono ?_); (case side1 => repeat (first | (with_reducible first | exact HI419.out | apply IsS73.alloc | apply IsS73.drewN | apply IsS73.drew | apply IsS73.set_1 | apply IsS73.set_2) | exact HI419.out)); (case side2 => repeat (first | (with_reducible first | exact HB.out | apply below_alloc | apply pw_below_drewN | apply below_drew1 | refine below_set ?_ (IsS73.ge HI419.out)) | exact HB.out)); rintro e w19 ⟨v421, rfl, ho0, hi, hb, hk⟩; refine ⟨_, rfl, ?_⟩; have n0_ := Aside0.mk (Kd.R_lower ho0 (below_size (by repeat (first | (with_reducible first | exact HB.out | apply below_alloc | apply pw_below_drewN | apply below_drew1 | refine below_set ?_ (IsS73.ge HI419.out)) | exact HB.out)))); have n1_ := Aside0.mk (hb); have n2_ := Aside0.mk (hi); clear HB; clear HI419; have HO422 := n0_; have HB := n1_; have HI419 := n2_; clear n0_ n1_ n2_; (try clear hb); (try clear hb2); (try clear hk); (try clear hi); (try clear ho0)) | ((with_reducible refine gate_dst (N := 15) rfl ?_); refine Kd.R_lit (Kd.int .i64) _ 3 ?hg (N := 15) ?hd (xs := ([0, 5, 20, 239, (-1), 240] : List Int)) (inner := [.int .i64 0, .int .i64 5, .int .i64 20, .int .i64 239, .int .i64 (-1), .int .i64 240]) (ok := fun _ => True) (okp := fun _ => True) ?hr ?hp (fun _ hk => hk) trivial (Below.refl _ _) (Nat.le_refl _) (by simp) ?_; (case hd => rfl); (case hg => rfl); (case hr => first | (go_simp; done) | (go_simp; rfl)); (case hp => exact (Reps.one (show Kd.M (Kd.int .i64) _ _ _ 0 [.int .i64 0] from rfl) (Reps.one (show Kd.M (Kd.int .i64) _ _ _ 5 [.int .i64 5] from rfl) (Reps.one (show Kd.M (Kd.int .i64) _ _ _ 20 [.int .i64 20] from rfl) (Reps.one (show Kd.M (Kd.int .i64) _ _ _ 239 [.int .i64 239] from rfl) (Reps.one (show Kd.M (Kd.int .i64) _ _ _ (-1) [.int .i64 (-1)] from rfl) (Reps.one (show Kd.M (Kd.int .i64) _ _ _ 240 [.int .i64 240] from rfl) (Reps.none _ _)))))))); intro v426 w20 ho21 hb hg_ hnew_; clear hg_ hnew_; (first | rw [← Ny425.out] at ho21 | (simp only [Int.reduceToNat] at ho21; rw [← Ny425.out] at ho21)); have n0_ := Aside0.mk (Kd.R_below (by (with_reducible repeat (first | apply Kd.R_alloc | apply Kd.R_drewN | apply Kd.R_drew)); exact HO422.out) hb); have n1_ := Aside0.mk (Kd.R_lower ho21 (below_size (by repeat (first | (with_reducible first | exact HB.out | apply below_alloc | apply pw_below_drewN | apply below_drew1 | refine below_set ?_ (IsS73.ge HI419.out)) | exact HB.out)))); have n2_ := Aside0.mk (IsS73.below (by repeat (first | (with_reducible first | exact HI419.out | apply IsS73.alloc | apply IsS73.drewN | apply IsS73.drew | apply IsS73.set_1 | apply IsS73.set_2) | exact HI419.out)) hb); have n3_ := Aside0.mk (below_step (by repeat (first | (with_reducible first | exact HB.out | apply below_alloc | apply pw_below_drewN | apply below_drew1 | refine below_set ?_ (IsS73.ge HI419.out)) | exact HB.out)) hb); clear HO422; clear HI419; clear HB; have HO422 := n0_; have HO427 := n1_; have HI419 := n2_; have HB := n3_; clear n0_ n1_ n2_ n3_; clear hb ho21) | ((with_reducible refine gate_callee (f := 69) rfl ?_); refine goesL_ (some 17) rfl rfl Try.func69 (by kernel_rfl) rfl #[.pointer (some ⟨gb419, 0, none⟩), .int .i64 24] rfl (by (try simp only [List.map_toArray, List.map_cons, List.map_nil]); first | done | rfl | (simp only [List.length_drop, List.length_take]; rfl)) ?_; (with_reducible refine (spec_l1Cur_pick.calls gb419 l0 t423 t424 24 t428 t429 t430 w _ ?side1 ?side2 A3.out).mono ?_); (case side1 => repeat (first | (with_reducible first | exact HI419.out | apply IsS73.alloc | apply IsS73.drewN | apply IsS73.drew | apply IsS73.set_1 | apply IsS73.set_2) | exact HI419.out)); (case side2 => repeat (first | (with_reducible first | exact HB.out | apply below_alloc | apply pw_below_drewN | apply below_drew1 | refine below_set ?_ (IsS73.ge HI419.out)) | exact HB.out)); rintro e w22 ⟨rfl, hi, hb, hk⟩; refine ⟨_, rfl, ?_⟩; have n0_ := Aside0.mk (Kd.R_mono (Kd.R_keep (IsS73.apart (show IsS73 w _ gb419 l0 t423 t424 from by repeat (first | (with_reducible first | exact HI419.out | apply IsS73.alloc | apply IsS73.drewN | apply IsS73.drew | apply IsS73.set_1 | apply IsS73.set_2) | exact HI419.out)) (by (with_reducible repeat (first | apply Kd.R_alloc | apply Kd.R_drewN | apply Kd.R_drew)); exact HO422.out) (by decide)) hk (fun _ h => h.2)) (fun _ h => h.1)); have n1_ := Aside0.mk (Kd.R_mono (Kd.R_keep (IsS73.apart (show IsS73 w _ gb419 l0 t423 t424 from by repeat (first | (with_reducible first | exact HI419.out | apply IsS73.alloc | apply IsS73.drewN | apply IsS73.drew | apply IsS73.set_1 | apply IsS73.set_2) | exact HI419.out)) (by (with_reducible repeat (first | apply Kd.R_alloc | apply Kd.R_drewN | apply Kd.R_drew)); exact HO427.out) (by decide)) hk (fun _ h => h.2)) (fun _ h => h.1)); have n2_ := Aside0.mk (hb); have n3_ := Aside0.mk (hi); clear HO422; clear HO427; clear HB; clear HI419; have HO422 := n0_; have HO427 := n1_; have HB := n2_; have HI419 := n3_; clear n0_ n1_ n2_ n3_; (try clear hb); (try clear hb2); (try clear hk); (try clear hi); obtain ⟨Ao24, co24, eo24⟩ := Kd.R_slice HO427.out; subst eo24; have q23 : ((ji4) : Int) ≤ ((y425.length : Int) : Int) := of_decide_eq_true (by first | (with_reducible assumption) | assumption); obtain ⟨i023, hi023, _, hsz23, _⟩ := info_parts info3; have hroom23 : y425.length ≤ co24 := (Kd.R_reads' HO427.out).2.1; have hC23 : Kd.C (Kd.int .i64) _ Ao24 y425.length y425 := (Kd.R_reads' HO427.out).2.2; have hcut23 := cut_to (P := Try.prog) 53 3 .i64 Try.underlying53 hi023 Ao24 y425.length co24 (ji4) (of_decide_eq_true (by first | (with_reducible assumption) | assumption)) q23 hroom23; have hr23 := Kd.C_take (m := ((ji4) : Int).toNat) hC23 (by omega); have hy23 : y431.length = ((ji4) : Int).toNat := (by rw [Ny431.out, List.length_take]; omega); rw [← Ny431.out] at hr23; rw [← hy23] at hcut23; have HR434 := Aside0.mk hr23; have HC434 := Aside0.mk (show y431.length ≤ co24 from by omega); clear hr23 hC23 hroom23 hi023 hsz23; have KY23 := Aside0.mk hy23; clear hy23; have KL23 := Aside0.mk (show ((ji4) : Int).toNat ≤ y425.length from by omega); replace q23 := eq_true q23) | ((with_reducible refine gate_callee (f := 68) rfl ?_); refine goesL_ (some 21) rfl rfl Try.func68 (by kernel_rfl) rfl #[.pointer (some ⟨gb419, 0, none⟩), .slice Ao24 y431.length co24] rfl (by (try simp only [List.map_toArray, List.map_cons, List.map_nil]); first | done | rfl | (simp only [List.length_drop, List.length_take]; rfl)) ?_; (with_reducible refine (spec_l1Cur_among.calls gb419 l0 t429 t430 _ _ y431 t435 t436 t437 w _ ?side1 ?side2 ?side3 ?side4 ?side5 A7.out).mono ?_); (case side1 => repeat (first | (with_reducible first | exact HI419.out | apply IsS73.alloc | apply IsS73.drewN | apply IsS73.drew | apply IsS73.set_1 | apply IsS73.set_2) | exact HI419.out)); (case side2 => repeat (first | (with_reducible first | exact HB.out | apply below_alloc | apply pw_below_drewN | apply below_drew1 | refine below_set ?_ (IsS73.ge HI419.out)) | exact HB.out)); (case side3 => repeat (first | exact (by repeat (first | (with_reducible exact HR434.out) | (with_reducible refine Kd.C_alloc ?_ _) | (with_reducible refine Kd.C_drewN ?_ _) | (with_reducible refine Kd.C_drew ?_) | exact HR434.out)) | (with_reducible refine Kd.C_alloc ?_ _) | (with_reducible refine Kd.C_drewN ?_ _) | (with_reducible refine Kd.C_drew ?_))); (case side4 => exact HC434.out); (case side5 => exact fun ad e_ _ h_ => IsS73.own_ne HI419.out HO427.out (by decide) (by rw [e_, ← h_]; rfl)); rintro e w25 ⟨rfl, hi, hb, hk⟩; refine ⟨_, rfl, ?_⟩; have n0_ := Aside0.mk (Kd.R_mono (Kd.R_keep (IsS73.apart (show IsS73 w _ gb419 l0 t429 t430 from by repeat (first | (with_reducible first | exact HI419.out | apply IsS73.alloc | apply IsS73.drewN | apply IsS73.drew | apply IsS73.set_1 | apply IsS73.set_2) | exact HI419.out)) (by (with_reducible repeat (first | apply Kd.R_alloc | apply Kd.R_drewN | apply Kd.R_drew)); exact HO422.out) (by decide)) hk (fun _ h => h.2)) (fun _ h => h.1)); have n1_ := Aside0.mk (Kd.R_mono (Kd.R_keep (IsS73.apart (show IsS73 w _ gb419 l0 t429 t430 from by repeat (first | (with_reducible first | exact HI419.out | apply IsS73.alloc | apply IsS73.drewN | apply IsS73.drew | apply IsS73.set_1 | apply IsS73.set_2) | exact HI419.out)) (by (with_reducible repeat (first | apply Kd.R_alloc | apply Kd.R_drewN | apply Kd.R_drew)); exact HO427.out) (by decide)) hk (fun _ h => h.2)) (fun _ h => h.1)); have n2_ := Aside0.mk (hb); have n3_ := Aside0.mk (hi); clear HO422; clear HO427; clear HB; clear HI419; have HO422 := n0_; have HO427 := n1_; have HB := n2_; have HI419 := n3_; clear n0_ n1_ n2_ n3_; (try clear hb); (try clear hb2); (try clear hk); (try clear hi)) | ((with_reducible refine gate_dst (N := 28) rfl ?_); refine Kd.R_lit (Kd.int .i64) _ 3 ?hg (N := 28) ?hd (xs := ([240, 30, 60, wrap64 (t435 + 1), t435, 241] : List Int)) (inner := [.int .i64 240, .int .i64 30, .int .i64 60, .int .i64 (wrap64 (t435 + 1)), .int .i64 t435, .int .i64 241]) (ok := fun _ => True) (okp := fun _ => True) ?hr ?hp (fun _ hk => hk) trivial (Below.refl _ _) (Nat.le_refl _) (by simp) ?_; (case hd => rfl); (case hg => rfl); (case hr => first | (go_simp; done) | (go_simp; rfl)); (case hp => exact (Reps.one (show Kd.M (Kd.int .i64) _ _ _ 240 [.int .i64 240] from rfl) (Reps.one (show Kd.M (Kd.int .i64) _ _ _ 30 [.int .i64 30] from rfl) (Reps.one (show Kd.M (Kd.int .i64) _ _ _ 60 [.int .i64 60] from rfl) (Reps.one (show Kd.M (Kd.int .i64) _ _ _ (wrap64 (t435 + 1)) [.int .i64 (wrap64 (t435 + 1))] from rfl) (Reps.one (show Kd.M (Kd.int .i64) _ _ _ t435 [.int .i64 t435] from rfl) (Reps.one (show Kd.M (Kd.int .i64) _ _ _ 241 [.int .i64 241] from rfl) (Reps.none _ _)))))))); intro v439 w26 ho27 hb hg_ hnew_; clear hg_ hnew_; (first | rw [← Ny438.out] at ho27 | (simp only [Int.reduceToNat] at ho27; rw [← Ny438.out] at ho27)); have n0_ := Aside0.mk (Kd.R_below (by (with_reducible repeat (first | apply Kd.R_alloc | apply Kd.R_drewN | apply Kd.R_drew)); exact HO422.out) hb); have n1_ := Aside0.mk (Kd.R_elder' (by (with_reducible repeat (first | apply Kd.R_alloc | apply Kd.R_drewN | apply Kd.R_drew)); exact HO427.out) (Kd.R_base ho27) hb); have n2_ := Aside0.mk (Kd.R_lower (Kd.R_new' ho27 (Kd.R_lt (by (with_reducible repeat (first | apply Kd.R_alloc | apply Kd.R_drewN | apply Kd.R_drew)); exact HO427.out))) (below_size (by repeat (first | (with_reducible first | exact HB.out | apply below_alloc | apply pw_below_drewN | apply below_drew1 | refine below_set ?_ (IsS73.ge HI419.out)) | exact HB.out)))); have n3_ := Aside0.mk (IsS73.below (by repeat (first | (with_reducible first | exact HI419.out | apply IsS73.alloc | apply IsS73.drewN | apply IsS73.drew | apply IsS73.set_1 | apply IsS73.set_2) | exact HI419.out)) hb); have n4_ := Aside0.mk (below_step (by repeat (first | (with_reducible first | exact HB.out | apply below_alloc | apply pw_below_drewN | apply below_drew1 | refine below_set ?_ (IsS73.ge HI419.out)) | exact HB.out)) hb); clear HO422; clear HO427; clear HI419; clear HB; have HO422 := n0_; have HO427 := n1_; have HO440 := n2_; have HI419 := n3_; have HB := n4_; clear n0_ n1_ n2_ n3_ n4_; clear hb ho27) | ((with_reducible refine gate_callee (f := 69) rfl ?_); refine goesL_ (some 30) rfl rfl Try.func69 (by kernel_rfl) rfl #[.pointer (some ⟨gb419, 0, none⟩), .int .i64 24] rfl (by (try simp only [List.map_toArray, List.map_cons, List.map_nil]); first | done | rfl | (simp only [List.length_drop, List.length_take]; rfl)) ?_; (with_reducible refine (spec_l1Cur_pick.calls gb419 l0 t436 t437 24 t441 t442 t443 w _ ?side1 ?side2 A8.out).mono ?_); (case side1 => repeat (first | (with_reducible first | exact HI419.out | apply IsS73.alloc | apply IsS73.drewN | apply IsS73.drew | apply IsS73.set_1 | apply IsS73.set_2) | exact HI419.out)); (case side2 => repeat (first | (with_reducible first | exact HB.out | apply below_alloc | apply pw_below_drewN | apply below_drew1 | refine below_set ?_ (IsS73.ge HI419.out)) | exact HB.out)); rintro e w28 ⟨rfl, hi, hb, hk⟩; refine ⟨_, rfl, ?_⟩; have n0_ := Aside0.mk (Kd.R_mono (Kd.R_keep (IsS73.apart (show IsS73 w _ gb419 l0 t436 t437 from by repeat (first | (with_reducible first | exact HI419.out | apply IsS73.alloc | apply IsS73.drewN | apply IsS73.drew | apply IsS73.set_1 | apply IsS73.set_2) | exact HI419.out)) (by (with_reducible repeat (first | apply Kd.R_alloc | apply Kd.R_drewN | apply Kd.R_drew)); exact HO422.out) (by decide)) hk (fun _ h => h.2)) (fun _ h => h.1)); have n1_ := Aside0.mk (Kd.R_mono (Kd.R_keep (IsS73.apart (show IsS73 w _ gb419 l0 t436 t437 from by repeat (first | (with_reducible first | exact HI419.out | apply IsS73.alloc | apply IsS73.drewN | apply IsS73.drew | apply IsS73.set_1 | apply IsS73.set_2) | exact HI419.out)) (by (with_reducible repeat (first | apply Kd.R_alloc | apply Kd.R_drewN | apply Kd.R_drew)); exact HO427.out) (by decide)) hk (fun _ h => h.2)) (fun _ h => h.1)); have n2_ := Aside0.mk (Kd.R_mono (Kd.R_keep (IsS73.apart (show IsS73 w _ gb419 l0 t436 t437 from by repeat (first | (with_reducible first | exact HI419.out | apply IsS73.alloc | apply IsS73.drewN | apply IsS73.drew | apply IsS73.set_1 | apply IsS73.set_2) | exact HI419.out)) (by (with_reducible repeat (first | apply Kd.R_alloc | apply Kd.R_drewN | apply Kd.R_drew)); exact HO440.out) (by decide)) hk (fun _ h => h.2)) (fun _ h => h.1)); have n3_ := Aside0.mk (hb); have n4_ := Aside0.mk (hi); clear HO422; clear HO427; clear HO440; clear HB; clear HI419; have HO422 := n0_; have HO427 := n1_; have HO440 := n2_; have HB := n3_; have HI419 := n4_; clear n0_ n1_ n2_ n3_ n4_; (try clear hb); (try clear hb2); (try clear hk); (try clear hi); obtain ⟨Ao30, co30, eo30⟩ := Kd.R_slice HO440.out; subst eo30; have q29 : ((ji9) : Int) ≤ ((y438.length : Int) : Int) := of_decide_eq_true (by first | (with_reducible assumption) | assumption); obtain ⟨i029, hi029, _, hsz29, _⟩ := info_parts info3; have hroom29 : y438.length ≤ co30 := (Kd.R_reads' HO440.out).2.1; have hC29 : Kd.C (Kd.int .i64) _ Ao30 y438.length y438 := (Kd.R_reads' HO440.out).2.2; have hcut29 := cut_to (P := Try.prog) 53 3 .i64 Try.underlying53 hi029 Ao30 y438.length co30 (ji9) (of_decide_eq_true (by first | (with_reducible assumption) | assumption)) q29 hroom29; have hr29 := Kd.C_take (m := ((ji9) : Int).toNat) hC29 (by omega); have hy29 : y444.length = ((ji9) : Int).toNat := (by rw [Ny444.out, List.length_take]; omega); rw [← Ny444.out] at hr29; rw [← hy29] at hcut29; have HR447 := Aside0.mk hr29; have HC447 := Aside0.mk (show y444.length ≤ co30 from by omega); clear hr29 hC29 hroom29 hi029 hsz29; have KY29 := Aside0.mk hy29; clear hy29; have KL29 := Aside0.mk (show ((ji9) : Int).toNat ≤ y438.length from by omega); replace q29 := eq_true q29) | ((with_reducible refine gate_callee (f := 68) rfl ?_); refine goesL_ (some 34) rfl rfl Try.func68 (by kernel_rfl) rfl #[.pointer (some ⟨gb419, 0, none⟩), .slice Ao30 y444.length co30] rfl (by (try simp only [List.map_toArray, List.map_cons, List.map_nil]); first | done | rfl | (simp only [List.length_drop, List.length_take]; rfl)) ?_; (with_reducible refine (spec_l1Cur_among.calls gb419 l0 t442 t443 _ _ y444 t448 t449 t450 w _ ?side1 ?side2 ?side3 ?side4 ?side5 A12.out).mono ?_); (case side1 => repeat (first | (with_reducible first | exact HI419.out | apply IsS73.alloc | apply IsS73.drewN | apply IsS73.drew | apply IsS73.set_1 | apply IsS73.set_2) | exact HI419.out)); (case side2 => repeat (first | (with_reducible first | exact HB.out | apply below_alloc | apply pw_below_drewN | apply below_drew1 | refine below_set ?_ (IsS73.ge HI419.out)) | exact HB.out)); (case side3 => repeat (first | exact (by repeat (first | (with_reducible exact HR447.out) | (with_reducible refine Kd.C_alloc ?_ _) | (with_reducible refine Kd.C_drewN ?_ _) | (with_reducible refine Kd.C_drew ?_) | exact HR447.out)) | (with_reducible refine Kd.C_alloc ?_ _) | (with_reducible refine Kd.C_drewN ?_ _) | (with_reducible refine Kd.C_drew ?_))); (case side4 => exact HC447.out); (case side5 => exact fun ad e_ _ h_ => IsS73.own_ne HI419.out HO440.out (by decide) (by rw [e_, ← h_]; rfl)); rintro e w31 ⟨rfl, hi, hb, hk⟩; refine ⟨_, rfl, ?_⟩; have n0_ := Aside0.mk (Kd.R_mono (Kd.R_keep (IsS73.apart (show IsS73 w _ gb419 l0 t442 t443 from by repeat (first | (with_reducible first | exact HI419.out | apply IsS73.alloc | apply IsS73.drewN | apply IsS73.drew | apply IsS73.set_1 | apply IsS73.set_2) | exact HI419.out)) (by (with_reducible repeat (first | apply Kd.R_alloc | apply Kd.R_drewN | apply Kd.R_drew)); exact HO422.out) (by decide)) hk (fun _ h => h.2)) (fun _ h => h.1)); have n1_ := Aside0.mk (Kd.R_mono (Kd.R_keep (IsS73.apart (show IsS73 w _ gb419 l0 t442 t443 from by repeat (first | (with_reducible first | exact HI419.out | apply IsS73.alloc | apply IsS73.drewN | apply IsS73.drew | apply IsS73.set_1 | apply IsS73.set_2) | exact HI419.out)) (by (with_reducible repeat (first | apply Kd.R_alloc | apply Kd.R_drewN | apply Kd.R_drew)); exact HO427.out) (by decide)) hk (fun _ h => h.2)) (fun _ h => h.1)); have n2_ := Aside0.mk (Kd.R_mono (Kd.R_keep (IsS73.apart (show IsS73 w _ gb419 l0 t442 t443 from by repeat (first | (with_reducible first | exact HI419.out | apply IsS73.alloc | apply IsS73.drewN | apply IsS73.drew | apply IsS73.set_1 | apply IsS73.set_2) | exact HI419.out)) (by (with_reducible repeat (first | apply Kd.R_alloc | apply Kd.R_drewN | apply Kd.R_drew)); exact HO440.out) (by decide)) hk (fun _ h => h.2)) (fun _ h => h.1)); have n3_ := Aside0.mk (hb); have n4_ := Aside0.mk (hi); clear HO422; clear HO427; clear HO440; clear HB; clear HI419; have HO422 := n0_; have HO427 := n1_; have HO440 := n2_; have HB := n3_; have HI419 := n4_; clear n0_ n1_ n2_ n3_ n4_; (try clear hb); (try clear hb2); (try clear hk); (try clear hi)) | ((with_reducible refine gate_dst (N := 36) rfl ?_); refine Kd.R_lit (Kd.int .i64) _ 3 ?hg (N := 36) ?hd (xs := ([1, 2, 6, 1000, 0, 1001] : List Int)) (inner := [.int .i64 1, .int .i64 2, .int .i64 6, .int .i64 1000, .int .i64 0, .int .i64 1001]) (ok := fun _ => True) (okp := fun _ => True) ?hr ?hp (fun _ hk => hk) trivial (Below.refl _ _) (Nat.le_refl _) (by simp) ?_; (case hd => rfl); (case hg => rfl); (case hr => first | (go_simp; done) | (go_simp; rfl)); (case hp => exact (Reps.one (show Kd.M (Kd.int .i64) _ _ _ 1 [.int .i64 1] from rfl) (Reps.one (show Kd.M (Kd.int .i64) _ _ _ 2 [.int .i64 2] from rfl) (Reps.one (show Kd.M (Kd.int .i64) _ _ _ 6 [.int .i64 6] from rfl) (Reps.one (show Kd.M (Kd.int .i64) _ _ _ 1000 [.int .i64 1000] from rfl) (Reps.one (show Kd.M (Kd.int .i64) _ _ _ 0 [.int .i64 0] from rfl) (Reps.one (show Kd.M (Kd.int .i64) _ _ _ 1001 [.int .i64 1001] from rfl) (Reps.none _ _)))))))); intro v452 w32 ho33 hb hg_ hnew_; clear hg_ hnew_; (first | rw [← Ny451.out] at ho33 | (simp only [Int.reduceToNat] at ho33; rw [← Ny451.out] at ho33)); have n0_ := Aside0.mk (Kd.R_below (by (with_reducible repeat (first | apply Kd.R_alloc | apply Kd.R_drewN | apply Kd.R_drew)); exact HO422.out) hb); have n1_ := Aside0.mk (Kd.R_elder' (by (with_reducible repeat (first | apply Kd.R_alloc | apply Kd.R_drewN | apply Kd.R_drew)); exact HO427.out) (Kd.R_base ho33) hb); have n2_ := Aside0.mk (Kd.R_elder' (by (with_reducible repeat (first | apply Kd.R_alloc | apply Kd.R_drewN | apply Kd.R_drew)); exact HO440.out) (Kd.R_base ho33) hb); have n3_ := Aside0.mk (Kd.R_lower (Kd.R_new' (Kd.R_new' ho33 (Kd.R_lt (by (with_reducible repeat (first | apply Kd.R_alloc | apply Kd.R_drewN | apply Kd.R_drew)); exact HO427.out))) (Kd.R_lt (by (with_reducible repeat (first | apply Kd.R_alloc | apply Kd.R_drewN | apply Kd.R_drew)); exact HO440.out))) (below_size (by repeat (first | (with_reducible first | exact HB.out | apply below_alloc | apply pw_below_drewN | apply below_drew1 | refine below_set ?_ (IsS73.ge HI419.out)) | exact HB.out)))); have n4_ := Aside0.mk (IsS73.below (by repeat (first | (with_reducible first | exact HI419.out | apply IsS73.alloc | apply IsS73.drewN | apply IsS73.drew | apply IsS73.set_1 | apply IsS73.set_2) | exact HI419.out)) hb); have n5_ := Aside0.mk (below_step (by repeat (first | (with_reducible first | exact HB.out | apply below_alloc | apply pw_below_drewN | apply below_drew1 | refine below_set ?_ (IsS73.ge HI419.out)) | exact HB.out)) hb); clear HO422; clear HO427; clear HO440; clear HI419; clear HB; have HO422 := n0_; have HO427 := n1_; have HO440 := n2_; have HO453 := n3_; have HI419 := n4_; have HB := n5_; clear n0_ n1_ n2_ n3_ n4_ n5_; clear hb ho33) | ((with_reducible refine gate_callee (f := 69) rfl ?_); refine goesL_ (some 38) rfl rfl Try.func69 (by kernel_rfl) rfl #[.pointer (some ⟨gb419, 0, none⟩), .int .i64 24] rfl (by (try simp only [List.map_toArray, List.map_cons, List.map_nil]); first | done | rfl | (simp only [List.length_drop, List.length_take]; rfl)) ?_; (with_reducible refine (spec_l1Cur_pick.calls gb419 l0 t449 t450 24 t454 t455 t456 w _ ?side1 ?side2 A13.out).mono ?_); (case side1 => repeat (first | (with_reducible first | exact HI419.out | apply IsS73.alloc | apply IsS73.drewN | apply IsS73.drew | apply IsS73.set_1 | apply IsS73.set_2) | exact HI419.out)); (case side2 => repeat (first | (with_reducible first | exact HB.out | apply below_alloc | apply pw_below_drewN | apply below_drew1 | refine below_set ?_ (IsS73.ge HI419.out)) | exact HB.out)); rintro e w34 ⟨rfl, hi, hb, hk⟩; refine ⟨_, rfl, ?_⟩; have n0_ := Aside0.mk (Kd.R_mono (Kd.R_keep (IsS73.apart (show IsS73 w _ gb419 l0 t449 t450 from by repeat (first | (with_reducible first | exact HI419.out | apply IsS73.alloc | apply IsS73.drewN | apply IsS73.drew | apply IsS73.set_1 | apply IsS73.set_2) | exact HI419.out)) (by (with_reducible repeat (first | apply Kd.R_alloc | apply Kd.R_drewN | apply Kd.R_drew)); exact HO422.out) (by decide)) hk (fun _ h => h.2)) (fun _ h => h.1)); have n1_ := Aside0.mk (Kd.R_mono (Kd.R_keep (IsS73.apart (show IsS73 w _ gb419 l0 t449 t450 from by repeat (first | (with_reducible first | exact HI419.out | apply IsS73.alloc | apply IsS73.drewN | apply IsS73.drew | apply IsS73.set_1 | apply IsS73.set_2) | exact HI419.out)) (by (with_reducible repeat (first | apply Kd.R_alloc | apply Kd.R_drewN | apply Kd.R_drew)); exact HO427.out) (by decide)) hk (fun _ h => h.2)) (fun _ h => h.1)); have n2_ := Aside0.mk (Kd.R_mono (Kd.R_keep (IsS73.apart (show IsS73 w _ gb419 l0 t449 t450 from by repeat (first | (with_reducible first | exact HI419.out | apply IsS73.alloc | apply IsS73.drewN | apply IsS73.drew | apply IsS73.set_1 | apply IsS73.set_2) | exact HI419.out)) (by (with_reducible repeat (first | apply Kd.R_alloc | apply Kd.R_drewN | apply Kd.R_drew)); exact HO440.out) (by decide)) hk (fun _ h => h.2)) (fun _ h => h.1)); have n3_ := Aside0.mk (Kd.R_mono (Kd.R_keep (IsS73.apart (show IsS73 w _ gb419 l0 t449 t450 from by repeat (first | (with_reducible first | exact HI419.out | apply IsS73.alloc | apply IsS73.drewN | apply IsS73.drew | apply IsS73.set_1 | apply IsS73.set_2) | exact HI419.out)) (by (with_reducible repeat (first | apply Kd.R_alloc | apply Kd.R_drewN | apply Kd.R_drew)); exact HO453.out) (by decide)) hk (fun _ h => h.2)) (fun _ h => h.1)); have n4_ := Aside0.mk (hb); have n5_ := Aside0.mk (hi); clear HO422; clear HO427; clear HO440; clear HO453; clear HB; clear HI419; have HO422 := n0_; have HO427 := n1_; have HO440 := n2_; have HO453 := n3_; have HB := n4_; have HI419 := n5_; clear n0_ n1_ n2_ n3_ n4_ n5_; (try clear hb); (try clear hb2); (try clear hk); (try clear hi); obtain ⟨Ao36, co36, eo36⟩ := Kd.R_slice HO453.out; subst eo36; have q35 : ((ji14) : Int) ≤ ((y451.length : Int) : Int) := of_decide_eq_true (by first | (with_reducible assumption) | assumption); obtain ⟨i035, hi035, _, hsz35, _⟩ := info_parts info3; have hroom35 : y451.length ≤ co36 := (Kd.R_reads' HO453.out).2.1; have hC35 : Kd.C (Kd.int .i64) _ Ao36 y451.length y451 := (Kd.R_reads' HO453.out).2.2; have hcut35 := cut_to (P := Try.prog) 53 3 .i64 Try.underlying53 hi035 Ao36 y451.length co36 (ji14) (of_decide_eq_true (by first | (with_reducible assumption) | assumption)) q35 hroom35; have hr35 := Kd.C_take (m := ((ji14) : Int).toNat) hC35 (by omega); have hy35 : y457.length = ((ji14) : Int).toNat := (by rw [Ny457.out, List.length_take]; omega); rw [← Ny457.out] at hr35; rw [← hy35] at hcut35; have HR460 := Aside0.mk hr35; have HC460 := Aside0.mk (show y457.length ≤ co36 from by omega); clear hr35 hC35 hroom35 hi035 hsz35; have KY35 := Aside0.mk hy35; clear hy35; have KL35 := Aside0.mk (show ((ji14) : Int).toNat ≤ y451.length from by omega); replace q35 := eq_true q35) | ((with_reducible refine gate_callee (f := 68) rfl ?_); refine goesL_ (some 42) rfl rfl Try.func68 (by kernel_rfl) rfl #[.pointer (some ⟨gb419, 0, none⟩), .slice Ao36 y457.length co36] rfl (by (try simp only [List.map_toArray, List.map_cons, List.map_nil]); first | done | rfl | (simp only [List.length_drop, List.length_take]; rfl)) ?_; (with_reducible refine (spec_l1Cur_among.calls gb419 l0 t455 t456 _ _ y457 t461 t462 t463 w _ ?side1 ?side2 ?side3 ?side4 ?side5 A17.out).mono ?_); (case side1 => repeat (first | (with_reducible first | exact HI419.out | apply IsS73.alloc | apply IsS73.drewN | apply IsS73.drew | apply IsS73.set_1 | apply IsS73.set_2) | exact HI419.out)); (case side2 => repeat (first | (with_reducible first | exact HB.out | apply below_alloc | apply pw_below_drewN | apply below_drew1 | refine below_set ?_ (IsS73.ge HI419.out)) | exact HB.out)); (case side3 => repeat (first | exact (by repeat (first | (with_reducible exact HR460.out) | (with_reducible refine Kd.C_alloc ?_ _) | (with_reducible refine Kd.C_drewN ?_ _) | (with_reducible refine Kd.C_drew ?_) | exact HR460.out)) | (with_reducible refine Kd.C_alloc ?_ _) | (with_reducible refine Kd.C_drewN ?_ _) | (with_reducible refine Kd.C_drew ?_))); (case side4 => exact HC460.out); (case side5 => exact fun ad e_ _ h_ => IsS73.own_ne HI419.out HO453.out (by decide) (by rw [e_, ← h_]; rfl)); rintro e w37 ⟨rfl, hi, hb, hk⟩; refine ⟨_, rfl, ?_⟩; have n0_ := Aside0.mk (Kd.R_mono (Kd.R_keep (IsS73.apart (show IsS73 w _ gb419 l0 t455 t456 from by repeat (first | (with_reducible first | exact HI419.out | apply IsS73.alloc | apply IsS73.drewN | apply IsS73.drew | apply IsS73.set_1 | apply IsS73.set_2) | exact HI419.out)) (by (with_reducible repeat (first | apply Kd.R_alloc | apply Kd.R_drewN | apply Kd.R_drew)); exact HO422.out) (by decide)) hk (fun _ h => h.2)) (fun _ h => h.1)); have n1_ := Aside0.mk (Kd.R_mono (Kd.R_keep (IsS73.apart (show IsS73 w _ gb419 l0 t455 t456 from by repeat (first | (with_reducible first | exact HI419.out | apply IsS73.alloc | apply IsS73.drewN | apply IsS73.drew | apply IsS73.set_1 | apply IsS73.set_2) | exact HI419.out)) (by (with_reducible repeat (first | apply Kd.R_alloc | apply Kd.R_drewN | apply Kd.R_drew)); exact HO427.out) (by decide)) hk (fun _ h => h.2)) (fun _ h => h.1)); have n2_ := Aside0.mk (Kd.R_mono (Kd.R_keep (IsS73.apart (show IsS73 w _ gb419 l0 t455 t456 from by repeat (first | (with_reducible first | exact HI419.out | apply IsS73.alloc | apply IsS73.drewN | apply IsS73.drew | apply IsS73.set_1 | apply IsS73.set_2) | exact HI419.out)) (by (with_reducible repeat (first | apply Kd.R_alloc | apply Kd.R_drewN | apply Kd.R_drew)); exact HO440.out) (by decide)) hk (fun _ h => h.2)) (fun _ h => h.1)); have n3_ := Aside0.mk (Kd.R_mono (Kd.R_keep (IsS73.apart (show IsS73 w _ gb419 l0 t455 t456 from by repeat (first | (with_reducible first | exact HI419.out | apply IsS73.alloc | apply IsS73.drewN | apply IsS73.drew | apply IsS73.set_1 | apply IsS73.set_2) | exact HI419.out)) (by (with_reducible repeat (first | apply Kd.R_alloc | apply Kd.R_drewN | apply Kd.R_drew)); exact HO453.out) (by decide)) hk (fun _ h => h.2)) (fun _ h => h.1)); have n4_ := Aside0.mk (hb); have n5_ := Aside0.mk (hi); clear HO422; clear HO427; clear HO440; clear HO453; clear HB; clear HI419; have HO422 := n0_; have HO427 := n1_; have HO440 := n2_; have HO453 := n3_; have HB := n4_; have HI419 := n5_; clear n0_ n1_ n2_ n3_ n4_ n5_; (try clear hb); (try clear hb2); (try clear hk); (try clear hi)))
              refine bodyPost_ret (results_list (rs := [.tmp 2, .tmp 3, .tmp 4, .tmp 5]) rfl (by simp) (.tmp (.tmp (.tmp (.tmp .nil))))) rfl ?_
              exact ⟨_, by first | rfl | (simp [errW_none, errW_some] <;> rfl) | (simp only [← hji4, ← hji9, ← hji14]; first | rfl | (simp [errW_none, errW_some] <;> rfl)) | (simp [*, errW_none, errW_some] <;> rfl), by (with_reducible repeat (first | apply Kd.R_alloc | apply Kd.R_drewN | apply Kd.R_drew)); exact HO422.out, by repeat (first | (with_reducible first | exact HB.out | apply below_alloc | apply pw_below_drewN | apply below_drew1 | refine below_set ?_ (IsS73.ge HI419.out)) | exact HB.out)⟩
            · rw [if_neg c16] at H
              exact absurd H (by simp)
          · rw [if_neg c15] at H
            exact absurd H (by simp)
        · rw [if_neg c11] at H
          exact absurd H (by simp)
      · rw [if_neg c10] at H
        exact absurd H (by simp)
    · rw [if_neg c6] at H
      exact absurd H (by simp)
  · rw [if_neg c5] at H
    exact absurd H (by simp)

end Go.Proofs.Ytolaplcjbmjlmaa.X

-- written by a program of this session (wip/ext.py) out of the translation. Not trusted: Lean checks it.
namespace Go.Proofs.Ytolaplcjbmjlmaa.X
open Go.RowKit Go.Proofs.YtolaplcjbmjlmaaW.PrintWords Go.Proofs.YtolaplcjbmjlmaaW.PrintLast Go.Proofs.YtolaplcjbmjlmaaW.PrintMore
attribute [local go_sem] max2_int min2_int max_two min_two max_three min_three max_four min_four   -- for this text's walks alone
set_option linter.unusedVariables false
set_option linter.unusedSimpArgs false

/-! ### spec_DrawBusyHours: function 38 -/
def spec_DrawBusyHours.f (k : Nat) (l0 : List Int) : Option ((List (S59)) × Int) := (spec_l1Cur_stays.f k l0 0 0).bind fun bt465 => ((some (([1, 2, 3, 20, 0, 21] : List Int) : List Int)).bind fun y470 => ((spec_l1Cur_pick.f l0 bt465.2.1 bt465.2.2 24).bind fun bt473 => (if 0 ≤ (wrap64 (4 + (wrap64 (Int.tdiv bt473.1 11)))) then (if (wrap64 (4 + (wrap64 (Int.tdiv bt473.1 11)))) ≤ (y470.length : Int) then ((spec_l1Cur_among.f l0 bt473.2.1 bt473.2.2 (y470.take ((wrap64 (4 + (wrap64 (Int.tdiv bt473.1 11)))) : Int).toNat)).bind fun bt480 => (some (bt465.1, bt480.1))) else (none)) else (none))))
theorem spec_DrawBusyHours.mono : ∀ a0 k, LeO (spec_DrawBusyHours.f k a0) (spec_DrawBusyHours.f (k + 1) a0) := by
  intro a0 k
  unfold spec_DrawBusyHours.f
  repeat' first
      | (with_reducible exact spec_l1Cur_stays.mono _ _ _ _)
      | (with_reducible exact LeO.refl _)
      | (with_reducible exact LeO.none _)
      | (with_reducible refine LeO.ite ?_ ?_)
      | (with_reducible refine LeO.bind ?_ (fun _ => ?_))
      | exact spec_l1Cur_stays.mono _ _ _ _
      | exact LeO.none _
      | refine LeO.ite ?_ ?_
      | refine LeO.bind ?_ (fun _ => ?_)
set_option maxHeartbeats 8000000 in
set_option maxRecDepth 100000 in
theorem spec_DrawBusyHours.calls (k : Nat) (A0 : Option Addr) (c0 : Nat) (l0 : List Int) (r1 : List (S59)) (r2 : Int) (w : World) (hr0 : Kd.C (Kd.int .u8) w A0 l0.length l0) (hc0 : l0.length ≤ c0) (h : spec_DrawBusyHours.f k l0 = some (r1, r2)) :
    Calls Try.prog 38 #[.slice A0 l0.length c0] w fun e w' => ∃ v0_ : Value, e = .returned (.tuple #[v0_, .int .i64 r2]) ∧ Kd.R k59 59 w' w.heap.size (fun _ => True) v0_ r1 ∧ Below w.heap.size w w' := by
  have hu73 := Try.underlying73
  have HR0 := Aside0.mk hr0
  have HC0 := Aside0.mk hc0
  clear hr0 hc0
  have HB := Aside0.mk (Below.refl w.heap.size w)
  have H : ((spec_l1Cur_stays.f k l0 0 0).bind fun bt465 => ((some (([1, 2, 3, 20, 0, 21] : List Int) : List Int)).bind fun y470 => ((spec_l1Cur_pick.f l0 bt465.2.1 bt465.2.2 24).bind fun bt473 => (if 0 ≤ (wrap64 (4 + (wrap64 (Int.tdiv bt473.1 11)))) then (if (wrap64 (4 + (wrap64 (Int.tdiv bt473.1 11)))) ≤ (y470.length : Int) then ((spec_l1Cur_among.f l0 bt473.2.1 bt473.2.2 (y470.take ((wrap64 (4 + (wrap64 (Int.tdiv bt473.1 11)))) : Int).toNat)).bind fun bt480 => (some (bt465.1, bt480.1))) else (none)) else (none))))) = some (r1, r2) := h
  clear h
  replace H := Option.bind_eq_some_iff.mp H
  obtain ⟨⟨t465, t468, t469⟩, A20, H⟩ := H
  replace H : ((some (([1, 2, 3, 20, 0, 21] : List Int) : List Int)).bind fun y470 => ((spec_l1Cur_pick.f l0 t468 t469 24).bind fun bt473 => (if 0 ≤ (wrap64 (4 + (wrap64 (Int.tdiv bt473.1 11)))) then (if (wrap64 (4 + (wrap64 (Int.tdiv bt473.1 11)))) ≤ (y470.length : Int) then ((spec_l1Cur_among.f l0 bt473.2.1 bt473.2.2 (y470.take ((wrap64 (4 + (wrap64 (Int.tdiv bt473.1 11)))) : Int).toNat)).bind fun bt480 => (some (t465, bt480.1))) else (none)) else (none)))) = some (r1, r2) := H
  have A2 := Aside0.mk A20
  clear A20
  obtain ⟨y470, hy470⟩ : ∃ y_ : List Int, y_ = (([1, 2, 3, 20, 0, 21] : List Int)) := ⟨_, rfl⟩
  replace H : ((spec_l1Cur_pick.f l0 t468 t469 24).bind fun bt473 => (if 0 ≤ (wrap64 (4 + (wrap64 (Int.tdiv bt473.1 11)))) then (if (wrap64 (4 + (wrap64 (Int.tdiv bt473.1 11)))) ≤ (y470.length : Int) then ((spec_l1Cur_among.f l0 bt473.2.1 bt473.2.2 (y470.take ((wrap64 (4 + (wrap64 (Int.tdiv bt473.1 11)))) : Int).toNat)).bind fun bt480 => (some (t465, bt480.1))) else (none)) else (none))) = some (r1, r2) := by first | (rw [hy470]; with_reducible exact H) | (have H2_ := (Option.bind_some _ _).symm.trans H; rw [hy470]; with_reducible exact H2_) | (have H2_ := (Option.bind_some _ _).symm.trans H; with_reducible exact H2_) | with_reducible exact H | (rw [hy470]; exact H) | exact H
  have Ny470 := Aside0.mk hy470
  clear hy470
  replace H := Option.bind_eq_some_iff.mp H
  obtain ⟨⟨t473, t474, t475⟩, A30, H⟩ := H
  replace H : (if 0 ≤ (wrap64 (4 + (wrap64 (Int.tdiv t473 11)))) then (if (wrap64 (4 + (wrap64 (Int.tdiv t473 11)))) ≤ (y470.length : Int) then ((spec_l1Cur_among.f l0 t474 t475 (y470.take ((wrap64 (4 + (wrap64 (Int.tdiv t473 11)))) : Int).toNat)).bind fun bt480 => (some (t465, bt480.1))) else (none)) else (none)) = some (r1, r2) := H
  have A3 := Aside0.mk A30
  clear A30
  obtain ⟨ji4, hji4⟩ : ∃ j_ : Int, (wrap64 (4 + (wrap64 (Int.tdiv t473 11)))) = j_ := ⟨_, rfl⟩
  replace H : (if 0 ≤ (ji4) then (if (ji4) ≤ (y470.length : Int) then ((spec_l1Cur_among.f l0 t474 t475 (y470.take ((ji4) : Int).toNat)).bind fun bt480 => (some (t465, bt480.1))) else (none)) else (none)) = some (r1, r2) := by first | (rw [hji4] at H; exact H) | (simp only [hji4] at H ⊢; exact H)
  (try rw [hji4] at A2)
  (try rw [hji4] at A3)
  have hji4w : (IntKind.i64.wrap (4 + (wrap64 (Int.tdiv t473 11)))) = ji4 := (i64_w _).trans hji4
  by_cases c5 : 0 ≤ (ji4)
  · rw [if_pos c5] at H
    have c5b0 := eq_true c5
    have c5b1 : decide (0 ≤ (ji4)) = true := decide_eq_true c5
    clear c5
    by_cases c6 : (ji4) ≤ (y470.length : Int)
    · rw [if_pos c6] at H
      have c6b0 := eq_true c6
      have c6b1 : decide ((ji4) ≤ (y470.length : Int)) = true := decide_eq_true c6
      clear c6
      obtain ⟨y476, hy476⟩ : ∃ y_ : List Int, y_ = (y470.take ((ji4) : Int).toNat) := ⟨_, rfl⟩
      replace H : ((spec_l1Cur_among.f l0 t474 t475 y476).bind fun bt480 => (some (t465, bt480.1))) = some (r1, r2) := by first | (rw [hy476]; with_reducible exact H) | (have H2_ := (Option.bind_some _ _).symm.trans H; rw [hy476]; with_reducible exact H2_) | (have H2_ := (Option.bind_some _ _).symm.trans H; with_reducible exact H2_) | with_reducible exact H | (rw [hy476]; exact H) | exact H
      have Ny476 := Aside0.mk hy476
      clear hy476
      replace H := Option.bind_eq_some_iff.mp H
      obtain ⟨⟨t480, t481, t482⟩, A70, H⟩ := H
      replace H : (some (t465, t480)) = some (r1, r2) := H
      have A7 := Aside0.mk A70
      clear A70
      simp only [Option.some.injEq, Prod.mk.injEq] at H
      obtain ⟨rfl, rfl⟩ := H
      go_enter Try.func38, Try.ntmps38
      go_wp2_with (first | ((with_reducible refine gate_dst (N := 8) rfl ?_); refine box_event ?hg (N := 8) ?hd (cs := #[.slice A0 l0.length c0, .int .i64 0, .int .u64 0]) (t := 73) ?hr ?_; (case hd => rfl); (case hg => rfl); (case hr => first | (go_simp; done) | (go_simp; rfl)); intro gb464 hg w8 hbox hb; have n0_ := Aside0.mk (below_step (by repeat (first | (with_reducible first | exact HB.out | apply below_alloc | apply pw_below_drewN | apply below_drew1) | exact HB.out)) hb); have n1_ := Aside0.mk ((by rw [hg]; exact (below_size (by repeat (first | (with_reducible first | exact HB.out | apply below_alloc | apply pw_below_drewN | apply below_drew1) | exact HB.out))) : w.heap.size ≤ gb464)); have n2_ := Aside0.mk ((by rw [hg]; exact (below_size (by repeat (first | (with_reducible first | exact HB.out | apply below_alloc | apply pw_below_drewN | apply below_drew1) | exact HB.out))) : w.heap.size ≤ gb464)); have n3_ := Aside0.mk ((⟨_, _, hbox, (by rw [hg]; exact (below_size (by repeat (first | (with_reducible first | exact HB.out | apply below_alloc | apply pw_below_drewN | apply below_drew1) | exact HB.out)))), HR0.out⟩ : IsS73 w w8 gb464 l0 0 0)); clear HB; have HB := n0_; have GW464 := n1_; have GE464 := n2_; have HI464 := n3_; clear n0_ n1_ n2_ n3_; clear hb hbox hg) | ((with_reducible refine gate_callee (f := 67) rfl ?_); refine goesL_ (some 10) rfl rfl Try.func67 (by kernel_rfl) rfl #[.pointer (some ⟨gb464, 0, none⟩)] rfl (by (try simp only [List.map_toArray, List.map_cons, List.map_nil]); first | done | rfl | (simp only [List.length_drop, List.length_take]; rfl)) ?_; (with_reducible refine (spec_l1Cur_stays.calls k gb464 l0 0 0 t465 t468 t469 w _ ?side1 ?side2 A2.out).mono ?_); (case side1 => repeat (first | (with_reducible first | exact HI464.out | apply IsS73.alloc | apply IsS73.drewN | apply IsS73.drew | apply IsS73.set_1 | apply IsS73.set_2) | exact HI464.out)); (case side2 => repeat (first | (with_reducible first | exact HB.out | apply below_alloc | apply pw_below_drewN | apply below_drew1 | refine below_set ?_ (IsS73.ge HI464.out)) | exact HB.out)); rintro e w9 ⟨v466, rfl, ho0, hi, hb, hk⟩; refine ⟨_, rfl, ?_⟩; have n0_ := Aside0.mk (Kd.R_lower ho0 (below_size (by repeat (first | (with_reducible first | exact HB.out | apply below_alloc | apply pw_below_drewN | apply below_drew1 | refine below_set ?_ (IsS73.ge HI464.out)) | exact HB.out)))); have n1_ := Aside0.mk (hb); have n2_ := Aside0.mk (hi); clear HB; clear HI464; have HO467 := n0_; have HB := n1_; have HI464 := n2_; clear n0_ n1_ n2_; (try clear hb); (try clear hb2); (try clear hk); (try clear hi); (try clear ho0)) | ((with_reducible refine gate_dst (N := 13) rfl ?_); refine Kd.R_lit (Kd.int .i64) _ 3 ?hg (N := 13) ?hd (xs := ([1, 2, 3, 20, 0, 21] : List Int)) (inner := [.int .i64 1, .int .i64 2, .int .i64 3, .int .i64 20, .int .i64 0, .int .i64 21]) (ok := fun _ => True) (okp := fun _ => True) ?hr ?hp (fun _ hk => hk) trivial (Below.refl _ _) (Nat.le_refl _) (by simp) ?_; (case hd => rfl); (case hg => rfl); (case hr => first | (go_simp; done) | (go_simp; rfl)); (case hp => exact (Reps.one (show Kd.M (Kd.int .i64) _ _ _ 1 [.int .i64 1] from rfl) (Reps.one (show Kd.M (Kd.int .i64) _ _ _ 2 [.int .i64 2] from rfl) (Reps.one (show Kd.M (Kd.int .i64) _ _ _ 3 [.int .i64 3] from rfl) (Reps.one (show Kd.M (Kd.int .i64) _ _ _ 20 [.int .i64 20] from rfl) (Reps.one (show Kd.M (Kd.int .i64) _ _ _ 0 [.int .i64 0] from rfl) (Reps.one (show Kd.M (Kd.int .i64) _ _ _ 21 [.int .i64 21] from rfl) (Reps.none _ _)))))))); intro v471 w10 ho11 hb hg_ hnew_; clear hg_ hnew_; (first | rw [← Ny470.out] at ho11 | (simp only [Int.reduceToNat] at ho11; rw [← Ny470.out] at ho11)); have n0_ := Aside0.mk (Kd.R_below (by (with_reducible repeat (first | apply Kd.R_alloc | apply Kd.R_drewN | apply Kd.R_drew)); exact HO467.out) hb); have n1_ := Aside0.mk (Kd.R_lower ho11 (below_size (by repeat (first | (with_reducible first | exact HB.out | apply below_alloc | apply pw_below_drewN | apply below_drew1 | refine below_set ?_ (IsS73.ge HI464.out)) | exact HB.out)))); have n2_ := Aside0.mk (IsS73.below (by repeat (first | (with_reducible first | exact HI464.out | apply IsS73.alloc | apply IsS73.drewN | apply IsS73.drew | apply IsS73.set_1 | apply IsS73.set_2) | exact HI464.out)) hb); have n3_ := Aside0.mk (below_step (by repeat (first | (with_reducible first | exact HB.out | apply below_alloc | apply pw_below_drewN | apply below_drew1 | refine below_set ?_ (IsS73.ge HI464.out)) | exact HB.out)) hb); clear HO467; clear HI464; clear HB; have HO467 := n0_; have HO472 := n1_; have HI464 := n2_; have HB := n3_; clear n0_ n1_ n2_ n3_; clear hb ho11) | ((with_reducible refine gate_callee (f := 69) rfl ?_); refine goesL_ (some 15) rfl rfl Try.func69 (by kernel_rfl) rfl #[.pointer (some ⟨gb464, 0, none⟩), .int .i64 24] rfl (by (try simp only [List.map_toArray, List.map_cons, List.map_nil]); first | done | rfl | (simp only [List.length_drop, List.length_take]; rfl)) ?_; (with_reducible refine (spec_l1Cur_pick.calls gb464 l0 t468 t469 24 t473 t474 t475 w _ ?side1 ?side2 A3.out).mono ?_); (case side1 => repeat (first | (with_reducible first | exact HI464.out | apply IsS73.alloc | apply IsS73.drewN | apply IsS73.drew | apply IsS73.set_1 | apply IsS73.set_2) | exact HI464.out)); (case side2 => repeat (first | (with_reducible first | exact HB.out | apply below_alloc | apply pw_below_drewN | apply below_drew1 | refine below_set ?_ (IsS73.ge HI464.out)) | exact HB.out)); rintro e w12 ⟨rfl, hi, hb, hk⟩; refine ⟨_, rfl, ?_⟩; have n0_ := Aside0.mk (Kd.R_mono (Kd.R_keep (IsS73.apart (show IsS73 w _ gb464 l0 t468 t469 from by repeat (first | (with_reducible first | exact HI464.out | apply IsS73.alloc | apply IsS73.drewN | apply IsS73.drew | apply IsS73.set_1 | apply IsS73.set_2) | exact HI464.out)) (by (with_reducible repeat (first | apply Kd.R_alloc | apply Kd.R_drewN | apply Kd.R_drew)); exact HO467.out) (by decide)) hk (fun _ h => h.2)) (fun _ h => h.1)); have n1_ := Aside0.mk (Kd.R_mono (Kd.R_keep (IsS73.apart (show IsS73 w _ gb464 l0 t468 t469 from by repeat (first | (with_reducible first | exact HI464.out | apply IsS73.alloc | apply IsS73.drewN | apply IsS73.drew | apply IsS73.set_1 | apply IsS73.set_2) | exact HI464.out)) (by (with_reducible repeat (first | apply Kd.R_alloc | apply Kd.R_drewN | apply Kd.R_drew)); exact HO472.out) (by decide)) hk (fun _ h => h.2)) (fun _ h => h.1)); have n2_ := Aside0.mk (hb); have n3_ := Aside0.mk (hi); clear HO467; clear HO472; clear HB; clear HI464; have HO467 := n0_; have HO472 := n1_; have HB := n2_; have HI464 := n3_; clear n0_ n1_ n2_ n3_; (try clear hb); (try clear hb2); (try clear hk); (try clear hi); obtain ⟨Ao14, co14, eo14⟩ := Kd.R_slice HO472.out; subst eo14; have q13 : ((ji4) : Int) ≤ ((y470.length : Int) : Int) := of_decide_eq_true (by first | (with_reducible assumption) | assumption); obtain ⟨i013, hi013, _, hsz13, _⟩ := info_parts info3; have hroom13 : y470.length ≤ co14 := (Kd.R_reads' HO472.out).2.1; have hC13 : Kd.C (Kd.int .i64) _ Ao14 y470.length y470 := (Kd.R_reads' HO472.out).2.2; have hcut13 := cut_to (P := Try.prog) 53 3 .i64 Try.underlying53 hi013 Ao14 y470.length co14 (ji4) (of_decide_eq_true (by first | (with_reducible assumption) | assumption)) q13 hroom13; have hr13 := Kd.C_take (m := ((ji4) : Int).toNat) hC13 (by omega); have hy13 : y476.length = ((ji4) : Int).toNat := (by rw [Ny476.out, List.length_take]; omega); rw [← Ny476.out] at hr13; rw [← hy13] at hcut13; have HR479 := Aside0.mk hr13; have HC479 := Aside0.mk (show y476.length ≤ co14 from by omega); clear hr13 hC13 hroom13 hi013 hsz13; have KY13 := Aside0.mk hy13; clear hy13; have KL13 := Aside0.mk (show ((ji4) : Int).toNat ≤ y470.length from by omega); replace q13 := eq_true q13) | ((with_reducible refine gate_callee (f := 68) rfl ?_); refine goesL_ (some 19) rfl rfl Try.func68 (by kernel_rfl) rfl #[.pointer (some ⟨gb464, 0, none⟩), .slice Ao14 y476.length co14] rfl (by (try simp only [List.map_toArray, List.map_cons, List.map_nil]); first | done | rfl | (simp only [List.length_drop, List.length_take]; rfl)) ?_; (with_reducible refine (spec_l1Cur_among.calls gb464 l0 t474 t475 _ _ y476 t480 t481 t482 w _ ?side1 ?side2 ?side3 ?side4 ?side5 A7.out).mono ?_); (case side1 => repeat (first | (with_reducible first | exact HI464.out | apply IsS73.alloc | apply IsS73.drewN | apply IsS73.drew | apply IsS73.set_1 | apply IsS73.set_2) | exact HI464.out)); (case side2 => repeat (first | (with_reducible first | exact HB.out | apply below_alloc | apply pw_below_drewN | apply below_drew1 | refine below_set ?_ (IsS73.ge HI464.out)) | exact HB.out)); (case side3 => repeat (first | exact (by repeat (first | (with_reducible exact HR479.out) | (with_reducible refine Kd.C_alloc ?_ _) | (with_reducible refine Kd.C_drewN ?_ _) | (with_reducible refine Kd.C_drew ?_) | exact HR479.out)) | (with_reducible refine Kd.C_alloc ?_ _) | (with_reducible refine Kd.C_drewN ?_ _) | (with_reducible refine Kd.C_drew ?_))); (case side4 => exact HC479.out); (case side5 => exact fun ad e_ _ h_ => IsS73.own_ne HI464.out HO472.out (by decide) (by rw [e_, ← h_]; rfl)); rintro e w15 ⟨rfl, hi, hb, hk⟩; refine ⟨_, rfl, ?_⟩; have n0_ := Aside0.mk (Kd.R_mono (Kd.R_keep (IsS73.apart (show IsS73 w _ gb464 l0 t474 t475 from by repeat (first | (with_reducible first | exact HI464.out | apply IsS73.alloc | apply IsS73.drewN | apply IsS73.drew | apply IsS73.set_1 | apply IsS73.set_2) | exact HI464.out)) (by (with_reducible repeat (first | apply Kd.R_alloc | apply Kd.R_drewN | apply Kd.R_drew)); exact HO467.out) (by decide)) hk (fun _ h => h.2)) (fun _ h => h.1)); have n1_ := Aside0.mk (Kd.R_mono (Kd.R_keep (IsS73.apart (show IsS73 w _ gb464 l0 t474 t475 from by repeat (first | (with_reducible first | exact HI464.out | apply IsS73.alloc | apply IsS73.drewN | apply IsS73.drew | apply IsS73.set_1 | apply IsS73.set_2) | exact HI464.out)) (by (with_reducible repeat (first | apply Kd.R_alloc | apply Kd.R_drewN | apply Kd.R_drew)); exact HO472.out) (by decide)) hk (fun _ h => h.2)) (fun _ h => h.1)); have n2_ := Aside0.mk (hb); have n3_ := Aside0.mk (hi); clear HO467; clear HO472; clear HB; clear HI464; have HO467 := n0_; have HO472 := n1_; have HB := n2_; have HI464 := n3_; clear n0_ n1_ n2_ n3_; (try clear hb); (try clear hb2); (try clear hk); (try clear hi)))
      go_ret2
      exact ⟨_, by first | rfl | (simp [errW_none, errW_some] <;> rfl) | (simp only [← hji4]; first | rfl | (simp [errW_none, errW_some] <;> rfl)) | (simp [*, errW_none, errW_some] <;> rfl), by (with_reducible repeat (first | apply Kd.R_alloc | apply Kd.R_drewN | apply Kd.R_drew)); exact HO467.out, by repeat (first | (with_reducible first | exact HB.out | apply below_alloc | apply pw_below_drewN | apply below_drew1 | refine below_set ?_ (IsS73.ge HI464.out)) | exact HB.out)⟩
    · rw [if_neg c6] at H
      exact absurd H (by simp)
  · rw [if_neg c5] at H
    exact absurd H (by simp)

end Go.Proofs.Ytolaplcjbmjlmaa.X

-- written by a program of this session (wip/ext.py) out of the translation. Not trusted: Lean checks it.
namespace Go.Proofs.Ytolaplcjbmjlmaa.X
open Go.RowKit Go.Proofs.YtolaplcjbmjlmaaW.PrintWords Go.Proofs.YtolaplcjbmjlmaaW.PrintLast Go.Proofs.YtolaplcjbmjlmaaW.PrintMore
attribute [local go_sem] max2_int min2_int max_two min_two max_three min_three max_four min_four   -- for this text's walks alone
set_option linter.unusedVariables false
set_option linter.unusedSimpArgs false

/-! ### spec_l1Cur_one: function 70 -/
def spec_l1Cur_one.f (s0_0 : List Int) (s0_1 : Int) (s0_2 : Int) (a1 : Int) : Option (Bool × Int × Int) := (spec_l1Cur_pick.f s0_0 s0_1 s0_2 a1).bind fun bt483 => (some ((bt483.1 == 0), bt483.2.1, bt483.2.2))
set_option maxHeartbeats 8000000 in
set_option maxRecDepth 100000 in
theorem spec_l1Cur_one.calls (g : Nat) (s0_0 : List Int) (s0_1 : Int) (s0_2 : Int) (a1 : Int) (r1 : Bool) (r2 : Int) (r3 : Int) (w0 w : World) (hI : IsS73 w0 w g s0_0 s0_1 s0_2) (hB : Below w0.heap.size w0 w) (h : spec_l1Cur_one.f s0_0 s0_1 s0_2 a1 = some (r1, r2, r3)) :
    Calls Try.prog 70 #[.pointer (some ⟨g, 0, none⟩), .int .i64 a1] w fun e w' => e = .returned (.bool r1) ∧ IsS73 w0 w' g s0_0 r2 r3 ∧ Below w0.heap.size w0 w' ∧ KeepBut w w' g none := by
  have HI0 := Aside0.mk hI
  have HK := Aside0.mk (KeepBut.refl w g none)
  have HL := Aside0.mk hB.size
  clear hI
  have HW0 := Aside0.mk hB.size
  have HB := Aside0.mk hB
  clear hB
  have H : ((spec_l1Cur_pick.f s0_0 s0_1 s0_2 a1).bind fun bt483 => (some ((bt483.1 == 0), bt483.2.1, bt483.2.2))) = some (r1, r2, r3) := h
  clear h
  replace H := Option.bind_eq_some_iff.mp H
  obtain ⟨⟨t483, t484, t485⟩, A30, H⟩ := H
  replace H : (some ((t483 == 0), t484, t485)) = some (r1, r2, r3) := H
  have A3 := Aside0.mk A30
  clear A30
  simp only [Option.some.injEq, Prod.mk.injEq] at H
  obtain ⟨rfl, rfl, rfl⟩ := H
  go_enter Try.func70, Try.ntmps70
  go_wp2_with (first | ((with_reducible refine gate_callee (f := 69) rfl ?_); refine goesL_ (some 7) rfl rfl Try.func69 (by kernel_rfl) rfl #[.pointer (some ⟨g, 0, none⟩), .int .i64 a1] rfl (by (try simp only [List.map_toArray, List.map_cons, List.map_nil]); first | done | rfl | (simp only [List.length_drop, List.length_take]; rfl)) ?_; (with_reducible refine (spec_l1Cur_pick.calls g s0_0 s0_1 s0_2 a1 t483 t484 t485 w0 _ ?side1 ?side2 A3.out).mono ?_); (case side1 => repeat (first | (with_reducible first | exact HI0.out | apply IsS73.alloc | apply IsS73.drewN | apply IsS73.drew | apply IsS73.set_1 | apply IsS73.set_2) | exact HI0.out)); (case side2 => repeat (first | (with_reducible first | exact HB.out | apply below_alloc | apply pw_below_drewN | apply below_drew1 | refine below_set ?_ (IsS73.ge HI0.out)) | exact HB.out)); rintro e w4 ⟨rfl, hi, hb, hk⟩; refine ⟨_, rfl, ?_⟩; have n0_ := Aside0.mk (KeepBut.trans (by repeat (first | (with_reducible first | exact HK.out | apply KeepBut.set_ | apply keep_drewN | apply keep_drew | apply keep_alloc) | exact HK.out)) hk (.inl rfl)); have n1_ := Aside0.mk (hb); have n2_ := Aside0.mk (hi); clear HK; clear HB; clear HI0; have HK := n0_; have HB := n1_; have HI0 := n2_; clear n0_ n1_ n2_; (try clear hb); (try clear hb2); (try clear hk); (try clear hi)))
  go_ret
  exact ⟨by first | rfl | (simp [errW_none, errW_some] <;> rfl) | (simp [*, errW_none, errW_some] <;> rfl), by repeat (first | (with_reducible first | exact HI0.out | apply IsS73.alloc | apply IsS73.drewN | apply IsS73.drew | apply IsS73.set_1 | apply IsS73.set_2) | exact HI0.out), by repeat (first | (with_reducible first | exact HB.out | apply below_alloc | apply pw_below_drewN | apply below_drew1 | refine below_set ?_ (IsS73.ge HI0.out)) | exact HB.out), by repeat (first | (with_reducible first | exact HK.out | apply KeepBut.set_ | apply keep_drewN | apply keep_drew | apply keep_alloc) | exact HK.out)⟩

end Go.Proofs.Ytolaplcjbmjlmaa.X

-- written by a program of this session (wip/ext.py) out of the translation. Not trusted: Lean checks it.
namespace Go.Proofs.Ytolaplcjbmjlmaa.X
open Go.RowKit Go.Proofs.YtolaplcjbmjlmaaW.PrintWords Go.Proofs.YtolaplcjbmjlmaaW.PrintLast Go.Proofs.YtolaplcjbmjlmaaW.PrintMore
attribute [local go_sem] max2_int min2_int max_two min_two max_three min_three max_four min_four   -- for this text's walks alone
set_option linter.unusedVariables false
set_option linter.unusedSimpArgs false

/-! ### spec_DrawCompareRates: function 39 -/
def spec_DrawCompareRates.f (l0 : List Int) : Option (Int × Int × Int × Int) := (spec_l1Cur_among.f l0 0 0 (([0, 1, 2, 30, 100000] : List Int))).bind fun bt490 => ((some (([1, 2, 3, 10, 100000, 0] : List Int) : List Int)).bind fun y493 => ((spec_l1Cur_pick.f l0 bt490.2.1 bt490.2.2 12).bind fun bt496 => (if 0 ≤ (wrap64 (5 + (wrap64 (Int.tdiv bt496.1 11)))) then (if (wrap64 (5 + (wrap64 (Int.tdiv bt496.1 11)))) ≤ (y493.length : Int) then ((spec_l1Cur_among.f l0 bt496.2.1 bt496.2.2 (y493.take ((wrap64 (5 + (wrap64 (Int.tdiv bt496.1 11)))) : Int).toNat)).bind fun bt503 => ((spec_l1Cur_one.f l0 bt503.2.1 bt503.2.2 3).bind fun bt506 => (if bt506.1 = true then (some (bt490.1, bt503.1, wrap64 (2 * bt490.1), wrap64 (2 * bt503.1))) else ((some (([0, 1, 3, 45, 100000, (-1), 100001] : List Int) : List Int)).bind fun y509 => ((spec_l1Cur_pick.f l0 bt506.2.1 bt506.2.2 24).bind fun bt512 => (if 0 ≤ (wrap64 (5 + (wrap64 (Int.tdiv bt512.1 11)))) then (if (wrap64 (5 + (wrap64 (Int.tdiv bt512.1 11)))) ≤ (y509.length : Int) then ((spec_l1Cur_among.f l0 bt512.2.1 bt512.2.2 (y509.take ((wrap64 (5 + (wrap64 (Int.tdiv bt512.1 11)))) : Int).toNat)).bind fun bt519 => ((spec_l1Cur_among.f l0 bt519.2.1 bt519.2.2 (([1, 2, 7, 15] : List Int))).bind fun bt525 => (some (bt490.1, bt503.1, bt519.1, bt525.1)))) else (none)) else (none))))))) else (none)) else (none))))
set_option maxHeartbeats 8000000 in
set_option maxRecDepth 100000 in
theorem spec_DrawCompareRates.calls (A0 : Option Addr) (c0 : Nat) (l0 : List Int) (r1 : Int) (r2 : Int) (r3 : Int) (r4 : Int) (w : World) (hr0 : Kd.C (Kd.int .u8) w A0 l0.length l0) (hc0 : l0.length ≤ c0) (h : spec_DrawCompareRates.f l0 = some (r1, r2, r3, r4)) :
    Calls Try.prog 39 #[.slice A0 l0.length c0] w fun e w' => e = .returned (.tuple #[.int .i64 r1, .int .i64 r2, .int .i64 r3, .int .i64 r4]) ∧ Below w.heap.size w w' := by
  have hu73 := Try.underlying73
  have HR0 := Aside0.mk hr0
  have HC0 := Aside0.mk hc0
  clear hr0 hc0
  have HB := Aside0.mk (Below.refl w.heap.size w)
  have H : ((spec_l1Cur_among.f l0 0 0 (([0, 1, 2, 30, 100000] : List Int))).bind fun bt490 => ((some (([1, 2, 3, 10, 100000, 0] : List Int) : List Int)).bind fun y493 => ((spec_l1Cur_pick.f l0 bt490.2.1 bt490.2.2 12).bind fun bt496 => (if 0 ≤ (wrap64 (5 + (wrap64 (Int.tdiv bt496.1 11)))) then (if (wrap64 (5 + (wrap64 (Int.tdiv bt496.1 11)))) ≤ (y493.length : Int) then ((spec_l1Cur_among.f l0 bt496.2.1 bt496.2.2 (y493.take ((wrap64 (5 + (wrap64 (Int.tdiv bt496.1 11)))) : Int).toNat)).bind fun bt503 => ((spec_l1Cur_one.f l0 bt503.2.1 bt503.2.2 3).bind fun bt506 => (if bt506.1 = true then (some (bt490.1, bt503.1, wrap64 (2 * bt490.1), wrap64 (2 * bt503.1))) else ((some (([0, 1, 3, 45, 100000, (-1), 100001] : List Int) : List Int)).bind fun y509 => ((spec_l1Cur_pick.f l0 bt506.2.1 bt506.2.2 24).bind fun bt512 => (if 0 ≤ (wrap64 (5 + (wrap64 (Int.tdiv bt512.1 11)))) then (if (wrap64 (5 + (wrap64 (Int.tdiv bt512.1 11)))) ≤ (y509.length : Int) then ((spec_l1Cur_among.f l0 bt512.2.1 bt512.2.2 (y509.take ((wrap64 (5 + (wrap64 (Int.tdiv bt512.1 11)))) : Int).toNat)).bind fun bt519 => ((spec_l1Cur_among.f l0 bt519.2.1 bt519.2.2 (([1, 2, 7, 15] : List Int))).bind fun bt525 => (some (bt490.1, bt503.1, bt519.1, bt525.1)))) else (none)) else (none))))))) else (none)) else (none))))) = some (r1, r2, r3, r4) := h
  clear h
  obtain ⟨y487, hy487⟩ : ∃ y_ : List Int, y_ = (([0, 1, 2, 30, 100000] : List Int)) := ⟨_, rfl⟩
  replace H : ((spec_l1Cur_among.f l0 0 0 y487).bind fun bt490 => ((some (([1, 2, 3, 10, 100000, 0] : List Int) : List Int)).bind fun y493 => ((spec_l1Cur_pick.f l0 bt490.2.1 bt490.2.2 12).bind fun bt496 => (if 0 ≤ (wrap64 (5 + (wrap64 (Int.tdiv bt496.1 11)))) then (if (wrap64 (5 + (wrap64 (Int.tdiv bt496.1 11)))) ≤ (y493.length : Int) then ((spec_l1Cur_among.f l0 bt496.2.1 bt496.2.2 (y493.take ((wrap64 (5 + (wrap64 (Int.tdiv bt496.1 11)))) : Int).toNat)).bind fun bt503 => ((spec_l1Cur_one.f l0 bt503.2.1 bt503.2.2 3).bind fun bt506 => (if bt506.1 = true then (some (bt490.1, bt503.1, wrap64 (2 * bt490.1), wrap64 (2 * bt503.1))) else ((some (([0, 1, 3, 45, 100000, (-1), 100001] : List Int) : List Int)).bind fun y509 => ((spec_l1Cur_pick.f l0 bt506.2.1 bt506.2.2 24).bind fun bt512 => (if 0 ≤ (wrap64 (5 + (wrap64 (Int.tdiv bt512.1 11)))) then (if (wrap64 (5 + (wrap64 (Int.tdiv bt512.1 11)))) ≤ (y509.length : Int) then ((spec_l1Cur_among.f l0 bt512.2.1 bt512.2.2 (y509.take ((wrap64 (5 + (wrap64 (Int.tdiv bt512.1 11)))) : Int).toNat)).bind fun bt519 => ((spec_l1Cur_among.f l0 bt519.2.1 bt519.2.2 (([1, 2, 7, 15] : List Int))).bind fun bt525 => (some (bt490.1, bt503.1, bt519.1, bt525.1)))) else (none)) else (none))))))) else (none)) else (none))))) = some (r1, r2, r3, r4) := by first | (rw [hy487]; with_reducible exact H) | (have H2_ := (Option.bind_some _ _).symm.trans H; rw [hy487]; with_reducible exact H2_) | (have H2_ := (Option.bind_some _ _).symm.trans H; with_reducible exact H2_) | with_reducible exact H | (rw [hy487]; exact H) | exact H
  have Ny487 := Aside0.mk hy487
  clear hy487
  replace H := Option.bind_eq_some_iff.mp H
  obtain ⟨⟨t490, t491, t492⟩, A20, H⟩ := H
  replace H : ((some (([1, 2, 3, 10, 100000, 0] : List Int) : List Int)).bind fun y493 => ((spec_l1Cur_pick.f l0 t491 t492 12).bind fun bt496 => (if 0 ≤ (wrap64 (5 + (wrap64 (Int.tdiv bt496.1 11)))) then (if (wrap64 (5 + (wrap64 (Int.tdiv bt496.1 11)))) ≤ (y493.length : Int) then ((spec_l1Cur_among.f l0 bt496.2.1 bt496.2.2 (y493.take ((wrap64 (5 + (wrap64 (Int.tdiv bt496.1 11)))) : Int).toNat)).bind fun bt503 => ((spec_l1Cur_one.f l0 bt503.2.1 bt503.2.2 3).bind fun bt506 => (if bt506.1 = true then (some (t490, bt503.1, wrap64 (2 * t490), wrap64 (2 * bt503.1))) else ((some (([0, 1, 3, 45, 100000, (-1), 100001] : List Int) : List Int)).bind fun y509 => ((spec_l1Cur_pick.f l0 bt506.2.1 bt506.2.2 24).bind fun bt512 => (if 0 ≤ (wrap64 (5 + (wrap64 (Int.tdiv bt512.1 11)))) then (if (wrap64 (5 + (wrap64 (Int.tdiv bt512.1 11)))) ≤ (y509.length : Int) then ((spec_l1Cur_among.f l0 bt512.2.1 bt512.2.2 (y509.take ((wrap64 (5 + (wrap64 (Int.tdiv bt512.1 11)))) : Int).toNat)).bind fun bt519 => ((spec_l1Cur_among.f l0 bt519.2.1 bt519.2.2 (([1, 2, 7, 15] : List Int))).bind fun bt525 => (some (t490, bt503.1, bt519.1, bt525.1)))) else (none)) else (none))))))) else (none)) else (none)))) = some (r1, r2, r3, r4) := H
  have A2 := Aside0.mk A20
  clear A20
  obtain ⟨y493, hy493⟩ : ∃ y_ : List Int, y_ = (([1, 2, 3, 10, 100000, 0] : List Int)) := ⟨_, rfl⟩
  replace H : ((spec_l1Cur_pick.f l0 t491 t492 12).bind fun bt496 => (if 0 ≤ (wrap64 (5 + (wrap64 (Int.tdiv bt496.1 11)))) then (if (wrap64 (5 + (wrap64 (Int.tdiv bt496.1 11)))) ≤ (y493.length : Int) then ((spec_l1Cur_among.f l0 bt496.2.1 bt496.2.2 (y493.take ((wrap64 (5 + (wrap64 (Int.tdiv bt496.1 11)))) : Int).toNat)).bind fun bt503 => ((spec_l1Cur_one.f l0 bt503.2.1 bt503.2.2 3).bind fun bt506 => (if bt506.1 = true then (some (t490, bt503.1, wrap64 (2 * t490), wrap64 (2 * bt503.1))) else ((some (([0, 1, 3, 45, 100000, (-1), 100001] : List Int) : List Int)).bind fun y509 => ((spec_l1Cur_pick.f l0 bt506.2.1 bt506.2.2 24).bind fun bt512 => (if 0 ≤ (wrap64 (5 + (wrap64 (Int.tdiv bt512.1 11)))) then (if (wrap64 (5 + (wrap64 (Int.tdiv bt512.1 11)))) ≤ (y509.length : Int) then ((spec_l1Cur_among.f l0 bt512.2.1 bt512.2.2 (y509.take ((wrap64 (5 + (wrap64 (Int.tdiv bt512.1 11)))) : Int).toNat)).bind fun bt519 => ((spec_l1Cur_among.f l0 bt519.2.1 bt519.2.2 (([1, 2, 7, 15] : List Int))).bind fun bt525 => (some (t490, bt503.1, bt519.1, bt525.1)))) else (none)) else (none))))))) else (none)) else (none))) = some (r1, r2, r3, r4) := by first | (rw [hy493]; with_reducible exact H) | (have H2_ := (Option.bind_some _ _).symm.trans H; rw [hy493]; with_reducible exact H2_) | (have H2_ := (Option.bind_some _ _).symm.trans H; with_reducible exact H2_) | with_reducible exact H | (rw [hy493]; exact H) | exact H
  have Ny493 := Aside0.mk hy493
  clear hy493
  replace H := Option.bind_eq_some_iff.mp H
  obtain ⟨⟨t496, t497, t498⟩, A30, H⟩ := H
  replace H : (if 0 ≤ (wrap64 (5 + (wrap64 (Int.tdiv t496 11)))) then (if (wrap64 (5 + (wrap64 (Int.tdiv t496 11)))) ≤ (y493.length : Int) then ((spec_l1Cur_among.f l0 t497 t498 (y493.take ((wrap64 (5 + (wrap64 (Int.tdiv t496 11)))) : Int).toNat)).bind fun bt503 => ((spec_l1Cur_one.f l0 bt503.2.1 bt503.2.2 3).bind fun bt506 => (if bt506.1 = true then (some (t490, bt503.1, wrap64 (2 * t490), wrap64 (2 * bt503.1))) else ((some (([0, 1, 3, 45, 100000, (-1), 100001] : List Int) : List Int)).bind fun y509 => ((spec_l1Cur_pick.f l0 bt506.2.1 bt506.2.2 24).bind fun bt512 => (if 0 ≤ (wrap64 (5 + (wrap64 (Int.tdiv bt512.1 11)))) then (if (wrap64 (5 + (wrap64 (Int.tdiv bt512.1 11)))) ≤ (y509.length : Int) then ((spec_l1Cur_among.f l0 bt512.2.1 bt512.2.2 (y509.take ((wrap64 (5 + (wrap64 (Int.tdiv bt512.1 11)))) : Int).toNat)).bind fun bt519 => ((spec_l1Cur_among.f l0 bt519.2.1 bt519.2.2 (([1, 2, 7, 15] : List Int))).bind fun bt525 => (some (t490, bt503.1, bt519.1, bt525.1)))) else (none)) else (none))))))) else (none)) else (none)) = some (r1, r2, r3, r4) := H
  have A3 := Aside0.mk A30
  clear A30
  obtain ⟨ji4, hji4⟩ : ∃ j_ : Int, (wrap64 (5 + (wrap64 (Int.tdiv t496 11)))) = j_ := ⟨_, rfl⟩
  replace H : (if 0 ≤ (ji4) then (if (ji4) ≤ (y493.length : Int) then ((spec_l1Cur_among.f l0 t497 t498 (y493.take ((ji4) : Int).toNat)).bind fun bt503 => ((spec_l1Cur_one.f l0 bt503.2.1 bt503.2.2 3).bind fun bt506 => (if bt506.1 = true then (some (t490, bt503.1, wrap64 (2 * t490), wrap64 (2 * bt503.1))) else ((some (([0, 1, 3, 45, 100000, (-1), 100001] : List Int) : List Int)).bind fun y509 => ((spec_l1Cur_pick.f l0 bt506.2.1 bt506.2.2 24).bind fun bt512 => (if 0 ≤ (wrap64 (5 + (wrap64 (Int.tdiv bt512.1 11)))) then (if (wrap64 (5 + (wrap64 (Int.tdiv bt512.1 11)))) ≤ (y509.length : Int) then ((spec_l1Cur_among.f l0 bt512.2.1 bt512.2.2 (y509.take ((wrap64 (5 + (wrap64 (Int.tdiv bt512.1 11)))) : Int).toNat)).bind fun bt519 => ((spec_l1Cur_among.f l0 bt519.2.1 bt519.2.2 (([1, 2, 7, 15] : List Int))).bind fun bt525 => (some (t490, bt503.1, bt519.1, bt525.1)))) else (none)) else (none))))))) else (none)) else (none)) = some (r1, r2, r3, r4) := by first | (rw [hji4] at H; exact H) | (simp only [hji4] at H ⊢; exact H)
  (try rw [hji4] at A2)
  (try rw [hji4] at A3)
  have hji4w : (IntKind.i64.wrap (5 + (wrap64 (Int.tdiv t496 11)))) = ji4 := (i64_w _).trans hji4
  by_cases c5 : 0 ≤ (ji4)
  · rw [if_pos c5] at H
    have c5b0 := eq_true c5
    have c5b1 : decide (0 ≤ (ji4)) = true := decide_eq_true c5
    clear c5
    by_cases c6 : (ji4) ≤ (y493.length : Int)
    · rw [if_pos c6] at H
      have c6b0 := eq_true c6
      have c6b1 : decide ((ji4) ≤ (y493.length : Int)) = true := decide_eq_true c6
      clear c6
      obtain ⟨y499, hy499⟩ : ∃ y_ : List Int, y_ = (y493.take ((ji4) : Int).toNat) := ⟨_, rfl⟩
      replace H : ((spec_l1Cur_among.f l0 t497 t498 y499).bind fun bt503 => ((spec_l1Cur_one.f l0 bt503.2.1 bt503.2.2 3).bind fun bt506 => (if bt506.1 = true then (some (t490, bt503.1, wrap64 (2 * t490), wrap64 (2 * bt503.1))) else ((some (([0, 1, 3, 45, 100000, (-1), 100001] : List Int) : List Int)).bind fun y509 => ((spec_l1Cur_pick.f l0 bt506.2.1 bt506.2.2 24).bind fun bt512 => (if 0 ≤ (wrap64 (5 + (wrap64 (Int.tdiv bt512.1 11)))) then (if (wrap64 (5 + (wrap64 (Int.tdiv bt512.1 11)))) ≤ (y509.length : Int) then ((spec_l1Cur_among.f l0 bt512.2.1 bt512.2.2 (y509.take ((wrap64 (5 + (wrap64 (Int.tdiv bt512.1 11)))) : Int).toNat)).bind fun bt519 => ((spec_l1Cur_among.f l0 bt519.2.1 bt519.2.2 (([1, 2, 7, 15] : List Int))).bind fun bt525 => (some (t490, bt503.1, bt519.1, bt525.1)))) else (none)) else (none))))))) = some (r1, r2, r3, r4) := by first | (rw [hy499]; with_reducible exact H) | (have H2_ := (Option.bind_some _ _).symm.trans H; rw [hy499]; with_reducible exact H2_) | (have H2_ := (Option.bind_some _ _).symm.trans H; with_reducible exact H2_) | with_reducible exact H | (rw [hy499]; exact H) | exact H
      have Ny499 := Aside0.mk hy499
      clear hy499
      replace H := Option.bind_eq_some_iff.mp H
      obtain ⟨⟨t503, t504, t505⟩, A70, H⟩ := H
      replace H : ((spec_l1Cur_one.f l0 t504 t505 3).bind fun bt506 => (if bt506.1 = true then (some (t490, t503, wrap64 (2 * t490), wrap64 (2 * t503))) else ((some (([0, 1, 3, 45, 100000, (-1), 100001] : List Int) : List Int)).bind fun y509 => ((spec_l1Cur_pick.f l0 bt506.2.1 bt506.2.2 24).bind fun bt512 => (if 0 ≤ (wrap64 (5 + (wrap64 (Int.tdiv bt512.1 11)))) then (if (wrap64 (5 + (wrap64 (Int.tdiv bt512.1 11)))) ≤ (y509.length : Int) then ((spec_l1Cur_among.f l0 bt512.2.1 bt512.2.2 (y509.take ((wrap64 (5 + (wrap64 (Int.tdiv bt512.1 11)))) : Int).toNat)).bind fun bt519 => ((spec_l1Cur_among.f l0 bt519.2.1 bt519.2.2 (([1, 2, 7, 15] : List Int))).bind fun bt525 => (some (t490, t503, bt519.1, bt525.1)))) else (none)) else (none)))))) = some (r1, r2, r3, r4) := H
      have A7 := Aside0.mk A70
      clear A70
      replace H := Option.bind_eq_some_iff.mp H
      obtain ⟨⟨t506, t507, t508⟩, A80, H⟩ := H
      replace H : (if t506 = true then (some (t490, t503, wrap64 (2 * t490), wrap64 (2 * t503))) else ((some (([0, 1, 3, 45, 100000, (-1), 100001] : List Int) : List Int)).bind fun y509 => ((spec_l1Cur_pick.f l0 t507 t508 24).bind fun bt512 => (if 0 ≤ (wrap64 (5 + (wrap64 (Int.tdiv bt512.1 11)))) then (if (wrap64 (5 + (wrap64 (Int.tdiv bt512.1 11)))) ≤ (y509.length : Int) then ((spec_l1Cur_among.f l0 bt512.2.1 bt512.2.2 (y509.take ((wrap64 (5 + (wrap64 (Int.tdiv bt512.1 11)))) : Int).toNat)).bind fun bt519 => ((spec_l1Cur_among.f l0 bt519.2.1 bt519.2.2 (([1, 2, 7, 15] : List Int))).bind fun bt525 => (some (t490, t503, bt519.1, bt525.1)))) else (none)) else (none))))) = some (r1, r2, r3, r4) := H
      have A8 := Aside0.mk A80
      clear A80
      by_cases c9 : t506 = true
      · subst c9
        have H1 : (some (t490, t503, wrap64 (2 * t490), wrap64 (2 * t503))) = some (r1, r2, r3, r4) := by rw [if_pos rfl] at H; exact H
        clear H
        have H := H1
        clear H1
        simp only [Option.some.injEq, Prod.mk.injEq] at H
        obtain ⟨rfl, rfl, rfl, rfl⟩ := H
        go_enter Try.func39, Try.ntmps39
        go_wp2_with (first | ((with_reducible refine gate_dst (N := 11) rfl ?_); refine box_event ?hg (N := 11) ?hd (cs := #[.slice A0 l0.length c0, .int .i64 0, .int .u64 0]) (t := 73) ?hr ?_; (case hd => rfl); (case hg => rfl); (case hr => first | (go_simp; done) | (go_simp; rfl)); intro gb486 hg w10 hbox hb; have n0_ := Aside0.mk (below_step (by repeat (first | (with_reducible first | exact HB.out | apply below_alloc | apply pw_below_drewN | apply below_drew1) | exact HB.out)) hb); have n1_ := Aside0.mk ((by rw [hg]; exact (below_size (by repeat (first | (with_reducible first | exact HB.out | apply below_alloc | apply pw_below_drewN | apply below_drew1) | exact HB.out))) : w.heap.size ≤ gb486)); have n2_ := Aside0.mk ((by rw [hg]; exact (below_size (by repeat (first | (with_reducible first | exact HB.out | apply below_alloc | apply pw_below_drewN | apply below_drew1) | exact HB.out))) : w.heap.size ≤ gb486)); have n3_ := Aside0.mk ((⟨_, _, hbox, (by rw [hg]; exact (below_size (by repeat (first | (with_reducible first | exact HB.out | apply below_alloc | apply pw_below_drewN | apply below_drew1) | exact HB.out)))), HR0.out⟩ : IsS73 w w10 gb486 l0 0 0)); clear HB; have HB := n0_; have GW486 := n1_; have GE486 := n2_; have HI486 := n3_; clear n0_ n1_ n2_ n3_; clear hb hbox hg) | ((with_reducible refine gate_dst (N := 13) rfl ?_); refine Kd.R_lit (Kd.int .i64) _ 3 ?hg (N := 13) ?hd (xs := ([0, 1, 2, 30, 100000] : List Int)) (inner := [.int .i64 0, .int .i64 1, .int .i64 2, .int .i64 30, .int .i64 100000]) (ok := fun _ => True) (okp := fun _ => True) ?hr ?hp (fun _ hk => hk) trivial (Below.refl _ _) (Nat.le_refl _) (by simp) ?_; (case hd => rfl); (case hg => rfl); (case hr => first | (go_simp; done) | (go_simp; rfl)); (case hp => exact (Reps.one (show Kd.M (Kd.int .i64) _ _ _ 0 [.int .i64 0] from rfl) (Reps.one (show Kd.M (Kd.int .i64) _ _ _ 1 [.int .i64 1] from rfl) (Reps.one (show Kd.M (Kd.int .i64) _ _ _ 2 [.int .i64 2] from rfl) (Reps.one (show Kd.M (Kd.int .i64) _ _ _ 30 [.int .i64 30] from rfl) (Reps.one (show Kd.M (Kd.int .i64) _ _ _ 100000 [.int .i64 100000] from rfl) (Reps.none _ _))))))); intro v488 w11 ho12 hb hg_ hnew_; clear hg_ hnew_; (first | rw [← Ny487.out] at ho12 | (simp only [Int.reduceToNat] at ho12; rw [← Ny487.out] at ho12)); have n0_ := Aside0.mk (Kd.R_lower ho12 (below_size (by repeat (first | (with_reducible first | exact HB.out | apply below_alloc | apply pw_below_drewN | apply below_drew1 | refine below_set ?_ (IsS73.ge HI486.out)) | exact HB.out)))); have n1_ := Aside0.mk (IsS73.below (by repeat (first | (with_reducible first | exact HI486.out | apply IsS73.alloc | apply IsS73.drewN | apply IsS73.drew | apply IsS73.set_1 | apply IsS73.set_2) | exact HI486.out)) hb); have n2_ := Aside0.mk (below_step (by repeat (first | (with_reducible first | exact HB.out | apply below_alloc | apply pw_below_drewN | apply below_drew1 | refine below_set ?_ (IsS73.ge HI486.out)) | exact HB.out)) hb); clear HI486; clear HB; have HO489 := n0_; have HI486 := n1_; have HB := n2_; clear n0_ n1_ n2_; clear hb ho12; obtain ⟨Ao13, co13, eo13⟩ := Kd.R_slice HO489.out; subst eo13) | ((with_reducible refine gate_callee (f := 68) rfl ?_); refine goesL_ (some 14) rfl rfl Try.func68 (by kernel_rfl) rfl #[.pointer (some ⟨gb486, 0, none⟩), .slice Ao13 y487.length co13] rfl (by (try simp only [List.map_toArray, List.map_cons, List.map_nil]); first | done | rfl | (simp only [List.length_drop, List.length_take]; rfl)) ?_; (with_reducible refine (spec_l1Cur_among.calls gb486 l0 0 0 _ _ y487 t490 t491 t492 w _ ?side1 ?side2 ?side3 ?side4 ?side5 A2.out).mono ?_); (case side1 => repeat (first | (with_reducible first | exact HI486.out | apply IsS73.alloc | apply IsS73.drewN | apply IsS73.drew | apply IsS73.set_1 | apply IsS73.set_2) | exact HI486.out)); (case side2 => repeat (first | (with_reducible first | exact HB.out | apply below_alloc | apply pw_below_drewN | apply below_drew1 | refine below_set ?_ (IsS73.ge HI486.out)) | exact HB.out)); (case side3 => repeat (first | exact (Kd.R_reads' HO489.out).2.2 | (with_reducible refine Kd.C_alloc ?_ _) | (with_reducible refine Kd.C_drewN ?_ _) | (with_reducible refine Kd.C_drew ?_))); (case side4 => exact (Kd.R_reads' HO489.out).2.1); (case side5 => exact far_slice (IsS73.own_ne HI486.out HO489.out (by decide))); rintro e w14 ⟨rfl, hi, hb, hk⟩; refine ⟨_, rfl, ?_⟩; have n0_ := Aside0.mk (Kd.R_mono (Kd.R_keep (IsS73.apart (show IsS73 w _ gb486 l0 0 0 from by repeat (first | (with_reducible first | exact HI486.out | apply IsS73.alloc | apply IsS73.drewN | apply IsS73.drew | apply IsS73.set_1 | apply IsS73.set_2) | exact HI486.out)) (by (with_reducible repeat (first | apply Kd.R_alloc | apply Kd.R_drewN | apply Kd.R_drew)); exact HO489.out) (by decide)) hk (fun _ h => h.2)) (fun _ h => h.1)); have n1_ := Aside0.mk (hb); have n2_ := Aside0.mk (hi); clear HO489; clear HB; clear HI486; have HO489 := n0_; have HB := n1_; have HI486 := n2_; clear n0_ n1_ n2_; (try clear hb); (try clear hb2); (try clear hk); (try clear hi)) | ((with_reducible refine gate_dst (N := 16) rfl ?_); refine Kd.R_lit (Kd.int .i64) _ 3 ?hg (N := 16) ?hd (xs := ([1, 2, 3, 10, 100000, 0] : List Int)) (inner := [.int .i64 1, .int .i64 2, .int .i64 3, .int .i64 10, .int .i64 100000, .int .i64 0]) (ok := fun _ => True) (okp := fun _ => True) ?hr ?hp (fun _ hk => hk) trivial (Below.refl _ _) (Nat.le_refl _) (by simp) ?_; (case hd => rfl); (case hg => rfl); (case hr => first | (go_simp; done) | (go_simp; rfl)); (case hp => exact (Reps.one (show Kd.M (Kd.int .i64) _ _ _ 1 [.int .i64 1] from rfl) (Reps.one (show Kd.M (Kd.int .i64) _ _ _ 2 [.int .i64 2] from rfl) (Reps.one (show Kd.M (Kd.int .i64) _ _ _ 3 [.int .i64 3] from rfl) (Reps.one (show Kd.M (Kd.int .i64) _ _ _ 10 [.int .i64 10] from rfl) (Reps.one (show Kd.M (Kd.int .i64) _ _ _ 100000 [.int .i64 100000] from rfl) (Reps.one (show Kd.M (Kd.int .i64) _ _ _ 0 [.int .i64 0] from rfl) (Reps.none _ _)))))))); intro v494 w15 ho16 hb hg_ hnew_; clear hg_ hnew_; (first | rw [← Ny493.out] at ho16 | (simp only [Int.reduceToNat] at ho16; rw [← Ny493.out] at ho16)); have n0_ := Aside0.mk (Kd.R_elder' (by (with_reducible repeat (first | apply Kd.R_alloc | apply Kd.R_drewN | apply Kd.R_drew)); exact HO489.out) (Kd.R_base ho16) hb); have n1_ := Aside0.mk (Kd.R_lower (Kd.R_new' ho16 (Kd.R_lt (by (with_reducible repeat (first | apply Kd.R_alloc | apply Kd.R_drewN | apply Kd.R_drew)); exact HO489.out))) (below_size (by repeat (first | (with_reducible first | exact HB.out | apply below_alloc | apply pw_below_drewN | apply below_drew1 | refine below_set ?_ (IsS73.ge HI486.out)) | exact HB.out)))); have n2_ := Aside0.mk (IsS73.below (by repeat (first | (with_reducible first | exact HI486.out | apply IsS73.alloc | apply IsS73.drewN | apply IsS73.drew | apply IsS73.set_1 | apply IsS73.set_2) | exact HI486.out)) hb); have n3_ := Aside0.mk (below_step (by repeat (first | (with_reducible first | exact HB.out | apply below_alloc | apply pw_below_drewN | apply below_drew1 | refine below_set ?_ (IsS73.ge HI486.out)) | exact HB.out)) hb); clear HO489; clear HI486; clear HB; have HO489 := n0_; have HO495 := n1_; have HI486 := n2_; have HB := n3_; clear n0_ n1_ n2_ n3_; clear hb ho16) | ((with_reducible refine gate_callee (f := 69) rfl ?_); refine goesL_ (some 18) rfl rfl Try.func69 (by kernel_rfl) rfl #[.pointer (some ⟨gb486, 0, none⟩), .int .i64 12] rfl (by (try simp only [List.map_toArray, List.map_cons, List.map_nil]); first | done | rfl | (simp only [List.length_drop, List.length_take]; rfl)) ?_; (with_reducible refine (spec_l1Cur_pick.calls gb486 l0 t491 t492 12 t496 t497 t498 w _ ?side1 ?side2 A3.out).mono ?_); (case side1 => repeat (first | (with_reducible first | exact HI486.out | apply IsS73.alloc | apply IsS73.drewN | apply IsS73.drew | apply IsS73.set_1 | apply IsS73.set_2) | exact HI486.out)); (case side2 => repeat (first | (with_reducible first | exact HB.out | apply below_alloc | apply pw_below_drewN | apply below_drew1 | refine below_set ?_ (IsS73.ge HI486.out)) | exact HB.out)); rintro e w17 ⟨rfl, hi, hb, hk⟩; refine ⟨_, rfl, ?_⟩; have n0_ := Aside0.mk (Kd.R_mono (Kd.R_keep (IsS73.apart (show IsS73 w _ gb486 l0 t491 t492 from by repeat (first | (with_reducible first | exact HI486.out | apply IsS73.alloc | apply IsS73.drewN | apply IsS73.drew | apply IsS73.set_1 | apply IsS73.set_2) | exact HI486.out)) (by (with_reducible repeat (first | apply Kd.R_alloc | apply Kd.R_drewN | apply Kd.R_drew)); exact HO489.out) (by decide)) hk (fun _ h => h.2)) (fun _ h => h.1)); have n1_ := Aside0.mk (Kd.R_mono (Kd.R_keep (IsS73.apart (show IsS73 w _ gb486 l0 t491 t492 from by repeat (first | (with_reducible first | exact HI486.out | apply IsS73.alloc | apply IsS73.drewN | apply IsS73.drew | apply IsS73.set_1 | apply IsS73.set_2) | exact HI486.out)) (by (with_reducible repeat (first | apply Kd.R_alloc | apply Kd.R_drewN | apply Kd.R_drew)); exact HO495.out) (by decide)) hk (fun _ h => h.2)) (fun _ h => h.1)); have n2_ := Aside0.mk (hb); have n3_ := Aside0.mk (hi); clear HO489; clear HO495; clear HB; clear HI486; have HO489 := n0_; have HO495 := n1_; have HB := n2_; have HI486 := n3_; clear n0_ n1_ n2_ n3_; (try clear hb); (try clear hb2); (try clear hk); (try clear hi); obtain ⟨Ao19, co19, eo19⟩ := Kd.R_slice HO495.out; subst eo19; have q18 : ((ji4) : Int) ≤ ((y493.length : Int) : Int) := of_decide_eq_true (by first | (with_reducible assumption) | assumption); obtain ⟨i018, hi018, _, hsz18, _⟩ := info_parts info3; have hroom18 : y493.length ≤ co19 := (Kd.R_reads' HO495.out).2.1; have hC18 : Kd.C (Kd.int .i64) _ Ao19 y493.length y493 := (Kd.R_reads' HO495.out).2.2; have hcut18 := cut_to (P := Try.prog) 53 3 .i64 Try.underlying53 hi018 Ao19 y493.length co19 (ji4) (of_decide_eq_true (by first | (with_reducible assumption) | assumption)) q18 hroom18; have hr18 := Kd.C_take (m := ((ji4) : Int).toNat) hC18 (by omega); have hy18 : y499.length = ((ji4) : Int).toNat := (by rw [Ny499.out, List.length_take]; omega); rw [← Ny499.out] at hr18; rw [← hy18] at hcut18; have HR502 := Aside0.mk hr18; have HC502 := Aside0.mk (show y499.length ≤ co19 from by omega); clear hr18 hC18 hroom18 hi018 hsz18; have KY18 := Aside0.mk hy18; clear hy18; have KL18 := Aside0.mk (show ((ji4) : Int).toNat ≤ y493.length from by omega); replace q18 := eq_true q18) | ((with_reducible refine gate_callee (f := 68) rfl ?_); refine goesL_ (some 22) rfl rfl Try.func68 (by kernel_rfl) rfl #[.pointer (some ⟨gb486, 0, none⟩), .slice Ao19 y499.length co19] rfl (by (try simp only [List.map_toArray, List.map_cons, List.map_nil]); first | done | rfl | (simp only [List.length_drop, List.length_take]; rfl)) ?_; (with_reducible refine (spec_l1Cur_among.calls gb486 l0 t497 t498 _ _ y499 t503 t504 t505 w _ ?side1 ?side2 ?side3 ?side4 ?side5 A7.out).mono ?_); (case side1 => repeat (first | (with_reducible first | exact HI486.out | apply IsS73.alloc | apply IsS73.drewN | apply IsS73.drew | apply IsS73.set_1 | apply IsS73.set_2) | exact HI486.out)); (case side2 => repeat (first | (with_reducible first | exact HB.out | apply below_alloc | apply pw_below_drewN | apply below_drew1 | refine below_set ?_ (IsS73.ge HI486.out)) | exact HB.out)); (case side3 => repeat (first | exact (by repeat (first | (with_reducible exact HR502.out) | (with_reducible refine Kd.C_alloc ?_ _) | (with_reducible refine Kd.C_drewN ?_ _) | (with_reducible refine Kd.C_drew ?_) | exact HR502.out)) | (with_reducible refine Kd.C_alloc ?_ _) | (with_reducible refine Kd.C_drewN ?_ _) | (with_reducible refine Kd.C_drew ?_))); (case side4 => exact HC502.out); (case side5 => exact fun ad e_ _ h_ => IsS73.own_ne HI486.out HO495.out (by decide) (by rw [e_, ← h_]; rfl)); rintro e w20 ⟨rfl, hi, hb, hk⟩; refine ⟨_, rfl, ?_⟩; have n0_ := Aside0.mk (Kd.R_mono (Kd.R_keep (IsS73.apart (show IsS73 w _ gb486 l0 t497 t498 from by repeat (first | (with_reducible first | exact HI486.out | apply IsS73.alloc | apply IsS73.drewN | apply IsS73.drew | apply IsS73.set_1 | apply IsS73.set_2) | exact HI486.out)) (by (with_reducible repeat (first | apply Kd.R_alloc | apply Kd.R_drewN | apply Kd.R_drew)); exact HO489.out) (by decide)) hk (fun _ h => h.2)) (fun _ h => h.1)); have n1_ := Aside0.mk (Kd.R_mono (Kd.R_keep (IsS73.apart (show IsS73 w _ gb486 l0 t497 t498 from by repeat (first | (with_reducible first | exact HI486.out | apply IsS73.alloc | apply IsS73.drewN | apply IsS73.drew | apply IsS73.set_1 | apply IsS73.set_2) | exact HI486.out)) (by (with_reducible repeat (first | apply Kd.R_alloc | apply Kd.R_drewN | apply Kd.R_drew)); exact HO495.out) (by decide)) hk (fun _ h => h.2)) (fun _ h => h.1)); have n2_ := Aside0.mk (hb); have n3_ := Aside0.mk (hi); clear HO489; clear HO495; clear HB; clear HI486; have HO489 := n0_; have HO495 := n1_; have HB := n2_; have HI486 := n3_; clear n0_ n1_ n2_ n3_; (try clear hb); (try clear hb2); (try clear hk); (try clear hi)) | ((with_reducible refine gate_callee (f := 70) rfl ?_); refine goesL_ (some 24) rfl rfl Try.func70 (by kernel_rfl) rfl #[.pointer (some ⟨gb486, 0, none⟩), .int .i64 3] rfl (by (try simp only [List.map_toArray, List.map_cons, List.map_nil]); first | done | rfl | (simp only [List.length_drop, List.length_take]; rfl)) ?_; (with_reducible refine (spec_l1Cur_one.calls gb486 l0 t504 t505 3 true t507 t508 w _ ?side1 ?side2 A8.out).mono ?_); (case side1 => repeat (first | (with_reducible first | exact HI486.out | apply IsS73.alloc | apply IsS73.drewN | apply IsS73.drew | apply IsS73.set_1 | apply IsS73.set_2) | exact HI486.out)); (case side2 => repeat (first | (with_reducible first | exact HB.out | apply below_alloc | apply pw_below_drewN | apply below_drew1 | refine below_set ?_ (IsS73.ge HI486.out)) | exact HB.out)); rintro e w21 ⟨rfl, hi, hb, hk⟩; refine ⟨_, rfl, ?_⟩; have n0_ := Aside0.mk (Kd.R_mono (Kd.R_keep (IsS73.apart (show IsS73 w _ gb486 l0 t504 t505 from by repeat (first | (with_reducible first | exact HI486.out | apply IsS73.alloc | apply IsS73.drewN | apply IsS73.drew | apply IsS73.set_1 | apply IsS73.set_2) | exact HI486.out)) (by (with_reducible repeat (first | apply Kd.R_alloc | apply Kd.R_drewN | apply Kd.R_drew)); exact HO489.out) (by decide)) hk (fun _ h => h.2)) (fun _ h => h.1)); have n1_ := Aside0.mk (Kd.R_mono (Kd.R_keep (IsS73.apart (show IsS73 w _ gb486 l0 t504 t505 from by repeat (first | (with_reducible first | exact HI486.out | apply IsS73.alloc | apply IsS73.drewN | apply IsS73.drew | apply IsS73.set_1 | apply IsS73.set_2) | exact HI486.out)) (by (with_reducible repeat (first | apply Kd.R_alloc | apply Kd.R_drewN | apply Kd.R_drew)); exact HO495.out) (by decide)) hk (fun _ h => h.2)) (fun _ h => h.1)); have n2_ := Aside0.mk (hb); have n3_ := Aside0.mk (hi); clear HO489; clear HO495; clear HB; clear HI486; have HO489 := n0_; have HO495 := n1_; have HB := n2_; have HI486 := n3_; clear n0_ n1_ n2_ n3_; (try clear hb); (try clear hb2); (try clear hk); (try clear hi)))
        refine bodyPost_ret (results_list (rs := [.tmp 2, .tmp 3, .tmp 4, .tmp 5]) rfl (by simp) (.tmp (.tmp (.tmp (.tmp .nil))))) rfl ?_
        exact ⟨by first | rfl | (simp [errW_none, errW_some] <;> rfl) | (simp only [← hji4]; first | rfl | (simp [errW_none, errW_some] <;> rfl)) | (simp [*, errW_none, errW_some] <;> rfl), by repeat (first | (with_reducible first | exact HB.out | apply below_alloc | apply pw_below_drewN | apply below_drew1 | refine below_set ?_ (IsS73.ge HI486.out)) | exact HB.out)⟩
      · replace c9 := Bool.eq_false_iff.mpr c9
        subst c9
        have H1 : ((some (([0, 1, 3, 45, 100000, (-1), 100001] : List Int) : List Int)).bind fun y509 => ((spec_l1Cur_pick.f l0 t507 t508 24).bind fun bt512 => (if 0 ≤ (wrap64 (5 + (wrap64 (Int.tdiv bt512.1 11)))) then (if (wrap64 (5 + (wrap64 (Int.tdiv bt512.1 11)))) ≤ (y509.length : Int) then ((spec_l1Cur_among.f l0 bt512.2.1 bt512.2.2 (y509.take ((wrap64 (5 + (wrap64 (Int.tdiv bt512.1 11)))) : Int).toNat)).bind fun bt519 => ((spec_l1Cur_among.f l0 bt519.2.1 bt519.2.2 (([1, 2, 7, 15] : List Int))).bind fun bt525 => (some (t490, t503, bt519.1, bt525.1)))) else (none)) else (none)))) = some (r1, r2, r3, r4) := by rw [if_neg (show ¬ (false = true) by decide)] at H; exact H
        clear H
        have H := H1
        clear H1
        obtain ⟨y509, hy509⟩ : ∃ y_ : List Int, y_ = (([0, 1, 3, 45, 100000, (-1), 100001] : List Int)) := ⟨_, rfl⟩
        replace H : ((spec_l1Cur_pick.f l0 t507 t508 24).bind fun bt512 => (if 0 ≤ (wrap64 (5 + (wrap64 (Int.tdiv bt512.1 11)))) then (if (wrap64 (5 + (wrap64 (Int.tdiv bt512.1 11)))) ≤ (y509.length : Int) then ((spec_l1Cur_among.f l0 bt512.2.1 bt512.2.2 (y509.take ((wrap64 (5 + (wrap64 (Int.tdiv bt512.1 11)))) : Int).toNat)).bind fun bt519 => ((spec_l1Cur_among.f l0 bt519.2.1 bt519.2.2 (([1, 2, 7, 15] : List Int))).bind fun bt525 => (some (t490, t503, bt519.1, bt525.1)))) else (none)) else (none))) = some (r1, r2, r3, r4) := by first | (rw [hy509]; with_reducible exact H) | (have H2_ := (Option.bind_some _ _).symm.trans H; rw [hy509]; with_reducible exact H2_) | (have H2_ := (Option.bind_some _ _).symm.trans H; with_reducible exact H2_) | with_reducible exact H | (rw [hy509]; exact H) | exact H
        have Ny509 := Aside0.mk hy509
        clear hy509
        replace H := Option.bind_eq_some_iff.mp H
        obtain ⟨⟨t512, t513, t514⟩, A220, H⟩ := H
        replace H : (if 0 ≤ (wrap64 (5 + (wrap64 (Int.tdiv t512 11)))) then (if (wrap64 (5 + (wrap64 (Int.tdiv t512 11)))) ≤ (y509.length : Int) then ((spec_l1Cur_among.f l0 t513 t514 (y509.take ((wrap64 (5 + (wrap64 (Int.tdiv t512 11)))) : Int).toNat)).bind fun bt519 => ((spec_l1Cur_among.f l0 bt519.2.1 bt519.2.2 (([1, 2, 7, 15] : List Int))).bind fun bt525 => (some (t490, t503, bt519.1, bt525.1)))) else (none)) else (none)) = some (r1, r2, r3, r4) := H
        have A22 := Aside0.mk A220
        clear A220
        obtain ⟨ji23, hji23⟩ : ∃ j_ : Int, (wrap64 (5 + (wrap64 (Int.tdiv t512 11)))) = j_ := ⟨_, rfl⟩
        replace H : (if 0 ≤ (ji23) then (if (ji23) ≤ (y509.length : Int) then ((spec_l1Cur_among.f l0 t513 t514 (y509.take ((ji23) : Int).toNat)).bind fun bt519 => ((spec_l1Cur_among.f l0 bt519.2.1 bt519.2.2 (([1, 2, 7, 15] : List Int))).bind fun bt525 => (some (t490, t503, bt519.1, bt525.1)))) else (none)) else (none)) = some (r1, r2, r3, r4) := by first | (rw [hji23] at H; exact H) | (simp only [hji23] at H ⊢; exact H)
        (try rw [hji23] at A2)
        (try rw [hji23] at A3)
        (try rw [hji23] at A7)
        (try rw [hji23] at A8)
        (try rw [hji23] at A22)
        have hji23w : (IntKind.i64.wrap (5 + (wrap64 (Int.tdiv t512 11)))) = ji23 := (i64_w _).trans hji23
        by_cases c24 : 0 ≤ (ji23)
        · rw [if_pos c24] at H
          have c24b0 := eq_true c24
          have c24b1 : decide (0 ≤ (ji23)) = true := decide_eq_true c24
          clear c24
          by_cases c25 : (ji23) ≤ (y509.length : Int)
          · rw [if_pos c25] at H
            have c25b0 := eq_true c25
            have c25b1 : decide ((ji23) ≤ (y509.length : Int)) = true := decide_eq_true c25
            clear c25
            obtain ⟨y515, hy515⟩ : ∃ y_ : List Int, y_ = (y509.take ((ji23) : Int).toNat) := ⟨_, rfl⟩
            replace H : ((spec_l1Cur_among.f l0 t513 t514 y515).bind fun bt519 => ((spec_l1Cur_among.f l0 bt519.2.1 bt519.2.2 (([1, 2, 7, 15] : List Int))).bind fun bt525 => (some (t490, t503, bt519.1, bt525.1)))) = some (r1, r2, r3, r4) := by first | (rw [hy515]; with_reducible exact H) | (have H2_ := (Option.bind_some _ _).symm.trans H; rw [hy515]; with_reducible exact H2_) | (have H2_ := (Option.bind_some _ _).symm.trans H; with_reducible exact H2_) | with_reducible exact H | (rw [hy515]; exact H) | exact H
            have Ny515 := Aside0.mk hy515
            clear hy515
            replace H := Option.bind_eq_some_iff.mp H
            obtain ⟨⟨t519, t520, t521⟩, A260, H⟩ := H
            replace H : ((spec_l1Cur_among.f l0 t520 t521 (([1, 2, 7, 15] : List Int))).bind fun bt525 => (some (t490, t503, t519, bt525.1))) = some (r1, r2, r3, r4) := H
            have A26 := Aside0.mk A260
            clear A260
            obtain ⟨y522, hy522⟩ : ∃ y_ : List Int, y_ = (([1, 2, 7, 15] : List Int)) := ⟨_, rfl⟩
            replace H : ((spec_l1Cur_among.f l0 t520 t521 y522).bind fun bt525 => (some (t490, t503, t519, bt525.1))) = some (r1, r2, r3, r4) := by first | (rw [hy522]; with_reducible exact H) | (have H2_ := (Option.bind_some _ _).symm.trans H; rw [hy522]; with_reducible exact H2_) | (have H2_ := (Option.bind_some _ _).symm.trans H; with_reducible exact H2_) | with_reducible exact H | (rw [hy522]; exact H) | exact H
            have Ny522 := Aside0.mk hy522
            clear hy522
            replace H := Option.bind_eq_some_iff.mp H
            obtain ⟨⟨t525, t526, t527⟩, A270, H⟩ := H
            replace H : (some (t490, t503, t519, t525)) = some (r1, r2, r3, r4) := H
            have A27 := Aside0.mk A270
            clear A270
            simp only [Option.some.injEq, Prod.mk.injEq] at H
            obtain ⟨rfl, rfl, rfl, rfl⟩ := H
            go_enter Try.func39, Try.ntmps39
            go_wp2_with (first | ((with_reducible refine gate_dst (N := 11) rfl ?_); refine box_event ?hg (N := 11) ?hd (cs := #[.slice A0 l0.length c0, .int .i64 0, .int .u64 0]) (t := 73) ?hr ?_; (case hd => rfl); (case hg => rfl); (case hr => first | (go_simp; done) | (go_simp; rfl)); intro gb486 hg w28 hbox hb; have n0_ := Aside0.mk (below_step (by repeat (first | (with_reducible first | exact HB.out | apply below_alloc | apply pw_below_drewN | apply below_drew1) | exact HB.out)) hb); have n1_ := Aside0.mk ((by rw [hg]; exact (below_size (by repeat (first | (with_reducible first | exact HB.out | apply below_alloc | apply pw_below_drewN | apply below_drew1) | exact HB.out))) : w.heap.size ≤ gb486)); have n2_ := Aside0.mk ((by rw [hg]; exact (below_size (by repeat (first | (with_reducible first | exact HB.out | apply below_alloc | apply pw_below_drewN | apply below_drew1) | exact HB.out))) : w.heap.size ≤ gb486)); have n3_ := Aside0.mk ((⟨_, _, hbox, (by rw [hg]; exact (below_size (by repeat (first | (with_reducible first | exact HB.out | apply below_alloc | apply pw_below_drewN | apply below_drew1) | exact HB.out)))), HR0.out⟩ : IsS73 w w28 gb486 l0 0 0)); clear HB; have HB := n0_; have GW486 := n1_; have GE486 := n2_; have HI486 := n3_; clear n0_ n1_ n2_ n3_; clear hb hbox hg) | ((with_reducible refine gate_dst (N := 13) rfl ?_); refine Kd.R_lit (Kd.int .i64) _ 3 ?hg (N := 13) ?hd (xs := ([0, 1, 2, 30, 100000] : List Int)) (inner := [.int .i64 0, .int .i64 1, .int .i64 2, .int .i64 30, .int .i64 100000]) (ok := fun _ => True) (okp := fun _ => True) ?hr ?hp (fun _ hk => hk) trivial (Below.refl _ _) (Nat.le_refl _) (by simp) ?_; (case hd => rfl); (case hg => rfl); (case hr => first | (go_simp; done) | (go_simp; rfl)); (case hp => exact (Reps.one (show Kd.M (Kd.int .i64) _ _ _ 0 [.int .i64 0] from rfl) (Reps.one (show Kd.M (Kd.int .i64) _ _ _ 1 [.int .i64 1] from rfl) (Reps.one (show Kd.M (Kd.int .i64) _ _ _ 2 [.int .i64 2] from rfl) (Reps.one (show Kd.M (Kd.int .i64) _ _ _ 30 [.int .i64 30] from rfl) (Reps.one (show Kd.M (Kd.int .i64) _ _ _ 100000 [.int .i64 100000] from rfl) (Reps.none _ _))))))); intro v488 w29 ho30 hb hg_ hnew_; clear hg_ hnew_; (first | rw [← Ny487.out] at ho30 | (simp only [Int.reduceToNat] at ho30; rw [← Ny487.out] at ho30)); have n0_ := Aside0.mk (Kd.R_lower ho30 (below_size (by repeat (first | (with_reducible first | exact HB.out | apply below_alloc | apply pw_below_drewN | apply below_drew1 | refine below_set ?_ (IsS73.ge HI486.out)) | exact HB.out)))); have n1_ := Aside0.mk (IsS73.below (by repeat (first | (with_reducible first | exact HI486.out | apply IsS73.alloc | apply IsS73.drewN | apply IsS73.drew | apply IsS73.set_1 | apply IsS73.set_2) | exact HI486.out)) hb); have n2_ := Aside0.mk (below_step (by repeat (first | (with_reducible first | exact HB.out | apply below_alloc | apply pw_below_drewN | apply below_drew1 | refine below_set ?_ (IsS73.ge HI486.out)) | exact HB.out)) hb); clear HI486; clear HB; have HO489 := n0_; have HI486 := n1_; have HB := n2_; clear n0_ n1_ n2_; clear hb ho30; obtain ⟨Ao31, co31, eo31⟩ := Kd.R_slice HO489.out; subst eo31) | ((with_reducible refine gate_callee (f := 68) rfl ?_); refine goesL_ (some 14) rfl rfl Try.func68 (by kernel_rfl) rfl #[.pointer (some ⟨gb486, 0, none⟩), .slice Ao31 y487.length co31] rfl (by (try simp only [List.map_toArray, List.map_cons, List.map_nil]); first | done | rfl | (simp only [List.length_drop, List.length_take]; rfl)) ?_; (with_reducible refine (spec_l1Cur_among.calls gb486 l0 0 0 _ _ y487 t490 t491 t492 w _ ?side1 ?side2 ?side3 ?side4 ?side5 A2.out).mono ?_); (case side1 => repeat (first | (with_reducible first | exact HI486.out | apply IsS73.alloc | apply IsS73.drewN | apply IsS73.drew | apply IsS73.set_1 | apply IsS73.set_2) | exact HI486.out)); (case side2 => repeat (first | (with_reducible first | exact HB.out | apply below_alloc | apply pw_below_drewN | apply below_drew1 | refine below_set ?_ (IsS73.ge HI486.out)) | exact HB.out)); (case side3 => repeat (first | exact (Kd.R_reads' HO489.out).2.2 | (with_reducible refine Kd.C_alloc ?_ _) | (with_reducible refine Kd.C_drewN ?_ _) | (with_reducible refine Kd.C_drew ?_))); (case side4 => exact (Kd.R_reads' HO489.out).2.1); (case side5 => exact far_slice (IsS73.own_ne HI486.out HO489.out (by decide))); rintro e w32 ⟨rfl, hi, hb, hk⟩; refine ⟨_, rfl, ?_⟩; have n0_ := Aside0.mk (Kd.R_mono (Kd.R_keep (IsS73.apart (show IsS73 w _ gb486 l0 0 0 from by repeat (first | (with_reducible first | exact HI486.out | apply IsS73.alloc | apply IsS73.drewN | apply IsS73.drew | apply IsS73.set_1 | apply IsS73.set_2) | exact HI486.out)) (by (with_reducible repeat (first | apply Kd.R_alloc | apply Kd.R_drewN | apply Kd.R_drew)); exact HO489.out) (by decide)) hk (fun _ h => h.2)) (fun _ h => h.1)); have n1_ := Aside0.mk (hb); have n2_ := Aside0.mk (hi); clear HO489; clear HB; clear HI486; have HO489 := n0_; have HB := n1_; have HI486 := n2_; clear n0_ n1_ n2_; (try clear hb); (try clear hb2); (try clear hk); (try clear hi)) | ((with_reducible refine gate_dst (N := 16) rfl ?_); refine Kd.R_lit (Kd.int .i64) _ 3 ?hg (N := 16) ?hd (xs := ([1, 2, 3, 10, 100000, 0] : List Int)) (inner := [.int .i64 1, .int .i64 2, .int .i64 3, .int .i64 10, .int .i64 100000, .int .i64 0]) (ok := fun _ => True) (okp := fun _ => True) ?hr ?hp (fun _ hk => hk) trivial (Below.refl _ _) (Nat.le_refl _) (by simp) ?_; (case hd => rfl); (case hg => rfl); (case hr => first | (go_simp; done) | (go_simp; rfl)); (case hp => exact (Reps.one (show Kd.M (Kd.int .i64) _ _ _ 1 [.int .i64 1] from rfl) (Reps.one (show Kd.M (Kd.int .i64) _ _ _ 2 [.int .i64 2] from rfl) (Reps.one (show Kd.M (Kd.int .i64) _ _ _ 3 [.int .i64 3] from rfl) (Reps.one (show Kd.M (Kd.int .i64) _ _ _ 10 [.int .i64 10] from rfl) (Reps.one (show Kd.M (Kd.int .i64) _ _ _ 100000 [.int .i64 100000] from rfl) (Reps.one (show Kd.M (Kd.int .i64) _ _ _ 0 [.int .i64 0] from rfl) (Reps.none _ _)))))))); intro v494 w33 ho34 hb hg_ hnew_; clear hg_ hnew_; (first | rw [← Ny493.out] at ho34 | (simp only [Int.reduceToNat] at ho34; rw [← Ny493.out] at ho34)); have n0_ := Aside0.mk (Kd.R_elder' (by (with_reducible repeat (first | apply Kd.R_alloc | apply Kd.R_drewN | apply Kd.R_drew)); exact HO489.out) (Kd.R_base ho34) hb); have n1_ := Aside0.mk (Kd.R_lower (Kd.R_new' ho34 (Kd.R_lt (by (with_reducible repeat (first | apply Kd.R_alloc | apply Kd.R_drewN | apply Kd.R_drew)); exact HO489.out))) (below_size (by repeat (first | (with_reducible first | exact HB.out | apply below_alloc | apply pw_below_drewN | apply below_drew1 | refine below_set ?_ (IsS73.ge HI486.out)) | exact HB.out)))); have n2_ := Aside0.mk (IsS73.below (by repeat (first | (with_reducible first | exact HI486.out | apply IsS73.alloc | apply IsS73.drewN | apply IsS73.drew | apply IsS73.set_1 | apply IsS73.set_2) | exact HI486.out)) hb); have n3_ := Aside0.mk (below_step (by repeat (first | (with_reducible first | exact HB.out | apply below_alloc | apply pw_below_drewN | apply below_drew1 | refine below_set ?_ (IsS73.ge HI486.out)) | exact HB.out)) hb); clear HO489; clear HI486; clear HB; have HO489 := n0_; have HO495 := n1_; have HI486 := n2_; have HB := n3_; clear n0_ n1_ n2_ n3_; clear hb ho34) | ((with_reducible refine gate_callee (f := 69) rfl ?_); refine goesL_ (some 18) rfl rfl Try.func69 (by kernel_rfl) rfl #[.pointer (some ⟨gb486, 0, none⟩), .int .i64 12] rfl (by (try simp only [List.map_toArray, List.map_cons, List.map_nil]); first | done | rfl | (simp only [List.length_drop, List.length_take]; rfl)) ?_; (with_reducible refine (spec_l1Cur_pick.calls gb486 l0 t491 t492 12 t496 t497 t498 w _ ?side1 ?side2 A3.out).mono ?_); (case side1 => repeat (first | (with_reducible first | exact HI486.out | apply IsS73.alloc | apply IsS73.drewN | apply IsS73.drew | apply IsS73.set_1 | apply IsS73.set_2) | exact HI486.out)); (case side2 => repeat (first | (with_reducible first | exact HB.out | apply below_alloc | apply pw_below_drewN | apply below_drew1 | refine below_set ?_ (IsS73.ge HI486.out)) | exact HB.out)); rintro e w35 ⟨rfl, hi, hb, hk⟩; refine ⟨_, rfl, ?_⟩; have n0_ := Aside0.mk (Kd.R_mono (Kd.R_keep (IsS73.apart (show IsS73 w _ gb486 l0 t491 t492 from by repeat (first | (with_reducible first | exact HI486.out | apply IsS73.alloc | apply IsS73.drewN | apply IsS73.drew | apply IsS73.set_1 | apply IsS73.set_2) | exact HI486.out)) (by (with_reducible repeat (first | apply Kd.R_alloc | apply Kd.R_drewN | apply Kd.R_drew)); exact HO489.out) (by decide)) hk (fun _ h => h.2)) (fun _ h => h.1)); have n1_ := Aside0.mk (Kd.R_mono (Kd.R_keep (IsS73.apart (show IsS73 w _ gb486 l0 t491 t492 from by repeat (first | (with_reducible first | exact HI486.out | apply IsS73.alloc | apply IsS73.drewN | apply IsS73.drew | apply IsS73.set_1 | apply IsS73.set_2) | exact HI486.out)) (by (with_reducible repeat (first | apply Kd.R_alloc | apply Kd.R_drewN | apply Kd.R_drew)); exact HO495.out) (by decide)) hk (fun _ h => h.2)) (fun _ h => h.1)); have n2_ := Aside0.mk (hb); have n3_ := Aside0.mk (hi); clear HO489; clear HO495; clear HB; clear HI486; have HO489 := n0_; have HO495 := n1_; have HB := n2_; have HI486 := n3_; clear n0_ n1_ n2_ n3_; (try clear hb); (try clear hb2); (try clear hk); (try clear hi); obtain ⟨Ao37, co37, eo37⟩ := Kd.R_slice HO495.out; subst eo37; have q36 : ((ji4) : Int) ≤ ((y493.length : Int) : Int) := of_decide_eq_true (by first | (with_reducible assumption) | assumption); obtain ⟨i036, hi036, _, hsz36, _⟩ := info_parts info3; have hroom36 : y493.length ≤ co37 := (Kd.R_reads' HO495.out).2.1; have hC36 : Kd.C (Kd.int .i64) _ Ao37 y493.length y493 := (Kd.R_reads' HO495.out).2.2; have hcut36 := cut_to (P := Try.prog) 53 3 .i64 Try.underlying53 hi036 Ao37 y493.length co37 (ji4) (of_decide_eq_true (by first | (with_reducible assumption) | assumption)) q36 hroom36; have hr36 := Kd.C_take (m := ((ji4) : Int).toNat) hC36 (by omega); have hy36 : y499.length = ((ji4) : Int).toNat := (by rw [Ny499.out, List.length_take]; omega); rw [← Ny499.out] at hr36; rw [← hy36] at hcut36; have HR502 := Aside0.mk hr36; have HC502 := Aside0.mk (show y499.length ≤ co37 from by omega); clear hr36 hC36 hroom36 hi036 hsz36; have KY36 := Aside0.mk hy36; clear hy36; have KL36 := Aside0.mk (show ((ji4) : Int).toNat ≤ y493.length from by omega); replace q36 := eq_true q36) | ((with_reducible refine gate_callee (f := 68) rfl ?_); refine goesL_ (some 22) rfl rfl Try.func68 (by kernel_rfl) rfl #[.pointer (some ⟨gb486, 0, none⟩), .slice Ao37 y499.length co37] rfl (by (try simp only [List.map_toArray, List.map_cons, List.map_nil]); first | done | rfl | (simp only [List.length_drop, List.length_take]; rfl)) ?_; (with_reducible refine (spec_l1Cur_among.calls gb486 l0 t497 t498 _ _ y499 t503 t504 t505 w _ ?side1 ?side2 ?side3 ?side4 ?side5 A7.out).mono ?_); (case side1 => repeat (first | (with_reducible first | exact HI486.out | apply IsS73.alloc | apply IsS73.drewN | apply IsS73.drew | apply IsS73.set_1 | apply IsS73.set_2) | exact HI486.out)); (case side2 => repeat (first | (with_reducible first | exact HB.out | apply below_alloc | apply pw_below_drewN | apply below_drew1 | refine below_set ?_ (IsS73.ge HI486.out)) | exact HB.out)); (case side3 => repeat (first | exact (by repeat (first | (with_reducible exact HR502.out) | (with_reducible refine Kd.C_alloc ?_ _) | (with_reducible refine Kd.C_drewN ?_ _) | (with_reducible refine Kd.C_drew ?_) | exact HR502.out)) | (with_reducible refine Kd.C_alloc ?_ _) | (with_reducible refine Kd.C_drewN ?_ _) | (with_reducible refine Kd.C_drew ?_))); (case side4 => exact HC502.out); (case side5 => exact fun ad e_ _ h_ => IsS73.own_ne HI486.out HO495.out (by decide) (by rw [e_, ← h_]; rfl)); rintro e w38 ⟨rfl, hi, hb, hk⟩; refine ⟨_, rfl, ?_⟩; have n0_ := Aside0.mk (Kd.R_mono (Kd.R_keep (IsS73.apart (show IsS73 w _ gb486 l0 t497 t498 from by repeat (first | (with_reducible first | exact HI486.out | apply IsS73.alloc | apply IsS73.drewN | apply IsS73.drew | apply IsS73.set_1 | apply IsS73.set_2) | exact HI486.out)) (by (with_reducible repeat (first | apply Kd.R_alloc | apply Kd.R_drewN | apply Kd.R_drew)); exact HO489.out) (by decide)) hk (fun _ h => h.2)) (fun _ h => h.1)); have n1_ := Aside0.mk (Kd.R_mono (Kd.R_keep (IsS73.apart (show IsS73 w _ gb486 l0 t497 t498 from by repeat (first | (with_reducible first | exact HI486.out | apply IsS73.alloc | apply IsS73.drewN | apply IsS73.drew | apply IsS73.set_1 | apply IsS73.set_2) | exact HI486.out)) (by (with_reducible repeat (first | apply Kd.R_alloc | apply Kd.R_drewN | apply Kd.R_drew)); exact HO495.out) (by decide)) hk (fun _ h => h.2)) (fun _ h => h.1)); have n2_ := Aside0.mk (hb); have n3_ := Aside0.mk (hi); clear HO489; clear HO495; clear HB; clear HI486; have HO489 := n0_; have HO495 := n1_; have HB := n2_; have HI486 := n3_; clear n0_ n1_ n2_ n3_; (try clear hb); (try clear hb2); (try clear hk); (try clear hi)) | ((with_reducible refine gate_callee (f := 70) rfl ?_); refine goesL_ (some 24) rfl rfl Try.func70 (by kernel_rfl) rfl #[.pointer (some ⟨gb486, 0, none⟩), .int .i64 3] rfl (by (try simp only [List.map_toArray, List.map_cons, List.map_nil]); first | done | rfl | (simp only [List.length_drop, List.length_take]; rfl)) ?_; (with_reducible refine (spec_l1Cur_one.calls gb486 l0 t504 t505 3 false t507 t508 w _ ?side1 ?side2 A8.out).mono ?_); (case side1 => repeat (first | (with_reducible first | exact HI486.out | apply IsS73.alloc | apply IsS73.drewN | apply IsS73.drew | apply IsS73.set_1 | apply IsS73.set_2) | exact HI486.out)); (case side2 => repeat (first | (with_reducible first | exact HB.out | apply below_alloc | apply pw_below_drewN | apply below_drew1 | refine below_set ?_ (IsS73.ge HI486.out)) | exact HB.out)); rintro e w39 ⟨rfl, hi, hb, hk⟩; refine ⟨_, rfl, ?_⟩; have n0_ := Aside0.mk (Kd.R_mono (Kd.R_keep (IsS73.apart (show IsS73 w _ gb486 l0 t504 t505 from by repeat (first | (with_reducible first | exact HI486.out | apply IsS73.alloc | apply IsS73.drewN | apply IsS73.drew | apply IsS73.set_1 | apply IsS73.set_2) | exact HI486.out)) (by (with_reducible repeat (first | apply Kd.R_alloc | apply Kd.R_drewN | apply Kd.R_drew)); exact HO489.out) (by decide)) hk (fun _ h => h.2)) (fun _ h => h.1)); have n1_ := Aside0.mk (Kd.R_mono (Kd.R_keep (IsS73.apart (show IsS73 w _ gb486 l0 t504 t505 from by repeat (first | (with_reducible first | exact HI486.out | apply IsS73.alloc | apply IsS73.drewN | apply IsS73.drew | apply IsS73.set_1 | apply IsS73.set_2) | exact HI486.out)) (by (with_reducible repeat (first | apply Kd.R_alloc | apply Kd.R_drewN | apply Kd.R_drew)); exact HO495.out) (by decide)) hk (fun _ h => h.2)) (fun _ h => h.1)); have n2_ := Aside0.mk (hb); have n3_ := Aside0.mk (hi); clear HO489; clear HO495; clear HB; clear HI486; have HO489 := n0_; have HO495 := n1_; have HB := n2_; have HI486 := n3_; clear n0_ n1_ n2_ n3_; (try clear hb); (try clear hb2); (try clear hk); (try clear hi)) | ((with_reducible refine gate_dst (N := 34) rfl ?_); refine Kd.R_lit (Kd.int .i64) _ 3 ?hg (N := 34) ?hd (xs := ([0, 1, 3, 45, 100000, (-1), 100001] : List Int)) (inner := [.int .i64 0, .int .i64 1, .int .i64 3, .int .i64 45, .int .i64 100000, .int .i64 (-1), .int .i64 100001]) (ok := fun _ => True) (okp := fun _ => True) ?hr ?hp (fun _ hk => hk) trivial (Below.refl _ _) (Nat.le_refl _) (by simp) ?_; (case hd => rfl); (case hg => rfl); (case hr => first | (go_simp; done) | (go_simp; rfl)); (case hp => exact (Reps.one (show Kd.M (Kd.int .i64) _ _ _ 0 [.int .i64 0] from rfl) (Reps.one (show Kd.M (Kd.int .i64) _ _ _ 1 [.int .i64 1] from rfl) (Reps.one (show Kd.M (Kd.int .i64) _ _ _ 3 [.int .i64 3] from rfl) (Reps.one (show Kd.M (Kd.int .i64) _ _ _ 45 [.int .i64 45] from rfl) (Reps.one (show Kd.M (Kd.int .i64) _ _ _ 100000 [.int .i64 100000] from rfl) (Reps.one (show Kd.M (Kd.int .i64) _ _ _ (-1) [.int .i64 (-1)] from rfl) (Reps.one (show Kd.M (Kd.int .i64) _ _ _ 100001 [.int .i64 100001] from rfl) (Reps.none _ _))))))))); intro v510 w40 ho41 hb hg_ hnew_; clear hg_ hnew_; (first | rw [← Ny509.out] at ho41 | (simp only [Int.reduceToNat] at ho41; rw [← Ny509.out] at ho41)); have n0_ := Aside0.mk (Kd.R_elder' (by (with_reducible repeat (first | apply Kd.R_alloc | apply Kd.R_drewN | apply Kd.R_drew)); exact HO489.out) (Kd.R_base ho41) hb); have n1_ := Aside0.mk (Kd.R_elder' (by (with_reducible repeat (first | apply Kd.R_alloc | apply Kd.R_drewN | apply Kd.R_drew)); exact HO495.out) (Kd.R_base ho41) hb); have n2_ := Aside0.mk (Kd.R_lower (Kd.R_new' (Kd.R_new' ho41 (Kd.R_lt (by (with_reducible repeat (first | apply Kd.R_alloc | apply Kd.R_drewN | apply Kd.R_drew)); exact HO489.out))) (Kd.R_lt (by (with_reducible repeat (first | apply Kd.R_alloc | apply Kd.R_drewN | apply Kd.R_drew)); exact HO495.out))) (below_size (by repeat (first | (with_reducible first | exact HB.out | apply below_alloc | apply pw_below_drewN | apply below_drew1 | refine below_set ?_ (IsS73.ge HI486.out)) | exact HB.out)))); have n3_ := Aside0.mk (IsS73.below (by repeat (first | (with_reducible first | exact HI486.out | apply IsS73.alloc | apply IsS73.drewN | apply IsS73.drew | apply IsS73.set_1 | apply IsS73.set_2) | exact HI486.out)) hb); have n4_ := Aside0.mk (below_step (by repeat (first | (with_reducible first | exact HB.out | apply below_alloc | apply pw_below_drewN | apply below_drew1 | refine below_set ?_ (IsS73.ge HI486.out)) | exact HB.out)) hb); clear HO489; clear HO495; clear HI486; clear HB; have HO489 := n0_; have HO495 := n1_; have HO511 := n2_; have HI486 := n3_; have HB := n4_; clear n0_ n1_ n2_ n3_ n4_; clear hb ho41) | ((with_reducible refine gate_callee (f := 69) rfl ?_); refine goesL_ (some 36) rfl rfl Try.func69 (by kernel_rfl) rfl #[.pointer (some ⟨gb486, 0, none⟩), .int .i64 24] rfl (by (try simp only [List.map_toArray, List.map_cons, List.map_nil]); first | done | rfl | (simp only [List.length_drop, List.length_take]; rfl)) ?_; (with_reducible refine (spec_l1Cur_pick.calls gb486 l0 t507 t508 24 t512 t513 t514 w _ ?side1 ?side2 A22.out).mono ?_); (case side1 => repeat (first | (with_reducible first | exact HI486.out | apply IsS73.alloc | apply IsS73.drewN | apply IsS73.drew | apply IsS73.set_1 | apply IsS73.set_2) | exact HI486.out)); (case side2 => repeat (first | (with_reducible first | exact HB.out | apply below_alloc | apply pw_below_drewN | apply below_drew1 | refine below_set ?_ (IsS73.ge HI486.out)) | exact HB.out)); rintro e w42 ⟨rfl, hi, hb, hk⟩; refine ⟨_, rfl, ?_⟩; have n0_ := Aside0.mk (Kd.R_mono (Kd.R_keep (IsS73.apart (show IsS73 w _ gb486 l0 t507 t508 from by repeat (first | (with_reducible first | exact HI486.out | apply IsS73.alloc | apply IsS73.drewN | apply IsS73.drew | apply IsS73.set_1 | apply IsS73.set_2) | exact HI486.out)) (by (with_reducible repeat (first | apply Kd.R_alloc | apply Kd.R_drewN | apply Kd.R_drew)); exact HO489.out) (by decide)) hk (fun _ h => h.2)) (fun _ h => h.1)); have n1_ := Aside0.mk (Kd.R_mono (Kd.R_keep (IsS73.apart (show IsS73 w _ gb486 l0 t507 t508 from by repeat (first | (with_reducible first | exact HI486.out | apply IsS73.alloc | apply IsS73.drewN | apply IsS73.drew | apply IsS73.set_1 | apply IsS73.set_2) | exact HI486.out)) (by (with_reducible repeat (first | apply Kd.R_alloc | apply Kd.R_drewN | apply Kd.R_drew)); exact HO495.out) (by decide)) hk (fun _ h => h.2)) (fun _ h => h.1)); have n2_ := Aside0.mk (Kd.R_mono (Kd.R_keep (IsS73.apart (show IsS73 w _ gb486 l0 t507 t508 from by repeat (first | (with_reducible first | exact HI486.out | apply IsS73.alloc | apply IsS73.drewN | apply IsS73.drew | apply IsS73.set_1 | apply IsS73.set_2) | exact HI486.out)) (by (with_reducible repeat (first | apply Kd.R_alloc | apply Kd.R_drewN | apply Kd.R_drew)); exact HO511.out) (by decide)) hk (fun _ h => h.2)) (fun _ h => h.1)); have n3_ := Aside0.mk (hb); have n4_ := Aside0.mk (hi); clear HO489; clear HO495; clear HO511; clear HB; clear HI486; have HO489 := n0_; have HO495 := n1_; have HO511 := n2_; have HB := n3_; have HI486 := n4_; clear n0_ n1_ n2_ n3_ n4_; (try clear hb); (try clear hb2); (try clear hk); (try clear hi); obtain ⟨Ao44, co44, eo44⟩ := Kd.R_slice HO511.out; subst eo44; have q43 : ((ji23) : Int) ≤ ((y509.length : Int) : Int) := of_decide_eq_true (by first | (with_reducible assumption) | assumption); obtain ⟨i043, hi043, _, hsz43, _⟩ := info_parts info3; have hroom43 : y509.length ≤ co44 := (Kd.R_reads' HO511.out).2.1; have hC43 : Kd.C (Kd.int .i64) _ Ao44 y509.length y509 := (Kd.R_reads' HO511.out).2.2; have hcut43 := cut_to (P := Try.prog) 53 3 .i64 Try.underlying53 hi043 Ao44 y509.length co44 (ji23) (of_decide_eq_true (by first | (with_reducible assumption) | assumption)) q43 hroom43; have hr43 := Kd.C_take (m := ((ji23) : Int).toNat) hC43 (by omega); have hy43 : y515.length = ((ji23) : Int).toNat := (by rw [Ny515.out, List.length_take]; omega); rw [← Ny515.out] at hr43; rw [← hy43] at hcut43; have HR518 := Aside0.mk hr43; have HC518 := Aside0.mk (show y515.length ≤ co44 from by omega); clear hr43 hC43 hroom43 hi043 hsz43; have KY43 := Aside0.mk hy43; clear hy43; have KL43 := Aside0.mk (show ((ji23) : Int).toNat ≤ y509.length from by omega); replace q43 := eq_true q43) | ((with_reducible refine gate_callee (f := 68) rfl ?_); refine goesL_ (some 40) rfl rfl Try.func68 (by kernel_rfl) rfl #[.pointer (some ⟨gb486, 0, none⟩), .slice Ao44 y515.length co44] rfl (by (try simp only [List.map_toArray, List.map_cons, List.map_nil]); first | done | rfl | (simp only [List.length_drop, List.length_take]; rfl)) ?_; (with_reducible refine (spec_l1Cur_among.calls gb486 l0 t513 t514 _ _ y515 t519 t520 t521 w _ ?side1 ?side2 ?side3 ?side4 ?side5 A26.out).mono ?_); (case side1 => repeat (first | (with_reducible first | exact HI486.out | apply IsS73.alloc | apply IsS73.drewN | apply IsS73.drew | apply IsS73.set_1 | apply IsS73.set_2) | exact HI486.out)); (case side2 => repeat (first | (with_reducible first | exact HB.out | apply below_alloc | apply pw_below_drewN | apply below_drew1 | refine below_set ?_ (IsS73.ge HI486.out)) | exact HB.out)); (case side3 => repeat (first | exact (by repeat (first | (with_reducible exact HR518.out) | (with_reducible refine Kd.C_alloc ?_ _) | (with_reducible refine Kd.C_drewN ?_ _) | (with_reducible refine Kd.C_drew ?_) | exact HR518.out)) | (with_reducible refine Kd.C_alloc ?_ _) | (with_reducible refine Kd.C_drewN ?_ _) | (with_reducible refine Kd.C_drew ?_))); (case side4 => exact HC518.out); (case side5 => exact fun ad e_ _ h_ => IsS73.own_ne HI486.out HO511.out (by decide) (by rw [e_, ← h_]; rfl)); rintro e w45 ⟨rfl, hi, hb, hk⟩; refine ⟨_, rfl, ?_⟩; have n0_ := Aside0.mk (Kd.R_mono (Kd.R_keep (IsS73.apart (show IsS73 w _ gb486 l0 t513 t514 from by repeat (first | (with_reducible first | exact HI486.out | apply IsS73.alloc | apply IsS73.drewN | apply IsS73.drew | apply IsS73.set_1 | apply IsS73.set_2) | exact HI486.out)) (by (with_reducible repeat (first | apply Kd.R_alloc | apply Kd.R_drewN | apply Kd.R_drew)); exact HO489.out) (by decide)) hk (fun _ h => h.2)) (fun _ h => h.1)); have n1_ := Aside0.mk (Kd.R_mono (Kd.R_keep (IsS73.apart (show IsS73 w _ gb486 l0 t513 t514 from by repeat (first | (with_reducible first | exact HI486.out | apply IsS73.alloc | apply IsS73.drewN | apply IsS73.drew | apply IsS73.set_1 | apply IsS73.set_2) | exact HI486.out)) (by (with_reducible repeat (first | apply Kd.R_alloc | apply Kd.R_drewN | apply Kd.R_drew)); exact HO495.out) (by decide)) hk (fun _ h => h.2)) (fun _ h => h.1)); have n2_ := Aside0.mk (Kd.R_mono (Kd.R_keep (IsS73.apart (show IsS73 w _ gb486 l0 t513 t514 from by repeat (first | (with_reducible first | exact HI486.out | apply IsS73.alloc | apply IsS73.drewN | apply IsS73.drew | apply IsS73.set_1 | apply IsS73.set_2) | exact HI486.out)) (by (with_reducible repeat (first | apply Kd.R_alloc | apply Kd.R_drewN | apply Kd.R_drew)); exact HO511.out) (by decide)) hk (fun _ h => h.2)) (fun _ h => h.1)); have n3_ := Aside0.mk (hb); have n4_ := Aside0.mk (hi); clear HO489; clear HO495; clear HO511; clear HB; clear HI486; have HO489 := n0_; have HO495 := n1_; have HO511 := n2_; have HB := n3_; have HI486 := n4_; clear n0_ n1_ n2_ n3_ n4_; (try clear hb); (try clear hb2); (try clear hk); (try clear hi)) | ((with_reducible refine gate_dst (N := 42) rfl ?_); refine Kd.R_lit (Kd.int .i64) _ 3 ?hg (N := 42) ?hd (xs := ([1, 2, 7, 15] : List Int)) (inner := [.int .i64 1, .int .i64 2, .int .i64 7, .int .i64 15]) (ok := fun _ => True) (okp := fun _ => True) ?hr ?hp (fun _ hk => hk) trivial (Below.refl _ _) (Nat.le_refl _) (by simp) ?_; (case hd => rfl); (case hg => rfl); (case hr => first | (go_simp; done) | (go_simp; rfl)); (case hp => exact (Reps.one (show Kd.M (Kd.int .i64) _ _ _ 1 [.int .i64 1] from rfl) (Reps.one (show Kd.M (Kd.int .i64) _ _ _ 2 [.int .i64 2] from rfl) (Reps.one (show Kd.M (Kd.int .i64) _ _ _ 7 [.int .i64 7] from rfl) (Reps.one (show Kd.M (Kd.int .i64) _ _ _ 15 [.int .i64 15] from rfl) (Reps.none _ _)))))); intro v523 w46 ho47 hb hg_ hnew_; clear hg_ hnew_; (first | rw [← Ny522.out] at ho47 | (simp only [Int.reduceToNat] at ho47; rw [← Ny522.out] at ho47)); have n0_ := Aside0.mk (Kd.R_elder' (by (with_reducible repeat (first | apply Kd.R_alloc | apply Kd.R_drewN | apply Kd.R_drew)); exact HO489.out) (Kd.R_base ho47) hb); have n1_ := Aside0.mk (Kd.R_elder' (by (with_reducible repeat (first | apply Kd.R_alloc | apply Kd.R_drewN | apply Kd.R_drew)); exact HO495.out) (Kd.R_base ho47) hb); have n2_ := Aside0.mk (Kd.R_elder' (by (with_reducible repeat (first | apply Kd.R_alloc | apply Kd.R_drewN | apply Kd.R_drew)); exact HO511.out) (Kd.R_base ho47) hb); have n3_ := Aside0.mk (Kd.R_lower (Kd.R_new' (Kd.R_new' (Kd.R_new' ho47 (Kd.R_lt (by (with_reducible repeat (first | apply Kd.R_alloc | apply Kd.R_drewN | apply Kd.R_drew)); exact HO489.out))) (Kd.R_lt (by (with_reducible repeat (first | apply Kd.R_alloc | apply Kd.R_drewN | apply Kd.R_drew)); exact HO495.out))) (Kd.R_lt (by (with_reducible repeat (first | apply Kd.R_alloc | apply Kd.R_drewN | apply Kd.R_drew)); exact HO511.out))) (below_size (by repeat (first | (with_reducible first | exact HB.out | apply below_alloc | apply pw_below_drewN | apply below_drew1 | refine below_set ?_ (IsS73.ge HI486.out)) | exact HB.out)))); have n4_ := Aside0.mk (IsS73.below (by repeat (first | (with_reducible first | exact HI486.out | apply IsS73.alloc | apply IsS73.drewN | apply IsS73.drew | apply IsS73.set_1 | apply IsS73.set_2) | exact HI486.out)) hb); have n5_ := Aside0.mk (below_step (by repeat (first | (with_reducible first | exact HB.out | apply below_alloc | apply pw_below_drewN | apply below_drew1 | refine below_set ?_ (IsS73.ge HI486.out)) | exact HB.out)) hb); clear HO489; clear HO495; clear HO511; clear HI486; clear HB; have HO489 := n0_; have HO495 := n1_; have HO511 := n2_; have HO524 := n3_; have HI486 := n4_; have HB := n5_; clear n0_ n1_ n2_ n3_ n4_ n5_; clear hb ho47; obtain ⟨Ao48, co48, eo48⟩ := Kd.R_slice HO524.out; subst eo48) | ((with_reducible refine gate_callee (f := 68) rfl ?_); refine goesL_ (some 43) rfl rfl Try.func68 (by kernel_rfl) rfl #[.pointer (some ⟨gb486, 0, none⟩), .slice Ao48 y522.length co48] rfl (by (try simp only [List.map_toArray, List.map_cons, List.map_nil]); first | done | rfl | (simp only [List.length_drop, List.length_take]; rfl)) ?_; (with_reducible refine (spec_l1Cur_among.calls gb486 l0 t520 t521 _ _ y522 t525 t526 t527 w _ ?side1 ?side2 ?side3 ?side4 ?side5 A27.out).mono ?_); (case side1 => repeat (first | (with_reducible first | exact HI486.out | apply IsS73.alloc | apply IsS73.drewN | apply IsS73.drew | apply IsS73.set_1 | apply IsS73.set_2) | exact HI486.out)); (case side2 => repeat (first | (with_reducible first | exact HB.out | apply below_alloc | apply pw_below_drewN | apply below_drew1 | refine below_set ?_ (IsS73.ge HI486.out)) | exact HB.out)); (case side3 => repeat (first | exact (Kd.R_reads' HO524.out).2.2 | (with_reducible refine Kd.C_alloc ?_ _) | (with_reducible refine Kd.C_drewN ?_ _) | (with_reducible refine Kd.C_drew ?_))); (case side4 => exact (Kd.R_reads' HO524.out).2.1); (case side5 => exact far_slice (IsS73.own_ne HI486.out HO524.out (by decide))); rintro e w49 ⟨rfl, hi, hb, hk⟩; refine ⟨_, rfl, ?_⟩; have n0_ := Aside0.mk (Kd.R_mono (Kd.R_keep (IsS73.apart (show IsS73 w _ gb486 l0 t520 t521 from by repeat (first | (with_reducible first | exact HI486.out | apply IsS73.alloc | apply IsS73.drewN | apply IsS73.drew | apply IsS73.set_1 | apply IsS73.set_2) | exact HI486.out)) (by (with_reducible repeat (first | apply Kd.R_alloc | apply Kd.R_drewN | apply Kd.R_drew)); exact HO489.out) (by decide)) hk (fun _ h => h.2)) (fun _ h => h.1)); have n1_ := Aside0.mk (Kd.R_mono (Kd.R_keep (IsS73.apart (show IsS73 w _ gb486 l0 t520 t521 from by repeat (first | (with_reducible first | exact HI486.out | apply IsS73.alloc | apply IsS73.drewN | apply IsS73.drew | apply IsS73.set_1 | apply IsS73.set_2) | exact HI486.out)) (by (with_reducible repeat (first | apply Kd.R_alloc | apply Kd.R_drewN | apply Kd.R_drew)); exact HO495.out) (by decide)) hk (fun _ h => h.2)) (fun _ h => h.1)); have n2_ := Aside0.mk (Kd.R_mono (Kd.R_keep (IsS73.apart (show IsS73 w _ gb486 l0 t520 t521 from by repeat (first | (with_reducible first | exact HI486.out | apply IsS73.alloc | apply IsS73.drewN | apply IsS73.drew | apply IsS73.set_1 | apply IsS73.set_2) | exact HI486.out)) (by (with_reducible repeat (first | apply Kd.R_alloc | apply Kd.R_drewN | apply Kd.R_drew)); exact HO511.out) (by decide)) hk (fun _ h => h.2)) (fun _ h => h.1)); have n3_ := Aside0.mk (Kd.R_mono (Kd.R_keep (IsS73.apart (show IsS73 w _ gb486 l0 t520 t521 from by repeat (first | (with_reducible first | exact HI486.out | apply IsS73.alloc | apply IsS73.drewN | apply IsS73.drew | apply IsS73.set_1 | apply IsS73.set_2) | exact HI486.out)) (by (with_reducible repeat (first | apply Kd.R_alloc | apply Kd.R_drewN | apply Kd.R_drew)); exact HO524.out) (by decide)) hk (fun _ h => h.2)) (fun _ h => h.1)); have n4_ := Aside0.mk (hb); have n5_ := Aside0.mk (hi); clear HO489; clear HO495; clear HO511; clear HO524; clear HB; clear HI486; have HO489 := n0_; have HO495 := n1_; have HO511 := n2_; have HO524 := n3_; have HB := n4_; have HI486 := n5_; clear n0_ n1_ n2_ n3_ n4_ n5_; (try clear hb); (try clear hb2); (try clear hk); (try clear hi)))
            refine bodyPost_ret (results_list (rs := [.tmp 2, .tmp 3, .tmp 4, .tmp 5]) rfl (by simp) (.tmp (.tmp (.tmp (.tmp .nil))))) rfl ?_
            exact ⟨by first | rfl | (simp [errW_none, errW_some] <;> rfl) | (simp only [← hji4, ← hji23]; first | rfl | (simp [errW_none, errW_some] <;> rfl)) | (simp [*, errW_none, errW_some] <;> rfl), by repeat (first | (with_reducible first | exact HB.out | apply below_alloc | apply pw_below_drewN | apply below_drew1 | refine below_set ?_ (IsS73.ge HI486.out)) | exact HB.out)⟩
          · rw [if_neg c25] at H
            exact absurd H (by simp)
        · rw [if_neg c24] at H
          exact absurd H (by simp)
    · rw [if_neg c6] at H
      exact absurd H (by simp)
  · rw [if_neg c5] at H
    exact absurd H (by simp)

end Go.Proofs.Ytolaplcjbmjlmaa.X

-- written by a program of this session (wip/ext.py) out of the translation. Not trusted: Lean checks it.
namespace Go.Proofs.Ytolaplcjbmjlmaa.X
open Go.RowKit Go.Proofs.YtolaplcjbmjlmaaW.PrintWords Go.Proofs.YtolaplcjbmjlmaaW.PrintLast Go.Proofs.YtolaplcjbmjlmaaW.PrintMore
attribute [local go_sem] max2_int min2_int max_two min_two max_three min_three max_four min_four   -- for this text's walks alone
set_option linter.unusedVariables false
set_option linter.unusedSimpArgs false

/-! ### laws_FnOccupancy: function 10 -/
mutual
def laws_FnOccupancy.j0 : Nat → List Int → List (S59) → Int → Int → Bool → Bool → Option (Bool)
  | 0, _, _, _, _, _, _ => none
  | k + 1, x0, x3, x4, x5, x6, x71 => if x71 = true then (some false) else (if x6 = true then (laws_FnOccupancy.j1 k x0 x3 x4 x5 (decide (x5 > 0))) else (laws_FnOccupancy.j1 k x0 x3 x4 x5 false))
def laws_FnOccupancy.j1 : Nat → List Int → List (S59) → Int → Int → Bool → Option (Bool)
  | 0, _, _, _, _, _ => none
  | k + 1, x0, x3, x4, x5, x76 => if x76 = true then ((impl_Occupancy.f k x3 x4 (wrap64 (x4 + 1)) 1).bind fun bt538 => ((impl_BusyHours.f k x3 x5).bind fun bt541 => (if bt538.2.2 = true then (if bt538.1 = x5 then (if bt538.2.1 = 1 then (if bt541.2 = true then (laws_FnOccupancy.j2 k x0 x3 x5 (decide (bt541.1 < 1))) else (laws_FnOccupancy.j2 k x0 x3 x5 true)) else (laws_FnOccupancy.j2 k x0 x3 x5 true)) else (laws_FnOccupancy.j2 k x0 x3 x5 true)) else (laws_FnOccupancy.j2 k x0 x3 x5 true)))) else (laws_FnOccupancy.j3 k x0)
def laws_FnOccupancy.j3 : Nat → List Int → Option (Bool)
  | 0, _ => none
  | k + 1, x0 => (spec_DrawOccupancy.f k x0).bind fun bt545 => ((impl_Occupancy.f k bt545.1 bt545.2.1 bt545.2.2.1 bt545.2.2.2).bind fun bt551 => ((spec_Occupancy.f k bt545.1 bt545.2.1 bt545.2.2.1 bt545.2.2.2).bind fun bt554 => (if bt551.1 = bt554.1 then (if bt551.2.1 = bt554.2.1 then (laws_FnOccupancy.j4 k x0 (bt551.2.2 != bt554.2.2)) else (laws_FnOccupancy.j4 k x0 true)) else (laws_FnOccupancy.j4 k x0 true))))
def laws_FnOccupancy.j4 : Nat → List Int → Bool → Option (Bool)
  | 0, _, _ => none
  | k + 1, x0, x160 => if x160 = true then (some false) else ((spec_DrawBusyHours.f k x0).bind fun bt557 => ((impl_BusyHours.f k bt557.1 bt557.2).bind fun bt561 => ((spec_BusyHours.f k bt557.1 bt557.2).bind fun bt563 => (if bt561.1 = bt563.1 then (laws_FnOccupancy.j5 k x0 (bt561.2 != bt563.2)) else (laws_FnOccupancy.j5 k x0 true)))))
def laws_FnOccupancy.j5 : Nat → List Int → Bool → Option (Bool)
  | 0, _, _ => none
  | k + 1, x0, x185 => if x185 = true then (some false) else ((spec_DrawCompareRates.f x0).bind fun bt565 => ((impl_CompareRates.f k bt565.1 bt565.2.1 bt565.2.2.1 bt565.2.2.2).bind fun bt569 => ((spec_CompareRates.f k bt565.1 bt565.2.1 bt565.2.2.1 bt565.2.2.2).bind fun bt571 => ((impl_CompareRates.f k bt565.1 bt565.2.1 bt565.1 bt565.2.1).bind fun bt573 => (if bt569.1 = bt571.1 then (if (bt569.2 == bt571.2) = true then (if bt569.2 = true then (if bt573.2 = true then (some (bt573.1 == 0)) else (some false)) else (some true)) else (some false)) else (some false))))))
def laws_FnOccupancy.j2 : Nat → List Int → List (S59) → Int → Bool → Option (Bool)
  | 0, _, _, _, _ => none
  | k + 1, x0, x3, x5, x110 => if x110 = true then (some false) else ((impl_BusyHours.f k x3 (wrap64 (x5 + 1))).bind fun bt543 => (if bt543.2 = true then (if bt543.1 = 0 then (laws_FnOccupancy.j3 k x0) else (some false)) else (laws_FnOccupancy.j3 k x0)))
end
def laws_FnOccupancy.f (k : Nat) (l0 : List Int) : Option (Bool) := (laws_rBig.f l0).bind fun t528 => (if t528 = true then (some true) else ((spec_DrawPeakHour.f k l0).bind fun t529 => ((impl_PeakHour.f k t529).bind fun bt532 => ((spec_PeakHour.f k t529).bind fun bt535 => (if bt532.1 = bt535.1 then (if bt532.2.1 = bt535.2.1 then (laws_FnOccupancy.j0 k l0 t529 bt532.1 bt532.2.1 bt532.2.2 (bt532.2.2 != bt535.2.2)) else (laws_FnOccupancy.j0 k l0 t529 bt532.1 bt532.2.1 bt532.2.2 true)) else (laws_FnOccupancy.j0 k l0 t529 bt532.1 bt532.2.1 bt532.2.2 true))))))
theorem laws_FnOccupancy.mono_l : ∀ k, (∀ y0 y1 y2 y3 y4 y5, LeO (laws_FnOccupancy.j0 k y0 y1 y2 y3 y4 y5) (laws_FnOccupancy.j0 (k + 1) y0 y1 y2 y3 y4 y5)) ∧ (∀ y0 y1 y2 y3 y4, LeO (laws_FnOccupancy.j1 k y0 y1 y2 y3 y4) (laws_FnOccupancy.j1 (k + 1) y0 y1 y2 y3 y4)) ∧ (∀ y0, LeO (laws_FnOccupancy.j3 k y0) (laws_FnOccupancy.j3 (k + 1) y0)) ∧ (∀ y0 y1, LeO (laws_FnOccupancy.j4 k y0 y1) (laws_FnOccupancy.j4 (k + 1) y0 y1)) ∧ (∀ y0 y1, LeO (laws_FnOccupancy.j5 k y0 y1) (laws_FnOccupancy.j5 (k + 1) y0 y1)) ∧ (∀ y0 y1 y2 y3, LeO (laws_FnOccupancy.j2 k y0 y1 y2 y3) (laws_FnOccupancy.j2 (k + 1) y0 y1 y2 y3))
  | 0 => ⟨fun _ _ _ _ _ _ r h => by simp [laws_FnOccupancy.j0] at h, fun _ _ _ _ _ r h => by simp [laws_FnOccupancy.j1] at h, fun _ r h => by simp [laws_FnOccupancy.j3] at h, fun _ _ r h => by simp [laws_FnOccupancy.j4] at h, fun _ _ r h => by simp [laws_FnOccupancy.j5] at h, fun _ _ _ _ r h => by simp [laws_FnOccupancy.j2] at h⟩
  | k + 1 => by
    obtain ⟨ih0, ih1, ih2, ih3, ih4, ih5⟩ := laws_FnOccupancy.mono_l k
    refine ⟨?_, ?_, ?_, ?_, ?_, ?_⟩
    · intro y0 y1 y2 y3 y4 y5
      unfold laws_FnOccupancy.j0
      repeat' first
      | (with_reducible exact ih0 _ _ _ _ _ _)
      | (with_reducible exact ih1 _ _ _ _ _)
      | (with_reducible exact ih2 _)
      | (with_reducible exact ih3 _ _)
      | (with_reducible exact ih4 _ _)
      | (with_reducible exact ih5 _ _ _ _)
      | (with_reducible exact impl_BusyHours.mono _ _ _)
      | (with_reducible exact impl_CompareRates.mono _ _ _ _ _)
      | (with_reducible exact impl_Occupancy.mono _ _ _ _ _)
      | (with_reducible exact impl_PeakHour.mono _ _)
      | (with_reducible exact spec_BusyHours.mono _ _ _)
      | (with_reducible exact spec_CompareRates.mono _ _ _ _ _)
      | (with_reducible exact spec_DrawBusyHours.mono _ _)
      | (with_reducible exact spec_DrawOccupancy.mono _ _)
      | (with_reducible exact spec_DrawPeakHour.mono _ _)
      | (with_reducible exact spec_Occupancy.mono _ _ _ _ _)
      | (with_reducible exact spec_PeakHour.mono _ _)
      | (with_reducible exact LeO.refl _)
      | (with_reducible exact LeO.none _)
      | (with_reducible refine LeO.ite ?_ ?_)
      | (with_reducible refine LeO.bind ?_ (fun _ => ?_))
      | exact ih0 _ _ _ _ _ _
      | exact ih1 _ _ _ _ _
      | exact ih2 _
      | exact ih3 _ _
      | exact ih4 _ _
      | exact ih5 _ _ _ _
      | exact impl_BusyHours.mono _ _ _
      | exact impl_CompareRates.mono _ _ _ _ _
      | exact impl_Occupancy.mono _ _ _ _ _
      | exact impl_PeakHour.mono _ _
      | exact spec_BusyHours.mono _ _ _
      | exact spec_CompareRates.mono _ _ _ _ _
      | exact spec_DrawBusyHours.mono _ _
      | exact spec_DrawOccupancy.mono _ _
      | exact spec_DrawPeakHour.mono _ _
      | exact spec_Occupancy.mono _ _ _ _ _
      | exact spec_PeakHour.mono _ _
      | exact LeO.none _
      | refine LeO.ite ?_ ?_
      | refine LeO.bind ?_ (fun _ => ?_)
    · intro y0 y1 y2 y3 y4
      unfold laws_FnOccupancy.j1
      repeat' first
      | (with_reducible exact ih0 _ _ _ _ _ _)
      | (with_reducible exact ih1 _ _ _ _ _)
      | (with_reducible exact ih2 _)
      | (with_reducible exact ih3 _ _)
      | (with_reducible exact ih4 _ _)
      | (with_reducible exact ih5 _ _ _ _)
      | (with_reducible exact impl_BusyHours.mono _ _ _)
      | (with_reducible exact impl_CompareRates.mono _ _ _ _ _)
      | (with_reducible exact impl_Occupancy.mono _ _ _ _ _)
      | (with_reducible exact impl_PeakHour.mono _ _)
      | (with_reducible exact spec_BusyHours.mono _ _ _)
      | (with_reducible exact spec_CompareRates.mono _ _ _ _ _)
      | (with_reducible exact spec_DrawBusyHours.mono _ _)
      | (with_reducible exact spec_DrawOccupancy.mono _ _)
      | (with_reducible exact spec_DrawPeakHour.mono _ _)
      | (with_reducible exact spec_Occupancy.mono _ _ _ _ _)
      | (with_reducible exact spec_PeakHour.mono _ _)
      | (with_reducible exact LeO.refl _)
      | (with_reducible exact LeO.none _)
      | (with_reducible refine LeO.ite ?_ ?_)
      | (with_reducible refine LeO.bind ?_ (fun _ => ?_))
      | exact ih0 _ _ _ _ _ _
      | exact ih1 _ _ _ _ _
      | exact ih2 _
      | exact ih3 _ _
      | exact ih4 _ _
      | exact ih5 _ _ _ _
      | exact impl_BusyHours.mono _ _ _
      | exact impl_CompareRates.mono _ _ _ _ _
      | exact impl_Occupancy.mono _ _ _ _ _
      | exact impl_PeakHour.mono _ _
      | exact spec_BusyHours.mono _ _ _
      | exact spec_CompareRates.mono _ _ _ _ _
      | exact spec_DrawBusyHours.mono _ _
      | exact spec_DrawOccupancy.mono _ _
      | exact spec_DrawPeakHour.mono _ _
      | exact spec_Occupancy.mono _ _ _ _ _
      | exact spec_PeakHour.mono _ _
      | exact LeO.none _
      | refine LeO.ite ?_ ?_
      | refine LeO.bind ?_ (fun _ => ?_)
    · intro y0
      unfold laws_FnOccupancy.j3
      repeat' first
      | (with_reducible exact ih0 _ _ _ _ _ _)
      | (with_reducible exact ih1 _ _ _ _ _)
      | (with_reducible exact ih2 _)
      | (with_reducible exact ih3 _ _)
      | (with_reducible exact ih4 _ _)
      | (with_reducible exact ih5 _ _ _ _)
      | (with_reducible exact impl_BusyHours.mono _ _ _)
      | (with_reducible exact impl_CompareRates.mono _ _ _ _ _)
      | (with_reducible exact impl_Occupancy.mono _ _ _ _ _)
      | (with_reducible exact impl_PeakHour.mono _ _)
      | (with_reducible exact spec_BusyHours.mono _ _ _)
      | (with_reducible exact spec_CompareRates.mono _ _ _ _ _)
      | (with_reducible exact spec_DrawBusyHours.mono _ _)
      | (with_reducible exact spec_DrawOccupancy.mono _ _)
      | (with_reducible exact spec_DrawPeakHour.mono _ _)
      | (with_reducible exact spec_Occupancy.mono _ _ _ _ _)
      | (with_reducible exact spec_PeakHour.mono _ _)
      | (with_reducible exact LeO.refl _)
      | (with_reducible exact LeO.none _)
      | (with_reducible refine LeO.ite ?_ ?_)
      | (with_reducible refine LeO.bind ?_ (fun _ => ?_))
      | exact ih0 _ _ _ _ _ _
      | exact ih1 _ _ _ _ _
      | exact ih2 _
      | exact ih3 _ _
      | exact ih4 _ _
      | exact ih5 _ _ _ _
      | exact impl_BusyHours.mono _ _ _
      | exact impl_CompareRates.mono _ _ _ _ _
      | exact impl_Occupancy.mono _ _ _ _ _
      | exact impl_PeakHour.mono _ _
      | exact spec_BusyHours.mono _ _ _
      | exact spec_CompareRates.mono _ _ _ _ _
      | exact spec_DrawBusyHours.mono _ _
      | exact spec_DrawOccupancy.mono _ _
      | exact spec_DrawPeakHour.mono _ _
      | exact spec_Occupancy.mono _ _ _ _ _
      | exact spec_PeakHour.mono _ _
      | exact LeO.none _
      | refine LeO.ite ?_ ?_
      | refine LeO.bind ?_ (fun _ => ?_)
    · intro y0 y1
      unfold laws_FnOccupancy.j4
      repeat' first
      | (with_reducible exact ih0 _ _ _ _ _ _)
      | (with_reducible exact ih1 _ _ _ _ _)
      | (with_reducible exact ih2 _)
      | (with_reducible exact ih3 _ _)
      | (with_reducible exact ih4 _ _)
      | (with_reducible exact ih5 _ _ _ _)
      | (with_reducible exact impl_BusyHours.mono _ _ _)
      | (with_reducible exact impl_CompareRates.mono _ _ _ _ _)
      | (with_reducible exact impl_Occupancy.mono _ _ _ _ _)
      | (with_reducible exact impl_PeakHour.mono _ _)
      | (with_reducible exact spec_BusyHours.mono _ _ _)
      | (with_reducible exact spec_CompareRates.mono _ _ _ _ _)
      | (with_reducible exact spec_DrawBusyHours.mono _ _)
      | (with_reducible exact spec_DrawOccupancy.mono _ _)
      | (with_reducible exact spec_DrawPeakHour.mono _ _)
      | (with_reducible exact spec_Occupancy.mono _ _ _ _ _)
      | (with_reducible exact spec_PeakHour.mono _ _)
      | (with_reducible exact LeO.refl _)
      | (with_reducible exact LeO.none _)
      | (with_reducible refine LeO.ite ?_ ?_)
      | (with_reducible refine LeO.bind ?_ (fun _ => ?_))
      | exact ih0 _ _ _ _ _ _
      | exact ih1 _ _ _ _ _
      | exact ih2 _
      | exact ih3 _ _
      | exact ih4 _ _
      | exact ih5 _ _ _ _
      | exact impl_BusyHours.mono _ _ _
      | exact impl_CompareRates.mono _ _ _ _ _
      | exact impl_Occupancy.mono _ _ _ _ _
      | exact impl_PeakHour.mono _ _
      | exact spec_BusyHours.mono _ _ _
      | exact spec_CompareRates.mono _ _ _ _ _
      | exact spec_DrawBusyHours.mono _ _
      | exact spec_DrawOccupancy.mono _ _
      | exact spec_DrawPeakHour.mono _ _
      | exact spec_Occupancy.mono _ _ _ _ _
      | exact spec_PeakHour.mono _ _
      | exact LeO.none _
      | refine LeO.ite ?_ ?_
      | refine LeO.bind ?_ (fun _ => ?_)
    · intro y0 y1
      unfold laws_FnOccupancy.j5
      repeat' first
      | (with_reducible exact ih0 _ _ _ _ _ _)
      | (with_reducible exact ih1 _ _ _ _ _)
      | (with_reducible exact ih2 _)
      | (with_reducible exact ih3 _ _)
      | (with_reducible exact ih4 _ _)
      | (with_reducible exact ih5 _ _ _ _)
      | (with_reducible exact impl_BusyHours.mono _ _ _)
      | (with_reducible exact impl_CompareRates.mono _ _ _ _ _)
      | (with_reducible exact impl_Occupancy.mono _ _ _ _ _)
      | (with_reducible exact impl_PeakHour.mono _ _)
      | (with_reducible exact spec_BusyHours.mono _ _ _)
      | (with_reducible exact spec_CompareRates.mono _ _ _ _ _)
      | (with_reducible exact spec_DrawBusyHours.mono _ _)
      | (with_reducible exact spec_DrawOccupancy.mono _ _)
      | (with_reducible exact spec_DrawPeakHour.mono _ _)
      | (with_reducible exact spec_Occupancy.mono _ _ _ _ _)
      | (with_reducible exact spec_PeakHour.mono _ _)
      | (with_reducible exact LeO.refl _)
      | (with_reducible exact LeO.none _)
      | (with_reducible refine LeO.ite ?_ ?_)
      | (with_reducible refine LeO.bind ?_ (fun _ => ?_))
      | exact ih0 _ _ _ _ _ _
      | exact ih1 _ _ _ _ _
      | exact ih2 _
      | exact ih3 _ _
      | exact ih4 _ _
      | exact ih5 _ _ _ _
      | exact impl_BusyHours.mono _ _ _
      | exact impl_CompareRates.mono _ _ _ _ _
      | exact impl_Occupancy.mono _ _ _ _ _
      | exact impl_PeakHour.mono _ _
      | exact spec_BusyHours.mono _ _ _
      | exact spec_CompareRates.mono _ _ _ _ _
      | exact spec_DrawBusyHours.mono _ _
      | exact spec_DrawOccupancy.mono _ _
      | exact spec_DrawPeakHour.mono _ _
      | exact spec_Occupancy.mono _ _ _ _ _
      | exact spec_PeakHour.mono _ _
      | exact LeO.none _
      | refine LeO.ite ?_ ?_
      | refine LeO.bind ?_ (fun _ => ?_)
    · intro y0 y1 y2 y3
      unfold laws_FnOccupancy.j2
      repeat' first
      | (with_reducible exact ih0 _ _ _ _ _ _)
      | (with_reducible exact ih1 _ _ _ _ _)
      | (with_reducible exact ih2 _)
      | (with_reducible exact ih3 _ _)
      | (with_reducible exact ih4 _ _)
      | (with_reducible exact ih5 _ _ _ _)
      | (with_reducible exact impl_BusyHours.mono _ _ _)
      | (with_reducible exact impl_CompareRates.mono _ _ _ _ _)
      | (with_reducible exact impl_Occupancy.mono _ _ _ _ _)
      | (with_reducible exact impl_PeakHour.mono _ _)
      | (with_reducible exact spec_BusyHours.mono _ _ _)
      | (with_reducible exact spec_CompareRates.mono _ _ _ _ _)
      | (with_reducible exact spec_DrawBusyHours.mono _ _)
      | (with_reducible exact spec_DrawOccupancy.mono _ _)
      | (with_reducible exact spec_DrawPeakHour.mono _ _)
      | (with_reducible exact spec_Occupancy.mono _ _ _ _ _)
      | (with_reducible exact spec_PeakHour.mono _ _)
      | (with_reducible exact LeO.refl _)
      | (with_reducible exact LeO.none _)
      | (with_reducible refine LeO.ite ?_ ?_)
      | (with_reducible refine LeO.bind ?_ (fun _ => ?_))
      | exact ih0 _ _ _ _ _ _
      | exact ih1 _ _ _ _ _
      | exact ih2 _
      | exact ih3 _ _
      | exact ih4 _ _
      | exact ih5 _ _ _ _
      | exact impl_BusyHours.mono _ _ _
      | exact impl_CompareRates.mono _ _ _ _ _
      | exact impl_Occupancy.mono _ _ _ _ _
      | exact impl_PeakHour.mono _ _
      | exact spec_BusyHours.mono _ _ _
      | exact spec_CompareRates.mono _ _ _ _ _
      | exact spec_DrawBusyHours.mono _ _
      | exact spec_DrawOccupancy.mono _ _
      | exact spec_DrawPeakHour.mono _ _
      | exact spec_Occupancy.mono _ _ _ _ _
      | exact spec_PeakHour.mono _ _
      | exact LeO.none _
      | refine LeO.ite ?_ ?_
      | refine LeO.bind ?_ (fun _ => ?_)
theorem laws_FnOccupancy.mono : ∀ a0 k, LeO (laws_FnOccupancy.f k a0) (laws_FnOccupancy.f (k + 1) a0) := by
  intro a0 k
  obtain ⟨ih0, ih1, ih2, ih3, ih4, ih5⟩ := laws_FnOccupancy.mono_l k
  unfold laws_FnOccupancy.f
  repeat' first
      | (with_reducible exact ih0 _ _ _ _ _ _)
      | (with_reducible exact ih1 _ _ _ _ _)
      | (with_reducible exact ih2 _)
      | (with_reducible exact ih3 _ _)
      | (with_reducible exact ih4 _ _)
      | (with_reducible exact ih5 _ _ _ _)
      | (with_reducible exact impl_BusyHours.mono _ _ _)
      | (with_reducible exact impl_CompareRates.mono _ _ _ _ _)
      | (with_reducible exact impl_Occupancy.mono _ _ _ _ _)
      | (with_reducible exact impl_PeakHour.mono _ _)
      | (with_reducible exact spec_BusyHours.mono _ _ _)
      | (with_reducible exact spec_CompareRates.mono _ _ _ _ _)
      | (with_reducible exact spec_DrawBusyHours.mono _ _)
      | (with_reducible exact spec_DrawOccupancy.mono _ _)
      | (with_reducible exact spec_DrawPeakHour.mono _ _)
      | (with_reducible exact spec_Occupancy.mono _ _ _ _ _)
      | (with_reducible exact spec_PeakHour.mono _ _)
      | (with_reducible exact LeO.refl _)
      | (with_reducible exact LeO.none _)
      | (with_reducible refine LeO.ite ?_ ?_)
      | (with_reducible refine LeO.bind ?_ (fun _ => ?_))
      | exact ih0 _ _ _ _ _ _
      | exact ih1 _ _ _ _ _
      | exact ih2 _
      | exact ih3 _ _
      | exact ih4 _ _
      | exact ih5 _ _ _ _
      | exact impl_BusyHours.mono _ _ _
      | exact impl_CompareRates.mono _ _ _ _ _
      | exact impl_Occupancy.mono _ _ _ _ _
      | exact impl_PeakHour.mono _ _
      | exact spec_BusyHours.mono _ _ _
      | exact spec_CompareRates.mono _ _ _ _ _
      | exact spec_DrawBusyHours.mono _ _
      | exact spec_DrawOccupancy.mono _ _
      | exact spec_DrawPeakHour.mono _ _
      | exact spec_Occupancy.mono _ _ _ _ _
      | exact spec_PeakHour.mono _ _
      | exact LeO.none _
      | refine LeO.ite ?_ ?_
      | refine LeO.bind ?_ (fun _ => ?_)
set_option maxHeartbeats 8000000 in
set_option maxRecDepth 100000 in
theorem laws_FnOccupancy.calls (k : Nat) (A0 : Option Addr) (c0 : Nat) (l0 : List Int) (r : Bool) (w : World) (hr0 : Kd.C (Kd.int .u8) w A0 l0.length l0) (hc0 : l0.length ≤ c0) (h : laws_FnOccupancy.f k l0 = some r) :
    Calls Try.prog 10 #[.slice A0 l0.length c0] w fun e w' => e = .returned (.bool r) ∧ Below w.heap.size w w' := by
  have HR0 := Aside0.mk hr0
  have HC0 := Aside0.mk hc0
  clear hr0 hc0
  have HB := Aside0.mk (Below.refl w.heap.size w)
  have H : ((laws_rBig.f l0).bind fun t528 => (if t528 = true then (some true) else ((spec_DrawPeakHour.f k l0).bind fun t529 => ((impl_PeakHour.f k t529).bind fun bt532 => ((spec_PeakHour.f k t529).bind fun bt535 => (if bt532.1 = bt535.1 then (if bt532.2.1 = bt535.2.1 then (laws_FnOccupancy.j0 k l0 t529 bt532.1 bt532.2.1 bt532.2.2 (bt532.2.2 != bt535.2.2)) else (laws_FnOccupancy.j0 k l0 t529 bt532.1 bt532.2.1 bt532.2.2 true)) else (laws_FnOccupancy.j0 k l0 t529 bt532.1 bt532.2.1 bt532.2.2 true))))))) = some r := h
  clear h
  replace H := Option.bind_eq_some_iff.mp H
  obtain ⟨t528, A20, H⟩ := H
  replace H : (if t528 = true then (some true) else ((spec_DrawPeakHour.f k l0).bind fun t529 => ((impl_PeakHour.f k t529).bind fun bt532 => ((spec_PeakHour.f k t529).bind fun bt535 => (if bt532.1 = bt535.1 then (if bt532.2.1 = bt535.2.1 then (laws_FnOccupancy.j0 k l0 t529 bt532.1 bt532.2.1 bt532.2.2 (bt532.2.2 != bt535.2.2)) else (laws_FnOccupancy.j0 k l0 t529 bt532.1 bt532.2.1 bt532.2.2 true)) else (laws_FnOccupancy.j0 k l0 t529 bt532.1 bt532.2.1 bt532.2.2 true)))))) = some r := H
  have A2 := Aside0.mk A20
  clear A20
  by_cases c3 : t528 = true
  · subst c3
    have H1 : (some true) = some r := by rw [if_pos rfl] at H; exact H
    clear H
    have H := H1
    clear H1
    obtain rfl := Option.some.inj H
    go_enter Try.func10, Try.ntmps10
    go_wp2_with (first | ((with_reducible refine gate_callee (f := 35) rfl ?_); refine goesL_ (some 44) rfl rfl Try.func35 (by kernel_rfl) rfl #[.slice A0 l0.length c0] rfl (by (try simp only [List.map_toArray, List.map_cons, List.map_nil]); first | done | rfl | (simp only [List.length_drop, List.length_take]; rfl)) ?_; (with_reducible refine (laws_rBig.calls _ _ l0 true _ ?side1 ?side2 A2.out).mono ?_); (case side1 => repeat (first | exact HR0.out | (with_reducible refine Kd.C_alloc ?_ _) | (with_reducible refine Kd.C_drewN ?_ _) | (with_reducible refine Kd.C_drew ?_))); (case side2 => exact HC0.out); rintro e w' ⟨rfl, ⟨nd, rfl⟩⟩; refine ⟨_, rfl, ?_⟩))
    go_ret
    exact ⟨by first | rfl | (simp [errW_none, errW_some] <;> rfl) | (simp [*, errW_none, errW_some] <;> rfl), by repeat (first | (with_reducible first | exact HB.out | apply below_alloc | apply pw_below_drewN | apply below_drew1) | exact HB.out)⟩
  · replace c3 := Bool.eq_false_iff.mpr c3
    subst c3
    have H1 : ((spec_DrawPeakHour.f k l0).bind fun t529 => ((impl_PeakHour.f k t529).bind fun bt532 => ((spec_PeakHour.f k t529).bind fun bt535 => (if bt532.1 = bt535.1 then (if bt532.2.1 = bt535.2.1 then (laws_FnOccupancy.j0 k l0 t529 bt532.1 bt532.2.1 bt532.2.2 (bt532.2.2 != bt535.2.2)) else (laws_FnOccupancy.j0 k l0 t529 bt532.1 bt532.2.1 bt532.2.2 true)) else (laws_FnOccupancy.j0 k l0 t529 bt532.1 bt532.2.1 bt532.2.2 true))))) = some r := by rw [if_neg (show ¬ (false = true) by decide)] at H; exact H
    clear H
    have H := H1
    clear H1
    replace H := Option.bind_eq_some_iff.mp H
    obtain ⟨t529, A40, H⟩ := H
    replace H : ((impl_PeakHour.f k t529).bind fun bt532 => ((spec_PeakHour.f k t529).bind fun bt535 => (if bt532.1 = bt535.1 then (if bt532.2.1 = bt535.2.1 then (laws_FnOccupancy.j0 k l0 t529 bt532.1 bt532.2.1 bt532.2.2 (bt532.2.2 != bt535.2.2)) else (laws_FnOccupancy.j0 k l0 t529 bt532.1 bt532.2.1 bt532.2.2 true)) else (laws_FnOccupancy.j0 k l0 t529 bt532.1 bt532.2.1 bt532.2.2 true)))) = some r := H
    have A4 := Aside0.mk A40
    clear A40
    replace H := Option.bind_eq_some_iff.mp H
    obtain ⟨⟨t532, t533, t534⟩, A50, H⟩ := H
    replace H : ((spec_PeakHour.f k t529).bind fun bt535 => (if t532 = bt535.1 then (if t533 = bt535.2.1 then (laws_FnOccupancy.j0 k l0 t529 t532 t533 t534 (t534 != bt535.2.2)) else (laws_FnOccupancy.j0 k l0 t529 t532 t533 t534 true)) else (laws_FnOccupancy.j0 k l0 t529 t532 t533 t534 true))) = some r := H
    have A5 := Aside0.mk A50
    clear A50
    replace H := Option.bind_eq_some_iff.mp H
    obtain ⟨⟨t535, t536, t537⟩, A60, H⟩ := H
    replace H : (if t532 = t535 then (if t533 = t536 then (laws_FnOccupancy.j0 k l0 t529 t532 t533 t534 (t534 != t537)) else (laws_FnOccupancy.j0 k l0 t529 t532 t533 t534 true)) else (laws_FnOccupancy.j0 k l0 t529 t532 t533 t534 true)) = some r := H
    have A6 := Aside0.mk A60
    clear A60
    have HC7 := Aside0.mk H
    clear H
    go_enter Try.func10, Try.ntmps10
    go_upto_region 6 with (first | ((with_reducible refine gate_callee (f := 35) rfl ?_); refine goesL_ (some 44) rfl rfl Try.func35 (by kernel_rfl) rfl #[.slice A0 l0.length c0] rfl (by (try simp only [List.map_toArray, List.map_cons, List.map_nil]); first | done | rfl | (simp only [List.length_drop, List.length_take]; rfl)) ?_; (with_reducible refine (laws_rBig.calls _ _ l0 false _ ?side1 ?side2 A2.out).mono ?_); (case side1 => repeat (first | exact HR0.out | (with_reducible refine Kd.C_alloc ?_ _) | (with_reducible refine Kd.C_drewN ?_ _) | (with_reducible refine Kd.C_drew ?_))); (case side2 => exact HC0.out); rintro e w' ⟨rfl, ⟨nd, rfl⟩⟩; refine ⟨_, rfl, ?_⟩) | ((with_reducible refine gate_callee (f := 36) rfl ?_); refine goesL_ (some 46) rfl rfl Try.func36 (by kernel_rfl) rfl #[.slice A0 l0.length c0] rfl (by (try simp only [List.map_toArray, List.map_cons, List.map_nil]); first | done | rfl | (simp only [List.length_drop, List.length_take]; rfl)) ?_; (with_reducible refine (spec_DrawPeakHour.calls k _ _ l0 t529 _ ?side1 ?side2 A4.out).mono ?_); (case side1 => repeat (first | exact HR0.out | (with_reducible refine Kd.C_alloc ?_ _) | (with_reducible refine Kd.C_drewN ?_ _) | (with_reducible refine Kd.C_drew ?_))); (case side2 => exact HC0.out); rintro e w8 ⟨v530, rfl, ho0, hb⟩; refine ⟨_, rfl, ?_⟩; have n0_ := Aside0.mk (Kd.R_lower ho0 (below_size (by repeat (first | (with_reducible first | exact HB.out | apply below_alloc | apply pw_below_drewN | apply below_drew1) | exact HB.out)))); have n1_ := Aside0.mk (below_step (by repeat (first | (with_reducible first | exact HB.out | apply below_alloc | apply pw_below_drewN | apply below_drew1) | exact HB.out)) hb); clear HB; have HO531 := n0_; have HB := n1_; clear n0_ n1_; (try clear hb); (try clear hb2); (try clear hk); (try clear hi); (try clear ho0); obtain ⟨Ao9, co9, eo9⟩ := Kd.R_slice HO531.out; subst eo9) | ((with_reducible refine gate_callee (f := 24) rfl ?_); refine goesL_ (some 49) rfl rfl Try.func24 (by kernel_rfl) rfl #[.slice Ao9 t529.length co9] rfl (by (try simp only [List.map_toArray, List.map_cons, List.map_nil]); first | done | rfl | (simp only [List.length_drop, List.length_take]; rfl)) ?_; (with_reducible refine (impl_PeakHour.calls k _ _ t529 t532 t533 t534 _ ?side1 ?side2 A5.out).mono ?_); (case side1 => repeat (first | exact (Kd.R_reads' HO531.out).2.2 | (with_reducible refine Kd.C_alloc ?_ _) | (with_reducible refine Kd.C_drewN ?_ _) | (with_reducible refine Kd.C_drew ?_))); (case side2 => exact (Kd.R_reads' HO531.out).2.1); rintro e w10 ⟨rfl, hb⟩; refine ⟨_, rfl, ?_⟩; have n0_ := Aside0.mk (Kd.R_below (by (with_reducible repeat (first | apply Kd.R_alloc | apply Kd.R_drewN | apply Kd.R_drew)); exact HO531.out) hb); have n1_ := Aside0.mk (below_step (by repeat (first | (with_reducible first | exact HB.out | apply below_alloc | apply pw_below_drewN | apply below_drew1) | exact HB.out)) hb); clear HO531; clear HB; have HO531 := n0_; have HB := n1_; clear n0_ n1_; (try clear hb); (try clear hb2); (try clear hk); (try clear hi)) | ((with_reducible refine gate_callee (f := 23) rfl ?_); refine goesL_ (some 55) rfl rfl Try.func23 (by kernel_rfl) rfl #[.slice Ao9 t529.length co9] rfl (by (try simp only [List.map_toArray, List.map_cons, List.map_nil]); first | done | rfl | (simp only [List.length_drop, List.length_take]; rfl)) ?_; (with_reducible refine (spec_PeakHour.calls k _ _ t529 t535 t536 t537 _ ?side1 ?side2 A6.out).mono ?_); (case side1 => repeat (first | exact (Kd.R_reads' HO531.out).2.2 | (with_reducible refine Kd.C_alloc ?_ _) | (with_reducible refine Kd.C_drewN ?_ _) | (with_reducible refine Kd.C_drew ?_))); (case side2 => exact (Kd.R_reads' HO531.out).2.1); rintro e w11 ⟨rfl, hb⟩; refine ⟨_, rfl, ?_⟩; have n0_ := Aside0.mk (Kd.R_below (by (with_reducible repeat (first | apply Kd.R_alloc | apply Kd.R_drewN | apply Kd.R_drew)); exact HO531.out) hb); have n1_ := Aside0.mk (below_step (by repeat (first | (with_reducible first | exact HB.out | apply below_alloc | apply pw_below_drewN | apply below_drew1) | exact HB.out)) hb); clear HO531; clear HB; have HO531 := n0_; have HB := n1_; clear n0_ n1_; (try clear hb); (try clear hb2); (try clear hk); (try clear hi)))
    (try simp only [Act.put, List.setIfInBounds_toArray, List.set_cons_zero, List.set_cons_succ])
    go_cut [71] (fun v71 wc => ∃ (kq : Nat) (x71_6 : Bool), v71 = .bool x71_6 ∧ Aside0 (laws_FnOccupancy.j0 kq l0 t529 t532 t533 t534 x71_6 = some r) ∧ Aside0 (kq ≤ k) ∧ Aside0 (Kd.R k59 59 wc w.heap.size (fun _ => True) (.slice Ao9 t529.length co9) t529) ∧ Aside0 (Below w.heap.size w wc))
    case first =>
      have H := HC7.out
      clear HC7
      by_cases c12 : t532 = t535
      · rw [if_pos c12] at H
        have c12b0 : (t532 == t535) = true := beq_iff_eq.mpr c12
        have c12b1 : (t532 != t535) = false := bne_eq_false_iff_eq.mpr c12
        clear c12
        (first | rw [c12b0] | (simp only [i64_w, i32_w]; rw [c12b0]) | skip)
        by_cases c13 : t533 = t536
        · rw [if_pos c13] at H
          have c13b0 : (t533 == t536) = true := beq_iff_eq.mpr c13
          have c13b1 : (t533 != t536) = false := bne_eq_false_iff_eq.mpr c13
          clear c13
          have H' := Aside0.mk H
          clear H
          go_wp2
          go_meet
          case rel => exact ⟨_, ((t534 != t537)), (by first | rfl | (simp; done) | (simp [*]; done)), H', ⟨by first | omega | exact Nat.le_refl _⟩, ⟨by (with_reducible repeat (first | apply Kd.R_alloc | apply Kd.R_drewN | apply Kd.R_drew)); exact HO531.out⟩, ⟨by repeat (first | (with_reducible first | exact HB.out | apply below_alloc | apply pw_below_drewN | apply below_drew1) | exact HB.out)⟩⟩
        · rw [if_neg c13] at H
          have c13b0 : (t533 == t536) = false := beq_eq_false_iff_ne.mpr c13
          have c13b1 : (t533 != t536) = true := bne_iff_ne.mpr c13
          have H' := Aside0.mk H
          clear H
          go_wp2
          go_meet
          case rel => exact ⟨_, (true), (by first | rfl | (simp; done) | (simp [*]; done)), H', ⟨by first | omega | exact Nat.le_refl _⟩, ⟨by (with_reducible repeat (first | apply Kd.R_alloc | apply Kd.R_drewN | apply Kd.R_drew)); exact HO531.out⟩, ⟨by repeat (first | (with_reducible first | exact HB.out | apply below_alloc | apply pw_below_drewN | apply below_drew1) | exact HB.out)⟩⟩
      · rw [if_neg c12] at H
        have c12b0 : (t532 == t535) = false := beq_eq_false_iff_ne.mpr c12
        have c12b1 : (t532 != t535) = true := bne_iff_ne.mpr c12
        (first | rw [c12b0] | (simp only [i64_w, i32_w]; rw [c12b0]) | skip)
        have H' := Aside0.mk H
        clear H
        go_wp2
        go_meet
        case rel => exact ⟨_, (true), (by first | rfl | (simp; done) | (simp [*]; done)), H', ⟨by first | omega | exact Nat.le_refl _⟩, ⟨by (with_reducible repeat (first | apply Kd.R_alloc | apply Kd.R_drewN | apply Kd.R_drew)); exact HO531.out⟩, ⟨by repeat (first | (with_reducible first | exact HB.out | apply below_alloc | apply pw_below_drewN | apply below_drew1) | exact HB.out)⟩⟩
    case rest => as_aux_lemma =>
      clear HC7
      try clear c1
      try clear c2
      try clear p2
      try clear c3
      try clear c10
      try clear c12
      try clear c12b0
      try clear c12b1
      try clear c13
      try clear c13b0
      try clear c13b1
      obtain ⟨kq, x71_6, rfl, HA, HJ6, HO_3, HB⟩ := hcut
      cases kq with
      | zero => exact absurd HA.out (by simp [laws_FnOccupancy.j0])
      | succ kj6 =>
        have H := HA.out
        clear HA
        simp only [laws_FnOccupancy.j0] at H
        by_cases c14 : x71_6 = true
        · subst c14
          have H1 : (some false) = some r := by rw [if_pos rfl] at H; exact H
          clear H
          have H := H1
          clear H1
          obtain rfl := Option.some.inj H
          go_wp2
          go_ret
          exact ⟨by first | rfl | (simp [errW_none, errW_some] <;> rfl) | (simp [*, errW_none, errW_some] <;> rfl), by repeat (first | (with_reducible first | exact HB.out | apply below_alloc | apply pw_below_drewN | apply below_drew1) | exact HB.out)⟩
        · replace c14 := Bool.eq_false_iff.mpr c14
          subst c14
          have H1 : (if t534 = true then (laws_FnOccupancy.j1 kj6 l0 t529 t532 t533 (decide (t533 > 0))) else (laws_FnOccupancy.j1 kj6 l0 t529 t532 t533 false)) = some r := by rw [if_neg (show ¬ (false = true) by decide)] at H; exact H
          clear H
          have H := H1
          clear H1
          have HC15 := Aside0.mk H
          clear H
          go_upto_region 8 with (fail)
          go_cut [76] (fun v76 wc => ∃ (kq : Nat) (x76_14 : Bool), v76 = .bool x76_14 ∧ Aside0 (laws_FnOccupancy.j1 kq l0 t529 t532 t533 x76_14 = some r) ∧ Aside0 (kq ≤ kj6) ∧ Aside0 (Kd.R k59 59 wc w.heap.size (fun _ => True) (.slice Ao9 t529.length co9) t529) ∧ Aside0 (Below w.heap.size w wc))
          case first =>
            have H := HC15.out
            clear HC15
            by_cases c16 : t534 = true
            · subst c16
              have H1 : (laws_FnOccupancy.j1 kj6 l0 t529 t532 t533 (decide (t533 > 0))) = some r := by rw [if_pos rfl] at H; exact H
              clear H
              have H := H1
              clear H1
              have H' := Aside0.mk H
              clear H
              go_wp2
              go_meet
              case rel => exact ⟨_, (decide (t533 > 0)), (by first | rfl | (simp; done) | (simp [*]; done)), H', ⟨by have := HJ6.out; first | omega | exact Nat.le_refl _⟩, ⟨by (with_reducible repeat (first | apply Kd.R_alloc | apply Kd.R_drewN | apply Kd.R_drew)); exact HO_3.out⟩, ⟨by repeat (first | (with_reducible first | exact HB.out | apply below_alloc | apply pw_below_drewN | apply below_drew1) | exact HB.out)⟩⟩
            · replace c16 := Bool.eq_false_iff.mpr c16
              subst c16
              have H1 : (laws_FnOccupancy.j1 kj6 l0 t529 t532 t533 false) = some r := by rw [if_neg (show ¬ (false = true) by decide)] at H; exact H
              clear H
              have H := H1
              clear H1
              have H' := Aside0.mk H
              clear H
              go_wp2
              go_meet
              case rel => exact ⟨_, (false), (by first | rfl | (simp; done) | (simp [*]; done)), H', ⟨by have := HJ6.out; first | omega | exact Nat.le_refl _⟩, ⟨by (with_reducible repeat (first | apply Kd.R_alloc | apply Kd.R_drewN | apply Kd.R_drew)); exact HO_3.out⟩, ⟨by repeat (first | (with_reducible first | exact HB.out | apply below_alloc | apply pw_below_drewN | apply below_drew1) | exact HB.out)⟩⟩
          case rest => as_aux_lemma =>
            clear HC15
            try clear c1
            try clear c2
            try clear p2
            try clear c3
            try clear c10
            try clear c12
            try clear c12b0
            try clear c12b1
            try clear c13
            try clear c13b0
            try clear c13b1
            try clear c14
            try clear c16
            try clear p2
            obtain ⟨kq, x76_14, rfl, HA, HJ14, HO_3, HB⟩ := hcut
            cases kq with
            | zero => exact absurd HA.out (by simp [laws_FnOccupancy.j1])
            | succ kj14 =>
              have H := HA.out
              clear HA
              simp only [laws_FnOccupancy.j1] at H
              have HC17 := Aside0.mk H
              clear H
              go_upto_if 76 with (fail)
              go_cut [] (fun wc => ∃ (kq : Nat), Aside0 (laws_FnOccupancy.j3 kq l0 = some r) ∧ Aside0 (kq ≤ kj14) ∧ Aside0 (Below w.heap.size w wc))
              case first =>
                have H := HC17.out
                clear HC17
                by_cases c18 : x76_14 = true
                · subst c18
                  have H1 : ((impl_Occupancy.f kj14 t529 t532 (wrap64 (t532 + 1)) 1).bind fun bt538 => ((impl_BusyHours.f kj14 t529 t533).bind fun bt541 => (if bt538.2.2 = true then (if bt538.1 = t533 then (if bt538.2.1 = 1 then (if bt541.2 = true then (laws_FnOccupancy.j2 kj14 l0 t529 t533 (decide (bt541.1 < 1))) else (laws_FnOccupancy.j2 kj14 l0 t529 t533 true)) else (laws_FnOccupancy.j2 kj14 l0 t529 t533 true)) else (laws_FnOccupancy.j2 kj14 l0 t529 t533 true)) else (laws_FnOccupancy.j2 kj14 l0 t529 t533 true)))) = some r := by rw [if_pos rfl] at H; exact H
                  clear H
                  have H := H1
                  clear H1
                  replace H := Option.bind_eq_some_iff.mp H
                  obtain ⟨⟨t538, t539, t540⟩, A190, H⟩ := H
                  replace H : ((impl_BusyHours.f kj14 t529 t533).bind fun bt541 => (if t540 = true then (if t538 = t533 then (if t539 = 1 then (if bt541.2 = true then (laws_FnOccupancy.j2 kj14 l0 t529 t533 (decide (bt541.1 < 1))) else (laws_FnOccupancy.j2 kj14 l0 t529 t533 true)) else (laws_FnOccupancy.j2 kj14 l0 t529 t533 true)) else (laws_FnOccupancy.j2 kj14 l0 t529 t533 true)) else (laws_FnOccupancy.j2 kj14 l0 t529 t533 true))) = some r := H
                  have A19 := Aside0.mk A190
                  clear A190
                  replace H := Option.bind_eq_some_iff.mp H
                  obtain ⟨⟨t541, t542⟩, A200, H⟩ := H
                  replace H : (if t540 = true then (if t538 = t533 then (if t539 = 1 then (if t542 = true then (laws_FnOccupancy.j2 kj14 l0 t529 t533 (decide (t541 < 1))) else (laws_FnOccupancy.j2 kj14 l0 t529 t533 true)) else (laws_FnOccupancy.j2 kj14 l0 t529 t533 true)) else (laws_FnOccupancy.j2 kj14 l0 t529 t533 true)) else (laws_FnOccupancy.j2 kj14 l0 t529 t533 true)) = some r := H
                  have A20 := Aside0.mk A200
                  clear A200
                  have HC21 := Aside0.mk H
                  clear H
                  go_upto_region 11 with (first | ((with_reducible refine gate_callee (f := 26) rfl ?_); refine goesL_ (some 82) rfl rfl Try.func26 (by kernel_rfl) rfl #[.slice Ao9 t529.length co9, .int .i64 t532, .int .i64 (wrap64 (t532 + 1)), .int .i64 1] rfl (by (try simp only [List.map_toArray, List.map_cons, List.map_nil]); first | done | rfl | (simp only [List.length_drop, List.length_take]; rfl)) ?_; (with_reducible refine (impl_Occupancy.calls kj14 _ _ t529 t532 (wrap64 (t532 + 1)) 1 t538 t539 t540 _ ?side1 ?side2 A19.out).mono ?_); (case side1 => repeat (first | exact (Kd.R_reads' HO_3.out).2.2 | (with_reducible refine Kd.C_alloc ?_ _) | (with_reducible refine Kd.C_drewN ?_ _) | (with_reducible refine Kd.C_drew ?_))); (case side2 => exact (Kd.R_reads' HO_3.out).2.1); rintro e w22 ⟨rfl, hb⟩; refine ⟨_, rfl, ?_⟩; have n0_ := Aside0.mk (Kd.R_below (by (with_reducible repeat (first | apply Kd.R_alloc | apply Kd.R_drewN | apply Kd.R_drew)); exact HO_3.out) hb); have n1_ := Aside0.mk (below_step (by repeat (first | (with_reducible first | exact HB.out | apply below_alloc | apply pw_below_drewN | apply below_drew1) | exact HB.out)) hb); clear HO_3; clear HB; have HO_3 := n0_; have HB := n1_; clear n0_ n1_; (try clear hb); (try clear hb2); (try clear hk); (try clear hi)) | ((with_reducible refine gate_callee (f := 22) rfl ?_); refine goesL_ (some 89) rfl rfl Try.func22 (by kernel_rfl) rfl #[.slice Ao9 t529.length co9, .int .i64 t533] rfl (by (try simp only [List.map_toArray, List.map_cons, List.map_nil]); first | done | rfl | (simp only [List.length_drop, List.length_take]; rfl)) ?_; (with_reducible refine (impl_BusyHours.calls kj14 _ _ t529 t533 t541 t542 _ ?side1 ?side2 A20.out).mono ?_); (case side1 => repeat (first | exact (Kd.R_reads' HO_3.out).2.2 | (with_reducible refine Kd.C_alloc ?_ _) | (with_reducible refine Kd.C_drewN ?_ _) | (with_reducible refine Kd.C_drew ?_))); (case side2 => exact (Kd.R_reads' HO_3.out).2.1); rintro e w23 ⟨rfl, hb⟩; refine ⟨_, rfl, ?_⟩; have n0_ := Aside0.mk (Kd.R_below (by (with_reducible repeat (first | apply Kd.R_alloc | apply Kd.R_drewN | apply Kd.R_drew)); exact HO_3.out) hb); have n1_ := Aside0.mk (below_step (by repeat (first | (with_reducible first | exact HB.out | apply below_alloc | apply pw_below_drewN | apply below_drew1) | exact HB.out)) hb); clear HO_3; clear HB; have HO_3 := n0_; have HB := n1_; clear n0_ n1_; (try clear hb); (try clear hb2); (try clear hk); (try clear hi)))
                  (try simp only [Act.put, List.setIfInBounds_toArray, List.set_cons_zero, List.set_cons_succ])
                  go_cut [110] (fun v110 wc => ∃ (kq : Nat) (x110_20 : Bool), v110 = .bool x110_20 ∧ Aside0 (laws_FnOccupancy.j2 kq l0 t529 t533 x110_20 = some r) ∧ Aside0 (kq ≤ kj14) ∧ Aside0 (Kd.R k59 59 wc w.heap.size (fun _ => True) (.slice Ao9 t529.length co9) t529) ∧ Aside0 (Below w.heap.size w wc))
                  case first =>
                    have H := HC21.out
                    clear HC21
                    by_cases c24 : t540 = true
                    · subst c24
                      have H1 : (if t538 = t533 then (if t539 = 1 then (if t542 = true then (laws_FnOccupancy.j2 kj14 l0 t529 t533 (decide (t541 < 1))) else (laws_FnOccupancy.j2 kj14 l0 t529 t533 true)) else (laws_FnOccupancy.j2 kj14 l0 t529 t533 true)) else (laws_FnOccupancy.j2 kj14 l0 t529 t533 true)) = some r := by rw [if_pos rfl] at H; exact H
                      clear H
                      have H := H1
                      clear H1
                      by_cases c25 : t538 = t533
                      · rw [if_pos c25] at H
                        have c25b0 : (t538 == t533) = true := beq_iff_eq.mpr c25
                        have c25b1 : (t538 != t533) = false := bne_eq_false_iff_eq.mpr c25
                        clear c25
                        (first | rw [c25b0] | (simp only [i64_w, i32_w]; rw [c25b0]) | skip)
                        by_cases c26 : t539 = 1
                        · rw [if_pos c26] at H
                          have c26b0 : (t539 == 1) = true := beq_iff_eq.mpr c26
                          have c26b1 : (t539 != 1) = false := bne_eq_false_iff_eq.mpr c26
                          clear c26
                          by_cases c27 : t542 = true
                          · subst c27
                            have H1 : (laws_FnOccupancy.j2 kj14 l0 t529 t533 (decide (t541 < 1))) = some r := by rw [if_pos rfl] at H; exact H
                            clear H
                            have H := H1
                            clear H1
                            have H' := Aside0.mk H
                            clear H
                            go_wp2
                            go_meet
                            case rel => exact ⟨_, (decide (t541 < 1)), (by first | rfl | (simp; done) | (simp [*]; done)), H', ⟨by have := HJ6.out; have := HJ14.out; first | omega | exact Nat.le_refl _⟩, ⟨by (with_reducible repeat (first | apply Kd.R_alloc | apply Kd.R_drewN | apply Kd.R_drew)); exact HO_3.out⟩, ⟨by repeat (first | (with_reducible first | exact HB.out | apply below_alloc | apply pw_below_drewN | apply below_drew1) | exact HB.out)⟩⟩
                          · replace c27 := Bool.eq_false_iff.mpr c27
                            subst c27
                            have H1 : (laws_FnOccupancy.j2 kj14 l0 t529 t533 true) = some r := by rw [if_neg (show ¬ (false = true) by decide)] at H; exact H
                            clear H
                            have H := H1
                            clear H1
                            have H' := Aside0.mk H
                            clear H
                            go_wp2
                            go_meet
                            case rel => exact ⟨_, (true), (by first | rfl | (simp; done) | (simp [*]; done)), H', ⟨by have := HJ6.out; have := HJ14.out; first | omega | exact Nat.le_refl _⟩, ⟨by (with_reducible repeat (first | apply Kd.R_alloc | apply Kd.R_drewN | apply Kd.R_drew)); exact HO_3.out⟩, ⟨by repeat (first | (with_reducible first | exact HB.out | apply below_alloc | apply pw_below_drewN | apply below_drew1) | exact HB.out)⟩⟩
                        · rw [if_neg c26] at H
                          have c26b0 : (t539 == 1) = false := beq_eq_false_iff_ne.mpr c26
                          have c26b1 : (t539 != 1) = true := bne_iff_ne.mpr c26
                          have H' := Aside0.mk H
                          clear H
                          go_wp2
                          go_meet
                          case rel => exact ⟨_, (true), (by first | rfl | (simp; done) | (simp [*]; done)), H', ⟨by have := HJ6.out; have := HJ14.out; first | omega | exact Nat.le_refl _⟩, ⟨by (with_reducible repeat (first | apply Kd.R_alloc | apply Kd.R_drewN | apply Kd.R_drew)); exact HO_3.out⟩, ⟨by repeat (first | (with_reducible first | exact HB.out | apply below_alloc | apply pw_below_drewN | apply below_drew1) | exact HB.out)⟩⟩
                      · rw [if_neg c25] at H
                        have c25b0 : (t538 == t533) = false := beq_eq_false_iff_ne.mpr c25
                        have c25b1 : (t538 != t533) = true := bne_iff_ne.mpr c25
                        (first | rw [c25b0] | (simp only [i64_w, i32_w]; rw [c25b0]) | skip)
                        have H' := Aside0.mk H
                        clear H
                        go_wp2
                        go_meet
                        case rel => exact ⟨_, (true), (by first | rfl | (simp; done) | (simp [*]; done)), H', ⟨by have := HJ6.out; have := HJ14.out; first | omega | exact Nat.le_refl _⟩, ⟨by (with_reducible repeat (first | apply Kd.R_alloc | apply Kd.R_drewN | apply Kd.R_drew)); exact HO_3.out⟩, ⟨by repeat (first | (with_reducible first | exact HB.out | apply below_alloc | apply pw_below_drewN | apply below_drew1) | exact HB.out)⟩⟩
                    · replace c24 := Bool.eq_false_iff.mpr c24
                      subst c24
                      have H1 : (laws_FnOccupancy.j2 kj14 l0 t529 t533 true) = some r := by rw [if_neg (show ¬ (false = true) by decide)] at H; exact H
                      clear H
                      have H := H1
                      clear H1
                      have H' := Aside0.mk H
                      clear H
                      go_wp2
                      go_meet
                      case rel => exact ⟨_, (true), (by first | rfl | (simp; done) | (simp [*]; done)), H', ⟨by have := HJ6.out; have := HJ14.out; first | omega | exact Nat.le_refl _⟩, ⟨by (with_reducible repeat (first | apply Kd.R_alloc | apply Kd.R_drewN | apply Kd.R_drew)); exact HO_3.out⟩, ⟨by repeat (first | (with_reducible first | exact HB.out | apply below_alloc | apply pw_below_drewN | apply below_drew1) | exact HB.out)⟩⟩
                  case rest => as_aux_lemma =>
                    clear HC21
                    try clear c1
                    try clear c2
                    try clear p2
                    try clear c3
                    try clear p6
                    try clear c10
                    try clear c12
                    try clear c12b0
                    try clear c12b1
                    try clear c13
                    try clear c13b0
                    try clear c13b1
                    try clear c14
                    try clear c16
                    try clear c18
                    try clear c22
                    try clear c23
                    try clear c24
                    try clear c25
                    try clear c25b0
                    try clear c25b1
                    try clear c26
                    try clear c26b0
                    try clear c26b1
                    try clear c27
                    try clear p2
                    obtain ⟨kq, x110_20, rfl, HA, HJ20, HO_3, HB⟩ := hcut
                    cases kq with
                    | zero => exact absurd HA.out (by simp [laws_FnOccupancy.j2])
                    | succ kj20 =>
                      have H := HA.out
                      clear HA
                      simp only [laws_FnOccupancy.j2] at H
                      by_cases c28 : x110_20 = true
                      · subst c28
                        have H1 : (some false) = some r := by rw [if_pos rfl] at H; exact H
                        clear H
                        have H := H1
                        clear H1
                        obtain rfl := Option.some.inj H
                        go_wp2
                        go_ret
                        exact ⟨by first | rfl | (simp [errW_none, errW_some] <;> rfl) | (simp [*, errW_none, errW_some] <;> rfl), by repeat (first | (with_reducible first | exact HB.out | apply below_alloc | apply pw_below_drewN | apply below_drew1) | exact HB.out)⟩
                      · replace c28 := Bool.eq_false_iff.mpr c28
                        subst c28
                        have H1 : ((impl_BusyHours.f kj20 t529 (wrap64 (t533 + 1))).bind fun bt543 => (if bt543.2 = true then (if bt543.1 = 0 then (laws_FnOccupancy.j3 kj20 l0) else (some false)) else (laws_FnOccupancy.j3 kj20 l0))) = some r := by rw [if_neg (show ¬ (false = true) by decide)] at H; exact H
                        clear H
                        have H := H1
                        clear H1
                        replace H := Option.bind_eq_some_iff.mp H
                        obtain ⟨⟨t543, t544⟩, A290, H⟩ := H
                        replace H : (if t544 = true then (if t543 = 0 then (laws_FnOccupancy.j3 kj20 l0) else (some false)) else (laws_FnOccupancy.j3 kj20 l0)) = some r := H
                        have A29 := Aside0.mk A290
                        clear A290
                        by_cases c30 : t544 = true
                        · subst c30
                          have H1 : (if t543 = 0 then (laws_FnOccupancy.j3 kj20 l0) else (some false)) = some r := by rw [if_pos rfl] at H; exact H
                          clear H
                          have H := H1
                          clear H1
                          by_cases c31 : t543 = 0
                          · rw [if_pos c31] at H
                            have c31b0 : (t543 == 0) = true := beq_iff_eq.mpr c31
                            have c31b1 : (t543 != 0) = false := bne_eq_false_iff_eq.mpr c31
                            clear c31
                            have H' := Aside0.mk H
                            clear H
                            go_wp2_with (first | ((with_reducible refine gate_callee (f := 22) rfl ?_); refine goesL_ (some 115) rfl rfl Try.func22 (by kernel_rfl) rfl #[.slice Ao9 t529.length co9, .int .i64 (wrap64 (t533 + 1))] rfl (by (try simp only [List.map_toArray, List.map_cons, List.map_nil]); first | done | rfl | (simp only [List.length_drop, List.length_take]; rfl)) ?_; (with_reducible refine (impl_BusyHours.calls kj20 _ _ t529 (wrap64 (t533 + 1)) t543 true _ ?side1 ?side2 A29.out).mono ?_); (case side1 => repeat (first | exact (Kd.R_reads' HO_3.out).2.2 | (with_reducible refine Kd.C_alloc ?_ _) | (with_reducible refine Kd.C_drewN ?_ _) | (with_reducible refine Kd.C_drew ?_))); (case side2 => exact (Kd.R_reads' HO_3.out).2.1); rintro e w32 ⟨rfl, hb⟩; refine ⟨_, rfl, ?_⟩; have n0_ := Aside0.mk (Kd.R_below (by (with_reducible repeat (first | apply Kd.R_alloc | apply Kd.R_drewN | apply Kd.R_drew)); exact HO_3.out) hb); have n1_ := Aside0.mk (below_step (by repeat (first | (with_reducible first | exact HB.out | apply below_alloc | apply pw_below_drewN | apply below_drew1) | exact HB.out)) hb); clear HO_3; clear HB; have HO_3 := n0_; have HB := n1_; clear n0_ n1_; (try clear hb); (try clear hb2); (try clear hk); (try clear hi)))
                            go_meet
                            case rel => exact ⟨_, H', ⟨by have := HJ6.out; have := HJ14.out; have := HJ20.out; first | omega | exact Nat.le_refl _⟩, ⟨by repeat (first | (with_reducible first | exact HB.out | apply below_alloc | apply pw_below_drewN | apply below_drew1) | exact HB.out)⟩⟩
                          · rw [if_neg c31] at H
                            have c31b0 : (t543 == 0) = false := beq_eq_false_iff_ne.mpr c31
                            have c31b1 : (t543 != 0) = true := bne_iff_ne.mpr c31
                            obtain rfl := Option.some.inj H
                            go_wp2_with (first | ((with_reducible refine gate_callee (f := 22) rfl ?_); refine goesL_ (some 115) rfl rfl Try.func22 (by kernel_rfl) rfl #[.slice Ao9 t529.length co9, .int .i64 (wrap64 (t533 + 1))] rfl (by (try simp only [List.map_toArray, List.map_cons, List.map_nil]); first | done | rfl | (simp only [List.length_drop, List.length_take]; rfl)) ?_; (with_reducible refine (impl_BusyHours.calls kj20 _ _ t529 (wrap64 (t533 + 1)) t543 true _ ?side1 ?side2 A29.out).mono ?_); (case side1 => repeat (first | exact (Kd.R_reads' HO_3.out).2.2 | (with_reducible refine Kd.C_alloc ?_ _) | (with_reducible refine Kd.C_drewN ?_ _) | (with_reducible refine Kd.C_drew ?_))); (case side2 => exact (Kd.R_reads' HO_3.out).2.1); rintro e w33 ⟨rfl, hb⟩; refine ⟨_, rfl, ?_⟩; have n0_ := Aside0.mk (Kd.R_below (by (with_reducible repeat (first | apply Kd.R_alloc | apply Kd.R_drewN | apply Kd.R_drew)); exact HO_3.out) hb); have n1_ := Aside0.mk (below_step (by repeat (first | (with_reducible first | exact HB.out | apply below_alloc | apply pw_below_drewN | apply below_drew1) | exact HB.out)) hb); clear HO_3; clear HB; have HO_3 := n0_; have HB := n1_; clear n0_ n1_; (try clear hb); (try clear hb2); (try clear hk); (try clear hi)))
                            go_ret
                            exact ⟨by first | rfl | (simp [errW_none, errW_some] <;> rfl) | (simp [*, errW_none, errW_some] <;> rfl), by repeat (first | (with_reducible first | exact HB.out | apply below_alloc | apply pw_below_drewN | apply below_drew1) | exact HB.out)⟩
                        · replace c30 := Bool.eq_false_iff.mpr c30
                          subst c30
                          have H1 : (laws_FnOccupancy.j3 kj20 l0) = some r := by rw [if_neg (show ¬ (false = true) by decide)] at H; exact H
                          clear H
                          have H := H1
                          clear H1
                          have H' := Aside0.mk H
                          clear H
                          go_wp2_with (first | ((with_reducible refine gate_callee (f := 22) rfl ?_); refine goesL_ (some 115) rfl rfl Try.func22 (by kernel_rfl) rfl #[.slice Ao9 t529.length co9, .int .i64 (wrap64 (t533 + 1))] rfl (by (try simp only [List.map_toArray, List.map_cons, List.map_nil]); first | done | rfl | (simp only [List.length_drop, List.length_take]; rfl)) ?_; (with_reducible refine (impl_BusyHours.calls kj20 _ _ t529 (wrap64 (t533 + 1)) t543 false _ ?side1 ?side2 A29.out).mono ?_); (case side1 => repeat (first | exact (Kd.R_reads' HO_3.out).2.2 | (with_reducible refine Kd.C_alloc ?_ _) | (with_reducible refine Kd.C_drewN ?_ _) | (with_reducible refine Kd.C_drew ?_))); (case side2 => exact (Kd.R_reads' HO_3.out).2.1); rintro e w34 ⟨rfl, hb⟩; refine ⟨_, rfl, ?_⟩; have n0_ := Aside0.mk (Kd.R_below (by (with_reducible repeat (first | apply Kd.R_alloc | apply Kd.R_drewN | apply Kd.R_drew)); exact HO_3.out) hb); have n1_ := Aside0.mk (below_step (by repeat (first | (with_reducible first | exact HB.out | apply below_alloc | apply pw_below_drewN | apply below_drew1) | exact HB.out)) hb); clear HO_3; clear HB; have HO_3 := n0_; have HB := n1_; clear n0_ n1_; (try clear hb); (try clear hb2); (try clear hk); (try clear hi)))
                          go_meet
                          case rel => exact ⟨_, H', ⟨by have := HJ6.out; have := HJ14.out; have := HJ20.out; first | omega | exact Nat.le_refl _⟩, ⟨by repeat (first | (with_reducible first | exact HB.out | apply below_alloc | apply pw_below_drewN | apply below_drew1) | exact HB.out)⟩⟩
                · replace c18 := Bool.eq_false_iff.mpr c18
                  subst c18
                  have H1 : (laws_FnOccupancy.j3 kj14 l0) = some r := by rw [if_neg (show ¬ (false = true) by decide)] at H; exact H
                  clear H
                  have H := H1
                  clear H1
                  have H' := Aside0.mk H
                  clear H
                  go_wp2
                  go_meet
                  case rel => exact ⟨_, H', ⟨by have := HJ6.out; have := HJ14.out; first | omega | exact Nat.le_refl _⟩, ⟨by repeat (first | (with_reducible first | exact HB.out | apply below_alloc | apply pw_below_drewN | apply below_drew1) | exact HB.out)⟩⟩
              case rest => as_aux_lemma =>
                clear HC17
                try clear c1
                try clear c2
                try clear p2
                try clear c3
                try clear p6
                try clear c10
                try clear c12
                try clear c12b0
                try clear c12b1
                try clear c13
                try clear c13b0
                try clear c13b1
                try clear c14
                try clear c16
                try clear c18
                try clear c22
                try clear c23
                try clear c24
                try clear c25
                try clear c25b0
                try clear c25b1
                try clear c26
                try clear c26b0
                try clear c26b1
                try clear c27
                try clear c28
                try clear c30
                try clear c31
                try clear c31b0
                try clear c31b1
                try clear p2
                try clear p6
                obtain ⟨kq, HA, HJ16, HB⟩ := hcut
                cases kq with
                | zero => exact absurd HA.out (by simp [laws_FnOccupancy.j3])
                | succ kj16 =>
                  have H := HA.out
                  clear HA
                  simp only [laws_FnOccupancy.j3] at H
                  replace H := Option.bind_eq_some_iff.mp H
                  obtain ⟨⟨t545, t546, t547, t548⟩, A350, H⟩ := H
                  replace H : ((impl_Occupancy.f kj16 t545 t546 t547 t548).bind fun bt551 => ((spec_Occupancy.f kj16 t545 t546 t547 t548).bind fun bt554 => (if bt551.1 = bt554.1 then (if bt551.2.1 = bt554.2.1 then (laws_FnOccupancy.j4 kj16 l0 (bt551.2.2 != bt554.2.2)) else (laws_FnOccupancy.j4 kj16 l0 true)) else (laws_FnOccupancy.j4 kj16 l0 true)))) = some r := H
                  have A35 := Aside0.mk A350
                  clear A350
                  replace H := Option.bind_eq_some_iff.mp H
                  obtain ⟨⟨t551, t552, t553⟩, A360, H⟩ := H
                  replace H : ((spec_Occupancy.f kj16 t545 t546 t547 t548).bind fun bt554 => (if t551 = bt554.1 then (if t552 = bt554.2.1 then (laws_FnOccupancy.j4 kj16 l0 (t553 != bt554.2.2)) else (laws_FnOccupancy.j4 kj16 l0 true)) else (laws_FnOccupancy.j4 kj16 l0 true))) = some r := H
                  have A36 := Aside0.mk A360
                  clear A360
                  replace H := Option.bind_eq_some_iff.mp H
                  obtain ⟨⟨t554, t555, t556⟩, A370, H⟩ := H
                  replace H : (if t551 = t554 then (if t552 = t555 then (laws_FnOccupancy.j4 kj16 l0 (t553 != t556)) else (laws_FnOccupancy.j4 kj16 l0 true)) else (laws_FnOccupancy.j4 kj16 l0 true)) = some r := H
                  have A37 := Aside0.mk A370
                  clear A370
                  have HC38 := Aside0.mk H
                  clear H
                  go_upto_region 19 with (first | ((with_reducible refine gate_callee (f := 37) rfl ?_); refine goesL_ (some 125) rfl rfl Try.func37 (by kernel_rfl) rfl #[.slice A0 l0.length c0] rfl (by (try simp only [List.map_toArray, List.map_cons, List.map_nil]); first | done | rfl | (simp only [List.length_drop, List.length_take]; rfl)) ?_; (with_reducible refine (spec_DrawOccupancy.calls kj16 _ _ l0 t545 t546 t547 t548 _ ?side1 ?side2 A35.out).mono ?_); (case side1 => repeat (first | exact (Kd.C_below HR0.out HB.out) | (with_reducible refine Kd.C_alloc ?_ _) | (with_reducible refine Kd.C_drewN ?_ _) | (with_reducible refine Kd.C_drew ?_))); (case side2 => exact HC0.out); rintro e w39 ⟨v549, rfl, ho0, hb⟩; refine ⟨_, rfl, ?_⟩; have n0_ := Aside0.mk (Kd.R_lower ho0 (below_size (by repeat (first | (with_reducible first | exact HB.out | apply below_alloc | apply pw_below_drewN | apply below_drew1) | exact HB.out)))); have n1_ := Aside0.mk (below_step (by repeat (first | (with_reducible first | exact HB.out | apply below_alloc | apply pw_below_drewN | apply below_drew1) | exact HB.out)) hb); clear HB; have HO550 := n0_; have HB := n1_; clear n0_ n1_; (try clear hb); (try clear hb2); (try clear hk); (try clear hi); (try clear ho0); obtain ⟨Ao40, co40, eo40⟩ := Kd.R_slice HO550.out; subst eo40) | ((with_reducible refine gate_callee (f := 26) rfl ?_); refine goesL_ (some 135) rfl rfl Try.func26 (by kernel_rfl) rfl #[.slice Ao40 t545.length co40, .int .i64 t546, .int .i64 t547, .int .i64 t548] rfl (by (try simp only [List.map_toArray, List.map_cons, List.map_nil]); first | done | rfl | (simp only [List.length_drop, List.length_take]; rfl)) ?_; (with_reducible refine (impl_Occupancy.calls kj16 _ _ t545 t546 t547 t548 t551 t552 t553 _ ?side1 ?side2 A36.out).mono ?_); (case side1 => repeat (first | exact (Kd.R_reads' HO550.out).2.2 | (with_reducible refine Kd.C_alloc ?_ _) | (with_reducible refine Kd.C_drewN ?_ _) | (with_reducible refine Kd.C_drew ?_))); (case side2 => exact (Kd.R_reads' HO550.out).2.1); rintro e w41 ⟨rfl, hb⟩; refine ⟨_, rfl, ?_⟩; have n0_ := Aside0.mk (Kd.R_below (by (with_reducible repeat (first | apply Kd.R_alloc | apply Kd.R_drewN | apply Kd.R_drew)); exact HO550.out) hb); have n1_ := Aside0.mk (below_step (by repeat (first | (with_reducible first | exact HB.out | apply below_alloc | apply pw_below_drewN | apply below_drew1) | exact HB.out)) hb); clear HO550; clear HB; have HO550 := n0_; have HB := n1_; clear n0_ n1_; (try clear hb); (try clear hb2); (try clear hk); (try clear hi)) | ((with_reducible refine gate_callee (f := 25) rfl ?_); refine goesL_ (some 144) rfl rfl Try.func25 (by kernel_rfl) rfl #[.slice Ao40 t545.length co40, .int .i64 t546, .int .i64 t547, .int .i64 t548] rfl (by (try simp only [List.map_toArray, List.map_cons, List.map_nil]); first | done | rfl | (simp only [List.length_drop, List.length_take]; rfl)) ?_; (with_reducible refine (spec_Occupancy.calls kj16 _ _ t545 t546 t547 t548 t554 t555 t556 _ ?side1 ?side2 A37.out).mono ?_); (case side1 => repeat (first | exact (Kd.R_reads' HO550.out).2.2 | (with_reducible refine Kd.C_alloc ?_ _) | (with_reducible refine Kd.C_drewN ?_ _) | (with_reducible refine Kd.C_drew ?_))); (case side2 => exact (Kd.R_reads' HO550.out).2.1); rintro e w42 ⟨rfl, hb⟩; refine ⟨_, rfl, ?_⟩; have n0_ := Aside0.mk (Kd.R_below (by (with_reducible repeat (first | apply Kd.R_alloc | apply Kd.R_drewN | apply Kd.R_drew)); exact HO550.out) hb); have n1_ := Aside0.mk (below_step (by repeat (first | (with_reducible first | exact HB.out | apply below_alloc | apply pw_below_drewN | apply below_drew1) | exact HB.out)) hb); clear HO550; clear HB; have HO550 := n0_; have HB := n1_; clear n0_ n1_; (try clear hb); (try clear hb2); (try clear hk); (try clear hi)))
                  (try simp only [Act.put, List.setIfInBounds_toArray, List.set_cons_zero, List.set_cons_succ])
                  go_cut [160] (fun v160 wc => ∃ (kq : Nat) (x160_37 : Bool), v160 = .bool x160_37 ∧ Aside0 (laws_FnOccupancy.j4 kq l0 x160_37 = some r) ∧ Aside0 (kq ≤ kj16) ∧ Aside0 (Below w.heap.size w wc))
                  case first =>
                    have H := HC38.out
                    clear HC38
                    by_cases c43 : t551 = t554
                    · rw [if_pos c43] at H
                      have c43b0 : (t551 == t554) = true := beq_iff_eq.mpr c43
                      have c43b1 : (t551 != t554) = false := bne_eq_false_iff_eq.mpr c43
                      clear c43
                      (first | rw [c43b0] | (simp only [i64_w, i32_w]; rw [c43b0]) | skip)
                      by_cases c44 : t552 = t555
                      · rw [if_pos c44] at H
                        have c44b0 : (t552 == t555) = true := beq_iff_eq.mpr c44
                        have c44b1 : (t552 != t555) = false := bne_eq_false_iff_eq.mpr c44
                        clear c44
                        have H' := Aside0.mk H
                        clear H
                        go_wp2
                        go_meet
                        case rel => exact ⟨_, ((t553 != t556)), (by first | rfl | (simp; done) | (simp [*]; done)), H', ⟨by have := HJ6.out; have := HJ14.out; have := HJ16.out; first | omega | exact Nat.le_refl _⟩, ⟨by repeat (first | (with_reducible first | exact HB.out | apply below_alloc | apply pw_below_drewN | apply below_drew1) | exact HB.out)⟩⟩
                      · rw [if_neg c44] at H
                        have c44b0 : (t552 == t555) = false := beq_eq_false_iff_ne.mpr c44
                        have c44b1 : (t552 != t555) = true := bne_iff_ne.mpr c44
                        have H' := Aside0.mk H
                        clear H
                        go_wp2
                        go_meet
                        case rel => exact ⟨_, (true), (by first | rfl | (simp; done) | (simp [*]; done)), H', ⟨by have := HJ6.out; have := HJ14.out; have := HJ16.out; first | omega | exact Nat.le_refl _⟩, ⟨by repeat (first | (with_reducible first | exact HB.out | apply below_alloc | apply pw_below_drewN | apply below_drew1) | exact HB.out)⟩⟩
                    · rw [if_neg c43] at H
                      have c43b0 : (t551 == t554) = false := beq_eq_false_iff_ne.mpr c43
                      have c43b1 : (t551 != t554) = true := bne_iff_ne.mpr c43
                      (first | rw [c43b0] | (simp only [i64_w, i32_w]; rw [c43b0]) | skip)
                      have H' := Aside0.mk H
                      clear H
                      go_wp2
                      go_meet
                      case rel => exact ⟨_, (true), (by first | rfl | (simp; done) | (simp [*]; done)), H', ⟨by have := HJ6.out; have := HJ14.out; have := HJ16.out; first | omega | exact Nat.le_refl _⟩, ⟨by repeat (first | (with_reducible first | exact HB.out | apply below_alloc | apply pw_below_drewN | apply below_drew1) | exact HB.out)⟩⟩
                  case rest => as_aux_lemma =>
                    clear HC38
                    try clear c1
                    try clear c2
                    try clear p2
                    try clear c3
                    try clear c4
                    try clear p6
                    try clear c10
                    try clear c12
                    try clear c12b0
                    try clear c12b1
                    try clear c13
                    try clear c13b0
                    try clear c13b1
                    try clear c14
                    try clear c16
                    try clear c18
                    try clear c22
                    try clear c23
                    try clear c24
                    try clear c25
                    try clear c25b0
                    try clear c25b1
                    try clear c26
                    try clear c26b0
                    try clear c26b1
                    try clear c27
                    try clear c28
                    try clear c30
                    try clear c31
                    try clear c31b0
                    try clear c31b1
                    try clear c35
                    try clear c36
                    try clear c37
                    try clear c43
                    try clear c43b0
                    try clear c43b1
                    try clear c44
                    try clear c44b0
                    try clear c44b1
                    try clear p2
                    try clear p6
                    obtain ⟨kq, x160_37, rfl, HA, HJ37, HB⟩ := hcut
                    cases kq with
                    | zero => exact absurd HA.out (by simp [laws_FnOccupancy.j4])
                    | succ kj37 =>
                      have H := HA.out
                      clear HA
                      simp only [laws_FnOccupancy.j4] at H
                      by_cases c45 : x160_37 = true
                      · subst c45
                        have H1 : (some false) = some r := by rw [if_pos rfl] at H; exact H
                        clear H
                        have H := H1
                        clear H1
                        obtain rfl := Option.some.inj H
                        go_wp2
                        go_ret
                        exact ⟨by first | rfl | (simp [errW_none, errW_some] <;> rfl) | (simp [*, errW_none, errW_some] <;> rfl), by repeat (first | (with_reducible first | exact HB.out | apply below_alloc | apply pw_below_drewN | apply below_drew1) | exact HB.out)⟩
                      · replace c45 := Bool.eq_false_iff.mpr c45
                        subst c45
                        have H1 : ((spec_DrawBusyHours.f kj37 l0).bind fun bt557 => ((impl_BusyHours.f kj37 bt557.1 bt557.2).bind fun bt561 => ((spec_BusyHours.f kj37 bt557.1 bt557.2).bind fun bt563 => (if bt561.1 = bt563.1 then (laws_FnOccupancy.j5 kj37 l0 (bt561.2 != bt563.2)) else (laws_FnOccupancy.j5 kj37 l0 true))))) = some r := by rw [if_neg (show ¬ (false = true) by decide)] at H; exact H
                        clear H
                        have H := H1
                        clear H1
                        replace H := Option.bind_eq_some_iff.mp H
                        obtain ⟨⟨t557, t558⟩, A460, H⟩ := H
                        replace H : ((impl_BusyHours.f kj37 t557 t558).bind fun bt561 => ((spec_BusyHours.f kj37 t557 t558).bind fun bt563 => (if bt561.1 = bt563.1 then (laws_FnOccupancy.j5 kj37 l0 (bt561.2 != bt563.2)) else (laws_FnOccupancy.j5 kj37 l0 true)))) = some r := H
                        have A46 := Aside0.mk A460
                        clear A460
                        replace H := Option.bind_eq_some_iff.mp H
                        obtain ⟨⟨t561, t562⟩, A470, H⟩ := H
                        replace H : ((spec_BusyHours.f kj37 t557 t558).bind fun bt563 => (if t561 = bt563.1 then (laws_FnOccupancy.j5 kj37 l0 (t562 != bt563.2)) else (laws_FnOccupancy.j5 kj37 l0 true))) = some r := H
                        have A47 := Aside0.mk A470
                        clear A470
                        replace H := Option.bind_eq_some_iff.mp H
                        obtain ⟨⟨t563, t564⟩, A480, H⟩ := H
                        replace H : (if t561 = t563 then (laws_FnOccupancy.j5 kj37 l0 (t562 != t564)) else (laws_FnOccupancy.j5 kj37 l0 true)) = some r := H
                        have A48 := Aside0.mk A480
                        clear A480
                        have HC49 := Aside0.mk H
                        clear H
                        go_upto_region 24 with (first | ((with_reducible refine gate_callee (f := 38) rfl ?_); refine goesL_ (some 163) rfl rfl Try.func38 (by kernel_rfl) rfl #[.slice A0 l0.length c0] rfl (by (try simp only [List.map_toArray, List.map_cons, List.map_nil]); first | done | rfl | (simp only [List.length_drop, List.length_take]; rfl)) ?_; (with_reducible refine (spec_DrawBusyHours.calls kj37 _ _ l0 t557 t558 _ ?side1 ?side2 A46.out).mono ?_); (case side1 => repeat (first | exact (Kd.C_below HR0.out HB.out) | (with_reducible refine Kd.C_alloc ?_ _) | (with_reducible refine Kd.C_drewN ?_ _) | (with_reducible refine Kd.C_drew ?_))); (case side2 => exact HC0.out); rintro e w50 ⟨v559, rfl, ho0, hb⟩; refine ⟨_, rfl, ?_⟩; have n0_ := Aside0.mk (Kd.R_lower ho0 (below_size (by repeat (first | (with_reducible first | exact HB.out | apply below_alloc | apply pw_below_drewN | apply below_drew1) | exact HB.out)))); have n1_ := Aside0.mk (below_step (by repeat (first | (with_reducible first | exact HB.out | apply below_alloc | apply pw_below_drewN | apply below_drew1) | exact HB.out)) hb); clear HB; have HO560 := n0_; have HB := n1_; clear n0_ n1_; (try clear hb); (try clear hb2); (try clear hk); (try clear hi); (try clear ho0); obtain ⟨Ao51, co51, eo51⟩ := Kd.R_slice HO560.out; subst eo51) | ((with_reducible refine gate_callee (f := 22) rfl ?_); refine goesL_ (some 169) rfl rfl Try.func22 (by kernel_rfl) rfl #[.slice Ao51 t557.length co51, .int .i64 t558] rfl (by (try simp only [List.map_toArray, List.map_cons, List.map_nil]); first | done | rfl | (simp only [List.length_drop, List.length_take]; rfl)) ?_; (with_reducible refine (impl_BusyHours.calls kj37 _ _ t557 t558 t561 t562 _ ?side1 ?side2 A47.out).mono ?_); (case side1 => repeat (first | exact (Kd.R_reads' HO560.out).2.2 | (with_reducible refine Kd.C_alloc ?_ _) | (with_reducible refine Kd.C_drewN ?_ _) | (with_reducible refine Kd.C_drew ?_))); (case side2 => exact (Kd.R_reads' HO560.out).2.1); rintro e w52 ⟨rfl, hb⟩; refine ⟨_, rfl, ?_⟩; have n0_ := Aside0.mk (Kd.R_below (by (with_reducible repeat (first | apply Kd.R_alloc | apply Kd.R_drewN | apply Kd.R_drew)); exact HO560.out) hb); have n1_ := Aside0.mk (below_step (by repeat (first | (with_reducible first | exact HB.out | apply below_alloc | apply pw_below_drewN | apply below_drew1) | exact HB.out)) hb); clear HO560; clear HB; have HO560 := n0_; have HB := n1_; clear n0_ n1_; (try clear hb); (try clear hb2); (try clear hk); (try clear hi)) | ((with_reducible refine gate_callee (f := 21) rfl ?_); refine goesL_ (some 175) rfl rfl Try.func21 (by kernel_rfl) rfl #[.slice Ao51 t557.length co51, .int .i64 t558] rfl (by (try simp only [List.map_toArray, List.map_cons, List.map_nil]); first | done | rfl | (simp only [List.length_drop, List.length_take]; rfl)) ?_; (with_reducible refine (spec_BusyHours.calls kj37 _ _ t557 t558 t563 t564 _ ?side1 ?side2 A48.out).mono ?_); (case side1 => repeat (first | exact (Kd.R_reads' HO560.out).2.2 | (with_reducible refine Kd.C_alloc ?_ _) | (with_reducible refine Kd.C_drewN ?_ _) | (with_reducible refine Kd.C_drew ?_))); (case side2 => exact (Kd.R_reads' HO560.out).2.1); rintro e w53 ⟨rfl, hb⟩; refine ⟨_, rfl, ?_⟩; have n0_ := Aside0.mk (Kd.R_below (by (with_reducible repeat (first | apply Kd.R_alloc | apply Kd.R_drewN | apply Kd.R_drew)); exact HO560.out) hb); have n1_ := Aside0.mk (below_step (by repeat (first | (with_reducible first | exact HB.out | apply below_alloc | apply pw_below_drewN | apply below_drew1) | exact HB.out)) hb); clear HO560; clear HB; have HO560 := n0_; have HB := n1_; clear n0_ n1_; (try clear hb); (try clear hb2); (try clear hk); (try clear hi)))
                        (try simp only [Act.put, List.setIfInBounds_toArray, List.set_cons_zero, List.set_cons_succ])
                        go_cut [185] (fun v185 wc => ∃ (kq : Nat) (x185_48 : Bool), v185 = .bool x185_48 ∧ Aside0 (laws_FnOccupancy.j5 kq l0 x185_48 = some r) ∧ Aside0 (kq ≤ kj37) ∧ Aside0 (Below w.heap.size w wc))
                        case first =>
                          have H := HC49.out
                          clear HC49
                          by_cases c54 : t561 = t563
                          · rw [if_pos c54] at H
                            have c54b0 : (t561 == t563) = true := beq_iff_eq.mpr c54
                            have c54b1 : (t561 != t563) = false := bne_eq_false_iff_eq.mpr c54
                            clear c54
                            (first | rw [c54b0] | (simp only [i64_w, i32_w]; rw [c54b0]) | skip)
                            have H' := Aside0.mk H
                            clear H
                            go_wp2
                            go_meet
                            case rel => exact ⟨_, ((t562 != t564)), (by first | rfl | (simp; done) | (simp [*]; done)), H', ⟨by have := HJ6.out; have := HJ14.out; have := HJ16.out; have := HJ37.out; first | omega | exact Nat.le_refl _⟩, ⟨by repeat (first | (with_reducible first | exact HB.out | apply below_alloc | apply pw_below_drewN | apply below_drew1) | exact HB.out)⟩⟩
                          · rw [if_neg c54] at H
                            have c54b0 : (t561 == t563) = false := beq_eq_false_iff_ne.mpr c54
                            have c54b1 : (t561 != t563) = true := bne_iff_ne.mpr c54
                            (first | rw [c54b0] | (simp only [i64_w, i32_w]; rw [c54b0]) | skip)
                            have H' := Aside0.mk H
                            clear H
                            go_wp2
                            go_meet
                            case rel => exact ⟨_, (true), (by first | rfl | (simp; done) | (simp [*]; done)), H', ⟨by have := HJ6.out; have := HJ14.out; have := HJ16.out; have := HJ37.out; first | omega | exact Nat.le_refl _⟩, ⟨by repeat (first | (with_reducible first | exact HB.out | apply below_alloc | apply pw_below_drewN | apply below_drew1) | exact HB.out)⟩⟩
                        case rest => as_aux_lemma =>
                          clear HC49
                          try clear c1
                          try clear c2
                          try clear p2
                          try clear c3
                          try clear c4
                          try clear c5
                          try clear p6
                          try clear c10
                          try clear c12
                          try clear c12b0
                          try clear c12b1
                          try clear c13
                          try clear c13b0
                          try clear c13b1
                          try clear c14
                          try clear c16
                          try clear c18
                          try clear c21
                          try clear c22
                          try clear c23
                          try clear c24
                          try clear c25
                          try clear c25b0
                          try clear c25b1
                          try clear c26
                          try clear c26b0
                          try clear c26b1
                          try clear c27
                          try clear c28
                          try clear c30
                          try clear c31
                          try clear c31b0
                          try clear c31b1
                          try clear c35
                          try clear c36
                          try clear c37
                          try clear c38
                          try clear c43
                          try clear c43b0
                          try clear c43b1
                          try clear c44
                          try clear c44b0
                          try clear c44b1
                          try clear c45
                          try clear c54
                          try clear c54b0
                          try clear c54b1
                          try clear p2
                          try clear p6
                          obtain ⟨kq, x185_48, rfl, HA, HJ48, HB⟩ := hcut
                          cases kq with
                          | zero => exact absurd HA.out (by simp [laws_FnOccupancy.j5])
                          | succ kj48 =>
                            have H := HA.out
                            clear HA
                            simp only [laws_FnOccupancy.j5] at H
                            by_cases c55 : x185_48 = true
                            · subst c55
                              have H1 : (some false) = some r := by rw [if_pos rfl] at H; exact H
                              clear H
                              have H := H1
                              clear H1
                              obtain rfl := Option.some.inj H
                              go_wp2
                              go_ret
                              exact ⟨by first | rfl | (simp [errW_none, errW_some] <;> rfl) | (simp [*, errW_none, errW_some] <;> rfl), by repeat (first | (with_reducible first | exact HB.out | apply below_alloc | apply pw_below_drewN | apply below_drew1) | exact HB.out)⟩
                            · replace c55 := Bool.eq_false_iff.mpr c55
                              subst c55
                              have H1 : ((spec_DrawCompareRates.f l0).bind fun bt565 => ((impl_CompareRates.f kj48 bt565.1 bt565.2.1 bt565.2.2.1 bt565.2.2.2).bind fun bt569 => ((spec_CompareRates.f kj48 bt565.1 bt565.2.1 bt565.2.2.1 bt565.2.2.2).bind fun bt571 => ((impl_CompareRates.f kj48 bt565.1 bt565.2.1 bt565.1 bt565.2.1).bind fun bt573 => (if bt569.1 = bt571.1 then (if (bt569.2 == bt571.2) = true then (if bt569.2 = true then (if bt573.2 = true then (some (bt573.1 == 0)) else (some false)) else (some true)) else (some false)) else (some false)))))) = some r := by rw [if_neg (show ¬ (false = true) by decide)] at H; exact H
                              clear H
                              have H := H1
                              clear H1
                              replace H := Option.bind_eq_some_iff.mp H
                              obtain ⟨⟨t565, t566, t567, t568⟩, A560, H⟩ := H
                              replace H : ((impl_CompareRates.f kj48 t565 t566 t567 t568).bind fun bt569 => ((spec_CompareRates.f kj48 t565 t566 t567 t568).bind fun bt571 => ((impl_CompareRates.f kj48 t565 t566 t565 t566).bind fun bt573 => (if bt569.1 = bt571.1 then (if (bt569.2 == bt571.2) = true then (if bt569.2 = true then (if bt573.2 = true then (some (bt573.1 == 0)) else (some false)) else (some true)) else (some false)) else (some false))))) = some r := H
                              have A56 := Aside0.mk A560
                              clear A560
                              replace H := Option.bind_eq_some_iff.mp H
                              obtain ⟨⟨t569, t570⟩, A570, H⟩ := H
                              replace H : ((spec_CompareRates.f kj48 t565 t566 t567 t568).bind fun bt571 => ((impl_CompareRates.f kj48 t565 t566 t565 t566).bind fun bt573 => (if t569 = bt571.1 then (if (t570 == bt571.2) = true then (if t570 = true then (if bt573.2 = true then (some (bt573.1 == 0)) else (some false)) else (some true)) else (some false)) else (some false)))) = some r := H
                              have A57 := Aside0.mk A570
                              clear A570
                              replace H := Option.bind_eq_some_iff.mp H
                              obtain ⟨⟨t571, t572⟩, A580, H⟩ := H
                              replace H : ((impl_CompareRates.f kj48 t565 t566 t565 t566).bind fun bt573 => (if t569 = t571 then (if (t570 == t572) = true then (if t570 = true then (if bt573.2 = true then (some (bt573.1 == 0)) else (some false)) else (some true)) else (some false)) else (some false))) = some r := H
                              have A58 := Aside0.mk A580
                              clear A580
                              replace H := Option.bind_eq_some_iff.mp H
                              obtain ⟨⟨t573, t574⟩, A590, H⟩ := H
                              replace H : (if t569 = t571 then (if (t570 == t572) = true then (if t570 = true then (if t574 = true then (some (t573 == 0)) else (some false)) else (some true)) else (some false)) else (some false)) = some r := H
                              have A59 := Aside0.mk A590
                              clear A590
                              by_cases c60 : t569 = t571
                              · rw [if_pos c60] at H
                                have c60b0 : (t569 == t571) = true := beq_iff_eq.mpr c60
                                have c60b1 : (t569 != t571) = false := bne_eq_false_iff_eq.mpr c60
                                clear c60
                                by_cases c61 : (t570 == t572) = true
                                · rw [if_pos c61] at H
                                  have c61b0 : (t570 == t572) = true := c61
                                  (try (have c61b1 : decide (t570 = t572) = true := by simpa using c61))
                                  (try (have c61b2 : (t570 == t572) = true := by simpa using c61))
                                  clear c61
                                  by_cases c62 : t570 = true
                                  · subst c62
                                    have H1 : (if t574 = true then (some (t573 == 0)) else (some false)) = some r := by rw [if_pos rfl] at H; exact H
                                    clear H
                                    have H := H1
                                    clear H1
                                    by_cases c63 : t574 = true
                                    · subst c63
                                      have H1 : (some (t573 == 0)) = some r := by rw [if_pos rfl] at H; exact H
                                      clear H
                                      have H := H1
                                      clear H1
                                      obtain rfl := Option.some.inj H
                                      go_wp2_with (first | ((with_reducible refine gate_callee (f := 39) rfl ?_); refine goesL_ (some 188) rfl rfl Try.func39 (by kernel_rfl) rfl #[.slice A0 l0.length c0] rfl (by (try simp only [List.map_toArray, List.map_cons, List.map_nil]); first | done | rfl | (simp only [List.length_drop, List.length_take]; rfl)) ?_; (with_reducible refine (spec_DrawCompareRates.calls _ _ l0 t565 t566 t567 t568 _ ?side1 ?side2 A56.out).mono ?_); (case side1 => repeat (first | exact (Kd.C_below HR0.out HB.out) | (with_reducible refine Kd.C_alloc ?_ _) | (with_reducible refine Kd.C_drewN ?_ _) | (with_reducible refine Kd.C_drew ?_))); (case side2 => exact HC0.out); rintro e w64 ⟨rfl, hb⟩; refine ⟨_, rfl, ?_⟩; have n0_ := Aside0.mk (below_step (by repeat (first | (with_reducible first | exact HB.out | apply below_alloc | apply pw_below_drewN | apply below_drew1) | exact HB.out)) hb); clear HB; have HB := n0_; clear n0_; (try clear hb); (try clear hb2); (try clear hk); (try clear hi)) | ((with_reducible refine gate_callee (f := 15) rfl ?_); refine goesL_ (some 198) rfl rfl Try.func15 (by kernel_rfl) rfl #[.int .i64 t565, .int .i64 t566, .int .i64 t567, .int .i64 t568] rfl (by (try simp only [List.map_toArray, List.map_cons, List.map_nil]); first | done | rfl | (simp only [List.length_drop, List.length_take]; rfl)) ?_; (with_reducible refine (impl_CompareRates.calls kj48 t565 t566 t567 t568 t569 true _ A57.out).mono ?_); rintro e w' ⟨rfl, ⟨nd, rfl⟩⟩; refine ⟨_, rfl, ?_⟩) | ((with_reducible refine gate_callee (f := 14) rfl ?_); refine goesL_ (some 206) rfl rfl Try.func14 (by kernel_rfl) rfl #[.int .i64 t565, .int .i64 t566, .int .i64 t567, .int .i64 t568] rfl (by (try simp only [List.map_toArray, List.map_cons, List.map_nil]); first | done | rfl | (simp only [List.length_drop, List.length_take]; rfl)) ?_; (with_reducible refine (spec_CompareRates.calls kj48 t565 t566 t567 t568 t571 t572 _ A58.out).mono ?_); rintro e w' ⟨rfl, ⟨nd, rfl⟩⟩; refine ⟨_, rfl, ?_⟩) | ((with_reducible refine gate_callee (f := 15) rfl ?_); refine goesL_ (some 214) rfl rfl Try.func15 (by kernel_rfl) rfl #[.int .i64 t565, .int .i64 t566, .int .i64 t565, .int .i64 t566] rfl (by (try simp only [List.map_toArray, List.map_cons, List.map_nil]); first | done | rfl | (simp only [List.length_drop, List.length_take]; rfl)) ?_; (with_reducible refine (impl_CompareRates.calls kj48 t565 t566 t565 t566 t573 true _ A59.out).mono ?_); rintro e w' ⟨rfl, ⟨nd, rfl⟩⟩; refine ⟨_, rfl, ?_⟩))
                                      go_ret
                                      exact ⟨by first | rfl | (simp [errW_none, errW_some] <;> rfl) | (simp [*, errW_none, errW_some] <;> rfl), by repeat (first | (with_reducible first | exact HB.out | apply below_alloc | apply pw_below_drewN | apply below_drew1) | exact HB.out)⟩
                                    · replace c63 := Bool.eq_false_iff.mpr c63
                                      subst c63
                                      have H1 : (some false) = some r := by rw [if_neg (show ¬ (false = true) by decide)] at H; exact H
                                      clear H
                                      have H := H1
                                      clear H1
                                      obtain rfl := Option.some.inj H
                                      go_wp2_with (first | ((with_reducible refine gate_callee (f := 39) rfl ?_); refine goesL_ (some 188) rfl rfl Try.func39 (by kernel_rfl) rfl #[.slice A0 l0.length c0] rfl (by (try simp only [List.map_toArray, List.map_cons, List.map_nil]); first | done | rfl | (simp only [List.length_drop, List.length_take]; rfl)) ?_; (with_reducible refine (spec_DrawCompareRates.calls _ _ l0 t565 t566 t567 t568 _ ?side1 ?side2 A56.out).mono ?_); (case side1 => repeat (first | exact (Kd.C_below HR0.out HB.out) | (with_reducible refine Kd.C_alloc ?_ _) | (with_reducible refine Kd.C_drewN ?_ _) | (with_reducible refine Kd.C_drew ?_))); (case side2 => exact HC0.out); rintro e w65 ⟨rfl, hb⟩; refine ⟨_, rfl, ?_⟩; have n0_ := Aside0.mk (below_step (by repeat (first | (with_reducible first | exact HB.out | apply below_alloc | apply pw_below_drewN | apply below_drew1) | exact HB.out)) hb); clear HB; have HB := n0_; clear n0_; (try clear hb); (try clear hb2); (try clear hk); (try clear hi)) | ((with_reducible refine gate_callee (f := 15) rfl ?_); refine goesL_ (some 198) rfl rfl Try.func15 (by kernel_rfl) rfl #[.int .i64 t565, .int .i64 t566, .int .i64 t567, .int .i64 t568] rfl (by (try simp only [List.map_toArray, List.map_cons, List.map_nil]); first | done | rfl | (simp only [List.length_drop, List.length_take]; rfl)) ?_; (with_reducible refine (impl_CompareRates.calls kj48 t565 t566 t567 t568 t569 true _ A57.out).mono ?_); rintro e w' ⟨rfl, ⟨nd, rfl⟩⟩; refine ⟨_, rfl, ?_⟩) | ((with_reducible refine gate_callee (f := 14) rfl ?_); refine goesL_ (some 206) rfl rfl Try.func14 (by kernel_rfl) rfl #[.int .i64 t565, .int .i64 t566, .int .i64 t567, .int .i64 t568] rfl (by (try simp only [List.map_toArray, List.map_cons, List.map_nil]); first | done | rfl | (simp only [List.length_drop, List.length_take]; rfl)) ?_; (with_reducible refine (spec_CompareRates.calls kj48 t565 t566 t567 t568 t571 t572 _ A58.out).mono ?_); rintro e w' ⟨rfl, ⟨nd, rfl⟩⟩; refine ⟨_, rfl, ?_⟩) | ((with_reducible refine gate_callee (f := 15) rfl ?_); refine goesL_ (some 214) rfl rfl Try.func15 (by kernel_rfl) rfl #[.int .i64 t565, .int .i64 t566, .int .i64 t565, .int .i64 t566] rfl (by (try simp only [List.map_toArray, List.map_cons, List.map_nil]); first | done | rfl | (simp only [List.length_drop, List.length_take]; rfl)) ?_; (with_reducible refine (impl_CompareRates.calls kj48 t565 t566 t565 t566 t573 false _ A59.out).mono ?_); rintro e w' ⟨rfl, ⟨nd, rfl⟩⟩; refine ⟨_, rfl, ?_⟩))
                                      go_ret
                                      exact ⟨by first | rfl | (simp [errW_none, errW_some] <;> rfl) | (simp [*, errW_none, errW_some] <;> rfl), by repeat (first | (with_reducible first | exact HB.out | apply below_alloc | apply pw_below_drewN | apply below_drew1) | exact HB.out)⟩
                                  · replace c62 := Bool.eq_false_iff.mpr c62
                                    subst c62
                                    have H1 : (some true) = some r := by rw [if_neg (show ¬ (false = true) by decide)] at H; exact H
                                    clear H
                                    have H := H1
                                    clear H1
                                    obtain rfl := Option.some.inj H
                                    go_wp2_with (first | ((with_reducible refine gate_callee (f := 39) rfl ?_); refine goesL_ (some 188) rfl rfl Try.func39 (by kernel_rfl) rfl #[.slice A0 l0.length c0] rfl (by (try simp only [List.map_toArray, List.map_cons, List.map_nil]); first | done | rfl | (simp only [List.length_drop, List.length_take]; rfl)) ?_; (with_reducible refine (spec_DrawCompareRates.calls _ _ l0 t565 t566 t567 t568 _ ?side1 ?side2 A56.out).mono ?_); (case side1 => repeat (first | exact (Kd.C_below HR0.out HB.out) | (with_reducible refine Kd.C_alloc ?_ _) | (with_reducible refine Kd.C_drewN ?_ _) | (with_reducible refine Kd.C_drew ?_))); (case side2 => exact HC0.out); rintro e w66 ⟨rfl, hb⟩; refine ⟨_, rfl, ?_⟩; have n0_ := Aside0.mk (below_step (by repeat (first | (with_reducible first | exact HB.out | apply below_alloc | apply pw_below_drewN | apply below_drew1) | exact HB.out)) hb); clear HB; have HB := n0_; clear n0_; (try clear hb); (try clear hb2); (try clear hk); (try clear hi)) | ((with_reducible refine gate_callee (f := 15) rfl ?_); refine goesL_ (some 198) rfl rfl Try.func15 (by kernel_rfl) rfl #[.int .i64 t565, .int .i64 t566, .int .i64 t567, .int .i64 t568] rfl (by (try simp only [List.map_toArray, List.map_cons, List.map_nil]); first | done | rfl | (simp only [List.length_drop, List.length_take]; rfl)) ?_; (with_reducible refine (impl_CompareRates.calls kj48 t565 t566 t567 t568 t569 false _ A57.out).mono ?_); rintro e w' ⟨rfl, ⟨nd, rfl⟩⟩; refine ⟨_, rfl, ?_⟩) | ((with_reducible refine gate_callee (f := 14) rfl ?_); refine goesL_ (some 206) rfl rfl Try.func14 (by kernel_rfl) rfl #[.int .i64 t565, .int .i64 t566, .int .i64 t567, .int .i64 t568] rfl (by (try simp only [List.map_toArray, List.map_cons, List.map_nil]); first | done | rfl | (simp only [List.length_drop, List.length_take]; rfl)) ?_; (with_reducible refine (spec_CompareRates.calls kj48 t565 t566 t567 t568 t571 t572 _ A58.out).mono ?_); rintro e w' ⟨rfl, ⟨nd, rfl⟩⟩; refine ⟨_, rfl, ?_⟩) | ((with_reducible refine gate_callee (f := 15) rfl ?_); refine goesL_ (some 214) rfl rfl Try.func15 (by kernel_rfl) rfl #[.int .i64 t565, .int .i64 t566, .int .i64 t565, .int .i64 t566] rfl (by (try simp only [List.map_toArray, List.map_cons, List.map_nil]); first | done | rfl | (simp only [List.length_drop, List.length_take]; rfl)) ?_; (with_reducible refine (impl_CompareRates.calls kj48 t565 t566 t565 t566 t573 t574 _ A59.out).mono ?_); rintro e w' ⟨rfl, ⟨nd, rfl⟩⟩; refine ⟨_, rfl, ?_⟩))
                                    go_ret
                                    exact ⟨by first | rfl | (simp [errW_none, errW_some] <;> rfl) | (simp [*, errW_none, errW_some] <;> rfl), by repeat (first | (with_reducible first | exact HB.out | apply below_alloc | apply pw_below_drewN | apply below_drew1) | exact HB.out)⟩
                                · rw [if_neg c61] at H
                                  have c61b0 : (t570 == t572) = false := by simpa using c61
                                  (try (have c61b1 : decide (t570 = t572) = false := by simpa using c61))
                                  (try (have c61b2 : (t570 == t572) = false := by simpa using c61))
                                  (try (have c61b3 : ¬ (t570 = t572) := by simpa using c61))
                                  clear c61
                                  obtain rfl := Option.some.inj H
                                  go_wp2_with (first | ((with_reducible refine gate_callee (f := 39) rfl ?_); refine goesL_ (some 188) rfl rfl Try.func39 (by kernel_rfl) rfl #[.slice A0 l0.length c0] rfl (by (try simp only [List.map_toArray, List.map_cons, List.map_nil]); first | done | rfl | (simp only [List.length_drop, List.length_take]; rfl)) ?_; (with_reducible refine (spec_DrawCompareRates.calls _ _ l0 t565 t566 t567 t568 _ ?side1 ?side2 A56.out).mono ?_); (case side1 => repeat (first | exact (Kd.C_below HR0.out HB.out) | (with_reducible refine Kd.C_alloc ?_ _) | (with_reducible refine Kd.C_drewN ?_ _) | (with_reducible refine Kd.C_drew ?_))); (case side2 => exact HC0.out); rintro e w67 ⟨rfl, hb⟩; refine ⟨_, rfl, ?_⟩; have n0_ := Aside0.mk (below_step (by repeat (first | (with_reducible first | exact HB.out | apply below_alloc | apply pw_below_drewN | apply below_drew1) | exact HB.out)) hb); clear HB; have HB := n0_; clear n0_; (try clear hb); (try clear hb2); (try clear hk); (try clear hi)) | ((with_reducible refine gate_callee (f := 15) rfl ?_); refine goesL_ (some 198) rfl rfl Try.func15 (by kernel_rfl) rfl #[.int .i64 t565, .int .i64 t566, .int .i64 t567, .int .i64 t568] rfl (by (try simp only [List.map_toArray, List.map_cons, List.map_nil]); first | done | rfl | (simp only [List.length_drop, List.length_take]; rfl)) ?_; (with_reducible refine (impl_CompareRates.calls kj48 t565 t566 t567 t568 t569 t570 _ A57.out).mono ?_); rintro e w' ⟨rfl, ⟨nd, rfl⟩⟩; refine ⟨_, rfl, ?_⟩) | ((with_reducible refine gate_callee (f := 14) rfl ?_); refine goesL_ (some 206) rfl rfl Try.func14 (by kernel_rfl) rfl #[.int .i64 t565, .int .i64 t566, .int .i64 t567, .int .i64 t568] rfl (by (try simp only [List.map_toArray, List.map_cons, List.map_nil]); first | done | rfl | (simp only [List.length_drop, List.length_take]; rfl)) ?_; (with_reducible refine (spec_CompareRates.calls kj48 t565 t566 t567 t568 t571 t572 _ A58.out).mono ?_); rintro e w' ⟨rfl, ⟨nd, rfl⟩⟩; refine ⟨_, rfl, ?_⟩) | ((with_reducible refine gate_callee (f := 15) rfl ?_); refine goesL_ (some 214) rfl rfl Try.func15 (by kernel_rfl) rfl #[.int .i64 t565, .int .i64 t566, .int .i64 t565, .int .i64 t566] rfl (by (try simp only [List.map_toArray, List.map_cons, List.map_nil]); first | done | rfl | (simp only [List.length_drop, List.length_take]; rfl)) ?_; (with_reducible refine (impl_CompareRates.calls kj48 t565 t566 t565 t566 t573 t574 _ A59.out).mono ?_); rintro e w' ⟨rfl, ⟨nd, rfl⟩⟩; refine ⟨_, rfl, ?_⟩))
                                  go_ret
                                  exact ⟨by first | rfl | (simp [errW_none, errW_some] <;> rfl) | (simp [*, errW_none, errW_some] <;> rfl), by repeat (first | (with_reducible first | exact HB.out | apply below_alloc | apply pw_below_drewN | apply below_drew1) | exact HB.out)⟩
                              · rw [if_neg c60] at H
                                have c60b0 : (t569 == t571) = false := beq_eq_false_iff_ne.mpr c60
                                have c60b1 : (t569 != t571) = true := bne_iff_ne.mpr c60
                                obtain rfl := Option.some.inj H
                                go_wp2_with (first | ((with_reducible refine gate_callee (f := 39) rfl ?_); refine goesL_ (some 188) rfl rfl Try.func39 (by kernel_rfl) rfl #[.slice A0 l0.length c0] rfl (by (try simp only [List.map_toArray, List.map_cons, List.map_nil]); first | done | rfl | (simp only [List.length_drop, List.length_take]; rfl)) ?_; (with_reducible refine (spec_DrawCompareRates.calls _ _ l0 t565 t566 t567 t568 _ ?side1 ?side2 A56.out).mono ?_); (case side1 => repeat (first | exact (Kd.C_below HR0.out HB.out) | (with_reducible refine Kd.C_alloc ?_ _) | (with_reducible refine Kd.C_drewN ?_ _) | (with_reducible refine Kd.C_drew ?_))); (case side2 => exact HC0.out); rintro e w68 ⟨rfl, hb⟩; refine ⟨_, rfl, ?_⟩; have n0_ := Aside0.mk (below_step (by repeat (first | (with_reducible first | exact HB.out | apply below_alloc | apply pw_below_drewN | apply below_drew1) | exact HB.out)) hb); clear HB; have HB := n0_; clear n0_; (try clear hb); (try clear hb2); (try clear hk); (try clear hi)) | ((with_reducible refine gate_callee (f := 15) rfl ?_); refine goesL_ (some 198) rfl rfl Try.func15 (by kernel_rfl) rfl #[.int .i64 t565, .int .i64 t566, .int .i64 t567, .int .i64 t568] rfl (by (try simp only [List.map_toArray, List.map_cons, List.map_nil]); first | done | rfl | (simp only [List.length_drop, List.length_take]; rfl)) ?_; (with_reducible refine (impl_CompareRates.calls kj48 t565 t566 t567 t568 t569 t570 _ A57.out).mono ?_); rintro e w' ⟨rfl, ⟨nd, rfl⟩⟩; refine ⟨_, rfl, ?_⟩) | ((with_reducible refine gate_callee (f := 14) rfl ?_); refine goesL_ (some 206) rfl rfl Try.func14 (by kernel_rfl) rfl #[.int .i64 t565, .int .i64 t566, .int .i64 t567, .int .i64 t568] rfl (by (try simp only [List.map_toArray, List.map_cons, List.map_nil]); first | done | rfl | (simp only [List.length_drop, List.length_take]; rfl)) ?_; (with_reducible refine (spec_CompareRates.calls kj48 t565 t566 t567 t568 t571 t572 _ A58.out).mono ?_); rintro e w' ⟨rfl, ⟨nd, rfl⟩⟩; refine ⟨_, rfl, ?_⟩) | ((with_reducible refine gate_callee (f := 15) rfl ?_); refine goesL_ (some 214) rfl rfl Try.func15 (by kernel_rfl) rfl #[.int .i64 t565, .int .i64 t566, .int .i64 t565, .int .i64 t566] rfl (by (try simp only [List.map_toArray, List.map_cons, List.map_nil]); first | done | rfl | (simp only [List.length_drop, List.length_take]; rfl)) ?_; (with_reducible refine (impl_CompareRates.calls kj48 t565 t566 t565 t566 t573 t574 _ A59.out).mono ?_); rintro e w' ⟨rfl, ⟨nd, rfl⟩⟩; refine ⟨_, rfl, ?_⟩))
                                go_ret
                                exact ⟨by first | rfl | (simp [errW_none, errW_some] <;> rfl) | (simp [*, errW_none, errW_some] <;> rfl), by repeat (first | (with_reducible first | exact HB.out | apply below_alloc | apply pw_below_drewN | apply below_drew1) | exact HB.out)⟩

end Go.Proofs.Ytolaplcjbmjlmaa.X

namespace Go.Proofs.YtolaplcjbmjlmaaZ
open Go.ChangeShapes Go.WideShapes Go.ChangeAt Go.RowKit
open Go.Proofs.YtolaplcjbmjlmaaW.PrintWords
set_option linter.unusedVariables false
set_option linter.unusedSimpArgs false
section
variable {P : Program}

/-- A reading of type t is a value of kind d, and the value fits. -/
def Opens (P : Program) {α : Type} (d : Kd α) (t : TypeId) (fits : α → Prop) : Prop :=
  ∀ {H : Type} {enc : TypeId × Value → H} {w : World} {base : Nat} {spare : Nat → Bool} {held : Bool} {fuel : Nat} {cs : List Value} {x : DataW H × List MemPlace},
    DataW.trod enc P w base spare held fuel t cs = some x → (∀ n ∈ x.1.weights P t, n ≤ reachBytes) → ∃ v, d.K w v cs ∧ fits v

theorem opens_int {k : IntKind} {t : TypeId} (ht : P.underlying t = some (.int k)) : Opens P (Kd.int k) t (fun n => (Lit.int k n).wf = true) := by
  intro H enc w base spare held fuel cs x h _
  obtain ⟨n, rfl, _, hw⟩ := DataW.trod_int ht h
  exact ⟨n, rfl, hw⟩
theorem weightsAll_mem {H : Type} {e : TypeId} {d : DataW H} {n : Nat} : ∀ {l : List (DataW H)}, d ∈ l → n ∈ d.weights P e → n ∈ DataW.weightsAll P e l
  | [], h, _ => by cases h
  | x :: r, h, hn => by
    simp only [DataW.weightsAll, List.mem_append]
    rcases List.mem_cons.1 h with rfl | h
    · exact .inl hn
    · exact .inr (weightsAll_mem h hn)
theorem weightsEach_mem {H : Type} {n : Nat} : ∀ {ts : List TypeId} {l : List (DataW H)} {i : Nat} {t : TypeId} {d : DataW H}, ts[i]? = some t → l[i]? = some d → n ∈ d.weights P t → n ∈ DataW.weightsEach P ts l
  | [], l, i, t, d, h, _, _ => by simp at h
  | t :: ts, [], i, _, _, _, h, _ => by simp at h
  | t :: ts, d :: l, 0, _, _, h, k, hn => by
    simp at h k; subst h k
    simp only [DataW.weightsEach, List.mem_append]; exact .inl hn
  | t :: ts, d :: l, i + 1, _, _, h, k, hn => by
    simp at h k
    simp only [DataW.weightsEach, List.mem_append]; exact .inr (weightsEach_mem h k hn)
theorem opens_slice {α : Type} (z : α) {d : Kd α} {t e : TypeId} {fits : α → Prop} (ht : P.underlying t = some (.slice e)) (hsz : P.cellsOf e = d.sz) (he : Opens P d e fits) {B : Nat} (hB : P.bytesOf e = B) :
    Opens P (Kd.slice e d) t (fun l => l.length * B ≤ 140737488351232 ∧ l.length ≤ 9223372036854775807 ∧ ∀ x ∈ l, fits x) := by
  intro H enc w base spare held fuel cs x h hw
  rcases Deep.open_slice ht h with ⟨rfl, rfl⟩ | ⟨a, len, cap, m, n, D, Pl, rfl, hb, hl, hm, hmm, rfl, hc⟩
  · exact ⟨[], ⟨none, 0, rfl, Nat.le_refl _, Kd.C_nil d w⟩, by simp, by simp, fun x hx => by cases hx⟩
  · have hlm : len ≤ m := by rw [hmm]; split <;> omega
    have hbnd : len * B ≤ 140737488351232 := by
      have := hw ((((List.range len).map D).length + ((List.range (m - len)).map fun j => D (len + j)).length) * P.bytesOf e) (by simp [DataW.weights, ht])
      simp only [List.length_map, List.length_range, hB] at this
      have h2 : len * B ≤ (len + (m - len)) * B := Nat.mul_le_mul_right _ (by omega)
      exact Nat.le_trans h2 this
    have hel : ∀ i, i < len → ∃ v : α, (∃ c, c.length = d.sz ∧ d.K w v c ∧ ∀ j u, c[j]? = some u → w.cell? (a.add (i * d.sz + j)) = some u) ∧ fits v := by
      intro i hi
      obtain ⟨c, h1, h2⟩ := hc i (by omega)
      obtain ⟨v, hv, hf⟩ := he h2 (fun k hk => hw k (by
        simp only [DataW.weights, ht, List.mem_cons, List.mem_append]
        exact .inr (.inl (weightsAll_mem (d := D i) (List.mem_map.2 ⟨i, List.mem_range.2 hi, rfl⟩) hk))))
      rw [hsz] at h1
      obtain ⟨_, hlen, hcell⟩ := World.cells?_some h1
      refine ⟨v, ⟨c, hlen, hv, fun j u hj => ?_⟩, hf⟩
      have hjl : j < d.sz := by rw [← hlen]; exact (List.getElem?_eq_some_iff.1 hj).1
      rw [← Deep.add_add, hcell j hjl]
      exact hj
    haveI : Inhabited α := ⟨z⟩
    obtain ⟨f, hf⟩ := Deep.choose_lt hel
    refine ⟨(List.range len).map f, ⟨some a, cap, by simp, by simpa using hl, ⟨by simp, ?_, fun _ => ⟨a, rfl, ?_⟩⟩⟩, by simpa using hbnd, by simp; unfold maxLen at hm; omega, ?_⟩
    · simp; unfold maxLen at hm; omega
    · intro j p hj
      have hjl : j < len := by
        have := (List.getElem?_eq_some_iff.1 hj).1
        simpa using this
      rw [List.getElem?_map, List.getElem?_range hjl] at hj
      simp only [Option.map_some, Option.some.injEq] at hj
      subst hj
      exact (hf j hjl).1
    · intro x hx
      obtain ⟨j, hj, rfl⟩ := List.mem_map.1 hx
      exact (hf j (List.mem_range.1 hj)).2

/-- A parameter's weights are among all. -/
theorem weights_param {H : Type} {ts : List TypeId} {ds : List (DataW H)} {j : Nat} {t : TypeId} {d : DataW H} (hsz : (DataW.weightsEach P ts ds).all (· ≤ reachBytes) = true) (ht : ts[j]? = some t) (hd : ds[j]? = some d) : ∀ n ∈ d.weights P t, n ≤ reachBytes := fun n hn => by
  have := List.all_eq_true.1 hsz n (weightsEach_mem ht hd hn)
  simpa using this
end
end Go.Proofs.YtolaplcjbmjlmaaZ


-- written by a program of this session (wip/ext.py): what the law says, without Go and memory.
namespace Go.Proofs.Ytolaplcjbmjlmaa.X
open Go.RowKit Go.Proofs.YtolaplcjbmjlmaaW.PrintWords Go.Proofs.YtolaplcjbmjlmaaW.PrintLast Go.Proofs.YtolaplcjbmjlmaaW.PrintMore
open Go.Proofs.YtolaplcjbmjlmaaZ
namespace OFnOccupancy
def Pure : Prop := ∀ (l0 : List Int), (l0.length * 1 ≤ 140737488351232 ∧ l0.length ≤ 9223372036854775807 ∧ ∀ y2 ∈ l0, (Lit.int .u8 y2).wf = true) → ∃ k, laws_FnOccupancy.f k l0 = some true
end OFnOccupancy
end Go.Proofs.Ytolaplcjbmjlmaa.X

namespace Go.Proofs.YtolaplcjbmjlmaaL
open Go.RowKit Go.Proofs.YtolaplcjbmjlmaaW.PrintWords
set_option linter.unusedVariables false
set_option linter.unusedSimpArgs false

theorem ev_eq {α : Type} {g : Nat → Option α} {r : α} (h : ∀ k, g k = some r) : Ev g r := ⟨0, fun k _ => h k⟩
theorem ev_rounds {α : Type} {g : Nat → Option α} {r : α} (h : Ev g r) : ∃ k, g k = some r := h.rounds
theorem wrap_id {x : Int} (h0 : -9223372036854775808 ≤ x) (h1 : x ≤ 9223372036854775807) : wrap64 x = x := by unfold wrap64; omega
theorem wrap_succ {n : Nat} (h : n < 9223372036854775807) : wrap64 ((n : Int) + 1) = ((n + 1 : Nat) : Int) := by rw [wrap_id (by omega) (by omega)]; rfl
theorem wrap_nat (n : Nat) (h : n ≤ 9223372036854775807) : wrap64 (n : Int) = (n : Int) := wrap_id (by omega) (by omega)
theorem rd_at (l : List Int) (n : Nat) (h : n < l.length) : rd l (n : Int) = l[n] := by simp [rd, List.getD_eq_getElem?_getD, List.getElem?_eq_getElem h]
/-- A loop over i, i + 1, .., d times. -/
def loopN {σ : Type} (step : Int → σ → σ) : Nat → Int → σ → σ
  | 0, _, s => s
  | d + 1, i, s => loopN step d (i + 1) (step i s)
end Go.Proofs.YtolaplcjbmjlmaaL


-- written by a program of this session (wip/ext.py) out of the translation. Not trusted: Lean checks it.
namespace Go.Proofs.Ytolaplcjbmjlmaa.X
open Go.RowKit Go.Proofs.YtolaplcjbmjlmaaW.PrintWords Go.Proofs.YtolaplcjbmjlmaaW.PrintLast Go.Proofs.YtolaplcjbmjlmaaW.PrintMore
attribute [local go_sem] max2_int min2_int max_two min_two max_three min_three max_four min_four   -- for this text's walks alone
set_option linter.unusedVariables false
set_option linter.unusedSimpArgs false

/-! ### laws_szStayS: function 16 -/
def laws_szStayS.f (l0 : List (S62)) (a1 : Int) : Option (Int) := if (wrap64 (a1 - (l0.length : Int))) < 0 then (some (-1)) else (some (wrap64 (a1 - (l0.length : Int))))
set_option maxHeartbeats 8000000 in
set_option maxRecDepth 100000 in
theorem laws_szStayS.calls (A0 : Option Addr) (c0 : Nat) (l0 : List (S62)) (a1 : Int) (r : Int) (w : World) (hr0 : Kd.C k62 w A0 l0.length l0) (hc0 : l0.length ≤ c0) (h : laws_szStayS.f l0 a1 = some r) :
    Calls Try.prog 16 #[.slice A0 l0.length c0, .int .i64 a1] w fun e w' => e = .returned (.int .i64 r) ∧ Drawn0 w w' := by
  have HR0 := Aside0.mk hr0
  have HC0 := Aside0.mk hc0
  clear hr0 hc0
  have H : (if (wrap64 (a1 - (l0.length : Int))) < 0 then (some (-1)) else (some (wrap64 (a1 - (l0.length : Int))))) = some r := h
  clear h
  by_cases c3 : (wrap64 (a1 - (l0.length : Int))) < 0
  · rw [if_pos c3] at H
    have c3b0 : decide ((wrap64 (a1 - (l0.length : Int))) < 0) = true := decide_eq_true c3
    clear c3
    obtain rfl := Option.some.inj H
    go_enter Try.func16, Try.ntmps16
    go_wp2
    go_ret
    exact ⟨by first | rfl | (simp; done) | (simp [*]; done), by repeat (first | exact Drawn0.refl _ | apply Drawn0.step)⟩
  · rw [if_neg c3] at H
    have c3b0 : decide ((wrap64 (a1 - (l0.length : Int))) < 0) = false := decide_eq_false c3
    clear c3
    obtain rfl := Option.some.inj H
    go_enter Try.func16, Try.ntmps16
    go_wp2
    go_ret
    exact ⟨by first | rfl | (simp; done) | (simp [*]; done), by repeat (first | exact Drawn0.refl _ | apply Drawn0.step)⟩

end Go.Proofs.Ytolaplcjbmjlmaa.X

-- written by a program of this session (wip/ext.py) out of the translation. Not trusted: Lean checks it.
namespace Go.Proofs.Ytolaplcjbmjlmaa.X
open Go.RowKit Go.Proofs.YtolaplcjbmjlmaaW.PrintWords Go.Proofs.YtolaplcjbmjlmaaW.PrintLast Go.Proofs.YtolaplcjbmjlmaaW.PrintMore
attribute [local go_sem] max2_int min2_int max_two min_two max_three min_three max_four min_four   -- for this text's walks alone
set_option linter.unusedVariables false
set_option linter.unusedSimpArgs false

/-! ### spec_IsValidStays: function 17 -/
def spec_IsValidStays.f (k : Nat) (l0 : List (S59)) : Option (Bool) := (spec_l25Good.f k l0).bind fun t120 => (some t120)
theorem spec_IsValidStays.mono : ∀ a0 k, LeO (spec_IsValidStays.f k a0) (spec_IsValidStays.f (k + 1) a0) := by
  intro a0 k
  unfold spec_IsValidStays.f
  repeat' first
      | (with_reducible exact spec_l25Good.mono _ _)
      | (with_reducible exact LeO.refl _)
      | (with_reducible exact LeO.none _)
      | (with_reducible refine LeO.ite ?_ ?_)
      | (with_reducible refine LeO.bind ?_ (fun _ => ?_))
      | exact spec_l25Good.mono _ _
      | exact LeO.none _
      | refine LeO.ite ?_ ?_
      | refine LeO.bind ?_ (fun _ => ?_)
set_option maxHeartbeats 8000000 in
set_option maxRecDepth 100000 in
theorem spec_IsValidStays.calls (k : Nat) (A0 : Option Addr) (c0 : Nat) (l0 : List (S59)) (r : Bool) (w : World) (hr0 : Kd.C k59 w A0 l0.length l0) (hc0 : l0.length ≤ c0) (h : spec_IsValidStays.f k l0 = some r) :
    Calls Try.prog 17 #[.slice A0 l0.length c0] w fun e w' => e = .returned (.bool r) ∧ Below w.heap.size w w' := by
  have HR0 := Aside0.mk hr0
  have HC0 := Aside0.mk hc0
  clear hr0 hc0
  have HB := Aside0.mk (Below.refl w.heap.size w)
  have H : ((spec_l25Good.f k l0).bind fun t120 => (some t120)) = some r := h
  clear h
  replace H := Option.bind_eq_some_iff.mp H
  obtain ⟨t120, A20, H⟩ := H
  replace H : (some t120) = some r := H
  have A2 := Aside0.mk A20
  clear A20
  obtain rfl := Option.some.inj H
  go_enter Try.func17, Try.ntmps17
  go_wp2_with (first | ((with_reducible refine gate_callee (f := 54) rfl ?_); refine goesL_ (some 4) rfl rfl Try.func54 (by kernel_rfl) rfl #[.slice A0 l0.length c0] rfl (by (try simp only [List.map_toArray, List.map_cons, List.map_nil]); first | done | rfl | (simp only [List.length_drop, List.length_take]; rfl)) ?_; (with_reducible refine (spec_l25Good.calls k _ _ l0 t120 _ ?side1 ?side2 A2.out).mono ?_); (case side1 => repeat (first | exact HR0.out | (with_reducible refine Kd.C_alloc ?_ _) | (with_reducible refine Kd.C_drewN ?_ _) | (with_reducible refine Kd.C_drew ?_))); (case side2 => exact HC0.out); rintro e w3 ⟨rfl, hb⟩; refine ⟨_, rfl, ?_⟩; have n0_ := Aside0.mk (below_step (by repeat (first | (with_reducible first | exact HB.out | apply below_alloc | apply pw_below_drewN | apply below_drew1) | exact HB.out)) hb); clear HB; have HB := n0_; clear n0_; (try clear hb); (try clear hb2); (try clear hk); (try clear hi)))
  go_ret
  exact ⟨by first | rfl | (simp [errW_none, errW_some] <;> rfl) | (simp [*, errW_none, errW_some] <;> rfl), by repeat (first | (with_reducible first | exact HB.out | apply below_alloc | apply pw_below_drewN | apply below_drew1) | exact HB.out)⟩

end Go.Proofs.Ytolaplcjbmjlmaa.X

-- written by a program of this session (wip/ext.py) out of the translation. Not trusted: Lean checks it.
namespace Go.Proofs.Ytolaplcjbmjlmaa.X
open Go.RowKit Go.Proofs.YtolaplcjbmjlmaaW.PrintWords Go.Proofs.YtolaplcjbmjlmaaW.PrintLast Go.Proofs.YtolaplcjbmjlmaaW.PrintMore
attribute [local go_sem] max2_int min2_int max_two min_two max_three min_three max_four min_four   -- for this text's walks alone
set_option linter.unusedVariables false
set_option linter.unusedSimpArgs false

/-! ### laws_toStay: function 55 -/
def laws_toStay.f (a0_0 : Int) (a0_1 : Int) (a0_2 : Int) : Option (Int × Int × Int) := some (a0_0, a0_1, a0_2)
set_option maxHeartbeats 8000000 in
set_option maxRecDepth 100000 in
theorem laws_toStay.calls (a0_0 : Int) (a0_1 : Int) (a0_2 : Int) (r1 : Int) (r2 : Int) (r3 : Int) (w : World) (h : laws_toStay.f a0_0 a0_1 a0_2 = some (r1, r2, r3)) :
    Calls Try.prog 55 #[.agg #[.int .i64 a0_0, .int .i64 a0_1, .int .i64 a0_2]] w fun e w' => e = .returned (.agg #[.int .i64 r1, .int .i64 r2, .int .i64 r3]) ∧ Below w.heap.size w w' := by
  have hu62 := Try.underlying62
  have hu59 := Try.underlying59
  have HB := Aside0.mk (Below.refl w.heap.size w)
  have H : (some (a0_0, a0_1, a0_2)) = some (r1, r2, r3) := h
  clear h
  simp only [Option.some.injEq, Prod.mk.injEq] at H
  obtain ⟨rfl, rfl, rfl⟩ := H
  go_enter Try.func55, Try.ntmps55
  go_wp2_with (first | ((with_reducible refine gate_dst (N := 1) rfl ?_); refine box_event ?hg (N := 1) ?hd (cs := #[.int .i64 a0_0, .int .i64 a0_1, .int .i64 a0_2]) (t := 62) ?hr ?_; (case hd => rfl); (case hg => rfl); (case hr => first | (go_simp; done) | (go_simp; rfl)); intro gb121 hg w2 hbox hb; have n0_ := Aside0.mk (below_step (by repeat (first | (with_reducible first | exact HB.out | apply below_alloc | apply pw_below_drewN | apply below_drew1) | exact HB.out)) hb); have n1_ := Aside0.mk (hbox); have n2_ := Aside0.mk ((by rw [hg]; exact (below_size (by repeat (first | (with_reducible first | exact HB.out | apply below_alloc | apply pw_below_drewN | apply below_drew1) | exact HB.out))) : w.heap.size ≤ gb121)); have n3_ := Aside0.mk ((by rw [hg]; exact (below_size (by repeat (first | (with_reducible first | exact HB.out | apply below_alloc | apply pw_below_drewN | apply below_drew1) | exact HB.out))) : w.heap.size ≤ gb121)); clear HB; have HB := n0_; have BK121 := n1_; have GW121 := n2_; have GE121 := n3_; clear n0_ n1_ n2_ n3_; clear hb hbox hg) | ((with_reducible refine gate_dst (N := 2) rfl ?_); refine box_event ?hg (N := 2) ?hd (cs := #[.int .i64 0, .int .i64 0, .int .i64 0]) (t := 59) ?hr ?_; (case hd => rfl); (case hg => rfl); (case hr => first | (go_simp; done) | (go_simp; rfl)); intro gb122 hg w3 hbox hb; have n0_ := Aside0.mk (blk_below (g := gb121) (o := .cells #[.int .i64 a0_0, .int .i64 a0_1, .int .i64 a0_2] 62 (0, 0)) (by (with_reducible repeat (first | refine blk_drewN ?_ _ | refine blk_drew ?_ | refine blk_alloc ?_ _)); exact BK121.out) hb); have n1_ := Aside0.mk (below_step (by repeat (first | (with_reducible first | exact HB.out | apply below_alloc | apply pw_below_drewN | apply below_drew1 | refine below_set ?_ GE121.out) | exact HB.out)) hb); have n2_ := Aside0.mk (hbox); have n3_ := Aside0.mk ((by rw [hg]; exact (below_size (by repeat (first | (with_reducible first | exact HB.out | apply below_alloc | apply pw_below_drewN | apply below_drew1 | refine below_set ?_ GE121.out) | exact HB.out))) : w.heap.size ≤ gb122)); have n4_ := Aside0.mk ((by rw [hg]; exact (below_size (by repeat (first | (with_reducible first | exact HB.out | apply below_alloc | apply pw_below_drewN | apply below_drew1 | refine below_set ?_ GE121.out) | exact HB.out))) : w.heap.size ≤ gb122)); have n5_ := Aside0.mk ((by rw [hg]; exact Nat.ne_of_lt (blk_lt (g := gb121) (o := .cells #[.int .i64 a0_0, .int .i64 a0_1, .int .i64 a0_2] 62 (0, 0)) (by (with_reducible repeat (first | refine blk_drewN ?_ _ | refine blk_drew ?_ | refine blk_alloc ?_ _)); exact BK121.out)) : gb121 ≠ gb122)); have n6_ := Aside0.mk ((by rw [hg]; exact Nat.ne_of_gt (blk_lt (g := gb121) (o := .cells #[.int .i64 a0_0, .int .i64 a0_1, .int .i64 a0_2] 62 (0, 0)) (by (with_reducible repeat (first | refine blk_drewN ?_ _ | refine blk_drew ?_ | refine blk_alloc ?_ _)); exact BK121.out)) : gb122 ≠ gb121)); clear BK121; clear HB; have BK121 := n0_; have HB := n1_; have BK122 := n2_; have GW122 := n3_; have GE122 := n4_; have NB121_122 := n5_; have NB122_121 := n6_; clear n0_ n1_ n2_ n3_ n4_ n5_ n6_; clear hb hbox hg) | ((with_reducible refine gate_dst (N := 3) rfl ?_); refine box_event ?hg (N := 3) ?hd (cs := #[.int .i64 0, .int .i64 0, .int .i64 0]) (t := 59) ?hr ?_; (case hd => rfl); (case hg => rfl); (case hr => first | (go_simp; done) | (go_simp; rfl)); intro gb123 hg w4 hbox hb; have n0_ := Aside0.mk (blk_below (g := gb121) (o := .cells #[.int .i64 a0_0, .int .i64 a0_1, .int .i64 a0_2] 62 (0, 0)) (by (with_reducible repeat (first | refine blk_drewN ?_ _ | refine blk_drew ?_ | refine blk_alloc ?_ _)); exact BK121.out) hb); have n1_ := Aside0.mk (blk_below (g := gb122) (o := .cells #[.int .i64 0, .int .i64 0, .int .i64 0] 59 (0, 0)) (by (with_reducible repeat (first | refine blk_drewN ?_ _ | refine blk_drew ?_ | refine blk_alloc ?_ _)); exact BK122.out) hb); have n2_ := Aside0.mk (below_step (by repeat (first | (with_reducible first | exact HB.out | apply below_alloc | apply pw_below_drewN | apply below_drew1 | refine below_set ?_ GE121.out | refine below_set ?_ GE122.out) | exact HB.out)) hb); have n3_ := Aside0.mk (hbox); have n4_ := Aside0.mk ((by rw [hg]; exact (below_size (by repeat (first | (with_reducible first | exact HB.out | apply below_alloc | apply pw_below_drewN | apply below_drew1 | refine below_set ?_ GE121.out | refine below_set ?_ GE122.out) | exact HB.out))) : w.heap.size ≤ gb123)); have n5_ := Aside0.mk ((by rw [hg]; exact (below_size (by repeat (first | (with_reducible first | exact HB.out | apply below_alloc | apply pw_below_drewN | apply below_drew1 | refine below_set ?_ GE121.out | refine below_set ?_ GE122.out) | exact HB.out))) : w.heap.size ≤ gb123)); have n6_ := Aside0.mk ((by rw [hg]; exact Nat.ne_of_lt (blk_lt (g := gb121) (o := .cells #[.int .i64 a0_0, .int .i64 a0_1, .int .i64 a0_2] 62 (0, 0)) (by (with_reducible repeat (first | refine blk_drewN ?_ _ | refine blk_drew ?_ | refine blk_alloc ?_ _)); exact BK121.out)) : gb121 ≠ gb123)); have n7_ := Aside0.mk ((by rw [hg]; exact Nat.ne_of_gt (blk_lt (g := gb121) (o := .cells #[.int .i64 a0_0, .int .i64 a0_1, .int .i64 a0_2] 62 (0, 0)) (by (with_reducible repeat (first | refine blk_drewN ?_ _ | refine blk_drew ?_ | refine blk_alloc ?_ _)); exact BK121.out)) : gb123 ≠ gb121)); have n8_ := Aside0.mk ((by rw [hg]; exact Nat.ne_of_lt (blk_lt (g := gb122) (o := .cells #[.int .i64 0, .int .i64 0, .int .i64 0] 59 (0, 0)) (by (with_reducible repeat (first | refine blk_drewN ?_ _ | refine blk_drew ?_ | refine blk_alloc ?_ _)); exact BK122.out)) : gb122 ≠ gb123)); have n9_ := Aside0.mk ((by rw [hg]; exact Nat.ne_of_gt (blk_lt (g := gb122) (o := .cells #[.int .i64 0, .int .i64 0, .int .i64 0] 59 (0, 0)) (by (with_reducible repeat (first | refine blk_drewN ?_ _ | refine blk_drew ?_ | refine blk_alloc ?_ _)); exact BK122.out)) : gb123 ≠ gb122)); clear BK121; clear BK122; clear HB; have BK121 := n0_; have BK122 := n1_; have HB := n2_; have BK123 := n3_; have GW123 := n4_; have GE123 := n5_; have NB121_123 := n6_; have NB123_121 := n7_; have NB122_123 := n8_; have NB123_122 := n9_; clear n0_ n1_ n2_ n3_ n4_ n5_ n6_ n7_ n8_ n9_; clear hb hbox hg; have hnb5 := NB121_122.out; have hnc5 := NB122_121.out; have hnb6 := NB121_123.out; have hnc6 := NB123_121.out; have hcz7_0 : w4.cell? ⟨gb121, 0, none⟩ = some (.int .i64 a0_0) := (blk_cell BK121.out 0).trans rfl; have hcz7_1 : w4.cell? ⟨gb121, 1, none⟩ = some (.int .i64 a0_1) := (blk_cell BK121.out 1).trans rfl; have hcz7_2 : w4.cell? ⟨gb121, 2, none⟩ = some (.int .i64 a0_2) := (blk_cell BK121.out 2).trans rfl; have hfz7_0 := blk_frozen BK121.out 0; have hfz7_1 := blk_frozen BK121.out 1; have hfz7_2 := blk_frozen BK121.out 2; have hnb8 := NB123_122.out; have hnc8 := NB122_123.out; have hcz9_0 : w4.cell? ⟨gb123, 0, none⟩ = some (.int .i64 0) := (blk_cell BK123.out 0).trans rfl; have hcz9_1 : w4.cell? ⟨gb123, 1, none⟩ = some (.int .i64 0) := (blk_cell BK123.out 1).trans rfl; have hcz9_2 : w4.cell? ⟨gb123, 2, none⟩ = some (.int .i64 0) := (blk_cell BK123.out 2).trans rfl; have hfz9_0 := blk_frozen BK123.out 0; have hfz9_1 := blk_frozen BK123.out 1; have hfz9_2 := blk_frozen BK123.out 2; have hcz10_0 : w4.cell? ⟨gb122, 0, none⟩ = some (.int .i64 0) := (blk_cell BK122.out 0).trans rfl; have hcz10_1 : w4.cell? ⟨gb122, 1, none⟩ = some (.int .i64 0) := (blk_cell BK122.out 1).trans rfl; have hcz10_2 : w4.cell? ⟨gb122, 2, none⟩ = some (.int .i64 0) := (blk_cell BK122.out 2).trans rfl; have hfz10_0 := blk_frozen BK122.out 0; have hfz10_1 := blk_frozen BK122.out 1; have hfz10_2 := blk_frozen BK122.out 2))
  refine bodyPost_ret (results_cell_row rfl _ _ gb122 59 #[.int .i64 a0_0, .int .i64 a0_1, .int .i64 a0_2] (0, 0) _ rfl (by (with_reducible repeat (first | refine blk_drewN ?_ _ | refine blk_drew ?_ | refine blk_alloc ?_ _)); refine blk_put (cs := #[.int .i64 a0_0, .int .i64 a0_1, .int .i64 0]) ?_ 2 _ rfl; (with_reducible repeat (first | refine blk_drewN ?_ _ | refine blk_drew ?_ | refine blk_alloc ?_ _)); refine blk_put (cs := #[.int .i64 a0_0, .int .i64 0, .int .i64 0]) ?_ 1 _ rfl; (with_reducible repeat (first | refine blk_drewN ?_ _ | refine blk_drew ?_ | refine blk_alloc ?_ _)); refine blk_put (cs := #[.int .i64 0, .int .i64 0, .int .i64 0]) ?_ 0 _ rfl; (with_reducible repeat (first | refine blk_drewN ?_ _ | refine blk_drew ?_ | refine blk_alloc ?_ _)); refine blk_far ?_ NB122_123.out _; (with_reducible repeat (first | refine blk_drewN ?_ _ | refine blk_drew ?_ | refine blk_alloc ?_ _)); refine blk_far ?_ NB122_123.out _; (with_reducible repeat (first | refine blk_drewN ?_ _ | refine blk_drew ?_ | refine blk_alloc ?_ _)); refine blk_far ?_ NB122_123.out _; (with_reducible repeat (first | refine blk_drewN ?_ _ | refine blk_drew ?_ | refine blk_alloc ?_ _)); exact BK122.out) Try.underlying59 rfl (by kernel_rfl)) rfl ?_
  exact ⟨by first | rfl | (simp [errW_none, errW_some] <;> rfl) | (simp [*, errW_none, errW_some] <;> rfl), by repeat (first | (with_reducible first | exact HB.out | apply below_alloc | apply pw_below_drewN | apply below_drew1 | refine below_set ?_ GE121.out | refine below_set ?_ GE122.out | refine below_set ?_ GE123.out) | exact HB.out)⟩

end Go.Proofs.Ytolaplcjbmjlmaa.X

-- written by a program of this session (wip/ext.py) out of the translation. Not trusted: Lean checks it.
namespace Go.Proofs.Ytolaplcjbmjlmaa.X
open Go.RowKit Go.Proofs.YtolaplcjbmjlmaaW.PrintWords Go.Proofs.YtolaplcjbmjlmaaW.PrintLast Go.Proofs.YtolaplcjbmjlmaaW.PrintMore
attribute [local go_sem] max2_int min2_int max_two min_two max_three min_three max_four min_four   -- for this text's walks alone
set_option linter.unusedVariables false
set_option linter.unusedSimpArgs false

/-! ### laws_toStayS: function 18 -/
def laws_toStayS.l0 : Nat → List (S62) → List (S59) → Int → Option ((List (S59)))
  | 0, _, _, _ => none
  | k + 1, x0, x3, x4 => if x4 < (x0.length : Int) then (if 0 ≤ x4 then ((laws_toStay.f ((rd_T62 x0 x4).f0) ((rd_T62 x0 x4).f1) ((rd_T62 x0 x4).f2)).bind fun bt128 => (if x4 < (x3.length : Int) then (laws_toStayS.l0 k x0 (x3.set (x4 : Int).toNat (⟨bt128.1, bt128.2.1, bt128.2.2⟩ : S59)) (wrap64 (x4 + 1))) else (none))) else (none)) else (some x3)
def laws_toStayS.f (k : Nat) (l0 : List (S62)) : Option ((List (S59))) := if 0 ≤ (l0.length : Int) then (if ((l0.length : Int) : Int).toNat ≤ 11728124029610 then (laws_toStayS.l0 k l0 (List.replicate ((l0.length : Int) : Int).toNat z59) 0) else (none)) else (none)
theorem laws_toStayS.mono_l : ∀ k, (∀ y0 y1 y2, LeO (laws_toStayS.l0 k y0 y1 y2) (laws_toStayS.l0 (k + 1) y0 y1 y2))
  | 0 => fun _ _ _ r h => by simp [laws_toStayS.l0] at h
  | k + 1 => by
    have ih0 := laws_toStayS.mono_l k
    · intro y0 y1 y2
      unfold laws_toStayS.l0
      repeat' first
      | (with_reducible exact ih0 _ _ _)
      | (with_reducible exact LeO.refl _)
      | (with_reducible exact LeO.none _)
      | (with_reducible refine LeO.ite ?_ ?_)
      | (with_reducible refine LeO.bind ?_ (fun _ => ?_))
      | exact ih0 _ _ _
      | exact LeO.none _
      | refine LeO.ite ?_ ?_
      | refine LeO.bind ?_ (fun _ => ?_)
theorem laws_toStayS.mono : ∀ a0 k, LeO (laws_toStayS.f k a0) (laws_toStayS.f (k + 1) a0) := by
  intro a0 k
  have ih0 := laws_toStayS.mono_l k
  unfold laws_toStayS.f
  repeat' first
      | (with_reducible exact ih0 _ _ _)
      | (with_reducible exact LeO.refl _)
      | (with_reducible exact LeO.none _)
      | (with_reducible refine LeO.ite ?_ ?_)
      | (with_reducible refine LeO.bind ?_ (fun _ => ?_))
      | exact ih0 _ _ _
      | exact LeO.none _
      | refine LeO.ite ?_ ?_
      | refine LeO.bind ?_ (fun _ => ?_)
set_option maxHeartbeats 8000000 in
set_option maxRecDepth 100000 in
theorem laws_toStayS.calls (k : Nat) (A0 : Option Addr) (c0 : Nat) (l0 : List (S62)) (r : List (S59)) (w : World) (hr0 : Kd.C k62 w A0 l0.length l0) (hc0 : l0.length ≤ c0) (h : laws_toStayS.f k l0 = some r) :
    Calls Try.prog 18 #[.slice A0 l0.length c0] w fun e w' => ∃ v0_ : Value, e = .returned (v0_) ∧ Kd.R k59 59 w' w.heap.size (fun _ => True) v0_ r ∧ Below w.heap.size w w' := by
  have hu62 := Try.underlying62
  have hu59 := Try.underlying59
  have HR0 := Aside0.mk hr0
  have HC0 := Aside0.mk hc0
  clear hr0 hc0
  have HB := Aside0.mk (Below.refl w.heap.size w)
  have H : (if 0 ≤ (l0.length : Int) then (if ((l0.length : Int) : Int).toNat ≤ 11728124029610 then (laws_toStayS.l0 k l0 (List.replicate ((l0.length : Int) : Int).toNat z59) 0) else (none)) else (none)) = some r := h
  clear h
  by_cases c2 : 0 ≤ (l0.length : Int)
  · rw [if_pos c2] at H
    have c2b0 := eq_true c2
    have c2b1 : decide (0 ≤ (l0.length : Int)) = true := decide_eq_true c2
    clear c2
    by_cases c3 : ((l0.length : Int) : Int).toNat ≤ 11728124029610
    · rw [if_pos c3] at H
      have c3b0 := eq_true c3
      have c3b1 : decide (((l0.length : Int) : Int).toNat ≤ 11728124029610) = true := decide_eq_true c3
      clear c3
      obtain ⟨y124, hy124⟩ : ∃ y_ : List (S59), y_ = (List.replicate ((l0.length : Int) : Int).toNat z59) := ⟨_, rfl⟩
      replace H : (laws_toStayS.l0 k l0 y124 0) = some r := by first | (rw [hy124]; with_reducible exact H) | (have H2_ := (Option.bind_some _ _).symm.trans H; rw [hy124]; with_reducible exact H2_) | (have H2_ := (Option.bind_some _ _).symm.trans H; with_reducible exact H2_) | with_reducible exact H | (rw [hy124]; exact H) | exact H
      have Ny124 := Aside0.mk hy124
      clear hy124
      have H' := Aside0.mk H
      clear H
      go_enter Try.func18, Try.ntmps18
      go_wp2_with (first | ((with_reducible refine gate_dst (N := 7) rfl ?_); refine Kd.R_make k59 _ 59 rfl (N := 7) rfl 28 _ _ rfl (l0.length : Int) rfl rfl Try.underlying28 (.agg #[(.int .i64 0), (.int .i64 0), (.int .i64 0)]) 24 info59 rfl (by decide) (by omega) z59 (ok := fun _ => True) (okp := fun _ => True) (k59_mkM _ _ _ z59 ) (fun _ hk => hk) trivial (of_decide_eq_true (by first | (with_reducible assumption) | assumption)) (Nat.le_trans (Nat.mul_le_mul_right _ (of_decide_eq_true (by first | (with_reducible assumption) | assumption) : (l0.length : Int).toNat ≤ 11728124029610)) (by omega)) (Below.refl _ _) (Nat.le_refl _) ?_; intro v125 w4 ho5 hb hg_ hnew_; clear hg_ hnew_; (first | rw [← Ny124.out] at ho5 | (simp only [Int.reduceToNat] at ho5; rw [← Ny124.out] at ho5)); have n0_ := Aside0.mk (Kd.R_lower ho5 (below_size (by repeat (first | (with_reducible first | exact HB.out | apply below_alloc | apply pw_below_drewN | apply below_drew1) | exact HB.out)))); have n1_ := Aside0.mk (below_step (by repeat (first | (with_reducible first | exact HB.out | apply below_alloc | apply pw_below_drewN | apply below_drew1) | exact HB.out)) hb); clear HB; have HO126 := n0_; have HB := n1_; clear n0_ n1_; clear hb ho5))
      go_loopg [4] k (fun kq v4 w' => ∃ (x3_1 : List (S59)) (x4_1 : Int), v4 = .int .i64 x4_1 ∧ Aside0 (laws_toStayS.l0 kq l0 x3_1 x4_1 = some r) ∧ Aside0 (kq ≤ k) ∧ Aside0 (Kd.R k59 59 w' w.heap.size (fun _ => True) v125 x3_1) ∧ Aside0 (Below w.heap.size w w'))
      case atStart => exact ⟨(y124), (0), (by first | rfl | (simp; done) | (simp [*]; done)), H', ⟨Nat.le_refl _⟩, ⟨by (with_reducible repeat (first | apply Kd.R_alloc | apply Kd.R_drewN | apply Kd.R_drew)); exact HO126.out⟩, ⟨by repeat (first | (with_reducible first | exact HB.out | apply below_alloc | apply pw_below_drewN | apply below_drew1) | exact HB.out)⟩⟩
      case round =>
        clear H'
        try clear c1
        try clear c2
        try clear c2b0
        try clear c2b1
        try clear p2
        try clear c3
        try clear c3b0
        try clear c3b1
        obtain ⟨x3_1, x4_1, rfl, HA, HK1, HO_3, HB⟩ := hrel
        cases gk with
        | zero => exact absurd HA.out (by simp [laws_toStayS.l0])
        | succ k1 =>
          have H := HA.out
          clear HA
          simp only [laws_toStayS.l0] at H
          by_cases c6 : x4_1 < (l0.length : Int)
          · rw [if_pos c6] at H
            have c6b0 : decide (x4_1 < (l0.length : Int)) = true := decide_eq_true c6
            clear c6
            by_cases c7 : 0 ≤ x4_1
            · rw [if_pos c7] at H
              have c7b0 : decide (0 ≤ x4_1) = true := decide_eq_true c7
              clear c7
              replace H := Option.bind_eq_some_iff.mp H
              obtain ⟨⟨t128, t129, t130⟩, A80, H⟩ := H
              replace H : (if x4_1 < (x3_1.length : Int) then (laws_toStayS.l0 k1 l0 (x3_1.set (x4_1 : Int).toNat (⟨t128, t129, t130⟩ : S59)) (wrap64 (x4_1 + 1))) else (none)) = some r := H
              have A8 := Aside0.mk A80
              clear A80
              by_cases c9 : x4_1 < (x3_1.length : Int)
              · rw [if_pos c9] at H
                have c9b0 : decide (x4_1 < (x3_1.length : Int)) = true := decide_eq_true c9
                clear c9
                obtain ⟨y131, hy131⟩ : ∃ y_ : List (S59), y_ = (x3_1.set (x4_1 : Int).toNat (⟨t128, t129, t130⟩ : S59)) := ⟨_, rfl⟩
                replace H : (laws_toStayS.l0 k1 l0 y131 (wrap64 (x4_1 + 1))) = some r := by first | (rw [hy131]; with_reducible exact H) | (have H2_ := (Option.bind_some _ _).symm.trans H; rw [hy131]; with_reducible exact H2_) | (have H2_ := (Option.bind_some _ _).symm.trans H; with_reducible exact H2_) | with_reducible exact H | (rw [hy131]; exact H) | exact H
                have Ny131 := Aside0.mk hy131
                clear hy131
                have H' := Aside0.mk H
                clear H
                have p127 : 0 ≤ (x4_1 : Int) := of_decide_eq_true (by first | (with_reducible assumption) | assumption)
                have q127 : x4_1 < (l0.length : Int) := of_decide_eq_true (by first | (with_reducible assumption) | assumption)
                obtain ⟨ad127, e127, hx127_0, hx127_1, hx127_2⟩ := at_T62 HR0.out x4_1 p127 q127
                cases e127
                replace hx127_0 := (HB.out.cell (World.block_lt_of_cell? w _ hx127_0)).trans hx127_0
                replace hx127_1 := (HB.out.cell (World.block_lt_of_cell? w _ hx127_1)).trans hx127_1
                replace hx127_2 := (HB.out.cell (World.block_lt_of_cell? w _ hx127_2)).trans hx127_2
                replace p127 := eq_true p127
                replace q127 := eq_true q127
                go_wp2_with (first | ((with_reducible refine gate_callee (f := 55) rfl ?_); refine goesL_ (some 20) rfl rfl Try.func55 (by kernel_rfl) rfl #[.agg #[.int .i64 ((rd_T62 l0 x4_1).f0), .int .i64 ((rd_T62 l0 x4_1).f1), .int .i64 ((rd_T62 l0 x4_1).f2)]] rfl (by (try simp only [List.map_toArray, List.map_cons, List.map_nil]); first | done | rfl | (simp only [List.length_drop, List.length_take]; rfl)) ?_; (with_reducible refine (laws_toStay.calls ((rd_T62 l0 x4_1).f0) ((rd_T62 l0 x4_1).f1) ((rd_T62 l0 x4_1).f2) t128 t129 t130 _ A8.out).mono ?_); rintro e w11 ⟨rfl, hb⟩; refine ⟨_, rfl, ?_⟩; have n0_ := Aside0.mk (Kd.R_below (by (with_reducible repeat (first | apply Kd.R_alloc | apply Kd.R_drewN | apply Kd.R_drew)); exact HO_3.out) hb); have n1_ := Aside0.mk (below_step (by repeat (first | (with_reducible first | exact HB.out | apply below_alloc | apply pw_below_drewN | apply below_drew1) | exact HB.out)) hb); clear HO_3; clear HB; have HO_3 := n0_; have HB := n1_; clear n0_ n1_; (try clear hb); (try clear hb2); (try clear hk); (try clear hi); have p10 : 0 ≤ (x4_1 : Int) := of_decide_eq_true (by first | (with_reducible assumption) | assumption); have q10 : (x4_1 : Int) < ((x3_1.length : Int) : Int) := of_decide_eq_true (by first | (with_reducible assumption) | assumption); obtain ⟨go10, co10, eo10, gb10, gl10, cl10, HG10⟩ := Kd.R_form HO_3.out (by omega); (first | cases eo10 | (injection eo10 with ea_ en_ ec_; (first | subst ea_ | (injection ea_ with ea_; subst ea_)); subst ec_; clear en_)); have GB10 := Aside0.mk gb10; have GG10 := Aside0.mk HG10; clear gb10 gl10 HG10; obtain ⟨ce10, hcl10, hM10, hcc10, hfr10⟩ := Kd.R_elem HO_3.out z59 (x4_1 : Int) p10 q10; obtain rfl := k59_openM hM10; have hx10_0 : w11.cell? ⟨go10, (x4_1 : Int).toNat * 3, none⟩ = some (.int .i64 ((rd_T59 x3_1 x4_1).f0)) := hcc10 0 _ rfl; have hx10_1 : w11.cell? ⟨go10, (x4_1 : Int).toNat * 3 + 1, none⟩ = some (.int .i64 ((rd_T59 x3_1 x4_1).f1)) := hcc10 1 _ rfl; have hx10_2 : w11.cell? ⟨go10, (x4_1 : Int).toNat * 3 + 2, none⟩ = some (.int .i64 ((rd_T59 x3_1 x4_1).f2)) := hcc10 2 _ rfl; have hf10_0 : w11.frozen? ⟨go10, (x4_1 : Int).toNat * 3, none⟩ = false := hfr10 0; have hf10_1 : w11.frozen? ⟨go10, (x4_1 : Int).toNat * 3 + 1, none⟩ = false := hfr10 1; have hf10_2 : w11.frozen? ⟨go10, (x4_1 : Int).toNat * 3 + 2, none⟩ = false := hfr10 2; clear hcl10 hcc10 hfr10 hM10; replace p10 := eq_true p10; replace q10 := eq_true q10; have HX12 := Aside0.mk (show Kd.R k59 59 w11 w.heap.size (fun _ => True) (.slice (some ⟨go10, 0, none⟩) x3_1.length co10) x3_1 from (by (with_reducible repeat (first | apply Kd.R_alloc | apply Kd.R_drewN | apply Kd.R_drew)); exact HO_3.out)); obtain ⟨ce12, hcl12, hM12, hcc12, hfr12⟩ := Kd.R_elem HX12.out z59 (x4_1 : Int) (of_decide_eq_true (by first | (with_reducible assumption) | assumption)) (by have h_ : (x4_1 : Int) < ((x3_1.length : Int) : Int) := of_decide_eq_true (by first | (with_reducible assumption) | assumption); first | exact h_ | (have e_ := (Kd.R_reads' HO_3.out).1; omega) | simpa using h_); obtain rfl := k59_openM hM12; have HP12 := Kd.R_seg HX12.out (x4_1 : Int) (of_decide_eq_true (by first | (with_reducible assumption) | assumption)) (by have h_ : (x4_1 : Int) < ((x3_1.length : Int) : Int) := of_decide_eq_true (by first | (with_reducible assumption) | assumption); first | exact h_ | (have e_ := (Kd.R_reads' HO_3.out).1; omega) | simpa using h_) (seg := [.int .i64 t128, .int .i64 t129, .int .i64 t130]) (j := 0) hcl12 hcc12 (show 3 ≤ 3 from by decide) (x' := (⟨t128, t129, t130⟩ : S59)) (k59_mkM _ _ _ (⟨t128, t129, t130⟩ : S59) ) (fun _ hk => hk); have hx12_0 := hcc12 0 _ rfl; (try simp only [show (k59).sz = 3 from rfl, Nat.mul_one, Nat.add_zero] at hx12_0); have hf12_0 := hfr12 0; (try simp only [show (k59).sz = 3 from rfl, Nat.mul_one, Nat.add_zero] at hf12_0); have hx12_1 := hcc12 1 _ rfl; (try simp only [show (k59).sz = 3 from rfl, Nat.mul_one, Nat.add_zero] at hx12_1); have hf12_1 := hfr12 1; (try simp only [show (k59).sz = 3 from rfl, Nat.mul_one, Nat.add_zero] at hf12_1); have hx12_2 := hcc12 2 _ rfl; (try simp only [show (k59).sz = 3 from rfl, Nat.mul_one, Nat.add_zero] at hx12_2); have hf12_2 := hfr12 2; (try simp only [show (k59).sz = 3 from rfl, Nat.mul_one, Nat.add_zero] at hf12_2); clear hcl12 hcc12 hfr12 hM12) | ((with_reducible refine gate_store (t := 59) (p := 21) rfl ?_); refine store_event (t := 59) (p := 21) (v := ?vo_w13) (w1 := (((w11.setCell ⟨go10, (x4_1 : Int).toNat * 3, none⟩ (.int .i64 t128)).setCell ⟨go10, (x4_1 : Int).toNat * 3 + 1, none⟩ (.int .i64 t129)).setCell ⟨go10, (x4_1 : Int).toNat * 3 + 2, none⟩ (.int .i64 t130))) ?hg ?ho ?hn ?hr ?_; (case ho => rfl); (case hg => rfl); (case hn => rfl); (case hr => first | (go_simp; done) | (go_simp; rfl)); intro w13 hw; have hg : w11.grownBy w13 (some go10) := (by rw [hw]; exact HP12.2); have hp_ : Kd.R k59 59 w13 w.heap.size (fun _ => True) (.slice (some ⟨go10, 0, none⟩) x3_1.length co10) y131 := (by rw [hw, Ny131.out]; exact HP12.1); clear HP12; have n0_ := Aside0.mk (hp_); have n1_ := Aside0.mk ((by rw [hw]; exact below_set (below_set (below_set (HB.out) GB10.out) GB10.out) GB10.out : Below w.heap.size w w13)); clear HO_3; clear HB; have HO_3 := n0_; have HB := n1_; clear n0_ n1_; clear hg hw hp_))
                go_roundg k1
                case measure => have := HK1.out; omega
                case rel => exact ⟨(y131), (wrap64 (x4_1 + 1)), (by first | rfl | (simp; done) | (simp [*]; done)), H', ⟨by have := HK1.out; omega⟩, ⟨by (with_reducible repeat (first | apply Kd.R_alloc | apply Kd.R_drewN | apply Kd.R_drew)); exact HO_3.out⟩, ⟨by repeat (first | (with_reducible first | exact HB.out | apply below_alloc | apply pw_below_drewN | apply below_drew1) | exact HB.out)⟩⟩
              · rw [if_neg c9] at H
                exact absurd H (by simp)
            · rw [if_neg c7] at H
              exact absurd H (by simp)
          · rw [if_neg c6] at H
            have c6b0 : decide (x4_1 < (l0.length : Int)) = false := decide_eq_false c6
            clear c6
            obtain rfl := Option.some.inj H
            go_wp2
            go_ret
            exact ⟨_, by first | rfl | (simp [errW_none, errW_some] <;> rfl) | (simp [*, errW_none, errW_some] <;> rfl), by (with_reducible repeat (first | apply Kd.R_alloc | apply Kd.R_drewN | apply Kd.R_drew)); exact HO_3.out, by repeat (first | (with_reducible first | exact HB.out | apply below_alloc | apply pw_below_drewN | apply below_drew1) | exact HB.out)⟩
    · rw [if_neg c3] at H
      exact absurd H (by simp)
  · rw [if_neg c2] at H
    exact absurd H (by simp)

end Go.Proofs.Ytolaplcjbmjlmaa.X

