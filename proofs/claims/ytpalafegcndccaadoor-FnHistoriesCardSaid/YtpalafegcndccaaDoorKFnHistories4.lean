/- Texts that the proof of the law FnHistories leans on, part 5 of 6. -/
import Derived.Deep.Slices
import Derived.ChangeSame
import Derived.ChangeArms
import Derived.DataReads
import Derived.SizedLaws
import Derived.ProofKit
import Derived.Lib.SmallJoins
import Derived.ChangeOld
import Derived.Below
import Derived.Lib.IndexAny
import Derived.Lib.ItoaNum
import Derived.Lib.ItoaLen
import Derived.Lib.SplitLaws
import Derived.Lib.IndexMore
import Derived.Lib.AtoiAll
import Derived.Test.YtpalafegcndccaaDoorKFnHistories0
import Derived.Test.YtpalafegcndccaaDoorKFnHistories1
import Derived.Test.YtpalafegcndccaaDoorKFnHistories2
import Derived.Test.YtpalafegcndccaaDoorKFnHistories3
set_option linter.unusedVariables false
set_option linter.unusedSimpArgs false
namespace Go.Proofs.YtpalafegcndccaaDoor.X
open Go.RowKit Go.Proofs.YtpalafegcndccaaDoorW.PrintWords Go.Proofs.YtpalafegcndccaaDoorW.PrintLast Go.Proofs.YtpalafegcndccaaDoorW.PrintMore
attribute [local go_sem] Ej Eg Eu Ew D9 D8 Ei Eh
open Go.Proofs.YtpalafegcndccaaDoorG
mutual
def Aj.j0 : Nat → List Int → Bool → Option (Bool)
  | 0, _, _ => none
  | k + 1, x0, x69 => if x69 = true then (some false) else ((Ec.f k x0).bind fun t494 => ((Bz.f k t494).bind fun bt495 => ((D6.f k bt495.1).bind fun bt499 => (if bt495.2 = true then (if bt499.2 = true then (Aj.j1 k x0 (bt499.1.toList != t494.toList)) else (Aj.j1 k x0 true)) else (Aj.j1 k x0 false)))))
def Aj.j1 : Nat → List Int → Bool → Option (Bool)
  | 0, _, _ => none
  | k + 1, x0, x91 => if x91 = true then (some false) else ((Ey.f k x0).bind fun bt501 => ((Fe.f k bt501.1 bt501.2.1 bt501.2.2).bind fun bt507 => ((Fa.f k bt501.1 bt501.2.1 bt501.2.2).bind fun bt511 => (if (bt507.2 != bt511.2) = true then (Aj.j2 k bt501.1 bt507.2 true bt501.2.1 bt501.2.2) else ((Dq.f k bt507.1 bt511.1).bind fun t515 => (Aj.j2 k bt501.1 bt507.2 (!t515) bt501.2.1 bt501.2.2))))))
def Aj.j2 : Nat → List (S40) → Bool → Bool → Int → Int → Option (Bool)
  | 0, _, _, _, _, _ => none
  | k + 1, x15, x18, x117, x507000, x507001 => if x117 = true then (some false) else ((Bo.f k x15).bind fun bt516 => (if bt516.2 = true then (if x507000 ≥ 0 then (if x507000 ≤ 9999 then (if (x15.length : Int) = 0 then ((Ee.f k bt516.1 x507001).bind fun t520 => (some (x18 == t520))) else (if 0 ≤ (wrap64 ((x15.length : Int) - 1)) then (if (wrap64 ((x15.length : Int) - 1)) < (x15.length : Int) then (if ((Bc x15 (wrap64 ((x15.length : Int) - 1))).f0) ≤ x507000 then ((Ee.f k bt516.1 x507001).bind fun t522 => (some (x18 == t522))) else (some (x18 == false))) else (none)) else (none))) else (some (x18 == false))) else (some (x18 == false))) else (some (!x18))))
end
def Aj.f (k : Nat) (l0 : List Int) : Option (Bool) := (Ig.f l0).bind fun t480 => (if t480 = true then (some true) else ((Ed.f k l0).bind fun t481 => ((D6.f k t481).bind fun bt484 => ((Bz.f k bt484.1).bind fun bt486 => ((Ep.f k t481).bind fun bt490 => (if bt484.1.toList = bt490.1.toList then (if (bt484.2 != bt490.2) = true then (Aj.j0 k l0 true) else ((Cm.f k t481).bind fun t492 => (if (t492 != bt484.2) = true then (Aj.j0 k l0 true) else (if bt484.2 = true then (if bt486.2 = true then ((Dq.f k bt486.1 t481).bind fun t493 => (Aj.j0 k l0 (!t493))) else (Aj.j0 k l0 true)) else (Aj.j0 k l0 false))))) else (Aj.j0 k l0 true)))))))
theorem Aj.Et : ∀ k, (∀ y0 y1, LeO (Aj.j0 k y0 y1) (Aj.j0 (k + 1) y0 y1)) ∧ (∀ y0 y1, LeO (Aj.j1 k y0 y1) (Aj.j1 (k + 1) y0 y1)) ∧ (∀ y0 y1 y2 y3 y4, LeO (Aj.j2 k y0 y1 y2 y3 y4) (Aj.j2 (k + 1) y0 y1 y2 y3 y4))
  | 0 => ⟨fun _ _ r h => by simp [Aj.j0] at h, fun _ _ r h => by simp [Aj.j1] at h, fun _ _ _ _ _ r h => by simp [Aj.j2] at h⟩
  | k + 1 => by
    obtain ⟨ih0, ih1, ih2⟩ := Aj.Et k
    refine ⟨?_, ?_, ?_⟩
    · intro y0 y1
      unfold Aj.j0
      repeat' first
      | (with_reducible exact ih0 _ _)
      | (with_reducible exact ih1 _ _)
      | (with_reducible exact ih2 _ _ _ _ _)
      | (with_reducible exact Fe.mono _ _ _ _)
      | (with_reducible exact D6.mono _ _)
      | (with_reducible exact Cm.mono _ _)
      | (with_reducible exact Bo.mono _ _)
      | (with_reducible exact Bz.mono _ _)
      | (with_reducible exact Dq.mono _ _ _)
      | (with_reducible exact Ee.mono _ _ _)
      | (with_reducible exact Fa.mono _ _ _ _)
      | (with_reducible exact Ey.mono _ _)
      | (with_reducible exact Ed.mono _ _)
      | (with_reducible exact Ec.mono _ _)
      | (with_reducible exact Ep.mono _ _)
      | (with_reducible exact LeO.refl _)
      | (with_reducible exact LeO.none _)
      | (with_reducible refine LeO.ite ?_ ?_)
      | (with_reducible refine LeO.bind ?_ (fun _ => ?_))
      | exact ih0 _ _
      | exact ih1 _ _
      | exact ih2 _ _ _ _ _
      | exact Fe.mono _ _ _ _
      | exact D6.mono _ _
      | exact Cm.mono _ _
      | exact Bo.mono _ _
      | exact Bz.mono _ _
      | exact Dq.mono _ _ _
      | exact Ee.mono _ _ _
      | exact Fa.mono _ _ _ _
      | exact Ey.mono _ _
      | exact Ed.mono _ _
      | exact Ec.mono _ _
      | exact Ep.mono _ _
      | exact LeO.none _
      | refine LeO.ite ?_ ?_
      | refine LeO.bind ?_ (fun _ => ?_)
    · intro y0 y1
      unfold Aj.j1
      repeat' first
      | (with_reducible exact ih0 _ _)
      | (with_reducible exact ih1 _ _)
      | (with_reducible exact ih2 _ _ _ _ _)
      | (with_reducible exact Fe.mono _ _ _ _)
      | (with_reducible exact D6.mono _ _)
      | (with_reducible exact Cm.mono _ _)
      | (with_reducible exact Bo.mono _ _)
      | (with_reducible exact Bz.mono _ _)
      | (with_reducible exact Dq.mono _ _ _)
      | (with_reducible exact Ee.mono _ _ _)
      | (with_reducible exact Fa.mono _ _ _ _)
      | (with_reducible exact Ey.mono _ _)
      | (with_reducible exact Ed.mono _ _)
      | (with_reducible exact Ec.mono _ _)
      | (with_reducible exact Ep.mono _ _)
      | (with_reducible exact LeO.refl _)
      | (with_reducible exact LeO.none _)
      | (with_reducible refine LeO.ite ?_ ?_)
      | (with_reducible refine LeO.bind ?_ (fun _ => ?_))
      | exact ih0 _ _
      | exact ih1 _ _
      | exact ih2 _ _ _ _ _
      | exact Fe.mono _ _ _ _
      | exact D6.mono _ _
      | exact Cm.mono _ _
      | exact Bo.mono _ _
      | exact Bz.mono _ _
      | exact Dq.mono _ _ _
      | exact Ee.mono _ _ _
      | exact Fa.mono _ _ _ _
      | exact Ey.mono _ _
      | exact Ed.mono _ _
      | exact Ec.mono _ _
      | exact Ep.mono _ _
      | exact LeO.none _
      | refine LeO.ite ?_ ?_
      | refine LeO.bind ?_ (fun _ => ?_)
    · intro y0 y1 y2 y3 y4
      unfold Aj.j2
      repeat' first
      | (with_reducible exact ih0 _ _)
      | (with_reducible exact ih1 _ _)
      | (with_reducible exact ih2 _ _ _ _ _)
      | (with_reducible exact Fe.mono _ _ _ _)
      | (with_reducible exact D6.mono _ _)
      | (with_reducible exact Cm.mono _ _)
      | (with_reducible exact Bo.mono _ _)
      | (with_reducible exact Bz.mono _ _)
      | (with_reducible exact Dq.mono _ _ _)
      | (with_reducible exact Ee.mono _ _ _)
      | (with_reducible exact Fa.mono _ _ _ _)
      | (with_reducible exact Ey.mono _ _)
      | (with_reducible exact Ed.mono _ _)
      | (with_reducible exact Ec.mono _ _)
      | (with_reducible exact Ep.mono _ _)
      | (with_reducible exact LeO.refl _)
      | (with_reducible exact LeO.none _)
      | (with_reducible refine LeO.ite ?_ ?_)
      | (with_reducible refine LeO.bind ?_ (fun _ => ?_))
      | exact ih0 _ _
      | exact ih1 _ _
      | exact ih2 _ _ _ _ _
      | exact Fe.mono _ _ _ _
      | exact D6.mono _ _
      | exact Cm.mono _ _
      | exact Bo.mono _ _
      | exact Bz.mono _ _
      | exact Dq.mono _ _ _
      | exact Ee.mono _ _ _
      | exact Fa.mono _ _ _ _
      | exact Ey.mono _ _
      | exact Ed.mono _ _
      | exact Ec.mono _ _
      | exact Ep.mono _ _
      | exact LeO.none _
      | refine LeO.ite ?_ ?_
      | refine LeO.bind ?_ (fun _ => ?_)
theorem Aj.mono : ∀ a0 k, LeO (Aj.f k a0) (Aj.f (k + 1) a0) := by
  intro a0 k
  obtain ⟨ih0, ih1, ih2⟩ := Aj.Et k
  unfold Aj.f
  repeat' first
      | (with_reducible exact ih0 _ _)
      | (with_reducible exact ih1 _ _)
      | (with_reducible exact ih2 _ _ _ _ _)
      | (with_reducible exact Fe.mono _ _ _ _)
      | (with_reducible exact D6.mono _ _)
      | (with_reducible exact Cm.mono _ _)
      | (with_reducible exact Bo.mono _ _)
      | (with_reducible exact Bz.mono _ _)
      | (with_reducible exact Dq.mono _ _ _)
      | (with_reducible exact Ee.mono _ _ _)
      | (with_reducible exact Fa.mono _ _ _ _)
      | (with_reducible exact Ey.mono _ _)
      | (with_reducible exact Ed.mono _ _)
      | (with_reducible exact Ec.mono _ _)
      | (with_reducible exact Ep.mono _ _)
      | (with_reducible exact LeO.refl _)
      | (with_reducible exact LeO.none _)
      | (with_reducible refine LeO.ite ?_ ?_)
      | (with_reducible refine LeO.bind ?_ (fun _ => ?_))
      | exact ih0 _ _
      | exact ih1 _ _
      | exact ih2 _ _ _ _ _
      | exact Fe.mono _ _ _ _
      | exact D6.mono _ _
      | exact Cm.mono _ _
      | exact Bo.mono _ _
      | exact Bz.mono _ _
      | exact Dq.mono _ _ _
      | exact Ee.mono _ _ _
      | exact Fa.mono _ _ _ _
      | exact Ey.mono _ _
      | exact Ed.mono _ _
      | exact Ec.mono _ _
      | exact Ep.mono _ _
      | exact LeO.none _
      | refine LeO.ite ?_ ?_
      | refine LeO.bind ?_ (fun _ => ?_)
set_option maxHeartbeats 8000000 in
set_option maxRecDepth 100000 in
theorem Aj.calls (k : Nat) (A0 : Option Addr) (c0 : Nat) (l0 : List Int) (r : Bool) (w : World) (hr0 : Kd.C (Kd.int .u8) w A0 l0.length l0) (hc0 : l0.length ≤ c0) (hG : F9 w) (h : Aj.f k l0 = some r) (hr_ : r = true) :
    Calls Tryd.prog 5 #[.slice A0 l0.length c0] w fun e w' => e = .returned (.bool r) ∧ Below w.heap.size w w' := by
  have HR_ := Aa.mk hr_
  clear hr_
  have hu40 := Tryd.underlying40
  have HGL := Aa.mk hG
  clear hG
  have HR0 := Aa.mk hr0
  have HC0 := Aa.mk hc0
  clear hr0 hc0
  have HB := Aa.mk (Below.refl w.heap.size w)
  have H : ((Ig.f l0).bind fun t480 => (if t480 = true then (some true) else ((Ed.f k l0).bind fun t481 => ((D6.f k t481).bind fun bt484 => ((Bz.f k bt484.1).bind fun bt486 => ((Ep.f k t481).bind fun bt490 => (if bt484.1.toList = bt490.1.toList then (if (bt484.2 != bt490.2) = true then (Aj.j0 k l0 true) else ((Cm.f k t481).bind fun t492 => (if (t492 != bt484.2) = true then (Aj.j0 k l0 true) else (if bt484.2 = true then (if bt486.2 = true then ((Dq.f k bt486.1 t481).bind fun t493 => (Aj.j0 k l0 (!t493))) else (Aj.j0 k l0 true)) else (Aj.j0 k l0 false))))) else (Aj.j0 k l0 true)))))))) = some r := h
  clear h
  replace H := Option.bind_eq_some_iff.mp H
  obtain ⟨t480, A20, H⟩ := H
  replace H : (if t480 = true then (some true) else ((Ed.f k l0).bind fun t481 => ((D6.f k t481).bind fun bt484 => ((Bz.f k bt484.1).bind fun bt486 => ((Ep.f k t481).bind fun bt490 => (if bt484.1.toList = bt490.1.toList then (if (bt484.2 != bt490.2) = true then (Aj.j0 k l0 true) else ((Cm.f k t481).bind fun t492 => (if (t492 != bt484.2) = true then (Aj.j0 k l0 true) else (if bt484.2 = true then (if bt486.2 = true then ((Dq.f k bt486.1 t481).bind fun t493 => (Aj.j0 k l0 (!t493))) else (Aj.j0 k l0 true)) else (Aj.j0 k l0 false))))) else (Aj.j0 k l0 true))))))) = some r := H
  have A2 := Aa.mk A20
  clear A20
  by_cases c3 : t480 = true
  · subst c3
    have H1 : (some true) = some r := by rw [if_pos rfl] at H; exact H
    clear H
    have H := H1
    clear H1
    obtain rfl := Option.some.inj H
    go_enter Tryd.func5, Tryd.ntmps5
    go_wp2_with (first | (go_at_call 15; (with_reducible refine (Ig.calls _ _ l0 true _ ?side1 ?side2 A2.out).mono ?_); (case side1 => repeat (first | exact HR0.out | (with_reducible refine Kd.Ci ?_ _) | (with_reducible refine Kd.Cf ?_ _) | (with_reducible refine Kd.Di ?_))); (case side2 => exact HC0.out); rintro e w' ⟨rfl, ⟨nd, rfl⟩⟩; (try first | exact ⟨rfl, _, World.drewN_drewN _ _ _⟩ | exact ⟨rfl, _, Eq.trans (World.drewN_drewN _ _ _) (congrArg (World.drewN _) (Nat.add_assoc _ _ _))⟩)))
    repeat (go_quiet (first | (go_at_call 15; (with_reducible refine (Ig.calls _ _ l0 true _ ?side1 ?side2 A2.out).mono ?_); (case side1 => repeat (first | exact HR0.out | (with_reducible refine Kd.Ci ?_ _) | (with_reducible refine Kd.Cf ?_ _) | (with_reducible refine Kd.Di ?_))); (case side2 => exact HC0.out); rintro e w' ⟨rfl, ⟨nd, rfl⟩⟩; (try first | exact ⟨rfl, _, World.drewN_drewN _ _ _⟩ | exact ⟨rfl, _, Eq.trans (World.drewN_drewN _ _ _) (congrArg (World.drewN _) (Nat.add_assoc _ _ _))⟩))); try go_wp2_with (first | (go_at_call 15; (with_reducible refine (Ig.calls _ _ l0 true _ ?side1 ?side2 A2.out).mono ?_); (case side1 => repeat (first | exact HR0.out | (with_reducible refine Kd.Ci ?_ _) | (with_reducible refine Kd.Cf ?_ _) | (with_reducible refine Kd.Di ?_))); (case side2 => exact HC0.out); rintro e w' ⟨rfl, ⟨nd, rfl⟩⟩; (try first | exact ⟨rfl, _, World.drewN_drewN _ _ _⟩ | exact ⟨rfl, _, Eq.trans (World.drewN_drewN _ _ _) (congrArg (World.drewN _) (Nat.add_assoc _ _ _))⟩))))
    go_ret
    exact ⟨by first | rfl | (simp [Be, Bf] <;> rfl) | (simp [*, Be, Bf] <;> rfl), by repeat (first | (with_reducible first | exact HB.out | apply Ae | apply Ac | apply Ad) | exact HB.out)⟩
  · replace c3 := Bool.eq_false_iff.mpr c3
    subst c3
    have H1 : ((Ed.f k l0).bind fun t481 => ((D6.f k t481).bind fun bt484 => ((Bz.f k bt484.1).bind fun bt486 => ((Ep.f k t481).bind fun bt490 => (if bt484.1.toList = bt490.1.toList then (if (bt484.2 != bt490.2) = true then (Aj.j0 k l0 true) else ((Cm.f k t481).bind fun t492 => (if (t492 != bt484.2) = true then (Aj.j0 k l0 true) else (if bt484.2 = true then (if bt486.2 = true then ((Dq.f k bt486.1 t481).bind fun t493 => (Aj.j0 k l0 (!t493))) else (Aj.j0 k l0 true)) else (Aj.j0 k l0 false))))) else (Aj.j0 k l0 true)))))) = some r := by rw [if_neg (show ¬ (false = true) by decide)] at H; exact H
    clear H
    have H := H1
    clear H1
    replace H := Option.bind_eq_some_iff.mp H
    obtain ⟨t481, A40, H⟩ := H
    replace H : ((D6.f k t481).bind fun bt484 => ((Bz.f k bt484.1).bind fun bt486 => ((Ep.f k t481).bind fun bt490 => (if bt484.1.toList = bt490.1.toList then (if (bt484.2 != bt490.2) = true then (Aj.j0 k l0 true) else ((Cm.f k t481).bind fun t492 => (if (t492 != bt484.2) = true then (Aj.j0 k l0 true) else (if bt484.2 = true then (if bt486.2 = true then ((Dq.f k bt486.1 t481).bind fun t493 => (Aj.j0 k l0 (!t493))) else (Aj.j0 k l0 true)) else (Aj.j0 k l0 false))))) else (Aj.j0 k l0 true))))) = some r := H
    have A4 := Aa.mk A40
    clear A40
    replace H := Option.bind_eq_some_iff.mp H
    obtain ⟨⟨t484, t485⟩, A50, H⟩ := H
    replace H : ((Bz.f k t484).bind fun bt486 => ((Ep.f k t481).bind fun bt490 => (if t484.toList = bt490.1.toList then (if (t485 != bt490.2) = true then (Aj.j0 k l0 true) else ((Cm.f k t481).bind fun t492 => (if (t492 != t485) = true then (Aj.j0 k l0 true) else (if t485 = true then (if bt486.2 = true then ((Dq.f k bt486.1 t481).bind fun t493 => (Aj.j0 k l0 (!t493))) else (Aj.j0 k l0 true)) else (Aj.j0 k l0 false))))) else (Aj.j0 k l0 true)))) = some r := H
    have A5 := Aa.mk A50
    clear A50
    replace H := Option.bind_eq_some_iff.mp H
    obtain ⟨⟨t486, t487⟩, A60, H⟩ := H
    replace H : ((Ep.f k t481).bind fun bt490 => (if t484.toList = bt490.1.toList then (if (t485 != bt490.2) = true then (Aj.j0 k l0 true) else ((Cm.f k t481).bind fun t492 => (if (t492 != t485) = true then (Aj.j0 k l0 true) else (if t485 = true then (if t487 = true then ((Dq.f k t486 t481).bind fun t493 => (Aj.j0 k l0 (!t493))) else (Aj.j0 k l0 true)) else (Aj.j0 k l0 false))))) else (Aj.j0 k l0 true))) = some r := H
    have A6 := Aa.mk A60
    clear A60
    replace H := Option.bind_eq_some_iff.mp H
    obtain ⟨⟨t490, t491⟩, A70, H⟩ := H
    replace H : (if t484.toList = t490.toList then (if (t485 != t491) = true then (Aj.j0 k l0 true) else ((Cm.f k t481).bind fun t492 => (if (t492 != t485) = true then (Aj.j0 k l0 true) else (if t485 = true then (if t487 = true then ((Dq.f k t486 t481).bind fun t493 => (Aj.j0 k l0 (!t493))) else (Aj.j0 k l0 true)) else (Aj.j0 k l0 false))))) else (Aj.j0 k l0 true)) = some r := H
    have A7 := Aa.mk A70
    clear A70
    have HC8 := Aa.mk H
    clear H
    go_enter Tryd.func5, Tryd.ntmps5
    go_upto_region 7 with (first | (go_at_call 15; (with_reducible refine (Ig.calls _ _ l0 false _ ?side1 ?side2 A2.out).mono ?_); (case side1 => repeat (first | exact HR0.out | (with_reducible refine Kd.Ci ?_ _) | (with_reducible refine Kd.Cf ?_ _) | (with_reducible refine Kd.Di ?_))); (case side2 => exact HC0.out); rintro e w' ⟨rfl, ⟨nd, rfl⟩⟩; (try first | exact ⟨rfl, _, World.drewN_drewN _ _ _⟩ | exact ⟨rfl, _, Eq.trans (World.drewN_drewN _ _ _) (congrArg (World.drewN _) (Nat.add_assoc _ _ _))⟩)) | (go_at_call 16; (with_reducible refine (Ed.calls k _ _ l0 t481 _ ?side1 ?side2 A4.out).mono ?_); (case side1 => repeat (first | exact HR0.out | (with_reducible refine Kd.Ci ?_ _) | (with_reducible refine Kd.Cf ?_ _) | (with_reducible refine Kd.Di ?_))); (case side2 => exact HC0.out); rintro e w9 ⟨v482, rfl, ho0, hb⟩; have n0_ := Aa.mk (Kd.Du ho0 (Aq (by repeat (first | (with_reducible first | exact HB.out | apply Ae | apply Ac | apply Ad) | exact HB.out)))); have n1_ := Aa.mk (Ap (by repeat (first | (with_reducible first | exact HB.out | apply Ae | apply Ac | apply Ad) | exact HB.out)) hb); clear HB; have HO483 := n0_; have HB := n1_; clear n0_ n1_; (try clear hb); (try clear hb2); (try clear hk); (try clear hi); (try clear ho0); obtain ⟨Ao10, co10, eo10⟩ := Kd.Ef HO483.out; subst eo10) | (go_at_call 9; (with_reducible refine (D6.calls k _ _ t481 t484 t485 _ ?side1 ?side2 ?side3 A5.out).mono ?_); (case side1 => repeat (first | exact (Kd.Ba HO483.out).2.2 | (with_reducible refine Kd.Ci ?_ _) | (with_reducible refine Kd.Cf ?_ _) | (with_reducible refine Kd.Di ?_))); (case side2 => exact (Kd.Ba HO483.out).2.1); (case side3 => exact F9.below HGL.out (by repeat (first | (with_reducible first | exact HB.out | apply Ae | apply Ac | apply Ad) | exact HB.out))); rintro e w11 ⟨rfl, hb⟩; have n0_ := Aa.mk (Kd.Dk (by (with_reducible repeat (first | apply Kd.Ah | apply Kd.Ai | apply Kd.Ak)); exact HO483.out) hb); have n1_ := Aa.mk (Ap (by repeat (first | (with_reducible first | exact HB.out | apply Ae | apply Ac | apply Ad) | exact HB.out)) hb); clear HO483; clear HB; have HO483 := n0_; have HB := n1_; clear n0_ n1_; (try clear hb); (try clear hb2); (try clear hk); (try clear hi)) | (go_at_call 12; (with_reducible refine (Bz.calls k t484 t486 t487 _ ?side1 A6.out).mono ?_); (case side1 => exact F9.below HGL.out (by repeat (first | (with_reducible first | exact HB.out | apply Ae | apply Ac | apply Ad) | exact HB.out))); rintro e w12 ⟨v488, rfl, ho0, hb⟩; have n0_ := Aa.mk (Kd.Ff (by (with_reducible repeat (first | apply Kd.Ah | apply Kd.Ai | apply Kd.Ak)); exact HO483.out) (Kd.Gg ho0) hb); have n1_ := Aa.mk (Kd.Du (Kd.Gh ho0 (Kd.Gs (by (with_reducible repeat (first | apply Kd.Ah | apply Kd.Ai | apply Kd.Ak)); exact HO483.out))) (Aq (by repeat (first | (with_reducible first | exact HB.out | apply Ae | apply Ac | apply Ad) | exact HB.out)))); have n2_ := Aa.mk (Ap (by repeat (first | (with_reducible first | exact HB.out | apply Ae | apply Ac | apply Ad) | exact HB.out)) hb); clear HO483; clear HB; have HO483 := n0_; have HO489 := n1_; have HB := n2_; clear n0_ n1_ n2_; (try clear hb); (try clear hb2); (try clear hk); (try clear hi); (try clear ho0)) | (go_at_call 7; (with_reducible refine (Ep.calls k _ _ t481 t490 t491 _ ?side1 ?side2 A7.out).mono ?_); (case side1 => repeat (first | exact (Kd.Ba HO483.out).2.2 | (with_reducible refine Kd.Ci ?_ _) | (with_reducible refine Kd.Cf ?_ _) | (with_reducible refine Kd.Di ?_))); (case side2 => exact (Kd.Ba HO483.out).2.1); rintro e w13 ⟨rfl, hb⟩; have n0_ := Aa.mk (Kd.Dk (by (with_reducible repeat (first | apply Kd.Ah | apply Kd.Ai | apply Kd.Ak)); exact HO483.out) hb); have n1_ := Aa.mk (Kd.Dk (by (with_reducible repeat (first | apply Kd.Ah | apply Kd.Ai | apply Kd.Ak)); exact HO489.out) hb); have n2_ := Aa.mk (Ap (by repeat (first | (with_reducible first | exact HB.out | apply Ae | apply Ac | apply Ad) | exact HB.out)) hb); clear HO483; clear HO489; clear HB; have HO483 := n0_; have HO489 := n1_; have HB := n2_; clear n0_ n1_ n2_; (try clear hb); (try clear hb2); (try clear hk); (try clear hi)))
    repeat (go_quiet (first | (go_at_call 15; (with_reducible refine (Ig.calls _ _ l0 false _ ?side1 ?side2 A2.out).mono ?_); (case side1 => repeat (first | exact HR0.out | (with_reducible refine Kd.Ci ?_ _) | (with_reducible refine Kd.Cf ?_ _) | (with_reducible refine Kd.Di ?_))); (case side2 => exact HC0.out); rintro e w' ⟨rfl, ⟨nd, rfl⟩⟩; (try first | exact ⟨rfl, _, World.drewN_drewN _ _ _⟩ | exact ⟨rfl, _, Eq.trans (World.drewN_drewN _ _ _) (congrArg (World.drewN _) (Nat.add_assoc _ _ _))⟩)) | (go_at_call 16; (with_reducible refine (Ed.calls k _ _ l0 t481 _ ?side1 ?side2 A4.out).mono ?_); (case side1 => repeat (first | exact HR0.out | (with_reducible refine Kd.Ci ?_ _) | (with_reducible refine Kd.Cf ?_ _) | (with_reducible refine Kd.Di ?_))); (case side2 => exact HC0.out); rintro e w9 ⟨v482, rfl, ho0, hb⟩; have n0_ := Aa.mk (Kd.Du ho0 (Aq (by repeat (first | (with_reducible first | exact HB.out | apply Ae | apply Ac | apply Ad) | exact HB.out)))); have n1_ := Aa.mk (Ap (by repeat (first | (with_reducible first | exact HB.out | apply Ae | apply Ac | apply Ad) | exact HB.out)) hb); clear HB; have HO483 := n0_; have HB := n1_; clear n0_ n1_; (try clear hb); (try clear hb2); (try clear hk); (try clear hi); (try clear ho0); obtain ⟨Ao10, co10, eo10⟩ := Kd.Ef HO483.out; subst eo10) | (go_at_call 9; (with_reducible refine (D6.calls k _ _ t481 t484 t485 _ ?side1 ?side2 ?side3 A5.out).mono ?_); (case side1 => repeat (first | exact (Kd.Ba HO483.out).2.2 | (with_reducible refine Kd.Ci ?_ _) | (with_reducible refine Kd.Cf ?_ _) | (with_reducible refine Kd.Di ?_))); (case side2 => exact (Kd.Ba HO483.out).2.1); (case side3 => exact F9.below HGL.out (by repeat (first | (with_reducible first | exact HB.out | apply Ae | apply Ac | apply Ad) | exact HB.out))); rintro e w11 ⟨rfl, hb⟩; have n0_ := Aa.mk (Kd.Dk (by (with_reducible repeat (first | apply Kd.Ah | apply Kd.Ai | apply Kd.Ak)); exact HO483.out) hb); have n1_ := Aa.mk (Ap (by repeat (first | (with_reducible first | exact HB.out | apply Ae | apply Ac | apply Ad) | exact HB.out)) hb); clear HO483; clear HB; have HO483 := n0_; have HB := n1_; clear n0_ n1_; (try clear hb); (try clear hb2); (try clear hk); (try clear hi)) | (go_at_call 12; (with_reducible refine (Bz.calls k t484 t486 t487 _ ?side1 A6.out).mono ?_); (case side1 => exact F9.below HGL.out (by repeat (first | (with_reducible first | exact HB.out | apply Ae | apply Ac | apply Ad) | exact HB.out))); rintro e w12 ⟨v488, rfl, ho0, hb⟩; have n0_ := Aa.mk (Kd.Ff (by (with_reducible repeat (first | apply Kd.Ah | apply Kd.Ai | apply Kd.Ak)); exact HO483.out) (Kd.Gg ho0) hb); have n1_ := Aa.mk (Kd.Du (Kd.Gh ho0 (Kd.Gs (by (with_reducible repeat (first | apply Kd.Ah | apply Kd.Ai | apply Kd.Ak)); exact HO483.out))) (Aq (by repeat (first | (with_reducible first | exact HB.out | apply Ae | apply Ac | apply Ad) | exact HB.out)))); have n2_ := Aa.mk (Ap (by repeat (first | (with_reducible first | exact HB.out | apply Ae | apply Ac | apply Ad) | exact HB.out)) hb); clear HO483; clear HB; have HO483 := n0_; have HO489 := n1_; have HB := n2_; clear n0_ n1_ n2_; (try clear hb); (try clear hb2); (try clear hk); (try clear hi); (try clear ho0)) | (go_at_call 7; (with_reducible refine (Ep.calls k _ _ t481 t490 t491 _ ?side1 ?side2 A7.out).mono ?_); (case side1 => repeat (first | exact (Kd.Ba HO483.out).2.2 | (with_reducible refine Kd.Ci ?_ _) | (with_reducible refine Kd.Cf ?_ _) | (with_reducible refine Kd.Di ?_))); (case side2 => exact (Kd.Ba HO483.out).2.1); rintro e w13 ⟨rfl, hb⟩; have n0_ := Aa.mk (Kd.Dk (by (with_reducible repeat (first | apply Kd.Ah | apply Kd.Ai | apply Kd.Ak)); exact HO483.out) hb); have n1_ := Aa.mk (Kd.Dk (by (with_reducible repeat (first | apply Kd.Ah | apply Kd.Ai | apply Kd.Ak)); exact HO489.out) hb); have n2_ := Aa.mk (Ap (by repeat (first | (with_reducible first | exact HB.out | apply Ae | apply Ac | apply Ad) | exact HB.out)) hb); clear HO483; clear HO489; clear HB; have HO483 := n0_; have HO489 := n1_; have HB := n2_; clear n0_ n1_ n2_; (try clear hb); (try clear hb2); (try clear hk); (try clear hi))); go_upto_region 7 with (first | (go_at_call 15; (with_reducible refine (Ig.calls _ _ l0 false _ ?side1 ?side2 A2.out).mono ?_); (case side1 => repeat (first | exact HR0.out | (with_reducible refine Kd.Ci ?_ _) | (with_reducible refine Kd.Cf ?_ _) | (with_reducible refine Kd.Di ?_))); (case side2 => exact HC0.out); rintro e w' ⟨rfl, ⟨nd, rfl⟩⟩; (try first | exact ⟨rfl, _, World.drewN_drewN _ _ _⟩ | exact ⟨rfl, _, Eq.trans (World.drewN_drewN _ _ _) (congrArg (World.drewN _) (Nat.add_assoc _ _ _))⟩)) | (go_at_call 16; (with_reducible refine (Ed.calls k _ _ l0 t481 _ ?side1 ?side2 A4.out).mono ?_); (case side1 => repeat (first | exact HR0.out | (with_reducible refine Kd.Ci ?_ _) | (with_reducible refine Kd.Cf ?_ _) | (with_reducible refine Kd.Di ?_))); (case side2 => exact HC0.out); rintro e w9 ⟨v482, rfl, ho0, hb⟩; have n0_ := Aa.mk (Kd.Du ho0 (Aq (by repeat (first | (with_reducible first | exact HB.out | apply Ae | apply Ac | apply Ad) | exact HB.out)))); have n1_ := Aa.mk (Ap (by repeat (first | (with_reducible first | exact HB.out | apply Ae | apply Ac | apply Ad) | exact HB.out)) hb); clear HB; have HO483 := n0_; have HB := n1_; clear n0_ n1_; (try clear hb); (try clear hb2); (try clear hk); (try clear hi); (try clear ho0); obtain ⟨Ao10, co10, eo10⟩ := Kd.Ef HO483.out; subst eo10) | (go_at_call 9; (with_reducible refine (D6.calls k _ _ t481 t484 t485 _ ?side1 ?side2 ?side3 A5.out).mono ?_); (case side1 => repeat (first | exact (Kd.Ba HO483.out).2.2 | (with_reducible refine Kd.Ci ?_ _) | (with_reducible refine Kd.Cf ?_ _) | (with_reducible refine Kd.Di ?_))); (case side2 => exact (Kd.Ba HO483.out).2.1); (case side3 => exact F9.below HGL.out (by repeat (first | (with_reducible first | exact HB.out | apply Ae | apply Ac | apply Ad) | exact HB.out))); rintro e w11 ⟨rfl, hb⟩; have n0_ := Aa.mk (Kd.Dk (by (with_reducible repeat (first | apply Kd.Ah | apply Kd.Ai | apply Kd.Ak)); exact HO483.out) hb); have n1_ := Aa.mk (Ap (by repeat (first | (with_reducible first | exact HB.out | apply Ae | apply Ac | apply Ad) | exact HB.out)) hb); clear HO483; clear HB; have HO483 := n0_; have HB := n1_; clear n0_ n1_; (try clear hb); (try clear hb2); (try clear hk); (try clear hi)) | (go_at_call 12; (with_reducible refine (Bz.calls k t484 t486 t487 _ ?side1 A6.out).mono ?_); (case side1 => exact F9.below HGL.out (by repeat (first | (with_reducible first | exact HB.out | apply Ae | apply Ac | apply Ad) | exact HB.out))); rintro e w12 ⟨v488, rfl, ho0, hb⟩; have n0_ := Aa.mk (Kd.Ff (by (with_reducible repeat (first | apply Kd.Ah | apply Kd.Ai | apply Kd.Ak)); exact HO483.out) (Kd.Gg ho0) hb); have n1_ := Aa.mk (Kd.Du (Kd.Gh ho0 (Kd.Gs (by (with_reducible repeat (first | apply Kd.Ah | apply Kd.Ai | apply Kd.Ak)); exact HO483.out))) (Aq (by repeat (first | (with_reducible first | exact HB.out | apply Ae | apply Ac | apply Ad) | exact HB.out)))); have n2_ := Aa.mk (Ap (by repeat (first | (with_reducible first | exact HB.out | apply Ae | apply Ac | apply Ad) | exact HB.out)) hb); clear HO483; clear HB; have HO483 := n0_; have HO489 := n1_; have HB := n2_; clear n0_ n1_ n2_; (try clear hb); (try clear hb2); (try clear hk); (try clear hi); (try clear ho0)) | (go_at_call 7; (with_reducible refine (Ep.calls k _ _ t481 t490 t491 _ ?side1 ?side2 A7.out).mono ?_); (case side1 => repeat (first | exact (Kd.Ba HO483.out).2.2 | (with_reducible refine Kd.Ci ?_ _) | (with_reducible refine Kd.Cf ?_ _) | (with_reducible refine Kd.Di ?_))); (case side2 => exact (Kd.Ba HO483.out).2.1); rintro e w13 ⟨rfl, hb⟩; have n0_ := Aa.mk (Kd.Dk (by (with_reducible repeat (first | apply Kd.Ah | apply Kd.Ai | apply Kd.Ak)); exact HO483.out) hb); have n1_ := Aa.mk (Kd.Dk (by (with_reducible repeat (first | apply Kd.Ah | apply Kd.Ai | apply Kd.Ak)); exact HO489.out) hb); have n2_ := Aa.mk (Ap (by repeat (first | (with_reducible first | exact HB.out | apply Ae | apply Ac | apply Ad) | exact HB.out)) hb); clear HO483; clear HO489; clear HB; have HO483 := n0_; have HO489 := n1_; have HB := n2_; clear n0_ n1_ n2_; (try clear hb); (try clear hb2); (try clear hk); (try clear hi))))
    (try simp only [Act.put, List.setIfInBounds_toArray, List.set_cons_zero, List.set_cons_succ])
    go_cut [69] (fun v69 wc => ∃ (kq : Nat) (x69_7 : Bool), v69 = .bool x69_7 ∧ Aa (Aj.j0 kq l0 x69_7 = some r) ∧ Aa (kq ≤ k) ∧ Aa (Below w.heap.size w wc))
    case first =>
      have H := HC8.out
      clear HC8
      by_cases c14 : t484.toList = t490.toList
      · rw [if_pos c14] at H
        have c14b0 : (t484.toList == t490.toList) = true := beq_iff_eq.mpr c14
        have c14b1 : (t484.toList != t490.toList) = false := bne_eq_false_iff_eq.mpr c14
        clear c14
        (first | rw [c14b0] | (simp only [Dh, Dp]; rw [c14b0]) | skip)
        by_cases c15 : (t485 != t491) = true
        · rw [if_pos c15] at H
          have c15b0 : (t485 != t491) = true := c15
          (try (have c15b1 : decide (t485 = t491) = false := by simpa using c15))
          (try (have c15b2 : (t485 == t491) = false := by simpa using c15))
          (try (have c15b3 : ¬ (t485 = t491) := by simpa using c15))
          clear c15
          have H' := Aa.mk H
          clear H
          go_wp2
          repeat (go_quiet (fail); try go_wp2)
          go_meet
          case rel => exact ⟨_, (true), (by first | rfl | (simp; done) | (simp [*]; done)), H', ⟨by first | omega | exact Nat.le_refl _⟩, ⟨by repeat (first | (with_reducible first | exact HB.out | apply Ae | apply Ac | apply Ad) | exact HB.out)⟩⟩
        · rw [if_neg c15] at H
          have c15b0 : (t485 != t491) = false := by simpa using c15
          (try (have c15b1 : decide (t485 = t491) = true := by simpa using c15))
          (try (have c15b2 : (t485 == t491) = true := by simpa using c15))
          clear c15
          replace H := Option.bind_eq_some_iff.mp H
          obtain ⟨t492, A160, H⟩ := H
          replace H : (if (t492 != t485) = true then (Aj.j0 k l0 true) else (if t485 = true then (if t487 = true then ((Dq.f k t486 t481).bind fun t493 => (Aj.j0 k l0 (!t493))) else (Aj.j0 k l0 true)) else (Aj.j0 k l0 false))) = some r := H
          have A16 := Aa.mk A160
          clear A160
          by_cases c17 : (t492 != t485) = true
          · rw [if_pos c17] at H
            have c17b0 : (t492 != t485) = true := c17
            (try (have c17b1 : decide (t492 = t485) = false := by simpa using c17))
            (try (have c17b2 : (t492 == t485) = false := by simpa using c17))
            (try (have c17b3 : ¬ (t492 = t485) := by simpa using c17))
            clear c17
            have H' := Aa.mk H
            clear H
            go_wp2_with (first | (go_at_call 17; (with_reducible refine (Cm.calls k _ _ t481 t492 _ ?side1 ?side2 A16.out).mono ?_); (case side1 => repeat (first | exact (Kd.Ba HO483.out).2.2 | (with_reducible refine Kd.Ci ?_ _) | (with_reducible refine Kd.Cf ?_ _) | (with_reducible refine Kd.Di ?_))); (case side2 => exact (Kd.Ba HO483.out).2.1); rintro e w18 ⟨rfl, hb⟩; have n0_ := Aa.mk (Kd.Dk (by (with_reducible repeat (first | apply Kd.Ah | apply Kd.Ai | apply Kd.Ak)); exact HO483.out) hb); have n1_ := Aa.mk (Kd.Dk (by (with_reducible repeat (first | apply Kd.Ah | apply Kd.Ai | apply Kd.Ak)); exact HO489.out) hb); have n2_ := Aa.mk (Ap (by repeat (first | (with_reducible first | exact HB.out | apply Ae | apply Ac | apply Ad) | exact HB.out)) hb); clear HO483; clear HO489; clear HB; have HO483 := n0_; have HO489 := n1_; have HB := n2_; clear n0_ n1_ n2_; (try clear hb); (try clear hb2); (try clear hk); (try clear hi)))
            repeat (go_quiet (first | (go_at_call 17; (with_reducible refine (Cm.calls k _ _ t481 t492 _ ?side1 ?side2 A16.out).mono ?_); (case side1 => repeat (first | exact (Kd.Ba HO483.out).2.2 | (with_reducible refine Kd.Ci ?_ _) | (with_reducible refine Kd.Cf ?_ _) | (with_reducible refine Kd.Di ?_))); (case side2 => exact (Kd.Ba HO483.out).2.1); rintro e w18 ⟨rfl, hb⟩; have n0_ := Aa.mk (Kd.Dk (by (with_reducible repeat (first | apply Kd.Ah | apply Kd.Ai | apply Kd.Ak)); exact HO483.out) hb); have n1_ := Aa.mk (Kd.Dk (by (with_reducible repeat (first | apply Kd.Ah | apply Kd.Ai | apply Kd.Ak)); exact HO489.out) hb); have n2_ := Aa.mk (Ap (by repeat (first | (with_reducible first | exact HB.out | apply Ae | apply Ac | apply Ad) | exact HB.out)) hb); clear HO483; clear HO489; clear HB; have HO483 := n0_; have HO489 := n1_; have HB := n2_; clear n0_ n1_ n2_; (try clear hb); (try clear hb2); (try clear hk); (try clear hi))); try go_wp2_with (first | (go_at_call 17; (with_reducible refine (Cm.calls k _ _ t481 t492 _ ?side1 ?side2 A16.out).mono ?_); (case side1 => repeat (first | exact (Kd.Ba HO483.out).2.2 | (with_reducible refine Kd.Ci ?_ _) | (with_reducible refine Kd.Cf ?_ _) | (with_reducible refine Kd.Di ?_))); (case side2 => exact (Kd.Ba HO483.out).2.1); rintro e w18 ⟨rfl, hb⟩; have n0_ := Aa.mk (Kd.Dk (by (with_reducible repeat (first | apply Kd.Ah | apply Kd.Ai | apply Kd.Ak)); exact HO483.out) hb); have n1_ := Aa.mk (Kd.Dk (by (with_reducible repeat (first | apply Kd.Ah | apply Kd.Ai | apply Kd.Ak)); exact HO489.out) hb); have n2_ := Aa.mk (Ap (by repeat (first | (with_reducible first | exact HB.out | apply Ae | apply Ac | apply Ad) | exact HB.out)) hb); clear HO483; clear HO489; clear HB; have HO483 := n0_; have HO489 := n1_; have HB := n2_; clear n0_ n1_ n2_; (try clear hb); (try clear hb2); (try clear hk); (try clear hi))))
            go_meet
            case rel => exact ⟨_, (true), (by first | rfl | (simp; done) | (simp [*]; done)), H', ⟨by first | omega | exact Nat.le_refl _⟩, ⟨by repeat (first | (with_reducible first | exact HB.out | apply Ae | apply Ac | apply Ad) | exact HB.out)⟩⟩
          · rw [if_neg c17] at H
            have c17b0 : (t492 != t485) = false := by simpa using c17
            (try (have c17b1 : decide (t492 = t485) = true := by simpa using c17))
            (try (have c17b2 : (t492 == t485) = true := by simpa using c17))
            clear c17
            by_cases c19 : t485 = true
            · subst c19
              have H1 : (if t487 = true then ((Dq.f k t486 t481).bind fun t493 => (Aj.j0 k l0 (!t493))) else (Aj.j0 k l0 true)) = some r := by rw [if_pos rfl] at H; exact H
              clear H
              have H := H1
              clear H1
              by_cases c20 : t487 = true
              · subst c20
                have H1 : ((Dq.f k t486 t481).bind fun t493 => (Aj.j0 k l0 (!t493))) = some r := by rw [if_pos rfl] at H; exact H
                clear H
                have H := H1
                clear H1
                replace H := Option.bind_eq_some_iff.mp H
                obtain ⟨t493, A210, H⟩ := H
                replace H : (Aj.j0 k l0 (!t493)) = some r := H
                have A21 := Aa.mk A210
                clear A210
                have H' := Aa.mk H
                clear H
                go_wp2_with (first | (go_at_call 17; (with_reducible refine (Cm.calls k _ _ t481 t492 _ ?side1 ?side2 A16.out).mono ?_); (case side1 => repeat (first | exact (Kd.Ba HO483.out).2.2 | (with_reducible refine Kd.Ci ?_ _) | (with_reducible refine Kd.Cf ?_ _) | (with_reducible refine Kd.Di ?_))); (case side2 => exact (Kd.Ba HO483.out).2.1); rintro e w22 ⟨rfl, hb⟩; have n0_ := Aa.mk (Kd.Dk (by (with_reducible repeat (first | apply Kd.Ah | apply Kd.Ai | apply Kd.Ak)); exact HO483.out) hb); have n1_ := Aa.mk (Kd.Dk (by (with_reducible repeat (first | apply Kd.Ah | apply Kd.Ai | apply Kd.Ak)); exact HO489.out) hb); have n2_ := Aa.mk (Ap (by repeat (first | (with_reducible first | exact HB.out | apply Ae | apply Ac | apply Ad) | exact HB.out)) hb); clear HO483; clear HO489; clear HB; have HO483 := n0_; have HO489 := n1_; have HB := n2_; clear n0_ n1_ n2_; (try clear hb); (try clear hb2); (try clear hk); (try clear hi); obtain ⟨Ao23, co23, eo23⟩ := Kd.Ef HO489.out; subst eo23) | (go_at_call 18; (with_reducible refine (Dq.calls k _ _ t486 _ _ t481 t493 _ ?side1 ?side2 ?side3 ?side4 A21.out).mono ?_); (case side1 => repeat (first | exact (Kd.Ba HO489.out).2.2 | (with_reducible refine Kd.Ci ?_ _) | (with_reducible refine Kd.Cf ?_ _) | (with_reducible refine Kd.Di ?_))); (case side2 => exact (Kd.Ba HO489.out).2.1); (case side3 => repeat (first | exact (Kd.Ba HO483.out).2.2 | (with_reducible refine Kd.Ci ?_ _) | (with_reducible refine Kd.Cf ?_ _) | (with_reducible refine Kd.Di ?_))); (case side4 => exact (Kd.Ba HO483.out).2.1); rintro e w' ⟨rfl, ⟨nd, rfl⟩⟩; (try first | exact ⟨rfl, _, World.drewN_drewN _ _ _⟩ | exact ⟨rfl, _, Eq.trans (World.drewN_drewN _ _ _) (congrArg (World.drewN _) (Nat.add_assoc _ _ _))⟩)))
                repeat (go_quiet (first | (go_at_call 17; (with_reducible refine (Cm.calls k _ _ t481 t492 _ ?side1 ?side2 A16.out).mono ?_); (case side1 => repeat (first | exact (Kd.Ba HO483.out).2.2 | (with_reducible refine Kd.Ci ?_ _) | (with_reducible refine Kd.Cf ?_ _) | (with_reducible refine Kd.Di ?_))); (case side2 => exact (Kd.Ba HO483.out).2.1); rintro e w22 ⟨rfl, hb⟩; have n0_ := Aa.mk (Kd.Dk (by (with_reducible repeat (first | apply Kd.Ah | apply Kd.Ai | apply Kd.Ak)); exact HO483.out) hb); have n1_ := Aa.mk (Kd.Dk (by (with_reducible repeat (first | apply Kd.Ah | apply Kd.Ai | apply Kd.Ak)); exact HO489.out) hb); have n2_ := Aa.mk (Ap (by repeat (first | (with_reducible first | exact HB.out | apply Ae | apply Ac | apply Ad) | exact HB.out)) hb); clear HO483; clear HO489; clear HB; have HO483 := n0_; have HO489 := n1_; have HB := n2_; clear n0_ n1_ n2_; (try clear hb); (try clear hb2); (try clear hk); (try clear hi); obtain ⟨Ao23, co23, eo23⟩ := Kd.Ef HO489.out; subst eo23) | (go_at_call 18; (with_reducible refine (Dq.calls k _ _ t486 _ _ t481 t493 _ ?side1 ?side2 ?side3 ?side4 A21.out).mono ?_); (case side1 => repeat (first | exact (Kd.Ba HO489.out).2.2 | (with_reducible refine Kd.Ci ?_ _) | (with_reducible refine Kd.Cf ?_ _) | (with_reducible refine Kd.Di ?_))); (case side2 => exact (Kd.Ba HO489.out).2.1); (case side3 => repeat (first | exact (Kd.Ba HO483.out).2.2 | (with_reducible refine Kd.Ci ?_ _) | (with_reducible refine Kd.Cf ?_ _) | (with_reducible refine Kd.Di ?_))); (case side4 => exact (Kd.Ba HO483.out).2.1); rintro e w' ⟨rfl, ⟨nd, rfl⟩⟩; (try first | exact ⟨rfl, _, World.drewN_drewN _ _ _⟩ | exact ⟨rfl, _, Eq.trans (World.drewN_drewN _ _ _) (congrArg (World.drewN _) (Nat.add_assoc _ _ _))⟩))); try go_wp2_with (first | (go_at_call 17; (with_reducible refine (Cm.calls k _ _ t481 t492 _ ?side1 ?side2 A16.out).mono ?_); (case side1 => repeat (first | exact (Kd.Ba HO483.out).2.2 | (with_reducible refine Kd.Ci ?_ _) | (with_reducible refine Kd.Cf ?_ _) | (with_reducible refine Kd.Di ?_))); (case side2 => exact (Kd.Ba HO483.out).2.1); rintro e w22 ⟨rfl, hb⟩; have n0_ := Aa.mk (Kd.Dk (by (with_reducible repeat (first | apply Kd.Ah | apply Kd.Ai | apply Kd.Ak)); exact HO483.out) hb); have n1_ := Aa.mk (Kd.Dk (by (with_reducible repeat (first | apply Kd.Ah | apply Kd.Ai | apply Kd.Ak)); exact HO489.out) hb); have n2_ := Aa.mk (Ap (by repeat (first | (with_reducible first | exact HB.out | apply Ae | apply Ac | apply Ad) | exact HB.out)) hb); clear HO483; clear HO489; clear HB; have HO483 := n0_; have HO489 := n1_; have HB := n2_; clear n0_ n1_ n2_; (try clear hb); (try clear hb2); (try clear hk); (try clear hi); obtain ⟨Ao23, co23, eo23⟩ := Kd.Ef HO489.out; subst eo23) | (go_at_call 18; (with_reducible refine (Dq.calls k _ _ t486 _ _ t481 t493 _ ?side1 ?side2 ?side3 ?side4 A21.out).mono ?_); (case side1 => repeat (first | exact (Kd.Ba HO489.out).2.2 | (with_reducible refine Kd.Ci ?_ _) | (with_reducible refine Kd.Cf ?_ _) | (with_reducible refine Kd.Di ?_))); (case side2 => exact (Kd.Ba HO489.out).2.1); (case side3 => repeat (first | exact (Kd.Ba HO483.out).2.2 | (with_reducible refine Kd.Ci ?_ _) | (with_reducible refine Kd.Cf ?_ _) | (with_reducible refine Kd.Di ?_))); (case side4 => exact (Kd.Ba HO483.out).2.1); rintro e w' ⟨rfl, ⟨nd, rfl⟩⟩; (try first | exact ⟨rfl, _, World.drewN_drewN _ _ _⟩ | exact ⟨rfl, _, Eq.trans (World.drewN_drewN _ _ _) (congrArg (World.drewN _) (Nat.add_assoc _ _ _))⟩))))
                go_meet
                case rel => exact ⟨_, (!t493), (by first | rfl | (simp; done) | (simp [*]; done)), H', ⟨by first | omega | exact Nat.le_refl _⟩, ⟨by repeat (first | (with_reducible first | exact HB.out | apply Ae | apply Ac | apply Ad) | exact HB.out)⟩⟩
              · replace c20 := Bool.eq_false_iff.mpr c20
                subst c20
                have H1 : (Aj.j0 k l0 true) = some r := by rw [if_neg (show ¬ (false = true) by decide)] at H; exact H
                clear H
                have H := H1
                clear H1
                have H' := Aa.mk H
                clear H
                go_wp2_with (first | (go_at_call 17; (with_reducible refine (Cm.calls k _ _ t481 t492 _ ?side1 ?side2 A16.out).mono ?_); (case side1 => repeat (first | exact (Kd.Ba HO483.out).2.2 | (with_reducible refine Kd.Ci ?_ _) | (with_reducible refine Kd.Cf ?_ _) | (with_reducible refine Kd.Di ?_))); (case side2 => exact (Kd.Ba HO483.out).2.1); rintro e w24 ⟨rfl, hb⟩; have n0_ := Aa.mk (Kd.Dk (by (with_reducible repeat (first | apply Kd.Ah | apply Kd.Ai | apply Kd.Ak)); exact HO483.out) hb); have n1_ := Aa.mk (Kd.Dk (by (with_reducible repeat (first | apply Kd.Ah | apply Kd.Ai | apply Kd.Ak)); exact HO489.out) hb); have n2_ := Aa.mk (Ap (by repeat (first | (with_reducible first | exact HB.out | apply Ae | apply Ac | apply Ad) | exact HB.out)) hb); clear HO483; clear HO489; clear HB; have HO483 := n0_; have HO489 := n1_; have HB := n2_; clear n0_ n1_ n2_; (try clear hb); (try clear hb2); (try clear hk); (try clear hi)))
                repeat (go_quiet (first | (go_at_call 17; (with_reducible refine (Cm.calls k _ _ t481 t492 _ ?side1 ?side2 A16.out).mono ?_); (case side1 => repeat (first | exact (Kd.Ba HO483.out).2.2 | (with_reducible refine Kd.Ci ?_ _) | (with_reducible refine Kd.Cf ?_ _) | (with_reducible refine Kd.Di ?_))); (case side2 => exact (Kd.Ba HO483.out).2.1); rintro e w24 ⟨rfl, hb⟩; have n0_ := Aa.mk (Kd.Dk (by (with_reducible repeat (first | apply Kd.Ah | apply Kd.Ai | apply Kd.Ak)); exact HO483.out) hb); have n1_ := Aa.mk (Kd.Dk (by (with_reducible repeat (first | apply Kd.Ah | apply Kd.Ai | apply Kd.Ak)); exact HO489.out) hb); have n2_ := Aa.mk (Ap (by repeat (first | (with_reducible first | exact HB.out | apply Ae | apply Ac | apply Ad) | exact HB.out)) hb); clear HO483; clear HO489; clear HB; have HO483 := n0_; have HO489 := n1_; have HB := n2_; clear n0_ n1_ n2_; (try clear hb); (try clear hb2); (try clear hk); (try clear hi))); try go_wp2_with (first | (go_at_call 17; (with_reducible refine (Cm.calls k _ _ t481 t492 _ ?side1 ?side2 A16.out).mono ?_); (case side1 => repeat (first | exact (Kd.Ba HO483.out).2.2 | (with_reducible refine Kd.Ci ?_ _) | (with_reducible refine Kd.Cf ?_ _) | (with_reducible refine Kd.Di ?_))); (case side2 => exact (Kd.Ba HO483.out).2.1); rintro e w24 ⟨rfl, hb⟩; have n0_ := Aa.mk (Kd.Dk (by (with_reducible repeat (first | apply Kd.Ah | apply Kd.Ai | apply Kd.Ak)); exact HO483.out) hb); have n1_ := Aa.mk (Kd.Dk (by (with_reducible repeat (first | apply Kd.Ah | apply Kd.Ai | apply Kd.Ak)); exact HO489.out) hb); have n2_ := Aa.mk (Ap (by repeat (first | (with_reducible first | exact HB.out | apply Ae | apply Ac | apply Ad) | exact HB.out)) hb); clear HO483; clear HO489; clear HB; have HO483 := n0_; have HO489 := n1_; have HB := n2_; clear n0_ n1_ n2_; (try clear hb); (try clear hb2); (try clear hk); (try clear hi))))
                go_meet
                case rel => exact ⟨_, (true), (by first | rfl | (simp; done) | (simp [*]; done)), H', ⟨by first | omega | exact Nat.le_refl _⟩, ⟨by repeat (first | (with_reducible first | exact HB.out | apply Ae | apply Ac | apply Ad) | exact HB.out)⟩⟩
            · replace c19 := Bool.eq_false_iff.mpr c19
              subst c19
              have H1 : (Aj.j0 k l0 false) = some r := by rw [if_neg (show ¬ (false = true) by decide)] at H; exact H
              clear H
              have H := H1
              clear H1
              have H' := Aa.mk H
              clear H
              go_wp2_with (first | (go_at_call 17; (with_reducible refine (Cm.calls k _ _ t481 t492 _ ?side1 ?side2 A16.out).mono ?_); (case side1 => repeat (first | exact (Kd.Ba HO483.out).2.2 | (with_reducible refine Kd.Ci ?_ _) | (with_reducible refine Kd.Cf ?_ _) | (with_reducible refine Kd.Di ?_))); (case side2 => exact (Kd.Ba HO483.out).2.1); rintro e w25 ⟨rfl, hb⟩; have n0_ := Aa.mk (Kd.Dk (by (with_reducible repeat (first | apply Kd.Ah | apply Kd.Ai | apply Kd.Ak)); exact HO483.out) hb); have n1_ := Aa.mk (Kd.Dk (by (with_reducible repeat (first | apply Kd.Ah | apply Kd.Ai | apply Kd.Ak)); exact HO489.out) hb); have n2_ := Aa.mk (Ap (by repeat (first | (with_reducible first | exact HB.out | apply Ae | apply Ac | apply Ad) | exact HB.out)) hb); clear HO483; clear HO489; clear HB; have HO483 := n0_; have HO489 := n1_; have HB := n2_; clear n0_ n1_ n2_; (try clear hb); (try clear hb2); (try clear hk); (try clear hi)))
              repeat (go_quiet (first | (go_at_call 17; (with_reducible refine (Cm.calls k _ _ t481 t492 _ ?side1 ?side2 A16.out).mono ?_); (case side1 => repeat (first | exact (Kd.Ba HO483.out).2.2 | (with_reducible refine Kd.Ci ?_ _) | (with_reducible refine Kd.Cf ?_ _) | (with_reducible refine Kd.Di ?_))); (case side2 => exact (Kd.Ba HO483.out).2.1); rintro e w25 ⟨rfl, hb⟩; have n0_ := Aa.mk (Kd.Dk (by (with_reducible repeat (first | apply Kd.Ah | apply Kd.Ai | apply Kd.Ak)); exact HO483.out) hb); have n1_ := Aa.mk (Kd.Dk (by (with_reducible repeat (first | apply Kd.Ah | apply Kd.Ai | apply Kd.Ak)); exact HO489.out) hb); have n2_ := Aa.mk (Ap (by repeat (first | (with_reducible first | exact HB.out | apply Ae | apply Ac | apply Ad) | exact HB.out)) hb); clear HO483; clear HO489; clear HB; have HO483 := n0_; have HO489 := n1_; have HB := n2_; clear n0_ n1_ n2_; (try clear hb); (try clear hb2); (try clear hk); (try clear hi))); try go_wp2_with (first | (go_at_call 17; (with_reducible refine (Cm.calls k _ _ t481 t492 _ ?side1 ?side2 A16.out).mono ?_); (case side1 => repeat (first | exact (Kd.Ba HO483.out).2.2 | (with_reducible refine Kd.Ci ?_ _) | (with_reducible refine Kd.Cf ?_ _) | (with_reducible refine Kd.Di ?_))); (case side2 => exact (Kd.Ba HO483.out).2.1); rintro e w25 ⟨rfl, hb⟩; have n0_ := Aa.mk (Kd.Dk (by (with_reducible repeat (first | apply Kd.Ah | apply Kd.Ai | apply Kd.Ak)); exact HO483.out) hb); have n1_ := Aa.mk (Kd.Dk (by (with_reducible repeat (first | apply Kd.Ah | apply Kd.Ai | apply Kd.Ak)); exact HO489.out) hb); have n2_ := Aa.mk (Ap (by repeat (first | (with_reducible first | exact HB.out | apply Ae | apply Ac | apply Ad) | exact HB.out)) hb); clear HO483; clear HO489; clear HB; have HO483 := n0_; have HO489 := n1_; have HB := n2_; clear n0_ n1_ n2_; (try clear hb); (try clear hb2); (try clear hk); (try clear hi))))
              go_meet
              case rel => exact ⟨_, (false), (by first | rfl | (simp; done) | (simp [*]; done)), H', ⟨by first | omega | exact Nat.le_refl _⟩, ⟨by repeat (first | (with_reducible first | exact HB.out | apply Ae | apply Ac | apply Ad) | exact HB.out)⟩⟩
      · rw [if_neg c14] at H
        have c14b0 : (t484.toList == t490.toList) = false := beq_eq_false_iff_ne.mpr c14
        have c14b1 : (t484.toList != t490.toList) = true := bne_iff_ne.mpr c14
        (first | rw [c14b0] | (simp only [Dh, Dp]; rw [c14b0]) | skip)
        have H' := Aa.mk H
        clear H
        go_wp2
        repeat (go_quiet (fail); try go_wp2)
        go_meet
        case rel => exact ⟨_, (true), (by first | rfl | (simp; done) | (simp [*]; done)), H', ⟨by first | omega | exact Nat.le_refl _⟩, ⟨by repeat (first | (with_reducible first | exact HB.out | apply Ae | apply Ac | apply Ad) | exact HB.out)⟩⟩
    case rest =>
      clear HC8
      try clear c1
      try clear c2
      try clear p2
      try clear c3
      try clear c5
      try clear c14
      try clear c14b0
      try clear c14b1
      try clear c15
      try clear c15b0
      try clear c15b1
      try clear c15b2
      try clear c17
      try clear c17b0
      try clear c17b1
      try clear c17b2
      try clear c19
      try clear c20
      obtain ⟨kq, x69_7, rfl, HA, HJ7, HB⟩ := hcut
      cases kq with
      | zero => exact absurd HA.out (by simp [Aj.j0])
      | succ kj7 =>
        have H := HA.out
        clear HA
        simp only [Aj.j0] at H
        by_cases c26 : x69_7 = true
        · subst c26
          have H1 : (some false) = some r := by rw [if_pos rfl] at H; exact H
          clear H
          have H := H1
          clear H1
          exact absurd (Option.some.inj H) (by rw [HR_.out]; decide)
        · replace c26 := Bool.eq_false_iff.mpr c26
          subst c26
          have H1 : ((Ec.f kj7 l0).bind fun t494 => ((Bz.f kj7 t494).bind fun bt495 => ((D6.f kj7 bt495.1).bind fun bt499 => (if bt495.2 = true then (if bt499.2 = true then (Aj.j1 kj7 l0 (bt499.1.toList != t494.toList)) else (Aj.j1 kj7 l0 true)) else (Aj.j1 kj7 l0 false))))) = some r := by rw [if_neg (show ¬ (false = true) by decide)] at H; exact H
          clear H
          have H := H1
          clear H1
          replace H := Option.bind_eq_some_iff.mp H
          obtain ⟨t494, A270, H⟩ := H
          replace H : ((Bz.f kj7 t494).bind fun bt495 => ((D6.f kj7 bt495.1).bind fun bt499 => (if bt495.2 = true then (if bt499.2 = true then (Aj.j1 kj7 l0 (bt499.1.toList != t494.toList)) else (Aj.j1 kj7 l0 true)) else (Aj.j1 kj7 l0 false)))) = some r := H
          have A27 := Aa.mk A270
          clear A270
          replace H := Option.bind_eq_some_iff.mp H
          obtain ⟨⟨t495, t496⟩, A280, H⟩ := H
          replace H : ((D6.f kj7 t495).bind fun bt499 => (if t496 = true then (if bt499.2 = true then (Aj.j1 kj7 l0 (bt499.1.toList != t494.toList)) else (Aj.j1 kj7 l0 true)) else (Aj.j1 kj7 l0 false))) = some r := H
          have A28 := Aa.mk A280
          clear A280
          replace H := Option.bind_eq_some_iff.mp H
          obtain ⟨⟨t499, t500⟩, A290, H⟩ := H
          replace H : (if t496 = true then (if t500 = true then (Aj.j1 kj7 l0 (t499.toList != t494.toList)) else (Aj.j1 kj7 l0 true)) else (Aj.j1 kj7 l0 false)) = some r := H
          have A29 := Aa.mk A290
          clear A290
          have HC30 := Aa.mk H
          clear H
          go_upto_region 12 with (first | (go_at_call 19; (with_reducible refine (Ec.calls kj7 _ _ l0 t494 _ ?side1 ?side2 A27.out).mono ?_); (case side1 => repeat (first | exact (Kd.Gm HR0.out HB.out) | (with_reducible refine Kd.Ci ?_ _) | (with_reducible refine Kd.Cf ?_ _) | (with_reducible refine Kd.Di ?_))); (case side2 => exact HC0.out); rintro e w31 ⟨rfl, hb⟩; have n0_ := Aa.mk (Ap (by repeat (first | (with_reducible first | exact HB.out | apply Ae | apply Ac | apply Ad) | exact HB.out)) hb); clear HB; have HB := n0_; clear n0_; (try clear hb); (try clear hb2); (try clear hk); (try clear hi)) | (go_at_call 12; (with_reducible refine (Bz.calls kj7 t494 t495 t496 _ ?side1 A28.out).mono ?_); (case side1 => exact F9.below HGL.out (by repeat (first | (with_reducible first | exact HB.out | apply Ae | apply Ac | apply Ad) | exact HB.out))); rintro e w32 ⟨v497, rfl, ho0, hb⟩; have n0_ := Aa.mk (Kd.Du ho0 (Aq (by repeat (first | (with_reducible first | exact HB.out | apply Ae | apply Ac | apply Ad) | exact HB.out)))); have n1_ := Aa.mk (Ap (by repeat (first | (with_reducible first | exact HB.out | apply Ae | apply Ac | apply Ad) | exact HB.out)) hb); clear HB; have HO498 := n0_; have HB := n1_; clear n0_ n1_; (try clear hb); (try clear hb2); (try clear hk); (try clear hi); (try clear ho0); obtain ⟨Ao33, co33, eo33⟩ := Kd.Ef HO498.out; subst eo33) | (go_at_call 9; (with_reducible refine (D6.calls kj7 _ _ t495 t499 t500 _ ?side1 ?side2 ?side3 A29.out).mono ?_); (case side1 => repeat (first | exact (Kd.Ba HO498.out).2.2 | (with_reducible refine Kd.Ci ?_ _) | (with_reducible refine Kd.Cf ?_ _) | (with_reducible refine Kd.Di ?_))); (case side2 => exact (Kd.Ba HO498.out).2.1); (case side3 => exact F9.below HGL.out (by repeat (first | (with_reducible first | exact HB.out | apply Ae | apply Ac | apply Ad) | exact HB.out))); rintro e w34 ⟨rfl, hb⟩; have n0_ := Aa.mk (Kd.Dk (by (with_reducible repeat (first | apply Kd.Ah | apply Kd.Ai | apply Kd.Ak)); exact HO498.out) hb); have n1_ := Aa.mk (Ap (by repeat (first | (with_reducible first | exact HB.out | apply Ae | apply Ac | apply Ad) | exact HB.out)) hb); clear HO498; clear HB; have HO498 := n0_; have HB := n1_; clear n0_ n1_; (try clear hb); (try clear hb2); (try clear hk); (try clear hi)))
          repeat (go_quiet (first | (go_at_call 19; (with_reducible refine (Ec.calls kj7 _ _ l0 t494 _ ?side1 ?side2 A27.out).mono ?_); (case side1 => repeat (first | exact (Kd.Gm HR0.out HB.out) | (with_reducible refine Kd.Ci ?_ _) | (with_reducible refine Kd.Cf ?_ _) | (with_reducible refine Kd.Di ?_))); (case side2 => exact HC0.out); rintro e w31 ⟨rfl, hb⟩; have n0_ := Aa.mk (Ap (by repeat (first | (with_reducible first | exact HB.out | apply Ae | apply Ac | apply Ad) | exact HB.out)) hb); clear HB; have HB := n0_; clear n0_; (try clear hb); (try clear hb2); (try clear hk); (try clear hi)) | (go_at_call 12; (with_reducible refine (Bz.calls kj7 t494 t495 t496 _ ?side1 A28.out).mono ?_); (case side1 => exact F9.below HGL.out (by repeat (first | (with_reducible first | exact HB.out | apply Ae | apply Ac | apply Ad) | exact HB.out))); rintro e w32 ⟨v497, rfl, ho0, hb⟩; have n0_ := Aa.mk (Kd.Du ho0 (Aq (by repeat (first | (with_reducible first | exact HB.out | apply Ae | apply Ac | apply Ad) | exact HB.out)))); have n1_ := Aa.mk (Ap (by repeat (first | (with_reducible first | exact HB.out | apply Ae | apply Ac | apply Ad) | exact HB.out)) hb); clear HB; have HO498 := n0_; have HB := n1_; clear n0_ n1_; (try clear hb); (try clear hb2); (try clear hk); (try clear hi); (try clear ho0); obtain ⟨Ao33, co33, eo33⟩ := Kd.Ef HO498.out; subst eo33) | (go_at_call 9; (with_reducible refine (D6.calls kj7 _ _ t495 t499 t500 _ ?side1 ?side2 ?side3 A29.out).mono ?_); (case side1 => repeat (first | exact (Kd.Ba HO498.out).2.2 | (with_reducible refine Kd.Ci ?_ _) | (with_reducible refine Kd.Cf ?_ _) | (with_reducible refine Kd.Di ?_))); (case side2 => exact (Kd.Ba HO498.out).2.1); (case side3 => exact F9.below HGL.out (by repeat (first | (with_reducible first | exact HB.out | apply Ae | apply Ac | apply Ad) | exact HB.out))); rintro e w34 ⟨rfl, hb⟩; have n0_ := Aa.mk (Kd.Dk (by (with_reducible repeat (first | apply Kd.Ah | apply Kd.Ai | apply Kd.Ak)); exact HO498.out) hb); have n1_ := Aa.mk (Ap (by repeat (first | (with_reducible first | exact HB.out | apply Ae | apply Ac | apply Ad) | exact HB.out)) hb); clear HO498; clear HB; have HO498 := n0_; have HB := n1_; clear n0_ n1_; (try clear hb); (try clear hb2); (try clear hk); (try clear hi))); go_upto_region 12 with (first | (go_at_call 19; (with_reducible refine (Ec.calls kj7 _ _ l0 t494 _ ?side1 ?side2 A27.out).mono ?_); (case side1 => repeat (first | exact (Kd.Gm HR0.out HB.out) | (with_reducible refine Kd.Ci ?_ _) | (with_reducible refine Kd.Cf ?_ _) | (with_reducible refine Kd.Di ?_))); (case side2 => exact HC0.out); rintro e w31 ⟨rfl, hb⟩; have n0_ := Aa.mk (Ap (by repeat (first | (with_reducible first | exact HB.out | apply Ae | apply Ac | apply Ad) | exact HB.out)) hb); clear HB; have HB := n0_; clear n0_; (try clear hb); (try clear hb2); (try clear hk); (try clear hi)) | (go_at_call 12; (with_reducible refine (Bz.calls kj7 t494 t495 t496 _ ?side1 A28.out).mono ?_); (case side1 => exact F9.below HGL.out (by repeat (first | (with_reducible first | exact HB.out | apply Ae | apply Ac | apply Ad) | exact HB.out))); rintro e w32 ⟨v497, rfl, ho0, hb⟩; have n0_ := Aa.mk (Kd.Du ho0 (Aq (by repeat (first | (with_reducible first | exact HB.out | apply Ae | apply Ac | apply Ad) | exact HB.out)))); have n1_ := Aa.mk (Ap (by repeat (first | (with_reducible first | exact HB.out | apply Ae | apply Ac | apply Ad) | exact HB.out)) hb); clear HB; have HO498 := n0_; have HB := n1_; clear n0_ n1_; (try clear hb); (try clear hb2); (try clear hk); (try clear hi); (try clear ho0); obtain ⟨Ao33, co33, eo33⟩ := Kd.Ef HO498.out; subst eo33) | (go_at_call 9; (with_reducible refine (D6.calls kj7 _ _ t495 t499 t500 _ ?side1 ?side2 ?side3 A29.out).mono ?_); (case side1 => repeat (first | exact (Kd.Ba HO498.out).2.2 | (with_reducible refine Kd.Ci ?_ _) | (with_reducible refine Kd.Cf ?_ _) | (with_reducible refine Kd.Di ?_))); (case side2 => exact (Kd.Ba HO498.out).2.1); (case side3 => exact F9.below HGL.out (by repeat (first | (with_reducible first | exact HB.out | apply Ae | apply Ac | apply Ad) | exact HB.out))); rintro e w34 ⟨rfl, hb⟩; have n0_ := Aa.mk (Kd.Dk (by (with_reducible repeat (first | apply Kd.Ah | apply Kd.Ai | apply Kd.Ak)); exact HO498.out) hb); have n1_ := Aa.mk (Ap (by repeat (first | (with_reducible first | exact HB.out | apply Ae | apply Ac | apply Ad) | exact HB.out)) hb); clear HO498; clear HB; have HO498 := n0_; have HB := n1_; clear n0_ n1_; (try clear hb); (try clear hb2); (try clear hk); (try clear hi))))
          (try simp only [Act.put, List.setIfInBounds_toArray, List.set_cons_zero, List.set_cons_succ])
          go_cut [91] (fun v91 wc => ∃ (kq : Nat) (x91_29 : Bool), v91 = .bool x91_29 ∧ Aa (Aj.j1 kq l0 x91_29 = some r) ∧ Aa (kq ≤ kj7) ∧ Aa (Below w.heap.size w wc))
          case first =>
            have H := HC30.out
            clear HC30
            by_cases c35 : t496 = true
            · subst c35
              have H1 : (if t500 = true then (Aj.j1 kj7 l0 (t499.toList != t494.toList)) else (Aj.j1 kj7 l0 true)) = some r := by rw [if_pos rfl] at H; exact H
              clear H
              have H := H1
              clear H1
              by_cases c36 : t500 = true
              · subst c36
                have H1 : (Aj.j1 kj7 l0 (t499.toList != t494.toList)) = some r := by rw [if_pos rfl] at H; exact H
                clear H
                have H := H1
                clear H1
                have H' := Aa.mk H
                clear H
                go_wp2
                repeat (go_quiet (fail); try go_wp2)
                go_meet
                case rel => exact ⟨_, ((t499.toList != t494.toList)), (by first | rfl | (simp; done) | (simp [*]; done)), H', ⟨by have := HJ7.out; first | omega | exact Nat.le_refl _⟩, ⟨by repeat (first | (with_reducible first | exact HB.out | apply Ae | apply Ac | apply Ad) | exact HB.out)⟩⟩
              · replace c36 := Bool.eq_false_iff.mpr c36
                subst c36
                have H1 : (Aj.j1 kj7 l0 true) = some r := by rw [if_neg (show ¬ (false = true) by decide)] at H; exact H
                clear H
                have H := H1
                clear H1
                have H' := Aa.mk H
                clear H
                go_wp2
                repeat (go_quiet (fail); try go_wp2)
                go_meet
                case rel => exact ⟨_, (true), (by first | rfl | (simp; done) | (simp [*]; done)), H', ⟨by have := HJ7.out; first | omega | exact Nat.le_refl _⟩, ⟨by repeat (first | (with_reducible first | exact HB.out | apply Ae | apply Ac | apply Ad) | exact HB.out)⟩⟩
            · replace c35 := Bool.eq_false_iff.mpr c35
              subst c35
              have H1 : (Aj.j1 kj7 l0 false) = some r := by rw [if_neg (show ¬ (false = true) by decide)] at H; exact H
              clear H
              have H := H1
              clear H1
              have H' := Aa.mk H
              clear H
              go_wp2
              repeat (go_quiet (fail); try go_wp2)
              go_meet
              case rel => exact ⟨_, (false), (by first | rfl | (simp; done) | (simp [*]; done)), H', ⟨by have := HJ7.out; first | omega | exact Nat.le_refl _⟩, ⟨by repeat (first | (with_reducible first | exact HB.out | apply Ae | apply Ac | apply Ad) | exact HB.out)⟩⟩
          case rest =>
            clear HC30
            try clear c1
            try clear c2
            try clear p2
            try clear c3
            try clear c5
            try clear c14
            try clear c14b0
            try clear c14b1
            try clear c15
            try clear c15b0
            try clear c15b1
            try clear c15b2
            try clear c17
            try clear c17b0
            try clear c17b1
            try clear c17b2
            try clear c19
            try clear c20
            try clear c26
            try clear c35
            try clear c36
            try clear p2
            obtain ⟨kq, x91_29, rfl, HA, HJ29, HB⟩ := hcut
            cases kq with
            | zero => exact absurd HA.out (by simp [Aj.j1])
            | succ kj29 =>
              have H := HA.out
              clear HA
              simp only [Aj.j1] at H
              by_cases c37 : x91_29 = true
              · subst c37
                have H1 : (some false) = some r := by rw [if_pos rfl] at H; exact H
                clear H
                have H := H1
                clear H1
                exact absurd (Option.some.inj H) (by rw [HR_.out]; decide)
              · replace c37 := Bool.eq_false_iff.mpr c37
                subst c37
                have H1 : ((Ey.f kj29 l0).bind fun bt501 => ((Fe.f kj29 bt501.1 bt501.2.1 bt501.2.2).bind fun bt507 => ((Fa.f kj29 bt501.1 bt501.2.1 bt501.2.2).bind fun bt511 => (if (bt507.2 != bt511.2) = true then (Aj.j2 kj29 bt501.1 bt507.2 true bt501.2.1 bt501.2.2) else ((Dq.f kj29 bt507.1 bt511.1).bind fun t515 => (Aj.j2 kj29 bt501.1 bt507.2 (!t515) bt501.2.1 bt501.2.2)))))) = some r := by rw [if_neg (show ¬ (false = true) by decide)] at H; exact H
                clear H
                have H := H1
                clear H1
                replace H := Option.bind_eq_some_iff.mp H
                obtain ⟨⟨t501, t504, t505⟩, A380, H⟩ := H
                replace H : ((Fe.f kj29 t501 t504 t505).bind fun bt507 => ((Fa.f kj29 t501 t504 t505).bind fun bt511 => (if (bt507.2 != bt511.2) = true then (Aj.j2 kj29 t501 bt507.2 true t504 t505) else ((Dq.f kj29 bt507.1 bt511.1).bind fun t515 => (Aj.j2 kj29 t501 bt507.2 (!t515) t504 t505))))) = some r := H
                have A38 := Aa.mk A380
                clear A380
                replace H := Option.bind_eq_some_iff.mp H
                obtain ⟨⟨t507, t510⟩, A390, H⟩ := H
                replace H : ((Fa.f kj29 t501 t504 t505).bind fun bt511 => (if (t510 != bt511.2) = true then (Aj.j2 kj29 t501 t510 true t504 t505) else ((Dq.f kj29 t507 bt511.1).bind fun t515 => (Aj.j2 kj29 t501 t510 (!t515) t504 t505)))) = some r := H
                have A39 := Aa.mk A390
                clear A390
                replace H := Option.bind_eq_some_iff.mp H
                obtain ⟨⟨t511, t514⟩, A400, H⟩ := H
                replace H : (if (t510 != t514) = true then (Aj.j2 kj29 t501 t510 true t504 t505) else ((Dq.f kj29 t507 t511).bind fun t515 => (Aj.j2 kj29 t501 t510 (!t515) t504 t505))) = some r := H
                have A40 := Aa.mk A400
                clear A400
                have HC41 := Aa.mk H
                clear H
                go_upto_region 17 with (first | (go_at_call 20; (with_reducible refine (Ey.calls kj29 _ _ l0 t501 t504 t505 _ ?side1 ?side2 A38.out).mono ?_); (case side1 => repeat (first | exact (Kd.Gm HR0.out HB.out) | (with_reducible refine Kd.Ci ?_ _) | (with_reducible refine Kd.Cf ?_ _) | (with_reducible refine Kd.Di ?_))); (case side2 => exact HC0.out); rintro e w42 ⟨v502, rfl, ho0, hb⟩; have n0_ := Aa.mk (Kd.Du ho0 (Aq (by repeat (first | (with_reducible first | exact HB.out | apply Ae | apply Ac | apply Ad) | exact HB.out)))); have n1_ := Aa.mk (Ap (by repeat (first | (with_reducible first | exact HB.out | apply Ae | apply Ac | apply Ad) | exact HB.out)) hb); clear HB; have HO503 := n0_; have HB := n1_; clear n0_ n1_; (try clear hb); (try clear hb2); (try clear hk); (try clear hi); (try clear ho0)) | ((with_reducible refine D7 (N := 16) rfl ?_); (try (refine Gq (by rfl) ?_; dsimp only)); refine Es ?hg (N := 16) ?hd (cs := #[.int .i64 0, .int .i64 0]) (t := 40) ?hr ?_; (case hd => rfl); (case hg => rfl); (case hr => first | (go_simp; done) | (go_simp; rfl)); intro gb506 hg w43 hbox hb; have n0_ := Aa.mk (Kd.Dk (Kd.R_elderB (by (with_reducible repeat (first | apply Kd.Ah | apply Kd.Ai | apply Kd.Ak)); exact HO503.out) gb506 (Nat.le_of_eq hg.symm)) hb); have n1_ := Aa.mk (Ap (by repeat (first | (with_reducible first | exact HB.out | apply Ae | apply Ac | apply Ad) | exact HB.out)) hb); have n2_ := Aa.mk (hbox); have n3_ := Aa.mk ((by rw [hg]; exact (Aq (by repeat (first | (with_reducible first | exact HB.out | apply Ae | apply Ac | apply Ad) | exact HB.out))) : w.heap.size ≤ gb506)); have n4_ := Aa.mk ((by rw [hg]; exact (Aq (by repeat (first | (with_reducible first | exact HB.out | apply Ae | apply Ac | apply Ad) | exact HB.out))) : w.heap.size ≤ gb506)); clear HO503; clear HB; have HO503 := n0_; have HB := n1_; have BK506 := n2_; have GW506 := n3_; have GE506 := n4_; clear n0_ n1_ n2_ n3_ n4_; clear hb hbox hg; have hcz44_0 : w43.cell? ⟨gb506, 0, none⟩ = some (.int .i64 0) := (Bd BK506.out 0).trans rfl; have hcz44_1 : w43.cell? ⟨gb506, 1, none⟩ = some (.int .i64 0) := (Bd BK506.out 1).trans rfl; have hfz44_0 := Bl BK506.out 0; have hfz44_1 := Bl BK506.out 1; obtain ⟨Ao45, co45, eo45⟩ := Kd.Ef HO503.out; subst eo45) | (go_at_call 21; (with_reducible refine (Fe.calls kj29 _ _ t501 t504 t505 t507 t510 _ ?side1 ?side2 A39.out).mono ?_); (case side1 => refine (Kd.Ba (e := 40) (base := w.heap.size) (ok := fun k_ => (True ∧ k_ ≠ gb506)) (n := t501.length) (c := co45) ?_).2.2; exact (by (with_reducible repeat (first | apply Kd.Ah | apply Kd.Ai | apply Kd.Ak)); exact (Kd.R_mono (Kd.F7 (p := ⟨gb506, 1, none⟩) (Kd.F7 (p := ⟨gb506, 0, none⟩) (Kd.R_mono HO503.out (fun k_ hk => (⟨hk, hk.2⟩ : _ ∧ k_ ≠ gb506))) (fun _ hk => hk.2) (.int .i64 t504)) (fun _ hk => hk.2) (.int .i64 t505)) (fun _ h_ => h_.1)))); (case side2 => exact (Kd.Ba HO503.out).2.1); rintro e w46 ⟨v508, rfl, ho0, hb⟩; have n0_ := Aa.mk (Kd.Ff (by (with_reducible repeat (first | apply Kd.Ah | apply Kd.Ai | apply Kd.Ak)); exact (Kd.R_mono (Kd.F7 (p := ⟨gb506, 1, none⟩) (Kd.F7 (p := ⟨gb506, 0, none⟩) (Kd.R_mono HO503.out (fun k_ hk => (⟨hk, hk.2⟩ : _ ∧ k_ ≠ gb506))) (fun _ hk => hk.2) (.int .i64 t504)) (fun _ hk => hk.2) (.int .i64 t505)) (fun _ h_ => h_.1))) (Kd.Gg ho0) hb); have n1_ := Aa.mk (Kd.Du (Kd.Gj (Kd.Gh ho0 (Kd.Gs (by (with_reducible repeat (first | apply Kd.Ah | apply Kd.Ai | apply Kd.Ak)); exact (Kd.R_mono (Kd.F7 (p := ⟨gb506, 1, none⟩) (Kd.F7 (p := ⟨gb506, 0, none⟩) (Kd.R_mono HO503.out (fun k_ hk => (⟨hk, hk.2⟩ : _ ∧ k_ ≠ gb506))) (fun _ hk => hk.2) (.int .i64 t504)) (fun _ hk => hk.2) (.int .i64 t505)) (fun _ h_ => h_.1))))) (g := gb506) (o := .cells #[.int .i64 t504, .int .i64 t505] 40 (0, 0)) (by (with_reducible repeat (first | refine Au ?_ _ | refine Az ?_ | refine Ar ?_ _)); refine Fv (cs := #[.int .i64 t504, .int .i64 0]) ?_ 1 _ rfl; (with_reducible repeat (first | refine Au ?_ _ | refine Az ?_ | refine Ar ?_ _)); refine Fv (cs := #[.int .i64 0, .int .i64 0]) ?_ 0 _ rfl; (with_reducible repeat (first | refine Au ?_ _ | refine Az ?_ | refine Ar ?_ _)); exact BK506.out)) (Aq (by repeat (first | (with_reducible first | exact HB.out | apply Ae | apply Ac | apply Ad | refine Ag ?_ GE506.out) | exact HB.out)))); have n2_ := Aa.mk (Dv (g := gb506) (o := .cells #[.int .i64 t504, .int .i64 t505] 40 (0, 0)) (by (with_reducible repeat (first | refine Au ?_ _ | refine Az ?_ | refine Ar ?_ _)); refine Fv (cs := #[.int .i64 t504, .int .i64 0]) ?_ 1 _ rfl; (with_reducible repeat (first | refine Au ?_ _ | refine Az ?_ | refine Ar ?_ _)); refine Fv (cs := #[.int .i64 0, .int .i64 0]) ?_ 0 _ rfl; (with_reducible repeat (first | refine Au ?_ _ | refine Az ?_ | refine Ar ?_ _)); exact BK506.out) hb); have n3_ := Aa.mk (Ap (by repeat (first | (with_reducible first | exact HB.out | apply Ae | apply Ac | apply Ad | refine Ag ?_ GE506.out) | exact HB.out)) hb); clear HO503; clear BK506; clear HB; have HO503 := n0_; have HO509 := n1_; have BK506 := n2_; have HB := n3_; clear n0_ n1_ n2_ n3_; (try clear hb); (try clear hb2); (try clear hk); (try clear hi); (try clear ho0); have hcz47_0 : w46.cell? ⟨gb506, 0, none⟩ = some (.int .i64 t504) := (Bd BK506.out 0).trans rfl; have hcz47_1 : w46.cell? ⟨gb506, 1, none⟩ = some (.int .i64 t505) := (Bd BK506.out 1).trans rfl; have hfz47_0 := Bl BK506.out 0; have hfz47_1 := Bl BK506.out 1) | (go_at_call 22; (with_reducible refine (Fa.calls kj29 _ _ t501 t504 t505 t511 t514 _ ?side1 ?side2 A40.out).mono ?_); (case side1 => repeat (first | exact (Kd.Ba HO503.out).2.2 | (with_reducible refine Kd.Ci ?_ _) | (with_reducible refine Kd.Cf ?_ _) | (with_reducible refine Kd.Di ?_))); (case side2 => exact (Kd.Ba HO503.out).2.1); rintro e w48 ⟨v512, rfl, ho0, hb⟩; have n0_ := Aa.mk (Kd.Ff (by (with_reducible repeat (first | apply Kd.Ah | apply Kd.Ai | apply Kd.Ak)); exact HO503.out) (Kd.Gg ho0) hb); have n1_ := Aa.mk (Kd.Ff (by (with_reducible repeat (first | apply Kd.Ah | apply Kd.Ai | apply Kd.Ak)); exact HO509.out) (Kd.Gg ho0) hb); have n2_ := Aa.mk (Kd.Du (Kd.Gj (Kd.Gh (Kd.Gh ho0 (Kd.Gs (by (with_reducible repeat (first | apply Kd.Ah | apply Kd.Ai | apply Kd.Ak)); exact HO503.out))) (Kd.Gs (by (with_reducible repeat (first | apply Kd.Ah | apply Kd.Ai | apply Kd.Ak)); exact HO509.out))) (g := gb506) (o := .cells #[.int .i64 t504, .int .i64 t505] 40 (0, 0)) (by (with_reducible repeat (first | refine Au ?_ _ | refine Az ?_ | refine Ar ?_ _)); exact BK506.out)) (Aq (by repeat (first | (with_reducible first | exact HB.out | apply Ae | apply Ac | apply Ad | refine Ag ?_ GE506.out) | exact HB.out)))); have n3_ := Aa.mk (Dv (g := gb506) (o := .cells #[.int .i64 t504, .int .i64 t505] 40 (0, 0)) (by (with_reducible repeat (first | refine Au ?_ _ | refine Az ?_ | refine Ar ?_ _)); exact BK506.out) hb); have n4_ := Aa.mk (Ap (by repeat (first | (with_reducible first | exact HB.out | apply Ae | apply Ac | apply Ad | refine Ag ?_ GE506.out) | exact HB.out)) hb); clear HO503; clear HO509; clear BK506; clear HB; have HO503 := n0_; have HO509 := n1_; have HO513 := n2_; have BK506 := n3_; have HB := n4_; clear n0_ n1_ n2_ n3_ n4_; (try clear hb); (try clear hb2); (try clear hk); (try clear hi); (try clear ho0)))
                repeat (go_quiet (first | (go_at_call 20; (with_reducible refine (Ey.calls kj29 _ _ l0 t501 t504 t505 _ ?side1 ?side2 A38.out).mono ?_); (case side1 => repeat (first | exact (Kd.Gm HR0.out HB.out) | (with_reducible refine Kd.Ci ?_ _) | (with_reducible refine Kd.Cf ?_ _) | (with_reducible refine Kd.Di ?_))); (case side2 => exact HC0.out); rintro e w42 ⟨v502, rfl, ho0, hb⟩; have n0_ := Aa.mk (Kd.Du ho0 (Aq (by repeat (first | (with_reducible first | exact HB.out | apply Ae | apply Ac | apply Ad) | exact HB.out)))); have n1_ := Aa.mk (Ap (by repeat (first | (with_reducible first | exact HB.out | apply Ae | apply Ac | apply Ad) | exact HB.out)) hb); clear HB; have HO503 := n0_; have HB := n1_; clear n0_ n1_; (try clear hb); (try clear hb2); (try clear hk); (try clear hi); (try clear ho0)) | ((with_reducible refine D7 (N := 16) rfl ?_); (try (refine Gq (by rfl) ?_; dsimp only)); refine Es ?hg (N := 16) ?hd (cs := #[.int .i64 0, .int .i64 0]) (t := 40) ?hr ?_; (case hd => rfl); (case hg => rfl); (case hr => first | (go_simp; done) | (go_simp; rfl)); intro gb506 hg w43 hbox hb; have n0_ := Aa.mk (Kd.Dk (Kd.R_elderB (by (with_reducible repeat (first | apply Kd.Ah | apply Kd.Ai | apply Kd.Ak)); exact HO503.out) gb506 (Nat.le_of_eq hg.symm)) hb); have n1_ := Aa.mk (Ap (by repeat (first | (with_reducible first | exact HB.out | apply Ae | apply Ac | apply Ad) | exact HB.out)) hb); have n2_ := Aa.mk (hbox); have n3_ := Aa.mk ((by rw [hg]; exact (Aq (by repeat (first | (with_reducible first | exact HB.out | apply Ae | apply Ac | apply Ad) | exact HB.out))) : w.heap.size ≤ gb506)); have n4_ := Aa.mk ((by rw [hg]; exact (Aq (by repeat (first | (with_reducible first | exact HB.out | apply Ae | apply Ac | apply Ad) | exact HB.out))) : w.heap.size ≤ gb506)); clear HO503; clear HB; have HO503 := n0_; have HB := n1_; have BK506 := n2_; have GW506 := n3_; have GE506 := n4_; clear n0_ n1_ n2_ n3_ n4_; clear hb hbox hg; have hcz44_0 : w43.cell? ⟨gb506, 0, none⟩ = some (.int .i64 0) := (Bd BK506.out 0).trans rfl; have hcz44_1 : w43.cell? ⟨gb506, 1, none⟩ = some (.int .i64 0) := (Bd BK506.out 1).trans rfl; have hfz44_0 := Bl BK506.out 0; have hfz44_1 := Bl BK506.out 1; obtain ⟨Ao45, co45, eo45⟩ := Kd.Ef HO503.out; subst eo45) | (go_at_call 21; (with_reducible refine (Fe.calls kj29 _ _ t501 t504 t505 t507 t510 _ ?side1 ?side2 A39.out).mono ?_); (case side1 => refine (Kd.Ba (e := 40) (base := w.heap.size) (ok := fun k_ => (True ∧ k_ ≠ gb506)) (n := t501.length) (c := co45) ?_).2.2; exact (by (with_reducible repeat (first | apply Kd.Ah | apply Kd.Ai | apply Kd.Ak)); exact (Kd.R_mono (Kd.F7 (p := ⟨gb506, 1, none⟩) (Kd.F7 (p := ⟨gb506, 0, none⟩) (Kd.R_mono HO503.out (fun k_ hk => (⟨hk, hk.2⟩ : _ ∧ k_ ≠ gb506))) (fun _ hk => hk.2) (.int .i64 t504)) (fun _ hk => hk.2) (.int .i64 t505)) (fun _ h_ => h_.1)))); (case side2 => exact (Kd.Ba HO503.out).2.1); rintro e w46 ⟨v508, rfl, ho0, hb⟩; have n0_ := Aa.mk (Kd.Ff (by (with_reducible repeat (first | apply Kd.Ah | apply Kd.Ai | apply Kd.Ak)); exact (Kd.R_mono (Kd.F7 (p := ⟨gb506, 1, none⟩) (Kd.F7 (p := ⟨gb506, 0, none⟩) (Kd.R_mono HO503.out (fun k_ hk => (⟨hk, hk.2⟩ : _ ∧ k_ ≠ gb506))) (fun _ hk => hk.2) (.int .i64 t504)) (fun _ hk => hk.2) (.int .i64 t505)) (fun _ h_ => h_.1))) (Kd.Gg ho0) hb); have n1_ := Aa.mk (Kd.Du (Kd.Gj (Kd.Gh ho0 (Kd.Gs (by (with_reducible repeat (first | apply Kd.Ah | apply Kd.Ai | apply Kd.Ak)); exact (Kd.R_mono (Kd.F7 (p := ⟨gb506, 1, none⟩) (Kd.F7 (p := ⟨gb506, 0, none⟩) (Kd.R_mono HO503.out (fun k_ hk => (⟨hk, hk.2⟩ : _ ∧ k_ ≠ gb506))) (fun _ hk => hk.2) (.int .i64 t504)) (fun _ hk => hk.2) (.int .i64 t505)) (fun _ h_ => h_.1))))) (g := gb506) (o := .cells #[.int .i64 t504, .int .i64 t505] 40 (0, 0)) (by (with_reducible repeat (first | refine Au ?_ _ | refine Az ?_ | refine Ar ?_ _)); refine Fv (cs := #[.int .i64 t504, .int .i64 0]) ?_ 1 _ rfl; (with_reducible repeat (first | refine Au ?_ _ | refine Az ?_ | refine Ar ?_ _)); refine Fv (cs := #[.int .i64 0, .int .i64 0]) ?_ 0 _ rfl; (with_reducible repeat (first | refine Au ?_ _ | refine Az ?_ | refine Ar ?_ _)); exact BK506.out)) (Aq (by repeat (first | (with_reducible first | exact HB.out | apply Ae | apply Ac | apply Ad | refine Ag ?_ GE506.out) | exact HB.out)))); have n2_ := Aa.mk (Dv (g := gb506) (o := .cells #[.int .i64 t504, .int .i64 t505] 40 (0, 0)) (by (with_reducible repeat (first | refine Au ?_ _ | refine Az ?_ | refine Ar ?_ _)); refine Fv (cs := #[.int .i64 t504, .int .i64 0]) ?_ 1 _ rfl; (with_reducible repeat (first | refine Au ?_ _ | refine Az ?_ | refine Ar ?_ _)); refine Fv (cs := #[.int .i64 0, .int .i64 0]) ?_ 0 _ rfl; (with_reducible repeat (first | refine Au ?_ _ | refine Az ?_ | refine Ar ?_ _)); exact BK506.out) hb); have n3_ := Aa.mk (Ap (by repeat (first | (with_reducible first | exact HB.out | apply Ae | apply Ac | apply Ad | refine Ag ?_ GE506.out) | exact HB.out)) hb); clear HO503; clear BK506; clear HB; have HO503 := n0_; have HO509 := n1_; have BK506 := n2_; have HB := n3_; clear n0_ n1_ n2_ n3_; (try clear hb); (try clear hb2); (try clear hk); (try clear hi); (try clear ho0); have hcz47_0 : w46.cell? ⟨gb506, 0, none⟩ = some (.int .i64 t504) := (Bd BK506.out 0).trans rfl; have hcz47_1 : w46.cell? ⟨gb506, 1, none⟩ = some (.int .i64 t505) := (Bd BK506.out 1).trans rfl; have hfz47_0 := Bl BK506.out 0; have hfz47_1 := Bl BK506.out 1) | (go_at_call 22; (with_reducible refine (Fa.calls kj29 _ _ t501 t504 t505 t511 t514 _ ?side1 ?side2 A40.out).mono ?_); (case side1 => repeat (first | exact (Kd.Ba HO503.out).2.2 | (with_reducible refine Kd.Ci ?_ _) | (with_reducible refine Kd.Cf ?_ _) | (with_reducible refine Kd.Di ?_))); (case side2 => exact (Kd.Ba HO503.out).2.1); rintro e w48 ⟨v512, rfl, ho0, hb⟩; have n0_ := Aa.mk (Kd.Ff (by (with_reducible repeat (first | apply Kd.Ah | apply Kd.Ai | apply Kd.Ak)); exact HO503.out) (Kd.Gg ho0) hb); have n1_ := Aa.mk (Kd.Ff (by (with_reducible repeat (first | apply Kd.Ah | apply Kd.Ai | apply Kd.Ak)); exact HO509.out) (Kd.Gg ho0) hb); have n2_ := Aa.mk (Kd.Du (Kd.Gj (Kd.Gh (Kd.Gh ho0 (Kd.Gs (by (with_reducible repeat (first | apply Kd.Ah | apply Kd.Ai | apply Kd.Ak)); exact HO503.out))) (Kd.Gs (by (with_reducible repeat (first | apply Kd.Ah | apply Kd.Ai | apply Kd.Ak)); exact HO509.out))) (g := gb506) (o := .cells #[.int .i64 t504, .int .i64 t505] 40 (0, 0)) (by (with_reducible repeat (first | refine Au ?_ _ | refine Az ?_ | refine Ar ?_ _)); exact BK506.out)) (Aq (by repeat (first | (with_reducible first | exact HB.out | apply Ae | apply Ac | apply Ad | refine Ag ?_ GE506.out) | exact HB.out)))); have n3_ := Aa.mk (Dv (g := gb506) (o := .cells #[.int .i64 t504, .int .i64 t505] 40 (0, 0)) (by (with_reducible repeat (first | refine Au ?_ _ | refine Az ?_ | refine Ar ?_ _)); exact BK506.out) hb); have n4_ := Aa.mk (Ap (by repeat (first | (with_reducible first | exact HB.out | apply Ae | apply Ac | apply Ad | refine Ag ?_ GE506.out) | exact HB.out)) hb); clear HO503; clear HO509; clear BK506; clear HB; have HO503 := n0_; have HO509 := n1_; have HO513 := n2_; have BK506 := n3_; have HB := n4_; clear n0_ n1_ n2_ n3_ n4_; (try clear hb); (try clear hb2); (try clear hk); (try clear hi); (try clear ho0))); go_upto_region 17 with (first | (go_at_call 20; (with_reducible refine (Ey.calls kj29 _ _ l0 t501 t504 t505 _ ?side1 ?side2 A38.out).mono ?_); (case side1 => repeat (first | exact (Kd.Gm HR0.out HB.out) | (with_reducible refine Kd.Ci ?_ _) | (with_reducible refine Kd.Cf ?_ _) | (with_reducible refine Kd.Di ?_))); (case side2 => exact HC0.out); rintro e w42 ⟨v502, rfl, ho0, hb⟩; have n0_ := Aa.mk (Kd.Du ho0 (Aq (by repeat (first | (with_reducible first | exact HB.out | apply Ae | apply Ac | apply Ad) | exact HB.out)))); have n1_ := Aa.mk (Ap (by repeat (first | (with_reducible first | exact HB.out | apply Ae | apply Ac | apply Ad) | exact HB.out)) hb); clear HB; have HO503 := n0_; have HB := n1_; clear n0_ n1_; (try clear hb); (try clear hb2); (try clear hk); (try clear hi); (try clear ho0)) | ((with_reducible refine D7 (N := 16) rfl ?_); (try (refine Gq (by rfl) ?_; dsimp only)); refine Es ?hg (N := 16) ?hd (cs := #[.int .i64 0, .int .i64 0]) (t := 40) ?hr ?_; (case hd => rfl); (case hg => rfl); (case hr => first | (go_simp; done) | (go_simp; rfl)); intro gb506 hg w43 hbox hb; have n0_ := Aa.mk (Kd.Dk (Kd.R_elderB (by (with_reducible repeat (first | apply Kd.Ah | apply Kd.Ai | apply Kd.Ak)); exact HO503.out) gb506 (Nat.le_of_eq hg.symm)) hb); have n1_ := Aa.mk (Ap (by repeat (first | (with_reducible first | exact HB.out | apply Ae | apply Ac | apply Ad) | exact HB.out)) hb); have n2_ := Aa.mk (hbox); have n3_ := Aa.mk ((by rw [hg]; exact (Aq (by repeat (first | (with_reducible first | exact HB.out | apply Ae | apply Ac | apply Ad) | exact HB.out))) : w.heap.size ≤ gb506)); have n4_ := Aa.mk ((by rw [hg]; exact (Aq (by repeat (first | (with_reducible first | exact HB.out | apply Ae | apply Ac | apply Ad) | exact HB.out))) : w.heap.size ≤ gb506)); clear HO503; clear HB; have HO503 := n0_; have HB := n1_; have BK506 := n2_; have GW506 := n3_; have GE506 := n4_; clear n0_ n1_ n2_ n3_ n4_; clear hb hbox hg; have hcz44_0 : w43.cell? ⟨gb506, 0, none⟩ = some (.int .i64 0) := (Bd BK506.out 0).trans rfl; have hcz44_1 : w43.cell? ⟨gb506, 1, none⟩ = some (.int .i64 0) := (Bd BK506.out 1).trans rfl; have hfz44_0 := Bl BK506.out 0; have hfz44_1 := Bl BK506.out 1; obtain ⟨Ao45, co45, eo45⟩ := Kd.Ef HO503.out; subst eo45) | (go_at_call 21; (with_reducible refine (Fe.calls kj29 _ _ t501 t504 t505 t507 t510 _ ?side1 ?side2 A39.out).mono ?_); (case side1 => refine (Kd.Ba (e := 40) (base := w.heap.size) (ok := fun k_ => (True ∧ k_ ≠ gb506)) (n := t501.length) (c := co45) ?_).2.2; exact (by (with_reducible repeat (first | apply Kd.Ah | apply Kd.Ai | apply Kd.Ak)); exact (Kd.R_mono (Kd.F7 (p := ⟨gb506, 1, none⟩) (Kd.F7 (p := ⟨gb506, 0, none⟩) (Kd.R_mono HO503.out (fun k_ hk => (⟨hk, hk.2⟩ : _ ∧ k_ ≠ gb506))) (fun _ hk => hk.2) (.int .i64 t504)) (fun _ hk => hk.2) (.int .i64 t505)) (fun _ h_ => h_.1)))); (case side2 => exact (Kd.Ba HO503.out).2.1); rintro e w46 ⟨v508, rfl, ho0, hb⟩; have n0_ := Aa.mk (Kd.Ff (by (with_reducible repeat (first | apply Kd.Ah | apply Kd.Ai | apply Kd.Ak)); exact (Kd.R_mono (Kd.F7 (p := ⟨gb506, 1, none⟩) (Kd.F7 (p := ⟨gb506, 0, none⟩) (Kd.R_mono HO503.out (fun k_ hk => (⟨hk, hk.2⟩ : _ ∧ k_ ≠ gb506))) (fun _ hk => hk.2) (.int .i64 t504)) (fun _ hk => hk.2) (.int .i64 t505)) (fun _ h_ => h_.1))) (Kd.Gg ho0) hb); have n1_ := Aa.mk (Kd.Du (Kd.Gj (Kd.Gh ho0 (Kd.Gs (by (with_reducible repeat (first | apply Kd.Ah | apply Kd.Ai | apply Kd.Ak)); exact (Kd.R_mono (Kd.F7 (p := ⟨gb506, 1, none⟩) (Kd.F7 (p := ⟨gb506, 0, none⟩) (Kd.R_mono HO503.out (fun k_ hk => (⟨hk, hk.2⟩ : _ ∧ k_ ≠ gb506))) (fun _ hk => hk.2) (.int .i64 t504)) (fun _ hk => hk.2) (.int .i64 t505)) (fun _ h_ => h_.1))))) (g := gb506) (o := .cells #[.int .i64 t504, .int .i64 t505] 40 (0, 0)) (by (with_reducible repeat (first | refine Au ?_ _ | refine Az ?_ | refine Ar ?_ _)); refine Fv (cs := #[.int .i64 t504, .int .i64 0]) ?_ 1 _ rfl; (with_reducible repeat (first | refine Au ?_ _ | refine Az ?_ | refine Ar ?_ _)); refine Fv (cs := #[.int .i64 0, .int .i64 0]) ?_ 0 _ rfl; (with_reducible repeat (first | refine Au ?_ _ | refine Az ?_ | refine Ar ?_ _)); exact BK506.out)) (Aq (by repeat (first | (with_reducible first | exact HB.out | apply Ae | apply Ac | apply Ad | refine Ag ?_ GE506.out) | exact HB.out)))); have n2_ := Aa.mk (Dv (g := gb506) (o := .cells #[.int .i64 t504, .int .i64 t505] 40 (0, 0)) (by (with_reducible repeat (first | refine Au ?_ _ | refine Az ?_ | refine Ar ?_ _)); refine Fv (cs := #[.int .i64 t504, .int .i64 0]) ?_ 1 _ rfl; (with_reducible repeat (first | refine Au ?_ _ | refine Az ?_ | refine Ar ?_ _)); refine Fv (cs := #[.int .i64 0, .int .i64 0]) ?_ 0 _ rfl; (with_reducible repeat (first | refine Au ?_ _ | refine Az ?_ | refine Ar ?_ _)); exact BK506.out) hb); have n3_ := Aa.mk (Ap (by repeat (first | (with_reducible first | exact HB.out | apply Ae | apply Ac | apply Ad | refine Ag ?_ GE506.out) | exact HB.out)) hb); clear HO503; clear BK506; clear HB; have HO503 := n0_; have HO509 := n1_; have BK506 := n2_; have HB := n3_; clear n0_ n1_ n2_ n3_; (try clear hb); (try clear hb2); (try clear hk); (try clear hi); (try clear ho0); have hcz47_0 : w46.cell? ⟨gb506, 0, none⟩ = some (.int .i64 t504) := (Bd BK506.out 0).trans rfl; have hcz47_1 : w46.cell? ⟨gb506, 1, none⟩ = some (.int .i64 t505) := (Bd BK506.out 1).trans rfl; have hfz47_0 := Bl BK506.out 0; have hfz47_1 := Bl BK506.out 1) | (go_at_call 22; (with_reducible refine (Fa.calls kj29 _ _ t501 t504 t505 t511 t514 _ ?side1 ?side2 A40.out).mono ?_); (case side1 => repeat (first | exact (Kd.Ba HO503.out).2.2 | (with_reducible refine Kd.Ci ?_ _) | (with_reducible refine Kd.Cf ?_ _) | (with_reducible refine Kd.Di ?_))); (case side2 => exact (Kd.Ba HO503.out).2.1); rintro e w48 ⟨v512, rfl, ho0, hb⟩; have n0_ := Aa.mk (Kd.Ff (by (with_reducible repeat (first | apply Kd.Ah | apply Kd.Ai | apply Kd.Ak)); exact HO503.out) (Kd.Gg ho0) hb); have n1_ := Aa.mk (Kd.Ff (by (with_reducible repeat (first | apply Kd.Ah | apply Kd.Ai | apply Kd.Ak)); exact HO509.out) (Kd.Gg ho0) hb); have n2_ := Aa.mk (Kd.Du (Kd.Gj (Kd.Gh (Kd.Gh ho0 (Kd.Gs (by (with_reducible repeat (first | apply Kd.Ah | apply Kd.Ai | apply Kd.Ak)); exact HO503.out))) (Kd.Gs (by (with_reducible repeat (first | apply Kd.Ah | apply Kd.Ai | apply Kd.Ak)); exact HO509.out))) (g := gb506) (o := .cells #[.int .i64 t504, .int .i64 t505] 40 (0, 0)) (by (with_reducible repeat (first | refine Au ?_ _ | refine Az ?_ | refine Ar ?_ _)); exact BK506.out)) (Aq (by repeat (first | (with_reducible first | exact HB.out | apply Ae | apply Ac | apply Ad | refine Ag ?_ GE506.out) | exact HB.out)))); have n3_ := Aa.mk (Dv (g := gb506) (o := .cells #[.int .i64 t504, .int .i64 t505] 40 (0, 0)) (by (with_reducible repeat (first | refine Au ?_ _ | refine Az ?_ | refine Ar ?_ _)); exact BK506.out) hb); have n4_ := Aa.mk (Ap (by repeat (first | (with_reducible first | exact HB.out | apply Ae | apply Ac | apply Ad | refine Ag ?_ GE506.out) | exact HB.out)) hb); clear HO503; clear HO509; clear BK506; clear HB; have HO503 := n0_; have HO509 := n1_; have HO513 := n2_; have BK506 := n3_; have HB := n4_; clear n0_ n1_ n2_ n3_ n4_; (try clear hb); (try clear hb2); (try clear hk); (try clear hi); (try clear ho0))))
                (try simp only [Act.put, List.setIfInBounds_toArray, List.set_cons_zero, List.set_cons_succ])
                go_cut [117] (fun v117 wc => ∃ (kq : Nat) (x117_40 : Bool), v117 = .bool x117_40 ∧ Aa (Aj.j2 kq t501 t510 x117_40 t504 t505 = some r) ∧ Aa (kq ≤ kj29) ∧ Aa (Kd.R k40 40 wc w.heap.size (fun k_ => k_ ≠ gb506) (.slice Ao45 t501.length co45) t501) ∧ Aa (wc.heap[gb506]? = some (.cells #[.int .i64 t504, .int .i64 t505] 40 (0, 0))) ∧ Aa (Below w.heap.size w wc))
                case first =>
                  have H := HC41.out
                  clear HC41
                  by_cases c49 : (t510 != t514) = true
                  · rw [if_pos c49] at H
                    have c49b0 : (t510 != t514) = true := c49
                    (try (have c49b1 : decide (t510 = t514) = false := by simpa using c49))
                    (try (have c49b2 : (t510 == t514) = false := by simpa using c49))
                    (try (have c49b3 : ¬ (t510 = t514) := by simpa using c49))
                    clear c49
                    (first | rw [c49b0] | (simp only [Dh, Dp]; rw [c49b0]) | skip)
                    have H' := Aa.mk H
                    clear H
                    go_wp2
                    repeat (go_quiet (fail); try go_wp2)
                    go_meet
                    case rel => exact ⟨_, (true), (by first | rfl | (simp; done) | (simp [*]; done)), H', ⟨by have := HJ7.out; have := HJ29.out; first | omega | exact Nat.le_refl _⟩, ⟨by (with_reducible repeat (first | apply Kd.Ah | apply Kd.Ai | apply Kd.Ak)); exact Kd.R_mono HO503.out (fun _ hk => hk.1.1.2)⟩, ⟨by (with_reducible repeat (first | refine Au ?_ _ | refine Az ?_ | refine Ar ?_ _)); exact BK506.out⟩, ⟨by repeat (first | (with_reducible first | exact HB.out | apply Ae | apply Ac | apply Ad | refine Ag ?_ GE506.out) | exact HB.out)⟩⟩
                  · rw [if_neg c49] at H
                    have c49b0 : (t510 != t514) = false := by simpa using c49
                    (try (have c49b1 : decide (t510 = t514) = true := by simpa using c49))
                    (try (have c49b2 : (t510 == t514) = true := by simpa using c49))
                    clear c49
                    (first | rw [c49b0] | (simp only [Dh, Dp]; rw [c49b0]) | skip)
                    replace H := Option.bind_eq_some_iff.mp H
                    obtain ⟨t515, A500, H⟩ := H
                    replace H : (Aj.j2 kj29 t501 t510 (!t515) t504 t505) = some r := H
                    have A50 := Aa.mk A500
                    clear A500
                    have H' := Aa.mk H
                    clear H
                    obtain ⟨Ao51, co51, eo51⟩ := Kd.Ef HO509.out
                    subst eo51
                    obtain ⟨Ao52, co52, eo52⟩ := Kd.Ef HO513.out
                    subst eo52
                    go_wp2_with (first | (go_at_call 18; (with_reducible refine (Dq.calls kj29 _ _ t507 _ _ t511 t515 _ ?side1 ?side2 ?side3 ?side4 A50.out).mono ?_); (case side1 => repeat (first | exact (Kd.Ba HO509.out).2.2 | (with_reducible refine Kd.Ci ?_ _) | (with_reducible refine Kd.Cf ?_ _) | (with_reducible refine Kd.Di ?_))); (case side2 => exact (Kd.Ba HO509.out).2.1); (case side3 => repeat (first | exact (Kd.Ba HO513.out).2.2 | (with_reducible refine Kd.Ci ?_ _) | (with_reducible refine Kd.Cf ?_ _) | (with_reducible refine Kd.Di ?_))); (case side4 => exact (Kd.Ba HO513.out).2.1); rintro e w' ⟨rfl, ⟨nd, rfl⟩⟩; (try first | exact ⟨rfl, _, World.drewN_drewN _ _ _⟩ | exact ⟨rfl, _, Eq.trans (World.drewN_drewN _ _ _) (congrArg (World.drewN _) (Nat.add_assoc _ _ _))⟩)))
                    repeat (go_quiet (first | (go_at_call 18; (with_reducible refine (Dq.calls kj29 _ _ t507 _ _ t511 t515 _ ?side1 ?side2 ?side3 ?side4 A50.out).mono ?_); (case side1 => repeat (first | exact (Kd.Ba HO509.out).2.2 | (with_reducible refine Kd.Ci ?_ _) | (with_reducible refine Kd.Cf ?_ _) | (with_reducible refine Kd.Di ?_))); (case side2 => exact (Kd.Ba HO509.out).2.1); (case side3 => repeat (first | exact (Kd.Ba HO513.out).2.2 | (with_reducible refine Kd.Ci ?_ _) | (with_reducible refine Kd.Cf ?_ _) | (with_reducible refine Kd.Di ?_))); (case side4 => exact (Kd.Ba HO513.out).2.1); rintro e w' ⟨rfl, ⟨nd, rfl⟩⟩; (try first | exact ⟨rfl, _, World.drewN_drewN _ _ _⟩ | exact ⟨rfl, _, Eq.trans (World.drewN_drewN _ _ _) (congrArg (World.drewN _) (Nat.add_assoc _ _ _))⟩))); try go_wp2_with (first | (go_at_call 18; (with_reducible refine (Dq.calls kj29 _ _ t507 _ _ t511 t515 _ ?side1 ?side2 ?side3 ?side4 A50.out).mono ?_); (case side1 => repeat (first | exact (Kd.Ba HO509.out).2.2 | (with_reducible refine Kd.Ci ?_ _) | (with_reducible refine Kd.Cf ?_ _) | (with_reducible refine Kd.Di ?_))); (case side2 => exact (Kd.Ba HO509.out).2.1); (case side3 => repeat (first | exact (Kd.Ba HO513.out).2.2 | (with_reducible refine Kd.Ci ?_ _) | (with_reducible refine Kd.Cf ?_ _) | (with_reducible refine Kd.Di ?_))); (case side4 => exact (Kd.Ba HO513.out).2.1); rintro e w' ⟨rfl, ⟨nd, rfl⟩⟩; (try first | exact ⟨rfl, _, World.drewN_drewN _ _ _⟩ | exact ⟨rfl, _, Eq.trans (World.drewN_drewN _ _ _) (congrArg (World.drewN _) (Nat.add_assoc _ _ _))⟩))))
                    go_meet
                    case rel => exact ⟨_, (!t515), (by first | rfl | (simp; done) | (simp [*]; done)), H', ⟨by have := HJ7.out; have := HJ29.out; first | omega | exact Nat.le_refl _⟩, ⟨by (with_reducible repeat (first | apply Kd.Ah | apply Kd.Ai | apply Kd.Ak)); exact Kd.R_mono HO503.out (fun _ hk => hk.1.1.2)⟩, ⟨by (with_reducible repeat (first | refine Au ?_ _ | refine Az ?_ | refine Ar ?_ _)); exact BK506.out⟩, ⟨by repeat (first | (with_reducible first | exact HB.out | apply Ae | apply Ac | apply Ad | refine Ag ?_ GE506.out) | exact HB.out)⟩⟩
                case rest =>
                  clear HC41
                  try clear c1
                  try clear c2
                  try clear p2
                  try clear c3
                  try clear c4
                  try clear c5
                  try clear c14
                  try clear c14b0
                  try clear c14b1
                  try clear c15
                  try clear c15b0
                  try clear c15b1
                  try clear c15b2
                  try clear c17
                  try clear c17b0
                  try clear c17b1
                  try clear c17b2
                  try clear c19
                  try clear c20
                  try clear c26
                  try clear c35
                  try clear c36
                  try clear c37
                  try clear c49
                  try clear c49b0
                  try clear c49b1
                  try clear c49b2
                  try clear hcz44_0
                  try clear hcz44_1
                  try clear hcz47_0
                  try clear hcz47_1
                  try clear hfz44_0
                  try clear hfz44_1
                  try clear hfz47_0
                  try clear hfz47_1
                  try clear p2
                  obtain ⟨kq, x117_40, rfl, HA, HJ40, HO_15, BK506, HB⟩ := hcut
                  cases kq with
                  | zero => exact absurd HA.out (by simp [Aj.j2])
                  | succ kj40 =>
                    have H := HA.out
                    clear HA
                    simp only [Aj.j2] at H
                    by_cases c53 : x117_40 = true
                    · subst c53
                      have H1 : (some false) = some r := by rw [if_pos rfl] at H; exact H
                      clear H
                      have H := H1
                      clear H1
                      exact absurd (Option.some.inj H) (by rw [HR_.out]; decide)
                    · replace c53 := Bool.eq_false_iff.mpr c53
                      subst c53
                      have H1 : ((Bo.f kj40 t501).bind fun bt516 => (if bt516.2 = true then (if t504 ≥ 0 then (if t504 ≤ 9999 then (if (t501.length : Int) = 0 then ((Ee.f kj40 bt516.1 t505).bind fun t520 => (some (t510 == t520))) else (if 0 ≤ (wrap64 ((t501.length : Int) - 1)) then (if (wrap64 ((t501.length : Int) - 1)) < (t501.length : Int) then (if ((Bc t501 (wrap64 ((t501.length : Int) - 1))).f0) ≤ t504 then ((Ee.f kj40 bt516.1 t505).bind fun t522 => (some (t510 == t522))) else (some (t510 == false))) else (none)) else (none))) else (some (t510 == false))) else (some (t510 == false))) else (some (!t510)))) = some r := by rw [if_neg (show ¬ (false = true) by decide)] at H; exact H
                      clear H
                      have H := H1
                      clear H1
                      replace H := Option.bind_eq_some_iff.mp H
                      obtain ⟨⟨t516, t517⟩, A540, H⟩ := H
                      replace H : (if t517 = true then (if t504 ≥ 0 then (if t504 ≤ 9999 then (if (t501.length : Int) = 0 then ((Ee.f kj40 t516 t505).bind fun t520 => (some (t510 == t520))) else (if 0 ≤ (wrap64 ((t501.length : Int) - 1)) then (if (wrap64 ((t501.length : Int) - 1)) < (t501.length : Int) then (if ((Bc t501 (wrap64 ((t501.length : Int) - 1))).f0) ≤ t504 then ((Ee.f kj40 t516 t505).bind fun t522 => (some (t510 == t522))) else (some (t510 == false))) else (none)) else (none))) else (some (t510 == false))) else (some (t510 == false))) else (some (!t510))) = some r := H
                      have A54 := Aa.mk A540
                      clear A540
                      by_cases c55 : t517 = true
                      · subst c55
                        have H1 : (if t504 ≥ 0 then (if t504 ≤ 9999 then (if (t501.length : Int) = 0 then ((Ee.f kj40 t516 t505).bind fun t520 => (some (t510 == t520))) else (if 0 ≤ (wrap64 ((t501.length : Int) - 1)) then (if (wrap64 ((t501.length : Int) - 1)) < (t501.length : Int) then (if ((Bc t501 (wrap64 ((t501.length : Int) - 1))).f0) ≤ t504 then ((Ee.f kj40 t516 t505).bind fun t522 => (some (t510 == t522))) else (some (t510 == false))) else (none)) else (none))) else (some (t510 == false))) else (some (t510 == false))) = some r := by rw [if_pos rfl] at H; exact H
                        clear H
                        have H := H1
                        clear H1
                        by_cases c56 : t504 ≥ 0
                        · rw [if_pos c56] at H
                          have c56b0 : decide (0 ≤ t504) = true := decide_eq_true c56
                          clear c56
                          by_cases c57 : t504 ≤ 9999
                          · rw [if_pos c57] at H
                            have c57b0 : decide (t504 ≤ 9999) = true := decide_eq_true c57
                            clear c57
                            by_cases c58 : (t501.length : Int) = 0
                            · rw [if_pos c58] at H
                              have c58b0 : ((t501.length : Int) == 0) = true := beq_iff_eq.mpr c58
                              have c58b1 : ((t501.length : Int) != 0) = false := bne_eq_false_iff_eq.mpr c58
                              clear c58
                              replace H := Option.bind_eq_some_iff.mp H
                              obtain ⟨t520, A590, H⟩ := H
                              replace H : (some (t510 == t520)) = some r := H
                              have A59 := Aa.mk A590
                              clear A590
                              obtain rfl := Option.some.inj H
                              go_wp2_with (first | (go_at_call 23; (with_reducible refine (Bo.calls kj40 _ _ t501 t516 true _ ?side1 ?side2 A54.out).mono ?_); (case side1 => repeat (first | exact (Kd.Ba HO_15.out).2.2 | (with_reducible refine Kd.Ci ?_ _) | (with_reducible refine Kd.Cf ?_ _) | (with_reducible refine Kd.Di ?_))); (case side2 => exact (Kd.Ba HO_15.out).2.1); rintro e w60 ⟨v518, rfl, ho0, hb⟩; have n0_ := Aa.mk (Kd.Dk (by (with_reducible repeat (first | apply Kd.Ah | apply Kd.Ai | apply Kd.Ak)); exact HO_15.out) hb); have n1_ := Aa.mk (Kd.Du ho0 (Aq (by repeat (first | (with_reducible first | exact HB.out | apply Ae | apply Ac | apply Ad | refine Ag ?_ GE506.out) | exact HB.out)))); have n2_ := Aa.mk (Dv (g := gb506) (o := .cells #[.int .i64 t504, .int .i64 t505] 40 (0, 0)) (by (with_reducible repeat (first | refine Au ?_ _ | refine Az ?_ | refine Ar ?_ _)); exact BK506.out) hb); have n3_ := Aa.mk (Ap (by repeat (first | (with_reducible first | exact HB.out | apply Ae | apply Ac | apply Ad | refine Ag ?_ GE506.out) | exact HB.out)) hb); clear HO_15; clear BK506; clear HB; have HO_15 := n0_; have HO519 := n1_; have BK506 := n2_; have HB := n3_; clear n0_ n1_ n2_ n3_; (try clear hb); (try clear hb2); (try clear hk); (try clear hi); (try clear ho0); have hcz61_0 : w60.cell? ⟨gb506, 0, none⟩ = some (.int .i64 t504) := (Bd BK506.out 0).trans rfl; have hcz61_1 : w60.cell? ⟨gb506, 1, none⟩ = some (.int .i64 t505) := (Bd BK506.out 1).trans rfl; have hfz61_0 := Bl BK506.out 0; have hfz61_1 := Bl BK506.out 1; obtain ⟨Ao62, co62, eo62⟩ := Kd.Ef HO519.out; subst eo62) | (go_at_call 24; (with_reducible refine (Ee.calls kj40 _ _ t516 t505 t520 _ ?side1 ?side2 A59.out).mono ?_); (case side1 => repeat (first | exact (Kd.Ba HO519.out).2.2 | (with_reducible refine Kd.Ci ?_ _) | (with_reducible refine Kd.Cf ?_ _) | (with_reducible refine Kd.Di ?_))); (case side2 => exact (Kd.Ba HO519.out).2.1); rintro e w' ⟨rfl, ⟨nd, rfl⟩⟩; (try first | exact ⟨rfl, _, World.drewN_drewN _ _ _⟩ | exact ⟨rfl, _, Eq.trans (World.drewN_drewN _ _ _) (congrArg (World.drewN _) (Nat.add_assoc _ _ _))⟩)))
                              repeat (go_quiet (first | (go_at_call 23; (with_reducible refine (Bo.calls kj40 _ _ t501 t516 true _ ?side1 ?side2 A54.out).mono ?_); (case side1 => repeat (first | exact (Kd.Ba HO_15.out).2.2 | (with_reducible refine Kd.Ci ?_ _) | (with_reducible refine Kd.Cf ?_ _) | (with_reducible refine Kd.Di ?_))); (case side2 => exact (Kd.Ba HO_15.out).2.1); rintro e w60 ⟨v518, rfl, ho0, hb⟩; have n0_ := Aa.mk (Kd.Dk (by (with_reducible repeat (first | apply Kd.Ah | apply Kd.Ai | apply Kd.Ak)); exact HO_15.out) hb); have n1_ := Aa.mk (Kd.Du ho0 (Aq (by repeat (first | (with_reducible first | exact HB.out | apply Ae | apply Ac | apply Ad | refine Ag ?_ GE506.out) | exact HB.out)))); have n2_ := Aa.mk (Dv (g := gb506) (o := .cells #[.int .i64 t504, .int .i64 t505] 40 (0, 0)) (by (with_reducible repeat (first | refine Au ?_ _ | refine Az ?_ | refine Ar ?_ _)); exact BK506.out) hb); have n3_ := Aa.mk (Ap (by repeat (first | (with_reducible first | exact HB.out | apply Ae | apply Ac | apply Ad | refine Ag ?_ GE506.out) | exact HB.out)) hb); clear HO_15; clear BK506; clear HB; have HO_15 := n0_; have HO519 := n1_; have BK506 := n2_; have HB := n3_; clear n0_ n1_ n2_ n3_; (try clear hb); (try clear hb2); (try clear hk); (try clear hi); (try clear ho0); have hcz61_0 : w60.cell? ⟨gb506, 0, none⟩ = some (.int .i64 t504) := (Bd BK506.out 0).trans rfl; have hcz61_1 : w60.cell? ⟨gb506, 1, none⟩ = some (.int .i64 t505) := (Bd BK506.out 1).trans rfl; have hfz61_0 := Bl BK506.out 0; have hfz61_1 := Bl BK506.out 1; obtain ⟨Ao62, co62, eo62⟩ := Kd.Ef HO519.out; subst eo62) | (go_at_call 24; (with_reducible refine (Ee.calls kj40 _ _ t516 t505 t520 _ ?side1 ?side2 A59.out).mono ?_); (case side1 => repeat (first | exact (Kd.Ba HO519.out).2.2 | (with_reducible refine Kd.Ci ?_ _) | (with_reducible refine Kd.Cf ?_ _) | (with_reducible refine Kd.Di ?_))); (case side2 => exact (Kd.Ba HO519.out).2.1); rintro e w' ⟨rfl, ⟨nd, rfl⟩⟩; (try first | exact ⟨rfl, _, World.drewN_drewN _ _ _⟩ | exact ⟨rfl, _, Eq.trans (World.drewN_drewN _ _ _) (congrArg (World.drewN _) (Nat.add_assoc _ _ _))⟩))); try go_wp2_with (first | (go_at_call 23; (with_reducible refine (Bo.calls kj40 _ _ t501 t516 true _ ?side1 ?side2 A54.out).mono ?_); (case side1 => repeat (first | exact (Kd.Ba HO_15.out).2.2 | (with_reducible refine Kd.Ci ?_ _) | (with_reducible refine Kd.Cf ?_ _) | (with_reducible refine Kd.Di ?_))); (case side2 => exact (Kd.Ba HO_15.out).2.1); rintro e w60 ⟨v518, rfl, ho0, hb⟩; have n0_ := Aa.mk (Kd.Dk (by (with_reducible repeat (first | apply Kd.Ah | apply Kd.Ai | apply Kd.Ak)); exact HO_15.out) hb); have n1_ := Aa.mk (Kd.Du ho0 (Aq (by repeat (first | (with_reducible first | exact HB.out | apply Ae | apply Ac | apply Ad | refine Ag ?_ GE506.out) | exact HB.out)))); have n2_ := Aa.mk (Dv (g := gb506) (o := .cells #[.int .i64 t504, .int .i64 t505] 40 (0, 0)) (by (with_reducible repeat (first | refine Au ?_ _ | refine Az ?_ | refine Ar ?_ _)); exact BK506.out) hb); have n3_ := Aa.mk (Ap (by repeat (first | (with_reducible first | exact HB.out | apply Ae | apply Ac | apply Ad | refine Ag ?_ GE506.out) | exact HB.out)) hb); clear HO_15; clear BK506; clear HB; have HO_15 := n0_; have HO519 := n1_; have BK506 := n2_; have HB := n3_; clear n0_ n1_ n2_ n3_; (try clear hb); (try clear hb2); (try clear hk); (try clear hi); (try clear ho0); have hcz61_0 : w60.cell? ⟨gb506, 0, none⟩ = some (.int .i64 t504) := (Bd BK506.out 0).trans rfl; have hcz61_1 : w60.cell? ⟨gb506, 1, none⟩ = some (.int .i64 t505) := (Bd BK506.out 1).trans rfl; have hfz61_0 := Bl BK506.out 0; have hfz61_1 := Bl BK506.out 1; obtain ⟨Ao62, co62, eo62⟩ := Kd.Ef HO519.out; subst eo62) | (go_at_call 24; (with_reducible refine (Ee.calls kj40 _ _ t516 t505 t520 _ ?side1 ?side2 A59.out).mono ?_); (case side1 => repeat (first | exact (Kd.Ba HO519.out).2.2 | (with_reducible refine Kd.Ci ?_ _) | (with_reducible refine Kd.Cf ?_ _) | (with_reducible refine Kd.Di ?_))); (case side2 => exact (Kd.Ba HO519.out).2.1); rintro e w' ⟨rfl, ⟨nd, rfl⟩⟩; (try first | exact ⟨rfl, _, World.drewN_drewN _ _ _⟩ | exact ⟨rfl, _, Eq.trans (World.drewN_drewN _ _ _) (congrArg (World.drewN _) (Nat.add_assoc _ _ _))⟩))))
                              go_ret
                              exact ⟨by first | rfl | (simp [Be, Bf] <;> rfl) | (simp [*, Be, Bf] <;> rfl), by repeat (first | (with_reducible first | exact HB.out | apply Ae | apply Ac | apply Ad | refine Ag ?_ GE506.out) | exact HB.out)⟩
                            · rw [if_neg c58] at H
                              have c58b0 : ((t501.length : Int) == 0) = false := beq_eq_false_iff_ne.mpr c58
                              have c58b1 : ((t501.length : Int) != 0) = true := bne_iff_ne.mpr c58
                              have c58b2 : ¬ (t501 = []) := fun h_ => c58 (by rw [h_]; rfl)
                              obtain ⟨ji63, hji63⟩ : ∃ j_ : Int, (wrap64 ((t501.length : Int) - 1)) = j_ := ⟨_, rfl⟩
                              replace H : (if 0 ≤ (ji63) then (if (ji63) < (t501.length : Int) then (if ((Bc t501 (ji63)).f0) ≤ t504 then ((Ee.f kj40 t516 t505).bind fun t522 => (some (t510 == t522))) else (some (t510 == false))) else (none)) else (none)) = some r := by first | (rw [hji63] at H; exact H) | (simp only [hji63] at H ⊢; exact H)
                              (try rw [hji63] at A54)
                              have hji63w : (IntKind.i64.wrap ((t501.length : Int) - 1)) = ji63 := (Dh _).trans hji63
                              by_cases c64 : 0 ≤ (ji63)
                              · rw [if_pos c64] at H
                                have c64b0 : decide (0 ≤ (ji63)) = true := decide_eq_true c64
                                clear c64
                                by_cases c65 : (ji63) < (t501.length : Int)
                                · rw [if_pos c65] at H
                                  have c65b0 : decide ((ji63) < (t501.length : Int)) = true := decide_eq_true c65
                                  clear c65
                                  by_cases c66 : ((Bc t501 (ji63)).f0) ≤ t504
                                  · rw [if_pos c66] at H
                                    have c66b0 : decide (((Bc t501 (ji63)).f0) ≤ t504) = true := decide_eq_true c66
                                    clear c66
                                    replace H := Option.bind_eq_some_iff.mp H
                                    obtain ⟨t522, A670, H⟩ := H
                                    replace H : (some (t510 == t522)) = some r := H
                                    have A67 := Aa.mk A670
                                    clear A670
                                    obtain rfl := Option.some.inj H
                                    go_wp2_with (first | (go_at_call 23; (with_reducible refine (Bo.calls kj40 _ _ t501 t516 true _ ?side1 ?side2 A54.out).mono ?_); (case side1 => repeat (first | exact (Kd.Ba HO_15.out).2.2 | (with_reducible refine Kd.Ci ?_ _) | (with_reducible refine Kd.Cf ?_ _) | (with_reducible refine Kd.Di ?_))); (case side2 => exact (Kd.Ba HO_15.out).2.1); rintro e w68 ⟨v518, rfl, ho0, hb⟩; have n0_ := Aa.mk (Kd.Dk (by (with_reducible repeat (first | apply Kd.Ah | apply Kd.Ai | apply Kd.Ak)); exact HO_15.out) hb); have n1_ := Aa.mk (Kd.Du ho0 (Aq (by repeat (first | (with_reducible first | exact HB.out | apply Ae | apply Ac | apply Ad | refine Ag ?_ GE506.out) | exact HB.out)))); have n2_ := Aa.mk (Dv (g := gb506) (o := .cells #[.int .i64 t504, .int .i64 t505] 40 (0, 0)) (by (with_reducible repeat (first | refine Au ?_ _ | refine Az ?_ | refine Ar ?_ _)); exact BK506.out) hb); have n3_ := Aa.mk (Ap (by repeat (first | (with_reducible first | exact HB.out | apply Ae | apply Ac | apply Ad | refine Ag ?_ GE506.out) | exact HB.out)) hb); clear HO_15; clear BK506; clear HB; have HO_15 := n0_; have HO519 := n1_; have BK506 := n2_; have HB := n3_; clear n0_ n1_ n2_ n3_; (try clear hb); (try clear hb2); (try clear hk); (try clear hi); (try clear ho0); have hcz69_0 : w68.cell? ⟨gb506, 0, none⟩ = some (.int .i64 t504) := (Bd BK506.out 0).trans rfl; have hcz69_1 : w68.cell? ⟨gb506, 1, none⟩ = some (.int .i64 t505) := (Bd BK506.out 1).trans rfl; have hfz69_0 := Bl BK506.out 0; have hfz69_1 := Bl BK506.out 1; have p521 : 0 ≤ ((ji63) : Int) := of_decide_eq_true (by first | (with_reducible assumption) | assumption); have q521 : (ji63) < (t501.length : Int) := of_decide_eq_true (by first | (with_reducible assumption) | assumption); obtain ⟨ad521, e521, hx521_0, hx521_1⟩ := F5 (Kd.Ba HO_15.out).2.2 (ji63) p521 q521; cases e521; replace p521 := eq_true p521; replace q521 := eq_true q521; obtain ⟨Ao70, co70, eo70⟩ := Kd.Ef HO519.out; subst eo70) | (go_at_call 24; (with_reducible refine (Ee.calls kj40 _ _ t516 t505 t522 _ ?side1 ?side2 A67.out).mono ?_); (case side1 => repeat (first | exact (Kd.Ba HO519.out).2.2 | (with_reducible refine Kd.Ci ?_ _) | (with_reducible refine Kd.Cf ?_ _) | (with_reducible refine Kd.Di ?_))); (case side2 => exact (Kd.Ba HO519.out).2.1); rintro e w' ⟨rfl, ⟨nd, rfl⟩⟩; (try first | exact ⟨rfl, _, World.drewN_drewN _ _ _⟩ | exact ⟨rfl, _, Eq.trans (World.drewN_drewN _ _ _) (congrArg (World.drewN _) (Nat.add_assoc _ _ _))⟩)))
                                    repeat (go_quiet (first | (go_at_call 23; (with_reducible refine (Bo.calls kj40 _ _ t501 t516 true _ ?side1 ?side2 A54.out).mono ?_); (case side1 => repeat (first | exact (Kd.Ba HO_15.out).2.2 | (with_reducible refine Kd.Ci ?_ _) | (with_reducible refine Kd.Cf ?_ _) | (with_reducible refine Kd.Di ?_))); (case side2 => exact (Kd.Ba HO_15.out).2.1); rintro e w68 ⟨v518, rfl, ho0, hb⟩; have n0_ := Aa.mk (Kd.Dk (by (with_reducible repeat (first | apply Kd.Ah | apply Kd.Ai | apply Kd.Ak)); exact HO_15.out) hb); have n1_ := Aa.mk (Kd.Du ho0 (Aq (by repeat (first | (with_reducible first | exact HB.out | apply Ae | apply Ac | apply Ad | refine Ag ?_ GE506.out) | exact HB.out)))); have n2_ := Aa.mk (Dv (g := gb506) (o := .cells #[.int .i64 t504, .int .i64 t505] 40 (0, 0)) (by (with_reducible repeat (first | refine Au ?_ _ | refine Az ?_ | refine Ar ?_ _)); exact BK506.out) hb); have n3_ := Aa.mk (Ap (by repeat (first | (with_reducible first | exact HB.out | apply Ae | apply Ac | apply Ad | refine Ag ?_ GE506.out) | exact HB.out)) hb); clear HO_15; clear BK506; clear HB; have HO_15 := n0_; have HO519 := n1_; have BK506 := n2_; have HB := n3_; clear n0_ n1_ n2_ n3_; (try clear hb); (try clear hb2); (try clear hk); (try clear hi); (try clear ho0); have hcz69_0 : w68.cell? ⟨gb506, 0, none⟩ = some (.int .i64 t504) := (Bd BK506.out 0).trans rfl; have hcz69_1 : w68.cell? ⟨gb506, 1, none⟩ = some (.int .i64 t505) := (Bd BK506.out 1).trans rfl; have hfz69_0 := Bl BK506.out 0; have hfz69_1 := Bl BK506.out 1; have p521 : 0 ≤ ((ji63) : Int) := of_decide_eq_true (by first | (with_reducible assumption) | assumption); have q521 : (ji63) < (t501.length : Int) := of_decide_eq_true (by first | (with_reducible assumption) | assumption); obtain ⟨ad521, e521, hx521_0, hx521_1⟩ := F5 (Kd.Ba HO_15.out).2.2 (ji63) p521 q521; cases e521; replace p521 := eq_true p521; replace q521 := eq_true q521; obtain ⟨Ao70, co70, eo70⟩ := Kd.Ef HO519.out; subst eo70) | (go_at_call 24; (with_reducible refine (Ee.calls kj40 _ _ t516 t505 t522 _ ?side1 ?side2 A67.out).mono ?_); (case side1 => repeat (first | exact (Kd.Ba HO519.out).2.2 | (with_reducible refine Kd.Ci ?_ _) | (with_reducible refine Kd.Cf ?_ _) | (with_reducible refine Kd.Di ?_))); (case side2 => exact (Kd.Ba HO519.out).2.1); rintro e w' ⟨rfl, ⟨nd, rfl⟩⟩; (try first | exact ⟨rfl, _, World.drewN_drewN _ _ _⟩ | exact ⟨rfl, _, Eq.trans (World.drewN_drewN _ _ _) (congrArg (World.drewN _) (Nat.add_assoc _ _ _))⟩))); try go_wp2_with (first | (go_at_call 23; (with_reducible refine (Bo.calls kj40 _ _ t501 t516 true _ ?side1 ?side2 A54.out).mono ?_); (case side1 => repeat (first | exact (Kd.Ba HO_15.out).2.2 | (with_reducible refine Kd.Ci ?_ _) | (with_reducible refine Kd.Cf ?_ _) | (with_reducible refine Kd.Di ?_))); (case side2 => exact (Kd.Ba HO_15.out).2.1); rintro e w68 ⟨v518, rfl, ho0, hb⟩; have n0_ := Aa.mk (Kd.Dk (by (with_reducible repeat (first | apply Kd.Ah | apply Kd.Ai | apply Kd.Ak)); exact HO_15.out) hb); have n1_ := Aa.mk (Kd.Du ho0 (Aq (by repeat (first | (with_reducible first | exact HB.out | apply Ae | apply Ac | apply Ad | refine Ag ?_ GE506.out) | exact HB.out)))); have n2_ := Aa.mk (Dv (g := gb506) (o := .cells #[.int .i64 t504, .int .i64 t505] 40 (0, 0)) (by (with_reducible repeat (first | refine Au ?_ _ | refine Az ?_ | refine Ar ?_ _)); exact BK506.out) hb); have n3_ := Aa.mk (Ap (by repeat (first | (with_reducible first | exact HB.out | apply Ae | apply Ac | apply Ad | refine Ag ?_ GE506.out) | exact HB.out)) hb); clear HO_15; clear BK506; clear HB; have HO_15 := n0_; have HO519 := n1_; have BK506 := n2_; have HB := n3_; clear n0_ n1_ n2_ n3_; (try clear hb); (try clear hb2); (try clear hk); (try clear hi); (try clear ho0); have hcz69_0 : w68.cell? ⟨gb506, 0, none⟩ = some (.int .i64 t504) := (Bd BK506.out 0).trans rfl; have hcz69_1 : w68.cell? ⟨gb506, 1, none⟩ = some (.int .i64 t505) := (Bd BK506.out 1).trans rfl; have hfz69_0 := Bl BK506.out 0; have hfz69_1 := Bl BK506.out 1; have p521 : 0 ≤ ((ji63) : Int) := of_decide_eq_true (by first | (with_reducible assumption) | assumption); have q521 : (ji63) < (t501.length : Int) := of_decide_eq_true (by first | (with_reducible assumption) | assumption); obtain ⟨ad521, e521, hx521_0, hx521_1⟩ := F5 (Kd.Ba HO_15.out).2.2 (ji63) p521 q521; cases e521; replace p521 := eq_true p521; replace q521 := eq_true q521; obtain ⟨Ao70, co70, eo70⟩ := Kd.Ef HO519.out; subst eo70) | (go_at_call 24; (with_reducible refine (Ee.calls kj40 _ _ t516 t505 t522 _ ?side1 ?side2 A67.out).mono ?_); (case side1 => repeat (first | exact (Kd.Ba HO519.out).2.2 | (with_reducible refine Kd.Ci ?_ _) | (with_reducible refine Kd.Cf ?_ _) | (with_reducible refine Kd.Di ?_))); (case side2 => exact (Kd.Ba HO519.out).2.1); rintro e w' ⟨rfl, ⟨nd, rfl⟩⟩; (try first | exact ⟨rfl, _, World.drewN_drewN _ _ _⟩ | exact ⟨rfl, _, Eq.trans (World.drewN_drewN _ _ _) (congrArg (World.drewN _) (Nat.add_assoc _ _ _))⟩))))
                                    go_ret
                                    exact ⟨by first | rfl | (simp [Be, Bf] <;> rfl) | (simp only [← hji63]; first | rfl | (simp [Be, Bf] <;> rfl)) | (simp [*, Be, Bf] <;> rfl), by repeat (first | (with_reducible first | exact HB.out | apply Ae | apply Ac | apply Ad | refine Ag ?_ GE506.out) | exact HB.out)⟩
                                  · rw [if_neg c66] at H
                                    have c66b0 : decide (((Bc t501 (ji63)).f0) ≤ t504) = false := decide_eq_false c66
                                    clear c66
                                    obtain rfl := Option.some.inj H
                                    go_wp2_with (first | (go_at_call 23; (with_reducible refine (Bo.calls kj40 _ _ t501 t516 true _ ?side1 ?side2 A54.out).mono ?_); (case side1 => repeat (first | exact (Kd.Ba HO_15.out).2.2 | (with_reducible refine Kd.Ci ?_ _) | (with_reducible refine Kd.Cf ?_ _) | (with_reducible refine Kd.Di ?_))); (case side2 => exact (Kd.Ba HO_15.out).2.1); rintro e w71 ⟨v518, rfl, ho0, hb⟩; have n0_ := Aa.mk (Kd.Dk (by (with_reducible repeat (first | apply Kd.Ah | apply Kd.Ai | apply Kd.Ak)); exact HO_15.out) hb); have n1_ := Aa.mk (Kd.Du ho0 (Aq (by repeat (first | (with_reducible first | exact HB.out | apply Ae | apply Ac | apply Ad | refine Ag ?_ GE506.out) | exact HB.out)))); have n2_ := Aa.mk (Dv (g := gb506) (o := .cells #[.int .i64 t504, .int .i64 t505] 40 (0, 0)) (by (with_reducible repeat (first | refine Au ?_ _ | refine Az ?_ | refine Ar ?_ _)); exact BK506.out) hb); have n3_ := Aa.mk (Ap (by repeat (first | (with_reducible first | exact HB.out | apply Ae | apply Ac | apply Ad | refine Ag ?_ GE506.out) | exact HB.out)) hb); clear HO_15; clear BK506; clear HB; have HO_15 := n0_; have HO519 := n1_; have BK506 := n2_; have HB := n3_; clear n0_ n1_ n2_ n3_; (try clear hb); (try clear hb2); (try clear hk); (try clear hi); (try clear ho0); have hcz72_0 : w71.cell? ⟨gb506, 0, none⟩ = some (.int .i64 t504) := (Bd BK506.out 0).trans rfl; have hcz72_1 : w71.cell? ⟨gb506, 1, none⟩ = some (.int .i64 t505) := (Bd BK506.out 1).trans rfl; have hfz72_0 := Bl BK506.out 0; have hfz72_1 := Bl BK506.out 1; have p521 : 0 ≤ ((ji63) : Int) := of_decide_eq_true (by first | (with_reducible assumption) | assumption); have q521 : (ji63) < (t501.length : Int) := of_decide_eq_true (by first | (with_reducible assumption) | assumption); obtain ⟨ad521, e521, hx521_0, hx521_1⟩ := F5 (Kd.Ba HO_15.out).2.2 (ji63) p521 q521; cases e521; replace p521 := eq_true p521; replace q521 := eq_true q521))
                                    repeat (go_quiet (first | (go_at_call 23; (with_reducible refine (Bo.calls kj40 _ _ t501 t516 true _ ?side1 ?side2 A54.out).mono ?_); (case side1 => repeat (first | exact (Kd.Ba HO_15.out).2.2 | (with_reducible refine Kd.Ci ?_ _) | (with_reducible refine Kd.Cf ?_ _) | (with_reducible refine Kd.Di ?_))); (case side2 => exact (Kd.Ba HO_15.out).2.1); rintro e w71 ⟨v518, rfl, ho0, hb⟩; have n0_ := Aa.mk (Kd.Dk (by (with_reducible repeat (first | apply Kd.Ah | apply Kd.Ai | apply Kd.Ak)); exact HO_15.out) hb); have n1_ := Aa.mk (Kd.Du ho0 (Aq (by repeat (first | (with_reducible first | exact HB.out | apply Ae | apply Ac | apply Ad | refine Ag ?_ GE506.out) | exact HB.out)))); have n2_ := Aa.mk (Dv (g := gb506) (o := .cells #[.int .i64 t504, .int .i64 t505] 40 (0, 0)) (by (with_reducible repeat (first | refine Au ?_ _ | refine Az ?_ | refine Ar ?_ _)); exact BK506.out) hb); have n3_ := Aa.mk (Ap (by repeat (first | (with_reducible first | exact HB.out | apply Ae | apply Ac | apply Ad | refine Ag ?_ GE506.out) | exact HB.out)) hb); clear HO_15; clear BK506; clear HB; have HO_15 := n0_; have HO519 := n1_; have BK506 := n2_; have HB := n3_; clear n0_ n1_ n2_ n3_; (try clear hb); (try clear hb2); (try clear hk); (try clear hi); (try clear ho0); have hcz72_0 : w71.cell? ⟨gb506, 0, none⟩ = some (.int .i64 t504) := (Bd BK506.out 0).trans rfl; have hcz72_1 : w71.cell? ⟨gb506, 1, none⟩ = some (.int .i64 t505) := (Bd BK506.out 1).trans rfl; have hfz72_0 := Bl BK506.out 0; have hfz72_1 := Bl BK506.out 1; have p521 : 0 ≤ ((ji63) : Int) := of_decide_eq_true (by first | (with_reducible assumption) | assumption); have q521 : (ji63) < (t501.length : Int) := of_decide_eq_true (by first | (with_reducible assumption) | assumption); obtain ⟨ad521, e521, hx521_0, hx521_1⟩ := F5 (Kd.Ba HO_15.out).2.2 (ji63) p521 q521; cases e521; replace p521 := eq_true p521; replace q521 := eq_true q521)); try go_wp2_with (first | (go_at_call 23; (with_reducible refine (Bo.calls kj40 _ _ t501 t516 true _ ?side1 ?side2 A54.out).mono ?_); (case side1 => repeat (first | exact (Kd.Ba HO_15.out).2.2 | (with_reducible refine Kd.Ci ?_ _) | (with_reducible refine Kd.Cf ?_ _) | (with_reducible refine Kd.Di ?_))); (case side2 => exact (Kd.Ba HO_15.out).2.1); rintro e w71 ⟨v518, rfl, ho0, hb⟩; have n0_ := Aa.mk (Kd.Dk (by (with_reducible repeat (first | apply Kd.Ah | apply Kd.Ai | apply Kd.Ak)); exact HO_15.out) hb); have n1_ := Aa.mk (Kd.Du ho0 (Aq (by repeat (first | (with_reducible first | exact HB.out | apply Ae | apply Ac | apply Ad | refine Ag ?_ GE506.out) | exact HB.out)))); have n2_ := Aa.mk (Dv (g := gb506) (o := .cells #[.int .i64 t504, .int .i64 t505] 40 (0, 0)) (by (with_reducible repeat (first | refine Au ?_ _ | refine Az ?_ | refine Ar ?_ _)); exact BK506.out) hb); have n3_ := Aa.mk (Ap (by repeat (first | (with_reducible first | exact HB.out | apply Ae | apply Ac | apply Ad | refine Ag ?_ GE506.out) | exact HB.out)) hb); clear HO_15; clear BK506; clear HB; have HO_15 := n0_; have HO519 := n1_; have BK506 := n2_; have HB := n3_; clear n0_ n1_ n2_ n3_; (try clear hb); (try clear hb2); (try clear hk); (try clear hi); (try clear ho0); have hcz72_0 : w71.cell? ⟨gb506, 0, none⟩ = some (.int .i64 t504) := (Bd BK506.out 0).trans rfl; have hcz72_1 : w71.cell? ⟨gb506, 1, none⟩ = some (.int .i64 t505) := (Bd BK506.out 1).trans rfl; have hfz72_0 := Bl BK506.out 0; have hfz72_1 := Bl BK506.out 1; have p521 : 0 ≤ ((ji63) : Int) := of_decide_eq_true (by first | (with_reducible assumption) | assumption); have q521 : (ji63) < (t501.length : Int) := of_decide_eq_true (by first | (with_reducible assumption) | assumption); obtain ⟨ad521, e521, hx521_0, hx521_1⟩ := F5 (Kd.Ba HO_15.out).2.2 (ji63) p521 q521; cases e521; replace p521 := eq_true p521; replace q521 := eq_true q521)))
                                    go_ret
                                    exact ⟨by first | rfl | (simp [Be, Bf] <;> rfl) | (simp only [← hji63]; first | rfl | (simp [Be, Bf] <;> rfl)) | (simp [*, Be, Bf] <;> rfl), by repeat (first | (with_reducible first | exact HB.out | apply Ae | apply Ac | apply Ad | refine Ag ?_ GE506.out) | exact HB.out)⟩
                                · rw [if_neg c65] at H
                                  exact absurd H (by simp)
                              · rw [if_neg c64] at H
                                exact absurd H (by simp)
                          · rw [if_neg c57] at H
                            have c57b0 : decide (t504 ≤ 9999) = false := decide_eq_false c57
                            clear c57
                            obtain rfl := Option.some.inj H
                            go_wp2_with (first | (go_at_call 23; (with_reducible refine (Bo.calls kj40 _ _ t501 t516 true _ ?side1 ?side2 A54.out).mono ?_); (case side1 => repeat (first | exact (Kd.Ba HO_15.out).2.2 | (with_reducible refine Kd.Ci ?_ _) | (with_reducible refine Kd.Cf ?_ _) | (with_reducible refine Kd.Di ?_))); (case side2 => exact (Kd.Ba HO_15.out).2.1); rintro e w73 ⟨v518, rfl, ho0, hb⟩; have n0_ := Aa.mk (Kd.Dk (by (with_reducible repeat (first | apply Kd.Ah | apply Kd.Ai | apply Kd.Ak)); exact HO_15.out) hb); have n1_ := Aa.mk (Kd.Du ho0 (Aq (by repeat (first | (with_reducible first | exact HB.out | apply Ae | apply Ac | apply Ad | refine Ag ?_ GE506.out) | exact HB.out)))); have n2_ := Aa.mk (Dv (g := gb506) (o := .cells #[.int .i64 t504, .int .i64 t505] 40 (0, 0)) (by (with_reducible repeat (first | refine Au ?_ _ | refine Az ?_ | refine Ar ?_ _)); exact BK506.out) hb); have n3_ := Aa.mk (Ap (by repeat (first | (with_reducible first | exact HB.out | apply Ae | apply Ac | apply Ad | refine Ag ?_ GE506.out) | exact HB.out)) hb); clear HO_15; clear BK506; clear HB; have HO_15 := n0_; have HO519 := n1_; have BK506 := n2_; have HB := n3_; clear n0_ n1_ n2_ n3_; (try clear hb); (try clear hb2); (try clear hk); (try clear hi); (try clear ho0); have hcz74_0 : w73.cell? ⟨gb506, 0, none⟩ = some (.int .i64 t504) := (Bd BK506.out 0).trans rfl; have hcz74_1 : w73.cell? ⟨gb506, 1, none⟩ = some (.int .i64 t505) := (Bd BK506.out 1).trans rfl; have hfz74_0 := Bl BK506.out 0; have hfz74_1 := Bl BK506.out 1))
                            repeat (go_quiet (first | (go_at_call 23; (with_reducible refine (Bo.calls kj40 _ _ t501 t516 true _ ?side1 ?side2 A54.out).mono ?_); (case side1 => repeat (first | exact (Kd.Ba HO_15.out).2.2 | (with_reducible refine Kd.Ci ?_ _) | (with_reducible refine Kd.Cf ?_ _) | (with_reducible refine Kd.Di ?_))); (case side2 => exact (Kd.Ba HO_15.out).2.1); rintro e w73 ⟨v518, rfl, ho0, hb⟩; have n0_ := Aa.mk (Kd.Dk (by (with_reducible repeat (first | apply Kd.Ah | apply Kd.Ai | apply Kd.Ak)); exact HO_15.out) hb); have n1_ := Aa.mk (Kd.Du ho0 (Aq (by repeat (first | (with_reducible first | exact HB.out | apply Ae | apply Ac | apply Ad | refine Ag ?_ GE506.out) | exact HB.out)))); have n2_ := Aa.mk (Dv (g := gb506) (o := .cells #[.int .i64 t504, .int .i64 t505] 40 (0, 0)) (by (with_reducible repeat (first | refine Au ?_ _ | refine Az ?_ | refine Ar ?_ _)); exact BK506.out) hb); have n3_ := Aa.mk (Ap (by repeat (first | (with_reducible first | exact HB.out | apply Ae | apply Ac | apply Ad | refine Ag ?_ GE506.out) | exact HB.out)) hb); clear HO_15; clear BK506; clear HB; have HO_15 := n0_; have HO519 := n1_; have BK506 := n2_; have HB := n3_; clear n0_ n1_ n2_ n3_; (try clear hb); (try clear hb2); (try clear hk); (try clear hi); (try clear ho0); have hcz74_0 : w73.cell? ⟨gb506, 0, none⟩ = some (.int .i64 t504) := (Bd BK506.out 0).trans rfl; have hcz74_1 : w73.cell? ⟨gb506, 1, none⟩ = some (.int .i64 t505) := (Bd BK506.out 1).trans rfl; have hfz74_0 := Bl BK506.out 0; have hfz74_1 := Bl BK506.out 1)); try go_wp2_with (first | (go_at_call 23; (with_reducible refine (Bo.calls kj40 _ _ t501 t516 true _ ?side1 ?side2 A54.out).mono ?_); (case side1 => repeat (first | exact (Kd.Ba HO_15.out).2.2 | (with_reducible refine Kd.Ci ?_ _) | (with_reducible refine Kd.Cf ?_ _) | (with_reducible refine Kd.Di ?_))); (case side2 => exact (Kd.Ba HO_15.out).2.1); rintro e w73 ⟨v518, rfl, ho0, hb⟩; have n0_ := Aa.mk (Kd.Dk (by (with_reducible repeat (first | apply Kd.Ah | apply Kd.Ai | apply Kd.Ak)); exact HO_15.out) hb); have n1_ := Aa.mk (Kd.Du ho0 (Aq (by repeat (first | (with_reducible first | exact HB.out | apply Ae | apply Ac | apply Ad | refine Ag ?_ GE506.out) | exact HB.out)))); have n2_ := Aa.mk (Dv (g := gb506) (o := .cells #[.int .i64 t504, .int .i64 t505] 40 (0, 0)) (by (with_reducible repeat (first | refine Au ?_ _ | refine Az ?_ | refine Ar ?_ _)); exact BK506.out) hb); have n3_ := Aa.mk (Ap (by repeat (first | (with_reducible first | exact HB.out | apply Ae | apply Ac | apply Ad | refine Ag ?_ GE506.out) | exact HB.out)) hb); clear HO_15; clear BK506; clear HB; have HO_15 := n0_; have HO519 := n1_; have BK506 := n2_; have HB := n3_; clear n0_ n1_ n2_ n3_; (try clear hb); (try clear hb2); (try clear hk); (try clear hi); (try clear ho0); have hcz74_0 : w73.cell? ⟨gb506, 0, none⟩ = some (.int .i64 t504) := (Bd BK506.out 0).trans rfl; have hcz74_1 : w73.cell? ⟨gb506, 1, none⟩ = some (.int .i64 t505) := (Bd BK506.out 1).trans rfl; have hfz74_0 := Bl BK506.out 0; have hfz74_1 := Bl BK506.out 1)))
                            go_ret
                            exact ⟨by first | rfl | (simp [Be, Bf] <;> rfl) | (simp [*, Be, Bf] <;> rfl), by repeat (first | (with_reducible first | exact HB.out | apply Ae | apply Ac | apply Ad | refine Ag ?_ GE506.out) | exact HB.out)⟩
                        · rw [if_neg c56] at H
                          have c56b0 : decide (0 ≤ t504) = false := decide_eq_false c56
                          clear c56
                          obtain rfl := Option.some.inj H
                          go_wp2_with (first | (go_at_call 23; (with_reducible refine (Bo.calls kj40 _ _ t501 t516 true _ ?side1 ?side2 A54.out).mono ?_); (case side1 => repeat (first | exact (Kd.Ba HO_15.out).2.2 | (with_reducible refine Kd.Ci ?_ _) | (with_reducible refine Kd.Cf ?_ _) | (with_reducible refine Kd.Di ?_))); (case side2 => exact (Kd.Ba HO_15.out).2.1); rintro e w75 ⟨v518, rfl, ho0, hb⟩; have n0_ := Aa.mk (Kd.Dk (by (with_reducible repeat (first | apply Kd.Ah | apply Kd.Ai | apply Kd.Ak)); exact HO_15.out) hb); have n1_ := Aa.mk (Kd.Du ho0 (Aq (by repeat (first | (with_reducible first | exact HB.out | apply Ae | apply Ac | apply Ad | refine Ag ?_ GE506.out) | exact HB.out)))); have n2_ := Aa.mk (Dv (g := gb506) (o := .cells #[.int .i64 t504, .int .i64 t505] 40 (0, 0)) (by (with_reducible repeat (first | refine Au ?_ _ | refine Az ?_ | refine Ar ?_ _)); exact BK506.out) hb); have n3_ := Aa.mk (Ap (by repeat (first | (with_reducible first | exact HB.out | apply Ae | apply Ac | apply Ad | refine Ag ?_ GE506.out) | exact HB.out)) hb); clear HO_15; clear BK506; clear HB; have HO_15 := n0_; have HO519 := n1_; have BK506 := n2_; have HB := n3_; clear n0_ n1_ n2_ n3_; (try clear hb); (try clear hb2); (try clear hk); (try clear hi); (try clear ho0); have hcz76_0 : w75.cell? ⟨gb506, 0, none⟩ = some (.int .i64 t504) := (Bd BK506.out 0).trans rfl; have hcz76_1 : w75.cell? ⟨gb506, 1, none⟩ = some (.int .i64 t505) := (Bd BK506.out 1).trans rfl; have hfz76_0 := Bl BK506.out 0; have hfz76_1 := Bl BK506.out 1))
                          repeat (go_quiet (first | (go_at_call 23; (with_reducible refine (Bo.calls kj40 _ _ t501 t516 true _ ?side1 ?side2 A54.out).mono ?_); (case side1 => repeat (first | exact (Kd.Ba HO_15.out).2.2 | (with_reducible refine Kd.Ci ?_ _) | (with_reducible refine Kd.Cf ?_ _) | (with_reducible refine Kd.Di ?_))); (case side2 => exact (Kd.Ba HO_15.out).2.1); rintro e w75 ⟨v518, rfl, ho0, hb⟩; have n0_ := Aa.mk (Kd.Dk (by (with_reducible repeat (first | apply Kd.Ah | apply Kd.Ai | apply Kd.Ak)); exact HO_15.out) hb); have n1_ := Aa.mk (Kd.Du ho0 (Aq (by repeat (first | (with_reducible first | exact HB.out | apply Ae | apply Ac | apply Ad | refine Ag ?_ GE506.out) | exact HB.out)))); have n2_ := Aa.mk (Dv (g := gb506) (o := .cells #[.int .i64 t504, .int .i64 t505] 40 (0, 0)) (by (with_reducible repeat (first | refine Au ?_ _ | refine Az ?_ | refine Ar ?_ _)); exact BK506.out) hb); have n3_ := Aa.mk (Ap (by repeat (first | (with_reducible first | exact HB.out | apply Ae | apply Ac | apply Ad | refine Ag ?_ GE506.out) | exact HB.out)) hb); clear HO_15; clear BK506; clear HB; have HO_15 := n0_; have HO519 := n1_; have BK506 := n2_; have HB := n3_; clear n0_ n1_ n2_ n3_; (try clear hb); (try clear hb2); (try clear hk); (try clear hi); (try clear ho0); have hcz76_0 : w75.cell? ⟨gb506, 0, none⟩ = some (.int .i64 t504) := (Bd BK506.out 0).trans rfl; have hcz76_1 : w75.cell? ⟨gb506, 1, none⟩ = some (.int .i64 t505) := (Bd BK506.out 1).trans rfl; have hfz76_0 := Bl BK506.out 0; have hfz76_1 := Bl BK506.out 1)); try go_wp2_with (first | (go_at_call 23; (with_reducible refine (Bo.calls kj40 _ _ t501 t516 true _ ?side1 ?side2 A54.out).mono ?_); (case side1 => repeat (first | exact (Kd.Ba HO_15.out).2.2 | (with_reducible refine Kd.Ci ?_ _) | (with_reducible refine Kd.Cf ?_ _) | (with_reducible refine Kd.Di ?_))); (case side2 => exact (Kd.Ba HO_15.out).2.1); rintro e w75 ⟨v518, rfl, ho0, hb⟩; have n0_ := Aa.mk (Kd.Dk (by (with_reducible repeat (first | apply Kd.Ah | apply Kd.Ai | apply Kd.Ak)); exact HO_15.out) hb); have n1_ := Aa.mk (Kd.Du ho0 (Aq (by repeat (first | (with_reducible first | exact HB.out | apply Ae | apply Ac | apply Ad | refine Ag ?_ GE506.out) | exact HB.out)))); have n2_ := Aa.mk (Dv (g := gb506) (o := .cells #[.int .i64 t504, .int .i64 t505] 40 (0, 0)) (by (with_reducible repeat (first | refine Au ?_ _ | refine Az ?_ | refine Ar ?_ _)); exact BK506.out) hb); have n3_ := Aa.mk (Ap (by repeat (first | (with_reducible first | exact HB.out | apply Ae | apply Ac | apply Ad | refine Ag ?_ GE506.out) | exact HB.out)) hb); clear HO_15; clear BK506; clear HB; have HO_15 := n0_; have HO519 := n1_; have BK506 := n2_; have HB := n3_; clear n0_ n1_ n2_ n3_; (try clear hb); (try clear hb2); (try clear hk); (try clear hi); (try clear ho0); have hcz76_0 : w75.cell? ⟨gb506, 0, none⟩ = some (.int .i64 t504) := (Bd BK506.out 0).trans rfl; have hcz76_1 : w75.cell? ⟨gb506, 1, none⟩ = some (.int .i64 t505) := (Bd BK506.out 1).trans rfl; have hfz76_0 := Bl BK506.out 0; have hfz76_1 := Bl BK506.out 1)))
                          go_ret
                          exact ⟨by first | rfl | (simp [Be, Bf] <;> rfl) | (simp [*, Be, Bf] <;> rfl), by repeat (first | (with_reducible first | exact HB.out | apply Ae | apply Ac | apply Ad | refine Ag ?_ GE506.out) | exact HB.out)⟩
                      · replace c55 := Bool.eq_false_iff.mpr c55
                        subst c55
                        have H1 : (some (!t510)) = some r := by rw [if_neg (show ¬ (false = true) by decide)] at H; exact H
                        clear H
                        have H := H1
                        clear H1
                        obtain rfl := Option.some.inj H
                        go_wp2_with (first | (go_at_call 23; (with_reducible refine (Bo.calls kj40 _ _ t501 t516 false _ ?side1 ?side2 A54.out).mono ?_); (case side1 => repeat (first | exact (Kd.Ba HO_15.out).2.2 | (with_reducible refine Kd.Ci ?_ _) | (with_reducible refine Kd.Cf ?_ _) | (with_reducible refine Kd.Di ?_))); (case side2 => exact (Kd.Ba HO_15.out).2.1); rintro e w77 ⟨v518, rfl, ho0, hb⟩; have n0_ := Aa.mk (Kd.Dk (by (with_reducible repeat (first | apply Kd.Ah | apply Kd.Ai | apply Kd.Ak)); exact HO_15.out) hb); have n1_ := Aa.mk (Kd.Du ho0 (Aq (by repeat (first | (with_reducible first | exact HB.out | apply Ae | apply Ac | apply Ad | refine Ag ?_ GE506.out) | exact HB.out)))); have n2_ := Aa.mk (Dv (g := gb506) (o := .cells #[.int .i64 t504, .int .i64 t505] 40 (0, 0)) (by (with_reducible repeat (first | refine Au ?_ _ | refine Az ?_ | refine Ar ?_ _)); exact BK506.out) hb); have n3_ := Aa.mk (Ap (by repeat (first | (with_reducible first | exact HB.out | apply Ae | apply Ac | apply Ad | refine Ag ?_ GE506.out) | exact HB.out)) hb); clear HO_15; clear BK506; clear HB; have HO_15 := n0_; have HO519 := n1_; have BK506 := n2_; have HB := n3_; clear n0_ n1_ n2_ n3_; (try clear hb); (try clear hb2); (try clear hk); (try clear hi); (try clear ho0)))
                        repeat (go_quiet (first | (go_at_call 23; (with_reducible refine (Bo.calls kj40 _ _ t501 t516 false _ ?side1 ?side2 A54.out).mono ?_); (case side1 => repeat (first | exact (Kd.Ba HO_15.out).2.2 | (with_reducible refine Kd.Ci ?_ _) | (with_reducible refine Kd.Cf ?_ _) | (with_reducible refine Kd.Di ?_))); (case side2 => exact (Kd.Ba HO_15.out).2.1); rintro e w77 ⟨v518, rfl, ho0, hb⟩; have n0_ := Aa.mk (Kd.Dk (by (with_reducible repeat (first | apply Kd.Ah | apply Kd.Ai | apply Kd.Ak)); exact HO_15.out) hb); have n1_ := Aa.mk (Kd.Du ho0 (Aq (by repeat (first | (with_reducible first | exact HB.out | apply Ae | apply Ac | apply Ad | refine Ag ?_ GE506.out) | exact HB.out)))); have n2_ := Aa.mk (Dv (g := gb506) (o := .cells #[.int .i64 t504, .int .i64 t505] 40 (0, 0)) (by (with_reducible repeat (first | refine Au ?_ _ | refine Az ?_ | refine Ar ?_ _)); exact BK506.out) hb); have n3_ := Aa.mk (Ap (by repeat (first | (with_reducible first | exact HB.out | apply Ae | apply Ac | apply Ad | refine Ag ?_ GE506.out) | exact HB.out)) hb); clear HO_15; clear BK506; clear HB; have HO_15 := n0_; have HO519 := n1_; have BK506 := n2_; have HB := n3_; clear n0_ n1_ n2_ n3_; (try clear hb); (try clear hb2); (try clear hk); (try clear hi); (try clear ho0))); try go_wp2_with (first | (go_at_call 23; (with_reducible refine (Bo.calls kj40 _ _ t501 t516 false _ ?side1 ?side2 A54.out).mono ?_); (case side1 => repeat (first | exact (Kd.Ba HO_15.out).2.2 | (with_reducible refine Kd.Ci ?_ _) | (with_reducible refine Kd.Cf ?_ _) | (with_reducible refine Kd.Di ?_))); (case side2 => exact (Kd.Ba HO_15.out).2.1); rintro e w77 ⟨v518, rfl, ho0, hb⟩; have n0_ := Aa.mk (Kd.Dk (by (with_reducible repeat (first | apply Kd.Ah | apply Kd.Ai | apply Kd.Ak)); exact HO_15.out) hb); have n1_ := Aa.mk (Kd.Du ho0 (Aq (by repeat (first | (with_reducible first | exact HB.out | apply Ae | apply Ac | apply Ad | refine Ag ?_ GE506.out) | exact HB.out)))); have n2_ := Aa.mk (Dv (g := gb506) (o := .cells #[.int .i64 t504, .int .i64 t505] 40 (0, 0)) (by (with_reducible repeat (first | refine Au ?_ _ | refine Az ?_ | refine Ar ?_ _)); exact BK506.out) hb); have n3_ := Aa.mk (Ap (by repeat (first | (with_reducible first | exact HB.out | apply Ae | apply Ac | apply Ad | refine Ag ?_ GE506.out) | exact HB.out)) hb); clear HO_15; clear BK506; clear HB; have HO_15 := n0_; have HO519 := n1_; have BK506 := n2_; have HB := n3_; clear n0_ n1_ n2_ n3_; (try clear hb); (try clear hb2); (try clear hk); (try clear hi); (try clear ho0))))
                        go_ret
                        exact ⟨by first | rfl | (simp [Be, Bf] <;> rfl) | (simp [*, Be, Bf] <;> rfl), by repeat (first | (with_reducible first | exact HB.out | apply Ae | apply Ac | apply Ad | refine Ag ?_ GE506.out) | exact HB.out)⟩
end Go.Proofs.YtpalafegcndccaaDoor.X

namespace Go.Proofs.YtpalafegcndccaaDoorZ
open Go.ChangeShapes Go.WideShapes Go.ChangeAt Go.RowKit
open Go.Proofs.YtpalafegcndccaaDoorW.PrintWords
section
variable {P : Program}
/-- A reading of type t is a value of kind d, and the value fits. -/
def Opens (P : Program) {α : Type} (d : Kd α) (t : TypeId) (fits : α → Prop) : Prop :=
  ∀ {H : Type} {enc : TypeId × Value → H} {w : World} {base : Nat} {spare : Nat → Bool} {held : Bool} {fuel : Nat} {cs : List Value} {x : DataW H × List MemPlace},
    DataW.trod enc P w base spare held fuel t cs = some x → (∀ n ∈ x.1.weights P t, n ≤ reachBytes) → ∃ v, d.K w v cs ∧ fits v
theorem opens_int {k : IntKind} {t : TypeId} (ht : P.underlying t = some (.int k)) : Opens P (Kd.int k) t (fun n => (Lit.int k n).wf = true) := by
  intro H enc w base spare held fuel cs x h _
  obtain ⟨n, rfl, _, hw⟩ := DataW.trod_int ht h
  exact ⟨n, rfl, hw⟩
theorem weightsAll_mem {H : Type} {e : TypeId} {d : DataW H} {n : Nat} : ∀ {l : List (DataW H)}, d ∈ l → n ∈ d.weights P e → n ∈ DataW.weightsAll P e l
  | [], h, _ => by cases h
  | x :: r, h, hn => by
    simp only [DataW.weightsAll, List.mem_append]
    rcases List.mem_cons.1 h with rfl | h
    · exact .inl hn
    · exact .inr (weightsAll_mem h hn)
theorem weightsEach_mem {H : Type} {n : Nat} : ∀ {ts : List TypeId} {l : List (DataW H)} {i : Nat} {t : TypeId} {d : DataW H}, ts[i]? = some t → l[i]? = some d → n ∈ d.weights P t → n ∈ DataW.weightsEach P ts l
  | [], l, i, t, d, h, _, _ => by simp at h
  | t :: ts, [], i, _, _, _, h, _ => by simp at h
  | t :: ts, d :: l, 0, _, _, h, k, hn => by
    simp at h k; subst h k
    simp only [DataW.weightsEach, List.mem_append]; exact .inl hn
  | t :: ts, d :: l, i + 1, _, _, h, k, hn => by
    simp at h k
    simp only [DataW.weightsEach, List.mem_append]; exact .inr (weightsEach_mem h k hn)
theorem opens_slice {α : Type} (z : α) {d : Kd α} {t e : TypeId} {fits : α → Prop} (ht : P.underlying t = some (.slice e)) (hsz : P.cellsOf e = d.sz) (he : Opens P d e fits) {B : Nat} (hB : P.bytesOf e = B) :
    Opens P (Kd.slice e d) t (fun l => l.length * B ≤ 140737488351232 ∧ l.length ≤ 9223372036854775807 ∧ ∀ x ∈ l, fits x) := by
  intro H enc w base spare held fuel cs x h hw
  rcases Deep.open_slice ht h with ⟨rfl, rfl⟩ | ⟨a, len, cap, m, n, D, Pl, rfl, hb, hl, hm, hmm, rfl, hc⟩
  · exact ⟨[], ⟨none, 0, rfl, Nat.le_refl _, Kd.C_nil d w⟩, by simp, by simp, fun x hx => by cases hx⟩
  · have hlm : len ≤ m := by rw [hmm]; split <;> omega
    have hbnd : len * B ≤ 140737488351232 := by
      have := hw ((((List.range len).map D).length + ((List.range (m - len)).map fun j => D (len + j)).length) * P.bytesOf e) (by simp [DataW.weights, ht])
      simp only [List.length_map, List.length_range, hB] at this
      have h2 : len * B ≤ (len + (m - len)) * B := Nat.mul_le_mul_right _ (by omega)
      exact Nat.le_trans h2 this
    have hel : ∀ i, i < len → ∃ v : α, (∃ c, c.length = d.sz ∧ d.K w v c ∧ ∀ j u, c[j]? = some u → w.cell? (a.add (i * d.sz + j)) = some u) ∧ fits v := by
      intro i hi
      obtain ⟨c, h1, h2⟩ := hc i (by omega)
      obtain ⟨v, hv, hf⟩ := he h2 (fun k hk => hw k (by
        simp only [DataW.weights, ht, List.mem_cons, List.mem_append]
        exact .inr (.inl (weightsAll_mem (d := D i) (List.mem_map.2 ⟨i, List.mem_range.2 hi, rfl⟩) hk))))
      rw [hsz] at h1
      obtain ⟨_, hlen, hcell⟩ := World.cells?_some h1
      refine ⟨v, ⟨c, hlen, hv, fun j u hj => ?_⟩, hf⟩
      have hjl : j < d.sz := by rw [← hlen]; exact (List.getElem?_eq_some_iff.1 hj).1
      rw [← Deep.add_add, hcell j hjl]
      exact hj
    haveI : Inhabited α := ⟨z⟩
    obtain ⟨f, hf⟩ := Deep.choose_lt hel
    refine ⟨(List.range len).map f, ⟨some a, cap, by simp, by simpa using hl, ⟨by simp, ?_, fun _ => ⟨a, rfl, ?_⟩⟩⟩, by simpa using hbnd, by simp; unfold maxLen at hm; omega, ?_⟩
    · simp; unfold maxLen at hm; omega
    · intro j p hj
      have hjl : j < len := by
        have := (List.getElem?_eq_some_iff.1 hj).1
        simpa using this
      rw [List.getElem?_map, List.getElem?_range hjl] at hj
      simp only [Option.map_some, Option.some.injEq] at hj
      subst hj
      exact (hf j hjl).1
    · intro x hx
      obtain ⟨j, hj, rfl⟩ := List.mem_map.1 hx
      exact (hf j (List.mem_range.1 hj)).2
/-- A parameter's weights are among all. -/
theorem weights_param {H : Type} {ts : List TypeId} {ds : List (DataW H)} {j : Nat} {t : TypeId} {d : DataW H} (hsz : (DataW.weightsEach P ts ds).all (· ≤ reachBytes) = true) (ht : ts[j]? = some t) (hd : ds[j]? = some d) : ∀ n ∈ d.weights P t, n ≤ reachBytes := fun n hn => by
  have := List.all_eq_true.1 hsz n (weightsEach_mem ht hd hn)
  simpa using this
end
end Go.Proofs.YtpalafegcndccaaDoorZ

namespace Go.Proofs.YtpalafegcndccaaDoor.X
open Go.RowKit Go.Proofs.YtpalafegcndccaaDoorW.PrintWords Go.Proofs.YtpalafegcndccaaDoorW.PrintLast Go.Proofs.YtpalafegcndccaaDoorW.PrintMore
open Go.Proofs.YtpalafegcndccaaDoorZ
namespace OFnHistories
def Pure : Prop := ∀ (l0 : List Int), (l0.length * 1 ≤ 140737488351232 ∧ l0.length ≤ 9223372036854775807 ∧ ∀ y2 ∈ l0, (Lit.int .u8 y2).wf = true) → ∃ k, Aj.f k l0 = some true
end OFnHistories
end Go.Proofs.YtpalafegcndccaaDoor.X

namespace Go.Proofs.YtpalafegcndccaaDoorL
open Go.RowKit Go.Proofs.YtpalafegcndccaaDoorW.PrintWords
theorem ev_eq {α : Type} {g : Nat → Option α} {r : α} (h : ∀ k, g k = some r) : Ev g r := ⟨0, fun k _ => h k⟩
theorem ev_rounds {α : Type} {g : Nat → Option α} {r : α} (h : Ev g r) : ∃ k, g k = some r := h.rounds
theorem Gi {x : Int} (h0 : -9223372036854775808 ≤ x) (h1 : x ≤ 9223372036854775807) : wrap64 x = x := by unfold wrap64; omega
theorem wrap_succ {n : Nat} (h : n < 9223372036854775807) : wrap64 ((n : Int) + 1) = ((n + 1 : Nat) : Int) := by rw [Gi (by omega) (by omega)]; rfl
theorem rd_at (l : List Int) (n : Nat) (h : n < l.length) : rd l (n : Int) = l[n] := by simp [rd, List.getD_eq_getElem?_getD, List.getElem?_eq_getElem h]
/-- A loop over i, i + 1, .., d times. -/
def Hf {σ : Type} (step : Int → σ → σ) : Nat → Int → σ → σ
  | 0, _, s => s
  | d + 1, i, s => Hf step d (i + 1) (step i s)
end Go.Proofs.YtpalafegcndccaaDoorL

namespace Go.Proofs.YtpalafegcndccaaDoor.X
open Go.RowKit Go.Proofs.YtpalafegcndccaaDoorW.PrintWords Go.Proofs.YtpalafegcndccaaDoorW.PrintLast Go.Proofs.YtpalafegcndccaaDoorW.PrintMore
attribute [local go_sem] Ej Eg Eu Ew D9 D8 Ei Eh
open Go.Proofs.YtpalafegcndccaaDoorG
def laws_szEventS.f (l0 : List (S51)) (a1 : Int) : Option (Int) := if (wrap64 (a1 - (l0.length : Int))) < 0 then (some (-1)) else (some (wrap64 (a1 - (l0.length : Int))))
set_option maxHeartbeats 8000000 in
set_option maxRecDepth 100000 in
theorem laws_szEventS.calls (A0 : Option Addr) (c0 : Nat) (l0 : List (S51)) (a1 : Int) (r : Int) (w : World) (hr0 : Kd.C k51 w A0 l0.length l0) (hc0 : l0.length ≤ c0) (h : laws_szEventS.f l0 a1 = some r) :
    Calls Tryd.prog 6 #[.slice A0 l0.length c0, .int .i64 a1] w fun e w' => e = .returned (.int .i64 r) ∧ Cj w w' := by
  have HR0 := Aa.mk hr0
  have HC0 := Aa.mk hc0
  clear hr0 hc0
  have H : (if (wrap64 (a1 - (l0.length : Int))) < 0 then (some (-1)) else (some (wrap64 (a1 - (l0.length : Int))))) = some r := h
  clear h
  by_cases c3 : (wrap64 (a1 - (l0.length : Int))) < 0
  · rw [if_pos c3] at H
    have c3b0 : decide ((wrap64 (a1 - (l0.length : Int))) < 0) = true := decide_eq_true c3
    clear c3
    obtain rfl := Option.some.inj H
    go_enter Tryd.func6, Tryd.ntmps6
    go_wp2
    go_ret
    exact ⟨by first | rfl | (simp; done) | (simp [*]; done), by repeat (first | exact Cj.refl _ | apply Cj.step)⟩
  · rw [if_neg c3] at H
    have c3b0 : decide ((wrap64 (a1 - (l0.length : Int))) < 0) = false := decide_eq_false c3
    clear c3
    obtain rfl := Option.some.inj H
    go_enter Tryd.func6, Tryd.ntmps6
    go_wp2
    go_ret
    exact ⟨by first | rfl | (simp; done) | (simp [*]; done), by repeat (first | exact Cj.refl _ | apply Cj.step)⟩
end Go.Proofs.YtpalafegcndccaaDoor.X

namespace Go.Proofs.YtpalafegcndccaaDoor.X
open Go.RowKit Go.Proofs.YtpalafegcndccaaDoorW.PrintWords Go.Proofs.YtpalafegcndccaaDoorW.PrintLast Go.Proofs.YtpalafegcndccaaDoorW.PrintMore
attribute [local go_sem] Ej Eg Eu Ew D9 D8 Ei Eh
open Go.Proofs.YtpalafegcndccaaDoorG
def Jc.f (a0_0 : Int) (a0_1 : Int) : Option (Int × Int) := some (a0_0, a0_1)
set_option maxHeartbeats 8000000 in
set_option maxRecDepth 100000 in
theorem Jc.calls (a0_0 : Int) (a0_1 : Int) (r1 : Int) (r2 : Int) (w : World) (h : Jc.f a0_0 a0_1 = some (r1, r2)) :
    Calls Tryd.prog 27 #[.agg #[.int .i64 a0_0, .int .i64 a0_1]] w fun e w' => e = .returned (.agg #[.int .i64 r1, .int .i64 r2]) ∧ Below w.heap.size w w' := by
  have hu51 := Tryd.underlying51
  have hu40 := Tryd.underlying40
  have HB := Aa.mk (Below.refl w.heap.size w)
  have H : (some (a0_0, a0_1)) = some (r1, r2) := h
  clear h
  simp only [Option.some.injEq, Prod.mk.injEq] at H
  obtain ⟨rfl, rfl⟩ := H
  go_enter Tryd.func27, Tryd.ntmps27
  go_wp2_with (first | ((with_reducible refine D7 (N := 1) rfl ?_); refine Es ?hg (N := 1) ?hd (cs := #[.int .i64 a0_0, .int .i64 a0_1]) (t := 51) ?hr ?_; (case hd => rfl); (case hg => rfl); (case hr => first | (go_simp; done) | (go_simp; rfl)); intro gb121 hg w2 hbox hb; have n0_ := Aa.mk (Ap (by repeat (first | (with_reducible first | exact HB.out | apply Ae | apply Ac | apply Ad) | exact HB.out)) hb); have n1_ := Aa.mk (hbox); have n2_ := Aa.mk ((by rw [hg]; exact (Aq (by repeat (first | (with_reducible first | exact HB.out | apply Ae | apply Ac | apply Ad) | exact HB.out))) : w.heap.size ≤ gb121)); have n3_ := Aa.mk ((by rw [hg]; exact (Aq (by repeat (first | (with_reducible first | exact HB.out | apply Ae | apply Ac | apply Ad) | exact HB.out))) : w.heap.size ≤ gb121)); clear HB; have HB := n0_; have BK121 := n1_; have GW121 := n2_; have GE121 := n3_; clear n0_ n1_ n2_ n3_; clear hb hbox hg) | ((with_reducible refine D7 (N := 2) rfl ?_); refine Es ?hg (N := 2) ?hd (cs := #[.int .i64 0, .int .i64 0]) (t := 40) ?hr ?_; (case hd => rfl); (case hg => rfl); (case hr => first | (go_simp; done) | (go_simp; rfl)); intro gb122 hg w3 hbox hb; have n0_ := Aa.mk (Dv (g := gb121) (o := .cells #[.int .i64 a0_0, .int .i64 a0_1] 51 (0, 0)) (by (with_reducible repeat (first | refine Au ?_ _ | refine Az ?_ | refine Ar ?_ _)); exact BK121.out) hb); have n1_ := Aa.mk (Ap (by repeat (first | (with_reducible first | exact HB.out | apply Ae | apply Ac | apply Ad | refine Ag ?_ GE121.out) | exact HB.out)) hb); have n2_ := Aa.mk (hbox); have n3_ := Aa.mk ((by rw [hg]; exact (Aq (by repeat (first | (with_reducible first | exact HB.out | apply Ae | apply Ac | apply Ad | refine Ag ?_ GE121.out) | exact HB.out))) : w.heap.size ≤ gb122)); have n4_ := Aa.mk ((by rw [hg]; exact (Aq (by repeat (first | (with_reducible first | exact HB.out | apply Ae | apply Ac | apply Ad | refine Ag ?_ GE121.out) | exact HB.out))) : w.heap.size ≤ gb122)); have n5_ := Aa.mk ((by rw [hg]; exact Nat.ne_of_lt (He (g := gb121) (o := .cells #[.int .i64 a0_0, .int .i64 a0_1] 51 (0, 0)) (by (with_reducible repeat (first | refine Au ?_ _ | refine Az ?_ | refine Ar ?_ _)); exact BK121.out)) : gb121 ≠ gb122)); have n6_ := Aa.mk ((by rw [hg]; exact Nat.ne_of_gt (He (g := gb121) (o := .cells #[.int .i64 a0_0, .int .i64 a0_1] 51 (0, 0)) (by (with_reducible repeat (first | refine Au ?_ _ | refine Az ?_ | refine Ar ?_ _)); exact BK121.out)) : gb122 ≠ gb121)); clear BK121; clear HB; have BK121 := n0_; have HB := n1_; have BK122 := n2_; have GW122 := n3_; have GE122 := n4_; have NB121_122 := n5_; have NB122_121 := n6_; clear n0_ n1_ n2_ n3_ n4_ n5_ n6_; clear hb hbox hg) | ((with_reducible refine D7 (N := 3) rfl ?_); refine Es ?hg (N := 3) ?hd (cs := #[.int .i64 0, .int .i64 0]) (t := 40) ?hr ?_; (case hd => rfl); (case hg => rfl); (case hr => first | (go_simp; done) | (go_simp; rfl)); intro gb123 hg w4 hbox hb; have n0_ := Aa.mk (Dv (g := gb121) (o := .cells #[.int .i64 a0_0, .int .i64 a0_1] 51 (0, 0)) (by (with_reducible repeat (first | refine Au ?_ _ | refine Az ?_ | refine Ar ?_ _)); exact BK121.out) hb); have n1_ := Aa.mk (Dv (g := gb122) (o := .cells #[.int .i64 0, .int .i64 0] 40 (0, 0)) (by (with_reducible repeat (first | refine Au ?_ _ | refine Az ?_ | refine Ar ?_ _)); exact BK122.out) hb); have n2_ := Aa.mk (Ap (by repeat (first | (with_reducible first | exact HB.out | apply Ae | apply Ac | apply Ad | refine Ag ?_ GE121.out | refine Ag ?_ GE122.out) | exact HB.out)) hb); have n3_ := Aa.mk (hbox); have n4_ := Aa.mk ((by rw [hg]; exact (Aq (by repeat (first | (with_reducible first | exact HB.out | apply Ae | apply Ac | apply Ad | refine Ag ?_ GE121.out | refine Ag ?_ GE122.out) | exact HB.out))) : w.heap.size ≤ gb123)); have n5_ := Aa.mk ((by rw [hg]; exact (Aq (by repeat (first | (with_reducible first | exact HB.out | apply Ae | apply Ac | apply Ad | refine Ag ?_ GE121.out | refine Ag ?_ GE122.out) | exact HB.out))) : w.heap.size ≤ gb123)); have n6_ := Aa.mk ((by rw [hg]; exact Nat.ne_of_lt (He (g := gb121) (o := .cells #[.int .i64 a0_0, .int .i64 a0_1] 51 (0, 0)) (by (with_reducible repeat (first | refine Au ?_ _ | refine Az ?_ | refine Ar ?_ _)); exact BK121.out)) : gb121 ≠ gb123)); have n7_ := Aa.mk ((by rw [hg]; exact Nat.ne_of_gt (He (g := gb121) (o := .cells #[.int .i64 a0_0, .int .i64 a0_1] 51 (0, 0)) (by (with_reducible repeat (first | refine Au ?_ _ | refine Az ?_ | refine Ar ?_ _)); exact BK121.out)) : gb123 ≠ gb121)); have n8_ := Aa.mk ((by rw [hg]; exact Nat.ne_of_lt (He (g := gb122) (o := .cells #[.int .i64 0, .int .i64 0] 40 (0, 0)) (by (with_reducible repeat (first | refine Au ?_ _ | refine Az ?_ | refine Ar ?_ _)); exact BK122.out)) : gb122 ≠ gb123)); have n9_ := Aa.mk ((by rw [hg]; exact Nat.ne_of_gt (He (g := gb122) (o := .cells #[.int .i64 0, .int .i64 0] 40 (0, 0)) (by (with_reducible repeat (first | refine Au ?_ _ | refine Az ?_ | refine Ar ?_ _)); exact BK122.out)) : gb123 ≠ gb122)); clear BK121; clear BK122; clear HB; have BK121 := n0_; have BK122 := n1_; have HB := n2_; have BK123 := n3_; have GW123 := n4_; have GE123 := n5_; have NB121_123 := n6_; have NB123_121 := n7_; have NB122_123 := n8_; have NB123_122 := n9_; clear n0_ n1_ n2_ n3_ n4_ n5_ n6_ n7_ n8_ n9_; clear hb hbox hg; have hnb5 := NB121_122.out; have hnc5 := NB122_121.out; have hnb6 := NB121_123.out; have hnc6 := NB123_121.out; have hcz7_0 : w4.cell? ⟨gb121, 0, none⟩ = some (.int .i64 a0_0) := (Bd BK121.out 0).trans rfl; have hcz7_1 : w4.cell? ⟨gb121, 1, none⟩ = some (.int .i64 a0_1) := (Bd BK121.out 1).trans rfl; have hfz7_0 := Bl BK121.out 0; have hfz7_1 := Bl BK121.out 1; have hnb8 := NB123_122.out; have hnc8 := NB122_123.out; have hcz9_0 : w4.cell? ⟨gb123, 0, none⟩ = some (.int .i64 0) := (Bd BK123.out 0).trans rfl; have hcz9_1 : w4.cell? ⟨gb123, 1, none⟩ = some (.int .i64 0) := (Bd BK123.out 1).trans rfl; have hfz9_0 := Bl BK123.out 0; have hfz9_1 := Bl BK123.out 1; have hcz10_0 : w4.cell? ⟨gb122, 0, none⟩ = some (.int .i64 0) := (Bd BK122.out 0).trans rfl; have hcz10_1 : w4.cell? ⟨gb122, 1, none⟩ = some (.int .i64 0) := (Bd BK122.out 1).trans rfl; have hfz10_0 := Bl BK122.out 0; have hfz10_1 := Bl BK122.out 1))
  refine bodyPost_ret (results_cell_row rfl _ _ gb122 40 #[.int .i64 a0_0, .int .i64 a0_1] (0, 0) _ rfl (by (with_reducible repeat (first | refine Au ?_ _ | refine Az ?_ | refine Ar ?_ _)); refine Fv (cs := #[.int .i64 a0_0, .int .i64 0]) ?_ 1 _ rfl; (with_reducible repeat (first | refine Au ?_ _ | refine Az ?_ | refine Ar ?_ _)); refine Fv (cs := #[.int .i64 0, .int .i64 0]) ?_ 0 _ rfl; (with_reducible repeat (first | refine Au ?_ _ | refine Az ?_ | refine Ar ?_ _)); refine blk_far ?_ NB122_123.out _; (with_reducible repeat (first | refine Au ?_ _ | refine Az ?_ | refine Ar ?_ _)); refine blk_far ?_ NB122_123.out _; (with_reducible repeat (first | refine Au ?_ _ | refine Az ?_ | refine Ar ?_ _)); exact BK122.out) Tryd.underlying40 rfl (by kernel_rfl)) rfl ?_
  exact ⟨by first | rfl | (simp [Be, Bf] <;> rfl) | (simp [*, Be, Bf] <;> rfl), by repeat (first | (with_reducible first | exact HB.out | apply Ae | apply Ac | apply Ad | refine Ag ?_ GE121.out | refine Ag ?_ GE122.out | refine Ag ?_ GE123.out) | exact HB.out)⟩
end Go.Proofs.YtpalafegcndccaaDoor.X

namespace Go.Proofs.YtpalafegcndccaaDoor.X
open Go.RowKit Go.Proofs.YtpalafegcndccaaDoorW.PrintWords Go.Proofs.YtpalafegcndccaaDoorW.PrintLast Go.Proofs.YtpalafegcndccaaDoorW.PrintMore
attribute [local go_sem] Ej Eg Eu Ew D9 D8 Ei Eh
open Go.Proofs.YtpalafegcndccaaDoorG
def Fb.l0 : Nat → List (S51) → List (S40) → Int → Option ((List (S40)))
  | 0, _, _, _ => none
  | k + 1, x0, x3, x4 => if x4 < (x0.length : Int) then (if 0 ≤ x4 then ((Jc.f ((rd_T51 x0 x4).f0) ((rd_T51 x0 x4).f1)).bind fun bt128 => (if x4 < (x3.length : Int) then (Fb.l0 k x0 (x3.set (x4 : Int).toNat (⟨bt128.1, bt128.2⟩ : S40)) (wrap64 (x4 + 1))) else (none))) else (none)) else (some x3)
def Fb.f (k : Nat) (l0 : List (S51)) : Option ((List (S40))) := if 0 ≤ (l0.length : Int) then (if ((l0.length : Int) : Int).toNat ≤ 17592186044416 then (Fb.l0 k l0 (List.replicate ((l0.length : Int) : Int).toNat z40) 0) else (none)) else (none)
theorem Fb.Et : ∀ k, (∀ y0 y1 y2, LeO (Fb.l0 k y0 y1 y2) (Fb.l0 (k + 1) y0 y1 y2))
  | 0 => fun _ _ _ r h => by simp [Fb.l0] at h
  | k + 1 => by
    have ih0 := Fb.Et k
    · intro y0 y1 y2
      unfold Fb.l0
      repeat' first
      | (with_reducible exact ih0 _ _ _)
      | (with_reducible exact LeO.refl _)
      | (with_reducible exact LeO.none _)
      | (with_reducible refine LeO.ite ?_ ?_)
      | (with_reducible refine LeO.bind ?_ (fun _ => ?_))
      | exact ih0 _ _ _
      | exact LeO.none _
      | refine LeO.ite ?_ ?_
      | refine LeO.bind ?_ (fun _ => ?_)
theorem Fb.mono : ∀ a0 k, LeO (Fb.f k a0) (Fb.f (k + 1) a0) := by
  intro a0 k
  have ih0 := Fb.Et k
  unfold Fb.f
  repeat' first
      | (with_reducible exact ih0 _ _ _)
      | (with_reducible exact LeO.refl _)
      | (with_reducible exact LeO.none _)
      | (with_reducible refine LeO.ite ?_ ?_)
      | (with_reducible refine LeO.bind ?_ (fun _ => ?_))
      | exact ih0 _ _ _
      | exact LeO.none _
      | refine LeO.ite ?_ ?_
      | refine LeO.bind ?_ (fun _ => ?_)
set_option maxHeartbeats 8000000 in
set_option maxRecDepth 100000 in
theorem Fb.calls (k : Nat) (A0 : Option Addr) (c0 : Nat) (l0 : List (S51)) (r : List (S40)) (w : World) (hr0 : Kd.C k51 w A0 l0.length l0) (hc0 : l0.length ≤ c0) (h : Fb.f k l0 = some r) :
    Calls Tryd.prog 8 #[.slice A0 l0.length c0] w fun e w' => ∃ v0_ : Value, e = .returned (v0_) ∧ Kd.R k40 40 w' w.heap.size (fun _ => True) v0_ r ∧ Below w.heap.size w w' := by
  have hu51 := Tryd.underlying51
  have hu40 := Tryd.underlying40
  have HR0 := Aa.mk hr0
  have HC0 := Aa.mk hc0
  clear hr0 hc0
  have HB := Aa.mk (Below.refl w.heap.size w)
  have H : (if 0 ≤ (l0.length : Int) then (if ((l0.length : Int) : Int).toNat ≤ 17592186044416 then (Fb.l0 k l0 (List.replicate ((l0.length : Int) : Int).toNat z40) 0) else (none)) else (none)) = some r := h
  clear h
  by_cases c2 : 0 ≤ (l0.length : Int)
  · rw [if_pos c2] at H
    have c2b0 := eq_true c2
    have c2b1 : decide (0 ≤ (l0.length : Int)) = true := decide_eq_true c2
    clear c2
    by_cases c3 : ((l0.length : Int) : Int).toNat ≤ 17592186044416
    · rw [if_pos c3] at H
      have c3b0 := eq_true c3
      have c3b1 : decide (((l0.length : Int) : Int).toNat ≤ 17592186044416) = true := decide_eq_true c3
      clear c3
      obtain ⟨y124, hy124⟩ : ∃ y_ : List (S40), y_ = (List.replicate ((l0.length : Int) : Int).toNat z40) := ⟨_, rfl⟩
      replace H : (Fb.l0 k l0 y124 0) = some r := by first | (rw [hy124]; with_reducible exact H) | (have H2_ := (Option.bind_some _ _).symm.trans H; rw [hy124]; with_reducible exact H2_) | (have H2_ := (Option.bind_some _ _).symm.trans H; with_reducible exact H2_) | with_reducible exact H | (rw [hy124]; exact H) | exact H
      have Ny124 := Aa.mk hy124
      clear hy124
      have H' := Aa.mk H
      clear H
      go_enter Tryd.func8, Tryd.ntmps8
      go_wp2_with (first | ((with_reducible refine D7 (N := 7) rfl ?_); refine Kd.R_make k40 _ 40 rfl (N := 7) rfl 26 _ _ rfl (l0.length : Int) rfl rfl Tryd.underlying26 (.agg #[(.int .i64 0), (.int .i64 0)]) 16 Hr rfl (by decide) (by omega) z40 (ok := fun _ => True) (okp := fun _ => True) (G8 _ _ _ z40 ) (fun _ hk => hk) trivial (of_decide_eq_true (by first | (with_reducible assumption) | assumption)) (Nat.le_trans (Nat.mul_le_mul_right _ (of_decide_eq_true (by first | (with_reducible assumption) | assumption) : (l0.length : Int).toNat ≤ 17592186044416)) (by omega)) (Below.refl _ _) (Nat.le_refl _) ?_; intro v125 w4 ho5 hb hg_ hnew_; clear hg_ hnew_; (first | rw [← Ny124.out] at ho5 | (simp only [Int.reduceToNat] at ho5; rw [← Ny124.out] at ho5)); have n0_ := Aa.mk (Kd.Du ho5 (Aq (by repeat (first | (with_reducible first | exact HB.out | apply Ae | apply Ac | apply Ad) | exact HB.out)))); have n1_ := Aa.mk (Ap (by repeat (first | (with_reducible first | exact HB.out | apply Ae | apply Ac | apply Ad) | exact HB.out)) hb); clear HB; have HO126 := n0_; have HB := n1_; clear n0_ n1_; clear hb ho5))
      go_loopg [4] k (fun kq v4 w' => ∃ (x3_1 : List (S40)) (x4_1 : Int), v4 = .int .i64 x4_1 ∧ Aa (Fb.l0 kq l0 x3_1 x4_1 = some r) ∧ Aa (kq ≤ k) ∧ Aa (Kd.R k40 40 w' w.heap.size (fun _ => True) v125 x3_1) ∧ Aa (Below w.heap.size w w'))
      case atStart => exact ⟨(y124), (0), (by first | rfl | (simp; done) | (simp [*]; done)), H', ⟨Nat.le_refl _⟩, ⟨by (with_reducible repeat (first | apply Kd.Ah | apply Kd.Ai | apply Kd.Ak)); exact HO126.out⟩, ⟨by repeat (first | (with_reducible first | exact HB.out | apply Ae | apply Ac | apply Ad) | exact HB.out)⟩⟩
      case round =>
        clear H'
        try clear c2
        try clear c2b0
        try clear c2b1
        try clear p2
        try clear c3
        try clear c3b0
        try clear c3b1
        obtain ⟨x3_1, x4_1, rfl, HA, HK1, HO_3, HB⟩ := hrel
        cases gk with
        | zero => exact absurd HA.out (by simp [Fb.l0])
        | succ k1 =>
          have H := HA.out
          clear HA
          simp only [Fb.l0] at H
          by_cases c6 : x4_1 < (l0.length : Int)
          · rw [if_pos c6] at H
            have c6b0 : decide (x4_1 < (l0.length : Int)) = true := decide_eq_true c6
            clear c6
            by_cases c7 : 0 ≤ x4_1
            · rw [if_pos c7] at H
              have c7b0 : decide (0 ≤ x4_1) = true := decide_eq_true c7
              clear c7
              replace H := Option.bind_eq_some_iff.mp H
              obtain ⟨⟨t128, t129⟩, A80, H⟩ := H
              replace H : (if x4_1 < (x3_1.length : Int) then (Fb.l0 k1 l0 (x3_1.set (x4_1 : Int).toNat (⟨t128, t129⟩ : S40)) (wrap64 (x4_1 + 1))) else (none)) = some r := H
              have A8 := Aa.mk A80
              clear A80
              by_cases c9 : x4_1 < (x3_1.length : Int)
              · rw [if_pos c9] at H
                have c9b0 : decide (x4_1 < (x3_1.length : Int)) = true := decide_eq_true c9
                clear c9
                obtain ⟨y130, hy130⟩ : ∃ y_ : List (S40), y_ = (x3_1.set (x4_1 : Int).toNat (⟨t128, t129⟩ : S40)) := ⟨_, rfl⟩
                replace H : (Fb.l0 k1 l0 y130 (wrap64 (x4_1 + 1))) = some r := by first | (rw [hy130]; with_reducible exact H) | (have H2_ := (Option.bind_some _ _).symm.trans H; rw [hy130]; with_reducible exact H2_) | (have H2_ := (Option.bind_some _ _).symm.trans H; with_reducible exact H2_) | with_reducible exact H | (rw [hy130]; exact H) | exact H
                have Ny130 := Aa.mk hy130
                clear hy130
                have H' := Aa.mk H
                clear H
                have p127 : 0 ≤ (x4_1 : Int) := of_decide_eq_true (by first | (with_reducible assumption) | assumption)
                have q127 : x4_1 < (l0.length : Int) := of_decide_eq_true (by first | (with_reducible assumption) | assumption)
                obtain ⟨ad127, e127, hx127_0, hx127_1⟩ := at_T51 HR0.out x4_1 p127 q127
                cases e127
                replace hx127_0 := (HB.out.cell (World.block_lt_of_cell? w _ hx127_0)).trans hx127_0
                replace hx127_1 := (HB.out.cell (World.block_lt_of_cell? w _ hx127_1)).trans hx127_1
                replace p127 := eq_true p127
                replace q127 := eq_true q127
                go_wp2_with (first | ((with_reducible refine Bv (f := 27) rfl ?_); refine D5 (some 20) rfl rfl Tryd.func27 (by kernel_rfl) rfl #[.agg #[.int .i64 ((rd_T51 l0 x4_1).f0), .int .i64 ((rd_T51 l0 x4_1).f1)]] rfl (by (try simp only [List.map_toArray, List.map_cons, List.map_nil]); first | done | rfl | (simp only [List.length_drop, List.length_take]; rfl)) ?_; (with_reducible refine (Jc.calls ((rd_T51 l0 x4_1).f0) ((rd_T51 l0 x4_1).f1) t128 t129 _ A8.out).mono ?_); rintro e w11 ⟨rfl, hb⟩; refine ⟨_, rfl, ?_⟩; have n0_ := Aa.mk (Kd.Dk (by (with_reducible repeat (first | apply Kd.Ah | apply Kd.Ai | apply Kd.Ak)); exact HO_3.out) hb); have n1_ := Aa.mk (Ap (by repeat (first | (with_reducible first | exact HB.out | apply Ae | apply Ac | apply Ad) | exact HB.out)) hb); clear HO_3; clear HB; have HO_3 := n0_; have HB := n1_; clear n0_ n1_; (try clear hb); (try clear hb2); (try clear hk); (try clear hi); have p10 : 0 ≤ (x4_1 : Int) := of_decide_eq_true (by first | (with_reducible assumption) | assumption); have q10 : (x4_1 : Int) < ((x3_1.length : Int) : Int) := of_decide_eq_true (by first | (with_reducible assumption) | assumption); obtain ⟨go10, co10, eo10, gb10, gl10, cl10, HG10⟩ := Kd.R_form HO_3.out (by omega); (first | cases eo10 | (injection eo10 with ea_ en_ ec_; (first | subst ea_ | (injection ea_ with ea_; subst ea_)); subst ec_; clear en_)); have GB10 := Aa.mk gb10; have GG10 := Aa.mk HG10; clear gb10 gl10 HG10; obtain ⟨ce10, hcl10, hM10, hcc10, hfr10⟩ := Kd.R_elem HO_3.out z40 (x4_1 : Int) p10 q10; obtain rfl := k40_openM hM10; have hx10_0 : w11.cell? ⟨go10, (x4_1 : Int).toNat * 2, none⟩ = some (.int .i64 ((Bc x3_1 x4_1).f0)) := hcc10 0 _ rfl; have hx10_1 : w11.cell? ⟨go10, (x4_1 : Int).toNat * 2 + 1, none⟩ = some (.int .i64 ((Bc x3_1 x4_1).f1)) := hcc10 1 _ rfl; have hf10_0 : w11.frozen? ⟨go10, (x4_1 : Int).toNat * 2, none⟩ = false := hfr10 0; have hf10_1 : w11.frozen? ⟨go10, (x4_1 : Int).toNat * 2 + 1, none⟩ = false := hfr10 1; (try clear hcl10); (try clear hcc10); (try clear hfr10); (try clear hM10); replace p10 := eq_true p10; replace q10 := eq_true q10; have HX12 := Aa.mk (show Kd.R k40 40 w11 w.heap.size (fun _ => True) (.slice (some ⟨go10, 0, none⟩) x3_1.length co10) x3_1 from (by (with_reducible repeat (first | apply Kd.Ah | apply Kd.Ai | apply Kd.Ak)); exact HO_3.out)); obtain ⟨ce12, hcl12, hM12, hcc12, hfr12⟩ := Kd.R_elem HX12.out z40 (x4_1 : Int) (of_decide_eq_true (by first | (with_reducible assumption) | assumption)) (by have h_ : (x4_1 : Int) < ((x3_1.length : Int) : Int) := of_decide_eq_true (by first | (with_reducible assumption) | assumption); first | exact h_ | (have e_ := (Kd.Ba HO_3.out).1; omega) | simpa using h_); obtain rfl := k40_openM hM12; have HP12 := Kd.R_seg HX12.out (x4_1 : Int) (of_decide_eq_true (by first | (with_reducible assumption) | assumption)) (by have h_ : (x4_1 : Int) < ((x3_1.length : Int) : Int) := of_decide_eq_true (by first | (with_reducible assumption) | assumption); first | exact h_ | (have e_ := (Kd.Ba HO_3.out).1; omega) | simpa using h_) (seg := [.int .i64 t128, .int .i64 t129]) (j := 0) hcl12 hcc12 (show 2 ≤ 2 from by decide) (x' := (⟨t128, t129⟩ : S40)) (G8 _ _ _ (⟨t128, t129⟩ : S40) ) (fun _ hk => hk); have hx12_0 := hcc12 0 _ rfl; (try simp only [show (k40).sz = 2 from rfl, Nat.mul_one, Nat.add_zero] at hx12_0); have hf12_0 := hfr12 0; (try simp only [show (k40).sz = 2 from rfl, Nat.mul_one, Nat.add_zero] at hf12_0); have hx12_1 := hcc12 1 _ rfl; (try simp only [show (k40).sz = 2 from rfl, Nat.mul_one, Nat.add_zero] at hx12_1); have hf12_1 := hfr12 1; (try simp only [show (k40).sz = 2 from rfl, Nat.mul_one, Nat.add_zero] at hf12_1); clear hcl12 hcc12 hfr12 hM12) | ((with_reducible refine gate_store (t := 40) (p := 21) rfl ?_); refine store_event (t := 40) (p := 21) (v := ?vo_w13) (w1 := ((w11.setCell ⟨go10, (x4_1 : Int).toNat * 2, none⟩ (.int .i64 t128)).setCell ⟨go10, (x4_1 : Int).toNat * 2 + 1, none⟩ (.int .i64 t129))) ?hg ?ho ?hn ?hr ?_; (case ho => rfl); (case hg => rfl); (case hn => rfl); (case hr => first | (go_simp; done) | (go_simp; rfl)); intro w13 hw; have hg : w11.grownBy w13 (some go10) := (by rw [hw]; exact HP12.2); have hp_ : Kd.R k40 40 w13 w.heap.size (fun _ => True) (.slice (some ⟨go10, 0, none⟩) x3_1.length co10) y130 := (by rw [hw, Ny130.out]; exact HP12.1); clear HP12; have n0_ := Aa.mk (hp_); have n1_ := Aa.mk ((by rw [hw]; exact Ag (Ag (HB.out) GB10.out) GB10.out : Below w.heap.size w w13)); clear HO_3; clear HB; have HO_3 := n0_; have HB := n1_; clear n0_ n1_; clear hg hw hp_))
                go_roundg k1
                case measure => have := HK1.out; omega
                case rel => exact ⟨(y130), (wrap64 (x4_1 + 1)), (by first | rfl | (simp; done) | (simp [*]; done)), H', ⟨by have := HK1.out; omega⟩, ⟨by (with_reducible repeat (first | apply Kd.Ah | apply Kd.Ai | apply Kd.Ak)); exact HO_3.out⟩, ⟨by repeat (first | (with_reducible first | exact HB.out | apply Ae | apply Ac | apply Ad) | exact HB.out)⟩⟩
              · rw [if_neg c9] at H
                exact absurd H (by simp)
            · rw [if_neg c7] at H
              exact absurd H (by simp)
          · rw [if_neg c6] at H
            have c6b0 : decide (x4_1 < (l0.length : Int)) = false := decide_eq_false c6
            clear c6
            obtain rfl := Option.some.inj H
            go_wp2
            go_ret
            exact ⟨_, by first | rfl | (simp [Be, Bf] <;> rfl) | (simp [*, Be, Bf] <;> rfl), by (with_reducible repeat (first | apply Kd.Ah | apply Kd.Ai | apply Kd.Ak)); exact HO_3.out, by repeat (first | (with_reducible first | exact HB.out | apply Ae | apply Ac | apply Ad) | exact HB.out)⟩
    · rw [if_neg c3] at H
      exact absurd H (by simp)
  · rw [if_neg c2] at H
    exact absurd H (by simp)
end Go.Proofs.YtpalafegcndccaaDoor.X

namespace Go.Proofs.YtpalafegcndccaaDoor.X
open Go.RowKit Go.Proofs.YtpalafegcndccaaDoorW.PrintWords Go.Proofs.YtpalafegcndccaaDoorW.PrintLast Go.Proofs.YtpalafegcndccaaDoorW.PrintMore
attribute [local go_sem] Ej Eg Eu Ew D9 D8 Ei Eh
open Go.Proofs.YtpalafegcndccaaDoorG
def I7.f (a0_0 : Int) (a0_1 : Int) (a1_0 : Int) (a1_1 : Int) : Option (Bool) := if a0_0 = a1_0 then (if a0_1 = a1_1 then (some true) else (some false)) else (some false)
set_option maxHeartbeats 8000000 in
set_option maxRecDepth 100000 in
theorem I7.calls (a0_0 : Int) (a0_1 : Int) (a1_0 : Int) (a1_1 : Int) (r : Bool) (w : World) (h : I7.f a0_0 a0_1 a1_0 a1_1 = some r) :
    Calls Tryd.prog 29 #[.agg #[.int .i64 a0_0, .int .i64 a0_1], .agg #[.int .i64 a1_0, .int .i64 a1_1]] w fun e w' => e = .returned (.bool r) ∧ Below w.heap.size w w' := by
  have hu40 := Tryd.underlying40
  have HB := Aa.mk (Below.refl w.heap.size w)
  have H : (if a0_0 = a1_0 then (if a0_1 = a1_1 then (some true) else (some false)) else (some false)) = some r := h
  clear h
  by_cases c3 : a0_0 = a1_0
  · rw [if_pos c3] at H
    have c3b0 : (a0_0 == a1_0) = true := beq_iff_eq.mpr c3
    have c3b1 : (a0_0 != a1_0) = false := bne_eq_false_iff_eq.mpr c3
    clear c3
    by_cases c4 : a0_1 = a1_1
    · rw [if_pos c4] at H
      have c4b0 : (a0_1 == a1_1) = true := beq_iff_eq.mpr c4
      have c4b1 : (a0_1 != a1_1) = false := bne_eq_false_iff_eq.mpr c4
      clear c4
      obtain rfl := Option.some.inj H
      go_enter Tryd.func29, Tryd.ntmps29
      go_wp2_with (first | ((with_reducible refine D7 (N := 2) rfl ?_); refine Es ?hg (N := 2) ?hd (cs := #[.int .i64 a0_0, .int .i64 a0_1]) (t := 40) ?hr ?_; (case hd => rfl); (case hg => rfl); (case hr => first | (go_simp; done) | (go_simp; rfl)); intro gb164 hg w5 hbox hb; have n0_ := Aa.mk (Ap (by repeat (first | (with_reducible first | exact HB.out | apply Ae | apply Ac | apply Ad) | exact HB.out)) hb); have n1_ := Aa.mk (hbox); have n2_ := Aa.mk ((by rw [hg]; exact (Aq (by repeat (first | (with_reducible first | exact HB.out | apply Ae | apply Ac | apply Ad) | exact HB.out))) : w.heap.size ≤ gb164)); have n3_ := Aa.mk ((by rw [hg]; exact (Aq (by repeat (first | (with_reducible first | exact HB.out | apply Ae | apply Ac | apply Ad) | exact HB.out))) : w.heap.size ≤ gb164)); clear HB; have HB := n0_; have BK164 := n1_; have GW164 := n2_; have GE164 := n3_; clear n0_ n1_ n2_ n3_; clear hb hbox hg) | ((with_reducible refine D7 (N := 3) rfl ?_); refine Es ?hg (N := 3) ?hd (cs := #[.int .i64 a1_0, .int .i64 a1_1]) (t := 40) ?hr ?_; (case hd => rfl); (case hg => rfl); (case hr => first | (go_simp; done) | (go_simp; rfl)); intro gb165 hg w6 hbox hb; have n0_ := Aa.mk (Dv (g := gb164) (o := .cells #[.int .i64 a0_0, .int .i64 a0_1] 40 (0, 0)) (by (with_reducible repeat (first | refine Au ?_ _ | refine Az ?_ | refine Ar ?_ _)); exact BK164.out) hb); have n1_ := Aa.mk (Ap (by repeat (first | (with_reducible first | exact HB.out | apply Ae | apply Ac | apply Ad | refine Ag ?_ GE164.out) | exact HB.out)) hb); have n2_ := Aa.mk (hbox); have n3_ := Aa.mk ((by rw [hg]; exact (Aq (by repeat (first | (with_reducible first | exact HB.out | apply Ae | apply Ac | apply Ad | refine Ag ?_ GE164.out) | exact HB.out))) : w.heap.size ≤ gb165)); have n4_ := Aa.mk ((by rw [hg]; exact (Aq (by repeat (first | (with_reducible first | exact HB.out | apply Ae | apply Ac | apply Ad | refine Ag ?_ GE164.out) | exact HB.out))) : w.heap.size ≤ gb165)); have n5_ := Aa.mk ((by rw [hg]; exact Nat.ne_of_lt (He (g := gb164) (o := .cells #[.int .i64 a0_0, .int .i64 a0_1] 40 (0, 0)) (by (with_reducible repeat (first | refine Au ?_ _ | refine Az ?_ | refine Ar ?_ _)); exact BK164.out)) : gb164 ≠ gb165)); have n6_ := Aa.mk ((by rw [hg]; exact Nat.ne_of_gt (He (g := gb164) (o := .cells #[.int .i64 a0_0, .int .i64 a0_1] 40 (0, 0)) (by (with_reducible repeat (first | refine Au ?_ _ | refine Az ?_ | refine Ar ?_ _)); exact BK164.out)) : gb165 ≠ gb164)); clear BK164; clear HB; have BK164 := n0_; have HB := n1_; have BK165 := n2_; have GW165 := n3_; have GE165 := n4_; have NB164_165 := n5_; have NB165_164 := n6_; clear n0_ n1_ n2_ n3_ n4_ n5_ n6_; clear hb hbox hg; have hnb7 := NB164_165.out; have hnc7 := NB165_164.out; have hcz8_0 : w6.cell? ⟨gb164, 0, none⟩ = some (.int .i64 a0_0) := (Bd BK164.out 0).trans rfl; have hcz8_1 : w6.cell? ⟨gb164, 1, none⟩ = some (.int .i64 a0_1) := (Bd BK164.out 1).trans rfl; have hfz8_0 := Bl BK164.out 0; have hfz8_1 := Bl BK164.out 1; have hcz9_0 : w6.cell? ⟨gb165, 0, none⟩ = some (.int .i64 a1_0) := (Bd BK165.out 0).trans rfl; have hcz9_1 : w6.cell? ⟨gb165, 1, none⟩ = some (.int .i64 a1_1) := (Bd BK165.out 1).trans rfl; have hfz9_0 := Bl BK165.out 0; have hfz9_1 := Bl BK165.out 1))
      go_ret
      exact ⟨by first | rfl | (simp [Be, Bf] <;> rfl) | (simp [*, Be, Bf] <;> rfl), by repeat (first | (with_reducible first | exact HB.out | apply Ae | apply Ac | apply Ad | refine Ag ?_ GE164.out | refine Ag ?_ GE165.out) | exact HB.out)⟩
    · rw [if_neg c4] at H
      have c4b0 : (a0_1 == a1_1) = false := beq_eq_false_iff_ne.mpr c4
      have c4b1 : (a0_1 != a1_1) = true := bne_iff_ne.mpr c4
      obtain rfl := Option.some.inj H
      go_enter Tryd.func29, Tryd.ntmps29
      go_wp2_with (first | ((with_reducible refine D7 (N := 2) rfl ?_); refine Es ?hg (N := 2) ?hd (cs := #[.int .i64 a0_0, .int .i64 a0_1]) (t := 40) ?hr ?_; (case hd => rfl); (case hg => rfl); (case hr => first | (go_simp; done) | (go_simp; rfl)); intro gb164 hg w10 hbox hb; have n0_ := Aa.mk (Ap (by repeat (first | (with_reducible first | exact HB.out | apply Ae | apply Ac | apply Ad) | exact HB.out)) hb); have n1_ := Aa.mk (hbox); have n2_ := Aa.mk ((by rw [hg]; exact (Aq (by repeat (first | (with_reducible first | exact HB.out | apply Ae | apply Ac | apply Ad) | exact HB.out))) : w.heap.size ≤ gb164)); have n3_ := Aa.mk ((by rw [hg]; exact (Aq (by repeat (first | (with_reducible first | exact HB.out | apply Ae | apply Ac | apply Ad) | exact HB.out))) : w.heap.size ≤ gb164)); clear HB; have HB := n0_; have BK164 := n1_; have GW164 := n2_; have GE164 := n3_; clear n0_ n1_ n2_ n3_; clear hb hbox hg) | ((with_reducible refine D7 (N := 3) rfl ?_); refine Es ?hg (N := 3) ?hd (cs := #[.int .i64 a1_0, .int .i64 a1_1]) (t := 40) ?hr ?_; (case hd => rfl); (case hg => rfl); (case hr => first | (go_simp; done) | (go_simp; rfl)); intro gb165 hg w11 hbox hb; have n0_ := Aa.mk (Dv (g := gb164) (o := .cells #[.int .i64 a0_0, .int .i64 a0_1] 40 (0, 0)) (by (with_reducible repeat (first | refine Au ?_ _ | refine Az ?_ | refine Ar ?_ _)); exact BK164.out) hb); have n1_ := Aa.mk (Ap (by repeat (first | (with_reducible first | exact HB.out | apply Ae | apply Ac | apply Ad | refine Ag ?_ GE164.out) | exact HB.out)) hb); have n2_ := Aa.mk (hbox); have n3_ := Aa.mk ((by rw [hg]; exact (Aq (by repeat (first | (with_reducible first | exact HB.out | apply Ae | apply Ac | apply Ad | refine Ag ?_ GE164.out) | exact HB.out))) : w.heap.size ≤ gb165)); have n4_ := Aa.mk ((by rw [hg]; exact (Aq (by repeat (first | (with_reducible first | exact HB.out | apply Ae | apply Ac | apply Ad | refine Ag ?_ GE164.out) | exact HB.out))) : w.heap.size ≤ gb165)); have n5_ := Aa.mk ((by rw [hg]; exact Nat.ne_of_lt (He (g := gb164) (o := .cells #[.int .i64 a0_0, .int .i64 a0_1] 40 (0, 0)) (by (with_reducible repeat (first | refine Au ?_ _ | refine Az ?_ | refine Ar ?_ _)); exact BK164.out)) : gb164 ≠ gb165)); have n6_ := Aa.mk ((by rw [hg]; exact Nat.ne_of_gt (He (g := gb164) (o := .cells #[.int .i64 a0_0, .int .i64 a0_1] 40 (0, 0)) (by (with_reducible repeat (first | refine Au ?_ _ | refine Az ?_ | refine Ar ?_ _)); exact BK164.out)) : gb165 ≠ gb164)); clear BK164; clear HB; have BK164 := n0_; have HB := n1_; have BK165 := n2_; have GW165 := n3_; have GE165 := n4_; have NB164_165 := n5_; have NB165_164 := n6_; clear n0_ n1_ n2_ n3_ n4_ n5_ n6_; clear hb hbox hg; have hnb12 := NB164_165.out; have hnc12 := NB165_164.out; have hcz13_0 : w11.cell? ⟨gb164, 0, none⟩ = some (.int .i64 a0_0) := (Bd BK164.out 0).trans rfl; have hcz13_1 : w11.cell? ⟨gb164, 1, none⟩ = some (.int .i64 a0_1) := (Bd BK164.out 1).trans rfl; have hfz13_0 := Bl BK164.out 0; have hfz13_1 := Bl BK164.out 1; have hcz14_0 : w11.cell? ⟨gb165, 0, none⟩ = some (.int .i64 a1_0) := (Bd BK165.out 0).trans rfl; have hcz14_1 : w11.cell? ⟨gb165, 1, none⟩ = some (.int .i64 a1_1) := (Bd BK165.out 1).trans rfl; have hfz14_0 := Bl BK165.out 0; have hfz14_1 := Bl BK165.out 1))
      go_ret
      exact ⟨by first | rfl | (simp [Be, Bf] <;> rfl) | (simp [*, Be, Bf] <;> rfl), by repeat (first | (with_reducible first | exact HB.out | apply Ae | apply Ac | apply Ad | refine Ag ?_ GE164.out | refine Ag ?_ GE165.out) | exact HB.out)⟩
  · rw [if_neg c3] at H
    have c3b0 : (a0_0 == a1_0) = false := beq_eq_false_iff_ne.mpr c3
    have c3b1 : (a0_0 != a1_0) = true := bne_iff_ne.mpr c3
    obtain rfl := Option.some.inj H
    go_enter Tryd.func29, Tryd.ntmps29
    go_wp2_with (first | ((with_reducible refine D7 (N := 2) rfl ?_); refine Es ?hg (N := 2) ?hd (cs := #[.int .i64 a0_0, .int .i64 a0_1]) (t := 40) ?hr ?_; (case hd => rfl); (case hg => rfl); (case hr => first | (go_simp; done) | (go_simp; rfl)); intro gb164 hg w15 hbox hb; have n0_ := Aa.mk (Ap (by repeat (first | (with_reducible first | exact HB.out | apply Ae | apply Ac | apply Ad) | exact HB.out)) hb); have n1_ := Aa.mk (hbox); have n2_ := Aa.mk ((by rw [hg]; exact (Aq (by repeat (first | (with_reducible first | exact HB.out | apply Ae | apply Ac | apply Ad) | exact HB.out))) : w.heap.size ≤ gb164)); have n3_ := Aa.mk ((by rw [hg]; exact (Aq (by repeat (first | (with_reducible first | exact HB.out | apply Ae | apply Ac | apply Ad) | exact HB.out))) : w.heap.size ≤ gb164)); clear HB; have HB := n0_; have BK164 := n1_; have GW164 := n2_; have GE164 := n3_; clear n0_ n1_ n2_ n3_; clear hb hbox hg) | ((with_reducible refine D7 (N := 3) rfl ?_); refine Es ?hg (N := 3) ?hd (cs := #[.int .i64 a1_0, .int .i64 a1_1]) (t := 40) ?hr ?_; (case hd => rfl); (case hg => rfl); (case hr => first | (go_simp; done) | (go_simp; rfl)); intro gb165 hg w16 hbox hb; have n0_ := Aa.mk (Dv (g := gb164) (o := .cells #[.int .i64 a0_0, .int .i64 a0_1] 40 (0, 0)) (by (with_reducible repeat (first | refine Au ?_ _ | refine Az ?_ | refine Ar ?_ _)); exact BK164.out) hb); have n1_ := Aa.mk (Ap (by repeat (first | (with_reducible first | exact HB.out | apply Ae | apply Ac | apply Ad | refine Ag ?_ GE164.out) | exact HB.out)) hb); have n2_ := Aa.mk (hbox); have n3_ := Aa.mk ((by rw [hg]; exact (Aq (by repeat (first | (with_reducible first | exact HB.out | apply Ae | apply Ac | apply Ad | refine Ag ?_ GE164.out) | exact HB.out))) : w.heap.size ≤ gb165)); have n4_ := Aa.mk ((by rw [hg]; exact (Aq (by repeat (first | (with_reducible first | exact HB.out | apply Ae | apply Ac | apply Ad | refine Ag ?_ GE164.out) | exact HB.out))) : w.heap.size ≤ gb165)); have n5_ := Aa.mk ((by rw [hg]; exact Nat.ne_of_lt (He (g := gb164) (o := .cells #[.int .i64 a0_0, .int .i64 a0_1] 40 (0, 0)) (by (with_reducible repeat (first | refine Au ?_ _ | refine Az ?_ | refine Ar ?_ _)); exact BK164.out)) : gb164 ≠ gb165)); have n6_ := Aa.mk ((by rw [hg]; exact Nat.ne_of_gt (He (g := gb164) (o := .cells #[.int .i64 a0_0, .int .i64 a0_1] 40 (0, 0)) (by (with_reducible repeat (first | refine Au ?_ _ | refine Az ?_ | refine Ar ?_ _)); exact BK164.out)) : gb165 ≠ gb164)); clear BK164; clear HB; have BK164 := n0_; have HB := n1_; have BK165 := n2_; have GW165 := n3_; have GE165 := n4_; have NB164_165 := n5_; have NB165_164 := n6_; clear n0_ n1_ n2_ n3_ n4_ n5_ n6_; clear hb hbox hg; have hnb17 := NB164_165.out; have hnc17 := NB165_164.out; have hcz18_0 : w16.cell? ⟨gb164, 0, none⟩ = some (.int .i64 a0_0) := (Bd BK164.out 0).trans rfl; have hcz18_1 : w16.cell? ⟨gb164, 1, none⟩ = some (.int .i64 a0_1) := (Bd BK164.out 1).trans rfl; have hfz18_0 := Bl BK164.out 0; have hfz18_1 := Bl BK164.out 1; have hcz19_0 : w16.cell? ⟨gb165, 0, none⟩ = some (.int .i64 a1_0) := (Bd BK165.out 0).trans rfl; have hcz19_1 : w16.cell? ⟨gb165, 1, none⟩ = some (.int .i64 a1_1) := (Bd BK165.out 1).trans rfl; have hfz19_0 := Bl BK165.out 0; have hfz19_1 := Bl BK165.out 1))
    go_ret
    exact ⟨by first | rfl | (simp [Be, Bf] <;> rfl) | (simp [*, Be, Bf] <;> rfl), by repeat (first | (with_reducible first | exact HB.out | apply Ae | apply Ac | apply Ad | refine Ag ?_ GE164.out | refine Ag ?_ GE165.out) | exact HB.out)⟩
end Go.Proofs.YtpalafegcndccaaDoor.X

namespace Go.Proofs.YtpalafegcndccaaDoor.X
open Go.RowKit Go.Proofs.YtpalafegcndccaaDoorW.PrintWords Go.Proofs.YtpalafegcndccaaDoorW.PrintLast Go.Proofs.YtpalafegcndccaaDoorW.PrintMore
attribute [local go_sem] Ej Eg Eu Ew D9 D8 Ei Eh
open Go.Proofs.YtpalafegcndccaaDoorG
def En.l0 : Nat → List (S40) → List (S40) → Int → Option (Bool)
  | 0, _, _, _ => none
  | k + 1, x0, x1, x5 => if x5 < (x0.length : Int) then (if 0 ≤ x5 then (if x5 < (x1.length : Int) then ((I7.f ((Bc x0 x5).f0) ((Bc x0 x5).f1) ((Bc x1 x5).f0) ((Bc x1 x5).f1)).bind fun t168 => (if t168 = true then (En.l0 k x0 x1 (wrap64 (x5 + 1))) else (some false))) else (none)) else (none)) else (some true)
def En.f (k : Nat) (l0 : List (S40)) (l1 : List (S40)) : Option (Bool) := if (l0.length : Int) = (l1.length : Int) then (En.l0 k l0 l1 0) else (some false)
theorem En.Et : ∀ k, (∀ y0 y1 y2, LeO (En.l0 k y0 y1 y2) (En.l0 (k + 1) y0 y1 y2))
  | 0 => fun _ _ _ r h => by simp [En.l0] at h
  | k + 1 => by
    have ih0 := En.Et k
    · intro y0 y1 y2
      unfold En.l0
      repeat' first
      | (with_reducible exact ih0 _ _ _)
      | (with_reducible exact LeO.refl _)
      | (with_reducible exact LeO.none _)
      | (with_reducible refine LeO.ite ?_ ?_)
      | (with_reducible refine LeO.bind ?_ (fun _ => ?_))
      | exact ih0 _ _ _
      | exact LeO.none _
      | refine LeO.ite ?_ ?_
      | refine LeO.bind ?_ (fun _ => ?_)
theorem En.mono : ∀ a0 a1 k, LeO (En.f k a0 a1) (En.f (k + 1) a0 a1) := by
  intro a0 a1 k
  have ih0 := En.Et k
  unfold En.f
  repeat' first
      | (with_reducible exact ih0 _ _ _)
      | (with_reducible exact LeO.refl _)
      | (with_reducible exact LeO.none _)
      | (with_reducible refine LeO.ite ?_ ?_)
      | (with_reducible refine LeO.bind ?_ (fun _ => ?_))
      | exact ih0 _ _ _
      | exact LeO.none _
      | refine LeO.ite ?_ ?_
      | refine LeO.bind ?_ (fun _ => ?_)
def En.T6 : Bool × List (List Nat × List Nat) := (true, [([], []), ([], []), ([0, 1], [0, 1]), ([2], [2]), ([], []), ([], []), ([4, 5], [4, 5]), ([6], [6]), ([3, 7], [3, 7]), ([8], [8])])
def En.B6 : List Nat := [0, 0, 3, 7, 0, 0, 48, 112, 255, 511]
theorem En.tab6 : rtab .any (opsOf Tryd.f10 6) = En.T6 := by kernel_rfl
theorem En.bits6 : Io En.T6.2 En.B6 = true := by kernel_rfl
set_option maxHeartbeats 8000000 in
set_option maxRecDepth 100000 in
theorem En.calls (k : Nat) (A0 : Option Addr) (c0 : Nat) (l0 : List (S40)) (A1 : Option Addr) (c1 : Nat) (l1 : List (S40)) (r : Bool) (w : World) (hr0 : Kd.C k40 w A0 l0.length l0) (hc0 : l0.length ≤ c0) (hr1 : Kd.C k40 w A1 l1.length l1) (hc1 : l1.length ≤ c1) (h : En.f k l0 l1 = some r) :
    Calls Tryd.prog 10 #[.slice A0 l0.length c0, .slice A1 l1.length c1] w fun e w' => e = .returned (.bool r) ∧ Below w.heap.size w w' := by
  have hu40 := Tryd.underlying40
  have HR0 := Aa.mk hr0
  have HC0 := Aa.mk hc0
  clear hr0 hc0
  have HR1 := Aa.mk hr1
  have HC1 := Aa.mk hc1
  clear hr1 hc1
  have HB := Aa.mk (Below.refl w.heap.size w)
  have H : (if (l0.length : Int) = (l1.length : Int) then (En.l0 k l0 l1 0) else (some false)) = some r := h
  clear h
  by_cases c3 : (l0.length : Int) = (l1.length : Int)
  · rw [if_pos c3] at H
    have c3b0 : ((l0.length : Int) == (l1.length : Int)) = true := beq_iff_eq.mpr c3
    have c3b1 : ((l0.length : Int) != (l1.length : Int)) = false := bne_eq_false_iff_eq.mpr c3
    have c3b2 : (l0.length == l1.length) = true := by first | simpa using c3 | (simp at c3 ⊢; omega)
    clear c3
    have H' := Aa.mk H
    clear H
    go_enter Tryd.func10, Tryd.ntmps10
    go_wp2
    go_loopg [5] k (fun kq v5 w' => ∃ (x5_1 : Int), v5 = .int .i64 x5_1 ∧ Aa (En.l0 kq l0 l1 x5_1 = some r) ∧ Aa (kq ≤ k) ∧ Aa (Below w.heap.size w w'))
    case atStart => exact ⟨(0), (by first | rfl | (simp; done) | (simp [*]; done)), H', ⟨Nat.le_refl _⟩, ⟨by repeat (first | (with_reducible first | exact HB.out | apply Ae | apply Ac | apply Ad) | exact HB.out)⟩⟩
    case round =>
      clear H'
      try clear c1
      try clear p2
      try clear c3
      try clear c3b0
      try clear c3b1
      try clear c3b2
      obtain ⟨x5_1, rfl, HA, HK1, HB⟩ := hrel
      cases gk with
      | zero => exact absurd HA.out (by simp [En.l0])
      | succ k1 =>
        have H := HA.out
        clear HA
        simp only [En.l0] at H
        by_cases c4 : x5_1 < (l0.length : Int)
        · rw [if_pos c4] at H
          have c4b0 : decide (x5_1 < (l0.length : Int)) = true := decide_eq_true c4
          clear c4
          by_cases c5 : 0 ≤ x5_1
          · rw [if_pos c5] at H
            have c5b0 : decide (0 ≤ x5_1) = true := decide_eq_true c5
            clear c5
            by_cases c6 : x5_1 < (l1.length : Int)
            · rw [if_pos c6] at H
              have c6b0 : decide (x5_1 < (l1.length : Int)) = true := decide_eq_true c6
              clear c6
              replace H := Option.bind_eq_some_iff.mp H
              obtain ⟨t168, A70, H⟩ := H
              replace H : (if t168 = true then (En.l0 k1 l0 l1 (wrap64 (x5_1 + 1))) else (some false)) = some r := H
              have A7 := Aa.mk A70
              clear A70
              by_cases c8 : t168 = true
              · subst c8
                have H1 : (En.l0 k1 l0 l1 (wrap64 (x5_1 + 1))) = some r := by rw [if_pos rfl] at H; exact H
                clear H
                have H := H1
                clear H1
                have H' := Aa.mk H
                clear H
                try go_wp2
                have n0_ := Aa.mk (Ad HB.out)
                clear HB
                have HB := n0_
                clear n0_
                have p166 : 0 ≤ (x5_1 : Int) := of_decide_eq_true (by first | (with_reducible assumption) | assumption)
                have q166 : x5_1 < (l0.length : Int) := of_decide_eq_true (by first | (with_reducible assumption) | assumption)
                obtain ⟨ad166, e166, hx166_0, hx166_1⟩ := F5 HR0.out x5_1 p166 q166
                have hw166_1 := hx166_1
                have hw166_0 := hx166_0
                cases e166
                replace hx166_0 := (HB.out.cell (World.block_lt_of_cell? w _ hx166_0)).trans hx166_0
                replace hx166_1 := (HB.out.cell (World.block_lt_of_cell? w _ hx166_1)).trans hx166_1
                replace p166 := eq_true p166
                replace q166 := eq_true q166
                have p167 : 0 ≤ (x5_1 : Int) := of_decide_eq_true (by first | (with_reducible assumption) | assumption)
                have q167 : x5_1 < (l1.length : Int) := of_decide_eq_true (by first | (with_reducible assumption) | assumption)
                obtain ⟨ad167, e167, hx167_0, hx167_1⟩ := F5 HR1.out x5_1 p167 q167
                have hw167_1 := hx167_1
                have hw167_0 := hx167_0
                cases e167
                replace hx167_0 := (HB.out.cell (World.block_lt_of_cell? w _ hx167_0)).trans hx167_0
                replace hx167_1 := (HB.out.cell (World.block_lt_of_cell? w _ hx167_1)).trans hx167_1
                replace p167 := eq_true p167
                replace q167 := eq_true q167
                refine start_ (n := 10) (S := fun w' => w'.cell? (ad166.add ((x5_1).toNat * 2)) = some (.int .i64 ((Bc l0 x5_1).f0)) ∧ w'.cell? ⟨(ad166.add ((x5_1).toNat * 2)).block, (ad166.add ((x5_1).toNat * 2)).off + 1, none⟩ = some (.int .i64 ((Bc l0 x5_1).f1)) ∧ w'.cell? (ad167.add ((x5_1).toNat * 2)) = some (.int .i64 ((Bc l1 x5_1).f0)) ∧ w'.cell? ⟨(ad167.add ((x5_1).toNat * 2)).block, (ad167.add ((x5_1).toNat * 2)).off + 1, none⟩ = some (.int .i64 ((Bc l1 x5_1).f1))) (ds := []) #[false, false, false, false, false, false, false, false, false, false] (by kernel_rfl) rfl rfl ⟨((HB.out.cell (World.block_lt_of_cell? w _ hw166_0)).trans hw166_0), ((HB.out.cell (World.block_lt_of_cell? w _ hw166_1)).trans hw166_1), ((HB.out.cell (World.block_lt_of_cell? w _ hw167_0)).trans hw167_0), ((HB.out.cell (World.block_lt_of_cell? w _ hw167_1)).trans hw167_1)⟩ (fun hHeld => ?_); refine with_tabW En.tab6 En.bits6 (fun HT_ HW_ => ?_)
                generalize wr.drew = w9 at HB hx166_0 hx166_1 hx167_0 hx167_1 hHeld ⊢
                refine Fq (i := 0) (N := some 17) (v := ?_) (a' := ?_) #[true, false, false, false, false, false, false, false, false, false] rfl rfl (Gu HT_.out (by kernel_rfl)) (fun _ _ _ h => h) (Or.inl ⟨by rfl, ?_⟩) ?_ ?_
                rotate_left
                · intro w'
                  go_simp
                  with_reducible rfl
                rotate_left
                · simp only [Act.put, List.setIfInBounds_toArray, List.set_cons_zero, List.set_cons_succ, Dh, Dp]
                  rfl
                refine Fq (i := 1) (N := some 18) (v := ?_) (a' := ?_) #[true, true, false, false, false, false, false, false, false, false] rfl rfl (Gu HT_.out (by kernel_rfl)) (fun _ _ _ h => h) (Or.inl ⟨by rfl, ?_⟩) ?_ ?_
                rotate_left
                · intro w'
                  go_simp
                  with_reducible rfl
                rotate_left
                · simp only [Act.put, List.setIfInBounds_toArray, List.set_cons_zero, List.set_cons_succ, Dh, Dp]
                  rfl
                refine Fq (i := 2) (N := some 19) (v := ?_) (a' := ?_) #[true, true, true, false, false, false, false, false, false, false] rfl rfl (Gu HT_.out (by kernel_rfl)) (fun _ _ _ h => h) (Or.inl ⟨by rfl, ?_⟩) ?_ ?_
                rotate_left
                · intro w'
                  go_simp
                  with_reducible rfl
                rotate_left
                · simp only [Act.put, List.setIfInBounds_toArray, List.set_cons_zero, List.set_cons_succ, Dh, Dp]
                  rfl
                refine Fq (i := 4) (N := some 21) (v := ?_) (a' := ?_) #[true, true, true, false, true, false, false, false, false, false] rfl rfl (Gu HT_.out (by kernel_rfl)) (fun _ _ _ h => h) (Or.inl ⟨by rfl, ?_⟩) ?_ ?_
                rotate_left
                · intro w'
                  go_simp
                  with_reducible rfl
                rotate_left
                · simp only [Act.put, List.setIfInBounds_toArray, List.set_cons_zero, List.set_cons_succ, Dh, Dp]
                  rfl
                refine Fq (i := 5) (N := some 22) (v := ?_) (a' := ?_) #[true, true, true, false, true, true, false, false, false, false] rfl rfl (Gu HT_.out (by kernel_rfl)) (fun _ _ _ h => h) (Or.inl ⟨by rfl, ?_⟩) ?_ ?_
                rotate_left
                · intro w'
                  go_simp
                  with_reducible rfl
                rotate_left
                · simp only [Act.put, List.setIfInBounds_toArray, List.set_cons_zero, List.set_cons_succ, Dh, Dp]
                  rfl
                refine Fq (i := 6) (N := some 23) (v := ?_) (a' := ?_) #[true, true, true, false, true, true, true, false, false, false] rfl rfl (Gu HT_.out (by kernel_rfl)) (fun _ _ _ h => h) (Or.inl ⟨by rfl, ?_⟩) ?_ ?_
                rotate_left
                · intro w'
                  go_simp
                  with_reducible rfl
                rotate_left
                · simp only [Act.put, List.setIfInBounds_toArray, List.set_cons_zero, List.set_cons_succ, Dh, Dp]
                  rfl
                refine take_ (i := 3) (N := some 20) (v := ?_) (a' := ?_) #[true, true, true, true, true, true, true, false, false, false] rfl rfl (take_ofW HT_.out HW_.out (by kernel_rfl)) (fun _ _ _ h => h) (Or.inl ⟨by rfl, ?_⟩) hHeld ?_ ?_
                rotate_left
                · rintro w' ⟨s0, s1, s2, s3⟩
                  go_simp
                  with_reducible rfl
                rotate_left
                · simp only [Act.put, List.setIfInBounds_toArray, List.set_cons_zero, List.set_cons_succ, Dh, Dp]
                  rfl
                refine take_ (i := 7) (N := some 24) (v := ?_) (a' := ?_) #[true, true, true, true, true, true, true, true, false, false] rfl rfl (take_ofW HT_.out HW_.out (by kernel_rfl)) (fun _ _ _ h => h) (Or.inl ⟨by rfl, ?_⟩) hHeld ?_ ?_
                rotate_left
                · rintro w' ⟨s0, s1, s2, s3⟩
                  go_simp
                  with_reducible rfl
                rotate_left
                · simp only [Act.put, List.setIfInBounds_toArray, List.set_cons_zero, List.set_cons_succ, Dh, Dp]
                  rfl
                refine one_ (i := 8) (N := some 25) #[true, true, true, true, true, true, true, true, true, false] rfl rfl (one_of HT_.out (by kernel_rfl)) (by decide) (fun K hK => ?_)
                refine goes_ Tryd.func29 (by kernel_rfl) rfl #[.agg #[.int .i64 ((Bc l0 x5_1).f0), .int .i64 ((Bc l0 x5_1).f1)], .agg #[.int .i64 ((Bc l1 x5_1).f0), .int .i64 ((Bc l1 x5_1).f1)]] (by rfl) rfl rfl (by (try simp only [List.map_toArray, List.map_cons, List.map_nil]); first | done | rfl | (simp only [List.length_drop, List.length_take]; rfl)) ?_
                with_reducible refine (I7.calls ((Bc l0 x5_1).f0) ((Bc l0 x5_1).f1) ((Bc l1 x5_1).f0) ((Bc l1 x5_1).f1) true _ A7.out).mono ?_
                rintro e w10 ⟨rfl, hb⟩
                refine ⟨_, rfl, ?_⟩
                have n0_ := Aa.mk (Ap (by repeat (first | (with_reducible first | exact HB.out | apply Ae | apply Ac | apply Ad) | exact HB.out)) hb)
                clear HB
                have HB := n0_
                clear n0_
                (try clear hb)
                (try clear hb2)
                (try clear hk)
                (try clear hi)
                refine hK.out _ _ ⟨((HB.out.cell (World.block_lt_of_cell? w _ hw166_0)).trans hw166_0), ((HB.out.cell (World.block_lt_of_cell? w _ hw166_1)).trans hw166_1), ((HB.out.cell (World.block_lt_of_cell? w _ hw167_0)).trans hw167_0), ((HB.out.cell (World.block_lt_of_cell? w _ hw167_1)).trans hw167_1)⟩ (fun hHeld => ?_)
                clear hK K
                refine E5 (a' := ?_) ?_ ?_
                rotate_left
                · show Act.put _ (some 25) _ = _
                  simp only [Act.put, List.setIfInBounds_toArray, List.set_cons_zero, List.set_cons_succ, Dh, Dp]
                  rfl
                refine Fq (i := 9) (N := some 26) (v := ?_) (a' := ?_) #[true, true, true, true, true, true, true, true, true, true] rfl rfl (Gu HT_.out (by kernel_rfl)) (fun _ _ _ h => h) (Or.inl ⟨by rfl, ?_⟩) ?_ ?_
                rotate_left
                · intro w'
                  go_simp
                  with_reducible rfl
                rotate_left
                · simp only [Act.put, List.setIfInBounds_toArray, List.set_cons_zero, List.set_cons_succ, Dh, Dp]
                  rfl
                refine done_ (done_of HT_.out (by kernel_rfl)) ?_
                try go_wp2
                go_roundg k1
                case measure => have := HK1.out; omega
                case rel => exact ⟨(wrap64 (x5_1 + 1)), (by first | rfl | (simp; done) | (simp [*]; done)), H', ⟨by have := HK1.out; omega⟩, ⟨by repeat (first | (with_reducible first | exact HB.out | apply Ae | apply Ac | apply Ad) | exact HB.out)⟩⟩
              · replace c8 := Bool.eq_false_iff.mpr c8
                subst c8
                have H1 : (some false) = some r := by rw [if_neg (show ¬ (false = true) by decide)] at H; exact H
                clear H
                have H := H1
                clear H1
                obtain rfl := Option.some.inj H
                try go_wp2
                have n0_ := Aa.mk (Ad HB.out)
                clear HB
                have HB := n0_
                clear n0_
                have p166 : 0 ≤ (x5_1 : Int) := of_decide_eq_true (by first | (with_reducible assumption) | assumption)
                have q166 : x5_1 < (l0.length : Int) := of_decide_eq_true (by first | (with_reducible assumption) | assumption)
                obtain ⟨ad166, e166, hx166_0, hx166_1⟩ := F5 HR0.out x5_1 p166 q166
                have hw166_1 := hx166_1
                have hw166_0 := hx166_0
                cases e166
                replace hx166_0 := (HB.out.cell (World.block_lt_of_cell? w _ hx166_0)).trans hx166_0
                replace hx166_1 := (HB.out.cell (World.block_lt_of_cell? w _ hx166_1)).trans hx166_1
                replace p166 := eq_true p166
                replace q166 := eq_true q166
                have p167 : 0 ≤ (x5_1 : Int) := of_decide_eq_true (by first | (with_reducible assumption) | assumption)
                have q167 : x5_1 < (l1.length : Int) := of_decide_eq_true (by first | (with_reducible assumption) | assumption)
                obtain ⟨ad167, e167, hx167_0, hx167_1⟩ := F5 HR1.out x5_1 p167 q167
                have hw167_1 := hx167_1
                have hw167_0 := hx167_0
                cases e167
                replace hx167_0 := (HB.out.cell (World.block_lt_of_cell? w _ hx167_0)).trans hx167_0
                replace hx167_1 := (HB.out.cell (World.block_lt_of_cell? w _ hx167_1)).trans hx167_1
                replace p167 := eq_true p167
                replace q167 := eq_true q167
                refine start_ (n := 10) (S := fun w' => w'.cell? (ad166.add ((x5_1).toNat * 2)) = some (.int .i64 ((Bc l0 x5_1).f0)) ∧ w'.cell? ⟨(ad166.add ((x5_1).toNat * 2)).block, (ad166.add ((x5_1).toNat * 2)).off + 1, none⟩ = some (.int .i64 ((Bc l0 x5_1).f1)) ∧ w'.cell? (ad167.add ((x5_1).toNat * 2)) = some (.int .i64 ((Bc l1 x5_1).f0)) ∧ w'.cell? ⟨(ad167.add ((x5_1).toNat * 2)).block, (ad167.add ((x5_1).toNat * 2)).off + 1, none⟩ = some (.int .i64 ((Bc l1 x5_1).f1))) (ds := []) #[false, false, false, false, false, false, false, false, false, false] (by kernel_rfl) rfl rfl ⟨((HB.out.cell (World.block_lt_of_cell? w _ hw166_0)).trans hw166_0), ((HB.out.cell (World.block_lt_of_cell? w _ hw166_1)).trans hw166_1), ((HB.out.cell (World.block_lt_of_cell? w _ hw167_0)).trans hw167_0), ((HB.out.cell (World.block_lt_of_cell? w _ hw167_1)).trans hw167_1)⟩ (fun hHeld => ?_); refine with_tabW En.tab6 En.bits6 (fun HT_ HW_ => ?_)
                generalize wr.drew = w11 at HB hx166_0 hx166_1 hx167_0 hx167_1 hHeld ⊢
                refine Fq (i := 0) (N := some 17) (v := ?_) (a' := ?_) #[true, false, false, false, false, false, false, false, false, false] rfl rfl (Gu HT_.out (by kernel_rfl)) (fun _ _ _ h => h) (Or.inl ⟨by rfl, ?_⟩) ?_ ?_
                rotate_left
                · intro w'
                  go_simp
                  with_reducible rfl
                rotate_left
                · simp only [Act.put, List.setIfInBounds_toArray, List.set_cons_zero, List.set_cons_succ, Dh, Dp]
                  rfl
                refine Fq (i := 1) (N := some 18) (v := ?_) (a' := ?_) #[true, true, false, false, false, false, false, false, false, false] rfl rfl (Gu HT_.out (by kernel_rfl)) (fun _ _ _ h => h) (Or.inl ⟨by rfl, ?_⟩) ?_ ?_
                rotate_left
                · intro w'
                  go_simp
                  with_reducible rfl
                rotate_left
                · simp only [Act.put, List.setIfInBounds_toArray, List.set_cons_zero, List.set_cons_succ, Dh, Dp]
                  rfl
                refine Fq (i := 2) (N := some 19) (v := ?_) (a' := ?_) #[true, true, true, false, false, false, false, false, false, false] rfl rfl (Gu HT_.out (by kernel_rfl)) (fun _ _ _ h => h) (Or.inl ⟨by rfl, ?_⟩) ?_ ?_
                rotate_left
                · intro w'
                  go_simp
                  with_reducible rfl
                rotate_left
                · simp only [Act.put, List.setIfInBounds_toArray, List.set_cons_zero, List.set_cons_succ, Dh, Dp]
                  rfl
                refine Fq (i := 4) (N := some 21) (v := ?_) (a' := ?_) #[true, true, true, false, true, false, false, false, false, false] rfl rfl (Gu HT_.out (by kernel_rfl)) (fun _ _ _ h => h) (Or.inl ⟨by rfl, ?_⟩) ?_ ?_
                rotate_left
                · intro w'
                  go_simp
                  with_reducible rfl
                rotate_left
                · simp only [Act.put, List.setIfInBounds_toArray, List.set_cons_zero, List.set_cons_succ, Dh, Dp]
                  rfl
                refine Fq (i := 5) (N := some 22) (v := ?_) (a' := ?_) #[true, true, true, false, true, true, false, false, false, false] rfl rfl (Gu HT_.out (by kernel_rfl)) (fun _ _ _ h => h) (Or.inl ⟨by rfl, ?_⟩) ?_ ?_
                rotate_left
                · intro w'
                  go_simp
                  with_reducible rfl
                rotate_left
                · simp only [Act.put, List.setIfInBounds_toArray, List.set_cons_zero, List.set_cons_succ, Dh, Dp]
                  rfl
                refine Fq (i := 6) (N := some 23) (v := ?_) (a' := ?_) #[true, true, true, false, true, true, true, false, false, false] rfl rfl (Gu HT_.out (by kernel_rfl)) (fun _ _ _ h => h) (Or.inl ⟨by rfl, ?_⟩) ?_ ?_
                rotate_left
                · intro w'
                  go_simp
                  with_reducible rfl
                rotate_left
                · simp only [Act.put, List.setIfInBounds_toArray, List.set_cons_zero, List.set_cons_succ, Dh, Dp]
                  rfl
                refine take_ (i := 3) (N := some 20) (v := ?_) (a' := ?_) #[true, true, true, true, true, true, true, false, false, false] rfl rfl (take_ofW HT_.out HW_.out (by kernel_rfl)) (fun _ _ _ h => h) (Or.inl ⟨by rfl, ?_⟩) hHeld ?_ ?_
                rotate_left
                · rintro w' ⟨s0, s1, s2, s3⟩
                  go_simp
                  with_reducible rfl
                rotate_left
                · simp only [Act.put, List.setIfInBounds_toArray, List.set_cons_zero, List.set_cons_succ, Dh, Dp]
                  rfl
                refine take_ (i := 7) (N := some 24) (v := ?_) (a' := ?_) #[true, true, true, true, true, true, true, true, false, false] rfl rfl (take_ofW HT_.out HW_.out (by kernel_rfl)) (fun _ _ _ h => h) (Or.inl ⟨by rfl, ?_⟩) hHeld ?_ ?_
                rotate_left
                · rintro w' ⟨s0, s1, s2, s3⟩
                  go_simp
                  with_reducible rfl
                rotate_left
                · simp only [Act.put, List.setIfInBounds_toArray, List.set_cons_zero, List.set_cons_succ, Dh, Dp]
                  rfl
                refine one_ (i := 8) (N := some 25) #[true, true, true, true, true, true, true, true, true, false] rfl rfl (one_of HT_.out (by kernel_rfl)) (by decide) (fun K hK => ?_)
                refine goes_ Tryd.func29 (by kernel_rfl) rfl #[.agg #[.int .i64 ((Bc l0 x5_1).f0), .int .i64 ((Bc l0 x5_1).f1)], .agg #[.int .i64 ((Bc l1 x5_1).f0), .int .i64 ((Bc l1 x5_1).f1)]] (by rfl) rfl rfl (by (try simp only [List.map_toArray, List.map_cons, List.map_nil]); first | done | rfl | (simp only [List.length_drop, List.length_take]; rfl)) ?_
                with_reducible refine (I7.calls ((Bc l0 x5_1).f0) ((Bc l0 x5_1).f1) ((Bc l1 x5_1).f0) ((Bc l1 x5_1).f1) false _ A7.out).mono ?_
                rintro e w12 ⟨rfl, hb⟩
                refine ⟨_, rfl, ?_⟩
                have n0_ := Aa.mk (Ap (by repeat (first | (with_reducible first | exact HB.out | apply Ae | apply Ac | apply Ad) | exact HB.out)) hb)
                clear HB
                have HB := n0_
                clear n0_
                (try clear hb)
                (try clear hb2)
                (try clear hk)
                (try clear hi)
                refine hK.out _ _ ⟨((HB.out.cell (World.block_lt_of_cell? w _ hw166_0)).trans hw166_0), ((HB.out.cell (World.block_lt_of_cell? w _ hw166_1)).trans hw166_1), ((HB.out.cell (World.block_lt_of_cell? w _ hw167_0)).trans hw167_0), ((HB.out.cell (World.block_lt_of_cell? w _ hw167_1)).trans hw167_1)⟩ (fun hHeld => ?_)
                clear hK K
                refine E5 (a' := ?_) ?_ ?_
                rotate_left
                · show Act.put _ (some 25) _ = _
                  simp only [Act.put, List.setIfInBounds_toArray, List.set_cons_zero, List.set_cons_succ, Dh, Dp]
                  rfl
                refine Fq (i := 9) (N := some 26) (v := ?_) (a' := ?_) #[true, true, true, true, true, true, true, true, true, true] rfl rfl (Gu HT_.out (by kernel_rfl)) (fun _ _ _ h => h) (Or.inl ⟨by rfl, ?_⟩) ?_ ?_
                rotate_left
                · intro w'
                  go_simp
                  with_reducible rfl
                rotate_left
                · simp only [Act.put, List.setIfInBounds_toArray, List.set_cons_zero, List.set_cons_succ, Dh, Dp]
                  rfl
                refine done_ (done_of HT_.out (by kernel_rfl)) ?_
                try go_wp2
                go_ret
                exact ⟨by first | rfl | (simp [Be, Bf] <;> rfl) | (simp [*, Be, Bf] <;> rfl), by repeat (first | (with_reducible first | exact HB.out | apply Ae | apply Ac | apply Ad) | exact HB.out)⟩
            · rw [if_neg c6] at H
              exact absurd H (by simp)
          · rw [if_neg c5] at H
            exact absurd H (by simp)
        · rw [if_neg c4] at H
          have c4b0 : decide (x5_1 < (l0.length : Int)) = false := decide_eq_false c4
          clear c4
          obtain rfl := Option.some.inj H
          go_wp2
          go_ret
          exact ⟨by first | rfl | (simp [Be, Bf] <;> rfl) | (simp [*, Be, Bf] <;> rfl), by repeat (first | (with_reducible first | exact HB.out | apply Ae | apply Ac | apply Ad) | exact HB.out)⟩
  · rw [if_neg c3] at H
    have c3b0 : ((l0.length : Int) == (l1.length : Int)) = false := beq_eq_false_iff_ne.mpr c3
    have c3b1 : ((l0.length : Int) != (l1.length : Int)) = true := bne_iff_ne.mpr c3
    have c3b2 : (l0.length == l1.length) = false := by first | simpa using c3 | (simp at c3 ⊢; omega)
    obtain rfl := Option.some.inj H
    go_enter Tryd.func10, Tryd.ntmps10
    go_wp2
    go_ret
    exact ⟨by first | rfl | (simp [Be, Bf] <;> rfl) | (simp [*, Be, Bf] <;> rfl), by repeat (first | (with_reducible first | exact HB.out | apply Ae | apply Ac | apply Ad) | exact HB.out)⟩
end Go.Proofs.YtpalafegcndccaaDoor.X

namespace Go.Proofs.YtpalafegcndccaaDoor.X
open Go.RowKit Go.Proofs.YtpalafegcndccaaDoorW.PrintWords Go.Proofs.YtpalafegcndccaaDoorL
abbrev Event := S40
theorem rdE (l : List Event) (n : Nat) (h : n < l.length) : Bc l (n : Int) = l[n] := by simp [Bc, List.getD_eq_getElem?_getD, List.getElem?_eq_getElem h]
/-- The state after an event in a state; -1. -/
def nxt (s k : Int) : Int := if s = 0 ∧ (k = 1 ∨ k = 2) then 1 else if s = 1 ∧ k = 3 then 2 else if s = 2 ∧ k = 4 then 1 else if s = 1 ∧ (k = 5 ∨ k = 6) then 0 else -1
theorem nxt_or (s k : Int) : nxt s k = -1 ∨ nxt s k = 0 ∨ nxt s k = 1 ∨ nxt s k = 2 := by unfold nxt; (repeat' split) <;> simp
theorem specNext_ev (s e : Int) : Ev (fun k => Cb.f k s e) (nxt s e) := by
  refine ⟨4, fun k hk => ?_⟩
  obtain ⟨m, rfl⟩ : ∃ m, k = m + 4 := ⟨k - 4, by omega⟩
  simp only [Cb.f, Cb.j0, Cb.j1, Cb.j2, nxt]
  by_cases s0 : s = 0
  · subst s0; by_cases e1 : e = 1
    · subst e1; simp
    · by_cases e2 : e = 2
      · subst e2; simp
      · simp [e1, e2]
  · by_cases s1 : s = 1
    · subst s1; by_cases e3 : e = 3
      · subst e3; simp
      · by_cases e5 : e = 5
        · subst e5; simp
        · by_cases e6 : e = 6
          · subst e6; simp
          · simp [e3, e5, e6]
    · by_cases s2 : s = 2
      · subst s2; by_cases e4 : e = 4
        · subst e4; simp
        · simp [e4]
      · simp [s0, s1, s2]
theorem implNext_ev (s e : Int) : Ev (fun k => Bj.f k s e) (if 0 ≤ nxt s e then (nxt s e, true) else (0, false)) := by
  refine ⟨4, fun k hk => ?_⟩
  obtain ⟨m, rfl⟩ : ∃ m, k = m + 4 := ⟨k - 4, by omega⟩
  simp only [Bj.f, Bj.j0, Bj.j1, Bj.j2, nxt]
  by_cases s0 : s = 0
  · subst s0; by_cases e1 : e = 1
    · subst e1; simp
    · by_cases e2 : e = 2
      · subst e2; simp
      · simp [e1, e2]
  · by_cases s1 : s = 1
    · subst s1; by_cases e3 : e = 3
      · subst e3; simp
      · by_cases e5 : e = 5
        · subst e5; simp
        · by_cases e6 : e = 6
          · subst e6; simp
          · simp [e3, e5, e6]
    · by_cases s2 : s = 2
      · subst s2; by_cases e4 : e = 4
        · subst e4; simp
        · simp [e4]
      · simp [s0, s1, s2]
/-- May event n follow in state s? -/
def okE (l : List Event) (n : Nat) (s : Int) (h : n < l.length) : Prop := 0 ≤ l[n].f0 ∧ l[n].f0 ≤ 9999 ∧ (∀ h0 : 0 < n, l[n - 1].f0 ≤ l[n].f0) ∧ 0 ≤ nxt s l[n].f1
open Classical in
/-- The state after the events from n on. -/
noncomputable def runE (l : List Event) : Nat → Nat → Int → Option Int
  | 0, _, s => some s
  | d + 1, n, s => if h : n < l.length then (if okE l n s h then runE l d (n + 1) (nxt s l[n].f1) else none) else none
theorem runE_nonneg (l : List Event) : ∀ (d n : Nat) (s r : Int), 0 ≤ s → runE l d n s = some r → 0 ≤ r := by
  intro d
  induction d with
  | zero => intro n s r hs h; simp only [runE, Option.some.injEq] at h; omega
  | succ d ih =>
    intro n s r hs h
    simp only [runE] at h
    split at h
    · split at h
      · rename_i h1 h2; exact ih _ _ _ h2.2.2.2 h
      · cases h
    · cases h
theorem specState_loop (l : List Event) (hl : l.length ≤ 20) : ∀ (d n : Nat) (s : Int), n + d = l.length → 0 ≤ s → Ev (fun k => Bh.l0 k l s n) ((runE l d n s).getD (-1)) := by
  intro d
  induction d with
  | zero => intro n s hn hs; exact Ev.step (f := fun _ => some _) (fun k => by simp only [Bh.l0]; rw [if_neg (by omega)]; rfl) (Ev.now _)
  | succ d ih =>
    intro n s hn hs
    have hln : n < l.length := by omega
    have hw : 0 < n → wrap64 ((n : Int) - 1) = ((n - 1 : Nat) : Int) := fun h0 => by rw [Gi (by omega) (by omega)]; omega
    have bad : ∀ (c : Bool), c = true → Ev (fun k => Bh.j1 k l s n c) (-1) := fun c hc => by subst hc; exact Ev.step (f := fun _ => some (-1)) (fun k => by simp [Bh.j1]) (Ev.now _)
    have good : Ev (fun k => Bh.j1 k l s n false) (if 0 ≤ nxt s l[n].f1 then (runE l d (n + 1) (nxt s l[n].f1)).getD (-1) else -1) := by
      refine Ev.step (f := fun k => (Cb.f k s l[n].f1).bind fun t => if t < 0 then some (-1) else Bh.l0 k l t ((n + 1 : Nat) : Int)) (fun k => ?_) ?_
      · simp only [Bh.j1]
        rw [if_neg (by decide), if_pos (by omega), if_pos (by omega), rdE l n hln, wrap_succ (by omega)]
      · refine Ev.bind (specNext_ev _ _) ?_
        by_cases c : 0 ≤ nxt s l[n].f1
        · simp only [if_pos c, if_neg (show ¬ nxt s l[n].f1 < 0 by omega)]; exact ih (n + 1) _ (by omega) c
        · simp only [if_neg c, if_pos (show nxt s l[n].f1 < 0 by omega)]; exact Ev.now _
    simp only [runE, dif_pos hln]
    refine Ev.step (f := fun k => if 0 ≤ l[n].f0 ∧ l[n].f0 ≤ 9999 then (if h0 : 0 < n then Bh.j1 k l s n (decide (l[n - 1].f0 > l[n].f0)) else Bh.j1 k l s n false) else Bh.j1 k l s n true) (fun k => ?_) ?_
    · simp only [Bh.l0]
      rw [if_pos (by omega), if_pos (by omega), rdE l n hln]
      unfold Gw.f
      by_cases a1 : l[n].f0 ≥ 0
      · by_cases a2 : l[n].f0 ≤ 9999
        · simp only [if_pos a1, a2, decide_true, Option.bind_some, if_true, if_pos (show 0 ≤ l[n].f0 ∧ True from ⟨a1, trivial⟩)]
          by_cases h0 : 0 < n
          · rw [if_pos (by omega), if_pos (by rw [hw h0]; omega), if_pos (by rw [hw h0]; omega), hw h0, rdE l (n - 1) (by omega), dif_pos h0]
          · rw [if_neg (by omega), dif_neg h0]
        · simp only [if_pos a1, a2, decide_false, Option.bind_some, Bool.false_eq_true, if_false, and_false]
      · simp only [if_neg a1, Option.bind_some, Bool.false_eq_true, if_false, if_neg (show ¬ (0 ≤ l[n].f0 ∧ l[n].f0 ≤ 9999) from fun z => a1 z.1)]
    · by_cases a : 0 ≤ l[n].f0 ∧ l[n].f0 ≤ 9999
      · simp only [if_pos a]
        by_cases h0 : 0 < n
        · simp only [dif_pos h0]
          by_cases b : l[n - 1].f0 ≤ l[n].f0
          · rw [decide_eq_false (by omega)]
            by_cases c : 0 ≤ nxt s l[n].f1
            · rw [if_pos (show okE l n s hln from ⟨a.1, a.2, fun _ => b, c⟩)]; rw [if_pos c] at good; exact good
            · rw [if_neg (show ¬ okE l n s hln from fun z => c z.2.2.2)]; rw [if_neg c] at good; exact good
          · rw [if_neg (show ¬ okE l n s hln from fun z => b (z.2.2.1 h0))]; exact bad _ (decide_eq_true (by omega))
        · simp only [dif_neg h0]
          by_cases c : 0 ≤ nxt s l[n].f1
          · rw [if_pos (show okE l n s hln from ⟨a.1, a.2, fun z => absurd z h0, c⟩)]; rw [if_pos c] at good; exact good
          · rw [if_neg (show ¬ okE l n s hln from fun z => c z.2.2.2)]; rw [if_neg c] at good; exact good
      · simp only [if_neg a]
        rw [if_neg (show ¬ okE l n s hln from fun z => a ⟨z.1, z.2.1⟩)]; exact bad _ rfl
theorem implState_loop (l : List Event) (hl : l.length ≤ 1048576) : ∀ (d n : Nat) (s : Int), n + d = l.length → Ev (fun k => Dj.l0 k l s l (l.length : Int) n) (match runE l d n s with | some r => (r, decide (l.length ≤ 20)) | none => (0, false)) := by
  intro d
  induction d with
  | zero => intro n s hn; exact Ev.step (f := fun _ => some _) (fun k => by simp only [Dj.l0]; rw [if_neg (by omega)]; simp [runE] <;> omega) (Ev.now _)
  | succ d ih =>
    intro n s hn
    have hln : n < l.length := by omega
    have hw : 0 < n → wrap64 ((n : Int) - 1) = ((n - 1 : Nat) : Int) := fun h0 => by rw [Gi (by omega) (by omega)]; omega
    simp only [runE, dif_pos hln]
    refine Ev.step (f := fun k => (Bj.f k s l[n].f1).bind fun b => if b.2 = true then (if 0 ≤ l[n].f0 ∧ l[n].f0 ≤ 9999 then (if h0 : 0 < n then (if l[n].f0 < l[n - 1].f0 then some (0, false) else Dj.l0 k l b.1 l (l.length : Int) ((n + 1 : Nat) : Int)) else Dj.l0 k l b.1 l (l.length : Int) ((n + 1 : Nat) : Int)) else some (0, false)) else some (0, false)) (fun k => ?_) ?_
    · simp only [Dj.l0]
      rw [if_pos (by omega), if_pos (by omega), if_pos (by omega), rdE l n hln, wrap_succ (by omega)]
      congr 1
      funext b
      unfold Fg.f
      by_cases a1 : l[n].f0 ≥ 0
      · by_cases a2 : l[n].f0 ≤ 9999
        · simp only [if_pos a1, a2, decide_true, Option.bind_some, if_true, if_pos (show 0 ≤ l[n].f0 ∧ True from ⟨a1, trivial⟩)]
          by_cases h0 : 0 < n
          · rw [if_pos (show (n : Int) > 0 by omega), if_pos (show 0 ≤ wrap64 ((n : Int) - 1) by rw [hw h0]; omega), if_pos (show wrap64 ((n : Int) - 1) < (l.length : Int) by rw [hw h0]; omega), hw h0, rdE l (n - 1) (by omega), dif_pos h0]
          · rw [if_neg (show ¬ (n : Int) > 0 by omega), dif_neg h0]
        · simp only [if_pos a1, a2, decide_false, Option.bind_some, Bool.false_eq_true, if_false, and_false]
      · simp only [if_neg a1, Option.bind_some, Bool.false_eq_true, if_false, if_neg (show ¬ (0 ≤ l[n].f0 ∧ l[n].f0 ≤ 9999) from fun z => a1 z.1)]
    · refine Ev.bind (implNext_ev _ _) ?_
      by_cases c : 0 ≤ nxt s l[n].f1
      · simp only [if_pos c, if_true]
        by_cases a : 0 ≤ l[n].f0 ∧ l[n].f0 ≤ 9999
        · simp only [if_pos a]
          by_cases h0 : 0 < n
          · simp only [dif_pos h0]
            by_cases b : l[n].f0 < l[n - 1].f0
            · simp only [if_pos b]
              rw [if_neg (show ¬ okE l n s hln from fun z => by have := z.2.2.1 h0; omega)]; exact Ev.now _
            · simp only [if_neg b]
              rw [if_pos (show okE l n s hln from ⟨a.1, a.2, fun _ => by omega, c⟩)]; exact ih (n + 1) _ (by omega)
          · simp only [dif_neg h0]
            rw [if_pos (show okE l n s hln from ⟨a.1, a.2, fun z => absurd z h0, c⟩)]; exact ih (n + 1) _ (by omega)
        · simp only [if_neg a]
          rw [if_neg (show ¬ okE l n s hln from fun z => a ⟨z.1, z.2.1⟩)]; exact Ev.now _
      · simp only [if_neg c, Bool.false_eq_true, if_false]
        rw [if_neg (show ¬ okE l n s hln from fun z => c z.2.2.2)]; exact Ev.now _
/-- The state after a history; none if it is none. -/
noncomputable def hist (l : List Event) : Option Int := if l.length ≤ 20 then runE l l.length 0 0 else none
theorem hist_nonneg {l : List Event} {s : Int} (h : hist l = some s) : 0 ≤ s := by
  unfold hist at h
  split at h
  · exact runE_nonneg l _ _ _ _ (by omega) h
  · cases h
theorem I8 (l : List Event) : Ev (fun k => Bh.f k l) ((hist l).getD (-1)) := by
  unfold Bh.f hist
  by_cases h : l.length ≤ 20
  · simp only [if_neg (show ¬ (l.length : Int) > 20 by omega), if_pos h]; exact specState_loop l h l.length 0 0 (by omega) (by omega)
  · simp only [if_pos (show (l.length : Int) > 20 by omega), if_neg h]; exact Ev.now _
theorem implState_ev (l : List Event) (hl : l.length ≤ 1048576) : ∃ r, Ev (fun k => Dj.f k l) r ∧ r.2 = (hist l).isSome ∧ ∀ s, hist l = some s → r.1 = s := by
  refine ⟨_, implState_loop l hl l.length 0 0 (by omega), ?_⟩
  unfold hist
  by_cases h : l.length ≤ 20
  · rw [if_pos h]; cases runE l l.length 0 0 <;> simp [h]
  · rw [if_neg h]; cases runE l l.length 0 0 <;> simp [h]
end Go.Proofs.YtpalafegcndccaaDoor.X

namespace Go.Proofs.YtpalafegcndccaaDoorL
open Go.RowKit Go.Proofs.YtpalafegcndccaaDoorW.PrintWords
/-- A text's bytes. -/
def B (s : ByteArray) : List UInt8 := s.data.toList
theorem Hm (s : ByteArray) : (B s).length = s.size := by simp [B]
theorem bt_B (s : ByteArray) (n : Nat) (h : n < (B s).length) : bt s n = ((B s)[n].toNat : Int) := by
  have h2 : n < s.size := by rw [Hm] at h; exact h
  unfold bt
  rw [Int.toNat_natCast, dif_pos h2]
  rfl
theorem Hy (s : ByteArray) : s.toList = B s := by
  unfold B
  have key : ∀ (d i : Nat) (r : List UInt8), i + d = s.size → ByteArray.toList.loop s i r = r.reverse ++ (s.data.toList.drop i) := by
    intro d
    induction d with
    | zero =>
      intro i r h
      unfold ByteArray.toList.loop
      rw [if_neg (by omega), List.drop_of_length_le (by simp; omega)]; simp
    | succ d ih =>
      intro i r h
      unfold ByteArray.toList.loop
      have hi : i < s.size := by omega
      rw [if_pos hi, ih (i + 1) _ (by omega), List.drop_eq_getElem_cons (show i < s.data.toList.length by simp; omega)]
      have e : s.get! i = s.data.toList[i]'(by simp; omega) := by
        show s.data[i]! = _
        rw [getElem!_pos s.data i hi]; simp
      rw [e, List.reverse_cons]
      simp
  have := key s.size 0 [] (by omega)
  simpa [ByteArray.toList] using this
theorem B_inj {s t : ByteArray} (h : B s = B t) : s = t := by
  have : s.data = t.data := Array.toList_inj.1 h
  cases s; cases t; simp_all
end Go.Proofs.YtpalafegcndccaaDoorL

namespace Go.Proofs.YtpalafegcndccaaDoor.X
open Go.RowKit Go.Proofs.YtpalafegcndccaaDoorW.PrintWords Go.Proofs.YtpalafegcndccaaDoorL
theorem B_append (s t : ByteArray) : B (s ++ t) = B s ++ B t := by unfold B; simp
theorem B_mk (l : List UInt8) : B ⟨l.toArray⟩ = l := by simp [B]
theorem size_B (s : ByteArray) : s.size = (B s).length := (Hm s).symm
theorem mk_append (a b : List UInt8) : (⟨a.toArray⟩ : ByteArray) ++ ⟨b.toArray⟩ = ⟨(a ++ b).toArray⟩ := B_inj (by rw [B_append, B_mk, B_mk, B_mk])
def dec (n : Int) : ByteArray := ⟨(Lib.itoa n).toArray⟩
theorem B_dec (n : Int) : B (dec n) = Lib.itoa n := B_mk _
theorem dec_size (n : Int) (h0 : -9223372036854775808 ≤ n) (h1 : n ≤ 9223372036854775807) : (dec n).size ≤ 21 := by
  rw [size_B, B_dec]; exact Lib.itoa_length_le n h0 h1
theorem implDec (n : Int) (h0 : -9223372036854775808 ≤ n) (h1 : n ≤ 9223372036854775807) : H5.f n = some (dec n) := by
  unfold H5.f Hz.f
  rw [if_pos ⟨h0, h1⟩]
  rfl
theorem digit_cut (d : Nat) (h : d < 10) : (⟨#[48, 49, 50, 51, 52, 53, 54, 55, 56, 57]⟩ : ByteArray).extract d (d + 1) = ⟨[UInt8.ofNat (48 + d)].toArray⟩ := by
  have : d = 0 ∨ d = 1 ∨ d = 2 ∨ d = 3 ∨ d = 4 ∨ d = 5 ∨ d = 6 ∨ d = 7 ∨ d = 8 ∨ d = 9 := by omega
  rcases this with rfl | rfl | rfl | rfl | rfl | rfl | rfl | rfl | rfl | rfl <;> rfl
theorem decDigits_le (u : Nat) (h : u ≤ 9223372036854775807) : (Lib.decDigits u).length ≤ 21 := by
  have := Lib.itoa_length_le (u : Int) (by omega) (by omega)
  unfold Lib.itoa at this
  rw [if_neg (by omega), Int.toNat_natCast] at this
  exact this
theorem specNum_nat : ∀ (m u : Nat), u ≤ m → u ≤ 9223372036854775807 → Ev (fun k => Dz.f k (u : Int)) ⟨(Lib.decDigits u).toArray⟩ := by
  intro m
  induction m with
  | zero =>
    intro u hu hb
    obtain rfl : u = 0 := by omega
    refine Ev.step (f := fun _ => some _) (fun k => ?_) (Ev.now _)
    simp only [Dz.f]
    rw [if_neg (by omega), if_pos (by omega), if_pos (by omega), Gi (by omega) (by omega), if_pos (by omega), if_pos (by omega), Lib.decDigits, dif_pos (by omega)]
    rfl
  | succ m ih =>
    intro u hu hb
    by_cases h : u < 10
    · refine Ev.step (f := fun _ => some _) (fun k => ?_) (Ev.now _)
      simp only [Dz.f]
      rw [if_neg (by omega), if_pos (by omega), if_pos (by omega), Gi (by omega) (by omega), if_pos (by omega), if_pos (by omega), Lib.decDigits, dif_pos h, ← digit_cut u h]
      rfl
    · have hd : wrap64 (Int.tdiv (u : Int) 10) = ((u / 10 : Nat) : Int) := by
        rw [Int.tdiv_eq_ediv_of_nonneg (by omega), Gi (by omega) (by omega)]; omega
      have hm : Int.tmod (u : Int) 10 = ((u % 10 : Nat) : Int) := by rw [Int.tmod_eq_emod_of_nonneg (by omega)]; omega
      refine Ev.step (f := fun k => (Dz.f k ((u / 10 : Nat) : Int)).bind fun t => if t.size + (⟨[UInt8.ofNat (48 + u % 10)].toArray⟩ : ByteArray).size ≤ 9223372036854775807 then some (t ++ ⟨[UInt8.ofNat (48 + u % 10)].toArray⟩) else none) (fun k => ?_) ?_
      · simp only [Dz.f]
        rw [if_neg (by omega), if_neg (by omega), hd, hm]
        congr 1
        funext t
        rw [if_pos (by omega), Gi (x := ((u % 10 : Nat) : Int) + 1) (by omega) (by omega), if_pos (by omega), if_pos (by omega)]
        have e : (((u % 10 : Nat) : Int) + 1).toNat = u % 10 + 1 := by omega
        rw [Int.toNat_natCast, e, digit_cut (u % 10) (by omega)]
      · have i1 := ih (u / 10) (by omega) (by omega)
        have hs := decDigits_le (u / 10) (by omega)
        refine Ev.bind i1 (Ev.congr (fun k => if_pos ?_) ?_)
        · rw [size_B, size_B, B_mk, B_mk]; simp only [List.length_cons, List.length_nil]; omega
        · rw [mk_append, Lib.decDigits.eq_1 u, dif_neg h]; exact Ev.now _
theorem Ji (n : Int) (h0 : -9223372036854775807 ≤ n) (h1 : n ≤ 9223372036854775807) : Ev (fun k => Dz.f k n) (dec n) := by
  by_cases h : n < 0
  · have e : wrap64 (-n) = ((n.natAbs : Nat) : Int) := by rw [Gi (by omega) (by omega)]; omega
    have hs := decDigits_le n.natAbs (by omega)
    refine Ev.step (f := fun k => (Dz.f k ((n.natAbs : Nat) : Int)).bind fun t => if 1 + t.size ≤ 9223372036854775807 then some ((⟨#[45]⟩ : ByteArray) ++ t) else none) (fun k => ?_) (Ev.bind (specNum_nat n.natAbs n.natAbs (Nat.le_refl _) (by omega)) (Ev.congr (fun k => if_pos ?_) ?_))
    · simp only [Dz.f]
      rw [if_pos h, e]
    · rw [size_B, B_mk]; omega
    · have : dec n = (⟨#[45]⟩ : ByteArray) ++ ⟨(Lib.decDigits n.natAbs).toArray⟩ := B_inj (by rw [B_append, B_dec, B_mk]; unfold Lib.itoa; rw [if_pos h]; rfl)
      rw [this]; exact Ev.now _
  · obtain ⟨u, rfl⟩ : ∃ u : Nat, n = (u : Int) := ⟨n.toNat, by omega⟩
    have : dec (u : Int) = ⟨(Lib.decDigits u).toArray⟩ := by unfold dec Lib.itoa; rw [if_neg h, Int.toNat_natCast]
    rw [this]
    exact specNum_nat u u (Nat.le_refl _) (by omega)
end Go.Proofs.YtpalafegcndccaaDoor.X

namespace Go.Proofs.YtpalafegcndccaaDoor.X
open Go.RowKit Go.Proofs.YtpalafegcndccaaDoorW.PrintWords Go.Proofs.YtpalafegcndccaaDoorL
def okEv (x : Event) : Prop := (0 ≤ x.f0 ∧ x.f0 ≤ 9999) ∧ (1 ≤ x.f1 ∧ x.f1 ≤ 6)
def okH (l : List Event) : Prop := l.length ≤ 20 ∧ ∀ x ∈ l, okEv x
theorem nxt_kind {s k : Int} (h : 0 ≤ nxt s k) : 1 ≤ k ∧ k ≤ 6 := by
  unfold nxt at h
  (repeat' split at h) <;> omega
theorem runE_ok (l : List Event) : ∀ (d n : Nat) (s r : Int), runE l d n s = some r → ∀ (i : Nat) (h : i < l.length), n ≤ i → i < n + d → okEv l[i] := by
  intro d
  induction d with
  | zero => intro n s r _ i h h1 h2; omega
  | succ d ih =>
    intro n s r hr i h h1 h2
    simp only [runE] at hr
    split at hr
    · rename_i hn
      split at hr
      · rename_i hok
        by_cases e : i = n
        · subst e
          exact ⟨⟨hok.1, hok.2.1⟩, nxt_kind hok.2.2.2⟩
        · exact ih (n + 1) _ r hr i h (by omega) (by omega)
      · cases hr
    · cases hr
theorem hist_ok {l : List Event} {s : Int} (h : hist l = some s) : okH l := by
  unfold hist at h
  split at h
  · rename_i hl
    refine ⟨hl, fun x hx => ?_⟩
    obtain ⟨i, hi, rfl⟩ := List.getElem_of_mem hx
    exact runE_ok l l.length 0 0 s h i hi (by omega) (by omega)
  · cases h
def G6 : List ByteArray := [(⟨#[]⟩ : ByteArray), (⟨#[108, 97, 110, 100]⟩ : ByteArray), (⟨#[103, 97, 116, 101, 32, 105, 110]⟩ : ByteArray), (⟨#[115, 116, 97, 99, 107]⟩ : ByteArray), (⟨#[112, 105, 99, 107]⟩ : ByteArray), (⟨#[108, 111, 97, 100]⟩ : ByteArray), (⟨#[103, 97, 116, 101, 32, 111, 117, 116]⟩ : ByteArray)]
def wordE (a : Int) : ByteArray := Fh ByteArray.empty G6 a
def lineE (x : Event) : ByteArray := ((dec x.f0 ++ (⟨#[32]⟩ : ByteArray)) ++ wordE x.f1) ++ (⟨#[10]⟩ : ByteArray)
def Gx (l : List Event) : ByteArray := l.foldl (fun s x => s ++ lineE x) ⟨#[]⟩
theorem textH_snoc (l : List Event) (x : Event) : Gx (l ++ [x]) = Gx l ++ lineE x := by unfold Gx; rw [List.foldl_append]; rfl
theorem wordE_size (a : Int) (h0 : 1 ≤ a) (h1 : a ≤ 6) : (wordE a).size ≤ 8 := by
  have : a = 1 ∨ a = 2 ∨ a = 3 ∨ a = 4 ∨ a = 5 ∨ a = 6 := by omega
  rcases this with rfl | rfl | rfl | rfl | rfl | rfl <;> decide
theorem lineE_parts (x : Event) : (lineE x).size = (dec x.f0).size + 1 + (wordE x.f1).size + 1 := by
  unfold lineE
  simp only [ByteArray.size_append]
  rfl
theorem lineE_size (x : Event) (h : okEv x) : (lineE x).size ≤ 31 := by
  have h1 := dec_size x.f0 (by have := h.1; omega) (by have := h.1; omega)
  have h2 := wordE_size x.f1 h.2.1 h.2.2
  rw [lineE_parts]; omega
theorem textH_size : ∀ (n : Nat) (l : List Event), l.length = n → (∀ x ∈ l, okEv x) → (Gx l).size ≤ 31 * n
  | 0, l, hl, _ => by rw [List.eq_nil_of_length_eq_zero hl]; exact Nat.le_refl _
  | n + 1, l, hl, h => by
    have hne : l ≠ [] := by intro e; rw [e] at hl; cases hl
    have hd : l = l.dropLast ++ [l.getLast hne] := (List.dropLast_concat_getLast hne).symm
    have ih := textH_size n l.dropLast (by simp [hl]) (fun x hx => h x (List.dropLast_subset l hx))
    have hx := lineE_size _ (h _ (List.getLast_mem hne))
    rw [hd, textH_snoc, ByteArray.size_append]
    omega
theorem app4 (s a b c d : ByteArray) : (((s ++ a) ++ b) ++ c) ++ d = s ++ (((a ++ b) ++ c) ++ d) := B_inj (by simp only [B_append, List.append_assoc])
theorem rdE_take (l : List Event) (n : Nat) (h : n < l.length) : l.take (n + 1) = l.take n ++ [l[n]] := List.take_succ_eq_append_getElem h
theorem take_size {l : List Event} (h : okH l) (n : Nat) : (Gx (l.take n)).size ≤ 620 := by
  have h1 := textH_size _ (l.take n) rfl (fun x hx => h.2 x (List.mem_of_mem_take hx))
  have h2 := h.1
  rw [List.length_take] at h1
  omega
theorem Jh (l : List Event) (h : okH l) : Ev (fun k => Dn.f k l) (Gx l) := by
  have key : ∀ (d n : Nat), n + d = l.length → Ev (fun k => Dn.l0 k l (Gx (l.take n)) (n : Int)) (Gx l) := by
    intro d
    induction d with
    | zero =>
      intro n hn
      obtain rfl : n = l.length := by omega
      refine Ev.step (f := fun _ => some _) (fun k => ?_) (Ev.now _)
      simp only [Dn.l0]
      rw [if_neg (by omega), List.take_length]
    | succ d ih =>
      intro n hn
      have hn2 : n < l.length := by omega
      have hl := h.1
      have ih := ih (n + 1) (by omega)
      rw [rdE_take l n hn2, textH_snoc] at ih
      have hs := take_size h n
      have ho := h.2 _ (List.getElem_mem hn2)
      have hw := wordE_size _ ho.2.1 ho.2.2
      have hd := dec_size l[n].f0 (by have := ho.1; omega) (by have := ho.1; omega)
      have e1 : (⟨#[32]⟩ : ByteArray).size = 1 := rfl
      have e2 : (⟨#[10]⟩ : ByteArray).size = 1 := rfl
      generalize Gx (l.take n) = s at hs ih ⊢
      have ew : G7.f = some G6 := rfl
      have hlen : (G6.length : Int) = 7 := rfl
      refine Ev.step (f := fun k => (Dz.f k l[n].f0).bind fun t => if s.size + t.size ≤ 9223372036854775807 then if (s ++ t).size + 1 ≤ 9223372036854775807 then if ((s ++ t) ++ (⟨#[32]⟩ : ByteArray)).size + (wordE l[n].f1).size ≤ 9223372036854775807 then if (((s ++ t) ++ (⟨#[32]⟩ : ByteArray)) ++ wordE l[n].f1).size + 1 ≤ 9223372036854775807 then Dn.l0 k l ((((s ++ t) ++ (⟨#[32]⟩ : ByteArray)) ++ wordE l[n].f1) ++ (⟨#[10]⟩ : ByteArray)) ((n + 1 : Nat) : Int) else none else none else none else none) (fun k => ?_) ?_
      · simp only [Dn.l0]
        rw [if_pos (by omega), if_pos (by omega), rdE l n hn2, wrap_succ (by omega)]
        have q0 : 0 ≤ l[n].f1 := by have := ho.2; omega
        have q1 : l[n].f1 < (G6.length : Int) := by have := ho.2; omega
        simp only [ew, Option.bind_some, if_pos q0, if_pos q1]
        rfl
      · refine Ev.bind (Ji _ (by have := ho.1; omega) (by have := ho.1; omega)) ?_
        refine Ev.congr (fun k => by rw [if_pos (by omega), if_pos (by rw [ByteArray.size_append]; omega), if_pos (by simp only [ByteArray.size_append]; omega), if_pos (by simp only [ByteArray.size_append]; omega)]) ?_
        rw [app4]
        exact ih
  exact key l.length 0 (by omega)
theorem implTextH_ev (l : List Event) (h : okH l) : Ev (fun k => Dt.f k l) (Gx l) := by
  have key : ∀ (d n : Nat), n + d = l.length → Ev (fun k => Dt.l0 k l (Gx (l.take n)) (n : Int)) (Gx l) := by
    intro d
    induction d with
    | zero =>
      intro n hn
      obtain rfl : n = l.length := by omega
      refine Ev.step (f := fun _ => some _) (fun k => ?_) (Ev.now _)
      simp only [Dt.l0]
      rw [if_neg (by omega), List.take_length]
    | succ d ih =>
      intro n hn
      have hn2 : n < l.length := by omega
      have hl := h.1
      have ih := ih (n + 1) (by omega)
      rw [rdE_take l n hn2, textH_snoc] at ih
      have hs := take_size h n
      have ho := h.2 _ (List.getElem_mem hn2)
      have hz := lineE_size _ ho
      generalize Gx (l.take n) = s at hs ih ⊢
      have ew : Ha.f = some G6 := rfl
      have hlen : (G6.length : Int) = 7 := rfl
      refine Ev.step (f := fun k => Dt.l0 k l (s ++ lineE l[n]) ((n + 1 : Nat) : Int)) (fun k => ?_) ih
      simp only [Dt.l0]
      rw [if_pos (by omega), if_pos (by omega), rdE l n hn2, wrap_succ (by omega), implDec _ (by have := ho.1; omega) (by have := ho.1; omega)]
      simp only [ew, Option.bind_some]
      rw [if_pos (by have := ho.2; omega), if_pos (by have := ho.2; omega)]
      exact if_pos (show s.size + (lineE l[n]).size ≤ 140737488355328 by omega)
  exact key l.length 0 (by omega)
noncomputable def Hw (l : List Event) : ByteArray × Bool := if (hist l).isSome = true then (Gx l, true) else (⟨#[]⟩, false)
theorem specHistText_ev (l : List Event) : Ev (fun k => Ep.f k l) (Hw l) := by
  unfold Ep.f Hw
  refine Ev.bind (I8 l) ?_
  cases e : hist l with
  | none =>
    simp only [Option.getD_none, Option.isSome_none, Bool.false_eq_true, if_false]
    exact Ev.congr (fun k => if_pos (by decide)) (Ev.now _)
  | some s =>
    have := hist_nonneg e
    simp only [Option.getD_some, Option.isSome_some, if_true]
    refine Ev.congr (fun k => if_neg (by omega)) ?_
    exact Ev.bind (Jh l (hist_ok e)) (Ev.now _)
theorem Ja (l : List Event) (hl : l.length ≤ 1048576) : Ev (fun k => Cm.f k l) ((hist l).isSome) := by
  obtain ⟨r, hr, h1, _⟩ := implState_ev l hl
  unfold Cm.f
  refine Ev.bind hr ?_
  rw [h1]
  exact Ev.now _
theorem implHistText_ev (l : List Event) (hl : l.length ≤ 1048576) : Ev (fun k => D6.f k l) (Hw l) := by
  unfold D6.f Hw
  refine Ev.bind (Ja l hl) ?_
  cases e : hist l with
  | none =>
    simp only [Option.isSome_none, Bool.false_eq_true, if_false]
    exact Ev.now _
  | some s =>
    simp only [Option.isSome_some, if_true]
    exact Ev.bind (implTextH_ev l (hist_ok e)) (Ev.now _)
end Go.Proofs.YtpalafegcndccaaDoor.X

namespace Go.Proofs.YtpalafegcndccaaDoor.X
open Go.RowKit Go.Proofs.YtpalafegcndccaaDoorW.PrintWords Go.Proofs.YtpalafegcndccaaDoorL
def mk (l : List UInt8) : ByteArray := ⟨l.toArray⟩
theorem H6 (l : List UInt8) : B (mk l) = l := B_mk l
theorem mk_of_B (s : ByteArray) : mk (B s) = s := B_inj (B_mk _)
theorem mk_size (l : List UInt8) : (mk l).size = l.length := by rw [size_B, H6]
theorem Iu (s : ByteArray) (i j : Nat) : B (s.extract i j) = ((B s).drop i).take (j - i) := by
  unfold B; simp [List.extract_eq_take_drop]
end Go.Proofs.YtpalafegcndccaaDoor.X

namespace Go.Proofs.YtpalafegcndccaaDoor.X
open Go.RowKit Go.Proofs.YtpalafegcndccaaDoorW.PrintWords Go.Proofs.YtpalafegcndccaaDoorW.PrintLast Go.Proofs.YtpalafegcndccaaDoorW.PrintMore
attribute [local go_sem] Ej Eg Eu Ew D9 D8 Ei Eh
open Go.Proofs.YtpalafegcndccaaDoorG
def Eb.l0 : Nat → ByteArray → Int → List ByteArray → Int → Int → Option (List ByteArray)
  | 0, _, _, _, _, _ => none
  | k + 1, x0, x1, x5, x6, x7 => if x7 < (x0.size : Int) then (if 0 ≤ x7 then (if (bt x0 x7) = x1 then (if 0 ≤ x6 then (if x6 ≤ x7 then (if x7 ≤ (x0.size : Int) then (if x5.length < 8796093022208 then (Eb.l0 k x0 x1 (x5 ++ [x0.extract (x6 : Int).toNat (x7 : Int).toNat]) (wrap64 (x7 + 1)) (wrap64 (x7 + 1))) else (none)) else (none)) else (none)) else (none)) else (Eb.l0 k x0 x1 x5 x6 (wrap64 (x7 + 1)))) else (none)) else (if 0 ≤ x6 then (if x6 ≤ (x0.size : Int) then (if x5.length < 8796093022208 then (some (x5 ++ [x0.extract (x6 : Int).toNat x0.size])) else (none)) else (none)) else (none))
def Eb.f (k : Nat) (a0 : ByteArray) (a1 : Int) : Option (List ByteArray) := Eb.l0 k a0 a1 (([] : List ByteArray)) 0 0
theorem Eb.Et : ∀ k, (∀ y0 y1 y2 y3 y4, LeO (Eb.l0 k y0 y1 y2 y3 y4) (Eb.l0 (k + 1) y0 y1 y2 y3 y4))
  | 0 => fun _ _ _ _ _ r h => by simp [Eb.l0] at h
  | k + 1 => by
    have ih0 := Eb.Et k
    · intro y0 y1 y2 y3 y4
      unfold Eb.l0
      repeat' first
      | (with_reducible exact ih0 _ _ _ _ _)
      | (with_reducible exact LeO.refl _)
      | (with_reducible exact LeO.none _)
      | (with_reducible refine LeO.ite ?_ ?_)
      | (with_reducible refine LeO.bind ?_ (fun _ => ?_))
      | exact ih0 _ _ _ _ _
      | exact LeO.none _
      | refine LeO.ite ?_ ?_
      | refine LeO.bind ?_ (fun _ => ?_)
theorem Eb.mono : ∀ a0 a1 k, LeO (Eb.f k a0 a1) (Eb.f (k + 1) a0 a1) := by
  intro a0 a1 k
  have ih0 := Eb.Et k
  unfold Eb.f
  repeat' first
      | (with_reducible exact ih0 _ _ _ _ _)
      | (with_reducible exact LeO.refl _)
      | (with_reducible exact LeO.none _)
      | (with_reducible refine LeO.ite ?_ ?_)
      | (with_reducible refine LeO.bind ?_ (fun _ => ?_))
      | exact ih0 _ _ _ _ _
      | exact LeO.none _
      | refine LeO.ite ?_ ?_
      | refine LeO.bind ?_ (fun _ => ?_)
set_option maxHeartbeats 8000000 in
set_option maxRecDepth 100000 in
theorem Eb.calls (k : Nat) (a0 : ByteArray) (a1 : Int) (r : List ByteArray) (w : World) (h : Eb.f k a0 a1 = some r) :
    Calls Tryd.prog 30 #[.string a0, .int .u8 a1] w fun e w' => ∃ v0_ : Value, e = .returned (v0_) ∧ Kd.R Kd.string 9 w' w.heap.size (fun _ => True) v0_ r ∧ Below w.heap.size w w' := by
  have HB := Aa.mk (Below.refl w.heap.size w)
  have H : (Eb.l0 k a0 a1 (([] : List ByteArray)) 0 0) = some r := h
  clear h
  obtain ⟨y184, hy184⟩ : ∃ y_ : List ByteArray, y_ = (([] : List ByteArray)) := ⟨_, rfl⟩
  replace H : (Eb.l0 k a0 a1 y184 0 0) = some r := by first | (rw [hy184]; with_reducible exact H) | (have H2_ := (Option.bind_some _ _).symm.trans H; rw [hy184]; with_reducible exact H2_) | (have H2_ := (Option.bind_some _ _).symm.trans H; with_reducible exact H2_) | with_reducible exact H | (rw [hy184]; exact H) | exact H
  have Ny184 := Aa.mk hy184
  clear hy184
  have H' := Aa.mk H
  clear H
  go_enter Tryd.func30, Tryd.ntmps30
  go_wp2_with (first | ((with_reducible refine D7 (N := 8) rfl ?_); refine Kd.Ii Kd.string _ 9 ?hg (N := 8) ?hd (xs := ([] : List ByteArray)) (inner := []) (ok := fun _ => True) (okp := fun _ => True) ?hr ?hp (fun _ hk => hk) trivial (Below.refl _ _) (Nat.le_refl _) (by simp) ?_; (case hd => rfl); (case hg => rfl); (case hr => first | (go_simp; done) | (go_simp; rfl)); (case hp => exact (Dw.none _ _)); intro v185 w3 ho4 hb hg_ hnew_; clear hg_ hnew_; (first | rw [← Ny184.out] at ho4 | (simp only [Int.reduceToNat] at ho4; rw [← Ny184.out] at ho4)); have n0_ := Aa.mk (Kd.Du ho4 (Aq (by repeat (first | (with_reducible first | exact HB.out | apply Ae | apply Ac | apply Ad) | exact HB.out)))); have n1_ := Aa.mk (Ap (by repeat (first | (with_reducible first | exact HB.out | apply Ae | apply Ac | apply Ad) | exact HB.out)) hb); clear HB; have HO186 := n0_; have HB := n1_; clear n0_ n1_; clear hb ho4))
  go_loopg [5, 6, 7] k (fun kq v5 v6 v7 w' => ∃ (x5_1 : List ByteArray) (x6_1 : Int) (x7_1 : Int), v6 = .int .i64 x6_1 ∧ v7 = .int .i64 x7_1 ∧ Aa (Eb.l0 kq a0 a1 x5_1 x6_1 x7_1 = some r) ∧ Aa (kq ≤ k) ∧ Aa (Kd.R Kd.string 9 w' w.heap.size (fun _ => True) v5 x5_1) ∧ Aa (Below w.heap.size w w'))
  case atStart => exact ⟨(y184), (0), (0), (by first | rfl | (simp; done) | (simp [*]; done)), (by first | rfl | (simp; done) | (simp [*]; done)), H', ⟨Nat.le_refl _⟩, ⟨by (with_reducible repeat (first | apply Kd.Ah | apply Kd.Ai | apply Kd.Ak)); exact HO186.out⟩, ⟨by repeat (first | (with_reducible first | exact HB.out | apply Ae | apply Ac | apply Ad) | exact HB.out)⟩⟩
  case round =>
    clear H'
    try clear p2
    try clear c3
    obtain ⟨x5_1, x6_1, x7_1, rfl, rfl, HA, HK1, HO_5, HB⟩ := hrel
    cases gk with
    | zero => exact absurd HA.out (by simp [Eb.l0])
    | succ k1 =>
      have H := HA.out
      clear HA
      simp only [Eb.l0] at H
      by_cases c5 : x7_1 < (a0.size : Int)
      · rw [if_pos c5] at H
        have c5b0 : decide (x7_1 < (a0.size : Int)) = true := decide_eq_true c5
        clear c5
        by_cases c6 : 0 ≤ x7_1
        · rw [if_pos c6] at H
          have c6b0 : decide (0 ≤ x7_1) = true := decide_eq_true c6
          clear c6
          by_cases c8 : (bt a0 x7_1) = a1
          · rw [if_pos c8] at H
            have c8b0 : ((bt a0 x7_1) == a1) = true := beq_iff_eq.mpr c8
            have c8b1 : ((bt a0 x7_1) != a1) = false := bne_eq_false_iff_eq.mpr c8
            clear c8
            by_cases c9 : 0 ≤ x6_1
            · rw [if_pos c9] at H
              have c9b0 := eq_true c9
              have c9b1 : decide (0 ≤ x6_1) = true := decide_eq_true c9
              clear c9
              by_cases c10 : x6_1 ≤ x7_1
              · rw [if_pos c10] at H
                have c10b0 := eq_true c10
                have c10b1 : decide (x6_1 ≤ x7_1) = true := decide_eq_true c10
                clear c10
                by_cases c11 : x7_1 ≤ (a0.size : Int)
                · rw [if_pos c11] at H
                  have c11b0 := eq_true c11
                  have c11b1 : decide (x7_1 ≤ (a0.size : Int)) = true := decide_eq_true c11
                  clear c11
                  by_cases c12 : x5_1.length < 8796093022208
                  · rw [if_pos c12] at H
                    have LMc12 := Aa.mk c12
                    clear c12
                    obtain ⟨y187, hy187⟩ : ∃ y_ : List ByteArray, y_ = (x5_1 ++ [a0.extract (x6_1 : Int).toNat (x7_1 : Int).toNat]) := ⟨_, rfl⟩
                    replace H : (Eb.l0 k1 a0 a1 y187 (wrap64 (x7_1 + 1)) (wrap64 (x7_1 + 1))) = some r := by first | (rw [hy187]; with_reducible exact H) | (have H2_ := (Option.bind_some _ _).symm.trans H; rw [hy187]; with_reducible exact H2_) | (have H2_ := (Option.bind_some _ _).symm.trans H; with_reducible exact H2_) | with_reducible exact H | (rw [hy187]; exact H) | exact H
                    have Ny187 := Aa.mk hy187
                    clear hy187
                    have H' := Aa.mk H
                    clear H
                    have p7 : 0 ≤ (x7_1 : Int) := of_decide_eq_true (by first | (with_reducible assumption) | assumption)
                    have q7 : x7_1 < (a0.size : Int) := of_decide_eq_true (by first | (with_reducible assumption) | assumption)
                    have hx7 := bt_at a0 x7_1
                    replace p7 := eq_true p7
                    replace q7 := eq_true q7
                    go_wp2_with (first | ((with_reducible refine Hq (b := .append) (xs := #[.tmp 20, .tmp 25]) rfl ?_); at_builtin; refine Kd.Iw Kd.string (w0 := w) w.heap.size rfl (.tmp 20) (.tmp 25) 53 9 (.string ⟨#[]⟩) 16 rfl Tryd.underlying53 info9 rfl (by decide) (by omega) u5 x5_1 (a0.extract (x6_1 : Int).toNat (x7_1 : Int).toNat) [.string (a0.extract (x6_1 : Int).toNat (x7_1 : Int).toNat)] (fun _ => True) (fun _ => False) rfl rfl ?aP (fun _ hk => hk.elim) ?aF ?aO ?aB ?aS ?aL ?_; (case aP => exact rfl); (case aB => exact (by repeat (first | (with_reducible first | exact HB.out | apply Ae | apply Ac | apply Ad) | exact HB.out))); (case aF => exact (fun _ _ => trivial)); (case aO => exact (by (with_reducible repeat (first | apply Kd.Ah | apply Kd.Ai | apply Kd.Ak)); exact HO_5.out)); (case aS => exact (Aq (by repeat (first | (with_reducible first | exact HB.out | apply Ae | apply Ac | apply Ad) | exact HB.out)))); (case aL => have := LMc12.out; omega); intro v188 w13 ho hb hg hat; rw [← Ny187.out] at ho; have n0_ := Aa.mk (hb); have n1_ := Aa.mk (ho); clear HB; clear HO_5; have HB := n0_; have HO189 := n1_; clear n0_ n1_; clear ho hb hg hat))
                    go_roundg k1
                    case measure => have := HK1.out; omega
                    case rel => exact ⟨(y187), (wrap64 (x7_1 + 1)), (wrap64 (x7_1 + 1)), (by first | rfl | (simp; done) | (simp [*]; done)), (by first | rfl | (simp; done) | (simp [*]; done)), H', ⟨by have := HK1.out; omega⟩, ⟨by (with_reducible repeat (first | apply Kd.Ah | apply Kd.Ai | apply Kd.Ak)); exact HO189.out⟩, ⟨by repeat (first | (with_reducible first | exact HB.out | apply Ae | apply Ac | apply Ad) | exact HB.out)⟩⟩
                  · rw [if_neg c12] at H
                    exact absurd H (by simp)
                · rw [if_neg c11] at H
                  exact absurd H (by simp)
              · rw [if_neg c10] at H
                exact absurd H (by simp)
            · rw [if_neg c9] at H
              exact absurd H (by simp)
          · rw [if_neg c8] at H
            have c8b0 : ((bt a0 x7_1) == a1) = false := beq_eq_false_iff_ne.mpr c8
            have c8b1 : ((bt a0 x7_1) != a1) = true := bne_iff_ne.mpr c8
            have H' := Aa.mk H
            clear H
            have p7 : 0 ≤ (x7_1 : Int) := of_decide_eq_true (by first | (with_reducible assumption) | assumption)
            have q7 : x7_1 < (a0.size : Int) := of_decide_eq_true (by first | (with_reducible assumption) | assumption)
            have hx7 := bt_at a0 x7_1
            replace p7 := eq_true p7
            replace q7 := eq_true q7
            go_wp2
            go_roundg k1
            case measure => have := HK1.out; omega
            case rel => exact ⟨(x5_1), (x6_1), (wrap64 (x7_1 + 1)), (by first | rfl | (simp; done) | (simp [*]; done)), (by first | rfl | (simp; done) | (simp [*]; done)), H', ⟨by have := HK1.out; omega⟩, ⟨by (with_reducible repeat (first | apply Kd.Ah | apply Kd.Ai | apply Kd.Ak)); exact HO_5.out⟩, ⟨by repeat (first | (with_reducible first | exact HB.out | apply Ae | apply Ac | apply Ad) | exact HB.out)⟩⟩
        · rw [if_neg c6] at H
          exact absurd H (by simp)
      · rw [if_neg c5] at H
        have c5b0 : decide (x7_1 < (a0.size : Int)) = false := decide_eq_false c5
        clear c5
        by_cases c14 : 0 ≤ x6_1
        · rw [if_pos c14] at H
          have c14b0 := eq_true c14
          have c14b1 : decide (0 ≤ x6_1) = true := decide_eq_true c14
          clear c14
          by_cases c15 : x6_1 ≤ (a0.size : Int)
          · rw [if_pos c15] at H
            have c15b0 := eq_true c15
            have c15b1 : decide (x6_1 ≤ (a0.size : Int)) = true := decide_eq_true c15
            clear c15
            by_cases c16 : x5_1.length < 8796093022208
            · rw [if_pos c16] at H
              have LMc16 := Aa.mk c16
              clear c16
              obtain ⟨y190, hy190⟩ : ∃ y_ : List ByteArray, y_ = (x5_1 ++ [a0.extract (x6_1 : Int).toNat a0.size]) := ⟨_, rfl⟩
              replace H : (some y190) = some r := by first | (rw [hy190]; with_reducible exact H) | (have H2_ := (Option.bind_some _ _).symm.trans H; rw [hy190]; with_reducible exact H2_) | (have H2_ := (Option.bind_some _ _).symm.trans H; with_reducible exact H2_) | with_reducible exact H | (rw [hy190]; exact H) | exact H
              have Ny190 := Aa.mk hy190
              clear hy190
              obtain rfl := Option.some.inj H
              go_wp2_with (first | ((with_reducible refine Hq (b := .append) (xs := #[.tmp 29, .tmp 33]) rfl ?_); at_builtin; refine Kd.Iw Kd.string (w0 := w) w.heap.size rfl (.tmp 29) (.tmp 33) 53 9 (.string ⟨#[]⟩) 16 rfl Tryd.underlying53 info9 rfl (by decide) (by omega) u5 x5_1 (a0.extract (x6_1 : Int).toNat a0.size) [.string (a0.extract (x6_1 : Int).toNat a0.size)] (fun _ => True) (fun _ => False) rfl rfl ?aP (fun _ hk => hk.elim) ?aF ?aO ?aB ?aS ?aL ?_; (case aP => exact rfl); (case aB => exact (by repeat (first | (with_reducible first | exact HB.out | apply Ae | apply Ac | apply Ad) | exact HB.out))); (case aF => exact (fun _ _ => trivial)); (case aO => exact (by (with_reducible repeat (first | apply Kd.Ah | apply Kd.Ai | apply Kd.Ak)); exact HO_5.out)); (case aS => exact (Aq (by repeat (first | (with_reducible first | exact HB.out | apply Ae | apply Ac | apply Ad) | exact HB.out)))); (case aL => have := LMc16.out; omega); intro v191 w17 ho hb hg hat; rw [← Ny190.out] at ho; have n0_ := Aa.mk (hb); have n1_ := Aa.mk (ho); clear HB; clear HO_5; have HB := n0_; have HO192 := n1_; clear n0_ n1_; clear ho hb hg hat))
              go_ret
              exact ⟨_, by first | rfl | (simp [Be, Bf] <;> rfl) | (simp [*, Be, Bf] <;> rfl), by (with_reducible repeat (first | apply Kd.Ah | apply Kd.Ai | apply Kd.Ak)); exact HO192.out, by repeat (first | (with_reducible first | exact HB.out | apply Ae | apply Ac | apply Ad) | exact HB.out)⟩
            · rw [if_neg c16] at H
              exact absurd H (by simp)
          · rw [if_neg c15] at H
            exact absurd H (by simp)
        · rw [if_neg c14] at H
          exact absurd H (by simp)
end Go.Proofs.YtpalafegcndccaaDoor.X

namespace Go.Proofs.YtpalafegcndccaaDoor.X
open Go.RowKit Go.Proofs.YtpalafegcndccaaDoorW.PrintWords Go.Proofs.YtpalafegcndccaaDoorL
def F8 (c : UInt8) : List UInt8 → List UInt8 × List UInt8 × Bool
  | [] => ([], [], false)
  | b :: l => if b = c then ([], l, true) else (b :: (F8 c l).1, (F8 c l).2.1, (F8 c l).2.2)
theorem cutL_hit (c : UInt8) : ∀ (a b : List UInt8), c ∉ a → F8 c (a ++ c :: b) = (a, b, true)
  | [], b, _ => by simp [F8]
  | x :: a, b, h => by
    have hx : x ≠ c := fun e => h (by simp [e])
    have ih := cutL_hit c a b (fun e => h (by simp [e]))
    simp only [List.cons_append, F8, if_neg hx, ih]
theorem Iy (c : UInt8) : ∀ l : List UInt8, (F8 c l).2.2 = true → l = (F8 c l).1 ++ c :: (F8 c l).2.1
  | [], h => by simp [F8] at h
  | x :: l, h => by
    by_cases hx : x = c
    · subst hx; simp [F8]
    · simp only [F8, if_neg hx] at h ⊢
      have := Iy c l h
      rw [List.cons_append, ← this]
theorem Jd (c : UInt8) : ∀ l : List UInt8, c ∉ (F8 c l).1
  | [] => by simp [F8]
  | x :: l => by
    by_cases hx : x = c
    · subst hx; simp [F8]
    · simp only [F8, if_neg hx, List.mem_cons, not_or]
      exact ⟨fun e => hx e.symm, Jd c l⟩
theorem cutL_lost (c : UInt8) : ∀ l : List UInt8, (F8 c l).2.2 = false → F8 c l = (l, [], false)
  | [], h => rfl
  | x :: l, h => by
    by_cases hx : x = c
    · subst hx; simp [F8] at h
    · simp only [F8, if_neg hx] at h ⊢
      rw [cutL_lost c l h]
theorem cutL_idx (c : UInt8) (l : List UInt8) : Lib.index l [c] = if (F8 c l).2.2 = true then ((F8 c l).1.length : Int) else -1 := by
  by_cases h : (F8 c l).2.2 = true
  · rw [if_pos h]
    have hf := Iy c l h
    have hn := Jd c l
    generalize (F8 c l).1 = a at hf hn ⊢
    generalize (F8 c l).2.1 = b at hf
    rw [hf]
    refine Lib.index_first (by simp) (by unfold Lib.occAt; rw [List.drop_left' rfl]; simp [List.isPrefixOf]) (fun j hj => ?_)
    unfold Lib.occAt
    rw [List.drop_append_of_le_length (by omega), List.drop_eq_getElem_cons hj, List.cons_append]
    have hne : a[j] ≠ c := fun e => hn (by rw [← e]; exact List.getElem_mem hj)
    simp only [List.isPrefixOf]
    rw [show (c == a[j]) = false from beq_eq_false_iff_ne.2 (fun h => hne h.symm), Bool.false_and]
  · rw [if_neg h]
    have hl := cutL_lost c l (by simpa using h)
    have hn : c ∉ l := by
      have := Jd c l
      rw [hl] at this
      exact this
    refine Lib.index_none (fun j hj => ?_)
    unfold Lib.occAt
    rcases Nat.lt_or_ge j l.length with h | h
    · rw [List.drop_eq_getElem_cons h]
      have hne : l[j] ≠ c := fun e => hn (by rw [← e]; exact List.getElem_mem h)
      simp only [List.isPrefixOf]
      rw [show (c == l[j]) = false from beq_eq_false_iff_ne.2 (fun h => hne h.symm), Bool.false_and]
    · rw [List.drop_eq_nil_of_le h]; rfl
theorem stringsCut_eq (s : ByteArray) (c : UInt8) (hs : s.size ≤ 4000000000) : strings_Cut.f s ⟨#[c]⟩ = some (mk (F8 c (B s)).1, mk (F8 c (B s)).2.1, (F8 c (B s)).2.2) := by
  have e : stringslite_Index.f s ⟨#[c]⟩ = some (Lib.index (B s) [c]) := by unfold stringslite_Index.f; rw [if_pos (by omega)]; rfl
  have h1 : (⟨#[c]⟩ : ByteArray).size = 1 := rfl
  unfold strings_Cut.f stringslite_Cut.f
  rw [e, cutL_idx]
  simp only [Option.bind_some]
  by_cases h : (F8 c (B s)).2.2 = true
  · have hf := Iy c (B s) h
    have hl : (B s).length = (F8 c (B s)).1.length + 1 + (F8 c (B s)).2.1.length := by
      conv => lhs; rw [hf]
      simp; omega
    rw [Hm] at hl
    simp only [if_pos h]
    rw [if_pos (by omega), if_pos (by omega), if_pos (by omega), h1, Gi (by omega) (by omega), if_pos (by omega), if_pos (by omega)]
    simp only [Option.bind_some, Option.some.injEq, Prod.mk.injEq]
    generalize (F8 c (B s)).1 = a at *
    generalize (F8 c (B s)).2.1 = b at *
    refine ⟨B_inj ?_, B_inj ?_, h.symm⟩
    · rw [Iu, H6, hf]
      simp
    · rw [Iu, H6, hf]
      rw [show ((a.length : Int) + ((1 : Nat) : Int)).toNat = a.length + 1 by omega]
      rw [List.take_of_length_le (by simp; omega)]
      rw [List.drop_append, List.drop_of_length_le (by omega)]
      simp
  · have hl := cutL_lost c (B s) (by simpa using h)
    simp only [if_neg h]
    rw [if_neg (by omega), hl]
    simp only [Option.bind_some, mk_of_B]
    rfl
/-- A text's pieces between all of a byte. -/
def Ib (p : List UInt8) : List (List UInt8) → List (List UInt8)
  | [] => [p]
  | q :: r => (p ++ q) :: r
def pieces (c : UInt8) : List UInt8 → List (List UInt8)
  | [] => [[]]
  | b :: l => if b = c then [] :: pieces c l else Ib [b] (pieces c l)
theorem pieces_ne (c : UInt8) : ∀ l, pieces c l ≠ []
  | [] => by simp [pieces]
  | b :: l => by
    unfold pieces
    by_cases h : b = c
    · rw [if_pos h]; simp
    · rw [if_neg h]; cases pieces c l <;> simp [Ib]
theorem addHead_two (p q : List UInt8) (r : List (List UInt8)) : Ib p (Ib q r) = Ib (p ++ q) r := by cases r <;> simp [Ib]
theorem addHead_nil (c : UInt8) (l : List UInt8) : Ib [] (pieces c l) = pieces c l := by
  cases h : pieces c l with
  | nil => exact absurd h (pieces_ne c l)
  | cons a b => simp [Ib]
theorem addHead_length (p : List UInt8) (c : UInt8) (l : List UInt8) : (Ib p (pieces c l)).length = (pieces c l).length := by
  cases h : pieces c l with
  | nil => exact absurd h (pieces_ne c l)
  | cons a b => simp [Ib]
theorem Jb (c : UInt8) : ∀ l : List UInt8, 1 ≤ (pieces c l).length ∧ (pieces c l).length ≤ l.length + 1
  | [] => by simp [pieces]
  | b :: l => by
    have ih := Jb c l
    unfold pieces
    by_cases h : b = c
    · rw [if_pos h]; simp; omega
    · rw [if_neg h, addHead_length]; simp; omega
def seg (s : ByteArray) (i j : Nat) : List UInt8 := ((B s).drop i).take (j - i)
theorem seg_succ (s : ByteArray) (i j : Nat) (h : i ≤ j) (hj : j < (B s).length) : seg s i (j + 1) = seg s i j ++ [(B s)[j]] := by
  unfold seg
  rw [show j + 1 - i = (j - i) + 1 by omega, List.take_succ_eq_append_getElem (by simp; omega)]
  simp [show i + (j - i) = j by omega]
theorem specSplit_ev (s : ByteArray) (c : UInt8) (hs : s.size ≤ 1000000000) : Ev (fun k => Eb.f k s (c.toNat : Int)) ((pieces c (B s)).map mk) := by
  have hlen := Hm s
  have key : ∀ (d i st : Nat) (xs : List ByteArray), i + d = (B s).length → st ≤ i → xs.length ≤ i →
      Ev (fun k => Eb.l0 k s (c.toNat : Int) xs st i) (xs ++ (Ib (seg s st i) (pieces c ((B s).drop i))).map mk) := by
    intro d
    induction d with
    | zero =>
      intro i st xs hi hst hx
      obtain rfl : i = (B s).length := by omega
      refine Ev.step (f := fun _ => some _) (fun k => ?_) (Ev.now _)
      simp only [Eb.l0]
      rw [if_neg (by omega), if_pos (by omega), if_pos (by omega), if_pos (by omega), List.drop_length]
      have e : s.extract (st : Int).toNat s.size = mk (seg s st (B s).length) := B_inj (by rw [Iu, H6, hlen]; rfl)
      rw [e]
      simp [pieces, Ib]
    | succ d ih =>
      intro i st xs hi hst hx
      have hl : i < (B s).length := by omega
      have hb := bt_B s i hl
      rw [List.drop_eq_getElem_cons hl]
      unfold pieces
      by_cases e : (B s)[i] = c
      · rw [if_pos e]
        have i1 := ih (i + 1) (i + 1) (xs ++ [mk (seg s st i)]) (by omega) (by omega) (by simp; omega)
        have e0 : seg s (i + 1) (i + 1) = [] := by simp [seg]
        rw [e0, addHead_nil] at i1
        have e1 : Ib (seg s st i) ([] :: pieces c ((B s).drop (i + 1))) = seg s st i :: pieces c ((B s).drop (i + 1)) := by simp [Ib]
        rw [e1, List.map_cons]
        rw [List.append_assoc] at i1
        refine Ev.step (fun k => ?_) i1
        simp only [Eb.l0]
        have e2 : s.extract (st : Int).toNat (i : Int).toNat = mk (seg s st i) := B_inj (by rw [Iu, H6]; rfl)
        rw [if_pos (by omega), if_pos (by omega), hb, e, if_pos rfl, if_pos (by omega), if_pos (by omega), if_pos (by omega), if_pos (by omega), e2, wrap_succ (by omega)]
      · rw [if_neg e]
        have i1 := ih (i + 1) st xs (by omega) (by omega) (by omega)
        rw [seg_succ s st i hst hl, ← addHead_two] at i1
        refine Ev.step (fun k => ?_) i1
        simp only [Eb.l0]
        rw [if_pos (by omega), if_pos (by omega), hb, if_neg (fun z => e (UInt8.toNat_inj.1 (by omega))), wrap_succ (by omega)]
  have := key (B s).length 0 0 [] (by omega) (by omega) (by simp)
  have e0 : seg s 0 0 = [] := by simp [seg]
  rw [e0, List.drop_zero, addHead_nil, List.nil_append] at this
  exact this
theorem pieces_cons (c b : UInt8) (l : List UInt8) : pieces c (b :: l) = if b = c then [] :: pieces c l else Ib [b] (pieces c l) := rfl
theorem cutL_cons (c b : UInt8) (l : List UInt8) : F8 c (b :: l) = if b = c then ([], l, true) else (b :: (F8 c l).1, (F8 c l).2.1, (F8 c l).2.2) := rfl
theorem Jf (c : UInt8) : ∀ l : List UInt8, pieces c l = if (F8 c l).2.2 = true then (F8 c l).1 :: pieces c (F8 c l).2.1 else [l]
  | [] => rfl
  | b :: l => by
    have ih := Jf c l
    rw [pieces_cons, cutL_cons]
    by_cases h : b = c
    · rw [if_pos h, if_pos h, if_pos rfl]
    · rw [if_neg h, if_neg h, ih]
      by_cases k : (F8 c l).2.2 = true
      · rw [if_pos k, if_pos k]; rfl
      · rw [if_neg k, if_neg k]; rfl
theorem splitAll (c : UInt8) : ∀ (m : Nat) (s : ByteArray), s.size ≤ m → Lib.splitB ⟨#[c]⟩ 0 (Lib.countB s ⟨#[c]⟩) s = (pieces c (B s)).map mk ∧ (pieces c (B s)).length = Lib.countB s ⟨#[c]⟩ + 1 := by
  have h1 : 1 ≤ (⟨#[c]⟩ : ByteArray).size := Nat.le_refl 1
  intro m
  induction m with
  | zero =>
    intro s hs
    have hB : B s = [] := List.eq_nil_of_length_eq_zero (by rw [Hm]; omega)
    have hi : Lib.indexB s ⟨#[c]⟩ = -1 := by
      show Lib.index (B s) [c] = -1
      rw [cutL_idx, hB]; rfl
    rw [Lib.countB_miss s _ hi, Lib.splitB_zero, hB]
    simp only [pieces, List.map_cons, List.map_nil, List.length_cons, List.length_nil, and_true]
    rw [← hB, mk_of_B]
  | succ m ih =>
    intro s hs
    have hlen := Hm s
    by_cases h : (F8 c (B s)).2.2 = true
    · have hi : Lib.indexB s ⟨#[c]⟩ = ((F8 c (B s)).1.length : Int) := by
        show Lib.index (B s) [c] = _
        rw [cutL_idx, if_pos h]
      have hp := Jf c (B s)
      rw [if_pos h] at hp
      have hf := Iy c (B s) h
      generalize (F8 c (B s)).1 = a at hf hi hp
      generalize (F8 c (B s)).2.1 = b at hf hp
      have hl := congrArg List.length hf
      rw [List.length_append, List.length_cons, hlen] at hl
      have et : s.extract (a.length + (⟨#[c]⟩ : ByteArray).size) s.size = mk b := B_inj (by
        rw [Iu, H6, List.take_of_length_le (by rw [List.length_drop]; omega), hf, show a.length + (⟨#[c]⟩ : ByteArray).size = (a ++ [c]).length from by simp; rfl, show a ++ c :: b = (a ++ [c]) ++ b from by simp, List.drop_left' rfl])
      have eh : s.extract 0 (a.length + 0) = mk a := B_inj (by rw [Iu, H6, hf, List.drop_zero, Nat.sub_zero, Nat.add_zero, List.take_left' rfl])
      have ih := ih (mk b) (by rw [mk_size]; omega)
      rw [H6] at ih
      rw [Lib.countB_hit s _ _ h1 hi, et, Nat.add_comm 1, Lib.splitB_hit _ 0 _ s _ hi, eh, et, ih.1, hp]
      exact ⟨rfl, by rw [List.length_cons, ih.2]⟩
    · have hi : Lib.indexB s ⟨#[c]⟩ = -1 := by
        show Lib.index (B s) [c] = -1
        rw [cutL_idx, if_neg h]
      have hp := Jf c (B s)
      rw [if_neg h] at hp
      rw [Lib.countB_miss s _ hi, Lib.splitB_zero, hp]
      simp [mk_of_B]
theorem stringsSplit_eq (s : ByteArray) (c : UInt8) (hs : s.size ≤ 1048576) : strings_Split.f s ⟨#[c]⟩ = some ((pieces c (B s)).map mk) := by
  have h1 : 1 ≤ (⟨#[c]⟩ : ByteArray).size := Nat.le_refl 1
  obtain ⟨e1, e2⟩ := splitAll c s.size s (Nat.le_refl _)
  have hl := Jb c (B s)
  rw [Hm] at hl
  unfold strings_Split.f
  rw [e1, if_pos ⟨by omega, h1, by rw [List.length_map]; exact e2, by omega⟩]
end Go.Proofs.YtpalafegcndccaaDoor.X

namespace Go.Proofs.YtpalafegcndccaaDoor.X
open Go.RowKit Go.Proofs.YtpalafegcndccaaDoorW.PrintWords Go.Proofs.YtpalafegcndccaaDoorW.PrintLast Go.Proofs.YtpalafegcndccaaDoorW.PrintMore
attribute [local go_sem] Ej Eg Eu Ew D9 D8 Ei Eh
open Go.Proofs.YtpalafegcndccaaDoorG
def Em.l0 : Nat → List ByteArray → ByteArray → Int → Option (Int)
  | 0, _, _, _ => none
  | k + 1, x0, x1, x5 => if x5 < (x0.length : Int) then (if 0 ≤ x5 then (if (Fh ByteArray.empty x0 x5).toList = x1.toList then (some x5) else (Em.l0 k x0 x1 (wrap64 (x5 + 1)))) else (none)) else (some 0)
def Em.f (k : Nat) (l0 : List ByteArray) (a1 : ByteArray) : Option (Int) := Em.l0 k l0 a1 1
theorem Em.Et : ∀ k, (∀ y0 y1 y2, LeO (Em.l0 k y0 y1 y2) (Em.l0 (k + 1) y0 y1 y2))
  | 0 => fun _ _ _ r h => by simp [Em.l0] at h
  | k + 1 => by
    have ih0 := Em.Et k
    · intro y0 y1 y2
      unfold Em.l0
      repeat' first
      | (with_reducible exact ih0 _ _ _)
      | (with_reducible exact LeO.refl _)
      | (with_reducible exact LeO.none _)
      | (with_reducible refine LeO.ite ?_ ?_)
      | (with_reducible refine LeO.bind ?_ (fun _ => ?_))
      | exact ih0 _ _ _
      | exact LeO.none _
      | refine LeO.ite ?_ ?_
      | refine LeO.bind ?_ (fun _ => ?_)
theorem Em.mono : ∀ a0 a1 k, LeO (Em.f k a0 a1) (Em.f (k + 1) a0 a1) := by
  intro a0 a1 k
  have ih0 := Em.Et k
  unfold Em.f
  repeat' first
      | (with_reducible exact ih0 _ _ _)
      | (with_reducible exact LeO.refl _)
      | (with_reducible exact LeO.none _)
      | (with_reducible refine LeO.ite ?_ ?_)
      | (with_reducible refine LeO.bind ?_ (fun _ => ?_))
      | exact ih0 _ _ _
      | exact LeO.none _
      | refine LeO.ite ?_ ?_
      | refine LeO.bind ?_ (fun _ => ?_)
set_option maxHeartbeats 8000000 in
set_option maxRecDepth 100000 in
theorem Em.calls (k : Nat) (A0 : Option Addr) (c0 : Nat) (l0 : List ByteArray) (a1 : ByteArray) (r : Int) (w : World) (hr0 : Kd.C Kd.string w A0 l0.length l0) (hc0 : l0.length ≤ c0) (h : Em.f k l0 a1 = some r) :
    Calls Tryd.prog 55 #[.slice A0 l0.length c0, .string a1] w fun e w' => e = .returned (.int .i64 r) ∧ Cj w w' := by
  have HR0 := Aa.mk hr0
  have HC0 := Aa.mk hc0
  clear hr0 hc0
  have H : (Em.l0 k l0 a1 1) = some r := h
  clear h
  have H' := Aa.mk H
  clear H
  go_enter Tryd.func55, Tryd.ntmps55
  go_wp2
  go_loopg [5] k (fun kq v5 w' => ∃ (x5_1 : Int), v5 = .int .i64 x5_1 ∧ Aa (Em.l0 kq l0 a1 x5_1 = some r) ∧ Aa (kq ≤ k) ∧ Cj w w')
  case atStart => exact ⟨(1), (by first | rfl | (simp; done) | (simp [*]; done)), H', ⟨Nat.le_refl _⟩, by repeat (first | exact Cj.refl _ | apply Cj.step)⟩
  case round =>
    clear H'
    try clear p2
    obtain ⟨x5_1, rfl, HA, HK1, ⟨m1, rfl⟩⟩ := hrel
    cases gk with
    | zero => exact absurd HA.out (by simp [Em.l0])
    | succ k1 =>
      have H := HA.out
      clear HA
      simp only [Em.l0] at H
      by_cases c3 : x5_1 < (l0.length : Int)
      · rw [if_pos c3] at H
        have c3b0 : decide (x5_1 < (l0.length : Int)) = true := decide_eq_true c3
        clear c3
        by_cases c4 : 0 ≤ x5_1
        · rw [if_pos c4] at H
          have c4b0 : decide (0 ≤ x5_1) = true := decide_eq_true c4
          clear c4
          by_cases c5 : (Fh ByteArray.empty l0 x5_1).toList = a1.toList
          · rw [if_pos c5] at H
            have c5b0 : ((Fh ByteArray.empty l0 x5_1).toList == a1.toList) = true := beq_iff_eq.mpr c5
            have c5b1 : ((Fh ByteArray.empty l0 x5_1).toList != a1.toList) = false := bne_eq_false_iff_eq.mpr c5
            clear c5
            obtain rfl := Option.some.inj H
            have p196 : 0 ≤ (x5_1 : Int) := of_decide_eq_true (by first | (with_reducible assumption) | assumption)
            have q196 : x5_1 < (l0.length : Int) := of_decide_eq_true (by first | (with_reducible assumption) | assumption)
            obtain ⟨ad196, e196, hx196_0⟩ := Kd.H8 HR0.out x5_1 p196 q196
            cases e196
            replace p196 := eq_true p196
            replace q196 := eq_true q196
            go_wp2
            go_ret
            exact ⟨by first | rfl | (simp; done) | (simp [*]; done), by repeat (first | exact Cj.refl _ | apply Cj.step)⟩
          · rw [if_neg c5] at H
            have c5b0 : ((Fh ByteArray.empty l0 x5_1).toList == a1.toList) = false := beq_eq_false_iff_ne.mpr c5
            have c5b1 : ((Fh ByteArray.empty l0 x5_1).toList != a1.toList) = true := bne_iff_ne.mpr c5
            have H' := Aa.mk H
            clear H
            have p196 : 0 ≤ (x5_1 : Int) := of_decide_eq_true (by first | (with_reducible assumption) | assumption)
            have q196 : x5_1 < (l0.length : Int) := of_decide_eq_true (by first | (with_reducible assumption) | assumption)
            obtain ⟨ad196, e196, hx196_0⟩ := Kd.H8 HR0.out x5_1 p196 q196
            cases e196
            replace p196 := eq_true p196
            replace q196 := eq_true q196
            go_wp2
            go_roundg k1
            case measure => have := HK1.out; omega
            case rel => exact ⟨(wrap64 (x5_1 + 1)), (by first | rfl | (simp; done) | (simp [*]; done)), H', ⟨by have := HK1.out; omega⟩, by repeat (first | exact Cj.refl _ | apply Cj.step)⟩
        · rw [if_neg c4] at H
          exact absurd H (by simp)
      · rw [if_neg c3] at H
        have c3b0 : decide (x5_1 < (l0.length : Int)) = false := decide_eq_false c3
        clear c3
        obtain rfl := Option.some.inj H
        go_wp2
        go_ret
        exact ⟨by first | rfl | (simp; done) | (simp [*]; done), by repeat (first | exact Cj.refl _ | apply Cj.step)⟩
end Go.Proofs.YtpalafegcndccaaDoor.X

namespace Go.Proofs.YtpalafegcndccaaDoor.X
open Go.RowKit Go.Proofs.YtpalafegcndccaaDoorW.PrintWords Go.Proofs.YtpalafegcndccaaDoorL
theorem rdW (l : List ByteArray) (n : Nat) (h : n < l.length) : Fh ByteArray.empty l (n : Int) = l[n] := by simp [Fh, List.getD_eq_getElem?_getD, List.getElem?_eq_getElem h]
/-- The words' places, found by both. -/
theorem implIndex_ev (l : List ByteArray) (x : ByteArray) (hl : l.length ≤ 1000) : ∃ r, Ev (fun k => Cc.f k l x) r ∧ ∀ j : Nat, (h : j < l.length) → l[j] = x → (∀ i : Nat, (h2 : i < j) → l[i]'(by omega) ≠ x) → r = (j : Int) := by
  have key : ∀ (d n : Nat), n + d = l.length → ∃ r, Ev (fun k => Cc.l0 k l x (l.length : Int) (n : Int)) r ∧ ∀ j : Nat, n ≤ j → (h : j < l.length) → l[j] = x → (∀ i : Nat, n ≤ i → (h2 : i < j) → l[i]'(by omega) ≠ x) → r = (j : Int) := by
    intro d
    induction d with
    | zero =>
      intro n hn
      refine ⟨-1, Ev.step (f := fun _ => some _) (fun k => ?_) (Ev.now _), fun j h1 h2 => by omega⟩
      simp only [Cc.l0]
      rw [if_neg (by omega)]
    | succ d ih =>
      intro n hn
      have hn2 : n < l.length := by omega
      by_cases c : x.toList = l[n].toList
      · refine ⟨(n : Int), Ev.step (f := fun _ => some _) (fun k => ?_) (Ev.now _), fun j h1 h2 h3 h4 => ?_⟩
        · simp only [Cc.l0]
          rw [if_pos (by omega), if_pos (by omega), if_pos (by omega), rdW l n hn2, if_pos c]
        · by_cases e : j = n
          · rw [e]
          · exact absurd (B_inj (by rw [Hy, Hy] at c; exact c.symm)) (h4 n (Nat.le_refl _) (by omega))
      · obtain ⟨r, h1, h2⟩ := ih (n + 1) (by omega)
        refine ⟨r, Ev.step (fun k => ?_) h1, fun j q1 q2 q3 q4 => ?_⟩
        · simp only [Cc.l0]
          rw [if_pos (by omega), if_pos (by omega), if_pos (by omega), rdW l n hn2, if_neg c, wrap_succ (by omega)]
        · by_cases e : j = n
          · subst e; exact absurd (by rw [q3]) c
          · exact h2 j (by omega) q2 q3 (fun i hi hij => q4 i (by omega) hij)
  obtain ⟨r, h1, h2⟩ := key l.length 0 (by omega)
  exact ⟨r, Ev.congr (fun k => rfl) h1, fun j h q1 q2 => h2 j (by omega) h q1 (fun i _ hij => q2 i hij)⟩
theorem specIndex_ev (l : List ByteArray) (x : ByteArray) (hl : l.length ≤ 1000) : ∃ r, Ev (fun k => Em.f k l x) r ∧ ∀ j : Nat, 1 ≤ j → (h : j < l.length) → l[j] = x → (∀ i : Nat, 1 ≤ i → (h2 : i < j) → l[i]'(by omega) ≠ x) → r = (j : Int) := by
  have key : ∀ (d n : Nat), n + d = l.length ∨ (d = 0 ∧ l.length ≤ n) → ∃ r, Ev (fun k => Em.l0 k l x (n : Int)) r ∧ ∀ j : Nat, n ≤ j → (h : j < l.length) → l[j] = x → (∀ i : Nat, n ≤ i → (h2 : i < j) → l[i]'(by omega) ≠ x) → r = (j : Int) := by
    intro d
    induction d with
    | zero =>
      intro n hn
      refine ⟨0, Ev.step (f := fun _ => some _) (fun k => ?_) (Ev.now _), fun j h1 h2 => by omega⟩
      simp only [Em.l0]
      rw [if_neg (by omega)]
    | succ d ih =>
      intro n hn
      have hn2 : n < l.length := by omega
      by_cases c : l[n].toList = x.toList
      · refine ⟨(n : Int), Ev.step (f := fun _ => some _) (fun k => ?_) (Ev.now _), fun j h1 h2 h3 h4 => ?_⟩
        · simp only [Em.l0]
          rw [if_pos (by omega), if_pos (by omega), rdW l n hn2, if_pos c]
        · by_cases e : j = n
          · rw [e]
          · exact absurd (B_inj (by rw [Hy, Hy] at c; exact c)) (h4 n (Nat.le_refl _) (by omega))
      · obtain ⟨r, h1, h2⟩ := ih (n + 1) (by omega)
        refine ⟨r, Ev.step (fun k => ?_) h1, fun j q1 q2 q3 q4 => ?_⟩
        · simp only [Em.l0]
          rw [if_pos (by omega), if_pos (by omega), rdW l n hn2, if_neg c, wrap_succ (by omega)]
        · by_cases e : j = n
          · subst e; exact absurd (by rw [q3]) c
          · exact h2 j (by omega) q2 q3 (fun i hi hij => q4 i (by omega) hij)
  obtain ⟨r, h1, h2⟩ := key (l.length - 1) 1 (by omega)
  exact ⟨r, Ev.congr (fun k => rfl) h1, h2⟩
end Go.Proofs.YtpalafegcndccaaDoor.X

namespace Go.Proofs.YtpalafegcndccaaDoor.X
open Go.RowKit Go.Proofs.YtpalafegcndccaaDoorW.PrintWords Go.Proofs.YtpalafegcndccaaDoorL
def isD (b : UInt8) : Prop := 48 ≤ b.toNat ∧ b.toNat ≤ 57
theorem digit_ofNat (d : Nat) (h : d < 10) : (UInt8.ofNat (48 + d)).toNat = 48 + d := by simp; omega
theorem dd_range : ∀ (m u : Nat), u ≤ m → ∀ b ∈ Lib.decDigits u, isD b := by
  intro m
  have one : ∀ d : Nat, d < 10 → isD (UInt8.ofNat (48 + d)) := by
    intro d hd
    have := digit_ofNat d hd
    unfold isD; omega
  induction m with
  | zero =>
    intro u hu b hb
    rw [Lib.decDigits, dif_pos (by omega)] at hb
    simp only [List.mem_singleton] at hb
    subst hb; exact one u (by omega)
  | succ m ih =>
    intro u hu b hb
    by_cases c : u < 10
    · rw [Lib.decDigits, dif_pos c] at hb
      simp only [List.mem_singleton] at hb
      subst hb; exact one u c
    · rw [Lib.decDigits.eq_1 u, dif_neg c] at hb
      rcases List.mem_append.1 hb with hb | hb
      · exact ih (u / 10) (by omega) b hb
      · simp only [List.mem_singleton] at hb
        subst hb; exact one _ (by omega)
@[irreducible] def push (a : Nat) (b : UInt8) : Nat := a * 10 + (b.toNat - 48)
theorem push_eq (a : Nat) (b : UInt8) : push a b = a * 10 + (b.toNat - 48) := by unfold push; rfl
def val (a : Nat) (l : List UInt8) : Nat := l.foldl push a
theorem val_nil (a : Nat) : val a [] = a := rfl
theorem val_cons (a : Nat) (b : UInt8) (l : List UInt8) : val a (b :: l) = val (a * 10 + (b.toNat - 48)) l := by rw [← push_eq]; rfl
theorem val_snoc (b : UInt8) (l : List UInt8) (a : Nat) : val a (l ++ [b]) = val a l * 10 + (b.toNat - 48) := by rw [← push_eq]; unfold val; rw [List.foldl_append]; rfl
theorem val_ge : ∀ (l : List UInt8) (a : Nat), a ≤ val a l
  | [], a => by rw [val_nil]; exact Nat.le_refl _
  | b :: l, a => by have := val_ge l (a * 10 + (b.toNat - 48)); rw [val_cons]; omega
theorem val_dd : ∀ (m u : Nat), u ≤ m → val 0 (Lib.decDigits u) = u := by
  intro m
  induction m with
  | zero =>
    intro u hu
    obtain rfl : u = 0 := by omega
    rw [Lib.decDigits, dif_pos (by omega)]
    rw [val_cons, val_nil, digit_ofNat 0 (by omega)]
  | succ m ih =>
    intro u hu
    by_cases c : u < 10
    · rw [Lib.decDigits, dif_pos c]; rw [val_cons, val_nil, digit_ofNat u c]; omega
    · rw [Lib.decDigits.eq_1 u, dif_neg c, val_snoc, ih (u / 10) (by omega), digit_ofNat _ (by omega)]; omega
theorem val_lt : ∀ (l : List UInt8) (a n : Nat), (∀ b ∈ l, isD b) → a < 10 ^ n → val a l < 10 ^ (n + l.length)
  | [], a, n, _, h => by rw [val_nil]; exact h
  | b :: l, a, n, hl, h => by
    have hb := hl b (by simp)
    unfold isD at hb
    rw [val_cons, List.length_cons, show n + (l.length + 1) = (n + 1) + l.length from by omega]
    exact val_lt l _ (n + 1) (fun x hx => hl x (by simp [hx])) (by rw [Nat.pow_succ]; omega)
theorem dd_ne (u : Nat) : Lib.decDigits u ≠ [] := by
  rw [Lib.decDigits]; split <;> simp
theorem dd_len : ∀ (n u : Nat), 1 ≤ n → u < 10 ^ n → (Lib.decDigits u).length ≤ n := by
  intro n
  induction n with
  | zero => intro u h; omega
  | succ n ih =>
    intro u _ h
    rw [Lib.decDigits]
    by_cases c : u < 10
    · rw [dif_pos c]; simp
    · rw [dif_neg c, List.length_append]
      have : 1 ≤ n := by
        rcases Nat.eq_zero_or_pos n with rfl | h2
        · simp at h; omega
        · exact h2
      have := ih (u / 10) this (by rw [Nat.pow_succ] at h; omega)
      simp; omega
theorem parse10 : ∀ (l : List UInt8) (a : Nat), (∀ b ∈ l, isD b) → val a l < 1000000000 → Lib.parseUint10 a l = .ok (val a l)
  | [], a, _, _ => by rw [val_nil]; rfl
  | b :: l, a, hl, h => by
    have hb := hl b (by simp)
    unfold isD at hb
    rw [val_cons] at h ⊢
    have := val_ge l (a * 10 + (b.toNat - 48))
    rw [Lib.parseUint10, if_pos hb, if_neg (by omega), if_neg (by omega)]
    exact parse10 l _ (fun x hx => hl x (by simp [hx])) h
theorem B_decN (u : Nat) : B (dec (u : Int)) = Lib.decDigits u := by rw [B_dec]; unfold Lib.itoa; rw [if_neg (by omega)]; simp
theorem atoi_dd (u : Nat) (h : u ≤ 999999) : Lib.atoiAll (Lib.decDigits u) = .ok (u : Int) := by
  have hr := dd_range u u (Nat.le_refl _)
  have hv := val_dd u u (Nat.le_refl _)
  cases e : Lib.decDigits u with
  | nil => exact absurd e (dd_ne u)
  | cons c r =>
    rw [e] at hr hv
    have hc := hr c (by simp)
    unfold isD at hc
    have hp := parse10 (c :: r) 0 hr (by omega)
    unfold Lib.atoiAll
    simp only [if_neg (show ¬ (c.toNat = 43 ∨ c.toNat = 45) by omega)]
    unfold Lib.parseMag
    rw [if_neg (by simp), hp, hv]
    simp only [show ¬ c.toNat = 45 from by omega, false_and, not_false_eq_true, true_and, if_false]
    rw [if_neg (by omega)]
theorem parseInt_dd (u : Nat) (h : u ≤ 999999) : Gt.f (mk (Lib.decDigits u)) = some ((u : Int), true) := by
  have hl := dd_len 6 u (by omega) (by omega)
  unfold Gt.f
  rw [if_pos (by rw [mk_size]; omega), show (mk (Lib.decDigits u)).data.toList = Lib.decDigits u from H6 _, atoi_dd u h]
  simp only [implDec (u : Int) (by omega) (by omega), Option.bind_some]
  rw [if_pos (by omega), if_pos (by rw [Hy, Hy, B_decN, H6])]
/-- ParseInt comes to an end. -/
theorem parseInt_total (w : ByteArray) (h : w.size ≤ 281474976710656) : ∃ v o, Gt.f w = some (v, o) := by
  unfold Gt.f
  rw [if_pos h]
  rcases Lib.atoiAll w.data.toList with v | _ | _
  · dsimp only
    by_cases c : -999999 ≤ v ∧ v ≤ 999999
    · rw [if_pos c, implDec v (by omega) (by omega), Option.bind_some]
      by_cases d : (dec v).toList = w.toList
      · rw [if_pos d]; exact ⟨_, _, rfl⟩
      · rw [if_neg d]; exact ⟨_, _, rfl⟩
    · rw [if_neg c]; exact ⟨_, _, rfl⟩
  · exact ⟨_, _, rfl⟩
  · exact ⟨_, _, rfl⟩
end Go.Proofs.YtpalafegcndccaaDoor.X

