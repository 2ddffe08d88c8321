/- Texts that the proof of the law FnStays leans on, part 5 of 6. -/
import Derived.Deep.Slices
import Derived.ChangeSame
import Derived.ChangeArms
import Derived.DataReads
import Derived.SizedLaws
import Derived.ProofKit
import Derived.Lib.SmallJoins
import Derived.ChangeOld
import Derived.Below
import Derived.Test.YtolaplcjbmjlmaaKFnStays0
import Derived.Test.YtolaplcjbmjlmaaKFnStays1
import Derived.Test.YtolaplcjbmjlmaaKFnStays2
import Derived.Test.YtolaplcjbmjlmaaKFnStays3
set_option linter.unusedVariables false
set_option linter.unusedSimpArgs false
namespace Go.Proofs.Ytolaplcjbmjlmaa.X
open Go.RowKit Go.Proofs.YtolaplcjbmjlmaaW.PrintWords Go.Proofs.YtolaplcjbmjlmaaW.PrintLast Go.Proofs.YtolaplcjbmjlmaaW.PrintMore
attribute [local go_sem] max2_int min2_int max_two min_two max_three min_three max_four min_four
mutual
def Ai.j0 : Nat → List Int → List (S59) → Int → Int → Bool → Int → Int → Bool → Option (Bool)
 | 0, _, _, _, _, _, _, _, _ => none
 | k + 1, x0, x3, x4, x5, x6, x7, x8, x88 => if x88 = true then (some false) else (if x6 = true then (if 0 < (x3.length : Int) then (Ai.l0 k x0 x3 x4 x5 x7 x8 (wrap64 (((Ah x3 0).f1) - ((Ah x3 0).f0))) (wrap64 (((Ah x3 0).f1) - ((Ah x3 0).f0))) 0) else (none)) else (Ai.j2 k x0))
def Ai.j2 : Nat → List Int → Option (Bool)
 | 0, _ => none
 | k + 1, x0 => (Dz.f k x0).bind fun t794 => ((Bj.f k t794).bind fun bt797 => ((Bi.f k t794).bind fun bt801 => (if (bt797.2 != bt801.2) = true then (Ai.j3 k x0 t794 bt797.1 bt797.2 true) else ((Dy.f k bt797.1 bt801.1).bind fun t805 => (Ai.j3 k x0 t794 bt797.1 bt797.2 (!t805))))))
def Ai.j3 : Nat → List Int → List (S59) → List (List Int) → Bool → Bool → Option (Bool)
 | 0, _, _, _, _, _ => none
 | k + 1, x0, x20, x21, x22, x184 => if x184 = true then (some false) else (Ai.l1 k x0 x20 x21 x22 0 0)
def Ai.l1 : Nat → List Int → List (S59) → List (List Int) → Bool → Int → Int → Option (Bool)
 | 0, _, _, _, _, _, _ => none
 | k + 1, x0, x20, x21, x22, x25, x26 => if x26 < (x21.length : Int) then (if 0 ≤ x26 then (if 1 < ((Es x21 x26).length : Int) then (if 2 < ((Es x21 x26).length : Int) then (if (rd (Es x21 x26) 2) = 0 then (none) else (Ai.l1 k x0 x20 x21 x22 (wrap64 (x25 + (wrap64 ((rd (Es x21 x26) 1) * (wrap64 ((x20.length : Int) / (rd (Es x21 x26) 2))))))) (wrap64 (x26 + 1)))) else (none)) else (none)) else (none)) else (if x22 = true then (Ai.j5 k x0 (x25 != (x20.length : Int))) else (Ai.j5 k x0 false))
def Ai.j5 : Nat → List Int → Bool → Option (Bool)
 | 0, _, _ => none
 | k + 1, x0, x215 => if x215 = true then (some false) else ((D7.f k x0).bind fun bt810 => ((impl_LongStays.f k bt810.1 bt810.2).bind fun bt814 => ((Ef.f k bt810.1 bt810.2).bind fun bt818 => (if (bt814.2 == bt818.2) = true then ((Du.f k bt814.1 bt818.1).bind fun t822 => (some t822)) else (some false)))))
def Ai.l0 : Nat → List Int → List (S59) → Int → Int → Int → Int → Int → Int → Int → Option (Bool)
 | 0, _, _, _, _, _, _, _, _, _ => none
 | k + 1, x0, x3, x4, x5, x7, x8, x16, x17, x18 => if x18 < (x3.length : Int) then (if 0 ≤ x18 then (if (wrap64 (((Ah x3 x18).f1) - ((Ah x3 x18).f0))) < x16 then (if (wrap64 (((Ah x3 x18).f1) - ((Ah x3 x18).f0))) > x17 then (Ai.l0 k x0 x3 x4 x5 x7 x8 (wrap64 (((Ah x3 x18).f1) - ((Ah x3 x18).f0))) (wrap64 (((Ah x3 x18).f1) - ((Ah x3 x18).f0))) (wrap64 (x18 + 1))) else (Ai.l0 k x0 x3 x4 x5 x7 x8 (wrap64 (((Ah x3 x18).f1) - ((Ah x3 x18).f0))) x17 (wrap64 (x18 + 1)))) else (if (wrap64 (((Ah x3 x18).f1) - ((Ah x3 x18).f0))) > x17 then (Ai.l0 k x0 x3 x4 x5 x7 x8 x16 (wrap64 (((Ah x3 x18).f1) - ((Ah x3 x18).f0))) (wrap64 (x18 + 1))) else (Ai.l0 k x0 x3 x4 x5 x7 x8 x16 x17 (wrap64 (x18 + 1))))) else (none)) else (if x4 < (wrap64 (x16 * x5)) then (some false) else (if x4 > (wrap64 (x17 * x5)) then (some false) else (if x7 < (wrap64 (x16 * x8)) then (some false) else (if x7 > (wrap64 (x17 * x8)) then (some false) else ((impl_IsValidStays.f x3).bind fun t791 => (if t791 = true then (Ai.j2 k x0) else (some false)))))))
end
def Ai.f (k : Nat) (l0 : List Int) : Option (Bool) := (Ho.f l0).bind fun t771 => (if t771 = true then (some true) else ((D8.f k l0).bind fun t772 => ((Cc.f k t772).bind fun bt775 => ((Ec.f k t772).bind fun bt778 => ((Bl.f k t772).bind fun bt781 => ((Bz.f k t772).bind fun bt784 => (if bt775.1 = bt781.1 then (if bt775.2.1 = bt781.2.1 then (if (bt775.2.2 != bt781.2.2) = true then (Ai.j0 k l0 t772 bt775.1 bt775.2.1 bt775.2.2 bt778.1 bt778.2.1 true) else (if bt778.1 = bt784.1 then (if bt778.2.1 = bt784.2.1 then (Ai.j0 k l0 t772 bt775.1 bt775.2.1 bt775.2.2 bt778.1 bt778.2.1 (bt778.2.2 != bt781.2.2)) else (Ai.j0 k l0 t772 bt775.1 bt775.2.1 bt775.2.2 bt778.1 bt778.2.1 true)) else (Ai.j0 k l0 t772 bt775.1 bt775.2.1 bt775.2.2 bt778.1 bt778.2.1 true))) else (Ai.j0 k l0 t772 bt775.1 bt775.2.1 bt775.2.2 bt778.1 bt778.2.1 true)) else (Ai.j0 k l0 t772 bt775.1 bt775.2.1 bt775.2.2 bt778.1 bt778.2.1 true))))))))
theorem Ai.Dq : ∀ k, (∀ y0 y1 y2 y3 y4 y5 y6 y7, LeO (Ai.j0 k y0 y1 y2 y3 y4 y5 y6 y7) (Ai.j0 (k + 1) y0 y1 y2 y3 y4 y5 y6 y7)) ∧ (∀ y0, LeO (Ai.j2 k y0) (Ai.j2 (k + 1) y0)) ∧ (∀ y0 y1 y2 y3 y4, LeO (Ai.j3 k y0 y1 y2 y3 y4) (Ai.j3 (k + 1) y0 y1 y2 y3 y4)) ∧ (∀ y0 y1 y2 y3 y4 y5, LeO (Ai.l1 k y0 y1 y2 y3 y4 y5) (Ai.l1 (k + 1) y0 y1 y2 y3 y4 y5)) ∧ (∀ y0 y1, LeO (Ai.j5 k y0 y1) (Ai.j5 (k + 1) y0 y1)) ∧ (∀ y0 y1 y2 y3 y4 y5 y6 y7 y8, LeO (Ai.l0 k y0 y1 y2 y3 y4 y5 y6 y7 y8) (Ai.l0 (k + 1) y0 y1 y2 y3 y4 y5 y6 y7 y8))
 | 0 => ⟨fun _ _ _ _ _ _ _ _ r h => by simp [Ai.j0] at h, fun _ r h => by simp [Ai.j2] at h, fun _ _ _ _ _ r h => by simp [Ai.j3] at h, fun _ _ _ _ _ _ r h => by simp [Ai.l1] at h, fun _ _ r h => by simp [Ai.j5] at h, fun _ _ _ _ _ _ _ _ _ r h => by simp [Ai.l0] at h⟩
 | k + 1 => by
  obtain ⟨ih0, ih1, ih2, ih3, ih4, ih5⟩ := Ai.Dq k
  refine ⟨?_, ?_, ?_, ?_, ?_, ?_⟩
  ·intro y0 y1 y2 y3 y4 y5 y6 y7
   unfold Ai.j0
   repeat' first
   | (with_reducible exact ih0 _ _ _ _ _ _ _ _)
   | (with_reducible exact ih1 _)
   | (with_reducible exact ih2 _ _ _ _ _)
   | (with_reducible exact ih3 _ _ _ _ _ _)
   | (with_reducible exact ih4 _ _)
   | (with_reducible exact ih5 _ _ _ _ _ _ _ _ _)
   | (with_reducible exact impl_LongStays.mono _ _ _)
   | (with_reducible exact Cc.mono _ _)
   | (with_reducible exact Ec.mono _ _)
   | (with_reducible exact Bj.mono _ _)
   | (with_reducible exact Du.mono _ _ _)
   | (with_reducible exact Dy.mono _ _ _)
   | (with_reducible exact D7.mono _ _)
   | (with_reducible exact D8.mono _ _)
   | (with_reducible exact Dz.mono _ _)
   | (with_reducible exact Ef.mono _ _ _)
   | (with_reducible exact Bl.mono _ _)
   | (with_reducible exact Bz.mono _ _)
   | (with_reducible exact Bi.mono _ _)
   | (with_reducible exact LeO.refl _)
   | (with_reducible exact LeO.none _)
   | (with_reducible refine LeO.ite ?_ ?_)
   | (with_reducible refine LeO.bind ?_ (fun _ => ?_))
   | exact ih0 _ _ _ _ _ _ _ _
   | exact ih1 _
   | exact ih2 _ _ _ _ _
   | exact ih3 _ _ _ _ _ _
   | exact ih4 _ _
   | exact ih5 _ _ _ _ _ _ _ _ _
   | exact impl_LongStays.mono _ _ _
   | exact Cc.mono _ _
   | exact Ec.mono _ _
   | exact Bj.mono _ _
   | exact Du.mono _ _ _
   | exact Dy.mono _ _ _
   | exact D7.mono _ _
   | exact D8.mono _ _
   | exact Dz.mono _ _
   | exact Ef.mono _ _ _
   | exact Bl.mono _ _
   | exact Bz.mono _ _
   | exact Bi.mono _ _
   | exact LeO.none _
   | refine LeO.ite ?_ ?_
   | refine LeO.bind ?_ (fun _ => ?_)
  ·intro y0
   unfold Ai.j2
   repeat' first
   | (with_reducible exact ih0 _ _ _ _ _ _ _ _)
   | (with_reducible exact ih1 _)
   | (with_reducible exact ih2 _ _ _ _ _)
   | (with_reducible exact ih3 _ _ _ _ _ _)
   | (with_reducible exact ih4 _ _)
   | (with_reducible exact ih5 _ _ _ _ _ _ _ _ _)
   | (with_reducible exact impl_LongStays.mono _ _ _)
   | (with_reducible exact Cc.mono _ _)
   | (with_reducible exact Ec.mono _ _)
   | (with_reducible exact Bj.mono _ _)
   | (with_reducible exact Du.mono _ _ _)
   | (with_reducible exact Dy.mono _ _ _)
   | (with_reducible exact D7.mono _ _)
   | (with_reducible exact D8.mono _ _)
   | (with_reducible exact Dz.mono _ _)
   | (with_reducible exact Ef.mono _ _ _)
   | (with_reducible exact Bl.mono _ _)
   | (with_reducible exact Bz.mono _ _)
   | (with_reducible exact Bi.mono _ _)
   | (with_reducible exact LeO.refl _)
   | (with_reducible exact LeO.none _)
   | (with_reducible refine LeO.ite ?_ ?_)
   | (with_reducible refine LeO.bind ?_ (fun _ => ?_))
   | exact ih0 _ _ _ _ _ _ _ _
   | exact ih1 _
   | exact ih2 _ _ _ _ _
   | exact ih3 _ _ _ _ _ _
   | exact ih4 _ _
   | exact ih5 _ _ _ _ _ _ _ _ _
   | exact impl_LongStays.mono _ _ _
   | exact Cc.mono _ _
   | exact Ec.mono _ _
   | exact Bj.mono _ _
   | exact Du.mono _ _ _
   | exact Dy.mono _ _ _
   | exact D7.mono _ _
   | exact D8.mono _ _
   | exact Dz.mono _ _
   | exact Ef.mono _ _ _
   | exact Bl.mono _ _
   | exact Bz.mono _ _
   | exact Bi.mono _ _
   | exact LeO.none _
   | refine LeO.ite ?_ ?_
   | refine LeO.bind ?_ (fun _ => ?_)
  ·intro y0 y1 y2 y3 y4
   unfold Ai.j3
   repeat' first
   | (with_reducible exact ih0 _ _ _ _ _ _ _ _)
   | (with_reducible exact ih1 _)
   | (with_reducible exact ih2 _ _ _ _ _)
   | (with_reducible exact ih3 _ _ _ _ _ _)
   | (with_reducible exact ih4 _ _)
   | (with_reducible exact ih5 _ _ _ _ _ _ _ _ _)
   | (with_reducible exact impl_LongStays.mono _ _ _)
   | (with_reducible exact Cc.mono _ _)
   | (with_reducible exact Ec.mono _ _)
   | (with_reducible exact Bj.mono _ _)
   | (with_reducible exact Du.mono _ _ _)
   | (with_reducible exact Dy.mono _ _ _)
   | (with_reducible exact D7.mono _ _)
   | (with_reducible exact D8.mono _ _)
   | (with_reducible exact Dz.mono _ _)
   | (with_reducible exact Ef.mono _ _ _)
   | (with_reducible exact Bl.mono _ _)
   | (with_reducible exact Bz.mono _ _)
   | (with_reducible exact Bi.mono _ _)
   | (with_reducible exact LeO.refl _)
   | (with_reducible exact LeO.none _)
   | (with_reducible refine LeO.ite ?_ ?_)
   | (with_reducible refine LeO.bind ?_ (fun _ => ?_))
   | exact ih0 _ _ _ _ _ _ _ _
   | exact ih1 _
   | exact ih2 _ _ _ _ _
   | exact ih3 _ _ _ _ _ _
   | exact ih4 _ _
   | exact ih5 _ _ _ _ _ _ _ _ _
   | exact impl_LongStays.mono _ _ _
   | exact Cc.mono _ _
   | exact Ec.mono _ _
   | exact Bj.mono _ _
   | exact Du.mono _ _ _
   | exact Dy.mono _ _ _
   | exact D7.mono _ _
   | exact D8.mono _ _
   | exact Dz.mono _ _
   | exact Ef.mono _ _ _
   | exact Bl.mono _ _
   | exact Bz.mono _ _
   | exact Bi.mono _ _
   | exact LeO.none _
   | refine LeO.ite ?_ ?_
   | refine LeO.bind ?_ (fun _ => ?_)
  ·intro y0 y1 y2 y3 y4 y5
   unfold Ai.l1
   repeat' first
   | (with_reducible exact ih0 _ _ _ _ _ _ _ _)
   | (with_reducible exact ih1 _)
   | (with_reducible exact ih2 _ _ _ _ _)
   | (with_reducible exact ih3 _ _ _ _ _ _)
   | (with_reducible exact ih4 _ _)
   | (with_reducible exact ih5 _ _ _ _ _ _ _ _ _)
   | (with_reducible exact impl_LongStays.mono _ _ _)
   | (with_reducible exact Cc.mono _ _)
   | (with_reducible exact Ec.mono _ _)
   | (with_reducible exact Bj.mono _ _)
   | (with_reducible exact Du.mono _ _ _)
   | (with_reducible exact Dy.mono _ _ _)
   | (with_reducible exact D7.mono _ _)
   | (with_reducible exact D8.mono _ _)
   | (with_reducible exact Dz.mono _ _)
   | (with_reducible exact Ef.mono _ _ _)
   | (with_reducible exact Bl.mono _ _)
   | (with_reducible exact Bz.mono _ _)
   | (with_reducible exact Bi.mono _ _)
   | (with_reducible exact LeO.refl _)
   | (with_reducible exact LeO.none _)
   | (with_reducible refine LeO.ite ?_ ?_)
   | (with_reducible refine LeO.bind ?_ (fun _ => ?_))
   | exact ih0 _ _ _ _ _ _ _ _
   | exact ih1 _
   | exact ih2 _ _ _ _ _
   | exact ih3 _ _ _ _ _ _
   | exact ih4 _ _
   | exact ih5 _ _ _ _ _ _ _ _ _
   | exact impl_LongStays.mono _ _ _
   | exact Cc.mono _ _
   | exact Ec.mono _ _
   | exact Bj.mono _ _
   | exact Du.mono _ _ _
   | exact Dy.mono _ _ _
   | exact D7.mono _ _
   | exact D8.mono _ _
   | exact Dz.mono _ _
   | exact Ef.mono _ _ _
   | exact Bl.mono _ _
   | exact Bz.mono _ _
   | exact Bi.mono _ _
   | exact LeO.none _
   | refine LeO.ite ?_ ?_
   | refine LeO.bind ?_ (fun _ => ?_)
  ·intro y0 y1
   unfold Ai.j5
   repeat' first
   | (with_reducible exact ih0 _ _ _ _ _ _ _ _)
   | (with_reducible exact ih1 _)
   | (with_reducible exact ih2 _ _ _ _ _)
   | (with_reducible exact ih3 _ _ _ _ _ _)
   | (with_reducible exact ih4 _ _)
   | (with_reducible exact ih5 _ _ _ _ _ _ _ _ _)
   | (with_reducible exact impl_LongStays.mono _ _ _)
   | (with_reducible exact Cc.mono _ _)
   | (with_reducible exact Ec.mono _ _)
   | (with_reducible exact Bj.mono _ _)
   | (with_reducible exact Du.mono _ _ _)
   | (with_reducible exact Dy.mono _ _ _)
   | (with_reducible exact D7.mono _ _)
   | (with_reducible exact D8.mono _ _)
   | (with_reducible exact Dz.mono _ _)
   | (with_reducible exact Ef.mono _ _ _)
   | (with_reducible exact Bl.mono _ _)
   | (with_reducible exact Bz.mono _ _)
   | (with_reducible exact Bi.mono _ _)
   | (with_reducible exact LeO.refl _)
   | (with_reducible exact LeO.none _)
   | (with_reducible refine LeO.ite ?_ ?_)
   | (with_reducible refine LeO.bind ?_ (fun _ => ?_))
   | exact ih0 _ _ _ _ _ _ _ _
   | exact ih1 _
   | exact ih2 _ _ _ _ _
   | exact ih3 _ _ _ _ _ _
   | exact ih4 _ _
   | exact ih5 _ _ _ _ _ _ _ _ _
   | exact impl_LongStays.mono _ _ _
   | exact Cc.mono _ _
   | exact Ec.mono _ _
   | exact Bj.mono _ _
   | exact Du.mono _ _ _
   | exact Dy.mono _ _ _
   | exact D7.mono _ _
   | exact D8.mono _ _
   | exact Dz.mono _ _
   | exact Ef.mono _ _ _
   | exact Bl.mono _ _
   | exact Bz.mono _ _
   | exact Bi.mono _ _
   | exact LeO.none _
   | refine LeO.ite ?_ ?_
   | refine LeO.bind ?_ (fun _ => ?_)
  ·intro y0 y1 y2 y3 y4 y5 y6 y7 y8
   unfold Ai.l0
   repeat' first
   | (with_reducible exact ih0 _ _ _ _ _ _ _ _)
   | (with_reducible exact ih1 _)
   | (with_reducible exact ih2 _ _ _ _ _)
   | (with_reducible exact ih3 _ _ _ _ _ _)
   | (with_reducible exact ih4 _ _)
   | (with_reducible exact ih5 _ _ _ _ _ _ _ _ _)
   | (with_reducible exact impl_LongStays.mono _ _ _)
   | (with_reducible exact Cc.mono _ _)
   | (with_reducible exact Ec.mono _ _)
   | (with_reducible exact Bj.mono _ _)
   | (with_reducible exact Du.mono _ _ _)
   | (with_reducible exact Dy.mono _ _ _)
   | (with_reducible exact D7.mono _ _)
   | (with_reducible exact D8.mono _ _)
   | (with_reducible exact Dz.mono _ _)
   | (with_reducible exact Ef.mono _ _ _)
   | (with_reducible exact Bl.mono _ _)
   | (with_reducible exact Bz.mono _ _)
   | (with_reducible exact Bi.mono _ _)
   | (with_reducible exact LeO.refl _)
   | (with_reducible exact LeO.none _)
   | (with_reducible refine LeO.ite ?_ ?_)
   | (with_reducible refine LeO.bind ?_ (fun _ => ?_))
   | exact ih0 _ _ _ _ _ _ _ _
   | exact ih1 _
   | exact ih2 _ _ _ _ _
   | exact ih3 _ _ _ _ _ _
   | exact ih4 _ _
   | exact ih5 _ _ _ _ _ _ _ _ _
   | exact impl_LongStays.mono _ _ _
   | exact Cc.mono _ _
   | exact Ec.mono _ _
   | exact Bj.mono _ _
   | exact Du.mono _ _ _
   | exact Dy.mono _ _ _
   | exact D7.mono _ _
   | exact D8.mono _ _
   | exact Dz.mono _ _
   | exact Ef.mono _ _ _
   | exact Bl.mono _ _
   | exact Bz.mono _ _
   | exact Bi.mono _ _
   | exact LeO.none _
   | refine LeO.ite ?_ ?_
   | refine LeO.bind ?_ (fun _ => ?_)
theorem Ai.mono : ∀ a0 k, LeO (Ai.f k a0) (Ai.f (k + 1) a0) := by
 intro a0 k
 obtain ⟨ih0, ih1, ih2, ih3, ih4, ih5⟩ := Ai.Dq k
 unfold Ai.f
 repeat' first
   | (with_reducible exact ih0 _ _ _ _ _ _ _ _)
   | (with_reducible exact ih1 _)
   | (with_reducible exact ih2 _ _ _ _ _)
   | (with_reducible exact ih3 _ _ _ _ _ _)
   | (with_reducible exact ih4 _ _)
   | (with_reducible exact ih5 _ _ _ _ _ _ _ _ _)
   | (with_reducible exact impl_LongStays.mono _ _ _)
   | (with_reducible exact Cc.mono _ _)
   | (with_reducible exact Ec.mono _ _)
   | (with_reducible exact Bj.mono _ _)
   | (with_reducible exact Du.mono _ _ _)
   | (with_reducible exact Dy.mono _ _ _)
   | (with_reducible exact D7.mono _ _)
   | (with_reducible exact D8.mono _ _)
   | (with_reducible exact Dz.mono _ _)
   | (with_reducible exact Ef.mono _ _ _)
   | (with_reducible exact Bl.mono _ _)
   | (with_reducible exact Bz.mono _ _)
   | (with_reducible exact Bi.mono _ _)
   | (with_reducible exact LeO.refl _)
   | (with_reducible exact LeO.none _)
   | (with_reducible refine LeO.ite ?_ ?_)
   | (with_reducible refine LeO.bind ?_ (fun _ => ?_))
   | exact ih0 _ _ _ _ _ _ _ _
   | exact ih1 _
   | exact ih2 _ _ _ _ _
   | exact ih3 _ _ _ _ _ _
   | exact ih4 _ _
   | exact ih5 _ _ _ _ _ _ _ _ _
   | exact impl_LongStays.mono _ _ _
   | exact Cc.mono _ _
   | exact Ec.mono _ _
   | exact Bj.mono _ _
   | exact Du.mono _ _ _
   | exact Dy.mono _ _ _
   | exact D7.mono _ _
   | exact D8.mono _ _
   | exact Dz.mono _ _
   | exact Ef.mono _ _ _
   | exact Bl.mono _ _
   | exact Bz.mono _ _
   | exact Bi.mono _ _
   | exact LeO.none _
   | refine LeO.ite ?_ ?_
   | refine LeO.bind ?_ (fun _ => ?_)
set_option maxHeartbeats 8000000 in
set_option maxRecDepth 100000 in
theorem Ai.calls (k : Nat) (A0 : Option Addr) (c0 : Nat) (l0 : List Int) (r : Bool) (w : World) (hr0 : Kd.C (Kd.int .u8) w A0 l0.length l0) (hc0 : l0.length ≤ c0) (h : Ai.f k l0 = some r) (hr_ : r = true) :
  Calls Try.prog 13 #[.slice A0 l0.length c0] w fun e w' => e = .returned (.bool r) ∧ Below w.heap.size w w' := by
 have HR_ := Aside0.mk hr_
 clear hr_
 have HR0 := Aside0.mk hr0
 have HC0 := Aside0.mk hc0
 clear hr0 hc0
 have HB := Aside0.mk (Below.refl w.heap.size w)
 have H : ((Ho.f l0).bind fun t771 => (if t771 = true then (some true) else ((D8.f k l0).bind fun t772 => ((Cc.f k t772).bind fun bt775 => ((Ec.f k t772).bind fun bt778 => ((Bl.f k t772).bind fun bt781 => ((Bz.f k t772).bind fun bt784 => (if bt775.1 = bt781.1 then (if bt775.2.1 = bt781.2.1 then (if (bt775.2.2 != bt781.2.2) = true then (Ai.j0 k l0 t772 bt775.1 bt775.2.1 bt775.2.2 bt778.1 bt778.2.1 true) else (if bt778.1 = bt784.1 then (if bt778.2.1 = bt784.2.1 then (Ai.j0 k l0 t772 bt775.1 bt775.2.1 bt775.2.2 bt778.1 bt778.2.1 (bt778.2.2 != bt781.2.2)) else (Ai.j0 k l0 t772 bt775.1 bt775.2.1 bt775.2.2 bt778.1 bt778.2.1 true)) else (Ai.j0 k l0 t772 bt775.1 bt775.2.1 bt775.2.2 bt778.1 bt778.2.1 true))) else (Ai.j0 k l0 t772 bt775.1 bt775.2.1 bt775.2.2 bt778.1 bt778.2.1 true)) else (Ai.j0 k l0 t772 bt775.1 bt775.2.1 bt775.2.2 bt778.1 bt778.2.1 true))))))))) = some r := h
 clear h
 replace H := Option.bind_eq_some_iff.mp H
 obtain ⟨t771, A20, H⟩ := H
 replace H : (if t771 = true then (some true) else ((D8.f k l0).bind fun t772 => ((Cc.f k t772).bind fun bt775 => ((Ec.f k t772).bind fun bt778 => ((Bl.f k t772).bind fun bt781 => ((Bz.f k t772).bind fun bt784 => (if bt775.1 = bt781.1 then (if bt775.2.1 = bt781.2.1 then (if (bt775.2.2 != bt781.2.2) = true then (Ai.j0 k l0 t772 bt775.1 bt775.2.1 bt775.2.2 bt778.1 bt778.2.1 true) else (if bt778.1 = bt784.1 then (if bt778.2.1 = bt784.2.1 then (Ai.j0 k l0 t772 bt775.1 bt775.2.1 bt775.2.2 bt778.1 bt778.2.1 (bt778.2.2 != bt781.2.2)) else (Ai.j0 k l0 t772 bt775.1 bt775.2.1 bt775.2.2 bt778.1 bt778.2.1 true)) else (Ai.j0 k l0 t772 bt775.1 bt775.2.1 bt775.2.2 bt778.1 bt778.2.1 true))) else (Ai.j0 k l0 t772 bt775.1 bt775.2.1 bt775.2.2 bt778.1 bt778.2.1 true)) else (Ai.j0 k l0 t772 bt775.1 bt775.2.1 bt775.2.2 bt778.1 bt778.2.1 true)))))))) = some r := H
 have A2 := Aside0.mk A20
 clear A20
 by_cases c3 : t771 = true
 ·subst c3
  have H1 : (some true) = some r := by rw [if_pos rfl] at H; exact H
  clear H
  have H := H1
  clear H1
  obtain rfl := Option.some.inj H
  go_enter Try.func13, Try.ntmps13
  go_wp2_with (first | (go_at_call 35; (with_reducible refine (Ho.calls _ _ l0 true _ ?side1 ?side2 A2.out).mono ?_); (case side1 => repeat (first | exact HR0.out | (with_reducible refine Kd.Be ?_ _) | (with_reducible refine Kd.Bf ?_ _) | (with_reducible refine Kd.Bh ?_))); (case side2 => exact HC0.out); rintro e w' ⟨rfl, ⟨nd, rfl⟩⟩; (try first | exact ⟨rfl, _, World.drewN_drewN _ _ _⟩ | exact ⟨rfl, _, Eq.trans (World.drewN_drewN _ _ _) (congrArg (World.drewN _) (Nat.add_assoc _ _ _))⟩)))
  repeat (go_quiet (first | (go_at_call 35; (with_reducible refine (Ho.calls _ _ l0 true _ ?side1 ?side2 A2.out).mono ?_); (case side1 => repeat (first | exact HR0.out | (with_reducible refine Kd.Be ?_ _) | (with_reducible refine Kd.Bf ?_ _) | (with_reducible refine Kd.Bh ?_))); (case side2 => exact HC0.out); rintro e w' ⟨rfl, ⟨nd, rfl⟩⟩; (try first | exact ⟨rfl, _, World.drewN_drewN _ _ _⟩ | exact ⟨rfl, _, Eq.trans (World.drewN_drewN _ _ _) (congrArg (World.drewN _) (Nat.add_assoc _ _ _))⟩))); try go_wp2_with (first | (go_at_call 35; (with_reducible refine (Ho.calls _ _ l0 true _ ?side1 ?side2 A2.out).mono ?_); (case side1 => repeat (first | exact HR0.out | (with_reducible refine Kd.Be ?_ _) | (with_reducible refine Kd.Bf ?_ _) | (with_reducible refine Kd.Bh ?_))); (case side2 => exact HC0.out); rintro e w' ⟨rfl, ⟨nd, rfl⟩⟩; (try first | exact ⟨rfl, _, World.drewN_drewN _ _ _⟩ | exact ⟨rfl, _, Eq.trans (World.drewN_drewN _ _ _) (congrArg (World.drewN _) (Nat.add_assoc _ _ _))⟩))))
  go_ret
  exact ⟨by first | rfl | (simp [Aw, Az] <;> rfl) | (simp [*, Aw, Az] <;> rfl), by repeat (first | (with_reducible first | exact HB.out | apply Af | apply Ad | apply Ae) | exact HB.out)⟩
 ·replace c3 := Bool.eq_false_iff.mpr c3
  subst c3
  have H1 : ((D8.f k l0).bind fun t772 => ((Cc.f k t772).bind fun bt775 => ((Ec.f k t772).bind fun bt778 => ((Bl.f k t772).bind fun bt781 => ((Bz.f k t772).bind fun bt784 => (if bt775.1 = bt781.1 then (if bt775.2.1 = bt781.2.1 then (if (bt775.2.2 != bt781.2.2) = true then (Ai.j0 k l0 t772 bt775.1 bt775.2.1 bt775.2.2 bt778.1 bt778.2.1 true) else (if bt778.1 = bt784.1 then (if bt778.2.1 = bt784.2.1 then (Ai.j0 k l0 t772 bt775.1 bt775.2.1 bt775.2.2 bt778.1 bt778.2.1 (bt778.2.2 != bt781.2.2)) else (Ai.j0 k l0 t772 bt775.1 bt775.2.1 bt775.2.2 bt778.1 bt778.2.1 true)) else (Ai.j0 k l0 t772 bt775.1 bt775.2.1 bt775.2.2 bt778.1 bt778.2.1 true))) else (Ai.j0 k l0 t772 bt775.1 bt775.2.1 bt775.2.2 bt778.1 bt778.2.1 true)) else (Ai.j0 k l0 t772 bt775.1 bt775.2.1 bt775.2.2 bt778.1 bt778.2.1 true))))))) = some r := by rw [if_neg (show ¬ (false = true) by decide)] at H; exact H
  clear H
  have H := H1
  clear H1
  replace H := Option.bind_eq_some_iff.mp H
  obtain ⟨t772, A40, H⟩ := H
  replace H : ((Cc.f k t772).bind fun bt775 => ((Ec.f k t772).bind fun bt778 => ((Bl.f k t772).bind fun bt781 => ((Bz.f k t772).bind fun bt784 => (if bt775.1 = bt781.1 then (if bt775.2.1 = bt781.2.1 then (if (bt775.2.2 != bt781.2.2) = true then (Ai.j0 k l0 t772 bt775.1 bt775.2.1 bt775.2.2 bt778.1 bt778.2.1 true) else (if bt778.1 = bt784.1 then (if bt778.2.1 = bt784.2.1 then (Ai.j0 k l0 t772 bt775.1 bt775.2.1 bt775.2.2 bt778.1 bt778.2.1 (bt778.2.2 != bt781.2.2)) else (Ai.j0 k l0 t772 bt775.1 bt775.2.1 bt775.2.2 bt778.1 bt778.2.1 true)) else (Ai.j0 k l0 t772 bt775.1 bt775.2.1 bt775.2.2 bt778.1 bt778.2.1 true))) else (Ai.j0 k l0 t772 bt775.1 bt775.2.1 bt775.2.2 bt778.1 bt778.2.1 true)) else (Ai.j0 k l0 t772 bt775.1 bt775.2.1 bt775.2.2 bt778.1 bt778.2.1 true)))))) = some r := H
  have A4 := Aside0.mk A40
  clear A40
  replace H := Option.bind_eq_some_iff.mp H
  obtain ⟨⟨t775, t776, t777⟩, A50, H⟩ := H
  replace H : ((Ec.f k t772).bind fun bt778 => ((Bl.f k t772).bind fun bt781 => ((Bz.f k t772).bind fun bt784 => (if t775 = bt781.1 then (if t776 = bt781.2.1 then (if (t777 != bt781.2.2) = true then (Ai.j0 k l0 t772 t775 t776 t777 bt778.1 bt778.2.1 true) else (if bt778.1 = bt784.1 then (if bt778.2.1 = bt784.2.1 then (Ai.j0 k l0 t772 t775 t776 t777 bt778.1 bt778.2.1 (bt778.2.2 != bt781.2.2)) else (Ai.j0 k l0 t772 t775 t776 t777 bt778.1 bt778.2.1 true)) else (Ai.j0 k l0 t772 t775 t776 t777 bt778.1 bt778.2.1 true))) else (Ai.j0 k l0 t772 t775 t776 t777 bt778.1 bt778.2.1 true)) else (Ai.j0 k l0 t772 t775 t776 t777 bt778.1 bt778.2.1 true))))) = some r := H
  have A5 := Aside0.mk A50
  clear A50
  replace H := Option.bind_eq_some_iff.mp H
  obtain ⟨⟨t778, t779, t780⟩, A60, H⟩ := H
  replace H : ((Bl.f k t772).bind fun bt781 => ((Bz.f k t772).bind fun bt784 => (if t775 = bt781.1 then (if t776 = bt781.2.1 then (if (t777 != bt781.2.2) = true then (Ai.j0 k l0 t772 t775 t776 t777 t778 t779 true) else (if t778 = bt784.1 then (if t779 = bt784.2.1 then (Ai.j0 k l0 t772 t775 t776 t777 t778 t779 (t780 != bt781.2.2)) else (Ai.j0 k l0 t772 t775 t776 t777 t778 t779 true)) else (Ai.j0 k l0 t772 t775 t776 t777 t778 t779 true))) else (Ai.j0 k l0 t772 t775 t776 t777 t778 t779 true)) else (Ai.j0 k l0 t772 t775 t776 t777 t778 t779 true)))) = some r := H
  have A6 := Aside0.mk A60
  clear A60
  replace H := Option.bind_eq_some_iff.mp H
  obtain ⟨⟨t781, t782, t783⟩, A70, H⟩ := H
  replace H : ((Bz.f k t772).bind fun bt784 => (if t775 = t781 then (if t776 = t782 then (if (t777 != t783) = true then (Ai.j0 k l0 t772 t775 t776 t777 t778 t779 true) else (if t778 = bt784.1 then (if t779 = bt784.2.1 then (Ai.j0 k l0 t772 t775 t776 t777 t778 t779 (t780 != t783)) else (Ai.j0 k l0 t772 t775 t776 t777 t778 t779 true)) else (Ai.j0 k l0 t772 t775 t776 t777 t778 t779 true))) else (Ai.j0 k l0 t772 t775 t776 t777 t778 t779 true)) else (Ai.j0 k l0 t772 t775 t776 t777 t778 t779 true))) = some r := H
  have A7 := Aside0.mk A70
  clear A70
  replace H := Option.bind_eq_some_iff.mp H
  obtain ⟨⟨t784, t785, t786⟩, A80, H⟩ := H
  replace H : (if t775 = t781 then (if t776 = t782 then (if (t777 != t783) = true then (Ai.j0 k l0 t772 t775 t776 t777 t778 t779 true) else (if t778 = t784 then (if t779 = t785 then (Ai.j0 k l0 t772 t775 t776 t777 t778 t779 (t780 != t783)) else (Ai.j0 k l0 t772 t775 t776 t777 t778 t779 true)) else (Ai.j0 k l0 t772 t775 t776 t777 t778 t779 true))) else (Ai.j0 k l0 t772 t775 t776 t777 t778 t779 true)) else (Ai.j0 k l0 t772 t775 t776 t777 t778 t779 true)) = some r := H
  have A8 := Aside0.mk A80
  clear A80
  have HC9 := Aside0.mk H
  clear H
  go_enter Try.func13, Try.ntmps13
  go_upto_region 8 with (first | (go_at_call 35; (with_reducible refine (Ho.calls _ _ l0 false _ ?side1 ?side2 A2.out).mono ?_); (case side1 => repeat (first | exact HR0.out | (with_reducible refine Kd.Be ?_ _) | (with_reducible refine Kd.Bf ?_ _) | (with_reducible refine Kd.Bh ?_))); (case side2 => exact HC0.out); rintro e w' ⟨rfl, ⟨nd, rfl⟩⟩; (try first | exact ⟨rfl, _, World.drewN_drewN _ _ _⟩ | exact ⟨rfl, _, Eq.trans (World.drewN_drewN _ _ _) (congrArg (World.drewN _) (Nat.add_assoc _ _ _))⟩)) | (go_at_call 47; (with_reducible refine (D8.calls k _ _ l0 t772 _ ?side1 ?side2 A4.out).mono ?_); (case side1 => repeat (first | exact HR0.out | (with_reducible refine Kd.Be ?_ _) | (with_reducible refine Kd.Bf ?_ _) | (with_reducible refine Kd.Bh ?_))); (case side2 => exact HC0.out); rintro e w10 ⟨v773, rfl, ho0, hb⟩; have n0_ := Aside0.mk (Kd.R_lower ho0 (below_size Ya_)); have n1_ := Aside0.mk (below_step Ya_ hb); clear HB; have HO774 := n0_; have HB := n1_; clear n0_ n1_; (try clear hb); (try clear hb2); (try clear hk); (try clear hi); (try clear ho0); obtain ⟨Ao11, co11, eo11⟩ := Kd.R_slice HO774.out; subst eo11) | (go_at_call 28; (with_reducible refine (Cc.calls k _ _ t772 t775 t776 t777 _ ?side1 ?side2 A5.out).mono ?_); (case side1 => repeat (first | exact (Kd.R_reads' HO774.out).2.2 | (with_reducible refine Kd.Be ?_ _) | (with_reducible refine Kd.Bf ?_ _) | (with_reducible refine Kd.Bh ?_))); (case side2 => exact (Kd.R_reads' HO774.out).2.1); rintro e w12 ⟨rfl, hb⟩; have n0_ := Aside0.mk (Kd.R_below Ybh_ hb); have n1_ := Aside0.mk (below_step Ya_ hb); clear HO774; clear HB; have HO774 := n0_; have HB := n1_; clear n0_ n1_; (try clear hb); (try clear hb2); (try clear hk); (try clear hi)) | (go_at_call 46; (with_reducible refine (Ec.calls k _ _ t772 t778 t779 t780 _ ?side1 ?side2 A6.out).mono ?_); (case side1 => repeat (first | exact (Kd.R_reads' HO774.out).2.2 | (with_reducible refine Kd.Be ?_ _) | (with_reducible refine Kd.Bf ?_ _) | (with_reducible refine Kd.Bh ?_))); (case side2 => exact (Kd.R_reads' HO774.out).2.1); rintro e w13 ⟨rfl, hb⟩; have n0_ := Aside0.mk (Kd.R_below Ybh_ hb); have n1_ := Aside0.mk (below_step Ya_ hb); clear HO774; clear HB; have HO774 := n0_; have HB := n1_; clear n0_ n1_; (try clear hb); (try clear hb2); (try clear hk); (try clear hi)) | (go_at_call 27; (with_reducible refine (Bl.calls k _ _ t772 t781 t782 t783 _ ?side1 ?side2 A7.out).mono ?_); (case side1 => repeat (first | exact (Kd.R_reads' HO774.out).2.2 | (with_reducible refine Kd.Be ?_ _) | (with_reducible refine Kd.Bf ?_ _) | (with_reducible refine Kd.Bh ?_))); (case side2 => exact (Kd.R_reads' HO774.out).2.1); rintro e w14 ⟨rfl, hb⟩; have n0_ := Aside0.mk (Kd.R_below Ybh_ hb); have n1_ := Aside0.mk (below_step Ya_ hb); clear HO774; clear HB; have HO774 := n0_; have HB := n1_; clear n0_ n1_; (try clear hb); (try clear hb2); (try clear hk); (try clear hi)) | (go_at_call 45; (with_reducible refine (Bz.calls k _ _ t772 t784 t785 t786 _ ?side1 ?side2 A8.out).mono ?_); (case side1 => repeat (first | exact (Kd.R_reads' HO774.out).2.2 | (with_reducible refine Kd.Be ?_ _) | (with_reducible refine Kd.Bf ?_ _) | (with_reducible refine Kd.Bh ?_))); (case side2 => exact (Kd.R_reads' HO774.out).2.1); rintro e w15 ⟨rfl, hb⟩; have n0_ := Aside0.mk (Kd.R_below Ybh_ hb); have n1_ := Aside0.mk (below_step Ya_ hb); clear HO774; clear HB; have HO774 := n0_; have HB := n1_; clear n0_ n1_; (try clear hb); (try clear hb2); (try clear hk); (try clear hi)))
  repeat (go_quiet (first | (go_at_call 35; (with_reducible refine (Ho.calls _ _ l0 false _ ?side1 ?side2 A2.out).mono ?_); (case side1 => repeat (first | exact HR0.out | (with_reducible refine Kd.Be ?_ _) | (with_reducible refine Kd.Bf ?_ _) | (with_reducible refine Kd.Bh ?_))); (case side2 => exact HC0.out); rintro e w' ⟨rfl, ⟨nd, rfl⟩⟩; (try first | exact ⟨rfl, _, World.drewN_drewN _ _ _⟩ | exact ⟨rfl, _, Eq.trans (World.drewN_drewN _ _ _) (congrArg (World.drewN _) (Nat.add_assoc _ _ _))⟩)) | (go_at_call 47; (with_reducible refine (D8.calls k _ _ l0 t772 _ ?side1 ?side2 A4.out).mono ?_); (case side1 => repeat (first | exact HR0.out | (with_reducible refine Kd.Be ?_ _) | (with_reducible refine Kd.Bf ?_ _) | (with_reducible refine Kd.Bh ?_))); (case side2 => exact HC0.out); rintro e w10 ⟨v773, rfl, ho0, hb⟩; have n0_ := Aside0.mk (Kd.R_lower ho0 (below_size Ya_)); have n1_ := Aside0.mk (below_step Ya_ hb); clear HB; have HO774 := n0_; have HB := n1_; clear n0_ n1_; (try clear hb); (try clear hb2); (try clear hk); (try clear hi); (try clear ho0); obtain ⟨Ao11, co11, eo11⟩ := Kd.R_slice HO774.out; subst eo11) | (go_at_call 28; (with_reducible refine (Cc.calls k _ _ t772 t775 t776 t777 _ ?side1 ?side2 A5.out).mono ?_); (case side1 => repeat (first | exact (Kd.R_reads' HO774.out).2.2 | (with_reducible refine Kd.Be ?_ _) | (with_reducible refine Kd.Bf ?_ _) | (with_reducible refine Kd.Bh ?_))); (case side2 => exact (Kd.R_reads' HO774.out).2.1); rintro e w12 ⟨rfl, hb⟩; have n0_ := Aside0.mk (Kd.R_below Ybh_ hb); have n1_ := Aside0.mk (below_step Ya_ hb); clear HO774; clear HB; have HO774 := n0_; have HB := n1_; clear n0_ n1_; (try clear hb); (try clear hb2); (try clear hk); (try clear hi)) | (go_at_call 46; (with_reducible refine (Ec.calls k _ _ t772 t778 t779 t780 _ ?side1 ?side2 A6.out).mono ?_); (case side1 => repeat (first | exact (Kd.R_reads' HO774.out).2.2 | (with_reducible refine Kd.Be ?_ _) | (with_reducible refine Kd.Bf ?_ _) | (with_reducible refine Kd.Bh ?_))); (case side2 => exact (Kd.R_reads' HO774.out).2.1); rintro e w13 ⟨rfl, hb⟩; have n0_ := Aside0.mk (Kd.R_below Ybh_ hb); have n1_ := Aside0.mk (below_step Ya_ hb); clear HO774; clear HB; have HO774 := n0_; have HB := n1_; clear n0_ n1_; (try clear hb); (try clear hb2); (try clear hk); (try clear hi)) | (go_at_call 27; (with_reducible refine (Bl.calls k _ _ t772 t781 t782 t783 _ ?side1 ?side2 A7.out).mono ?_); (case side1 => repeat (first | exact (Kd.R_reads' HO774.out).2.2 | (with_reducible refine Kd.Be ?_ _) | (with_reducible refine Kd.Bf ?_ _) | (with_reducible refine Kd.Bh ?_))); (case side2 => exact (Kd.R_reads' HO774.out).2.1); rintro e w14 ⟨rfl, hb⟩; have n0_ := Aside0.mk (Kd.R_below Ybh_ hb); have n1_ := Aside0.mk (below_step Ya_ hb); clear HO774; clear HB; have HO774 := n0_; have HB := n1_; clear n0_ n1_; (try clear hb); (try clear hb2); (try clear hk); (try clear hi)) | (go_at_call 45; (with_reducible refine (Bz.calls k _ _ t772 t784 t785 t786 _ ?side1 ?side2 A8.out).mono ?_); (case side1 => repeat (first | exact (Kd.R_reads' HO774.out).2.2 | (with_reducible refine Kd.Be ?_ _) | (with_reducible refine Kd.Bf ?_ _) | (with_reducible refine Kd.Bh ?_))); (case side2 => exact (Kd.R_reads' HO774.out).2.1); rintro e w15 ⟨rfl, hb⟩; have n0_ := Aside0.mk (Kd.R_below Ybh_ hb); have n1_ := Aside0.mk (below_step Ya_ hb); clear HO774; clear HB; have HO774 := n0_; have HB := n1_; clear n0_ n1_; (try clear hb); (try clear hb2); (try clear hk); (try clear hi))); go_upto_region 8 with (first | (go_at_call 35; (with_reducible refine (Ho.calls _ _ l0 false _ ?side1 ?side2 A2.out).mono ?_); (case side1 => repeat (first | exact HR0.out | (with_reducible refine Kd.Be ?_ _) | (with_reducible refine Kd.Bf ?_ _) | (with_reducible refine Kd.Bh ?_))); (case side2 => exact HC0.out); rintro e w' ⟨rfl, ⟨nd, rfl⟩⟩; (try first | exact ⟨rfl, _, World.drewN_drewN _ _ _⟩ | exact ⟨rfl, _, Eq.trans (World.drewN_drewN _ _ _) (congrArg (World.drewN _) (Nat.add_assoc _ _ _))⟩)) | (go_at_call 47; (with_reducible refine (D8.calls k _ _ l0 t772 _ ?side1 ?side2 A4.out).mono ?_); (case side1 => repeat (first | exact HR0.out | (with_reducible refine Kd.Be ?_ _) | (with_reducible refine Kd.Bf ?_ _) | (with_reducible refine Kd.Bh ?_))); (case side2 => exact HC0.out); rintro e w10 ⟨v773, rfl, ho0, hb⟩; have n0_ := Aside0.mk (Kd.R_lower ho0 (below_size Ya_)); have n1_ := Aside0.mk (below_step Ya_ hb); clear HB; have HO774 := n0_; have HB := n1_; clear n0_ n1_; (try clear hb); (try clear hb2); (try clear hk); (try clear hi); (try clear ho0); obtain ⟨Ao11, co11, eo11⟩ := Kd.R_slice HO774.out; subst eo11) | (go_at_call 28; (with_reducible refine (Cc.calls k _ _ t772 t775 t776 t777 _ ?side1 ?side2 A5.out).mono ?_); (case side1 => repeat (first | exact (Kd.R_reads' HO774.out).2.2 | (with_reducible refine Kd.Be ?_ _) | (with_reducible refine Kd.Bf ?_ _) | (with_reducible refine Kd.Bh ?_))); (case side2 => exact (Kd.R_reads' HO774.out).2.1); rintro e w12 ⟨rfl, hb⟩; have n0_ := Aside0.mk (Kd.R_below Ybh_ hb); have n1_ := Aside0.mk (below_step Ya_ hb); clear HO774; clear HB; have HO774 := n0_; have HB := n1_; clear n0_ n1_; (try clear hb); (try clear hb2); (try clear hk); (try clear hi)) | (go_at_call 46; (with_reducible refine (Ec.calls k _ _ t772 t778 t779 t780 _ ?side1 ?side2 A6.out).mono ?_); (case side1 => repeat (first | exact (Kd.R_reads' HO774.out).2.2 | (with_reducible refine Kd.Be ?_ _) | (with_reducible refine Kd.Bf ?_ _) | (with_reducible refine Kd.Bh ?_))); (case side2 => exact (Kd.R_reads' HO774.out).2.1); rintro e w13 ⟨rfl, hb⟩; have n0_ := Aside0.mk (Kd.R_below Ybh_ hb); have n1_ := Aside0.mk (below_step Ya_ hb); clear HO774; clear HB; have HO774 := n0_; have HB := n1_; clear n0_ n1_; (try clear hb); (try clear hb2); (try clear hk); (try clear hi)) | (go_at_call 27; (with_reducible refine (Bl.calls k _ _ t772 t781 t782 t783 _ ?side1 ?side2 A7.out).mono ?_); (case side1 => repeat (first | exact (Kd.R_reads' HO774.out).2.2 | (with_reducible refine Kd.Be ?_ _) | (with_reducible refine Kd.Bf ?_ _) | (with_reducible refine Kd.Bh ?_))); (case side2 => exact (Kd.R_reads' HO774.out).2.1); rintro e w14 ⟨rfl, hb⟩; have n0_ := Aside0.mk (Kd.R_below Ybh_ hb); have n1_ := Aside0.mk (below_step Ya_ hb); clear HO774; clear HB; have HO774 := n0_; have HB := n1_; clear n0_ n1_; (try clear hb); (try clear hb2); (try clear hk); (try clear hi)) | (go_at_call 45; (with_reducible refine (Bz.calls k _ _ t772 t784 t785 t786 _ ?side1 ?side2 A8.out).mono ?_); (case side1 => repeat (first | exact (Kd.R_reads' HO774.out).2.2 | (with_reducible refine Kd.Be ?_ _) | (with_reducible refine Kd.Bf ?_ _) | (with_reducible refine Kd.Bh ?_))); (case side2 => exact (Kd.R_reads' HO774.out).2.1); rintro e w15 ⟨rfl, hb⟩; have n0_ := Aside0.mk (Kd.R_below Ybh_ hb); have n1_ := Aside0.mk (below_step Ya_ hb); clear HO774; clear HB; have HO774 := n0_; have HB := n1_; clear n0_ n1_; (try clear hb); (try clear hb2); (try clear hk); (try clear hi))))
  (try simp only [Act.put, List.setIfInBounds_toArray, List.set_cons_zero, List.set_cons_succ])
  go_cut [88] (fun v88 wc => ∃ (kq : Nat) (x88_8 : Bool), v88 = .bool x88_8 ∧ Aside0 (Ai.j0 kq l0 t772 t775 t776 t777 t778 t779 x88_8 = some r) ∧ Aside0 (kq ≤ k) ∧ Aside0 (Kd.R k59 59 wc w.heap.size (fun _ => True) (.slice Ao11 t772.length co11) t772) ∧ Aside0 (Below w.heap.size w wc))
  case first =>
   have H := HC9.out
   clear HC9
   by_cases c16 : t775 = t781
   ·rw [if_pos c16] at H
    have c16b0 : (t775 == t781) = true := beq_iff_eq.mpr c16
    have c16b1 : (t775 != t781) = false := bne_eq_false_iff_eq.mpr c16
    clear c16
    (first | rw [c16b0] | (simp only [Aj, Ak]; rw [c16b0]) | skip)
    by_cases c17 : t776 = t782
    ·rw [if_pos c17] at H
     have c17b0 : (t776 == t782) = true := beq_iff_eq.mpr c17
     have c17b1 : (t776 != t782) = false := bne_eq_false_iff_eq.mpr c17
     clear c17
     by_cases c18 : (t777 != t783) = true
     ·rw [if_pos c18] at H
      have c18b0 : (t777 != t783) = true := c18
      (try (have c18b1 : decide (t777 = t783) = false := by simpa using c18))
      (try (have c18b2 : (t777 == t783) = false := by simpa using c18))
      (try (have c18b3 : ¬ (t777 = t783) := by simpa using c18))
      clear c18
      have H' := Aside0.mk H
      clear H
      go_wp2
      repeat (go_quiet (fail); try go_wp2)
      go_meet
      case rel => exact ⟨_, (true), Yd_, H', ⟨by first | omega | exact Nat.le_refl _⟩, ⟨by (with_reducible repeat (first | apply Kd.Ap | apply Kd.Am | apply Kd.Ba)); exact HO774.out⟩, ⟨by repeat (first | (with_reducible first | exact HB.out | apply Af | apply Ad | apply Ae) | exact HB.out)⟩⟩
     ·rw [if_neg c18] at H
      have c18b0 : (t777 != t783) = false := by simpa using c18
      (try (have c18b1 : decide (t777 = t783) = true := by simpa using c18))
      (try (have c18b2 : (t777 == t783) = true := by simpa using c18))
      clear c18
      by_cases c19 : t778 = t784
      ·rw [if_pos c19] at H
       have c19b0 : (t778 == t784) = true := beq_iff_eq.mpr c19
       have c19b1 : (t778 != t784) = false := bne_eq_false_iff_eq.mpr c19
       clear c19
       by_cases c20 : t779 = t785
       ·rw [if_pos c20] at H
        have c20b0 : (t779 == t785) = true := beq_iff_eq.mpr c20
        have c20b1 : (t779 != t785) = false := bne_eq_false_iff_eq.mpr c20
        clear c20
        have H' := Aside0.mk H
        clear H
        go_wp2
        repeat (go_quiet (fail); try go_wp2)
        go_meet
        case rel => exact ⟨_, ((t780 != t783)), Yd_, H', ⟨by first | omega | exact Nat.le_refl _⟩, ⟨by (with_reducible repeat (first | apply Kd.Ap | apply Kd.Am | apply Kd.Ba)); exact HO774.out⟩, ⟨by repeat (first | (with_reducible first | exact HB.out | apply Af | apply Ad | apply Ae) | exact HB.out)⟩⟩
       ·rw [if_neg c20] at H
        have c20b0 : (t779 == t785) = false := beq_eq_false_iff_ne.mpr c20
        have c20b1 : (t779 != t785) = true := bne_iff_ne.mpr c20
        have H' := Aside0.mk H
        clear H
        go_wp2
        repeat (go_quiet (fail); try go_wp2)
        go_meet
        case rel => exact ⟨_, (true), Yd_, H', ⟨by first | omega | exact Nat.le_refl _⟩, ⟨by (with_reducible repeat (first | apply Kd.Ap | apply Kd.Am | apply Kd.Ba)); exact HO774.out⟩, ⟨by repeat (first | (with_reducible first | exact HB.out | apply Af | apply Ad | apply Ae) | exact HB.out)⟩⟩
      ·rw [if_neg c19] at H
       have c19b0 : (t778 == t784) = false := beq_eq_false_iff_ne.mpr c19
       have c19b1 : (t778 != t784) = true := bne_iff_ne.mpr c19
       have H' := Aside0.mk H
       clear H
       go_wp2
       repeat (go_quiet (fail); try go_wp2)
       go_meet
       case rel => exact ⟨_, (true), Yd_, H', ⟨by first | omega | exact Nat.le_refl _⟩, ⟨by (with_reducible repeat (first | apply Kd.Ap | apply Kd.Am | apply Kd.Ba)); exact HO774.out⟩, ⟨by repeat (first | (with_reducible first | exact HB.out | apply Af | apply Ad | apply Ae) | exact HB.out)⟩⟩
    ·rw [if_neg c17] at H
     have c17b0 : (t776 == t782) = false := beq_eq_false_iff_ne.mpr c17
     have c17b1 : (t776 != t782) = true := bne_iff_ne.mpr c17
     have H' := Aside0.mk H
     clear H
     go_wp2
     repeat (go_quiet (fail); try go_wp2)
     go_meet
     case rel => exact ⟨_, (true), Yd_, H', ⟨by first | omega | exact Nat.le_refl _⟩, ⟨by (with_reducible repeat (first | apply Kd.Ap | apply Kd.Am | apply Kd.Ba)); exact HO774.out⟩, ⟨by repeat (first | (with_reducible first | exact HB.out | apply Af | apply Ad | apply Ae) | exact HB.out)⟩⟩
   ·rw [if_neg c16] at H
    have c16b0 : (t775 == t781) = false := beq_eq_false_iff_ne.mpr c16
    have c16b1 : (t775 != t781) = true := bne_iff_ne.mpr c16
    (first | rw [c16b0] | (simp only [Aj, Ak]; rw [c16b0]) | skip)
    have H' := Aside0.mk H
    clear H
    go_wp2
    repeat (go_quiet (fail); try go_wp2)
    go_meet
    case rel => exact ⟨_, (true), Yd_, H', ⟨by first | omega | exact Nat.le_refl _⟩, ⟨by (with_reducible repeat (first | apply Kd.Ap | apply Kd.Am | apply Kd.Ba)); exact HO774.out⟩, ⟨by repeat (first | (with_reducible first | exact HB.out | apply Af | apply Ad | apply Ae) | exact HB.out)⟩⟩
  case rest => as_aux_lemma =>
   clear HC9
   try clear c1
   try clear c2
   try clear p2
   try clear c3
   try clear c13
   try clear c16
   try clear c16b0
   try clear c16b1
   try clear c17
   try clear c17b0
   try clear c17b1
   try clear c18
   try clear c18b0
   try clear c18b1
   try clear c18b2
   try clear c19
   try clear c19b0
   try clear c19b1
   try clear c20
   try clear c20b0
   try clear c20b1
   obtain ⟨kq, x88_8, rfl, HA, HJ8, HO_3, HB⟩ := hcut
   cases kq with
   | zero => exact absurd HA.out (by simp [Ai.j0])
   | succ kj8 =>
    have H := HA.out
    clear HA
    simp only [Ai.j0] at H
    by_cases c21 : x88_8 = true
    ·subst c21
     have H1 : (some false) = some r := by rw [if_pos rfl] at H; exact H
     clear H
     have H := H1
     clear H1
     exact absurd (Option.some.inj H) (by rw [HR_.out]; decide)
    ·replace c21 := Bool.eq_false_iff.mpr c21
     subst c21
     have H1 : (if t777 = true then (if 0 < (t772.length : Int) then (Ai.l0 kj8 l0 t772 t775 t776 t778 t779 (wrap64 (((Ah t772 0).f1) - ((Ah t772 0).f0))) (wrap64 (((Ah t772 0).f1) - ((Ah t772 0).f0))) 0) else (none)) else (Ai.j2 kj8 l0)) = some r := by rw [if_neg (show ¬ (false = true) by decide)] at H; exact H
     clear H
     have H := H1
     clear H1
     have HC22 := Aside0.mk H
     clear H
     go_upto_if 89 with (fail)
     repeat (go_quiet (fail); go_upto_if 89 with (fail))
     go_cut [] (fun wc => ∃ (kq : Nat), Aside0 (Ai.j2 kq l0 = some r) ∧ Aside0 (kq ≤ kj8) ∧ Aside0 (Below w.heap.size w wc))
     case first =>
      have H := HC22.out
      clear HC22
      by_cases c23 : t777 = true
      ·subst c23
       have H1 : (if 0 < (t772.length : Int) then (Ai.l0 kj8 l0 t772 t775 t776 t778 t779 (wrap64 (((Ah t772 0).f1) - ((Ah t772 0).f0))) (wrap64 (((Ah t772 0).f1) - ((Ah t772 0).f0))) 0) else (none)) = some r := by rw [if_pos rfl] at H; exact H
       clear H
       have H := H1
       clear H1
       by_cases c24 : 0 < (t772.length : Int)
       ·rw [if_pos c24] at H
        have c24b0 : decide (0 < (t772.length : Int)) = true := decide_eq_true c24
        have c24b1 : decide (0 < t772.length) = true := decide_eq_true (by omega)
        clear c24
        (first | rw [c24b0] | (simp only [Aj, Ak]; rw [c24b0]) | skip)
        have H' := Aside0.mk H
        clear H
        have p787 : 0 ≤ (0 : Int) := (by omega)
        have q787 : 0 < (t772.length : Int) := of_decide_eq_true Yc_
        obtain ⟨ad787, e787, hx787_0, hx787_1, hx787_2⟩ := Ez (Kd.R_reads' HO_3.out).2.2 0 p787 q787
        cases e787
        have qi787 : (0 < t772.length) = True := eq_true (by omega)
        (try rw [show ((0 : Int)).toNat = 0 from rfl] at hx787_0)
        (try rw [show 0 * 3 = 0 from rfl] at hx787_0)
        (try rw [Addr.add_zero'] at hx787_0)
        (try rw [show ((0 : Int)).toNat = 0 from rfl] at hx787_1)
        (try rw [show 0 * 3 = 0 from rfl] at hx787_1)
        (try rw [Addr.add_zero'] at hx787_1)
        (try rw [show ((0 : Int)).toNat = 0 from rfl] at hx787_2)
        (try rw [show 0 * 3 = 0 from rfl] at hx787_2)
        (try rw [Addr.add_zero'] at hx787_2)
        replace p787 := eq_true p787
        replace q787 := eq_true q787
        have p788 : 0 ≤ (0 : Int) := (by omega)
        have q788 : 0 < (t772.length : Int) := of_decide_eq_true Yc_
        obtain ⟨ad788, e788, hx788_0, hx788_1, hx788_2⟩ := Ez (Kd.R_reads' HO_3.out).2.2 0 p788 q788
        obtain rfl : ad787 = ad788 := (by injection e788)
        have qi788 : (0 < t772.length) = True := eq_true (by omega)
        (try rw [show ((0 : Int)).toNat = 0 from rfl] at hx788_0)
        (try rw [show 0 * 3 = 0 from rfl] at hx788_0)
        (try rw [Addr.add_zero'] at hx788_0)
        (try rw [show ((0 : Int)).toNat = 0 from rfl] at hx788_1)
        (try rw [show 0 * 3 = 0 from rfl] at hx788_1)
        (try rw [Addr.add_zero'] at hx788_1)
        (try rw [show ((0 : Int)).toNat = 0 from rfl] at hx788_2)
        (try rw [show 0 * 3 = 0 from rfl] at hx788_2)
        (try rw [Addr.add_zero'] at hx788_2)
        replace p788 := eq_true p788
        replace q788 := eq_true q788
        have p789 : 0 ≤ (0 : Int) := (by omega)
        have q789 : 0 < (t772.length : Int) := of_decide_eq_true Yc_
        obtain ⟨ad789, e789, hx789_0, hx789_1, hx789_2⟩ := Ez (Kd.R_reads' HO_3.out).2.2 0 p789 q789
        obtain rfl : ad787 = ad789 := (by injection e789)
        have qi789 : (0 < t772.length) = True := eq_true (by omega)
        (try rw [show ((0 : Int)).toNat = 0 from rfl] at hx789_0)
        (try rw [show 0 * 3 = 0 from rfl] at hx789_0)
        (try rw [Addr.add_zero'] at hx789_0)
        (try rw [show ((0 : Int)).toNat = 0 from rfl] at hx789_1)
        (try rw [show 0 * 3 = 0 from rfl] at hx789_1)
        (try rw [Addr.add_zero'] at hx789_1)
        (try rw [show ((0 : Int)).toNat = 0 from rfl] at hx789_2)
        (try rw [show 0 * 3 = 0 from rfl] at hx789_2)
        (try rw [Addr.add_zero'] at hx789_2)
        replace p789 := eq_true p789
        replace q789 := eq_true q789
        have p790 : 0 ≤ (0 : Int) := (by omega)
        have q790 : 0 < (t772.length : Int) := of_decide_eq_true Yc_
        obtain ⟨ad790, e790, hx790_0, hx790_1, hx790_2⟩ := Ez (Kd.R_reads' HO_3.out).2.2 0 p790 q790
        obtain rfl : ad787 = ad790 := (by injection e790)
        have qi790 : (0 < t772.length) = True := eq_true (by omega)
        (try rw [show ((0 : Int)).toNat = 0 from rfl] at hx790_0)
        (try rw [show 0 * 3 = 0 from rfl] at hx790_0)
        (try rw [Addr.add_zero'] at hx790_0)
        (try rw [show ((0 : Int)).toNat = 0 from rfl] at hx790_1)
        (try rw [show 0 * 3 = 0 from rfl] at hx790_1)
        (try rw [Addr.add_zero'] at hx790_1)
        (try rw [show ((0 : Int)).toNat = 0 from rfl] at hx790_2)
        (try rw [show 0 * 3 = 0 from rfl] at hx790_2)
        (try rw [Addr.add_zero'] at hx790_2)
        replace p790 := eq_true p790
        replace q790 := eq_true q790
        go_wp2
        repeat (go_quiet (fail); try go_wp2)
        go_loopg [16, 17, 18] kj8 (fun kq v16 v17 v18 w' => ∃ (x16_2 : Int) (x17_2 : Int) (x18_2 : Int), v16 = .int .i64 x16_2 ∧ v17 = .int .i64 x17_2 ∧ v18 = .int .i64 x18_2 ∧ Aside0 (Ai.l0 kq l0 t772 t775 t776 t778 t779 x16_2 x17_2 x18_2 = some r) ∧ Aside0 (kq ≤ kj8) ∧ Aside0 (Kd.R k59 59 w' w.heap.size (fun _ => True) (.slice (some ad787) t772.length co11) t772) ∧ Aside0 (Below w.heap.size w w'))
        case atStart => exact ⟨(wrap64 (((Ah t772 0).f1) - ((Ah t772 0).f0))), (wrap64 (((Ah t772 0).f1) - ((Ah t772 0).f0))), (0), Yd_, Yd_, Yd_, H', ⟨Nat.le_refl _⟩, ⟨by (with_reducible repeat (first | apply Kd.Ap | apply Kd.Am | apply Kd.Ba)); exact HO_3.out⟩, ⟨by repeat (first | (with_reducible first | exact HB.out | apply Af | apply Ad | apply Ae) | exact HB.out)⟩⟩
        case round =>
         clear H'
         try clear c1
         try clear c2
         try clear p2
         try clear c3
         try clear p6
         try clear p7
         try clear q7
         try clear hx7
         try clear qi7
         try clear c13
         try clear c16
         try clear c16b0
         try clear c16b1
         try clear c17
         try clear c17b0
         try clear c17b1
         try clear c18
         try clear c18b0
         try clear c18b1
         try clear c18b2
         try clear c19
         try clear c19b0
         try clear c19b1
         try clear c20
         try clear c20b0
         try clear c20b1
         try clear c21
         try clear c23
         try clear c24
         try clear c24b0
         try clear c24b1
         try clear hx787_0
         try clear hx787_1
         try clear hx787_2
         try clear hx788_0
         try clear hx788_1
         try clear hx788_2
         try clear hx789_0
         try clear hx789_1
         try clear hx789_2
         try clear hx790_0
         try clear hx790_1
         try clear hx790_2
         try clear p2
         try clear p787
         try clear p788
         try clear p789
         try clear p790
         try clear q787
         try clear q788
         try clear q789
         try clear q790
         obtain ⟨x16_2, x17_2, x18_2, rfl, rfl, rfl, HA, HK2, HO_3, HB⟩ := hrel
         cases gk with
         | zero => exact absurd HA.out (by simp [Ai.l0])
         | succ k2 =>
          have H := HA.out
          clear HA
          simp only [Ai.l0] at H
          by_cases c25 : x18_2 < (t772.length : Int)
          ·rw [if_pos c25] at H
           have c25b0 : decide (x18_2 < (t772.length : Int)) = true := decide_eq_true c25
           clear c25
           by_cases c26 : 0 ≤ x18_2
           ·rw [if_pos c26] at H
            have c26b0 : decide (0 ≤ x18_2) = true := decide_eq_true c26
            clear c26
            by_cases c27 : (wrap64 (((Ah t772 x18_2).f1) - ((Ah t772 x18_2).f0))) < x16_2
            ·rw [if_pos c27] at H
             have c27b0 : decide ((wrap64 (((Ah t772 x18_2).f1) - ((Ah t772 x18_2).f0))) < x16_2) = true := decide_eq_true c27
             clear c27
             by_cases c28 : (wrap64 (((Ah t772 x18_2).f1) - ((Ah t772 x18_2).f0))) > x17_2
             ·rw [if_pos c28] at H
              have c28b0 : decide (x17_2 < (wrap64 (((Ah t772 x18_2).f1) - ((Ah t772 x18_2).f0)))) = true := decide_eq_true c28
              clear c28
              have H' := Aside0.mk H
              clear H
              have p792 : 0 ≤ (x18_2 : Int) := of_decide_eq_true Yc_
              have q792 : x18_2 < (t772.length : Int) := of_decide_eq_true Yc_
              obtain ⟨ad792, e792, hx792_0, hx792_1, hx792_2⟩ := Ez (Kd.R_reads' HO_3.out).2.2 x18_2 p792 q792
              obtain rfl : ad787 = ad792 := (by injection e792)
              replace p792 := eq_true p792
              replace q792 := eq_true q792
              have p793 : 0 ≤ (x18_2 : Int) := of_decide_eq_true Yc_
              have q793 : x18_2 < (t772.length : Int) := of_decide_eq_true Yc_
              obtain ⟨ad793, e793, hx793_0, hx793_1, hx793_2⟩ := Ez (Kd.R_reads' HO_3.out).2.2 x18_2 p793 q793
              obtain rfl : ad787 = ad793 := (by injection e793)
              replace p793 := eq_true p793
              replace q793 := eq_true q793
              go_wp2
              repeat (go_quiet (fail); try go_wp2)
              go_roundg k2
              case measure => have := HJ8.out; have := HK2.out; omega
              case rel => exact ⟨(wrap64 (((Ah t772 x18_2).f1) - ((Ah t772 x18_2).f0))), (wrap64 (((Ah t772 x18_2).f1) - ((Ah t772 x18_2).f0))), (wrap64 (x18_2 + 1)), Yd_, Yd_, Yd_, H', ⟨by have := HJ8.out; have := HK2.out; omega⟩, ⟨by (with_reducible repeat (first | apply Kd.Ap | apply Kd.Am | apply Kd.Ba)); exact HO_3.out⟩, ⟨by repeat (first | (with_reducible first | exact HB.out | apply Af | apply Ad | apply Ae) | exact HB.out)⟩⟩
             ·rw [if_neg c28] at H
              have c28b0 : decide (x17_2 < (wrap64 (((Ah t772 x18_2).f1) - ((Ah t772 x18_2).f0)))) = false := decide_eq_false c28
              clear c28
              have H' := Aside0.mk H
              clear H
              have p792 : 0 ≤ (x18_2 : Int) := of_decide_eq_true Yc_
              have q792 : x18_2 < (t772.length : Int) := of_decide_eq_true Yc_
              obtain ⟨ad792, e792, hx792_0, hx792_1, hx792_2⟩ := Ez (Kd.R_reads' HO_3.out).2.2 x18_2 p792 q792
              obtain rfl : ad787 = ad792 := (by injection e792)
              replace p792 := eq_true p792
              replace q792 := eq_true q792
              have p793 : 0 ≤ (x18_2 : Int) := of_decide_eq_true Yc_
              have q793 : x18_2 < (t772.length : Int) := of_decide_eq_true Yc_
              obtain ⟨ad793, e793, hx793_0, hx793_1, hx793_2⟩ := Ez (Kd.R_reads' HO_3.out).2.2 x18_2 p793 q793
              obtain rfl : ad787 = ad793 := (by injection e793)
              replace p793 := eq_true p793
              replace q793 := eq_true q793
              go_wp2
              repeat (go_quiet (fail); try go_wp2)
              go_roundg k2
              case measure => have := HJ8.out; have := HK2.out; omega
              case rel => exact ⟨(wrap64 (((Ah t772 x18_2).f1) - ((Ah t772 x18_2).f0))), (x17_2), (wrap64 (x18_2 + 1)), Yd_, Yd_, Yd_, H', ⟨by have := HJ8.out; have := HK2.out; omega⟩, ⟨by (with_reducible repeat (first | apply Kd.Ap | apply Kd.Am | apply Kd.Ba)); exact HO_3.out⟩, ⟨by repeat (first | (with_reducible first | exact HB.out | apply Af | apply Ad | apply Ae) | exact HB.out)⟩⟩
            ·rw [if_neg c27] at H
             have c27b0 : decide ((wrap64 (((Ah t772 x18_2).f1) - ((Ah t772 x18_2).f0))) < x16_2) = false := decide_eq_false c27
             clear c27
             by_cases c29 : (wrap64 (((Ah t772 x18_2).f1) - ((Ah t772 x18_2).f0))) > x17_2
             ·rw [if_pos c29] at H
              have c29b0 : decide (x17_2 < (wrap64 (((Ah t772 x18_2).f1) - ((Ah t772 x18_2).f0)))) = true := decide_eq_true c29
              clear c29
              have H' := Aside0.mk H
              clear H
              have p792 : 0 ≤ (x18_2 : Int) := of_decide_eq_true Yc_
              have q792 : x18_2 < (t772.length : Int) := of_decide_eq_true Yc_
              obtain ⟨ad792, e792, hx792_0, hx792_1, hx792_2⟩ := Ez (Kd.R_reads' HO_3.out).2.2 x18_2 p792 q792
              obtain rfl : ad787 = ad792 := (by injection e792)
              replace p792 := eq_true p792
              replace q792 := eq_true q792
              have p793 : 0 ≤ (x18_2 : Int) := of_decide_eq_true Yc_
              have q793 : x18_2 < (t772.length : Int) := of_decide_eq_true Yc_
              obtain ⟨ad793, e793, hx793_0, hx793_1, hx793_2⟩ := Ez (Kd.R_reads' HO_3.out).2.2 x18_2 p793 q793
              obtain rfl : ad787 = ad793 := (by injection e793)
              replace p793 := eq_true p793
              replace q793 := eq_true q793
              go_wp2
              repeat (go_quiet (fail); try go_wp2)
              go_roundg k2
              case measure => have := HJ8.out; have := HK2.out; omega
              case rel => exact ⟨(x16_2), (wrap64 (((Ah t772 x18_2).f1) - ((Ah t772 x18_2).f0))), (wrap64 (x18_2 + 1)), Yd_, Yd_, Yd_, H', ⟨by have := HJ8.out; have := HK2.out; omega⟩, ⟨by (with_reducible repeat (first | apply Kd.Ap | apply Kd.Am | apply Kd.Ba)); exact HO_3.out⟩, ⟨by repeat (first | (with_reducible first | exact HB.out | apply Af | apply Ad | apply Ae) | exact HB.out)⟩⟩
             ·rw [if_neg c29] at H
              have c29b0 : decide (x17_2 < (wrap64 (((Ah t772 x18_2).f1) - ((Ah t772 x18_2).f0)))) = false := decide_eq_false c29
              clear c29
              have H' := Aside0.mk H
              clear H
              have p792 : 0 ≤ (x18_2 : Int) := of_decide_eq_true Yc_
              have q792 : x18_2 < (t772.length : Int) := of_decide_eq_true Yc_
              obtain ⟨ad792, e792, hx792_0, hx792_1, hx792_2⟩ := Ez (Kd.R_reads' HO_3.out).2.2 x18_2 p792 q792
              obtain rfl : ad787 = ad792 := (by injection e792)
              replace p792 := eq_true p792
              replace q792 := eq_true q792
              have p793 : 0 ≤ (x18_2 : Int) := of_decide_eq_true Yc_
              have q793 : x18_2 < (t772.length : Int) := of_decide_eq_true Yc_
              obtain ⟨ad793, e793, hx793_0, hx793_1, hx793_2⟩ := Ez (Kd.R_reads' HO_3.out).2.2 x18_2 p793 q793
              obtain rfl : ad787 = ad793 := (by injection e793)
              replace p793 := eq_true p793
              replace q793 := eq_true q793
              go_wp2
              repeat (go_quiet (fail); try go_wp2)
              go_roundg k2
              case measure => have := HJ8.out; have := HK2.out; omega
              case rel => exact ⟨(x16_2), (x17_2), (wrap64 (x18_2 + 1)), Yd_, Yd_, Yd_, H', ⟨by have := HJ8.out; have := HK2.out; omega⟩, ⟨by (with_reducible repeat (first | apply Kd.Ap | apply Kd.Am | apply Kd.Ba)); exact HO_3.out⟩, ⟨by repeat (first | (with_reducible first | exact HB.out | apply Af | apply Ad | apply Ae) | exact HB.out)⟩⟩
           ·rw [if_neg c26] at H
            exact absurd H (by simp)
          ·rw [if_neg c25] at H
           have c25b0 : decide (x18_2 < (t772.length : Int)) = false := decide_eq_false c25
           clear c25
           by_cases c30 : t775 < (wrap64 (x16_2 * t776))
           ·rw [if_pos c30] at H
            have c30b0 : decide (t775 < (wrap64 (x16_2 * t776))) = true := decide_eq_true c30
            clear c30
            exact absurd (Option.some.inj H) (by rw [HR_.out]; decide)
           ·rw [if_neg c30] at H
            have c30b0 : decide (t775 < (wrap64 (x16_2 * t776))) = false := decide_eq_false c30
            clear c30
            by_cases c31 : t775 > (wrap64 (x17_2 * t776))
            ·rw [if_pos c31] at H
             have c31b0 : decide ((wrap64 (x17_2 * t776)) < t775) = true := decide_eq_true c31
             clear c31
             exact absurd (Option.some.inj H) (by rw [HR_.out]; decide)
            ·rw [if_neg c31] at H
             have c31b0 : decide ((wrap64 (x17_2 * t776)) < t775) = false := decide_eq_false c31
             clear c31
             by_cases c32 : t778 < (wrap64 (x16_2 * t779))
             ·rw [if_pos c32] at H
              have c32b0 : decide (t778 < (wrap64 (x16_2 * t779))) = true := decide_eq_true c32
              clear c32
              exact absurd (Option.some.inj H) (by rw [HR_.out]; decide)
             ·rw [if_neg c32] at H
              have c32b0 : decide (t778 < (wrap64 (x16_2 * t779))) = false := decide_eq_false c32
              clear c32
              by_cases c33 : t778 > (wrap64 (x17_2 * t779))
              ·rw [if_pos c33] at H
               have c33b0 : decide ((wrap64 (x17_2 * t779)) < t778) = true := decide_eq_true c33
               clear c33
               exact absurd (Option.some.inj H) (by rw [HR_.out]; decide)
              ·rw [if_neg c33] at H
               have c33b0 : decide ((wrap64 (x17_2 * t779)) < t778) = false := decide_eq_false c33
               clear c33
               replace H := Option.bind_eq_some_iff.mp H
               obtain ⟨t791, A340, H⟩ := H
               replace H : (if t791 = true then (Ai.j2 k2 l0) else (some false)) = some r := H
               have A34 := Aside0.mk A340
               clear A340
               by_cases c35 : t791 = true
               ·subst c35
                have H1 : (Ai.j2 k2 l0) = some r := by rw [if_pos rfl] at H; exact H
                clear H
                have H := H1
                clear H1
                have H' := Aside0.mk H
                clear H
                go_wp2_with (first | (go_at_call 19; (with_reducible refine (impl_IsValidStays.calls _ _ t772 true _ ?side1 ?side2 A34.out).mono ?_); (case side1 => repeat (first | exact (Kd.R_reads' HO_3.out).2.2 | (with_reducible refine Kd.Be ?_ _) | (with_reducible refine Kd.Bf ?_ _) | (with_reducible refine Kd.Bh ?_))); (case side2 => exact (Kd.R_reads' HO_3.out).2.1); rintro e w36 ⟨rfl, hb⟩; have n0_ := Aside0.mk (Kd.R_below Yg_ hb); have n1_ := Aside0.mk (below_step Ya_ hb); clear HO_3; clear HB; have HO_3 := n0_; have HB := n1_; clear n0_ n1_; (try clear hb); (try clear hb2); (try clear hk); (try clear hi)))
                repeat (go_quiet (first | (go_at_call 19; (with_reducible refine (impl_IsValidStays.calls _ _ t772 true _ ?side1 ?side2 A34.out).mono ?_); (case side1 => repeat (first | exact (Kd.R_reads' HO_3.out).2.2 | (with_reducible refine Kd.Be ?_ _) | (with_reducible refine Kd.Bf ?_ _) | (with_reducible refine Kd.Bh ?_))); (case side2 => exact (Kd.R_reads' HO_3.out).2.1); rintro e w36 ⟨rfl, hb⟩; have n0_ := Aside0.mk (Kd.R_below Yg_ hb); have n1_ := Aside0.mk (below_step Ya_ hb); clear HO_3; clear HB; have HO_3 := n0_; have HB := n1_; clear n0_ n1_; (try clear hb); (try clear hb2); (try clear hk); (try clear hi))); try go_wp2_with (first | (go_at_call 19; (with_reducible refine (impl_IsValidStays.calls _ _ t772 true _ ?side1 ?side2 A34.out).mono ?_); (case side1 => repeat (first | exact (Kd.R_reads' HO_3.out).2.2 | (with_reducible refine Kd.Be ?_ _) | (with_reducible refine Kd.Bf ?_ _) | (with_reducible refine Kd.Bh ?_))); (case side2 => exact (Kd.R_reads' HO_3.out).2.1); rintro e w36 ⟨rfl, hb⟩; have n0_ := Aside0.mk (Kd.R_below Yg_ hb); have n1_ := Aside0.mk (below_step Ya_ hb); clear HO_3; clear HB; have HO_3 := n0_; have HB := n1_; clear n0_ n1_; (try clear hb); (try clear hb2); (try clear hk); (try clear hi))))
                go_meet
                case rel => exact ⟨_, H', ⟨by have := HJ8.out; have := HK2.out; first | omega | exact Nat.le_refl _⟩, ⟨by repeat (first | (with_reducible first | exact HB.out | apply Af | apply Ad | apply Ae) | exact HB.out)⟩⟩
               ·replace c35 := Bool.eq_false_iff.mpr c35
                subst c35
                have H1 : (some false) = some r := by rw [if_neg (show ¬ (false = true) by decide)] at H; exact H
                clear H
                have H := H1
                clear H1
                exact absurd (Option.some.inj H) (by rw [HR_.out]; decide)
       ·rw [if_neg c24] at H
        exact absurd H (by simp)
      ·replace c23 := Bool.eq_false_iff.mpr c23
       subst c23
       have H1 : (Ai.j2 kj8 l0) = some r := by rw [if_neg (show ¬ (false = true) by decide)] at H; exact H
       clear H
       have H := H1
       clear H1
       have H' := Aside0.mk H
       clear H
       go_wp2
       repeat (go_quiet (fail); try go_wp2)
       go_meet
       case rel => exact ⟨_, H', ⟨by have := HJ8.out; first | omega | exact Nat.le_refl _⟩, ⟨by repeat (first | (with_reducible first | exact HB.out | apply Af | apply Ad | apply Ae) | exact HB.out)⟩⟩
     case rest => as_aux_lemma =>
      clear HC22
      try clear c1
      try clear c2
      try clear p2
      try clear c3
      try clear p6
      try clear p7
      try clear q7
      try clear hx7
      try clear qi7
      try clear c13
      try clear c16
      try clear c16b0
      try clear c16b1
      try clear c17
      try clear c17b0
      try clear c17b1
      try clear c18
      try clear c18b0
      try clear c18b1
      try clear c18b2
      try clear c19
      try clear c19b0
      try clear c19b1
      try clear c20
      try clear c20b0
      try clear c20b1
      try clear c21
      try clear c23
      try clear c24
      try clear c24b0
      try clear c24b1
      try clear c25
      try clear c25b0
      try clear c26
      try clear c26b0
      try clear c27
      try clear c27b0
      try clear c28
      try clear c28b0
      try clear c29
      try clear c29b0
      try clear c30
      try clear c30b0
      try clear c31
      try clear c31b0
      try clear c32
      try clear c32b0
      try clear c33
      try clear c33b0
      try clear c35
      try clear hx787_0
      try clear hx787_1
      try clear hx787_2
      try clear hx788_0
      try clear hx788_1
      try clear hx788_2
      try clear hx789_0
      try clear hx789_1
      try clear hx789_2
      try clear hx790_0
      try clear hx790_1
      try clear hx790_2
      try clear hx792_0
      try clear hx792_1
      try clear hx792_2
      try clear hx793_0
      try clear hx793_1
      try clear hx793_2
      try clear p2
      try clear p6
      try clear p7
      try clear p787
      try clear p788
      try clear p789
      try clear p790
      try clear p792
      try clear p793
      try clear q7
      try clear q787
      try clear q788
      try clear q789
      try clear q790
      try clear q792
      try clear q793
      obtain ⟨kq, HA, HJ21, HB⟩ := hcut
      cases kq with
      | zero => exact absurd HA.out (by simp [Ai.j2])
      | succ kj21 =>
       have H := HA.out
       clear HA
       simp only [Ai.j2] at H
       replace H := Option.bind_eq_some_iff.mp H
       obtain ⟨t794, A380, H⟩ := H
       replace H : ((Bj.f kj21 t794).bind fun bt797 => ((Bi.f kj21 t794).bind fun bt801 => (if (bt797.2 != bt801.2) = true then (Ai.j3 kj21 l0 t794 bt797.1 bt797.2 true) else ((Dy.f kj21 bt797.1 bt801.1).bind fun t805 => (Ai.j3 kj21 l0 t794 bt797.1 bt797.2 (!t805)))))) = some r := H
       have A38 := Aside0.mk A380
       clear A380
       replace H := Option.bind_eq_some_iff.mp H
       obtain ⟨⟨t797, t798⟩, A390, H⟩ := H
       replace H : ((Bi.f kj21 t794).bind fun bt801 => (if (t798 != bt801.2) = true then (Ai.j3 kj21 l0 t794 t797 t798 true) else ((Dy.f kj21 t797 bt801.1).bind fun t805 => (Ai.j3 kj21 l0 t794 t797 t798 (!t805))))) = some r := H
       have A39 := Aside0.mk A390
       clear A390
       replace H := Option.bind_eq_some_iff.mp H
       obtain ⟨⟨t801, t802⟩, A400, H⟩ := H
       replace H : (if (t798 != t802) = true then (Ai.j3 kj21 l0 t794 t797 t798 true) else ((Dy.f kj21 t797 t801).bind fun t805 => (Ai.j3 kj21 l0 t794 t797 t798 (!t805)))) = some r := H
       have A40 := Aside0.mk A400
       clear A400
       have HC41 := Aside0.mk H
       clear H
       go_upto_region 25 with (first | (go_at_call 48; (with_reducible refine (Dz.calls kj21 _ _ l0 t794 _ ?side1 ?side2 A38.out).mono ?_); (case side1 => repeat (first | exact (Kd.C_below HR0.out HB.out) | (with_reducible refine Kd.Be ?_ _) | (with_reducible refine Kd.Bf ?_ _) | (with_reducible refine Kd.Bh ?_))); (case side2 => exact HC0.out); rintro e w42 ⟨v795, rfl, ho0, hb⟩; have n0_ := Aside0.mk (Kd.R_lower ho0 (below_size Ya_)); have n1_ := Aside0.mk (below_step Ya_ hb); clear HB; have HO796 := n0_; have HB := n1_; clear n0_ n1_; (try clear hb); (try clear hb2); (try clear hk); (try clear hi); (try clear ho0); obtain ⟨Ao43, co43, eo43⟩ := Kd.R_slice HO796.out; subst eo43) | (go_at_call 30; (with_reducible refine (Bj.calls kj21 _ _ t794 t797 t798 _ ?side1 ?side2 A39.out).mono ?_); (case side1 => repeat (first | exact (Kd.R_reads' HO796.out).2.2 | (with_reducible refine Kd.Be ?_ _) | (with_reducible refine Kd.Bf ?_ _) | (with_reducible refine Kd.Bh ?_))); (case side2 => exact (Kd.R_reads' HO796.out).2.1); rintro e w44 ⟨v799, rfl, ho0, hb⟩; have n0_ := Aside0.mk (Kd.R_below Yce_ hb); have n1_ := Aside0.mk (Kd.S_lower ho0 (below_size Ya_)); have n2_ := Aside0.mk (below_step Ya_ hb); clear HO796; clear HB; have HO796 := n0_; have HO800 := n1_; have HB := n2_; clear n0_ n1_ n2_; (try clear hb); (try clear hb2); (try clear hk); (try clear hi); (try clear ho0)) | (go_at_call 29; (with_reducible refine (Bi.calls kj21 _ _ t794 t801 t802 _ ?side1 ?side2 A40.out).mono ?_); (case side1 => repeat (first | exact (Kd.R_reads' HO796.out).2.2 | (with_reducible refine Kd.Be ?_ _) | (with_reducible refine Kd.Bf ?_ _) | (with_reducible refine Kd.Bh ?_))); (case side2 => exact (Kd.R_reads' HO796.out).2.1); rintro e w45 ⟨v803, rfl, ho0, hb⟩; have n0_ := Aside0.mk (Kd.R_below Yce_ hb); have n1_ := Aside0.mk (Kd.S_elder' Ycf_ (Kd.S_base ho0) hb); have n2_ := Aside0.mk (Kd.S_lower (Kd.S_new' ho0 (Kd.S_lt Ycf_)) (below_size Ya_)); have n3_ := Aside0.mk (below_step Ya_ hb); clear HO796; clear HO800; clear HB; have HO796 := n0_; have HO800 := n1_; have HO804 := n2_; have HB := n3_; clear n0_ n1_ n2_ n3_; (try clear hb); (try clear hb2); (try clear hk); (try clear hi); (try clear ho0)))
       repeat (go_quiet (first | (go_at_call 48; (with_reducible refine (Dz.calls kj21 _ _ l0 t794 _ ?side1 ?side2 A38.out).mono ?_); (case side1 => repeat (first | exact (Kd.C_below HR0.out HB.out) | (with_reducible refine Kd.Be ?_ _) | (with_reducible refine Kd.Bf ?_ _) | (with_reducible refine Kd.Bh ?_))); (case side2 => exact HC0.out); rintro e w42 ⟨v795, rfl, ho0, hb⟩; have n0_ := Aside0.mk (Kd.R_lower ho0 (below_size Ya_)); have n1_ := Aside0.mk (below_step Ya_ hb); clear HB; have HO796 := n0_; have HB := n1_; clear n0_ n1_; (try clear hb); (try clear hb2); (try clear hk); (try clear hi); (try clear ho0); obtain ⟨Ao43, co43, eo43⟩ := Kd.R_slice HO796.out; subst eo43) | (go_at_call 30; (with_reducible refine (Bj.calls kj21 _ _ t794 t797 t798 _ ?side1 ?side2 A39.out).mono ?_); (case side1 => repeat (first | exact (Kd.R_reads' HO796.out).2.2 | (with_reducible refine Kd.Be ?_ _) | (with_reducible refine Kd.Bf ?_ _) | (with_reducible refine Kd.Bh ?_))); (case side2 => exact (Kd.R_reads' HO796.out).2.1); rintro e w44 ⟨v799, rfl, ho0, hb⟩; have n0_ := Aside0.mk (Kd.R_below Yce_ hb); have n1_ := Aside0.mk (Kd.S_lower ho0 (below_size Ya_)); have n2_ := Aside0.mk (below_step Ya_ hb); clear HO796; clear HB; have HO796 := n0_; have HO800 := n1_; have HB := n2_; clear n0_ n1_ n2_; (try clear hb); (try clear hb2); (try clear hk); (try clear hi); (try clear ho0)) | (go_at_call 29; (with_reducible refine (Bi.calls kj21 _ _ t794 t801 t802 _ ?side1 ?side2 A40.out).mono ?_); (case side1 => repeat (first | exact (Kd.R_reads' HO796.out).2.2 | (with_reducible refine Kd.Be ?_ _) | (with_reducible refine Kd.Bf ?_ _) | (with_reducible refine Kd.Bh ?_))); (case side2 => exact (Kd.R_reads' HO796.out).2.1); rintro e w45 ⟨v803, rfl, ho0, hb⟩; have n0_ := Aside0.mk (Kd.R_below Yce_ hb); have n1_ := Aside0.mk (Kd.S_elder' Ycf_ (Kd.S_base ho0) hb); have n2_ := Aside0.mk (Kd.S_lower (Kd.S_new' ho0 (Kd.S_lt Ycf_)) (below_size Ya_)); have n3_ := Aside0.mk (below_step Ya_ hb); clear HO796; clear HO800; clear HB; have HO796 := n0_; have HO800 := n1_; have HO804 := n2_; have HB := n3_; clear n0_ n1_ n2_ n3_; (try clear hb); (try clear hb2); (try clear hk); (try clear hi); (try clear ho0))); go_upto_region 25 with (first | (go_at_call 48; (with_reducible refine (Dz.calls kj21 _ _ l0 t794 _ ?side1 ?side2 A38.out).mono ?_); (case side1 => repeat (first | exact (Kd.C_below HR0.out HB.out) | (with_reducible refine Kd.Be ?_ _) | (with_reducible refine Kd.Bf ?_ _) | (with_reducible refine Kd.Bh ?_))); (case side2 => exact HC0.out); rintro e w42 ⟨v795, rfl, ho0, hb⟩; have n0_ := Aside0.mk (Kd.R_lower ho0 (below_size Ya_)); have n1_ := Aside0.mk (below_step Ya_ hb); clear HB; have HO796 := n0_; have HB := n1_; clear n0_ n1_; (try clear hb); (try clear hb2); (try clear hk); (try clear hi); (try clear ho0); obtain ⟨Ao43, co43, eo43⟩ := Kd.R_slice HO796.out; subst eo43) | (go_at_call 30; (with_reducible refine (Bj.calls kj21 _ _ t794 t797 t798 _ ?side1 ?side2 A39.out).mono ?_); (case side1 => repeat (first | exact (Kd.R_reads' HO796.out).2.2 | (with_reducible refine Kd.Be ?_ _) | (with_reducible refine Kd.Bf ?_ _) | (with_reducible refine Kd.Bh ?_))); (case side2 => exact (Kd.R_reads' HO796.out).2.1); rintro e w44 ⟨v799, rfl, ho0, hb⟩; have n0_ := Aside0.mk (Kd.R_below Yce_ hb); have n1_ := Aside0.mk (Kd.S_lower ho0 (below_size Ya_)); have n2_ := Aside0.mk (below_step Ya_ hb); clear HO796; clear HB; have HO796 := n0_; have HO800 := n1_; have HB := n2_; clear n0_ n1_ n2_; (try clear hb); (try clear hb2); (try clear hk); (try clear hi); (try clear ho0)) | (go_at_call 29; (with_reducible refine (Bi.calls kj21 _ _ t794 t801 t802 _ ?side1 ?side2 A40.out).mono ?_); (case side1 => repeat (first | exact (Kd.R_reads' HO796.out).2.2 | (with_reducible refine Kd.Be ?_ _) | (with_reducible refine Kd.Bf ?_ _) | (with_reducible refine Kd.Bh ?_))); (case side2 => exact (Kd.R_reads' HO796.out).2.1); rintro e w45 ⟨v803, rfl, ho0, hb⟩; have n0_ := Aside0.mk (Kd.R_below Yce_ hb); have n1_ := Aside0.mk (Kd.S_elder' Ycf_ (Kd.S_base ho0) hb); have n2_ := Aside0.mk (Kd.S_lower (Kd.S_new' ho0 (Kd.S_lt Ycf_)) (below_size Ya_)); have n3_ := Aside0.mk (below_step Ya_ hb); clear HO796; clear HO800; clear HB; have HO796 := n0_; have HO800 := n1_; have HO804 := n2_; have HB := n3_; clear n0_ n1_ n2_ n3_; (try clear hb); (try clear hb2); (try clear hk); (try clear hi); (try clear ho0))))
       (try simp only [Act.put, List.setIfInBounds_toArray, List.set_cons_zero, List.set_cons_succ])
       go_cut [184] (fun v184 wc => ∃ (kq : Nat) (x184_40 : Bool), v184 = .bool x184_40 ∧ Aside0 (Ai.j3 kq l0 t794 t797 t798 x184_40 = some r) ∧ Aside0 (kq ≤ kj21) ∧ Aside0 (Kd.R k59 59 wc w.heap.size (fun _ => True) (.slice Ao43 t794.length co43) t794) ∧ Aside0 (Kd.S (Kd.slice 3 (Kd.int .i64)) 53 wc w.heap.size (fun _ => True) v799 t797) ∧ Aside0 (Below w.heap.size w wc))
       case first =>
        have H := HC41.out
        clear HC41
        by_cases c46 : (t798 != t802) = true
        ·rw [if_pos c46] at H
         have c46b0 : (t798 != t802) = true := c46
         (try (have c46b1 : decide (t798 = t802) = false := by simpa using c46))
         (try (have c46b2 : (t798 == t802) = false := by simpa using c46))
         (try (have c46b3 : ¬ (t798 = t802) := by simpa using c46))
         clear c46
         (first | rw [c46b0] | (simp only [Aj, Ak]; rw [c46b0]) | skip)
         have H' := Aside0.mk H
         clear H
         go_wp2
         repeat (go_quiet (fail); try go_wp2)
         go_meet
         case rel => exact ⟨_, (true), Yd_, H', ⟨by have := HJ8.out; have := HJ21.out; first | omega | exact Nat.le_refl _⟩, ⟨by (with_reducible repeat (first | apply Kd.Ap | apply Kd.Am | apply Kd.Ba)); exact HO796.out⟩, ⟨by (with_reducible repeat (first | apply Kd.Fp | apply Kd.Fq | apply Kd.F7)); exact Kd.S_mono HO800.out (fun _ hk => trivial)⟩, ⟨by repeat (first | (with_reducible first | exact HB.out | apply Af | apply Ad | apply Ae) | exact HB.out)⟩⟩
        ·rw [if_neg c46] at H
         have c46b0 : (t798 != t802) = false := by simpa using c46
         (try (have c46b1 : decide (t798 = t802) = true := by simpa using c46))
         (try (have c46b2 : (t798 == t802) = true := by simpa using c46))
         clear c46
         (first | rw [c46b0] | (simp only [Aj, Ak]; rw [c46b0]) | skip)
         replace H := Option.bind_eq_some_iff.mp H
         obtain ⟨t805, A470, H⟩ := H
         replace H : (Ai.j3 kj21 l0 t794 t797 t798 (!t805)) = some r := H
         have A47 := Aside0.mk A470
         clear A470
         have H' := Aside0.mk H
         clear H
         obtain ⟨Ao48, co48, eo48⟩ := Kd.S_slice HO800.out
         subst eo48
         obtain ⟨Ao49, co49, eo49⟩ := Kd.S_slice HO804.out
         subst eo49
         go_wp2_with (first | (go_at_call 49; (with_reducible refine (Dy.calls kj21 _ _ t797 _ _ t801 t805 _ ?side1 ?side2 ?side3 ?side4 A47.out).mono ?_); (case side1 => repeat (first | exact (Kd.S_reads' HO800.out).2.2 | (with_reducible refine Kd.Be ?_ _) | (with_reducible refine Kd.Bf ?_ _) | (with_reducible refine Kd.Bh ?_))); (case side2 => exact (Kd.S_reads' HO800.out).2.1); (case side3 => repeat (first | exact (Kd.S_reads' HO804.out).2.2 | (with_reducible refine Kd.Be ?_ _) | (with_reducible refine Kd.Bf ?_ _) | (with_reducible refine Kd.Bh ?_))); (case side4 => exact (Kd.S_reads' HO804.out).2.1); rintro e w' ⟨rfl, ⟨nd, rfl⟩⟩; (try first | exact ⟨rfl, _, World.drewN_drewN _ _ _⟩ | exact ⟨rfl, _, Eq.trans (World.drewN_drewN _ _ _) (congrArg (World.drewN _) (Nat.add_assoc _ _ _))⟩)))
         repeat (go_quiet (first | (go_at_call 49; (with_reducible refine (Dy.calls kj21 _ _ t797 _ _ t801 t805 _ ?side1 ?side2 ?side3 ?side4 A47.out).mono ?_); (case side1 => repeat (first | exact (Kd.S_reads' HO800.out).2.2 | (with_reducible refine Kd.Be ?_ _) | (with_reducible refine Kd.Bf ?_ _) | (with_reducible refine Kd.Bh ?_))); (case side2 => exact (Kd.S_reads' HO800.out).2.1); (case side3 => repeat (first | exact (Kd.S_reads' HO804.out).2.2 | (with_reducible refine Kd.Be ?_ _) | (with_reducible refine Kd.Bf ?_ _) | (with_reducible refine Kd.Bh ?_))); (case side4 => exact (Kd.S_reads' HO804.out).2.1); rintro e w' ⟨rfl, ⟨nd, rfl⟩⟩; (try first | exact ⟨rfl, _, World.drewN_drewN _ _ _⟩ | exact ⟨rfl, _, Eq.trans (World.drewN_drewN _ _ _) (congrArg (World.drewN _) (Nat.add_assoc _ _ _))⟩))); try go_wp2_with (first | (go_at_call 49; (with_reducible refine (Dy.calls kj21 _ _ t797 _ _ t801 t805 _ ?side1 ?side2 ?side3 ?side4 A47.out).mono ?_); (case side1 => repeat (first | exact (Kd.S_reads' HO800.out).2.2 | (with_reducible refine Kd.Be ?_ _) | (with_reducible refine Kd.Bf ?_ _) | (with_reducible refine Kd.Bh ?_))); (case side2 => exact (Kd.S_reads' HO800.out).2.1); (case side3 => repeat (first | exact (Kd.S_reads' HO804.out).2.2 | (with_reducible refine Kd.Be ?_ _) | (with_reducible refine Kd.Bf ?_ _) | (with_reducible refine Kd.Bh ?_))); (case side4 => exact (Kd.S_reads' HO804.out).2.1); rintro e w' ⟨rfl, ⟨nd, rfl⟩⟩; (try first | exact ⟨rfl, _, World.drewN_drewN _ _ _⟩ | exact ⟨rfl, _, Eq.trans (World.drewN_drewN _ _ _) (congrArg (World.drewN _) (Nat.add_assoc _ _ _))⟩))))
         go_meet
         case rel => exact ⟨_, (!t805), Yd_, H', ⟨by have := HJ8.out; have := HJ21.out; first | omega | exact Nat.le_refl _⟩, ⟨by (with_reducible repeat (first | apply Kd.Ap | apply Kd.Am | apply Kd.Ba)); exact HO796.out⟩, ⟨by (with_reducible repeat (first | apply Kd.Fp | apply Kd.Fq | apply Kd.F7)); exact Kd.S_mono HO800.out (fun _ hk => trivial)⟩, ⟨by repeat (first | (with_reducible first | exact HB.out | apply Af | apply Ad | apply Ae) | exact HB.out)⟩⟩
       case rest => as_aux_lemma =>
        clear HC41
        try clear c1
        try clear c2
        try clear p2
        try clear c3
        try clear c4
        try clear p6
        try clear p7
        try clear q7
        try clear hx7
        try clear qi7
        try clear c13
        try clear c16
        try clear c16b0
        try clear c16b1
        try clear c17
        try clear c17b0
        try clear c17b1
        try clear c18
        try clear c18b0
        try clear c18b1
        try clear c18b2
        try clear c19
        try clear c19b0
        try clear c19b1
        try clear c20
        try clear c20b0
        try clear c20b1
        try clear c21
        try clear c23
        try clear c24
        try clear c24b0
        try clear c24b1
        try clear c25
        try clear c25b0
        try clear c26
        try clear c26b0
        try clear c27
        try clear c27b0
        try clear c28
        try clear c28b0
        try clear c29
        try clear c29b0
        try clear c30
        try clear c30b0
        try clear c31
        try clear c31b0
        try clear c32
        try clear c32b0
        try clear c33
        try clear c33b0
        try clear c35
        try clear c46
        try clear c46b0
        try clear c46b1
        try clear c46b2
        try clear hx787_0
        try clear hx787_1
        try clear hx787_2
        try clear hx788_0
        try clear hx788_1
        try clear hx788_2
        try clear hx789_0
        try clear hx789_1
        try clear hx789_2
        try clear hx790_0
        try clear hx790_1
        try clear hx790_2
        try clear hx792_0
        try clear hx792_1
        try clear hx792_2
        try clear hx793_0
        try clear hx793_1
        try clear hx793_2
        try clear p2
        try clear p6
        try clear p7
        try clear p787
        try clear p788
        try clear p789
        try clear p790
        try clear p792
        try clear p793
        try clear q7
        try clear q787
        try clear q788
        try clear q789
        try clear q790
        try clear q792
        try clear q793
        obtain ⟨kq, x184_40, rfl, HA, HJ40, HO_20, HO_21, HB⟩ := hcut
        cases kq with
        | zero => exact absurd HA.out (by simp [Ai.j3])
        | succ kj40 =>
         have H := HA.out
         clear HA
         simp only [Ai.j3] at H
         by_cases c50 : x184_40 = true
         ·subst c50
          have H1 : (some false) = some r := by rw [if_pos rfl] at H; exact H
          clear H
          have H := H1
          clear H1
          exact absurd (Option.some.inj H) (by rw [HR_.out]; decide)
         ·replace c50 := Bool.eq_false_iff.mpr c50
          subst c50
          have H1 : (Ai.l1 kj40 l0 t794 t797 t798 0 0) = some r := by rw [if_neg (show ¬ (false = true) by decide)] at H; exact H
          clear H
          have H := H1
          clear H1
          have H' := Aside0.mk H
          clear H
          go_wp2
          repeat (go_quiet (fail); try go_wp2)
          go_loopg [25, 26] kj40 (fun kq v25 v26 w' => ∃ (x25_4 : Int) (x26_4 : Int), v25 = .int .i64 x25_4 ∧ v26 = .int .i64 x26_4 ∧ Aside0 (Ai.l1 kq l0 t794 t797 t798 x25_4 x26_4 = some r) ∧ Aside0 (kq ≤ kj40) ∧ Aside0 (Kd.R k59 59 w' w.heap.size (fun _ => True) (.slice Ao43 t794.length co43) t794) ∧ Aside0 (Kd.S (Kd.slice 3 (Kd.int .i64)) 53 w' w.heap.size (fun _ => True) v799 t797) ∧ Aside0 (Below w.heap.size w w'))
          case atStart => exact ⟨(0), (0), Yd_, Yd_, H', ⟨Nat.le_refl _⟩, ⟨by (with_reducible repeat (first | apply Kd.Ap | apply Kd.Am | apply Kd.Ba)); exact HO_20.out⟩, ⟨by (with_reducible repeat (first | apply Kd.Fp | apply Kd.Fq | apply Kd.F7)); exact HO_21.out⟩, ⟨by repeat (first | (with_reducible first | exact HB.out | apply Af | apply Ad | apply Ae) | exact HB.out)⟩⟩
          case round =>
           clear H'
           try clear c1
           try clear c2
           try clear p2
           try clear c3
           try clear c4
           try clear c5
           try clear p6
           try clear p7
           try clear q7
           try clear hx7
           try clear qi7
           try clear c13
           try clear c16
           try clear c16b0
           try clear c16b1
           try clear c17
           try clear c17b0
           try clear c17b1
           try clear c18
           try clear c18b0
           try clear c18b1
           try clear c18b2
           try clear c19
           try clear c19b0
           try clear c19b1
           try clear c20
           try clear c20b0
           try clear c20b1
           try clear c21
           try clear c23
           try clear c24
           try clear c24b0
           try clear c24b1
           try clear c25
           try clear c25b0
           try clear c26
           try clear c26b0
           try clear c27
           try clear c27b0
           try clear c28
           try clear c28b0
           try clear c29
           try clear c29b0
           try clear c30
           try clear c30b0
           try clear c31
           try clear c31b0
           try clear c32
           try clear c32b0
           try clear c33
           try clear c33b0
           try clear c35
           try clear c46
           try clear c46b0
           try clear c46b1
           try clear c46b2
           try clear c50
           try clear hx787_0
           try clear hx787_1
           try clear hx787_2
           try clear hx788_0
           try clear hx788_1
           try clear hx788_2
           try clear hx789_0
           try clear hx789_1
           try clear hx789_2
           try clear hx790_0
           try clear hx790_1
           try clear hx790_2
           try clear hx792_0
           try clear hx792_1
           try clear hx792_2
           try clear hx793_0
           try clear hx793_1
           try clear hx793_2
           try clear p2
           try clear p6
           try clear p7
           try clear p787
           try clear p788
           try clear p789
           try clear p790
           try clear p792
           try clear p793
           try clear q7
           try clear q787
           try clear q788
           try clear q789
           try clear q790
           try clear q792
           try clear q793
           obtain ⟨x25_4, x26_4, rfl, rfl, HA, HK4, HO_20, HO_21, HB⟩ := hrel
           cases gk with
           | zero => exact absurd HA.out (by simp [Ai.l1])
           | succ k4 =>
            have H := HA.out
            clear HA
            simp only [Ai.l1] at H
            by_cases c51 : x26_4 < (t797.length : Int)
            ·rw [if_pos c51] at H
             have c51b0 : decide (x26_4 < (t797.length : Int)) = true := decide_eq_true c51
             clear c51
             by_cases c52 : 0 ≤ x26_4
             ·rw [if_pos c52] at H
              have c52b0 : decide (0 ≤ x26_4) = true := decide_eq_true c52
              clear c52
              by_cases c53 : 1 < ((Es t797 x26_4).length : Int)
              ·rw [if_pos c53] at H
               have c53b0 : decide (1 < ((Es t797 x26_4).length : Int)) = true := decide_eq_true c53
               have c53b1 : decide (1 < (Es t797 x26_4).length) = true := decide_eq_true (by omega)
               clear c53
               by_cases c54 : 2 < ((Es t797 x26_4).length : Int)
               ·rw [if_pos c54] at H
                have c54b0 : decide (2 < ((Es t797 x26_4).length : Int)) = true := decide_eq_true c54
                have c54b1 : decide (2 < (Es t797 x26_4).length) = true := decide_eq_true (by omega)
                clear c54
                by_cases c55 : (rd (Es t797 x26_4) 2) = 0
                ·rw [if_pos c55] at H
                 exact absurd H (by simp)
                ·rw [if_neg c55] at H
                 have c55b0 : ((rd (Es t797 x26_4) 2) == 0) = false := beq_eq_false_iff_ne.mpr c55
                 have c55b1 : ((rd (Es t797 x26_4) 2) != 0) = true := bne_iff_ne.mpr c55
                 have H' := Aside0.mk H
                 clear H
                 obtain ⟨Ao56, co56, eo56⟩ := Kd.S_slice HO_21.out
                 subst eo56
                 have p806 : 0 ≤ (x26_4 : Int) := of_decide_eq_true Yc_
                 have q806 : x26_4 < (t797.length : Int) := of_decide_eq_true Yc_
                 obtain ⟨ad806, A806_0, c806_0, e806, hx806_0, hl806_0, hi806_0⟩ := at_L6 (Kd.S_reads' HO_21.out).2.2 x26_4 p806 q806
                 cases e806
                 obtain ⟨ce806, hce806, hMe806, hcc806⟩ := Kd.S_get HO_21.out [] x26_4 p806 (by first | exact q806 | exact of_decide_eq_true Yc_ | (have e_ := (Kd.S_reads' HO_21.out).1; omega))
                 obtain ⟨ve806_0, rfl, ge806_0⟩ := hMe806
                 have hv806_0 := hcc806 0 _ rfl
                 rw [Nat.add_zero, show ((Kd.slice 3 (Kd.int .i64))).sz = 1 from rfl, Nat.mul_one] at hv806_0
                 replace hv806_0 := Option.some.inj (hv806_0.symm.trans hx806_0)
                 rw [hv806_0] at ge806_0
                 have HL806_0 := Aside0.mk (show Kd.R (Kd.int .i64) 3 _ _ _ _ (Es t797 x26_4) from ge806_0)
                 clear hv806_0 ge806_0
                 clear hcc806 hce806
                 have HR806_0 := Aside0.mk hi806_0
                 have HC806_0 := Aside0.mk hl806_0
                 clear hi806_0 hl806_0
                 replace p806 := eq_true p806
                 replace q806 := eq_true q806
                 have p807 : 0 ≤ (1 : Int) := (by omega)
                 have q807 : 1 < ((Es t797 x26_4).length : Int) := of_decide_eq_true Yc_
                 obtain ⟨ad807, e807, hx807_0⟩ := Kd.Fv (by repeat (first | (with_reducible exact HR806_0.out) | (with_reducible refine Kd.Be ?_ _) | (with_reducible refine Kd.Bf ?_ _) | (with_reducible refine Kd.Bh ?_) | exact HR806_0.out)) 1 p807 q807
                 cases e807
                 (try simp only [show (1 : Int).toNat = 1 from rfl, Nat.reduceMul, Nat.reduceEqDiff, Go.Addr.add, ↓reduceIte] at hx807_0)
                 have qi807 : (1 < (Es t797 x26_4).length) = True := eq_true (by omega)
                 (try rw [show ((1 : Int)).toNat = 1 from rfl] at hx807_0)
                 replace p807 := eq_true p807
                 replace q807 := eq_true q807
                 have p808 : 0 ≤ (x26_4 : Int) := of_decide_eq_true Yc_
                 have q808 : x26_4 < (t797.length : Int) := of_decide_eq_true Yc_
                 obtain ⟨ad808, A808_0, c808_0, e808, hx808_0, hl808_0, hi808_0⟩ := at_L6 (Kd.S_reads' HO_21.out).2.2 x26_4 p808 q808
                 obtain rfl : ad806 = ad808 := (by injection e808)
                 obtain ⟨ce808, hce808, hMe808, hcc808⟩ := Kd.S_get HO_21.out [] x26_4 p808 (by first | exact q808 | exact of_decide_eq_true Yc_ | (have e_ := (Kd.S_reads' HO_21.out).1; omega))
                 obtain ⟨ve808_0, rfl, ge808_0⟩ := hMe808
                 have hv808_0 := hcc808 0 _ rfl
                 rw [Nat.add_zero, show ((Kd.slice 3 (Kd.int .i64))).sz = 1 from rfl, Nat.mul_one] at hv808_0
                 replace hv808_0 := Option.some.inj (hv808_0.symm.trans hx808_0)
                 rw [hv808_0] at ge808_0
                 have HL808_0 := Aside0.mk (show Kd.R (Kd.int .i64) 3 _ _ _ _ (Es t797 x26_4) from ge808_0)
                 clear hv808_0 ge808_0
                 clear hcc808 hce808
                 have HR808_0 := Aside0.mk hi808_0
                 have HC808_0 := Aside0.mk hl808_0
                 clear hi808_0 hl808_0
                 replace p808 := eq_true p808
                 replace q808 := eq_true q808
                 have ea_ := Option.some.inj (hx806_0.symm.trans hx808_0)
                 injection ea_ with ea_ en_ ec_
                 subst ea_
                 subst ec_
                 clear en_
                 have p809 : 0 ≤ (2 : Int) := (by omega)
                 have q809 : 2 < ((Es t797 x26_4).length : Int) := of_decide_eq_true Yc_
                 obtain ⟨ad809, e809, hx809_0⟩ := Kd.Fv (by repeat (first | (with_reducible exact HR808_0.out) | (with_reducible refine Kd.Be ?_ _) | (with_reducible refine Kd.Bf ?_ _) | (with_reducible refine Kd.Bh ?_) | exact HR808_0.out)) 2 p809 q809
                 cases e809
                 (try simp only [show (2 : Int).toNat = 2 from rfl, Nat.reduceMul, Nat.reduceEqDiff, Go.Addr.add, ↓reduceIte] at hx809_0)
                 have qi809 : (2 < (Es t797 x26_4).length) = True := eq_true (by omega)
                 (try rw [show ((2 : Int)).toNat = 2 from rfl] at hx809_0)
                 replace p809 := eq_true p809
                 replace q809 := eq_true q809
                 go_wp2
                 repeat (go_quiet (fail); try go_wp2)
                 go_roundg k4
                 case measure => have := HJ8.out; have := HJ21.out; have := HJ40.out; have := HK4.out; omega
                 case rel => exact ⟨(wrap64 (x25_4 + (wrap64 ((rd (Es t797 x26_4) 1) * (wrap64 ((t794.length : Int) / (rd (Es t797 x26_4) 2))))))), (wrap64 (x26_4 + 1)), Yd_, Yd_, H', ⟨by have := HJ8.out; have := HJ21.out; have := HJ40.out; have := HK4.out; omega⟩, ⟨by (with_reducible repeat (first | apply Kd.Ap | apply Kd.Am | apply Kd.Ba)); exact HO_20.out⟩, ⟨by (with_reducible repeat (first | apply Kd.Fp | apply Kd.Fq | apply Kd.F7)); exact HO_21.out⟩, ⟨by repeat (first | (with_reducible first | exact HB.out | apply Af | apply Ad | apply Ae) | exact HB.out)⟩⟩
               ·rw [if_neg c54] at H
                exact absurd H (by simp)
              ·rw [if_neg c53] at H
               exact absurd H (by simp)
             ·rw [if_neg c52] at H
              exact absurd H (by simp)
            ·rw [if_neg c51] at H
             have c51b0 : decide (x26_4 < (t797.length : Int)) = false := decide_eq_false c51
             clear c51
             have HC57 := Aside0.mk H
             clear H
             obtain ⟨Ao58, co58, eo58⟩ := Kd.S_slice HO_21.out
             subst eo58
             go_upto_region 32 with (fail)
             repeat (go_quiet (fail); go_upto_region 32 with (fail))
             go_cut [215] (fun v215 wc => ∃ (kq : Nat) (x215_56 : Bool), v215 = .bool x215_56 ∧ Aside0 (Ai.j5 kq l0 x215_56 = some r) ∧ Aside0 (kq ≤ k4) ∧ Aside0 (Below w.heap.size w wc))
             case first =>
              have H := HC57.out
              clear HC57
              by_cases c59 : t798 = true
              ·subst c59
               have H1 : (Ai.j5 k4 l0 (x25_4 != (t794.length : Int))) = some r := by rw [if_pos rfl] at H; exact H
               clear H
               have H := H1
               clear H1
               have H' := Aside0.mk H
               clear H
               go_wp2
               repeat (go_quiet (fail); try go_wp2)
               go_meet
               case rel => exact ⟨_, ((x25_4 != (t794.length : Int))), Yd_, H', ⟨by have := HJ8.out; have := HJ21.out; have := HJ40.out; have := HK4.out; first | omega | exact Nat.le_refl _⟩, ⟨by repeat (first | (with_reducible first | exact HB.out | apply Af | apply Ad | apply Ae) | exact HB.out)⟩⟩
              ·replace c59 := Bool.eq_false_iff.mpr c59
               subst c59
               have H1 : (Ai.j5 k4 l0 false) = some r := by rw [if_neg (show ¬ (false = true) by decide)] at H; exact H
               clear H
               have H := H1
               clear H1
               have H' := Aside0.mk H
               clear H
               go_wp2
               repeat (go_quiet (fail); try go_wp2)
               go_meet
               case rel => exact ⟨_, (false), Yd_, H', ⟨by have := HJ8.out; have := HJ21.out; have := HJ40.out; have := HK4.out; first | omega | exact Nat.le_refl _⟩, ⟨by repeat (first | (with_reducible first | exact HB.out | apply Af | apply Ad | apply Ae) | exact HB.out)⟩⟩
             case rest => as_aux_lemma =>
              clear HC57
              try clear c1
              try clear c2
              try clear p2
              try clear c3
              try clear c4
              try clear c5
              try clear p6
              try clear p7
              try clear q7
              try clear hx7
              try clear qi7
              try clear c8
              try clear p8
              try clear q8
              try clear hx8
              try clear qi8
              try clear c13
              try clear c16
              try clear c16b0
              try clear c16b1
              try clear c17
              try clear c17b0
              try clear c17b1
              try clear c18
              try clear c18b0
              try clear c18b1
              try clear c18b2
              try clear c19
              try clear c19b0
              try clear c19b1
              try clear c20
              try clear c20b0
              try clear c20b1
              try clear c21
              try clear c23
              try clear c24
              try clear c24b0
              try clear c24b1
              try clear c25
              try clear c25b0
              try clear c26
              try clear c26b0
              try clear c27
              try clear c27b0
              try clear c28
              try clear c28b0
              try clear c29
              try clear c29b0
              try clear c30
              try clear c30b0
              try clear c31
              try clear c31b0
              try clear c32
              try clear c32b0
              try clear c33
              try clear c33b0
              try clear c35
              try clear c46
              try clear c46b0
              try clear c46b1
              try clear c46b2
              try clear c50
              try clear c51
              try clear c51b0
              try clear c52
              try clear c52b0
              try clear c53
              try clear c53b0
              try clear c53b1
              try clear c54
              try clear c54b0
              try clear c54b1
              try clear c55
              try clear c55b0
              try clear c55b1
              try clear c59
              try clear hx787_0
              try clear hx787_1
              try clear hx787_2
              try clear hx788_0
              try clear hx788_1
              try clear hx788_2
              try clear hx789_0
              try clear hx789_1
              try clear hx789_2
              try clear hx790_0
              try clear hx790_1
              try clear hx790_2
              try clear hx792_0
              try clear hx792_1
              try clear hx792_2
              try clear hx793_0
              try clear hx793_1
              try clear hx793_2
              try clear hx806_0
              try clear hx807_0
              try clear hx808_0
              try clear hx809_0
              try clear p2
              try clear p6
              try clear p7
              try clear p787
              try clear p788
              try clear p789
              try clear p790
              try clear p792
              try clear p793
              try clear p806
              try clear p807
              try clear p808
              try clear p809
              try clear q7
              try clear q787
              try clear q788
              try clear q789
              try clear q790
              try clear q792
              try clear q793
              try clear q806
              try clear q807
              try clear q808
              try clear q809
              obtain ⟨kq, x215_56, rfl, HA, HJ56, HB⟩ := hcut
              cases kq with
              | zero => exact absurd HA.out (by simp [Ai.j5])
              | succ kj56 =>
               have H := HA.out
               clear HA
               simp only [Ai.j5] at H
               by_cases c60 : x215_56 = true
               ·subst c60
                have H1 : (some false) = some r := by rw [if_pos rfl] at H; exact H
                clear H
                have H := H1
                clear H1
                exact absurd (Option.some.inj H) (by rw [HR_.out]; decide)
               ·replace c60 := Bool.eq_false_iff.mpr c60
                subst c60
                have H1 : ((D7.f kj56 l0).bind fun bt810 => ((impl_LongStays.f kj56 bt810.1 bt810.2).bind fun bt814 => ((Ef.f kj56 bt810.1 bt810.2).bind fun bt818 => (if (bt814.2 == bt818.2) = true then ((Du.f kj56 bt814.1 bt818.1).bind fun t822 => (some t822)) else (some false))))) = some r := by rw [if_neg (show ¬ (false = true) by decide)] at H; exact H
                clear H
                have H := H1
                clear H1
                replace H := Option.bind_eq_some_iff.mp H
                obtain ⟨⟨t810, t811⟩, A610, H⟩ := H
                replace H : ((impl_LongStays.f kj56 t810 t811).bind fun bt814 => ((Ef.f kj56 t810 t811).bind fun bt818 => (if (bt814.2 == bt818.2) = true then ((Du.f kj56 bt814.1 bt818.1).bind fun t822 => (some t822)) else (some false)))) = some r := H
                have A61 := Aside0.mk A610
                clear A610
                replace H := Option.bind_eq_some_iff.mp H
                obtain ⟨⟨t814, t815⟩, A620, H⟩ := H
                replace H : ((Ef.f kj56 t810 t811).bind fun bt818 => (if (t815 == bt818.2) = true then ((Du.f kj56 t814 bt818.1).bind fun t822 => (some t822)) else (some false))) = some r := H
                have A62 := Aside0.mk A620
                clear A620
                replace H := Option.bind_eq_some_iff.mp H
                obtain ⟨⟨t818, t819⟩, A630, H⟩ := H
                replace H : (if (t815 == t819) = true then ((Du.f kj56 t814 t818).bind fun t822 => (some t822)) else (some false)) = some r := H
                have A63 := Aside0.mk A630
                clear A630
                by_cases c64 : (t815 == t819) = true
                ·rw [if_pos c64] at H
                 have c64b0 : (t815 == t819) = true := c64
                 (try (have c64b1 : decide (t815 = t819) = true := by simpa using c64))
                 (try (have c64b2 : (t815 == t819) = true := by simpa using c64))
                 clear c64
                 replace H := Option.bind_eq_some_iff.mp H
                 obtain ⟨t822, A650, H⟩ := H
                 replace H : (some t822) = some r := H
                 have A65 := Aside0.mk A650
                 clear A650
                 obtain rfl := Option.some.inj H
                 go_wp2_with (first | (go_at_call 50; (with_reducible refine (D7.calls kj56 _ _ l0 t810 t811 _ ?side1 ?side2 A61.out).mono ?_); (case side1 => repeat (first | exact (Kd.C_below HR0.out HB.out) | (with_reducible refine Kd.Be ?_ _) | (with_reducible refine Kd.Bf ?_ _) | (with_reducible refine Kd.Bh ?_))); (case side2 => exact HC0.out); rintro e w66 ⟨v812, rfl, ho0, hb⟩; have n0_ := Aside0.mk (Kd.R_lower ho0 (below_size Ya_)); have n1_ := Aside0.mk (below_step Ya_ hb); clear HB; have HO813 := n0_; have HB := n1_; clear n0_ n1_; (try clear hb); (try clear hb2); (try clear hk); (try clear hi); (try clear ho0); obtain ⟨Ao67, co67, eo67⟩ := Kd.R_slice HO813.out; subst eo67) | (go_at_call 41; (with_reducible refine (impl_LongStays.calls kj56 _ _ t810 t811 t814 t815 _ ?side1 ?side2 A62.out).mono ?_); (case side1 => repeat (first | exact (Kd.R_reads' HO813.out).2.2 | (with_reducible refine Kd.Be ?_ _) | (with_reducible refine Kd.Bf ?_ _) | (with_reducible refine Kd.Bh ?_))); (case side2 => exact (Kd.R_reads' HO813.out).2.1); rintro e w68 ⟨v816, rfl, ho0, hb⟩; have n0_ := Aside0.mk (Kd.R_below Ycg_ hb); have n1_ := Aside0.mk (Kd.R_lower ho0 (below_size Ya_)); have n2_ := Aside0.mk (below_step Ya_ hb); clear HO813; clear HB; have HO813 := n0_; have HO817 := n1_; have HB := n2_; clear n0_ n1_ n2_; (try clear hb); (try clear hb2); (try clear hk); (try clear hi); (try clear ho0)) | (go_at_call 40; (with_reducible refine (Ef.calls kj56 _ _ t810 t811 t818 t819 _ ?side1 ?side2 A63.out).mono ?_); (case side1 => repeat (first | exact (Kd.R_reads' HO813.out).2.2 | (with_reducible refine Kd.Be ?_ _) | (with_reducible refine Kd.Bf ?_ _) | (with_reducible refine Kd.Bh ?_))); (case side2 => exact (Kd.R_reads' HO813.out).2.1); rintro e w69 ⟨v820, rfl, ho0, hb⟩; have n0_ := Aside0.mk (Kd.R_below Ycg_ hb); have n1_ := Aside0.mk (Kd.Gs Ych_ (Kd.Gv ho0) hb); have n2_ := Aside0.mk (Kd.R_lower (Kd.G7 ho0 (Kd.R_lt Ych_)) (below_size Ya_)); have n3_ := Aside0.mk (below_step Ya_ hb); clear HO813; clear HO817; clear HB; have HO813 := n0_; have HO817 := n1_; have HO821 := n2_; have HB := n3_; clear n0_ n1_ n2_ n3_; (try clear hb); (try clear hb2); (try clear hk); (try clear hi); (try clear ho0); obtain ⟨Ao70, co70, eo70⟩ := Kd.R_slice HO817.out; subst eo70; obtain ⟨Ao71, co71, eo71⟩ := Kd.R_slice HO821.out; subst eo71) | (go_at_call 51; (with_reducible refine (Du.calls kj56 _ _ t814 _ _ t818 t822 _ ?side1 ?side2 ?side3 ?side4 A65.out).mono ?_); (case side1 => repeat (first | exact (Kd.R_reads' HO817.out).2.2 | (with_reducible refine Kd.Be ?_ _) | (with_reducible refine Kd.Bf ?_ _) | (with_reducible refine Kd.Bh ?_))); (case side2 => exact (Kd.R_reads' HO817.out).2.1); (case side3 => repeat (first | exact (Kd.R_reads' HO821.out).2.2 | (with_reducible refine Kd.Be ?_ _) | (with_reducible refine Kd.Bf ?_ _) | (with_reducible refine Kd.Bh ?_))); (case side4 => exact (Kd.R_reads' HO821.out).2.1); rintro e w' ⟨rfl, ⟨nd, rfl⟩⟩; (try first | exact ⟨rfl, _, World.drewN_drewN _ _ _⟩ | exact ⟨rfl, _, Eq.trans (World.drewN_drewN _ _ _) (congrArg (World.drewN _) (Nat.add_assoc _ _ _))⟩)))
                 repeat (go_quiet (first | (go_at_call 50; (with_reducible refine (D7.calls kj56 _ _ l0 t810 t811 _ ?side1 ?side2 A61.out).mono ?_); (case side1 => repeat (first | exact (Kd.C_below HR0.out HB.out) | (with_reducible refine Kd.Be ?_ _) | (with_reducible refine Kd.Bf ?_ _) | (with_reducible refine Kd.Bh ?_))); (case side2 => exact HC0.out); rintro e w66 ⟨v812, rfl, ho0, hb⟩; have n0_ := Aside0.mk (Kd.R_lower ho0 (below_size Ya_)); have n1_ := Aside0.mk (below_step Ya_ hb); clear HB; have HO813 := n0_; have HB := n1_; clear n0_ n1_; (try clear hb); (try clear hb2); (try clear hk); (try clear hi); (try clear ho0); obtain ⟨Ao67, co67, eo67⟩ := Kd.R_slice HO813.out; subst eo67) | (go_at_call 41; (with_reducible refine (impl_LongStays.calls kj56 _ _ t810 t811 t814 t815 _ ?side1 ?side2 A62.out).mono ?_); (case side1 => repeat (first | exact (Kd.R_reads' HO813.out).2.2 | (with_reducible refine Kd.Be ?_ _) | (with_reducible refine Kd.Bf ?_ _) | (with_reducible refine Kd.Bh ?_))); (case side2 => exact (Kd.R_reads' HO813.out).2.1); rintro e w68 ⟨v816, rfl, ho0, hb⟩; have n0_ := Aside0.mk (Kd.R_below Ycg_ hb); have n1_ := Aside0.mk (Kd.R_lower ho0 (below_size Ya_)); have n2_ := Aside0.mk (below_step Ya_ hb); clear HO813; clear HB; have HO813 := n0_; have HO817 := n1_; have HB := n2_; clear n0_ n1_ n2_; (try clear hb); (try clear hb2); (try clear hk); (try clear hi); (try clear ho0)) | (go_at_call 40; (with_reducible refine (Ef.calls kj56 _ _ t810 t811 t818 t819 _ ?side1 ?side2 A63.out).mono ?_); (case side1 => repeat (first | exact (Kd.R_reads' HO813.out).2.2 | (with_reducible refine Kd.Be ?_ _) | (with_reducible refine Kd.Bf ?_ _) | (with_reducible refine Kd.Bh ?_))); (case side2 => exact (Kd.R_reads' HO813.out).2.1); rintro e w69 ⟨v820, rfl, ho0, hb⟩; have n0_ := Aside0.mk (Kd.R_below Ycg_ hb); have n1_ := Aside0.mk (Kd.Gs Ych_ (Kd.Gv ho0) hb); have n2_ := Aside0.mk (Kd.R_lower (Kd.G7 ho0 (Kd.R_lt Ych_)) (below_size Ya_)); have n3_ := Aside0.mk (below_step Ya_ hb); clear HO813; clear HO817; clear HB; have HO813 := n0_; have HO817 := n1_; have HO821 := n2_; have HB := n3_; clear n0_ n1_ n2_ n3_; (try clear hb); (try clear hb2); (try clear hk); (try clear hi); (try clear ho0); obtain ⟨Ao70, co70, eo70⟩ := Kd.R_slice HO817.out; subst eo70; obtain ⟨Ao71, co71, eo71⟩ := Kd.R_slice HO821.out; subst eo71) | (go_at_call 51; (with_reducible refine (Du.calls kj56 _ _ t814 _ _ t818 t822 _ ?side1 ?side2 ?side3 ?side4 A65.out).mono ?_); (case side1 => repeat (first | exact (Kd.R_reads' HO817.out).2.2 | (with_reducible refine Kd.Be ?_ _) | (with_reducible refine Kd.Bf ?_ _) | (with_reducible refine Kd.Bh ?_))); (case side2 => exact (Kd.R_reads' HO817.out).2.1); (case side3 => repeat (first | exact (Kd.R_reads' HO821.out).2.2 | (with_reducible refine Kd.Be ?_ _) | (with_reducible refine Kd.Bf ?_ _) | (with_reducible refine Kd.Bh ?_))); (case side4 => exact (Kd.R_reads' HO821.out).2.1); rintro e w' ⟨rfl, ⟨nd, rfl⟩⟩; (try first | exact ⟨rfl, _, World.drewN_drewN _ _ _⟩ | exact ⟨rfl, _, Eq.trans (World.drewN_drewN _ _ _) (congrArg (World.drewN _) (Nat.add_assoc _ _ _))⟩))); try go_wp2_with (first | (go_at_call 50; (with_reducible refine (D7.calls kj56 _ _ l0 t810 t811 _ ?side1 ?side2 A61.out).mono ?_); (case side1 => repeat (first | exact (Kd.C_below HR0.out HB.out) | (with_reducible refine Kd.Be ?_ _) | (with_reducible refine Kd.Bf ?_ _) | (with_reducible refine Kd.Bh ?_))); (case side2 => exact HC0.out); rintro e w66 ⟨v812, rfl, ho0, hb⟩; have n0_ := Aside0.mk (Kd.R_lower ho0 (below_size Ya_)); have n1_ := Aside0.mk (below_step Ya_ hb); clear HB; have HO813 := n0_; have HB := n1_; clear n0_ n1_; (try clear hb); (try clear hb2); (try clear hk); (try clear hi); (try clear ho0); obtain ⟨Ao67, co67, eo67⟩ := Kd.R_slice HO813.out; subst eo67) | (go_at_call 41; (with_reducible refine (impl_LongStays.calls kj56 _ _ t810 t811 t814 t815 _ ?side1 ?side2 A62.out).mono ?_); (case side1 => repeat (first | exact (Kd.R_reads' HO813.out).2.2 | (with_reducible refine Kd.Be ?_ _) | (with_reducible refine Kd.Bf ?_ _) | (with_reducible refine Kd.Bh ?_))); (case side2 => exact (Kd.R_reads' HO813.out).2.1); rintro e w68 ⟨v816, rfl, ho0, hb⟩; have n0_ := Aside0.mk (Kd.R_below Ycg_ hb); have n1_ := Aside0.mk (Kd.R_lower ho0 (below_size Ya_)); have n2_ := Aside0.mk (below_step Ya_ hb); clear HO813; clear HB; have HO813 := n0_; have HO817 := n1_; have HB := n2_; clear n0_ n1_ n2_; (try clear hb); (try clear hb2); (try clear hk); (try clear hi); (try clear ho0)) | (go_at_call 40; (with_reducible refine (Ef.calls kj56 _ _ t810 t811 t818 t819 _ ?side1 ?side2 A63.out).mono ?_); (case side1 => repeat (first | exact (Kd.R_reads' HO813.out).2.2 | (with_reducible refine Kd.Be ?_ _) | (with_reducible refine Kd.Bf ?_ _) | (with_reducible refine Kd.Bh ?_))); (case side2 => exact (Kd.R_reads' HO813.out).2.1); rintro e w69 ⟨v820, rfl, ho0, hb⟩; have n0_ := Aside0.mk (Kd.R_below Ycg_ hb); have n1_ := Aside0.mk (Kd.Gs Ych_ (Kd.Gv ho0) hb); have n2_ := Aside0.mk (Kd.R_lower (Kd.G7 ho0 (Kd.R_lt Ych_)) (below_size Ya_)); have n3_ := Aside0.mk (below_step Ya_ hb); clear HO813; clear HO817; clear HB; have HO813 := n0_; have HO817 := n1_; have HO821 := n2_; have HB := n3_; clear n0_ n1_ n2_ n3_; (try clear hb); (try clear hb2); (try clear hk); (try clear hi); (try clear ho0); obtain ⟨Ao70, co70, eo70⟩ := Kd.R_slice HO817.out; subst eo70; obtain ⟨Ao71, co71, eo71⟩ := Kd.R_slice HO821.out; subst eo71) | (go_at_call 51; (with_reducible refine (Du.calls kj56 _ _ t814 _ _ t818 t822 _ ?side1 ?side2 ?side3 ?side4 A65.out).mono ?_); (case side1 => repeat (first | exact (Kd.R_reads' HO817.out).2.2 | (with_reducible refine Kd.Be ?_ _) | (with_reducible refine Kd.Bf ?_ _) | (with_reducible refine Kd.Bh ?_))); (case side2 => exact (Kd.R_reads' HO817.out).2.1); (case side3 => repeat (first | exact (Kd.R_reads' HO821.out).2.2 | (with_reducible refine Kd.Be ?_ _) | (with_reducible refine Kd.Bf ?_ _) | (with_reducible refine Kd.Bh ?_))); (case side4 => exact (Kd.R_reads' HO821.out).2.1); rintro e w' ⟨rfl, ⟨nd, rfl⟩⟩; (try first | exact ⟨rfl, _, World.drewN_drewN _ _ _⟩ | exact ⟨rfl, _, Eq.trans (World.drewN_drewN _ _ _) (congrArg (World.drewN _) (Nat.add_assoc _ _ _))⟩))))
                 go_ret
                 exact ⟨by first | rfl | (simp [Aw, Az] <;> rfl) | (simp [*, Aw, Az] <;> rfl), by repeat (first | (with_reducible first | exact HB.out | apply Af | apply Ad | apply Ae) | exact HB.out)⟩
                ·rw [if_neg c64] at H
                 have c64b0 : (t815 == t819) = false := by simpa using c64
                 (try (have c64b1 : decide (t815 = t819) = false := by simpa using c64))
                 (try (have c64b2 : (t815 == t819) = false := by simpa using c64))
                 (try (have c64b3 : ¬ (t815 = t819) := by simpa using c64))
                 clear c64
                 exact absurd (Option.some.inj H) (by rw [HR_.out]; decide)
end Go.Proofs.Ytolaplcjbmjlmaa.X

namespace Go.Proofs.YtolaplcjbmjlmaaZ
open Go.ChangeShapes Go.WideShapes Go.ChangeAt Go.RowKit
open Go.Proofs.YtolaplcjbmjlmaaW.PrintWords
section
variable {P : Program}
/-- A reading of type t is a value of kind d, and the value fits. -/
def Opens (P : Program) {α : Type} (d : Kd α) (t : TypeId) (fits : α → Prop) : Prop :=
 ∀ {H : Type} {enc : TypeId × Value → H} {w : World} {base : Nat} {spare : Nat → Bool} {held : Bool} {fuel : Nat} {cs : List Value} {x : DataW H × List MemPlace},
  DataW.trod enc P w base spare held fuel t cs = some x → (∀ n ∈ x.1.weights P t, n ≤ reachBytes) → ∃ v, d.K w v cs ∧ fits v
theorem opens_int {k : IntKind} {t : TypeId} (ht : P.underlying t = some (.int k)) : Opens P (Kd.int k) t (fun n => (Lit.int k n).wf = true) := by
 intro H enc w base spare held fuel cs x h _
 obtain ⟨n, rfl, _, hw⟩ := DataW.trod_int ht h
 exact ⟨n, rfl, hw⟩
theorem weightsAll_mem {H : Type} {e : TypeId} {d : DataW H} {n : Nat} : ∀ {l : List (DataW H)}, d ∈ l → n ∈ d.weights P e → n ∈ DataW.weightsAll P e l
 | [], h, _ => by cases h
 | x :: r, h, hn => by
  simp only [DataW.weightsAll, List.mem_append]
  rcases List.mem_cons.1 h with rfl | h
  ·exact .inl hn
  ·exact .inr (weightsAll_mem h hn)
theorem weightsEach_mem {H : Type} {n : Nat} : ∀ {ts : List TypeId} {l : List (DataW H)} {i : Nat} {t : TypeId} {d : DataW H}, ts[i]? = some t → l[i]? = some d → n ∈ d.weights P t → n ∈ DataW.weightsEach P ts l
 | [], l, i, t, d, h, _, _ => by simp at h
 | t :: ts, [], i, _, _, _, h, _ => by simp at h
 | t :: ts, d :: l, 0, _, _, h, k, hn => by
  simp at h k; subst h k
  simp only [DataW.weightsEach, List.mem_append]; exact .inl hn
 | t :: ts, d :: l, i + 1, _, _, h, k, hn => by
  simp at h k
  simp only [DataW.weightsEach, List.mem_append]; exact .inr (weightsEach_mem h k hn)
theorem opens_slice {α : Type} (z : α) {d : Kd α} {t e : TypeId} {fits : α → Prop} (ht : P.underlying t = some (.slice e)) (hsz : P.cellsOf e = d.sz) (he : Opens P d e fits) {B : Nat} (hB : P.bytesOf e = B) :
  Opens P (Kd.slice e d) t (fun l => l.length * B ≤ 140737488351232 ∧ l.length ≤ 9223372036854775807 ∧ ∀ x ∈ l, fits x) := by
 intro H enc w base spare held fuel cs x h hw
 rcases Deep.open_slice ht h with ⟨rfl, rfl⟩ | ⟨a, len, cap, m, n, D, Pl, rfl, hb, hl, hm, hmm, rfl, hc⟩
 ·exact ⟨[], ⟨none, 0, rfl, Nat.le_refl _, Kd.C_nil d w⟩, by simp, by simp, fun x hx => by cases hx⟩
 ·have hlm : len ≤ m := by rw [hmm]; split <;> omega
  have hbnd : len * B ≤ 140737488351232 := by
   have := hw ((((List.range len).map D).length + ((List.range (m - len)).map fun j => D (len + j)).length) * P.bytesOf e) (by simp [DataW.weights, ht])
   simp only [List.length_map, List.length_range, hB] at this
   have h2 : len * B ≤ (len + (m - len)) * B := Nat.mul_le_mul_right _ (by omega)
   exact Nat.le_trans h2 this
  have hel : ∀ i, i < len → ∃ v : α, (∃ c, c.length = d.sz ∧ d.K w v c ∧ ∀ j u, c[j]? = some u → w.cell? (a.add (i * d.sz + j)) = some u) ∧ fits v := by
   intro i hi
   obtain ⟨c, h1, h2⟩ := hc i (by omega)
   obtain ⟨v, hv, hf⟩ := he h2 (fun k hk => hw k (by
    simp only [DataW.weights, ht, List.mem_cons, List.mem_append]
    exact .inr (.inl (weightsAll_mem (d := D i) (List.mem_map.2 ⟨i, List.mem_range.2 hi, rfl⟩) hk))))
   rw [hsz] at h1
   obtain ⟨_, hlen, hcell⟩ := World.cells?_some h1
   refine ⟨v, ⟨c, hlen, hv, fun j u hj => ?_⟩, hf⟩
   have hjl : j < d.sz := by rw [← hlen]; exact (List.getElem?_eq_some_iff.1 hj).1
   rw [← Deep.add_add, hcell j hjl]
   exact hj
  haveI : Inhabited α := ⟨z⟩
  obtain ⟨f, hf⟩ := Deep.choose_lt hel
  refine ⟨(List.range len).map f, ⟨some a, cap, by simp, by simpa using hl, ⟨by simp, ?_, fun _ => ⟨a, rfl, ?_⟩⟩⟩, by simpa using hbnd, by simp; unfold maxLen at hm; omega, ?_⟩
  ·simp; unfold maxLen at hm; omega
  ·intro j p hj
   have hjl : j < len := by
    have := (List.getElem?_eq_some_iff.1 hj).1
    simpa using this
   rw [List.getElem?_map, List.getElem?_range hjl] at hj
   simp only [Option.map_some, Option.some.injEq] at hj
   subst hj
   exact (hf j hjl).1
  ·intro x hx
   obtain ⟨j, hj, rfl⟩ := List.mem_map.1 hx
   exact (hf j (List.mem_range.1 hj)).2
/-- A parameter's weights are among all. -/
theorem weights_param {H : Type} {ts : List TypeId} {ds : List (DataW H)} {j : Nat} {t : TypeId} {d : DataW H} (hsz : (DataW.weightsEach P ts ds).all (· ≤ reachBytes) = true) (ht : ts[j]? = some t) (hd : ds[j]? = some d) : ∀ n ∈ d.weights P t, n ≤ reachBytes := fun n hn => by
 have := List.all_eq_true.1 hsz n (weightsEach_mem ht hd hn)
 simpa using this
end
end Go.Proofs.YtolaplcjbmjlmaaZ

namespace Go.Proofs.Ytolaplcjbmjlmaa.X
open Go.RowKit Go.Proofs.YtolaplcjbmjlmaaW.PrintWords Go.Proofs.YtolaplcjbmjlmaaW.PrintLast Go.Proofs.YtolaplcjbmjlmaaW.PrintMore
open Go.Proofs.YtolaplcjbmjlmaaZ
namespace OFnStays
def Pure : Prop := ∀ (l0 : List Int), (l0.length * 1 ≤ 140737488351232 ∧ l0.length ≤ 9223372036854775807 ∧ ∀ y2 ∈ l0, (Lit.int .u8 y2).wf = true) → ∃ k, Ai.f k l0 = some true
end OFnStays
end Go.Proofs.Ytolaplcjbmjlmaa.X

namespace Go.Proofs.YtolaplcjbmjlmaaL
open Go.RowKit Go.Proofs.YtolaplcjbmjlmaaW.PrintWords
theorem ev_eq {α : Type} {g : Nat → Option α} {r : α} (h : ∀ k, g k = some r) : Ev g r := ⟨0, fun k _ => h k⟩
theorem ev_rounds {α : Type} {g : Nat → Option α} {r : α} (h : Ev g r) : ∃ k, g k = some r := h.rounds
theorem Fg {x : Int} (h0 : -9223372036854775808 ≤ x) (h1 : x ≤ 9223372036854775807) : wrap64 x = x := by unfold wrap64; omega
theorem wrap_succ {n : Nat} (h : n < 9223372036854775807) : wrap64 ((n : Int) + 1) = ((n + 1 : Nat) : Int) := by rw [Fg (by omega) (by omega)]; rfl
theorem wrap_nat (n : Nat) (h : n ≤ 9223372036854775807) : wrap64 (n : Int) = (n : Int) := Fg (by omega) (by omega)
theorem rd_at (l : List Int) (n : Nat) (h : n < l.length) : rd l (n : Int) = l[n] := by simp [rd, List.getD_eq_getElem?_getD, List.getElem?_eq_getElem h]
end Go.Proofs.YtolaplcjbmjlmaaL

namespace Go.Proofs.Ytolaplcjbmjlmaa.X
open Go.RowKit Go.Proofs.YtolaplcjbmjlmaaW.PrintWords Go.Proofs.YtolaplcjbmjlmaaW.PrintLast Go.Proofs.YtolaplcjbmjlmaaW.PrintMore
attribute [local go_sem] max2_int min2_int max_two min_two max_three min_three max_four min_four
def Fb.f (l0 : List (S62)) (a1 : Int) : Option (Int) := if (wrap64 (a1 - (l0.length : Int))) < 0 then (some (-1)) else (some (wrap64 (a1 - (l0.length : Int))))
set_option maxHeartbeats 8000000 in
set_option maxRecDepth 100000 in
theorem Fb.calls (A0 : Option Addr) (c0 : Nat) (l0 : List (S62)) (a1 : Int) (r : Int) (w : World) (hr0 : Kd.C k62 w A0 l0.length l0) (hc0 : l0.length ≤ c0) (h : Fb.f l0 a1 = some r) :
  Calls Try.prog 16 #[.slice A0 l0.length c0, .int .i64 a1] w fun e w' => e = .returned (.int .i64 r) ∧ Drawn0 w w' := by
 have HR0 := Aside0.mk hr0
 have HC0 := Aside0.mk hc0
 clear hr0 hc0
 have H : (if (wrap64 (a1 - (l0.length : Int))) < 0 then (some (-1)) else (some (wrap64 (a1 - (l0.length : Int))))) = some r := h
 clear h
 by_cases c3 : (wrap64 (a1 - (l0.length : Int))) < 0
 ·rw [if_pos c3] at H
  have c3b0 : decide ((wrap64 (a1 - (l0.length : Int))) < 0) = true := decide_eq_true c3
  clear c3
  obtain rfl := Option.some.inj H
  go_enter Try.func16, Try.ntmps16
  go_wp2
  go_ret
  exact ⟨by first | rfl | (simp; done) | (simp [*]; done), by repeat (first | exact Drawn0.refl _ | apply Drawn0.step)⟩
 ·rw [if_neg c3] at H
  have c3b0 : decide ((wrap64 (a1 - (l0.length : Int))) < 0) = false := decide_eq_false c3
  clear c3
  obtain rfl := Option.some.inj H
  go_enter Try.func16, Try.ntmps16
  go_wp2
  go_ret
  exact ⟨by first | rfl | (simp; done) | (simp [*]; done), by repeat (first | exact Drawn0.refl _ | apply Drawn0.step)⟩
end Go.Proofs.Ytolaplcjbmjlmaa.X

namespace Go.Proofs.Ytolaplcjbmjlmaa.X
open Go.RowKit Go.Proofs.YtolaplcjbmjlmaaW.PrintWords Go.Proofs.YtolaplcjbmjlmaaW.PrintLast Go.Proofs.YtolaplcjbmjlmaaW.PrintMore
attribute [local go_sem] max2_int min2_int max_two min_two max_three min_three max_four min_four
def Fj.f (k : Nat) (l0 : List (S59)) : Option (Bool) := (Aq.f k l0).bind fun t120 => (some t120)
theorem Fj.mono : ∀ a0 k, LeO (Fj.f k a0) (Fj.f (k + 1) a0) := by
 intro a0 k
 unfold Fj.f
 repeat' first
   | (with_reducible exact Aq.mono _ _)
   | (with_reducible exact LeO.refl _)
   | (with_reducible exact LeO.none _)
   | (with_reducible refine LeO.ite ?_ ?_)
   | (with_reducible refine LeO.bind ?_ (fun _ => ?_))
   | exact Aq.mono _ _
   | exact LeO.none _
   | refine LeO.ite ?_ ?_
   | refine LeO.bind ?_ (fun _ => ?_)
set_option maxHeartbeats 8000000 in
set_option maxRecDepth 100000 in
theorem Fj.calls (k : Nat) (A0 : Option Addr) (c0 : Nat) (l0 : List (S59)) (r : Bool) (w : World) (hr0 : Kd.C k59 w A0 l0.length l0) (hc0 : l0.length ≤ c0) (h : Fj.f k l0 = some r) :
  Calls Try.prog 17 #[.slice A0 l0.length c0] w fun e w' => e = .returned (.bool r) ∧ Below w.heap.size w w' := by
 have HR0 := Aside0.mk hr0
 have HC0 := Aside0.mk hc0
 clear hr0 hc0
 have HB := Aside0.mk (Below.refl w.heap.size w)
 have H : ((Aq.f k l0).bind fun t120 => (some t120)) = some r := h
 clear h
 replace H := Option.bind_eq_some_iff.mp H
 obtain ⟨t120, A20, H⟩ := H
 replace H : (some t120) = some r := H
 have A2 := Aside0.mk A20
 clear A20
 obtain rfl := Option.some.inj H
 go_enter Try.func17, Try.ntmps17
 go_wp2_with (first | ((with_reducible refine gate_callee (f := 54) rfl ?_); refine goesL_ (some 4) rfl rfl Try.func54 (by kernel_rfl) rfl #[.slice A0 l0.length c0] rfl Yb_ ?_; (with_reducible refine (Aq.calls k _ _ l0 t120 _ ?side1 ?side2 A2.out).mono ?_); (case side1 => repeat (first | exact HR0.out | (with_reducible refine Kd.Be ?_ _) | (with_reducible refine Kd.Bf ?_ _) | (with_reducible refine Kd.Bh ?_))); (case side2 => exact HC0.out); rintro e w3 ⟨rfl, hb⟩; refine ⟨_, rfl, ?_⟩; have n0_ := Aside0.mk (below_step Ya_ hb); clear HB; have HB := n0_; clear n0_; (try clear hb); (try clear hb2); (try clear hk); (try clear hi)))
 go_ret
 exact ⟨by first | rfl | (simp [Aw, Az] <;> rfl) | (simp [*, Aw, Az] <;> rfl), by repeat (first | (with_reducible first | exact HB.out | apply Af | apply Ad | apply Ae) | exact HB.out)⟩
end Go.Proofs.Ytolaplcjbmjlmaa.X

namespace Go.Proofs.Ytolaplcjbmjlmaa.X
open Go.RowKit Go.Proofs.YtolaplcjbmjlmaaW.PrintWords Go.Proofs.YtolaplcjbmjlmaaW.PrintLast Go.Proofs.YtolaplcjbmjlmaaW.PrintMore
attribute [local go_sem] max2_int min2_int max_two min_two max_three min_three max_four min_four
def laws_toStay.f (a0_0 : Int) (a0_1 : Int) (a0_2 : Int) : Option (Int × Int × Int) := some (a0_0, a0_1, a0_2)
set_option maxHeartbeats 8000000 in
set_option maxRecDepth 100000 in
theorem laws_toStay.calls (a0_0 : Int) (a0_1 : Int) (a0_2 : Int) (r1 : Int) (r2 : Int) (r3 : Int) (w : World) (h : laws_toStay.f a0_0 a0_1 a0_2 = some (r1, r2, r3)) :
  Calls Try.prog 55 #[.agg #[.int .i64 a0_0, .int .i64 a0_1, .int .i64 a0_2]] w fun e w' => e = .returned (.agg #[.int .i64 r1, .int .i64 r2, .int .i64 r3]) ∧ Below w.heap.size w w' := by
 have hu62 := Try.underlying62
 have hu59 := Try.underlying59
 have HB := Aside0.mk (Below.refl w.heap.size w)
 have H : (some (a0_0, a0_1, a0_2)) = some (r1, r2, r3) := h
 clear h
 simp only [Option.some.injEq, Prod.mk.injEq] at H
 obtain ⟨rfl, rfl, rfl⟩ := H
 go_enter Try.func55, Try.ntmps55
 go_wp2_with (first | ((with_reducible refine gate_dst (N := 1) rfl ?_); refine box_event ?hg (N := 1) ?hd (cs := #[.int .i64 a0_0, .int .i64 a0_1, .int .i64 a0_2]) (t := 62) ?hr ?_; (case hd => rfl); (case hg => rfl); (case hr => first | (go_simp; done) | (go_simp; rfl)); intro gb0 hg w2 hbox hb; have n0_ := Aside0.mk (below_step Ya_ hb); have n1_ := Aside0.mk (hbox); have n2_ := Aside0.mk ((by rw [hg]; exact (below_size Ya_) : w.heap.size ≤ gb0)); have n3_ := Aside0.mk ((by rw [hg]; exact (below_size Ya_) : w.heap.size ≤ gb0)); clear HB; have HB := n0_; have BK0 := n1_; have GW0 := n2_; have GE0 := n3_; clear n0_ n1_ n2_ n3_; clear hb hbox hg) | ((with_reducible refine gate_dst (N := 2) rfl ?_); refine box_event ?hg (N := 2) ?hd (cs := #[.int .i64 0, .int .i64 0, .int .i64 0]) (t := 59) ?hr ?_; (case hd => rfl); (case hg => rfl); (case hr => first | (go_simp; done) | (go_simp; rfl)); intro gb1 hg w3 hbox hb; have n0_ := Aside0.mk (blk_below (g := gb0) (o := .cells #[.int .i64 a0_0, .int .i64 a0_1, .int .i64 a0_2] 62 (0, 0)) Ybc_ hb); have n1_ := Aside0.mk (below_step Yj_ hb); have n2_ := Aside0.mk (hbox); have n3_ := Aside0.mk ((by rw [hg]; exact (below_size Yj_) : w.heap.size ≤ gb1)); have n4_ := Aside0.mk ((by rw [hg]; exact (below_size Yj_) : w.heap.size ≤ gb1)); have n5_ := Aside0.mk ((by rw [hg]; exact Nat.ne_of_lt (blk_lt (g := gb0) (o := .cells #[.int .i64 a0_0, .int .i64 a0_1, .int .i64 a0_2] 62 (0, 0)) Ybc_) : gb0 ≠ gb1)); have n6_ := Aside0.mk ((by rw [hg]; exact Nat.ne_of_gt (blk_lt (g := gb0) (o := .cells #[.int .i64 a0_0, .int .i64 a0_1, .int .i64 a0_2] 62 (0, 0)) Ybc_) : gb1 ≠ gb0)); clear BK0; clear HB; have BK0 := n0_; have HB := n1_; have BK1 := n2_; have GW1 := n3_; have GE1 := n4_; have NB0_1 := n5_; have NB1_0 := n6_; clear n0_ n1_ n2_ n3_ n4_ n5_ n6_; clear hb hbox hg) | ((with_reducible refine gate_dst (N := 3) rfl ?_); refine box_event ?hg (N := 3) ?hd (cs := #[.int .i64 0, .int .i64 0, .int .i64 0]) (t := 59) ?hr ?_; (case hd => rfl); (case hg => rfl); (case hr => first | (go_simp; done) | (go_simp; rfl)); intro gb2 hg w4 hbox hb; have n0_ := Aside0.mk (blk_below (g := gb0) (o := .cells #[.int .i64 a0_0, .int .i64 a0_1, .int .i64 a0_2] 62 (0, 0)) Ybc_ hb); have n1_ := Aside0.mk (blk_below (g := gb1) (o := .cells #[.int .i64 0, .int .i64 0, .int .i64 0] 59 (0, 0)) Yea_ hb); have n2_ := Aside0.mk (below_step Yda_ hb); have n3_ := Aside0.mk (hbox); have n4_ := Aside0.mk ((by rw [hg]; exact (below_size Yda_) : w.heap.size ≤ gb2)); have n5_ := Aside0.mk ((by rw [hg]; exact (below_size Yda_) : w.heap.size ≤ gb2)); have n6_ := Aside0.mk ((by rw [hg]; exact Nat.ne_of_lt (blk_lt (g := gb0) (o := .cells #[.int .i64 a0_0, .int .i64 a0_1, .int .i64 a0_2] 62 (0, 0)) Ybc_) : gb0 ≠ gb2)); have n7_ := Aside0.mk ((by rw [hg]; exact Nat.ne_of_gt (blk_lt (g := gb0) (o := .cells #[.int .i64 a0_0, .int .i64 a0_1, .int .i64 a0_2] 62 (0, 0)) Ybc_) : gb2 ≠ gb0)); have n8_ := Aside0.mk ((by rw [hg]; exact Nat.ne_of_lt (blk_lt (g := gb1) (o := .cells #[.int .i64 0, .int .i64 0, .int .i64 0] 59 (0, 0)) Yea_) : gb1 ≠ gb2)); have n9_ := Aside0.mk ((by rw [hg]; exact Nat.ne_of_gt (blk_lt (g := gb1) (o := .cells #[.int .i64 0, .int .i64 0, .int .i64 0] 59 (0, 0)) Yea_) : gb2 ≠ gb1)); clear BK0; clear BK1; clear HB; have BK0 := n0_; have BK1 := n1_; have HB := n2_; have BK2 := n3_; have GW2 := n4_; have GE2 := n5_; have NB0_2 := n6_; have NB2_0 := n7_; have NB1_2 := n8_; have NB2_1 := n9_; clear n0_ n1_ n2_ n3_ n4_ n5_ n6_ n7_ n8_ n9_; clear hb hbox hg; have hnb5 := NB0_1.out; have hnc5 := NB1_0.out; have hnb6 := NB0_2.out; have hnc6 := NB2_0.out; have hcz7_0 : w4.cell? ⟨gb0, 0, none⟩ = some (.int .i64 a0_0) := (blk_cell BK0.out 0).trans rfl; have hcz7_1 : w4.cell? ⟨gb0, 1, none⟩ = some (.int .i64 a0_1) := (blk_cell BK0.out 1).trans rfl; have hcz7_2 : w4.cell? ⟨gb0, 2, none⟩ = some (.int .i64 a0_2) := (blk_cell BK0.out 2).trans rfl; have hfz7_0 := blk_frozen BK0.out 0; have hfz7_1 := blk_frozen BK0.out 1; have hfz7_2 := blk_frozen BK0.out 2; have hnb8 := NB2_1.out; have hnc8 := NB1_2.out; have hcz9_0 : w4.cell? ⟨gb2, 0, none⟩ = some (.int .i64 0) := (blk_cell BK2.out 0).trans rfl; have hcz9_1 : w4.cell? ⟨gb2, 1, none⟩ = some (.int .i64 0) := (blk_cell BK2.out 1).trans rfl; have hcz9_2 : w4.cell? ⟨gb2, 2, none⟩ = some (.int .i64 0) := (blk_cell BK2.out 2).trans rfl; have hfz9_0 := blk_frozen BK2.out 0; have hfz9_1 := blk_frozen BK2.out 1; have hfz9_2 := blk_frozen BK2.out 2; have hcz10_0 : w4.cell? ⟨gb1, 0, none⟩ = some (.int .i64 0) := (blk_cell BK1.out 0).trans rfl; have hcz10_1 : w4.cell? ⟨gb1, 1, none⟩ = some (.int .i64 0) := (blk_cell BK1.out 1).trans rfl; have hcz10_2 : w4.cell? ⟨gb1, 2, none⟩ = some (.int .i64 0) := (blk_cell BK1.out 2).trans rfl; have hfz10_0 := blk_frozen BK1.out 0; have hfz10_1 := blk_frozen BK1.out 1; have hfz10_2 := blk_frozen BK1.out 2))
 refine bodyPost_ret (results_cell_row rfl _ _ gb1 59 #[.int .i64 a0_0, .int .i64 a0_1, .int .i64 a0_2] (0, 0) _ rfl (by (with_reducible repeat (first | refine Dn ?_ _ | refine Dv ?_ | refine Dl ?_ _)); refine blk_put (cs := #[.int .i64 a0_0, .int .i64 a0_1, .int .i64 0]) ?_ 2 _ rfl; (with_reducible repeat (first | refine Dn ?_ _ | refine Dv ?_ | refine Dl ?_ _)); refine blk_put (cs := #[.int .i64 a0_0, .int .i64 0, .int .i64 0]) ?_ 1 _ rfl; (with_reducible repeat (first | refine Dn ?_ _ | refine Dv ?_ | refine Dl ?_ _)); refine blk_put (cs := #[.int .i64 0, .int .i64 0, .int .i64 0]) ?_ 0 _ rfl; (with_reducible repeat (first | refine Dn ?_ _ | refine Dv ?_ | refine Dl ?_ _)); refine blk_far ?_ NB1_2.out _; (with_reducible repeat (first | refine Dn ?_ _ | refine Dv ?_ | refine Dl ?_ _)); refine blk_far ?_ NB1_2.out _; (with_reducible repeat (first | refine Dn ?_ _ | refine Dv ?_ | refine Dl ?_ _)); refine blk_far ?_ NB1_2.out _; (with_reducible repeat (first | refine Dn ?_ _ | refine Dv ?_ | refine Dl ?_ _)); exact BK1.out) Try.underlying59 rfl (by kernel_rfl)) rfl ?_
 exact ⟨by first | rfl | (simp [Aw, Az] <;> rfl) | (simp [*, Aw, Az] <;> rfl), by repeat (first | (with_reducible first | exact HB.out | apply Af | apply Ad | apply Ae | refine Ar ?_ GE0.out | refine Ar ?_ GE1.out | refine Ar ?_ GE2.out) | exact HB.out)⟩
end Go.Proofs.Ytolaplcjbmjlmaa.X

namespace Go.Proofs.Ytolaplcjbmjlmaa.X
open Go.RowKit Go.Proofs.YtolaplcjbmjlmaaW.PrintWords Go.Proofs.YtolaplcjbmjlmaaW.PrintLast Go.Proofs.YtolaplcjbmjlmaaW.PrintMore
attribute [local go_sem] max2_int min2_int max_two min_two max_three min_three max_four min_four
def Bd.l0 : Nat → List (S62) → List (S59) → Int → Option ((List (S59)))
 | 0, _, _, _ => none
 | k + 1, x0, x3, x4 => if x4 < (x0.length : Int) then (if 0 ≤ x4 then ((laws_toStay.f ((rd_T62 x0 x4).f0) ((rd_T62 x0 x4).f1) ((rd_T62 x0 x4).f2)).bind fun bt128 => (if x4 < (x3.length : Int) then (Bd.l0 k x0 (x3.set (x4 : Int).toNat (⟨bt128.1, bt128.2.1, bt128.2.2⟩ : S59)) (wrap64 (x4 + 1))) else (none))) else (none)) else (some x3)
def Bd.f (k : Nat) (l0 : List (S62)) : Option ((List (S59))) := if 0 ≤ (l0.length : Int) then (if ((l0.length : Int) : Int).toNat ≤ 11728124029610 then (Bd.l0 k l0 (List.replicate ((l0.length : Int) : Int).toNat z59) 0) else (none)) else (none)
theorem Bd.Dq : ∀ k, (∀ y0 y1 y2, LeO (Bd.l0 k y0 y1 y2) (Bd.l0 (k + 1) y0 y1 y2))
 | 0 => fun _ _ _ r h => by simp [Bd.l0] at h
 | k + 1 => by
  have ih0 := Bd.Dq k
  ·intro y0 y1 y2
   unfold Bd.l0
   repeat' first
   | (with_reducible exact ih0 _ _ _)
   | (with_reducible exact LeO.refl _)
   | (with_reducible exact LeO.none _)
   | (with_reducible refine LeO.ite ?_ ?_)
   | (with_reducible refine LeO.bind ?_ (fun _ => ?_))
   | exact ih0 _ _ _
   | exact LeO.none _
   | refine LeO.ite ?_ ?_
   | refine LeO.bind ?_ (fun _ => ?_)
theorem Bd.mono : ∀ a0 k, LeO (Bd.f k a0) (Bd.f (k + 1) a0) := by
 intro a0 k
 have ih0 := Bd.Dq k
 unfold Bd.f
 repeat' first
   | (with_reducible exact ih0 _ _ _)
   | (with_reducible exact LeO.refl _)
   | (with_reducible exact LeO.none _)
   | (with_reducible refine LeO.ite ?_ ?_)
   | (with_reducible refine LeO.bind ?_ (fun _ => ?_))
   | exact ih0 _ _ _
   | exact LeO.none _
   | refine LeO.ite ?_ ?_
   | refine LeO.bind ?_ (fun _ => ?_)
set_option maxHeartbeats 8000000 in
set_option maxRecDepth 100000 in
theorem Bd.calls (k : Nat) (A0 : Option Addr) (c0 : Nat) (l0 : List (S62)) (r : List (S59)) (w : World) (hr0 : Kd.C k62 w A0 l0.length l0) (hc0 : l0.length ≤ c0) (h : Bd.f k l0 = some r) :
  Calls Try.prog 18 #[.slice A0 l0.length c0] w fun e w' => ∃ v0_ : Value, e = .returned (v0_) ∧ Kd.R k59 59 w' w.heap.size (fun _ => True) v0_ r ∧ Below w.heap.size w w' := by
 have hu62 := Try.underlying62
 have hu59 := Try.underlying59
 have HR0 := Aside0.mk hr0
 have HC0 := Aside0.mk hc0
 clear hr0 hc0
 have HB := Aside0.mk (Below.refl w.heap.size w)
 have H : (if 0 ≤ (l0.length : Int) then (if ((l0.length : Int) : Int).toNat ≤ 11728124029610 then (Bd.l0 k l0 (List.replicate ((l0.length : Int) : Int).toNat z59) 0) else (none)) else (none)) = some r := h
 clear h
 by_cases c2 : 0 ≤ (l0.length : Int)
 ·rw [if_pos c2] at H
  have c2b0 := eq_true c2
  have c2b1 : decide (0 ≤ (l0.length : Int)) = true := decide_eq_true c2
  clear c2
  by_cases c3 : ((l0.length : Int) : Int).toNat ≤ 11728124029610
  ·rw [if_pos c3] at H
   have c3b0 := eq_true c3
   have c3b1 : decide (((l0.length : Int) : Int).toNat ≤ 11728124029610) = true := decide_eq_true c3
   clear c3
   obtain ⟨y124, hy124⟩ : ∃ y_ : List (S59), y_ = (List.replicate ((l0.length : Int) : Int).toNat z59) := ⟨_, rfl⟩
   replace H : (Bd.l0 k l0 y124 0) = some r := by first | (rw [hy124]; with_reducible exact H) | (have H2_ := (Option.bind_some _ _).symm.trans H; rw [hy124]; with_reducible exact H2_) | (have H2_ := (Option.bind_some _ _).symm.trans H; with_reducible exact H2_) | with_reducible exact H | (rw [hy124]; exact H) | exact H
   have Ny124 := Aside0.mk hy124
   clear hy124
   have H' := Aside0.mk H
   clear H
   go_enter Try.func18, Try.ntmps18
   go_wp2_with (first | ((with_reducible refine gate_dst (N := 7) rfl ?_); refine Kd.R_make k59 _ 59 rfl (N := 7) rfl 28 _ _ rfl (l0.length : Int) rfl rfl Try.underlying28 (.agg #[(.int .i64 0), (.int .i64 0), (.int .i64 0)]) 24 info59 rfl (by decide) (by omega) z59 (ok := fun _ => True) (okp := fun _ => True) (Hy _ _ _ z59 ) (fun _ hk => hk) trivial (of_decide_eq_true Yc_) (Nat.le_trans (Nat.mul_le_mul_right _ (of_decide_eq_true Yc_ : (l0.length : Int).toNat ≤ 11728124029610)) (by omega)) (Below.refl _ _) (Nat.le_refl _) ?_; intro v125 w4 ho5 hb hg_ hnew_; clear hg_ hnew_; (first | rw [← Ny124.out] at ho5 | (simp only [Int.reduceToNat] at ho5; rw [← Ny124.out] at ho5)); have n0_ := Aside0.mk (Kd.R_lower ho5 (below_size Ya_)); have n1_ := Aside0.mk (below_step Ya_ hb); clear HB; have HO126 := n0_; have HB := n1_; clear n0_ n1_; clear hb ho5))
   go_loopg [4] k (fun kq v4 w' => ∃ (x3_1 : List (S59)) (x4_1 : Int), v4 = .int .i64 x4_1 ∧ Aside0 (Bd.l0 kq l0 x3_1 x4_1 = some r) ∧ Aside0 (kq ≤ k) ∧ Aside0 (Kd.R k59 59 w' w.heap.size (fun _ => True) v125 x3_1) ∧ Aside0 (Below w.heap.size w w'))
   case atStart => exact ⟨(y124), (0), Yd_, H', ⟨Nat.le_refl _⟩, ⟨by (with_reducible repeat (first | apply Kd.Ap | apply Kd.Am | apply Kd.Ba)); exact HO126.out⟩, ⟨by repeat (first | (with_reducible first | exact HB.out | apply Af | apply Ad | apply Ae) | exact HB.out)⟩⟩
   case round =>
    clear H'
    try clear c1
    try clear c2
    try clear c2b0
    try clear c2b1
    try clear p2
    try clear c3
    try clear c3b0
    try clear c3b1
    obtain ⟨x3_1, x4_1, rfl, HA, HK1, HO_3, HB⟩ := hrel
    cases gk with
    | zero => exact absurd HA.out (by simp [Bd.l0])
    | succ k1 =>
     have H := HA.out
     clear HA
     simp only [Bd.l0] at H
     by_cases c6 : x4_1 < (l0.length : Int)
     ·rw [if_pos c6] at H
      have c6b0 : decide (x4_1 < (l0.length : Int)) = true := decide_eq_true c6
      clear c6
      by_cases c7 : 0 ≤ x4_1
      ·rw [if_pos c7] at H
       have c7b0 : decide (0 ≤ x4_1) = true := decide_eq_true c7
       clear c7
       replace H := Option.bind_eq_some_iff.mp H
       obtain ⟨⟨t128, t129, t130⟩, A80, H⟩ := H
       replace H : (if x4_1 < (x3_1.length : Int) then (Bd.l0 k1 l0 (x3_1.set (x4_1 : Int).toNat (⟨t128, t129, t130⟩ : S59)) (wrap64 (x4_1 + 1))) else (none)) = some r := H
       have A8 := Aside0.mk A80
       clear A80
       by_cases c9 : x4_1 < (x3_1.length : Int)
       ·rw [if_pos c9] at H
        have c9b0 : decide (x4_1 < (x3_1.length : Int)) = true := decide_eq_true c9
        clear c9
        obtain ⟨y131, hy131⟩ : ∃ y_ : List (S59), y_ = (x3_1.set (x4_1 : Int).toNat (⟨t128, t129, t130⟩ : S59)) := ⟨_, rfl⟩
        replace H : (Bd.l0 k1 l0 y131 (wrap64 (x4_1 + 1))) = some r := by first | (rw [hy131]; with_reducible exact H) | (have H2_ := (Option.bind_some _ _).symm.trans H; rw [hy131]; with_reducible exact H2_) | (have H2_ := (Option.bind_some _ _).symm.trans H; with_reducible exact H2_) | with_reducible exact H | (rw [hy131]; exact H) | exact H
        have Ny131 := Aside0.mk hy131
        clear hy131
        have H' := Aside0.mk H
        clear H
        have p127 : 0 ≤ (x4_1 : Int) := of_decide_eq_true Yc_
        have q127 : x4_1 < (l0.length : Int) := of_decide_eq_true Yc_
        obtain ⟨ad127, e127, hx127_0, hx127_1, hx127_2⟩ := at_T62 HR0.out x4_1 p127 q127
        cases e127
        replace hx127_0 := (HB.out.cell (World.block_lt_of_cell? w _ hx127_0)).trans hx127_0
        replace hx127_1 := (HB.out.cell (World.block_lt_of_cell? w _ hx127_1)).trans hx127_1
        replace hx127_2 := (HB.out.cell (World.block_lt_of_cell? w _ hx127_2)).trans hx127_2
        replace p127 := eq_true p127
        replace q127 := eq_true q127
        go_wp2_with (first | ((with_reducible refine gate_callee (f := 55) rfl ?_); refine goesL_ (some 20) rfl rfl Try.func55 (by kernel_rfl) rfl #[.agg #[.int .i64 ((rd_T62 l0 x4_1).f0), .int .i64 ((rd_T62 l0 x4_1).f1), .int .i64 ((rd_T62 l0 x4_1).f2)]] rfl Yb_ ?_; (with_reducible refine (laws_toStay.calls ((rd_T62 l0 x4_1).f0) ((rd_T62 l0 x4_1).f1) ((rd_T62 l0 x4_1).f2) t128 t129 t130 _ A8.out).mono ?_); rintro e w11 ⟨rfl, hb⟩; refine ⟨_, rfl, ?_⟩; have n0_ := Aside0.mk (Kd.R_below Yg_ hb); have n1_ := Aside0.mk (below_step Ya_ hb); clear HO_3; clear HB; have HO_3 := n0_; have HB := n1_; clear n0_ n1_; (try clear hb); (try clear hb2); (try clear hk); (try clear hi); have p10 : 0 ≤ (x4_1 : Int) := of_decide_eq_true Yc_; have q10 : (x4_1 : Int) < ((x3_1.length : Int) : Int) := of_decide_eq_true Yc_; obtain ⟨go10, co10, eo10, gb10, gl10, cl10, HG10⟩ := Kd.R_form HO_3.out (by omega); (first | cases eo10 | (injection eo10 with ea_ en_ ec_; (first | subst ea_ | (injection ea_ with ea_; subst ea_)); subst ec_; clear en_)); have GB10 := Aside0.mk gb10; have GG10 := Aside0.mk HG10; clear gb10 gl10 HG10; obtain ⟨ce10, hcl10, hM10, hcc10, hfr10⟩ := Kd.Gu HO_3.out z59 (x4_1 : Int) p10 q10; obtain rfl := Gi hM10; have hx10_0 : w11.cell? ⟨go10, (x4_1 : Int).toNat * 3, none⟩ = some (.int .i64 ((Ah x3_1 x4_1).f0)) := hcc10 0 _ rfl; have hx10_1 : w11.cell? ⟨go10, (x4_1 : Int).toNat * 3 + 1, none⟩ = some (.int .i64 ((Ah x3_1 x4_1).f1)) := hcc10 1 _ rfl; have hx10_2 : w11.cell? ⟨go10, (x4_1 : Int).toNat * 3 + 2, none⟩ = some (.int .i64 ((Ah x3_1 x4_1).f2)) := hcc10 2 _ rfl; have hf10_0 : w11.frozen? ⟨go10, (x4_1 : Int).toNat * 3, none⟩ = false := hfr10 0; have hf10_1 : w11.frozen? ⟨go10, (x4_1 : Int).toNat * 3 + 1, none⟩ = false := hfr10 1; have hf10_2 : w11.frozen? ⟨go10, (x4_1 : Int).toNat * 3 + 2, none⟩ = false := hfr10 2; (try clear hcl10); (try clear hcc10); (try clear hfr10); (try clear hM10); replace p10 := eq_true p10; replace q10 := eq_true q10; have HX12 := Aside0.mk (show Kd.R k59 59 w11 w.heap.size (fun _ => True) (.slice (some ⟨go10, 0, none⟩) x3_1.length co10) x3_1 from Yg_); obtain ⟨ce12, hcl12, hM12, hcc12, hfr12⟩ := Kd.Gu HX12.out z59 (x4_1 : Int) (of_decide_eq_true Yc_) (by have h_ : (x4_1 : Int) < ((x3_1.length : Int) : Int) := of_decide_eq_true Yc_; first | exact h_ | (have e_ := (Kd.R_reads' HO_3.out).1; omega) | simpa using h_); obtain rfl := Gi hM12; have HP12 := Kd.R_seg HX12.out (x4_1 : Int) (of_decide_eq_true Yc_) (by have h_ : (x4_1 : Int) < ((x3_1.length : Int) : Int) := of_decide_eq_true Yc_; first | exact h_ | (have e_ := (Kd.R_reads' HO_3.out).1; omega) | simpa using h_) (seg := [.int .i64 t128, .int .i64 t129, .int .i64 t130]) (j := 0) hcl12 hcc12 (show 3 ≤ 3 from by decide) (x' := (⟨t128, t129, t130⟩ : S59)) (Hy _ _ _ (⟨t128, t129, t130⟩ : S59) ) (fun _ hk => hk); have hx12_0 := hcc12 0 _ rfl; (try simp only [show (k59).sz = 3 from rfl, Nat.mul_one, Nat.add_zero] at hx12_0); have hf12_0 := hfr12 0; (try simp only [show (k59).sz = 3 from rfl, Nat.mul_one, Nat.add_zero] at hf12_0); have hx12_1 := hcc12 1 _ rfl; (try simp only [show (k59).sz = 3 from rfl, Nat.mul_one, Nat.add_zero] at hx12_1); have hf12_1 := hfr12 1; (try simp only [show (k59).sz = 3 from rfl, Nat.mul_one, Nat.add_zero] at hf12_1); have hx12_2 := hcc12 2 _ rfl; (try simp only [show (k59).sz = 3 from rfl, Nat.mul_one, Nat.add_zero] at hx12_2); have hf12_2 := hfr12 2; (try simp only [show (k59).sz = 3 from rfl, Nat.mul_one, Nat.add_zero] at hf12_2); clear hcl12 hcc12 hfr12 hM12) | ((with_reducible refine gate_store (t := 59) (p := 21) rfl ?_); refine store_event (t := 59) (p := 21) (v := ?vo_w13) (w1 := (((w11.setCell ⟨go10, (x4_1 : Int).toNat * 3, none⟩ (.int .i64 t128)).setCell ⟨go10, (x4_1 : Int).toNat * 3 + 1, none⟩ (.int .i64 t129)).setCell ⟨go10, (x4_1 : Int).toNat * 3 + 2, none⟩ (.int .i64 t130))) ?hg ?ho ?hn ?hr ?_; (case ho => rfl); (case hg => rfl); (case hn => rfl); (case hr => first | (go_simp; done) | (go_simp; rfl)); intro w13 hw; have hg : w11.grownBy w13 (some go10) := (by rw [hw]; exact HP12.2); have hp_ : Kd.R k59 59 w13 w.heap.size (fun _ => True) (.slice (some ⟨go10, 0, none⟩) x3_1.length co10) y131 := (by rw [hw, Ny131.out]; exact HP12.1); clear HP12; have n0_ := Aside0.mk (hp_); have n1_ := Aside0.mk ((by rw [hw]; exact Ar (Ar (Ar (HB.out) GB10.out) GB10.out) GB10.out : Below w.heap.size w w13)); clear HO_3; clear HB; have HO_3 := n0_; have HB := n1_; clear n0_ n1_; clear hg hw hp_))
        go_roundg k1
        case measure => have := HK1.out; omega
        case rel => exact ⟨(y131), (wrap64 (x4_1 + 1)), Yd_, H', ⟨by have := HK1.out; omega⟩, ⟨by (with_reducible repeat (first | apply Kd.Ap | apply Kd.Am | apply Kd.Ba)); exact HO_3.out⟩, ⟨by repeat (first | (with_reducible first | exact HB.out | apply Af | apply Ad | apply Ae) | exact HB.out)⟩⟩
       ·rw [if_neg c9] at H
        exact absurd H (by simp)
      ·rw [if_neg c7] at H
       exact absurd H (by simp)
     ·rw [if_neg c6] at H
      have c6b0 : decide (x4_1 < (l0.length : Int)) = false := decide_eq_false c6
      clear c6
      obtain rfl := Option.some.inj H
      go_wp2
      go_ret
      exact ⟨_, by first | rfl | (simp [Aw, Az] <;> rfl) | (simp [*, Aw, Az] <;> rfl), by (with_reducible repeat (first | apply Kd.Ap | apply Kd.Am | apply Kd.Ba)); exact HO_3.out, by repeat (first | (with_reducible first | exact HB.out | apply Af | apply Ad | apply Ae) | exact HB.out)⟩
  ·rw [if_neg c3] at H
   exact absurd H (by simp)
 ·rw [if_neg c2] at H
  exact absurd H (by simp)
end Go.Proofs.Ytolaplcjbmjlmaa.X

namespace Go.Proofs.Ytolaplcjbmjlmaa.X
open Go.RowKit Go.Proofs.YtolaplcjbmjlmaaW.PrintWords Go.Proofs.YtolaplcjbmjlmaaW.PrintLast Go.Proofs.YtolaplcjbmjlmaaW.PrintMore
attribute [local go_sem] max2_int min2_int max_two min_two max_three min_three max_four min_four
def Ii.f (a0_0 : Int) (a0_1 : Int) (a0_2 : Int) (a1_0 : Int) (a1_1 : Int) (a1_2 : Int) : Option (Bool) := if a0_0 = a1_0 then (if a0_1 = a1_1 then (if a0_2 = a1_2 then (some true) else (some false)) else (some false)) else (some false)
set_option maxHeartbeats 8000000 in
set_option maxRecDepth 100000 in
theorem Ii.calls (a0_0 : Int) (a0_1 : Int) (a0_2 : Int) (a1_0 : Int) (a1_1 : Int) (a1_2 : Int) (r : Bool) (w : World) (h : Ii.f a0_0 a0_1 a0_2 a1_0 a1_1 a1_2 = some r) :
  Calls Try.prog 58 #[.agg #[.int .i64 a0_0, .int .i64 a0_1, .int .i64 a0_2], .agg #[.int .i64 a1_0, .int .i64 a1_1, .int .i64 a1_2]] w fun e w' => e = .returned (.bool r) ∧ Below w.heap.size w w' := by
 have hu59 := Try.underlying59
 have HB := Aside0.mk (Below.refl w.heap.size w)
 have H : (if a0_0 = a1_0 then (if a0_1 = a1_1 then (if a0_2 = a1_2 then (some true) else (some false)) else (some false)) else (some false)) = some r := h
 clear h
 by_cases c3 : a0_0 = a1_0
 ·rw [if_pos c3] at H
  have c3b0 : (a0_0 == a1_0) = true := beq_iff_eq.mpr c3
  have c3b1 : (a0_0 != a1_0) = false := bne_eq_false_iff_eq.mpr c3
  clear c3
  by_cases c4 : a0_1 = a1_1
  ·rw [if_pos c4] at H
   have c4b0 : (a0_1 == a1_1) = true := beq_iff_eq.mpr c4
   have c4b1 : (a0_1 != a1_1) = false := bne_eq_false_iff_eq.mpr c4
   clear c4
   by_cases c5 : a0_2 = a1_2
   ·rw [if_pos c5] at H
    have c5b0 : (a0_2 == a1_2) = true := beq_iff_eq.mpr c5
    have c5b1 : (a0_2 != a1_2) = false := bne_eq_false_iff_eq.mpr c5
    clear c5
    obtain rfl := Option.some.inj H
    go_enter Try.func58, Try.ntmps58
    go_wp2_with (first | ((with_reducible refine gate_dst (N := 2) rfl ?_); refine box_event ?hg (N := 2) ?hd (cs := #[.int .i64 a0_0, .int .i64 a0_1, .int .i64 a0_2]) (t := 59) ?hr ?_; (case hd => rfl); (case hg => rfl); (case hr => first | (go_simp; done) | (go_simp; rfl)); intro gb0 hg w6 hbox hb; have n0_ := Aside0.mk (below_step Ya_ hb); have n1_ := Aside0.mk (hbox); have n2_ := Aside0.mk ((by rw [hg]; exact (below_size Ya_) : w.heap.size ≤ gb0)); have n3_ := Aside0.mk ((by rw [hg]; exact (below_size Ya_) : w.heap.size ≤ gb0)); clear HB; have HB := n0_; have BK0 := n1_; have GW0 := n2_; have GE0 := n3_; clear n0_ n1_ n2_ n3_; clear hb hbox hg) | ((with_reducible refine gate_dst (N := 3) rfl ?_); refine box_event ?hg (N := 3) ?hd (cs := #[.int .i64 a1_0, .int .i64 a1_1, .int .i64 a1_2]) (t := 59) ?hr ?_; (case hd => rfl); (case hg => rfl); (case hr => first | (go_simp; done) | (go_simp; rfl)); intro gb1 hg w7 hbox hb; have n0_ := Aside0.mk (blk_below (g := gb0) (o := .cells #[.int .i64 a0_0, .int .i64 a0_1, .int .i64 a0_2] 59 (0, 0)) Ybc_ hb); have n1_ := Aside0.mk (below_step Yj_ hb); have n2_ := Aside0.mk (hbox); have n3_ := Aside0.mk ((by rw [hg]; exact (below_size Yj_) : w.heap.size ≤ gb1)); have n4_ := Aside0.mk ((by rw [hg]; exact (below_size Yj_) : w.heap.size ≤ gb1)); have n5_ := Aside0.mk ((by rw [hg]; exact Nat.ne_of_lt (blk_lt (g := gb0) (o := .cells #[.int .i64 a0_0, .int .i64 a0_1, .int .i64 a0_2] 59 (0, 0)) Ybc_) : gb0 ≠ gb1)); have n6_ := Aside0.mk ((by rw [hg]; exact Nat.ne_of_gt (blk_lt (g := gb0) (o := .cells #[.int .i64 a0_0, .int .i64 a0_1, .int .i64 a0_2] 59 (0, 0)) Ybc_) : gb1 ≠ gb0)); clear BK0; clear HB; have BK0 := n0_; have HB := n1_; have BK1 := n2_; have GW1 := n3_; have GE1 := n4_; have NB0_1 := n5_; have NB1_0 := n6_; clear n0_ n1_ n2_ n3_ n4_ n5_ n6_; clear hb hbox hg; have hnb8 := NB0_1.out; have hnc8 := NB1_0.out; have hcz9_0 : w7.cell? ⟨gb0, 0, none⟩ = some (.int .i64 a0_0) := (blk_cell BK0.out 0).trans rfl; have hcz9_1 : w7.cell? ⟨gb0, 1, none⟩ = some (.int .i64 a0_1) := (blk_cell BK0.out 1).trans rfl; have hcz9_2 : w7.cell? ⟨gb0, 2, none⟩ = some (.int .i64 a0_2) := (blk_cell BK0.out 2).trans rfl; have hfz9_0 := blk_frozen BK0.out 0; have hfz9_1 := blk_frozen BK0.out 1; have hfz9_2 := blk_frozen BK0.out 2; have hcz10_0 : w7.cell? ⟨gb1, 0, none⟩ = some (.int .i64 a1_0) := (blk_cell BK1.out 0).trans rfl; have hcz10_1 : w7.cell? ⟨gb1, 1, none⟩ = some (.int .i64 a1_1) := (blk_cell BK1.out 1).trans rfl; have hcz10_2 : w7.cell? ⟨gb1, 2, none⟩ = some (.int .i64 a1_2) := (blk_cell BK1.out 2).trans rfl; have hfz10_0 := blk_frozen BK1.out 0; have hfz10_1 := blk_frozen BK1.out 1; have hfz10_2 := blk_frozen BK1.out 2))
    go_ret
    exact ⟨by first | rfl | (simp [Aw, Az] <;> rfl) | (simp [*, Aw, Az] <;> rfl), by repeat (first | (with_reducible first | exact HB.out | apply Af | apply Ad | apply Ae | refine Ar ?_ GE0.out | refine Ar ?_ GE1.out) | exact HB.out)⟩
   ·rw [if_neg c5] at H
    have c5b0 : (a0_2 == a1_2) = false := beq_eq_false_iff_ne.mpr c5
    have c5b1 : (a0_2 != a1_2) = true := bne_iff_ne.mpr c5
    obtain rfl := Option.some.inj H
    go_enter Try.func58, Try.ntmps58
    go_wp2_with (first | ((with_reducible refine gate_dst (N := 2) rfl ?_); refine box_event ?hg (N := 2) ?hd (cs := #[.int .i64 a0_0, .int .i64 a0_1, .int .i64 a0_2]) (t := 59) ?hr ?_; (case hd => rfl); (case hg => rfl); (case hr => first | (go_simp; done) | (go_simp; rfl)); intro gb0 hg w11 hbox hb; have n0_ := Aside0.mk (below_step Ya_ hb); have n1_ := Aside0.mk (hbox); have n2_ := Aside0.mk ((by rw [hg]; exact (below_size Ya_) : w.heap.size ≤ gb0)); have n3_ := Aside0.mk ((by rw [hg]; exact (below_size Ya_) : w.heap.size ≤ gb0)); clear HB; have HB := n0_; have BK0 := n1_; have GW0 := n2_; have GE0 := n3_; clear n0_ n1_ n2_ n3_; clear hb hbox hg) | ((with_reducible refine gate_dst (N := 3) rfl ?_); refine box_event ?hg (N := 3) ?hd (cs := #[.int .i64 a1_0, .int .i64 a1_1, .int .i64 a1_2]) (t := 59) ?hr ?_; (case hd => rfl); (case hg => rfl); (case hr => first | (go_simp; done) | (go_simp; rfl)); intro gb1 hg w12 hbox hb; have n0_ := Aside0.mk (blk_below (g := gb0) (o := .cells #[.int .i64 a0_0, .int .i64 a0_1, .int .i64 a0_2] 59 (0, 0)) Ybc_ hb); have n1_ := Aside0.mk (below_step Yj_ hb); have n2_ := Aside0.mk (hbox); have n3_ := Aside0.mk ((by rw [hg]; exact (below_size Yj_) : w.heap.size ≤ gb1)); have n4_ := Aside0.mk ((by rw [hg]; exact (below_size Yj_) : w.heap.size ≤ gb1)); have n5_ := Aside0.mk ((by rw [hg]; exact Nat.ne_of_lt (blk_lt (g := gb0) (o := .cells #[.int .i64 a0_0, .int .i64 a0_1, .int .i64 a0_2] 59 (0, 0)) Ybc_) : gb0 ≠ gb1)); have n6_ := Aside0.mk ((by rw [hg]; exact Nat.ne_of_gt (blk_lt (g := gb0) (o := .cells #[.int .i64 a0_0, .int .i64 a0_1, .int .i64 a0_2] 59 (0, 0)) Ybc_) : gb1 ≠ gb0)); clear BK0; clear HB; have BK0 := n0_; have HB := n1_; have BK1 := n2_; have GW1 := n3_; have GE1 := n4_; have NB0_1 := n5_; have NB1_0 := n6_; clear n0_ n1_ n2_ n3_ n4_ n5_ n6_; clear hb hbox hg; have hnb13 := NB0_1.out; have hnc13 := NB1_0.out; have hcz14_0 : w12.cell? ⟨gb0, 0, none⟩ = some (.int .i64 a0_0) := (blk_cell BK0.out 0).trans rfl; have hcz14_1 : w12.cell? ⟨gb0, 1, none⟩ = some (.int .i64 a0_1) := (blk_cell BK0.out 1).trans rfl; have hcz14_2 : w12.cell? ⟨gb0, 2, none⟩ = some (.int .i64 a0_2) := (blk_cell BK0.out 2).trans rfl; have hfz14_0 := blk_frozen BK0.out 0; have hfz14_1 := blk_frozen BK0.out 1; have hfz14_2 := blk_frozen BK0.out 2; have hcz15_0 : w12.cell? ⟨gb1, 0, none⟩ = some (.int .i64 a1_0) := (blk_cell BK1.out 0).trans rfl; have hcz15_1 : w12.cell? ⟨gb1, 1, none⟩ = some (.int .i64 a1_1) := (blk_cell BK1.out 1).trans rfl; have hcz15_2 : w12.cell? ⟨gb1, 2, none⟩ = some (.int .i64 a1_2) := (blk_cell BK1.out 2).trans rfl; have hfz15_0 := blk_frozen BK1.out 0; have hfz15_1 := blk_frozen BK1.out 1; have hfz15_2 := blk_frozen BK1.out 2))
    go_ret
    exact ⟨by first | rfl | (simp [Aw, Az] <;> rfl) | (simp [*, Aw, Az] <;> rfl), by repeat (first | (with_reducible first | exact HB.out | apply Af | apply Ad | apply Ae | refine Ar ?_ GE0.out | refine Ar ?_ GE1.out) | exact HB.out)⟩
  ·rw [if_neg c4] at H
   have c4b0 : (a0_1 == a1_1) = false := beq_eq_false_iff_ne.mpr c4
   have c4b1 : (a0_1 != a1_1) = true := bne_iff_ne.mpr c4
   obtain rfl := Option.some.inj H
   go_enter Try.func58, Try.ntmps58
   go_wp2_with (first | ((with_reducible refine gate_dst (N := 2) rfl ?_); refine box_event ?hg (N := 2) ?hd (cs := #[.int .i64 a0_0, .int .i64 a0_1, .int .i64 a0_2]) (t := 59) ?hr ?_; (case hd => rfl); (case hg => rfl); (case hr => first | (go_simp; done) | (go_simp; rfl)); intro gb0 hg w16 hbox hb; have n0_ := Aside0.mk (below_step Ya_ hb); have n1_ := Aside0.mk (hbox); have n2_ := Aside0.mk ((by rw [hg]; exact (below_size Ya_) : w.heap.size ≤ gb0)); have n3_ := Aside0.mk ((by rw [hg]; exact (below_size Ya_) : w.heap.size ≤ gb0)); clear HB; have HB := n0_; have BK0 := n1_; have GW0 := n2_; have GE0 := n3_; clear n0_ n1_ n2_ n3_; clear hb hbox hg) | ((with_reducible refine gate_dst (N := 3) rfl ?_); refine box_event ?hg (N := 3) ?hd (cs := #[.int .i64 a1_0, .int .i64 a1_1, .int .i64 a1_2]) (t := 59) ?hr ?_; (case hd => rfl); (case hg => rfl); (case hr => first | (go_simp; done) | (go_simp; rfl)); intro gb1 hg w17 hbox hb; have n0_ := Aside0.mk (blk_below (g := gb0) (o := .cells #[.int .i64 a0_0, .int .i64 a0_1, .int .i64 a0_2] 59 (0, 0)) Ybc_ hb); have n1_ := Aside0.mk (below_step Yj_ hb); have n2_ := Aside0.mk (hbox); have n3_ := Aside0.mk ((by rw [hg]; exact (below_size Yj_) : w.heap.size ≤ gb1)); have n4_ := Aside0.mk ((by rw [hg]; exact (below_size Yj_) : w.heap.size ≤ gb1)); have n5_ := Aside0.mk ((by rw [hg]; exact Nat.ne_of_lt (blk_lt (g := gb0) (o := .cells #[.int .i64 a0_0, .int .i64 a0_1, .int .i64 a0_2] 59 (0, 0)) Ybc_) : gb0 ≠ gb1)); have n6_ := Aside0.mk ((by rw [hg]; exact Nat.ne_of_gt (blk_lt (g := gb0) (o := .cells #[.int .i64 a0_0, .int .i64 a0_1, .int .i64 a0_2] 59 (0, 0)) Ybc_) : gb1 ≠ gb0)); clear BK0; clear HB; have BK0 := n0_; have HB := n1_; have BK1 := n2_; have GW1 := n3_; have GE1 := n4_; have NB0_1 := n5_; have NB1_0 := n6_; clear n0_ n1_ n2_ n3_ n4_ n5_ n6_; clear hb hbox hg; have hnb18 := NB0_1.out; have hnc18 := NB1_0.out; have hcz19_0 : w17.cell? ⟨gb0, 0, none⟩ = some (.int .i64 a0_0) := (blk_cell BK0.out 0).trans rfl; have hcz19_1 : w17.cell? ⟨gb0, 1, none⟩ = some (.int .i64 a0_1) := (blk_cell BK0.out 1).trans rfl; have hcz19_2 : w17.cell? ⟨gb0, 2, none⟩ = some (.int .i64 a0_2) := (blk_cell BK0.out 2).trans rfl; have hfz19_0 := blk_frozen BK0.out 0; have hfz19_1 := blk_frozen BK0.out 1; have hfz19_2 := blk_frozen BK0.out 2; have hcz20_0 : w17.cell? ⟨gb1, 0, none⟩ = some (.int .i64 a1_0) := (blk_cell BK1.out 0).trans rfl; have hcz20_1 : w17.cell? ⟨gb1, 1, none⟩ = some (.int .i64 a1_1) := (blk_cell BK1.out 1).trans rfl; have hcz20_2 : w17.cell? ⟨gb1, 2, none⟩ = some (.int .i64 a1_2) := (blk_cell BK1.out 2).trans rfl; have hfz20_0 := blk_frozen BK1.out 0; have hfz20_1 := blk_frozen BK1.out 1; have hfz20_2 := blk_frozen BK1.out 2))
   go_ret
   exact ⟨by first | rfl | (simp [Aw, Az] <;> rfl) | (simp [*, Aw, Az] <;> rfl), by repeat (first | (with_reducible first | exact HB.out | apply Af | apply Ad | apply Ae | refine Ar ?_ GE0.out | refine Ar ?_ GE1.out) | exact HB.out)⟩
 ·rw [if_neg c3] at H
  have c3b0 : (a0_0 == a1_0) = false := beq_eq_false_iff_ne.mpr c3
  have c3b1 : (a0_0 != a1_0) = true := bne_iff_ne.mpr c3
  obtain rfl := Option.some.inj H
  go_enter Try.func58, Try.ntmps58
  go_wp2_with (first | ((with_reducible refine gate_dst (N := 2) rfl ?_); refine box_event ?hg (N := 2) ?hd (cs := #[.int .i64 a0_0, .int .i64 a0_1, .int .i64 a0_2]) (t := 59) ?hr ?_; (case hd => rfl); (case hg => rfl); (case hr => first | (go_simp; done) | (go_simp; rfl)); intro gb0 hg w21 hbox hb; have n0_ := Aside0.mk (below_step Ya_ hb); have n1_ := Aside0.mk (hbox); have n2_ := Aside0.mk ((by rw [hg]; exact (below_size Ya_) : w.heap.size ≤ gb0)); have n3_ := Aside0.mk ((by rw [hg]; exact (below_size Ya_) : w.heap.size ≤ gb0)); clear HB; have HB := n0_; have BK0 := n1_; have GW0 := n2_; have GE0 := n3_; clear n0_ n1_ n2_ n3_; clear hb hbox hg) | ((with_reducible refine gate_dst (N := 3) rfl ?_); refine box_event ?hg (N := 3) ?hd (cs := #[.int .i64 a1_0, .int .i64 a1_1, .int .i64 a1_2]) (t := 59) ?hr ?_; (case hd => rfl); (case hg => rfl); (case hr => first | (go_simp; done) | (go_simp; rfl)); intro gb1 hg w22 hbox hb; have n0_ := Aside0.mk (blk_below (g := gb0) (o := .cells #[.int .i64 a0_0, .int .i64 a0_1, .int .i64 a0_2] 59 (0, 0)) Ybc_ hb); have n1_ := Aside0.mk (below_step Yj_ hb); have n2_ := Aside0.mk (hbox); have n3_ := Aside0.mk ((by rw [hg]; exact (below_size Yj_) : w.heap.size ≤ gb1)); have n4_ := Aside0.mk ((by rw [hg]; exact (below_size Yj_) : w.heap.size ≤ gb1)); have n5_ := Aside0.mk ((by rw [hg]; exact Nat.ne_of_lt (blk_lt (g := gb0) (o := .cells #[.int .i64 a0_0, .int .i64 a0_1, .int .i64 a0_2] 59 (0, 0)) Ybc_) : gb0 ≠ gb1)); have n6_ := Aside0.mk ((by rw [hg]; exact Nat.ne_of_gt (blk_lt (g := gb0) (o := .cells #[.int .i64 a0_0, .int .i64 a0_1, .int .i64 a0_2] 59 (0, 0)) Ybc_) : gb1 ≠ gb0)); clear BK0; clear HB; have BK0 := n0_; have HB := n1_; have BK1 := n2_; have GW1 := n3_; have GE1 := n4_; have NB0_1 := n5_; have NB1_0 := n6_; clear n0_ n1_ n2_ n3_ n4_ n5_ n6_; clear hb hbox hg; have hnb23 := NB0_1.out; have hnc23 := NB1_0.out; have hcz24_0 : w22.cell? ⟨gb0, 0, none⟩ = some (.int .i64 a0_0) := (blk_cell BK0.out 0).trans rfl; have hcz24_1 : w22.cell? ⟨gb0, 1, none⟩ = some (.int .i64 a0_1) := (blk_cell BK0.out 1).trans rfl; have hcz24_2 : w22.cell? ⟨gb0, 2, none⟩ = some (.int .i64 a0_2) := (blk_cell BK0.out 2).trans rfl; have hfz24_0 := blk_frozen BK0.out 0; have hfz24_1 := blk_frozen BK0.out 1; have hfz24_2 := blk_frozen BK0.out 2; have hcz25_0 : w22.cell? ⟨gb1, 0, none⟩ = some (.int .i64 a1_0) := (blk_cell BK1.out 0).trans rfl; have hcz25_1 : w22.cell? ⟨gb1, 1, none⟩ = some (.int .i64 a1_1) := (blk_cell BK1.out 1).trans rfl; have hcz25_2 : w22.cell? ⟨gb1, 2, none⟩ = some (.int .i64 a1_2) := (blk_cell BK1.out 2).trans rfl; have hfz25_0 := blk_frozen BK1.out 0; have hfz25_1 := blk_frozen BK1.out 1; have hfz25_2 := blk_frozen BK1.out 2))
  go_ret
  exact ⟨by first | rfl | (simp [Aw, Az] <;> rfl) | (simp [*, Aw, Az] <;> rfl), by repeat (first | (with_reducible first | exact HB.out | apply Af | apply Ad | apply Ae | refine Ar ?_ GE0.out | refine Ar ?_ GE1.out) | exact HB.out)⟩
end Go.Proofs.Ytolaplcjbmjlmaa.X

namespace Go.Proofs.Ytolaplcjbmjlmaa.X
open Go.RowKit Go.Proofs.YtolaplcjbmjlmaaW.PrintWords Go.Proofs.YtolaplcjbmjlmaaW.PrintLast Go.Proofs.YtolaplcjbmjlmaaW.PrintMore
attribute [local go_sem] max2_int min2_int max_two min_two max_three min_three max_four min_four
def Bq.l0 : Nat → List (S59) → List (S59) → Int → Option (Bool)
 | 0, _, _, _ => none
 | k + 1, x0, x1, x5 => if x5 < (x0.length : Int) then (if 0 ≤ x5 then (if x5 < (x1.length : Int) then ((Ii.f ((Ah x0 x5).f0) ((Ah x0 x5).f1) ((Ah x0 x5).f2) ((Ah x1 x5).f0) ((Ah x1 x5).f1) ((Ah x1 x5).f2)).bind fun t138 => (if t138 = true then (Bq.l0 k x0 x1 (wrap64 (x5 + 1))) else (some false))) else (none)) else (none)) else (some true)
def Bq.f (k : Nat) (l0 : List (S59)) (l1 : List (S59)) : Option (Bool) := if (l0.length : Int) = (l1.length : Int) then (Bq.l0 k l0 l1 0) else (some false)
theorem Bq.Dq : ∀ k, (∀ y0 y1 y2, LeO (Bq.l0 k y0 y1 y2) (Bq.l0 (k + 1) y0 y1 y2))
 | 0 => fun _ _ _ r h => by simp [Bq.l0] at h
 | k + 1 => by
  have ih0 := Bq.Dq k
  ·intro y0 y1 y2
   unfold Bq.l0
   repeat' first
   | (with_reducible exact ih0 _ _ _)
   | (with_reducible exact LeO.refl _)
   | (with_reducible exact LeO.none _)
   | (with_reducible refine LeO.ite ?_ ?_)
   | (with_reducible refine LeO.bind ?_ (fun _ => ?_))
   | exact ih0 _ _ _
   | exact LeO.none _
   | refine LeO.ite ?_ ?_
   | refine LeO.bind ?_ (fun _ => ?_)
theorem Bq.mono : ∀ a0 a1 k, LeO (Bq.f k a0 a1) (Bq.f (k + 1) a0 a1) := by
 intro a0 a1 k
 have ih0 := Bq.Dq k
 unfold Bq.f
 repeat' first
   | (with_reducible exact ih0 _ _ _)
   | (with_reducible exact LeO.refl _)
   | (with_reducible exact LeO.none _)
   | (with_reducible refine LeO.ite ?_ ?_)
   | (with_reducible refine LeO.bind ?_ (fun _ => ?_))
   | exact ih0 _ _ _
   | exact LeO.none _
   | refine LeO.ite ?_ ?_
   | refine LeO.bind ?_ (fun _ => ?_)
def Bq.T6 : Bool × List (List Nat × List Nat) := (true, [([], []), ([], []), ([0, 1], [0, 1]), ([2], [2]), ([], []), ([], []), ([4, 5], [4, 5]), ([6], [6]), ([3, 7], [3, 7]), ([8], [8])])
def Bq.B6 : List Nat := [0, 0, 3, 7, 0, 0, 48, 112, 255, 511]
theorem Bq.tab6 : rtab .any (opsOf Try.f20 6) = Bq.T6 := by kernel_rfl
theorem Bq.bits6 : waitsOk Bq.T6.2 Bq.B6 = true := by kernel_rfl
set_option maxHeartbeats 8000000 in
set_option maxRecDepth 100000 in
theorem Bq.calls (k : Nat) (A0 : Option Addr) (c0 : Nat) (l0 : List (S59)) (A1 : Option Addr) (c1 : Nat) (l1 : List (S59)) (r : Bool) (w : World) (hr0 : Kd.C k59 w A0 l0.length l0) (hc0 : l0.length ≤ c0) (hr1 : Kd.C k59 w A1 l1.length l1) (hc1 : l1.length ≤ c1) (h : Bq.f k l0 l1 = some r) :
  Calls Try.prog 20 #[.slice A0 l0.length c0, .slice A1 l1.length c1] w fun e w' => e = .returned (.bool r) ∧ Below w.heap.size w w' := by
 have hu59 := Try.underlying59
 have HR0 := Aside0.mk hr0
 have HC0 := Aside0.mk hc0
 clear hr0 hc0
 have HR1 := Aside0.mk hr1
 have HC1 := Aside0.mk hc1
 clear hr1 hc1
 have HB := Aside0.mk (Below.refl w.heap.size w)
 have H : (if (l0.length : Int) = (l1.length : Int) then (Bq.l0 k l0 l1 0) else (some false)) = some r := h
 clear h
 by_cases c3 : (l0.length : Int) = (l1.length : Int)
 ·rw [if_pos c3] at H
  have c3b0 : ((l0.length : Int) == (l1.length : Int)) = true := beq_iff_eq.mpr c3
  have c3b1 : ((l0.length : Int) != (l1.length : Int)) = false := bne_eq_false_iff_eq.mpr c3
  have c3b2 : (l0.length == l1.length) = true := by first | simpa using c3 | (simp at c3 ⊢; omega)
  clear c3
  have H' := Aside0.mk H
  clear H
  go_enter Try.func20, Try.ntmps20
  go_wp2
  go_loopg [5] k (fun kq v5 w' => ∃ (x5_1 : Int), v5 = .int .i64 x5_1 ∧ Aside0 (Bq.l0 kq l0 l1 x5_1 = some r) ∧ Aside0 (kq ≤ k) ∧ Aside0 (Below w.heap.size w w'))
  case atStart => exact ⟨(0), Yd_, H', ⟨Nat.le_refl _⟩, ⟨by repeat (first | (with_reducible first | exact HB.out | apply Af | apply Ad | apply Ae) | exact HB.out)⟩⟩
  case round =>
   clear H'
   try clear c1
   try clear c2
   try clear p2
   try clear c3
   try clear c3b0
   try clear c3b1
   try clear c3b2
   obtain ⟨x5_1, rfl, HA, HK1, HB⟩ := hrel
   cases gk with
   | zero => exact absurd HA.out (by simp [Bq.l0])
   | succ k1 =>
    have H := HA.out
    clear HA
    simp only [Bq.l0] at H
    by_cases c4 : x5_1 < (l0.length : Int)
    ·rw [if_pos c4] at H
     have c4b0 : decide (x5_1 < (l0.length : Int)) = true := decide_eq_true c4
     clear c4
     by_cases c5 : 0 ≤ x5_1
     ·rw [if_pos c5] at H
      have c5b0 : decide (0 ≤ x5_1) = true := decide_eq_true c5
      clear c5
      by_cases c6 : x5_1 < (l1.length : Int)
      ·rw [if_pos c6] at H
       have c6b0 : decide (x5_1 < (l1.length : Int)) = true := decide_eq_true c6
       clear c6
       replace H := Option.bind_eq_some_iff.mp H
       obtain ⟨t138, A70, H⟩ := H
       replace H : (if t138 = true then (Bq.l0 k1 l0 l1 (wrap64 (x5_1 + 1))) else (some false)) = some r := H
       have A7 := Aside0.mk A70
       clear A70
       by_cases c8 : t138 = true
       ·subst c8
        have H1 : (Bq.l0 k1 l0 l1 (wrap64 (x5_1 + 1))) = some r := by rw [if_pos rfl] at H; exact H
        clear H
        have H := H1
        clear H1
        have H' := Aside0.mk H
        clear H
        try go_wp2
        have n0_ := Aside0.mk (Ae HB.out)
        clear HB
        have HB := n0_
        clear n0_
        have p136 : 0 ≤ (x5_1 : Int) := of_decide_eq_true Yc_
        have q136 : x5_1 < (l0.length : Int) := of_decide_eq_true Yc_
        obtain ⟨ad136, e136, hx136_0, hx136_1, hx136_2⟩ := Ez HR0.out x5_1 p136 q136
        have hw136_2 := hx136_2
        have hw136_1 := hx136_1
        have hw136_0 := hx136_0
        cases e136
        replace hx136_0 := (HB.out.cell (World.block_lt_of_cell? w _ hx136_0)).trans hx136_0
        replace hx136_1 := (HB.out.cell (World.block_lt_of_cell? w _ hx136_1)).trans hx136_1
        replace hx136_2 := (HB.out.cell (World.block_lt_of_cell? w _ hx136_2)).trans hx136_2
        replace p136 := eq_true p136
        replace q136 := eq_true q136
        have p137 : 0 ≤ (x5_1 : Int) := of_decide_eq_true Yc_
        have q137 : x5_1 < (l1.length : Int) := of_decide_eq_true Yc_
        obtain ⟨ad137, e137, hx137_0, hx137_1, hx137_2⟩ := Ez HR1.out x5_1 p137 q137
        have hw137_2 := hx137_2
        have hw137_1 := hx137_1
        have hw137_0 := hx137_0
        cases e137
        replace hx137_0 := (HB.out.cell (World.block_lt_of_cell? w _ hx137_0)).trans hx137_0
        replace hx137_1 := (HB.out.cell (World.block_lt_of_cell? w _ hx137_1)).trans hx137_1
        replace hx137_2 := (HB.out.cell (World.block_lt_of_cell? w _ hx137_2)).trans hx137_2
        replace p137 := eq_true p137
        replace q137 := eq_true q137
        refine G9 (n := 10) (S := fun w' => w'.cell? (ad136.add ((x5_1).toNat * 3)) = some (.int .i64 ((Ah l0 x5_1).f0)) ∧ w'.cell? ⟨(ad136.add ((x5_1).toNat * 3)).block, (ad136.add ((x5_1).toNat * 3)).off + 1, none⟩ = some (.int .i64 ((Ah l0 x5_1).f1)) ∧ w'.cell? ⟨(ad136.add ((x5_1).toNat * 3)).block, (ad136.add ((x5_1).toNat * 3)).off + 2, none⟩ = some (.int .i64 ((Ah l0 x5_1).f2)) ∧ w'.cell? (ad137.add ((x5_1).toNat * 3)) = some (.int .i64 ((Ah l1 x5_1).f0)) ∧ w'.cell? ⟨(ad137.add ((x5_1).toNat * 3)).block, (ad137.add ((x5_1).toNat * 3)).off + 1, none⟩ = some (.int .i64 ((Ah l1 x5_1).f1)) ∧ w'.cell? ⟨(ad137.add ((x5_1).toNat * 3)).block, (ad137.add ((x5_1).toNat * 3)).off + 2, none⟩ = some (.int .i64 ((Ah l1 x5_1).f2))) (ds := []) #[false, false, false, false, false, false, false, false, false, false] (by kernel_rfl) rfl rfl ⟨((HB.out.cell (World.block_lt_of_cell? w _ hw136_0)).trans hw136_0), ((HB.out.cell (World.block_lt_of_cell? w _ hw136_1)).trans hw136_1), ((HB.out.cell (World.block_lt_of_cell? w _ hw136_2)).trans hw136_2), ((HB.out.cell (World.block_lt_of_cell? w _ hw137_0)).trans hw137_0), ((HB.out.cell (World.block_lt_of_cell? w _ hw137_1)).trans hw137_1), ((HB.out.cell (World.block_lt_of_cell? w _ hw137_2)).trans hw137_2)⟩ (fun hHeld => ?_); refine Ie Bq.tab6 Bq.bits6 (fun HT_ HW_ => ?_)
        generalize wr.drew = w9 at HB hx136_0 hx136_1 hx136_2 hx137_0 hx137_1 hx137_2 hHeld ⊢
        refine Bg (i := 0) (N := some 17) (v := ?_) (a' := ?_) #[true, false, false, false, false, false, false, false, false, false] rfl rfl (Dc HT_.out (by kernel_rfl)) (fun _ _ _ h => h) (Or.inl ⟨by rfl, ?_⟩) ?_ ?_
        rotate_left
        ·intro w'
         go_simp
         with_reducible rfl
        rotate_left
        ·simp only [Act.put, List.setIfInBounds_toArray, List.set_cons_zero, List.set_cons_succ, Aj, Ak]
         rfl
        refine Bg (i := 1) (N := some 18) (v := ?_) (a' := ?_) #[true, true, false, false, false, false, false, false, false, false] rfl rfl (Dc HT_.out (by kernel_rfl)) (fun _ _ _ h => h) (Or.inl ⟨by rfl, ?_⟩) ?_ ?_
        rotate_left
        ·intro w'
         go_simp
         with_reducible rfl
        rotate_left
        ·simp only [Act.put, List.setIfInBounds_toArray, List.set_cons_zero, List.set_cons_succ, Aj, Ak]
         rfl
        refine Bg (i := 2) (N := some 19) (v := ?_) (a' := ?_) #[true, true, true, false, false, false, false, false, false, false] rfl rfl (Dc HT_.out (by kernel_rfl)) (fun _ _ _ h => h) (Or.inl ⟨by rfl, ?_⟩) ?_ ?_
        rotate_left
        ·intro w'
         go_simp
         with_reducible rfl
        rotate_left
        ·simp only [Act.put, List.setIfInBounds_toArray, List.set_cons_zero, List.set_cons_succ, Aj, Ak]
         rfl
        refine Bg (i := 4) (N := some 21) (v := ?_) (a' := ?_) #[true, true, true, false, true, false, false, false, false, false] rfl rfl (Dc HT_.out (by kernel_rfl)) (fun _ _ _ h => h) (Or.inl ⟨by rfl, ?_⟩) ?_ ?_
        rotate_left
        ·intro w'
         go_simp
         with_reducible rfl
        rotate_left
        ·simp only [Act.put, List.setIfInBounds_toArray, List.set_cons_zero, List.set_cons_succ, Aj, Ak]
         rfl
        refine Bg (i := 5) (N := some 22) (v := ?_) (a' := ?_) #[true, true, true, false, true, true, false, false, false, false] rfl rfl (Dc HT_.out (by kernel_rfl)) (fun _ _ _ h => h) (Or.inl ⟨by rfl, ?_⟩) ?_ ?_
        rotate_left
        ·intro w'
         go_simp
         with_reducible rfl
        rotate_left
        ·simp only [Act.put, List.setIfInBounds_toArray, List.set_cons_zero, List.set_cons_succ, Aj, Ak]
         rfl
        refine Bg (i := 6) (N := some 23) (v := ?_) (a' := ?_) #[true, true, true, false, true, true, true, false, false, false] rfl rfl (Dc HT_.out (by kernel_rfl)) (fun _ _ _ h => h) (Or.inl ⟨by rfl, ?_⟩) ?_ ?_
        rotate_left
        ·intro w'
         go_simp
         with_reducible rfl
        rotate_left
        ·simp only [Act.put, List.setIfInBounds_toArray, List.set_cons_zero, List.set_cons_succ, Aj, Ak]
         rfl
        refine Gg (i := 3) (N := some 20) (v := ?_) (a' := ?_) #[true, true, true, true, true, true, true, false, false, false] rfl rfl (Gq HT_.out HW_.out (by kernel_rfl)) (fun _ _ _ h => h) (Or.inl ⟨by rfl, ?_⟩) hHeld ?_ ?_
        rotate_left
        ·rintro w' ⟨s0, s1, s2, s3, s4, s5⟩
         go_simp
         with_reducible rfl
        rotate_left
        ·simp only [Act.put, List.setIfInBounds_toArray, List.set_cons_zero, List.set_cons_succ, Aj, Ak]
         rfl
        refine Gg (i := 7) (N := some 24) (v := ?_) (a' := ?_) #[true, true, true, true, true, true, true, true, false, false] rfl rfl (Gq HT_.out HW_.out (by kernel_rfl)) (fun _ _ _ h => h) (Or.inl ⟨by rfl, ?_⟩) hHeld ?_ ?_
        rotate_left
        ·rintro w' ⟨s0, s1, s2, s3, s4, s5⟩
         go_simp
         with_reducible rfl
        rotate_left
        ·simp only [Act.put, List.setIfInBounds_toArray, List.set_cons_zero, List.set_cons_succ, Aj, Ak]
         rfl
        refine one_ (i := 8) (N := some 25) #[true, true, true, true, true, true, true, true, true, false] rfl rfl (H6 HT_.out (by kernel_rfl)) (by decide) (fun K hK => ?_)
        refine goes_ Try.func58 (by kernel_rfl) rfl #[.agg #[.int .i64 ((Ah l0 x5_1).f0), .int .i64 ((Ah l0 x5_1).f1), .int .i64 ((Ah l0 x5_1).f2)], .agg #[.int .i64 ((Ah l1 x5_1).f0), .int .i64 ((Ah l1 x5_1).f1), .int .i64 ((Ah l1 x5_1).f2)]] (by rfl) rfl rfl Yb_ ?_
        with_reducible refine (Ii.calls ((Ah l0 x5_1).f0) ((Ah l0 x5_1).f1) ((Ah l0 x5_1).f2) ((Ah l1 x5_1).f0) ((Ah l1 x5_1).f1) ((Ah l1 x5_1).f2) true _ A7.out).mono ?_
        rintro e w10 ⟨rfl, hb⟩
        refine ⟨_, rfl, ?_⟩
        have n0_ := Aside0.mk (below_step Ya_ hb)
        clear HB
        have HB := n0_
        clear n0_
        (try clear hb)
        (try clear hb2)
        (try clear hk)
        (try clear hi)
        refine hK.out _ _ ⟨((HB.out.cell (World.block_lt_of_cell? w _ hw136_0)).trans hw136_0), ((HB.out.cell (World.block_lt_of_cell? w _ hw136_1)).trans hw136_1), ((HB.out.cell (World.block_lt_of_cell? w _ hw136_2)).trans hw136_2), ((HB.out.cell (World.block_lt_of_cell? w _ hw137_0)).trans hw137_0), ((HB.out.cell (World.block_lt_of_cell? w _ hw137_1)).trans hw137_1), ((HB.out.cell (World.block_lt_of_cell? w _ hw137_2)).trans hw137_2)⟩ (fun hHeld => ?_)
        clear hK K
        refine En (a' := ?_) ?_ ?_
        rotate_left
        ·show Act.put _ (some 25) _ = _
         simp only [Act.put, List.setIfInBounds_toArray, List.set_cons_zero, List.set_cons_succ, Aj, Ak]
         rfl
        refine Bg (i := 9) (N := some 26) (v := ?_) (a' := ?_) #[true, true, true, true, true, true, true, true, true, true] rfl rfl (Dc HT_.out (by kernel_rfl)) (fun _ _ _ h => h) (Or.inl ⟨by rfl, ?_⟩) ?_ ?_
        rotate_left
        ·intro w'
         go_simp
         with_reducible rfl
        rotate_left
        ·simp only [Act.put, List.setIfInBounds_toArray, List.set_cons_zero, List.set_cons_succ, Aj, Ak]
         rfl
        refine done_ (done_of HT_.out (by kernel_rfl)) ?_
        try go_wp2
        go_roundg k1
        case measure => have := HK1.out; omega
        case rel => exact ⟨(wrap64 (x5_1 + 1)), Yd_, H', ⟨by have := HK1.out; omega⟩, ⟨by repeat (first | (with_reducible first | exact HB.out | apply Af | apply Ad | apply Ae) | exact HB.out)⟩⟩
       ·replace c8 := Bool.eq_false_iff.mpr c8
        subst c8
        have H1 : (some false) = some r := by rw [if_neg (show ¬ (false = true) by decide)] at H; exact H
        clear H
        have H := H1
        clear H1
        obtain rfl := Option.some.inj H
        try go_wp2
        have n0_ := Aside0.mk (Ae HB.out)
        clear HB
        have HB := n0_
        clear n0_
        have p136 : 0 ≤ (x5_1 : Int) := of_decide_eq_true Yc_
        have q136 : x5_1 < (l0.length : Int) := of_decide_eq_true Yc_
        obtain ⟨ad136, e136, hx136_0, hx136_1, hx136_2⟩ := Ez HR0.out x5_1 p136 q136
        have hw136_2 := hx136_2
        have hw136_1 := hx136_1
        have hw136_0 := hx136_0
        cases e136
        replace hx136_0 := (HB.out.cell (World.block_lt_of_cell? w _ hx136_0)).trans hx136_0
        replace hx136_1 := (HB.out.cell (World.block_lt_of_cell? w _ hx136_1)).trans hx136_1
        replace hx136_2 := (HB.out.cell (World.block_lt_of_cell? w _ hx136_2)).trans hx136_2
        replace p136 := eq_true p136
        replace q136 := eq_true q136
        have p137 : 0 ≤ (x5_1 : Int) := of_decide_eq_true Yc_
        have q137 : x5_1 < (l1.length : Int) := of_decide_eq_true Yc_
        obtain ⟨ad137, e137, hx137_0, hx137_1, hx137_2⟩ := Ez HR1.out x5_1 p137 q137
        have hw137_2 := hx137_2
        have hw137_1 := hx137_1
        have hw137_0 := hx137_0
        cases e137
        replace hx137_0 := (HB.out.cell (World.block_lt_of_cell? w _ hx137_0)).trans hx137_0
        replace hx137_1 := (HB.out.cell (World.block_lt_of_cell? w _ hx137_1)).trans hx137_1
        replace hx137_2 := (HB.out.cell (World.block_lt_of_cell? w _ hx137_2)).trans hx137_2
        replace p137 := eq_true p137
        replace q137 := eq_true q137
        refine G9 (n := 10) (S := fun w' => w'.cell? (ad136.add ((x5_1).toNat * 3)) = some (.int .i64 ((Ah l0 x5_1).f0)) ∧ w'.cell? ⟨(ad136.add ((x5_1).toNat * 3)).block, (ad136.add ((x5_1).toNat * 3)).off + 1, none⟩ = some (.int .i64 ((Ah l0 x5_1).f1)) ∧ w'.cell? ⟨(ad136.add ((x5_1).toNat * 3)).block, (ad136.add ((x5_1).toNat * 3)).off + 2, none⟩ = some (.int .i64 ((Ah l0 x5_1).f2)) ∧ w'.cell? (ad137.add ((x5_1).toNat * 3)) = some (.int .i64 ((Ah l1 x5_1).f0)) ∧ w'.cell? ⟨(ad137.add ((x5_1).toNat * 3)).block, (ad137.add ((x5_1).toNat * 3)).off + 1, none⟩ = some (.int .i64 ((Ah l1 x5_1).f1)) ∧ w'.cell? ⟨(ad137.add ((x5_1).toNat * 3)).block, (ad137.add ((x5_1).toNat * 3)).off + 2, none⟩ = some (.int .i64 ((Ah l1 x5_1).f2))) (ds := []) #[false, false, false, false, false, false, false, false, false, false] (by kernel_rfl) rfl rfl ⟨((HB.out.cell (World.block_lt_of_cell? w _ hw136_0)).trans hw136_0), ((HB.out.cell (World.block_lt_of_cell? w _ hw136_1)).trans hw136_1), ((HB.out.cell (World.block_lt_of_cell? w _ hw136_2)).trans hw136_2), ((HB.out.cell (World.block_lt_of_cell? w _ hw137_0)).trans hw137_0), ((HB.out.cell (World.block_lt_of_cell? w _ hw137_1)).trans hw137_1), ((HB.out.cell (World.block_lt_of_cell? w _ hw137_2)).trans hw137_2)⟩ (fun hHeld => ?_); refine Ie Bq.tab6 Bq.bits6 (fun HT_ HW_ => ?_)
        generalize wr.drew = w11 at HB hx136_0 hx136_1 hx136_2 hx137_0 hx137_1 hx137_2 hHeld ⊢
        refine Bg (i := 0) (N := some 17) (v := ?_) (a' := ?_) #[true, false, false, false, false, false, false, false, false, false] rfl rfl (Dc HT_.out (by kernel_rfl)) (fun _ _ _ h => h) (Or.inl ⟨by rfl, ?_⟩) ?_ ?_
        rotate_left
        ·intro w'
         go_simp
         with_reducible rfl
        rotate_left
        ·simp only [Act.put, List.setIfInBounds_toArray, List.set_cons_zero, List.set_cons_succ, Aj, Ak]
         rfl
        refine Bg (i := 1) (N := some 18) (v := ?_) (a' := ?_) #[true, true, false, false, false, false, false, false, false, false] rfl rfl (Dc HT_.out (by kernel_rfl)) (fun _ _ _ h => h) (Or.inl ⟨by rfl, ?_⟩) ?_ ?_
        rotate_left
        ·intro w'
         go_simp
         with_reducible rfl
        rotate_left
        ·simp only [Act.put, List.setIfInBounds_toArray, List.set_cons_zero, List.set_cons_succ, Aj, Ak]
         rfl
        refine Bg (i := 2) (N := some 19) (v := ?_) (a' := ?_) #[true, true, true, false, false, false, false, false, false, false] rfl rfl (Dc HT_.out (by kernel_rfl)) (fun _ _ _ h => h) (Or.inl ⟨by rfl, ?_⟩) ?_ ?_
        rotate_left
        ·intro w'
         go_simp
         with_reducible rfl
        rotate_left
        ·simp only [Act.put, List.setIfInBounds_toArray, List.set_cons_zero, List.set_cons_succ, Aj, Ak]
         rfl
        refine Bg (i := 4) (N := some 21) (v := ?_) (a' := ?_) #[true, true, true, false, true, false, false, false, false, false] rfl rfl (Dc HT_.out (by kernel_rfl)) (fun _ _ _ h => h) (Or.inl ⟨by rfl, ?_⟩) ?_ ?_
        rotate_left
        ·intro w'
         go_simp
         with_reducible rfl
        rotate_left
        ·simp only [Act.put, List.setIfInBounds_toArray, List.set_cons_zero, List.set_cons_succ, Aj, Ak]
         rfl
        refine Bg (i := 5) (N := some 22) (v := ?_) (a' := ?_) #[true, true, true, false, true, true, false, false, false, false] rfl rfl (Dc HT_.out (by kernel_rfl)) (fun _ _ _ h => h) (Or.inl ⟨by rfl, ?_⟩) ?_ ?_
        rotate_left
        ·intro w'
         go_simp
         with_reducible rfl
        rotate_left
        ·simp only [Act.put, List.setIfInBounds_toArray, List.set_cons_zero, List.set_cons_succ, Aj, Ak]
         rfl
        refine Bg (i := 6) (N := some 23) (v := ?_) (a' := ?_) #[true, true, true, false, true, true, true, false, false, false] rfl rfl (Dc HT_.out (by kernel_rfl)) (fun _ _ _ h => h) (Or.inl ⟨by rfl, ?_⟩) ?_ ?_
        rotate_left
        ·intro w'
         go_simp
         with_reducible rfl
        rotate_left
        ·simp only [Act.put, List.setIfInBounds_toArray, List.set_cons_zero, List.set_cons_succ, Aj, Ak]
         rfl
        refine Gg (i := 3) (N := some 20) (v := ?_) (a' := ?_) #[true, true, true, true, true, true, true, false, false, false] rfl rfl (Gq HT_.out HW_.out (by kernel_rfl)) (fun _ _ _ h => h) (Or.inl ⟨by rfl, ?_⟩) hHeld ?_ ?_
        rotate_left
        ·rintro w' ⟨s0, s1, s2, s3, s4, s5⟩
         go_simp
         with_reducible rfl
        rotate_left
        ·simp only [Act.put, List.setIfInBounds_toArray, List.set_cons_zero, List.set_cons_succ, Aj, Ak]
         rfl
        refine Gg (i := 7) (N := some 24) (v := ?_) (a' := ?_) #[true, true, true, true, true, true, true, true, false, false] rfl rfl (Gq HT_.out HW_.out (by kernel_rfl)) (fun _ _ _ h => h) (Or.inl ⟨by rfl, ?_⟩) hHeld ?_ ?_
        rotate_left
        ·rintro w' ⟨s0, s1, s2, s3, s4, s5⟩
         go_simp
         with_reducible rfl
        rotate_left
        ·simp only [Act.put, List.setIfInBounds_toArray, List.set_cons_zero, List.set_cons_succ, Aj, Ak]
         rfl
        refine one_ (i := 8) (N := some 25) #[true, true, true, true, true, true, true, true, true, false] rfl rfl (H6 HT_.out (by kernel_rfl)) (by decide) (fun K hK => ?_)
        refine goes_ Try.func58 (by kernel_rfl) rfl #[.agg #[.int .i64 ((Ah l0 x5_1).f0), .int .i64 ((Ah l0 x5_1).f1), .int .i64 ((Ah l0 x5_1).f2)], .agg #[.int .i64 ((Ah l1 x5_1).f0), .int .i64 ((Ah l1 x5_1).f1), .int .i64 ((Ah l1 x5_1).f2)]] (by rfl) rfl rfl Yb_ ?_
        with_reducible refine (Ii.calls ((Ah l0 x5_1).f0) ((Ah l0 x5_1).f1) ((Ah l0 x5_1).f2) ((Ah l1 x5_1).f0) ((Ah l1 x5_1).f1) ((Ah l1 x5_1).f2) false _ A7.out).mono ?_
        rintro e w12 ⟨rfl, hb⟩
        refine ⟨_, rfl, ?_⟩
        have n0_ := Aside0.mk (below_step Ya_ hb)
        clear HB
        have HB := n0_
        clear n0_
        (try clear hb)
        (try clear hb2)
        (try clear hk)
        (try clear hi)
        refine hK.out _ _ ⟨((HB.out.cell (World.block_lt_of_cell? w _ hw136_0)).trans hw136_0), ((HB.out.cell (World.block_lt_of_cell? w _ hw136_1)).trans hw136_1), ((HB.out.cell (World.block_lt_of_cell? w _ hw136_2)).trans hw136_2), ((HB.out.cell (World.block_lt_of_cell? w _ hw137_0)).trans hw137_0), ((HB.out.cell (World.block_lt_of_cell? w _ hw137_1)).trans hw137_1), ((HB.out.cell (World.block_lt_of_cell? w _ hw137_2)).trans hw137_2)⟩ (fun hHeld => ?_)
        clear hK K
        refine En (a' := ?_) ?_ ?_
        rotate_left
        ·show Act.put _ (some 25) _ = _
         simp only [Act.put, List.setIfInBounds_toArray, List.set_cons_zero, List.set_cons_succ, Aj, Ak]
         rfl
        refine Bg (i := 9) (N := some 26) (v := ?_) (a' := ?_) #[true, true, true, true, true, true, true, true, true, true] rfl rfl (Dc HT_.out (by kernel_rfl)) (fun _ _ _ h => h) (Or.inl ⟨by rfl, ?_⟩) ?_ ?_
        rotate_left
        ·intro w'
         go_simp
         with_reducible rfl
        rotate_left
        ·simp only [Act.put, List.setIfInBounds_toArray, List.set_cons_zero, List.set_cons_succ, Aj, Ak]
         rfl
        refine done_ (done_of HT_.out (by kernel_rfl)) ?_
        try go_wp2
        go_ret
        exact ⟨by first | rfl | (simp [Aw, Az] <;> rfl) | (simp [*, Aw, Az] <;> rfl), by repeat (first | (with_reducible first | exact HB.out | apply Af | apply Ad | apply Ae) | exact HB.out)⟩
      ·rw [if_neg c6] at H
       exact absurd H (by simp)
     ·rw [if_neg c5] at H
      exact absurd H (by simp)
    ·rw [if_neg c4] at H
     have c4b0 : decide (x5_1 < (l0.length : Int)) = false := decide_eq_false c4
     clear c4
     obtain rfl := Option.some.inj H
     go_wp2
     go_ret
     exact ⟨by first | rfl | (simp [Aw, Az] <;> rfl) | (simp [*, Aw, Az] <;> rfl), by repeat (first | (with_reducible first | exact HB.out | apply Af | apply Ad | apply Ae) | exact HB.out)⟩
 ·rw [if_neg c3] at H
  have c3b0 : ((l0.length : Int) == (l1.length : Int)) = false := beq_eq_false_iff_ne.mpr c3
  have c3b1 : ((l0.length : Int) != (l1.length : Int)) = true := bne_iff_ne.mpr c3
  have c3b2 : (l0.length == l1.length) = false := by first | simpa using c3 | (simp at c3 ⊢; omega)
  obtain rfl := Option.some.inj H
  go_enter Try.func20, Try.ntmps20
  go_wp2
  go_ret
  exact ⟨by first | rfl | (simp [Aw, Az] <;> rfl) | (simp [*, Aw, Az] <;> rfl), by repeat (first | (with_reducible first | exact HB.out | apply Af | apply Ad | apply Ae) | exact HB.out)⟩
end Go.Proofs.Ytolaplcjbmjlmaa.X

namespace Go.Proofs.Ytolaplcjbmjlmaa.X
open Go.RowKit Go.Proofs.YtolaplcjbmjlmaaW.PrintWords Go.Proofs.YtolaplcjbmjlmaaW.PrintLast Go.Proofs.YtolaplcjbmjlmaaW.PrintMore
attribute [local go_sem] max2_int min2_int max_two min_two max_three min_three max_four min_four
def Gm.f (k : Nat) (l0 : List (S62)) : Option (Bool) := (Fb.f l0 1048576).bind fun t139 => (if t139 < 0 then (some true) else ((Bd.f k l0).bind fun t140 => ((Fj.f k t140).bind fun t143 => ((Bd.f k l0).bind fun t144 => ((impl_IsValidStays.f t144).bind fun t147 => (if (t147 != t143) = true then (some false) else ((Bd.f k l0).bind fun t148 => ((Bq.f k t144 t148).bind fun t151 => (if t151 = true then (some true) else (some false))))))))))
theorem Gm.mono : ∀ a0 k, LeO (Gm.f k a0) (Gm.f (k + 1) a0) := by
 intro a0 k
 unfold Gm.f
 repeat' first
   | (with_reducible exact Bq.mono _ _ _)
   | (with_reducible exact Bd.mono _ _)
   | (with_reducible exact Fj.mono _ _)
   | (with_reducible exact LeO.refl _)
   | (with_reducible exact LeO.none _)
   | (with_reducible refine LeO.ite ?_ ?_)
   | (with_reducible refine LeO.bind ?_ (fun _ => ?_))
   | exact Bq.mono _ _ _
   | exact Bd.mono _ _
   | exact Fj.mono _ _
   | exact LeO.none _
   | refine LeO.ite ?_ ?_
   | refine LeO.bind ?_ (fun _ => ?_)
set_option maxHeartbeats 8000000 in
set_option maxRecDepth 100000 in
theorem Gm.calls (k : Nat) (A0 : Option Addr) (c0 : Nat) (l0 : List (S62)) (r : Bool) (w : World) (hr0 : Kd.C k62 w A0 l0.length l0) (hc0 : l0.length ≤ c0) (h : Gm.f k l0 = some r) (hr_ : r = true) :
  Calls Try.prog 4 #[.slice A0 l0.length c0] w fun e w' => e = .returned (.bool r) ∧ Below w.heap.size w w' := by
 have HR_ := Aside0.mk hr_
 clear hr_
 have HR0 := Aside0.mk hr0
 have HC0 := Aside0.mk hc0
 clear hr0 hc0
 have HB := Aside0.mk (Below.refl w.heap.size w)
 have H : ((Fb.f l0 1048576).bind fun t139 => (if t139 < 0 then (some true) else ((Bd.f k l0).bind fun t140 => ((Fj.f k t140).bind fun t143 => ((Bd.f k l0).bind fun t144 => ((impl_IsValidStays.f t144).bind fun t147 => (if (t147 != t143) = true then (some false) else ((Bd.f k l0).bind fun t148 => ((Bq.f k t144 t148).bind fun t151 => (if t151 = true then (some true) else (some false))))))))))) = some r := h
 clear h
 replace H := Option.bind_eq_some_iff.mp H
 obtain ⟨t139, A20, H⟩ := H
 replace H : (if t139 < 0 then (some true) else ((Bd.f k l0).bind fun t140 => ((Fj.f k t140).bind fun t143 => ((Bd.f k l0).bind fun t144 => ((impl_IsValidStays.f t144).bind fun t147 => (if (t147 != t143) = true then (some false) else ((Bd.f k l0).bind fun t148 => ((Bq.f k t144 t148).bind fun t151 => (if t151 = true then (some true) else (some false)))))))))) = some r := H
 have A2 := Aside0.mk A20
 clear A20
 by_cases c3 : t139 < 0
 ·rw [if_pos c3] at H
  have c3b0 : decide (t139 < 0) = true := decide_eq_true c3
  clear c3
  obtain rfl := Option.some.inj H
  go_enter Try.func4, Try.ntmps4
  go_wp2_with (first | ((with_reducible refine gate_callee (f := 16) rfl ?_); refine goesL_ (some 9) rfl rfl Try.func16 (by kernel_rfl) rfl #[.slice A0 l0.length c0, .int .i64 1048576] rfl Yb_ ?_; (with_reducible refine (Fb.calls _ _ l0 1048576 t139 _ ?side1 ?side2 A2.out).mono ?_); (case side1 => repeat (first | exact HR0.out | (with_reducible refine Kd.Be ?_ _) | (with_reducible refine Kd.Bf ?_ _) | (with_reducible refine Kd.Bh ?_))); (case side2 => exact HC0.out); rintro e w' ⟨rfl, ⟨nd, rfl⟩⟩; refine ⟨_, rfl, ?_⟩))
  go_ret
  exact ⟨by first | rfl | (simp [Aw, Az] <;> rfl) | (simp [*, Aw, Az] <;> rfl), by repeat (first | (with_reducible first | exact HB.out | apply Af | apply Ad | apply Ae) | exact HB.out)⟩
 ·rw [if_neg c3] at H
  have c3b0 : decide (t139 < 0) = false := decide_eq_false c3
  clear c3
  replace H := Option.bind_eq_some_iff.mp H
  obtain ⟨t140, A40, H⟩ := H
  replace H : ((Fj.f k t140).bind fun t143 => ((Bd.f k l0).bind fun t144 => ((impl_IsValidStays.f t144).bind fun t147 => (if (t147 != t143) = true then (some false) else ((Bd.f k l0).bind fun t148 => ((Bq.f k t144 t148).bind fun t151 => (if t151 = true then (some true) else (some false)))))))) = some r := H
  have A4 := Aside0.mk A40
  clear A40
  replace H := Option.bind_eq_some_iff.mp H
  obtain ⟨t143, A50, H⟩ := H
  replace H : ((Bd.f k l0).bind fun t144 => ((impl_IsValidStays.f t144).bind fun t147 => (if (t147 != t143) = true then (some false) else ((Bd.f k l0).bind fun t148 => ((Bq.f k t144 t148).bind fun t151 => (if t151 = true then (some true) else (some false))))))) = some r := H
  have A5 := Aside0.mk A50
  clear A50
  replace H := Option.bind_eq_some_iff.mp H
  obtain ⟨t144, A60, H⟩ := H
  replace H : ((impl_IsValidStays.f t144).bind fun t147 => (if (t147 != t143) = true then (some false) else ((Bd.f k l0).bind fun t148 => ((Bq.f k t144 t148).bind fun t151 => (if t151 = true then (some true) else (some false)))))) = some r := H
  have A6 := Aside0.mk A60
  clear A60
  replace H := Option.bind_eq_some_iff.mp H
  obtain ⟨t147, A70, H⟩ := H
  replace H : (if (t147 != t143) = true then (some false) else ((Bd.f k l0).bind fun t148 => ((Bq.f k t144 t148).bind fun t151 => (if t151 = true then (some true) else (some false))))) = some r := H
  have A7 := Aside0.mk A70
  clear A70
  by_cases c8 : (t147 != t143) = true
  ·rw [if_pos c8] at H
   have c8b0 : (t147 != t143) = true := c8
   (try (have c8b1 : decide (t147 = t143) = false := by simpa using c8))
   (try (have c8b2 : (t147 == t143) = false := by simpa using c8))
   (try (have c8b3 : ¬ (t147 = t143) := by simpa using c8))
   clear c8
   exact absurd (Option.some.inj H) (by rw [HR_.out]; decide)
  ·rw [if_neg c8] at H
   have c8b0 : (t147 != t143) = false := by simpa using c8
   (try (have c8b1 : decide (t147 = t143) = true := by simpa using c8))
   (try (have c8b2 : (t147 == t143) = true := by simpa using c8))
   clear c8
   replace H := Option.bind_eq_some_iff.mp H
   obtain ⟨t148, A150, H⟩ := H
   replace H : ((Bq.f k t144 t148).bind fun t151 => (if t151 = true then (some true) else (some false))) = some r := H
   have A15 := Aside0.mk A150
   clear A150
   replace H := Option.bind_eq_some_iff.mp H
   obtain ⟨t151, A160, H⟩ := H
   replace H : (if t151 = true then (some true) else (some false)) = some r := H
   have A16 := Aside0.mk A160
   clear A160
   by_cases c17 : t151 = true
   ·subst c17
    have H1 : (some true) = some r := by rw [if_pos rfl] at H; exact H
    clear H
    have H := H1
    clear H1
    obtain rfl := Option.some.inj H
    go_enter Try.func4, Try.ntmps4
    go_wp2_with (first | ((with_reducible refine gate_callee (f := 16) rfl ?_); refine goesL_ (some 9) rfl rfl Try.func16 (by kernel_rfl) rfl #[.slice A0 l0.length c0, .int .i64 1048576] rfl Yb_ ?_; (with_reducible refine (Fb.calls _ _ l0 1048576 t139 _ ?side1 ?side2 A2.out).mono ?_); (case side1 => repeat (first | exact HR0.out | (with_reducible refine Kd.Be ?_ _) | (with_reducible refine Kd.Bf ?_ _) | (with_reducible refine Kd.Bh ?_))); (case side2 => exact HC0.out); rintro e w' ⟨rfl, ⟨nd, rfl⟩⟩; refine ⟨_, rfl, ?_⟩) | ((with_reducible refine gate_callee (f := 18) rfl ?_); refine goesL_ (some 13) rfl rfl Try.func18 (by kernel_rfl) rfl #[.slice A0 l0.length c0] rfl Yb_ ?_; (with_reducible refine (Bd.calls k _ _ l0 t140 _ ?side1 ?side2 A4.out).mono ?_); (case side1 => repeat (first | exact HR0.out | (with_reducible refine Kd.Be ?_ _) | (with_reducible refine Kd.Bf ?_ _) | (with_reducible refine Kd.Bh ?_))); (case side2 => exact HC0.out); rintro e w18 ⟨v141, rfl, ho0, hb⟩; refine ⟨_, rfl, ?_⟩; have n0_ := Aside0.mk (Kd.R_lower ho0 (below_size Ya_)); have n1_ := Aside0.mk (below_step Ya_ hb); clear HB; have HO142 := n0_; have HB := n1_; clear n0_ n1_; (try clear hb); (try clear hb2); (try clear hk); (try clear hi); (try clear ho0); obtain ⟨Ao19, co19, eo19⟩ := Kd.R_slice HO142.out; subst eo19) | ((with_reducible refine gate_callee (f := 17) rfl ?_); refine goesL_ (some 14) rfl rfl Try.func17 (by kernel_rfl) rfl #[.slice Ao19 t140.length co19] rfl Yb_ ?_; (with_reducible refine (Fj.calls k _ _ t140 t143 _ ?side1 ?side2 A5.out).mono ?_); (case side1 => repeat (first | exact (Kd.R_reads' HO142.out).2.2 | (with_reducible refine Kd.Be ?_ _) | (with_reducible refine Kd.Bf ?_ _) | (with_reducible refine Kd.Bh ?_))); (case side2 => exact (Kd.R_reads' HO142.out).2.1); rintro e w20 ⟨rfl, hb⟩; refine ⟨_, rfl, ?_⟩; have n0_ := Aside0.mk (Kd.R_below Yca_ hb); have n1_ := Aside0.mk (below_step Ya_ hb); clear HO142; clear HB; have HO142 := n0_; have HB := n1_; clear n0_ n1_; (try clear hb); (try clear hb2); (try clear hk); (try clear hi)) | ((with_reducible refine gate_callee (f := 18) rfl ?_); refine goesL_ (some 16) rfl rfl Try.func18 (by kernel_rfl) rfl #[.slice A0 l0.length c0] rfl Yb_ ?_; (with_reducible refine (Bd.calls k _ _ l0 t144 _ ?side1 ?side2 A6.out).mono ?_); (case side1 => repeat (first | exact (Kd.C_below HR0.out HB.out) | (with_reducible refine Kd.Be ?_ _) | (with_reducible refine Kd.Bf ?_ _) | (with_reducible refine Kd.Bh ?_))); (case side2 => exact HC0.out); rintro e w21 ⟨v145, rfl, ho0, hb⟩; refine ⟨_, rfl, ?_⟩; have n0_ := Aside0.mk (Kd.Gs Yca_ (Kd.Gv ho0) hb); have n1_ := Aside0.mk (Kd.R_lower (Kd.G7 ho0 (Kd.R_lt Yca_)) (below_size Ya_)); have n2_ := Aside0.mk (below_step Ya_ hb); clear HO142; clear HB; have HO142 := n0_; have HO146 := n1_; have HB := n2_; clear n0_ n1_ n2_; (try clear hb); (try clear hb2); (try clear hk); (try clear hi); (try clear ho0); obtain ⟨Ao22, co22, eo22⟩ := Kd.R_slice HO146.out; subst eo22) | ((with_reducible refine gate_callee (f := 19) rfl ?_); refine goesL_ (some 18) rfl rfl Try.func19 (by kernel_rfl) rfl #[.slice Ao22 t144.length co22] rfl Yb_ ?_; (with_reducible refine (impl_IsValidStays.calls _ _ t144 t147 _ ?side1 ?side2 A7.out).mono ?_); (case side1 => repeat (first | exact (Kd.R_reads' HO146.out).2.2 | (with_reducible refine Kd.Be ?_ _) | (with_reducible refine Kd.Bf ?_ _) | (with_reducible refine Kd.Bh ?_))); (case side2 => exact (Kd.R_reads' HO146.out).2.1); rintro e w23 ⟨rfl, hb⟩; refine ⟨_, rfl, ?_⟩; have n0_ := Aside0.mk (Kd.R_below Yca_ hb); have n1_ := Aside0.mk (Kd.R_below Ydc_ hb); have n2_ := Aside0.mk (below_step Ya_ hb); clear HO142; clear HO146; clear HB; have HO142 := n0_; have HO146 := n1_; have HB := n2_; clear n0_ n1_ n2_; (try clear hb); (try clear hb2); (try clear hk); (try clear hi)) | ((with_reducible refine gate_callee (f := 18) rfl ?_); refine goesL_ (some 24) rfl rfl Try.func18 (by kernel_rfl) rfl #[.slice A0 l0.length c0] rfl Yb_ ?_; (with_reducible refine (Bd.calls k _ _ l0 t148 _ ?side1 ?side2 A15.out).mono ?_); (case side1 => repeat (first | exact (Kd.C_below HR0.out HB.out) | (with_reducible refine Kd.Be ?_ _) | (with_reducible refine Kd.Bf ?_ _) | (with_reducible refine Kd.Bh ?_))); (case side2 => exact HC0.out); rintro e w24 ⟨v149, rfl, ho0, hb⟩; refine ⟨_, rfl, ?_⟩; have n0_ := Aside0.mk (Kd.Gs Yca_ (Kd.Gv ho0) hb); have n1_ := Aside0.mk (Kd.Gs Ydc_ (Kd.Gv ho0) hb); have n2_ := Aside0.mk (Kd.R_lower (Kd.G7 (Kd.G7 ho0 (Kd.R_lt Yca_)) (Kd.R_lt Ydc_)) (below_size Ya_)); have n3_ := Aside0.mk (below_step Ya_ hb); clear HO142; clear HO146; clear HB; have HO142 := n0_; have HO146 := n1_; have HO150 := n2_; have HB := n3_; clear n0_ n1_ n2_ n3_; (try clear hb); (try clear hb2); (try clear hk); (try clear hi); (try clear ho0); obtain ⟨Ao25, co25, eo25⟩ := Kd.R_slice HO150.out; subst eo25) | ((with_reducible refine gate_callee (f := 20) rfl ?_); refine goesL_ (some 25) rfl rfl Try.func20 (by kernel_rfl) rfl #[.slice Ao22 t144.length co22, .slice Ao25 t148.length co25] rfl Yb_ ?_; (with_reducible refine (Bq.calls k _ _ t144 _ _ t148 true _ ?side1 ?side2 ?side3 ?side4 A16.out).mono ?_); (case side1 => repeat (first | exact (Kd.R_reads' HO146.out).2.2 | (with_reducible refine Kd.Be ?_ _) | (with_reducible refine Kd.Bf ?_ _) | (with_reducible refine Kd.Bh ?_))); (case side2 => exact (Kd.R_reads' HO146.out).2.1); (case side3 => repeat (first | exact (Kd.R_reads' HO150.out).2.2 | (with_reducible refine Kd.Be ?_ _) | (with_reducible refine Kd.Bf ?_ _) | (with_reducible refine Kd.Bh ?_))); (case side4 => exact (Kd.R_reads' HO150.out).2.1); rintro e w26 ⟨rfl, hb⟩; refine ⟨_, rfl, ?_⟩; have n0_ := Aside0.mk (Kd.R_below Yca_ hb); have n1_ := Aside0.mk (Kd.R_below Ydc_ hb); have n2_ := Aside0.mk (Kd.R_below (by (with_reducible repeat (first | apply Kd.Ap | apply Kd.Am | apply Kd.Ba)); exact HO150.out) hb); have n3_ := Aside0.mk (below_step Ya_ hb); clear HO142; clear HO146; clear HO150; clear HB; have HO142 := n0_; have HO146 := n1_; have HO150 := n2_; have HB := n3_; clear n0_ n1_ n2_ n3_; (try clear hb); (try clear hb2); (try clear hk); (try clear hi)))
    go_ret
    exact ⟨by first | rfl | (simp [Aw, Az] <;> rfl) | (simp [*, Aw, Az] <;> rfl), by repeat (first | (with_reducible first | exact HB.out | apply Af | apply Ad | apply Ae) | exact HB.out)⟩
   ·replace c17 := Bool.eq_false_iff.mpr c17
    subst c17
    have H1 : (some false) = some r := by rw [if_neg (show ¬ (false = true) by decide)] at H; exact H
    clear H
    have H := H1
    clear H1
    exact absurd (Option.some.inj H) (by rw [HR_.out]; decide)
end Go.Proofs.Ytolaplcjbmjlmaa.X

namespace Go.Proofs.Ytolaplcjbmjlmaa.X
open Go.RowKit Go.Proofs.YtolaplcjbmjlmaaW.PrintWords Go.Proofs.YtolaplcjbmjlmaaW.PrintLast Go.Proofs.YtolaplcjbmjlmaaW.PrintMore
attribute [local go_sem] max2_int min2_int max_two min_two max_three min_three max_four min_four
def Eb.l0 : Nat → List (S59) → Int → Int → Int → Option (Int)
 | 0, _, _, _, _ => none
 | k + 1, x0, x1, x5, x6 => if x6 < (x0.length : Int) then (if 0 ≤ x6 then ((Eg.f x1 ((Ah x0 x6).f0) (wrap64 (((Ah x0 x6).f1) - 1))).bind fun t154 => (if t154 = true then (Eb.l0 k x0 x1 (wrap64 (x5 + 1)) (wrap64 (x6 + 1))) else (Eb.l0 k x0 x1 x5 (wrap64 (x6 + 1))))) else (none)) else (some x5)
def Eb.f (k : Nat) (l0 : List (S59)) (a1 : Int) : Option (Int) := Eb.l0 k l0 a1 0 0
theorem Eb.Dq : ∀ k, (∀ y0 y1 y2 y3, LeO (Eb.l0 k y0 y1 y2 y3) (Eb.l0 (k + 1) y0 y1 y2 y3))
 | 0 => fun _ _ _ _ r h => by simp [Eb.l0] at h
 | k + 1 => by
  have ih0 := Eb.Dq k
  ·intro y0 y1 y2 y3
   unfold Eb.l0
   repeat' first
   | (with_reducible exact ih0 _ _ _ _)
   | (with_reducible exact LeO.refl _)
   | (with_reducible exact LeO.none _)
   | (with_reducible refine LeO.ite ?_ ?_)
   | (with_reducible refine LeO.bind ?_ (fun _ => ?_))
   | exact ih0 _ _ _ _
   | exact LeO.none _
   | refine LeO.ite ?_ ?_
   | refine LeO.bind ?_ (fun _ => ?_)
theorem Eb.mono : ∀ a0 a1 k, LeO (Eb.f k a0 a1) (Eb.f (k + 1) a0 a1) := by
 intro a0 a1 k
 have ih0 := Eb.Dq k
 unfold Eb.f
 repeat' first
   | (with_reducible exact ih0 _ _ _ _)
   | (with_reducible exact LeO.refl _)
   | (with_reducible exact LeO.none _)
   | (with_reducible refine LeO.ite ?_ ?_)
   | (with_reducible refine LeO.bind ?_ (fun _ => ?_))
   | exact ih0 _ _ _ _
   | exact LeO.none _
   | refine LeO.ite ?_ ?_
   | refine LeO.bind ?_ (fun _ => ?_)
set_option maxHeartbeats 8000000 in
set_option maxRecDepth 100000 in
theorem Eb.calls (k : Nat) (A0 : Option Addr) (c0 : Nat) (l0 : List (S59)) (a1 : Int) (r : Int) (w : World) (hr0 : Kd.C k59 w A0 l0.length l0) (hc0 : l0.length ≤ c0) (h : Eb.f k l0 a1 = some r) :
  Calls Try.prog 59 #[.slice A0 l0.length c0, .int .i64 a1] w fun e w' => e = .returned (.int .i64 r) ∧ Drawn0 w w' := by
 have HR0 := Aside0.mk hr0
 have HC0 := Aside0.mk hc0
 clear hr0 hc0
 have H : (Eb.l0 k l0 a1 0 0) = some r := h
 clear h
 have H' := Aside0.mk H
 clear H
 go_enter Try.func59, Try.ntmps59
 go_wp2
 repeat (go_quiet (fail); try go_wp2)
 go_loopg [5, 6] k (fun kq v5 v6 w' => ∃ (x5_1 : Int) (x6_1 : Int), v5 = .int .i64 x5_1 ∧ v6 = .int .i64 x6_1 ∧ Aside0 (Eb.l0 kq l0 a1 x5_1 x6_1 = some r) ∧ Aside0 (kq ≤ k) ∧ Drawn0 w w')
 case atStart => exact ⟨(0), (0), Yd_, Yd_, H', ⟨Nat.le_refl _⟩, by repeat (first | exact Drawn0.refl _ | apply Drawn0.step)⟩
 case round =>
  clear H'
  try clear p2
  obtain ⟨x5_1, x6_1, rfl, rfl, HA, HK1, ⟨m1, rfl⟩⟩ := hrel
  cases gk with
  | zero => exact absurd HA.out (by simp [Eb.l0])
  | succ k1 =>
   have H := HA.out
   clear HA
   simp only [Eb.l0] at H
   by_cases c3 : x6_1 < (l0.length : Int)
   ·rw [if_pos c3] at H
    have c3b0 : decide (x6_1 < (l0.length : Int)) = true := decide_eq_true c3
    clear c3
    by_cases c4 : 0 ≤ x6_1
    ·rw [if_pos c4] at H
     have c4b0 : decide (0 ≤ x6_1) = true := decide_eq_true c4
     clear c4
     replace H := Option.bind_eq_some_iff.mp H
     obtain ⟨t154, A50, H⟩ := H
     replace H : (if t154 = true then (Eb.l0 k1 l0 a1 (wrap64 (x5_1 + 1)) (wrap64 (x6_1 + 1))) else (Eb.l0 k1 l0 a1 x5_1 (wrap64 (x6_1 + 1)))) = some r := H
     have A5 := Aside0.mk A50
     clear A50
     by_cases c6 : t154 = true
     ·subst c6
      have H1 : (Eb.l0 k1 l0 a1 (wrap64 (x5_1 + 1)) (wrap64 (x6_1 + 1))) = some r := by rw [if_pos rfl] at H; exact H
      clear H
      have H := H1
      clear H1
      have H' := Aside0.mk H
      clear H
      have p152 : 0 ≤ (x6_1 : Int) := of_decide_eq_true Yc_
      have q152 : x6_1 < (l0.length : Int) := of_decide_eq_true Yc_
      obtain ⟨ad152, e152, hx152_0, hx152_1, hx152_2⟩ := Ez HR0.out x6_1 p152 q152
      cases e152
      replace p152 := eq_true p152
      replace q152 := eq_true q152
      have p153 : 0 ≤ (x6_1 : Int) := of_decide_eq_true Yc_
      have q153 : x6_1 < (l0.length : Int) := of_decide_eq_true Yc_
      obtain ⟨ad153, e153, hx153_0, hx153_1, hx153_2⟩ := Ez HR0.out x6_1 p153 q153
      obtain rfl : ad152 = ad153 := (by injection e153)
      replace p153 := eq_true p153
      replace q153 := eq_true q153
      go_wp2_with (first | (go_at_call 52; refine Gt (args' := #[.int .i64 a1, .int .i64 ((Ah l0 x6_1).f0), .int .i64 (wrap64 (((Ah l0 x6_1).f1) - 1))]) Ycc_ ?_; (with_reducible refine (Eg.calls a1 ((Ah l0 x6_1).f0) (wrap64 (((Ah l0 x6_1).f1) - 1)) true _ A5.out).mono ?_); rintro e w' ⟨rfl, ⟨nd, rfl⟩⟩; (try first | exact ⟨rfl, _, World.drewN_drewN _ _ _⟩ | exact ⟨rfl, _, Eq.trans (World.drewN_drewN _ _ _) (congrArg (World.drewN _) (Nat.add_assoc _ _ _))⟩)))
      repeat (go_quiet (first | (go_at_call 52; refine Gt (args' := #[.int .i64 a1, .int .i64 ((Ah l0 x6_1).f0), .int .i64 (wrap64 (((Ah l0 x6_1).f1) - 1))]) Ycc_ ?_; (with_reducible refine (Eg.calls a1 ((Ah l0 x6_1).f0) (wrap64 (((Ah l0 x6_1).f1) - 1)) true _ A5.out).mono ?_); rintro e w' ⟨rfl, ⟨nd, rfl⟩⟩; (try first | exact ⟨rfl, _, World.drewN_drewN _ _ _⟩ | exact ⟨rfl, _, Eq.trans (World.drewN_drewN _ _ _) (congrArg (World.drewN _) (Nat.add_assoc _ _ _))⟩))); try go_wp2_with (first | (go_at_call 52; refine Gt (args' := #[.int .i64 a1, .int .i64 ((Ah l0 x6_1).f0), .int .i64 (wrap64 (((Ah l0 x6_1).f1) - 1))]) Ycc_ ?_; (with_reducible refine (Eg.calls a1 ((Ah l0 x6_1).f0) (wrap64 (((Ah l0 x6_1).f1) - 1)) true _ A5.out).mono ?_); rintro e w' ⟨rfl, ⟨nd, rfl⟩⟩; (try first | exact ⟨rfl, _, World.drewN_drewN _ _ _⟩ | exact ⟨rfl, _, Eq.trans (World.drewN_drewN _ _ _) (congrArg (World.drewN _) (Nat.add_assoc _ _ _))⟩))))
      go_roundg k1
      case measure => have := HK1.out; omega
      case rel => exact ⟨(wrap64 (x5_1 + 1)), (wrap64 (x6_1 + 1)), Yd_, Yd_, H', ⟨by have := HK1.out; omega⟩, by repeat (first | exact Drawn0.refl _ | apply Drawn0.step)⟩
     ·replace c6 := Bool.eq_false_iff.mpr c6
      subst c6
      have H1 : (Eb.l0 k1 l0 a1 x5_1 (wrap64 (x6_1 + 1))) = some r := by rw [if_neg (show ¬ (false = true) by decide)] at H; exact H
      clear H
      have H := H1
      clear H1
      have H' := Aside0.mk H
      clear H
      have p152 : 0 ≤ (x6_1 : Int) := of_decide_eq_true Yc_
      have q152 : x6_1 < (l0.length : Int) := of_decide_eq_true Yc_
      obtain ⟨ad152, e152, hx152_0, hx152_1, hx152_2⟩ := Ez HR0.out x6_1 p152 q152
      cases e152
      replace p152 := eq_true p152
      replace q152 := eq_true q152
      have p153 : 0 ≤ (x6_1 : Int) := of_decide_eq_true Yc_
      have q153 : x6_1 < (l0.length : Int) := of_decide_eq_true Yc_
      obtain ⟨ad153, e153, hx153_0, hx153_1, hx153_2⟩ := Ez HR0.out x6_1 p153 q153
      obtain rfl : ad152 = ad153 := (by injection e153)
      replace p153 := eq_true p153
      replace q153 := eq_true q153
      go_wp2_with (first | (go_at_call 52; refine Gt (args' := #[.int .i64 a1, .int .i64 ((Ah l0 x6_1).f0), .int .i64 (wrap64 (((Ah l0 x6_1).f1) - 1))]) Ycc_ ?_; (with_reducible refine (Eg.calls a1 ((Ah l0 x6_1).f0) (wrap64 (((Ah l0 x6_1).f1) - 1)) false _ A5.out).mono ?_); rintro e w' ⟨rfl, ⟨nd, rfl⟩⟩; (try first | exact ⟨rfl, _, World.drewN_drewN _ _ _⟩ | exact ⟨rfl, _, Eq.trans (World.drewN_drewN _ _ _) (congrArg (World.drewN _) (Nat.add_assoc _ _ _))⟩)))
      repeat (go_quiet (first | (go_at_call 52; refine Gt (args' := #[.int .i64 a1, .int .i64 ((Ah l0 x6_1).f0), .int .i64 (wrap64 (((Ah l0 x6_1).f1) - 1))]) Ycc_ ?_; (with_reducible refine (Eg.calls a1 ((Ah l0 x6_1).f0) (wrap64 (((Ah l0 x6_1).f1) - 1)) false _ A5.out).mono ?_); rintro e w' ⟨rfl, ⟨nd, rfl⟩⟩; (try first | exact ⟨rfl, _, World.drewN_drewN _ _ _⟩ | exact ⟨rfl, _, Eq.trans (World.drewN_drewN _ _ _) (congrArg (World.drewN _) (Nat.add_assoc _ _ _))⟩))); try go_wp2_with (first | (go_at_call 52; refine Gt (args' := #[.int .i64 a1, .int .i64 ((Ah l0 x6_1).f0), .int .i64 (wrap64 (((Ah l0 x6_1).f1) - 1))]) Ycc_ ?_; (with_reducible refine (Eg.calls a1 ((Ah l0 x6_1).f0) (wrap64 (((Ah l0 x6_1).f1) - 1)) false _ A5.out).mono ?_); rintro e w' ⟨rfl, ⟨nd, rfl⟩⟩; (try first | exact ⟨rfl, _, World.drewN_drewN _ _ _⟩ | exact ⟨rfl, _, Eq.trans (World.drewN_drewN _ _ _) (congrArg (World.drewN _) (Nat.add_assoc _ _ _))⟩))))
      go_roundg k1
      case measure => have := HK1.out; omega
      case rel => exact ⟨(x5_1), (wrap64 (x6_1 + 1)), Yd_, Yd_, H', ⟨by have := HK1.out; omega⟩, by repeat (first | exact Drawn0.refl _ | apply Drawn0.step)⟩
    ·rw [if_neg c4] at H
     exact absurd H (by simp)
   ·rw [if_neg c3] at H
    have c3b0 : decide (x6_1 < (l0.length : Int)) = false := decide_eq_false c3
    clear c3
    obtain rfl := Option.some.inj H
    go_wp2
    repeat (go_quiet (fail); try go_wp2)
    go_ret
    exact ⟨by first | rfl | (simp; done) | (simp [*]; done), by repeat (first | exact Drawn0.refl _ | apply Drawn0.step)⟩
end Go.Proofs.Ytolaplcjbmjlmaa.X

namespace Go.Proofs.Ytolaplcjbmjlmaa.X
open Go.RowKit Go.Proofs.YtolaplcjbmjlmaaW.PrintWords Go.Proofs.YtolaplcjbmjlmaaW.PrintLast Go.Proofs.YtolaplcjbmjlmaaW.PrintMore
attribute [local go_sem] max2_int min2_int max_two min_two max_three min_three max_four min_four
mutual
def Dj.j0 : Nat → List (S59) → Int → Bool → Option (Int × Bool)
 | 0, _, _, _ => none
 | k + 1, x0, x1, x15 => if x15 = true then (some (0, false)) else (Dj.l0 k x0 x1 0 0)
def Dj.l0 : Nat → List (S59) → Int → Int → Int → Option (Int × Bool)
 | 0, _, _, _, _ => none
 | k + 1, x0, x1, x6, x7 => if x7 ≤ 240 then ((Eb.f k x0 x7).bind fun t157 => (if t157 ≥ x1 then (Dj.l0 k x0 x1 (wrap64 (x6 + 1)) (wrap64 (x7 + 1))) else (Dj.l0 k x0 x1 x6 (wrap64 (x7 + 1))))) else (some (x6, true))
end
def Dj.f (k : Nat) (l0 : List (S59)) (a1 : Int) : Option (Int × Bool) := (Aq.f k l0).bind fun t155 => (if t155 = true then ((Eg.f a1 1 20).bind fun t156 => (Dj.j0 k l0 a1 (!t156))) else (Dj.j0 k l0 a1 true))
theorem Dj.Dq : ∀ k, (∀ y0 y1 y2, LeO (Dj.j0 k y0 y1 y2) (Dj.j0 (k + 1) y0 y1 y2)) ∧ (∀ y0 y1 y2 y3, LeO (Dj.l0 k y0 y1 y2 y3) (Dj.l0 (k + 1) y0 y1 y2 y3))
 | 0 => ⟨fun _ _ _ r h => by simp [Dj.j0] at h, fun _ _ _ _ r h => by simp [Dj.l0] at h⟩
 | k + 1 => by
  obtain ⟨ih0, ih1⟩ := Dj.Dq k
  refine ⟨?_, ?_⟩
  ·intro y0 y1 y2
   unfold Dj.j0
   repeat' first
   | (with_reducible exact ih0 _ _ _)
   | (with_reducible exact ih1 _ _ _ _)
   | (with_reducible exact Eb.mono _ _ _)
   | (with_reducible exact Aq.mono _ _)
   | (with_reducible exact LeO.refl _)
   | (with_reducible exact LeO.none _)
   | (with_reducible refine LeO.ite ?_ ?_)
   | (with_reducible refine LeO.bind ?_ (fun _ => ?_))
   | exact ih0 _ _ _
   | exact ih1 _ _ _ _
   | exact Eb.mono _ _ _
   | exact Aq.mono _ _
   | exact LeO.none _
   | refine LeO.ite ?_ ?_
   | refine LeO.bind ?_ (fun _ => ?_)
  ·intro y0 y1 y2 y3
   unfold Dj.l0
   repeat' first
   | (with_reducible exact ih0 _ _ _)
   | (with_reducible exact ih1 _ _ _ _)
   | (with_reducible exact Eb.mono _ _ _)
   | (with_reducible exact Aq.mono _ _)
   | (with_reducible exact LeO.refl _)
   | (with_reducible exact LeO.none _)
   | (with_reducible refine LeO.ite ?_ ?_)
   | (with_reducible refine LeO.bind ?_ (fun _ => ?_))
   | exact ih0 _ _ _
   | exact ih1 _ _ _ _
   | exact Eb.mono _ _ _
   | exact Aq.mono _ _
   | exact LeO.none _
   | refine LeO.ite ?_ ?_
   | refine LeO.bind ?_ (fun _ => ?_)
theorem Dj.mono : ∀ a0 a1 k, LeO (Dj.f k a0 a1) (Dj.f (k + 1) a0 a1) := by
 intro a0 a1 k
 obtain ⟨ih0, ih1⟩ := Dj.Dq k
 unfold Dj.f
 repeat' first
   | (with_reducible exact ih0 _ _ _)
   | (with_reducible exact ih1 _ _ _ _)
   | (with_reducible exact Eb.mono _ _ _)
   | (with_reducible exact Aq.mono _ _)
   | (with_reducible exact LeO.refl _)
   | (with_reducible exact LeO.none _)
   | (with_reducible refine LeO.ite ?_ ?_)
   | (with_reducible refine LeO.bind ?_ (fun _ => ?_))
   | exact ih0 _ _ _
   | exact ih1 _ _ _ _
   | exact Eb.mono _ _ _
   | exact Aq.mono _ _
   | exact LeO.none _
   | refine LeO.ite ?_ ?_
   | refine LeO.bind ?_ (fun _ => ?_)
set_option maxHeartbeats 8000000 in
set_option maxRecDepth 100000 in
theorem Dj.calls (k : Nat) (A0 : Option Addr) (c0 : Nat) (l0 : List (S59)) (a1 : Int) (r1 : Int) (r2 : Bool) (w : World) (hr0 : Kd.C k59 w A0 l0.length l0) (hc0 : l0.length ≤ c0) (h : Dj.f k l0 a1 = some (r1, r2)) :
  Calls Try.prog 21 #[.slice A0 l0.length c0, .int .i64 a1] w fun e w' => e = .returned (.tuple #[.int .i64 r1, .bool r2]) ∧ Below w.heap.size w w' := by
 have HR0 := Aside0.mk hr0
 have HC0 := Aside0.mk hc0
 clear hr0 hc0
 have HB := Aside0.mk (Below.refl w.heap.size w)
 have H : ((Aq.f k l0).bind fun t155 => (if t155 = true then ((Eg.f a1 1 20).bind fun t156 => (Dj.j0 k l0 a1 (!t156))) else (Dj.j0 k l0 a1 true))) = some (r1, r2) := h
 clear h
 have HC3 := Aside0.mk H
 clear H
 go_enter Try.func21, Try.ntmps21
 go_upto_region 1 with (fail)
 go_cut [15] (fun v15 wc => ∃ (kq : Nat) (x15_2 : Bool), v15 = .bool x15_2 ∧ Aside0 (Dj.j0 kq l0 a1 x15_2 = some (r1, r2)) ∧ Aside0 (kq ≤ k) ∧ Aside0 (Below w.heap.size w wc))
 case first =>
  have H := HC3.out
  clear HC3
  replace H := Option.bind_eq_some_iff.mp H
  obtain ⟨t155, A40, H⟩ := H
  replace H : (if t155 = true then ((Eg.f a1 1 20).bind fun t156 => (Dj.j0 k l0 a1 (!t156))) else (Dj.j0 k l0 a1 true)) = some (r1, r2) := H
  have A4 := Aside0.mk A40
  clear A40
  by_cases c5 : t155 = true
  ·subst c5
   have H1 : ((Eg.f a1 1 20).bind fun t156 => (Dj.j0 k l0 a1 (!t156))) = some (r1, r2) := by rw [if_pos rfl] at H; exact H
   clear H
   have H := H1
   clear H1
   replace H := Option.bind_eq_some_iff.mp H
   obtain ⟨t156, A60, H⟩ := H
   replace H : (Dj.j0 k l0 a1 (!t156)) = some (r1, r2) := H
   have A6 := Aside0.mk A60
   clear A60
   have H' := Aside0.mk H
   clear H
   go_wp2_with (first | ((with_reducible refine gate_callee (f := 54) rfl ?_); refine goesL_ (some 9) rfl rfl Try.func54 (by kernel_rfl) rfl #[.slice A0 l0.length c0] rfl Yb_ ?_; (with_reducible refine (Aq.calls k _ _ l0 true _ ?side1 ?side2 A4.out).mono ?_); (case side1 => repeat (first | exact (Kd.C_below HR0.out HB.out) | (with_reducible refine Kd.Be ?_ _) | (with_reducible refine Kd.Bf ?_ _) | (with_reducible refine Kd.Bh ?_))); (case side2 => exact HC0.out); rintro e w7 ⟨rfl, hb⟩; refine ⟨_, rfl, ?_⟩; have n0_ := Aside0.mk (below_step Ya_ hb); clear HB; have HB := n0_; clear n0_; (try clear hb); (try clear hb2); (try clear hk); (try clear hi)) | (go_at_call 52; (with_reducible refine (Eg.calls a1 1 20 t156 _ A6.out).mono ?_); rintro e w' ⟨rfl, ⟨nd, rfl⟩⟩))
   go_meet
   case rel => exact ⟨_, (!t156), Yd_, H', ⟨by first | omega | exact Nat.le_refl _⟩, ⟨by repeat (first | (with_reducible first | exact HB.out | apply Af | apply Ad | apply Ae) | exact HB.out)⟩⟩
  ·replace c5 := Bool.eq_false_iff.mpr c5
   subst c5
   have H1 : (Dj.j0 k l0 a1 true) = some (r1, r2) := by rw [if_neg (show ¬ (false = true) by decide)] at H; exact H
   clear H
   have H := H1
   clear H1
   have H' := Aside0.mk H
   clear H
   go_wp2_with (first | ((with_reducible refine gate_callee (f := 54) rfl ?_); refine goesL_ (some 9) rfl rfl Try.func54 (by kernel_rfl) rfl #[.slice A0 l0.length c0] rfl Yb_ ?_; (with_reducible refine (Aq.calls k _ _ l0 false _ ?side1 ?side2 A4.out).mono ?_); (case side1 => repeat (first | exact (Kd.C_below HR0.out HB.out) | (with_reducible refine Kd.Be ?_ _) | (with_reducible refine Kd.Bf ?_ _) | (with_reducible refine Kd.Bh ?_))); (case side2 => exact HC0.out); rintro e w8 ⟨rfl, hb⟩; refine ⟨_, rfl, ?_⟩; have n0_ := Aside0.mk (below_step Ya_ hb); clear HB; have HB := n0_; clear n0_; (try clear hb); (try clear hb2); (try clear hk); (try clear hi)))
   go_meet
   case rel => exact ⟨_, (true), Yd_, H', ⟨by first | omega | exact Nat.le_refl _⟩, ⟨by repeat (first | (with_reducible first | exact HB.out | apply Af | apply Ad | apply Ae) | exact HB.out)⟩⟩
 case rest =>
  clear HC3
  try clear c2
  try clear p2
  try clear c5
  obtain ⟨kq, x15_2, rfl, HA, HJ2, HB⟩ := hcut
  cases kq with
  | zero => exact absurd HA.out (by simp [Dj.j0])
  | succ kj2 =>
   have H := HA.out
   clear HA
   simp only [Dj.j0] at H
   by_cases c9 : x15_2 = true
   ·subst c9
    have H1 : (some (0, false)) = some (r1, r2) := by rw [if_pos rfl] at H; exact H
    clear H
    have H := H1
    clear H1
    simp only [Option.some.injEq, Prod.mk.injEq] at H
    obtain ⟨rfl, rfl⟩ := H
    go_wp2
    go_ret2
    exact ⟨by first | rfl | (simp [Aw, Az] <;> rfl) | (simp [*, Aw, Az] <;> rfl), by repeat (first | (with_reducible first | exact HB.out | apply Af | apply Ad | apply Ae) | exact HB.out)⟩
   ·replace c9 := Bool.eq_false_iff.mpr c9
    subst c9
    have H1 : (Dj.l0 kj2 l0 a1 0 0) = some (r1, r2) := by rw [if_neg (show ¬ (false = true) by decide)] at H; exact H
    clear H
    have H := H1
    clear H1
    have H' := Aside0.mk H
    clear H
    go_wp2
    go_loopg [6, 7] kj2 (fun kq v6 v7 w' => ∃ (x6_2 : Int) (x7_2 : Int), v6 = .int .i64 x6_2 ∧ v7 = .int .i64 x7_2 ∧ Aside0 (Dj.l0 kq l0 a1 x6_2 x7_2 = some (r1, r2)) ∧ Aside0 (kq ≤ kj2) ∧ Aside0 (Below w.heap.size w w'))
    case atStart => exact ⟨(0), (0), Yd_, Yd_, H', ⟨Nat.le_refl _⟩, ⟨by repeat (first | (with_reducible first | exact HB.out | apply Af | apply Ad | apply Ae) | exact HB.out)⟩⟩
    case round =>
     clear H'
     try clear c2
     try clear p2
     try clear c5
     try clear c9
     try clear p2
     obtain ⟨x6_2, x7_2, rfl, rfl, HA, HK2, HB⟩ := hrel
     cases gk with
     | zero => exact absurd HA.out (by simp [Dj.l0])
     | succ k2 =>
      have H := HA.out
      clear HA
      simp only [Dj.l0] at H
      by_cases c10 : x7_2 ≤ 240
      ·rw [if_pos c10] at H
       have c10b0 : decide (x7_2 ≤ 240) = true := decide_eq_true c10
       clear c10
       replace H := Option.bind_eq_some_iff.mp H
       obtain ⟨t157, A110, H⟩ := H
       replace H : (if t157 ≥ a1 then (Dj.l0 k2 l0 a1 (wrap64 (x6_2 + 1)) (wrap64 (x7_2 + 1))) else (Dj.l0 k2 l0 a1 x6_2 (wrap64 (x7_2 + 1)))) = some (r1, r2) := H
       have A11 := Aside0.mk A110
       clear A110
       by_cases c12 : t157 ≥ a1
       ·rw [if_pos c12] at H
        have c12b0 : decide (a1 ≤ t157) = true := decide_eq_true c12
        clear c12
        have H' := Aside0.mk H
        clear H
        go_wp2_with (first | ((with_reducible refine gate_callee (f := 59) rfl ?_); refine goesL_ (some 22) rfl rfl Try.func59 (by kernel_rfl) rfl #[.slice A0 l0.length c0, .int .i64 x7_2] rfl Yb_ ?_; (with_reducible refine (Eb.calls k2 _ _ l0 x7_2 t157 _ ?side1 ?side2 A11.out).mono ?_); (case side1 => repeat (first | exact (Kd.C_below HR0.out HB.out) | (with_reducible refine Kd.Be ?_ _) | (with_reducible refine Kd.Bf ?_ _) | (with_reducible refine Kd.Bh ?_))); (case side2 => exact HC0.out); rintro e w' ⟨rfl, ⟨nd, rfl⟩⟩; refine ⟨_, rfl, ?_⟩))
        go_roundg k2
        case measure => have := HJ2.out; have := HK2.out; omega
        case rel => exact ⟨(wrap64 (x6_2 + 1)), (wrap64 (x7_2 + 1)), Yd_, Yd_, H', ⟨by have := HJ2.out; have := HK2.out; omega⟩, ⟨by repeat (first | (with_reducible first | exact HB.out | apply Af | apply Ad | apply Ae) | exact HB.out)⟩⟩
       ·rw [if_neg c12] at H
        have c12b0 : decide (a1 ≤ t157) = false := decide_eq_false c12
        clear c12
        have H' := Aside0.mk H
        clear H
        go_wp2_with (first | ((with_reducible refine gate_callee (f := 59) rfl ?_); refine goesL_ (some 22) rfl rfl Try.func59 (by kernel_rfl) rfl #[.slice A0 l0.length c0, .int .i64 x7_2] rfl Yb_ ?_; (with_reducible refine (Eb.calls k2 _ _ l0 x7_2 t157 _ ?side1 ?side2 A11.out).mono ?_); (case side1 => repeat (first | exact (Kd.C_below HR0.out HB.out) | (with_reducible refine Kd.Be ?_ _) | (with_reducible refine Kd.Bf ?_ _) | (with_reducible refine Kd.Bh ?_))); (case side2 => exact HC0.out); rintro e w' ⟨rfl, ⟨nd, rfl⟩⟩; refine ⟨_, rfl, ?_⟩))
        go_roundg k2
        case measure => have := HJ2.out; have := HK2.out; omega
        case rel => exact ⟨(x6_2), (wrap64 (x7_2 + 1)), Yd_, Yd_, H', ⟨by have := HJ2.out; have := HK2.out; omega⟩, ⟨by repeat (first | (with_reducible first | exact HB.out | apply Af | apply Ad | apply Ae) | exact HB.out)⟩⟩
      ·rw [if_neg c10] at H
       have c10b0 : decide (x7_2 ≤ 240) = false := decide_eq_false c10
       clear c10
       simp only [Option.some.injEq, Prod.mk.injEq] at H
       obtain ⟨rfl, rfl⟩ := H
       go_wp2
       go_ret2
       exact ⟨by first | rfl | (simp [Aw, Az] <;> rfl) | (simp [*, Aw, Az] <;> rfl), by repeat (first | (with_reducible first | exact HB.out | apply Af | apply Ad | apply Ae) | exact HB.out)⟩
end Go.Proofs.Ytolaplcjbmjlmaa.X

namespace Go.Proofs.Ytolaplcjbmjlmaa.X
open Go.RowKit Go.Proofs.YtolaplcjbmjlmaaW.PrintWords Go.Proofs.YtolaplcjbmjlmaaW.PrintLast Go.Proofs.YtolaplcjbmjlmaaW.PrintMore
attribute [local go_sem] max2_int min2_int max_two min_two max_three min_three max_four min_four
def D9.l0 : Nat → Int → Int → List (S59) → Int → Int → Option (Int)
 | 0, _, _, _, _, _ => none
 | k + 1, x1, x5, x8, x9, x10 => if x10 < x9 then (if 0 ≤ x10 then (if x10 < (x8.length : Int) then (if ((Ah x8 x10).f0) ≤ x1 then (if x1 < ((Ah x8 x10).f1) then (D9.l0 k x1 (wrap64 (x5 + 1)) x8 x9 (wrap64 (x10 + 1))) else (D9.l0 k x1 x5 x8 x9 (wrap64 (x10 + 1)))) else (D9.l0 k x1 x5 x8 x9 (wrap64 (x10 + 1)))) else (none)) else (none)) else (some x5)
def D9.f (k : Nat) (l0 : List (S59)) (a1 : Int) : Option (Int) := D9.l0 k a1 0 l0 (l0.length : Int) 0
theorem D9.Dq : ∀ k, (∀ y0 y1 y2 y3 y4, LeO (D9.l0 k y0 y1 y2 y3 y4) (D9.l0 (k + 1) y0 y1 y2 y3 y4))
 | 0 => fun _ _ _ _ _ r h => by simp [D9.l0] at h
 | k + 1 => by
  have ih0 := D9.Dq k
  ·intro y0 y1 y2 y3 y4
   unfold D9.l0
   repeat' first
   | (with_reducible exact ih0 _ _ _ _ _)
   | (with_reducible exact LeO.refl _)
   | (with_reducible exact LeO.none _)
   | (with_reducible refine LeO.ite ?_ ?_)
   | (with_reducible refine LeO.bind ?_ (fun _ => ?_))
   | exact ih0 _ _ _ _ _
   | exact LeO.none _
   | refine LeO.ite ?_ ?_
   | refine LeO.bind ?_ (fun _ => ?_)
theorem D9.mono : ∀ a0 a1 k, LeO (D9.f k a0 a1) (D9.f (k + 1) a0 a1) := by
 intro a0 a1 k
 have ih0 := D9.Dq k
 unfold D9.f
 repeat' first
   | (with_reducible exact ih0 _ _ _ _ _)
   | (with_reducible exact LeO.refl _)
   | (with_reducible exact LeO.none _)
   | (with_reducible refine LeO.ite ?_ ?_)
   | (with_reducible refine LeO.bind ?_ (fun _ => ?_))
   | exact ih0 _ _ _ _ _
   | exact LeO.none _
   | refine LeO.ite ?_ ?_
   | refine LeO.bind ?_ (fun _ => ?_)
set_option maxHeartbeats 8000000 in
set_option maxRecDepth 100000 in
theorem D9.calls (k : Nat) (A0 : Option Addr) (c0 : Nat) (l0 : List (S59)) (a1 : Int) (r : Int) (w : World) (hr0 : Kd.C k59 w A0 l0.length l0) (hc0 : l0.length ≤ c0) (h : D9.f k l0 a1 = some r) :
  Calls Try.prog 60 #[.slice A0 l0.length c0, .int .i64 a1] w fun e w' => e = .returned (.int .i64 r) ∧ Below w.heap.size w w' := by
 have hu59 := Try.underlying59
 have HR0 := Aside0.mk hr0
 have HC0 := Aside0.mk hc0
 clear hr0 hc0
 have HB := Aside0.mk (Below.refl w.heap.size w)
 have H : (D9.l0 k a1 0 l0 (l0.length : Int) 0) = some r := h
 clear h
 have H' := Aside0.mk H
 clear H
 go_enter Try.func60, Try.ntmps60
 go_wp2
 go_loopg [5, 10] k (fun kq v5 v10 w' => ∃ (x5_1 : Int) (x10_1 : Int), v5 = .int .i64 x5_1 ∧ v10 = .int .i64 x10_1 ∧ Aside0 (D9.l0 kq a1 x5_1 l0 (l0.length : Int) x10_1 = some r) ∧ Aside0 (kq ≤ k) ∧ Aside0 (Below w.heap.size w w'))
 case atStart => exact ⟨(0), (0), Yd_, Yd_, H', ⟨Nat.le_refl _⟩, ⟨by repeat (first | (with_reducible first | exact HB.out | apply Af | apply Ad | apply Ae) | exact HB.out)⟩⟩
 case round =>
  clear H'
  try clear p2
  obtain ⟨x5_1, x10_1, rfl, rfl, HA, HK1, HB⟩ := hrel
  cases gk with
  | zero => exact absurd HA.out (by simp [D9.l0])
  | succ k1 =>
   have H := HA.out
   clear HA
   simp only [D9.l0] at H
   by_cases c3 : x10_1 < (l0.length : Int)
   ·rw [if_pos c3] at H
    have c3b0 : decide (x10_1 < (l0.length : Int)) = true := decide_eq_true c3
    clear c3
    by_cases c4 : 0 ≤ x10_1
    ·rw [if_pos c4] at H
     have c4b0 : decide (0 ≤ x10_1) = true := decide_eq_true c4
     clear c4
     by_cases c5 : x10_1 < (l0.length : Int)
     ·rw [if_pos c5] at H
      have c5b0 : decide (x10_1 < (l0.length : Int)) = true := decide_eq_true c5
      clear c5
      by_cases c6 : ((Ah l0 x10_1).f0) ≤ a1
      ·rw [if_pos c6] at H
       have c6b0 : decide (((Ah l0 x10_1).f0) ≤ a1) = true := decide_eq_true c6
       clear c6
       by_cases c7 : a1 < ((Ah l0 x10_1).f1)
       ·rw [if_pos c7] at H
        have c7b0 : decide (a1 < ((Ah l0 x10_1).f1)) = true := decide_eq_true c7
        clear c7
        have H' := Aside0.mk H
        clear H
        have p158 : 0 ≤ (x10_1 : Int) := of_decide_eq_true Yc_
        have q158 : x10_1 < (l0.length : Int) := of_decide_eq_true Yc_
        obtain ⟨ad158, e158, hx158_0, hx158_1, hx158_2⟩ := Ez HR0.out x10_1 p158 q158
        cases e158
        replace hx158_0 := (HB.out.cell (World.block_lt_of_cell? w _ hx158_0)).trans hx158_0
        replace hx158_1 := (HB.out.cell (World.block_lt_of_cell? w _ hx158_1)).trans hx158_1
        replace hx158_2 := (HB.out.cell (World.block_lt_of_cell? w _ hx158_2)).trans hx158_2
        replace p158 := eq_true p158
        replace q158 := eq_true q158
        go_wp2_with (first | ((with_reducible refine gate_dst (N := 7) rfl ?_); refine box_event ?hg (N := 7) ?hd (cs := #[.int .i64 0, .int .i64 0, .int .i64 0]) (t := 59) ?hr ?_; (case hd => rfl); (case hg => rfl); (case hr => first | (go_simp; done) | (go_simp; rfl)); intro gb0 hg w8 hbox hb; have n0_ := Aside0.mk (below_step Ya_ hb); have n1_ := Aside0.mk (hbox); have n2_ := Aside0.mk ((by rw [hg]; exact (below_size Ya_) : w.heap.size ≤ gb0)); have n3_ := Aside0.mk ((by rw [hg]; exact (below_size Ya_) : w.heap.size ≤ gb0)); clear HB; have HB := n0_; have BK0 := n1_; have GW0 := n2_; have GE0 := n3_; clear n0_ n1_ n2_ n3_; clear hb hbox hg; have hcz9_0 : w8.cell? ⟨gb0, 0, none⟩ = some (.int .i64 0) := (blk_cell BK0.out 0).trans rfl; have hcz9_1 : w8.cell? ⟨gb0, 1, none⟩ = some (.int .i64 0) := (blk_cell BK0.out 1).trans rfl; have hcz9_2 : w8.cell? ⟨gb0, 2, none⟩ = some (.int .i64 0) := (blk_cell BK0.out 2).trans rfl; have hfz9_0 := blk_frozen BK0.out 0; have hfz9_1 := blk_frozen BK0.out 1; have hfz9_2 := blk_frozen BK0.out 2))
        go_roundg k1
        case measure => have := HK1.out; omega
        case rel => exact ⟨(wrap64 (x5_1 + 1)), (wrap64 (x10_1 + 1)), Yd_, Yd_, H', ⟨by have := HK1.out; omega⟩, ⟨by repeat (first | (with_reducible first | exact HB.out | apply Af | apply Ad | apply Ae | refine Ar ?_ GE0.out) | exact HB.out)⟩⟩
       ·rw [if_neg c7] at H
        have c7b0 : decide (a1 < ((Ah l0 x10_1).f1)) = false := decide_eq_false c7
        clear c7
        have H' := Aside0.mk H
        clear H
        have p158 : 0 ≤ (x10_1 : Int) := of_decide_eq_true Yc_
        have q158 : x10_1 < (l0.length : Int) := of_decide_eq_true Yc_
        obtain ⟨ad158, e158, hx158_0, hx158_1, hx158_2⟩ := Ez HR0.out x10_1 p158 q158
        cases e158
        replace hx158_0 := (HB.out.cell (World.block_lt_of_cell? w _ hx158_0)).trans hx158_0
        replace hx158_1 := (HB.out.cell (World.block_lt_of_cell? w _ hx158_1)).trans hx158_1
        replace hx158_2 := (HB.out.cell (World.block_lt_of_cell? w _ hx158_2)).trans hx158_2
        replace p158 := eq_true p158
        replace q158 := eq_true q158
        go_wp2_with (first | ((with_reducible refine gate_dst (N := 7) rfl ?_); refine box_event ?hg (N := 7) ?hd (cs := #[.int .i64 0, .int .i64 0, .int .i64 0]) (t := 59) ?hr ?_; (case hd => rfl); (case hg => rfl); (case hr => first | (go_simp; done) | (go_simp; rfl)); intro gb0 hg w10 hbox hb; have n0_ := Aside0.mk (below_step Ya_ hb); have n1_ := Aside0.mk (hbox); have n2_ := Aside0.mk ((by rw [hg]; exact (below_size Ya_) : w.heap.size ≤ gb0)); have n3_ := Aside0.mk ((by rw [hg]; exact (below_size Ya_) : w.heap.size ≤ gb0)); clear HB; have HB := n0_; have BK0 := n1_; have GW0 := n2_; have GE0 := n3_; clear n0_ n1_ n2_ n3_; clear hb hbox hg; have hcz11_0 : w10.cell? ⟨gb0, 0, none⟩ = some (.int .i64 0) := (blk_cell BK0.out 0).trans rfl; have hcz11_1 : w10.cell? ⟨gb0, 1, none⟩ = some (.int .i64 0) := (blk_cell BK0.out 1).trans rfl; have hcz11_2 : w10.cell? ⟨gb0, 2, none⟩ = some (.int .i64 0) := (blk_cell BK0.out 2).trans rfl; have hfz11_0 := blk_frozen BK0.out 0; have hfz11_1 := blk_frozen BK0.out 1; have hfz11_2 := blk_frozen BK0.out 2))
        go_roundg k1
        case measure => have := HK1.out; omega
        case rel => exact ⟨(x5_1), (wrap64 (x10_1 + 1)), Yd_, Yd_, H', ⟨by have := HK1.out; omega⟩, ⟨by repeat (first | (with_reducible first | exact HB.out | apply Af | apply Ad | apply Ae | refine Ar ?_ GE0.out) | exact HB.out)⟩⟩
      ·rw [if_neg c6] at H
       have c6b0 : decide (((Ah l0 x10_1).f0) ≤ a1) = false := decide_eq_false c6
       clear c6
       have H' := Aside0.mk H
       clear H
       have p158 : 0 ≤ (x10_1 : Int) := of_decide_eq_true Yc_
       have q158 : x10_1 < (l0.length : Int) := of_decide_eq_true Yc_
       obtain ⟨ad158, e158, hx158_0, hx158_1, hx158_2⟩ := Ez HR0.out x10_1 p158 q158
       cases e158
       replace hx158_0 := (HB.out.cell (World.block_lt_of_cell? w _ hx158_0)).trans hx158_0
       replace hx158_1 := (HB.out.cell (World.block_lt_of_cell? w _ hx158_1)).trans hx158_1
       replace hx158_2 := (HB.out.cell (World.block_lt_of_cell? w _ hx158_2)).trans hx158_2
       replace p158 := eq_true p158
       replace q158 := eq_true q158
       go_wp2_with (first | ((with_reducible refine gate_dst (N := 7) rfl ?_); refine box_event ?hg (N := 7) ?hd (cs := #[.int .i64 0, .int .i64 0, .int .i64 0]) (t := 59) ?hr ?_; (case hd => rfl); (case hg => rfl); (case hr => first | (go_simp; done) | (go_simp; rfl)); intro gb0 hg w12 hbox hb; have n0_ := Aside0.mk (below_step Ya_ hb); have n1_ := Aside0.mk (hbox); have n2_ := Aside0.mk ((by rw [hg]; exact (below_size Ya_) : w.heap.size ≤ gb0)); have n3_ := Aside0.mk ((by rw [hg]; exact (below_size Ya_) : w.heap.size ≤ gb0)); clear HB; have HB := n0_; have BK0 := n1_; have GW0 := n2_; have GE0 := n3_; clear n0_ n1_ n2_ n3_; clear hb hbox hg; have hcz13_0 : w12.cell? ⟨gb0, 0, none⟩ = some (.int .i64 0) := (blk_cell BK0.out 0).trans rfl; have hcz13_1 : w12.cell? ⟨gb0, 1, none⟩ = some (.int .i64 0) := (blk_cell BK0.out 1).trans rfl; have hcz13_2 : w12.cell? ⟨gb0, 2, none⟩ = some (.int .i64 0) := (blk_cell BK0.out 2).trans rfl; have hfz13_0 := blk_frozen BK0.out 0; have hfz13_1 := blk_frozen BK0.out 1; have hfz13_2 := blk_frozen BK0.out 2))
       go_roundg k1
       case measure => have := HK1.out; omega
       case rel => exact ⟨(x5_1), (wrap64 (x10_1 + 1)), Yd_, Yd_, H', ⟨by have := HK1.out; omega⟩, ⟨by repeat (first | (with_reducible first | exact HB.out | apply Af | apply Ad | apply Ae | refine Ar ?_ GE0.out) | exact HB.out)⟩⟩
     ·rw [if_neg c5] at H
      exact absurd H (by simp)
    ·rw [if_neg c4] at H
     exact absurd H (by simp)
   ·rw [if_neg c3] at H
    have c3b0 : decide (x10_1 < (l0.length : Int)) = false := decide_eq_false c3
    clear c3
    obtain rfl := Option.some.inj H
    go_wp2
    go_ret
    exact ⟨by first | rfl | (simp [Aw, Az] <;> rfl) | (simp [*, Aw, Az] <;> rfl), by repeat (first | (with_reducible first | exact HB.out | apply Af | apply Ad | apply Ae) | exact HB.out)⟩
end Go.Proofs.Ytolaplcjbmjlmaa.X

namespace Go.Proofs.Ytolaplcjbmjlmaa.X
open Go.RowKit Go.Proofs.YtolaplcjbmjlmaaW.PrintWords Go.Proofs.YtolaplcjbmjlmaaW.PrintLast Go.Proofs.YtolaplcjbmjlmaaW.PrintMore
attribute [local go_sem] max2_int min2_int max_two min_two max_three min_three max_four min_four
mutual
def Di.j0 : Nat → List (S59) → Int → Bool → Option (Int × Bool)
 | 0, _, _, _ => none
 | k + 1, x0, x1, x15 => if x15 = true then (some (0, false)) else (Di.l0 k x0 x1 0 0)
def Di.l0 : Nat → List (S59) → Int → Int → Int → Option (Int × Bool)
 | 0, _, _, _, _ => none
 | k + 1, x0, x1, x6, x16 => if x16 < 241 then ((D9.f k x0 x16).bind fun t162 => (if t162 ≥ x1 then (Di.l0 k x0 x1 (wrap64 (x6 + 1)) (wrap64 (x16 + 1))) else (Di.l0 k x0 x1 x6 (wrap64 (x16 + 1))))) else (some (x6, true))
end
def Di.f (k : Nat) (l0 : List (S59)) (a1 : Int) : Option (Int × Bool) := (impl_IsValidStays.f l0).bind fun t160 => (if t160 = true then ((impl_within.f a1 1 20).bind fun t161 => (Di.j0 k l0 a1 (!t161))) else (Di.j0 k l0 a1 true))
theorem Di.Dq : ∀ k, (∀ y0 y1 y2, LeO (Di.j0 k y0 y1 y2) (Di.j0 (k + 1) y0 y1 y2)) ∧ (∀ y0 y1 y2 y3, LeO (Di.l0 k y0 y1 y2 y3) (Di.l0 (k + 1) y0 y1 y2 y3))
 | 0 => ⟨fun _ _ _ r h => by simp [Di.j0] at h, fun _ _ _ _ r h => by simp [Di.l0] at h⟩
 | k + 1 => by
  obtain ⟨ih0, ih1⟩ := Di.Dq k
  refine ⟨?_, ?_⟩
  ·intro y0 y1 y2
   unfold Di.j0
   repeat' first
   | (with_reducible exact ih0 _ _ _)
   | (with_reducible exact ih1 _ _ _ _)
   | (with_reducible exact D9.mono _ _ _)
   | (with_reducible exact LeO.refl _)
   | (with_reducible exact LeO.none _)
   | (with_reducible refine LeO.ite ?_ ?_)
   | (with_reducible refine LeO.bind ?_ (fun _ => ?_))
   | exact ih0 _ _ _
   | exact ih1 _ _ _ _
   | exact D9.mono _ _ _
   | exact LeO.none _
   | refine LeO.ite ?_ ?_
   | refine LeO.bind ?_ (fun _ => ?_)
  ·intro y0 y1 y2 y3
   unfold Di.l0
   repeat' first
   | (with_reducible exact ih0 _ _ _)
   | (with_reducible exact ih1 _ _ _ _)
   | (with_reducible exact D9.mono _ _ _)
   | (with_reducible exact LeO.refl _)
   | (with_reducible exact LeO.none _)
   | (with_reducible refine LeO.ite ?_ ?_)
   | (with_reducible refine LeO.bind ?_ (fun _ => ?_))
   | exact ih0 _ _ _
   | exact ih1 _ _ _ _
   | exact D9.mono _ _ _
   | exact LeO.none _
   | refine LeO.ite ?_ ?_
   | refine LeO.bind ?_ (fun _ => ?_)
theorem Di.mono : ∀ a0 a1 k, LeO (Di.f k a0 a1) (Di.f (k + 1) a0 a1) := by
 intro a0 a1 k
 obtain ⟨ih0, ih1⟩ := Di.Dq k
 unfold Di.f
 repeat' first
   | (with_reducible exact ih0 _ _ _)
   | (with_reducible exact ih1 _ _ _ _)
   | (with_reducible exact D9.mono _ _ _)
   | (with_reducible exact LeO.refl _)
   | (with_reducible exact LeO.none _)
   | (with_reducible refine LeO.ite ?_ ?_)
   | (with_reducible refine LeO.bind ?_ (fun _ => ?_))
   | exact ih0 _ _ _
   | exact ih1 _ _ _ _
   | exact D9.mono _ _ _
   | exact LeO.none _
   | refine LeO.ite ?_ ?_
   | refine LeO.bind ?_ (fun _ => ?_)
set_option maxHeartbeats 8000000 in
set_option maxRecDepth 100000 in
theorem Di.calls (k : Nat) (A0 : Option Addr) (c0 : Nat) (l0 : List (S59)) (a1 : Int) (r1 : Int) (r2 : Bool) (w : World) (hr0 : Kd.C k59 w A0 l0.length l0) (hc0 : l0.length ≤ c0) (h : Di.f k l0 a1 = some (r1, r2)) :
  Calls Try.prog 22 #[.slice A0 l0.length c0, .int .i64 a1] w fun e w' => e = .returned (.tuple #[.int .i64 r1, .bool r2]) ∧ Below w.heap.size w w' := by
 have HR0 := Aside0.mk hr0
 have HC0 := Aside0.mk hc0
 clear hr0 hc0
 have HB := Aside0.mk (Below.refl w.heap.size w)
 have H : ((impl_IsValidStays.f l0).bind fun t160 => (if t160 = true then ((impl_within.f a1 1 20).bind fun t161 => (Di.j0 k l0 a1 (!t161))) else (Di.j0 k l0 a1 true))) = some (r1, r2) := h
 clear h
 have HC3 := Aside0.mk H
 clear H
 go_enter Try.func22, Try.ntmps22
 go_upto_region 1 with (fail)
 go_cut [15] (fun v15 wc => ∃ (kq : Nat) (x15_2 : Bool), v15 = .bool x15_2 ∧ Aside0 (Di.j0 kq l0 a1 x15_2 = some (r1, r2)) ∧ Aside0 (kq ≤ k) ∧ Aside0 (Below w.heap.size w wc))
 case first =>
  have H := HC3.out
  clear HC3
  replace H := Option.bind_eq_some_iff.mp H
  obtain ⟨t160, A40, H⟩ := H
  replace H : (if t160 = true then ((impl_within.f a1 1 20).bind fun t161 => (Di.j0 k l0 a1 (!t161))) else (Di.j0 k l0 a1 true)) = some (r1, r2) := H
  have A4 := Aside0.mk A40
  clear A40
  by_cases c5 : t160 = true
  ·subst c5
   have H1 : ((impl_within.f a1 1 20).bind fun t161 => (Di.j0 k l0 a1 (!t161))) = some (r1, r2) := by rw [if_pos rfl] at H; exact H
   clear H
   have H := H1
   clear H1
   replace H := Option.bind_eq_some_iff.mp H
   obtain ⟨t161, A60, H⟩ := H
   replace H : (Di.j0 k l0 a1 (!t161)) = some (r1, r2) := H
   have A6 := Aside0.mk A60
   clear A60
   have H' := Aside0.mk H
   clear H
   go_wp2_with (first | ((with_reducible refine gate_callee (f := 19) rfl ?_); refine goesL_ (some 9) rfl rfl Try.func19 (by kernel_rfl) rfl #[.slice A0 l0.length c0] rfl Yb_ ?_; (with_reducible refine (impl_IsValidStays.calls _ _ l0 true _ ?side1 ?side2 A4.out).mono ?_); (case side1 => repeat (first | exact (Kd.C_below HR0.out HB.out) | (with_reducible refine Kd.Be ?_ _) | (with_reducible refine Kd.Bf ?_ _) | (with_reducible refine Kd.Bh ?_))); (case side2 => exact HC0.out); rintro e w7 ⟨rfl, hb⟩; refine ⟨_, rfl, ?_⟩; have n0_ := Aside0.mk (below_step Ya_ hb); clear HB; have HB := n0_; clear n0_; (try clear hb); (try clear hb2); (try clear hk); (try clear hi)) | (go_at_call 53; (with_reducible refine (impl_within.calls a1 1 20 t161 _ A6.out).mono ?_); rintro e w' ⟨rfl, ⟨nd, rfl⟩⟩))
   go_meet
   case rel => exact ⟨_, (!t161), Yd_, H', ⟨by first | omega | exact Nat.le_refl _⟩, ⟨by repeat (first | (with_reducible first | exact HB.out | apply Af | apply Ad | apply Ae) | exact HB.out)⟩⟩
  ·replace c5 := Bool.eq_false_iff.mpr c5
   subst c5
   have H1 : (Di.j0 k l0 a1 true) = some (r1, r2) := by rw [if_neg (show ¬ (false = true) by decide)] at H; exact H
   clear H
   have H := H1
   clear H1
   have H' := Aside0.mk H
   clear H
   go_wp2_with (first | ((with_reducible refine gate_callee (f := 19) rfl ?_); refine goesL_ (some 9) rfl rfl Try.func19 (by kernel_rfl) rfl #[.slice A0 l0.length c0] rfl Yb_ ?_; (with_reducible refine (impl_IsValidStays.calls _ _ l0 false _ ?side1 ?side2 A4.out).mono ?_); (case side1 => repeat (first | exact (Kd.C_below HR0.out HB.out) | (with_reducible refine Kd.Be ?_ _) | (with_reducible refine Kd.Bf ?_ _) | (with_reducible refine Kd.Bh ?_))); (case side2 => exact HC0.out); rintro e w8 ⟨rfl, hb⟩; refine ⟨_, rfl, ?_⟩; have n0_ := Aside0.mk (below_step Ya_ hb); clear HB; have HB := n0_; clear n0_; (try clear hb); (try clear hb2); (try clear hk); (try clear hi)))
   go_meet
   case rel => exact ⟨_, (true), Yd_, H', ⟨by first | omega | exact Nat.le_refl _⟩, ⟨by repeat (first | (with_reducible first | exact HB.out | apply Af | apply Ad | apply Ae) | exact HB.out)⟩⟩
 case rest =>
  clear HC3
  try clear c1
  try clear c2
  try clear p2
  try clear c5
  obtain ⟨kq, x15_2, rfl, HA, HJ2, HB⟩ := hcut
  cases kq with
  | zero => exact absurd HA.out (by simp [Di.j0])
  | succ kj2 =>
   have H := HA.out
   clear HA
   simp only [Di.j0] at H
   by_cases c9 : x15_2 = true
   ·subst c9
    have H1 : (some (0, false)) = some (r1, r2) := by rw [if_pos rfl] at H; exact H
    clear H
    have H := H1
    clear H1
    simp only [Option.some.injEq, Prod.mk.injEq] at H
    obtain ⟨rfl, rfl⟩ := H
    go_wp2
    go_ret2
    exact ⟨by first | rfl | (simp [Aw, Az] <;> rfl) | (simp [*, Aw, Az] <;> rfl), by repeat (first | (with_reducible first | exact HB.out | apply Af | apply Ad | apply Ae) | exact HB.out)⟩
   ·replace c9 := Bool.eq_false_iff.mpr c9
    subst c9
    have H1 : (Di.l0 kj2 l0 a1 0 0) = some (r1, r2) := by rw [if_neg (show ¬ (false = true) by decide)] at H; exact H
    clear H
    have H := H1
    clear H1
    have H' := Aside0.mk H
    clear H
    go_wp2
    go_loopg [6, 16] kj2 (fun kq v6 v16 w' => ∃ (x6_2 : Int) (x16_2 : Int), v6 = .int .i64 x6_2 ∧ v16 = .int .i64 x16_2 ∧ Aside0 (Di.l0 kq l0 a1 x6_2 x16_2 = some (r1, r2)) ∧ Aside0 (kq ≤ kj2) ∧ Aside0 (Below w.heap.size w w'))
    case atStart => exact ⟨(0), (0), Yd_, Yd_, H', ⟨Nat.le_refl _⟩, ⟨by repeat (first | (with_reducible first | exact HB.out | apply Af | apply Ad | apply Ae) | exact HB.out)⟩⟩
    case round =>
     clear H'
     try clear c1
     try clear c2
     try clear p2
     try clear c5
     try clear c9
     try clear p2
     obtain ⟨x6_2, x16_2, rfl, rfl, HA, HK2, HB⟩ := hrel
     cases gk with
     | zero => exact absurd HA.out (by simp [Di.l0])
     | succ k2 =>
      have H := HA.out
      clear HA
      simp only [Di.l0] at H
      by_cases c10 : x16_2 < 241
      ·rw [if_pos c10] at H
       have c10b0 : decide (x16_2 < 241) = true := decide_eq_true c10
       clear c10
       replace H := Option.bind_eq_some_iff.mp H
       obtain ⟨t162, A110, H⟩ := H
       replace H : (if t162 ≥ a1 then (Di.l0 k2 l0 a1 (wrap64 (x6_2 + 1)) (wrap64 (x16_2 + 1))) else (Di.l0 k2 l0 a1 x6_2 (wrap64 (x16_2 + 1)))) = some (r1, r2) := H
       have A11 := Aside0.mk A110
       clear A110
       by_cases c12 : t162 ≥ a1
       ·rw [if_pos c12] at H
        have c12b0 : decide (a1 ≤ t162) = true := decide_eq_true c12
        clear c12
        have H' := Aside0.mk H
        clear H
        go_wp2_with (first | ((with_reducible refine gate_callee (f := 60) rfl ?_); refine goesL_ (some 21) rfl rfl Try.func60 (by kernel_rfl) rfl #[.slice A0 l0.length c0, .int .i64 x16_2] rfl Yb_ ?_; (with_reducible refine (D9.calls k2 _ _ l0 x16_2 t162 _ ?side1 ?side2 A11.out).mono ?_); (case side1 => repeat (first | exact (Kd.C_below HR0.out HB.out) | (with_reducible refine Kd.Be ?_ _) | (with_reducible refine Kd.Bf ?_ _) | (with_reducible refine Kd.Bh ?_))); (case side2 => exact HC0.out); rintro e w13 ⟨rfl, hb⟩; refine ⟨_, rfl, ?_⟩; have n0_ := Aside0.mk (below_step Ya_ hb); clear HB; have HB := n0_; clear n0_; (try clear hb); (try clear hb2); (try clear hk); (try clear hi)))
        go_roundg k2
        case measure => have := HJ2.out; have := HK2.out; omega
        case rel => exact ⟨(wrap64 (x6_2 + 1)), (wrap64 (x16_2 + 1)), Yd_, Yd_, H', ⟨by have := HJ2.out; have := HK2.out; omega⟩, ⟨by repeat (first | (with_reducible first | exact HB.out | apply Af | apply Ad | apply Ae) | exact HB.out)⟩⟩
       ·rw [if_neg c12] at H
        have c12b0 : decide (a1 ≤ t162) = false := decide_eq_false c12
        clear c12
        have H' := Aside0.mk H
        clear H
        go_wp2_with (first | ((with_reducible refine gate_callee (f := 60) rfl ?_); refine goesL_ (some 21) rfl rfl Try.func60 (by kernel_rfl) rfl #[.slice A0 l0.length c0, .int .i64 x16_2] rfl Yb_ ?_; (with_reducible refine (D9.calls k2 _ _ l0 x16_2 t162 _ ?side1 ?side2 A11.out).mono ?_); (case side1 => repeat (first | exact (Kd.C_below HR0.out HB.out) | (with_reducible refine Kd.Be ?_ _) | (with_reducible refine Kd.Bf ?_ _) | (with_reducible refine Kd.Bh ?_))); (case side2 => exact HC0.out); rintro e w14 ⟨rfl, hb⟩; refine ⟨_, rfl, ?_⟩; have n0_ := Aside0.mk (below_step Ya_ hb); clear HB; have HB := n0_; clear n0_; (try clear hb); (try clear hb2); (try clear hk); (try clear hi)))
        go_roundg k2
        case measure => have := HJ2.out; have := HK2.out; omega
        case rel => exact ⟨(x6_2), (wrap64 (x16_2 + 1)), Yd_, Yd_, H', ⟨by have := HJ2.out; have := HK2.out; omega⟩, ⟨by repeat (first | (with_reducible first | exact HB.out | apply Af | apply Ad | apply Ae) | exact HB.out)⟩⟩
      ·rw [if_neg c10] at H
       have c10b0 : decide (x16_2 < 241) = false := decide_eq_false c10
       clear c10
       simp only [Option.some.injEq, Prod.mk.injEq] at H
       obtain ⟨rfl, rfl⟩ := H
       go_wp2
       go_ret2
       exact ⟨by first | rfl | (simp [Aw, Az] <;> rfl) | (simp [*, Aw, Az] <;> rfl), by repeat (first | (with_reducible first | exact HB.out | apply Af | apply Ad | apply Ae) | exact HB.out)⟩
end Go.Proofs.Ytolaplcjbmjlmaa.X

namespace Go.Proofs.Ytolaplcjbmjlmaa.X
open Go.RowKit Go.Proofs.YtolaplcjbmjlmaaW.PrintWords Go.Proofs.YtolaplcjbmjlmaaW.PrintLast Go.Proofs.YtolaplcjbmjlmaaW.PrintMore
attribute [local go_sem] max2_int min2_int max_two min_two max_three min_three max_four min_four
def Dp.j0 : Nat → List (S62) → List (S59) → Bool → Option (Bool)
 | 0, _, _, _ => none
 | k + 1, x0, x8, x38 => if x38 = true then (some false) else ((Bd.f k x0).bind fun t174 => ((Bq.f k x8 t174).bind fun t177 => (if t177 = true then (some true) else (some false))))
def Dp.f (k : Nat) (l0 : List (S62)) (a1 : Int) : Option (Bool) := (Fb.f l0 1048576).bind fun t163 => (if t163 < 0 then (some true) else ((Bd.f k l0).bind fun t164 => ((Dj.f k t164 a1).bind fun bt167 => ((Bd.f k l0).bind fun t169 => ((Di.f k t169 a1).bind fun bt172 => (if bt172.1 = bt167.1 then (Dp.j0 k l0 t169 (bt172.2 != bt167.2)) else (Dp.j0 k l0 t169 true)))))))
theorem Dp.Dq : ∀ k, (∀ y0 y1 y2, LeO (Dp.j0 k y0 y1 y2) (Dp.j0 (k + 1) y0 y1 y2))
 | 0 => fun _ _ _ r h => by simp [Dp.j0] at h
 | k + 1 => by
  have ih0 := Dp.Dq k
  ·intro y0 y1 y2
   unfold Dp.j0
   repeat' first
   | (with_reducible exact ih0 _ _ _)
   | (with_reducible exact Di.mono _ _ _)
   | (with_reducible exact Bq.mono _ _ _)
   | (with_reducible exact Bd.mono _ _)
   | (with_reducible exact Dj.mono _ _ _)
   | (with_reducible exact LeO.refl _)
   | (with_reducible exact LeO.none _)
   | (with_reducible refine LeO.ite ?_ ?_)
   | (with_reducible refine LeO.bind ?_ (fun _ => ?_))
   | exact ih0 _ _ _
   | exact Di.mono _ _ _
   | exact Bq.mono _ _ _
   | exact Bd.mono _ _
   | exact Dj.mono _ _ _
   | exact LeO.none _
   | refine LeO.ite ?_ ?_
   | refine LeO.bind ?_ (fun _ => ?_)
theorem Dp.mono : ∀ a0 a1 k, LeO (Dp.f k a0 a1) (Dp.f (k + 1) a0 a1) := by
 intro a0 a1 k
 have ih0 := Dp.Dq k
 unfold Dp.f
 repeat' first
   | (with_reducible exact ih0 _ _ _)
   | (with_reducible exact Di.mono _ _ _)
   | (with_reducible exact Bq.mono _ _ _)
   | (with_reducible exact Bd.mono _ _)
   | (with_reducible exact Dj.mono _ _ _)
   | (with_reducible exact LeO.refl _)
   | (with_reducible exact LeO.none _)
   | (with_reducible refine LeO.ite ?_ ?_)
   | (with_reducible refine LeO.bind ?_ (fun _ => ?_))
   | exact ih0 _ _ _
   | exact Di.mono _ _ _
   | exact Bq.mono _ _ _
   | exact Bd.mono _ _
   | exact Dj.mono _ _ _
   | exact LeO.none _
   | refine LeO.ite ?_ ?_
   | refine LeO.bind ?_ (fun _ => ?_)
set_option maxHeartbeats 8000000 in
set_option maxRecDepth 100000 in
theorem Dp.calls (k : Nat) (A0 : Option Addr) (c0 : Nat) (l0 : List (S62)) (a1 : Int) (r : Bool) (w : World) (hr0 : Kd.C k62 w A0 l0.length l0) (hc0 : l0.length ≤ c0) (h : Dp.f k l0 a1 = some r) (hr_ : r = true) :
  Calls Try.prog 5 #[.slice A0 l0.length c0, .int .i64 a1] w fun e w' => e = .returned (.bool r) ∧ Below w.heap.size w w' := by
 have HR_ := Aside0.mk hr_
 clear hr_
 have HR0 := Aside0.mk hr0
 have HC0 := Aside0.mk hc0
 clear hr0 hc0
 have HB := Aside0.mk (Below.refl w.heap.size w)
 have H : ((Fb.f l0 1048576).bind fun t163 => (if t163 < 0 then (some true) else ((Bd.f k l0).bind fun t164 => ((Dj.f k t164 a1).bind fun bt167 => ((Bd.f k l0).bind fun t169 => ((Di.f k t169 a1).bind fun bt172 => (if bt172.1 = bt167.1 then (Dp.j0 k l0 t169 (bt172.2 != bt167.2)) else (Dp.j0 k l0 t169 true)))))))) = some r := h
 clear h
 replace H := Option.bind_eq_some_iff.mp H
 obtain ⟨t163, A30, H⟩ := H
 replace H : (if t163 < 0 then (some true) else ((Bd.f k l0).bind fun t164 => ((Dj.f k t164 a1).bind fun bt167 => ((Bd.f k l0).bind fun t169 => ((Di.f k t169 a1).bind fun bt172 => (if bt172.1 = bt167.1 then (Dp.j0 k l0 t169 (bt172.2 != bt167.2)) else (Dp.j0 k l0 t169 true))))))) = some r := H
 have A3 := Aside0.mk A30
 clear A30
 by_cases c4 : t163 < 0
 ·rw [if_pos c4] at H
  have c4b0 : decide (t163 < 0) = true := decide_eq_true c4
  clear c4
  obtain rfl := Option.some.inj H
  go_enter Try.func5, Try.ntmps5
  go_wp2_with (first | ((with_reducible refine gate_callee (f := 16) rfl ?_); refine goesL_ (some 13) rfl rfl Try.func16 (by kernel_rfl) rfl #[.slice A0 l0.length c0, .int .i64 1048576] rfl Yb_ ?_; (with_reducible refine (Fb.calls _ _ l0 1048576 t163 _ ?side1 ?side2 A3.out).mono ?_); (case side1 => repeat (first | exact HR0.out | (with_reducible refine Kd.Be ?_ _) | (with_reducible refine Kd.Bf ?_ _) | (with_reducible refine Kd.Bh ?_))); (case side2 => exact HC0.out); rintro e w' ⟨rfl, ⟨nd, rfl⟩⟩; refine ⟨_, rfl, ?_⟩))
  go_ret
  exact ⟨by first | rfl | (simp [Aw, Az] <;> rfl) | (simp [*, Aw, Az] <;> rfl), by repeat (first | (with_reducible first | exact HB.out | apply Af | apply Ad | apply Ae) | exact HB.out)⟩
 ·rw [if_neg c4] at H
  have c4b0 : decide (t163 < 0) = false := decide_eq_false c4
  clear c4
  replace H := Option.bind_eq_some_iff.mp H
  obtain ⟨t164, A50, H⟩ := H
  replace H : ((Dj.f k t164 a1).bind fun bt167 => ((Bd.f k l0).bind fun t169 => ((Di.f k t169 a1).bind fun bt172 => (if bt172.1 = bt167.1 then (Dp.j0 k l0 t169 (bt172.2 != bt167.2)) else (Dp.j0 k l0 t169 true))))) = some r := H
  have A5 := Aside0.mk A50
  clear A50
  replace H := Option.bind_eq_some_iff.mp H
  obtain ⟨⟨t167, t168⟩, A60, H⟩ := H
  replace H : ((Bd.f k l0).bind fun t169 => ((Di.f k t169 a1).bind fun bt172 => (if bt172.1 = t167 then (Dp.j0 k l0 t169 (bt172.2 != t168)) else (Dp.j0 k l0 t169 true)))) = some r := H
  have A6 := Aside0.mk A60
  clear A60
  replace H := Option.bind_eq_some_iff.mp H
  obtain ⟨t169, A70, H⟩ := H
  replace H : ((Di.f k t169 a1).bind fun bt172 => (if bt172.1 = t167 then (Dp.j0 k l0 t169 (bt172.2 != t168)) else (Dp.j0 k l0 t169 true))) = some r := H
  have A7 := Aside0.mk A70
  clear A70
  replace H := Option.bind_eq_some_iff.mp H
  obtain ⟨⟨t172, t173⟩, A80, H⟩ := H
  replace H : (if t172 = t167 then (Dp.j0 k l0 t169 (t173 != t168)) else (Dp.j0 k l0 t169 true)) = some r := H
  have A8 := Aside0.mk A80
  clear A80
  have HC9 := Aside0.mk H
  clear H
  go_enter Try.func5, Try.ntmps5
  go_upto_region 8 with (first | ((with_reducible refine gate_callee (f := 16) rfl ?_); refine goesL_ (some 13) rfl rfl Try.func16 (by kernel_rfl) rfl #[.slice A0 l0.length c0, .int .i64 1048576] rfl Yb_ ?_; (with_reducible refine (Fb.calls _ _ l0 1048576 t163 _ ?side1 ?side2 A3.out).mono ?_); (case side1 => repeat (first | exact HR0.out | (with_reducible refine Kd.Be ?_ _) | (with_reducible refine Kd.Bf ?_ _) | (with_reducible refine Kd.Bh ?_))); (case side2 => exact HC0.out); rintro e w' ⟨rfl, ⟨nd, rfl⟩⟩; refine ⟨_, rfl, ?_⟩) | ((with_reducible refine gate_callee (f := 18) rfl ?_); refine goesL_ (some 18) rfl rfl Try.func18 (by kernel_rfl) rfl #[.slice A0 l0.length c0] rfl Yb_ ?_; (with_reducible refine (Bd.calls k _ _ l0 t164 _ ?side1 ?side2 A5.out).mono ?_); (case side1 => repeat (first | exact HR0.out | (with_reducible refine Kd.Be ?_ _) | (with_reducible refine Kd.Bf ?_ _) | (with_reducible refine Kd.Bh ?_))); (case side2 => exact HC0.out); rintro e w10 ⟨v165, rfl, ho0, hb⟩; refine ⟨_, rfl, ?_⟩; have n0_ := Aside0.mk (Kd.R_lower ho0 (below_size Ya_)); have n1_ := Aside0.mk (below_step Ya_ hb); clear HB; have HO166 := n0_; have HB := n1_; clear n0_ n1_; (try clear hb); (try clear hb2); (try clear hk); (try clear hi); (try clear ho0); obtain ⟨Ao11, co11, eo11⟩ := Kd.R_slice HO166.out; subst eo11) | ((with_reducible refine gate_callee (f := 21) rfl ?_); refine goesL_ (some 20) rfl rfl Try.func21 (by kernel_rfl) rfl #[.slice Ao11 t164.length co11, .int .i64 a1] rfl Yb_ ?_; (with_reducible refine (Dj.calls k _ _ t164 a1 t167 t168 _ ?side1 ?side2 A6.out).mono ?_); (case side1 => repeat (first | exact (Kd.R_reads' HO166.out).2.2 | (with_reducible refine Kd.Be ?_ _) | (with_reducible refine Kd.Bf ?_ _) | (with_reducible refine Kd.Bh ?_))); (case side2 => exact (Kd.R_reads' HO166.out).2.1); rintro e w12 ⟨rfl, hb⟩; refine ⟨_, rfl, ?_⟩; have n0_ := Aside0.mk (Kd.R_below Ydd_ hb); have n1_ := Aside0.mk (below_step Ya_ hb); clear HO166; clear HB; have HO166 := n0_; have HB := n1_; clear n0_ n1_; (try clear hb); (try clear hb2); (try clear hk); (try clear hi)) | ((with_reducible refine gate_callee (f := 18) rfl ?_); refine goesL_ (some 24) rfl rfl Try.func18 (by kernel_rfl) rfl #[.slice A0 l0.length c0] rfl Yb_ ?_; (with_reducible refine (Bd.calls k _ _ l0 t169 _ ?side1 ?side2 A7.out).mono ?_); (case side1 => repeat (first | exact (Kd.C_below HR0.out HB.out) | (with_reducible refine Kd.Be ?_ _) | (with_reducible refine Kd.Bf ?_ _) | (with_reducible refine Kd.Bh ?_))); (case side2 => exact HC0.out); rintro e w13 ⟨v170, rfl, ho0, hb⟩; refine ⟨_, rfl, ?_⟩; have n0_ := Aside0.mk (Kd.Gs Ydd_ (Kd.Gv ho0) hb); have n1_ := Aside0.mk (Kd.R_lower (Kd.G7 ho0 (Kd.R_lt Ydd_)) (below_size Ya_)); have n2_ := Aside0.mk (below_step Ya_ hb); clear HO166; clear HB; have HO166 := n0_; have HO171 := n1_; have HB := n2_; clear n0_ n1_ n2_; (try clear hb); (try clear hb2); (try clear hk); (try clear hi); (try clear ho0); obtain ⟨Ao14, co14, eo14⟩ := Kd.R_slice HO171.out; subst eo14) | ((with_reducible refine gate_callee (f := 22) rfl ?_); refine goesL_ (some 28) rfl rfl Try.func22 (by kernel_rfl) rfl #[.slice Ao14 t169.length co14, .int .i64 a1] rfl Yb_ ?_; (with_reducible refine (Di.calls k _ _ t169 a1 t172 t173 _ ?side1 ?side2 A8.out).mono ?_); (case side1 => repeat (first | exact (Kd.R_reads' HO171.out).2.2 | (with_reducible refine Kd.Be ?_ _) | (with_reducible refine Kd.Bf ?_ _) | (with_reducible refine Kd.Bh ?_))); (case side2 => exact (Kd.R_reads' HO171.out).2.1); rintro e w15 ⟨rfl, hb⟩; refine ⟨_, rfl, ?_⟩; have n0_ := Aside0.mk (Kd.R_below Ydd_ hb); have n1_ := Aside0.mk (Kd.R_below (by (with_reducible repeat (first | apply Kd.Ap | apply Kd.Am | apply Kd.Ba)); exact HO171.out) hb); have n2_ := Aside0.mk (below_step Ya_ hb); clear HO166; clear HO171; clear HB; have HO166 := n0_; have HO171 := n1_; have HB := n2_; clear n0_ n1_ n2_; (try clear hb); (try clear hb2); (try clear hk); (try clear hi)))
  (try simp only [Act.put, List.setIfInBounds_toArray, List.set_cons_zero, List.set_cons_succ])
  go_cut [38] (fun v38 wc => ∃ (kq : Nat) (x38_8 : Bool), v38 = .bool x38_8 ∧ Aside0 (Dp.j0 kq l0 t169 x38_8 = some r) ∧ Aside0 (kq ≤ k) ∧ Aside0 (Kd.R k59 59 wc w.heap.size (fun _ => True) (.slice Ao14 t169.length co14) t169) ∧ Aside0 (Below w.heap.size w wc))
  case first =>
   have H := HC9.out
   clear HC9
   by_cases c16 : t172 = t167
   ·rw [if_pos c16] at H
    have c16b0 : (t172 == t167) = true := beq_iff_eq.mpr c16
    have c16b1 : (t172 != t167) = false := bne_eq_false_iff_eq.mpr c16
    clear c16
    (first | rw [c16b0] | (simp only [Aj, Ak]; rw [c16b0]) | skip)
    have H' := Aside0.mk H
    clear H
    go_wp2
    go_meet
    case rel => exact ⟨_, ((t173 != t168)), Yd_, H', ⟨by first | omega | exact Nat.le_refl _⟩, ⟨by (with_reducible repeat (first | apply Kd.Ap | apply Kd.Am | apply Kd.Ba)); exact Kd.R_mono HO171.out (fun _ hk => trivial)⟩, ⟨by repeat (first | (with_reducible first | exact HB.out | apply Af | apply Ad | apply Ae) | exact HB.out)⟩⟩
   ·rw [if_neg c16] at H
    have c16b0 : (t172 == t167) = false := beq_eq_false_iff_ne.mpr c16
    have c16b1 : (t172 != t167) = true := bne_iff_ne.mpr c16
    (first | rw [c16b0] | (simp only [Aj, Ak]; rw [c16b0]) | skip)
    have H' := Aside0.mk H
    clear H
    go_wp2
    go_meet
    case rel => exact ⟨_, (true), Yd_, H', ⟨by first | omega | exact Nat.le_refl _⟩, ⟨by (with_reducible repeat (first | apply Kd.Ap | apply Kd.Am | apply Kd.Ba)); exact Kd.R_mono HO171.out (fun _ hk => trivial)⟩, ⟨by repeat (first | (with_reducible first | exact HB.out | apply Af | apply Ad | apply Ae) | exact HB.out)⟩⟩
  case rest =>
   clear HC9
   try clear c1
   try clear c2
   try clear p2
   try clear c4
   try clear c4b0
   try clear c5
   try clear c16
   try clear c16b0
   try clear c16b1
   obtain ⟨kq, x38_8, rfl, HA, HJ8, HO_8, HB⟩ := hcut
   cases kq with
   | zero => exact absurd HA.out (by simp [Dp.j0])
   | succ kj8 =>
    have H := HA.out
    clear HA
    simp only [Dp.j0] at H
    by_cases c17 : x38_8 = true
    ·subst c17
     have H1 : (some false) = some r := by rw [if_pos rfl] at H; exact H
     clear H
     have H := H1
     clear H1
     exact absurd (Option.some.inj H) (by rw [HR_.out]; decide)
    ·replace c17 := Bool.eq_false_iff.mpr c17
     subst c17
     have H1 : ((Bd.f kj8 l0).bind fun t174 => ((Bq.f kj8 t169 t174).bind fun t177 => (if t177 = true then (some true) else (some false)))) = some r := by rw [if_neg (show ¬ (false = true) by decide)] at H; exact H
     clear H
     have H := H1
     clear H1
     replace H := Option.bind_eq_some_iff.mp H
     obtain ⟨t174, A180, H⟩ := H
     replace H : ((Bq.f kj8 t169 t174).bind fun t177 => (if t177 = true then (some true) else (some false))) = some r := H
     have A18 := Aside0.mk A180
     clear A180
     replace H := Option.bind_eq_some_iff.mp H
     obtain ⟨t177, A190, H⟩ := H
     replace H : (if t177 = true then (some true) else (some false)) = some r := H
     have A19 := Aside0.mk A190
     clear A190
     by_cases c20 : t177 = true
     ·subst c20
      have H1 : (some true) = some r := by rw [if_pos rfl] at H; exact H
      clear H
      have H := H1
      clear H1
      obtain rfl := Option.some.inj H
      go_wp2_with (first | ((with_reducible refine gate_callee (f := 18) rfl ?_); refine goesL_ (some 41) rfl rfl Try.func18 (by kernel_rfl) rfl #[.slice A0 l0.length c0] rfl Yb_ ?_; (with_reducible refine (Bd.calls kj8 _ _ l0 t174 _ ?side1 ?side2 A18.out).mono ?_); (case side1 => repeat (first | exact (Kd.C_below HR0.out HB.out) | (with_reducible refine Kd.Be ?_ _) | (with_reducible refine Kd.Bf ?_ _) | (with_reducible refine Kd.Bh ?_))); (case side2 => exact HC0.out); rintro e w21 ⟨v175, rfl, ho0, hb⟩; refine ⟨_, rfl, ?_⟩; have n0_ := Aside0.mk (Kd.Gs Yee_ (Kd.Gv ho0) hb); have n1_ := Aside0.mk (Kd.R_lower (Kd.G7 ho0 (Kd.R_lt Yee_)) (below_size Ya_)); have n2_ := Aside0.mk (below_step Ya_ hb); clear HO_8; clear HB; have HO_8 := n0_; have HO176 := n1_; have HB := n2_; clear n0_ n1_ n2_; (try clear hb); (try clear hb2); (try clear hk); (try clear hi); (try clear ho0); obtain ⟨Ao22, co22, eo22⟩ := Kd.R_slice HO176.out; subst eo22) | ((with_reducible refine gate_callee (f := 20) rfl ?_); refine goesL_ (some 42) rfl rfl Try.func20 (by kernel_rfl) rfl #[.slice Ao14 t169.length co14, .slice Ao22 t174.length co22] rfl Yb_ ?_; (with_reducible refine (Bq.calls kj8 _ _ t169 _ _ t174 true _ ?side1 ?side2 ?side3 ?side4 A19.out).mono ?_); (case side1 => repeat (first | exact (Kd.R_reads' HO_8.out).2.2 | (with_reducible refine Kd.Be ?_ _) | (with_reducible refine Kd.Bf ?_ _) | (with_reducible refine Kd.Bh ?_))); (case side2 => exact (Kd.R_reads' HO_8.out).2.1); (case side3 => repeat (first | exact (Kd.R_reads' HO176.out).2.2 | (with_reducible refine Kd.Be ?_ _) | (with_reducible refine Kd.Bf ?_ _) | (with_reducible refine Kd.Bh ?_))); (case side4 => exact (Kd.R_reads' HO176.out).2.1); rintro e w23 ⟨rfl, hb⟩; refine ⟨_, rfl, ?_⟩; have n0_ := Aside0.mk (Kd.R_below Yee_ hb); have n1_ := Aside0.mk (Kd.R_below (by (with_reducible repeat (first | apply Kd.Ap | apply Kd.Am | apply Kd.Ba)); exact HO176.out) hb); have n2_ := Aside0.mk (below_step Ya_ hb); clear HO_8; clear HO176; clear HB; have HO_8 := n0_; have HO176 := n1_; have HB := n2_; clear n0_ n1_ n2_; (try clear hb); (try clear hb2); (try clear hk); (try clear hi)))
      go_ret
      exact ⟨by first | rfl | (simp [Aw, Az] <;> rfl) | (simp [*, Aw, Az] <;> rfl), by repeat (first | (with_reducible first | exact HB.out | apply Af | apply Ad | apply Ae) | exact HB.out)⟩
     ·replace c20 := Bool.eq_false_iff.mpr c20
      subst c20
      have H1 : (some false) = some r := by rw [if_neg (show ¬ (false = true) by decide)] at H; exact H
      clear H
      have H := H1
      clear H1
      exact absurd (Option.some.inj H) (by rw [HR_.out]; decide)
end Go.Proofs.Ytolaplcjbmjlmaa.X

namespace Go.Proofs.Ytolaplcjbmjlmaa.X
open Go.RowKit Go.Proofs.YtolaplcjbmjlmaaW.PrintWords Go.Proofs.YtolaplcjbmjlmaaL
abbrev Ff := S59
theorem rdS (l : List Ff) (n : Nat) (h : n < l.length) : Ah l (n : Int) = l[n] := by simp [Ah, List.getD_eq_getElem?_getD, List.getElem?_eq_getElem h]
def valid (l : List Ff) : Bool := l.all Hm && decide (l.length ≤ 20)
theorem Il (l : List Ff) : impl_IsValidStays.f l = some (valid l) := rfl
theorem specGood_ev (l : List Ff) (h : l.length ≤ 1048576) : Ev (fun k => Aq.f k l) (valid l) := by
 have key : ∀ (d n : Nat), n + d = l.length → Ev (fun k => Aq.l0 k l n) ((l.drop n).all Hm && decide (l.length ≤ 20)) := by
  intro d
  induction d with
  | zero =>
   intro n hn
   obtain rfl : n = l.length := by omega
   refine Ev.step (f := fun _ => some _) (fun k => ?_) (Ev.now _)
   simp only [Aq.l0]; rw [if_neg (by omega)]
   simp <;> omega
  | succ d ih =>
   intro n hn
   have hl : n < l.length := by omega
   have ih := ih (n + 1) (by omega)
   rw [List.drop_eq_getElem_cons hl, List.all_cons]
   by_cases e : Hm l[n] = true
   ·rw [e, Bool.true_and]
    refine Ev.step (f := fun k => Aq.l0 k l ((n + 1 : Nat) : Int)) (fun k => ?_) ih
    simp only [Aq.l0]
    rw [if_pos (by omega), if_pos (by omega), rdS l n hl, wrap_succ (by omega)]
    simp only [Hm, Bool.and_eq_true, decide_eq_true_eq] at e
    obtain ⟨⟨⟨⟨e1, e2⟩, e3⟩, e4⟩, e5⟩ := e
    simp [Eg.f, e1, e2, e3, e4, e5, show l[n].f0 ≤ 240 by omega]
   ·have e' : Hm l[n] = false := by simpa using e
    rw [e', Bool.false_and, Bool.false_and]
    refine Ev.step (f := fun _ => some false) (fun k => ?_) (Ev.now _)
    simp only [Aq.l0]
    rw [if_pos (by omega), if_pos (by omega), rdS l n hl]
    have e2 : ¬ (0 ≤ l[n].f0 ∧ l[n].f0 ≤ l[n].f1 ∧ l[n].f1 ≤ 240 ∧ 1 ≤ l[n].f2 ∧ l[n].f2 ≤ 9) := by
     intro ⟨a, b, c, d, e3⟩; apply e; simp [Hm, a, b, c, d, e3]
    unfold Eg.f
    by_cases h1 : l[n].f0 ≥ 0
    ·by_cases h2 : l[n].f0 ≤ 240
     ·by_cases h3 : l[n].f1 ≥ l[n].f0
      ·by_cases h4 : l[n].f1 ≤ 240
       ·by_cases h5 : l[n].f2 ≥ 1
        ·by_cases h6 : l[n].f2 ≤ 9
         ·exact absurd ⟨h1, h3, h4, h5, h6⟩ e2
         ·simp [h1, h2, h3, h4, h5, h6]
        ·simp [h1, h2, h3, h4, h5]
       ·simp [h1, h2, h3, h4]
      ·simp [h1, h2, h3]
     ·simp [h1, h2]
    ·simp [h1]
 exact Ev.congr (f := fun k => Aq.l0 k l ((0 : Nat) : Int)) (fun k => rfl) (by simpa [valid] using key l.length 0 (by omega))
end Go.Proofs.Ytolaplcjbmjlmaa.X

namespace Go.Proofs.Ytolaplcjbmjlmaa.X
open Go.RowKit Go.Proofs.YtolaplcjbmjlmaaW.PrintWords Go.Proofs.YtolaplcjbmjlmaaW.PrintLast Go.Proofs.YtolaplcjbmjlmaaW.PrintMore
attribute [local go_sem] max2_int min2_int max_two min_two max_three min_three max_four min_four
def Ee.l0 : Nat → List (S59) → Int → Int → Int → Option (Int × Int × Bool)
 | 0, _, _, _, _ => none
 | k + 1, x0, x5, x6, x7 => if x7 ≤ 240 then ((Eb.f k x0 x7).bind fun t179 => (if t179 > x6 then (Ee.l0 k x0 x7 t179 (wrap64 (x7 + 1))) else (Ee.l0 k x0 x5 x6 (wrap64 (x7 + 1))))) else (some (x5, x6, true))
def Ee.f (k : Nat) (l0 : List (S59)) : Option (Int × Int × Bool) := (Aq.f k l0).bind fun t178 => (if t178 = true then (Ee.l0 k l0 0 0 0) else (some (0, 0, false)))
theorem Ee.Dq : ∀ k, (∀ y0 y1 y2 y3, LeO (Ee.l0 k y0 y1 y2 y3) (Ee.l0 (k + 1) y0 y1 y2 y3))
 | 0 => fun _ _ _ _ r h => by simp [Ee.l0] at h
 | k + 1 => by
  have ih0 := Ee.Dq k
  ·intro y0 y1 y2 y3
   unfold Ee.l0
   repeat' first
   | (with_reducible exact ih0 _ _ _ _)
   | (with_reducible exact Eb.mono _ _ _)
   | (with_reducible exact Aq.mono _ _)
   | (with_reducible exact LeO.refl _)
   | (with_reducible exact LeO.none _)
   | (with_reducible refine LeO.ite ?_ ?_)
   | (with_reducible refine LeO.bind ?_ (fun _ => ?_))
   | exact ih0 _ _ _ _
   | exact Eb.mono _ _ _
   | exact Aq.mono _ _
   | exact LeO.none _
   | refine LeO.ite ?_ ?_
   | refine LeO.bind ?_ (fun _ => ?_)
theorem Ee.mono : ∀ a0 k, LeO (Ee.f k a0) (Ee.f (k + 1) a0) := by
 intro a0 k
 have ih0 := Ee.Dq k
 unfold Ee.f
 repeat' first
   | (with_reducible exact ih0 _ _ _ _)
   | (with_reducible exact Eb.mono _ _ _)
   | (with_reducible exact Aq.mono _ _)
   | (with_reducible exact LeO.refl _)
   | (with_reducible exact LeO.none _)
   | (with_reducible refine LeO.ite ?_ ?_)
   | (with_reducible refine LeO.bind ?_ (fun _ => ?_))
   | exact ih0 _ _ _ _
   | exact Eb.mono _ _ _
   | exact Aq.mono _ _
   | exact LeO.none _
   | refine LeO.ite ?_ ?_
   | refine LeO.bind ?_ (fun _ => ?_)
set_option maxHeartbeats 8000000 in
set_option maxRecDepth 100000 in
theorem Ee.calls (k : Nat) (A0 : Option Addr) (c0 : Nat) (l0 : List (S59)) (r1 : Int) (r2 : Int) (r3 : Bool) (w : World) (hr0 : Kd.C k59 w A0 l0.length l0) (hc0 : l0.length ≤ c0) (h : Ee.f k l0 = some (r1, r2, r3)) :
  Calls Try.prog 23 #[.slice A0 l0.length c0] w fun e w' => e = .returned (.tuple #[.int .i64 r1, .int .i64 r2, .bool r3]) ∧ Below w.heap.size w w' := by
 have HR0 := Aside0.mk hr0
 have HC0 := Aside0.mk hc0
 clear hr0 hc0
 have HB := Aside0.mk (Below.refl w.heap.size w)
 have H : ((Aq.f k l0).bind fun t178 => (if t178 = true then (Ee.l0 k l0 0 0 0) else (some (0, 0, false)))) = some (r1, r2, r3) := h
 clear h
 replace H := Option.bind_eq_some_iff.mp H
 obtain ⟨t178, A20, H⟩ := H
 replace H : (if t178 = true then (Ee.l0 k l0 0 0 0) else (some (0, 0, false))) = some (r1, r2, r3) := H
 have A2 := Aside0.mk A20
 clear A20
 by_cases c3 : t178 = true
 ·subst c3
  have H1 : (Ee.l0 k l0 0 0 0) = some (r1, r2, r3) := by rw [if_pos rfl] at H; exact H
  clear H
  have H := H1
  clear H1
  have H' := Aside0.mk H
  clear H
  go_enter Try.func23, Try.ntmps23
  go_wp2_with (first | ((with_reducible refine gate_callee (f := 54) rfl ?_); refine goesL_ (some 10) rfl rfl Try.func54 (by kernel_rfl) rfl #[.slice A0 l0.length c0] rfl Yb_ ?_; (with_reducible refine (Aq.calls k _ _ l0 true _ ?side1 ?side2 A2.out).mono ?_); (case side1 => repeat (first | exact HR0.out | (with_reducible refine Kd.Be ?_ _) | (with_reducible refine Kd.Bf ?_ _) | (with_reducible refine Kd.Bh ?_))); (case side2 => exact HC0.out); rintro e w4 ⟨rfl, hb⟩; refine ⟨_, rfl, ?_⟩; have n0_ := Aside0.mk (below_step Ya_ hb); clear HB; have HB := n0_; clear n0_; (try clear hb); (try clear hb2); (try clear hk); (try clear hi)))
  go_loopg [5, 6, 7] k (fun kq v5 v6 v7 w' => ∃ (x5_1 : Int) (x6_1 : Int) (x7_1 : Int), v5 = .int .i64 x5_1 ∧ v6 = .int .i64 x6_1 ∧ v7 = .int .i64 x7_1 ∧ Aside0 (Ee.l0 kq l0 x5_1 x6_1 x7_1 = some (r1, r2, r3)) ∧ Aside0 (kq ≤ k) ∧ Aside0 (Below w.heap.size w w'))
  case atStart => exact ⟨(0), (0), (0), Yd_, Yd_, Yd_, H', ⟨Nat.le_refl _⟩, ⟨by repeat (first | (with_reducible first | exact HB.out | apply Af | apply Ad | apply Ae) | exact HB.out)⟩⟩
  case round =>
   clear H'
   try clear c2
   try clear p2
   try clear c3
   obtain ⟨x5_1, x6_1, x7_1, rfl, rfl, rfl, HA, HK1, HB⟩ := hrel
   cases gk with
   | zero => exact absurd HA.out (by simp [Ee.l0])
   | succ k1 =>
    have H := HA.out
    clear HA
    simp only [Ee.l0] at H
    by_cases c5 : x7_1 ≤ 240
    ·rw [if_pos c5] at H
     have c5b0 : decide (x7_1 ≤ 240) = true := decide_eq_true c5
     clear c5
     replace H := Option.bind_eq_some_iff.mp H
     obtain ⟨t179, A60, H⟩ := H
     replace H : (if t179 > x6_1 then (Ee.l0 k1 l0 x7_1 t179 (wrap64 (x7_1 + 1))) else (Ee.l0 k1 l0 x5_1 x6_1 (wrap64 (x7_1 + 1)))) = some (r1, r2, r3) := H
     have A6 := Aside0.mk A60
     clear A60
     by_cases c7 : t179 > x6_1
     ·rw [if_pos c7] at H
      have c7b0 : decide (x6_1 < t179) = true := decide_eq_true c7
      clear c7
      have H' := Aside0.mk H
      clear H
      go_wp2_with (first | ((with_reducible refine gate_callee (f := 59) rfl ?_); refine goesL_ (some 18) rfl rfl Try.func59 (by kernel_rfl) rfl #[.slice A0 l0.length c0, .int .i64 x7_1] rfl Yb_ ?_; (with_reducible refine (Eb.calls k1 _ _ l0 x7_1 t179 _ ?side1 ?side2 A6.out).mono ?_); (case side1 => repeat (first | exact (Kd.C_below HR0.out HB.out) | (with_reducible refine Kd.Be ?_ _) | (with_reducible refine Kd.Bf ?_ _) | (with_reducible refine Kd.Bh ?_))); (case side2 => exact HC0.out); rintro e w' ⟨rfl, ⟨nd, rfl⟩⟩; refine ⟨_, rfl, ?_⟩))
      go_roundg k1
      case measure => have := HK1.out; omega
      case rel => exact ⟨(x7_1), (t179), (wrap64 (x7_1 + 1)), Yd_, Yd_, Yd_, H', ⟨by have := HK1.out; omega⟩, ⟨by repeat (first | (with_reducible first | exact HB.out | apply Af | apply Ad | apply Ae) | exact HB.out)⟩⟩
     ·rw [if_neg c7] at H
      have c7b0 : decide (x6_1 < t179) = false := decide_eq_false c7
      clear c7
      have H' := Aside0.mk H
      clear H
      go_wp2_with (first | ((with_reducible refine gate_callee (f := 59) rfl ?_); refine goesL_ (some 18) rfl rfl Try.func59 (by kernel_rfl) rfl #[.slice A0 l0.length c0, .int .i64 x7_1] rfl Yb_ ?_; (with_reducible refine (Eb.calls k1 _ _ l0 x7_1 t179 _ ?side1 ?side2 A6.out).mono ?_); (case side1 => repeat (first | exact (Kd.C_below HR0.out HB.out) | (with_reducible refine Kd.Be ?_ _) | (with_reducible refine Kd.Bf ?_ _) | (with_reducible refine Kd.Bh ?_))); (case side2 => exact HC0.out); rintro e w' ⟨rfl, ⟨nd, rfl⟩⟩; refine ⟨_, rfl, ?_⟩))
      go_roundg k1
      case measure => have := HK1.out; omega
      case rel => exact ⟨(x5_1), (x6_1), (wrap64 (x7_1 + 1)), Yd_, Yd_, Yd_, H', ⟨by have := HK1.out; omega⟩, ⟨by repeat (first | (with_reducible first | exact HB.out | apply Af | apply Ad | apply Ae) | exact HB.out)⟩⟩
    ·rw [if_neg c5] at H
     have c5b0 : decide (x7_1 ≤ 240) = false := decide_eq_false c5
     clear c5
     simp only [Option.some.injEq, Prod.mk.injEq] at H
     obtain ⟨rfl, rfl, rfl⟩ := H
     go_wp2
     go_ret3
     exact ⟨by first | rfl | (simp [Aw, Az] <;> rfl) | (simp [*, Aw, Az] <;> rfl), by repeat (first | (with_reducible first | exact HB.out | apply Af | apply Ad | apply Ae) | exact HB.out)⟩
 ·replace c3 := Bool.eq_false_iff.mpr c3
  subst c3
  have H1 : (some (0, 0, false)) = some (r1, r2, r3) := by rw [if_neg (show ¬ (false = true) by decide)] at H; exact H
  clear H
  have H := H1
  clear H1
  simp only [Option.some.injEq, Prod.mk.injEq] at H
  obtain ⟨rfl, rfl, rfl⟩ := H
  go_enter Try.func23, Try.ntmps23
  go_wp2_with (first | ((with_reducible refine gate_callee (f := 54) rfl ?_); refine goesL_ (some 10) rfl rfl Try.func54 (by kernel_rfl) rfl #[.slice A0 l0.length c0] rfl Yb_ ?_; (with_reducible refine (Aq.calls k _ _ l0 false _ ?side1 ?side2 A2.out).mono ?_); (case side1 => repeat (first | exact HR0.out | (with_reducible refine Kd.Be ?_ _) | (with_reducible refine Kd.Bf ?_ _) | (with_reducible refine Kd.Bh ?_))); (case side2 => exact HC0.out); rintro e w8 ⟨rfl, hb⟩; refine ⟨_, rfl, ?_⟩; have n0_ := Aside0.mk (below_step Ya_ hb); clear HB; have HB := n0_; clear n0_; (try clear hb); (try clear hb2); (try clear hk); (try clear hi)))
  go_ret3
  exact ⟨by first | rfl | (simp [Aw, Az] <;> rfl) | (simp [*, Aw, Az] <;> rfl), by repeat (first | (with_reducible first | exact HB.out | apply Af | apply Ad | apply Ae) | exact HB.out)⟩
end Go.Proofs.Ytolaplcjbmjlmaa.X

namespace Go.Proofs.Ytolaplcjbmjlmaa.X
open Go.RowKit Go.Proofs.YtolaplcjbmjlmaaW.PrintWords Go.Proofs.YtolaplcjbmjlmaaW.PrintLast Go.Proofs.YtolaplcjbmjlmaaW.PrintMore
attribute [local go_sem] max2_int min2_int max_two min_two max_three min_three max_four min_four
def Ed.l0 : Nat → List (S59) → Int → Int → Int → Option (Int × Int × Bool)
 | 0, _, _, _, _ => none
 | k + 1, x0, x5, x6, x12 => if x12 < 241 then ((D9.f k x0 x12).bind fun t181 => (if t181 > x6 then (Ed.l0 k x0 x12 t181 (wrap64 (x12 + 1))) else (Ed.l0 k x0 x5 x6 (wrap64 (x12 + 1))))) else (some (x5, x6, true))
def Ed.f (k : Nat) (l0 : List (S59)) : Option (Int × Int × Bool) := (impl_IsValidStays.f l0).bind fun t180 => (if t180 = true then (Ed.l0 k l0 0 0 0) else (some (0, 0, false)))
theorem Ed.Dq : ∀ k, (∀ y0 y1 y2 y3, LeO (Ed.l0 k y0 y1 y2 y3) (Ed.l0 (k + 1) y0 y1 y2 y3))
 | 0 => fun _ _ _ _ r h => by simp [Ed.l0] at h
 | k + 1 => by
  have ih0 := Ed.Dq k
  ·intro y0 y1 y2 y3
   unfold Ed.l0
   repeat' first
   | (with_reducible exact ih0 _ _ _ _)
   | (with_reducible exact D9.mono _ _ _)
   | (with_reducible exact LeO.refl _)
   | (with_reducible exact LeO.none _)
   | (with_reducible refine LeO.ite ?_ ?_)
   | (with_reducible refine LeO.bind ?_ (fun _ => ?_))
   | exact ih0 _ _ _ _
   | exact D9.mono _ _ _
   | exact LeO.none _
   | refine LeO.ite ?_ ?_
   | refine LeO.bind ?_ (fun _ => ?_)
theorem Ed.mono : ∀ a0 k, LeO (Ed.f k a0) (Ed.f (k + 1) a0) := by
 intro a0 k
 have ih0 := Ed.Dq k
 unfold Ed.f
 repeat' first
   | (with_reducible exact ih0 _ _ _ _)
   | (with_reducible exact D9.mono _ _ _)
   | (with_reducible exact LeO.refl _)
   | (with_reducible exact LeO.none _)
   | (with_reducible refine LeO.ite ?_ ?_)
   | (with_reducible refine LeO.bind ?_ (fun _ => ?_))
   | exact ih0 _ _ _ _
   | exact D9.mono _ _ _
   | exact LeO.none _
   | refine LeO.ite ?_ ?_
   | refine LeO.bind ?_ (fun _ => ?_)
set_option maxHeartbeats 8000000 in
set_option maxRecDepth 100000 in
theorem Ed.calls (k : Nat) (A0 : Option Addr) (c0 : Nat) (l0 : List (S59)) (r1 : Int) (r2 : Int) (r3 : Bool) (w : World) (hr0 : Kd.C k59 w A0 l0.length l0) (hc0 : l0.length ≤ c0) (h : Ed.f k l0 = some (r1, r2, r3)) :
  Calls Try.prog 24 #[.slice A0 l0.length c0] w fun e w' => e = .returned (.tuple #[.int .i64 r1, .int .i64 r2, .bool r3]) ∧ Below w.heap.size w w' := by
 have HR0 := Aside0.mk hr0
 have HC0 := Aside0.mk hc0
 clear hr0 hc0
 have HB := Aside0.mk (Below.refl w.heap.size w)
 have H : ((impl_IsValidStays.f l0).bind fun t180 => (if t180 = true then (Ed.l0 k l0 0 0 0) else (some (0, 0, false)))) = some (r1, r2, r3) := h
 clear h
 replace H := Option.bind_eq_some_iff.mp H
 obtain ⟨t180, A20, H⟩ := H
 replace H : (if t180 = true then (Ed.l0 k l0 0 0 0) else (some (0, 0, false))) = some (r1, r2, r3) := H
 have A2 := Aside0.mk A20
 clear A20
 by_cases c3 : t180 = true
 ·subst c3
  have H1 : (Ed.l0 k l0 0 0 0) = some (r1, r2, r3) := by rw [if_pos rfl] at H; exact H
  clear H
  have H := H1
  clear H1
  have H' := Aside0.mk H
  clear H
  go_enter Try.func24, Try.ntmps24
  go_wp2_with (first | ((with_reducible refine gate_callee (f := 19) rfl ?_); refine goesL_ (some 10) rfl rfl Try.func19 (by kernel_rfl) rfl #[.slice A0 l0.length c0] rfl Yb_ ?_; (with_reducible refine (impl_IsValidStays.calls _ _ l0 true _ ?side1 ?side2 A2.out).mono ?_); (case side1 => repeat (first | exact HR0.out | (with_reducible refine Kd.Be ?_ _) | (with_reducible refine Kd.Bf ?_ _) | (with_reducible refine Kd.Bh ?_))); (case side2 => exact HC0.out); rintro e w4 ⟨rfl, hb⟩; refine ⟨_, rfl, ?_⟩; have n0_ := Aside0.mk (below_step Ya_ hb); clear HB; have HB := n0_; clear n0_; (try clear hb); (try clear hb2); (try clear hk); (try clear hi)))
  go_loopg [5, 6, 12] k (fun kq v5 v6 v12 w' => ∃ (x5_1 : Int) (x6_1 : Int) (x12_1 : Int), v5 = .int .i64 x5_1 ∧ v6 = .int .i64 x6_1 ∧ v12 = .int .i64 x12_1 ∧ Aside0 (Ed.l0 kq l0 x5_1 x6_1 x12_1 = some (r1, r2, r3)) ∧ Aside0 (kq ≤ k) ∧ Aside0 (Below w.heap.size w w'))
  case atStart => exact ⟨(0), (0), (0), Yd_, Yd_, Yd_, H', ⟨Nat.le_refl _⟩, ⟨by repeat (first | (with_reducible first | exact HB.out | apply Af | apply Ad | apply Ae) | exact HB.out)⟩⟩
  case round =>
   clear H'
   try clear c1
   try clear c2
   try clear p2
   try clear c3
   obtain ⟨x5_1, x6_1, x12_1, rfl, rfl, rfl, HA, HK1, HB⟩ := hrel
   cases gk with
   | zero => exact absurd HA.out (by simp [Ed.l0])
   | succ k1 =>
    have H := HA.out
    clear HA
    simp only [Ed.l0] at H
    by_cases c5 : x12_1 < 241
    ·rw [if_pos c5] at H
     have c5b0 : decide (x12_1 < 241) = true := decide_eq_true c5
     clear c5
     replace H := Option.bind_eq_some_iff.mp H
     obtain ⟨t181, A60, H⟩ := H
     replace H : (if t181 > x6_1 then (Ed.l0 k1 l0 x12_1 t181 (wrap64 (x12_1 + 1))) else (Ed.l0 k1 l0 x5_1 x6_1 (wrap64 (x12_1 + 1)))) = some (r1, r2, r3) := H
     have A6 := Aside0.mk A60
     clear A60
     by_cases c7 : t181 > x6_1
     ·rw [if_pos c7] at H
      have c7b0 : decide (x6_1 < t181) = true := decide_eq_true c7
      clear c7
      have H' := Aside0.mk H
      clear H
      go_wp2_with (first | ((with_reducible refine gate_callee (f := 60) rfl ?_); refine goesL_ (some 17) rfl rfl Try.func60 (by kernel_rfl) rfl #[.slice A0 l0.length c0, .int .i64 x12_1] rfl Yb_ ?_; (with_reducible refine (D9.calls k1 _ _ l0 x12_1 t181 _ ?side1 ?side2 A6.out).mono ?_); (case side1 => repeat (first | exact (Kd.C_below HR0.out HB.out) | (with_reducible refine Kd.Be ?_ _) | (with_reducible refine Kd.Bf ?_ _) | (with_reducible refine Kd.Bh ?_))); (case side2 => exact HC0.out); rintro e w8 ⟨rfl, hb⟩; refine ⟨_, rfl, ?_⟩; have n0_ := Aside0.mk (below_step Ya_ hb); clear HB; have HB := n0_; clear n0_; (try clear hb); (try clear hb2); (try clear hk); (try clear hi)))
      go_roundg k1
      case measure => have := HK1.out; omega
      case rel => exact ⟨(x12_1), (t181), (wrap64 (x12_1 + 1)), Yd_, Yd_, Yd_, H', ⟨by have := HK1.out; omega⟩, ⟨by repeat (first | (with_reducible first | exact HB.out | apply Af | apply Ad | apply Ae) | exact HB.out)⟩⟩
     ·rw [if_neg c7] at H
      have c7b0 : decide (x6_1 < t181) = false := decide_eq_false c7
      clear c7
      have H' := Aside0.mk H
      clear H
      go_wp2_with (first | ((with_reducible refine gate_callee (f := 60) rfl ?_); refine goesL_ (some 17) rfl rfl Try.func60 (by kernel_rfl) rfl #[.slice A0 l0.length c0, .int .i64 x12_1] rfl Yb_ ?_; (with_reducible refine (D9.calls k1 _ _ l0 x12_1 t181 _ ?side1 ?side2 A6.out).mono ?_); (case side1 => repeat (first | exact (Kd.C_below HR0.out HB.out) | (with_reducible refine Kd.Be ?_ _) | (with_reducible refine Kd.Bf ?_ _) | (with_reducible refine Kd.Bh ?_))); (case side2 => exact HC0.out); rintro e w9 ⟨rfl, hb⟩; refine ⟨_, rfl, ?_⟩; have n0_ := Aside0.mk (below_step Ya_ hb); clear HB; have HB := n0_; clear n0_; (try clear hb); (try clear hb2); (try clear hk); (try clear hi)))
      go_roundg k1
      case measure => have := HK1.out; omega
      case rel => exact ⟨(x5_1), (x6_1), (wrap64 (x12_1 + 1)), Yd_, Yd_, Yd_, H', ⟨by have := HK1.out; omega⟩, ⟨by repeat (first | (with_reducible first | exact HB.out | apply Af | apply Ad | apply Ae) | exact HB.out)⟩⟩
    ·rw [if_neg c5] at H
     have c5b0 : decide (x12_1 < 241) = false := decide_eq_false c5
     clear c5
     simp only [Option.some.injEq, Prod.mk.injEq] at H
     obtain ⟨rfl, rfl, rfl⟩ := H
     go_wp2
     go_ret3
     exact ⟨by first | rfl | (simp [Aw, Az] <;> rfl) | (simp [*, Aw, Az] <;> rfl), by repeat (first | (with_reducible first | exact HB.out | apply Af | apply Ad | apply Ae) | exact HB.out)⟩
 ·replace c3 := Bool.eq_false_iff.mpr c3
  subst c3
  have H1 : (some (0, 0, false)) = some (r1, r2, r3) := by rw [if_neg (show ¬ (false = true) by decide)] at H; exact H
  clear H
  have H := H1
  clear H1
  simp only [Option.some.injEq, Prod.mk.injEq] at H
  obtain ⟨rfl, rfl, rfl⟩ := H
  go_enter Try.func24, Try.ntmps24
  go_wp2_with (first | ((with_reducible refine gate_callee (f := 19) rfl ?_); refine goesL_ (some 10) rfl rfl Try.func19 (by kernel_rfl) rfl #[.slice A0 l0.length c0] rfl Yb_ ?_; (with_reducible refine (impl_IsValidStays.calls _ _ l0 false _ ?side1 ?side2 A2.out).mono ?_); (case side1 => repeat (first | exact HR0.out | (with_reducible refine Kd.Be ?_ _) | (with_reducible refine Kd.Bf ?_ _) | (with_reducible refine Kd.Bh ?_))); (case side2 => exact HC0.out); rintro e w10 ⟨rfl, hb⟩; refine ⟨_, rfl, ?_⟩; have n0_ := Aside0.mk (below_step Ya_ hb); clear HB; have HB := n0_; clear n0_; (try clear hb); (try clear hb2); (try clear hk); (try clear hi)))
  go_ret3
  exact ⟨by first | rfl | (simp [Aw, Az] <;> rfl) | (simp [*, Aw, Az] <;> rfl), by repeat (first | (with_reducible first | exact HB.out | apply Af | apply Ad | apply Ae) | exact HB.out)⟩
end Go.Proofs.Ytolaplcjbmjlmaa.X

