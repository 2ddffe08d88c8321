/- Texts that the proof of the law FnLogLines leans on, part 6 of 7. -/
import Derived.Deep.Slices
import Derived.ChangeSame
import Derived.ChangeArms
import Derived.DataReads
import Derived.SizedLaws
import Derived.ProofKit
import Derived.Lib.SmallJoins
import Derived.ChangeOld
import Derived.Below
import Derived.Lib.IndexAny
import Derived.Lib.ItoaNum
import Derived.Lib.ItoaLen
import Derived.Test.YtkpieljmhgfofaaDoorKFnLogLines0
import Derived.Test.YtkpieljmhgfofaaDoorKFnLogLines1
import Derived.Test.YtkpieljmhgfofaaDoorKFnLogLines2
import Derived.Test.YtkpieljmhgfofaaDoorKFnLogLines3
import Derived.Test.YtkpieljmhgfofaaDoorKFnLogLines4
-- written by a program of this session (wip/ext.py) out of the translation. Not trusted: Lean checks it.
namespace Go.Proofs.YtkpieljmhgfofaaDoor.X
open Go.RowKit Go.Proofs.YtkpieljmhgfofaaDoorW.PrintWords Go.Proofs.YtkpieljmhgfofaaDoorW.PrintLast Go.Proofs.YtkpieljmhgfofaaDoorW.PrintMore
attribute [local go_sem] max2_int min2_int max_two min_two max_three min_three max_four min_four   -- for this text's walks alone
open Go.Proofs.YtkpieljmhgfofaaDoorG
set_option linter.unusedVariables false
set_option linter.unusedSimpArgs false

attribute [local go_sem high] eqA31
mutual
def laws_FnLogLines.j0 : Nat → Int → ByteArray → Bool → Bool → Bool → ByteArray → ByteArray → Int → Option (Bool)
  | 0, _, _, _, _, _, _, _, _ => none
  | k + 1, x3, x5, x6, x12, x76, x643000, x643001, x643002 => if x76 = true then (some false) else ((impl_RecoverLog.f k x5).bind fun bt649 => (if x6 = true then (if ((decide (bt649.2.2.2.1 > 0)) != (x3 == 0)) = true then (laws_FnLogLines.j1 k x5 x6 x12 true x643000 x643001 x643002) else (if x3 = 0 then (laws_FnLogLines.j1 k x5 x6 x12 (bt649.2.2.1 != 1) x643000 x643001 x643002) else (laws_FnLogLines.j1 k x5 x6 x12 false x643000 x643001 x643002))) else (laws_FnLogLines.j1 k x5 x6 x12 false x643000 x643001 x643002)))
def laws_FnLogLines.j1 : Nat → ByteArray → Bool → Bool → Bool → ByteArray → ByteArray → Int → Option (Bool)
  | 0, _, _, _, _, _, _, _ => none
  | k + 1, x5, x6, x12, x102, x643000, x643001, x643002 => if x102 = true then (some false) else ((impl_SyncLog.f k x643000 x643001 x643002).bind fun bt655 => (if x12 = true then (if bt655.2.2.2 = true then (if (bt655.1.toList == x643000.toList && (bt655.2.1.toList == x643001.toList && (bt655.2.2.1 == x643002))) = true then ((impl_IsValidLog.f k x643000 x643001 x643002).bind fun t660 => (if t660 = true then (if x6 = true then (some true) else (some (x5.toList == ([] : List UInt8)))) else (some false))) else (some false)) else (some false)) else (some true)))
end
def laws_FnLogLines.f (k : Nat) (l0 : List Int) : Option (Bool) := (laws_vBig.f l0).bind fun t627 => (if t627 = true then (some true) else ((spec_DrawEncodeRecord.f l0).bind fun bt628 => ((impl_EncodeRecord.f k bt628.1 bt628.2.1 bt628.2.2).bind fun bt632 => ((spec_EncodeRecord.f k bt628.1 bt628.2.1 bt628.2.2).bind fun bt634 => ((spec_DrawRecoverLog.f k l0).bind fun t636 => ((impl_RecoverLog.f k t636).bind fun bt637 => ((spec_RecoverLog.f k t636).bind fun bt643 => (if bt632.1.toList = bt634.1.toList then (if (bt632.2 != bt634.2) = true then (laws_FnLogLines.j0 k bt628.1 bt632.1 bt632.2 bt637.2.2.2.2 true bt637.1 bt637.2.1 bt637.2.2.1) else (if (!(bt637.1.toList == bt643.1.toList) || (!(bt637.2.1.toList == bt643.2.1.toList) || (!(bt637.2.2.1 == bt643.2.2.1)))) = true then (laws_FnLogLines.j0 k bt628.1 bt632.1 bt632.2 bt637.2.2.2.2 true bt637.1 bt637.2.1 bt637.2.2.1) else (if bt637.2.2.2.1 = bt643.2.2.2.1 then (laws_FnLogLines.j0 k bt628.1 bt632.1 bt632.2 bt637.2.2.2.2 (bt637.2.2.2.2 != bt643.2.2.2.2) bt637.1 bt637.2.1 bt637.2.2.1) else (laws_FnLogLines.j0 k bt628.1 bt632.1 bt632.2 bt637.2.2.2.2 true bt637.1 bt637.2.1 bt637.2.2.1)))) else (laws_FnLogLines.j0 k bt628.1 bt632.1 bt632.2 bt637.2.2.2.2 true bt637.1 bt637.2.1 bt637.2.2.1)))))))))
theorem laws_FnLogLines.mono_l : ∀ k, (∀ y0 y1 y2 y3 y4 y5 y6 y7, LeO (laws_FnLogLines.j0 k y0 y1 y2 y3 y4 y5 y6 y7) (laws_FnLogLines.j0 (k + 1) y0 y1 y2 y3 y4 y5 y6 y7)) ∧ (∀ y0 y1 y2 y3 y4 y5 y6, LeO (laws_FnLogLines.j1 k y0 y1 y2 y3 y4 y5 y6) (laws_FnLogLines.j1 (k + 1) y0 y1 y2 y3 y4 y5 y6))
  | 0 => ⟨fun _ _ _ _ _ _ _ _ r h => by simp [laws_FnLogLines.j0] at h, fun _ _ _ _ _ _ _ r h => by simp [laws_FnLogLines.j1] at h⟩
  | k + 1 => by
    obtain ⟨ih0, ih1⟩ := laws_FnLogLines.mono_l k
    refine ⟨?_, ?_⟩
    · intro y0 y1 y2 y3 y4 y5 y6 y7
      unfold laws_FnLogLines.j0
      repeat' first
      | (with_reducible exact ih0 _ _ _ _ _ _ _ _)
      | (with_reducible exact ih1 _ _ _ _ _ _ _)
      | (with_reducible exact impl_EncodeRecord.mono _ _ _ _)
      | (with_reducible exact impl_IsValidLog.mono _ _ _ _)
      | (with_reducible exact impl_RecoverLog.mono _ _)
      | (with_reducible exact impl_SyncLog.mono _ _ _ _)
      | (with_reducible exact spec_DrawRecoverLog.mono _ _)
      | (with_reducible exact spec_EncodeRecord.mono _ _ _ _)
      | (with_reducible exact spec_RecoverLog.mono _ _)
      | (with_reducible exact LeO.refl _)
      | (with_reducible exact LeO.none _)
      | (with_reducible refine LeO.ite ?_ ?_)
      | (with_reducible refine LeO.bind ?_ (fun _ => ?_))
      | exact ih0 _ _ _ _ _ _ _ _
      | exact ih1 _ _ _ _ _ _ _
      | exact impl_EncodeRecord.mono _ _ _ _
      | exact impl_IsValidLog.mono _ _ _ _
      | exact impl_RecoverLog.mono _ _
      | exact impl_SyncLog.mono _ _ _ _
      | exact spec_DrawRecoverLog.mono _ _
      | exact spec_EncodeRecord.mono _ _ _ _
      | exact spec_RecoverLog.mono _ _
      | exact LeO.none _
      | refine LeO.ite ?_ ?_
      | refine LeO.bind ?_ (fun _ => ?_)
    · intro y0 y1 y2 y3 y4 y5 y6
      unfold laws_FnLogLines.j1
      repeat' first
      | (with_reducible exact ih0 _ _ _ _ _ _ _ _)
      | (with_reducible exact ih1 _ _ _ _ _ _ _)
      | (with_reducible exact impl_EncodeRecord.mono _ _ _ _)
      | (with_reducible exact impl_IsValidLog.mono _ _ _ _)
      | (with_reducible exact impl_RecoverLog.mono _ _)
      | (with_reducible exact impl_SyncLog.mono _ _ _ _)
      | (with_reducible exact spec_DrawRecoverLog.mono _ _)
      | (with_reducible exact spec_EncodeRecord.mono _ _ _ _)
      | (with_reducible exact spec_RecoverLog.mono _ _)
      | (with_reducible exact LeO.refl _)
      | (with_reducible exact LeO.none _)
      | (with_reducible refine LeO.ite ?_ ?_)
      | (with_reducible refine LeO.bind ?_ (fun _ => ?_))
      | exact ih0 _ _ _ _ _ _ _ _
      | exact ih1 _ _ _ _ _ _ _
      | exact impl_EncodeRecord.mono _ _ _ _
      | exact impl_IsValidLog.mono _ _ _ _
      | exact impl_RecoverLog.mono _ _
      | exact impl_SyncLog.mono _ _ _ _
      | exact spec_DrawRecoverLog.mono _ _
      | exact spec_EncodeRecord.mono _ _ _ _
      | exact spec_RecoverLog.mono _ _
      | exact LeO.none _
      | refine LeO.ite ?_ ?_
      | refine LeO.bind ?_ (fun _ => ?_)
theorem laws_FnLogLines.mono : ∀ a0 k, LeO (laws_FnLogLines.f k a0) (laws_FnLogLines.f (k + 1) a0) := by
  intro a0 k
  obtain ⟨ih0, ih1⟩ := laws_FnLogLines.mono_l k
  unfold laws_FnLogLines.f
  repeat' first
      | (with_reducible exact ih0 _ _ _ _ _ _ _ _)
      | (with_reducible exact ih1 _ _ _ _ _ _ _)
      | (with_reducible exact impl_EncodeRecord.mono _ _ _ _)
      | (with_reducible exact impl_IsValidLog.mono _ _ _ _)
      | (with_reducible exact impl_RecoverLog.mono _ _)
      | (with_reducible exact impl_SyncLog.mono _ _ _ _)
      | (with_reducible exact spec_DrawRecoverLog.mono _ _)
      | (with_reducible exact spec_EncodeRecord.mono _ _ _ _)
      | (with_reducible exact spec_RecoverLog.mono _ _)
      | (with_reducible exact LeO.refl _)
      | (with_reducible exact LeO.none _)
      | (with_reducible refine LeO.ite ?_ ?_)
      | (with_reducible refine LeO.bind ?_ (fun _ => ?_))
      | exact ih0 _ _ _ _ _ _ _ _
      | exact ih1 _ _ _ _ _ _ _
      | exact impl_EncodeRecord.mono _ _ _ _
      | exact impl_IsValidLog.mono _ _ _ _
      | exact impl_RecoverLog.mono _ _
      | exact impl_SyncLog.mono _ _ _ _
      | exact spec_DrawRecoverLog.mono _ _
      | exact spec_EncodeRecord.mono _ _ _ _
      | exact spec_RecoverLog.mono _ _
      | exact LeO.none _
      | refine LeO.ite ?_ ?_
      | refine LeO.bind ?_ (fun _ => ?_)
set_option maxHeartbeats 8000000 in
set_option maxRecDepth 100000 in
theorem laws_FnLogLines.calls (k : Nat) (A0 : Option Addr) (c0 : Nat) (l0 : List Int) (r : Bool) (w : World) (hr0 : Kd.C (Kd.int .u8) w A0 l0.length l0) (hc0 : l0.length ≤ c0) (hG : Glob w) (h : laws_FnLogLines.f k l0 = some r) (hr_ : r = true) :
    Calls Tryd.prog 11 #[.slice A0 l0.length c0] w fun e w' => e = .returned (.bool r) ∧ Below w.heap.size w w' := by
  have HR_ := Aside0.mk hr_
  clear hr_
  have hu27 := Tryd.underlying27
  have hu31 := Tryd.underlying31
  have HGL := Aside0.mk hG
  clear hG
  have HR0 := Aside0.mk hr0
  have HC0 := Aside0.mk hc0
  clear hr0 hc0
  have HB := Aside0.mk (Below.refl w.heap.size w)
  have H : ((laws_vBig.f l0).bind fun t627 => (if t627 = true then (some true) else ((spec_DrawEncodeRecord.f l0).bind fun bt628 => ((impl_EncodeRecord.f k bt628.1 bt628.2.1 bt628.2.2).bind fun bt632 => ((spec_EncodeRecord.f k bt628.1 bt628.2.1 bt628.2.2).bind fun bt634 => ((spec_DrawRecoverLog.f k l0).bind fun t636 => ((impl_RecoverLog.f k t636).bind fun bt637 => ((spec_RecoverLog.f k t636).bind fun bt643 => (if bt632.1.toList = bt634.1.toList then (if (bt632.2 != bt634.2) = true then (laws_FnLogLines.j0 k bt628.1 bt632.1 bt632.2 bt637.2.2.2.2 true bt637.1 bt637.2.1 bt637.2.2.1) else (if (!(bt637.1.toList == bt643.1.toList) || (!(bt637.2.1.toList == bt643.2.1.toList) || (!(bt637.2.2.1 == bt643.2.2.1)))) = true then (laws_FnLogLines.j0 k bt628.1 bt632.1 bt632.2 bt637.2.2.2.2 true bt637.1 bt637.2.1 bt637.2.2.1) else (if bt637.2.2.2.1 = bt643.2.2.2.1 then (laws_FnLogLines.j0 k bt628.1 bt632.1 bt632.2 bt637.2.2.2.2 (bt637.2.2.2.2 != bt643.2.2.2.2) bt637.1 bt637.2.1 bt637.2.2.1) else (laws_FnLogLines.j0 k bt628.1 bt632.1 bt632.2 bt637.2.2.2.2 true bt637.1 bt637.2.1 bt637.2.2.1)))) else (laws_FnLogLines.j0 k bt628.1 bt632.1 bt632.2 bt637.2.2.2.2 true bt637.1 bt637.2.1 bt637.2.2.1)))))))))) = some r := h
  clear h
  replace H := Option.bind_eq_some_iff.mp H
  obtain ⟨t627, A20, H⟩ := H
  replace H : (if t627 = true then (some true) else ((spec_DrawEncodeRecord.f l0).bind fun bt628 => ((impl_EncodeRecord.f k bt628.1 bt628.2.1 bt628.2.2).bind fun bt632 => ((spec_EncodeRecord.f k bt628.1 bt628.2.1 bt628.2.2).bind fun bt634 => ((spec_DrawRecoverLog.f k l0).bind fun t636 => ((impl_RecoverLog.f k t636).bind fun bt637 => ((spec_RecoverLog.f k t636).bind fun bt643 => (if bt632.1.toList = bt634.1.toList then (if (bt632.2 != bt634.2) = true then (laws_FnLogLines.j0 k bt628.1 bt632.1 bt632.2 bt637.2.2.2.2 true bt637.1 bt637.2.1 bt637.2.2.1) else (if (!(bt637.1.toList == bt643.1.toList) || (!(bt637.2.1.toList == bt643.2.1.toList) || (!(bt637.2.2.1 == bt643.2.2.1)))) = true then (laws_FnLogLines.j0 k bt628.1 bt632.1 bt632.2 bt637.2.2.2.2 true bt637.1 bt637.2.1 bt637.2.2.1) else (if bt637.2.2.2.1 = bt643.2.2.2.1 then (laws_FnLogLines.j0 k bt628.1 bt632.1 bt632.2 bt637.2.2.2.2 (bt637.2.2.2.2 != bt643.2.2.2.2) bt637.1 bt637.2.1 bt637.2.2.1) else (laws_FnLogLines.j0 k bt628.1 bt632.1 bt632.2 bt637.2.2.2.2 true bt637.1 bt637.2.1 bt637.2.2.1)))) else (laws_FnLogLines.j0 k bt628.1 bt632.1 bt632.2 bt637.2.2.2.2 true bt637.1 bt637.2.1 bt637.2.2.1))))))))) = some r := H
  have A2 := Aside0.mk A20
  clear A20
  by_cases c3 : t627 = true
  · subst c3
    have H1 : (some true) = some r := by rw [if_pos rfl] at H; exact H
    clear H
    have H := H1
    clear H1
    obtain rfl := Option.some.inj H
    go_enter Tryd.func11, Tryd.ntmps11
    go_wp2_with (first | ((with_reducible refine gate_callee (f := 35) rfl ?_); refine goesL_ (some 22) rfl rfl Tryd.func35 (by kernel_rfl) rfl #[.slice A0 l0.length c0] rfl (by (try simp only [List.map_toArray, List.map_cons, List.map_nil]); first | done | rfl | (simp only [List.length_drop, List.length_take]; rfl)) ?_; (with_reducible refine (laws_vBig.calls _ _ l0 true _ ?side1 ?side2 A2.out).mono ?_); (case side1 => repeat (first | exact HR0.out | (with_reducible refine Kd.C_alloc ?_ _) | (with_reducible refine Kd.C_drewN ?_ _) | (with_reducible refine Kd.C_drew ?_))); (case side2 => exact HC0.out); rintro e w' ⟨rfl, ⟨nd, rfl⟩⟩; refine ⟨_, rfl, ?_⟩))
    go_ret
    exact ⟨by first | rfl | (simp [errW_none, errW_some] <;> rfl) | (simp [*, errW_none, errW_some] <;> rfl), by repeat (first | (with_reducible first | exact HB.out | apply below_alloc | apply pw_below_drewN | apply below_drew1) | exact HB.out)⟩
  · replace c3 := Bool.eq_false_iff.mpr c3
    subst c3
    have H1 : ((spec_DrawEncodeRecord.f l0).bind fun bt628 => ((impl_EncodeRecord.f k bt628.1 bt628.2.1 bt628.2.2).bind fun bt632 => ((spec_EncodeRecord.f k bt628.1 bt628.2.1 bt628.2.2).bind fun bt634 => ((spec_DrawRecoverLog.f k l0).bind fun t636 => ((impl_RecoverLog.f k t636).bind fun bt637 => ((spec_RecoverLog.f k t636).bind fun bt643 => (if bt632.1.toList = bt634.1.toList then (if (bt632.2 != bt634.2) = true then (laws_FnLogLines.j0 k bt628.1 bt632.1 bt632.2 bt637.2.2.2.2 true bt637.1 bt637.2.1 bt637.2.2.1) else (if (!(bt637.1.toList == bt643.1.toList) || (!(bt637.2.1.toList == bt643.2.1.toList) || (!(bt637.2.2.1 == bt643.2.2.1)))) = true then (laws_FnLogLines.j0 k bt628.1 bt632.1 bt632.2 bt637.2.2.2.2 true bt637.1 bt637.2.1 bt637.2.2.1) else (if bt637.2.2.2.1 = bt643.2.2.2.1 then (laws_FnLogLines.j0 k bt628.1 bt632.1 bt632.2 bt637.2.2.2.2 (bt637.2.2.2.2 != bt643.2.2.2.2) bt637.1 bt637.2.1 bt637.2.2.1) else (laws_FnLogLines.j0 k bt628.1 bt632.1 bt632.2 bt637.2.2.2.2 true bt637.1 bt637.2.1 bt637.2.2.1)))) else (laws_FnLogLines.j0 k bt628.1 bt632.1 bt632.2 bt637.2.2.2.2 true bt637.1 bt637.2.1 bt637.2.2.1)))))))) = some r := by rw [if_neg (show ¬ (false = true) by decide)] at H; exact H
    clear H
    have H := H1
    clear H1
    replace H := Option.bind_eq_some_iff.mp H
    obtain ⟨⟨t628, t629, t630⟩, A40, H⟩ := H
    replace H : ((impl_EncodeRecord.f k t628 t629 t630).bind fun bt632 => ((spec_EncodeRecord.f k t628 t629 t630).bind fun bt634 => ((spec_DrawRecoverLog.f k l0).bind fun t636 => ((impl_RecoverLog.f k t636).bind fun bt637 => ((spec_RecoverLog.f k t636).bind fun bt643 => (if bt632.1.toList = bt634.1.toList then (if (bt632.2 != bt634.2) = true then (laws_FnLogLines.j0 k t628 bt632.1 bt632.2 bt637.2.2.2.2 true bt637.1 bt637.2.1 bt637.2.2.1) else (if (!(bt637.1.toList == bt643.1.toList) || (!(bt637.2.1.toList == bt643.2.1.toList) || (!(bt637.2.2.1 == bt643.2.2.1)))) = true then (laws_FnLogLines.j0 k t628 bt632.1 bt632.2 bt637.2.2.2.2 true bt637.1 bt637.2.1 bt637.2.2.1) else (if bt637.2.2.2.1 = bt643.2.2.2.1 then (laws_FnLogLines.j0 k t628 bt632.1 bt632.2 bt637.2.2.2.2 (bt637.2.2.2.2 != bt643.2.2.2.2) bt637.1 bt637.2.1 bt637.2.2.1) else (laws_FnLogLines.j0 k t628 bt632.1 bt632.2 bt637.2.2.2.2 true bt637.1 bt637.2.1 bt637.2.2.1)))) else (laws_FnLogLines.j0 k t628 bt632.1 bt632.2 bt637.2.2.2.2 true bt637.1 bt637.2.1 bt637.2.2.1))))))) = some r := H
    have A4 := Aside0.mk A40
    clear A40
    replace H := Option.bind_eq_some_iff.mp H
    obtain ⟨⟨t632, t633⟩, A50, H⟩ := H
    replace H : ((spec_EncodeRecord.f k t628 t629 t630).bind fun bt634 => ((spec_DrawRecoverLog.f k l0).bind fun t636 => ((impl_RecoverLog.f k t636).bind fun bt637 => ((spec_RecoverLog.f k t636).bind fun bt643 => (if t632.toList = bt634.1.toList then (if (t633 != bt634.2) = true then (laws_FnLogLines.j0 k t628 t632 t633 bt637.2.2.2.2 true bt637.1 bt637.2.1 bt637.2.2.1) else (if (!(bt637.1.toList == bt643.1.toList) || (!(bt637.2.1.toList == bt643.2.1.toList) || (!(bt637.2.2.1 == bt643.2.2.1)))) = true then (laws_FnLogLines.j0 k t628 t632 t633 bt637.2.2.2.2 true bt637.1 bt637.2.1 bt637.2.2.1) else (if bt637.2.2.2.1 = bt643.2.2.2.1 then (laws_FnLogLines.j0 k t628 t632 t633 bt637.2.2.2.2 (bt637.2.2.2.2 != bt643.2.2.2.2) bt637.1 bt637.2.1 bt637.2.2.1) else (laws_FnLogLines.j0 k t628 t632 t633 bt637.2.2.2.2 true bt637.1 bt637.2.1 bt637.2.2.1)))) else (laws_FnLogLines.j0 k t628 t632 t633 bt637.2.2.2.2 true bt637.1 bt637.2.1 bt637.2.2.1)))))) = some r := H
    have A5 := Aside0.mk A50
    clear A50
    replace H := Option.bind_eq_some_iff.mp H
    obtain ⟨⟨t634, t635⟩, A60, H⟩ := H
    replace H : ((spec_DrawRecoverLog.f k l0).bind fun t636 => ((impl_RecoverLog.f k t636).bind fun bt637 => ((spec_RecoverLog.f k t636).bind fun bt643 => (if t632.toList = t634.toList then (if (t633 != t635) = true then (laws_FnLogLines.j0 k t628 t632 t633 bt637.2.2.2.2 true bt637.1 bt637.2.1 bt637.2.2.1) else (if (!(bt637.1.toList == bt643.1.toList) || (!(bt637.2.1.toList == bt643.2.1.toList) || (!(bt637.2.2.1 == bt643.2.2.1)))) = true then (laws_FnLogLines.j0 k t628 t632 t633 bt637.2.2.2.2 true bt637.1 bt637.2.1 bt637.2.2.1) else (if bt637.2.2.2.1 = bt643.2.2.2.1 then (laws_FnLogLines.j0 k t628 t632 t633 bt637.2.2.2.2 (bt637.2.2.2.2 != bt643.2.2.2.2) bt637.1 bt637.2.1 bt637.2.2.1) else (laws_FnLogLines.j0 k t628 t632 t633 bt637.2.2.2.2 true bt637.1 bt637.2.1 bt637.2.2.1)))) else (laws_FnLogLines.j0 k t628 t632 t633 bt637.2.2.2.2 true bt637.1 bt637.2.1 bt637.2.2.1))))) = some r := H
    have A6 := Aside0.mk A60
    clear A60
    replace H := Option.bind_eq_some_iff.mp H
    obtain ⟨t636, A70, H⟩ := H
    replace H : ((impl_RecoverLog.f k t636).bind fun bt637 => ((spec_RecoverLog.f k t636).bind fun bt643 => (if t632.toList = t634.toList then (if (t633 != t635) = true then (laws_FnLogLines.j0 k t628 t632 t633 bt637.2.2.2.2 true bt637.1 bt637.2.1 bt637.2.2.1) else (if (!(bt637.1.toList == bt643.1.toList) || (!(bt637.2.1.toList == bt643.2.1.toList) || (!(bt637.2.2.1 == bt643.2.2.1)))) = true then (laws_FnLogLines.j0 k t628 t632 t633 bt637.2.2.2.2 true bt637.1 bt637.2.1 bt637.2.2.1) else (if bt637.2.2.2.1 = bt643.2.2.2.1 then (laws_FnLogLines.j0 k t628 t632 t633 bt637.2.2.2.2 (bt637.2.2.2.2 != bt643.2.2.2.2) bt637.1 bt637.2.1 bt637.2.2.1) else (laws_FnLogLines.j0 k t628 t632 t633 bt637.2.2.2.2 true bt637.1 bt637.2.1 bt637.2.2.1)))) else (laws_FnLogLines.j0 k t628 t632 t633 bt637.2.2.2.2 true bt637.1 bt637.2.1 bt637.2.2.1)))) = some r := H
    have A7 := Aside0.mk A70
    clear A70
    replace H := Option.bind_eq_some_iff.mp H
    obtain ⟨⟨t637, t638, t639, t640, t641⟩, A80, H⟩ := H
    replace H : ((spec_RecoverLog.f k t636).bind fun bt643 => (if t632.toList = t634.toList then (if (t633 != t635) = true then (laws_FnLogLines.j0 k t628 t632 t633 t641 true t637 t638 t639) else (if (!(t637.toList == bt643.1.toList) || (!(t638.toList == bt643.2.1.toList) || (!(t639 == bt643.2.2.1)))) = true then (laws_FnLogLines.j0 k t628 t632 t633 t641 true t637 t638 t639) else (if t640 = bt643.2.2.2.1 then (laws_FnLogLines.j0 k t628 t632 t633 t641 (t641 != bt643.2.2.2.2) t637 t638 t639) else (laws_FnLogLines.j0 k t628 t632 t633 t641 true t637 t638 t639)))) else (laws_FnLogLines.j0 k t628 t632 t633 t641 true t637 t638 t639))) = some r := H
    have A8 := Aside0.mk A80
    clear A80
    replace H := Option.bind_eq_some_iff.mp H
    obtain ⟨⟨t643, t644, t645, t646, t647⟩, A90, H⟩ := H
    replace H : (if t632.toList = t634.toList then (if (t633 != t635) = true then (laws_FnLogLines.j0 k t628 t632 t633 t641 true t637 t638 t639) else (if (!(t637.toList == t643.toList) || (!(t638.toList == t644.toList) || (!(t639 == t645)))) = true then (laws_FnLogLines.j0 k t628 t632 t633 t641 true t637 t638 t639) else (if t640 = t646 then (laws_FnLogLines.j0 k t628 t632 t633 t641 (t641 != t647) t637 t638 t639) else (laws_FnLogLines.j0 k t628 t632 t633 t641 true t637 t638 t639)))) else (laws_FnLogLines.j0 k t628 t632 t633 t641 true t637 t638 t639)) = some r := H
    have A9 := Aside0.mk A90
    clear A90
    have HC10 := Aside0.mk H
    clear H
    go_enter Tryd.func11, Tryd.ntmps11
    go_upto_region 9 with (first | ((with_reducible refine gate_callee (f := 35) rfl ?_); refine goesL_ (some 22) rfl rfl Tryd.func35 (by kernel_rfl) rfl #[.slice A0 l0.length c0] rfl (by (try simp only [List.map_toArray, List.map_cons, List.map_nil]); first | done | rfl | (simp only [List.length_drop, List.length_take]; rfl)) ?_; (with_reducible refine (laws_vBig.calls _ _ l0 false _ ?side1 ?side2 A2.out).mono ?_); (case side1 => repeat (first | exact HR0.out | (with_reducible refine Kd.C_alloc ?_ _) | (with_reducible refine Kd.C_drewN ?_ _) | (with_reducible refine Kd.C_drew ?_))); (case side2 => exact HC0.out); rintro e w' ⟨rfl, ⟨nd, rfl⟩⟩; refine ⟨_, rfl, ?_⟩) | ((with_reducible refine gate_callee (f := 39) rfl ?_); refine goesL_ (some 25) rfl rfl Tryd.func39 (by kernel_rfl) rfl #[.slice A0 l0.length c0] rfl (by (try simp only [List.map_toArray, List.map_cons, List.map_nil]); first | done | rfl | (simp only [List.length_drop, List.length_take]; rfl)) ?_; (with_reducible refine (spec_DrawEncodeRecord.calls _ _ l0 t628 t629 t630 _ ?side1 ?side2 A4.out).mono ?_); (case side1 => repeat (first | exact HR0.out | (with_reducible refine Kd.C_alloc ?_ _) | (with_reducible refine Kd.C_drewN ?_ _) | (with_reducible refine Kd.C_drew ?_))); (case side2 => exact HC0.out); rintro e w11 ⟨rfl, hb⟩; refine ⟨_, rfl, ?_⟩; have n0_ := Aside0.mk (below_step (by repeat (first | (with_reducible first | exact HB.out | apply below_alloc | apply pw_below_drewN | apply below_drew1) | exact HB.out)) hb); clear HB; have HB := n0_; clear n0_; (try clear hb); (try clear hb2); (try clear hk); (try clear hi)) | ((with_reducible refine gate_dst (N := 4) rfl ?_); refine box_event ?hg (N := 4) ?hd (cs := #[.string (⟨#[]⟩ : ByteArray), .string (⟨#[]⟩ : ByteArray)]) (t := 27) ?hr ?_; (case hd => rfl); (case hg => rfl); (case hr => first | (go_simp; done) | (go_simp; rfl)); intro gb631 hg w12 hbox hb; have n0_ := Aside0.mk (below_step (by repeat (first | (with_reducible first | exact HB.out | apply below_alloc | apply pw_below_drewN | apply below_drew1) | exact HB.out)) hb); have n1_ := Aside0.mk (hbox); have n2_ := Aside0.mk ((by rw [hg]; exact (below_size (by repeat (first | (with_reducible first | exact HB.out | apply below_alloc | apply pw_below_drewN | apply below_drew1) | exact HB.out))) : w.heap.size ≤ gb631)); have n3_ := Aside0.mk ((by rw [hg]; exact (below_size (by repeat (first | (with_reducible first | exact HB.out | apply below_alloc | apply pw_below_drewN | apply below_drew1) | exact HB.out))) : w.heap.size ≤ gb631)); clear HB; have HB := n0_; have BK631 := n1_; have GW631 := n2_; have GE631 := n3_; clear n0_ n1_ n2_ n3_; clear hb hbox hg; have hcz13_0 : w12.cell? ⟨gb631, 0, none⟩ = some (.string (⟨#[]⟩ : ByteArray)) := (blk_cell BK631.out 0).trans rfl; have hcz13_1 : w12.cell? ⟨gb631, 1, none⟩ = some (.string (⟨#[]⟩ : ByteArray)) := (blk_cell BK631.out 1).trans rfl; have hfz13_0 := blk_frozen BK631.out 0; have hfz13_1 := blk_frozen BK631.out 1) | ((with_reducible refine gate_callee (f := 16) rfl ?_); refine goesL_ (some 31) rfl rfl Tryd.func16 (by kernel_rfl) rfl #[.int .i64 t628, .agg #[.string t629, .string t630]] rfl (by (try simp only [List.map_toArray, List.map_cons, List.map_nil]); first | done | rfl | (simp only [List.length_drop, List.length_take]; rfl)) ?_; (with_reducible refine (impl_EncodeRecord.calls k t628 t629 t630 t632 t633 _ ?side1 A5.out).mono ?_); (case side1 => exact Glob.below HGL.out (by repeat (first | (with_reducible first | exact HB.out | apply below_alloc | apply pw_below_drewN | apply below_drew1 | refine below_set ?_ GE631.out) | exact HB.out))); rintro e w14 ⟨rfl, hb⟩; refine ⟨_, rfl, ?_⟩; have n0_ := Aside0.mk (blk_below (g := gb631) (o := .cells #[.string t629, .string t630] 27 (0, 0)) (by (with_reducible repeat (first | refine blk_drewN ?_ _ | refine blk_drew ?_ | refine blk_alloc ?_ _)); refine blk_put (cs := #[.string t629, .string (⟨#[]⟩ : ByteArray)]) ?_ 1 _ rfl; (with_reducible repeat (first | refine blk_drewN ?_ _ | refine blk_drew ?_ | refine blk_alloc ?_ _)); refine blk_put (cs := #[.string (⟨#[]⟩ : ByteArray), .string (⟨#[]⟩ : ByteArray)]) ?_ 0 _ rfl; (with_reducible repeat (first | refine blk_drewN ?_ _ | refine blk_drew ?_ | refine blk_alloc ?_ _)); exact BK631.out) hb); have n1_ := Aside0.mk (below_step (by repeat (first | (with_reducible first | exact HB.out | apply below_alloc | apply pw_below_drewN | apply below_drew1 | refine below_set ?_ GE631.out) | exact HB.out)) hb); clear BK631; clear HB; have BK631 := n0_; have HB := n1_; clear n0_ n1_; (try clear hb); (try clear hb2); (try clear hk); (try clear hi); have hcz15_0 : w14.cell? ⟨gb631, 0, none⟩ = some (.string t629) := (blk_cell BK631.out 0).trans rfl; have hcz15_1 : w14.cell? ⟨gb631, 1, none⟩ = some (.string t630) := (blk_cell BK631.out 1).trans rfl; have hfz15_0 := blk_frozen BK631.out 0; have hfz15_1 := blk_frozen BK631.out 1) | ((with_reducible refine gate_callee (f := 14) rfl ?_); refine goesL_ (some 37) rfl rfl Tryd.func14 (by kernel_rfl) rfl #[.int .i64 t628, .agg #[.string t629, .string t630]] rfl (by (try simp only [List.map_toArray, List.map_cons, List.map_nil]); first | done | rfl | (simp only [List.length_drop, List.length_take]; rfl)) ?_; (with_reducible refine (spec_EncodeRecord.calls k t628 t629 t630 t634 t635 _ A6.out).mono ?_); rintro e w16 ⟨rfl, hb⟩; refine ⟨_, rfl, ?_⟩; have n0_ := Aside0.mk (blk_below (g := gb631) (o := .cells #[.string t629, .string t630] 27 (0, 0)) (by (with_reducible repeat (first | refine blk_drewN ?_ _ | refine blk_drew ?_ | refine blk_alloc ?_ _)); exact BK631.out) hb); have n1_ := Aside0.mk (below_step (by repeat (first | (with_reducible first | exact HB.out | apply below_alloc | apply pw_below_drewN | apply below_drew1 | refine below_set ?_ GE631.out) | exact HB.out)) hb); clear BK631; clear HB; have BK631 := n0_; have HB := n1_; clear n0_ n1_; (try clear hb); (try clear hb2); (try clear hk); (try clear hi)) | ((with_reducible refine gate_callee (f := 40) rfl ?_); refine goesL_ (some 41) rfl rfl Tryd.func40 (by kernel_rfl) rfl #[.slice A0 l0.length c0] rfl (by (try simp only [List.map_toArray, List.map_cons, List.map_nil]); first | done | rfl | (simp only [List.length_drop, List.length_take]; rfl)) ?_; (with_reducible refine (spec_DrawRecoverLog.calls k _ _ l0 t636 _ ?side1 ?side2 A7.out).mono ?_); (case side1 => repeat (first | exact (Kd.C_below HR0.out HB.out) | (with_reducible refine Kd.C_alloc ?_ _) | (with_reducible refine Kd.C_drewN ?_ _) | (with_reducible refine Kd.C_drew ?_))); (case side2 => exact HC0.out); rintro e w17 ⟨rfl, hb⟩; refine ⟨_, rfl, ?_⟩; have n0_ := Aside0.mk (blk_below (g := gb631) (o := .cells #[.string t629, .string t630] 27 (0, 0)) (by (with_reducible repeat (first | refine blk_drewN ?_ _ | refine blk_drew ?_ | refine blk_alloc ?_ _)); exact BK631.out) hb); have n1_ := Aside0.mk (below_step (by repeat (first | (with_reducible first | exact HB.out | apply below_alloc | apply pw_below_drewN | apply below_drew1 | refine below_set ?_ GE631.out) | exact HB.out)) hb); clear BK631; clear HB; have BK631 := n0_; have HB := n1_; clear n0_ n1_; (try clear hb); (try clear hb2); (try clear hk); (try clear hi)) | ((with_reducible refine gate_callee (f := 18) rfl ?_); refine goesL_ (some 44) rfl rfl Tryd.func18 (by kernel_rfl) rfl #[.string t636] rfl (by (try simp only [List.map_toArray, List.map_cons, List.map_nil]); first | done | rfl | (simp only [List.length_drop, List.length_take]; rfl)) ?_; (with_reducible refine (impl_RecoverLog.calls k t636 t637 t638 t639 t640 t641 _ ?side1 A8.out).mono ?_); (case side1 => exact Glob.below HGL.out (by repeat (first | (with_reducible first | exact HB.out | apply below_alloc | apply pw_below_drewN | apply below_drew1 | refine below_set ?_ GE631.out) | exact HB.out))); rintro e w18 ⟨rfl, hb⟩; refine ⟨_, rfl, ?_⟩; have n0_ := Aside0.mk (blk_below (g := gb631) (o := .cells #[.string t629, .string t630] 27 (0, 0)) (by (with_reducible repeat (first | refine blk_drewN ?_ _ | refine blk_drew ?_ | refine blk_alloc ?_ _)); exact BK631.out) hb); have n1_ := Aside0.mk (below_step (by repeat (first | (with_reducible first | exact HB.out | apply below_alloc | apply pw_below_drewN | apply below_drew1 | refine below_set ?_ GE631.out) | exact HB.out)) hb); clear BK631; clear HB; have BK631 := n0_; have HB := n1_; clear n0_ n1_; (try clear hb); (try clear hb2); (try clear hk); (try clear hi)) | ((with_reducible refine gate_dst (N := 10) rfl ?_); refine box_event ?hg (N := 10) ?hd (cs := #[.string (⟨#[]⟩ : ByteArray), .string (⟨#[]⟩ : ByteArray), .int .i64 0]) (t := 31) ?hr ?_; (case hd => rfl); (case hg => rfl); (case hr => first | (go_simp; done) | (go_simp; rfl)); intro gb642 hg w19 hbox hb; have n0_ := Aside0.mk (blk_below (g := gb631) (o := .cells #[.string t629, .string t630] 27 (0, 0)) (by (with_reducible repeat (first | refine blk_drewN ?_ _ | refine blk_drew ?_ | refine blk_alloc ?_ _)); exact BK631.out) hb); have n1_ := Aside0.mk (below_step (by repeat (first | (with_reducible first | exact HB.out | apply below_alloc | apply pw_below_drewN | apply below_drew1 | refine below_set ?_ GE631.out) | exact HB.out)) hb); have n2_ := Aside0.mk (hbox); have n3_ := Aside0.mk ((by rw [hg]; exact (below_size (by repeat (first | (with_reducible first | exact HB.out | apply below_alloc | apply pw_below_drewN | apply below_drew1 | refine below_set ?_ GE631.out) | exact HB.out))) : w.heap.size ≤ gb642)); have n4_ := Aside0.mk ((by rw [hg]; exact (below_size (by repeat (first | (with_reducible first | exact HB.out | apply below_alloc | apply pw_below_drewN | apply below_drew1 | refine below_set ?_ GE631.out) | exact HB.out))) : w.heap.size ≤ gb642)); have n5_ := Aside0.mk ((by rw [hg]; exact Nat.ne_of_lt (blk_lt (g := gb631) (o := .cells #[.string t629, .string t630] 27 (0, 0)) (by (with_reducible repeat (first | refine blk_drewN ?_ _ | refine blk_drew ?_ | refine blk_alloc ?_ _)); exact BK631.out)) : gb631 ≠ gb642)); have n6_ := Aside0.mk ((by rw [hg]; exact Nat.ne_of_gt (blk_lt (g := gb631) (o := .cells #[.string t629, .string t630] 27 (0, 0)) (by (with_reducible repeat (first | refine blk_drewN ?_ _ | refine blk_drew ?_ | refine blk_alloc ?_ _)); exact BK631.out)) : gb642 ≠ gb631)); clear BK631; clear HB; have BK631 := n0_; have HB := n1_; have BK642 := n2_; have GW642 := n3_; have GE642 := n4_; have NB631_642 := n5_; have NB642_631 := n6_; clear n0_ n1_ n2_ n3_ n4_ n5_ n6_; clear hb hbox hg; have hnb20 := NB642_631.out; have hnc20 := NB631_642.out; have hcz21_0 : w19.cell? ⟨gb642, 0, none⟩ = some (.string (⟨#[]⟩ : ByteArray)) := (blk_cell BK642.out 0).trans rfl; have hcz21_1 : w19.cell? ⟨gb642, 1, none⟩ = some (.string (⟨#[]⟩ : ByteArray)) := (blk_cell BK642.out 1).trans rfl; have hcz21_2 : w19.cell? ⟨gb642, 2, none⟩ = some (.int .i64 0) := (blk_cell BK642.out 2).trans rfl; have hfz21_0 := blk_frozen BK642.out 0; have hfz21_1 := blk_frozen BK642.out 1; have hfz21_2 := blk_frozen BK642.out 2) | ((with_reducible refine gate_callee (f := 17) rfl ?_); refine goesL_ (some 50) rfl rfl Tryd.func17 (by kernel_rfl) rfl #[.string t636] rfl (by (try simp only [List.map_toArray, List.map_cons, List.map_nil]); first | done | rfl | (simp only [List.length_drop, List.length_take]; rfl)) ?_; (with_reducible refine (spec_RecoverLog.calls k t636 t643 t644 t645 t646 t647 _ A9.out).mono ?_); rintro e w22 ⟨rfl, hb⟩; refine ⟨_, rfl, ?_⟩; have n0_ := Aside0.mk (blk_below (g := gb631) (o := .cells #[.string t629, .string t630] 27 (0, 0)) (by (with_reducible repeat (first | refine blk_drewN ?_ _ | refine blk_drew ?_ | refine blk_alloc ?_ _)); refine blk_far ?_ NB631_642.out _; (with_reducible repeat (first | refine blk_drewN ?_ _ | refine blk_drew ?_ | refine blk_alloc ?_ _)); refine blk_far ?_ NB631_642.out _; (with_reducible repeat (first | refine blk_drewN ?_ _ | refine blk_drew ?_ | refine blk_alloc ?_ _)); refine blk_far ?_ NB631_642.out _; (with_reducible repeat (first | refine blk_drewN ?_ _ | refine blk_drew ?_ | refine blk_alloc ?_ _)); exact BK631.out) hb); have n1_ := Aside0.mk (blk_below (g := gb642) (o := .cells #[.string t637, .string t638, .int .i64 t639] 31 (0, 0)) (by (with_reducible repeat (first | refine blk_drewN ?_ _ | refine blk_drew ?_ | refine blk_alloc ?_ _)); refine blk_put (cs := #[.string t637, .string t638, .int .i64 0]) ?_ 2 _ rfl; (with_reducible repeat (first | refine blk_drewN ?_ _ | refine blk_drew ?_ | refine blk_alloc ?_ _)); refine blk_put (cs := #[.string t637, .string (⟨#[]⟩ : ByteArray), .int .i64 0]) ?_ 1 _ rfl; (with_reducible repeat (first | refine blk_drewN ?_ _ | refine blk_drew ?_ | refine blk_alloc ?_ _)); refine blk_put (cs := #[.string (⟨#[]⟩ : ByteArray), .string (⟨#[]⟩ : ByteArray), .int .i64 0]) ?_ 0 _ rfl; (with_reducible repeat (first | refine blk_drewN ?_ _ | refine blk_drew ?_ | refine blk_alloc ?_ _)); exact BK642.out) hb); have n2_ := Aside0.mk (below_step (by repeat (first | (with_reducible first | exact HB.out | apply below_alloc | apply pw_below_drewN | apply below_drew1 | refine below_set ?_ GE631.out | refine below_set ?_ GE642.out) | exact HB.out)) hb); clear BK631; clear BK642; clear HB; have BK631 := n0_; have BK642 := n1_; have HB := n2_; clear n0_ n1_ n2_; (try clear hb); (try clear hb2); (try clear hk); (try clear hi)) | ((with_reducible refine gate_dst (N := 13) rfl ?_); refine box_event ?hg (N := 13) ?hd (cs := #[.string (⟨#[]⟩ : ByteArray), .string (⟨#[]⟩ : ByteArray), .int .i64 0]) (t := 31) ?hr ?_; (case hd => rfl); (case hg => rfl); (case hr => first | (go_simp; done) | (go_simp; rfl)); intro gb648 hg w23 hbox hb; have n0_ := Aside0.mk (blk_below (g := gb631) (o := .cells #[.string t629, .string t630] 27 (0, 0)) (by (with_reducible repeat (first | refine blk_drewN ?_ _ | refine blk_drew ?_ | refine blk_alloc ?_ _)); exact BK631.out) hb); have n1_ := Aside0.mk (blk_below (g := gb642) (o := .cells #[.string t637, .string t638, .int .i64 t639] 31 (0, 0)) (by (with_reducible repeat (first | refine blk_drewN ?_ _ | refine blk_drew ?_ | refine blk_alloc ?_ _)); exact BK642.out) hb); have n2_ := Aside0.mk (below_step (by repeat (first | (with_reducible first | exact HB.out | apply below_alloc | apply pw_below_drewN | apply below_drew1 | refine below_set ?_ GE631.out | refine below_set ?_ GE642.out) | exact HB.out)) hb); have n3_ := Aside0.mk (hbox); have n4_ := Aside0.mk ((by rw [hg]; exact (below_size (by repeat (first | (with_reducible first | exact HB.out | apply below_alloc | apply pw_below_drewN | apply below_drew1 | refine below_set ?_ GE631.out | refine below_set ?_ GE642.out) | exact HB.out))) : w.heap.size ≤ gb648)); have n5_ := Aside0.mk ((by rw [hg]; exact (below_size (by repeat (first | (with_reducible first | exact HB.out | apply below_alloc | apply pw_below_drewN | apply below_drew1 | refine below_set ?_ GE631.out | refine below_set ?_ GE642.out) | exact HB.out))) : w.heap.size ≤ gb648)); have n6_ := Aside0.mk ((by rw [hg]; exact Nat.ne_of_lt (blk_lt (g := gb631) (o := .cells #[.string t629, .string t630] 27 (0, 0)) (by (with_reducible repeat (first | refine blk_drewN ?_ _ | refine blk_drew ?_ | refine blk_alloc ?_ _)); exact BK631.out)) : gb631 ≠ gb648)); have n7_ := Aside0.mk ((by rw [hg]; exact Nat.ne_of_gt (blk_lt (g := gb631) (o := .cells #[.string t629, .string t630] 27 (0, 0)) (by (with_reducible repeat (first | refine blk_drewN ?_ _ | refine blk_drew ?_ | refine blk_alloc ?_ _)); exact BK631.out)) : gb648 ≠ gb631)); have n8_ := Aside0.mk ((by rw [hg]; exact Nat.ne_of_lt (blk_lt (g := gb642) (o := .cells #[.string t637, .string t638, .int .i64 t639] 31 (0, 0)) (by (with_reducible repeat (first | refine blk_drewN ?_ _ | refine blk_drew ?_ | refine blk_alloc ?_ _)); exact BK642.out)) : gb642 ≠ gb648)); have n9_ := Aside0.mk ((by rw [hg]; exact Nat.ne_of_gt (blk_lt (g := gb642) (o := .cells #[.string t637, .string t638, .int .i64 t639] 31 (0, 0)) (by (with_reducible repeat (first | refine blk_drewN ?_ _ | refine blk_drew ?_ | refine blk_alloc ?_ _)); exact BK642.out)) : gb648 ≠ gb642)); clear BK631; clear BK642; clear HB; have BK631 := n0_; have BK642 := n1_; have HB := n2_; have BK648 := n3_; have GW648 := n4_; have GE648 := n5_; have NB631_648 := n6_; have NB648_631 := n7_; have NB642_648 := n8_; have NB648_642 := n9_; clear n0_ n1_ n2_ n3_ n4_ n5_ n6_ n7_ n8_ n9_; clear hb hbox hg; have hnb24 := NB648_631.out; have hnc24 := NB631_648.out; have hnb25 := NB648_642.out; have hnc25 := NB642_648.out; have hcz26_0 : w23.cell? ⟨gb648, 0, none⟩ = some (.string (⟨#[]⟩ : ByteArray)) := (blk_cell BK648.out 0).trans rfl; have hcz26_1 : w23.cell? ⟨gb648, 1, none⟩ = some (.string (⟨#[]⟩ : ByteArray)) := (blk_cell BK648.out 1).trans rfl; have hcz26_2 : w23.cell? ⟨gb648, 2, none⟩ = some (.int .i64 0) := (blk_cell BK648.out 2).trans rfl; have hfz26_0 := blk_frozen BK648.out 0; have hfz26_1 := blk_frozen BK648.out 1; have hfz26_2 := blk_frozen BK648.out 2))
    (try simp only [Act.put, List.setIfInBounds_toArray, List.set_cons_zero, List.set_cons_succ])
    go_cut [76] (fun v76 wc => ∃ (kq : Nat) (x76_9 : Bool), v76 = .bool x76_9 ∧ Aside0 (laws_FnLogLines.j0 kq t628 t632 t633 t641 x76_9 t637 t638 t639 = some r) ∧ Aside0 (kq ≤ k) ∧ Aside0 (wc.heap[gb631]? = some (.cells #[.string t629, .string t630] 27 (0, 0))) ∧ Aside0 (wc.heap[gb642]? = some (.cells #[.string t637, .string t638, .int .i64 t639] 31 (0, 0))) ∧ Aside0 (wc.heap[gb648]? = some (.cells #[.string t643, .string t644, .int .i64 t645] 31 (0, 0))) ∧ Aside0 (Below w.heap.size w wc))
    case first =>
      have H := HC10.out
      clear HC10
      by_cases c27 : t632.toList = t634.toList
      · rw [if_pos c27] at H
        have c27b0 : (t632.toList == t634.toList) = true := beq_iff_eq.mpr c27
        have c27b1 : (t632.toList != t634.toList) = false := bne_eq_false_iff_eq.mpr c27
        clear c27
        (first | rw [c27b0] | (simp only [i64_w, i32_w]; rw [c27b0]) | skip)
        by_cases c28 : (t633 != t635) = true
        · rw [if_pos c28] at H
          have c28b0 : (t633 != t635) = true := c28
          (try (have c28b1 : decide (t633 = t635) = false := by simpa using c28))
          (try (have c28b2 : (t633 == t635) = false := by simpa using c28))
          (try (have c28b3 : ¬ (t633 = t635) := by simpa using c28))
          clear c28
          have H' := Aside0.mk H
          clear H
          go_wp2
          go_meet
          case rel => exact ⟨_, (true), (by first | rfl | (simp; done) | (simp [*]; done)), H', ⟨by first | omega | exact Nat.le_refl _⟩, ⟨by (with_reducible repeat (first | refine blk_drewN ?_ _ | refine blk_drew ?_ | refine blk_alloc ?_ _)); refine blk_far ?_ NB631_648.out _; (with_reducible repeat (first | refine blk_drewN ?_ _ | refine blk_drew ?_ | refine blk_alloc ?_ _)); refine blk_far ?_ NB631_648.out _; (with_reducible repeat (first | refine blk_drewN ?_ _ | refine blk_drew ?_ | refine blk_alloc ?_ _)); refine blk_far ?_ NB631_648.out _; (with_reducible repeat (first | refine blk_drewN ?_ _ | refine blk_drew ?_ | refine blk_alloc ?_ _)); exact BK631.out⟩, ⟨by (with_reducible repeat (first | refine blk_drewN ?_ _ | refine blk_drew ?_ | refine blk_alloc ?_ _)); refine blk_far ?_ NB642_648.out _; (with_reducible repeat (first | refine blk_drewN ?_ _ | refine blk_drew ?_ | refine blk_alloc ?_ _)); refine blk_far ?_ NB642_648.out _; (with_reducible repeat (first | refine blk_drewN ?_ _ | refine blk_drew ?_ | refine blk_alloc ?_ _)); refine blk_far ?_ NB642_648.out _; (with_reducible repeat (first | refine blk_drewN ?_ _ | refine blk_drew ?_ | refine blk_alloc ?_ _)); exact BK642.out⟩, ⟨by (with_reducible repeat (first | refine blk_drewN ?_ _ | refine blk_drew ?_ | refine blk_alloc ?_ _)); refine blk_put (cs := #[.string t643, .string t644, .int .i64 0]) ?_ 2 _ rfl; (with_reducible repeat (first | refine blk_drewN ?_ _ | refine blk_drew ?_ | refine blk_alloc ?_ _)); refine blk_put (cs := #[.string t643, .string (⟨#[]⟩ : ByteArray), .int .i64 0]) ?_ 1 _ rfl; (with_reducible repeat (first | refine blk_drewN ?_ _ | refine blk_drew ?_ | refine blk_alloc ?_ _)); refine blk_put (cs := #[.string (⟨#[]⟩ : ByteArray), .string (⟨#[]⟩ : ByteArray), .int .i64 0]) ?_ 0 _ rfl; (with_reducible repeat (first | refine blk_drewN ?_ _ | refine blk_drew ?_ | refine blk_alloc ?_ _)); exact BK648.out⟩, ⟨by repeat (first | (with_reducible first | exact HB.out | apply below_alloc | apply pw_below_drewN | apply below_drew1 | refine below_set ?_ GE631.out | refine below_set ?_ GE642.out | refine below_set ?_ GE648.out) | exact HB.out)⟩⟩
        · rw [if_neg c28] at H
          have c28b0 : (t633 != t635) = false := by simpa using c28
          (try (have c28b1 : decide (t633 = t635) = true := by simpa using c28))
          (try (have c28b2 : (t633 == t635) = true := by simpa using c28))
          clear c28
          by_cases c29 : (!(t637.toList == t643.toList) || (!(t638.toList == t644.toList) || (!(t639 == t645)))) = true
          · rw [if_pos c29] at H
            have c29b0 : (!(t637.toList == t643.toList) || (!(t638.toList == t644.toList) || (!(t639 == t645)))) = true := c29
            clear c29
            have H' := Aside0.mk H
            clear H
            have hnb30 := NB642_631.out
            have hnc30 := NB631_642.out
            have hnb31 := NB642_648.out
            have hnc31 := NB648_642.out
            have hcz32_0 : w23.cell? ⟨gb642, 0, none⟩ = some (.string t637) := (blk_cell BK642.out 0).trans rfl
            have hcz32_1 : w23.cell? ⟨gb642, 1, none⟩ = some (.string t638) := (blk_cell BK642.out 1).trans rfl
            have hcz32_2 : w23.cell? ⟨gb642, 2, none⟩ = some (.int .i64 t639) := (blk_cell BK642.out 2).trans rfl
            have hfz32_0 := blk_frozen BK642.out 0
            have hfz32_1 := blk_frozen BK642.out 1
            have hfz32_2 := blk_frozen BK642.out 2
            have hnb33 := NB648_631.out
            have hnc33 := NB631_648.out
            have hcz34_0 : w23.cell? ⟨gb648, 0, none⟩ = some (.string (⟨#[]⟩ : ByteArray)) := (blk_cell BK648.out 0).trans rfl
            have hcz34_1 : w23.cell? ⟨gb648, 1, none⟩ = some (.string (⟨#[]⟩ : ByteArray)) := (blk_cell BK648.out 1).trans rfl
            have hcz34_2 : w23.cell? ⟨gb648, 2, none⟩ = some (.int .i64 0) := (blk_cell BK648.out 2).trans rfl
            have hfz34_0 := blk_frozen BK648.out 0
            have hfz34_1 := blk_frozen BK648.out 1
            have hfz34_2 := blk_frozen BK648.out 2
            go_wp2
            go_meet
            case rel => exact ⟨_, (true), (by first | rfl | (simp; done) | (simp [*]; done)), H', ⟨by first | omega | exact Nat.le_refl _⟩, ⟨by (with_reducible repeat (first | refine blk_drewN ?_ _ | refine blk_drew ?_ | refine blk_alloc ?_ _)); refine blk_far ?_ NB631_648.out _; (with_reducible repeat (first | refine blk_drewN ?_ _ | refine blk_drew ?_ | refine blk_alloc ?_ _)); refine blk_far ?_ NB631_648.out _; (with_reducible repeat (first | refine blk_drewN ?_ _ | refine blk_drew ?_ | refine blk_alloc ?_ _)); refine blk_far ?_ NB631_648.out _; (with_reducible repeat (first | refine blk_drewN ?_ _ | refine blk_drew ?_ | refine blk_alloc ?_ _)); exact BK631.out⟩, ⟨by (with_reducible repeat (first | refine blk_drewN ?_ _ | refine blk_drew ?_ | refine blk_alloc ?_ _)); refine blk_far ?_ NB642_648.out _; (with_reducible repeat (first | refine blk_drewN ?_ _ | refine blk_drew ?_ | refine blk_alloc ?_ _)); refine blk_far ?_ NB642_648.out _; (with_reducible repeat (first | refine blk_drewN ?_ _ | refine blk_drew ?_ | refine blk_alloc ?_ _)); refine blk_far ?_ NB642_648.out _; (with_reducible repeat (first | refine blk_drewN ?_ _ | refine blk_drew ?_ | refine blk_alloc ?_ _)); exact BK642.out⟩, ⟨by (with_reducible repeat (first | refine blk_drewN ?_ _ | refine blk_drew ?_ | refine blk_alloc ?_ _)); refine blk_put (cs := #[.string t643, .string t644, .int .i64 0]) ?_ 2 _ rfl; (with_reducible repeat (first | refine blk_drewN ?_ _ | refine blk_drew ?_ | refine blk_alloc ?_ _)); refine blk_put (cs := #[.string t643, .string (⟨#[]⟩ : ByteArray), .int .i64 0]) ?_ 1 _ rfl; (with_reducible repeat (first | refine blk_drewN ?_ _ | refine blk_drew ?_ | refine blk_alloc ?_ _)); refine blk_put (cs := #[.string (⟨#[]⟩ : ByteArray), .string (⟨#[]⟩ : ByteArray), .int .i64 0]) ?_ 0 _ rfl; (with_reducible repeat (first | refine blk_drewN ?_ _ | refine blk_drew ?_ | refine blk_alloc ?_ _)); exact BK648.out⟩, ⟨by repeat (first | (with_reducible first | exact HB.out | apply below_alloc | apply pw_below_drewN | apply below_drew1 | refine below_set ?_ GE631.out | refine below_set ?_ GE642.out | refine below_set ?_ GE648.out) | exact HB.out)⟩⟩
          · rw [if_neg c29] at H
            have c29b0 : (!(t637.toList == t643.toList) || (!(t638.toList == t644.toList) || (!(t639 == t645)))) = false := by simpa using c29
            clear c29
            by_cases c35 : t640 = t646
            · rw [if_pos c35] at H
              have c35b0 : (t640 == t646) = true := beq_iff_eq.mpr c35
              have c35b1 : (t640 != t646) = false := bne_eq_false_iff_eq.mpr c35
              clear c35
              have H' := Aside0.mk H
              clear H
              have hnb36 := NB642_631.out
              have hnc36 := NB631_642.out
              have hnb37 := NB642_648.out
              have hnc37 := NB648_642.out
              have hcz38_0 : w23.cell? ⟨gb642, 0, none⟩ = some (.string t637) := (blk_cell BK642.out 0).trans rfl
              have hcz38_1 : w23.cell? ⟨gb642, 1, none⟩ = some (.string t638) := (blk_cell BK642.out 1).trans rfl
              have hcz38_2 : w23.cell? ⟨gb642, 2, none⟩ = some (.int .i64 t639) := (blk_cell BK642.out 2).trans rfl
              have hfz38_0 := blk_frozen BK642.out 0
              have hfz38_1 := blk_frozen BK642.out 1
              have hfz38_2 := blk_frozen BK642.out 2
              have hnb39 := NB648_631.out
              have hnc39 := NB631_648.out
              have hcz40_0 : w23.cell? ⟨gb648, 0, none⟩ = some (.string (⟨#[]⟩ : ByteArray)) := (blk_cell BK648.out 0).trans rfl
              have hcz40_1 : w23.cell? ⟨gb648, 1, none⟩ = some (.string (⟨#[]⟩ : ByteArray)) := (blk_cell BK648.out 1).trans rfl
              have hcz40_2 : w23.cell? ⟨gb648, 2, none⟩ = some (.int .i64 0) := (blk_cell BK648.out 2).trans rfl
              have hfz40_0 := blk_frozen BK648.out 0
              have hfz40_1 := blk_frozen BK648.out 1
              have hfz40_2 := blk_frozen BK648.out 2
              go_wp2
              go_meet
              case rel => exact ⟨_, ((t641 != t647)), (by first | rfl | (simp; done) | (simp [*]; done)), H', ⟨by first | omega | exact Nat.le_refl _⟩, ⟨by (with_reducible repeat (first | refine blk_drewN ?_ _ | refine blk_drew ?_ | refine blk_alloc ?_ _)); refine blk_far ?_ NB631_648.out _; (with_reducible repeat (first | refine blk_drewN ?_ _ | refine blk_drew ?_ | refine blk_alloc ?_ _)); refine blk_far ?_ NB631_648.out _; (with_reducible repeat (first | refine blk_drewN ?_ _ | refine blk_drew ?_ | refine blk_alloc ?_ _)); refine blk_far ?_ NB631_648.out _; (with_reducible repeat (first | refine blk_drewN ?_ _ | refine blk_drew ?_ | refine blk_alloc ?_ _)); exact BK631.out⟩, ⟨by (with_reducible repeat (first | refine blk_drewN ?_ _ | refine blk_drew ?_ | refine blk_alloc ?_ _)); refine blk_far ?_ NB642_648.out _; (with_reducible repeat (first | refine blk_drewN ?_ _ | refine blk_drew ?_ | refine blk_alloc ?_ _)); refine blk_far ?_ NB642_648.out _; (with_reducible repeat (first | refine blk_drewN ?_ _ | refine blk_drew ?_ | refine blk_alloc ?_ _)); refine blk_far ?_ NB642_648.out _; (with_reducible repeat (first | refine blk_drewN ?_ _ | refine blk_drew ?_ | refine blk_alloc ?_ _)); exact BK642.out⟩, ⟨by (with_reducible repeat (first | refine blk_drewN ?_ _ | refine blk_drew ?_ | refine blk_alloc ?_ _)); refine blk_put (cs := #[.string t643, .string t644, .int .i64 0]) ?_ 2 _ rfl; (with_reducible repeat (first | refine blk_drewN ?_ _ | refine blk_drew ?_ | refine blk_alloc ?_ _)); refine blk_put (cs := #[.string t643, .string (⟨#[]⟩ : ByteArray), .int .i64 0]) ?_ 1 _ rfl; (with_reducible repeat (first | refine blk_drewN ?_ _ | refine blk_drew ?_ | refine blk_alloc ?_ _)); refine blk_put (cs := #[.string (⟨#[]⟩ : ByteArray), .string (⟨#[]⟩ : ByteArray), .int .i64 0]) ?_ 0 _ rfl; (with_reducible repeat (first | refine blk_drewN ?_ _ | refine blk_drew ?_ | refine blk_alloc ?_ _)); exact BK648.out⟩, ⟨by repeat (first | (with_reducible first | exact HB.out | apply below_alloc | apply pw_below_drewN | apply below_drew1 | refine below_set ?_ GE631.out | refine below_set ?_ GE642.out | refine below_set ?_ GE648.out) | exact HB.out)⟩⟩
            · rw [if_neg c35] at H
              have c35b0 : (t640 == t646) = false := beq_eq_false_iff_ne.mpr c35
              have c35b1 : (t640 != t646) = true := bne_iff_ne.mpr c35
              have H' := Aside0.mk H
              clear H
              have hnb41 := NB642_631.out
              have hnc41 := NB631_642.out
              have hnb42 := NB642_648.out
              have hnc42 := NB648_642.out
              have hcz43_0 : w23.cell? ⟨gb642, 0, none⟩ = some (.string t637) := (blk_cell BK642.out 0).trans rfl
              have hcz43_1 : w23.cell? ⟨gb642, 1, none⟩ = some (.string t638) := (blk_cell BK642.out 1).trans rfl
              have hcz43_2 : w23.cell? ⟨gb642, 2, none⟩ = some (.int .i64 t639) := (blk_cell BK642.out 2).trans rfl
              have hfz43_0 := blk_frozen BK642.out 0
              have hfz43_1 := blk_frozen BK642.out 1
              have hfz43_2 := blk_frozen BK642.out 2
              have hnb44 := NB648_631.out
              have hnc44 := NB631_648.out
              have hcz45_0 : w23.cell? ⟨gb648, 0, none⟩ = some (.string (⟨#[]⟩ : ByteArray)) := (blk_cell BK648.out 0).trans rfl
              have hcz45_1 : w23.cell? ⟨gb648, 1, none⟩ = some (.string (⟨#[]⟩ : ByteArray)) := (blk_cell BK648.out 1).trans rfl
              have hcz45_2 : w23.cell? ⟨gb648, 2, none⟩ = some (.int .i64 0) := (blk_cell BK648.out 2).trans rfl
              have hfz45_0 := blk_frozen BK648.out 0
              have hfz45_1 := blk_frozen BK648.out 1
              have hfz45_2 := blk_frozen BK648.out 2
              go_wp2
              go_meet
              case rel => exact ⟨_, (true), (by first | rfl | (simp; done) | (simp [*]; done)), H', ⟨by first | omega | exact Nat.le_refl _⟩, ⟨by (with_reducible repeat (first | refine blk_drewN ?_ _ | refine blk_drew ?_ | refine blk_alloc ?_ _)); refine blk_far ?_ NB631_648.out _; (with_reducible repeat (first | refine blk_drewN ?_ _ | refine blk_drew ?_ | refine blk_alloc ?_ _)); refine blk_far ?_ NB631_648.out _; (with_reducible repeat (first | refine blk_drewN ?_ _ | refine blk_drew ?_ | refine blk_alloc ?_ _)); refine blk_far ?_ NB631_648.out _; (with_reducible repeat (first | refine blk_drewN ?_ _ | refine blk_drew ?_ | refine blk_alloc ?_ _)); exact BK631.out⟩, ⟨by (with_reducible repeat (first | refine blk_drewN ?_ _ | refine blk_drew ?_ | refine blk_alloc ?_ _)); refine blk_far ?_ NB642_648.out _; (with_reducible repeat (first | refine blk_drewN ?_ _ | refine blk_drew ?_ | refine blk_alloc ?_ _)); refine blk_far ?_ NB642_648.out _; (with_reducible repeat (first | refine blk_drewN ?_ _ | refine blk_drew ?_ | refine blk_alloc ?_ _)); refine blk_far ?_ NB642_648.out _; (with_reducible repeat (first | refine blk_drewN ?_ _ | refine blk_drew ?_ | refine blk_alloc ?_ _)); exact BK642.out⟩, ⟨by (with_reducible repeat (first | refine blk_drewN ?_ _ | refine blk_drew ?_ | refine blk_alloc ?_ _)); refine blk_put (cs := #[.string t643, .string t644, .int .i64 0]) ?_ 2 _ rfl; (with_reducible repeat (first | refine blk_drewN ?_ _ | refine blk_drew ?_ | refine blk_alloc ?_ _)); refine blk_put (cs := #[.string t643, .string (⟨#[]⟩ : ByteArray), .int .i64 0]) ?_ 1 _ rfl; (with_reducible repeat (first | refine blk_drewN ?_ _ | refine blk_drew ?_ | refine blk_alloc ?_ _)); refine blk_put (cs := #[.string (⟨#[]⟩ : ByteArray), .string (⟨#[]⟩ : ByteArray), .int .i64 0]) ?_ 0 _ rfl; (with_reducible repeat (first | refine blk_drewN ?_ _ | refine blk_drew ?_ | refine blk_alloc ?_ _)); exact BK648.out⟩, ⟨by repeat (first | (with_reducible first | exact HB.out | apply below_alloc | apply pw_below_drewN | apply below_drew1 | refine below_set ?_ GE631.out | refine below_set ?_ GE642.out | refine below_set ?_ GE648.out) | exact HB.out)⟩⟩
      · rw [if_neg c27] at H
        have c27b0 : (t632.toList == t634.toList) = false := beq_eq_false_iff_ne.mpr c27
        have c27b1 : (t632.toList != t634.toList) = true := bne_iff_ne.mpr c27
        (first | rw [c27b0] | (simp only [i64_w, i32_w]; rw [c27b0]) | skip)
        have H' := Aside0.mk H
        clear H
        go_wp2
        go_meet
        case rel => exact ⟨_, (true), (by first | rfl | (simp; done) | (simp [*]; done)), H', ⟨by first | omega | exact Nat.le_refl _⟩, ⟨by (with_reducible repeat (first | refine blk_drewN ?_ _ | refine blk_drew ?_ | refine blk_alloc ?_ _)); refine blk_far ?_ NB631_648.out _; (with_reducible repeat (first | refine blk_drewN ?_ _ | refine blk_drew ?_ | refine blk_alloc ?_ _)); refine blk_far ?_ NB631_648.out _; (with_reducible repeat (first | refine blk_drewN ?_ _ | refine blk_drew ?_ | refine blk_alloc ?_ _)); refine blk_far ?_ NB631_648.out _; (with_reducible repeat (first | refine blk_drewN ?_ _ | refine blk_drew ?_ | refine blk_alloc ?_ _)); exact BK631.out⟩, ⟨by (with_reducible repeat (first | refine blk_drewN ?_ _ | refine blk_drew ?_ | refine blk_alloc ?_ _)); refine blk_far ?_ NB642_648.out _; (with_reducible repeat (first | refine blk_drewN ?_ _ | refine blk_drew ?_ | refine blk_alloc ?_ _)); refine blk_far ?_ NB642_648.out _; (with_reducible repeat (first | refine blk_drewN ?_ _ | refine blk_drew ?_ | refine blk_alloc ?_ _)); refine blk_far ?_ NB642_648.out _; (with_reducible repeat (first | refine blk_drewN ?_ _ | refine blk_drew ?_ | refine blk_alloc ?_ _)); exact BK642.out⟩, ⟨by (with_reducible repeat (first | refine blk_drewN ?_ _ | refine blk_drew ?_ | refine blk_alloc ?_ _)); refine blk_put (cs := #[.string t643, .string t644, .int .i64 0]) ?_ 2 _ rfl; (with_reducible repeat (first | refine blk_drewN ?_ _ | refine blk_drew ?_ | refine blk_alloc ?_ _)); refine blk_put (cs := #[.string t643, .string (⟨#[]⟩ : ByteArray), .int .i64 0]) ?_ 1 _ rfl; (with_reducible repeat (first | refine blk_drewN ?_ _ | refine blk_drew ?_ | refine blk_alloc ?_ _)); refine blk_put (cs := #[.string (⟨#[]⟩ : ByteArray), .string (⟨#[]⟩ : ByteArray), .int .i64 0]) ?_ 0 _ rfl; (with_reducible repeat (first | refine blk_drewN ?_ _ | refine blk_drew ?_ | refine blk_alloc ?_ _)); exact BK648.out⟩, ⟨by repeat (first | (with_reducible first | exact HB.out | apply below_alloc | apply pw_below_drewN | apply below_drew1 | refine below_set ?_ GE631.out | refine below_set ?_ GE642.out | refine below_set ?_ GE648.out) | exact HB.out)⟩⟩
    case rest =>
      clear HC10
      try clear c1
      try clear c2
      try clear p2
      try clear c3
      try clear c4
      try clear c11
      try clear c14
      try clear c16
      try clear c17
      try clear c18
      try clear c20
      try clear c24
      try clear c25
      try clear c27
      try clear c27b0
      try clear c27b1
      try clear c28
      try clear c28b0
      try clear c28b1
      try clear c28b2
      try clear c29
      try clear c29b0
      try clear c30
      try clear c31
      try clear c33
      try clear c35
      try clear c35b0
      try clear c35b1
      try clear c36
      try clear c37
      try clear c39
      try clear c40
      try clear c41
      try clear c42
      try clear c44
      try clear hcz13_0
      try clear hcz13_1
      try clear hcz15_0
      try clear hcz15_1
      try clear hcz21_0
      try clear hcz21_1
      try clear hcz21_2
      try clear hcz26_0
      try clear hcz26_1
      try clear hcz26_2
      try clear hcz32_0
      try clear hcz32_1
      try clear hcz32_2
      try clear hcz34_0
      try clear hcz34_1
      try clear hcz34_2
      try clear hcz38_0
      try clear hcz38_1
      try clear hcz38_2
      try clear hcz40_0
      try clear hcz40_1
      try clear hcz40_2
      try clear hcz43_0
      try clear hcz43_1
      try clear hcz43_2
      try clear hcz45_0
      try clear hcz45_1
      try clear hcz45_2
      try clear hfz13_0
      try clear hfz13_1
      try clear hfz15_0
      try clear hfz15_1
      try clear hfz21_0
      try clear hfz21_1
      try clear hfz21_2
      try clear hfz26_0
      try clear hfz26_1
      try clear hfz26_2
      try clear hfz32_0
      try clear hfz32_1
      try clear hfz32_2
      try clear hfz34_0
      try clear hfz34_1
      try clear hfz34_2
      try clear hfz38_0
      try clear hfz38_1
      try clear hfz38_2
      try clear hfz40_0
      try clear hfz40_1
      try clear hfz40_2
      try clear hfz43_0
      try clear hfz43_1
      try clear hfz43_2
      try clear hfz45_0
      try clear hfz45_1
      try clear hfz45_2
      obtain ⟨kq, x76_9, rfl, HA, HJ9, BK631, BK642, BK648, HB⟩ := hcut
      cases kq with
      | zero => exact absurd HA.out (by simp [laws_FnLogLines.j0])
      | succ kj9 =>
        have H := HA.out
        clear HA
        simp only [laws_FnLogLines.j0] at H
        by_cases c46 : x76_9 = true
        · subst c46
          have H1 : (some false) = some r := by rw [if_pos rfl] at H; exact H
          clear H
          have H := H1
          clear H1
          exact absurd (Option.some.inj H) (by rw [HR_.out]; decide)
        · replace c46 := Bool.eq_false_iff.mpr c46
          subst c46
          have H1 : ((impl_RecoverLog.f kj9 t632).bind fun bt649 => (if t633 = true then (if ((decide (bt649.2.2.2.1 > 0)) != (t628 == 0)) = true then (laws_FnLogLines.j1 kj9 t632 t633 t641 true t637 t638 t639) else (if t628 = 0 then (laws_FnLogLines.j1 kj9 t632 t633 t641 (bt649.2.2.1 != 1) t637 t638 t639) else (laws_FnLogLines.j1 kj9 t632 t633 t641 false t637 t638 t639))) else (laws_FnLogLines.j1 kj9 t632 t633 t641 false t637 t638 t639))) = some r := by rw [if_neg (show ¬ (false = true) by decide)] at H; exact H
          clear H
          have H := H1
          clear H1
          replace H := Option.bind_eq_some_iff.mp H
          obtain ⟨⟨t649, t650, t651, t652, t653⟩, A470, H⟩ := H
          replace H : (if t633 = true then (if ((decide (t652 > 0)) != (t628 == 0)) = true then (laws_FnLogLines.j1 kj9 t632 t633 t641 true t637 t638 t639) else (if t628 = 0 then (laws_FnLogLines.j1 kj9 t632 t633 t641 (t651 != 1) t637 t638 t639) else (laws_FnLogLines.j1 kj9 t632 t633 t641 false t637 t638 t639))) else (laws_FnLogLines.j1 kj9 t632 t633 t641 false t637 t638 t639)) = some r := H
          have A47 := Aside0.mk A470
          clear A470
          have HC48 := Aside0.mk H
          clear H
          go_upto_region 12 with (first | ((with_reducible refine gate_callee (f := 18) rfl ?_); refine goesL_ (some 79) rfl rfl Tryd.func18 (by kernel_rfl) rfl #[.string t632] rfl (by (try simp only [List.map_toArray, List.map_cons, List.map_nil]); first | done | rfl | (simp only [List.length_drop, List.length_take]; rfl)) ?_; (with_reducible refine (impl_RecoverLog.calls kj9 t632 t649 t650 t651 t652 t653 _ ?side1 A47.out).mono ?_); (case side1 => exact Glob.below HGL.out (by repeat (first | (with_reducible first | exact HB.out | apply below_alloc | apply pw_below_drewN | apply below_drew1 | refine below_set ?_ GE631.out | refine below_set ?_ GE642.out | refine below_set ?_ GE648.out) | exact HB.out))); rintro e w49 ⟨rfl, hb⟩; refine ⟨_, rfl, ?_⟩; have n0_ := Aside0.mk (blk_below (g := gb631) (o := .cells #[.string t629, .string t630] 27 (0, 0)) (by (with_reducible repeat (first | refine blk_drewN ?_ _ | refine blk_drew ?_ | refine blk_alloc ?_ _)); exact BK631.out) hb); have n1_ := Aside0.mk (blk_below (g := gb642) (o := .cells #[.string t637, .string t638, .int .i64 t639] 31 (0, 0)) (by (with_reducible repeat (first | refine blk_drewN ?_ _ | refine blk_drew ?_ | refine blk_alloc ?_ _)); exact BK642.out) hb); have n2_ := Aside0.mk (blk_below (g := gb648) (o := .cells #[.string t643, .string t644, .int .i64 t645] 31 (0, 0)) (by (with_reducible repeat (first | refine blk_drewN ?_ _ | refine blk_drew ?_ | refine blk_alloc ?_ _)); exact BK648.out) hb); have n3_ := Aside0.mk (below_step (by repeat (first | (with_reducible first | exact HB.out | apply below_alloc | apply pw_below_drewN | apply below_drew1 | refine below_set ?_ GE631.out | refine below_set ?_ GE642.out | refine below_set ?_ GE648.out) | exact HB.out)) hb); clear BK631; clear BK642; clear BK648; clear HB; have BK631 := n0_; have BK642 := n1_; have BK648 := n2_; have HB := n3_; clear n0_ n1_ n2_ n3_; (try clear hb); (try clear hb2); (try clear hk); (try clear hi)) | ((with_reducible refine gate_dst (N := 16) rfl ?_); refine box_event ?hg (N := 16) ?hd (cs := #[.string (⟨#[]⟩ : ByteArray), .string (⟨#[]⟩ : ByteArray), .int .i64 0]) (t := 31) ?hr ?_; (case hd => rfl); (case hg => rfl); (case hr => first | (go_simp; done) | (go_simp; rfl)); intro gb654 hg w50 hbox hb; have n0_ := Aside0.mk (blk_below (g := gb631) (o := .cells #[.string t629, .string t630] 27 (0, 0)) (by (with_reducible repeat (first | refine blk_drewN ?_ _ | refine blk_drew ?_ | refine blk_alloc ?_ _)); exact BK631.out) hb); have n1_ := Aside0.mk (blk_below (g := gb642) (o := .cells #[.string t637, .string t638, .int .i64 t639] 31 (0, 0)) (by (with_reducible repeat (first | refine blk_drewN ?_ _ | refine blk_drew ?_ | refine blk_alloc ?_ _)); exact BK642.out) hb); have n2_ := Aside0.mk (blk_below (g := gb648) (o := .cells #[.string t643, .string t644, .int .i64 t645] 31 (0, 0)) (by (with_reducible repeat (first | refine blk_drewN ?_ _ | refine blk_drew ?_ | refine blk_alloc ?_ _)); exact BK648.out) hb); have n3_ := Aside0.mk (below_step (by repeat (first | (with_reducible first | exact HB.out | apply below_alloc | apply pw_below_drewN | apply below_drew1 | refine below_set ?_ GE631.out | refine below_set ?_ GE642.out | refine below_set ?_ GE648.out) | exact HB.out)) hb); have n4_ := Aside0.mk (hbox); have n5_ := Aside0.mk ((by rw [hg]; exact (below_size (by repeat (first | (with_reducible first | exact HB.out | apply below_alloc | apply pw_below_drewN | apply below_drew1 | refine below_set ?_ GE631.out | refine below_set ?_ GE642.out | refine below_set ?_ GE648.out) | exact HB.out))) : w.heap.size ≤ gb654)); have n6_ := Aside0.mk ((by rw [hg]; exact (below_size (by repeat (first | (with_reducible first | exact HB.out | apply below_alloc | apply pw_below_drewN | apply below_drew1 | refine below_set ?_ GE631.out | refine below_set ?_ GE642.out | refine below_set ?_ GE648.out) | exact HB.out))) : w.heap.size ≤ gb654)); have n7_ := Aside0.mk ((by rw [hg]; exact Nat.ne_of_lt (blk_lt (g := gb631) (o := .cells #[.string t629, .string t630] 27 (0, 0)) (by (with_reducible repeat (first | refine blk_drewN ?_ _ | refine blk_drew ?_ | refine blk_alloc ?_ _)); exact BK631.out)) : gb631 ≠ gb654)); have n8_ := Aside0.mk ((by rw [hg]; exact Nat.ne_of_gt (blk_lt (g := gb631) (o := .cells #[.string t629, .string t630] 27 (0, 0)) (by (with_reducible repeat (first | refine blk_drewN ?_ _ | refine blk_drew ?_ | refine blk_alloc ?_ _)); exact BK631.out)) : gb654 ≠ gb631)); have n9_ := Aside0.mk ((by rw [hg]; exact Nat.ne_of_lt (blk_lt (g := gb642) (o := .cells #[.string t637, .string t638, .int .i64 t639] 31 (0, 0)) (by (with_reducible repeat (first | refine blk_drewN ?_ _ | refine blk_drew ?_ | refine blk_alloc ?_ _)); exact BK642.out)) : gb642 ≠ gb654)); have n10_ := Aside0.mk ((by rw [hg]; exact Nat.ne_of_gt (blk_lt (g := gb642) (o := .cells #[.string t637, .string t638, .int .i64 t639] 31 (0, 0)) (by (with_reducible repeat (first | refine blk_drewN ?_ _ | refine blk_drew ?_ | refine blk_alloc ?_ _)); exact BK642.out)) : gb654 ≠ gb642)); have n11_ := Aside0.mk ((by rw [hg]; exact Nat.ne_of_lt (blk_lt (g := gb648) (o := .cells #[.string t643, .string t644, .int .i64 t645] 31 (0, 0)) (by (with_reducible repeat (first | refine blk_drewN ?_ _ | refine blk_drew ?_ | refine blk_alloc ?_ _)); exact BK648.out)) : gb648 ≠ gb654)); have n12_ := Aside0.mk ((by rw [hg]; exact Nat.ne_of_gt (blk_lt (g := gb648) (o := .cells #[.string t643, .string t644, .int .i64 t645] 31 (0, 0)) (by (with_reducible repeat (first | refine blk_drewN ?_ _ | refine blk_drew ?_ | refine blk_alloc ?_ _)); exact BK648.out)) : gb654 ≠ gb648)); clear BK631; clear BK642; clear BK648; clear HB; have BK631 := n0_; have BK642 := n1_; have BK648 := n2_; have HB := n3_; have BK654 := n4_; have GW654 := n5_; have GE654 := n6_; have NB631_654 := n7_; have NB654_631 := n8_; have NB642_654 := n9_; have NB654_642 := n10_; have NB648_654 := n11_; have NB654_648 := n12_; clear n0_ n1_ n2_ n3_ n4_ n5_ n6_ n7_ n8_ n9_ n10_ n11_ n12_; clear hb hbox hg; have hnb51 := NB654_631.out; have hnc51 := NB631_654.out; have hnb52 := NB654_642.out; have hnc52 := NB642_654.out; have hnb53 := NB654_648.out; have hnc53 := NB648_654.out; have hcz54_0 : w50.cell? ⟨gb654, 0, none⟩ = some (.string (⟨#[]⟩ : ByteArray)) := (blk_cell BK654.out 0).trans rfl; have hcz54_1 : w50.cell? ⟨gb654, 1, none⟩ = some (.string (⟨#[]⟩ : ByteArray)) := (blk_cell BK654.out 1).trans rfl; have hcz54_2 : w50.cell? ⟨gb654, 2, none⟩ = some (.int .i64 0) := (blk_cell BK654.out 2).trans rfl; have hfz54_0 := blk_frozen BK654.out 0; have hfz54_1 := blk_frozen BK654.out 1; have hfz54_2 := blk_frozen BK654.out 2))
          (try simp only [Act.put, List.setIfInBounds_toArray, List.set_cons_zero, List.set_cons_succ])
          go_cut [102] (fun v102 wc => ∃ (kq : Nat) (x102_47 : Bool), v102 = .bool x102_47 ∧ Aside0 (laws_FnLogLines.j1 kq t632 t633 t641 x102_47 t637 t638 t639 = some r) ∧ Aside0 (kq ≤ kj9) ∧ Aside0 (wc.heap[gb631]? = some (.cells #[.string t629, .string t630] 27 (0, 0))) ∧ Aside0 (wc.heap[gb642]? = some (.cells #[.string t637, .string t638, .int .i64 t639] 31 (0, 0))) ∧ Aside0 (wc.heap[gb648]? = some (.cells #[.string t643, .string t644, .int .i64 t645] 31 (0, 0))) ∧ Aside0 (wc.heap[gb654]? = some (.cells #[.string t649, .string t650, .int .i64 t651] 31 (0, 0))) ∧ Aside0 (Below w.heap.size w wc))
          case first =>
            have H := HC48.out
            clear HC48
            by_cases c55 : t633 = true
            · subst c55
              have H1 : (if ((decide (t652 > 0)) != (t628 == 0)) = true then (laws_FnLogLines.j1 kj9 t632 true t641 true t637 t638 t639) else (if t628 = 0 then (laws_FnLogLines.j1 kj9 t632 true t641 (t651 != 1) t637 t638 t639) else (laws_FnLogLines.j1 kj9 t632 true t641 false t637 t638 t639))) = some r := by rw [if_pos rfl] at H; exact H
              clear H
              have H := H1
              clear H1
              by_cases c56 : ((decide (t652 > 0)) != (t628 == 0)) = true
              · rw [if_pos c56] at H
                have c56b0 : ((decide (t652 > 0)) != (t628 == 0)) = true := c56
                (try (have c56b1 : decide ((decide (t652 > 0)) = (t628 == 0)) = false := by simpa using c56))
                (try (have c56b2 : ((decide (t652 > 0)) == (t628 == 0)) = false := by simpa using c56))
                (try (have c56b3 : ¬ ((decide (t652 > 0)) = (t628 == 0)) := by simpa using c56))
                clear c56
                (first | rw [c56b0] | (simp only [i64_w, i32_w]; rw [c56b0]) | skip)
                have H' := Aside0.mk H
                clear H
                go_wp2
                go_meet
                case rel => exact ⟨_, (true), (by first | rfl | (simp; done) | (simp [*]; done)), H', ⟨by have := HJ9.out; first | omega | exact Nat.le_refl _⟩, ⟨by (with_reducible repeat (first | refine blk_drewN ?_ _ | refine blk_drew ?_ | refine blk_alloc ?_ _)); refine blk_far ?_ NB631_654.out _; (with_reducible repeat (first | refine blk_drewN ?_ _ | refine blk_drew ?_ | refine blk_alloc ?_ _)); refine blk_far ?_ NB631_654.out _; (with_reducible repeat (first | refine blk_drewN ?_ _ | refine blk_drew ?_ | refine blk_alloc ?_ _)); refine blk_far ?_ NB631_654.out _; (with_reducible repeat (first | refine blk_drewN ?_ _ | refine blk_drew ?_ | refine blk_alloc ?_ _)); exact BK631.out⟩, ⟨by (with_reducible repeat (first | refine blk_drewN ?_ _ | refine blk_drew ?_ | refine blk_alloc ?_ _)); refine blk_far ?_ NB642_654.out _; (with_reducible repeat (first | refine blk_drewN ?_ _ | refine blk_drew ?_ | refine blk_alloc ?_ _)); refine blk_far ?_ NB642_654.out _; (with_reducible repeat (first | refine blk_drewN ?_ _ | refine blk_drew ?_ | refine blk_alloc ?_ _)); refine blk_far ?_ NB642_654.out _; (with_reducible repeat (first | refine blk_drewN ?_ _ | refine blk_drew ?_ | refine blk_alloc ?_ _)); exact BK642.out⟩, ⟨by (with_reducible repeat (first | refine blk_drewN ?_ _ | refine blk_drew ?_ | refine blk_alloc ?_ _)); refine blk_far ?_ NB648_654.out _; (with_reducible repeat (first | refine blk_drewN ?_ _ | refine blk_drew ?_ | refine blk_alloc ?_ _)); refine blk_far ?_ NB648_654.out _; (with_reducible repeat (first | refine blk_drewN ?_ _ | refine blk_drew ?_ | refine blk_alloc ?_ _)); refine blk_far ?_ NB648_654.out _; (with_reducible repeat (first | refine blk_drewN ?_ _ | refine blk_drew ?_ | refine blk_alloc ?_ _)); exact BK648.out⟩, ⟨by (with_reducible repeat (first | refine blk_drewN ?_ _ | refine blk_drew ?_ | refine blk_alloc ?_ _)); refine blk_put (cs := #[.string t649, .string t650, .int .i64 0]) ?_ 2 _ rfl; (with_reducible repeat (first | refine blk_drewN ?_ _ | refine blk_drew ?_ | refine blk_alloc ?_ _)); refine blk_put (cs := #[.string t649, .string (⟨#[]⟩ : ByteArray), .int .i64 0]) ?_ 1 _ rfl; (with_reducible repeat (first | refine blk_drewN ?_ _ | refine blk_drew ?_ | refine blk_alloc ?_ _)); refine blk_put (cs := #[.string (⟨#[]⟩ : ByteArray), .string (⟨#[]⟩ : ByteArray), .int .i64 0]) ?_ 0 _ rfl; (with_reducible repeat (first | refine blk_drewN ?_ _ | refine blk_drew ?_ | refine blk_alloc ?_ _)); exact BK654.out⟩, ⟨by repeat (first | (with_reducible first | exact HB.out | apply below_alloc | apply pw_below_drewN | apply below_drew1 | refine below_set ?_ GE631.out | refine below_set ?_ GE642.out | refine below_set ?_ GE648.out | refine below_set ?_ GE654.out) | exact HB.out)⟩⟩
              · rw [if_neg c56] at H
                have c56b0 : ((decide (t652 > 0)) != (t628 == 0)) = false := by simpa using c56
                (try (have c56b1 : decide ((decide (t652 > 0)) = (t628 == 0)) = true := by simpa using c56))
                (try (have c56b2 : ((decide (t652 > 0)) == (t628 == 0)) = true := by simpa using c56))
                clear c56
                (first | rw [c56b0] | (simp only [i64_w, i32_w]; rw [c56b0]) | skip)
                by_cases c57 : t628 = 0
                · rw [if_pos c57] at H
                  have c57g : decide (0 < t652) = true := by have h_ := c56b0; rw [show (t628 == 0) = true from beq_iff_eq.mpr c57] at h_; simpa using h_
                  have c57b0 : (t628 == 0) = true := beq_iff_eq.mpr c57
                  have c57b1 : (t628 != 0) = false := bne_eq_false_iff_eq.mpr c57
                  clear c57
                  have H' := Aside0.mk H
                  clear H
                  have hnb58 := NB654_631.out
                  have hnc58 := NB631_654.out
                  have hnb59 := NB654_642.out
                  have hnc59 := NB642_654.out
                  have hnb60 := NB654_648.out
                  have hnc60 := NB648_654.out
                  have hcz61_0 : w50.cell? ⟨gb654, 0, none⟩ = some (.string (⟨#[]⟩ : ByteArray)) := (blk_cell BK654.out 0).trans rfl
                  have hcz61_1 : w50.cell? ⟨gb654, 1, none⟩ = some (.string (⟨#[]⟩ : ByteArray)) := (blk_cell BK654.out 1).trans rfl
                  have hcz61_2 : w50.cell? ⟨gb654, 2, none⟩ = some (.int .i64 0) := (blk_cell BK654.out 2).trans rfl
                  have hfz61_0 := blk_frozen BK654.out 0
                  have hfz61_1 := blk_frozen BK654.out 1
                  have hfz61_2 := blk_frozen BK654.out 2
                  go_wp2
                  go_meet
                  case rel => exact ⟨_, ((t651 != 1)), (by first | rfl | (simp; done) | (simp [*]; done)), H', ⟨by have := HJ9.out; first | omega | exact Nat.le_refl _⟩, ⟨by (with_reducible repeat (first | refine blk_drewN ?_ _ | refine blk_drew ?_ | refine blk_alloc ?_ _)); refine blk_far ?_ NB631_654.out _; (with_reducible repeat (first | refine blk_drewN ?_ _ | refine blk_drew ?_ | refine blk_alloc ?_ _)); refine blk_far ?_ NB631_654.out _; (with_reducible repeat (first | refine blk_drewN ?_ _ | refine blk_drew ?_ | refine blk_alloc ?_ _)); refine blk_far ?_ NB631_654.out _; (with_reducible repeat (first | refine blk_drewN ?_ _ | refine blk_drew ?_ | refine blk_alloc ?_ _)); exact BK631.out⟩, ⟨by (with_reducible repeat (first | refine blk_drewN ?_ _ | refine blk_drew ?_ | refine blk_alloc ?_ _)); refine blk_far ?_ NB642_654.out _; (with_reducible repeat (first | refine blk_drewN ?_ _ | refine blk_drew ?_ | refine blk_alloc ?_ _)); refine blk_far ?_ NB642_654.out _; (with_reducible repeat (first | refine blk_drewN ?_ _ | refine blk_drew ?_ | refine blk_alloc ?_ _)); refine blk_far ?_ NB642_654.out _; (with_reducible repeat (first | refine blk_drewN ?_ _ | refine blk_drew ?_ | refine blk_alloc ?_ _)); exact BK642.out⟩, ⟨by (with_reducible repeat (first | refine blk_drewN ?_ _ | refine blk_drew ?_ | refine blk_alloc ?_ _)); refine blk_far ?_ NB648_654.out _; (with_reducible repeat (first | refine blk_drewN ?_ _ | refine blk_drew ?_ | refine blk_alloc ?_ _)); refine blk_far ?_ NB648_654.out _; (with_reducible repeat (first | refine blk_drewN ?_ _ | refine blk_drew ?_ | refine blk_alloc ?_ _)); refine blk_far ?_ NB648_654.out _; (with_reducible repeat (first | refine blk_drewN ?_ _ | refine blk_drew ?_ | refine blk_alloc ?_ _)); exact BK648.out⟩, ⟨by (with_reducible repeat (first | refine blk_drewN ?_ _ | refine blk_drew ?_ | refine blk_alloc ?_ _)); refine blk_put (cs := #[.string t649, .string t650, .int .i64 0]) ?_ 2 _ rfl; (with_reducible repeat (first | refine blk_drewN ?_ _ | refine blk_drew ?_ | refine blk_alloc ?_ _)); refine blk_put (cs := #[.string t649, .string (⟨#[]⟩ : ByteArray), .int .i64 0]) ?_ 1 _ rfl; (with_reducible repeat (first | refine blk_drewN ?_ _ | refine blk_drew ?_ | refine blk_alloc ?_ _)); refine blk_put (cs := #[.string (⟨#[]⟩ : ByteArray), .string (⟨#[]⟩ : ByteArray), .int .i64 0]) ?_ 0 _ rfl; (with_reducible repeat (first | refine blk_drewN ?_ _ | refine blk_drew ?_ | refine blk_alloc ?_ _)); exact BK654.out⟩, ⟨by repeat (first | (with_reducible first | exact HB.out | apply below_alloc | apply pw_below_drewN | apply below_drew1 | refine below_set ?_ GE631.out | refine below_set ?_ GE642.out | refine below_set ?_ GE648.out | refine below_set ?_ GE654.out) | exact HB.out)⟩⟩
                · rw [if_neg c57] at H
                  have c57g : decide (0 < t652) = false := by have h_ := c56b0; rw [show (t628 == 0) = false from beq_eq_false_iff_ne.mpr c57] at h_; simpa using h_
                  have c57b0 : (t628 == 0) = false := beq_eq_false_iff_ne.mpr c57
                  have c57b1 : (t628 != 0) = true := bne_iff_ne.mpr c57
                  have H' := Aside0.mk H
                  clear H
                  go_wp2
                  go_meet
                  case rel => exact ⟨_, (false), (by first | rfl | (simp; done) | (simp [*]; done)), H', ⟨by have := HJ9.out; first | omega | exact Nat.le_refl _⟩, ⟨by (with_reducible repeat (first | refine blk_drewN ?_ _ | refine blk_drew ?_ | refine blk_alloc ?_ _)); refine blk_far ?_ NB631_654.out _; (with_reducible repeat (first | refine blk_drewN ?_ _ | refine blk_drew ?_ | refine blk_alloc ?_ _)); refine blk_far ?_ NB631_654.out _; (with_reducible repeat (first | refine blk_drewN ?_ _ | refine blk_drew ?_ | refine blk_alloc ?_ _)); refine blk_far ?_ NB631_654.out _; (with_reducible repeat (first | refine blk_drewN ?_ _ | refine blk_drew ?_ | refine blk_alloc ?_ _)); exact BK631.out⟩, ⟨by (with_reducible repeat (first | refine blk_drewN ?_ _ | refine blk_drew ?_ | refine blk_alloc ?_ _)); refine blk_far ?_ NB642_654.out _; (with_reducible repeat (first | refine blk_drewN ?_ _ | refine blk_drew ?_ | refine blk_alloc ?_ _)); refine blk_far ?_ NB642_654.out _; (with_reducible repeat (first | refine blk_drewN ?_ _ | refine blk_drew ?_ | refine blk_alloc ?_ _)); refine blk_far ?_ NB642_654.out _; (with_reducible repeat (first | refine blk_drewN ?_ _ | refine blk_drew ?_ | refine blk_alloc ?_ _)); exact BK642.out⟩, ⟨by (with_reducible repeat (first | refine blk_drewN ?_ _ | refine blk_drew ?_ | refine blk_alloc ?_ _)); refine blk_far ?_ NB648_654.out _; (with_reducible repeat (first | refine blk_drewN ?_ _ | refine blk_drew ?_ | refine blk_alloc ?_ _)); refine blk_far ?_ NB648_654.out _; (with_reducible repeat (first | refine blk_drewN ?_ _ | refine blk_drew ?_ | refine blk_alloc ?_ _)); refine blk_far ?_ NB648_654.out _; (with_reducible repeat (first | refine blk_drewN ?_ _ | refine blk_drew ?_ | refine blk_alloc ?_ _)); exact BK648.out⟩, ⟨by (with_reducible repeat (first | refine blk_drewN ?_ _ | refine blk_drew ?_ | refine blk_alloc ?_ _)); refine blk_put (cs := #[.string t649, .string t650, .int .i64 0]) ?_ 2 _ rfl; (with_reducible repeat (first | refine blk_drewN ?_ _ | refine blk_drew ?_ | refine blk_alloc ?_ _)); refine blk_put (cs := #[.string t649, .string (⟨#[]⟩ : ByteArray), .int .i64 0]) ?_ 1 _ rfl; (with_reducible repeat (first | refine blk_drewN ?_ _ | refine blk_drew ?_ | refine blk_alloc ?_ _)); refine blk_put (cs := #[.string (⟨#[]⟩ : ByteArray), .string (⟨#[]⟩ : ByteArray), .int .i64 0]) ?_ 0 _ rfl; (with_reducible repeat (first | refine blk_drewN ?_ _ | refine blk_drew ?_ | refine blk_alloc ?_ _)); exact BK654.out⟩, ⟨by repeat (first | (with_reducible first | exact HB.out | apply below_alloc | apply pw_below_drewN | apply below_drew1 | refine below_set ?_ GE631.out | refine below_set ?_ GE642.out | refine below_set ?_ GE648.out | refine below_set ?_ GE654.out) | exact HB.out)⟩⟩
            · replace c55 := Bool.eq_false_iff.mpr c55
              subst c55
              have H1 : (laws_FnLogLines.j1 kj9 t632 false t641 false t637 t638 t639) = some r := by rw [if_neg (show ¬ (false = true) by decide)] at H; exact H
              clear H
              have H := H1
              clear H1
              have H' := Aside0.mk H
              clear H
              go_wp2
              go_meet
              case rel => exact ⟨_, (false), (by first | rfl | (simp; done) | (simp [*]; done)), H', ⟨by have := HJ9.out; first | omega | exact Nat.le_refl _⟩, ⟨by (with_reducible repeat (first | refine blk_drewN ?_ _ | refine blk_drew ?_ | refine blk_alloc ?_ _)); refine blk_far ?_ NB631_654.out _; (with_reducible repeat (first | refine blk_drewN ?_ _ | refine blk_drew ?_ | refine blk_alloc ?_ _)); refine blk_far ?_ NB631_654.out _; (with_reducible repeat (first | refine blk_drewN ?_ _ | refine blk_drew ?_ | refine blk_alloc ?_ _)); refine blk_far ?_ NB631_654.out _; (with_reducible repeat (first | refine blk_drewN ?_ _ | refine blk_drew ?_ | refine blk_alloc ?_ _)); exact BK631.out⟩, ⟨by (with_reducible repeat (first | refine blk_drewN ?_ _ | refine blk_drew ?_ | refine blk_alloc ?_ _)); refine blk_far ?_ NB642_654.out _; (with_reducible repeat (first | refine blk_drewN ?_ _ | refine blk_drew ?_ | refine blk_alloc ?_ _)); refine blk_far ?_ NB642_654.out _; (with_reducible repeat (first | refine blk_drewN ?_ _ | refine blk_drew ?_ | refine blk_alloc ?_ _)); refine blk_far ?_ NB642_654.out _; (with_reducible repeat (first | refine blk_drewN ?_ _ | refine blk_drew ?_ | refine blk_alloc ?_ _)); exact BK642.out⟩, ⟨by (with_reducible repeat (first | refine blk_drewN ?_ _ | refine blk_drew ?_ | refine blk_alloc ?_ _)); refine blk_far ?_ NB648_654.out _; (with_reducible repeat (first | refine blk_drewN ?_ _ | refine blk_drew ?_ | refine blk_alloc ?_ _)); refine blk_far ?_ NB648_654.out _; (with_reducible repeat (first | refine blk_drewN ?_ _ | refine blk_drew ?_ | refine blk_alloc ?_ _)); refine blk_far ?_ NB648_654.out _; (with_reducible repeat (first | refine blk_drewN ?_ _ | refine blk_drew ?_ | refine blk_alloc ?_ _)); exact BK648.out⟩, ⟨by (with_reducible repeat (first | refine blk_drewN ?_ _ | refine blk_drew ?_ | refine blk_alloc ?_ _)); refine blk_put (cs := #[.string t649, .string t650, .int .i64 0]) ?_ 2 _ rfl; (with_reducible repeat (first | refine blk_drewN ?_ _ | refine blk_drew ?_ | refine blk_alloc ?_ _)); refine blk_put (cs := #[.string t649, .string (⟨#[]⟩ : ByteArray), .int .i64 0]) ?_ 1 _ rfl; (with_reducible repeat (first | refine blk_drewN ?_ _ | refine blk_drew ?_ | refine blk_alloc ?_ _)); refine blk_put (cs := #[.string (⟨#[]⟩ : ByteArray), .string (⟨#[]⟩ : ByteArray), .int .i64 0]) ?_ 0 _ rfl; (with_reducible repeat (first | refine blk_drewN ?_ _ | refine blk_drew ?_ | refine blk_alloc ?_ _)); exact BK654.out⟩, ⟨by repeat (first | (with_reducible first | exact HB.out | apply below_alloc | apply pw_below_drewN | apply below_drew1 | refine below_set ?_ GE631.out | refine below_set ?_ GE642.out | refine below_set ?_ GE648.out | refine below_set ?_ GE654.out) | exact HB.out)⟩⟩
          case rest =>
            clear HC48
            try clear c1
            try clear c2
            try clear p2
            try clear c3
            try clear c4
            try clear c5
            try clear c6
            try clear c11
            try clear c14
            try clear c16
            try clear c17
            try clear c18
            try clear c20
            try clear c24
            try clear c25
            try clear c27
            try clear c27b0
            try clear c27b1
            try clear c28
            try clear c28b0
            try clear c28b1
            try clear c28b2
            try clear c29
            try clear c29b0
            try clear c30
            try clear c31
            try clear c33
            try clear c35
            try clear c35b0
            try clear c35b1
            try clear c36
            try clear c37
            try clear c39
            try clear c40
            try clear c41
            try clear c42
            try clear c44
            try clear c46
            try clear c51
            try clear c52
            try clear c53
            try clear c55
            try clear c56
            try clear c56b0
            try clear c56b1
            try clear c56b2
            try clear c57
            try clear c57b0
            try clear c57b1
            try clear c58
            try clear c59
            try clear c60
            try clear hcz13_0
            try clear hcz13_1
            try clear hcz15_0
            try clear hcz15_1
            try clear hcz21_0
            try clear hcz21_1
            try clear hcz21_2
            try clear hcz26_0
            try clear hcz26_1
            try clear hcz26_2
            try clear hcz32_0
            try clear hcz32_1
            try clear hcz32_2
            try clear hcz34_0
            try clear hcz34_1
            try clear hcz34_2
            try clear hcz38_0
            try clear hcz38_1
            try clear hcz38_2
            try clear hcz40_0
            try clear hcz40_1
            try clear hcz40_2
            try clear hcz43_0
            try clear hcz43_1
            try clear hcz43_2
            try clear hcz45_0
            try clear hcz45_1
            try clear hcz45_2
            try clear hcz54_0
            try clear hcz54_1
            try clear hcz54_2
            try clear hcz61_0
            try clear hcz61_1
            try clear hcz61_2
            try clear hfz13_0
            try clear hfz13_1
            try clear hfz15_0
            try clear hfz15_1
            try clear hfz21_0
            try clear hfz21_1
            try clear hfz21_2
            try clear hfz26_0
            try clear hfz26_1
            try clear hfz26_2
            try clear hfz32_0
            try clear hfz32_1
            try clear hfz32_2
            try clear hfz34_0
            try clear hfz34_1
            try clear hfz34_2
            try clear hfz38_0
            try clear hfz38_1
            try clear hfz38_2
            try clear hfz40_0
            try clear hfz40_1
            try clear hfz40_2
            try clear hfz43_0
            try clear hfz43_1
            try clear hfz43_2
            try clear hfz45_0
            try clear hfz45_1
            try clear hfz45_2
            try clear hfz54_0
            try clear hfz54_1
            try clear hfz54_2
            try clear hfz61_0
            try clear hfz61_1
            try clear hfz61_2
            try clear p2
            obtain ⟨kq, x102_47, rfl, HA, HJ47, BK631, BK642, BK648, BK654, HB⟩ := hcut
            cases kq with
            | zero => exact absurd HA.out (by simp [laws_FnLogLines.j1])
            | succ kj47 =>
              have H := HA.out
              clear HA
              simp only [laws_FnLogLines.j1] at H
              by_cases c62 : x102_47 = true
              · subst c62
                have H1 : (some false) = some r := by rw [if_pos rfl] at H; exact H
                clear H
                have H := H1
                clear H1
                exact absurd (Option.some.inj H) (by rw [HR_.out]; decide)
              · replace c62 := Bool.eq_false_iff.mpr c62
                subst c62
                have H1 : ((impl_SyncLog.f kj47 t637 t638 t639).bind fun bt655 => (if t641 = true then (if bt655.2.2.2 = true then (if (bt655.1.toList == t637.toList && (bt655.2.1.toList == t638.toList && (bt655.2.2.1 == t639))) = true then ((impl_IsValidLog.f kj47 t637 t638 t639).bind fun t660 => (if t660 = true then (if t633 = true then (some true) else (some (t632.toList == ([] : List UInt8)))) else (some false))) else (some false)) else (some false)) else (some true))) = some r := by rw [if_neg (show ¬ (false = true) by decide)] at H; exact H
                clear H
                have H := H1
                clear H1
                replace H := Option.bind_eq_some_iff.mp H
                obtain ⟨⟨t655, t656, t657, t658⟩, A630, H⟩ := H
                replace H : (if t641 = true then (if t658 = true then (if (t655.toList == t637.toList && (t656.toList == t638.toList && (t657 == t639))) = true then ((impl_IsValidLog.f kj47 t637 t638 t639).bind fun t660 => (if t660 = true then (if t633 = true then (some true) else (some (t632.toList == ([] : List UInt8)))) else (some false))) else (some false)) else (some false)) else (some true)) = some r := H
                have A63 := Aside0.mk A630
                clear A630
                by_cases c64 : t641 = true
                · subst c64
                  have H1 : (if t658 = true then (if (t655.toList == t637.toList && (t656.toList == t638.toList && (t657 == t639))) = true then ((impl_IsValidLog.f kj47 t637 t638 t639).bind fun t660 => (if t660 = true then (if t633 = true then (some true) else (some (t632.toList == ([] : List UInt8)))) else (some false))) else (some false)) else (some false)) = some r := by rw [if_pos rfl] at H; exact H
                  clear H
                  have H := H1
                  clear H1
                  by_cases c65 : t658 = true
                  · subst c65
                    have H1 : (if (t655.toList == t637.toList && (t656.toList == t638.toList && (t657 == t639))) = true then ((impl_IsValidLog.f kj47 t637 t638 t639).bind fun t660 => (if t660 = true then (if t633 = true then (some true) else (some (t632.toList == ([] : List UInt8)))) else (some false))) else (some false)) = some r := by rw [if_pos rfl] at H; exact H
                    clear H
                    have H := H1
                    clear H1
                    by_cases c66 : (t655.toList == t637.toList && (t656.toList == t638.toList && (t657 == t639))) = true
                    · rw [if_pos c66] at H
                      have c66b0 : (t655.toList == t637.toList && (t656.toList == t638.toList && (t657 == t639))) = true := c66
                      (try (have c66b1 : decide (t655.toList = t637.toList && (t656.toList == t638.toList && (t657 == t639))) = true := by simpa using c66))
                      (try (have c66b2 : (t655.toList == t637.toList && (t656.toList == t638.toList && (t657 == t639))) = true := by simpa using c66))
                      clear c66
                      replace H := Option.bind_eq_some_iff.mp H
                      obtain ⟨t660, A670, H⟩ := H
                      replace H : (if t660 = true then (if t633 = true then (some true) else (some (t632.toList == ([] : List UInt8)))) else (some false)) = some r := H
                      have A67 := Aside0.mk A670
                      clear A670
                      by_cases c68 : t660 = true
                      · subst c68
                        have H1 : (if t633 = true then (some true) else (some (t632.toList == ([] : List UInt8)))) = some r := by rw [if_pos rfl] at H; exact H
                        clear H
                        have H := H1
                        clear H1
                        by_cases c69 : t633 = true
                        · subst c69
                          have H1 : (some true) = some r := by rw [if_pos rfl] at H; exact H
                          clear H
                          have H := H1
                          clear H1
                          obtain rfl := Option.some.inj H
                          have hnb70 := NB642_631.out
                          have hnc70 := NB631_642.out
                          have hnb71 := NB642_648.out
                          have hnc71 := NB648_642.out
                          have hnb72 := NB642_654.out
                          have hnc72 := NB654_642.out
                          have hcz73_0 : wc.cell? ⟨gb642, 0, none⟩ = some (.string t637) := (blk_cell BK642.out 0).trans rfl
                          have hcz73_1 : wc.cell? ⟨gb642, 1, none⟩ = some (.string t638) := (blk_cell BK642.out 1).trans rfl
                          have hcz73_2 : wc.cell? ⟨gb642, 2, none⟩ = some (.int .i64 t639) := (blk_cell BK642.out 2).trans rfl
                          have hfz73_0 := blk_frozen BK642.out 0
                          have hfz73_1 := blk_frozen BK642.out 1
                          have hfz73_2 := blk_frozen BK642.out 2
                          go_wp2_with (first | ((with_reducible refine gate_callee (f := 27) rfl ?_); refine goesL_ (some 105) rfl rfl Tryd.func27 (by kernel_rfl) rfl #[.agg #[.string t637, .string t638, .int .i64 t639]] rfl (by (try simp only [List.map_toArray, List.map_cons, List.map_nil]); first | done | rfl | (simp only [List.length_drop, List.length_take]; rfl)) ?_; (with_reducible refine (impl_SyncLog.calls kj47 t637 t638 t639 t655 t656 t657 true _ ?side1 A63.out).mono ?_); (case side1 => exact Glob.below HGL.out (by repeat (first | (with_reducible first | exact HB.out | apply below_alloc | apply pw_below_drewN | apply below_drew1 | refine below_set ?_ GE631.out | refine below_set ?_ GE642.out | refine below_set ?_ GE648.out | refine below_set ?_ GE654.out) | exact HB.out))); rintro e w74 ⟨rfl, hb⟩; refine ⟨_, rfl, ?_⟩; have n0_ := Aside0.mk (blk_below (g := gb631) (o := .cells #[.string t629, .string t630] 27 (0, 0)) (by (with_reducible repeat (first | refine blk_drewN ?_ _ | refine blk_drew ?_ | refine blk_alloc ?_ _)); exact BK631.out) hb); have n1_ := Aside0.mk (blk_below (g := gb642) (o := .cells #[.string t637, .string t638, .int .i64 t639] 31 (0, 0)) (by (with_reducible repeat (first | refine blk_drewN ?_ _ | refine blk_drew ?_ | refine blk_alloc ?_ _)); exact BK642.out) hb); have n2_ := Aside0.mk (blk_below (g := gb648) (o := .cells #[.string t643, .string t644, .int .i64 t645] 31 (0, 0)) (by (with_reducible repeat (first | refine blk_drewN ?_ _ | refine blk_drew ?_ | refine blk_alloc ?_ _)); exact BK648.out) hb); have n3_ := Aside0.mk (blk_below (g := gb654) (o := .cells #[.string t649, .string t650, .int .i64 t651] 31 (0, 0)) (by (with_reducible repeat (first | refine blk_drewN ?_ _ | refine blk_drew ?_ | refine blk_alloc ?_ _)); exact BK654.out) hb); have n4_ := Aside0.mk (below_step (by repeat (first | (with_reducible first | exact HB.out | apply below_alloc | apply pw_below_drewN | apply below_drew1 | refine below_set ?_ GE631.out | refine below_set ?_ GE642.out | refine below_set ?_ GE648.out | refine below_set ?_ GE654.out) | exact HB.out)) hb); clear BK631; clear BK642; clear BK648; clear BK654; clear HB; have BK631 := n0_; have BK642 := n1_; have BK648 := n2_; have BK654 := n3_; have HB := n4_; clear n0_ n1_ n2_ n3_ n4_; (try clear hb); (try clear hb2); (try clear hk); (try clear hi)) | ((with_reducible refine gate_dst (N := 19) rfl ?_); refine box_event ?hg (N := 19) ?hd (cs := #[.string (⟨#[]⟩ : ByteArray), .string (⟨#[]⟩ : ByteArray), .int .i64 0]) (t := 31) ?hr ?_; (case hd => rfl); (case hg => rfl); (case hr => first | (go_simp; done) | (go_simp; rfl)); intro gb659 hg w75 hbox hb; have n0_ := Aside0.mk (blk_below (g := gb631) (o := .cells #[.string t629, .string t630] 27 (0, 0)) (by (with_reducible repeat (first | refine blk_drewN ?_ _ | refine blk_drew ?_ | refine blk_alloc ?_ _)); exact BK631.out) hb); have n1_ := Aside0.mk (blk_below (g := gb642) (o := .cells #[.string t637, .string t638, .int .i64 t639] 31 (0, 0)) (by (with_reducible repeat (first | refine blk_drewN ?_ _ | refine blk_drew ?_ | refine blk_alloc ?_ _)); exact BK642.out) hb); have n2_ := Aside0.mk (blk_below (g := gb648) (o := .cells #[.string t643, .string t644, .int .i64 t645] 31 (0, 0)) (by (with_reducible repeat (first | refine blk_drewN ?_ _ | refine blk_drew ?_ | refine blk_alloc ?_ _)); exact BK648.out) hb); have n3_ := Aside0.mk (blk_below (g := gb654) (o := .cells #[.string t649, .string t650, .int .i64 t651] 31 (0, 0)) (by (with_reducible repeat (first | refine blk_drewN ?_ _ | refine blk_drew ?_ | refine blk_alloc ?_ _)); exact BK654.out) hb); have n4_ := Aside0.mk (below_step (by repeat (first | (with_reducible first | exact HB.out | apply below_alloc | apply pw_below_drewN | apply below_drew1 | refine below_set ?_ GE631.out | refine below_set ?_ GE642.out | refine below_set ?_ GE648.out | refine below_set ?_ GE654.out) | exact HB.out)) hb); have n5_ := Aside0.mk (hbox); have n6_ := Aside0.mk ((by rw [hg]; exact (below_size (by repeat (first | (with_reducible first | exact HB.out | apply below_alloc | apply pw_below_drewN | apply below_drew1 | refine below_set ?_ GE631.out | refine below_set ?_ GE642.out | refine below_set ?_ GE648.out | refine below_set ?_ GE654.out) | exact HB.out))) : w.heap.size ≤ gb659)); have n7_ := Aside0.mk ((by rw [hg]; exact (below_size (by repeat (first | (with_reducible first | exact HB.out | apply below_alloc | apply pw_below_drewN | apply below_drew1 | refine below_set ?_ GE631.out | refine below_set ?_ GE642.out | refine below_set ?_ GE648.out | refine below_set ?_ GE654.out) | exact HB.out))) : w.heap.size ≤ gb659)); have n8_ := Aside0.mk ((by rw [hg]; exact Nat.ne_of_lt (blk_lt (g := gb631) (o := .cells #[.string t629, .string t630] 27 (0, 0)) (by (with_reducible repeat (first | refine blk_drewN ?_ _ | refine blk_drew ?_ | refine blk_alloc ?_ _)); exact BK631.out)) : gb631 ≠ gb659)); have n9_ := Aside0.mk ((by rw [hg]; exact Nat.ne_of_gt (blk_lt (g := gb631) (o := .cells #[.string t629, .string t630] 27 (0, 0)) (by (with_reducible repeat (first | refine blk_drewN ?_ _ | refine blk_drew ?_ | refine blk_alloc ?_ _)); exact BK631.out)) : gb659 ≠ gb631)); have n10_ := Aside0.mk ((by rw [hg]; exact Nat.ne_of_lt (blk_lt (g := gb642) (o := .cells #[.string t637, .string t638, .int .i64 t639] 31 (0, 0)) (by (with_reducible repeat (first | refine blk_drewN ?_ _ | refine blk_drew ?_ | refine blk_alloc ?_ _)); exact BK642.out)) : gb642 ≠ gb659)); have n11_ := Aside0.mk ((by rw [hg]; exact Nat.ne_of_gt (blk_lt (g := gb642) (o := .cells #[.string t637, .string t638, .int .i64 t639] 31 (0, 0)) (by (with_reducible repeat (first | refine blk_drewN ?_ _ | refine blk_drew ?_ | refine blk_alloc ?_ _)); exact BK642.out)) : gb659 ≠ gb642)); have n12_ := Aside0.mk ((by rw [hg]; exact Nat.ne_of_lt (blk_lt (g := gb648) (o := .cells #[.string t643, .string t644, .int .i64 t645] 31 (0, 0)) (by (with_reducible repeat (first | refine blk_drewN ?_ _ | refine blk_drew ?_ | refine blk_alloc ?_ _)); exact BK648.out)) : gb648 ≠ gb659)); have n13_ := Aside0.mk ((by rw [hg]; exact Nat.ne_of_gt (blk_lt (g := gb648) (o := .cells #[.string t643, .string t644, .int .i64 t645] 31 (0, 0)) (by (with_reducible repeat (first | refine blk_drewN ?_ _ | refine blk_drew ?_ | refine blk_alloc ?_ _)); exact BK648.out)) : gb659 ≠ gb648)); have n14_ := Aside0.mk ((by rw [hg]; exact Nat.ne_of_lt (blk_lt (g := gb654) (o := .cells #[.string t649, .string t650, .int .i64 t651] 31 (0, 0)) (by (with_reducible repeat (first | refine blk_drewN ?_ _ | refine blk_drew ?_ | refine blk_alloc ?_ _)); exact BK654.out)) : gb654 ≠ gb659)); have n15_ := Aside0.mk ((by rw [hg]; exact Nat.ne_of_gt (blk_lt (g := gb654) (o := .cells #[.string t649, .string t650, .int .i64 t651] 31 (0, 0)) (by (with_reducible repeat (first | refine blk_drewN ?_ _ | refine blk_drew ?_ | refine blk_alloc ?_ _)); exact BK654.out)) : gb659 ≠ gb654)); clear BK631; clear BK642; clear BK648; clear BK654; clear HB; have BK631 := n0_; have BK642 := n1_; have BK648 := n2_; have BK654 := n3_; have HB := n4_; have BK659 := n5_; have GW659 := n6_; have GE659 := n7_; have NB631_659 := n8_; have NB659_631 := n9_; have NB642_659 := n10_; have NB659_642 := n11_; have NB648_659 := n12_; have NB659_648 := n13_; have NB654_659 := n14_; have NB659_654 := n15_; clear n0_ n1_ n2_ n3_ n4_ n5_ n6_ n7_ n8_ n9_ n10_ n11_ n12_ n13_ n14_ n15_; clear hb hbox hg; have hnb76 := NB659_631.out; have hnc76 := NB631_659.out; have hnb77 := NB659_642.out; have hnc77 := NB642_659.out; have hnb78 := NB659_648.out; have hnc78 := NB648_659.out; have hnb79 := NB659_654.out; have hnc79 := NB654_659.out; have hcz80_0 : w75.cell? ⟨gb659, 0, none⟩ = some (.string (⟨#[]⟩ : ByteArray)) := (blk_cell BK659.out 0).trans rfl; have hcz80_1 : w75.cell? ⟨gb659, 1, none⟩ = some (.string (⟨#[]⟩ : ByteArray)) := (blk_cell BK659.out 1).trans rfl; have hcz80_2 : w75.cell? ⟨gb659, 2, none⟩ = some (.int .i64 0) := (blk_cell BK659.out 2).trans rfl; have hfz80_0 := blk_frozen BK659.out 0; have hfz80_1 := blk_frozen BK659.out 1; have hfz80_2 := blk_frozen BK659.out 2; have hcz81_0 : w75.cell? ⟨gb642, 0, none⟩ = some (.string t637) := (blk_cell BK642.out 0).trans rfl; have hcz81_1 : w75.cell? ⟨gb642, 1, none⟩ = some (.string t638) := (blk_cell BK642.out 1).trans rfl; have hcz81_2 : w75.cell? ⟨gb642, 2, none⟩ = some (.int .i64 t639) := (blk_cell BK642.out 2).trans rfl; have hfz81_0 := blk_frozen BK642.out 0; have hfz81_1 := blk_frozen BK642.out 1; have hfz81_2 := blk_frozen BK642.out 2) | (go_at_call 23; (with_reducible refine (impl_IsValidLog.calls kj47 t637 t638 t639 true _ ?side1 A67.out).mono ?_); (case side1 => exact Glob.below HGL.out (by repeat (first | (with_reducible first | exact HB.out | apply below_alloc | apply pw_below_drewN | apply below_drew1 | refine below_set ?_ GE631.out | refine below_set ?_ GE642.out | refine below_set ?_ GE648.out | refine below_set ?_ GE654.out | refine below_set ?_ GE659.out) | exact HB.out))); rintro e w82 ⟨rfl, hb⟩; have n0_ := Aside0.mk (blk_below (g := gb631) (o := .cells #[.string t629, .string t630] 27 (0, 0)) (by (with_reducible repeat (first | refine blk_drewN ?_ _ | refine blk_drew ?_ | refine blk_alloc ?_ _)); refine blk_far ?_ NB631_659.out _; (with_reducible repeat (first | refine blk_drewN ?_ _ | refine blk_drew ?_ | refine blk_alloc ?_ _)); refine blk_far ?_ NB631_659.out _; (with_reducible repeat (first | refine blk_drewN ?_ _ | refine blk_drew ?_ | refine blk_alloc ?_ _)); refine blk_far ?_ NB631_659.out _; (with_reducible repeat (first | refine blk_drewN ?_ _ | refine blk_drew ?_ | refine blk_alloc ?_ _)); exact BK631.out) hb); have n1_ := Aside0.mk (blk_below (g := gb642) (o := .cells #[.string t637, .string t638, .int .i64 t639] 31 (0, 0)) (by (with_reducible repeat (first | refine blk_drewN ?_ _ | refine blk_drew ?_ | refine blk_alloc ?_ _)); refine blk_far ?_ NB642_659.out _; (with_reducible repeat (first | refine blk_drewN ?_ _ | refine blk_drew ?_ | refine blk_alloc ?_ _)); refine blk_far ?_ NB642_659.out _; (with_reducible repeat (first | refine blk_drewN ?_ _ | refine blk_drew ?_ | refine blk_alloc ?_ _)); refine blk_far ?_ NB642_659.out _; (with_reducible repeat (first | refine blk_drewN ?_ _ | refine blk_drew ?_ | refine blk_alloc ?_ _)); exact BK642.out) hb); have n2_ := Aside0.mk (blk_below (g := gb648) (o := .cells #[.string t643, .string t644, .int .i64 t645] 31 (0, 0)) (by (with_reducible repeat (first | refine blk_drewN ?_ _ | refine blk_drew ?_ | refine blk_alloc ?_ _)); refine blk_far ?_ NB648_659.out _; (with_reducible repeat (first | refine blk_drewN ?_ _ | refine blk_drew ?_ | refine blk_alloc ?_ _)); refine blk_far ?_ NB648_659.out _; (with_reducible repeat (first | refine blk_drewN ?_ _ | refine blk_drew ?_ | refine blk_alloc ?_ _)); refine blk_far ?_ NB648_659.out _; (with_reducible repeat (first | refine blk_drewN ?_ _ | refine blk_drew ?_ | refine blk_alloc ?_ _)); exact BK648.out) hb); have n3_ := Aside0.mk (blk_below (g := gb654) (o := .cells #[.string t649, .string t650, .int .i64 t651] 31 (0, 0)) (by (with_reducible repeat (first | refine blk_drewN ?_ _ | refine blk_drew ?_ | refine blk_alloc ?_ _)); refine blk_far ?_ NB654_659.out _; (with_reducible repeat (first | refine blk_drewN ?_ _ | refine blk_drew ?_ | refine blk_alloc ?_ _)); refine blk_far ?_ NB654_659.out _; (with_reducible repeat (first | refine blk_drewN ?_ _ | refine blk_drew ?_ | refine blk_alloc ?_ _)); refine blk_far ?_ NB654_659.out _; (with_reducible repeat (first | refine blk_drewN ?_ _ | refine blk_drew ?_ | refine blk_alloc ?_ _)); exact BK654.out) hb); have n4_ := Aside0.mk (blk_below (g := gb659) (o := .cells #[.string t655, .string t656, .int .i64 t657] 31 (0, 0)) (by (with_reducible repeat (first | refine blk_drewN ?_ _ | refine blk_drew ?_ | refine blk_alloc ?_ _)); refine blk_put (cs := #[.string t655, .string t656, .int .i64 0]) ?_ 2 _ rfl; (with_reducible repeat (first | refine blk_drewN ?_ _ | refine blk_drew ?_ | refine blk_alloc ?_ _)); refine blk_put (cs := #[.string t655, .string (⟨#[]⟩ : ByteArray), .int .i64 0]) ?_ 1 _ rfl; (with_reducible repeat (first | refine blk_drewN ?_ _ | refine blk_drew ?_ | refine blk_alloc ?_ _)); refine blk_put (cs := #[.string (⟨#[]⟩ : ByteArray), .string (⟨#[]⟩ : ByteArray), .int .i64 0]) ?_ 0 _ rfl; (with_reducible repeat (first | refine blk_drewN ?_ _ | refine blk_drew ?_ | refine blk_alloc ?_ _)); exact BK659.out) hb); have n5_ := Aside0.mk (below_step (by repeat (first | (with_reducible first | exact HB.out | apply below_alloc | apply pw_below_drewN | apply below_drew1 | refine below_set ?_ GE631.out | refine below_set ?_ GE642.out | refine below_set ?_ GE648.out | refine below_set ?_ GE654.out | refine below_set ?_ GE659.out) | exact HB.out)) hb); clear BK631; clear BK642; clear BK648; clear BK654; clear BK659; clear HB; have BK631 := n0_; have BK642 := n1_; have BK648 := n2_; have BK654 := n3_; have BK659 := n4_; have HB := n5_; clear n0_ n1_ n2_ n3_ n4_ n5_; (try clear hb); (try clear hb2); (try clear hk); (try clear hi)))
                          go_ret
                          exact ⟨by first | rfl | (simp [errW_none, errW_some] <;> rfl) | (simp [*, errW_none, errW_some] <;> rfl), by repeat (first | (with_reducible first | exact HB.out | apply below_alloc | apply pw_below_drewN | apply below_drew1 | refine below_set ?_ GE631.out | refine below_set ?_ GE642.out | refine below_set ?_ GE648.out | refine below_set ?_ GE654.out | refine below_set ?_ GE659.out) | exact HB.out)⟩
                        · replace c69 := Bool.eq_false_iff.mpr c69
                          subst c69
                          have H1 : (some (t632.toList == ([] : List UInt8))) = some r := by rw [if_neg (show ¬ (false = true) by decide)] at H; exact H
                          clear H
                          have H := H1
                          clear H1
                          obtain rfl := Option.some.inj H
                          have hnb83 := NB642_631.out
                          have hnc83 := NB631_642.out
                          have hnb84 := NB642_648.out
                          have hnc84 := NB648_642.out
                          have hnb85 := NB642_654.out
                          have hnc85 := NB654_642.out
                          have hcz86_0 : wc.cell? ⟨gb642, 0, none⟩ = some (.string t637) := (blk_cell BK642.out 0).trans rfl
                          have hcz86_1 : wc.cell? ⟨gb642, 1, none⟩ = some (.string t638) := (blk_cell BK642.out 1).trans rfl
                          have hcz86_2 : wc.cell? ⟨gb642, 2, none⟩ = some (.int .i64 t639) := (blk_cell BK642.out 2).trans rfl
                          have hfz86_0 := blk_frozen BK642.out 0
                          have hfz86_1 := blk_frozen BK642.out 1
                          have hfz86_2 := blk_frozen BK642.out 2
                          go_wp2_with (first | ((with_reducible refine gate_callee (f := 27) rfl ?_); refine goesL_ (some 105) rfl rfl Tryd.func27 (by kernel_rfl) rfl #[.agg #[.string t637, .string t638, .int .i64 t639]] rfl (by (try simp only [List.map_toArray, List.map_cons, List.map_nil]); first | done | rfl | (simp only [List.length_drop, List.length_take]; rfl)) ?_; (with_reducible refine (impl_SyncLog.calls kj47 t637 t638 t639 t655 t656 t657 true _ ?side1 A63.out).mono ?_); (case side1 => exact Glob.below HGL.out (by repeat (first | (with_reducible first | exact HB.out | apply below_alloc | apply pw_below_drewN | apply below_drew1 | refine below_set ?_ GE631.out | refine below_set ?_ GE642.out | refine below_set ?_ GE648.out | refine below_set ?_ GE654.out) | exact HB.out))); rintro e w87 ⟨rfl, hb⟩; refine ⟨_, rfl, ?_⟩; have n0_ := Aside0.mk (blk_below (g := gb631) (o := .cells #[.string t629, .string t630] 27 (0, 0)) (by (with_reducible repeat (first | refine blk_drewN ?_ _ | refine blk_drew ?_ | refine blk_alloc ?_ _)); exact BK631.out) hb); have n1_ := Aside0.mk (blk_below (g := gb642) (o := .cells #[.string t637, .string t638, .int .i64 t639] 31 (0, 0)) (by (with_reducible repeat (first | refine blk_drewN ?_ _ | refine blk_drew ?_ | refine blk_alloc ?_ _)); exact BK642.out) hb); have n2_ := Aside0.mk (blk_below (g := gb648) (o := .cells #[.string t643, .string t644, .int .i64 t645] 31 (0, 0)) (by (with_reducible repeat (first | refine blk_drewN ?_ _ | refine blk_drew ?_ | refine blk_alloc ?_ _)); exact BK648.out) hb); have n3_ := Aside0.mk (blk_below (g := gb654) (o := .cells #[.string t649, .string t650, .int .i64 t651] 31 (0, 0)) (by (with_reducible repeat (first | refine blk_drewN ?_ _ | refine blk_drew ?_ | refine blk_alloc ?_ _)); exact BK654.out) hb); have n4_ := Aside0.mk (below_step (by repeat (first | (with_reducible first | exact HB.out | apply below_alloc | apply pw_below_drewN | apply below_drew1 | refine below_set ?_ GE631.out | refine below_set ?_ GE642.out | refine below_set ?_ GE648.out | refine below_set ?_ GE654.out) | exact HB.out)) hb); clear BK631; clear BK642; clear BK648; clear BK654; clear HB; have BK631 := n0_; have BK642 := n1_; have BK648 := n2_; have BK654 := n3_; have HB := n4_; clear n0_ n1_ n2_ n3_ n4_; (try clear hb); (try clear hb2); (try clear hk); (try clear hi)) | ((with_reducible refine gate_dst (N := 19) rfl ?_); refine box_event ?hg (N := 19) ?hd (cs := #[.string (⟨#[]⟩ : ByteArray), .string (⟨#[]⟩ : ByteArray), .int .i64 0]) (t := 31) ?hr ?_; (case hd => rfl); (case hg => rfl); (case hr => first | (go_simp; done) | (go_simp; rfl)); intro gb659 hg w88 hbox hb; have n0_ := Aside0.mk (blk_below (g := gb631) (o := .cells #[.string t629, .string t630] 27 (0, 0)) (by (with_reducible repeat (first | refine blk_drewN ?_ _ | refine blk_drew ?_ | refine blk_alloc ?_ _)); exact BK631.out) hb); have n1_ := Aside0.mk (blk_below (g := gb642) (o := .cells #[.string t637, .string t638, .int .i64 t639] 31 (0, 0)) (by (with_reducible repeat (first | refine blk_drewN ?_ _ | refine blk_drew ?_ | refine blk_alloc ?_ _)); exact BK642.out) hb); have n2_ := Aside0.mk (blk_below (g := gb648) (o := .cells #[.string t643, .string t644, .int .i64 t645] 31 (0, 0)) (by (with_reducible repeat (first | refine blk_drewN ?_ _ | refine blk_drew ?_ | refine blk_alloc ?_ _)); exact BK648.out) hb); have n3_ := Aside0.mk (blk_below (g := gb654) (o := .cells #[.string t649, .string t650, .int .i64 t651] 31 (0, 0)) (by (with_reducible repeat (first | refine blk_drewN ?_ _ | refine blk_drew ?_ | refine blk_alloc ?_ _)); exact BK654.out) hb); have n4_ := Aside0.mk (below_step (by repeat (first | (with_reducible first | exact HB.out | apply below_alloc | apply pw_below_drewN | apply below_drew1 | refine below_set ?_ GE631.out | refine below_set ?_ GE642.out | refine below_set ?_ GE648.out | refine below_set ?_ GE654.out) | exact HB.out)) hb); have n5_ := Aside0.mk (hbox); have n6_ := Aside0.mk ((by rw [hg]; exact (below_size (by repeat (first | (with_reducible first | exact HB.out | apply below_alloc | apply pw_below_drewN | apply below_drew1 | refine below_set ?_ GE631.out | refine below_set ?_ GE642.out | refine below_set ?_ GE648.out | refine below_set ?_ GE654.out) | exact HB.out))) : w.heap.size ≤ gb659)); have n7_ := Aside0.mk ((by rw [hg]; exact (below_size (by repeat (first | (with_reducible first | exact HB.out | apply below_alloc | apply pw_below_drewN | apply below_drew1 | refine below_set ?_ GE631.out | refine below_set ?_ GE642.out | refine below_set ?_ GE648.out | refine below_set ?_ GE654.out) | exact HB.out))) : w.heap.size ≤ gb659)); have n8_ := Aside0.mk ((by rw [hg]; exact Nat.ne_of_lt (blk_lt (g := gb631) (o := .cells #[.string t629, .string t630] 27 (0, 0)) (by (with_reducible repeat (first | refine blk_drewN ?_ _ | refine blk_drew ?_ | refine blk_alloc ?_ _)); exact BK631.out)) : gb631 ≠ gb659)); have n9_ := Aside0.mk ((by rw [hg]; exact Nat.ne_of_gt (blk_lt (g := gb631) (o := .cells #[.string t629, .string t630] 27 (0, 0)) (by (with_reducible repeat (first | refine blk_drewN ?_ _ | refine blk_drew ?_ | refine blk_alloc ?_ _)); exact BK631.out)) : gb659 ≠ gb631)); have n10_ := Aside0.mk ((by rw [hg]; exact Nat.ne_of_lt (blk_lt (g := gb642) (o := .cells #[.string t637, .string t638, .int .i64 t639] 31 (0, 0)) (by (with_reducible repeat (first | refine blk_drewN ?_ _ | refine blk_drew ?_ | refine blk_alloc ?_ _)); exact BK642.out)) : gb642 ≠ gb659)); have n11_ := Aside0.mk ((by rw [hg]; exact Nat.ne_of_gt (blk_lt (g := gb642) (o := .cells #[.string t637, .string t638, .int .i64 t639] 31 (0, 0)) (by (with_reducible repeat (first | refine blk_drewN ?_ _ | refine blk_drew ?_ | refine blk_alloc ?_ _)); exact BK642.out)) : gb659 ≠ gb642)); have n12_ := Aside0.mk ((by rw [hg]; exact Nat.ne_of_lt (blk_lt (g := gb648) (o := .cells #[.string t643, .string t644, .int .i64 t645] 31 (0, 0)) (by (with_reducible repeat (first | refine blk_drewN ?_ _ | refine blk_drew ?_ | refine blk_alloc ?_ _)); exact BK648.out)) : gb648 ≠ gb659)); have n13_ := Aside0.mk ((by rw [hg]; exact Nat.ne_of_gt (blk_lt (g := gb648) (o := .cells #[.string t643, .string t644, .int .i64 t645] 31 (0, 0)) (by (with_reducible repeat (first | refine blk_drewN ?_ _ | refine blk_drew ?_ | refine blk_alloc ?_ _)); exact BK648.out)) : gb659 ≠ gb648)); have n14_ := Aside0.mk ((by rw [hg]; exact Nat.ne_of_lt (blk_lt (g := gb654) (o := .cells #[.string t649, .string t650, .int .i64 t651] 31 (0, 0)) (by (with_reducible repeat (first | refine blk_drewN ?_ _ | refine blk_drew ?_ | refine blk_alloc ?_ _)); exact BK654.out)) : gb654 ≠ gb659)); have n15_ := Aside0.mk ((by rw [hg]; exact Nat.ne_of_gt (blk_lt (g := gb654) (o := .cells #[.string t649, .string t650, .int .i64 t651] 31 (0, 0)) (by (with_reducible repeat (first | refine blk_drewN ?_ _ | refine blk_drew ?_ | refine blk_alloc ?_ _)); exact BK654.out)) : gb659 ≠ gb654)); clear BK631; clear BK642; clear BK648; clear BK654; clear HB; have BK631 := n0_; have BK642 := n1_; have BK648 := n2_; have BK654 := n3_; have HB := n4_; have BK659 := n5_; have GW659 := n6_; have GE659 := n7_; have NB631_659 := n8_; have NB659_631 := n9_; have NB642_659 := n10_; have NB659_642 := n11_; have NB648_659 := n12_; have NB659_648 := n13_; have NB654_659 := n14_; have NB659_654 := n15_; clear n0_ n1_ n2_ n3_ n4_ n5_ n6_ n7_ n8_ n9_ n10_ n11_ n12_ n13_ n14_ n15_; clear hb hbox hg; have hnb89 := NB659_631.out; have hnc89 := NB631_659.out; have hnb90 := NB659_642.out; have hnc90 := NB642_659.out; have hnb91 := NB659_648.out; have hnc91 := NB648_659.out; have hnb92 := NB659_654.out; have hnc92 := NB654_659.out; have hcz93_0 : w88.cell? ⟨gb659, 0, none⟩ = some (.string (⟨#[]⟩ : ByteArray)) := (blk_cell BK659.out 0).trans rfl; have hcz93_1 : w88.cell? ⟨gb659, 1, none⟩ = some (.string (⟨#[]⟩ : ByteArray)) := (blk_cell BK659.out 1).trans rfl; have hcz93_2 : w88.cell? ⟨gb659, 2, none⟩ = some (.int .i64 0) := (blk_cell BK659.out 2).trans rfl; have hfz93_0 := blk_frozen BK659.out 0; have hfz93_1 := blk_frozen BK659.out 1; have hfz93_2 := blk_frozen BK659.out 2; have hcz94_0 : w88.cell? ⟨gb642, 0, none⟩ = some (.string t637) := (blk_cell BK642.out 0).trans rfl; have hcz94_1 : w88.cell? ⟨gb642, 1, none⟩ = some (.string t638) := (blk_cell BK642.out 1).trans rfl; have hcz94_2 : w88.cell? ⟨gb642, 2, none⟩ = some (.int .i64 t639) := (blk_cell BK642.out 2).trans rfl; have hfz94_0 := blk_frozen BK642.out 0; have hfz94_1 := blk_frozen BK642.out 1; have hfz94_2 := blk_frozen BK642.out 2) | (go_at_call 23; (with_reducible refine (impl_IsValidLog.calls kj47 t637 t638 t639 true _ ?side1 A67.out).mono ?_); (case side1 => exact Glob.below HGL.out (by repeat (first | (with_reducible first | exact HB.out | apply below_alloc | apply pw_below_drewN | apply below_drew1 | refine below_set ?_ GE631.out | refine below_set ?_ GE642.out | refine below_set ?_ GE648.out | refine below_set ?_ GE654.out | refine below_set ?_ GE659.out) | exact HB.out))); rintro e w95 ⟨rfl, hb⟩; have n0_ := Aside0.mk (blk_below (g := gb631) (o := .cells #[.string t629, .string t630] 27 (0, 0)) (by (with_reducible repeat (first | refine blk_drewN ?_ _ | refine blk_drew ?_ | refine blk_alloc ?_ _)); refine blk_far ?_ NB631_659.out _; (with_reducible repeat (first | refine blk_drewN ?_ _ | refine blk_drew ?_ | refine blk_alloc ?_ _)); refine blk_far ?_ NB631_659.out _; (with_reducible repeat (first | refine blk_drewN ?_ _ | refine blk_drew ?_ | refine blk_alloc ?_ _)); refine blk_far ?_ NB631_659.out _; (with_reducible repeat (first | refine blk_drewN ?_ _ | refine blk_drew ?_ | refine blk_alloc ?_ _)); exact BK631.out) hb); have n1_ := Aside0.mk (blk_below (g := gb642) (o := .cells #[.string t637, .string t638, .int .i64 t639] 31 (0, 0)) (by (with_reducible repeat (first | refine blk_drewN ?_ _ | refine blk_drew ?_ | refine blk_alloc ?_ _)); refine blk_far ?_ NB642_659.out _; (with_reducible repeat (first | refine blk_drewN ?_ _ | refine blk_drew ?_ | refine blk_alloc ?_ _)); refine blk_far ?_ NB642_659.out _; (with_reducible repeat (first | refine blk_drewN ?_ _ | refine blk_drew ?_ | refine blk_alloc ?_ _)); refine blk_far ?_ NB642_659.out _; (with_reducible repeat (first | refine blk_drewN ?_ _ | refine blk_drew ?_ | refine blk_alloc ?_ _)); exact BK642.out) hb); have n2_ := Aside0.mk (blk_below (g := gb648) (o := .cells #[.string t643, .string t644, .int .i64 t645] 31 (0, 0)) (by (with_reducible repeat (first | refine blk_drewN ?_ _ | refine blk_drew ?_ | refine blk_alloc ?_ _)); refine blk_far ?_ NB648_659.out _; (with_reducible repeat (first | refine blk_drewN ?_ _ | refine blk_drew ?_ | refine blk_alloc ?_ _)); refine blk_far ?_ NB648_659.out _; (with_reducible repeat (first | refine blk_drewN ?_ _ | refine blk_drew ?_ | refine blk_alloc ?_ _)); refine blk_far ?_ NB648_659.out _; (with_reducible repeat (first | refine blk_drewN ?_ _ | refine blk_drew ?_ | refine blk_alloc ?_ _)); exact BK648.out) hb); have n3_ := Aside0.mk (blk_below (g := gb654) (o := .cells #[.string t649, .string t650, .int .i64 t651] 31 (0, 0)) (by (with_reducible repeat (first | refine blk_drewN ?_ _ | refine blk_drew ?_ | refine blk_alloc ?_ _)); refine blk_far ?_ NB654_659.out _; (with_reducible repeat (first | refine blk_drewN ?_ _ | refine blk_drew ?_ | refine blk_alloc ?_ _)); refine blk_far ?_ NB654_659.out _; (with_reducible repeat (first | refine blk_drewN ?_ _ | refine blk_drew ?_ | refine blk_alloc ?_ _)); refine blk_far ?_ NB654_659.out _; (with_reducible repeat (first | refine blk_drewN ?_ _ | refine blk_drew ?_ | refine blk_alloc ?_ _)); exact BK654.out) hb); have n4_ := Aside0.mk (blk_below (g := gb659) (o := .cells #[.string t655, .string t656, .int .i64 t657] 31 (0, 0)) (by (with_reducible repeat (first | refine blk_drewN ?_ _ | refine blk_drew ?_ | refine blk_alloc ?_ _)); refine blk_put (cs := #[.string t655, .string t656, .int .i64 0]) ?_ 2 _ rfl; (with_reducible repeat (first | refine blk_drewN ?_ _ | refine blk_drew ?_ | refine blk_alloc ?_ _)); refine blk_put (cs := #[.string t655, .string (⟨#[]⟩ : ByteArray), .int .i64 0]) ?_ 1 _ rfl; (with_reducible repeat (first | refine blk_drewN ?_ _ | refine blk_drew ?_ | refine blk_alloc ?_ _)); refine blk_put (cs := #[.string (⟨#[]⟩ : ByteArray), .string (⟨#[]⟩ : ByteArray), .int .i64 0]) ?_ 0 _ rfl; (with_reducible repeat (first | refine blk_drewN ?_ _ | refine blk_drew ?_ | refine blk_alloc ?_ _)); exact BK659.out) hb); have n5_ := Aside0.mk (below_step (by repeat (first | (with_reducible first | exact HB.out | apply below_alloc | apply pw_below_drewN | apply below_drew1 | refine below_set ?_ GE631.out | refine below_set ?_ GE642.out | refine below_set ?_ GE648.out | refine below_set ?_ GE654.out | refine below_set ?_ GE659.out) | exact HB.out)) hb); clear BK631; clear BK642; clear BK648; clear BK654; clear BK659; clear HB; have BK631 := n0_; have BK642 := n1_; have BK648 := n2_; have BK654 := n3_; have BK659 := n4_; have HB := n5_; clear n0_ n1_ n2_ n3_ n4_ n5_; (try clear hb); (try clear hb2); (try clear hk); (try clear hi)))
                          go_ret
                          exact ⟨by first | rfl | (simp [errW_none, errW_some] <;> rfl) | (simp [*, errW_none, errW_some] <;> rfl), by repeat (first | (with_reducible first | exact HB.out | apply below_alloc | apply pw_below_drewN | apply below_drew1 | refine below_set ?_ GE631.out | refine below_set ?_ GE642.out | refine below_set ?_ GE648.out | refine below_set ?_ GE654.out | refine below_set ?_ GE659.out) | exact HB.out)⟩
                      · replace c68 := Bool.eq_false_iff.mpr c68
                        subst c68
                        have H1 : (some false) = some r := by rw [if_neg (show ¬ (false = true) by decide)] at H; exact H
                        clear H
                        have H := H1
                        clear H1
                        exact absurd (Option.some.inj H) (by rw [HR_.out]; decide)
                    · rw [if_neg c66] at H
                      have c66b0 : (t655.toList == t637.toList && (t656.toList == t638.toList && (t657 == t639))) = false := by simpa using c66
                      (try (have c66b1 : decide (t655.toList = t637.toList && (t656.toList == t638.toList && (t657 == t639))) = false := by simpa using c66))
                      (try (have c66b2 : (t655.toList == t637.toList && (t656.toList == t638.toList && (t657 == t639))) = false := by simpa using c66))
                      (try (have c66b3 : ¬ (t655.toList = t637.toList && (t656.toList == t638.toList && (t657 == t639))) := by simpa using c66))
                      clear c66
                      exact absurd (Option.some.inj H) (by rw [HR_.out]; decide)
                  · replace c65 := Bool.eq_false_iff.mpr c65
                    subst c65
                    have H1 : (some false) = some r := by rw [if_neg (show ¬ (false = true) by decide)] at H; exact H
                    clear H
                    have H := H1
                    clear H1
                    exact absurd (Option.some.inj H) (by rw [HR_.out]; decide)
                · replace c64 := Bool.eq_false_iff.mpr c64
                  subst c64
                  have H1 : (some true) = some r := by rw [if_neg (show ¬ (false = true) by decide)] at H; exact H
                  clear H
                  have H := H1
                  clear H1
                  obtain rfl := Option.some.inj H
                  have hnb132 := NB642_631.out
                  have hnc132 := NB631_642.out
                  have hnb133 := NB642_648.out
                  have hnc133 := NB648_642.out
                  have hnb134 := NB642_654.out
                  have hnc134 := NB654_642.out
                  have hcz135_0 : wc.cell? ⟨gb642, 0, none⟩ = some (.string t637) := (blk_cell BK642.out 0).trans rfl
                  have hcz135_1 : wc.cell? ⟨gb642, 1, none⟩ = some (.string t638) := (blk_cell BK642.out 1).trans rfl
                  have hcz135_2 : wc.cell? ⟨gb642, 2, none⟩ = some (.int .i64 t639) := (blk_cell BK642.out 2).trans rfl
                  have hfz135_0 := blk_frozen BK642.out 0
                  have hfz135_1 := blk_frozen BK642.out 1
                  have hfz135_2 := blk_frozen BK642.out 2
                  go_wp2_with (first | ((with_reducible refine gate_callee (f := 27) rfl ?_); refine goesL_ (some 105) rfl rfl Tryd.func27 (by kernel_rfl) rfl #[.agg #[.string t637, .string t638, .int .i64 t639]] rfl (by (try simp only [List.map_toArray, List.map_cons, List.map_nil]); first | done | rfl | (simp only [List.length_drop, List.length_take]; rfl)) ?_; (with_reducible refine (impl_SyncLog.calls kj47 t637 t638 t639 t655 t656 t657 t658 _ ?side1 A63.out).mono ?_); (case side1 => exact Glob.below HGL.out (by repeat (first | (with_reducible first | exact HB.out | apply below_alloc | apply pw_below_drewN | apply below_drew1 | refine below_set ?_ GE631.out | refine below_set ?_ GE642.out | refine below_set ?_ GE648.out | refine below_set ?_ GE654.out) | exact HB.out))); rintro e w136 ⟨rfl, hb⟩; refine ⟨_, rfl, ?_⟩; have n0_ := Aside0.mk (blk_below (g := gb631) (o := .cells #[.string t629, .string t630] 27 (0, 0)) (by (with_reducible repeat (first | refine blk_drewN ?_ _ | refine blk_drew ?_ | refine blk_alloc ?_ _)); exact BK631.out) hb); have n1_ := Aside0.mk (blk_below (g := gb642) (o := .cells #[.string t637, .string t638, .int .i64 t639] 31 (0, 0)) (by (with_reducible repeat (first | refine blk_drewN ?_ _ | refine blk_drew ?_ | refine blk_alloc ?_ _)); exact BK642.out) hb); have n2_ := Aside0.mk (blk_below (g := gb648) (o := .cells #[.string t643, .string t644, .int .i64 t645] 31 (0, 0)) (by (with_reducible repeat (first | refine blk_drewN ?_ _ | refine blk_drew ?_ | refine blk_alloc ?_ _)); exact BK648.out) hb); have n3_ := Aside0.mk (blk_below (g := gb654) (o := .cells #[.string t649, .string t650, .int .i64 t651] 31 (0, 0)) (by (with_reducible repeat (first | refine blk_drewN ?_ _ | refine blk_drew ?_ | refine blk_alloc ?_ _)); exact BK654.out) hb); have n4_ := Aside0.mk (below_step (by repeat (first | (with_reducible first | exact HB.out | apply below_alloc | apply pw_below_drewN | apply below_drew1 | refine below_set ?_ GE631.out | refine below_set ?_ GE642.out | refine below_set ?_ GE648.out | refine below_set ?_ GE654.out) | exact HB.out)) hb); clear BK631; clear BK642; clear BK648; clear BK654; clear HB; have BK631 := n0_; have BK642 := n1_; have BK648 := n2_; have BK654 := n3_; have HB := n4_; clear n0_ n1_ n2_ n3_ n4_; (try clear hb); (try clear hb2); (try clear hk); (try clear hi)) | ((with_reducible refine gate_dst (N := 19) rfl ?_); refine box_event ?hg (N := 19) ?hd (cs := #[.string (⟨#[]⟩ : ByteArray), .string (⟨#[]⟩ : ByteArray), .int .i64 0]) (t := 31) ?hr ?_; (case hd => rfl); (case hg => rfl); (case hr => first | (go_simp; done) | (go_simp; rfl)); intro gb659 hg w137 hbox hb; have n0_ := Aside0.mk (blk_below (g := gb631) (o := .cells #[.string t629, .string t630] 27 (0, 0)) (by (with_reducible repeat (first | refine blk_drewN ?_ _ | refine blk_drew ?_ | refine blk_alloc ?_ _)); exact BK631.out) hb); have n1_ := Aside0.mk (blk_below (g := gb642) (o := .cells #[.string t637, .string t638, .int .i64 t639] 31 (0, 0)) (by (with_reducible repeat (first | refine blk_drewN ?_ _ | refine blk_drew ?_ | refine blk_alloc ?_ _)); exact BK642.out) hb); have n2_ := Aside0.mk (blk_below (g := gb648) (o := .cells #[.string t643, .string t644, .int .i64 t645] 31 (0, 0)) (by (with_reducible repeat (first | refine blk_drewN ?_ _ | refine blk_drew ?_ | refine blk_alloc ?_ _)); exact BK648.out) hb); have n3_ := Aside0.mk (blk_below (g := gb654) (o := .cells #[.string t649, .string t650, .int .i64 t651] 31 (0, 0)) (by (with_reducible repeat (first | refine blk_drewN ?_ _ | refine blk_drew ?_ | refine blk_alloc ?_ _)); exact BK654.out) hb); have n4_ := Aside0.mk (below_step (by repeat (first | (with_reducible first | exact HB.out | apply below_alloc | apply pw_below_drewN | apply below_drew1 | refine below_set ?_ GE631.out | refine below_set ?_ GE642.out | refine below_set ?_ GE648.out | refine below_set ?_ GE654.out) | exact HB.out)) hb); have n5_ := Aside0.mk (hbox); have n6_ := Aside0.mk ((by rw [hg]; exact (below_size (by repeat (first | (with_reducible first | exact HB.out | apply below_alloc | apply pw_below_drewN | apply below_drew1 | refine below_set ?_ GE631.out | refine below_set ?_ GE642.out | refine below_set ?_ GE648.out | refine below_set ?_ GE654.out) | exact HB.out))) : w.heap.size ≤ gb659)); have n7_ := Aside0.mk ((by rw [hg]; exact (below_size (by repeat (first | (with_reducible first | exact HB.out | apply below_alloc | apply pw_below_drewN | apply below_drew1 | refine below_set ?_ GE631.out | refine below_set ?_ GE642.out | refine below_set ?_ GE648.out | refine below_set ?_ GE654.out) | exact HB.out))) : w.heap.size ≤ gb659)); have n8_ := Aside0.mk ((by rw [hg]; exact Nat.ne_of_lt (blk_lt (g := gb631) (o := .cells #[.string t629, .string t630] 27 (0, 0)) (by (with_reducible repeat (first | refine blk_drewN ?_ _ | refine blk_drew ?_ | refine blk_alloc ?_ _)); exact BK631.out)) : gb631 ≠ gb659)); have n9_ := Aside0.mk ((by rw [hg]; exact Nat.ne_of_gt (blk_lt (g := gb631) (o := .cells #[.string t629, .string t630] 27 (0, 0)) (by (with_reducible repeat (first | refine blk_drewN ?_ _ | refine blk_drew ?_ | refine blk_alloc ?_ _)); exact BK631.out)) : gb659 ≠ gb631)); have n10_ := Aside0.mk ((by rw [hg]; exact Nat.ne_of_lt (blk_lt (g := gb642) (o := .cells #[.string t637, .string t638, .int .i64 t639] 31 (0, 0)) (by (with_reducible repeat (first | refine blk_drewN ?_ _ | refine blk_drew ?_ | refine blk_alloc ?_ _)); exact BK642.out)) : gb642 ≠ gb659)); have n11_ := Aside0.mk ((by rw [hg]; exact Nat.ne_of_gt (blk_lt (g := gb642) (o := .cells #[.string t637, .string t638, .int .i64 t639] 31 (0, 0)) (by (with_reducible repeat (first | refine blk_drewN ?_ _ | refine blk_drew ?_ | refine blk_alloc ?_ _)); exact BK642.out)) : gb659 ≠ gb642)); have n12_ := Aside0.mk ((by rw [hg]; exact Nat.ne_of_lt (blk_lt (g := gb648) (o := .cells #[.string t643, .string t644, .int .i64 t645] 31 (0, 0)) (by (with_reducible repeat (first | refine blk_drewN ?_ _ | refine blk_drew ?_ | refine blk_alloc ?_ _)); exact BK648.out)) : gb648 ≠ gb659)); have n13_ := Aside0.mk ((by rw [hg]; exact Nat.ne_of_gt (blk_lt (g := gb648) (o := .cells #[.string t643, .string t644, .int .i64 t645] 31 (0, 0)) (by (with_reducible repeat (first | refine blk_drewN ?_ _ | refine blk_drew ?_ | refine blk_alloc ?_ _)); exact BK648.out)) : gb659 ≠ gb648)); have n14_ := Aside0.mk ((by rw [hg]; exact Nat.ne_of_lt (blk_lt (g := gb654) (o := .cells #[.string t649, .string t650, .int .i64 t651] 31 (0, 0)) (by (with_reducible repeat (first | refine blk_drewN ?_ _ | refine blk_drew ?_ | refine blk_alloc ?_ _)); exact BK654.out)) : gb654 ≠ gb659)); have n15_ := Aside0.mk ((by rw [hg]; exact Nat.ne_of_gt (blk_lt (g := gb654) (o := .cells #[.string t649, .string t650, .int .i64 t651] 31 (0, 0)) (by (with_reducible repeat (first | refine blk_drewN ?_ _ | refine blk_drew ?_ | refine blk_alloc ?_ _)); exact BK654.out)) : gb659 ≠ gb654)); clear BK631; clear BK642; clear BK648; clear BK654; clear HB; have BK631 := n0_; have BK642 := n1_; have BK648 := n2_; have BK654 := n3_; have HB := n4_; have BK659 := n5_; have GW659 := n6_; have GE659 := n7_; have NB631_659 := n8_; have NB659_631 := n9_; have NB642_659 := n10_; have NB659_642 := n11_; have NB648_659 := n12_; have NB659_648 := n13_; have NB654_659 := n14_; have NB659_654 := n15_; clear n0_ n1_ n2_ n3_ n4_ n5_ n6_ n7_ n8_ n9_ n10_ n11_ n12_ n13_ n14_ n15_; clear hb hbox hg; have hnb138 := NB659_631.out; have hnc138 := NB631_659.out; have hnb139 := NB659_642.out; have hnc139 := NB642_659.out; have hnb140 := NB659_648.out; have hnc140 := NB648_659.out; have hnb141 := NB659_654.out; have hnc141 := NB654_659.out; have hcz142_0 : w137.cell? ⟨gb659, 0, none⟩ = some (.string (⟨#[]⟩ : ByteArray)) := (blk_cell BK659.out 0).trans rfl; have hcz142_1 : w137.cell? ⟨gb659, 1, none⟩ = some (.string (⟨#[]⟩ : ByteArray)) := (blk_cell BK659.out 1).trans rfl; have hcz142_2 : w137.cell? ⟨gb659, 2, none⟩ = some (.int .i64 0) := (blk_cell BK659.out 2).trans rfl; have hfz142_0 := blk_frozen BK659.out 0; have hfz142_1 := blk_frozen BK659.out 1; have hfz142_2 := blk_frozen BK659.out 2))
                  go_ret
                  exact ⟨by first | rfl | (simp [errW_none, errW_some] <;> rfl) | (simp [*, errW_none, errW_some] <;> rfl), by repeat (first | (with_reducible first | exact HB.out | apply below_alloc | apply pw_below_drewN | apply below_drew1 | refine below_set ?_ GE631.out | refine below_set ?_ GE642.out | refine below_set ?_ GE648.out | refine below_set ?_ GE654.out | refine below_set ?_ GE659.out) | exact HB.out)⟩

end Go.Proofs.YtkpieljmhgfofaaDoor.X


namespace Go.Proofs.YtkpieljmhgfofaaDoorZ
open Go.ChangeShapes Go.WideShapes Go.ChangeAt Go.RowKit
open Go.Proofs.YtkpieljmhgfofaaDoorW.PrintWords
set_option linter.unusedVariables false
set_option linter.unusedSimpArgs false
section
variable {P : Program}

/-- A reading of type t is a value of kind d, and the value fits. -/
def Opens (P : Program) {α : Type} (d : Kd α) (t : TypeId) (fits : α → Prop) : Prop :=
  ∀ {H : Type} {enc : TypeId × Value → H} {w : World} {base : Nat} {spare : Nat → Bool} {held : Bool} {fuel : Nat} {cs : List Value} {x : DataW H × List MemPlace},
    DataW.trod enc P w base spare held fuel t cs = some x → (∀ n ∈ x.1.weights P t, n ≤ reachBytes) → ∃ v, d.K w v cs ∧ fits v

theorem opens_int {k : IntKind} {t : TypeId} (ht : P.underlying t = some (.int k)) : Opens P (Kd.int k) t (fun n => (Lit.int k n).wf = true) := by
  intro H enc w base spare held fuel cs x h _
  obtain ⟨n, rfl, _, hw⟩ := DataW.trod_int ht h
  exact ⟨n, rfl, hw⟩
theorem weightsAll_mem {H : Type} {e : TypeId} {d : DataW H} {n : Nat} : ∀ {l : List (DataW H)}, d ∈ l → n ∈ d.weights P e → n ∈ DataW.weightsAll P e l
  | [], h, _ => by cases h
  | x :: r, h, hn => by
    simp only [DataW.weightsAll, List.mem_append]
    rcases List.mem_cons.1 h with rfl | h
    · exact .inl hn
    · exact .inr (weightsAll_mem h hn)
theorem weightsEach_mem {H : Type} {n : Nat} : ∀ {ts : List TypeId} {l : List (DataW H)} {i : Nat} {t : TypeId} {d : DataW H}, ts[i]? = some t → l[i]? = some d → n ∈ d.weights P t → n ∈ DataW.weightsEach P ts l
  | [], l, i, t, d, h, _, _ => by simp at h
  | t :: ts, [], i, _, _, _, h, _ => by simp at h
  | t :: ts, d :: l, 0, _, _, h, k, hn => by
    simp at h k; subst h k
    simp only [DataW.weightsEach, List.mem_append]; exact .inl hn
  | t :: ts, d :: l, i + 1, _, _, h, k, hn => by
    simp at h k
    simp only [DataW.weightsEach, List.mem_append]; exact .inr (weightsEach_mem h k hn)
theorem opens_slice {α : Type} (z : α) {d : Kd α} {t e : TypeId} {fits : α → Prop} (ht : P.underlying t = some (.slice e)) (hsz : P.cellsOf e = d.sz) (he : Opens P d e fits) {B : Nat} (hB : P.bytesOf e = B) :
    Opens P (Kd.slice e d) t (fun l => l.length * B ≤ 140737488351232 ∧ l.length ≤ 9223372036854775807 ∧ ∀ x ∈ l, fits x) := by
  intro H enc w base spare held fuel cs x h hw
  rcases Deep.open_slice ht h with ⟨rfl, rfl⟩ | ⟨a, len, cap, m, n, D, Pl, rfl, hb, hl, hm, hmm, rfl, hc⟩
  · exact ⟨[], ⟨none, 0, rfl, Nat.le_refl _, Kd.C_nil d w⟩, by simp, by simp, fun x hx => by cases hx⟩
  · have hlm : len ≤ m := by rw [hmm]; split <;> omega
    have hbnd : len * B ≤ 140737488351232 := by
      have := hw ((((List.range len).map D).length + ((List.range (m - len)).map fun j => D (len + j)).length) * P.bytesOf e) (by simp [DataW.weights, ht])
      simp only [List.length_map, List.length_range, hB] at this
      have h2 : len * B ≤ (len + (m - len)) * B := Nat.mul_le_mul_right _ (by omega)
      exact Nat.le_trans h2 this
    have hel : ∀ i, i < len → ∃ v : α, (∃ c, c.length = d.sz ∧ d.K w v c ∧ ∀ j u, c[j]? = some u → w.cell? (a.add (i * d.sz + j)) = some u) ∧ fits v := by
      intro i hi
      obtain ⟨c, h1, h2⟩ := hc i (by omega)
      obtain ⟨v, hv, hf⟩ := he h2 (fun k hk => hw k (by
        simp only [DataW.weights, ht, List.mem_cons, List.mem_append]
        exact .inr (.inl (weightsAll_mem (d := D i) (List.mem_map.2 ⟨i, List.mem_range.2 hi, rfl⟩) hk))))
      rw [hsz] at h1
      obtain ⟨_, hlen, hcell⟩ := World.cells?_some h1
      refine ⟨v, ⟨c, hlen, hv, fun j u hj => ?_⟩, hf⟩
      have hjl : j < d.sz := by rw [← hlen]; exact (List.getElem?_eq_some_iff.1 hj).1
      rw [← Deep.add_add, hcell j hjl]
      exact hj
    haveI : Inhabited α := ⟨z⟩
    obtain ⟨f, hf⟩ := Deep.choose_lt hel
    refine ⟨(List.range len).map f, ⟨some a, cap, by simp, by simpa using hl, ⟨by simp, ?_, fun _ => ⟨a, rfl, ?_⟩⟩⟩, by simpa using hbnd, by simp; unfold maxLen at hm; omega, ?_⟩
    · simp; unfold maxLen at hm; omega
    · intro j p hj
      have hjl : j < len := by
        have := (List.getElem?_eq_some_iff.1 hj).1
        simpa using this
      rw [List.getElem?_map, List.getElem?_range hjl] at hj
      simp only [Option.map_some, Option.some.injEq] at hj
      subst hj
      exact (hf j hjl).1
    · intro x hx
      obtain ⟨j, hj, rfl⟩ := List.mem_map.1 hx
      exact (hf j (List.mem_range.1 hj)).2

/-- A parameter's weights are among all. -/
theorem weights_param {H : Type} {ts : List TypeId} {ds : List (DataW H)} {j : Nat} {t : TypeId} {d : DataW H} (hsz : (DataW.weightsEach P ts ds).all (· ≤ reachBytes) = true) (ht : ts[j]? = some t) (hd : ds[j]? = some d) : ∀ n ∈ d.weights P t, n ≤ reachBytes := fun n hn => by
  have := List.all_eq_true.1 hsz n (weightsEach_mem ht hd hn)
  simpa using this
end
end Go.Proofs.YtkpieljmhgfofaaDoorZ


-- written by a program of this session (wip/ext.py): what the law says, without Go and memory.
namespace Go.Proofs.YtkpieljmhgfofaaDoor.X
open Go.RowKit Go.Proofs.YtkpieljmhgfofaaDoorW.PrintWords Go.Proofs.YtkpieljmhgfofaaDoorW.PrintLast Go.Proofs.YtkpieljmhgfofaaDoorW.PrintMore
open Go.Proofs.YtkpieljmhgfofaaDoorZ
namespace OFnLogLines
def Pure : Prop := ∀ (l0 : List Int), (l0.length * 1 ≤ 140737488351232 ∧ l0.length ≤ 9223372036854775807 ∧ ∀ y2 ∈ l0, (Lit.int .u8 y2).wf = true) → ∃ k, laws_FnLogLines.f k l0 = some true
end OFnLogLines
end Go.Proofs.YtkpieljmhgfofaaDoor.X


namespace Go.Proofs.YtkpieljmhgfofaaDoorL
open Go.RowKit Go.Proofs.YtkpieljmhgfofaaDoorW.PrintWords
set_option linter.unusedVariables false
set_option linter.unusedSimpArgs false

theorem ev_eq {α : Type} {g : Nat → Option α} {r : α} (h : ∀ k, g k = some r) : Ev g r := ⟨0, fun k _ => h k⟩
theorem ev_rounds {α : Type} {g : Nat → Option α} {r : α} (h : Ev g r) : ∃ k, g k = some r := h.rounds
theorem wrap_id {x : Int} (h0 : -9223372036854775808 ≤ x) (h1 : x ≤ 9223372036854775807) : wrap64 x = x := by unfold wrap64; omega
theorem wrap_succ {n : Nat} (h : n < 9223372036854775807) : wrap64 ((n : Int) + 1) = ((n + 1 : Nat) : Int) := by rw [wrap_id (by omega) (by omega)]; rfl
theorem rd_at (l : List Int) (n : Nat) (h : n < l.length) : rd l (n : Int) = l[n] := by simp [rd, List.getD_eq_getElem?_getD, List.getElem?_eq_getElem h]
end Go.Proofs.YtkpieljmhgfofaaDoorL


namespace Go.Proofs.YtkpieljmhgfofaaDoorL
open Go.RowKit Go.Proofs.YtkpieljmhgfofaaDoorW.PrintWords
set_option linter.unusedVariables false
set_option linter.unusedSimpArgs false
/-- A text's bytes. -/
def B (s : ByteArray) : List UInt8 := s.data.toList
theorem B_length (s : ByteArray) : (B s).length = s.size := by simp [B]
theorem bt_B (s : ByteArray) (n : Nat) (h : n < (B s).length) : bt s n = ((B s)[n].toNat : Int) := by
  have h2 : n < s.size := by rw [B_length] at h; exact h
  unfold bt
  rw [Int.toNat_natCast, dif_pos h2]
  rfl
theorem B_toList (s : ByteArray) : s.toList = B s := by
  unfold B
  have key : ∀ (d i : Nat) (r : List UInt8), i + d = s.size → ByteArray.toList.loop s i r = r.reverse ++ (s.data.toList.drop i) := by
    intro d
    induction d with
    | zero =>
      intro i r h
      unfold ByteArray.toList.loop
      rw [if_neg (by omega), List.drop_of_length_le (by simp; omega)]; simp
    | succ d ih =>
      intro i r h
      unfold ByteArray.toList.loop
      have hi : i < s.size := by omega
      rw [if_pos hi, ih (i + 1) _ (by omega), List.drop_eq_getElem_cons (show i < s.data.toList.length by simp; omega)]
      have e : s.get! i = s.data.toList[i]'(by simp; omega) := by
        show s.data[i]! = _
        rw [getElem!_pos s.data i hi]; simp
      rw [e, List.reverse_cons]
      simp
  have := key s.size 0 [] (by omega)
  simpa [ByteArray.toList] using this
theorem B_inj {s t : ByteArray} (h : B s = B t) : s = t := by
  have : s.data = t.data := Array.toList_inj.1 h
  cases s; cases t; simp_all
theorem containsAny_any (c : List UInt8) : ∀ l : List UInt8, Lib.containsAny l c = l.any fun b => c.contains b
  | [] => by simp [Lib.containsAny, Lib.indexAny]
  | b :: l => by
    have ih := containsAny_any c l
    have hg := Lib.indexAny_ge c l
    unfold Lib.containsAny at ih ⊢
    rw [List.any_cons, ← ih]
    have hu : Lib.indexAny (b :: l) c = if c.contains b then 0 else if Lib.indexAny l c == -1 then -1 else Lib.indexAny l c + 1 := by rw [Lib.indexAny]
    rw [hu]
    by_cases h : c.contains b = true
    · rw [if_pos h, h]; simp
    · have h2 : c.contains b = false := by simpa using h
      rw [if_neg h, h2, Bool.false_or]
      by_cases e : Lib.indexAny l c = -1
      · rw [e]; simp
      · rw [if_neg (by simpa using e)]
        by_cases z : 0 ≤ Lib.indexAny l c
        · rw [decide_eq_true z, decide_eq_true (by omega)]
        · omega
end Go.Proofs.YtkpieljmhgfofaaDoorL


namespace Go.Proofs.YtkpieljmhgfofaaDoor.X
open Go.RowKit Go.Proofs.YtkpieljmhgfofaaDoorW.PrintWords Go.Proofs.YtkpieljmhgfofaaDoorL
set_option linter.unusedVariables false
set_option linter.unusedSimpArgs false
theorem within_eq' (a b c : Int) : impl_within.f a b c = some (decide (b ≤ a) && decide (a ≤ c)) := by
  unfold impl_within.f
  by_cases h : a ≥ b
  · rw [if_pos h]; simp [show b ≤ a from h]
  · rw [if_neg h]; simp [show ¬ b ≤ a from h]
theorem l1In_eq' (a b c : Int) : spec_l1In.f a b c = some (decide (b ≤ a) && decide (a ≤ c)) := by
  unfold spec_l1In.f
  by_cases h : a ≥ b
  · rw [if_pos h]; simp [show b ≤ a from h]
  · rw [if_neg h]; simp [show ¬ b ≤ a from h]
/-- Bytes that can be printed, none of some. -/
def okP (bad : List UInt8) (b : UInt8) : Bool := decide (32 ≤ b.toNat) && decide (b.toNat ≤ 126) && !bad.contains b
def rngP (b : UInt8) : Bool := decide (32 ≤ b.toNat) && decide (b.toNat ≤ 126)
theorem implPrint_ev (s c : ByteArray) (hs : s.size < 4294967281) (hc : asciiB c = true) : Ev (fun k => impl_isPrintable.f k s c) ((B s).all (okP (B c))) := by
  have hlen := B_length s
  have hB : ∀ x : ByteArray, x.data.toList = B x := fun _ => rfl
  have key : ∀ (d n : Nat), n + d = s.size → ((B s).take n).all rngP = true → Ev (fun k => impl_isPrintable.l0 k s c (s.size : Int) n) ((B s).all rngP && !Lib.containsAny (B s) (B c)) := by
    intro d
    induction d with
    | zero =>
      intro n hn hr
      obtain rfl : n = s.size := by omega
      rw [List.take_of_length_le (by omega)] at hr
      refine Ev.step (f := fun _ => some _) (fun k => ?_) (Ev.now _)
      simp only [impl_isPrintable.l0]
      have ha : asciiB s = true := by
        unfold asciiB
        simp only [Bool.and_eq_true, decide_eq_true_eq, List.all_eq_true]
        refine ⟨hs, fun b hb => ?_⟩
        have := List.all_eq_true.1 hr b hb
        simp [rngP] at this; omega
      rw [if_neg (by omega)]
      unfold strings_ContainsAny.f
      rw [if_pos ⟨ha, hc⟩, hr, hB, hB]
      simp
    | succ d ih =>
      intro n hn hr
      have hl : n < (B s).length := by omega
      have hb := bt_B s n hl
      by_cases e : rngP (B s)[n] = true
      · refine Ev.step (f := fun k => impl_isPrintable.l0 k s c (s.size : Int) ((n + 1 : Nat) : Int)) (fun k => ?_) (ih (n + 1) (by omega) (by rw [List.take_succ_eq_append_getElem hl, List.all_append, hr]; simp [e]))
        simp only [impl_isPrintable.l0]
        simp [rngP] at e
        rw [if_pos (by omega), if_pos (by omega), if_pos (by omega), hb, if_neg (by omega), if_neg (by omega), wrap_succ (by omega)]
      · have hf : (B s).all rngP = false := by
          rw [List.all_eq_false]; exact ⟨_, List.getElem_mem hl, by simpa using e⟩
        rw [hf, Bool.false_and]
        refine Ev.step (f := fun _ => some false) (fun k => ?_) (Ev.now _)
        simp only [impl_isPrintable.l0]
        simp [rngP] at e
        rw [if_pos (by omega), if_pos (by omega), if_pos (by omega), hb]
        by_cases z : ((B s)[n].toNat : Int) < 32
        · rw [if_pos z]
        · rw [if_neg z, if_pos (by have := e (by omega); omega)]
  have e : (B s).all (okP (B c)) = ((B s).all rngP && !Lib.containsAny (B s) (B c)) := by
    rw [containsAny_any]
    generalize B s = l
    induction l with
    | nil => rfl
    | cons b l ih =>
      simp only [List.all_cons, List.any_cons, ih, okP, rngP]
      cases decide (32 ≤ b.toNat) <;> cases decide (b.toNat ≤ 126) <;> cases (B c).contains b <;> cases l.all rngP <;> simp
  rw [e]
  exact Ev.congr (fun k => rfl) (key s.size 0 (by omega) (by simp))
theorem specPlain_ev (s : ByteArray) (m : Int) (hs : s.size < 4294967281) : Ev (fun k => spec_l27Plain.f k s m) ((B s).all (okP [35]) && decide ((s.size : Int) ≤ m)) := by
  have hlen := B_length s
  have key : ∀ (d n : Nat), n + d = s.size → Ev (fun k => spec_l27Plain.l0 k s m n) (((B s).drop n).all (okP [35]) && decide ((s.size : Int) ≤ m)) := by
    intro d
    induction d with
    | zero =>
      intro n hn
      obtain rfl : n = s.size := by omega
      refine Ev.step (f := fun _ => some _) (fun k => ?_) (Ev.now _)
      simp only [spec_l27Plain.l0]
      rw [if_neg (by omega), List.drop_of_length_le (by omega)]
      simp
    | succ d ih =>
      intro n hn
      have hl : n < (B s).length := by omega
      have hb := bt_B s n hl
      rw [List.drop_eq_getElem_cons hl, List.all_cons]
      have h255 := bt_range s n
      have e35 : (([35] : List UInt8).contains (B s)[n]) = decide ((B s)[n].toNat = 35) := by
        by_cases z : (B s)[n] = 35
        · simp [z]
        · have : ¬ (B s)[n].toNat = 35 := fun y => z (UInt8.toNat_inj.1 (by simpa using y))
          simp [z, this]
      by_cases e : okP [35] (B s)[n] = true
      · rw [e, Bool.true_and]
        refine Ev.step (f := fun k => spec_l27Plain.l0 k s m ((n + 1 : Nat) : Int)) (fun k => ?_) (ih (n + 1) (by omega))
        simp only [spec_l27Plain.l0, l1In_eq']
        unfold okP at e
        rw [e35] at e
        simp only [Bool.and_eq_true, decide_eq_true_eq, Bool.not_eq_true', decide_eq_false_iff_not] at e
        rw [if_pos (by omega), if_pos (by omega), wrap_id (x := bt s n) (by omega) (by omega), hb, decide_eq_true (show (32 : Int) ≤ ((B s)[n].toNat : Int) by omega), decide_eq_true (show ((B s)[n].toNat : Int) ≤ 126 by omega)]
        simp only [Option.bind_some, Bool.and_self, if_true]
        rw [if_neg (by omega), wrap_succ (by omega)]
      · have e2 : okP [35] (B s)[n] = false := by simpa using e
        rw [e2, Bool.false_and, Bool.false_and]
        refine Ev.step (f := fun _ => some false) (fun k => ?_) (Ev.now _)
        simp only [spec_l27Plain.l0, l1In_eq']
        unfold okP at e2
        rw [e35] at e2
        rw [if_pos (by omega), if_pos (by omega), wrap_id (x := bt s n) (by omega) (by omega), hb]
        by_cases c1 : 32 ≤ (B s)[n].toNat
        · by_cases c2 : (B s)[n].toNat ≤ 126
          · have c3 : (B s)[n].toNat = 35 := by simpa [c1, c2] using e2
            rw [decide_eq_true (show (32 : Int) ≤ ((B s)[n].toNat : Int) by omega), decide_eq_true (show ((B s)[n].toNat : Int) ≤ 126 by omega)]
            simp only [Option.bind_some, Bool.and_self, if_true]
            rw [if_pos (by omega)]
          · rw [decide_eq_false (show ¬ ((B s)[n].toNat : Int) ≤ 126 by omega)]; simp
        · rw [decide_eq_false (show ¬ (32 : Int) ≤ ((B s)[n].toNat : Int) by omega)]; simp
  exact Ev.congr (f := fun k => spec_l27Plain.l0 k s m ((0 : Nat) : Int)) (fun k => rfl) (by simpa using key s.size 0 (by omega))
theorem specStands_ev (s : ByteArray) (c : UInt8) (hs : s.size < 4294967281) : Ev (fun k => spec_l1Stands.f k s (c.toNat : Int)) ((B s).any fun b => b == c) := by
  have hlen := B_length s
  have key : ∀ (d n : Nat), n + d = s.size → Ev (fun k => spec_l1Stands.l0 k s (c.toNat : Int) n) (((B s).drop n).any fun b => b == c) := by
    intro d
    induction d with
    | zero =>
      intro n hn
      obtain rfl : n = s.size := by omega
      refine Ev.step (f := fun _ => some _) (fun k => ?_) (Ev.now _)
      simp only [spec_l1Stands.l0]
      rw [if_neg (by omega), List.drop_of_length_le (by omega)]
      simp
    | succ d ih =>
      intro n hn
      have hl : n < (B s).length := by omega
      have hb := bt_B s n hl
      rw [List.drop_eq_getElem_cons hl, List.any_cons]
      by_cases e : (B s)[n] = c
      · have : ((B s)[n] == c) = true := by simpa using e
        rw [this, Bool.true_or]
        refine Ev.step (f := fun _ => some true) (fun k => ?_) (Ev.now _)
        simp only [spec_l1Stands.l0]
        rw [if_pos (by omega), if_pos (by omega), hb, if_pos (by rw [e])]
      · have : ((B s)[n] == c) = false := by simpa using e
        rw [this, Bool.false_or]
        refine Ev.step (f := fun k => spec_l1Stands.l0 k s (c.toNat : Int) ((n + 1 : Nat) : Int)) (fun k => ?_) (ih (n + 1) (by omega))
        simp only [spec_l1Stands.l0]
        rw [if_pos (by omega), if_pos (by omega), hb, if_neg (fun z => e (UInt8.toNat_inj.1 (by omega))), wrap_succ (by omega)]
  exact Ev.congr (f := fun k => spec_l1Stands.l0 k s (c.toNat : Int) ((0 : Nat) : Int)) (fun k => rfl) (by simpa using key s.size 0 (by omega))
/-- Is it a record? -/
def recOk (c r : ByteArray) : Bool := decide (1 ≤ c.size) && decide (c.size ≤ 160) && (B c).all (okP [35, 64]) && decide (r.size ≤ 200) && (B r).all (okP [35])
def cmdOk (c : ByteArray) : Bool := decide (1 ≤ c.size) && decide (c.size ≤ 160) && (B c).all (okP [35, 64])
theorem implCmd_ev (c : ByteArray) : Ev (fun k => impl_isCommand.f k c) (cmdOk c) := by
  unfold impl_isCommand.f cmdOk
  simp only [within_eq', Option.bind_some]
  by_cases h : 1 ≤ c.size ∧ c.size ≤ 160
  · have h1 : (decide ((1 : Int) ≤ (c.size : Int)) && decide ((c.size : Int) ≤ 160)) = true := by simp; omega
    simp only [h1, if_true, h.1, h.2, decide_true, Bool.true_and]
    exact Ev.bind (implPrint_ev c _ (by omega) (by decide)) (Ev.now _)
  · have h1 : (decide ((1 : Int) ≤ (c.size : Int)) && decide ((c.size : Int) ≤ 160)) = false := by
      rw [Bool.and_eq_false_iff]; simp only [decide_eq_false_iff_not]; omega
    have h2 : (decide (1 ≤ c.size) && decide (c.size ≤ 160)) = false := by
      rw [Bool.and_eq_false_iff]; simp only [decide_eq_false_iff_not]; omega
    simp only [h1, h2, Bool.false_and, Bool.false_eq_true, if_false]
    exact Ev.now _
theorem implRec_ev (c r : ByteArray) : Ev (fun k => impl_IsValidRecord.f k c r) (recOk c r) := by
  unfold impl_IsValidRecord.f
  have e : recOk c r = (cmdOk c && (decide (r.size ≤ 200) && (B r).all (okP [35]))) := by simp [recOk, cmdOk, Bool.and_assoc]
  rw [e]
  refine Ev.bind (implCmd_ev c) ?_
  cases hc : cmdOk c with
  | false => simp only [Bool.false_and, Bool.false_eq_true, if_false]; exact Ev.now _
  | true =>
    simp only [Bool.true_and, if_true]
    by_cases h : r.size ≤ 200
    · simp only [if_pos (show (r.size : Int) ≤ 200 by omega), h, decide_true, Bool.true_and]
      exact Ev.bind (implPrint_ev r _ (by omega) (by decide)) (Ev.now _)
    · simp only [if_neg (show ¬ (r.size : Int) ≤ 200 by omega), h, decide_false, Bool.false_and]; exact Ev.now _
theorem okP_both (l : List UInt8) : l.all (okP [35, 64]) = (l.all (okP [35]) && !(l.any fun b => b == 64)) := by
  induction l with
  | nil => rfl
  | cons b l ih =>
    simp only [List.all_cons, List.any_cons, ih, okP, List.contains_cons, List.contains_nil]
    cases decide (32 ≤ b.toNat) <;> cases decide (b.toNat ≤ 126) <;> cases (b == 35) <;> cases (b == 64) <;> simp
theorem specRec_ev (c r : ByteArray) (hc : c.size < 4294967281) (hr : r.size < 4294967281) : Ev (fun k => spec_l27Good.f k c r) (recOk c r) := by
  unfold spec_l27Good.f
  rw [B_toList]
  by_cases h : B c = []
  · have h0 : c.size = 0 := by rw [← B_length, h]; rfl
    simp only [if_pos h]
    have e : recOk c r = false := by simp [recOk, h0]
    rw [e]; exact Ev.now _
  · have h1 : 1 ≤ c.size := by
      rw [← B_length]; exact Nat.one_le_iff_ne_zero.2 (fun z => h (List.length_eq_zero_iff.1 z))
    simp only [if_neg h]
    refine Ev.bind (specPlain_ev c 160 hc) ?_
    have e : recOk c r = (((B c).all (okP [35]) && decide ((c.size : Int) ≤ 160)) && (!((B c).any fun b => b == 64) && ((B r).all (okP [35]) && decide ((r.size : Int) ≤ 200)))) := by
      unfold recOk
      rw [okP_both, show decide (1 ≤ c.size) = true from decide_eq_true h1, show decide (c.size ≤ 160) = decide ((c.size : Int) ≤ 160) from by simp <;> omega, show decide (r.size ≤ 200) = decide ((r.size : Int) ≤ 200) from by simp <;> omega]
      cases decide ((c.size : Int) ≤ 160) <;> cases decide ((r.size : Int) ≤ 200) <;> cases (B c).all (okP [35]) <;> cases ((B c).any fun b => b == 64) <;> simp
    rw [e]
    cases hz : ((B c).all (okP [35]) && decide ((c.size : Int) ≤ 160)) with
    | false => simp only [Bool.false_and, Bool.false_eq_true, if_false]; exact Ev.now _
    | true =>
      simp only [Bool.true_and, if_true]
      refine Ev.bind (specStands_ev c 64 hc) ?_
      cases hy : ((B c).any fun b => b == 64) with
      | true => simp only [if_true, Bool.not_true, Bool.false_and]; exact Ev.now _
      | false =>
        simp only [Bool.false_eq_true, if_false, Bool.not_false, Bool.true_and]
        exact Ev.bind (specPlain_ev r 200 hr) (Ev.now _)
end Go.Proofs.YtkpieljmhgfofaaDoor.X


namespace Go.Proofs.YtkpieljmhgfofaaDoor.X
open Go.RowKit Go.Proofs.YtkpieljmhgfofaaDoorW.PrintWords Go.Proofs.YtkpieljmhgfofaaDoorL
set_option linter.unusedVariables false
set_option linter.unusedSimpArgs false
theorem B_append (s t : ByteArray) : B (s ++ t) = B s ++ B t := by unfold B; simp
theorem B_mk (l : List UInt8) : B ⟨l.toArray⟩ = l := by simp [B]
theorem size_B (s : ByteArray) : s.size = (B s).length := (B_length s).symm
theorem mk_append (a b : List UInt8) : (⟨a.toArray⟩ : ByteArray) ++ ⟨b.toArray⟩ = ⟨(a ++ b).toArray⟩ := B_inj (by rw [B_append, B_mk, B_mk, B_mk])
def dec (n : Int) : ByteArray := ⟨(Lib.itoa n).toArray⟩
theorem B_dec (n : Int) : B (dec n) = Lib.itoa n := B_mk _
theorem dec_size (n : Int) (h0 : -9223372036854775808 ≤ n) (h1 : n ≤ 9223372036854775807) : (dec n).size ≤ 21 := by
  rw [size_B, B_dec]; exact Lib.itoa_length_le n h0 h1
theorem implDec (n : Int) (h0 : -9223372036854775808 ≤ n) (h1 : n ≤ 9223372036854775807) : impl_decimal.f n = some (dec n) := by
  unfold impl_decimal.f strconv_Itoa_77.f
  rw [if_pos ⟨h0, h1⟩]
  rfl
theorem digit_cut (d : Nat) (h : d < 10) : (⟨#[48, 49, 50, 51, 52, 53, 54, 55, 56, 57]⟩ : ByteArray).extract d (d + 1) = ⟨[UInt8.ofNat (48 + d)].toArray⟩ := by
  have : d = 0 ∨ d = 1 ∨ d = 2 ∨ d = 3 ∨ d = 4 ∨ d = 5 ∨ d = 6 ∨ d = 7 ∨ d = 8 ∨ d = 9 := by omega
  rcases this with rfl | rfl | rfl | rfl | rfl | rfl | rfl | rfl | rfl | rfl <;> rfl
theorem decDigits_le (u : Nat) (h : u ≤ 9223372036854775807) : (Lib.decDigits u).length ≤ 21 := by
  have := Lib.itoa_length_le (u : Int) (by omega) (by omega)
  unfold Lib.itoa at this
  rw [if_neg (by omega), Int.toNat_natCast] at this
  exact this
theorem specNum_nat : ∀ (m u : Nat), u ≤ m → u ≤ 9223372036854775807 → Ev (fun k => spec_l1Num.f k (u : Int)) ⟨(Lib.decDigits u).toArray⟩ := by
  intro m
  induction m with
  | zero =>
    intro u hu hb
    obtain rfl : u = 0 := by omega
    refine Ev.step (f := fun _ => some _) (fun k => ?_) (Ev.now _)
    simp only [spec_l1Num.f]
    rw [if_neg (by omega), if_pos (by omega), if_pos (by omega), wrap_id (by omega) (by omega), if_pos (by omega), if_pos (by omega), Lib.decDigits, dif_pos (by omega)]
    rfl
  | succ m ih =>
    intro u hu hb
    by_cases h : u < 10
    · refine Ev.step (f := fun _ => some _) (fun k => ?_) (Ev.now _)
      simp only [spec_l1Num.f]
      rw [if_neg (by omega), if_pos (by omega), if_pos (by omega), wrap_id (by omega) (by omega), if_pos (by omega), if_pos (by omega), Lib.decDigits, dif_pos h, ← digit_cut u h]
      rfl
    · have hd : wrap64 (Int.tdiv (u : Int) 10) = ((u / 10 : Nat) : Int) := by
        rw [Int.tdiv_eq_ediv_of_nonneg (by omega), wrap_id (by omega) (by omega)]; omega
      have hm : Int.tmod (u : Int) 10 = ((u % 10 : Nat) : Int) := by rw [Int.tmod_eq_emod_of_nonneg (by omega)]; omega
      refine Ev.step (f := fun k => (spec_l1Num.f k ((u / 10 : Nat) : Int)).bind fun t => if t.size + (⟨[UInt8.ofNat (48 + u % 10)].toArray⟩ : ByteArray).size ≤ 9223372036854775807 then some (t ++ ⟨[UInt8.ofNat (48 + u % 10)].toArray⟩) else none) (fun k => ?_) ?_
      · simp only [spec_l1Num.f]
        rw [if_neg (by omega), if_neg (by omega), hd, hm]
        congr 1
        funext t
        rw [if_pos (by omega), wrap_id (x := ((u % 10 : Nat) : Int) + 1) (by omega) (by omega), if_pos (by omega), if_pos (by omega)]
        have e : (((u % 10 : Nat) : Int) + 1).toNat = u % 10 + 1 := by omega
        rw [Int.toNat_natCast, e, digit_cut (u % 10) (by omega)]
      · have i1 := ih (u / 10) (by omega) (by omega)
        have hs := decDigits_le (u / 10) (by omega)
        refine Ev.bind i1 (Ev.congr (fun k => if_pos ?_) ?_)
        · rw [size_B, size_B, B_mk, B_mk]; simp only [List.length_cons, List.length_nil]; omega
        · rw [mk_append, Lib.decDigits.eq_1 u, dif_neg h]; exact Ev.now _
theorem specNum_ev (n : Int) (h0 : -9223372036854775807 ≤ n) (h1 : n ≤ 9223372036854775807) : Ev (fun k => spec_l1Num.f k n) (dec n) := by
  by_cases h : n < 0
  · have e : wrap64 (-n) = ((n.natAbs : Nat) : Int) := by rw [wrap_id (by omega) (by omega)]; omega
    have hs := decDigits_le n.natAbs (by omega)
    refine Ev.step (f := fun k => (spec_l1Num.f k ((n.natAbs : Nat) : Int)).bind fun t => if 1 + t.size ≤ 9223372036854775807 then some ((⟨#[45]⟩ : ByteArray) ++ t) else none) (fun k => ?_) (Ev.bind (specNum_nat n.natAbs n.natAbs (Nat.le_refl _) (by omega)) (Ev.congr (fun k => if_pos ?_) ?_))
    · simp only [spec_l1Num.f]
      rw [if_pos h, e]
    · rw [size_B, B_mk]; omega
    · have : dec n = (⟨#[45]⟩ : ByteArray) ++ ⟨(Lib.decDigits n.natAbs).toArray⟩ := B_inj (by rw [B_append, B_dec, B_mk]; unfold Lib.itoa; rw [if_pos h]; rfl)
      rw [this]; exact Ev.now _
  · obtain ⟨u, rfl⟩ : ∃ u : Nat, n = (u : Int) := ⟨n.toNat, by omega⟩
    have : dec (u : Int) = ⟨(Lib.decDigits u).toArray⟩ := by unfold dec Lib.itoa; rw [if_neg h, Int.toNat_natCast]
    rw [this]
    exact specNum_nat u u (Nat.le_refl _) (by omega)
end Go.Proofs.YtkpieljmhgfofaaDoor.X


namespace Go.Proofs.YtkpieljmhgfofaaDoor.X
open Go.RowKit Go.Proofs.YtkpieljmhgfofaaDoorW.PrintWords Go.Proofs.YtkpieljmhgfofaaDoorL
set_option linter.unusedVariables false
set_option linter.unusedSimpArgs false
def sumStep (h : Int) (b : UInt8) : Int := Int.tmod (41 * h + (b.toNat : Int) + 1) 999979
def sumB (l : List UInt8) : Int := l.foldl sumStep 7
theorem sumStep_bound (h : Int) (b : UInt8) (h0 : 0 ≤ h) : 0 ≤ sumStep h b ∧ sumStep h b < 999979 := by
  have := b.toNat_lt
  exact ⟨Int.tmod_nonneg _ (by omega), Int.tmod_lt_of_pos _ (by omega)⟩
theorem sumB_take_succ (l : List UInt8) (n : Nat) (h : n < l.length) : sumB (l.take (n + 1)) = sumStep (sumB (l.take n)) l[n] := by
  unfold sumB; rw [List.take_succ_eq_append_getElem h, List.foldl_append]; rfl
theorem sumB_bound (l : List UInt8) : ∀ n, n ≤ l.length → 0 ≤ sumB (l.take n) ∧ sumB (l.take n) < 999979 := by
  intro n
  induction n with
  | zero => intro _; simp [sumB]
  | succ n ih => intro h; rw [sumB_take_succ l n (by omega)]; exact sumStep_bound _ _ (ih (by omega)).1
theorem sumB_ok (l : List UInt8) : 0 ≤ sumB l ∧ sumB l < 999979 := by have := sumB_bound l l.length (Nat.le_refl _); rwa [List.take_length] at this
theorem sum_expr (h : Int) (b : UInt8) (h0 : 0 ≤ h) (h1 : h < 999979) : Int.tmod (wrap64 ((wrap64 ((wrap64 (41 * h)) + (wrap64 (b.toNat : Int)))) + 1)) 999979 = sumStep h b := by
  have := b.toNat_lt
  unfold sumStep
  rw [wrap_id (x := 41 * h) (by omega) (by omega), wrap_id (x := (b.toNat : Int)) (by omega) (by omega), wrap_id (x := 41 * h + (b.toNat : Int)) (by omega) (by omega), wrap_id (x := 41 * h + (b.toNat : Int) + 1) (by omega) (by omega)]
theorem specSum_ev (s : ByteArray) (hs : s.size ≤ 1000000000) : Ev (fun k => spec_l1Sum.f k s) (sumB (B s)) := by
  have key : ∀ (d n : Nat), n + d = (B s).length → Ev (fun k => spec_l1Sum.l0 k s (sumB ((B s).take n)) n) (sumB (B s)) := by
    intro d
    induction d with
    | zero =>
      intro n hn
      obtain rfl : n = (B s).length := by omega
      rw [List.take_length]
      exact Ev.step (f := fun _ => some _) (fun k => by simp only [spec_l1Sum.l0]; rw [if_neg (by rw [size_B]; omega)]) (Ev.now _)
    | succ d ih =>
      intro n hn
      have hb := sumB_bound (B s) n (by omega)
      have i1 := ih (n + 1) (by omega)
      rw [sumB_take_succ _ n (by omega)] at i1
      rw [size_B] at hs
      refine Ev.step (fun k => ?_) i1
      simp only [spec_l1Sum.l0]
      rw [if_pos (by rw [size_B]; omega), if_pos (by omega), bt_B s n (by omega), sum_expr _ _ hb.1 hb.2, wrap_succ (by omega)]
  exact key (B s).length 0 (by omega)
theorem implSum_ev (s : ByteArray) (hs : s.size ≤ 4000) : Ev (fun k => impl_Checksum.f k s) (sumB (B s), true) := by
  have key : ∀ (d n : Nat), n + d = (B s).length → Ev (fun k => impl_Checksum.l0 k s (sumB ((B s).take n)) (s.size : Int) n) (sumB (B s), true) := by
    intro d
    induction d with
    | zero =>
      intro n hn
      obtain rfl : n = (B s).length := by omega
      rw [List.take_length]
      exact Ev.step (f := fun _ => some _) (fun k => by simp only [impl_Checksum.l0]; rw [if_neg (by rw [size_B]; omega)]) (Ev.now _)
    | succ d ih =>
      intro n hn
      have hb := sumB_bound (B s) n (by omega)
      have i1 := ih (n + 1) (by omega)
      rw [sumB_take_succ _ n (by omega)] at i1
      have hs2 := hs
      rw [size_B] at hs2
      refine Ev.step (fun k => ?_) i1
      simp only [impl_Checksum.l0]
      rw [if_pos (by rw [size_B]; omega), if_pos (by omega), if_pos (by rw [size_B]; omega), bt_B s n (by omega), sum_expr _ _ hb.1 hb.2, wrap_succ (by omega)]
  refine Ev.congr (fun k => ?_) (key (B s).length 0 (by omega))
  unfold impl_Checksum.f
  rw [if_neg (by omega)]
  rfl
/-- A text with its checksum. -/
def sealed (s : ByteArray) : ByteArray := (s ++ ⟨#[35]⟩) ++ dec (sumB (B s))
theorem sealed_size (s : ByteArray) : s.size + 2 ≤ (sealed s).size + 1 ∧ (sealed s).size ≤ s.size + 22 := by
  have h := sumB_ok (B s)
  have hd := dec_size (sumB (B s)) (by omega) (by omega)
  have : (sealed s).size = s.size + 1 + (dec (sumB (B s))).size := by unfold sealed; rw [ByteArray.size_append, ByteArray.size_append]; rfl
  omega
theorem specSeal_ev (s : ByteArray) (hs : s.size ≤ 1000000000) : Ev (fun k => spec_l1Seal.f k s) (sealed s) := by
  have h := sumB_ok (B s)
  have hd := dec_size (sumB (B s)) (by omega) (by omega)
  unfold spec_l1Seal.f
  simp only [if_pos (show s.size + 1 ≤ 9223372036854775807 by omega)]
  refine Ev.bind (specSum_ev s hs) (Ev.bind (specNum_ev _ (by omega) (by omega)) (Ev.congr (fun k => if_pos ?_) (Ev.now _)))
  rw [ByteArray.size_append]
  show s.size + 1 + _ ≤ _
  omega
theorem contains35 (s : ByteArray) (c : UInt8) : strings_Contains.f s ⟨#[c]⟩ = some ((B s).contains c) := by
  have e : stringslite_Index.f s ⟨#[c]⟩ = some (Lib.indexByte (B s) c) := rfl
  unfold strings_Contains.f strings_Index.f
  rw [e]
  simp only [Option.bind_some]
  rw [Lib.contains_iff_indexByte]
theorem implSeal_ev (s : ByteArray) (hs : s.size ≤ 3900) (hn : (B s).contains 35 = false) : Ev (fun k => impl_AppendChecksum.f k s) (sealed s, true) := by
  have h := sumB_ok (B s)
  have hd := dec_size (sumB (B s)) (by omega) (by omega)
  have hz := (sealed_size s).2
  unfold impl_AppendChecksum.f
  refine Ev.bind (implSum_ev s (by omega)) ?_
  simp only [if_pos (show s.size + 1 ≤ 9223372036854775807 by omega), implDec _ (show -9223372036854775808 ≤ sumB (B s) by omega) (show sumB (B s) ≤ 9223372036854775807 by omega), Option.bind_some, if_true]
  refine Ev.congr (fun k => ?_) (Ev.now _)
  rw [if_pos (by rw [ByteArray.size_append]; show s.size + 1 + _ ≤ _; omega), contains35, hn]
  simp only [Option.bind_some, Bool.false_eq_true, if_false]
  rw [if_neg]
  · rfl
  · show ¬ (((sealed s).size : Nat) : Int) > 4000
    omega
end Go.Proofs.YtkpieljmhgfofaaDoor.X


namespace Go.Proofs.YtkpieljmhgfofaaDoor.X
open Go.RowKit Go.Proofs.YtkpieljmhgfofaaDoorW.PrintWords Go.Proofs.YtkpieljmhgfofaaDoorL
set_option linter.unusedVariables false
set_option linter.unusedSimpArgs false
def bodyOf (n : Int) (c r : ByteArray) : ByteArray := (((dec n ++ ⟨#[32]⟩) ++ c) ++ ⟨#[64]⟩) ++ r
def lineOf (n : Int) (c r : ByteArray) : ByteArray := sealed (bodyOf n c r) ++ ⟨#[10]⟩
theorem bodyOf_size (n : Int) (c r : ByteArray) : (bodyOf n c r).size = (dec n).size + 1 + c.size + 1 + r.size := by
  unfold bodyOf; simp only [ByteArray.size_append]; rfl
theorem rec_sizes {c r : ByteArray} (h : recOk c r = true) : 1 ≤ c.size ∧ c.size ≤ 160 ∧ r.size ≤ 200 := by
  unfold recOk at h; simp only [Bool.and_eq_true, decide_eq_true_eq] at h; omega
theorem ok35 {l c : List UInt8} (hc : c.contains 35 = true) (h : l.all (okP c) = true) : l.contains 35 = false := by
  rw [List.contains_eq_any_beq]
  rw [List.all_eq_true] at h
  rw [List.any_eq_false]
  intro x hx
  have := h x hx
  unfold okP at this
  simp only [Bool.and_eq_true, Bool.not_eq_true'] at this
  intro e
  have e2 : 35 = x := by simpa using e
  subst e2
  rw [hc] at this
  simp at this
theorem dec_no35 (n : Int) (h0 : 0 ≤ n) (h1 : n ≤ 59) : (B (dec n)).contains 35 = false := by
  obtain ⟨u, rfl⟩ : ∃ u : Nat, n = (u : Int) := ⟨n.toNat, by omega⟩
  rw [B_dec]
  have : u < 60 := by omega
  clear h0 h1
  unfold Lib.itoa
  rw [if_neg (by omega), Int.toNat_natCast]
  rw [Lib.decDigits]
  by_cases h : u < 10
  · rw [dif_pos h]
    have : ∀ v : Fin 10, ([UInt8.ofNat (48 + v.val)] : List UInt8).contains 35 = false := by decide
    exact this ⟨u, h⟩
  · rw [dif_neg h, Lib.decDigits, dif_pos (by omega)]
    have : ∀ v w : Fin 10, ([UInt8.ofNat (48 + v.val)] ++ [UInt8.ofNat (48 + w.val)] : List UInt8).contains 35 = false := by decide
    exact this ⟨u / 10, by omega⟩ ⟨u % 10, by omega⟩
theorem body_no35 {n : Int} {c r : ByteArray} (h0 : 0 ≤ n) (h1 : n ≤ 59) (h : recOk c r = true) : (B (bodyOf n c r)).contains 35 = false := by
  unfold recOk at h
  simp only [Bool.and_eq_true] at h
  have hc := ok35 (c := [35, 64]) (by decide) (show (B c).all (okP [35, 64]) = true by simp [h])
  have hr := ok35 (c := [35]) (by decide) (show (B r).all (okP [35]) = true by simp [h])
  have hd := dec_no35 n h0 h1
  unfold bodyOf
  simp only [B_append, List.contains_eq_any_beq, List.any_append] at hc hr hd ⊢
  rw [hc, hr, hd]
  rfl
theorem implLine_ev (n : Int) (c r : ByteArray) (h0 : 0 ≤ n) (h1 : n ≤ 59) (h : recOk c r = true) : Ev (fun k => impl_encodeRecord.f k n c r) (lineOf n c r) := by
  obtain ⟨s1, s2, s3⟩ := rec_sizes h
  have hd := dec_size n (by omega) (by omega)
  have hb := bodyOf_size n c r
  have hz := (sealed_size (bodyOf n c r)).2
  unfold impl_encodeRecord.f
  rw [implDec n (by omega) (by omega)]
  simp only [Option.bind_some]
  refine Ev.congr (f := fun k => (impl_AppendChecksum.f k (bodyOf n c r)).bind fun bt157 => (if bt157.1.size + 1 ≤ 9223372036854775807 then (some (bt157.1 ++ (⟨#[10]⟩ : ByteArray))) else (none))) (fun k => ?_) (Ev.bind (implSeal_ev _ (by omega) (body_no35 h0 h1 h)) (Ev.congr (fun k => if_pos (by show (sealed (bodyOf n c r)).size + 1 ≤ _; omega)) (Ev.now _)))
  have z1 : (dec n ++ (⟨#[32]⟩ : ByteArray)).size = (dec n).size + 1 := by rw [ByteArray.size_append]; rfl
  have z2 : ((dec n ++ (⟨#[32]⟩ : ByteArray)) ++ c).size = (dec n).size + 1 + c.size := by rw [ByteArray.size_append, z1]
  have z3 : (((dec n ++ (⟨#[32]⟩ : ByteArray)) ++ c) ++ (⟨#[64]⟩ : ByteArray)).size = (dec n).size + 1 + c.size + 1 := by rw [ByteArray.size_append, z2]; rfl
  rw [if_pos (by omega), if_pos (by omega), if_pos (by omega), if_pos (by omega)]
  rfl
theorem specLine_ev (n : Int) (c r : ByteArray) (h0 : 0 ≤ n) (h1 : n ≤ 59) (h : recOk c r = true) : Ev (fun k => spec_l27Line.f k n c r) (lineOf n c r) := by
  obtain ⟨s1, s2, s3⟩ := rec_sizes h
  have hd := dec_size n (by omega) (by omega)
  have hb := bodyOf_size n c r
  have hz := (sealed_size (bodyOf n c r)).2
  unfold spec_l27Line.f
  refine Ev.bind (specNum_ev n (by omega) (by omega)) ?_
  refine Ev.congr (f := fun k => (spec_l1Seal.f k (bodyOf n c r)).bind fun t113 => (if t113.size + 1 ≤ 9223372036854775807 then (some (t113 ++ (⟨#[10]⟩ : ByteArray))) else (none))) (fun k => ?_) (Ev.bind (specSeal_ev _ (by omega)) (Ev.congr (fun k => if_pos (by omega)) (Ev.now _)))
  have z1 : (dec n ++ (⟨#[32]⟩ : ByteArray)).size = (dec n).size + 1 := by rw [ByteArray.size_append]; rfl
  have z2 : ((dec n ++ (⟨#[32]⟩ : ByteArray)) ++ c).size = (dec n).size + 1 + c.size := by rw [ByteArray.size_append, z1]
  have z3 : (((dec n ++ (⟨#[32]⟩ : ByteArray)) ++ c) ++ (⟨#[64]⟩ : ByteArray)).size = (dec n).size + 1 + c.size + 1 := by rw [ByteArray.size_append, z2]; rfl
  rw [if_pos (by omega), if_pos (by omega), if_pos (by omega), if_pos (by omega)]
  rfl
def enc (n : Int) (c r : ByteArray) : ByteArray × Bool := if 0 ≤ n ∧ n ≤ 59 ∧ recOk c r = true then (lineOf n c r, true) else (⟨#[]⟩, false)
theorem specEnc_ev (n : Int) (c r : ByteArray) (hc : c.size < 4294967281) (hr : r.size < 4294967281) : Ev (fun k => spec_EncodeRecord.f k n c r) (enc n c r) := by
  unfold spec_EncodeRecord.f enc spec_l1In.f
  by_cases a : n ≥ 0
  · by_cases b : n ≤ 59
    · simp only [if_pos a, b, decide_true, Option.bind_some, if_true, if_pos, true_and]
      refine Ev.bind (specRec_ev c r hc hr) ?_
      by_cases h : recOk c r = true
      · simp only [h, if_true, if_pos (show 0 ≤ n ∧ True from ⟨a, trivial⟩)]; exact Ev.bind (specLine_ev n c r a b h) (Ev.now _)
      · simp only [h, if_neg (show ¬ (0 ≤ n ∧ False) from fun z => z.2), Bool.false_eq_true, if_false]; exact Ev.now _
    · simp only [if_pos a, b, decide_false, Option.bind_some, Bool.false_eq_true, if_false, false_and, and_false]; exact Ev.now _
  · simp only [if_neg a, Option.bind_some, Bool.false_eq_true, if_false, if_neg (show ¬ (0 ≤ n ∧ n ≤ 59 ∧ recOk c r = true) from fun z => a z.1)]; exact Ev.now _
theorem implEnc_ev (n : Int) (c r : ByteArray) : Ev (fun k => impl_EncodeRecord.f k n c r) (enc n c r) := by
  unfold impl_EncodeRecord.f enc impl_within.f
  by_cases a : n ≥ 0
  · by_cases b : n ≤ 59
    · simp only [if_pos a, b, decide_true, Option.bind_some, if_true, if_pos, true_and]
      refine Ev.bind (implRec_ev c r) ?_
      by_cases h : recOk c r = true
      · simp only [h, if_true, if_pos (show 0 ≤ n ∧ True from ⟨a, trivial⟩)]; exact Ev.bind (implLine_ev n c r a b h) (Ev.now _)
      · simp only [h, if_neg (show ¬ (0 ≤ n ∧ False) from fun z => z.2), Bool.false_eq_true, if_false]; exact Ev.now _
    · simp only [if_pos a, b, decide_false, Option.bind_some, Bool.false_eq_true, if_false, false_and, and_false]; exact Ev.now _
  · simp only [if_neg a, Option.bind_some, Bool.false_eq_true, if_false, if_neg (show ¬ (0 ≤ n ∧ n ≤ 59 ∧ recOk c r = true) from fun z => a z.1)]; exact Ev.now _
end Go.Proofs.YtkpieljmhgfofaaDoor.X


namespace Go.Proofs.YtkpieljmhgfofaaDoor.X
open Go.RowKit Go.Proofs.YtkpieljmhgfofaaDoorW.PrintWords Go.Proofs.YtkpieljmhgfofaaDoorL
set_option linter.unusedVariables false
set_option linter.unusedSimpArgs false
def mk (l : List UInt8) : ByteArray := ⟨l.toArray⟩
theorem B_of_mk (l : List UInt8) : B (mk l) = l := B_mk l
theorem mk_of_B (s : ByteArray) : mk (B s) = s := B_inj (B_mk _)
theorem mk_size (l : List UInt8) : (mk l).size = l.length := by rw [size_B, B_of_mk]
theorem B_extract (s : ByteArray) (i j : Nat) : B (s.extract i j) = ((B s).drop i).take (j - i) := by
  unfold B; simp [List.extract_eq_take_drop]
def cutL (c : UInt8) : List UInt8 → List UInt8 × List UInt8 × Bool
  | [] => ([], [], false)
  | b :: l => if b = c then ([], l, true) else (b :: (cutL c l).1, (cutL c l).2.1, (cutL c l).2.2)
theorem cutL_hit (c : UInt8) : ∀ (a b : List UInt8), c ∉ a → cutL c (a ++ c :: b) = (a, b, true)
  | [], b, _ => by simp [cutL]
  | x :: a, b, h => by
    have hx : x ≠ c := fun e => h (by simp [e])
    have ih := cutL_hit c a b (fun e => h (by simp [e]))
    simp only [List.cons_append, cutL, if_neg hx, ih]
theorem cutL_found (c : UInt8) : ∀ l : List UInt8, (cutL c l).2.2 = true → l = (cutL c l).1 ++ c :: (cutL c l).2.1
  | [], h => by simp [cutL] at h
  | x :: l, h => by
    by_cases hx : x = c
    · subst hx; simp [cutL]
    · simp only [cutL, if_neg hx] at h ⊢
      have := cutL_found c l h
      rw [List.cons_append, ← this]
theorem cutL_notin (c : UInt8) : ∀ l : List UInt8, c ∉ (cutL c l).1
  | [] => by simp [cutL]
  | x :: l => by
    by_cases hx : x = c
    · subst hx; simp [cutL]
    · simp only [cutL, if_neg hx, List.mem_cons, not_or]
      exact ⟨fun e => hx e.symm, cutL_notin c l⟩
theorem cutL_lost (c : UInt8) : ∀ l : List UInt8, (cutL c l).2.2 = false → cutL c l = (l, [], false)
  | [], h => rfl
  | x :: l, h => by
    by_cases hx : x = c
    · subst hx; simp [cutL] at h
    · simp only [cutL, if_neg hx] at h ⊢
      rw [cutL_lost c l h]
theorem cutL_index (c : UInt8) : ∀ l : List UInt8, Lib.indexByte l c = if (cutL c l).2.2 = true then ((cutL c l).1.length : Int) else -1
  | [] => by simp [cutL, Lib.indexByte]
  | x :: l => by
    by_cases hx : x = c
    · subst hx; simp [cutL, Lib.indexByte]
    · have hb : (x == c) = false := by simpa using hx
      have ih := cutL_index c l
      simp only [cutL, if_neg hx, Lib.indexByte, hb, Bool.false_eq_true, if_false, ih]
      by_cases h : (cutL c l).2.2 = true
      · rw [if_pos h, if_pos h, if_neg (by simp <;> omega)]; simp
      · rw [if_neg h, if_neg h]; simp
theorem stringsCut_eq (s : ByteArray) (c : UInt8) (hs : s.size ≤ 9223372036854775807) : strings_Cut.f s ⟨#[c]⟩ = some (mk (cutL c (B s)).1, mk (cutL c (B s)).2.1, (cutL c (B s)).2.2) := by
  have e : stringslite_Index.f s ⟨#[c]⟩ = some (Lib.indexByte (B s) c) := rfl
  have h1 : (⟨#[c]⟩ : ByteArray).size = 1 := rfl
  unfold strings_Cut.f stringslite_Cut.f
  rw [e, cutL_index]
  simp only [Option.bind_some]
  by_cases h : (cutL c (B s)).2.2 = true
  · have hf := cutL_found c (B s) h
    have hl : (B s).length = (cutL c (B s)).1.length + 1 + (cutL c (B s)).2.1.length := by
      conv => lhs; rw [hf]
      simp; omega
    rw [B_length] at hl
    simp only [if_pos h]
    rw [if_pos (by omega), if_pos (by omega), if_pos (by omega), h1, wrap_id (by omega) (by omega), if_pos (by omega), if_pos (by omega)]
    simp only [Option.bind_some, Option.some.injEq, Prod.mk.injEq]
    generalize (cutL c (B s)).1 = a at *
    generalize (cutL c (B s)).2.1 = b at *
    refine ⟨B_inj ?_, B_inj ?_, h.symm⟩
    · rw [B_extract, B_of_mk, hf]
      simp
    · rw [B_extract, B_of_mk, hf]
      rw [show ((a.length : Int) + ((1 : Nat) : Int)).toNat = a.length + 1 by omega]
      rw [List.take_of_length_le (by simp; omega)]
      rw [List.drop_append, List.drop_of_length_le (by omega)]
      simp
  · have hl := cutL_lost c (B s) (by simpa using h)
    simp only [if_neg h]
    rw [if_neg (by omega), hl]
    simp only [Option.bind_some, mk_of_B]
    rfl
/-- A text's pieces between all of a byte. -/
def addHead (p : List UInt8) : List (List UInt8) → List (List UInt8)
  | [] => [p]
  | q :: r => (p ++ q) :: r
def pieces (c : UInt8) : List UInt8 → List (List UInt8)
  | [] => [[]]
  | b :: l => if b = c then [] :: pieces c l else addHead [b] (pieces c l)
theorem pieces_ne (c : UInt8) : ∀ l, pieces c l ≠ []
  | [] => by simp [pieces]
  | b :: l => by
    unfold pieces
    by_cases h : b = c
    · rw [if_pos h]; simp
    · rw [if_neg h]; cases pieces c l <;> simp [addHead]
theorem addHead_two (p q : List UInt8) (r : List (List UInt8)) : addHead p (addHead q r) = addHead (p ++ q) r := by cases r <;> simp [addHead]
theorem addHead_nil (c : UInt8) (l : List UInt8) : addHead [] (pieces c l) = pieces c l := by
  cases h : pieces c l with
  | nil => exact absurd h (pieces_ne c l)
  | cons a b => simp [addHead]
theorem addHead_length (p : List UInt8) (c : UInt8) (l : List UInt8) : (addHead p (pieces c l)).length = (pieces c l).length := by
  cases h : pieces c l with
  | nil => exact absurd h (pieces_ne c l)
  | cons a b => simp [addHead]
theorem pieces_head (c : UInt8) : ∀ l : List UInt8, (pieces c l)[0]? = some (cutL c l).1
  | [] => rfl
  | b :: l => by
    have ih := pieces_head c l
    unfold pieces cutL
    by_cases h : b = c
    · rw [if_pos h, if_pos h]; rfl
    · rw [if_neg h, if_neg h]
      cases hp : pieces c l with
      | nil => exact absurd hp (pieces_ne c l)
      | cons a r => rw [hp] at ih; simp at ih; simp [addHead, ih]
theorem pieces_two (c : UInt8) : ∀ l : List UInt8, (2 ≤ (pieces c l).length) = ((cutL c l).2.2 = true)
  | [] => by simp [pieces, cutL]
  | b :: l => by
    have ih := pieces_two c l
    unfold pieces cutL
    by_cases h : b = c
    · rw [if_pos h, if_pos h]
      have := List.length_pos_iff.2 (pieces_ne c l)
      simp; omega
    · rw [if_neg h, if_neg h, addHead_length]; exact ih
theorem pieces_length (c : UInt8) : ∀ l : List UInt8, 1 ≤ (pieces c l).length ∧ (pieces c l).length ≤ l.length + 1
  | [] => by simp [pieces]
  | b :: l => by
    have ih := pieces_length c l
    unfold pieces
    by_cases h : b = c
    · rw [if_pos h]; simp; omega
    · rw [if_neg h, addHead_length]; simp; omega
def seg (s : ByteArray) (i j : Nat) : List UInt8 := ((B s).drop i).take (j - i)
theorem seg_succ (s : ByteArray) (i j : Nat) (h : i ≤ j) (hj : j < (B s).length) : seg s i (j + 1) = seg s i j ++ [(B s)[j]] := by
  unfold seg
  rw [show j + 1 - i = (j - i) + 1 by omega, List.take_succ_eq_append_getElem (by simp; omega)]
  simp [show i + (j - i) = j by omega]
theorem specSplit_ev (s : ByteArray) (c : UInt8) (hs : s.size ≤ 1000000000) : Ev (fun k => spec_l1Split.f k s (c.toNat : Int)) ((pieces c (B s)).map mk) := by
  have hlen := B_length s
  have key : ∀ (d i st : Nat) (xs : List ByteArray), i + d = (B s).length → st ≤ i → xs.length ≤ i →
      Ev (fun k => spec_l1Split.l0 k s (c.toNat : Int) xs st i) (xs ++ (addHead (seg s st i) (pieces c ((B s).drop i))).map mk) := by
    intro d
    induction d with
    | zero =>
      intro i st xs hi hst hx
      obtain rfl : i = (B s).length := by omega
      refine Ev.step (f := fun _ => some _) (fun k => ?_) (Ev.now _)
      simp only [spec_l1Split.l0]
      rw [if_neg (by omega), if_pos (by omega), if_pos (by omega), if_pos (by omega), List.drop_length]
      have e : s.extract (st : Int).toNat s.size = mk (seg s st (B s).length) := B_inj (by rw [B_extract, B_of_mk, hlen]; rfl)
      rw [e]
      simp [pieces, addHead]
    | succ d ih =>
      intro i st xs hi hst hx
      have hl : i < (B s).length := by omega
      have hb := bt_B s i hl
      rw [List.drop_eq_getElem_cons hl]
      unfold pieces
      by_cases e : (B s)[i] = c
      · rw [if_pos e]
        have i1 := ih (i + 1) (i + 1) (xs ++ [mk (seg s st i)]) (by omega) (by omega) (by simp; omega)
        have e0 : seg s (i + 1) (i + 1) = [] := by simp [seg]
        rw [e0, addHead_nil] at i1
        have e1 : addHead (seg s st i) ([] :: pieces c ((B s).drop (i + 1))) = seg s st i :: pieces c ((B s).drop (i + 1)) := by simp [addHead]
        rw [e1, List.map_cons]
        rw [List.append_assoc] at i1
        refine Ev.step (fun k => ?_) i1
        simp only [spec_l1Split.l0]
        have e2 : s.extract (st : Int).toNat (i : Int).toNat = mk (seg s st i) := B_inj (by rw [B_extract, B_of_mk]; rfl)
        rw [if_pos (by omega), if_pos (by omega), hb, e, if_pos rfl, if_pos (by omega), if_pos (by omega), if_pos (by omega), if_pos (by omega), e2, wrap_succ (by omega)]
      · rw [if_neg e]
        have i1 := ih (i + 1) st xs (by omega) (by omega) (by omega)
        rw [seg_succ s st i hst hl, ← addHead_two] at i1
        refine Ev.step (fun k => ?_) i1
        simp only [spec_l1Split.l0]
        rw [if_pos (by omega), if_pos (by omega), hb, if_neg (fun z => e (UInt8.toNat_inj.1 (by omega))), wrap_succ (by omega)]
  have := key (B s).length 0 0 [] (by omega) (by omega) (by simp)
  have e0 : seg s 0 0 = [] := by simp [seg]
  rw [e0, List.drop_zero, addHead_nil, List.nil_append] at this
  exact this
end Go.Proofs.YtkpieljmhgfofaaDoor.X


namespace Go.Proofs.YtkpieljmhgfofaaDoor.X
open Go.RowKit Go.Proofs.YtkpieljmhgfofaaDoorW.PrintWords Go.Proofs.YtkpieljmhgfofaaDoorL
set_option linter.unusedVariables false
set_option linter.unusedSimpArgs false
theorem digit_range (d : Nat) (h : d < 10) : 48 ≤ (UInt8.ofNat (48 + d)).toNat ∧ (UInt8.ofNat (48 + d)).toNat ≤ 57 := by
  have : (UInt8.ofNat (48 + d)).toNat = 48 + d := by simp; omega
  omega
theorem decDigits_range : ∀ (m u : Nat), u ≤ m → ∀ b ∈ Lib.decDigits u, 48 ≤ b.toNat ∧ b.toNat ≤ 57 := by
  intro m
  induction m with
  | zero =>
    intro u hu b hb
    rw [Lib.decDigits, dif_pos (by omega)] at hb
    simp only [List.mem_singleton] at hb
    subst hb; exact digit_range u (by omega)
  | succ m ih =>
    intro u hu b hb
    by_cases h : u < 10
    · rw [Lib.decDigits, dif_pos h] at hb
      simp only [List.mem_singleton] at hb
      subst hb; exact digit_range u h
    · rw [Lib.decDigits.eq_1 u, dif_neg h] at hb
      rcases List.mem_append.1 hb with hb | hb
      · exact ih (u / 10) (by omega) b hb
      · simp only [List.mem_singleton] at hb
        subst hb; exact digit_range (u % 10) (by omega)
theorem itoa_range (n : Int) (h : 0 ≤ n) : ∀ b ∈ Lib.itoa n, 48 ≤ b.toNat ∧ b.toNat ≤ 57 := by
  unfold Lib.itoa
  rw [if_neg (by omega)]
  exact decDigits_range _ _ (Nat.le_refl _)
theorem B_sealed (s : ByteArray) : B (sealed s) = B s ++ 35 :: Lib.itoa (sumB (B s)) := by
  unfold sealed
  rw [B_append, B_append, B_dec, List.append_assoc]; rfl
theorem B_body (n : Int) (c r : ByteArray) : B (bodyOf n c r) = Lib.itoa n ++ 32 :: (B c ++ 64 :: B r) := by
  unfold bodyOf
  simp only [B_append, B_dec, List.append_assoc]; rfl
theorem B_line (n : Int) (c r : ByteArray) : B (lineOf n c r) = B (sealed (bodyOf n c r)) ++ [10] := by
  unfold lineOf; rw [B_append]; rfl
theorem all_range {l bad : List UInt8} (h : l.all (okP bad) = true) : ∀ b ∈ l, 32 ≤ b.toNat ∧ b.toNat ≤ 126 := by
  intro b hb
  have := List.all_eq_true.1 h b hb
  unfold okP at this
  simp only [Bool.and_eq_true, decide_eq_true_eq] at this
  exact this.1
theorem rec_parts {c r : ByteArray} (h : recOk c r = true) : (∀ b ∈ B c, 32 ≤ b.toNat ∧ b.toNat ≤ 126) ∧ (∀ b ∈ B r, 32 ≤ b.toNat ∧ b.toNat ≤ 126) ∧ (64 : UInt8) ∉ B c := by
  unfold recOk at h
  simp only [Bool.and_eq_true] at h
  refine ⟨all_range h.1.1.2, all_range h.2, fun hm => ?_⟩
  have := List.all_eq_true.1 h.1.1.2 _ hm
  simp [okP] at this
theorem sealed_range {n : Int} {c r : ByteArray} (h0 : 0 ≤ n) (h : recOk c r = true) : ∀ b ∈ B (sealed (bodyOf n c r)), 32 ≤ b.toNat ∧ b.toNat ≤ 126 := by
  intro b hb
  rw [B_sealed, B_body] at hb
  obtain ⟨hc, hr, _⟩ := rec_parts h
  have hn := itoa_range n h0
  have hs := itoa_range (sumB (Lib.itoa n ++ 32 :: (B c ++ 64 :: B r))) (sumB_ok _).1
  simp only [List.mem_append, List.mem_cons] at hb
  rcases hb with ((hb | rfl | hb | rfl | hb) | rfl | hb)
  · have := hn b hb; omega
  · decide
  · exact hc b hb
  · decide
  · exact hr b hb
  · decide
  · have := hs b hb; omega
theorem sealed_no10 {n : Int} {c r : ByteArray} (h0 : 0 ≤ n) (h : recOk c r = true) : (10 : UInt8) ∉ B (sealed (bodyOf n c r)) := fun hm => by
  have := (sealed_range h0 h _ hm).1
  revert this; decide
theorem body_not35 {n : Int} {c r : ByteArray} (h0 : 0 ≤ n) (h1 : n ≤ 59) (h : recOk c r = true) : (35 : UInt8) ∉ B (bodyOf n c r) := fun hm => by
  have := body_no35 h0 h1 h
  rw [List.contains_eq_any_beq, List.any_eq_false] at this
  exact this _ hm (by simp)
/-- A text begins with the n-th record, and t follows. -/
def IsRec (n : Int) (s : List UInt8) (c r : ByteArray) (t : List UInt8) : Prop := recOk c r = true ∧ s = B (lineOf n c r) ++ t
theorem IsRec.line {n : Int} {s : List UInt8} {c r : ByteArray} {t : List UInt8} (h0 : 0 ≤ n) (h : IsRec n s c r t) : cutL 10 s = (B (sealed (bodyOf n c r)), t, true) := by
  rw [h.2, B_line, List.append_assoc]
  exact cutL_hit 10 _ _ (sealed_no10 h0 h.1)
theorem body_cut {n : Int} {c r : ByteArray} (h0 : 0 ≤ n) (h1 : n ≤ 59) (h : recOk c r = true) : cutL 35 (B (sealed (bodyOf n c r))) = (B (bodyOf n c r), Lib.itoa (sumB (B (bodyOf n c r))), true) := by
  rw [B_sealed]
  exact cutL_hit 35 _ _ (body_not35 h0 h1 h)
theorem ask_cut {c r : ByteArray} (h : recOk c r = true) : cutL 64 (B c ++ 64 :: B r) = (B c, B r, true) := cutL_hit 64 _ _ (rec_parts h).2.2
theorem line_inj {n : Int} {c r c' r' : ByteArray} (h0 : 0 ≤ n) (h1 : n ≤ 59) (h : recOk c r = true) (h' : recOk c' r' = true) (e : B (sealed (bodyOf n c r)) = B (sealed (bodyOf n c' r'))) : c = c' ∧ r = r' := by
  have e1 := body_cut h0 h1 h
  have e2 := body_cut h0 h1 h'
  rw [e, e2] at e1
  simp only [Prod.mk.injEq] at e1
  have e3 := e1.1
  rw [B_body, B_body] at e3
  have e4 := List.append_cancel_left e3
  simp only [List.cons.injEq, true_and] at e4
  have e5 := ask_cut h
  rw [← e4, ask_cut h'] at e5
  simp only [Prod.mk.injEq] at e5
  exact ⟨(B_inj e5.1).symm, (B_inj e5.2.1).symm⟩
theorem IsRec.inj {n : Int} {s : List UInt8} {c r c' r' : ByteArray} {t t' : List UInt8} (h0 : 0 ≤ n) (h1 : n ≤ 59) (h : IsRec n s c r t) (h' : IsRec n s c' r' t') : c = c' ∧ r = r' ∧ t = t' := by
  have e1 := h.line h0
  rw [h'.line h0] at e1
  simp only [Prod.mk.injEq] at e1
  obtain ⟨a, b⟩ := line_inj h0 h1 h.1 h'.1 e1.1.symm
  exact ⟨a, b, e1.2.1.symm⟩
-- the checksum of whatever text
def apC (s : ByteArray) : ByteArray × Bool := if s.size ≤ 4000 ∧ (sealed s).size ≤ 4000 then (sealed s, true) else (⟨#[]⟩, false)
theorem implSeal_any (s : ByteArray) (hs : s.size ≤ 1000000000) (hn : (35 : UInt8) ∉ B s) : Ev (fun k => impl_AppendChecksum.f k s) (apC s) := by
  have hb := sumB_ok (B s)
  have hd := dec_size (sumB (B s)) (by omega) (by omega)
  have hn2 : (B s).contains 35 = false := by
    rw [List.contains_eq_any_beq, List.any_eq_false]
    intro x hx e
    have : (35 : UInt8) = x := by simpa using e
    exact hn (this ▸ hx)
  unfold impl_AppendChecksum.f apC
  by_cases h : s.size ≤ 4000
  · refine Ev.bind (implSum_ev s h) ?_
    simp only [if_pos (show s.size + 1 ≤ 9223372036854775807 by omega), implDec _ (show -9223372036854775808 ≤ sumB (B s) by omega) (show sumB (B s) ≤ 9223372036854775807 by omega), Option.bind_some, if_true]
    refine Ev.congr (fun k => ?_) (Ev.now _)
    rw [if_pos (by rw [ByteArray.size_append]; show s.size + 1 + _ ≤ _; omega), contains35, hn2]
    simp only [Option.bind_some, Bool.false_eq_true, if_false]
    rw [show (s ++ (⟨#[35]⟩ : ByteArray)) ++ dec (sumB (B s)) = sealed s from rfl]
    by_cases h2 : (sealed s).size ≤ 4000
    · rw [if_neg (by omega), if_pos ⟨h, h2⟩]
    · rw [if_pos (by omega), if_neg (fun z => h2 z.2)]
  · rw [if_neg (fun z => h z.1)]
    refine Ev.bind (Ev.congr (f := fun _ => some (0, false)) (fun k => by unfold impl_Checksum.f; rw [if_pos (by omega)]) (Ev.now _)) ?_
    have z0 := dec_size 0 (by omega) (by omega)
    simp only [if_pos (show s.size + 1 ≤ 9223372036854775807 by omega), implDec 0 (by omega) (by omega), Option.bind_some]
    refine Ev.congr (fun k => ?_) (Ev.now _)
    rw [if_pos (by rw [ByteArray.size_append]; show s.size + 1 + _ ≤ _; omega)]
    simp
theorem toList_eq (s t : ByteArray) : (s.toList = t.toList) = (s = t) := by
  rw [B_toList, B_toList]; exact propext ⟨B_inj, fun h => by rw [h]⟩
def veri (s : ByteArray) : ByteArray × Bool := if (apC (mk (cutL 35 (B s)).1)).2 = true ∧ (apC (mk (cutL 35 (B s)).1)).1 = s then (mk (cutL 35 (B s)).1, true) else (⟨#[]⟩, false)
theorem cut_size (c : UInt8) (l : List UInt8) : (cutL c l).1.length ≤ l.length ∧ (cutL c l).2.1.length ≤ l.length := by
  by_cases h : (cutL c l).2.2 = true
  · have := congrArg List.length (cutL_found c l h)
    simp at this; omega
  · rw [cutL_lost c l (by simpa using h)]; simp
theorem implVeri_ev (s : ByteArray) (hs : s.size ≤ 1000000000) : Ev (fun k => impl_VerifyChecksum.f k s) (veri s) := by
  have hc := (cut_size 35 (B s)).1
  rw [B_length] at hc
  unfold impl_VerifyChecksum.f veri
  rw [stringsCut_eq s 35 (by omega)]
  simp only [Option.bind_some]
  refine Ev.bind (implSeal_any _ (by rw [mk_size]; omega) (by rw [B_of_mk]; exact cutL_notin 35 _)) ?_
  generalize apC (mk (cutL 35 (B s)).1) = p
  simp only [toList_eq]
  by_cases h : p.2 = true
  · simp only [if_pos h, h, true_and]
    by_cases h2 : p.1 = s
    · simp only [if_pos h2]; exact Ev.now _
    · simp only [if_neg h2]; exact Ev.now _
  · simp only [if_neg h, h, false_and, if_false]; exact Ev.now _
theorem veri_rec {n : Int} {c r : ByteArray} (h0 : 0 ≤ n) (h1 : n ≤ 59) (h : recOk c r = true) : veri (sealed (bodyOf n c r)) = (bodyOf n c r, true) := by
  obtain ⟨s1, s2, s3⟩ := rec_sizes h
  have hd := dec_size n (by omega) (by omega)
  have hb := bodyOf_size n c r
  have hz := (sealed_size (bodyOf n c r)).2
  have ha : apC (bodyOf n c r) = (sealed (bodyOf n c r), true) := by unfold apC; rw [if_pos ⟨by omega, by omega⟩]
  unfold veri
  rw [body_cut h0 h1 h, mk_of_B, ha]
  simp
theorem stringsCutPrefix_eq (s p : ByteArray) (hs : s.size ≤ 9223372036854775807) (hp : p.size ≤ 9223372036854775807) : strings_CutPrefix.f s p = some (if (B p).isPrefixOf (B s) = true then (mk ((B s).drop (B p).length), true) else (s, false)) := by
  have hsl := B_length s
  have hpl := B_length p
  unfold strings_CutPrefix.f stringslite_CutPrefix.f
  have e : stringslite_HasPrefix.f s p = some ((B p).isPrefixOf (B s)) := by
    unfold stringslite_HasPrefix.f
    by_cases h : (s.size : Int) ≥ (p.size : Int)
    · have hx : s.extract 0 (p.size : Int).toNat = mk ((B s).take (B p).length) := B_inj (by rw [B_extract, B_of_mk, hpl]; rfl)
      simp only [if_pos h]
      repeat' (first | rw [if_pos (by omega)])
      rw [hx, B_toList, B_toList, B_of_mk]
      simp only [Option.some.injEq]
      rw [Bool.eq_iff_iff]
      simp only [beq_iff_eq, List.isPrefixOf_iff_prefix]
      constructor
      · intro z; rw [← z]; exact List.take_prefix _ _
      · intro z; exact (List.prefix_iff_eq_take.1 z).symm
    · simp only [if_neg h]
      congr 1
      symm
      rw [Bool.eq_false_iff]
      intro z
      have := (List.isPrefixOf_iff_prefix.1 z).length_le
      omega
  rw [e]
  simp only [Option.bind_some]
  by_cases h : (B p).isPrefixOf (B s) = true
  · have := (List.isPrefixOf_iff_prefix.1 h).length_le
    rw [if_pos h, if_pos h, if_pos (by omega), if_pos (by omega)]
    simp only [Option.bind_some, Option.some.injEq, Prod.mk.injEq, and_true]
    refine B_inj ?_
    rw [B_extract, B_of_mk, hpl, Int.toNat_natCast, List.take_of_length_le (by simp; omega)]
  · rw [if_neg h, if_neg h]; rfl
end Go.Proofs.YtkpieljmhgfofaaDoor.X


namespace Go.Proofs.YtkpieljmhgfofaaDoor.X
open Go.RowKit Go.Proofs.YtkpieljmhgfofaaDoorW.PrintWords Go.Proofs.YtkpieljmhgfofaaDoorL
set_option linter.unusedVariables false
set_option linter.unusedSimpArgs false
theorem exB {α β : Type} {f : Nat → Option α} {g : Nat → α → Option β} {Q : β → Prop} {a : α} (hf : Ev f a) (h : ∃ v, Ev (fun k => g k a) v ∧ Q v) : ∃ v, Ev (fun k => (f k).bind (g k)) v ∧ Q v := by
  obtain ⟨v, hv, q⟩ := h
  exact ⟨v, Ev.bind hf hv, q⟩
theorem exC {β : Type} {f g : Nat → Option β} {Q : β → Prop} (e : ∀ k, g k = f k) (h : ∃ v, Ev f v ∧ Q v) : ∃ v, Ev g v ∧ Q v := by
  obtain ⟨v, hv, q⟩ := h
  exact ⟨v, Ev.congr e hv, q⟩
def ahead (n : Int) : ByteArray := dec n ++ ⟨#[32]⟩
theorem B_ahead (n : Int) : B (ahead n) = Lib.itoa n ++ [32] := by unfold ahead; rw [B_append, B_dec]; rfl
theorem ahead_size (n : Int) : (ahead n).size = (dec n).size + 1 := by unfold ahead; rw [ByteArray.size_append]; rfl
def pre (n : Int) (x : ByteArray) : ByteArray × Bool := if (B (ahead n)).isPrefixOf (B x) = true then (mk ((B x).drop (B (ahead n)).length), true) else (x, false)
theorem body_pre (n : Int) (c r : ByteArray) : (B (ahead n)) <+: B (bodyOf n c r) ∧ (B (bodyOf n c r)).drop (B (ahead n)).length = B c ++ 64 :: B r := by
  have e : B (bodyOf n c r) = B (ahead n) ++ (B c ++ 64 :: B r) := by rw [B_body, B_ahead]; simp
  rw [e]
  exact ⟨List.prefix_append _ _, by simp⟩
theorem pre_rec (n : Int) (c r : ByteArray) : pre n (bodyOf n c r) = (mk (B c ++ 64 :: B r), true) := by
  obtain ⟨h1, h2⟩ := body_pre n c r
  unfold pre
  rw [if_pos (List.isPrefixOf_iff_prefix.2 h1), h2]
theorem pre_size (n : Int) (x : ByteArray) : (pre n x).1.size ≤ x.size := by
  unfold pre
  by_cases h : (B (ahead n)).isPrefixOf (B x) = true
  · rw [if_pos h, mk_size, List.length_drop, B_length]; omega
  · rw [if_neg h]; exact Nat.le_refl _
theorem veri_size (x : ByteArray) : (veri x).1.size ≤ x.size := by
  have := (cut_size 35 (B x)).1
  rw [B_length] at this
  unfold veri
  split
  · rw [mk_size]; exact this
  · exact Nat.zero_le _
/-- What reading a record gives where there is none. -/
def noRec (s : ByteArray) : ByteArray × ByteArray × ByteArray × Bool := (⟨#[]⟩, ⟨#[]⟩, s, false)
theorem implRead_ev (n : Int) (s : ByteArray) (h0 : 0 ≤ n) (h1 : n ≤ 59) (hs : s.size ≤ 1000000000) :
    ∃ v, Ev (fun k => impl_readRecord.f k n s) v ∧ ((v.2.2.2 = true ∧ IsRec n (B s) v.1 v.2.1 (B v.2.2.1)) ∨ (v = noRec s ∧ ∀ c r t, ¬ IsRec n (B s) c r t)) := by
  have hL := cut_size 10 (B s)
  rw [B_length] at hL
  have hd := dec_size n (by omega) (by omega)
  have flags : ∀ c r t, IsRec n (B s) c r t → cutL 10 (B s) = (B (sealed (bodyOf n c r)), t, true) ∧ veri (mk (cutL 10 (B s)).1) = (bodyOf n c r, true) ∧ pre n (veri (mk (cutL 10 (B s)).1)).1 = (mk (B c ++ 64 :: B r), true) ∧
      cutL 64 (B (pre n (veri (mk (cutL 10 (B s)).1)).1).1) = (B c, B r, true) := by
    intro c r t h
    have e1 := h.line h0
    have e2 : veri (mk (cutL 10 (B s)).1) = (bodyOf n c r, true) := by rw [e1, mk_of_B, veri_rec h0 h1 h.1]
    have e3 : pre n (veri (mk (cutL 10 (B s)).1)).1 = (mk (B c ++ 64 :: B r), true) := by rw [e2, pre_rec]
    exact ⟨e1, e2, e3, by rw [e3, B_of_mk, ask_cut h.1]⟩
  unfold impl_readRecord.f
  rw [stringsCut_eq s 10 (by omega)]
  simp only [Option.bind_some]
  have hv := implVeri_ev (mk (cutL 10 (B s)).1) (by rw [mk_size]; omega)
  have hvs := veri_size (mk (cutL 10 (B s)).1)
  rw [mk_size] at hvs
  refine exB hv ?_
  have hps := pre_size n (veri (mk (cutL 10 (B s)).1)).1
  simp only [implDec n (by omega) (by omega), Option.bind_some, if_pos (show (dec n).size + 1 ≤ 9223372036854775807 by omega)]
  rw [show (dec n ++ (⟨#[32]⟩ : ByteArray)) = ahead n from rfl, stringsCutPrefix_eq _ _ (by omega) (by rw [ahead_size]; omega)]
  rw [show (if (B (ahead n)).isPrefixOf (B (veri (mk (cutL 10 (B s)).1)).1) = true then (mk ((B (veri (mk (cutL 10 (B s)).1)).1).drop (B (ahead n)).length), true) else ((veri (mk (cutL 10 (B s)).1)).1, false)) = pre n (veri (mk (cutL 10 (B s)).1)).1 from rfl]
  simp only [Option.bind_some]
  rw [stringsCut_eq _ 64 (by omega)]
  simp only [Option.bind_some]
  have fail : ∀ {g : Nat → Option (ByteArray × ByteArray × ByteArray × Bool)}, (∀ k, g k = some ((⟨#[]⟩ : ByteArray), (⟨#[]⟩ : ByteArray), s, false)) → (∀ c r t, IsRec n (B s) c r t → False) →
      ∃ v, Ev g v ∧ ((v.2.2.2 = true ∧ IsRec n (B s) v.1 v.2.1 (B v.2.2.1)) ∨ (v = noRec s ∧ ∀ c r t, ¬ IsRec n (B s) c r t)) :=
    fun hg hn => ⟨_, ev_eq hg, .inr ⟨rfl, hn⟩⟩
  by_cases f1 : (cutL 10 (B s)).2.2 = true
  · by_cases f2 : (veri (mk (cutL 10 (B s)).1)).2 = true
    · by_cases f3 : (pre n (veri (mk (cutL 10 (B s)).1)).1).2 = true
      · by_cases f4 : (cutL 64 (B (pre n (veri (mk (cutL 10 (B s)).1)).1).1)).2.2 = true
        · simp only [if_pos f1, if_pos f2, if_pos f3, if_pos f4]
          refine exB (implRec_ev _ _) ?_
          by_cases f5 : recOk (mk (cutL 64 (B (pre n (veri (mk (cutL 10 (B s)).1)).1).1)).1) (mk (cutL 64 (B (pre n (veri (mk (cutL 10 (B s)).1)).1).1)).2.1) = true
          · simp only [if_pos f5]
            refine exB (implLine_ev n _ _ h0 h1 f5) ?_
            simp only [toList_eq, if_pos (show (mk (cutL 10 (B s)).1).size + 1 ≤ 9223372036854775807 by rw [mk_size]; omega)]
            by_cases f6 : lineOf n (mk (cutL 64 (B (pre n (veri (mk (cutL 10 (B s)).1)).1).1)).1) (mk (cutL 64 (B (pre n (veri (mk (cutL 10 (B s)).1)).1).1)).2.1) = mk (cutL 10 (B s)).1 ++ ⟨#[10]⟩
            · refine ⟨_, ev_eq (fun k => if_pos f6), .inl ⟨rfl, f5, ?_⟩⟩
              show B s = B (lineOf n _ _) ++ B (mk (cutL 10 (B s)).2.1)
              rw [f6, B_append, B_of_mk, B_of_mk, List.append_assoc]
              exact cutL_found 10 (B s) f1
            · refine fail (fun k => if_neg f6) (fun c r t h => f6 ?_)
              obtain ⟨e1, e2, e3, e4⟩ := flags c r t h
              rw [e4, e1, mk_of_B, mk_of_B, mk_of_B]
              rfl
          · refine fail (fun k => if_neg f5) (fun c r t h => f5 ?_)
            obtain ⟨e1, e2, e3, e4⟩ := flags c r t h
            rw [e4, mk_of_B, mk_of_B]
            exact h.1
        · refine fail (fun k => by rw [if_pos f1, if_pos f2, if_pos f3, if_neg f4]) (fun c r t h => f4 ?_)
          rw [(flags c r t h).2.2.2]
      · refine fail (fun k => by rw [if_pos f1, if_pos f2, if_neg f3]) (fun c r t h => f3 ?_)
        rw [(flags c r t h).2.2.1]
    · refine fail (fun k => by rw [if_pos f1, if_neg f2]) (fun c r t h => f2 ?_)
      rw [(flags c r t h).2.1]
  · refine fail (fun k => by rw [if_neg f1]) (fun c r t h => f1 ?_)
    rw [(flags c r t h).1]
theorem line_of_eq {n : Int} {c r x : ByteArray} (e : lineOf n c r = x ++ ⟨#[10]⟩) : x = sealed (bodyOf n c r) := by
  have := congrArg B e
  rw [B_line, B_append] at this
  exact (B_inj (List.append_cancel_right this)).symm
theorem first_piece (c : UInt8) (s : ByteArray) : 0 < ((pieces c (B s)).map mk).length ∧ rdOf ByteArray.empty ((pieces c (B s)).map mk) 0 = mk (cutL c (B s)).1 := by
  have h := pieces_head c (B s)
  refine ⟨by have := (pieces_length c (B s)).1; simp; omega, ?_⟩
  simp [rdOf, List.getD_eq_getElem?_getD, h]
theorem specRest_ev (n : Int) (x R : ByteArray) (h0 : 0 ≤ n) (h1 : n ≤ 59) (hs : x.size ≤ 1000000000) (hRs : R.size ≤ x.size) (body2 : ∀ c r, recOk c r = true → lineOf n c r = x ++ ⟨#[10]⟩ → R = mk (B c ++ 64 :: B r)) :
    ∃ v, Ev (fun k => (spec_l1Split.f k R 64).bind fun t188 => (if 0 < (t188.length : Int) then (if ((rdOf ByteArray.empty t188 0).size : Int) = (R.size : Int) then (some ((⟨#[]⟩ : ByteArray), (⟨#[]⟩ : ByteArray), false)) else (if 0 ≤ (wrap64 (((rdOf ByteArray.empty t188 0).size : Int) + 1)) then (if (wrap64 (((rdOf ByteArray.empty t188 0).size : Int) + 1)) ≤ (R.size : Int) then ((spec_l27Good.f k (rdOf ByteArray.empty t188 0) (R.extract ((wrap64 (((rdOf ByteArray.empty t188 0).size : Int) + 1)) : Int).toNat R.size)).bind fun t193 => (if t193 = true then ((spec_l27Line.f k n (rdOf ByteArray.empty t188 0) (R.extract ((wrap64 (((rdOf ByteArray.empty t188 0).size : Int) + 1)) : Int).toNat R.size)).bind fun t194 => (if x.size + 1 ≤ 9223372036854775807 then (some (rdOf ByteArray.empty t188 0, R.extract ((wrap64 (((rdOf ByteArray.empty t188 0).size : Int) + 1)) : Int).toNat R.size, (t194.toList == (x ++ (⟨#[10]⟩ : ByteArray)).toList))) else (none))) else (some (rdOf ByteArray.empty t188 0, R.extract ((wrap64 (((rdOf ByteArray.empty t188 0).size : Int) + 1)) : Int).toNat R.size, false)))) else (none)) else (none))) else (none))) v ∧ ((v.2.2 = true ∧ recOk v.1 v.2.1 = true ∧ lineOf n v.1 v.2.1 = x ++ ⟨#[10]⟩) ∨ (v.2.2 = false ∧ ∀ c r, recOk c r = true → lineOf n c r ≠ x ++ ⟨#[10]⟩)) := by
  refine exB (specSplit_ev R 64 (by omega)) ?_
  obtain ⟨q1, q2⟩ := first_piece 64 R
  simp only [q2, if_pos (show (0 : Int) < (((pieces 64 (B R)).map mk).length : Int) by omega)]
  clear q1 q2
  have hRl := B_length R
  have hfd := cutL_found 64 (B R)
  have hlo := cutL_lost 64 (B R)
  have hask : ∀ c r, recOk c r = true → lineOf n c r = x ++ ⟨#[10]⟩ → cutL 64 (B R) = (B c, B r, true) := by
    intro c r h e; rw [body2 c r h e, B_of_mk, ask_cut h]
  clear body2
  obtain ⟨a, b, f, hK⟩ : ∃ a b f, cutL 64 (B R) = (a, b, f) := ⟨_, _, _, rfl⟩
  rw [hK] at hfd hlo hask ⊢
  clear hK
  dsimp only at hfd hlo hask ⊢
  cases f with
  | true =>
    have hf : B R = a ++ 64 :: b := hfd rfl
    clear hfd hlo
    have hl := congrArg List.length hf
    simp only [List.length_append, List.length_cons] at hl
    have w1 : wrap64 ((a.length : Int) + 1) = (a.length : Int) + 1 := wrap_id (by omega) (by omega)
    have hz : R.extract ((a.length : Int) + 1).toNat R.size = mk b := by
      refine B_inj ?_
      rw [B_extract, B_of_mk, List.take_of_length_le (by simp; omega), show ((a.length : Int) + 1).toNat = a.length + 1 by omega]
      rw [hf, List.drop_append, List.drop_of_length_le (by omega)]
      simp
    refine exC (f := fun k => ((spec_l27Good.f k (mk a) (mk b)).bind fun t193 => (if t193 = true then ((spec_l27Line.f k n (mk a) (mk b)).bind fun t194 => (if x.size + 1 ≤ 9223372036854775807 then some (mk a, mk b, (t194.toList == (x ++ (⟨#[10]⟩ : ByteArray)).toList)) else none)) else some (mk a, mk b, false)))) (fun k => by rw [mk_size, if_neg (by omega), w1, if_pos (by omega), if_pos (by omega), hz]) ?_
    refine exB (specRec_ev _ _ (by rw [mk_size]; omega) (by rw [mk_size]; omega)) ?_
    by_cases f4 : recOk (mk a) (mk b) = true
    · simp only [if_pos f4]
      refine exB (specLine_ev n _ _ h0 h1 f4) ?_
      simp only [if_pos (show x.size + 1 ≤ 9223372036854775807 by omega)]
      refine ⟨_, Ev.now _, ?_⟩
      by_cases f5 : lineOf n (mk a) (mk b) = x ++ ⟨#[10]⟩
      · exact .inl ⟨by rw [f5]; simp, f4, f5⟩
      · refine .inr ⟨?_, fun c r h e => f5 ?_⟩
        · rw [← toList_eq] at f5
          exact beq_eq_false_iff_ne.2 f5
        · have := hask c r h e
          simp only [Prod.mk.injEq] at this
          rw [this.1, this.2.1, mk_of_B, mk_of_B, e]
    · refine ⟨_, ev_eq (fun k => if_neg f4), .inr ⟨rfl, fun c r h e => f4 ?_⟩⟩
      have := hask c r h e
      simp only [Prod.mk.injEq] at this
      rw [this.1, this.2.1, mk_of_B, mk_of_B]; exact h
  | false =>
    have hl : a = B R := by have := hlo rfl; simp only [Prod.mk.injEq] at this; exact this.1
    have hm : (mk a).size = R.size := by rw [hl]; exact (mk_size _).trans hRl
    refine ⟨_, ev_eq (fun k => if_pos (by omega)), .inr ⟨rfl, fun c r h e => ?_⟩⟩
    have := hask c r h e
    simp at this
theorem specRead_ev (n : Int) (x : ByteArray) (h0 : 0 ≤ n) (h1 : n ≤ 59) (hs : x.size ≤ 1000000000) :
    ∃ v, Ev (fun k => spec_l27Read.f k x n) v ∧ ((v.2.2 = true ∧ recOk v.1 v.2.1 = true ∧ lineOf n v.1 v.2.1 = x ++ ⟨#[10]⟩) ∨ (v.2.2 = false ∧ ∀ c r, recOk c r = true → lineOf n c r ≠ x ++ ⟨#[10]⟩)) := by
  have hd := dec_size n (by omega) (by omega)
  have hT := (cut_size 35 (B x)).1
  rw [B_length] at hT
  have fail : ∀ {g : Nat → Option (ByteArray × ByteArray × Bool)} {a b : ByteArray}, (∀ k, g k = some (a, b, false)) → (∀ c r, recOk c r = true → lineOf n c r = x ++ ⟨#[10]⟩ → False) →
      ∃ v, Ev g v ∧ ((v.2.2 = true ∧ recOk v.1 v.2.1 = true ∧ lineOf n v.1 v.2.1 = x ++ ⟨#[10]⟩) ∨ (v.2.2 = false ∧ ∀ c r, recOk c r = true → lineOf n c r ≠ x ++ ⟨#[10]⟩)) :=
    fun hg hn => ⟨_, ev_eq hg, .inr ⟨rfl, hn⟩⟩
  have body : ∀ c r, recOk c r = true → lineOf n c r = x ++ ⟨#[10]⟩ → mk (cutL 35 (B x)).1 = bodyOf n c r := by
    intro c r h e
    rw [line_of_eq e, body_cut h0 h1 h, mk_of_B]
  unfold spec_l27Read.f
  refine exB (specNum_ev n (by omega) (by omega)) ?_
  simp only [if_pos (show (dec n).size + 1 ≤ 9223372036854775807 by omega)]
  refine exB (specSplit_ev x 35 hs) ?_
  obtain ⟨p1, p2⟩ := first_piece 35 x
  simp only [p2, if_pos (show (0 : Int) < (((pieces 35 (B x)).map mk).length : Int) by omega)]
  rw [show (dec n ++ (⟨#[32]⟩ : ByteArray)) = ahead n from rfl]
  have hTs : (mk (cutL 35 (B x)).1).size ≤ x.size := by rw [mk_size]; exact hT
  have hTb : (B (mk (cutL 35 (B x)).1)).length = (mk (cutL 35 (B x)).1).size := B_length _
  generalize mk (cutL 35 (B x)).1 = T at hTs hTb body ⊢
  have has := B_length (ahead n)
  have tf : ∀ {g : Nat → Option (ByteArray × ByteArray × Bool)}, (∀ k, g k = spec_l27Read.j0 k x n (ahead n) T true) → ∃ k0, ∀ k, k0 ≤ k → g k = some ((⟨#[]⟩ : ByteArray), (⟨#[]⟩ : ByteArray), false) := by
    intro g hg
    refine ⟨1, fun k hk => ?_⟩
    obtain ⟨k, rfl⟩ : ∃ m, k = m + 1 := ⟨k - 1, by omega⟩
    rw [hg]; simp only [spec_l27Read.j0]; exact if_pos trivial
  by_cases f1 : (T.size : Int) < ((ahead n).size : Int)
  · simp only [if_pos f1]
    refine ⟨_, tf (fun k => rfl), .inr ⟨rfl, fun c r h e => ?_⟩⟩
    have := (body_pre n c r).1.length_le
    rw [body c r h e] at f1
    rw [B_length, B_length] at this
    omega
  · simp only [if_neg f1, if_pos (show (0 : Int) ≤ ((ahead n).size : Int) by omega), if_pos (show ((ahead n).size : Int) ≤ (T.size : Int) by omega)]
    have hx : T.extract 0 (((ahead n).size : Int) : Int).toNat = mk ((B T).take (B (ahead n)).length) := B_inj (by rw [B_extract, B_of_mk, has]; rfl)
    have hy : T.extract (((ahead n).size : Int) : Int).toNat T.size = mk ((B T).drop (B (ahead n)).length) := B_inj (by rw [B_extract, B_of_mk, has, Int.toNat_natCast, List.take_of_length_le (by simp; omega)])
    rw [hx]
    have ht : ((mk ((B T).take (B (ahead n)).length)).toList != (ahead n).toList) = !(B (ahead n)).isPrefixOf (B T) := by
      rw [B_toList, B_toList, B_of_mk]
      simp only [bne, Bool.not_inj_iff]
      rw [Bool.eq_iff_iff]
      simp only [beq_iff_eq, List.isPrefixOf_iff_prefix]
      constructor
      · intro z; rw [← z]; exact List.take_prefix _ _
      · intro z; exact (List.prefix_iff_eq_take.1 z).symm
    rw [ht]
    by_cases f2 : (B (ahead n)).isPrefixOf (B T) = true
    · simp only [f2, Bool.not_true]
      have hRs : (mk ((B T).drop (B (ahead n)).length)).size ≤ x.size := by rw [mk_size, List.length_drop]; omega
      have body2 : ∀ c r, recOk c r = true → lineOf n c r = x ++ ⟨#[10]⟩ → mk ((B T).drop (B (ahead n)).length) = mk (B c ++ 64 :: B r) := by
        intro c r h e; rw [body c r h e, (body_pre n c r).2]
      suffices h : ∃ v, Ev (fun k => (spec_l1Split.f k (mk ((B T).drop (B (ahead n)).length)) 64).bind fun t188 => (if 0 < (t188.length : Int) then (if ((rdOf ByteArray.empty t188 0).size : Int) = ((mk ((B T).drop (B (ahead n)).length)).size : Int) then (some ((⟨#[]⟩ : ByteArray), (⟨#[]⟩ : ByteArray), false)) else (if 0 ≤ (wrap64 (((rdOf ByteArray.empty t188 0).size : Int) + 1)) then (if (wrap64 (((rdOf ByteArray.empty t188 0).size : Int) + 1)) ≤ ((mk ((B T).drop (B (ahead n)).length)).size : Int) then ((spec_l27Good.f k (rdOf ByteArray.empty t188 0) ((mk ((B T).drop (B (ahead n)).length)).extract ((wrap64 (((rdOf ByteArray.empty t188 0).size : Int) + 1)) : Int).toNat (mk ((B T).drop (B (ahead n)).length)).size)).bind fun t193 => (if t193 = true then ((spec_l27Line.f k n (rdOf ByteArray.empty t188 0) ((mk ((B T).drop (B (ahead n)).length)).extract ((wrap64 (((rdOf ByteArray.empty t188 0).size : Int) + 1)) : Int).toNat (mk ((B T).drop (B (ahead n)).length)).size)).bind fun t194 => (if x.size + 1 ≤ 9223372036854775807 then (some (rdOf ByteArray.empty t188 0, (mk ((B T).drop (B (ahead n)).length)).extract ((wrap64 (((rdOf ByteArray.empty t188 0).size : Int) + 1)) : Int).toNat (mk ((B T).drop (B (ahead n)).length)).size, (t194.toList == (x ++ (⟨#[10]⟩ : ByteArray)).toList))) else (none))) else (some (rdOf ByteArray.empty t188 0, (mk ((B T).drop (B (ahead n)).length)).extract ((wrap64 (((rdOf ByteArray.empty t188 0).size : Int) + 1)) : Int).toNat (mk ((B T).drop (B (ahead n)).length)).size, false)))) else (none)) else (none))) else (none))) v ∧ ((v.2.2 = true ∧ recOk v.1 v.2.1 = true ∧ lineOf n v.1 v.2.1 = x ++ ⟨#[10]⟩) ∨ (v.2.2 = false ∧ ∀ c r, recOk c r = true → lineOf n c r ≠ x ++ ⟨#[10]⟩)) by
        obtain ⟨v, hv, hq⟩ := h
        refine ⟨v, Ev.step (fun k => ?_) hv, hq⟩
        simp only [spec_l27Read.j0]
        rw [if_neg (by decide), if_pos (by omega), if_pos (by omega), hy]
      exact specRest_ev n x (mk ((B T).drop (B (ahead n)).length)) h0 h1 hs hRs body2
    · simp only [f2, Bool.not_false]
      refine ⟨_, tf (fun k => rfl), .inr ⟨rfl, fun c r h e => f2 ?_⟩⟩
      rw [body c r h e]
      exact List.isPrefixOf_iff_prefix.2 (body_pre n c r).1
end Go.Proofs.YtkpieljmhgfofaaDoor.X


namespace Go.Proofs.YtkpieljmhgfofaaDoor.X
open Go.RowKit Go.Proofs.YtkpieljmhgfofaaDoorW.PrintWords Go.Proofs.YtkpieljmhgfofaaDoorL
set_option linter.unusedVariables false
set_option linter.unusedSimpArgs false
abbrev RecT := S27
open Classical in
noncomputable def recAt (n : Int) (s : List UInt8) : Option (ByteArray × ByteArray × List UInt8) :=
  if h : ∃ p : ByteArray × ByteArray × List UInt8, IsRec n s p.1 p.2.1 p.2.2 then some h.choose else none
theorem recAt_some {n : Int} {s : List UInt8} {c r : ByteArray} {t : List UInt8} (h0 : 0 ≤ n) (h1 : n ≤ 59) (h : IsRec n s c r t) : recAt n s = some (c, r, t) := by
  have hx : ∃ p : ByteArray × ByteArray × List UInt8, IsRec n s p.1 p.2.1 p.2.2 := ⟨(c, r, t), h⟩
  unfold recAt
  rw [dif_pos hx]
  obtain ⟨a, b, d⟩ := IsRec.inj h0 h1 hx.choose_spec h
  rw [← a, ← b, ← d]
theorem recAt_none {n : Int} {s : List UInt8} (h : ∀ c r t, ¬ IsRec n s c r t) : recAt n s = none := by
  unfold recAt
  rw [dif_neg (fun z => by obtain ⟨p, hp⟩ := z; exact h _ _ _ hp)]
theorem recAt_is {n : Int} {s : List UInt8} {p : ByteArray × ByteArray × List UInt8} (h : recAt n s = some p) : IsRec n s p.1 p.2.1 p.2.2 := by
  unfold recAt at h
  split at h
  · rename_i hx
    simp only [Option.some.injEq] at h
    rw [← h]; exact hx.choose_spec
  · cases h
theorem line_pos (n : Int) (c r : ByteArray) : 1 ≤ (B (lineOf n c r)).length := by rw [B_line]; simp
theorem IsRec.lt {n : Int} {s : List UInt8} {c r : ByteArray} {t : List UInt8} (h : IsRec n s c r t) : t.length < s.length := by
  have := line_pos n c r
  rw [h.2, List.length_append]; omega
theorem recAt_nil (n : Int) : recAt n [] = none := recAt_none (fun c r t h => by have := h.lt; simp at this)
/-- The records from the n-th on, d at most, and what is left. -/
noncomputable def reads : Nat → Nat → List UInt8 → List RecT × List UInt8
  | 0, _, s => ([], s)
  | d + 1, n, s => match recAt (n : Int) s with
    | none => ([], s)
    | some p => ((⟨p.1, p.2.1⟩ : RecT) :: (reads d (n + 1) p.2.2).1, (reads d (n + 1) p.2.2).2)
noncomputable def endsOf (L : Nat) : Nat → Nat → List UInt8 → List Int
  | 0, _, _ => []
  | d + 1, n, s => match recAt (n : Int) s with
    | none => []
    | some p => ((L : Int) - (p.2.2.length : Int)) :: endsOf L d (n + 1) p.2.2
theorem reads_none {d n : Nat} {s : List UInt8} (h : recAt (n : Int) s = none) : reads d n s = ([], s) := by
  cases d with
  | zero => rfl
  | succ d => unfold reads; rw [h]
theorem reads_some {d n : Nat} {s : List UInt8} {p : ByteArray × ByteArray × List UInt8} (h : recAt (n : Int) s = some p) : reads (d + 1) n s = ((⟨p.1, p.2.1⟩ : RecT) :: (reads d (n + 1) p.2.2).1, (reads d (n + 1) p.2.2).2) := by
  conv => lhs; unfold reads
  rw [h]
theorem endsOf_none {L d n : Nat} {s : List UInt8} (h : recAt (n : Int) s = none) : endsOf L d n s = [] := by
  cases d with
  | zero => rfl
  | succ d => unfold endsOf; rw [h]
theorem endsOf_some {L d n : Nat} {s : List UInt8} {p : ByteArray × ByteArray × List UInt8} (h : recAt (n : Int) s = some p) : endsOf L (d + 1) n s = ((L : Int) - (p.2.2.length : Int)) :: endsOf L d (n + 1) p.2.2 := by
  conv => lhs; unfold endsOf
  rw [h]
theorem reads_bound : ∀ (d n : Nat) (s : List UInt8), (reads d n s).1.length ≤ d ∧ (reads d n s).2.length ≤ s.length
  | 0, n, s => by simp [reads]
  | d + 1, n, s => by
    cases h : recAt (n : Int) s with
    | none => rw [reads_none h]; simp
    | some p =>
      have ih := reads_bound d (n + 1) p.2.2
      have := (recAt_is h).lt
      rw [reads_some h]; simp; omega
theorem implReads_ev (s : ByteArray) (hs : s.size ≤ 1000000000) : Ev (fun k => impl_readRecords.f k s) ((reads 60 0 (B s)).1, 0 :: endsOf s.size 60 0 (B s), (s.size : Int) - ((reads 60 0 (B s)).2.length : Int)) := by
  have key : ∀ (d n : Nat) (xs : List RecT) (S : List Int) (t : ByteArray), n + d = 60 → xs.length = n → t.size ≤ s.size →
      Ev (fun k => impl_readRecords.l0 k s xs S t) (xs ++ (reads d n (B t)).1, S ++ endsOf s.size d n (B t), (s.size : Int) - ((reads d n (B t)).2.length : Int)) := by
    intro d
    induction d with
    | zero =>
      intro n xs S t hn hx ht
      refine Ev.step (f := fun _ => some _) (fun k => ?_) (Ev.now _)
      simp only [impl_readRecords.l0]
      rw [if_neg (by omega), wrap_id (by omega) (by omega)]
      simp [reads, endsOf, B_length]
    | succ d ih =>
      intro n xs S t hn hx ht
      obtain ⟨v, hv, hq⟩ := implRead_ev (n : Int) t (by omega) (by omega) (by omega)
      refine Ev.step (f := fun k => (impl_readRecord.f k (n : Int) t).bind fun b => if b.2.2.2 = true then impl_readRecords.l0 k s (xs ++ [(⟨b.1, b.2.1⟩ : RecT)]) (S ++ [wrap64 ((s.size : Int) - (b.2.2.1.size : Int))]) b.2.2.1 else some (xs, S, wrap64 ((s.size : Int) - (t.size : Int)))) (fun k => ?_) (Ev.bind hv ?_)
      · simp only [impl_readRecords.l0]
        rw [if_pos (by omega), hx]
      · rcases hq with ⟨f, hr⟩ | ⟨rfl, hno⟩
        · have hsz : v.2.2.1.size ≤ s.size := by have := hr.lt; rw [B_length, B_length] at this; omega
          rw [reads_some (recAt_some (by omega) (by omega) hr), endsOf_some (recAt_some (by omega) (by omega) hr)]
          simp only [if_pos f, wrap_id (x := (s.size : Int) - (v.2.2.1.size : Int)) (by omega) (by omega)]
          have i1 := ih (n + 1) (xs ++ [(⟨v.1, v.2.1⟩ : RecT)]) (S ++ [(s.size : Int) - (v.2.2.1.size : Int)]) v.2.2.1 (by omega) (by simp; omega) hsz
          rw [List.append_assoc, List.append_assoc] at i1
          rw [B_length]
          exact i1
        · rw [reads_none (recAt_none hno), endsOf_none (recAt_none hno), B_length]
          refine ev_eq (fun k => ?_)
          show (if false = true then _ else some (xs, S, wrap64 ((s.size : Int) - (t.size : Int)))) = _
          rw [if_neg (by decide), wrap_id (by omega) (by omega)]
          simp
  have := key 60 0 [] [0] s (by omega) rfl (Nat.le_refl _)
  exact Ev.congr (f := fun k => impl_readRecords.l0 k s [] [0] s) (fun k => rfl) (by simpa using this)
theorem specOpen_ev (s : ByteArray) (hs : s.size ≤ 1000000000) : Ev (fun k => spec_l27Open.f k s) ((reads 60 0 (B s)).1, (s.size : Int) - ((reads 60 0 (B s)).2.length : Int)) := by
  have hBs := B_length s
  have key : ∀ (d n at_ : Nat) (xs : List RecT), n + d = 60 → xs.length = n → at_ ≤ s.size →
      Ev (fun k => spec_l27Open.l0 k s xs (at_ : Int)) (xs ++ (reads d n ((B s).drop at_)).1, (s.size : Int) - ((reads d n ((B s).drop at_)).2.length : Int)) := by
    intro d
    induction d with
    | zero =>
      intro n at_ xs hn hx ha
      have fin : ∀ b, b = false → Ev (fun k => spec_l27Open.j1 k s xs (at_ : Int) b) (xs ++ (reads 0 n ((B s).drop at_)).1, (s.size : Int) - ((reads 0 n ((B s).drop at_)).2.length : Int)) := by
        rintro b rfl
        refine Ev.step (f := fun _ => some _) (fun k => ?_) (Ev.now _)
        simp only [spec_l27Open.j1]
        rw [if_neg (by decide)]
        simp [reads]; omega
      by_cases h : (at_ : Int) < (s.size : Int)
      · refine Ev.step (f := fun k => spec_l27Open.j1 k s xs (at_ : Int) (decide ((xs.length : Int) < 60))) (fun k => ?_) (fin _ (decide_eq_false (by omega)))
        simp only [spec_l27Open.l0]; rw [if_pos h]
      · refine Ev.step (f := fun k => spec_l27Open.j1 k s xs (at_ : Int) false) (fun k => ?_) (fin _ rfl)
        simp only [spec_l27Open.l0]; rw [if_neg h]
    | succ d ih =>
      intro n at_ xs hn hx ha
      by_cases h : (at_ : Int) < (s.size : Int)
      · have hrest : s.extract (at_ : Int).toNat s.size = mk ((B s).drop at_) := B_inj (by rw [B_extract, B_of_mk, Int.toNat_natCast, List.take_of_length_le (by simp; omega)])
        have hrl : ((B s).drop at_).length = s.size - at_ := by rw [List.length_drop, hBs]
        have hrs : (mk ((B s).drop at_)).size = s.size - at_ := by rw [mk_size, hrl]
        refine Ev.step (f := fun k => spec_l27Open.j1 k s xs (at_ : Int) true) (fun k => ?_) ?_
        · simp only [spec_l27Open.l0]; rw [if_pos h, decide_eq_true (by omega)]
        obtain ⟨q1, q2⟩ := first_piece 10 (mk ((B s).drop at_))
        have q3 := pieces_two 10 ((B s).drop at_)
        have hcs := (cut_size 10 ((B s).drop at_)).1
        rw [B_of_mk] at q2
        obtain ⟨v, hv, hq⟩ := specRead_ev (n : Int) (mk (cutL 10 ((B s).drop at_)).1) (by omega) (by omega) (by rw [mk_size]; omega)
        refine Ev.step (f := fun k => (spec_l1Split.f k (mk ((B s).drop at_)) 10).bind fun t198 => if 0 < (t198.length : Int) then ((spec_l27Read.f k (rdOf ByteArray.empty t198 0) (xs.length : Int)).bind fun bt202 => (if (t198.length : Int) < 2 then (some (xs, (at_ : Int))) else (if bt202.2.2 = true then (if xs.length < 4398046511104 then (spec_l27Open.l0 k s (xs ++ [(⟨bt202.1, bt202.2.1⟩ : RecT)]) (wrap64 ((wrap64 ((at_ : Int) + ((rdOf ByteArray.empty t198 0).size : Int))) + 1))) else none) else (some (xs, (at_ : Int)))))) else none) (fun k => ?_) (Ev.bind (specSplit_ev (mk ((B s).drop at_)) 10 (by omega)) ?_)
        · simp only [spec_l27Open.j1]
          rw [if_pos trivial, if_pos (by omega), if_pos (by omega), hrest]
        · simp only [B_of_mk, q2, List.length_map, hx]
          refine Ev.congr (f := fun k => (spec_l27Read.f k (mk (cutL 10 ((B s).drop at_)).1) (n : Int)).bind fun bt202 => (if ((pieces 10 ((B s).drop at_)).length : Int) < 2 then (some (xs, (at_ : Int))) else (if bt202.2.2 = true then (if xs.length < 4398046511104 then (spec_l27Open.l0 k s (xs ++ [(⟨bt202.1, bt202.2.1⟩ : RecT)]) (wrap64 ((wrap64 ((at_ : Int) + ((mk (cutL 10 ((B s).drop at_)).1).size : Int))) + 1))) else none) else (some (xs, (at_ : Int)))))) (fun k => by rw [if_pos (by have := (pieces_length 10 ((B s).drop at_)).1; omega)]; try simp only [hx]) (Ev.bind hv ?_)
          rw [mk_size]
          have hfd := cutL_found 10 ((B s).drop at_)
          have hln : ∀ c r t, 0 ≤ (n : Int) → IsRec (n : Int) ((B s).drop at_) c r t → cutL 10 ((B s).drop at_) = (B (sealed (bodyOf n c r)), t, true) := fun c r t h0 h => h.line h0
          have stop : (∀ c r t, ¬ IsRec (n : Int) ((B s).drop at_) c r t) → ((xs ++ (reads (d + 1) n ((B s).drop at_)).1, (s.size : Int) - ((reads (d + 1) n ((B s).drop at_)).2.length : Int)) : List RecT × Int) = (xs, (at_ : Int)) := by
            intro hno
            rw [reads_none (recAt_none hno)]
            simp only [List.append_nil, Prod.mk.injEq, true_and]; omega
          have hdd : ∀ m, ((B s).drop at_).drop m = (B s).drop (at_ + m) := fun m => by rw [List.drop_drop]
          have step := fun (v1 v2 : ByteArray) (t : List UInt8) (hr : IsRec (n : Int) ((B s).drop at_) v1 v2 t) => reads_some (d := d) (recAt_some (n := (n : Int)) (by omega) (by omega) hr)
          generalize (B s).drop at_ = R at *
          obtain ⟨a, b, f, hK⟩ : ∃ a b f, cutL 10 R = (a, b, f) := ⟨_, _, _, rfl⟩
          rw [hK] at hfd hcs q3 hq hln ⊢
          dsimp only at hfd hcs q3 hq hln ⊢
          clear hK hv
          cases f with
          | true =>
            have hR : R = a ++ 10 :: b := hfd rfl
            have hl := congrArg List.length hR
            simp only [List.length_append, List.length_cons] at hl
            have h2 : 2 ≤ (pieces 10 R).length := q3 ▸ rfl
            rcases hq with ⟨f, hg, hr⟩ | ⟨f, hno⟩
            · have hrec : IsRec (n : Int) R v.1 v.2.1 b := ⟨hg, by rw [hr, B_append, B_of_mk, hR, List.append_assoc]; rfl⟩
              rw [step _ _ _ hrec]
              have hb : b = (B s).drop (at_ + a.length + 1) := by
                have := hdd (a.length + 1)
                rw [← Nat.add_assoc] at this
                rw [← this, hR, List.drop_append, List.drop_of_length_le (by omega)]
                simp
              have i1 := ih (n + 1) (at_ + a.length + 1) (xs ++ [(⟨v.1, v.2.1⟩ : RecT)]) (by omega) (by simp; omega) (by omega)
              rw [← hb, List.append_assoc] at i1
              refine Ev.congr (fun k => ?_) i1
              rw [if_neg (by omega), if_pos f, if_pos (by omega), wrap_id (x := (at_ : Int) + (a.length : Int)) (by omega) (by omega), wrap_id (x := (at_ : Int) + (a.length : Int) + 1) (by omega) (by omega)]
              rfl
            · rw [stop (fun c r t h => hno c r h.1 (by
                have e := hln c r t (by omega) h
                simp only [Prod.mk.injEq] at e
                refine B_inj ?_
                rw [B_line, B_append, B_of_mk, e.1]; rfl))]
              exact ev_eq (fun k => by rw [if_neg (by omega), if_neg (by rw [f]; decide)])
          | false =>
            have h2 : ¬ 2 ≤ (pieces 10 R).length := fun z => by rw [q3] at z; cases z
            rw [stop (fun c r t h => by have e := hln c r t (by omega) h; simp at e)]
            exact ev_eq (fun k => by rw [if_pos (by omega)])
      · obtain rfl : at_ = s.size := by omega
        have e : (B s).drop s.size = [] := List.drop_of_length_le (by omega)
        rw [e, reads_none (recAt_nil _)]
        refine Ev.step (f := fun k => spec_l27Open.j1 k s xs (s.size : Int) false) (fun k => ?_) (Ev.step (f := fun _ => some _) (fun k => ?_) (Ev.now _))
        · simp only [spec_l27Open.l0]; rw [if_neg h]
        · simp only [spec_l27Open.j1]; rw [if_neg (by decide)]; simp
  have := key 60 0 0 [] (by omega) rfl (Nat.zero_le _)
  exact Ev.congr (f := fun k => spec_l27Open.l0 k s [] 0) (fun k => rfl) (by simpa using this)
end Go.Proofs.YtkpieljmhgfofaaDoor.X


-- written by a program of this session (wip/ext.py) out of the translation. Not trusted: Lean checks it.
namespace Go.Proofs.YtkpieljmhgfofaaDoor.X
open Go.RowKit Go.Proofs.YtkpieljmhgfofaaDoorW.PrintWords Go.Proofs.YtkpieljmhgfofaaDoorW.PrintLast Go.Proofs.YtkpieljmhgfofaaDoorW.PrintMore
attribute [local go_sem] max2_int min2_int max_two min_two max_three min_three max_four min_four   -- for this text's walks alone
open Go.Proofs.YtkpieljmhgfofaaDoorG
set_option linter.unusedVariables false
set_option linter.unusedSimpArgs false

def laws_szLog.f (a0_0 : ByteArray) (a0_1 : ByteArray) (a0_2 : Int) (a1 : Int) : Option (Int) := if (wrap64 (a1 - (a0_0.size : Int))) < 0 then (some (-1)) else (if (wrap64 ((wrap64 (a1 - (a0_0.size : Int))) - (a0_1.size : Int))) < 0 then (some (-1)) else (some (wrap64 ((wrap64 (a1 - (a0_0.size : Int))) - (a0_1.size : Int)))))
set_option maxHeartbeats 8000000 in
set_option maxRecDepth 100000 in
theorem laws_szLog.calls (a0_0 : ByteArray) (a0_1 : ByteArray) (a0_2 : Int) (a1 : Int) (r : Int) (w : World) (h : laws_szLog.f a0_0 a0_1 a0_2 a1 = some r) :
    Calls Tryd.prog 20 #[.agg #[.string a0_0, .string a0_1, .int .i64 a0_2], .int .i64 a1] w fun e w' => e = .returned (.int .i64 r) ∧ Below w.heap.size w w' := by
  have hu36 := Tryd.underlying36
  have HB := Aside0.mk (Below.refl w.heap.size w)
  have H : (if (wrap64 (a1 - (a0_0.size : Int))) < 0 then (some (-1)) else (if (wrap64 ((wrap64 (a1 - (a0_0.size : Int))) - (a0_1.size : Int))) < 0 then (some (-1)) else (some (wrap64 ((wrap64 (a1 - (a0_0.size : Int))) - (a0_1.size : Int)))))) = some r := h
  clear h
  by_cases c3 : (wrap64 (a1 - (a0_0.size : Int))) < 0
  · rw [if_pos c3] at H
    have c3b0 : decide ((wrap64 (a1 - (a0_0.size : Int))) < 0) = true := decide_eq_true c3
    clear c3
    obtain rfl := Option.some.inj H
    go_enter Tryd.func20, Tryd.ntmps20
    go_wp2_with (first | ((with_reducible refine gate_dst (N := 2) rfl ?_); refine box_event ?hg (N := 2) ?hd (cs := #[.string a0_0, .string a0_1, .int .i64 a0_2]) (t := 36) ?hr ?_; (case hd => rfl); (case hg => rfl); (case hr => first | (go_simp; done) | (go_simp; rfl)); intro gb263 hg w4 hbox hb; have n0_ := Aside0.mk (below_step (by repeat (first | (with_reducible first | exact HB.out | apply below_alloc | apply pw_below_drewN | apply below_drew1) | exact HB.out)) hb); have n1_ := Aside0.mk (hbox); have n2_ := Aside0.mk ((by rw [hg]; exact (below_size (by repeat (first | (with_reducible first | exact HB.out | apply below_alloc | apply pw_below_drewN | apply below_drew1) | exact HB.out))) : w.heap.size ≤ gb263)); have n3_ := Aside0.mk ((by rw [hg]; exact (below_size (by repeat (first | (with_reducible first | exact HB.out | apply below_alloc | apply pw_below_drewN | apply below_drew1) | exact HB.out))) : w.heap.size ≤ gb263)); clear HB; have HB := n0_; have BK263 := n1_; have GW263 := n2_; have GE263 := n3_; clear n0_ n1_ n2_ n3_; clear hb hbox hg; have hcz5_0 : w4.cell? ⟨gb263, 0, none⟩ = some (.string a0_0) := (blk_cell BK263.out 0).trans rfl; have hcz5_1 : w4.cell? ⟨gb263, 1, none⟩ = some (.string a0_1) := (blk_cell BK263.out 1).trans rfl; have hcz5_2 : w4.cell? ⟨gb263, 2, none⟩ = some (.int .i64 a0_2) := (blk_cell BK263.out 2).trans rfl; have hfz5_0 := blk_frozen BK263.out 0; have hfz5_1 := blk_frozen BK263.out 1; have hfz5_2 := blk_frozen BK263.out 2))
    go_ret
    exact ⟨by first | rfl | (simp [errW_none, errW_some] <;> rfl) | (simp [*, errW_none, errW_some] <;> rfl), by repeat (first | (with_reducible first | exact HB.out | apply below_alloc | apply pw_below_drewN | apply below_drew1 | refine below_set ?_ GE263.out) | exact HB.out)⟩
  · rw [if_neg c3] at H
    have c3b0 : decide ((wrap64 (a1 - (a0_0.size : Int))) < 0) = false := decide_eq_false c3
    clear c3
    by_cases c6 : (wrap64 ((wrap64 (a1 - (a0_0.size : Int))) - (a0_1.size : Int))) < 0
    · rw [if_pos c6] at H
      have c6b0 : decide ((wrap64 ((wrap64 (a1 - (a0_0.size : Int))) - (a0_1.size : Int))) < 0) = true := decide_eq_true c6
      clear c6
      obtain rfl := Option.some.inj H
      go_enter Tryd.func20, Tryd.ntmps20
      go_wp2_with (first | ((with_reducible refine gate_dst (N := 2) rfl ?_); refine box_event ?hg (N := 2) ?hd (cs := #[.string a0_0, .string a0_1, .int .i64 a0_2]) (t := 36) ?hr ?_; (case hd => rfl); (case hg => rfl); (case hr => first | (go_simp; done) | (go_simp; rfl)); intro gb263 hg w7 hbox hb; have n0_ := Aside0.mk (below_step (by repeat (first | (with_reducible first | exact HB.out | apply below_alloc | apply pw_below_drewN | apply below_drew1) | exact HB.out)) hb); have n1_ := Aside0.mk (hbox); have n2_ := Aside0.mk ((by rw [hg]; exact (below_size (by repeat (first | (with_reducible first | exact HB.out | apply below_alloc | apply pw_below_drewN | apply below_drew1) | exact HB.out))) : w.heap.size ≤ gb263)); have n3_ := Aside0.mk ((by rw [hg]; exact (below_size (by repeat (first | (with_reducible first | exact HB.out | apply below_alloc | apply pw_below_drewN | apply below_drew1) | exact HB.out))) : w.heap.size ≤ gb263)); clear HB; have HB := n0_; have BK263 := n1_; have GW263 := n2_; have GE263 := n3_; clear n0_ n1_ n2_ n3_; clear hb hbox hg; have hcz8_0 : w7.cell? ⟨gb263, 0, none⟩ = some (.string a0_0) := (blk_cell BK263.out 0).trans rfl; have hcz8_1 : w7.cell? ⟨gb263, 1, none⟩ = some (.string a0_1) := (blk_cell BK263.out 1).trans rfl; have hcz8_2 : w7.cell? ⟨gb263, 2, none⟩ = some (.int .i64 a0_2) := (blk_cell BK263.out 2).trans rfl; have hfz8_0 := blk_frozen BK263.out 0; have hfz8_1 := blk_frozen BK263.out 1; have hfz8_2 := blk_frozen BK263.out 2))
      go_ret
      exact ⟨by first | rfl | (simp [errW_none, errW_some] <;> rfl) | (simp [*, errW_none, errW_some] <;> rfl), by repeat (first | (with_reducible first | exact HB.out | apply below_alloc | apply pw_below_drewN | apply below_drew1 | refine below_set ?_ GE263.out) | exact HB.out)⟩
    · rw [if_neg c6] at H
      have c6b0 : decide ((wrap64 ((wrap64 (a1 - (a0_0.size : Int))) - (a0_1.size : Int))) < 0) = false := decide_eq_false c6
      clear c6
      obtain rfl := Option.some.inj H
      go_enter Tryd.func20, Tryd.ntmps20
      go_wp2_with (first | ((with_reducible refine gate_dst (N := 2) rfl ?_); refine box_event ?hg (N := 2) ?hd (cs := #[.string a0_0, .string a0_1, .int .i64 a0_2]) (t := 36) ?hr ?_; (case hd => rfl); (case hg => rfl); (case hr => first | (go_simp; done) | (go_simp; rfl)); intro gb263 hg w9 hbox hb; have n0_ := Aside0.mk (below_step (by repeat (first | (with_reducible first | exact HB.out | apply below_alloc | apply pw_below_drewN | apply below_drew1) | exact HB.out)) hb); have n1_ := Aside0.mk (hbox); have n2_ := Aside0.mk ((by rw [hg]; exact (below_size (by repeat (first | (with_reducible first | exact HB.out | apply below_alloc | apply pw_below_drewN | apply below_drew1) | exact HB.out))) : w.heap.size ≤ gb263)); have n3_ := Aside0.mk ((by rw [hg]; exact (below_size (by repeat (first | (with_reducible first | exact HB.out | apply below_alloc | apply pw_below_drewN | apply below_drew1) | exact HB.out))) : w.heap.size ≤ gb263)); clear HB; have HB := n0_; have BK263 := n1_; have GW263 := n2_; have GE263 := n3_; clear n0_ n1_ n2_ n3_; clear hb hbox hg; have hcz10_0 : w9.cell? ⟨gb263, 0, none⟩ = some (.string a0_0) := (blk_cell BK263.out 0).trans rfl; have hcz10_1 : w9.cell? ⟨gb263, 1, none⟩ = some (.string a0_1) := (blk_cell BK263.out 1).trans rfl; have hcz10_2 : w9.cell? ⟨gb263, 2, none⟩ = some (.int .i64 a0_2) := (blk_cell BK263.out 2).trans rfl; have hfz10_0 := blk_frozen BK263.out 0; have hfz10_1 := blk_frozen BK263.out 1; have hfz10_2 := blk_frozen BK263.out 2))
      go_ret
      exact ⟨by first | rfl | (simp [errW_none, errW_some] <;> rfl) | (simp [*, errW_none, errW_some] <;> rfl), by repeat (first | (with_reducible first | exact HB.out | apply below_alloc | apply pw_below_drewN | apply below_drew1 | refine below_set ?_ GE263.out) | exact HB.out)⟩

end Go.Proofs.YtkpieljmhgfofaaDoor.X


namespace Go.Proofs.YtkpieljmhgfofaaDoor.X
open Go.RowKit Go.Proofs.YtkpieljmhgfofaaDoorW.PrintWords Go.Proofs.YtkpieljmhgfofaaDoorL
set_option linter.unusedVariables false
set_option linter.unusedSimpArgs false
theorem line_size {n : Int} {c r : ByteArray} (h0 : 0 ≤ n) (h1 : n ≤ 59) (h : recOk c r = true) : (B (lineOf n c r)).length ≤ 406 := by
  obtain ⟨s1, s2, s3⟩ := rec_sizes h
  have hd := dec_size n (by omega) (by omega)
  have hb := bodyOf_size n c r
  have hz := (sealed_size (bodyOf n c r)).2
  rw [B_line, List.length_append, B_length]
  simp; omega
theorem reads_size : ∀ (d n : Nat) (s : List UInt8), n + d ≤ 60 → s.length ≤ (reads d n s).2.length + 406 * d
  | 0, n, s, _ => by simp [reads]
  | d + 1, n, s, hn => by
    cases h : recAt (n : Int) s with
    | none => rw [reads_none h]; simp
    | some p =>
      have ih := reads_size d (n + 1) p.2.2 (by omega)
      have hr := recAt_is h
      have := line_size (n := (n : Int)) (by omega) (by omega) hr.1
      have e := congrArg List.length hr.2
      rw [List.length_append] at e
      rw [reads_some h]; simp only; omega
theorem endsOf_ge : ∀ (d n L : Nat) (s : List UInt8), s.length ≤ L → ∀ e ∈ endsOf L d n s, (L : Int) - (s.length : Int) + 1 ≤ e
  | 0, n, L, s, _ => by simp [endsOf]
  | d + 1, n, L, s, hL => by
    intro e he
    cases h : recAt (n : Int) s with
    | none => rw [endsOf_none h] at he; cases he
    | some p =>
      have hlt := (recAt_is h).lt
      rw [endsOf_some h] at he
      rcases List.mem_cons.1 he with rfl | he
      · omega
      · have := endsOf_ge d (n + 1) L p.2.2 (by omega) e he
        omega
/-- That what was read came by the place behind D says that D alone can be read to its end. -/
theorem mem_ends : ∀ (d n L : Nat) (D P : List UInt8), n + d ≤ 60 → (D ++ P).length ≤ L → ((((L : Int) - ((D ++ P).length : Int) + (D.length : Int)) ∈ endsOf L d n (D ++ P) ∨ D = []) ↔ (reads d n D).2 = [])
  | 0, n, L, D, P, _, _ => by simp [endsOf, reads]
  | d + 1, n, L, D, P, hn, hL => by
    by_cases hD : D = []
    · subst hD
      rw [reads_none (recAt_nil _)]
      simp
    cases h : recAt (n : Int) (D ++ P) with
    | none =>
      have hno : recAt (n : Int) D = none := by
        cases h2 : recAt (n : Int) D with
        | none => rfl
        | some q =>
          have hq := recAt_is h2
          have : IsRec (n : Int) (D ++ P) q.1 q.2.1 (q.2.2 ++ P) := ⟨hq.1, by rw [← List.append_assoc, ← hq.2]⟩
          rw [recAt_some (by omega) (by omega) this] at h
          cases h
      rw [endsOf_none h, reads_none hno]
      simp [hD]
    | some p =>
      have hp := recAt_is h
      have hlen := congrArg List.length hp.2
      rw [List.length_append, List.length_append] at hlen
      rw [endsOf_some h]
      by_cases hc : (B (lineOf (n : Int) p.1 p.2.1)).length ≤ D.length
      · obtain ⟨D', hD'⟩ : ∃ D', D = B (lineOf (n : Int) p.1 p.2.1) ++ D' := by
          have : B (lineOf (n : Int) p.1 p.2.1) <+: D ++ P := ⟨p.2.2, hp.2.symm⟩
          obtain ⟨t, ht⟩ := List.prefix_of_prefix_length_le this (List.prefix_append D P) hc
          exact ⟨t, ht.symm⟩
        have ht : p.2.2 = D' ++ P := by
          have := hp.2
          rw [hD', List.append_assoc] at this
          exact (List.append_cancel_left this).symm
        have hr : IsRec (n : Int) D p.1 p.2.1 D' := ⟨hp.1, hD'⟩
        rw [reads_some (recAt_some (by omega) (by omega) hr)]
        have hdl := congrArg List.length hD'
        rw [List.length_append] at hdl
        rw [List.length_append] at hL
        have ih := mem_ends d (n + 1) L D' P (by omega) (by rw [List.length_append]; omega)
        simp only
        rw [← ih, ht, List.mem_cons]
        simp only [List.length_append, hD, or_false]
        have e1 : (L : Int) - ((D.length + P.length : Nat) : Int) + (D.length : Int) = (L : Int) - ((D'.length + P.length : Nat) : Int) + (D'.length : Int) := by omega
        rw [e1]
        constructor
        · rintro (a | a)
          · exact .inr (List.length_eq_zero_iff.1 (by omega))
          · exact .inl a
        · rintro (a | a)
          · exact .inr a
          · left; rw [a]; simp
      · have hno : recAt (n : Int) D = none := by
          cases h2 : recAt (n : Int) D with
          | none => rfl
          | some q =>
            exfalso
            have hq := recAt_is h2
            have hl := hq.2
            rw [B_line, List.append_assoc] at hl
            have h10 : (10 : UInt8) ∈ D := by rw [hl]; simp
            have hpre : D <+: B (sealed (bodyOf (n : Int) p.1 p.2.1)) := by
              have a1 : D <+: D ++ P := List.prefix_append D P
              have a2 : B (sealed (bodyOf (n : Int) p.1 p.2.1)) <+: D ++ P := by rw [hp.2, B_line, List.append_assoc]; exact List.prefix_append _ _
              refine List.prefix_of_prefix_length_le a1 a2 ?_
              rw [B_line, List.length_append] at hc
              simp at hc; omega
            exact sealed_no10 (by omega) hp.1 (hpre.subset h10)
        rw [reads_none hno]
        simp only [hD, or_false, iff_false]
        intro hm
        rw [List.length_append] at hm
        rw [List.length_append] at hL
        rcases List.mem_cons.1 hm with e | e
        · omega
        · have := endsOf_ge d (n + 1) L p.2.2 (by omega) _ e
          omega
noncomputable def allOf (D P : ByteArray) : List RecT := (reads 60 0 (B D ++ B P)).1
noncomputable def logOk (D P : ByteArray) (c : Int) : Bool := decide ((reads 60 0 (B D ++ B P)).2 = []) && decide ((reads 60 0 (B D)).2 = []) && decide (((allOf D P).length : Int) = c)
theorem logOk_size {D P : ByteArray} {c : Int} (h : logOk D P c = true) : D.size + P.size ≤ 24360 := by
  unfold logOk at h
  simp only [Bool.and_eq_true, decide_eq_true_eq] at h
  have := reads_size 60 0 (B D ++ B P) (by omega)
  rw [h.1.1, List.length_append, B_length, B_length] at this
  simp at this; omega
theorem left_nil (l : List UInt8) (n : Nat) (hl : l.length ≤ n) : (((n : Int) - (l.length : Int)) = (n : Int)) = (l = []) := by
  apply propext
  constructor
  · intro h; exact List.length_eq_zero_iff.1 (by omega)
  · rintro rfl; simp
theorem specLog_ev (D P : ByteArray) (c : Int) (hD : D.size ≤ 1048576) (hP : P.size ≤ 1048576) : Ev (fun k => spec_l27Log.f k D P c) (logOk D P c) := by
  unfold spec_l27Log.f
  rw [wrap_id (x := (D.size : Int) + (P.size : Int)) (by omega) (by omega)]
  by_cases h : (D.size : Int) + (P.size : Int) > 30000
  · have : logOk D P c = false := by
      rw [Bool.eq_false_iff]; intro z; have := logOk_size z; omega
    rw [this]; exact ev_eq (fun k => if_pos h)
  · simp only [if_neg h, if_pos (show D.size + P.size ≤ 9223372036854775807 by omega)]
    have hs : (D ++ P).size = D.size + P.size := ByteArray.size_append
    refine Ev.bind (specOpen_ev (D ++ P) (by omega)) (Ev.bind (specOpen_ev D (by omega)) (ev_eq (fun k => ?_)))
    rw [B_append, hs]
    have b1 := (reads_bound 60 0 (B D ++ B P)).2
    rw [List.length_append, B_length, B_length] at b1
    have b2 := (reads_bound 60 0 (B D)).2
    rw [B_length] at b2
    have e1 := left_nil (reads 60 0 (B D ++ B P)).2 (D.size + P.size) b1
    rw [Int.natCast_add] at e1
    have e2 := left_nil (reads 60 0 (B D)).2 D.size b2
    simp only [Int.natCast_add, e1, e2]
    unfold logOk allOf
    by_cases g1 : (reads 60 0 (B D ++ B P)).2 = []
    · by_cases g2 : (reads 60 0 (B D)).2 = []
      · rw [if_pos g1, if_pos g2, decide_eq_true g1, decide_eq_true g2]
        simp only [Bool.true_and, Option.some.injEq]
        rw [Bool.eq_iff_iff]; simp
      · rw [if_pos g1, if_neg g2, decide_eq_true g1, decide_eq_false g2]; rfl
    · rw [if_neg g1, decide_eq_false g1]; rfl
theorem implRecs_ev (D P : ByteArray) (c : Int) (hD : D.size ≤ 1048576) (hP : P.size ≤ 1048576) : Ev (fun k => impl_recordsOf.f k D P c) (allOf D P, logOk D P c) := by
  unfold impl_recordsOf.f
  have hs : (D ++ P).size = D.size + P.size := ByteArray.size_append
  simp only [if_pos (show D.size + P.size ≤ 9223372036854775807 by omega)]
  refine Ev.bind (implReads_ev (D ++ P) (by omega)) (ev_eq (fun k => ?_))
  rw [B_append, hs]
  have b1 := (reads_bound 60 0 (B D ++ B P)).2
  rw [List.length_append, B_length, B_length] at b1
  have e1 := left_nil (reads 60 0 (B D ++ B P)).2 (D.size + P.size) b1
  simp only [Option.some.injEq, Prod.mk.injEq]
  refine ⟨rfl, ?_⟩
  have hm := mem_ends 60 0 (D.size + P.size) (B D) (B P) (by omega) (by rw [List.length_append, B_length, B_length]; exact Nat.le_refl _)
  rw [List.length_append, B_length, B_length, show ((D.size + P.size : Nat) : Int) - ((D.size + P.size : Nat) : Int) + (D.size : Int) = (D.size : Int) by omega] at hm
  have hm2 : (decide ((D.size : Int) ∈ 0 :: endsOf (D.size + P.size) 60 0 (B D ++ B P))) = decide ((reads 60 0 (B D)).2 = []) := by
    rw [decide_eq_decide, ← hm, List.mem_cons]
    constructor
    · rintro (a | a)
      · exact .inr (List.length_eq_zero_iff.1 (by rw [B_length]; omega))
      · exact .inl a
    · rintro (a | a)
      · exact .inr a
      · have : D.size = 0 := by rw [← B_length, a]; rfl
        left; omega
  rw [hm2]
  unfold logOk allOf
  have e3 : ((((D.size + P.size : Nat) : Int) - ((reads 60 0 (B D ++ B P)).2.length : Int)) == ((D.size : Int) + (P.size : Int))) = decide ((reads 60 0 (B D ++ B P)).2 = []) := by
    rw [← Int.natCast_add, Bool.eq_iff_iff]
    simp only [beq_iff_eq, decide_eq_true_eq, e1]
  rw [e3]
  congr 1
  rw [Bool.eq_iff_iff]
  simp only [beq_iff_eq, decide_eq_true_eq]
  exact ⟨fun h => h.symm, fun h => h.symm⟩
end Go.Proofs.YtkpieljmhgfofaaDoor.X


