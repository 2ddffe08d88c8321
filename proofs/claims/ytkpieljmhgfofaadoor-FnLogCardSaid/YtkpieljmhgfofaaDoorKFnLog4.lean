/- Texts that the proof of the law FnLog leans on, part 5 of 6. -/
import Derived.Deep.Slices
import Derived.ChangeSame
import Derived.ChangeArms
import Derived.DataReads
import Derived.SizedLaws
import Derived.ProofKit
import Derived.Lib.SmallJoins
import Derived.ChangeOld
import Derived.Below
import Derived.Lib.IndexAny
import Derived.Lib.ItoaNum
import Derived.Lib.ItoaLen
import Derived.Test.YtkpieljmhgfofaaDoorKFnLog0
import Derived.Test.YtkpieljmhgfofaaDoorKFnLog1
import Derived.Test.YtkpieljmhgfofaaDoorKFnLog2
import Derived.Test.YtkpieljmhgfofaaDoorKFnLog3
set_option linter.unusedVariables false
set_option linter.unusedSimpArgs false
namespace Go.Proofs.YtkpieljmhgfofaaDoor.X
open Go.RowKit Go.Proofs.YtkpieljmhgfofaaDoorW.PrintWords Go.Proofs.YtkpieljmhgfofaaDoorW.PrintLast Go.Proofs.YtkpieljmhgfofaaDoorW.PrintMore
attribute [local go_sem] max2_int min2_int max_two min_two max_three min_three max_four min_four
open Go.Proofs.YtkpieljmhgfofaaDoorG
attribute [local go_sem high] eqA27 eqA31
mutual
def Ap.j0 : Nat → Int → Bool → ByteArray → ByteArray → Int → ByteArray → ByteArray → ByteArray → ByteArray → Int → Option (Bool)
  | 0, _, _, _, _, _, _, _, _, _, _ => none
  | k + 1, x6, x59, x541000, x541001, x541002, x542000, x542001, x547000, x547001, x547002 => if x59 = true then (some false) else (if x6 = 0 then ((Dz.f k x547000 x547001 x547002).bind fun bt556 => ((Dz.f k x541000 x541001 x541002).bind fun bt560 => (if x547000.size + x547001.size ≤ 9223372036854775807 then ((D9.f k (x547000 ++ x547001)).bind fun bt564 => ((Ei.f k x547000 x547001 x547002).bind fun bt570 => (if bt556.2 = true then (if (bt556.1.length : Int) = (wrap64 ((bt560.1.length : Int) + 1)) then (Ap.j1 k bt556.1 bt560.1 bt564.2.2.2.1 bt564.2.2.2.2 bt570.2.2.2 (x547002 != (bt556.1.length : Int)) x542000 x542001 x547000 x547001 x547002 bt564.1 bt564.2.1 bt564.2.2.1 bt570.1 bt570.2.1 bt570.2.2.1) else (Ap.j1 k bt556.1 bt560.1 bt564.2.2.2.1 bt564.2.2.2.2 bt570.2.2.2 true x542000 x542001 x547000 x547001 x547002 bt564.1 bt564.2.1 bt564.2.2.1 bt570.1 bt570.2.1 bt570.2.2.1)) else (Ap.j1 k bt556.1 bt560.1 bt564.2.2.2.1 bt564.2.2.2.2 bt570.2.2.2 true x542000 x542001 x547000 x547001 x547002 bt564.1 bt564.2.1 bt564.2.2.1 bt570.1 bt570.2.1 bt570.2.2.1)))) else (none)))) else (some (x547000.toList == x541000.toList && (x547001.toList == x541001.toList && (x547002 == x541002)))))
def Ap.j1 : Nat → List (S27) → List (S27) → Int → Bool → Bool → Bool → ByteArray → ByteArray → ByteArray → ByteArray → Int → ByteArray → ByteArray → Int → ByteArray → ByteArray → Int → Option (Bool)
  | 0, _, _, _, _, _, _, _, _, _, _, _, _, _, _, _, _, _ => none
  | k + 1, x9, x11, x14, x15, x17, x106, x542000, x542001, x547000, x547001, x547002, x570000, x570001, x570002, x575000, x575001, x575002 => if x106 = true then (some false) else (Ap.l0 k x9 x11 x14 x15 x17 0 x542000 x542001 x547000 x547001 x547002 x570000 x570001 x570002 x575000 x575001 x575002)
def Ap.l0 : Nat → List (S27) → List (S27) → Int → Bool → Bool → Int → ByteArray → ByteArray → ByteArray → ByteArray → Int → ByteArray → ByteArray → Int → ByteArray → ByteArray → Int → Option (Bool)
  | 0, _, _, _, _, _, _, _, _, _, _, _, _, _, _, _, _, _ => none
  | k + 1, x9, x11, x14, x15, x17, x18, x542000, x542001, x547000, x547001, x547002, x570000, x570001, x570002, x575000, x575001, x575002 => if x18 < (x11.length : Int) then (if 0 ≤ x18 then (if x18 < (x9.length : Int) then (if (!((((rd_T27 x9 x18).f0).toList) == (((rd_T27 x11 x18).f0).toList)) || (!((((rd_T27 x9 x18).f1).toList) == (((rd_T27 x11 x18).f1).toList)))) = true then (some false) else (Ap.l0 k x9 x11 x14 x15 x17 (wrap64 (x18 + 1)) x542000 x542001 x547000 x547001 x547002 x570000 x570001 x570002 x575000 x575001 x575002)) else (none)) else (none)) else (if 0 ≤ (x11.length : Int) then (if (x11.length : Int) < (x9.length : Int) then (if ((((rd_T27 x9 (x11.length : Int)).f0).toList) == x542000.toList && ((((rd_T27 x9 (x11.length : Int)).f1).toList) == x542001.toList)) = true then (if x15 = true then (if x547000.size + x547001.size ≤ 9223372036854775807 then (if x14 = ((x547000 ++ x547001).size : Int) then (if x17 = true then (if (x575000.toList == x570000.toList && (x575001.toList == x570001.toList && (x575002 == x570002))) = true then ((Cj.f k x547000 x547001 x547002).bind fun t578 => (some t578)) else (some false)) else (some false)) else (some false)) else (none)) else (some false)) else (some false)) else (none)) else (none))
end
def Ap.f (k : Nat) (l0 : List Int) : Option (Bool) := (Hz.f l0).bind fun t534 => (if t534 = true then (some true) else ((Bh.f k l0).bind fun bt535 => ((Bg.f k bt535.1 bt535.2.1 bt535.2.2.1 bt535.2.2.2.1 bt535.2.2.2.2).bind fun bt542 => ((Au.f k bt535.1 bt535.2.1 bt535.2.2.1 bt535.2.2.2.1 bt535.2.2.2.2).bind fun bt547 => (if (!(bt542.1.toList == bt547.1.toList) || (!(bt542.2.1.toList == bt547.2.1.toList) || (!(bt542.2.2.1 == bt547.2.2.1)))) = true then (Ap.j0 k bt542.2.2.2 true bt535.1 bt535.2.1 bt535.2.2.1 bt535.2.2.2.1 bt535.2.2.2.2 bt542.1 bt542.2.1 bt542.2.2.1) else (if bt542.2.2.2 = bt547.2.2.2 then ((Cj.f k bt535.1 bt535.2.1 bt535.2.2.1).bind fun t552 => ((Dy.f k bt535.1 bt535.2.1 bt535.2.2.1).bind fun t553 => (if (t552 != t553) = true then (Ap.j0 k bt542.2.2.2 true bt535.1 bt535.2.1 bt535.2.2.1 bt535.2.2.2.1 bt535.2.2.2.2 bt542.1 bt542.2.1 bt542.2.2.1) else ((Ba.f k bt535.2.2.2.1 bt535.2.2.2.2).bind fun t554 => ((Dt.f k bt535.2.2.2.1 bt535.2.2.2.2).bind fun t555 => (Ap.j0 k bt542.2.2.2 (t554 != t555) bt535.1 bt535.2.1 bt535.2.2.1 bt535.2.2.2.1 bt535.2.2.2.2 bt542.1 bt542.2.1 bt542.2.2.1)))))) else (Ap.j0 k bt542.2.2.2 true bt535.1 bt535.2.1 bt535.2.2.1 bt535.2.2.2.1 bt535.2.2.2.2 bt542.1 bt542.2.1 bt542.2.2.1)))))))
theorem Ap.Ej : ∀ k, (∀ y0 y1 y2 y3 y4 y5 y6 y7 y8 y9, LeO (Ap.j0 k y0 y1 y2 y3 y4 y5 y6 y7 y8 y9) (Ap.j0 (k + 1) y0 y1 y2 y3 y4 y5 y6 y7 y8 y9)) ∧ (∀ y0 y1 y2 y3 y4 y5 y6 y7 y8 y9 y10 y11 y12 y13 y14 y15 y16, LeO (Ap.j1 k y0 y1 y2 y3 y4 y5 y6 y7 y8 y9 y10 y11 y12 y13 y14 y15 y16) (Ap.j1 (k + 1) y0 y1 y2 y3 y4 y5 y6 y7 y8 y9 y10 y11 y12 y13 y14 y15 y16)) ∧ (∀ y0 y1 y2 y3 y4 y5 y6 y7 y8 y9 y10 y11 y12 y13 y14 y15 y16, LeO (Ap.l0 k y0 y1 y2 y3 y4 y5 y6 y7 y8 y9 y10 y11 y12 y13 y14 y15 y16) (Ap.l0 (k + 1) y0 y1 y2 y3 y4 y5 y6 y7 y8 y9 y10 y11 y12 y13 y14 y15 y16))
  | 0 => ⟨fun _ _ _ _ _ _ _ _ _ _ r h => by simp [Ap.j0] at h, fun _ _ _ _ _ _ _ _ _ _ _ _ _ _ _ _ _ r h => by simp [Ap.j1] at h, fun _ _ _ _ _ _ _ _ _ _ _ _ _ _ _ _ _ r h => by simp [Ap.l0] at h⟩
  | k + 1 => by
    obtain ⟨ih0, ih1, ih2⟩ := Ap.Ej k
    refine ⟨?_, ?_, ?_⟩
    · intro y0 y1 y2 y3 y4 y5 y6 y7 y8 y9
      unfold Ap.j0
      repeat' first
      | (with_reducible exact ih0 _ _ _ _ _ _ _ _ _ _)
      | (with_reducible exact ih1 _ _ _ _ _ _ _ _ _ _ _ _ _ _ _ _ _)
      | (with_reducible exact ih2 _ _ _ _ _ _ _ _ _ _ _ _ _ _ _ _ _)
      | (with_reducible exact Bg.mono _ _ _ _ _ _)
      | (with_reducible exact Cj.mono _ _ _ _)
      | (with_reducible exact Ba.mono _ _ _)
      | (with_reducible exact Dz.mono _ _ _ _)
      | (with_reducible exact D9.mono _ _)
      | (with_reducible exact Ei.mono _ _ _ _)
      | (with_reducible exact Au.mono _ _ _ _ _ _)
      | (with_reducible exact Bh.mono _ _)
      | (with_reducible exact Dy.mono _ _ _ _)
      | (with_reducible exact Dt.mono _ _ _)
      | (with_reducible exact LeO.refl _)
      | (with_reducible exact LeO.none _)
      | (with_reducible refine LeO.ite ?_ ?_)
      | (with_reducible refine LeO.bind ?_ (fun _ => ?_))
      | exact ih0 _ _ _ _ _ _ _ _ _ _
      | exact ih1 _ _ _ _ _ _ _ _ _ _ _ _ _ _ _ _ _
      | exact ih2 _ _ _ _ _ _ _ _ _ _ _ _ _ _ _ _ _
      | exact Bg.mono _ _ _ _ _ _
      | exact Cj.mono _ _ _ _
      | exact Ba.mono _ _ _
      | exact Dz.mono _ _ _ _
      | exact D9.mono _ _
      | exact Ei.mono _ _ _ _
      | exact Au.mono _ _ _ _ _ _
      | exact Bh.mono _ _
      | exact Dy.mono _ _ _ _
      | exact Dt.mono _ _ _
      | exact LeO.none _
      | refine LeO.ite ?_ ?_
      | refine LeO.bind ?_ (fun _ => ?_)
    · intro y0 y1 y2 y3 y4 y5 y6 y7 y8 y9 y10 y11 y12 y13 y14 y15 y16
      unfold Ap.j1
      repeat' first
      | (with_reducible exact ih0 _ _ _ _ _ _ _ _ _ _)
      | (with_reducible exact ih1 _ _ _ _ _ _ _ _ _ _ _ _ _ _ _ _ _)
      | (with_reducible exact ih2 _ _ _ _ _ _ _ _ _ _ _ _ _ _ _ _ _)
      | (with_reducible exact Bg.mono _ _ _ _ _ _)
      | (with_reducible exact Cj.mono _ _ _ _)
      | (with_reducible exact Ba.mono _ _ _)
      | (with_reducible exact Dz.mono _ _ _ _)
      | (with_reducible exact D9.mono _ _)
      | (with_reducible exact Ei.mono _ _ _ _)
      | (with_reducible exact Au.mono _ _ _ _ _ _)
      | (with_reducible exact Bh.mono _ _)
      | (with_reducible exact Dy.mono _ _ _ _)
      | (with_reducible exact Dt.mono _ _ _)
      | (with_reducible exact LeO.refl _)
      | (with_reducible exact LeO.none _)
      | (with_reducible refine LeO.ite ?_ ?_)
      | (with_reducible refine LeO.bind ?_ (fun _ => ?_))
      | exact ih0 _ _ _ _ _ _ _ _ _ _
      | exact ih1 _ _ _ _ _ _ _ _ _ _ _ _ _ _ _ _ _
      | exact ih2 _ _ _ _ _ _ _ _ _ _ _ _ _ _ _ _ _
      | exact Bg.mono _ _ _ _ _ _
      | exact Cj.mono _ _ _ _
      | exact Ba.mono _ _ _
      | exact Dz.mono _ _ _ _
      | exact D9.mono _ _
      | exact Ei.mono _ _ _ _
      | exact Au.mono _ _ _ _ _ _
      | exact Bh.mono _ _
      | exact Dy.mono _ _ _ _
      | exact Dt.mono _ _ _
      | exact LeO.none _
      | refine LeO.ite ?_ ?_
      | refine LeO.bind ?_ (fun _ => ?_)
    · intro y0 y1 y2 y3 y4 y5 y6 y7 y8 y9 y10 y11 y12 y13 y14 y15 y16
      unfold Ap.l0
      repeat' first
      | (with_reducible exact ih0 _ _ _ _ _ _ _ _ _ _)
      | (with_reducible exact ih1 _ _ _ _ _ _ _ _ _ _ _ _ _ _ _ _ _)
      | (with_reducible exact ih2 _ _ _ _ _ _ _ _ _ _ _ _ _ _ _ _ _)
      | (with_reducible exact Bg.mono _ _ _ _ _ _)
      | (with_reducible exact Cj.mono _ _ _ _)
      | (with_reducible exact Ba.mono _ _ _)
      | (with_reducible exact Dz.mono _ _ _ _)
      | (with_reducible exact D9.mono _ _)
      | (with_reducible exact Ei.mono _ _ _ _)
      | (with_reducible exact Au.mono _ _ _ _ _ _)
      | (with_reducible exact Bh.mono _ _)
      | (with_reducible exact Dy.mono _ _ _ _)
      | (with_reducible exact Dt.mono _ _ _)
      | (with_reducible exact LeO.refl _)
      | (with_reducible exact LeO.none _)
      | (with_reducible refine LeO.ite ?_ ?_)
      | (with_reducible refine LeO.bind ?_ (fun _ => ?_))
      | exact ih0 _ _ _ _ _ _ _ _ _ _
      | exact ih1 _ _ _ _ _ _ _ _ _ _ _ _ _ _ _ _ _
      | exact ih2 _ _ _ _ _ _ _ _ _ _ _ _ _ _ _ _ _
      | exact Bg.mono _ _ _ _ _ _
      | exact Cj.mono _ _ _ _
      | exact Ba.mono _ _ _
      | exact Dz.mono _ _ _ _
      | exact D9.mono _ _
      | exact Ei.mono _ _ _ _
      | exact Au.mono _ _ _ _ _ _
      | exact Bh.mono _ _
      | exact Dy.mono _ _ _ _
      | exact Dt.mono _ _ _
      | exact LeO.none _
      | refine LeO.ite ?_ ?_
      | refine LeO.bind ?_ (fun _ => ?_)
theorem Ap.mono : ∀ a0 k, LeO (Ap.f k a0) (Ap.f (k + 1) a0) := by
  intro a0 k
  obtain ⟨ih0, ih1, ih2⟩ := Ap.Ej k
  unfold Ap.f
  repeat' first
      | (with_reducible exact ih0 _ _ _ _ _ _ _ _ _ _)
      | (with_reducible exact ih1 _ _ _ _ _ _ _ _ _ _ _ _ _ _ _ _ _)
      | (with_reducible exact ih2 _ _ _ _ _ _ _ _ _ _ _ _ _ _ _ _ _)
      | (with_reducible exact Bg.mono _ _ _ _ _ _)
      | (with_reducible exact Cj.mono _ _ _ _)
      | (with_reducible exact Ba.mono _ _ _)
      | (with_reducible exact Dz.mono _ _ _ _)
      | (with_reducible exact D9.mono _ _)
      | (with_reducible exact Ei.mono _ _ _ _)
      | (with_reducible exact Au.mono _ _ _ _ _ _)
      | (with_reducible exact Bh.mono _ _)
      | (with_reducible exact Dy.mono _ _ _ _)
      | (with_reducible exact Dt.mono _ _ _)
      | (with_reducible exact LeO.refl _)
      | (with_reducible exact LeO.none _)
      | (with_reducible refine LeO.ite ?_ ?_)
      | (with_reducible refine LeO.bind ?_ (fun _ => ?_))
      | exact ih0 _ _ _ _ _ _ _ _ _ _
      | exact ih1 _ _ _ _ _ _ _ _ _ _ _ _ _ _ _ _ _
      | exact ih2 _ _ _ _ _ _ _ _ _ _ _ _ _ _ _ _ _
      | exact Bg.mono _ _ _ _ _ _
      | exact Cj.mono _ _ _ _
      | exact Ba.mono _ _ _
      | exact Dz.mono _ _ _ _
      | exact D9.mono _ _
      | exact Ei.mono _ _ _ _
      | exact Au.mono _ _ _ _ _ _
      | exact Bh.mono _ _
      | exact Dy.mono _ _ _ _
      | exact Dt.mono _ _ _
      | exact LeO.none _
      | refine LeO.ite ?_ ?_
      | refine LeO.bind ?_ (fun _ => ?_)
def Ap.T6 : Bool × List (List Nat × List Nat) := (true, [([], []), ([], []), ([0, 1], [0, 1]), ([2], [2]), ([3], [3]), ([3], [3]), ([4, 5, 3], [3, 4, 5]), ([3, 6], [3, 6]), ([7, 3], [7]), ([8], [8]), ([9, 8, 8], [8, 9]), ([8], [8]), ([11, 10, 8], [8, 11]), ([10, 12, 8], [8, 10, 12]), ([8, 13], [8, 13]), ([14, 12], [14]), ([15], [15]), ([16, 15, 15], [15, 16]), ([15], [15]), ([18, 17, 15], [15, 18]), ([17, 19, 15], [15, 17, 19]), ([15, 20], [15, 20])])
def Ap.B6 : List Nat := [0, 0, 3, 7, 15, 15, 63, 127, 255, 511, 1023, 511, 4095, 8191, 16383, 32767, 65535, 131071, 65535, 524287, 1048575, 2097151]
theorem Ap.tab6 : rtab .any (opsOf Tryd.f10 6) = Ap.T6 := by kernel_rfl
theorem Ap.bits6 : G7 Ap.T6.2 Ap.B6 = true := by kernel_rfl
def Ap.T19 : Bool × List (List Nat × List Nat) := (true, [([], []), ([], []), ([0, 1], [0, 1]), ([2], [2]), ([], []), ([], []), ([4, 5], [4, 5]), ([6], [6]), ([3, 7], [3, 7])])
def Ap.B19 : List Nat := [0, 0, 3, 7, 0, 0, 48, 112, 255]
theorem Ap.tab19 : rtab .any (opsOf Tryd.f10 19) = Ap.T19 := by kernel_rfl
theorem Ap.bits19 : G7 Ap.T19.2 Ap.B19 = true := by kernel_rfl
def Ap.T21 : Bool × List (List Nat × List Nat) := (true, [([], []), ([], []), ([1], [1]), ([0, 2], [0, 2]), ([3], [3]), ([], []), ([4, 5], [4, 5]), ([6], [6]), ([7], [7]), ([7, 8], [7, 8]), ([9, 7], [9]), ([10], [10]), ([10], [10]), ([12, 10], [10, 12]), ([10], [10]), ([14, 10], [10, 14]), ([13, 15, 10], [10, 13, 15]), ([16, 10], [10, 16]), ([11, 17, 10], [10, 11, 17]), ([10, 18], [10, 18]), ([19, 10], [19]), ([20], [20]), ([20, 21], [20, 21]), ([22, 20], [22]), ([23], [23]), ([23], [23]), ([24, 25, 23], [23, 24, 25]), ([23, 26], [23, 26]), ([27, 23], [27]), ([28], [28]), ([29, 28, 28], [28, 29]), ([28, 30], [28, 30]), ([31, 30, 0, 1, 2, 3, 4, 5, 6, 7, 8, 9, 10, 11, 12, 13, 14, 15, 16, 17, 18, 19, 20, 21, 22, 23, 24, 25, 26, 27, 28, 29, 30, 31], [31])])
def Ap.B21 : List Nat := [0, 0, 2, 7, 15, 0, 63, 127, 255, 511, 1023, 2047, 2047, 6143, 2047, 18431, 63487, 129023, 262143, 524287, 1048575, 2097151, 4194303, 8388607, 16777215, 16777215, 67108863, 134217727, 268435455, 536870911, 1073741823, 2147483647, 4294967295]
theorem Ap.tab21 : rtab .any (opsOf Tryd.f10 21) = Ap.T21 := by kernel_rfl
theorem Ap.bits21 : G7 Ap.T21.2 Ap.B21 = true := by kernel_rfl
set_option maxHeartbeats 8000000 in
set_option maxRecDepth 100000 in
theorem Ap.calls (k : Nat) (A0 : Option Addr) (c0 : Nat) (l0 : List Int) (r : Bool) (w : World) (hr0 : Kd.C (Kd.int .u8) w A0 l0.length l0) (hc0 : l0.length ≤ c0) (hG : Eg w) (h : Ap.f k l0 = some r) (hr_ : r = true) :
    Calls Tryd.prog 10 #[.slice A0 l0.length c0] w fun e w' => e = .returned (.bool r) ∧ Below w.heap.size w w' := by
  have HR_ := Aside0.mk hr_
  clear hr_
  have hu31 := Tryd.underlying31
  have hu27 := Tryd.underlying27
  have HGL := Aside0.mk hG
  clear hG
  have HR0 := Aside0.mk hr0
  have HC0 := Aside0.mk hc0
  clear hr0 hc0
  have HB := Aside0.mk (Below.refl w.heap.size w)
  have H : ((Hz.f l0).bind fun t534 => (if t534 = true then (some true) else ((Bh.f k l0).bind fun bt535 => ((Bg.f k bt535.1 bt535.2.1 bt535.2.2.1 bt535.2.2.2.1 bt535.2.2.2.2).bind fun bt542 => ((Au.f k bt535.1 bt535.2.1 bt535.2.2.1 bt535.2.2.2.1 bt535.2.2.2.2).bind fun bt547 => (if (!(bt542.1.toList == bt547.1.toList) || (!(bt542.2.1.toList == bt547.2.1.toList) || (!(bt542.2.2.1 == bt547.2.2.1)))) = true then (Ap.j0 k bt542.2.2.2 true bt535.1 bt535.2.1 bt535.2.2.1 bt535.2.2.2.1 bt535.2.2.2.2 bt542.1 bt542.2.1 bt542.2.2.1) else (if bt542.2.2.2 = bt547.2.2.2 then ((Cj.f k bt535.1 bt535.2.1 bt535.2.2.1).bind fun t552 => ((Dy.f k bt535.1 bt535.2.1 bt535.2.2.1).bind fun t553 => (if (t552 != t553) = true then (Ap.j0 k bt542.2.2.2 true bt535.1 bt535.2.1 bt535.2.2.1 bt535.2.2.2.1 bt535.2.2.2.2 bt542.1 bt542.2.1 bt542.2.2.1) else ((Ba.f k bt535.2.2.2.1 bt535.2.2.2.2).bind fun t554 => ((Dt.f k bt535.2.2.2.1 bt535.2.2.2.2).bind fun t555 => (Ap.j0 k bt542.2.2.2 (t554 != t555) bt535.1 bt535.2.1 bt535.2.2.1 bt535.2.2.2.1 bt535.2.2.2.2 bt542.1 bt542.2.1 bt542.2.2.1)))))) else (Ap.j0 k bt542.2.2.2 true bt535.1 bt535.2.1 bt535.2.2.1 bt535.2.2.2.1 bt535.2.2.2.2 bt542.1 bt542.2.1 bt542.2.2.1)))))))) = some r := h
  clear h
  replace H := Option.bind_eq_some_iff.mp H
  obtain ⟨t534, A20, H⟩ := H
  replace H : (if t534 = true then (some true) else ((Bh.f k l0).bind fun bt535 => ((Bg.f k bt535.1 bt535.2.1 bt535.2.2.1 bt535.2.2.2.1 bt535.2.2.2.2).bind fun bt542 => ((Au.f k bt535.1 bt535.2.1 bt535.2.2.1 bt535.2.2.2.1 bt535.2.2.2.2).bind fun bt547 => (if (!(bt542.1.toList == bt547.1.toList) || (!(bt542.2.1.toList == bt547.2.1.toList) || (!(bt542.2.2.1 == bt547.2.2.1)))) = true then (Ap.j0 k bt542.2.2.2 true bt535.1 bt535.2.1 bt535.2.2.1 bt535.2.2.2.1 bt535.2.2.2.2 bt542.1 bt542.2.1 bt542.2.2.1) else (if bt542.2.2.2 = bt547.2.2.2 then ((Cj.f k bt535.1 bt535.2.1 bt535.2.2.1).bind fun t552 => ((Dy.f k bt535.1 bt535.2.1 bt535.2.2.1).bind fun t553 => (if (t552 != t553) = true then (Ap.j0 k bt542.2.2.2 true bt535.1 bt535.2.1 bt535.2.2.1 bt535.2.2.2.1 bt535.2.2.2.2 bt542.1 bt542.2.1 bt542.2.2.1) else ((Ba.f k bt535.2.2.2.1 bt535.2.2.2.2).bind fun t554 => ((Dt.f k bt535.2.2.2.1 bt535.2.2.2.2).bind fun t555 => (Ap.j0 k bt542.2.2.2 (t554 != t555) bt535.1 bt535.2.1 bt535.2.2.1 bt535.2.2.2.1 bt535.2.2.2.2 bt542.1 bt542.2.1 bt542.2.2.1)))))) else (Ap.j0 k bt542.2.2.2 true bt535.1 bt535.2.1 bt535.2.2.1 bt535.2.2.2.1 bt535.2.2.2.2 bt542.1 bt542.2.1 bt542.2.2.1))))))) = some r := H
  have A2 := Aside0.mk A20
  clear A20
  by_cases c3 : t534 = true
  · subst c3
    have H1 : (some true) = some r := by rw [if_pos rfl] at H; exact H
    clear H
    have H := H1
    clear H1
    obtain rfl := Option.some.inj H
    go_enter Tryd.func10, Tryd.ntmps10
    go_wp2_with (first | ((with_reducible refine Am (f := 35) rfl ?_); refine Be (some 20) rfl rfl Tryd.func35 (by kernel_rfl) rfl #[.slice A0 l0.length c0] rfl Yc_ ?_; (with_reducible refine (Hz.calls _ _ l0 true _ ?side1 ?side2 A2.out).mono ?_); (case side1 => repeat (first | exact HR0.out | (with_reducible refine Kd.Hf ?_ _) | (with_reducible refine Kd.Hg ?_ _) | (with_reducible refine Kd.C_drew ?_))); (case side2 => exact HC0.out); rintro e w' ⟨rfl, ⟨nd, rfl⟩⟩; refine ⟨_, rfl, ?_⟩))
    go_ret
    exact ⟨by first | rfl | (simp [Ak, Aj] <;> rfl) | (simp [*, Ak, Aj] <;> rfl), by repeat (first | (with_reducible first | exact HB.out | apply below_alloc | apply pw_below_drewN | apply below_drew1) | exact HB.out)⟩
  · replace c3 := Bool.eq_false_iff.mpr c3
    subst c3
    have H1 : ((Bh.f k l0).bind fun bt535 => ((Bg.f k bt535.1 bt535.2.1 bt535.2.2.1 bt535.2.2.2.1 bt535.2.2.2.2).bind fun bt542 => ((Au.f k bt535.1 bt535.2.1 bt535.2.2.1 bt535.2.2.2.1 bt535.2.2.2.2).bind fun bt547 => (if (!(bt542.1.toList == bt547.1.toList) || (!(bt542.2.1.toList == bt547.2.1.toList) || (!(bt542.2.2.1 == bt547.2.2.1)))) = true then (Ap.j0 k bt542.2.2.2 true bt535.1 bt535.2.1 bt535.2.2.1 bt535.2.2.2.1 bt535.2.2.2.2 bt542.1 bt542.2.1 bt542.2.2.1) else (if bt542.2.2.2 = bt547.2.2.2 then ((Cj.f k bt535.1 bt535.2.1 bt535.2.2.1).bind fun t552 => ((Dy.f k bt535.1 bt535.2.1 bt535.2.2.1).bind fun t553 => (if (t552 != t553) = true then (Ap.j0 k bt542.2.2.2 true bt535.1 bt535.2.1 bt535.2.2.1 bt535.2.2.2.1 bt535.2.2.2.2 bt542.1 bt542.2.1 bt542.2.2.1) else ((Ba.f k bt535.2.2.2.1 bt535.2.2.2.2).bind fun t554 => ((Dt.f k bt535.2.2.2.1 bt535.2.2.2.2).bind fun t555 => (Ap.j0 k bt542.2.2.2 (t554 != t555) bt535.1 bt535.2.1 bt535.2.2.1 bt535.2.2.2.1 bt535.2.2.2.2 bt542.1 bt542.2.1 bt542.2.2.1)))))) else (Ap.j0 k bt542.2.2.2 true bt535.1 bt535.2.1 bt535.2.2.1 bt535.2.2.2.1 bt535.2.2.2.2 bt542.1 bt542.2.1 bt542.2.2.1)))))) = some r := by rw [if_neg (show ¬ (false = true) by decide)] at H; exact H
    clear H
    have H := H1
    clear H1
    replace H := Option.bind_eq_some_iff.mp H
    obtain ⟨⟨t535, t536, t537, t538, t539⟩, A40, H⟩ := H
    replace H : ((Bg.f k t535 t536 t537 t538 t539).bind fun bt542 => ((Au.f k t535 t536 t537 t538 t539).bind fun bt547 => (if (!(bt542.1.toList == bt547.1.toList) || (!(bt542.2.1.toList == bt547.2.1.toList) || (!(bt542.2.2.1 == bt547.2.2.1)))) = true then (Ap.j0 k bt542.2.2.2 true t535 t536 t537 t538 t539 bt542.1 bt542.2.1 bt542.2.2.1) else (if bt542.2.2.2 = bt547.2.2.2 then ((Cj.f k t535 t536 t537).bind fun t552 => ((Dy.f k t535 t536 t537).bind fun t553 => (if (t552 != t553) = true then (Ap.j0 k bt542.2.2.2 true t535 t536 t537 t538 t539 bt542.1 bt542.2.1 bt542.2.2.1) else ((Ba.f k t538 t539).bind fun t554 => ((Dt.f k t538 t539).bind fun t555 => (Ap.j0 k bt542.2.2.2 (t554 != t555) t535 t536 t537 t538 t539 bt542.1 bt542.2.1 bt542.2.2.1)))))) else (Ap.j0 k bt542.2.2.2 true t535 t536 t537 t538 t539 bt542.1 bt542.2.1 bt542.2.2.1))))) = some r := H
    have A4 := Aside0.mk A40
    clear A40
    replace H := Option.bind_eq_some_iff.mp H
    obtain ⟨⟨t542, t543, t544, t545⟩, A50, H⟩ := H
    replace H : ((Au.f k t535 t536 t537 t538 t539).bind fun bt547 => (if (!(t542.toList == bt547.1.toList) || (!(t543.toList == bt547.2.1.toList) || (!(t544 == bt547.2.2.1)))) = true then (Ap.j0 k t545 true t535 t536 t537 t538 t539 t542 t543 t544) else (if t545 = bt547.2.2.2 then ((Cj.f k t535 t536 t537).bind fun t552 => ((Dy.f k t535 t536 t537).bind fun t553 => (if (t552 != t553) = true then (Ap.j0 k t545 true t535 t536 t537 t538 t539 t542 t543 t544) else ((Ba.f k t538 t539).bind fun t554 => ((Dt.f k t538 t539).bind fun t555 => (Ap.j0 k t545 (t554 != t555) t535 t536 t537 t538 t539 t542 t543 t544)))))) else (Ap.j0 k t545 true t535 t536 t537 t538 t539 t542 t543 t544)))) = some r := H
    have A5 := Aside0.mk A50
    clear A50
    replace H := Option.bind_eq_some_iff.mp H
    obtain ⟨⟨t547, t548, t549, t550⟩, A60, H⟩ := H
    replace H : (if (!(t542.toList == t547.toList) || (!(t543.toList == t548.toList) || (!(t544 == t549)))) = true then (Ap.j0 k t545 true t535 t536 t537 t538 t539 t542 t543 t544) else (if t545 = t550 then ((Cj.f k t535 t536 t537).bind fun t552 => ((Dy.f k t535 t536 t537).bind fun t553 => (if (t552 != t553) = true then (Ap.j0 k t545 true t535 t536 t537 t538 t539 t542 t543 t544) else ((Ba.f k t538 t539).bind fun t554 => ((Dt.f k t538 t539).bind fun t555 => (Ap.j0 k t545 (t554 != t555) t535 t536 t537 t538 t539 t542 t543 t544)))))) else (Ap.j0 k t545 true t535 t536 t537 t538 t539 t542 t543 t544))) = some r := H
    have A6 := Aside0.mk A60
    clear A60
    have HC7 := Aside0.mk H
    clear H
    go_enter Tryd.func10, Tryd.ntmps10
    go_upto_region 6 with (first | ((with_reducible refine Am (f := 35) rfl ?_); refine Be (some 20) rfl rfl Tryd.func35 (by kernel_rfl) rfl #[.slice A0 l0.length c0] rfl Yc_ ?_; (with_reducible refine (Hz.calls _ _ l0 false _ ?side1 ?side2 A2.out).mono ?_); (case side1 => repeat (first | exact HR0.out | (with_reducible refine Kd.Hf ?_ _) | (with_reducible refine Kd.Hg ?_ _) | (with_reducible refine Kd.C_drew ?_))); (case side2 => exact HC0.out); rintro e w' ⟨rfl, ⟨nd, rfl⟩⟩; refine ⟨_, rfl, ?_⟩) | ((with_reducible refine Am (f := 36) rfl ?_); refine Be (some 23) rfl rfl Tryd.func36 (by kernel_rfl) rfl #[.slice A0 l0.length c0] rfl Yc_ ?_; (with_reducible refine (Bh.calls k _ _ l0 t535 t536 t537 t538 t539 _ ?side1 ?side2 A4.out).mono ?_); (case side1 => repeat (first | exact HR0.out | (with_reducible refine Kd.Hf ?_ _) | (with_reducible refine Kd.Hg ?_ _) | (with_reducible refine Kd.C_drew ?_))); (case side2 => exact HC0.out); rintro e w8 ⟨rfl, hb⟩; refine ⟨_, rfl, ?_⟩; have n0_ := Aside0.mk (Ag Ya_ hb); clear HB; have HB := n0_; clear n0_; (try clear hb); (try clear hb2); (try clear hk); (try clear hi)) | ((with_reducible refine Bd (N := 3) rfl ?_); (try (refine Ef (by rfl) ?_; dsimp only)); refine Bc ?hg (N := 3) ?hd (cs := #[.string (⟨#[]⟩ : ByteArray), .string (⟨#[]⟩ : ByteArray), .int .i64 0]) (t := 31) ?hr ?_; (case hd => rfl); (case hg => rfl); (case hr => first | (go_simp; done) | (go_simp; rfl)); intro gb0 hg w9 hbox hb; have n0_ := Aside0.mk (Ag Ya_ hb); have n1_ := Aside0.mk (hbox); have n2_ := Aside0.mk ((by rw [hg]; exact (Ah Ya_) : w.heap.size ≤ gb0)); have n3_ := Aside0.mk ((by rw [hg]; exact (Ah Ya_) : w.heap.size ≤ gb0)); clear HB; have HB := n0_; have BK0 := n1_; have GW0 := n2_; have GE0 := n3_; clear n0_ n1_ n2_ n3_; clear hb hbox hg) | ((with_reducible refine Bd (N := 4) rfl ?_); (try (refine Ef (by rfl) ?_; dsimp only)); refine Bc ?hg (N := 4) ?hd (cs := #[.string (⟨#[]⟩ : ByteArray), .string (⟨#[]⟩ : ByteArray)]) (t := 27) ?hr ?_; (case hd => rfl); (case hg => rfl); (case hr => first | (go_simp; done) | (go_simp; rfl)); intro gb1 hg w10 hbox hb; have n0_ := Aside0.mk (Ai (g := gb0) (o := .cells #[.string (⟨#[]⟩ : ByteArray), .string (⟨#[]⟩ : ByteArray), .int .i64 0] 31 (0, 0)) Yd_ hb); have n1_ := Aside0.mk (Ag Yb_ hb); have n2_ := Aside0.mk (hbox); have n3_ := Aside0.mk ((by rw [hg]; exact (Ah Yb_) : w.heap.size ≤ gb1)); have n4_ := Aside0.mk ((by rw [hg]; exact (Ah Yb_) : w.heap.size ≤ gb1)); have n5_ := Aside0.mk ((by rw [hg]; exact Nat.ne_of_lt (Cf (g := gb0) (o := .cells #[.string (⟨#[]⟩ : ByteArray), .string (⟨#[]⟩ : ByteArray), .int .i64 0] 31 (0, 0)) Yd_) : gb0 ≠ gb1)); have n6_ := Aside0.mk ((by rw [hg]; exact Nat.ne_of_gt (Cf (g := gb0) (o := .cells #[.string (⟨#[]⟩ : ByteArray), .string (⟨#[]⟩ : ByteArray), .int .i64 0] 31 (0, 0)) Yd_) : gb1 ≠ gb0)); clear BK0; clear HB; have BK0 := n0_; have HB := n1_; have BK1 := n2_; have GW1 := n3_; have GE1 := n4_; have NB0_1 := n5_; have NB1_0 := n6_; clear n0_ n1_ n2_ n3_ n4_ n5_ n6_; clear hb hbox hg; have hnb11 := NB0_1.out; have hnc11 := NB1_0.out; have hcz12_0 : w10.cell? ⟨gb0, 0, none⟩ = some (.string (⟨#[]⟩ : ByteArray)) := (Ae BK0.out 0).trans rfl; have hcz12_1 : w10.cell? ⟨gb0, 1, none⟩ = some (.string (⟨#[]⟩ : ByteArray)) := (Ae BK0.out 1).trans rfl; have hcz12_2 : w10.cell? ⟨gb0, 2, none⟩ = some (.int .i64 0) := (Ae BK0.out 2).trans rfl; have hfz12_0 := Af BK0.out 0; have hfz12_1 := Af BK0.out 1; have hfz12_2 := Af BK0.out 2; have hcz13_0 : w10.cell? ⟨gb1, 0, none⟩ = some (.string (⟨#[]⟩ : ByteArray)) := (Ae BK1.out 0).trans rfl; have hcz13_1 : w10.cell? ⟨gb1, 1, none⟩ = some (.string (⟨#[]⟩ : ByteArray)) := (Ae BK1.out 1).trans rfl; have hfz13_0 := Af BK1.out 0; have hfz13_1 := Af BK1.out 1) | ((with_reducible refine Am (f := 29) rfl ?_); refine Be (some 29) rfl rfl Tryd.func29 (by kernel_rfl) rfl #[.agg #[.string t535, .string t536, .int .i64 t537], .agg #[.string t538, .string t539]] rfl Yc_ ?_; (with_reducible refine (Bg.calls k t535 t536 t537 t538 t539 t542 t543 t544 t545 _ ?side1 A5.out).mono ?_); (case side1 => exact Eg.below HGL.out Yf_); rintro e w14 ⟨rfl, hb⟩; refine ⟨_, rfl, ?_⟩; have n0_ := Aside0.mk (Ai (g := gb0) (o := .cells #[.string t535, .string t536, .int .i64 t537] 31 (0, 0)) (by (with_reducible repeat (first | refine Aa ?_ _ | refine Ad ?_ | refine Ac ?_ _)); refine Aq ?_ NB0_1.out _; (with_reducible repeat (first | refine Aa ?_ _ | refine Ad ?_ | refine Ac ?_ _)); refine Aq ?_ NB0_1.out _; (with_reducible repeat (first | refine Aa ?_ _ | refine Ad ?_ | refine Ac ?_ _)); refine Ar (cs := #[.string t535, .string t536, .int .i64 0]) ?_ 2 _ rfl; (with_reducible repeat (first | refine Aa ?_ _ | refine Ad ?_ | refine Ac ?_ _)); refine Ar (cs := #[.string t535, .string (⟨#[]⟩ : ByteArray), .int .i64 0]) ?_ 1 _ rfl; (with_reducible repeat (first | refine Aa ?_ _ | refine Ad ?_ | refine Ac ?_ _)); refine Ar (cs := #[.string (⟨#[]⟩ : ByteArray), .string (⟨#[]⟩ : ByteArray), .int .i64 0]) ?_ 0 _ rfl; (with_reducible repeat (first | refine Aa ?_ _ | refine Ad ?_ | refine Ac ?_ _)); exact BK0.out) hb); have n1_ := Aside0.mk (Ai (g := gb1) (o := .cells #[.string t538, .string t539] 27 (0, 0)) (by (with_reducible repeat (first | refine Aa ?_ _ | refine Ad ?_ | refine Ac ?_ _)); refine Ar (cs := #[.string t538, .string (⟨#[]⟩ : ByteArray)]) ?_ 1 _ rfl; (with_reducible repeat (first | refine Aa ?_ _ | refine Ad ?_ | refine Ac ?_ _)); refine Ar (cs := #[.string (⟨#[]⟩ : ByteArray), .string (⟨#[]⟩ : ByteArray)]) ?_ 0 _ rfl; (with_reducible repeat (first | refine Aa ?_ _ | refine Ad ?_ | refine Ac ?_ _)); refine Aq ?_ NB1_0.out _; (with_reducible repeat (first | refine Aa ?_ _ | refine Ad ?_ | refine Ac ?_ _)); refine Aq ?_ NB1_0.out _; (with_reducible repeat (first | refine Aa ?_ _ | refine Ad ?_ | refine Ac ?_ _)); refine Aq ?_ NB1_0.out _; (with_reducible repeat (first | refine Aa ?_ _ | refine Ad ?_ | refine Ac ?_ _)); exact BK1.out) hb); have n2_ := Aside0.mk (Ag Yf_ hb); clear BK0; clear BK1; clear HB; have BK0 := n0_; have BK1 := n1_; have HB := n2_; clear n0_ n1_ n2_; (try clear hb); (try clear hb2); (try clear hk); (try clear hi)) | ((with_reducible refine Bd (N := 5) rfl ?_); (try (refine Ef (by rfl) ?_; dsimp only)); refine Bc ?hg (N := 5) ?hd (cs := #[.string (⟨#[]⟩ : ByteArray), .string (⟨#[]⟩ : ByteArray), .int .i64 0]) (t := 31) ?hr ?_; (case hd => rfl); (case hg => rfl); (case hr => first | (go_simp; done) | (go_simp; rfl)); intro gb2 hg w15 hbox hb; have n0_ := Aside0.mk (Ai (g := gb0) (o := .cells #[.string t535, .string t536, .int .i64 t537] 31 (0, 0)) Yd_ hb); have n1_ := Aside0.mk (Ai (g := gb1) (o := .cells #[.string t538, .string t539] 27 (0, 0)) Ye_ hb); have n2_ := Aside0.mk (Ag Yf_ hb); have n3_ := Aside0.mk (hbox); have n4_ := Aside0.mk ((by rw [hg]; exact (Ah Yf_) : w.heap.size ≤ gb2)); have n5_ := Aside0.mk ((by rw [hg]; exact (Ah Yf_) : w.heap.size ≤ gb2)); have n6_ := Aside0.mk ((by rw [hg]; exact Nat.ne_of_lt (Cf (g := gb0) (o := .cells #[.string t535, .string t536, .int .i64 t537] 31 (0, 0)) Yd_) : gb0 ≠ gb2)); have n7_ := Aside0.mk ((by rw [hg]; exact Nat.ne_of_gt (Cf (g := gb0) (o := .cells #[.string t535, .string t536, .int .i64 t537] 31 (0, 0)) Yd_) : gb2 ≠ gb0)); have n8_ := Aside0.mk ((by rw [hg]; exact Nat.ne_of_lt (Cf (g := gb1) (o := .cells #[.string t538, .string t539] 27 (0, 0)) Ye_) : gb1 ≠ gb2)); have n9_ := Aside0.mk ((by rw [hg]; exact Nat.ne_of_gt (Cf (g := gb1) (o := .cells #[.string t538, .string t539] 27 (0, 0)) Ye_) : gb2 ≠ gb1)); clear BK0; clear BK1; clear HB; have BK0 := n0_; have BK1 := n1_; have HB := n2_; have BK2 := n3_; have GW2 := n4_; have GE2 := n5_; have NB0_2 := n6_; have NB2_0 := n7_; have NB1_2 := n8_; have NB2_1 := n9_; clear n0_ n1_ n2_ n3_ n4_ n5_ n6_ n7_ n8_ n9_; clear hb hbox hg; have hnb16 := NB2_0.out; have hnc16 := NB0_2.out; have hnb17 := NB2_1.out; have hnc17 := NB1_2.out; have hcz18_0 : w15.cell? ⟨gb2, 0, none⟩ = some (.string (⟨#[]⟩ : ByteArray)) := (Ae BK2.out 0).trans rfl; have hcz18_1 : w15.cell? ⟨gb2, 1, none⟩ = some (.string (⟨#[]⟩ : ByteArray)) := (Ae BK2.out 1).trans rfl; have hcz18_2 : w15.cell? ⟨gb2, 2, none⟩ = some (.int .i64 0) := (Ae BK2.out 2).trans rfl; have hfz18_0 := Af BK2.out 0; have hfz18_1 := Af BK2.out 1; have hfz18_2 := Af BK2.out 2; have hcz19_0 : w15.cell? ⟨gb0, 0, none⟩ = some (.string t535) := (Ae BK0.out 0).trans rfl; have hcz19_1 : w15.cell? ⟨gb0, 1, none⟩ = some (.string t536) := (Ae BK0.out 1).trans rfl; have hcz19_2 : w15.cell? ⟨gb0, 2, none⟩ = some (.int .i64 t537) := (Ae BK0.out 2).trans rfl; have hfz19_0 := Af BK0.out 0; have hfz19_1 := Af BK0.out 1; have hfz19_2 := Af BK0.out 2; have hcz20_0 : w15.cell? ⟨gb1, 0, none⟩ = some (.string t538) := (Ae BK1.out 0).trans rfl; have hcz20_1 : w15.cell? ⟨gb1, 1, none⟩ = some (.string t539) := (Ae BK1.out 1).trans rfl; have hfz20_0 := Af BK1.out 0; have hfz20_1 := Af BK1.out 1) | ((with_reducible refine Am (f := 28) rfl ?_); refine Be (some 35) rfl rfl Tryd.func28 (by kernel_rfl) rfl #[.agg #[.string t535, .string t536, .int .i64 t537], .agg #[.string t538, .string t539]] rfl Yc_ ?_; (with_reducible refine (Au.calls k t535 t536 t537 t538 t539 t547 t548 t549 t550 _ A6.out).mono ?_); rintro e w21 ⟨rfl, hb⟩; refine ⟨_, rfl, ?_⟩; have n0_ := Aside0.mk (Ai (g := gb0) (o := .cells #[.string t535, .string t536, .int .i64 t537] 31 (0, 0)) (by (with_reducible repeat (first | refine Aa ?_ _ | refine Ad ?_ | refine Ac ?_ _)); refine Aq ?_ NB0_2.out _; (with_reducible repeat (first | refine Aa ?_ _ | refine Ad ?_ | refine Ac ?_ _)); refine Aq ?_ NB0_2.out _; (with_reducible repeat (first | refine Aa ?_ _ | refine Ad ?_ | refine Ac ?_ _)); refine Aq ?_ NB0_2.out _; (with_reducible repeat (first | refine Aa ?_ _ | refine Ad ?_ | refine Ac ?_ _)); exact BK0.out) hb); have n1_ := Aside0.mk (Ai (g := gb1) (o := .cells #[.string t538, .string t539] 27 (0, 0)) (by (with_reducible repeat (first | refine Aa ?_ _ | refine Ad ?_ | refine Ac ?_ _)); refine Aq ?_ NB1_2.out _; (with_reducible repeat (first | refine Aa ?_ _ | refine Ad ?_ | refine Ac ?_ _)); refine Aq ?_ NB1_2.out _; (with_reducible repeat (first | refine Aa ?_ _ | refine Ad ?_ | refine Ac ?_ _)); refine Aq ?_ NB1_2.out _; (with_reducible repeat (first | refine Aa ?_ _ | refine Ad ?_ | refine Ac ?_ _)); exact BK1.out) hb); have n2_ := Aside0.mk (Ai (g := gb2) (o := .cells #[.string t542, .string t543, .int .i64 t544] 31 (0, 0)) (by (with_reducible repeat (first | refine Aa ?_ _ | refine Ad ?_ | refine Ac ?_ _)); refine Ar (cs := #[.string t542, .string t543, .int .i64 0]) ?_ 2 _ rfl; (with_reducible repeat (first | refine Aa ?_ _ | refine Ad ?_ | refine Ac ?_ _)); refine Ar (cs := #[.string t542, .string (⟨#[]⟩ : ByteArray), .int .i64 0]) ?_ 1 _ rfl; (with_reducible repeat (first | refine Aa ?_ _ | refine Ad ?_ | refine Ac ?_ _)); refine Ar (cs := #[.string (⟨#[]⟩ : ByteArray), .string (⟨#[]⟩ : ByteArray), .int .i64 0]) ?_ 0 _ rfl; (with_reducible repeat (first | refine Aa ?_ _ | refine Ad ?_ | refine Ac ?_ _)); exact BK2.out) hb); have n3_ := Aside0.mk (Ag Yj_ hb); clear BK0; clear BK1; clear BK2; clear HB; have BK0 := n0_; have BK1 := n1_; have BK2 := n2_; have HB := n3_; clear n0_ n1_ n2_ n3_; (try clear hb); (try clear hb2); (try clear hk); (try clear hi)) | ((with_reducible refine Bd (N := 7) rfl ?_); (try (refine Ef (by rfl) ?_; dsimp only)); refine Bc ?hg (N := 7) ?hd (cs := #[.string (⟨#[]⟩ : ByteArray), .string (⟨#[]⟩ : ByteArray), .int .i64 0]) (t := 31) ?hr ?_; (case hd => rfl); (case hg => rfl); (case hr => first | (go_simp; done) | (go_simp; rfl)); intro gb3 hg w22 hbox hb; have n0_ := Aside0.mk (Ai (g := gb0) (o := .cells #[.string t535, .string t536, .int .i64 t537] 31 (0, 0)) Yd_ hb); have n1_ := Aside0.mk (Ai (g := gb1) (o := .cells #[.string t538, .string t539] 27 (0, 0)) Ye_ hb); have n2_ := Aside0.mk (Ai (g := gb2) (o := .cells #[.string t542, .string t543, .int .i64 t544] 31 (0, 0)) Ybc_ hb); have n3_ := Aside0.mk (Ag Yj_ hb); have n4_ := Aside0.mk (hbox); have n5_ := Aside0.mk ((by rw [hg]; exact (Ah Yj_) : w.heap.size ≤ gb3)); have n6_ := Aside0.mk ((by rw [hg]; exact (Ah Yj_) : w.heap.size ≤ gb3)); have n7_ := Aside0.mk ((by rw [hg]; exact Nat.ne_of_lt (Cf (g := gb0) (o := .cells #[.string t535, .string t536, .int .i64 t537] 31 (0, 0)) Yd_) : gb0 ≠ gb3)); have n8_ := Aside0.mk ((by rw [hg]; exact Nat.ne_of_gt (Cf (g := gb0) (o := .cells #[.string t535, .string t536, .int .i64 t537] 31 (0, 0)) Yd_) : gb3 ≠ gb0)); have n9_ := Aside0.mk ((by rw [hg]; exact Nat.ne_of_lt (Cf (g := gb1) (o := .cells #[.string t538, .string t539] 27 (0, 0)) Ye_) : gb1 ≠ gb3)); have n10_ := Aside0.mk ((by rw [hg]; exact Nat.ne_of_gt (Cf (g := gb1) (o := .cells #[.string t538, .string t539] 27 (0, 0)) Ye_) : gb3 ≠ gb1)); have n11_ := Aside0.mk ((by rw [hg]; exact Nat.ne_of_lt (Cf (g := gb2) (o := .cells #[.string t542, .string t543, .int .i64 t544] 31 (0, 0)) Ybc_) : gb2 ≠ gb3)); have n12_ := Aside0.mk ((by rw [hg]; exact Nat.ne_of_gt (Cf (g := gb2) (o := .cells #[.string t542, .string t543, .int .i64 t544] 31 (0, 0)) Ybc_) : gb3 ≠ gb2)); clear BK0; clear BK1; clear BK2; clear HB; have BK0 := n0_; have BK1 := n1_; have BK2 := n2_; have HB := n3_; have BK3 := n4_; have GW3 := n5_; have GE3 := n6_; have NB0_3 := n7_; have NB3_0 := n8_; have NB1_3 := n9_; have NB3_1 := n10_; have NB2_3 := n11_; have NB3_2 := n12_; clear n0_ n1_ n2_ n3_ n4_ n5_ n6_ n7_ n8_ n9_ n10_ n11_ n12_; clear hb hbox hg; have hnb23 := NB3_0.out; have hnc23 := NB0_3.out; have hnb24 := NB3_1.out; have hnc24 := NB1_3.out; have hnb25 := NB3_2.out; have hnc25 := NB2_3.out; have hcz26_0 : w22.cell? ⟨gb3, 0, none⟩ = some (.string (⟨#[]⟩ : ByteArray)) := (Ae BK3.out 0).trans rfl; have hcz26_1 : w22.cell? ⟨gb3, 1, none⟩ = some (.string (⟨#[]⟩ : ByteArray)) := (Ae BK3.out 1).trans rfl; have hcz26_2 : w22.cell? ⟨gb3, 2, none⟩ = some (.int .i64 0) := (Ae BK3.out 2).trans rfl; have hfz26_0 := Af BK3.out 0; have hfz26_1 := Af BK3.out 1; have hfz26_2 := Af BK3.out 2))
    (try simp only [Act.put, List.setIfInBounds_toArray, List.set_cons_zero, List.set_cons_succ])
    go_cut [59] (fun v59 wc => ∃ (kq : Nat) (x59_6 : Bool), v59 = .bool x59_6 ∧ Aside0 (Ap.j0 kq t545 x59_6 t535 t536 t537 t538 t539 t542 t543 t544 = some r) ∧ Aside0 (kq ≤ k) ∧ Aside0 (wc.heap[gb0]? = some (.cells #[.string t535, .string t536, .int .i64 t537] 31 (0, 0))) ∧ Aside0 (wc.heap[gb1]? = some (.cells #[.string t538, .string t539] 27 (0, 0))) ∧ Aside0 (wc.heap[gb2]? = some (.cells #[.string t542, .string t543, .int .i64 t544] 31 (0, 0))) ∧ Aside0 (wc.heap[gb3]? = some (.cells #[.string t547, .string t548, .int .i64 t549] 31 (0, 0))) ∧ Aside0 (Below w.heap.size w wc))
    case first =>
      have H := HC7.out
      clear HC7
      by_cases c27 : (!(t542.toList == t547.toList) || (!(t543.toList == t548.toList) || (!(t544 == t549)))) = true
      · rw [if_pos c27] at H
        have c27b0 : (!(t542.toList == t547.toList) || (!(t543.toList == t548.toList) || (!(t544 == t549)))) = true := c27
        clear c27
        (first | rw [c27b0] | (simp only [Aw, Az]; rw [c27b0]) | skip)
        have H' := Aside0.mk H
        clear H
        try go_wp2
        have n0_ : Aside0 ((((w22.setCell ⟨gb3, 0, none⟩ (.string t547)).setCell ⟨gb3, 1, none⟩ (.string t548)).setCell ⟨gb3, 2, none⟩ (.int .i64 t549)).heap[gb0]? = some (.cells #[.string t535, .string t536, .int .i64 t537] 31 (0, 0))) := ⟨by (with_reducible repeat (first | refine Aa ?_ _ | refine Ad ?_ | refine Ac ?_ _)); refine Aq ?_ NB0_3.out _; (with_reducible repeat (first | refine Aa ?_ _ | refine Ad ?_ | refine Ac ?_ _)); refine Aq ?_ NB0_3.out _; (with_reducible repeat (first | refine Aa ?_ _ | refine Ad ?_ | refine Ac ?_ _)); refine Aq ?_ NB0_3.out _; (with_reducible repeat (first | refine Aa ?_ _ | refine Ad ?_ | refine Ac ?_ _)); exact BK0.out⟩
        have n1_ : Aside0 ((((w22.setCell ⟨gb3, 0, none⟩ (.string t547)).setCell ⟨gb3, 1, none⟩ (.string t548)).setCell ⟨gb3, 2, none⟩ (.int .i64 t549)).heap[gb1]? = some (.cells #[.string t538, .string t539] 27 (0, 0))) := ⟨by (with_reducible repeat (first | refine Aa ?_ _ | refine Ad ?_ | refine Ac ?_ _)); refine Aq ?_ NB1_3.out _; (with_reducible repeat (first | refine Aa ?_ _ | refine Ad ?_ | refine Ac ?_ _)); refine Aq ?_ NB1_3.out _; (with_reducible repeat (first | refine Aa ?_ _ | refine Ad ?_ | refine Ac ?_ _)); refine Aq ?_ NB1_3.out _; (with_reducible repeat (first | refine Aa ?_ _ | refine Ad ?_ | refine Ac ?_ _)); exact BK1.out⟩
        have n2_ : Aside0 ((((w22.setCell ⟨gb3, 0, none⟩ (.string t547)).setCell ⟨gb3, 1, none⟩ (.string t548)).setCell ⟨gb3, 2, none⟩ (.int .i64 t549)).heap[gb2]? = some (.cells #[.string t542, .string t543, .int .i64 t544] 31 (0, 0))) := ⟨by (with_reducible repeat (first | refine Aa ?_ _ | refine Ad ?_ | refine Ac ?_ _)); refine Aq ?_ NB2_3.out _; (with_reducible repeat (first | refine Aa ?_ _ | refine Ad ?_ | refine Ac ?_ _)); refine Aq ?_ NB2_3.out _; (with_reducible repeat (first | refine Aa ?_ _ | refine Ad ?_ | refine Ac ?_ _)); refine Aq ?_ NB2_3.out _; (with_reducible repeat (first | refine Aa ?_ _ | refine Ad ?_ | refine Ac ?_ _)); exact BK2.out⟩
        have n3_ : Aside0 ((((w22.setCell ⟨gb3, 0, none⟩ (.string t547)).setCell ⟨gb3, 1, none⟩ (.string t548)).setCell ⟨gb3, 2, none⟩ (.int .i64 t549)).heap[gb3]? = some (.cells #[.string t547, .string t548, .int .i64 t549] 31 (0, 0))) := ⟨by (with_reducible repeat (first | refine Aa ?_ _ | refine Ad ?_ | refine Ac ?_ _)); refine Ar (cs := #[.string t547, .string t548, .int .i64 0]) ?_ 2 _ rfl; (with_reducible repeat (first | refine Aa ?_ _ | refine Ad ?_ | refine Ac ?_ _)); refine Ar (cs := #[.string t547, .string (⟨#[]⟩ : ByteArray), .int .i64 0]) ?_ 1 _ rfl; (with_reducible repeat (first | refine Aa ?_ _ | refine Ad ?_ | refine Ac ?_ _)); refine Ar (cs := #[.string (⟨#[]⟩ : ByteArray), .string (⟨#[]⟩ : ByteArray), .int .i64 0]) ?_ 0 _ rfl; (with_reducible repeat (first | refine Aa ?_ _ | refine Ad ?_ | refine Ac ?_ _)); exact BK3.out⟩
        have n4_ : Aside0 (Below w.heap.size w (((w22.setCell ⟨gb3, 0, none⟩ (.string t547)).setCell ⟨gb3, 1, none⟩ (.string t548)).setCell ⟨gb3, 2, none⟩ (.int .i64 t549))) := ⟨by repeat (first | (with_reducible first | exact HB.out | apply below_alloc | apply pw_below_drewN | apply below_drew1 | refine below_set ?_ GE0.out | refine below_set ?_ GE1.out | refine below_set ?_ GE2.out | refine below_set ?_ GE3.out) | exact HB.out)⟩
        (try clear BK0)
        (try clear BK1)
        (try clear BK2)
        (try clear BK3)
        (try clear HB)
        generalize (((w22.setCell ⟨gb3, 0, none⟩ (.string t547)).setCell ⟨gb3, 1, none⟩ (.string t548)).setCell ⟨gb3, 2, none⟩ (.int .i64 t549)) = w28 at n0_ n1_ n2_ n3_ n4_ ⊢
        have BK0 := n0_
        have BK1 := n1_
        have BK2 := n2_
        have BK3 := n3_
        have HB := n4_
        clear n0_ n1_ n2_ n3_ n4_
        have n0_ := Aside0.mk (Ad BK0.out)
        have n1_ := Aside0.mk (Ad BK1.out)
        have n2_ := Aside0.mk (Ad BK2.out)
        have n3_ := Aside0.mk (Ad BK3.out)
        have n4_ := Aside0.mk (below_drew1 HB.out)
        clear BK0
        clear BK1
        clear BK2
        clear BK3
        clear HB
        have BK0 := n0_
        have BK1 := n1_
        have BK2 := n2_
        have BK3 := n3_
        have HB := n4_
        clear n0_ n1_ n2_ n3_ n4_
        refine G5 (n := 22) (S := fun w' => w'.cell? ⟨gb2, 0, none⟩ = some (.string t542) ∧ w'.cell? ⟨gb2, 1, none⟩ = some (.string t543) ∧ w'.cell? ⟨gb2, 2, none⟩ = some (.int .i64 t544) ∧ w'.cell? ⟨gb3, 0, none⟩ = some (.string t547) ∧ w'.cell? ⟨gb3, 1, none⟩ = some (.string t548) ∧ w'.cell? ⟨gb3, 2, none⟩ = some (.int .i64 t549)) (ds := []) #[false, false, false, false, false, false, false, false, false, false, false, false, false, false, false, false, false, false, false, false, false, false] (by kernel_rfl) rfl rfl ⟨(Ae BK2.out 0).trans rfl, (Ae BK2.out 1).trans rfl, (Ae BK2.out 2).trans rfl, (Ae BK3.out 0).trans rfl, (Ae BK3.out 1).trans rfl, (Ae BK3.out 2).trans rfl⟩ (fun hHeld => ?_); refine Gf Ap.tab6 Ap.bits6 (fun HT_ HW_ => ?_)
        generalize w28.drew = w29 at BK0 BK1 BK2 BK3 HB hHeld ⊢
        refine E8 (i := 0) (N := some 38) (v := ?_) (a' := ?_) #[true, false, false, false, false, false, false, false, false, false, false, false, false, false, false, false, false, false, false, false, false, false] rfl rfl (Ea HT_.out HW_.out (by kernel_rfl)) (fun _ _ _ h => h) (Or.inl ⟨by rfl, ?_⟩) hHeld ?_ ?_
        rotate_left
        · rintro w' ⟨s0, s1, s2, s3, s4, s5⟩
          go_simp
          with_reducible rfl
        rotate_left
        · simp only [Act.put, List.setIfInBounds_toArray, List.set_cons_zero, List.set_cons_succ, Aw, Az]
          rfl
        refine E8 (i := 1) (N := some 39) (v := ?_) (a' := ?_) #[true, true, false, false, false, false, false, false, false, false, false, false, false, false, false, false, false, false, false, false, false, false] rfl rfl (Ea HT_.out HW_.out (by kernel_rfl)) (fun _ _ _ h => h) (Or.inl ⟨by rfl, ?_⟩) hHeld ?_ ?_
        rotate_left
        · rintro w' ⟨s0, s1, s2, s3, s4, s5⟩
          go_simp
          with_reducible rfl
        rotate_left
        · simp only [Act.put, List.setIfInBounds_toArray, List.set_cons_zero, List.set_cons_succ, Aw, Az]
          rfl
        refine Bz (i := 2) (N := some 40) (v := ?_) (a' := ?_) #[true, true, true, false, false, false, false, false, false, false, false, false, false, false, false, false, false, false, false, false, false, false] rfl rfl (Bf HT_.out (by kernel_rfl)) (fun _ _ _ h => h) (Or.inl ⟨by rfl, ?_⟩) ?_ ?_
        rotate_left
        · intro w'
          go_simp
          with_reducible rfl
        rotate_left
        · simp only [Act.put, List.setIfInBounds_toArray, List.set_cons_zero, List.set_cons_succ, Aw, Az]
          rfl
        refine Bz (i := 3) (N := some 41) (v := ?_) (a' := ?_) #[true, true, true, true, false, false, false, false, false, false, false, false, false, false, false, false, false, false, false, false, false, false] rfl rfl (Bf HT_.out (by kernel_rfl)) (fun _ _ _ h => h) (Or.inl ⟨by rfl, ?_⟩) ?_ ?_
        rotate_left
        · intro w'
          go_simp
          with_reducible rfl
        rotate_left
        · simp only [Act.put, List.setIfInBounds_toArray, List.set_cons_zero, List.set_cons_succ, Aw, Az]
          rfl
        refine Bz (i := 4) (N := some 42) (v := undef) (a' := ?_) #[true, true, true, true, true, false, false, false, false, false, false, false, false, false, false, false, false, false, false, false, false, false] rfl rfl (Bf HT_.out (by kernel_rfl)) (fun _ _ _ h => h) (Or.inr ⟨by rfl, rfl⟩) ?_ ?_
        rotate_left
        · simp only [Act.put, List.setIfInBounds_toArray, List.set_cons_zero, List.set_cons_succ, Aw, Az]
          rfl
        refine Bz (i := 5) (N := some 43) (v := undef) (a' := ?_) #[true, true, true, true, true, true, false, false, false, false, false, false, false, false, false, false, false, false, false, false, false, false] rfl rfl (Bf HT_.out (by kernel_rfl)) (fun _ _ _ h => h) (Or.inr ⟨by rfl, rfl⟩) ?_ ?_
        rotate_left
        · simp only [Act.put, List.setIfInBounds_toArray, List.set_cons_zero, List.set_cons_succ, Aw, Az]
          rfl
        refine Bz (i := 6) (N := some 44) (v := undef) (a' := ?_) #[true, true, true, true, true, true, true, false, false, false, false, false, false, false, false, false, false, false, false, false, false, false] rfl rfl (Bf HT_.out (by kernel_rfl)) (fun _ _ _ h => h) (Or.inr ⟨by rfl, rfl⟩) ?_ ?_
        rotate_left
        · simp only [Act.put, List.setIfInBounds_toArray, List.set_cons_zero, List.set_cons_succ, Aw, Az]
          rfl
        refine Bz (i := 7) (N := some 45) (v := ?_) (a' := ?_) #[true, true, true, true, true, true, true, true, false, false, false, false, false, false, false, false, false, false, false, false, false, false] rfl rfl (Bf HT_.out (by kernel_rfl)) (fun _ _ _ h => h) (Or.inl ⟨by rfl, ?_⟩) ?_ ?_
        rotate_left
        · intro w'
          go_simp
          with_reducible rfl
        rotate_left
        · simp only [Act.put, List.setIfInBounds_toArray, List.set_cons_zero, List.set_cons_succ, Aw, Az]
          rfl
        refine Bz (i := 8) (N := some 46) (v := ?_) (a' := ?_) #[true, true, true, true, true, true, true, true, true, false, false, false, false, false, false, false, false, false, false, false, false, false] rfl rfl (Bf HT_.out (by kernel_rfl)) (fun _ _ _ h => h) (Or.inl ⟨by rfl, ?_⟩) ?_ ?_
        rotate_left
        · intro w'
          go_simp
          with_reducible rfl
        rotate_left
        · simp only [Act.put, List.setIfInBounds_toArray, List.set_cons_zero, List.set_cons_succ, Aw, Az]
          rfl
        refine Bz (i := 9) (N := some 47) (v := undef) (a' := ?_) #[true, true, true, true, true, true, true, true, true, true, false, false, false, false, false, false, false, false, false, false, false, false] rfl rfl (Bf HT_.out (by kernel_rfl)) (fun _ _ _ h => h) (Or.inr ⟨by rfl, rfl⟩) ?_ ?_
        rotate_left
        · simp only [Act.put, List.setIfInBounds_toArray, List.set_cons_zero, List.set_cons_succ, Aw, Az]
          rfl
        refine Bz (i := 10) (N := some 48) (v := undef) (a' := ?_) #[true, true, true, true, true, true, true, true, true, true, true, false, false, false, false, false, false, false, false, false, false, false] rfl rfl (Bf HT_.out (by kernel_rfl)) (fun _ _ _ h => h) (Or.inr ⟨by rfl, rfl⟩) ?_ ?_
        rotate_left
        · simp only [Act.put, List.setIfInBounds_toArray, List.set_cons_zero, List.set_cons_succ, Aw, Az]
          rfl
        refine Bz (i := 11) (N := some 49) (v := undef) (a' := ?_) #[true, true, true, true, true, true, true, true, true, true, true, true, false, false, false, false, false, false, false, false, false, false] rfl rfl (Bf HT_.out (by kernel_rfl)) (fun _ _ _ h => h) (Or.inr ⟨by rfl, rfl⟩) ?_ ?_
        rotate_left
        · simp only [Act.put, List.setIfInBounds_toArray, List.set_cons_zero, List.set_cons_succ, Aw, Az]
          rfl
        refine Bz (i := 12) (N := some 50) (v := undef) (a' := ?_) #[true, true, true, true, true, true, true, true, true, true, true, true, true, false, false, false, false, false, false, false, false, false] rfl rfl (Bf HT_.out (by kernel_rfl)) (fun _ _ _ h => h) (Or.inr ⟨by rfl, rfl⟩) ?_ ?_
        rotate_left
        · simp only [Act.put, List.setIfInBounds_toArray, List.set_cons_zero, List.set_cons_succ, Aw, Az]
          rfl
        refine Bz (i := 13) (N := some 51) (v := undef) (a' := ?_) #[true, true, true, true, true, true, true, true, true, true, true, true, true, true, false, false, false, false, false, false, false, false] rfl rfl (Bf HT_.out (by kernel_rfl)) (fun _ _ _ h => h) (Or.inr ⟨by rfl, rfl⟩) ?_ ?_
        rotate_left
        · simp only [Act.put, List.setIfInBounds_toArray, List.set_cons_zero, List.set_cons_succ, Aw, Az]
          rfl
        refine Bz (i := 14) (N := some 52) (v := ?_) (a' := ?_) #[true, true, true, true, true, true, true, true, true, true, true, true, true, true, true, false, false, false, false, false, false, false] rfl rfl (Bf HT_.out (by kernel_rfl)) (fun _ _ _ h => h) (Or.inl ⟨by rfl, ?_⟩) ?_ ?_
        rotate_left
        · intro w'
          go_simp
          with_reducible rfl
        rotate_left
        · simp only [Act.put, List.setIfInBounds_toArray, List.set_cons_zero, List.set_cons_succ, Aw, Az]
          rfl
        refine Bz (i := 15) (N := some 53) (v := ?_) (a' := ?_) #[true, true, true, true, true, true, true, true, true, true, true, true, true, true, true, true, false, false, false, false, false, false] rfl rfl (Bf HT_.out (by kernel_rfl)) (fun _ _ _ h => h) (Or.inl ⟨by rfl, ?_⟩) ?_ ?_
        rotate_left
        · intro w'
          go_simp
          with_reducible rfl
        rotate_left
        · simp only [Act.put, List.setIfInBounds_toArray, List.set_cons_zero, List.set_cons_succ, Aw, Az]
          rfl
        refine Bz (i := 16) (N := some 54) (v := undef) (a' := ?_) #[true, true, true, true, true, true, true, true, true, true, true, true, true, true, true, true, true, false, false, false, false, false] rfl rfl (Bf HT_.out (by kernel_rfl)) (fun _ _ _ h => h) (Or.inr ⟨by rfl, rfl⟩) ?_ ?_
        rotate_left
        · simp only [Act.put, List.setIfInBounds_toArray, List.set_cons_zero, List.set_cons_succ, Aw, Az]
          rfl
        refine Bz (i := 17) (N := some 55) (v := undef) (a' := ?_) #[true, true, true, true, true, true, true, true, true, true, true, true, true, true, true, true, true, true, false, false, false, false] rfl rfl (Bf HT_.out (by kernel_rfl)) (fun _ _ _ h => h) (Or.inr ⟨by rfl, rfl⟩) ?_ ?_
        rotate_left
        · simp only [Act.put, List.setIfInBounds_toArray, List.set_cons_zero, List.set_cons_succ, Aw, Az]
          rfl
        refine Bz (i := 18) (N := some 56) (v := undef) (a' := ?_) #[true, true, true, true, true, true, true, true, true, true, true, true, true, true, true, true, true, true, true, false, false, false] rfl rfl (Bf HT_.out (by kernel_rfl)) (fun _ _ _ h => h) (Or.inr ⟨by rfl, rfl⟩) ?_ ?_
        rotate_left
        · simp only [Act.put, List.setIfInBounds_toArray, List.set_cons_zero, List.set_cons_succ, Aw, Az]
          rfl
        refine Bz (i := 19) (N := some 57) (v := undef) (a' := ?_) #[true, true, true, true, true, true, true, true, true, true, true, true, true, true, true, true, true, true, true, true, false, false] rfl rfl (Bf HT_.out (by kernel_rfl)) (fun _ _ _ h => h) (Or.inr ⟨by rfl, rfl⟩) ?_ ?_
        rotate_left
        · simp only [Act.put, List.setIfInBounds_toArray, List.set_cons_zero, List.set_cons_succ, Aw, Az]
          rfl
        refine Bz (i := 20) (N := some 58) (v := undef) (a' := ?_) #[true, true, true, true, true, true, true, true, true, true, true, true, true, true, true, true, true, true, true, true, true, false] rfl rfl (Bf HT_.out (by kernel_rfl)) (fun _ _ _ h => h) (Or.inr ⟨by rfl, rfl⟩) ?_ ?_
        rotate_left
        · simp only [Act.put, List.setIfInBounds_toArray, List.set_cons_zero, List.set_cons_succ, Aw, Az]
          rfl
        refine Bz (i := 21) (N := some 59) (v := ?_) (a' := ?_) #[true, true, true, true, true, true, true, true, true, true, true, true, true, true, true, true, true, true, true, true, true, true] rfl rfl (Bf HT_.out (by kernel_rfl)) (fun _ _ _ h => h) (Or.inl ⟨by rfl, ?_⟩) ?_ ?_
        rotate_left
        · intro w'
          go_simp
          with_reducible rfl
        rotate_left
        · simp only [Act.put, List.setIfInBounds_toArray, List.set_cons_zero, List.set_cons_succ, Aw, Az]
          rfl
        refine done_ (Gy HT_.out (by kernel_rfl)) ?_
        try go_wp2
        go_meet
        case rel => exact ⟨_, (true), Ybe_, H', ⟨by first | omega | exact Nat.le_refl _⟩, ⟨by (with_reducible repeat (first | refine Aa ?_ _ | refine Ad ?_ | refine Ac ?_ _)); exact BK0.out⟩, ⟨by (with_reducible repeat (first | refine Aa ?_ _ | refine Ad ?_ | refine Ac ?_ _)); exact BK1.out⟩, ⟨by (with_reducible repeat (first | refine Aa ?_ _ | refine Ad ?_ | refine Ac ?_ _)); exact BK2.out⟩, ⟨by (with_reducible repeat (first | refine Aa ?_ _ | refine Ad ?_ | refine Ac ?_ _)); exact BK3.out⟩, ⟨by repeat (first | (with_reducible first | exact HB.out | apply below_alloc | apply pw_below_drewN | apply below_drew1 | refine below_set ?_ GE0.out | refine below_set ?_ GE1.out | refine below_set ?_ GE2.out | refine below_set ?_ GE3.out) | exact HB.out)⟩⟩
      · rw [if_neg c27] at H
        have c27b0 : (!(t542.toList == t547.toList) || (!(t543.toList == t548.toList) || (!(t544 == t549)))) = false := by simpa using c27
        clear c27
        (first | rw [c27b0] | (simp only [Aw, Az]; rw [c27b0]) | skip)
        by_cases c30 : t545 = t550
        · rw [if_pos c30] at H
          have c30b0 : (t545 == t550) = true := beq_iff_eq.mpr c30
          have c30b1 : (t545 != t550) = false := bne_eq_false_iff_eq.mpr c30
          clear c30
          replace H := Option.bind_eq_some_iff.mp H
          obtain ⟨t552, A310, H⟩ := H
          replace H : ((Dy.f k t535 t536 t537).bind fun t553 => (if (t552 != t553) = true then (Ap.j0 k t545 true t535 t536 t537 t538 t539 t542 t543 t544) else ((Ba.f k t538 t539).bind fun t554 => ((Dt.f k t538 t539).bind fun t555 => (Ap.j0 k t545 (t554 != t555) t535 t536 t537 t538 t539 t542 t543 t544))))) = some r := H
          have A31 := Aside0.mk A310
          clear A310
          replace H := Option.bind_eq_some_iff.mp H
          obtain ⟨t553, A320, H⟩ := H
          replace H : (if (t552 != t553) = true then (Ap.j0 k t545 true t535 t536 t537 t538 t539 t542 t543 t544) else ((Ba.f k t538 t539).bind fun t554 => ((Dt.f k t538 t539).bind fun t555 => (Ap.j0 k t545 (t554 != t555) t535 t536 t537 t538 t539 t542 t543 t544)))) = some r := H
          have A32 := Aside0.mk A320
          clear A320
          by_cases c33 : (t552 != t553) = true
          · rw [if_pos c33] at H
            have c33b0 : (t552 != t553) = true := c33
            (try (have c33b1 : decide (t552 = t553) = false := by simpa using c33))
            (try (have c33b2 : (t552 == t553) = false := by simpa using c33))
            (try (have c33b3 : ¬ (t552 = t553) := by simpa using c33))
            clear c33
            have H' := Aside0.mk H
            clear H
            try go_wp2
            have n0_ : Aside0 ((((w22.setCell ⟨gb3, 0, none⟩ (.string t547)).setCell ⟨gb3, 1, none⟩ (.string t548)).setCell ⟨gb3, 2, none⟩ (.int .i64 t549)).heap[gb0]? = some (.cells #[.string t535, .string t536, .int .i64 t537] 31 (0, 0))) := ⟨by (with_reducible repeat (first | refine Aa ?_ _ | refine Ad ?_ | refine Ac ?_ _)); refine Aq ?_ NB0_3.out _; (with_reducible repeat (first | refine Aa ?_ _ | refine Ad ?_ | refine Ac ?_ _)); refine Aq ?_ NB0_3.out _; (with_reducible repeat (first | refine Aa ?_ _ | refine Ad ?_ | refine Ac ?_ _)); refine Aq ?_ NB0_3.out _; (with_reducible repeat (first | refine Aa ?_ _ | refine Ad ?_ | refine Ac ?_ _)); exact BK0.out⟩
            have n1_ : Aside0 ((((w22.setCell ⟨gb3, 0, none⟩ (.string t547)).setCell ⟨gb3, 1, none⟩ (.string t548)).setCell ⟨gb3, 2, none⟩ (.int .i64 t549)).heap[gb1]? = some (.cells #[.string t538, .string t539] 27 (0, 0))) := ⟨by (with_reducible repeat (first | refine Aa ?_ _ | refine Ad ?_ | refine Ac ?_ _)); refine Aq ?_ NB1_3.out _; (with_reducible repeat (first | refine Aa ?_ _ | refine Ad ?_ | refine Ac ?_ _)); refine Aq ?_ NB1_3.out _; (with_reducible repeat (first | refine Aa ?_ _ | refine Ad ?_ | refine Ac ?_ _)); refine Aq ?_ NB1_3.out _; (with_reducible repeat (first | refine Aa ?_ _ | refine Ad ?_ | refine Ac ?_ _)); exact BK1.out⟩
            have n2_ : Aside0 ((((w22.setCell ⟨gb3, 0, none⟩ (.string t547)).setCell ⟨gb3, 1, none⟩ (.string t548)).setCell ⟨gb3, 2, none⟩ (.int .i64 t549)).heap[gb2]? = some (.cells #[.string t542, .string t543, .int .i64 t544] 31 (0, 0))) := ⟨by (with_reducible repeat (first | refine Aa ?_ _ | refine Ad ?_ | refine Ac ?_ _)); refine Aq ?_ NB2_3.out _; (with_reducible repeat (first | refine Aa ?_ _ | refine Ad ?_ | refine Ac ?_ _)); refine Aq ?_ NB2_3.out _; (with_reducible repeat (first | refine Aa ?_ _ | refine Ad ?_ | refine Ac ?_ _)); refine Aq ?_ NB2_3.out _; (with_reducible repeat (first | refine Aa ?_ _ | refine Ad ?_ | refine Ac ?_ _)); exact BK2.out⟩
            have n3_ : Aside0 ((((w22.setCell ⟨gb3, 0, none⟩ (.string t547)).setCell ⟨gb3, 1, none⟩ (.string t548)).setCell ⟨gb3, 2, none⟩ (.int .i64 t549)).heap[gb3]? = some (.cells #[.string t547, .string t548, .int .i64 t549] 31 (0, 0))) := ⟨by (with_reducible repeat (first | refine Aa ?_ _ | refine Ad ?_ | refine Ac ?_ _)); refine Ar (cs := #[.string t547, .string t548, .int .i64 0]) ?_ 2 _ rfl; (with_reducible repeat (first | refine Aa ?_ _ | refine Ad ?_ | refine Ac ?_ _)); refine Ar (cs := #[.string t547, .string (⟨#[]⟩ : ByteArray), .int .i64 0]) ?_ 1 _ rfl; (with_reducible repeat (first | refine Aa ?_ _ | refine Ad ?_ | refine Ac ?_ _)); refine Ar (cs := #[.string (⟨#[]⟩ : ByteArray), .string (⟨#[]⟩ : ByteArray), .int .i64 0]) ?_ 0 _ rfl; (with_reducible repeat (first | refine Aa ?_ _ | refine Ad ?_ | refine Ac ?_ _)); exact BK3.out⟩
            have n4_ : Aside0 (Below w.heap.size w (((w22.setCell ⟨gb3, 0, none⟩ (.string t547)).setCell ⟨gb3, 1, none⟩ (.string t548)).setCell ⟨gb3, 2, none⟩ (.int .i64 t549))) := ⟨by repeat (first | (with_reducible first | exact HB.out | apply below_alloc | apply pw_below_drewN | apply below_drew1 | refine below_set ?_ GE0.out | refine below_set ?_ GE1.out | refine below_set ?_ GE2.out | refine below_set ?_ GE3.out) | exact HB.out)⟩
            (try clear BK0)
            (try clear BK1)
            (try clear BK2)
            (try clear BK3)
            (try clear HB)
            generalize (((w22.setCell ⟨gb3, 0, none⟩ (.string t547)).setCell ⟨gb3, 1, none⟩ (.string t548)).setCell ⟨gb3, 2, none⟩ (.int .i64 t549)) = w34 at n0_ n1_ n2_ n3_ n4_ ⊢
            have BK0 := n0_
            have BK1 := n1_
            have BK2 := n2_
            have BK3 := n3_
            have HB := n4_
            clear n0_ n1_ n2_ n3_ n4_
            have n0_ := Aside0.mk (Ad BK0.out)
            have n1_ := Aside0.mk (Ad BK1.out)
            have n2_ := Aside0.mk (Ad BK2.out)
            have n3_ := Aside0.mk (Ad BK3.out)
            have n4_ := Aside0.mk (below_drew1 HB.out)
            clear BK0
            clear BK1
            clear BK2
            clear BK3
            clear HB
            have BK0 := n0_
            have BK1 := n1_
            have BK2 := n2_
            have BK3 := n3_
            have HB := n4_
            clear n0_ n1_ n2_ n3_ n4_
            refine G5 (n := 22) (S := fun w' => w'.cell? ⟨gb2, 0, none⟩ = some (.string t542) ∧ w'.cell? ⟨gb2, 1, none⟩ = some (.string t543) ∧ w'.cell? ⟨gb2, 2, none⟩ = some (.int .i64 t544) ∧ w'.cell? ⟨gb3, 0, none⟩ = some (.string t547) ∧ w'.cell? ⟨gb3, 1, none⟩ = some (.string t548) ∧ w'.cell? ⟨gb3, 2, none⟩ = some (.int .i64 t549) ∧ w'.cell? ⟨gb0, 0, none⟩ = some (.string t535) ∧ w'.cell? ⟨gb0, 1, none⟩ = some (.string t536) ∧ w'.cell? ⟨gb0, 2, none⟩ = some (.int .i64 t537)) (ds := []) #[false, false, false, false, false, false, false, false, false, false, false, false, false, false, false, false, false, false, false, false, false, false] (by kernel_rfl) rfl rfl ⟨(Ae BK2.out 0).trans rfl, (Ae BK2.out 1).trans rfl, (Ae BK2.out 2).trans rfl, (Ae BK3.out 0).trans rfl, (Ae BK3.out 1).trans rfl, (Ae BK3.out 2).trans rfl, (Ae BK0.out 0).trans rfl, (Ae BK0.out 1).trans rfl, (Ae BK0.out 2).trans rfl⟩ (fun hHeld => ?_); refine Gf Ap.tab6 Ap.bits6 (fun HT_ HW_ => ?_)
            generalize w34.drew = w35 at BK0 BK1 BK2 BK3 HB hHeld ⊢
            refine E8 (i := 0) (N := some 38) (v := ?_) (a' := ?_) #[true, false, false, false, false, false, false, false, false, false, false, false, false, false, false, false, false, false, false, false, false, false] rfl rfl (Ea HT_.out HW_.out (by kernel_rfl)) (fun _ _ _ h => h) (Or.inl ⟨by rfl, ?_⟩) hHeld ?_ ?_
            rotate_left
            · rintro w' ⟨s0, s1, s2, s3, s4, s5, s6, s7, s8⟩
              go_simp
              with_reducible rfl
            rotate_left
            · simp only [Act.put, List.setIfInBounds_toArray, List.set_cons_zero, List.set_cons_succ, Aw, Az]
              rfl
            refine E8 (i := 1) (N := some 39) (v := ?_) (a' := ?_) #[true, true, false, false, false, false, false, false, false, false, false, false, false, false, false, false, false, false, false, false, false, false] rfl rfl (Ea HT_.out HW_.out (by kernel_rfl)) (fun _ _ _ h => h) (Or.inl ⟨by rfl, ?_⟩) hHeld ?_ ?_
            rotate_left
            · rintro w' ⟨s0, s1, s2, s3, s4, s5, s6, s7, s8⟩
              go_simp
              with_reducible rfl
            rotate_left
            · simp only [Act.put, List.setIfInBounds_toArray, List.set_cons_zero, List.set_cons_succ, Aw, Az]
              rfl
            refine Bz (i := 2) (N := some 40) (v := ?_) (a' := ?_) #[true, true, true, false, false, false, false, false, false, false, false, false, false, false, false, false, false, false, false, false, false, false] rfl rfl (Bf HT_.out (by kernel_rfl)) (fun _ _ _ h => h) (Or.inl ⟨by rfl, ?_⟩) ?_ ?_
            rotate_left
            · intro w'
              go_simp
              with_reducible rfl
            rotate_left
            · simp only [Act.put, List.setIfInBounds_toArray, List.set_cons_zero, List.set_cons_succ, Aw, Az]
              rfl
            refine Bz (i := 3) (N := some 41) (v := ?_) (a' := ?_) #[true, true, true, true, false, false, false, false, false, false, false, false, false, false, false, false, false, false, false, false, false, false] rfl rfl (Bf HT_.out (by kernel_rfl)) (fun _ _ _ h => h) (Or.inl ⟨by rfl, ?_⟩) ?_ ?_
            rotate_left
            · intro w'
              go_simp
              with_reducible rfl
            rotate_left
            · simp only [Act.put, List.setIfInBounds_toArray, List.set_cons_zero, List.set_cons_succ, Aw, Az]
              rfl
            refine Bz (i := 4) (N := some 42) (v := ?_) (a' := ?_) #[true, true, true, true, true, false, false, false, false, false, false, false, false, false, false, false, false, false, false, false, false, false] rfl rfl (Bf HT_.out (by kernel_rfl)) (fun _ _ _ h => h) (Or.inl ⟨by rfl, ?_⟩) ?_ ?_
            rotate_left
            · intro w'
              go_simp
              with_reducible rfl
            rotate_left
            · simp only [Act.put, List.setIfInBounds_toArray, List.set_cons_zero, List.set_cons_succ, Aw, Az]
              rfl
            refine Bz (i := 5) (N := some 43) (v := ?_) (a' := ?_) #[true, true, true, true, true, true, false, false, false, false, false, false, false, false, false, false, false, false, false, false, false, false] rfl rfl (Bf HT_.out (by kernel_rfl)) (fun _ _ _ h => h) (Or.inl ⟨by rfl, ?_⟩) ?_ ?_
            rotate_left
            · intro w'
              go_simp
              with_reducible rfl
            rotate_left
            · simp only [Act.put, List.setIfInBounds_toArray, List.set_cons_zero, List.set_cons_succ, Aw, Az]
              rfl
            refine Bz (i := 6) (N := some 44) (v := ?_) (a' := ?_) #[true, true, true, true, true, true, true, false, false, false, false, false, false, false, false, false, false, false, false, false, false, false] rfl rfl (Bf HT_.out (by kernel_rfl)) (fun _ _ _ h => h) (Or.inl ⟨by rfl, ?_⟩) ?_ ?_
            rotate_left
            · intro w'
              go_simp
              with_reducible rfl
            rotate_left
            · simp only [Act.put, List.setIfInBounds_toArray, List.set_cons_zero, List.set_cons_succ, Aw, Az]
              rfl
            refine Bz (i := 7) (N := some 45) (v := ?_) (a' := ?_) #[true, true, true, true, true, true, true, true, false, false, false, false, false, false, false, false, false, false, false, false, false, false] rfl rfl (Bf HT_.out (by kernel_rfl)) (fun _ _ _ h => h) (Or.inl ⟨by rfl, ?_⟩) ?_ ?_
            rotate_left
            · intro w'
              go_simp
              with_reducible rfl
            rotate_left
            · simp only [Act.put, List.setIfInBounds_toArray, List.set_cons_zero, List.set_cons_succ, Aw, Az]
              rfl
            refine Bz (i := 8) (N := some 46) (v := ?_) (a' := ?_) #[true, true, true, true, true, true, true, true, true, false, false, false, false, false, false, false, false, false, false, false, false, false] rfl rfl (Bf HT_.out (by kernel_rfl)) (fun _ _ _ h => h) (Or.inl ⟨by rfl, ?_⟩) ?_ ?_
            rotate_left
            · intro w'
              go_simp
              with_reducible rfl
            rotate_left
            · simp only [Act.put, List.setIfInBounds_toArray, List.set_cons_zero, List.set_cons_succ, Aw, Az]
              rfl
            refine E8 (i := 9) (N := some 47) (v := ?_) (a' := ?_) #[true, true, true, true, true, true, true, true, true, true, false, false, false, false, false, false, false, false, false, false, false, false] rfl rfl (Ea HT_.out HW_.out (by kernel_rfl)) (fun _ _ _ h => h) (Or.inl ⟨by rfl, ?_⟩) hHeld ?_ ?_
            rotate_left
            · rintro w' ⟨s0, s1, s2, s3, s4, s5, s6, s7, s8⟩
              go_simp
              with_reducible rfl
            rotate_left
            · simp only [Act.put, List.setIfInBounds_toArray, List.set_cons_zero, List.set_cons_succ, Aw, Az]
              rfl
            refine E8 (i := 11) (N := some 49) (v := ?_) (a' := ?_) #[true, true, true, true, true, true, true, true, true, true, false, true, false, false, false, false, false, false, false, false, false, false] rfl rfl (Ea HT_.out HW_.out (by kernel_rfl)) (fun _ _ _ h => h) (Or.inl ⟨by rfl, ?_⟩) hHeld ?_ ?_
            rotate_left
            · rintro w' ⟨s0, s1, s2, s3, s4, s5, s6, s7, s8⟩
              go_simp
              with_reducible rfl
            rotate_left
            · simp only [Act.put, List.setIfInBounds_toArray, List.set_cons_zero, List.set_cons_succ, Aw, Az]
              rfl
            refine one_ (i := 10) (N := some 48) #[true, true, true, true, true, true, true, true, true, true, true, true, false, false, false, false, false, false, false, false, false, false] rfl rfl (Fp HT_.out (by kernel_rfl)) (by decide) (fun K hK => ?_)
            refine Gl Tryd.func23 (by kernel_rfl) rfl #[.agg #[.string t535, .string t536, .int .i64 t537]] (by rfl) rfl rfl Yc_ ?_
            with_reducible refine (Cj.calls k t535 t536 t537 t552 _ ?side1 A31.out).mono ?_
            (case side1 => exact Eg.below HGL.out Yh_)
            rintro e w36 ⟨rfl, hb⟩
            refine ⟨_, rfl, ?_⟩
            have n0_ := Aside0.mk (Ai (g := gb0) (o := .cells #[.string t535, .string t536, .int .i64 t537] 31 (0, 0)) Yd_ hb)
            have n1_ := Aside0.mk (Ai (g := gb1) (o := .cells #[.string t538, .string t539] 27 (0, 0)) Ye_ hb)
            have n2_ := Aside0.mk (Ai (g := gb2) (o := .cells #[.string t542, .string t543, .int .i64 t544] 31 (0, 0)) Ybc_ hb)
            have n3_ := Aside0.mk (Ai (g := gb3) (o := .cells #[.string t547, .string t548, .int .i64 t549] 31 (0, 0)) Yca_ hb)
            have n4_ := Aside0.mk (Ag Yh_ hb)
            clear BK0
            clear BK1
            clear BK2
            clear BK3
            clear HB
            have BK0 := n0_
            have BK1 := n1_
            have BK2 := n2_
            have BK3 := n3_
            have HB := n4_
            clear n0_ n1_ n2_ n3_ n4_
            (try clear hb)
            (try clear hb2)
            (try clear hk)
            (try clear hi)
            refine hK.out _ _ ⟨(Ae BK2.out 0).trans rfl, (Ae BK2.out 1).trans rfl, (Ae BK2.out 2).trans rfl, (Ae BK3.out 0).trans rfl, (Ae BK3.out 1).trans rfl, (Ae BK3.out 2).trans rfl, (Ae BK0.out 0).trans rfl, (Ae BK0.out 1).trans rfl, (Ae BK0.out 2).trans rfl⟩ (fun hHeld => ?_)
            clear hK K
            refine Gp (a' := ?_) ?_ ?_
            rotate_left
            · show Act.put _ (some 48) _ = _
              simp only [Act.put, List.setIfInBounds_toArray, List.set_cons_zero, List.set_cons_succ, Aw, Az]
              rfl
            refine one_ (i := 12) (N := some 50) #[true, true, true, true, true, true, true, true, true, true, true, true, true, false, false, false, false, false, false, false, false, false] rfl rfl (Fp HT_.out (by kernel_rfl)) (by decide) (fun K hK => ?_)
            refine Gl Tryd.func21 (by kernel_rfl) rfl #[.agg #[.string t535, .string t536, .int .i64 t537]] (by rfl) rfl rfl Yc_ ?_
            with_reducible refine (Dy.calls k t535 t536 t537 t553 _ A32.out).mono ?_
            rintro e w37 ⟨rfl, hb⟩
            refine ⟨_, rfl, ?_⟩
            have n0_ := Aside0.mk (Ai (g := gb0) (o := .cells #[.string t535, .string t536, .int .i64 t537] 31 (0, 0)) Yd_ hb)
            have n1_ := Aside0.mk (Ai (g := gb1) (o := .cells #[.string t538, .string t539] 27 (0, 0)) Ye_ hb)
            have n2_ := Aside0.mk (Ai (g := gb2) (o := .cells #[.string t542, .string t543, .int .i64 t544] 31 (0, 0)) Ybc_ hb)
            have n3_ := Aside0.mk (Ai (g := gb3) (o := .cells #[.string t547, .string t548, .int .i64 t549] 31 (0, 0)) Yca_ hb)
            have n4_ := Aside0.mk (Ag Yh_ hb)
            clear BK0
            clear BK1
            clear BK2
            clear BK3
            clear HB
            have BK0 := n0_
            have BK1 := n1_
            have BK2 := n2_
            have BK3 := n3_
            have HB := n4_
            clear n0_ n1_ n2_ n3_ n4_
            (try clear hb)
            (try clear hb2)
            (try clear hk)
            (try clear hi)
            refine hK.out _ _ ⟨(Ae BK2.out 0).trans rfl, (Ae BK2.out 1).trans rfl, (Ae BK2.out 2).trans rfl, (Ae BK3.out 0).trans rfl, (Ae BK3.out 1).trans rfl, (Ae BK3.out 2).trans rfl, (Ae BK0.out 0).trans rfl, (Ae BK0.out 1).trans rfl, (Ae BK0.out 2).trans rfl⟩ (fun hHeld => ?_)
            clear hK K
            refine Gp (a' := ?_) ?_ ?_
            rotate_left
            · show Act.put _ (some 50) _ = _
              simp only [Act.put, List.setIfInBounds_toArray, List.set_cons_zero, List.set_cons_succ, Aw, Az]
              rfl
            refine Bz (i := 13) (N := some 51) (v := ?_) (a' := ?_) #[true, true, true, true, true, true, true, true, true, true, true, true, true, true, false, false, false, false, false, false, false, false] rfl rfl (Bf HT_.out (by kernel_rfl)) (fun _ _ _ h => h) (Or.inl ⟨by rfl, ?_⟩) ?_ ?_
            rotate_left
            · intro w'
              go_simp
              with_reducible rfl
            rotate_left
            · simp only [Act.put, List.setIfInBounds_toArray, List.set_cons_zero, List.set_cons_succ, Aw, Az]
              rfl
            refine Bz (i := 14) (N := some 52) (v := ?_) (a' := ?_) #[true, true, true, true, true, true, true, true, true, true, true, true, true, true, true, false, false, false, false, false, false, false] rfl rfl (Bf HT_.out (by kernel_rfl)) (fun _ _ _ h => h) (Or.inl ⟨by rfl, ?_⟩) ?_ ?_
            rotate_left
            · intro w'
              go_simp
              with_reducible rfl
            rotate_left
            · simp only [Act.put, List.setIfInBounds_toArray, List.set_cons_zero, List.set_cons_succ, Aw, Az]
              rfl
            refine Bz (i := 15) (N := some 53) (v := ?_) (a' := ?_) #[true, true, true, true, true, true, true, true, true, true, true, true, true, true, true, true, false, false, false, false, false, false] rfl rfl (Bf HT_.out (by kernel_rfl)) (fun _ _ _ h => h) (Or.inl ⟨by rfl, ?_⟩) ?_ ?_
            rotate_left
            · intro w'
              go_simp
              with_reducible rfl
            rotate_left
            · simp only [Act.put, List.setIfInBounds_toArray, List.set_cons_zero, List.set_cons_succ, Aw, Az]
              rfl
            refine Bz (i := 16) (N := some 54) (v := undef) (a' := ?_) #[true, true, true, true, true, true, true, true, true, true, true, true, true, true, true, true, true, false, false, false, false, false] rfl rfl (Bf HT_.out (by kernel_rfl)) (fun _ _ _ h => h) (Or.inr ⟨by rfl, rfl⟩) ?_ ?_
            rotate_left
            · simp only [Act.put, List.setIfInBounds_toArray, List.set_cons_zero, List.set_cons_succ, Aw, Az]
              rfl
            refine Bz (i := 17) (N := some 55) (v := undef) (a' := ?_) #[true, true, true, true, true, true, true, true, true, true, true, true, true, true, true, true, true, true, false, false, false, false] rfl rfl (Bf HT_.out (by kernel_rfl)) (fun _ _ _ h => h) (Or.inr ⟨by rfl, rfl⟩) ?_ ?_
            rotate_left
            · simp only [Act.put, List.setIfInBounds_toArray, List.set_cons_zero, List.set_cons_succ, Aw, Az]
              rfl
            refine Bz (i := 18) (N := some 56) (v := undef) (a' := ?_) #[true, true, true, true, true, true, true, true, true, true, true, true, true, true, true, true, true, true, true, false, false, false] rfl rfl (Bf HT_.out (by kernel_rfl)) (fun _ _ _ h => h) (Or.inr ⟨by rfl, rfl⟩) ?_ ?_
            rotate_left
            · simp only [Act.put, List.setIfInBounds_toArray, List.set_cons_zero, List.set_cons_succ, Aw, Az]
              rfl
            refine Bz (i := 19) (N := some 57) (v := undef) (a' := ?_) #[true, true, true, true, true, true, true, true, true, true, true, true, true, true, true, true, true, true, true, true, false, false] rfl rfl (Bf HT_.out (by kernel_rfl)) (fun _ _ _ h => h) (Or.inr ⟨by rfl, rfl⟩) ?_ ?_
            rotate_left
            · simp only [Act.put, List.setIfInBounds_toArray, List.set_cons_zero, List.set_cons_succ, Aw, Az]
              rfl
            refine Bz (i := 20) (N := some 58) (v := undef) (a' := ?_) #[true, true, true, true, true, true, true, true, true, true, true, true, true, true, true, true, true, true, true, true, true, false] rfl rfl (Bf HT_.out (by kernel_rfl)) (fun _ _ _ h => h) (Or.inr ⟨by rfl, rfl⟩) ?_ ?_
            rotate_left
            · simp only [Act.put, List.setIfInBounds_toArray, List.set_cons_zero, List.set_cons_succ, Aw, Az]
              rfl
            refine Bz (i := 21) (N := some 59) (v := ?_) (a' := ?_) #[true, true, true, true, true, true, true, true, true, true, true, true, true, true, true, true, true, true, true, true, true, true] rfl rfl (Bf HT_.out (by kernel_rfl)) (fun _ _ _ h => h) (Or.inl ⟨by rfl, ?_⟩) ?_ ?_
            rotate_left
            · intro w'
              go_simp
              with_reducible rfl
            rotate_left
            · simp only [Act.put, List.setIfInBounds_toArray, List.set_cons_zero, List.set_cons_succ, Aw, Az]
              rfl
            refine done_ (Gy HT_.out (by kernel_rfl)) ?_
            try go_wp2
            go_meet
            case rel => exact ⟨_, (true), Ybe_, H', ⟨by first | omega | exact Nat.le_refl _⟩, ⟨by (with_reducible repeat (first | refine Aa ?_ _ | refine Ad ?_ | refine Ac ?_ _)); exact BK0.out⟩, ⟨by (with_reducible repeat (first | refine Aa ?_ _ | refine Ad ?_ | refine Ac ?_ _)); exact BK1.out⟩, ⟨by (with_reducible repeat (first | refine Aa ?_ _ | refine Ad ?_ | refine Ac ?_ _)); exact BK2.out⟩, ⟨by (with_reducible repeat (first | refine Aa ?_ _ | refine Ad ?_ | refine Ac ?_ _)); exact BK3.out⟩, ⟨by repeat (first | (with_reducible first | exact HB.out | apply below_alloc | apply pw_below_drewN | apply below_drew1 | refine below_set ?_ GE0.out | refine below_set ?_ GE1.out | refine below_set ?_ GE2.out | refine below_set ?_ GE3.out) | exact HB.out)⟩⟩
          · rw [if_neg c33] at H
            have c33b0 : (t552 != t553) = false := by simpa using c33
            (try (have c33b1 : decide (t552 = t553) = true := by simpa using c33))
            (try (have c33b2 : (t552 == t553) = true := by simpa using c33))
            clear c33
            replace H := Option.bind_eq_some_iff.mp H
            obtain ⟨t554, A380, H⟩ := H
            replace H : ((Dt.f k t538 t539).bind fun t555 => (Ap.j0 k t545 (t554 != t555) t535 t536 t537 t538 t539 t542 t543 t544)) = some r := H
            have A38 := Aside0.mk A380
            clear A380
            replace H := Option.bind_eq_some_iff.mp H
            obtain ⟨t555, A390, H⟩ := H
            replace H : (Ap.j0 k t545 (t554 != t555) t535 t536 t537 t538 t539 t542 t543 t544) = some r := H
            have A39 := Aside0.mk A390
            clear A390
            have H' := Aside0.mk H
            clear H
            try go_wp2
            have n0_ : Aside0 ((((w22.setCell ⟨gb3, 0, none⟩ (.string t547)).setCell ⟨gb3, 1, none⟩ (.string t548)).setCell ⟨gb3, 2, none⟩ (.int .i64 t549)).heap[gb0]? = some (.cells #[.string t535, .string t536, .int .i64 t537] 31 (0, 0))) := ⟨by (with_reducible repeat (first | refine Aa ?_ _ | refine Ad ?_ | refine Ac ?_ _)); refine Aq ?_ NB0_3.out _; (with_reducible repeat (first | refine Aa ?_ _ | refine Ad ?_ | refine Ac ?_ _)); refine Aq ?_ NB0_3.out _; (with_reducible repeat (first | refine Aa ?_ _ | refine Ad ?_ | refine Ac ?_ _)); refine Aq ?_ NB0_3.out _; (with_reducible repeat (first | refine Aa ?_ _ | refine Ad ?_ | refine Ac ?_ _)); exact BK0.out⟩
            have n1_ : Aside0 ((((w22.setCell ⟨gb3, 0, none⟩ (.string t547)).setCell ⟨gb3, 1, none⟩ (.string t548)).setCell ⟨gb3, 2, none⟩ (.int .i64 t549)).heap[gb1]? = some (.cells #[.string t538, .string t539] 27 (0, 0))) := ⟨by (with_reducible repeat (first | refine Aa ?_ _ | refine Ad ?_ | refine Ac ?_ _)); refine Aq ?_ NB1_3.out _; (with_reducible repeat (first | refine Aa ?_ _ | refine Ad ?_ | refine Ac ?_ _)); refine Aq ?_ NB1_3.out _; (with_reducible repeat (first | refine Aa ?_ _ | refine Ad ?_ | refine Ac ?_ _)); refine Aq ?_ NB1_3.out _; (with_reducible repeat (first | refine Aa ?_ _ | refine Ad ?_ | refine Ac ?_ _)); exact BK1.out⟩
            have n2_ : Aside0 ((((w22.setCell ⟨gb3, 0, none⟩ (.string t547)).setCell ⟨gb3, 1, none⟩ (.string t548)).setCell ⟨gb3, 2, none⟩ (.int .i64 t549)).heap[gb2]? = some (.cells #[.string t542, .string t543, .int .i64 t544] 31 (0, 0))) := ⟨by (with_reducible repeat (first | refine Aa ?_ _ | refine Ad ?_ | refine Ac ?_ _)); refine Aq ?_ NB2_3.out _; (with_reducible repeat (first | refine Aa ?_ _ | refine Ad ?_ | refine Ac ?_ _)); refine Aq ?_ NB2_3.out _; (with_reducible repeat (first | refine Aa ?_ _ | refine Ad ?_ | refine Ac ?_ _)); refine Aq ?_ NB2_3.out _; (with_reducible repeat (first | refine Aa ?_ _ | refine Ad ?_ | refine Ac ?_ _)); exact BK2.out⟩
            have n3_ : Aside0 ((((w22.setCell ⟨gb3, 0, none⟩ (.string t547)).setCell ⟨gb3, 1, none⟩ (.string t548)).setCell ⟨gb3, 2, none⟩ (.int .i64 t549)).heap[gb3]? = some (.cells #[.string t547, .string t548, .int .i64 t549] 31 (0, 0))) := ⟨by (with_reducible repeat (first | refine Aa ?_ _ | refine Ad ?_ | refine Ac ?_ _)); refine Ar (cs := #[.string t547, .string t548, .int .i64 0]) ?_ 2 _ rfl; (with_reducible repeat (first | refine Aa ?_ _ | refine Ad ?_ | refine Ac ?_ _)); refine Ar (cs := #[.string t547, .string (⟨#[]⟩ : ByteArray), .int .i64 0]) ?_ 1 _ rfl; (with_reducible repeat (first | refine Aa ?_ _ | refine Ad ?_ | refine Ac ?_ _)); refine Ar (cs := #[.string (⟨#[]⟩ : ByteArray), .string (⟨#[]⟩ : ByteArray), .int .i64 0]) ?_ 0 _ rfl; (with_reducible repeat (first | refine Aa ?_ _ | refine Ad ?_ | refine Ac ?_ _)); exact BK3.out⟩
            have n4_ : Aside0 (Below w.heap.size w (((w22.setCell ⟨gb3, 0, none⟩ (.string t547)).setCell ⟨gb3, 1, none⟩ (.string t548)).setCell ⟨gb3, 2, none⟩ (.int .i64 t549))) := ⟨by repeat (first | (with_reducible first | exact HB.out | apply below_alloc | apply pw_below_drewN | apply below_drew1 | refine below_set ?_ GE0.out | refine below_set ?_ GE1.out | refine below_set ?_ GE2.out | refine below_set ?_ GE3.out) | exact HB.out)⟩
            (try clear BK0)
            (try clear BK1)
            (try clear BK2)
            (try clear BK3)
            (try clear HB)
            generalize (((w22.setCell ⟨gb3, 0, none⟩ (.string t547)).setCell ⟨gb3, 1, none⟩ (.string t548)).setCell ⟨gb3, 2, none⟩ (.int .i64 t549)) = w40 at n0_ n1_ n2_ n3_ n4_ ⊢
            have BK0 := n0_
            have BK1 := n1_
            have BK2 := n2_
            have BK3 := n3_
            have HB := n4_
            clear n0_ n1_ n2_ n3_ n4_
            have n0_ := Aside0.mk (Ad BK0.out)
            have n1_ := Aside0.mk (Ad BK1.out)
            have n2_ := Aside0.mk (Ad BK2.out)
            have n3_ := Aside0.mk (Ad BK3.out)
            have n4_ := Aside0.mk (below_drew1 HB.out)
            clear BK0
            clear BK1
            clear BK2
            clear BK3
            clear HB
            have BK0 := n0_
            have BK1 := n1_
            have BK2 := n2_
            have BK3 := n3_
            have HB := n4_
            clear n0_ n1_ n2_ n3_ n4_
            refine G5 (n := 22) (S := fun w' => w'.cell? ⟨gb2, 0, none⟩ = some (.string t542) ∧ w'.cell? ⟨gb2, 1, none⟩ = some (.string t543) ∧ w'.cell? ⟨gb2, 2, none⟩ = some (.int .i64 t544) ∧ w'.cell? ⟨gb3, 0, none⟩ = some (.string t547) ∧ w'.cell? ⟨gb3, 1, none⟩ = some (.string t548) ∧ w'.cell? ⟨gb3, 2, none⟩ = some (.int .i64 t549) ∧ w'.cell? ⟨gb0, 0, none⟩ = some (.string t535) ∧ w'.cell? ⟨gb0, 1, none⟩ = some (.string t536) ∧ w'.cell? ⟨gb0, 2, none⟩ = some (.int .i64 t537) ∧ w'.cell? ⟨gb1, 0, none⟩ = some (.string t538) ∧ w'.cell? ⟨gb1, 1, none⟩ = some (.string t539)) (ds := []) #[false, false, false, false, false, false, false, false, false, false, false, false, false, false, false, false, false, false, false, false, false, false] (by kernel_rfl) rfl rfl ⟨(Ae BK2.out 0).trans rfl, (Ae BK2.out 1).trans rfl, (Ae BK2.out 2).trans rfl, (Ae BK3.out 0).trans rfl, (Ae BK3.out 1).trans rfl, (Ae BK3.out 2).trans rfl, (Ae BK0.out 0).trans rfl, (Ae BK0.out 1).trans rfl, (Ae BK0.out 2).trans rfl, (Ae BK1.out 0).trans rfl, (Ae BK1.out 1).trans rfl⟩ (fun hHeld => ?_); refine Gf Ap.tab6 Ap.bits6 (fun HT_ HW_ => ?_)
            generalize w40.drew = w41 at BK0 BK1 BK2 BK3 HB hHeld ⊢
            refine E8 (i := 0) (N := some 38) (v := ?_) (a' := ?_) #[true, false, false, false, false, false, false, false, false, false, false, false, false, false, false, false, false, false, false, false, false, false] rfl rfl (Ea HT_.out HW_.out (by kernel_rfl)) (fun _ _ _ h => h) (Or.inl ⟨by rfl, ?_⟩) hHeld ?_ ?_
            rotate_left
            · rintro w' ⟨s0, s1, s2, s3, s4, s5, s6, s7, s8, s9, s10⟩
              go_simp
              with_reducible rfl
            rotate_left
            · simp only [Act.put, List.setIfInBounds_toArray, List.set_cons_zero, List.set_cons_succ, Aw, Az]
              rfl
            refine E8 (i := 1) (N := some 39) (v := ?_) (a' := ?_) #[true, true, false, false, false, false, false, false, false, false, false, false, false, false, false, false, false, false, false, false, false, false] rfl rfl (Ea HT_.out HW_.out (by kernel_rfl)) (fun _ _ _ h => h) (Or.inl ⟨by rfl, ?_⟩) hHeld ?_ ?_
            rotate_left
            · rintro w' ⟨s0, s1, s2, s3, s4, s5, s6, s7, s8, s9, s10⟩
              go_simp
              with_reducible rfl
            rotate_left
            · simp only [Act.put, List.setIfInBounds_toArray, List.set_cons_zero, List.set_cons_succ, Aw, Az]
              rfl
            refine Bz (i := 2) (N := some 40) (v := ?_) (a' := ?_) #[true, true, true, false, false, false, false, false, false, false, false, false, false, false, false, false, false, false, false, false, false, false] rfl rfl (Bf HT_.out (by kernel_rfl)) (fun _ _ _ h => h) (Or.inl ⟨by rfl, ?_⟩) ?_ ?_
            rotate_left
            · intro w'
              go_simp
              with_reducible rfl
            rotate_left
            · simp only [Act.put, List.setIfInBounds_toArray, List.set_cons_zero, List.set_cons_succ, Aw, Az]
              rfl
            refine Bz (i := 3) (N := some 41) (v := ?_) (a' := ?_) #[true, true, true, true, false, false, false, false, false, false, false, false, false, false, false, false, false, false, false, false, false, false] rfl rfl (Bf HT_.out (by kernel_rfl)) (fun _ _ _ h => h) (Or.inl ⟨by rfl, ?_⟩) ?_ ?_
            rotate_left
            · intro w'
              go_simp
              with_reducible rfl
            rotate_left
            · simp only [Act.put, List.setIfInBounds_toArray, List.set_cons_zero, List.set_cons_succ, Aw, Az]
              rfl
            refine Bz (i := 4) (N := some 42) (v := ?_) (a' := ?_) #[true, true, true, true, true, false, false, false, false, false, false, false, false, false, false, false, false, false, false, false, false, false] rfl rfl (Bf HT_.out (by kernel_rfl)) (fun _ _ _ h => h) (Or.inl ⟨by rfl, ?_⟩) ?_ ?_
            rotate_left
            · intro w'
              go_simp
              with_reducible rfl
            rotate_left
            · simp only [Act.put, List.setIfInBounds_toArray, List.set_cons_zero, List.set_cons_succ, Aw, Az]
              rfl
            refine Bz (i := 5) (N := some 43) (v := ?_) (a' := ?_) #[true, true, true, true, true, true, false, false, false, false, false, false, false, false, false, false, false, false, false, false, false, false] rfl rfl (Bf HT_.out (by kernel_rfl)) (fun _ _ _ h => h) (Or.inl ⟨by rfl, ?_⟩) ?_ ?_
            rotate_left
            · intro w'
              go_simp
              with_reducible rfl
            rotate_left
            · simp only [Act.put, List.setIfInBounds_toArray, List.set_cons_zero, List.set_cons_succ, Aw, Az]
              rfl
            refine Bz (i := 6) (N := some 44) (v := ?_) (a' := ?_) #[true, true, true, true, true, true, true, false, false, false, false, false, false, false, false, false, false, false, false, false, false, false] rfl rfl (Bf HT_.out (by kernel_rfl)) (fun _ _ _ h => h) (Or.inl ⟨by rfl, ?_⟩) ?_ ?_
            rotate_left
            · intro w'
              go_simp
              with_reducible rfl
            rotate_left
            · simp only [Act.put, List.setIfInBounds_toArray, List.set_cons_zero, List.set_cons_succ, Aw, Az]
              rfl
            refine Bz (i := 7) (N := some 45) (v := ?_) (a' := ?_) #[true, true, true, true, true, true, true, true, false, false, false, false, false, false, false, false, false, false, false, false, false, false] rfl rfl (Bf HT_.out (by kernel_rfl)) (fun _ _ _ h => h) (Or.inl ⟨by rfl, ?_⟩) ?_ ?_
            rotate_left
            · intro w'
              go_simp
              with_reducible rfl
            rotate_left
            · simp only [Act.put, List.setIfInBounds_toArray, List.set_cons_zero, List.set_cons_succ, Aw, Az]
              rfl
            refine Bz (i := 8) (N := some 46) (v := ?_) (a' := ?_) #[true, true, true, true, true, true, true, true, true, false, false, false, false, false, false, false, false, false, false, false, false, false] rfl rfl (Bf HT_.out (by kernel_rfl)) (fun _ _ _ h => h) (Or.inl ⟨by rfl, ?_⟩) ?_ ?_
            rotate_left
            · intro w'
              go_simp
              with_reducible rfl
            rotate_left
            · simp only [Act.put, List.setIfInBounds_toArray, List.set_cons_zero, List.set_cons_succ, Aw, Az]
              rfl
            refine E8 (i := 9) (N := some 47) (v := ?_) (a' := ?_) #[true, true, true, true, true, true, true, true, true, true, false, false, false, false, false, false, false, false, false, false, false, false] rfl rfl (Ea HT_.out HW_.out (by kernel_rfl)) (fun _ _ _ h => h) (Or.inl ⟨by rfl, ?_⟩) hHeld ?_ ?_
            rotate_left
            · rintro w' ⟨s0, s1, s2, s3, s4, s5, s6, s7, s8, s9, s10⟩
              go_simp
              with_reducible rfl
            rotate_left
            · simp only [Act.put, List.setIfInBounds_toArray, List.set_cons_zero, List.set_cons_succ, Aw, Az]
              rfl
            refine E8 (i := 11) (N := some 49) (v := ?_) (a' := ?_) #[true, true, true, true, true, true, true, true, true, true, false, true, false, false, false, false, false, false, false, false, false, false] rfl rfl (Ea HT_.out HW_.out (by kernel_rfl)) (fun _ _ _ h => h) (Or.inl ⟨by rfl, ?_⟩) hHeld ?_ ?_
            rotate_left
            · rintro w' ⟨s0, s1, s2, s3, s4, s5, s6, s7, s8, s9, s10⟩
              go_simp
              with_reducible rfl
            rotate_left
            · simp only [Act.put, List.setIfInBounds_toArray, List.set_cons_zero, List.set_cons_succ, Aw, Az]
              rfl
            refine one_ (i := 10) (N := some 48) #[true, true, true, true, true, true, true, true, true, true, true, true, false, false, false, false, false, false, false, false, false, false] rfl rfl (Fp HT_.out (by kernel_rfl)) (by decide) (fun K hK => ?_)
            refine Gl Tryd.func23 (by kernel_rfl) rfl #[.agg #[.string t535, .string t536, .int .i64 t537]] (by rfl) rfl rfl Yc_ ?_
            with_reducible refine (Cj.calls k t535 t536 t537 t552 _ ?side1 A31.out).mono ?_
            (case side1 => exact Eg.below HGL.out Yh_)
            rintro e w42 ⟨rfl, hb⟩
            refine ⟨_, rfl, ?_⟩
            have n0_ := Aside0.mk (Ai (g := gb0) (o := .cells #[.string t535, .string t536, .int .i64 t537] 31 (0, 0)) Yd_ hb)
            have n1_ := Aside0.mk (Ai (g := gb1) (o := .cells #[.string t538, .string t539] 27 (0, 0)) Ye_ hb)
            have n2_ := Aside0.mk (Ai (g := gb2) (o := .cells #[.string t542, .string t543, .int .i64 t544] 31 (0, 0)) Ybc_ hb)
            have n3_ := Aside0.mk (Ai (g := gb3) (o := .cells #[.string t547, .string t548, .int .i64 t549] 31 (0, 0)) Yca_ hb)
            have n4_ := Aside0.mk (Ag Yh_ hb)
            clear BK0
            clear BK1
            clear BK2
            clear BK3
            clear HB
            have BK0 := n0_
            have BK1 := n1_
            have BK2 := n2_
            have BK3 := n3_
            have HB := n4_
            clear n0_ n1_ n2_ n3_ n4_
            (try clear hb)
            (try clear hb2)
            (try clear hk)
            (try clear hi)
            refine hK.out _ _ ⟨(Ae BK2.out 0).trans rfl, (Ae BK2.out 1).trans rfl, (Ae BK2.out 2).trans rfl, (Ae BK3.out 0).trans rfl, (Ae BK3.out 1).trans rfl, (Ae BK3.out 2).trans rfl, (Ae BK0.out 0).trans rfl, (Ae BK0.out 1).trans rfl, (Ae BK0.out 2).trans rfl, (Ae BK1.out 0).trans rfl, (Ae BK1.out 1).trans rfl⟩ (fun hHeld => ?_)
            clear hK K
            refine Gp (a' := ?_) ?_ ?_
            rotate_left
            · show Act.put _ (some 48) _ = _
              simp only [Act.put, List.setIfInBounds_toArray, List.set_cons_zero, List.set_cons_succ, Aw, Az]
              rfl
            refine one_ (i := 12) (N := some 50) #[true, true, true, true, true, true, true, true, true, true, true, true, true, false, false, false, false, false, false, false, false, false] rfl rfl (Fp HT_.out (by kernel_rfl)) (by decide) (fun K hK => ?_)
            refine Gl Tryd.func21 (by kernel_rfl) rfl #[.agg #[.string t535, .string t536, .int .i64 t537]] (by rfl) rfl rfl Yc_ ?_
            with_reducible refine (Dy.calls k t535 t536 t537 t553 _ A32.out).mono ?_
            rintro e w43 ⟨rfl, hb⟩
            refine ⟨_, rfl, ?_⟩
            have n0_ := Aside0.mk (Ai (g := gb0) (o := .cells #[.string t535, .string t536, .int .i64 t537] 31 (0, 0)) Yd_ hb)
            have n1_ := Aside0.mk (Ai (g := gb1) (o := .cells #[.string t538, .string t539] 27 (0, 0)) Ye_ hb)
            have n2_ := Aside0.mk (Ai (g := gb2) (o := .cells #[.string t542, .string t543, .int .i64 t544] 31 (0, 0)) Ybc_ hb)
            have n3_ := Aside0.mk (Ai (g := gb3) (o := .cells #[.string t547, .string t548, .int .i64 t549] 31 (0, 0)) Yca_ hb)
            have n4_ := Aside0.mk (Ag Yh_ hb)
            clear BK0
            clear BK1
            clear BK2
            clear BK3
            clear HB
            have BK0 := n0_
            have BK1 := n1_
            have BK2 := n2_
            have BK3 := n3_
            have HB := n4_
            clear n0_ n1_ n2_ n3_ n4_
            (try clear hb)
            (try clear hb2)
            (try clear hk)
            (try clear hi)
            refine hK.out _ _ ⟨(Ae BK2.out 0).trans rfl, (Ae BK2.out 1).trans rfl, (Ae BK2.out 2).trans rfl, (Ae BK3.out 0).trans rfl, (Ae BK3.out 1).trans rfl, (Ae BK3.out 2).trans rfl, (Ae BK0.out 0).trans rfl, (Ae BK0.out 1).trans rfl, (Ae BK0.out 2).trans rfl, (Ae BK1.out 0).trans rfl, (Ae BK1.out 1).trans rfl⟩ (fun hHeld => ?_)
            clear hK K
            refine Gp (a' := ?_) ?_ ?_
            rotate_left
            · show Act.put _ (some 50) _ = _
              simp only [Act.put, List.setIfInBounds_toArray, List.set_cons_zero, List.set_cons_succ, Aw, Az]
              rfl
            refine Bz (i := 13) (N := some 51) (v := ?_) (a' := ?_) #[true, true, true, true, true, true, true, true, true, true, true, true, true, true, false, false, false, false, false, false, false, false] rfl rfl (Bf HT_.out (by kernel_rfl)) (fun _ _ _ h => h) (Or.inl ⟨by rfl, ?_⟩) ?_ ?_
            rotate_left
            · intro w'
              go_simp
              with_reducible rfl
            rotate_left
            · simp only [Act.put, List.setIfInBounds_toArray, List.set_cons_zero, List.set_cons_succ, Aw, Az]
              rfl
            refine Bz (i := 14) (N := some 52) (v := ?_) (a' := ?_) #[true, true, true, true, true, true, true, true, true, true, true, true, true, true, true, false, false, false, false, false, false, false] rfl rfl (Bf HT_.out (by kernel_rfl)) (fun _ _ _ h => h) (Or.inl ⟨by rfl, ?_⟩) ?_ ?_
            rotate_left
            · intro w'
              go_simp
              with_reducible rfl
            rotate_left
            · simp only [Act.put, List.setIfInBounds_toArray, List.set_cons_zero, List.set_cons_succ, Aw, Az]
              rfl
            refine Bz (i := 15) (N := some 53) (v := ?_) (a' := ?_) #[true, true, true, true, true, true, true, true, true, true, true, true, true, true, true, true, false, false, false, false, false, false] rfl rfl (Bf HT_.out (by kernel_rfl)) (fun _ _ _ h => h) (Or.inl ⟨by rfl, ?_⟩) ?_ ?_
            rotate_left
            · intro w'
              go_simp
              with_reducible rfl
            rotate_left
            · simp only [Act.put, List.setIfInBounds_toArray, List.set_cons_zero, List.set_cons_succ, Aw, Az]
              rfl
            refine E8 (i := 16) (N := some 54) (v := ?_) (a' := ?_) #[true, true, true, true, true, true, true, true, true, true, true, true, true, true, true, true, true, false, false, false, false, false] rfl rfl (Ea HT_.out HW_.out (by kernel_rfl)) (fun _ _ _ h => h) (Or.inl ⟨by rfl, ?_⟩) hHeld ?_ ?_
            rotate_left
            · rintro w' ⟨s0, s1, s2, s3, s4, s5, s6, s7, s8, s9, s10⟩
              go_simp
              with_reducible rfl
            rotate_left
            · simp only [Act.put, List.setIfInBounds_toArray, List.set_cons_zero, List.set_cons_succ, Aw, Az]
              rfl
            refine E8 (i := 18) (N := some 56) (v := ?_) (a' := ?_) #[true, true, true, true, true, true, true, true, true, true, true, true, true, true, true, true, true, false, true, false, false, false] rfl rfl (Ea HT_.out HW_.out (by kernel_rfl)) (fun _ _ _ h => h) (Or.inl ⟨by rfl, ?_⟩) hHeld ?_ ?_
            rotate_left
            · rintro w' ⟨s0, s1, s2, s3, s4, s5, s6, s7, s8, s9, s10⟩
              go_simp
              with_reducible rfl
            rotate_left
            · simp only [Act.put, List.setIfInBounds_toArray, List.set_cons_zero, List.set_cons_succ, Aw, Az]
              rfl
            refine one_ (i := 17) (N := some 55) #[true, true, true, true, true, true, true, true, true, true, true, true, true, true, true, true, true, true, true, false, false, false] rfl rfl (Fp HT_.out (by kernel_rfl)) (by decide) (fun K hK => ?_)
            refine Gl Tryd.func37 (by kernel_rfl) rfl #[.agg #[.string t538, .string t539]] (by rfl) rfl rfl Yc_ ?_
            with_reducible refine (Ba.calls k t538 t539 t554 _ A38.out).mono ?_
            rintro e w44 ⟨rfl, hb⟩
            refine ⟨_, rfl, ?_⟩
            have n0_ := Aside0.mk (Ai (g := gb0) (o := .cells #[.string t535, .string t536, .int .i64 t537] 31 (0, 0)) Yd_ hb)
            have n1_ := Aside0.mk (Ai (g := gb1) (o := .cells #[.string t538, .string t539] 27 (0, 0)) Ye_ hb)
            have n2_ := Aside0.mk (Ai (g := gb2) (o := .cells #[.string t542, .string t543, .int .i64 t544] 31 (0, 0)) Ybc_ hb)
            have n3_ := Aside0.mk (Ai (g := gb3) (o := .cells #[.string t547, .string t548, .int .i64 t549] 31 (0, 0)) Yca_ hb)
            have n4_ := Aside0.mk (Ag Yh_ hb)
            clear BK0
            clear BK1
            clear BK2
            clear BK3
            clear HB
            have BK0 := n0_
            have BK1 := n1_
            have BK2 := n2_
            have BK3 := n3_
            have HB := n4_
            clear n0_ n1_ n2_ n3_ n4_
            (try clear hb)
            (try clear hb2)
            (try clear hk)
            (try clear hi)
            refine hK.out _ _ ⟨(Ae BK2.out 0).trans rfl, (Ae BK2.out 1).trans rfl, (Ae BK2.out 2).trans rfl, (Ae BK3.out 0).trans rfl, (Ae BK3.out 1).trans rfl, (Ae BK3.out 2).trans rfl, (Ae BK0.out 0).trans rfl, (Ae BK0.out 1).trans rfl, (Ae BK0.out 2).trans rfl, (Ae BK1.out 0).trans rfl, (Ae BK1.out 1).trans rfl⟩ (fun hHeld => ?_)
            clear hK K
            refine Gp (a' := ?_) ?_ ?_
            rotate_left
            · show Act.put _ (some 55) _ = _
              simp only [Act.put, List.setIfInBounds_toArray, List.set_cons_zero, List.set_cons_succ, Aw, Az]
              rfl
            refine one_ (i := 19) (N := some 57) #[true, true, true, true, true, true, true, true, true, true, true, true, true, true, true, true, true, true, true, true, false, false] rfl rfl (Fp HT_.out (by kernel_rfl)) (by decide) (fun K hK => ?_)
            refine Gl Tryd.func38 (by kernel_rfl) rfl #[.agg #[.string t538, .string t539]] (by rfl) rfl rfl Yc_ ?_
            with_reducible refine (Dt.calls k t538 t539 t555 _ A39.out).mono ?_
            rintro e w45 ⟨rfl, hb⟩
            refine ⟨_, rfl, ?_⟩
            have n0_ := Aside0.mk (Ai (g := gb0) (o := .cells #[.string t535, .string t536, .int .i64 t537] 31 (0, 0)) Yd_ hb)
            have n1_ := Aside0.mk (Ai (g := gb1) (o := .cells #[.string t538, .string t539] 27 (0, 0)) Ye_ hb)
            have n2_ := Aside0.mk (Ai (g := gb2) (o := .cells #[.string t542, .string t543, .int .i64 t544] 31 (0, 0)) Ybc_ hb)
            have n3_ := Aside0.mk (Ai (g := gb3) (o := .cells #[.string t547, .string t548, .int .i64 t549] 31 (0, 0)) Yca_ hb)
            have n4_ := Aside0.mk (Ag Yh_ hb)
            clear BK0
            clear BK1
            clear BK2
            clear BK3
            clear HB
            have BK0 := n0_
            have BK1 := n1_
            have BK2 := n2_
            have BK3 := n3_
            have HB := n4_
            clear n0_ n1_ n2_ n3_ n4_
            (try clear hb)
            (try clear hb2)
            (try clear hk)
            (try clear hi)
            refine hK.out _ _ ⟨(Ae BK2.out 0).trans rfl, (Ae BK2.out 1).trans rfl, (Ae BK2.out 2).trans rfl, (Ae BK3.out 0).trans rfl, (Ae BK3.out 1).trans rfl, (Ae BK3.out 2).trans rfl, (Ae BK0.out 0).trans rfl, (Ae BK0.out 1).trans rfl, (Ae BK0.out 2).trans rfl, (Ae BK1.out 0).trans rfl, (Ae BK1.out 1).trans rfl⟩ (fun hHeld => ?_)
            clear hK K
            refine Gp (a' := ?_) ?_ ?_
            rotate_left
            · show Act.put _ (some 57) _ = _
              simp only [Act.put, List.setIfInBounds_toArray, List.set_cons_zero, List.set_cons_succ, Aw, Az]
              rfl
            refine Bz (i := 20) (N := some 58) (v := ?_) (a' := ?_) #[true, true, true, true, true, true, true, true, true, true, true, true, true, true, true, true, true, true, true, true, true, false] rfl rfl (Bf HT_.out (by kernel_rfl)) (fun _ _ _ h => h) (Or.inl ⟨by rfl, ?_⟩) ?_ ?_
            rotate_left
            · intro w'
              go_simp
              with_reducible rfl
            rotate_left
            · simp only [Act.put, List.setIfInBounds_toArray, List.set_cons_zero, List.set_cons_succ, Aw, Az]
              rfl
            refine Bz (i := 21) (N := some 59) (v := ?_) (a' := ?_) #[true, true, true, true, true, true, true, true, true, true, true, true, true, true, true, true, true, true, true, true, true, true] rfl rfl (Bf HT_.out (by kernel_rfl)) (fun _ _ _ h => h) (Or.inl ⟨by rfl, ?_⟩) ?_ ?_
            rotate_left
            · intro w'
              go_simp
              with_reducible rfl
            rotate_left
            · simp only [Act.put, List.setIfInBounds_toArray, List.set_cons_zero, List.set_cons_succ, Aw, Az]
              rfl
            refine done_ (Gy HT_.out (by kernel_rfl)) ?_
            try go_wp2
            go_meet
            case rel => exact ⟨_, ((t554 != t555)), Ybe_, H', ⟨by first | omega | exact Nat.le_refl _⟩, ⟨by (with_reducible repeat (first | refine Aa ?_ _ | refine Ad ?_ | refine Ac ?_ _)); exact BK0.out⟩, ⟨by (with_reducible repeat (first | refine Aa ?_ _ | refine Ad ?_ | refine Ac ?_ _)); exact BK1.out⟩, ⟨by (with_reducible repeat (first | refine Aa ?_ _ | refine Ad ?_ | refine Ac ?_ _)); exact BK2.out⟩, ⟨by (with_reducible repeat (first | refine Aa ?_ _ | refine Ad ?_ | refine Ac ?_ _)); exact BK3.out⟩, ⟨by repeat (first | (with_reducible first | exact HB.out | apply below_alloc | apply pw_below_drewN | apply below_drew1 | refine below_set ?_ GE0.out | refine below_set ?_ GE1.out | refine below_set ?_ GE2.out | refine below_set ?_ GE3.out) | exact HB.out)⟩⟩
        · rw [if_neg c30] at H
          have c30b0 : (t545 == t550) = false := beq_eq_false_iff_ne.mpr c30
          have c30b1 : (t545 != t550) = true := bne_iff_ne.mpr c30
          have H' := Aside0.mk H
          clear H
          try go_wp2
          have n0_ : Aside0 ((((w22.setCell ⟨gb3, 0, none⟩ (.string t547)).setCell ⟨gb3, 1, none⟩ (.string t548)).setCell ⟨gb3, 2, none⟩ (.int .i64 t549)).heap[gb0]? = some (.cells #[.string t535, .string t536, .int .i64 t537] 31 (0, 0))) := ⟨by (with_reducible repeat (first | refine Aa ?_ _ | refine Ad ?_ | refine Ac ?_ _)); refine Aq ?_ NB0_3.out _; (with_reducible repeat (first | refine Aa ?_ _ | refine Ad ?_ | refine Ac ?_ _)); refine Aq ?_ NB0_3.out _; (with_reducible repeat (first | refine Aa ?_ _ | refine Ad ?_ | refine Ac ?_ _)); refine Aq ?_ NB0_3.out _; (with_reducible repeat (first | refine Aa ?_ _ | refine Ad ?_ | refine Ac ?_ _)); exact BK0.out⟩
          have n1_ : Aside0 ((((w22.setCell ⟨gb3, 0, none⟩ (.string t547)).setCell ⟨gb3, 1, none⟩ (.string t548)).setCell ⟨gb3, 2, none⟩ (.int .i64 t549)).heap[gb1]? = some (.cells #[.string t538, .string t539] 27 (0, 0))) := ⟨by (with_reducible repeat (first | refine Aa ?_ _ | refine Ad ?_ | refine Ac ?_ _)); refine Aq ?_ NB1_3.out _; (with_reducible repeat (first | refine Aa ?_ _ | refine Ad ?_ | refine Ac ?_ _)); refine Aq ?_ NB1_3.out _; (with_reducible repeat (first | refine Aa ?_ _ | refine Ad ?_ | refine Ac ?_ _)); refine Aq ?_ NB1_3.out _; (with_reducible repeat (first | refine Aa ?_ _ | refine Ad ?_ | refine Ac ?_ _)); exact BK1.out⟩
          have n2_ : Aside0 ((((w22.setCell ⟨gb3, 0, none⟩ (.string t547)).setCell ⟨gb3, 1, none⟩ (.string t548)).setCell ⟨gb3, 2, none⟩ (.int .i64 t549)).heap[gb2]? = some (.cells #[.string t542, .string t543, .int .i64 t544] 31 (0, 0))) := ⟨by (with_reducible repeat (first | refine Aa ?_ _ | refine Ad ?_ | refine Ac ?_ _)); refine Aq ?_ NB2_3.out _; (with_reducible repeat (first | refine Aa ?_ _ | refine Ad ?_ | refine Ac ?_ _)); refine Aq ?_ NB2_3.out _; (with_reducible repeat (first | refine Aa ?_ _ | refine Ad ?_ | refine Ac ?_ _)); refine Aq ?_ NB2_3.out _; (with_reducible repeat (first | refine Aa ?_ _ | refine Ad ?_ | refine Ac ?_ _)); exact BK2.out⟩
          have n3_ : Aside0 ((((w22.setCell ⟨gb3, 0, none⟩ (.string t547)).setCell ⟨gb3, 1, none⟩ (.string t548)).setCell ⟨gb3, 2, none⟩ (.int .i64 t549)).heap[gb3]? = some (.cells #[.string t547, .string t548, .int .i64 t549] 31 (0, 0))) := ⟨by (with_reducible repeat (first | refine Aa ?_ _ | refine Ad ?_ | refine Ac ?_ _)); refine Ar (cs := #[.string t547, .string t548, .int .i64 0]) ?_ 2 _ rfl; (with_reducible repeat (first | refine Aa ?_ _ | refine Ad ?_ | refine Ac ?_ _)); refine Ar (cs := #[.string t547, .string (⟨#[]⟩ : ByteArray), .int .i64 0]) ?_ 1 _ rfl; (with_reducible repeat (first | refine Aa ?_ _ | refine Ad ?_ | refine Ac ?_ _)); refine Ar (cs := #[.string (⟨#[]⟩ : ByteArray), .string (⟨#[]⟩ : ByteArray), .int .i64 0]) ?_ 0 _ rfl; (with_reducible repeat (first | refine Aa ?_ _ | refine Ad ?_ | refine Ac ?_ _)); exact BK3.out⟩
          have n4_ : Aside0 (Below w.heap.size w (((w22.setCell ⟨gb3, 0, none⟩ (.string t547)).setCell ⟨gb3, 1, none⟩ (.string t548)).setCell ⟨gb3, 2, none⟩ (.int .i64 t549))) := ⟨by repeat (first | (with_reducible first | exact HB.out | apply below_alloc | apply pw_below_drewN | apply below_drew1 | refine below_set ?_ GE0.out | refine below_set ?_ GE1.out | refine below_set ?_ GE2.out | refine below_set ?_ GE3.out) | exact HB.out)⟩
          (try clear BK0)
          (try clear BK1)
          (try clear BK2)
          (try clear BK3)
          (try clear HB)
          generalize (((w22.setCell ⟨gb3, 0, none⟩ (.string t547)).setCell ⟨gb3, 1, none⟩ (.string t548)).setCell ⟨gb3, 2, none⟩ (.int .i64 t549)) = w46 at n0_ n1_ n2_ n3_ n4_ ⊢
          have BK0 := n0_
          have BK1 := n1_
          have BK2 := n2_
          have BK3 := n3_
          have HB := n4_
          clear n0_ n1_ n2_ n3_ n4_
          have n0_ := Aside0.mk (Ad BK0.out)
          have n1_ := Aside0.mk (Ad BK1.out)
          have n2_ := Aside0.mk (Ad BK2.out)
          have n3_ := Aside0.mk (Ad BK3.out)
          have n4_ := Aside0.mk (below_drew1 HB.out)
          clear BK0
          clear BK1
          clear BK2
          clear BK3
          clear HB
          have BK0 := n0_
          have BK1 := n1_
          have BK2 := n2_
          have BK3 := n3_
          have HB := n4_
          clear n0_ n1_ n2_ n3_ n4_
          refine G5 (n := 22) (S := fun w' => w'.cell? ⟨gb2, 0, none⟩ = some (.string t542) ∧ w'.cell? ⟨gb2, 1, none⟩ = some (.string t543) ∧ w'.cell? ⟨gb2, 2, none⟩ = some (.int .i64 t544) ∧ w'.cell? ⟨gb3, 0, none⟩ = some (.string t547) ∧ w'.cell? ⟨gb3, 1, none⟩ = some (.string t548) ∧ w'.cell? ⟨gb3, 2, none⟩ = some (.int .i64 t549)) (ds := []) #[false, false, false, false, false, false, false, false, false, false, false, false, false, false, false, false, false, false, false, false, false, false] (by kernel_rfl) rfl rfl ⟨(Ae BK2.out 0).trans rfl, (Ae BK2.out 1).trans rfl, (Ae BK2.out 2).trans rfl, (Ae BK3.out 0).trans rfl, (Ae BK3.out 1).trans rfl, (Ae BK3.out 2).trans rfl⟩ (fun hHeld => ?_); refine Gf Ap.tab6 Ap.bits6 (fun HT_ HW_ => ?_)
          generalize w46.drew = w47 at BK0 BK1 BK2 BK3 HB hHeld ⊢
          refine E8 (i := 0) (N := some 38) (v := ?_) (a' := ?_) #[true, false, false, false, false, false, false, false, false, false, false, false, false, false, false, false, false, false, false, false, false, false] rfl rfl (Ea HT_.out HW_.out (by kernel_rfl)) (fun _ _ _ h => h) (Or.inl ⟨by rfl, ?_⟩) hHeld ?_ ?_
          rotate_left
          · rintro w' ⟨s0, s1, s2, s3, s4, s5⟩
            go_simp
            with_reducible rfl
          rotate_left
          · simp only [Act.put, List.setIfInBounds_toArray, List.set_cons_zero, List.set_cons_succ, Aw, Az]
            rfl
          refine E8 (i := 1) (N := some 39) (v := ?_) (a' := ?_) #[true, true, false, false, false, false, false, false, false, false, false, false, false, false, false, false, false, false, false, false, false, false] rfl rfl (Ea HT_.out HW_.out (by kernel_rfl)) (fun _ _ _ h => h) (Or.inl ⟨by rfl, ?_⟩) hHeld ?_ ?_
          rotate_left
          · rintro w' ⟨s0, s1, s2, s3, s4, s5⟩
            go_simp
            with_reducible rfl
          rotate_left
          · simp only [Act.put, List.setIfInBounds_toArray, List.set_cons_zero, List.set_cons_succ, Aw, Az]
            rfl
          refine Bz (i := 2) (N := some 40) (v := ?_) (a' := ?_) #[true, true, true, false, false, false, false, false, false, false, false, false, false, false, false, false, false, false, false, false, false, false] rfl rfl (Bf HT_.out (by kernel_rfl)) (fun _ _ _ h => h) (Or.inl ⟨by rfl, ?_⟩) ?_ ?_
          rotate_left
          · intro w'
            go_simp
            with_reducible rfl
          rotate_left
          · simp only [Act.put, List.setIfInBounds_toArray, List.set_cons_zero, List.set_cons_succ, Aw, Az]
            rfl
          refine Bz (i := 3) (N := some 41) (v := ?_) (a' := ?_) #[true, true, true, true, false, false, false, false, false, false, false, false, false, false, false, false, false, false, false, false, false, false] rfl rfl (Bf HT_.out (by kernel_rfl)) (fun _ _ _ h => h) (Or.inl ⟨by rfl, ?_⟩) ?_ ?_
          rotate_left
          · intro w'
            go_simp
            with_reducible rfl
          rotate_left
          · simp only [Act.put, List.setIfInBounds_toArray, List.set_cons_zero, List.set_cons_succ, Aw, Az]
            rfl
          refine Bz (i := 4) (N := some 42) (v := ?_) (a' := ?_) #[true, true, true, true, true, false, false, false, false, false, false, false, false, false, false, false, false, false, false, false, false, false] rfl rfl (Bf HT_.out (by kernel_rfl)) (fun _ _ _ h => h) (Or.inl ⟨by rfl, ?_⟩) ?_ ?_
          rotate_left
          · intro w'
            go_simp
            with_reducible rfl
          rotate_left
          · simp only [Act.put, List.setIfInBounds_toArray, List.set_cons_zero, List.set_cons_succ, Aw, Az]
            rfl
          refine Bz (i := 5) (N := some 43) (v := ?_) (a' := ?_) #[true, true, true, true, true, true, false, false, false, false, false, false, false, false, false, false, false, false, false, false, false, false] rfl rfl (Bf HT_.out (by kernel_rfl)) (fun _ _ _ h => h) (Or.inl ⟨by rfl, ?_⟩) ?_ ?_
          rotate_left
          · intro w'
            go_simp
            with_reducible rfl
          rotate_left
          · simp only [Act.put, List.setIfInBounds_toArray, List.set_cons_zero, List.set_cons_succ, Aw, Az]
            rfl
          refine Bz (i := 6) (N := some 44) (v := ?_) (a' := ?_) #[true, true, true, true, true, true, true, false, false, false, false, false, false, false, false, false, false, false, false, false, false, false] rfl rfl (Bf HT_.out (by kernel_rfl)) (fun _ _ _ h => h) (Or.inl ⟨by rfl, ?_⟩) ?_ ?_
          rotate_left
          · intro w'
            go_simp
            with_reducible rfl
          rotate_left
          · simp only [Act.put, List.setIfInBounds_toArray, List.set_cons_zero, List.set_cons_succ, Aw, Az]
            rfl
          refine Bz (i := 7) (N := some 45) (v := ?_) (a' := ?_) #[true, true, true, true, true, true, true, true, false, false, false, false, false, false, false, false, false, false, false, false, false, false] rfl rfl (Bf HT_.out (by kernel_rfl)) (fun _ _ _ h => h) (Or.inl ⟨by rfl, ?_⟩) ?_ ?_
          rotate_left
          · intro w'
            go_simp
            with_reducible rfl
          rotate_left
          · simp only [Act.put, List.setIfInBounds_toArray, List.set_cons_zero, List.set_cons_succ, Aw, Az]
            rfl
          refine Bz (i := 8) (N := some 46) (v := ?_) (a' := ?_) #[true, true, true, true, true, true, true, true, true, false, false, false, false, false, false, false, false, false, false, false, false, false] rfl rfl (Bf HT_.out (by kernel_rfl)) (fun _ _ _ h => h) (Or.inl ⟨by rfl, ?_⟩) ?_ ?_
          rotate_left
          · intro w'
            go_simp
            with_reducible rfl
          rotate_left
          · simp only [Act.put, List.setIfInBounds_toArray, List.set_cons_zero, List.set_cons_succ, Aw, Az]
            rfl
          refine Bz (i := 9) (N := some 47) (v := undef) (a' := ?_) #[true, true, true, true, true, true, true, true, true, true, false, false, false, false, false, false, false, false, false, false, false, false] rfl rfl (Bf HT_.out (by kernel_rfl)) (fun _ _ _ h => h) (Or.inr ⟨by rfl, rfl⟩) ?_ ?_
          rotate_left
          · simp only [Act.put, List.setIfInBounds_toArray, List.set_cons_zero, List.set_cons_succ, Aw, Az]
            rfl
          refine Bz (i := 10) (N := some 48) (v := undef) (a' := ?_) #[true, true, true, true, true, true, true, true, true, true, true, false, false, false, false, false, false, false, false, false, false, false] rfl rfl (Bf HT_.out (by kernel_rfl)) (fun _ _ _ h => h) (Or.inr ⟨by rfl, rfl⟩) ?_ ?_
          rotate_left
          · simp only [Act.put, List.setIfInBounds_toArray, List.set_cons_zero, List.set_cons_succ, Aw, Az]
            rfl
          refine Bz (i := 11) (N := some 49) (v := undef) (a' := ?_) #[true, true, true, true, true, true, true, true, true, true, true, true, false, false, false, false, false, false, false, false, false, false] rfl rfl (Bf HT_.out (by kernel_rfl)) (fun _ _ _ h => h) (Or.inr ⟨by rfl, rfl⟩) ?_ ?_
          rotate_left
          · simp only [Act.put, List.setIfInBounds_toArray, List.set_cons_zero, List.set_cons_succ, Aw, Az]
            rfl
          refine Bz (i := 12) (N := some 50) (v := undef) (a' := ?_) #[true, true, true, true, true, true, true, true, true, true, true, true, true, false, false, false, false, false, false, false, false, false] rfl rfl (Bf HT_.out (by kernel_rfl)) (fun _ _ _ h => h) (Or.inr ⟨by rfl, rfl⟩) ?_ ?_
          rotate_left
          · simp only [Act.put, List.setIfInBounds_toArray, List.set_cons_zero, List.set_cons_succ, Aw, Az]
            rfl
          refine Bz (i := 13) (N := some 51) (v := undef) (a' := ?_) #[true, true, true, true, true, true, true, true, true, true, true, true, true, true, false, false, false, false, false, false, false, false] rfl rfl (Bf HT_.out (by kernel_rfl)) (fun _ _ _ h => h) (Or.inr ⟨by rfl, rfl⟩) ?_ ?_
          rotate_left
          · simp only [Act.put, List.setIfInBounds_toArray, List.set_cons_zero, List.set_cons_succ, Aw, Az]
            rfl
          refine Bz (i := 14) (N := some 52) (v := ?_) (a' := ?_) #[true, true, true, true, true, true, true, true, true, true, true, true, true, true, true, false, false, false, false, false, false, false] rfl rfl (Bf HT_.out (by kernel_rfl)) (fun _ _ _ h => h) (Or.inl ⟨by rfl, ?_⟩) ?_ ?_
          rotate_left
          · intro w'
            go_simp
            with_reducible rfl
          rotate_left
          · simp only [Act.put, List.setIfInBounds_toArray, List.set_cons_zero, List.set_cons_succ, Aw, Az]
            rfl
          refine Bz (i := 15) (N := some 53) (v := ?_) (a' := ?_) #[true, true, true, true, true, true, true, true, true, true, true, true, true, true, true, true, false, false, false, false, false, false] rfl rfl (Bf HT_.out (by kernel_rfl)) (fun _ _ _ h => h) (Or.inl ⟨by rfl, ?_⟩) ?_ ?_
          rotate_left
          · intro w'
            go_simp
            with_reducible rfl
          rotate_left
          · simp only [Act.put, List.setIfInBounds_toArray, List.set_cons_zero, List.set_cons_succ, Aw, Az]
            rfl
          refine Bz (i := 16) (N := some 54) (v := undef) (a' := ?_) #[true, true, true, true, true, true, true, true, true, true, true, true, true, true, true, true, true, false, false, false, false, false] rfl rfl (Bf HT_.out (by kernel_rfl)) (fun _ _ _ h => h) (Or.inr ⟨by rfl, rfl⟩) ?_ ?_
          rotate_left
          · simp only [Act.put, List.setIfInBounds_toArray, List.set_cons_zero, List.set_cons_succ, Aw, Az]
            rfl
          refine Bz (i := 17) (N := some 55) (v := undef) (a' := ?_) #[true, true, true, true, true, true, true, true, true, true, true, true, true, true, true, true, true, true, false, false, false, false] rfl rfl (Bf HT_.out (by kernel_rfl)) (fun _ _ _ h => h) (Or.inr ⟨by rfl, rfl⟩) ?_ ?_
          rotate_left
          · simp only [Act.put, List.setIfInBounds_toArray, List.set_cons_zero, List.set_cons_succ, Aw, Az]
            rfl
          refine Bz (i := 18) (N := some 56) (v := undef) (a' := ?_) #[true, true, true, true, true, true, true, true, true, true, true, true, true, true, true, true, true, true, true, false, false, false] rfl rfl (Bf HT_.out (by kernel_rfl)) (fun _ _ _ h => h) (Or.inr ⟨by rfl, rfl⟩) ?_ ?_
          rotate_left
          · simp only [Act.put, List.setIfInBounds_toArray, List.set_cons_zero, List.set_cons_succ, Aw, Az]
            rfl
          refine Bz (i := 19) (N := some 57) (v := undef) (a' := ?_) #[true, true, true, true, true, true, true, true, true, true, true, true, true, true, true, true, true, true, true, true, false, false] rfl rfl (Bf HT_.out (by kernel_rfl)) (fun _ _ _ h => h) (Or.inr ⟨by rfl, rfl⟩) ?_ ?_
          rotate_left
          · simp only [Act.put, List.setIfInBounds_toArray, List.set_cons_zero, List.set_cons_succ, Aw, Az]
            rfl
          refine Bz (i := 20) (N := some 58) (v := undef) (a' := ?_) #[true, true, true, true, true, true, true, true, true, true, true, true, true, true, true, true, true, true, true, true, true, false] rfl rfl (Bf HT_.out (by kernel_rfl)) (fun _ _ _ h => h) (Or.inr ⟨by rfl, rfl⟩) ?_ ?_
          rotate_left
          · simp only [Act.put, List.setIfInBounds_toArray, List.set_cons_zero, List.set_cons_succ, Aw, Az]
            rfl
          refine Bz (i := 21) (N := some 59) (v := ?_) (a' := ?_) #[true, true, true, true, true, true, true, true, true, true, true, true, true, true, true, true, true, true, true, true, true, true] rfl rfl (Bf HT_.out (by kernel_rfl)) (fun _ _ _ h => h) (Or.inl ⟨by rfl, ?_⟩) ?_ ?_
          rotate_left
          · intro w'
            go_simp
            with_reducible rfl
          rotate_left
          · simp only [Act.put, List.setIfInBounds_toArray, List.set_cons_zero, List.set_cons_succ, Aw, Az]
            rfl
          refine done_ (Gy HT_.out (by kernel_rfl)) ?_
          try go_wp2
          go_meet
          case rel => exact ⟨_, (true), Ybe_, H', ⟨by first | omega | exact Nat.le_refl _⟩, ⟨by (with_reducible repeat (first | refine Aa ?_ _ | refine Ad ?_ | refine Ac ?_ _)); exact BK0.out⟩, ⟨by (with_reducible repeat (first | refine Aa ?_ _ | refine Ad ?_ | refine Ac ?_ _)); exact BK1.out⟩, ⟨by (with_reducible repeat (first | refine Aa ?_ _ | refine Ad ?_ | refine Ac ?_ _)); exact BK2.out⟩, ⟨by (with_reducible repeat (first | refine Aa ?_ _ | refine Ad ?_ | refine Ac ?_ _)); exact BK3.out⟩, ⟨by repeat (first | (with_reducible first | exact HB.out | apply below_alloc | apply pw_below_drewN | apply below_drew1 | refine below_set ?_ GE0.out | refine below_set ?_ GE1.out | refine below_set ?_ GE2.out | refine below_set ?_ GE3.out) | exact HB.out)⟩⟩
    case rest =>
      clear HC7
      try clear c2
      try clear p2
      try clear c3
      try clear c21
      try clear c23
      try clear c30
      try clear c30b0
      try clear c30b1
      try clear c33
      try clear c33b0
      try clear c33b1
      try clear c33b2
      try clear c37
      try clear c38
      obtain ⟨kq, x59_6, rfl, HA, HJ6, BK0, BK1, BK2, BK3, HB⟩ := hcut
      cases kq with
      | zero => exact absurd HA.out (by simp [Ap.j0])
      | succ kj6 =>
        have H := HA.out
        clear HA
        simp only [Ap.j0] at H
        by_cases c48 : x59_6 = true
        · subst c48
          have H1 : (some false) = some r := by rw [if_pos rfl] at H; exact H
          clear H
          have H := H1
          clear H1
          exact absurd (Option.some.inj H) (by rw [HR_.out]; decide)
        · replace c48 := Bool.eq_false_iff.mpr c48
          subst c48
          have H1 : (if t545 = 0 then ((Dz.f kj6 t542 t543 t544).bind fun bt556 => ((Dz.f kj6 t535 t536 t537).bind fun bt560 => (if t542.size + t543.size ≤ 9223372036854775807 then ((D9.f kj6 (t542 ++ t543)).bind fun bt564 => ((Ei.f kj6 t542 t543 t544).bind fun bt570 => (if bt556.2 = true then (if (bt556.1.length : Int) = (wrap64 ((bt560.1.length : Int) + 1)) then (Ap.j1 kj6 bt556.1 bt560.1 bt564.2.2.2.1 bt564.2.2.2.2 bt570.2.2.2 (t544 != (bt556.1.length : Int)) t538 t539 t542 t543 t544 bt564.1 bt564.2.1 bt564.2.2.1 bt570.1 bt570.2.1 bt570.2.2.1) else (Ap.j1 kj6 bt556.1 bt560.1 bt564.2.2.2.1 bt564.2.2.2.2 bt570.2.2.2 true t538 t539 t542 t543 t544 bt564.1 bt564.2.1 bt564.2.2.1 bt570.1 bt570.2.1 bt570.2.2.1)) else (Ap.j1 kj6 bt556.1 bt560.1 bt564.2.2.2.1 bt564.2.2.2.2 bt570.2.2.2 true t538 t539 t542 t543 t544 bt564.1 bt564.2.1 bt564.2.2.1 bt570.1 bt570.2.1 bt570.2.2.1)))) else (none)))) else (some (t542.toList == t535.toList && (t543.toList == t536.toList && (t544 == t537))))) = some r := by rw [if_neg (show ¬ (false = true) by decide)] at H; exact H
          clear H
          have H := H1
          clear H1
          by_cases c49 : t545 = 0
          · rw [if_pos c49] at H
            have c49b0 : (t545 == 0) = true := beq_iff_eq.mpr c49
            have c49b1 : (t545 != 0) = false := bne_eq_false_iff_eq.mpr c49
            clear c49
            replace H := Option.bind_eq_some_iff.mp H
            obtain ⟨⟨t556, t559⟩, A500, H⟩ := H
            replace H : ((Dz.f kj6 t535 t536 t537).bind fun bt560 => (if t542.size + t543.size ≤ 9223372036854775807 then ((D9.f kj6 (t542 ++ t543)).bind fun bt564 => ((Ei.f kj6 t542 t543 t544).bind fun bt570 => (if t559 = true then (if (t556.length : Int) = (wrap64 ((bt560.1.length : Int) + 1)) then (Ap.j1 kj6 t556 bt560.1 bt564.2.2.2.1 bt564.2.2.2.2 bt570.2.2.2 (t544 != (t556.length : Int)) t538 t539 t542 t543 t544 bt564.1 bt564.2.1 bt564.2.2.1 bt570.1 bt570.2.1 bt570.2.2.1) else (Ap.j1 kj6 t556 bt560.1 bt564.2.2.2.1 bt564.2.2.2.2 bt570.2.2.2 true t538 t539 t542 t543 t544 bt564.1 bt564.2.1 bt564.2.2.1 bt570.1 bt570.2.1 bt570.2.2.1)) else (Ap.j1 kj6 t556 bt560.1 bt564.2.2.2.1 bt564.2.2.2.2 bt570.2.2.2 true t538 t539 t542 t543 t544 bt564.1 bt564.2.1 bt564.2.2.1 bt570.1 bt570.2.1 bt570.2.2.1)))) else (none))) = some r := H
            have A50 := Aside0.mk A500
            clear A500
            replace H := Option.bind_eq_some_iff.mp H
            obtain ⟨⟨t560, t563⟩, A510, H⟩ := H
            replace H : (if t542.size + t543.size ≤ 9223372036854775807 then ((D9.f kj6 (t542 ++ t543)).bind fun bt564 => ((Ei.f kj6 t542 t543 t544).bind fun bt570 => (if t559 = true then (if (t556.length : Int) = (wrap64 ((t560.length : Int) + 1)) then (Ap.j1 kj6 t556 t560 bt564.2.2.2.1 bt564.2.2.2.2 bt570.2.2.2 (t544 != (t556.length : Int)) t538 t539 t542 t543 t544 bt564.1 bt564.2.1 bt564.2.2.1 bt570.1 bt570.2.1 bt570.2.2.1) else (Ap.j1 kj6 t556 t560 bt564.2.2.2.1 bt564.2.2.2.2 bt570.2.2.2 true t538 t539 t542 t543 t544 bt564.1 bt564.2.1 bt564.2.2.1 bt570.1 bt570.2.1 bt570.2.2.1)) else (Ap.j1 kj6 t556 t560 bt564.2.2.2.1 bt564.2.2.2.2 bt570.2.2.2 true t538 t539 t542 t543 t544 bt564.1 bt564.2.1 bt564.2.2.1 bt570.1 bt570.2.1 bt570.2.2.1)))) else (none)) = some r := H
            have A51 := Aside0.mk A510
            clear A510
            by_cases c52 : t542.size + t543.size ≤ 9223372036854775807
            · rw [if_pos c52] at H
              have c52b0 := eq_true c52
              have c52b1 : decide (t542.size + t543.size ≤ 9223372036854775807) = true := decide_eq_true c52
              try have c52b2 : (9223372036854775807 < t542.size + t543.size) = False := eq_false (Nat.not_lt.2 c52)
              replace H := Option.bind_eq_some_iff.mp H
              obtain ⟨⟨t564, t565, t566, t567, t568⟩, A530, H⟩ := H
              replace H : ((Ei.f kj6 t542 t543 t544).bind fun bt570 => (if t559 = true then (if (t556.length : Int) = (wrap64 ((t560.length : Int) + 1)) then (Ap.j1 kj6 t556 t560 t567 t568 bt570.2.2.2 (t544 != (t556.length : Int)) t538 t539 t542 t543 t544 t564 t565 t566 bt570.1 bt570.2.1 bt570.2.2.1) else (Ap.j1 kj6 t556 t560 t567 t568 bt570.2.2.2 true t538 t539 t542 t543 t544 t564 t565 t566 bt570.1 bt570.2.1 bt570.2.2.1)) else (Ap.j1 kj6 t556 t560 t567 t568 bt570.2.2.2 true t538 t539 t542 t543 t544 t564 t565 t566 bt570.1 bt570.2.1 bt570.2.2.1))) = some r := H
              have A53 := Aside0.mk A530
              clear A530
              replace H := Option.bind_eq_some_iff.mp H
              obtain ⟨⟨t570, t571, t572, t573⟩, A540, H⟩ := H
              replace H : (if t559 = true then (if (t556.length : Int) = (wrap64 ((t560.length : Int) + 1)) then (Ap.j1 kj6 t556 t560 t567 t568 t573 (t544 != (t556.length : Int)) t538 t539 t542 t543 t544 t564 t565 t566 t570 t571 t572) else (Ap.j1 kj6 t556 t560 t567 t568 t573 true t538 t539 t542 t543 t544 t564 t565 t566 t570 t571 t572)) else (Ap.j1 kj6 t556 t560 t567 t568 t573 true t538 t539 t542 t543 t544 t564 t565 t566 t570 t571 t572)) = some r := H
              have A54 := Aside0.mk A540
              clear A540
              have HC55 := Aside0.mk H
              clear H
              have hnb56 := NB2_0.out
              have hnc56 := NB0_2.out
              have hnb57 := NB2_1.out
              have hnc57 := NB1_2.out
              have hnb58 := NB2_3.out
              have hnc58 := NB3_2.out
              have hcz59_0 : wc.cell? ⟨gb2, 0, none⟩ = some (.string t542) := (Ae BK2.out 0).trans rfl
              have hcz59_1 : wc.cell? ⟨gb2, 1, none⟩ = some (.string t543) := (Ae BK2.out 1).trans rfl
              have hcz59_2 : wc.cell? ⟨gb2, 2, none⟩ = some (.int .i64 t544) := (Ae BK2.out 2).trans rfl
              have hfz59_0 := Af BK2.out 0
              have hfz59_1 := Af BK2.out 1
              have hfz59_2 := Af BK2.out 2
              go_upto_region 14 with (first | ((with_reducible refine Am (f := 31) rfl ?_); refine Be (some 67) rfl rfl Tryd.func31 (by kernel_rfl) rfl #[.agg #[.string t542, .string t543, .int .i64 t544]] rfl Yc_ ?_; (with_reducible refine (Dz.calls kj6 t542 t543 t544 t556 t559 _ ?side1 A50.out).mono ?_); (case side1 => exact Eg.below HGL.out Yh_); rintro e w60 ⟨v557, rfl, ho0, hb⟩; refine ⟨_, rfl, ?_⟩; have n0_ := Aside0.mk (Kd.En (Kd.R_newB ho0 (g := gb1) (o := .cells #[.string t538, .string t539] 27 (0, 0)) Ye_) (Ah Yh_)); have n1_ := Aside0.mk (Ai (g := gb0) (o := .cells #[.string t535, .string t536, .int .i64 t537] 31 (0, 0)) Yd_ hb); have n2_ := Aside0.mk (Ai (g := gb1) (o := .cells #[.string t538, .string t539] 27 (0, 0)) Ye_ hb); have n3_ := Aside0.mk (Ai (g := gb2) (o := .cells #[.string t542, .string t543, .int .i64 t544] 31 (0, 0)) Ybc_ hb); have n4_ := Aside0.mk (Ai (g := gb3) (o := .cells #[.string t547, .string t548, .int .i64 t549] 31 (0, 0)) Yca_ hb); have n5_ := Aside0.mk (Ag Yh_ hb); clear BK0; clear BK1; clear BK2; clear BK3; clear HB; have HO558 := n0_; have BK0 := n1_; have BK1 := n2_; have BK2 := n3_; have BK3 := n4_; have HB := n5_; clear n0_ n1_ n2_ n3_ n4_ n5_; (try clear hb); (try clear hb2); (try clear hk); (try clear hi); (try clear ho0); have hnb61 := NB0_1.out; have hnc61 := NB1_0.out; have hnb62 := NB0_3.out; have hnc62 := NB3_0.out; have hcz63_0 : w60.cell? ⟨gb0, 0, none⟩ = some (.string t535) := (Ae BK0.out 0).trans rfl; have hcz63_1 : w60.cell? ⟨gb0, 1, none⟩ = some (.string t536) := (Ae BK0.out 1).trans rfl; have hcz63_2 : w60.cell? ⟨gb0, 2, none⟩ = some (.int .i64 t537) := (Ae BK0.out 2).trans rfl; have hfz63_0 := Af BK0.out 0; have hfz63_1 := Af BK0.out 1; have hfz63_2 := Af BK0.out 2) | ((with_reducible refine Am (f := 31) rfl ?_); refine Be (some 72) rfl rfl Tryd.func31 (by kernel_rfl) rfl #[.agg #[.string t535, .string t536, .int .i64 t537]] rfl Yc_ ?_; (with_reducible refine (Dz.calls kj6 t535 t536 t537 t560 t563 _ ?side1 A51.out).mono ?_); (case side1 => exact Eg.below HGL.out Yh_); rintro e w64 ⟨v561, rfl, ho0, hb⟩; refine ⟨_, rfl, ?_⟩; have n0_ := Aside0.mk (Kd.He Ygf_ (Kd.R_base ho0) hb); have n1_ := Aside0.mk (Kd.En (Kd.R_newB (Kd.R_new' ho0 (Kd.R_lt Ygf_)) (g := gb1) (o := .cells #[.string t538, .string t539] 27 (0, 0)) Ye_) (Ah Yh_)); have n2_ := Aside0.mk (Ai (g := gb0) (o := .cells #[.string t535, .string t536, .int .i64 t537] 31 (0, 0)) Yd_ hb); have n3_ := Aside0.mk (Ai (g := gb1) (o := .cells #[.string t538, .string t539] 27 (0, 0)) Ye_ hb); have n4_ := Aside0.mk (Ai (g := gb2) (o := .cells #[.string t542, .string t543, .int .i64 t544] 31 (0, 0)) Ybc_ hb); have n5_ := Aside0.mk (Ai (g := gb3) (o := .cells #[.string t547, .string t548, .int .i64 t549] 31 (0, 0)) Yca_ hb); have n6_ := Aside0.mk (Ag Yh_ hb); clear HO558; clear BK0; clear BK1; clear BK2; clear BK3; clear HB; have HO558 := n0_; have HO562 := n1_; have BK0 := n2_; have BK1 := n3_; have BK2 := n4_; have BK3 := n5_; have HB := n6_; clear n0_ n1_ n2_ n3_ n4_ n5_ n6_; (try clear hb); (try clear hb2); (try clear hk); (try clear hi); (try clear ho0); have hcz65_0 : w64.cell? ⟨gb2, 0, none⟩ = some (.string t542) := (Ae BK2.out 0).trans rfl; have hcz65_1 : w64.cell? ⟨gb2, 1, none⟩ = some (.string t543) := (Ae BK2.out 1).trans rfl; have hcz65_2 : w64.cell? ⟨gb2, 2, none⟩ = some (.int .i64 t544) := (Ae BK2.out 2).trans rfl; have hfz65_0 := Af BK2.out 0; have hfz65_1 := Af BK2.out 1; have hfz65_2 := Af BK2.out 2) | ((with_reducible refine Am (f := 18) rfl ?_); refine Be (some 81) rfl rfl Tryd.func18 (by kernel_rfl) rfl #[.string (t542 ++ t543)] rfl Yc_ ?_; (with_reducible refine (D9.calls kj6 (t542 ++ t543) t564 t565 t566 t567 t568 _ ?side1 A53.out).mono ?_); (case side1 => exact Eg.below HGL.out Yh_); rintro e w66 ⟨rfl, hb⟩; refine ⟨_, rfl, ?_⟩; have n0_ := Aside0.mk (Kd.Eb Ygf_ hb); have n1_ := Aside0.mk (Kd.Eb Yhg_ hb); have n2_ := Aside0.mk (Ai (g := gb0) (o := .cells #[.string t535, .string t536, .int .i64 t537] 31 (0, 0)) Yd_ hb); have n3_ := Aside0.mk (Ai (g := gb1) (o := .cells #[.string t538, .string t539] 27 (0, 0)) Ye_ hb); have n4_ := Aside0.mk (Ai (g := gb2) (o := .cells #[.string t542, .string t543, .int .i64 t544] 31 (0, 0)) Ybc_ hb); have n5_ := Aside0.mk (Ai (g := gb3) (o := .cells #[.string t547, .string t548, .int .i64 t549] 31 (0, 0)) Yca_ hb); have n6_ := Aside0.mk (Ag Yh_ hb); clear HO558; clear HO562; clear BK0; clear BK1; clear BK2; clear BK3; clear HB; have HO558 := n0_; have HO562 := n1_; have BK0 := n2_; have BK1 := n3_; have BK2 := n4_; have BK3 := n5_; have HB := n6_; clear n0_ n1_ n2_ n3_ n4_ n5_ n6_; (try clear hb); (try clear hb2); (try clear hk); (try clear hi)) | ((with_reducible refine Bd (N := 13) rfl ?_); (try (refine Ef (by rfl) ?_; dsimp only)); refine Bc ?hg (N := 13) ?hd (cs := #[.string (⟨#[]⟩ : ByteArray), .string (⟨#[]⟩ : ByteArray), .int .i64 0]) (t := 31) ?hr ?_; (case hd => rfl); (case hg => rfl); (case hr => first | (go_simp; done) | (go_simp; rfl)); intro gb4 hg w67 hbox hb; have n0_ := Aside0.mk (Kd.Eb Ygf_ hb); have n1_ := Aside0.mk (Kd.Eb Yhg_ hb); have n2_ := Aside0.mk (Ai (g := gb0) (o := .cells #[.string t535, .string t536, .int .i64 t537] 31 (0, 0)) Yd_ hb); have n3_ := Aside0.mk (Ai (g := gb1) (o := .cells #[.string t538, .string t539] 27 (0, 0)) Ye_ hb); have n4_ := Aside0.mk (Ai (g := gb2) (o := .cells #[.string t542, .string t543, .int .i64 t544] 31 (0, 0)) Ybc_ hb); have n5_ := Aside0.mk (Ai (g := gb3) (o := .cells #[.string t547, .string t548, .int .i64 t549] 31 (0, 0)) Yca_ hb); have n6_ := Aside0.mk (Ag Yh_ hb); have n7_ := Aside0.mk (hbox); have n8_ := Aside0.mk ((by rw [hg]; exact (Ah Yh_) : w.heap.size ≤ gb4)); have n9_ := Aside0.mk ((by rw [hg]; exact (Ah Yh_) : w.heap.size ≤ gb4)); have n10_ := Aside0.mk ((by rw [hg]; exact Nat.ne_of_lt (Cf (g := gb0) (o := .cells #[.string t535, .string t536, .int .i64 t537] 31 (0, 0)) Yd_) : gb0 ≠ gb4)); have n11_ := Aside0.mk ((by rw [hg]; exact Nat.ne_of_gt (Cf (g := gb0) (o := .cells #[.string t535, .string t536, .int .i64 t537] 31 (0, 0)) Yd_) : gb4 ≠ gb0)); have n12_ := Aside0.mk ((by rw [hg]; exact Nat.ne_of_lt (Cf (g := gb1) (o := .cells #[.string t538, .string t539] 27 (0, 0)) Ye_) : gb1 ≠ gb4)); have n13_ := Aside0.mk ((by rw [hg]; exact Nat.ne_of_gt (Cf (g := gb1) (o := .cells #[.string t538, .string t539] 27 (0, 0)) Ye_) : gb4 ≠ gb1)); have n14_ := Aside0.mk ((by rw [hg]; exact Nat.ne_of_lt (Cf (g := gb2) (o := .cells #[.string t542, .string t543, .int .i64 t544] 31 (0, 0)) Ybc_) : gb2 ≠ gb4)); have n15_ := Aside0.mk ((by rw [hg]; exact Nat.ne_of_gt (Cf (g := gb2) (o := .cells #[.string t542, .string t543, .int .i64 t544] 31 (0, 0)) Ybc_) : gb4 ≠ gb2)); have n16_ := Aside0.mk ((by rw [hg]; exact Nat.ne_of_lt (Cf (g := gb3) (o := .cells #[.string t547, .string t548, .int .i64 t549] 31 (0, 0)) Yca_) : gb3 ≠ gb4)); have n17_ := Aside0.mk ((by rw [hg]; exact Nat.ne_of_gt (Cf (g := gb3) (o := .cells #[.string t547, .string t548, .int .i64 t549] 31 (0, 0)) Yca_) : gb4 ≠ gb3)); clear HO558; clear HO562; clear BK0; clear BK1; clear BK2; clear BK3; clear HB; have HO558 := n0_; have HO562 := n1_; have BK0 := n2_; have BK1 := n3_; have BK2 := n4_; have BK3 := n5_; have HB := n6_; have BK4 := n7_; have GW4 := n8_; have GE4 := n9_; have NB0_4 := n10_; have NB4_0 := n11_; have NB1_4 := n12_; have NB4_1 := n13_; have NB2_4 := n14_; have NB4_2 := n15_; have NB3_4 := n16_; have NB4_3 := n17_; clear n0_ n1_ n2_ n3_ n4_ n5_ n6_ n7_ n8_ n9_ n10_ n11_ n12_ n13_ n14_ n15_ n16_ n17_; clear hb hbox hg; have hnb68 := NB4_0.out; have hnc68 := NB0_4.out; have hnb69 := NB4_1.out; have hnc69 := NB1_4.out; have hnb70 := NB4_2.out; have hnc70 := NB2_4.out; have hnb71 := NB4_3.out; have hnc71 := NB3_4.out; have hcz72_0 : w67.cell? ⟨gb4, 0, none⟩ = some (.string (⟨#[]⟩ : ByteArray)) := (Ae BK4.out 0).trans rfl; have hcz72_1 : w67.cell? ⟨gb4, 1, none⟩ = some (.string (⟨#[]⟩ : ByteArray)) := (Ae BK4.out 1).trans rfl; have hcz72_2 : w67.cell? ⟨gb4, 2, none⟩ = some (.int .i64 0) := (Ae BK4.out 2).trans rfl; have hfz72_0 := Af BK4.out 0; have hfz72_1 := Af BK4.out 1; have hfz72_2 := Af BK4.out 2; have hcz73_0 : w67.cell? ⟨gb2, 0, none⟩ = some (.string t542) := (Ae BK2.out 0).trans rfl; have hcz73_1 : w67.cell? ⟨gb2, 1, none⟩ = some (.string t543) := (Ae BK2.out 1).trans rfl; have hcz73_2 : w67.cell? ⟨gb2, 2, none⟩ = some (.int .i64 t544) := (Ae BK2.out 2).trans rfl; have hfz73_0 := Af BK2.out 0; have hfz73_1 := Af BK2.out 1; have hfz73_2 := Af BK2.out 2) | ((with_reducible refine Am (f := 27) rfl ?_); refine Be (some 87) rfl rfl Tryd.func27 (by kernel_rfl) rfl #[.agg #[.string t542, .string t543, .int .i64 t544]] rfl Yc_ ?_; (with_reducible refine (Ei.calls kj6 t542 t543 t544 t570 t571 t572 t573 _ ?side1 A54.out).mono ?_); (case side1 => exact Eg.below HGL.out Ydb_); rintro e w74 ⟨rfl, hb⟩; refine ⟨_, rfl, ?_⟩; have n0_ := Aside0.mk (Kd.Eb (by (with_reducible repeat (first | apply Kd.Bo | apply Kd.Bl | apply Kd.Cb)); exact (Kd.D5 (Kd.Et (p := ⟨gb4, 2, none⟩) (Kd.Et (p := ⟨gb4, 1, none⟩) (Kd.Et (p := ⟨gb4, 0, none⟩) (Kd.Gg HO558.out BK4.out (by decide)) (fun _ hk => hk.2) (.string t564)) (fun _ hk => hk.2) (.string t565)) (fun _ hk => hk.2) (.int .i64 t566)) (fun _ h_ => h_.1))) hb); have n1_ := Aside0.mk (Kd.Eb (by (with_reducible repeat (first | apply Kd.Bo | apply Kd.Bl | apply Kd.Cb)); exact (Kd.D5 (Kd.Et (p := ⟨gb4, 2, none⟩) (Kd.Et (p := ⟨gb4, 1, none⟩) (Kd.Et (p := ⟨gb4, 0, none⟩) (Kd.Gg HO562.out BK4.out (by decide)) (fun _ hk => hk.2) (.string t564)) (fun _ hk => hk.2) (.string t565)) (fun _ hk => hk.2) (.int .i64 t566)) (fun _ h_ => h_.1))) hb); have n2_ := Aside0.mk (Ai (g := gb0) (o := .cells #[.string t535, .string t536, .int .i64 t537] 31 (0, 0)) (by (with_reducible repeat (first | refine Aa ?_ _ | refine Ad ?_ | refine Ac ?_ _)); refine Aq ?_ NB0_4.out _; (with_reducible repeat (first | refine Aa ?_ _ | refine Ad ?_ | refine Ac ?_ _)); refine Aq ?_ NB0_4.out _; (with_reducible repeat (first | refine Aa ?_ _ | refine Ad ?_ | refine Ac ?_ _)); refine Aq ?_ NB0_4.out _; (with_reducible repeat (first | refine Aa ?_ _ | refine Ad ?_ | refine Ac ?_ _)); exact BK0.out) hb); have n3_ := Aside0.mk (Ai (g := gb1) (o := .cells #[.string t538, .string t539] 27 (0, 0)) (by (with_reducible repeat (first | refine Aa ?_ _ | refine Ad ?_ | refine Ac ?_ _)); refine Aq ?_ NB1_4.out _; (with_reducible repeat (first | refine Aa ?_ _ | refine Ad ?_ | refine Ac ?_ _)); refine Aq ?_ NB1_4.out _; (with_reducible repeat (first | refine Aa ?_ _ | refine Ad ?_ | refine Ac ?_ _)); refine Aq ?_ NB1_4.out _; (with_reducible repeat (first | refine Aa ?_ _ | refine Ad ?_ | refine Ac ?_ _)); exact BK1.out) hb); have n4_ := Aside0.mk (Ai (g := gb2) (o := .cells #[.string t542, .string t543, .int .i64 t544] 31 (0, 0)) (by (with_reducible repeat (first | refine Aa ?_ _ | refine Ad ?_ | refine Ac ?_ _)); refine Aq ?_ NB2_4.out _; (with_reducible repeat (first | refine Aa ?_ _ | refine Ad ?_ | refine Ac ?_ _)); refine Aq ?_ NB2_4.out _; (with_reducible repeat (first | refine Aa ?_ _ | refine Ad ?_ | refine Ac ?_ _)); refine Aq ?_ NB2_4.out _; (with_reducible repeat (first | refine Aa ?_ _ | refine Ad ?_ | refine Ac ?_ _)); exact BK2.out) hb); have n5_ := Aside0.mk (Ai (g := gb3) (o := .cells #[.string t547, .string t548, .int .i64 t549] 31 (0, 0)) (by (with_reducible repeat (first | refine Aa ?_ _ | refine Ad ?_ | refine Ac ?_ _)); refine Aq ?_ NB3_4.out _; (with_reducible repeat (first | refine Aa ?_ _ | refine Ad ?_ | refine Ac ?_ _)); refine Aq ?_ NB3_4.out _; (with_reducible repeat (first | refine Aa ?_ _ | refine Ad ?_ | refine Ac ?_ _)); refine Aq ?_ NB3_4.out _; (with_reducible repeat (first | refine Aa ?_ _ | refine Ad ?_ | refine Ac ?_ _)); exact BK3.out) hb); have n6_ := Aside0.mk (Ai (g := gb4) (o := .cells #[.string t564, .string t565, .int .i64 t566] 31 (0, 0)) (by (with_reducible repeat (first | refine Aa ?_ _ | refine Ad ?_ | refine Ac ?_ _)); refine Ar (cs := #[.string t564, .string t565, .int .i64 0]) ?_ 2 _ rfl; (with_reducible repeat (first | refine Aa ?_ _ | refine Ad ?_ | refine Ac ?_ _)); refine Ar (cs := #[.string t564, .string (⟨#[]⟩ : ByteArray), .int .i64 0]) ?_ 1 _ rfl; (with_reducible repeat (first | refine Aa ?_ _ | refine Ad ?_ | refine Ac ?_ _)); refine Ar (cs := #[.string (⟨#[]⟩ : ByteArray), .string (⟨#[]⟩ : ByteArray), .int .i64 0]) ?_ 0 _ rfl; (with_reducible repeat (first | refine Aa ?_ _ | refine Ad ?_ | refine Ac ?_ _)); exact BK4.out) hb); have n7_ := Aside0.mk (Ag Ydb_ hb); clear HO558; clear HO562; clear BK0; clear BK1; clear BK2; clear BK3; clear BK4; clear HB; have HO558 := n0_; have HO562 := n1_; have BK0 := n2_; have BK1 := n3_; have BK2 := n4_; have BK3 := n5_; have BK4 := n6_; have HB := n7_; clear n0_ n1_ n2_ n3_ n4_ n5_ n6_ n7_; (try clear hb); (try clear hb2); (try clear hk); (try clear hi)) | ((with_reducible refine Bd (N := 16) rfl ?_); (try (refine Ef (by rfl) ?_; dsimp only)); refine Bc ?hg (N := 16) ?hd (cs := #[.string (⟨#[]⟩ : ByteArray), .string (⟨#[]⟩ : ByteArray), .int .i64 0]) (t := 31) ?hr ?_; (case hd => rfl); (case hg => rfl); (case hr => first | (go_simp; done) | (go_simp; rfl)); intro gb5 hg w75 hbox hb; have n0_ := Aside0.mk (Kd.Eb Ygf_ hb); have n1_ := Aside0.mk (Kd.Eb Yhg_ hb); have n2_ := Aside0.mk (Ai (g := gb0) (o := .cells #[.string t535, .string t536, .int .i64 t537] 31 (0, 0)) Yd_ hb); have n3_ := Aside0.mk (Ai (g := gb1) (o := .cells #[.string t538, .string t539] 27 (0, 0)) Ye_ hb); have n4_ := Aside0.mk (Ai (g := gb2) (o := .cells #[.string t542, .string t543, .int .i64 t544] 31 (0, 0)) Ybc_ hb); have n5_ := Aside0.mk (Ai (g := gb3) (o := .cells #[.string t547, .string t548, .int .i64 t549] 31 (0, 0)) Yca_ hb); have n6_ := Aside0.mk (Ai (g := gb4) (o := .cells #[.string t564, .string t565, .int .i64 t566] 31 (0, 0)) Yhb_ hb); have n7_ := Aside0.mk (Ag Ydb_ hb); have n8_ := Aside0.mk (hbox); have n9_ := Aside0.mk ((by rw [hg]; exact (Ah Ydb_) : w.heap.size ≤ gb5)); have n10_ := Aside0.mk ((by rw [hg]; exact (Ah Ydb_) : w.heap.size ≤ gb5)); have n11_ := Aside0.mk ((by rw [hg]; exact Nat.ne_of_lt (Cf (g := gb0) (o := .cells #[.string t535, .string t536, .int .i64 t537] 31 (0, 0)) Yd_) : gb0 ≠ gb5)); have n12_ := Aside0.mk ((by rw [hg]; exact Nat.ne_of_gt (Cf (g := gb0) (o := .cells #[.string t535, .string t536, .int .i64 t537] 31 (0, 0)) Yd_) : gb5 ≠ gb0)); have n13_ := Aside0.mk ((by rw [hg]; exact Nat.ne_of_lt (Cf (g := gb1) (o := .cells #[.string t538, .string t539] 27 (0, 0)) Ye_) : gb1 ≠ gb5)); have n14_ := Aside0.mk ((by rw [hg]; exact Nat.ne_of_gt (Cf (g := gb1) (o := .cells #[.string t538, .string t539] 27 (0, 0)) Ye_) : gb5 ≠ gb1)); have n15_ := Aside0.mk ((by rw [hg]; exact Nat.ne_of_lt (Cf (g := gb2) (o := .cells #[.string t542, .string t543, .int .i64 t544] 31 (0, 0)) Ybc_) : gb2 ≠ gb5)); have n16_ := Aside0.mk ((by rw [hg]; exact Nat.ne_of_gt (Cf (g := gb2) (o := .cells #[.string t542, .string t543, .int .i64 t544] 31 (0, 0)) Ybc_) : gb5 ≠ gb2)); have n17_ := Aside0.mk ((by rw [hg]; exact Nat.ne_of_lt (Cf (g := gb3) (o := .cells #[.string t547, .string t548, .int .i64 t549] 31 (0, 0)) Yca_) : gb3 ≠ gb5)); have n18_ := Aside0.mk ((by rw [hg]; exact Nat.ne_of_gt (Cf (g := gb3) (o := .cells #[.string t547, .string t548, .int .i64 t549] 31 (0, 0)) Yca_) : gb5 ≠ gb3)); have n19_ := Aside0.mk ((by rw [hg]; exact Nat.ne_of_lt (Cf (g := gb4) (o := .cells #[.string t564, .string t565, .int .i64 t566] 31 (0, 0)) Yhb_) : gb4 ≠ gb5)); have n20_ := Aside0.mk ((by rw [hg]; exact Nat.ne_of_gt (Cf (g := gb4) (o := .cells #[.string t564, .string t565, .int .i64 t566] 31 (0, 0)) Yhb_) : gb5 ≠ gb4)); clear HO558; clear HO562; clear BK0; clear BK1; clear BK2; clear BK3; clear BK4; clear HB; have HO558 := n0_; have HO562 := n1_; have BK0 := n2_; have BK1 := n3_; have BK2 := n4_; have BK3 := n5_; have BK4 := n6_; have HB := n7_; have BK5 := n8_; have GW5 := n9_; have GE5 := n10_; have NB0_5 := n11_; have NB5_0 := n12_; have NB1_5 := n13_; have NB5_1 := n14_; have NB2_5 := n15_; have NB5_2 := n16_; have NB3_5 := n17_; have NB5_3 := n18_; have NB4_5 := n19_; have NB5_4 := n20_; clear n0_ n1_ n2_ n3_ n4_ n5_ n6_ n7_ n8_ n9_ n10_ n11_ n12_ n13_ n14_ n15_ n16_ n17_ n18_ n19_ n20_; clear hb hbox hg; have hnb76 := NB5_0.out; have hnc76 := NB0_5.out; have hnb77 := NB5_1.out; have hnc77 := NB1_5.out; have hnb78 := NB5_2.out; have hnc78 := NB2_5.out; have hnb79 := NB5_3.out; have hnc79 := NB3_5.out; have hnb80 := NB5_4.out; have hnc80 := NB4_5.out; have hcz81_0 : w75.cell? ⟨gb5, 0, none⟩ = some (.string (⟨#[]⟩ : ByteArray)) := (Ae BK5.out 0).trans rfl; have hcz81_1 : w75.cell? ⟨gb5, 1, none⟩ = some (.string (⟨#[]⟩ : ByteArray)) := (Ae BK5.out 1).trans rfl; have hcz81_2 : w75.cell? ⟨gb5, 2, none⟩ = some (.int .i64 0) := (Ae BK5.out 2).trans rfl; have hfz81_0 := Af BK5.out 0; have hfz81_1 := Af BK5.out 1; have hfz81_2 := Af BK5.out 2))
              (try simp only [Act.put, List.setIfInBounds_toArray, List.set_cons_zero, List.set_cons_succ])
              go_cut [106] (fun v106 wc => ∃ (kq : Nat) (x106_54 : Bool), v106 = .bool x106_54 ∧ Aside0 (Ap.j1 kq t556 t560 t567 t568 t573 x106_54 t538 t539 t542 t543 t544 t564 t565 t566 t570 t571 t572 = some r) ∧ Aside0 (kq ≤ kj6) ∧ Aside0 (Kd.R k27 27 wc w.heap.size (fun k_ => some k_ ≠ (v561 : Value).ownBlock ∧ k_ ≠ gb1) v557 t556) ∧ Aside0 (Kd.R k27 27 wc w.heap.size (fun k_ => some k_ ≠ (v557 : Value).ownBlock ∧ k_ ≠ gb1) v561 t560) ∧ Aside0 (wc.heap[gb0]? = some (.cells #[.string t535, .string t536, .int .i64 t537] 31 (0, 0))) ∧ Aside0 (wc.heap[gb1]? = some (.cells #[.string t538, .string t539] 27 (0, 0))) ∧ Aside0 (wc.heap[gb2]? = some (.cells #[.string t542, .string t543, .int .i64 t544] 31 (0, 0))) ∧ Aside0 (wc.heap[gb3]? = some (.cells #[.string t547, .string t548, .int .i64 t549] 31 (0, 0))) ∧ Aside0 (wc.heap[gb4]? = some (.cells #[.string t564, .string t565, .int .i64 t566] 31 (0, 0))) ∧ Aside0 (wc.heap[gb5]? = some (.cells #[.string t570, .string t571, .int .i64 t572] 31 (0, 0))) ∧ Aside0 (Below w.heap.size w wc))
              case first =>
                have H := HC55.out
                clear HC55
                by_cases c82 : t559 = true
                · subst c82
                  have H1 : (if (t556.length : Int) = (wrap64 ((t560.length : Int) + 1)) then (Ap.j1 kj6 t556 t560 t567 t568 t573 (t544 != (t556.length : Int)) t538 t539 t542 t543 t544 t564 t565 t566 t570 t571 t572) else (Ap.j1 kj6 t556 t560 t567 t568 t573 true t538 t539 t542 t543 t544 t564 t565 t566 t570 t571 t572)) = some r := by rw [if_pos rfl] at H; exact H
                  clear H
                  have H := H1
                  clear H1
                  by_cases c83 : (t556.length : Int) = (wrap64 ((t560.length : Int) + 1))
                  · rw [if_pos c83] at H
                    have c83b0 : ((t556.length : Int) == (wrap64 ((t560.length : Int) + 1))) = true := beq_iff_eq.mpr c83
                    have c83b1 : ((t556.length : Int) != (wrap64 ((t560.length : Int) + 1))) = false := bne_eq_false_iff_eq.mpr c83
                    clear c83
                    (first | rw [c83b0] | (simp only [Aw, Az]; rw [c83b0]) | skip)
                    have H' := Aside0.mk H
                    clear H
                    obtain ⟨Ao84, co84, eo84⟩ := Kd.Eu HO558.out
                    subst eo84
                    obtain ⟨Ao85, co85, eo85⟩ := Kd.Eu HO562.out
                    subst eo85
                    have hnb86 := NB2_0.out
                    have hnc86 := NB0_2.out
                    have hnb87 := NB2_1.out
                    have hnc87 := NB1_2.out
                    have hnb88 := NB2_3.out
                    have hnc88 := NB3_2.out
                    have hnb89 := NB2_4.out
                    have hnc89 := NB4_2.out
                    have hnb90 := NB2_5.out
                    have hnc90 := NB5_2.out
                    have hcz91_0 : w75.cell? ⟨gb2, 0, none⟩ = some (.string t542) := (Ae BK2.out 0).trans rfl
                    have hcz91_1 : w75.cell? ⟨gb2, 1, none⟩ = some (.string t543) := (Ae BK2.out 1).trans rfl
                    have hcz91_2 : w75.cell? ⟨gb2, 2, none⟩ = some (.int .i64 t544) := (Ae BK2.out 2).trans rfl
                    have hfz91_0 := Af BK2.out 0
                    have hfz91_1 := Af BK2.out 1
                    have hfz91_2 := Af BK2.out 2
                    go_wp2
                    go_meet
                    case rel => exact ⟨_, ((t544 != (t556.length : Int))), Ybe_, H', ⟨by have := HJ6.out; first | omega | exact Nat.le_refl _⟩, ⟨by (with_reducible repeat (first | apply Kd.Bo | apply Kd.Bl | apply Kd.Cb)); exact Kd.D5 (Kd.Et (p := ⟨gb5, 2, none⟩) (Kd.Et (p := ⟨gb5, 1, none⟩) (Kd.Et (p := ⟨gb5, 0, none⟩) (Kd.Gg HO558.out BK5.out (by decide)) (fun _ hk => hk.2) (.string t570)) (fun _ hk => hk.2) (.string t571)) (fun _ hk => hk.2) (.int .i64 t572)) (fun _ hk => ⟨hk.1.2, hk.1.1.2⟩)⟩, ⟨by (with_reducible repeat (first | apply Kd.Bo | apply Kd.Bl | apply Kd.Cb)); exact Kd.D5 (Kd.Et (p := ⟨gb5, 2, none⟩) (Kd.Et (p := ⟨gb5, 1, none⟩) (Kd.Et (p := ⟨gb5, 0, none⟩) (Kd.Gg HO562.out BK5.out (by decide)) (fun _ hk => hk.2) (.string t570)) (fun _ hk => hk.2) (.string t571)) (fun _ hk => hk.2) (.int .i64 t572)) (fun _ hk => ⟨hk.1.1.2, hk.1.2⟩)⟩, ⟨by (with_reducible repeat (first | refine Aa ?_ _ | refine Ad ?_ | refine Ac ?_ _)); refine Aq ?_ NB0_5.out _; (with_reducible repeat (first | refine Aa ?_ _ | refine Ad ?_ | refine Ac ?_ _)); refine Aq ?_ NB0_5.out _; (with_reducible repeat (first | refine Aa ?_ _ | refine Ad ?_ | refine Ac ?_ _)); refine Aq ?_ NB0_5.out _; (with_reducible repeat (first | refine Aa ?_ _ | refine Ad ?_ | refine Ac ?_ _)); exact BK0.out⟩, ⟨by (with_reducible repeat (first | refine Aa ?_ _ | refine Ad ?_ | refine Ac ?_ _)); refine Aq ?_ NB1_5.out _; (with_reducible repeat (first | refine Aa ?_ _ | refine Ad ?_ | refine Ac ?_ _)); refine Aq ?_ NB1_5.out _; (with_reducible repeat (first | refine Aa ?_ _ | refine Ad ?_ | refine Ac ?_ _)); refine Aq ?_ NB1_5.out _; (with_reducible repeat (first | refine Aa ?_ _ | refine Ad ?_ | refine Ac ?_ _)); exact BK1.out⟩, ⟨by (with_reducible repeat (first | refine Aa ?_ _ | refine Ad ?_ | refine Ac ?_ _)); refine Aq ?_ NB2_5.out _; (with_reducible repeat (first | refine Aa ?_ _ | refine Ad ?_ | refine Ac ?_ _)); refine Aq ?_ NB2_5.out _; (with_reducible repeat (first | refine Aa ?_ _ | refine Ad ?_ | refine Ac ?_ _)); refine Aq ?_ NB2_5.out _; (with_reducible repeat (first | refine Aa ?_ _ | refine Ad ?_ | refine Ac ?_ _)); exact BK2.out⟩, ⟨by (with_reducible repeat (first | refine Aa ?_ _ | refine Ad ?_ | refine Ac ?_ _)); refine Aq ?_ NB3_5.out _; (with_reducible repeat (first | refine Aa ?_ _ | refine Ad ?_ | refine Ac ?_ _)); refine Aq ?_ NB3_5.out _; (with_reducible repeat (first | refine Aa ?_ _ | refine Ad ?_ | refine Ac ?_ _)); refine Aq ?_ NB3_5.out _; (with_reducible repeat (first | refine Aa ?_ _ | refine Ad ?_ | refine Ac ?_ _)); exact BK3.out⟩, ⟨by (with_reducible repeat (first | refine Aa ?_ _ | refine Ad ?_ | refine Ac ?_ _)); refine Aq ?_ NB4_5.out _; (with_reducible repeat (first | refine Aa ?_ _ | refine Ad ?_ | refine Ac ?_ _)); refine Aq ?_ NB4_5.out _; (with_reducible repeat (first | refine Aa ?_ _ | refine Ad ?_ | refine Ac ?_ _)); refine Aq ?_ NB4_5.out _; (with_reducible repeat (first | refine Aa ?_ _ | refine Ad ?_ | refine Ac ?_ _)); exact BK4.out⟩, ⟨by (with_reducible repeat (first | refine Aa ?_ _ | refine Ad ?_ | refine Ac ?_ _)); refine Ar (cs := #[.string t570, .string t571, .int .i64 0]) ?_ 2 _ rfl; (with_reducible repeat (first | refine Aa ?_ _ | refine Ad ?_ | refine Ac ?_ _)); refine Ar (cs := #[.string t570, .string (⟨#[]⟩ : ByteArray), .int .i64 0]) ?_ 1 _ rfl; (with_reducible repeat (first | refine Aa ?_ _ | refine Ad ?_ | refine Ac ?_ _)); refine Ar (cs := #[.string (⟨#[]⟩ : ByteArray), .string (⟨#[]⟩ : ByteArray), .int .i64 0]) ?_ 0 _ rfl; (with_reducible repeat (first | refine Aa ?_ _ | refine Ad ?_ | refine Ac ?_ _)); exact BK5.out⟩, ⟨by repeat (first | (with_reducible first | exact HB.out | apply below_alloc | apply pw_below_drewN | apply below_drew1 | refine below_set ?_ GE0.out | refine below_set ?_ GE1.out | refine below_set ?_ GE2.out | refine below_set ?_ GE3.out | refine below_set ?_ GE4.out | refine below_set ?_ GE5.out) | exact HB.out)⟩⟩
                  · rw [if_neg c83] at H
                    have c83b0 : ((t556.length : Int) == (wrap64 ((t560.length : Int) + 1))) = false := beq_eq_false_iff_ne.mpr c83
                    have c83b1 : ((t556.length : Int) != (wrap64 ((t560.length : Int) + 1))) = true := bne_iff_ne.mpr c83
                    (first | rw [c83b0] | (simp only [Aw, Az]; rw [c83b0]) | skip)
                    have H' := Aside0.mk H
                    clear H
                    obtain ⟨Ao92, co92, eo92⟩ := Kd.Eu HO558.out
                    subst eo92
                    obtain ⟨Ao93, co93, eo93⟩ := Kd.Eu HO562.out
                    subst eo93
                    go_wp2
                    go_meet
                    case rel => exact ⟨_, (true), Ybe_, H', ⟨by have := HJ6.out; first | omega | exact Nat.le_refl _⟩, ⟨by (with_reducible repeat (first | apply Kd.Bo | apply Kd.Bl | apply Kd.Cb)); exact Kd.D5 (Kd.Et (p := ⟨gb5, 2, none⟩) (Kd.Et (p := ⟨gb5, 1, none⟩) (Kd.Et (p := ⟨gb5, 0, none⟩) (Kd.Gg HO558.out BK5.out (by decide)) (fun _ hk => hk.2) (.string t570)) (fun _ hk => hk.2) (.string t571)) (fun _ hk => hk.2) (.int .i64 t572)) (fun _ hk => ⟨hk.1.2, hk.1.1.2⟩)⟩, ⟨by (with_reducible repeat (first | apply Kd.Bo | apply Kd.Bl | apply Kd.Cb)); exact Kd.D5 (Kd.Et (p := ⟨gb5, 2, none⟩) (Kd.Et (p := ⟨gb5, 1, none⟩) (Kd.Et (p := ⟨gb5, 0, none⟩) (Kd.Gg HO562.out BK5.out (by decide)) (fun _ hk => hk.2) (.string t570)) (fun _ hk => hk.2) (.string t571)) (fun _ hk => hk.2) (.int .i64 t572)) (fun _ hk => ⟨hk.1.1.2, hk.1.2⟩)⟩, ⟨by (with_reducible repeat (first | refine Aa ?_ _ | refine Ad ?_ | refine Ac ?_ _)); refine Aq ?_ NB0_5.out _; (with_reducible repeat (first | refine Aa ?_ _ | refine Ad ?_ | refine Ac ?_ _)); refine Aq ?_ NB0_5.out _; (with_reducible repeat (first | refine Aa ?_ _ | refine Ad ?_ | refine Ac ?_ _)); refine Aq ?_ NB0_5.out _; (with_reducible repeat (first | refine Aa ?_ _ | refine Ad ?_ | refine Ac ?_ _)); exact BK0.out⟩, ⟨by (with_reducible repeat (first | refine Aa ?_ _ | refine Ad ?_ | refine Ac ?_ _)); refine Aq ?_ NB1_5.out _; (with_reducible repeat (first | refine Aa ?_ _ | refine Ad ?_ | refine Ac ?_ _)); refine Aq ?_ NB1_5.out _; (with_reducible repeat (first | refine Aa ?_ _ | refine Ad ?_ | refine Ac ?_ _)); refine Aq ?_ NB1_5.out _; (with_reducible repeat (first | refine Aa ?_ _ | refine Ad ?_ | refine Ac ?_ _)); exact BK1.out⟩, ⟨by (with_reducible repeat (first | refine Aa ?_ _ | refine Ad ?_ | refine Ac ?_ _)); refine Aq ?_ NB2_5.out _; (with_reducible repeat (first | refine Aa ?_ _ | refine Ad ?_ | refine Ac ?_ _)); refine Aq ?_ NB2_5.out _; (with_reducible repeat (first | refine Aa ?_ _ | refine Ad ?_ | refine Ac ?_ _)); refine Aq ?_ NB2_5.out _; (with_reducible repeat (first | refine Aa ?_ _ | refine Ad ?_ | refine Ac ?_ _)); exact BK2.out⟩, ⟨by (with_reducible repeat (first | refine Aa ?_ _ | refine Ad ?_ | refine Ac ?_ _)); refine Aq ?_ NB3_5.out _; (with_reducible repeat (first | refine Aa ?_ _ | refine Ad ?_ | refine Ac ?_ _)); refine Aq ?_ NB3_5.out _; (with_reducible repeat (first | refine Aa ?_ _ | refine Ad ?_ | refine Ac ?_ _)); refine Aq ?_ NB3_5.out _; (with_reducible repeat (first | refine Aa ?_ _ | refine Ad ?_ | refine Ac ?_ _)); exact BK3.out⟩, ⟨by (with_reducible repeat (first | refine Aa ?_ _ | refine Ad ?_ | refine Ac ?_ _)); refine Aq ?_ NB4_5.out _; (with_reducible repeat (first | refine Aa ?_ _ | refine Ad ?_ | refine Ac ?_ _)); refine Aq ?_ NB4_5.out _; (with_reducible repeat (first | refine Aa ?_ _ | refine Ad ?_ | refine Ac ?_ _)); refine Aq ?_ NB4_5.out _; (with_reducible repeat (first | refine Aa ?_ _ | refine Ad ?_ | refine Ac ?_ _)); exact BK4.out⟩, ⟨by (with_reducible repeat (first | refine Aa ?_ _ | refine Ad ?_ | refine Ac ?_ _)); refine Ar (cs := #[.string t570, .string t571, .int .i64 0]) ?_ 2 _ rfl; (with_reducible repeat (first | refine Aa ?_ _ | refine Ad ?_ | refine Ac ?_ _)); refine Ar (cs := #[.string t570, .string (⟨#[]⟩ : ByteArray), .int .i64 0]) ?_ 1 _ rfl; (with_reducible repeat (first | refine Aa ?_ _ | refine Ad ?_ | refine Ac ?_ _)); refine Ar (cs := #[.string (⟨#[]⟩ : ByteArray), .string (⟨#[]⟩ : ByteArray), .int .i64 0]) ?_ 0 _ rfl; (with_reducible repeat (first | refine Aa ?_ _ | refine Ad ?_ | refine Ac ?_ _)); exact BK5.out⟩, ⟨by repeat (first | (with_reducible first | exact HB.out | apply below_alloc | apply pw_below_drewN | apply below_drew1 | refine below_set ?_ GE0.out | refine below_set ?_ GE1.out | refine below_set ?_ GE2.out | refine below_set ?_ GE3.out | refine below_set ?_ GE4.out | refine below_set ?_ GE5.out) | exact HB.out)⟩⟩
                · replace c82 := Bool.eq_false_iff.mpr c82
                  subst c82
                  have H1 : (Ap.j1 kj6 t556 t560 t567 t568 t573 true t538 t539 t542 t543 t544 t564 t565 t566 t570 t571 t572) = some r := by rw [if_neg (show ¬ (false = true) by decide)] at H; exact H
                  clear H
                  have H := H1
                  clear H1
                  have H' := Aside0.mk H
                  clear H
                  go_wp2
                  go_meet
                  case rel => exact ⟨_, (true), Ybe_, H', ⟨by have := HJ6.out; first | omega | exact Nat.le_refl _⟩, ⟨by (with_reducible repeat (first | apply Kd.Bo | apply Kd.Bl | apply Kd.Cb)); exact Kd.D5 (Kd.Et (p := ⟨gb5, 2, none⟩) (Kd.Et (p := ⟨gb5, 1, none⟩) (Kd.Et (p := ⟨gb5, 0, none⟩) (Kd.Gg HO558.out BK5.out (by decide)) (fun _ hk => hk.2) (.string t570)) (fun _ hk => hk.2) (.string t571)) (fun _ hk => hk.2) (.int .i64 t572)) (fun _ hk => ⟨hk.1.2, hk.1.1.2⟩)⟩, ⟨by (with_reducible repeat (first | apply Kd.Bo | apply Kd.Bl | apply Kd.Cb)); exact Kd.D5 (Kd.Et (p := ⟨gb5, 2, none⟩) (Kd.Et (p := ⟨gb5, 1, none⟩) (Kd.Et (p := ⟨gb5, 0, none⟩) (Kd.Gg HO562.out BK5.out (by decide)) (fun _ hk => hk.2) (.string t570)) (fun _ hk => hk.2) (.string t571)) (fun _ hk => hk.2) (.int .i64 t572)) (fun _ hk => ⟨hk.1.1.2, hk.1.2⟩)⟩, ⟨by (with_reducible repeat (first | refine Aa ?_ _ | refine Ad ?_ | refine Ac ?_ _)); refine Aq ?_ NB0_5.out _; (with_reducible repeat (first | refine Aa ?_ _ | refine Ad ?_ | refine Ac ?_ _)); refine Aq ?_ NB0_5.out _; (with_reducible repeat (first | refine Aa ?_ _ | refine Ad ?_ | refine Ac ?_ _)); refine Aq ?_ NB0_5.out _; (with_reducible repeat (first | refine Aa ?_ _ | refine Ad ?_ | refine Ac ?_ _)); exact BK0.out⟩, ⟨by (with_reducible repeat (first | refine Aa ?_ _ | refine Ad ?_ | refine Ac ?_ _)); refine Aq ?_ NB1_5.out _; (with_reducible repeat (first | refine Aa ?_ _ | refine Ad ?_ | refine Ac ?_ _)); refine Aq ?_ NB1_5.out _; (with_reducible repeat (first | refine Aa ?_ _ | refine Ad ?_ | refine Ac ?_ _)); refine Aq ?_ NB1_5.out _; (with_reducible repeat (first | refine Aa ?_ _ | refine Ad ?_ | refine Ac ?_ _)); exact BK1.out⟩, ⟨by (with_reducible repeat (first | refine Aa ?_ _ | refine Ad ?_ | refine Ac ?_ _)); refine Aq ?_ NB2_5.out _; (with_reducible repeat (first | refine Aa ?_ _ | refine Ad ?_ | refine Ac ?_ _)); refine Aq ?_ NB2_5.out _; (with_reducible repeat (first | refine Aa ?_ _ | refine Ad ?_ | refine Ac ?_ _)); refine Aq ?_ NB2_5.out _; (with_reducible repeat (first | refine Aa ?_ _ | refine Ad ?_ | refine Ac ?_ _)); exact BK2.out⟩, ⟨by (with_reducible repeat (first | refine Aa ?_ _ | refine Ad ?_ | refine Ac ?_ _)); refine Aq ?_ NB3_5.out _; (with_reducible repeat (first | refine Aa ?_ _ | refine Ad ?_ | refine Ac ?_ _)); refine Aq ?_ NB3_5.out _; (with_reducible repeat (first | refine Aa ?_ _ | refine Ad ?_ | refine Ac ?_ _)); refine Aq ?_ NB3_5.out _; (with_reducible repeat (first | refine Aa ?_ _ | refine Ad ?_ | refine Ac ?_ _)); exact BK3.out⟩, ⟨by (with_reducible repeat (first | refine Aa ?_ _ | refine Ad ?_ | refine Ac ?_ _)); refine Aq ?_ NB4_5.out _; (with_reducible repeat (first | refine Aa ?_ _ | refine Ad ?_ | refine Ac ?_ _)); refine Aq ?_ NB4_5.out _; (with_reducible repeat (first | refine Aa ?_ _ | refine Ad ?_ | refine Ac ?_ _)); refine Aq ?_ NB4_5.out _; (with_reducible repeat (first | refine Aa ?_ _ | refine Ad ?_ | refine Ac ?_ _)); exact BK4.out⟩, ⟨by (with_reducible repeat (first | refine Aa ?_ _ | refine Ad ?_ | refine Ac ?_ _)); refine Ar (cs := #[.string t570, .string t571, .int .i64 0]) ?_ 2 _ rfl; (with_reducible repeat (first | refine Aa ?_ _ | refine Ad ?_ | refine Ac ?_ _)); refine Ar (cs := #[.string t570, .string (⟨#[]⟩ : ByteArray), .int .i64 0]) ?_ 1 _ rfl; (with_reducible repeat (first | refine Aa ?_ _ | refine Ad ?_ | refine Ac ?_ _)); refine Ar (cs := #[.string (⟨#[]⟩ : ByteArray), .string (⟨#[]⟩ : ByteArray), .int .i64 0]) ?_ 0 _ rfl; (with_reducible repeat (first | refine Aa ?_ _ | refine Ad ?_ | refine Ac ?_ _)); exact BK5.out⟩, ⟨by repeat (first | (with_reducible first | exact HB.out | apply below_alloc | apply pw_below_drewN | apply below_drew1 | refine below_set ?_ GE0.out | refine below_set ?_ GE1.out | refine below_set ?_ GE2.out | refine below_set ?_ GE3.out | refine below_set ?_ GE4.out | refine below_set ?_ GE5.out) | exact HB.out)⟩⟩
              case rest =>
                clear HC55
                try clear c1
                try clear c2
                try clear p2
                try clear c3
                try clear c4
                try clear c5
                try clear c6
                try clear p6
                try clear c7
                try clear c8
                try clear c9
                try clear c18
                try clear c21
                try clear c23
                try clear c27
                try clear c30
                try clear c30b0
                try clear c30b1
                try clear c31
                try clear c33
                try clear c33b0
                try clear c33b1
                try clear c33b2
                try clear c37
                try clear c38
                try clear c48
                try clear c49
                try clear c49b0
                try clear c49b1
                try clear c52
                try clear c52b0
                try clear c52b1
                try clear c52b2
                try clear c56
                try clear c57
                try clear c58
                try clear c61
                try clear c62
                try clear p64
                try clear c68
                try clear c69
                try clear c70
                try clear c71
                try clear c76
                try clear c77
                try clear c78
                try clear c79
                try clear c80
                try clear c82
                try clear c83
                try clear c83b0
                try clear c83b1
                try clear c86
                try clear c87
                try clear c88
                try clear c89
                try clear c90
                try clear hcz59_0
                try clear hcz59_1
                try clear hcz59_2
                try clear hcz63_0
                try clear hcz63_1
                try clear hcz63_2
                try clear hcz65_0
                try clear hcz65_1
                try clear hcz65_2
                try clear hcz72_0
                try clear hcz72_1
                try clear hcz72_2
                try clear hcz73_0
                try clear hcz73_1
                try clear hcz73_2
                try clear hcz81_0
                try clear hcz81_1
                try clear hcz81_2
                try clear hcz91_0
                try clear hcz91_1
                try clear hcz91_2
                try clear hfz59_0
                try clear hfz59_1
                try clear hfz59_2
                try clear hfz63_0
                try clear hfz63_1
                try clear hfz63_2
                try clear hfz65_0
                try clear hfz65_1
                try clear hfz65_2
                try clear hfz72_0
                try clear hfz72_1
                try clear hfz72_2
                try clear hfz73_0
                try clear hfz73_1
                try clear hfz73_2
                try clear hfz81_0
                try clear hfz81_1
                try clear hfz81_2
                try clear hfz91_0
                try clear hfz91_1
                try clear hfz91_2
                try clear p2
                obtain ⟨kq, x106_54, rfl, HA, HJ54, HO_9, HO_11, BK0, BK1, BK2, BK3, BK4, BK5, HB⟩ := hcut
                cases kq with
                | zero => exact absurd HA.out (by simp [Ap.j1])
                | succ kj54 =>
                  have H := HA.out
                  clear HA
                  simp only [Ap.j1] at H
                  by_cases c94 : x106_54 = true
                  · subst c94
                    have H1 : (some false) = some r := by rw [if_pos rfl] at H; exact H
                    clear H
                    have H := H1
                    clear H1
                    exact absurd (Option.some.inj H) (by rw [HR_.out]; decide)
                  · replace c94 := Bool.eq_false_iff.mpr c94
                    subst c94
                    have H1 : (Ap.l0 kj54 t556 t560 t567 t568 t573 0 t538 t539 t542 t543 t544 t564 t565 t566 t570 t571 t572) = some r := by rw [if_neg (show ¬ (false = true) by decide)] at H; exact H
                    clear H
                    have H := H1
                    clear H1
                    have H' := Aside0.mk H
                    clear H
                    go_wp2
                    go_loopg [18] kj54 (fun kq v18 w' => ∃ (x18_3 : Int), v18 = .int .i64 x18_3 ∧ Aside0 (Ap.l0 kq t556 t560 t567 t568 t573 x18_3 t538 t539 t542 t543 t544 t564 t565 t566 t570 t571 t572 = some r) ∧ Aside0 (kq ≤ kj54) ∧ Aside0 (Kd.R k27 27 w' w.heap.size (fun k_ => some k_ ≠ (v561 : Value).ownBlock ∧ k_ ≠ gb1) v557 t556) ∧ Aside0 (Kd.R k27 27 w' w.heap.size (fun k_ => some k_ ≠ (v557 : Value).ownBlock ∧ k_ ≠ gb1) v561 t560) ∧ Aside0 (w'.heap[gb0]? = some (.cells #[.string t535, .string t536, .int .i64 t537] 31 (0, 0))) ∧ Aside0 (w'.heap[gb1]? = some (.cells #[.string t538, .string t539] 27 (0, 0))) ∧ Aside0 (w'.heap[gb2]? = some (.cells #[.string t542, .string t543, .int .i64 t544] 31 (0, 0))) ∧ Aside0 (w'.heap[gb3]? = some (.cells #[.string t547, .string t548, .int .i64 t549] 31 (0, 0))) ∧ Aside0 (w'.heap[gb4]? = some (.cells #[.string t564, .string t565, .int .i64 t566] 31 (0, 0))) ∧ Aside0 (w'.heap[gb5]? = some (.cells #[.string t570, .string t571, .int .i64 t572] 31 (0, 0))) ∧ Aside0 (Below w.heap.size w w'))
                    case atStart => exact ⟨(0), Ybe_, H', ⟨Nat.le_refl _⟩, ⟨by (with_reducible repeat (first | apply Kd.Bo | apply Kd.Bl | apply Kd.Cb)); exact HO_9.out⟩, ⟨by (with_reducible repeat (first | apply Kd.Bo | apply Kd.Bl | apply Kd.Cb)); exact HO_11.out⟩, ⟨by (with_reducible repeat (first | refine Aa ?_ _ | refine Ad ?_ | refine Ac ?_ _)); exact BK0.out⟩, ⟨by (with_reducible repeat (first | refine Aa ?_ _ | refine Ad ?_ | refine Ac ?_ _)); exact BK1.out⟩, ⟨by (with_reducible repeat (first | refine Aa ?_ _ | refine Ad ?_ | refine Ac ?_ _)); exact BK2.out⟩, ⟨by (with_reducible repeat (first | refine Aa ?_ _ | refine Ad ?_ | refine Ac ?_ _)); exact BK3.out⟩, ⟨by (with_reducible repeat (first | refine Aa ?_ _ | refine Ad ?_ | refine Ac ?_ _)); exact BK4.out⟩, ⟨by (with_reducible repeat (first | refine Aa ?_ _ | refine Ad ?_ | refine Ac ?_ _)); exact BK5.out⟩, ⟨by repeat (first | (with_reducible first | exact HB.out | apply below_alloc | apply pw_below_drewN | apply below_drew1 | refine below_set ?_ GE0.out | refine below_set ?_ GE1.out | refine below_set ?_ GE2.out | refine below_set ?_ GE3.out | refine below_set ?_ GE4.out | refine below_set ?_ GE5.out) | exact HB.out)⟩⟩
                    case round =>
                      clear H'
                      try clear c1
                      try clear c2
                      try clear p2
                      try clear c3
                      try clear c4
                      try clear c5
                      try clear c6
                      try clear p6
                      try clear c7
                      try clear c8
                      try clear c9
                      try clear c18
                      try clear c21
                      try clear c23
                      try clear c27
                      try clear c30
                      try clear c30b0
                      try clear c30b1
                      try clear c31
                      try clear c33
                      try clear c33b0
                      try clear c33b1
                      try clear c33b2
                      try clear c37
                      try clear c38
                      try clear c48
                      try clear c49
                      try clear c49b0
                      try clear c49b1
                      try clear c52
                      try clear c52b0
                      try clear c52b1
                      try clear c52b2
                      try clear c56
                      try clear c57
                      try clear c58
                      try clear c61
                      try clear c62
                      try clear p64
                      try clear c68
                      try clear c69
                      try clear c70
                      try clear c71
                      try clear c76
                      try clear c77
                      try clear c78
                      try clear c79
                      try clear c80
                      try clear c82
                      try clear c83
                      try clear c83b0
                      try clear c83b1
                      try clear c86
                      try clear c87
                      try clear c88
                      try clear c89
                      try clear c90
                      try clear c94
                      try clear hcz59_0
                      try clear hcz59_1
                      try clear hcz59_2
                      try clear hcz63_0
                      try clear hcz63_1
                      try clear hcz63_2
                      try clear hcz65_0
                      try clear hcz65_1
                      try clear hcz65_2
                      try clear hcz72_0
                      try clear hcz72_1
                      try clear hcz72_2
                      try clear hcz73_0
                      try clear hcz73_1
                      try clear hcz73_2
                      try clear hcz81_0
                      try clear hcz81_1
                      try clear hcz81_2
                      try clear hcz91_0
                      try clear hcz91_1
                      try clear hcz91_2
                      try clear hfz59_0
                      try clear hfz59_1
                      try clear hfz59_2
                      try clear hfz63_0
                      try clear hfz63_1
                      try clear hfz63_2
                      try clear hfz65_0
                      try clear hfz65_1
                      try clear hfz65_2
                      try clear hfz72_0
                      try clear hfz72_1
                      try clear hfz72_2
                      try clear hfz73_0
                      try clear hfz73_1
                      try clear hfz73_2
                      try clear hfz81_0
                      try clear hfz81_1
                      try clear hfz81_2
                      try clear hfz91_0
                      try clear hfz91_1
                      try clear hfz91_2
                      try clear p2
                      try clear p6
                      try clear p64
                      obtain ⟨x18_3, rfl, HA, HK3, HO_9, HO_11, BK0, BK1, BK2, BK3, BK4, BK5, HB⟩ := hrel
                      cases gk with
                      | zero => exact absurd HA.out (by simp [Ap.l0])
                      | succ k3 =>
                        have H := HA.out
                        clear HA
                        simp only [Ap.l0] at H
                        by_cases c95 : x18_3 < (t560.length : Int)
                        · rw [if_pos c95] at H
                          have c95b0 : decide (x18_3 < (t560.length : Int)) = true := decide_eq_true c95
                          clear c95
                          by_cases c96 : 0 ≤ x18_3
                          · rw [if_pos c96] at H
                            have c96b0 : decide (0 ≤ x18_3) = true := decide_eq_true c96
                            clear c96
                            by_cases c97 : x18_3 < (t556.length : Int)
                            · rw [if_pos c97] at H
                              have c97b0 : decide (x18_3 < (t556.length : Int)) = true := decide_eq_true c97
                              clear c97
                              by_cases c98 : (!((((rd_T27 t556 x18_3).f0).toList) == (((rd_T27 t560 x18_3).f0).toList)) || (!((((rd_T27 t556 x18_3).f1).toList) == (((rd_T27 t560 x18_3).f1).toList)))) = true
                              · rw [if_pos c98] at H
                                have c98b0 : (!((((rd_T27 t556 x18_3).f0).toList) == (((rd_T27 t560 x18_3).f0).toList)) || (!((((rd_T27 t556 x18_3).f1).toList) == (((rd_T27 t560 x18_3).f1).toList)))) = true := c98
                                clear c98
                                exact absurd (Option.some.inj H) (by rw [HR_.out]; decide)
                              · rw [if_neg c98] at H
                                have c98b0 : (!((((rd_T27 t556 x18_3).f0).toList) == (((rd_T27 t560 x18_3).f0).toList)) || (!((((rd_T27 t556 x18_3).f1).toList) == (((rd_T27 t560 x18_3).f1).toList)))) = false := by simpa using c98
                                clear c98
                                have H' := Aside0.mk H
                                clear H
                                obtain ⟨Ao102, co102, eo102⟩ := Kd.Eu HO_11.out
                                subst eo102
                                try go_wp2
                                have n0_ := Aside0.mk (Kd.Cb HO_9.out)
                                have n1_ := Aside0.mk (Kd.Cb HO_11.out)
                                have n2_ := Aside0.mk (Ad BK0.out)
                                have n3_ := Aside0.mk (Ad BK1.out)
                                have n4_ := Aside0.mk (Ad BK2.out)
                                have n5_ := Aside0.mk (Ad BK3.out)
                                have n6_ := Aside0.mk (Ad BK4.out)
                                have n7_ := Aside0.mk (Ad BK5.out)
                                have n8_ := Aside0.mk (below_drew1 HB.out)
                                clear HO_9
                                clear HO_11
                                clear BK0
                                clear BK1
                                clear BK2
                                clear BK3
                                clear BK4
                                clear BK5
                                clear HB
                                have HO_9 := n0_
                                have HO_11 := n1_
                                have BK0 := n2_
                                have BK1 := n3_
                                have BK2 := n4_
                                have BK3 := n5_
                                have BK4 := n6_
                                have BK5 := n7_
                                have HB := n8_
                                clear n0_ n1_ n2_ n3_ n4_ n5_ n6_ n7_ n8_
                                obtain ⟨Ao104, co104, eo104⟩ := Kd.Eu HO_9.out
                                (first | subst eo104 | (injection eo104 with f1_ f2_ f3_; have f4_ := f1_.symm; have f5_ := f3_.symm; clear f1_ f2_ f3_; subst f4_; subst f5_))
                                have p575 : 0 ≤ (x18_3 : Int) := of_decide_eq_true Yba_
                                have q575 : x18_3 < (t556.length : Int) := of_decide_eq_true Yba_
                                obtain ⟨ad575, e575, hx575_0, hx575_1⟩ := at_T27 (Kd.Ez HO_9.out).2.2 x18_3 p575 q575
                                cases e575
                                replace p575 := eq_true p575
                                replace q575 := eq_true q575
                                have p576 : 0 ≤ (x18_3 : Int) := of_decide_eq_true Yba_
                                have q576 : x18_3 < (t560.length : Int) := of_decide_eq_true Yba_
                                obtain ⟨ad576, e576, hx576_0, hx576_1⟩ := at_T27 (Kd.Ez HO_11.out).2.2 x18_3 p576 q576
                                cases e576
                                replace p576 := eq_true p576
                                replace q576 := eq_true q576
                                refine G5 (n := 9) (S := fun w' => w'.cell? (ad575.add ((x18_3).toNat * 2)) = some (.string ((rd_T27 t556 x18_3).f0)) ∧ w'.cell? ⟨(ad575.add ((x18_3).toNat * 2)).block, (ad575.add ((x18_3).toNat * 2)).off + 1, none⟩ = some (.string ((rd_T27 t556 x18_3).f1)) ∧ w'.cell? (ad576.add ((x18_3).toNat * 2)) = some (.string ((rd_T27 t560 x18_3).f0)) ∧ w'.cell? ⟨(ad576.add ((x18_3).toNat * 2)).block, (ad576.add ((x18_3).toNat * 2)).off + 1, none⟩ = some (.string ((rd_T27 t560 x18_3).f1))) (ds := []) #[false, false, false, false, false, false, false, false, false] (by kernel_rfl) rfl rfl ⟨hx575_0, hx575_1, hx576_0, hx576_1⟩ (fun hHeld => ?_); refine Gf Ap.tab19 Ap.bits19 (fun HT_ HW_ => ?_)
                                generalize wr.drew = w103 at HO_9 HO_11 BK0 BK1 BK2 BK3 BK4 BK5 HB hx575_0 hx575_1 hx576_0 hx576_1 hHeld ⊢
                                refine Bz (i := 0) (N := some 113) (v := ?_) (a' := ?_) #[true, false, false, false, false, false, false, false, false] rfl rfl (Bf HT_.out (by kernel_rfl)) (fun _ _ _ h => h) (Or.inl ⟨by rfl, ?_⟩) ?_ ?_
                                rotate_left
                                · intro w'
                                  go_simp
                                  with_reducible rfl
                                rotate_left
                                · simp only [Act.put, List.setIfInBounds_toArray, List.set_cons_zero, List.set_cons_succ, Aw, Az]
                                  rfl
                                refine Bz (i := 1) (N := some 114) (v := ?_) (a' := ?_) #[true, true, false, false, false, false, false, false, false] rfl rfl (Bf HT_.out (by kernel_rfl)) (fun _ _ _ h => h) (Or.inl ⟨by rfl, ?_⟩) ?_ ?_
                                rotate_left
                                · intro w'
                                  go_simp
                                  with_reducible rfl
                                rotate_left
                                · simp only [Act.put, List.setIfInBounds_toArray, List.set_cons_zero, List.set_cons_succ, Aw, Az]
                                  rfl
                                refine Bz (i := 2) (N := some 115) (v := ?_) (a' := ?_) #[true, true, true, false, false, false, false, false, false] rfl rfl (Bf HT_.out (by kernel_rfl)) (fun _ _ _ h => h) (Or.inl ⟨by rfl, ?_⟩) ?_ ?_
                                rotate_left
                                · intro w'
                                  go_simp
                                  with_reducible rfl
                                rotate_left
                                · simp only [Act.put, List.setIfInBounds_toArray, List.set_cons_zero, List.set_cons_succ, Aw, Az]
                                  rfl
                                refine Bz (i := 4) (N := some 117) (v := ?_) (a' := ?_) #[true, true, true, false, true, false, false, false, false] rfl rfl (Bf HT_.out (by kernel_rfl)) (fun _ _ _ h => h) (Or.inl ⟨by rfl, ?_⟩) ?_ ?_
                                rotate_left
                                · intro w'
                                  go_simp
                                  with_reducible rfl
                                rotate_left
                                · simp only [Act.put, List.setIfInBounds_toArray, List.set_cons_zero, List.set_cons_succ, Aw, Az]
                                  rfl
                                refine Bz (i := 5) (N := some 118) (v := ?_) (a' := ?_) #[true, true, true, false, true, true, false, false, false] rfl rfl (Bf HT_.out (by kernel_rfl)) (fun _ _ _ h => h) (Or.inl ⟨by rfl, ?_⟩) ?_ ?_
                                rotate_left
                                · intro w'
                                  go_simp
                                  with_reducible rfl
                                rotate_left
                                · simp only [Act.put, List.setIfInBounds_toArray, List.set_cons_zero, List.set_cons_succ, Aw, Az]
                                  rfl
                                refine Bz (i := 6) (N := some 119) (v := ?_) (a' := ?_) #[true, true, true, false, true, true, true, false, false] rfl rfl (Bf HT_.out (by kernel_rfl)) (fun _ _ _ h => h) (Or.inl ⟨by rfl, ?_⟩) ?_ ?_
                                rotate_left
                                · intro w'
                                  go_simp
                                  with_reducible rfl
                                rotate_left
                                · simp only [Act.put, List.setIfInBounds_toArray, List.set_cons_zero, List.set_cons_succ, Aw, Az]
                                  rfl
                                refine E8 (i := 3) (N := some 116) (v := ?_) (a' := ?_) #[true, true, true, true, true, true, true, false, false] rfl rfl (Ea HT_.out HW_.out (by kernel_rfl)) (fun _ _ _ h => h) (Or.inl ⟨by rfl, ?_⟩) hHeld ?_ ?_
                                rotate_left
                                · rintro w' ⟨s0, s1, s2, s3⟩
                                  go_simp
                                  with_reducible rfl
                                rotate_left
                                · simp only [Act.put, List.setIfInBounds_toArray, List.set_cons_zero, List.set_cons_succ, Aw, Az]
                                  rfl
                                refine E8 (i := 7) (N := some 120) (v := ?_) (a' := ?_) #[true, true, true, true, true, true, true, true, false] rfl rfl (Ea HT_.out HW_.out (by kernel_rfl)) (fun _ _ _ h => h) (Or.inl ⟨by rfl, ?_⟩) hHeld ?_ ?_
                                rotate_left
                                · rintro w' ⟨s0, s1, s2, s3⟩
                                  go_simp
                                  with_reducible rfl
                                rotate_left
                                · simp only [Act.put, List.setIfInBounds_toArray, List.set_cons_zero, List.set_cons_succ, Aw, Az]
                                  rfl
                                refine Bz (i := 8) (N := some 121) (v := ?_) (a' := ?_) #[true, true, true, true, true, true, true, true, true] rfl rfl (Bf HT_.out (by kernel_rfl)) (fun _ _ _ h => h) (Or.inl ⟨by rfl, ?_⟩) ?_ ?_
                                rotate_left
                                · intro w'
                                  go_simp
                                  with_reducible rfl
                                rotate_left
                                · simp only [Act.put, List.setIfInBounds_toArray, List.set_cons_zero, List.set_cons_succ, Aw, Az]
                                  rfl
                                refine done_ (Gy HT_.out (by kernel_rfl)) ?_
                                try go_wp2
                                go_roundg k3
                                case measure => have := HJ6.out; have := HJ54.out; have := HK3.out; omega
                                case rel => exact ⟨(wrap64 (x18_3 + 1)), Ybe_, H', ⟨by have := HJ6.out; have := HJ54.out; have := HK3.out; omega⟩, ⟨by (with_reducible repeat (first | apply Kd.Bo | apply Kd.Bl | apply Kd.Cb)); exact HO_9.out⟩, ⟨by (with_reducible repeat (first | apply Kd.Bo | apply Kd.Bl | apply Kd.Cb)); exact HO_11.out⟩, ⟨by (with_reducible repeat (first | refine Aa ?_ _ | refine Ad ?_ | refine Ac ?_ _)); exact BK0.out⟩, ⟨by (with_reducible repeat (first | refine Aa ?_ _ | refine Ad ?_ | refine Ac ?_ _)); exact BK1.out⟩, ⟨by (with_reducible repeat (first | refine Aa ?_ _ | refine Ad ?_ | refine Ac ?_ _)); exact BK2.out⟩, ⟨by (with_reducible repeat (first | refine Aa ?_ _ | refine Ad ?_ | refine Ac ?_ _)); exact BK3.out⟩, ⟨by (with_reducible repeat (first | refine Aa ?_ _ | refine Ad ?_ | refine Ac ?_ _)); exact BK4.out⟩, ⟨by (with_reducible repeat (first | refine Aa ?_ _ | refine Ad ?_ | refine Ac ?_ _)); exact BK5.out⟩, ⟨by repeat (first | (with_reducible first | exact HB.out | apply below_alloc | apply pw_below_drewN | apply below_drew1 | refine below_set ?_ GE0.out | refine below_set ?_ GE1.out | refine below_set ?_ GE2.out | refine below_set ?_ GE3.out | refine below_set ?_ GE4.out | refine below_set ?_ GE5.out) | exact HB.out)⟩⟩
                            · rw [if_neg c97] at H
                              exact absurd H (by simp)
                          · rw [if_neg c96] at H
                            exact absurd H (by simp)
                        · rw [if_neg c95] at H
                          have c95b0 : decide (x18_3 < (t560.length : Int)) = false := decide_eq_false c95
                          clear c95
                          by_cases c105 : 0 ≤ (t560.length : Int)
                          · rw [if_pos c105] at H
                            have c105b0 : decide (0 ≤ (t560.length : Int)) = true := decide_eq_true c105
                            have c105b1 : decide (0 ≤ t560.length) = true := decide_eq_true (by omega)
                            clear c105
                            by_cases c106 : (t560.length : Int) < (t556.length : Int)
                            · rw [if_pos c106] at H
                              have c106b0 : decide ((t560.length : Int) < (t556.length : Int)) = true := decide_eq_true c106
                              have c106b1 : decide (t560.length < t556.length) = true := decide_eq_true (Int.ofNat_lt.mp c106)
                              clear c106
                              by_cases c107 : ((((rd_T27 t556 (t560.length : Int)).f0).toList) == t538.toList && ((((rd_T27 t556 (t560.length : Int)).f1).toList) == t539.toList)) = true
                              · rw [if_pos c107] at H
                                have c107b0 : ((((rd_T27 t556 (t560.length : Int)).f0).toList) == t538.toList && ((((rd_T27 t556 (t560.length : Int)).f1).toList) == t539.toList)) = true := c107
                                (try (have c107b1 : decide ((((rd_T27 t556 (t560.length : Int)).f0).toList) = t538.toList && ((((rd_T27 t556 (t560.length : Int)).f1).toList) == t539.toList)) = true := by simpa using c107))
                                (try (have c107b2 : ((((rd_T27 t556 (t560.length : Int)).f0).toList) == t538.toList && ((((rd_T27 t556 (t560.length : Int)).f1).toList) == t539.toList)) = true := by simpa using c107))
                                clear c107
                                by_cases c108 : t568 = true
                                · subst c108
                                  have H1 : (if t542.size + t543.size ≤ 9223372036854775807 then (if t567 = ((t542 ++ t543).size : Int) then (if t573 = true then (if (t570.toList == t564.toList && (t571.toList == t565.toList && (t572 == t566))) = true then ((Cj.f k3 t542 t543 t544).bind fun t578 => (some t578)) else (some false)) else (some false)) else (some false)) else (none)) = some r := by rw [if_pos rfl] at H; exact H
                                  clear H
                                  have H := H1
                                  clear H1
                                  by_cases c109 : t542.size + t543.size ≤ 9223372036854775807
                                  · rw [if_pos c109] at H
                                    have c109b0 := eq_true c109
                                    have c109b1 : decide (t542.size + t543.size ≤ 9223372036854775807) = true := decide_eq_true c109
                                    try have c109b2 : (9223372036854775807 < t542.size + t543.size) = False := eq_false (Nat.not_lt.2 c109)
                                    by_cases c110 : t567 = ((t542 ++ t543).size : Int)
                                    · rw [if_pos c110] at H
                                      have c110e0 := c110
                                      rw [show ((t542 ++ t543).size : Int) = (t542.size : Int) + (t543.size : Int) from by rw [ByteArray.size_append]; omega] at c110e0
                                      have c110e1 : (t567 == (t542.size : Int) + (t543.size : Int)) = true := beq_iff_eq.mpr c110e0
                                      clear c110e0
                                      have c110b0 : (t567 == ((t542 ++ t543).size : Int)) = true := beq_iff_eq.mpr c110
                                      have c110b1 : (t567 != ((t542 ++ t543).size : Int)) = false := bne_eq_false_iff_eq.mpr c110
                                      clear c110
                                      by_cases c111 : t573 = true
                                      · subst c111
                                        have H1 : (if (t570.toList == t564.toList && (t571.toList == t565.toList && (t572 == t566))) = true then ((Cj.f k3 t542 t543 t544).bind fun t578 => (some t578)) else (some false)) = some r := by rw [if_pos rfl] at H; exact H
                                        clear H
                                        have H := H1
                                        clear H1
                                        by_cases c112 : (t570.toList == t564.toList && (t571.toList == t565.toList && (t572 == t566))) = true
                                        · rw [if_pos c112] at H
                                          have c112b0 : (t570.toList == t564.toList && (t571.toList == t565.toList && (t572 == t566))) = true := c112
                                          (try (have c112b1 : decide (t570.toList = t564.toList && (t571.toList == t565.toList && (t572 == t566))) = true := by simpa using c112))
                                          (try (have c112b2 : (t570.toList == t564.toList && (t571.toList == t565.toList && (t572 == t566))) = true := by simpa using c112))
                                          clear c112
                                          replace H := Option.bind_eq_some_iff.mp H
                                          obtain ⟨t578, A1130, H⟩ := H
                                          replace H : (some t578) = some r := H
                                          have A113 := Aside0.mk A1130
                                          clear A1130
                                          obtain rfl := Option.some.inj H
                                          obtain ⟨Ao114, co114, eo114⟩ := Kd.Eu HO_11.out
                                          subst eo114
                                          try go_wp2
                                          have n0_ := Aside0.mk (Kd.Cb HO_9.out)
                                          have n1_ := Aside0.mk (Kd.Cb HO_11.out)
                                          have n2_ := Aside0.mk (Ad BK0.out)
                                          have n3_ := Aside0.mk (Ad BK1.out)
                                          have n4_ := Aside0.mk (Ad BK2.out)
                                          have n5_ := Aside0.mk (Ad BK3.out)
                                          have n6_ := Aside0.mk (Ad BK4.out)
                                          have n7_ := Aside0.mk (Ad BK5.out)
                                          have n8_ := Aside0.mk (below_drew1 HB.out)
                                          clear HO_9
                                          clear HO_11
                                          clear BK0
                                          clear BK1
                                          clear BK2
                                          clear BK3
                                          clear BK4
                                          clear BK5
                                          clear HB
                                          have HO_9 := n0_
                                          have HO_11 := n1_
                                          have BK0 := n2_
                                          have BK1 := n3_
                                          have BK2 := n4_
                                          have BK3 := n5_
                                          have BK4 := n6_
                                          have BK5 := n7_
                                          have HB := n8_
                                          clear n0_ n1_ n2_ n3_ n4_ n5_ n6_ n7_ n8_
                                          obtain ⟨Ao116, co116, eo116⟩ := Kd.Eu HO_9.out
                                          (first | subst eo116 | (injection eo116 with f1_ f2_ f3_; have f4_ := f1_.symm; have f5_ := f3_.symm; clear f1_ f2_ f3_; subst f4_; subst f5_))
                                          have p577 : 0 ≤ ((t560.length : Int) : Int) := of_decide_eq_true Yba_
                                          have q577 : (t560.length : Int) < (t556.length : Int) := of_decide_eq_true Yba_
                                          obtain ⟨ad577, e577, hx577_0, hx577_1⟩ := at_T27 (Kd.Ez HO_9.out).2.2 (t560.length : Int) p577 q577
                                          cases e577
                                          (try simp only [Go.IntWalk.toNatUp] at hx577_0)
                                          (try simp only [Go.IntWalk.toNatUp] at hx577_1)
                                          replace p577 := eq_true p577
                                          replace q577 := eq_true q577
                                          refine G5 (n := 33) (S := fun w' => w'.cell? ⟨gb1, 0, none⟩ = some (.string t538) ∧ w'.cell? ⟨gb1, 1, none⟩ = some (.string t539) ∧ w'.cell? ⟨gb2, 0, none⟩ = some (.string t542) ∧ w'.cell? ⟨gb2, 1, none⟩ = some (.string t543) ∧ w'.cell? ⟨gb2, 2, none⟩ = some (.int .i64 t544) ∧ w'.cell? ⟨gb5, 0, none⟩ = some (.string t570) ∧ w'.cell? ⟨gb5, 1, none⟩ = some (.string t571) ∧ w'.cell? ⟨gb5, 2, none⟩ = some (.int .i64 t572) ∧ w'.cell? ⟨gb4, 0, none⟩ = some (.string t564) ∧ w'.cell? ⟨gb4, 1, none⟩ = some (.string t565) ∧ w'.cell? ⟨gb4, 2, none⟩ = some (.int .i64 t566) ∧ w'.cell? (ad577.add (t560.length * 2)) = some (.string ((rd_T27 t556 (t560.length : Int)).f0)) ∧ w'.cell? ⟨(ad577.add (t560.length * 2)).block, (ad577.add (t560.length * 2)).off + 1, none⟩ = some (.string ((rd_T27 t556 (t560.length : Int)).f1))) (ds := []) #[false, false, false, false, false, false, false, false, false, false, false, false, false, false, false, false, false, false, false, false, false, false, false, false, false, false, false, false, false, false, false, false, false] (by kernel_rfl) rfl rfl ⟨(Ae BK1.out 0).trans rfl, (Ae BK1.out 1).trans rfl, (Ae BK2.out 0).trans rfl, (Ae BK2.out 1).trans rfl, (Ae BK2.out 2).trans rfl, (Ae BK5.out 0).trans rfl, (Ae BK5.out 1).trans rfl, (Ae BK5.out 2).trans rfl, (Ae BK4.out 0).trans rfl, (Ae BK4.out 1).trans rfl, (Ae BK4.out 2).trans rfl, hx577_0, hx577_1⟩ (fun hHeld => ?_); refine Gf Ap.tab21 Ap.bits21 (fun HT_ HW_ => ?_)
                                          generalize wr.drew = w115 at HO_9 HO_11 BK0 BK1 BK2 BK3 BK4 BK5 HB hx577_0 hx577_1 hHeld ⊢
                                          refine Bz (i := 0) (N := some 122) (v := ?_) (a' := ?_) #[true, false, false, false, false, false, false, false, false, false, false, false, false, false, false, false, false, false, false, false, false, false, false, false, false, false, false, false, false, false, false, false, false] rfl rfl (Bf HT_.out (by kernel_rfl)) (fun _ _ _ h => h) (Or.inl ⟨by rfl, ?_⟩) ?_ ?_
                                          rotate_left
                                          · intro w'
                                            go_simp
                                            with_reducible rfl
                                          rotate_left
                                          · simp only [Act.put, List.setIfInBounds_toArray, List.set_cons_zero, List.set_cons_succ, Aw, Az]
                                            rfl
                                          refine Bz (i := 1) (N := some 123) (v := ?_) (a' := ?_) #[true, true, false, false, false, false, false, false, false, false, false, false, false, false, false, false, false, false, false, false, false, false, false, false, false, false, false, false, false, false, false, false, false] rfl rfl (Bf HT_.out (by kernel_rfl)) (fun _ _ _ h => h) (Or.inl ⟨by rfl, ?_⟩) ?_ ?_
                                          rotate_left
                                          · intro w'
                                            go_simp
                                            with_reducible rfl
                                          rotate_left
                                          · simp only [Act.put, List.setIfInBounds_toArray, List.set_cons_zero, List.set_cons_succ, Aw, Az]
                                            rfl
                                          refine Bz (i := 2) (N := some 124) (v := ?_) (a' := ?_) #[true, true, true, false, false, false, false, false, false, false, false, false, false, false, false, false, false, false, false, false, false, false, false, false, false, false, false, false, false, false, false, false, false] rfl rfl (Bf HT_.out (by kernel_rfl)) (fun _ _ _ h => h) (Or.inl ⟨by rfl, ?_⟩) ?_ ?_
                                          rotate_left
                                          · intro w'
                                            go_simp
                                            with_reducible rfl
                                          rotate_left
                                          · simp only [Act.put, List.setIfInBounds_toArray, List.set_cons_zero, List.set_cons_succ, Aw, Az]
                                            rfl
                                          refine Bz (i := 3) (N := some 125) (v := ?_) (a' := ?_) #[true, true, true, true, false, false, false, false, false, false, false, false, false, false, false, false, false, false, false, false, false, false, false, false, false, false, false, false, false, false, false, false, false] rfl rfl (Bf HT_.out (by kernel_rfl)) (fun _ _ _ h => h) (Or.inl ⟨by rfl, ?_⟩) ?_ ?_
                                          rotate_left
                                          · intro w'
                                            go_simp
                                            with_reducible rfl
                                          rotate_left
                                          · simp only [Act.put, List.setIfInBounds_toArray, List.set_cons_zero, List.set_cons_succ, Aw, Az]
                                            rfl
                                          refine E8 (i := 4) (N := some 126) (v := ?_) (a' := ?_) #[true, true, true, true, true, false, false, false, false, false, false, false, false, false, false, false, false, false, false, false, false, false, false, false, false, false, false, false, false, false, false, false, false] rfl rfl (Ea HT_.out HW_.out (by kernel_rfl)) (fun _ _ _ h => h) (Or.inl ⟨by rfl, ?_⟩) hHeld ?_ ?_
                                          rotate_left
                                          · rintro w' ⟨s0, s1, s2, s3, s4, s5, s6, s7, s8, s9, s10, s11, s12⟩
                                            go_simp
                                            with_reducible rfl
                                          rotate_left
                                          · simp only [Act.put, List.setIfInBounds_toArray, List.set_cons_zero, List.set_cons_succ, Aw, Az]
                                            rfl
                                          refine E8 (i := 5) (N := some 127) (v := ?_) (a' := ?_) #[true, true, true, true, true, true, false, false, false, false, false, false, false, false, false, false, false, false, false, false, false, false, false, false, false, false, false, false, false, false, false, false, false] rfl rfl (Ea HT_.out HW_.out (by kernel_rfl)) (fun _ _ _ h => h) (Or.inl ⟨by rfl, ?_⟩) hHeld ?_ ?_
                                          rotate_left
                                          · rintro w' ⟨s0, s1, s2, s3, s4, s5, s6, s7, s8, s9, s10, s11, s12⟩
                                            go_simp
                                            with_reducible rfl
                                          rotate_left
                                          · simp only [Act.put, List.setIfInBounds_toArray, List.set_cons_zero, List.set_cons_succ, Aw, Az]
                                            rfl
                                          refine Bz (i := 6) (N := some 128) (v := ?_) (a' := ?_) #[true, true, true, true, true, true, true, false, false, false, false, false, false, false, false, false, false, false, false, false, false, false, false, false, false, false, false, false, false, false, false, false, false] rfl rfl (Bf HT_.out (by kernel_rfl)) (fun _ _ _ h => h) (Or.inl ⟨by rfl, ?_⟩) ?_ ?_
                                          rotate_left
                                          · intro w'
                                            go_simp
                                            with_reducible rfl
                                          rotate_left
                                          · simp only [Act.put, List.setIfInBounds_toArray, List.set_cons_zero, List.set_cons_succ, Aw, Az]
                                            rfl
                                          refine Bz (i := 7) (N := some 129) (v := ?_) (a' := ?_) #[true, true, true, true, true, true, true, true, false, false, false, false, false, false, false, false, false, false, false, false, false, false, false, false, false, false, false, false, false, false, false, false, false] rfl rfl (Bf HT_.out (by kernel_rfl)) (fun _ _ _ h => h) (Or.inl ⟨by rfl, ?_⟩) ?_ ?_
                                          rotate_left
                                          · intro w'
                                            go_simp
                                            with_reducible rfl
                                          rotate_left
                                          · simp only [Act.put, List.setIfInBounds_toArray, List.set_cons_zero, List.set_cons_succ, Aw, Az]
                                            rfl
                                          refine Bz (i := 8) (N := some 130) (v := ?_) (a' := ?_) #[true, true, true, true, true, true, true, true, true, false, false, false, false, false, false, false, false, false, false, false, false, false, false, false, false, false, false, false, false, false, false, false, false] rfl rfl (Bf HT_.out (by kernel_rfl)) (fun _ _ _ h => h) (Or.inl ⟨by rfl, ?_⟩) ?_ ?_
                                          rotate_left
                                          · intro w'
                                            go_simp
                                            with_reducible rfl
                                          rotate_left
                                          · simp only [Act.put, List.setIfInBounds_toArray, List.set_cons_zero, List.set_cons_succ, Aw, Az]
                                            rfl
                                          refine Bz (i := 9) (N := some 131) (v := ?_) (a' := ?_) #[true, true, true, true, true, true, true, true, true, true, false, false, false, false, false, false, false, false, false, false, false, false, false, false, false, false, false, false, false, false, false, false, false] rfl rfl (Bf HT_.out (by kernel_rfl)) (fun _ _ _ h => h) (Or.inl ⟨by rfl, ?_⟩) ?_ ?_
                                          rotate_left
                                          · intro w'
                                            go_simp
                                            with_reducible rfl
                                          rotate_left
                                          · simp only [Act.put, List.setIfInBounds_toArray, List.set_cons_zero, List.set_cons_succ, Aw, Az]
                                            rfl
                                          refine Bz (i := 10) (N := some 132) (v := ?_) (a' := ?_) #[true, true, true, true, true, true, true, true, true, true, true, false, false, false, false, false, false, false, false, false, false, false, false, false, false, false, false, false, false, false, false, false, false] rfl rfl (Bf HT_.out (by kernel_rfl)) (fun _ _ _ h => h) (Or.inl ⟨by rfl, ?_⟩) ?_ ?_
                                          rotate_left
                                          · intro w'
                                            go_simp
                                            with_reducible rfl
                                          rotate_left
                                          · simp only [Act.put, List.setIfInBounds_toArray, List.set_cons_zero, List.set_cons_succ, Aw, Az]
                                            rfl
                                          refine Bz (i := 11) (N := some 133) (v := ?_) (a' := ?_) #[true, true, true, true, true, true, true, true, true, true, true, true, false, false, false, false, false, false, false, false, false, false, false, false, false, false, false, false, false, false, false, false, false] rfl rfl (Bf HT_.out (by kernel_rfl)) (fun _ _ _ h => h) (Or.inl ⟨by rfl, ?_⟩) ?_ ?_
                                          rotate_left
                                          · intro w'
                                            go_simp
                                            with_reducible rfl
                                          rotate_left
                                          · simp only [Act.put, List.setIfInBounds_toArray, List.set_cons_zero, List.set_cons_succ, Aw, Az]
                                            rfl
                                          refine Bz (i := 12) (N := some 134) (v := ?_) (a' := ?_) #[true, true, true, true, true, true, true, true, true, true, true, true, true, false, false, false, false, false, false, false, false, false, false, false, false, false, false, false, false, false, false, false, false] rfl rfl (Bf HT_.out (by kernel_rfl)) (fun _ _ _ h => h) (Or.inl ⟨by rfl, ?_⟩) ?_ ?_
                                          rotate_left
                                          · intro w'
                                            go_simp
                                            with_reducible rfl
                                          rotate_left
                                          · simp only [Act.put, List.setIfInBounds_toArray, List.set_cons_zero, List.set_cons_succ, Aw, Az]
                                            rfl
                                          refine Bz (i := 14) (N := some 136) (v := ?_) (a' := ?_) #[true, true, true, true, true, true, true, true, true, true, true, true, true, false, true, false, false, false, false, false, false, false, false, false, false, false, false, false, false, false, false, false, false] rfl rfl (Bf HT_.out (by kernel_rfl)) (fun _ _ _ h => h) (Or.inl ⟨by rfl, ?_⟩) ?_ ?_
                                          rotate_left
                                          · intro w'
                                            go_simp
                                            with_reducible rfl
                                          rotate_left
                                          · simp only [Act.put, List.setIfInBounds_toArray, List.set_cons_zero, List.set_cons_succ, Aw, Az]
                                            rfl
                                          refine E8 (i := 13) (N := some 135) (v := ?_) (a' := ?_) #[true, true, true, true, true, true, true, true, true, true, true, true, true, true, true, false, false, false, false, false, false, false, false, false, false, false, false, false, false, false, false, false, false] rfl rfl (Ea HT_.out HW_.out (by kernel_rfl)) (fun _ _ _ h => h) (Or.inl ⟨by rfl, ?_⟩) hHeld ?_ ?_
                                          rotate_left
                                          · rintro w' ⟨s0, s1, s2, s3, s4, s5, s6, s7, s8, s9, s10, s11, s12⟩
                                            go_simp
                                            with_reducible rfl
                                          rotate_left
                                          · simp only [Act.put, List.setIfInBounds_toArray, List.set_cons_zero, List.set_cons_succ, Aw, Az]
                                            rfl
                                          refine E8 (i := 15) (N := some 137) (v := ?_) (a' := ?_) #[true, true, true, true, true, true, true, true, true, true, true, true, true, true, true, true, false, false, false, false, false, false, false, false, false, false, false, false, false, false, false, false, false] rfl rfl (Ea HT_.out HW_.out (by kernel_rfl)) (fun _ _ _ h => h) (Or.inl ⟨by rfl, ?_⟩) hHeld ?_ ?_
                                          rotate_left
                                          · rintro w' ⟨s0, s1, s2, s3, s4, s5, s6, s7, s8, s9, s10, s11, s12⟩
                                            go_simp
                                            with_reducible rfl
                                          rotate_left
                                          · simp only [Act.put, List.setIfInBounds_toArray, List.set_cons_zero, List.set_cons_succ, Aw, Az]
                                            rfl
                                          refine Bz (i := 16) (N := some 138) (v := ?_) (a' := ?_) #[true, true, true, true, true, true, true, true, true, true, true, true, true, true, true, true, true, false, false, false, false, false, false, false, false, false, false, false, false, false, false, false, false] rfl rfl (Bf HT_.out (by kernel_rfl)) (fun _ _ _ h => h) (Or.inl ⟨by rfl, ?_⟩) ?_ ?_
                                          rotate_left
                                          · intro w'
                                            go_simp
                                            with_reducible rfl
                                          rotate_left
                                          · simp only [Act.put, List.setIfInBounds_toArray, List.set_cons_zero, List.set_cons_succ, Aw, Az]
                                            rfl
                                          refine Bz (i := 17) (N := some 139) (v := ?_) (a' := ?_) #[true, true, true, true, true, true, true, true, true, true, true, true, true, true, true, true, true, true, false, false, false, false, false, false, false, false, false, false, false, false, false, false, false] rfl rfl (Bf HT_.out (by kernel_rfl)) (fun _ _ _ h => h) (Or.inl ⟨by rfl, ?_⟩) ?_ ?_
                                          rotate_left
                                          · intro w'
                                            go_simp
                                            with_reducible rfl
                                          rotate_left
                                          · simp only [Act.put, List.setIfInBounds_toArray, List.set_cons_zero, List.set_cons_succ, Aw, Az]
                                            rfl
                                          refine Bz (i := 18) (N := some 140) (v := ?_) (a' := ?_) #[true, true, true, true, true, true, true, true, true, true, true, true, true, true, true, true, true, true, true, false, false, false, false, false, false, false, false, false, false, false, false, false, false] rfl rfl (Bf HT_.out (by kernel_rfl)) (fun _ _ _ h => h) (Or.inl ⟨by rfl, ?_⟩) ?_ ?_
                                          rotate_left
                                          · intro w'
                                            go_simp
                                            with_reducible rfl
                                          rotate_left
                                          · simp only [Act.put, List.setIfInBounds_toArray, List.set_cons_zero, List.set_cons_succ, Aw, Az]
                                            rfl
                                          refine Bz (i := 19) (N := some 141) (v := ?_) (a' := ?_) #[true, true, true, true, true, true, true, true, true, true, true, true, true, true, true, true, true, true, true, true, false, false, false, false, false, false, false, false, false, false, false, false, false] rfl rfl (Bf HT_.out (by kernel_rfl)) (fun _ _ _ h => h) (Or.inl ⟨by rfl, ?_⟩) ?_ ?_
                                          rotate_left
                                          · intro w'
                                            go_simp
                                            with_reducible rfl
                                          rotate_left
                                          · simp only [Act.put, List.setIfInBounds_toArray, List.set_cons_zero, List.set_cons_succ, Aw, Az]
                                            rfl
                                          refine Bz (i := 20) (N := some 142) (v := ?_) (a' := ?_) #[true, true, true, true, true, true, true, true, true, true, true, true, true, true, true, true, true, true, true, true, true, false, false, false, false, false, false, false, false, false, false, false, false] rfl rfl (Bf HT_.out (by kernel_rfl)) (fun _ _ _ h => h) (Or.inl ⟨by rfl, ?_⟩) ?_ ?_
                                          rotate_left
                                          · intro w'
                                            go_simp
                                            with_reducible rfl
                                          rotate_left
                                          · simp only [Act.put, List.setIfInBounds_toArray, List.set_cons_zero, List.set_cons_succ, Aw, Az]
                                            rfl
                                          refine Bz (i := 21) (N := some 143) (v := ?_) (a' := ?_) #[true, true, true, true, true, true, true, true, true, true, true, true, true, true, true, true, true, true, true, true, true, true, false, false, false, false, false, false, false, false, false, false, false] rfl rfl (Bf HT_.out (by kernel_rfl)) (fun _ _ _ h => h) (Or.inl ⟨by rfl, ?_⟩) ?_ ?_
                                          rotate_left
                                          · intro w'
                                            go_simp
                                            with_reducible rfl
                                          rotate_left
                                          · simp only [Act.put, List.setIfInBounds_toArray, List.set_cons_zero, List.set_cons_succ, Aw, Az]
                                            rfl
                                          refine Bz (i := 22) (N := some 144) (v := ?_) (a' := ?_) #[true, true, true, true, true, true, true, true, true, true, true, true, true, true, true, true, true, true, true, true, true, true, true, false, false, false, false, false, false, false, false, false, false] rfl rfl (Bf HT_.out (by kernel_rfl)) (fun _ _ _ h => h) (Or.inl ⟨by rfl, ?_⟩) ?_ ?_
                                          rotate_left
                                          · intro w'
                                            go_simp
                                            with_reducible rfl
                                          rotate_left
                                          · simp only [Act.put, List.setIfInBounds_toArray, List.set_cons_zero, List.set_cons_succ, Aw, Az]
                                            rfl
                                          refine Bz (i := 23) (N := some 145) (v := ?_) (a' := ?_) #[true, true, true, true, true, true, true, true, true, true, true, true, true, true, true, true, true, true, true, true, true, true, true, true, false, false, false, false, false, false, false, false, false] rfl rfl (Bf HT_.out (by kernel_rfl)) (fun _ _ _ h => h) (Or.inl ⟨by rfl, ?_⟩) ?_ ?_
                                          rotate_left
                                          · intro w'
                                            go_simp
                                            with_reducible rfl
                                          rotate_left
                                          · simp only [Act.put, List.setIfInBounds_toArray, List.set_cons_zero, List.set_cons_succ, Aw, Az]
                                            rfl
                                          refine E8 (i := 24) (N := some 146) (v := ?_) (a' := ?_) #[true, true, true, true, true, true, true, true, true, true, true, true, true, true, true, true, true, true, true, true, true, true, true, true, true, false, false, false, false, false, false, false, false] rfl rfl (Ea HT_.out HW_.out (by kernel_rfl)) (fun _ _ _ h => h) (Or.inl ⟨by rfl, ?_⟩) hHeld ?_ ?_
                                          rotate_left
                                          · rintro w' ⟨s0, s1, s2, s3, s4, s5, s6, s7, s8, s9, s10, s11, s12⟩
                                            go_simp
                                            with_reducible rfl
                                          rotate_left
                                          · simp only [Act.put, List.setIfInBounds_toArray, List.set_cons_zero, List.set_cons_succ, Aw, Az]
                                            rfl
                                          refine E8 (i := 25) (N := some 147) (v := ?_) (a' := ?_) #[true, true, true, true, true, true, true, true, true, true, true, true, true, true, true, true, true, true, true, true, true, true, true, true, true, true, false, false, false, false, false, false, false] rfl rfl (Ea HT_.out HW_.out (by kernel_rfl)) (fun _ _ _ h => h) (Or.inl ⟨by rfl, ?_⟩) hHeld ?_ ?_
                                          rotate_left
                                          · rintro w' ⟨s0, s1, s2, s3, s4, s5, s6, s7, s8, s9, s10, s11, s12⟩
                                            go_simp
                                            with_reducible rfl
                                          rotate_left
                                          · simp only [Act.put, List.setIfInBounds_toArray, List.set_cons_zero, List.set_cons_succ, Aw, Az]
                                            rfl
                                          refine Bz (i := 26) (N := some 148) (v := ?_) (a' := ?_) #[true, true, true, true, true, true, true, true, true, true, true, true, true, true, true, true, true, true, true, true, true, true, true, true, true, true, true, false, false, false, false, false, false] rfl rfl (Bf HT_.out (by kernel_rfl)) (fun _ _ _ h => h) (Or.inl ⟨by rfl, ?_⟩) ?_ ?_
                                          rotate_left
                                          · intro w'
                                            go_simp
                                            with_reducible rfl
                                          rotate_left
                                          · simp only [Act.put, List.setIfInBounds_toArray, List.set_cons_zero, List.set_cons_succ, Aw, Az]
                                            rfl
                                          refine Bz (i := 27) (N := some 149) (v := ?_) (a' := ?_) #[true, true, true, true, true, true, true, true, true, true, true, true, true, true, true, true, true, true, true, true, true, true, true, true, true, true, true, true, false, false, false, false, false] rfl rfl (Bf HT_.out (by kernel_rfl)) (fun _ _ _ h => h) (Or.inl ⟨by rfl, ?_⟩) ?_ ?_
                                          rotate_left
                                          · intro w'
                                            go_simp
                                            with_reducible rfl
                                          rotate_left
                                          · simp only [Act.put, List.setIfInBounds_toArray, List.set_cons_zero, List.set_cons_succ, Aw, Az]
                                            rfl
                                          refine Bz (i := 28) (N := some 150) (v := ?_) (a' := ?_) #[true, true, true, true, true, true, true, true, true, true, true, true, true, true, true, true, true, true, true, true, true, true, true, true, true, true, true, true, true, false, false, false, false] rfl rfl (Bf HT_.out (by kernel_rfl)) (fun _ _ _ h => h) (Or.inl ⟨by rfl, ?_⟩) ?_ ?_
                                          rotate_left
                                          · intro w'
                                            go_simp
                                            with_reducible rfl
                                          rotate_left
                                          · simp only [Act.put, List.setIfInBounds_toArray, List.set_cons_zero, List.set_cons_succ, Aw, Az]
                                            rfl
                                          refine E8 (i := 29) (N := some 151) (v := ?_) (a' := ?_) #[true, true, true, true, true, true, true, true, true, true, true, true, true, true, true, true, true, true, true, true, true, true, true, true, true, true, true, true, true, true, false, false, false] rfl rfl (Ea HT_.out HW_.out (by kernel_rfl)) (fun _ _ _ h => h) (Or.inl ⟨by rfl, ?_⟩) hHeld ?_ ?_
                                          rotate_left
                                          · rintro w' ⟨s0, s1, s2, s3, s4, s5, s6, s7, s8, s9, s10, s11, s12⟩
                                            go_simp
                                            with_reducible rfl
                                          rotate_left
                                          · simp only [Act.put, List.setIfInBounds_toArray, List.set_cons_zero, List.set_cons_succ, Aw, Az]
                                            rfl
                                          refine one_ (i := 30) (N := some 152) #[true, true, true, true, true, true, true, true, true, true, true, true, true, true, true, true, true, true, true, true, true, true, true, true, true, true, true, true, true, true, true, false, false] rfl rfl (Fp HT_.out (by kernel_rfl)) (by decide) (fun K hK => ?_)
                                          refine Gl Tryd.func23 (by kernel_rfl) rfl #[.agg #[.string t542, .string t543, .int .i64 t544]] (by rfl) rfl rfl Yc_ ?_
                                          with_reducible refine (Cj.calls k3 t542 t543 t544 t578 _ ?side1 A113.out).mono ?_
                                          (case side1 => exact Eg.below HGL.out Yha_)
                                          rintro e w117 ⟨rfl, hb⟩
                                          have HS11_ := (hb.cell (World.block_lt_of_cell? _ _ (hHeld.2.2.2.2.2.2.2.2.2.2.2.1))).trans (hHeld.2.2.2.2.2.2.2.2.2.2.2.1)
                                          have HS12_ := (hb.cell (World.block_lt_of_cell? _ _ (hHeld.2.2.2.2.2.2.2.2.2.2.2.2))).trans (hHeld.2.2.2.2.2.2.2.2.2.2.2.2)
                                          refine ⟨_, rfl, ?_⟩
                                          have n0_ := Aside0.mk (Kd.Eb (by (with_reducible repeat (first | apply Kd.Bo | apply Kd.Bl | apply Kd.Cb)); exact HO_9.out) hb)
                                          have n1_ := Aside0.mk (Kd.Eb (by (with_reducible repeat (first | apply Kd.Bo | apply Kd.Bl | apply Kd.Cb)); exact HO_11.out) hb)
                                          have n2_ := Aside0.mk (Ai (g := gb0) (o := .cells #[.string t535, .string t536, .int .i64 t537] 31 (0, 0)) Yd_ hb)
                                          have n3_ := Aside0.mk (Ai (g := gb1) (o := .cells #[.string t538, .string t539] 27 (0, 0)) Ye_ hb)
                                          have n4_ := Aside0.mk (Ai (g := gb2) (o := .cells #[.string t542, .string t543, .int .i64 t544] 31 (0, 0)) Ybc_ hb)
                                          have n5_ := Aside0.mk (Ai (g := gb3) (o := .cells #[.string t547, .string t548, .int .i64 t549] 31 (0, 0)) Yca_ hb)
                                          have n6_ := Aside0.mk (Ai (g := gb4) (o := .cells #[.string t564, .string t565, .int .i64 t566] 31 (0, 0)) Yhb_ hb)
                                          have n7_ := Aside0.mk (Ai (g := gb5) (o := .cells #[.string t570, .string t571, .int .i64 t572] 31 (0, 0)) (by (with_reducible repeat (first | refine Aa ?_ _ | refine Ad ?_ | refine Ac ?_ _)); exact BK5.out) hb)
                                          have n8_ := Aside0.mk (Ag Yha_ hb)
                                          clear HO_9
                                          clear HO_11
                                          clear BK0
                                          clear BK1
                                          clear BK2
                                          clear BK3
                                          clear BK4
                                          clear BK5
                                          clear HB
                                          have HO_9 := n0_
                                          have HO_11 := n1_
                                          have BK0 := n2_
                                          have BK1 := n3_
                                          have BK2 := n4_
                                          have BK3 := n5_
                                          have BK4 := n6_
                                          have BK5 := n7_
                                          have HB := n8_
                                          clear n0_ n1_ n2_ n3_ n4_ n5_ n6_ n7_ n8_
                                          (try clear hb)
                                          (try clear hb2)
                                          (try clear hk)
                                          (try clear hi)
                                          refine hK.out _ _ ⟨(Ae BK1.out 0).trans rfl, (Ae BK1.out 1).trans rfl, (Ae BK2.out 0).trans rfl, (Ae BK2.out 1).trans rfl, (Ae BK2.out 2).trans rfl, (Ae BK5.out 0).trans rfl, (Ae BK5.out 1).trans rfl, (Ae BK5.out 2).trans rfl, (Ae BK4.out 0).trans rfl, (Ae BK4.out 1).trans rfl, (Ae BK4.out 2).trans rfl, HS11_, HS12_⟩ (fun hHeld => ?_)
                                          clear hK K
                                          refine Gp (a' := ?_) ?_ ?_
                                          rotate_left
                                          · show Act.put _ (some 152) _ = _
                                            simp only [Act.put, List.setIfInBounds_toArray, List.set_cons_zero, List.set_cons_succ, Aw, Az]
                                            rfl
                                          refine Bz (i := 31) (N := some 153) (v := ?_) (a' := ?_) #[true, true, true, true, true, true, true, true, true, true, true, true, true, true, true, true, true, true, true, true, true, true, true, true, true, true, true, true, true, true, true, true, false] rfl rfl (Bf HT_.out (by kernel_rfl)) (fun _ _ _ h => h) (Or.inl ⟨by rfl, ?_⟩) ?_ ?_
                                          rotate_left
                                          · intro w'
                                            go_simp
                                            with_reducible rfl
                                          rotate_left
                                          · simp only [Act.put, List.setIfInBounds_toArray, List.set_cons_zero, List.set_cons_succ, Aw, Az]
                                            rfl
                                          refine Bz (i := 32) (N := some 2) (v := ?_) (a' := ?_) #[true, true, true, true, true, true, true, true, true, true, true, true, true, true, true, true, true, true, true, true, true, true, true, true, true, true, true, true, true, true, true, true, true] rfl rfl (Bf HT_.out (by kernel_rfl)) (fun _ _ _ h => h) (Or.inl ⟨by rfl, ?_⟩) ?_ ?_
                                          rotate_left
                                          · intro w'
                                            go_simp
                                            with_reducible rfl
                                          rotate_left
                                          · simp only [Act.put, List.setIfInBounds_toArray, List.set_cons_zero, List.set_cons_succ, Aw, Az]
                                            rfl
                                          refine done_ (Gy HT_.out (by kernel_rfl)) ?_
                                          try go_wp2
                                          go_ret
                                          exact ⟨by first | rfl | (simp [Ak, Aj] <;> rfl) | (simp [*, Ak, Aj] <;> rfl), by repeat (first | (with_reducible first | exact HB.out | apply below_alloc | apply pw_below_drewN | apply below_drew1 | refine below_set ?_ GE0.out | refine below_set ?_ GE1.out | refine below_set ?_ GE2.out | refine below_set ?_ GE3.out | refine below_set ?_ GE4.out | refine below_set ?_ GE5.out) | exact HB.out)⟩
                                        · rw [if_neg c112] at H
                                          have c112b0 : (t570.toList == t564.toList && (t571.toList == t565.toList && (t572 == t566))) = false := by simpa using c112
                                          (try (have c112b1 : decide (t570.toList = t564.toList && (t571.toList == t565.toList && (t572 == t566))) = false := by simpa using c112))
                                          (try (have c112b2 : (t570.toList == t564.toList && (t571.toList == t565.toList && (t572 == t566))) = false := by simpa using c112))
                                          (try (have c112b3 : ¬ (t570.toList = t564.toList && (t571.toList == t565.toList && (t572 == t566))) := by simpa using c112))
                                          clear c112
                                          exact absurd (Option.some.inj H) (by rw [HR_.out]; decide)
                                      · replace c111 := Bool.eq_false_iff.mpr c111
                                        subst c111
                                        have H1 : (some false) = some r := by rw [if_neg (show ¬ (false = true) by decide)] at H; exact H
                                        clear H
                                        have H := H1
                                        clear H1
                                        exact absurd (Option.some.inj H) (by rw [HR_.out]; decide)
                                    · rw [if_neg c110] at H
                                      have c110e0 := c110
                                      rw [show ((t542 ++ t543).size : Int) = (t542.size : Int) + (t543.size : Int) from by rw [ByteArray.size_append]; omega] at c110e0
                                      have c110e1 : (t567 == (t542.size : Int) + (t543.size : Int)) = false := beq_eq_false_iff_ne.mpr c110e0
                                      clear c110e0
                                      have c110b0 : (t567 == ((t542 ++ t543).size : Int)) = false := beq_eq_false_iff_ne.mpr c110
                                      have c110b1 : (t567 != ((t542 ++ t543).size : Int)) = true := bne_iff_ne.mpr c110
                                      exact absurd (Option.some.inj H) (by rw [HR_.out]; decide)
                                  · rw [if_neg c109] at H
                                    exact absurd H (by simp)
                                · replace c108 := Bool.eq_false_iff.mpr c108
                                  subst c108
                                  have H1 : (some false) = some r := by rw [if_neg (show ¬ (false = true) by decide)] at H; exact H
                                  clear H
                                  have H := H1
                                  clear H1
                                  exact absurd (Option.some.inj H) (by rw [HR_.out]; decide)
                              · rw [if_neg c107] at H
                                have c107b0 : ((((rd_T27 t556 (t560.length : Int)).f0).toList) == t538.toList && ((((rd_T27 t556 (t560.length : Int)).f1).toList) == t539.toList)) = false := by simpa using c107
                                (try (have c107b1 : decide ((((rd_T27 t556 (t560.length : Int)).f0).toList) = t538.toList && ((((rd_T27 t556 (t560.length : Int)).f1).toList) == t539.toList)) = false := by simpa using c107))
                                (try (have c107b2 : ((((rd_T27 t556 (t560.length : Int)).f0).toList) == t538.toList && ((((rd_T27 t556 (t560.length : Int)).f1).toList) == t539.toList)) = false := by simpa using c107))
                                (try (have c107b3 : ¬ ((((rd_T27 t556 (t560.length : Int)).f0).toList) = t538.toList && ((((rd_T27 t556 (t560.length : Int)).f1).toList) == t539.toList)) := by simpa using c107))
                                clear c107
                                exact absurd (Option.some.inj H) (by rw [HR_.out]; decide)
                            · rw [if_neg c106] at H
                              exact absurd H (by simp)
                          · rw [if_neg c105] at H
                            exact absurd H (by simp)
            · rw [if_neg c52] at H
              exact absurd H (by simp)
          · rw [if_neg c49] at H
            have c49b0 : (t545 == 0) = false := beq_eq_false_iff_ne.mpr c49
            have c49b1 : (t545 != 0) = true := bne_iff_ne.mpr c49
            obtain rfl := Option.some.inj H
            have hnb133 := NB2_0.out
            have hnc133 := NB0_2.out
            have hnb134 := NB2_1.out
            have hnc134 := NB1_2.out
            have hnb135 := NB2_3.out
            have hnc135 := NB3_2.out
            have hcz136_0 : wc.cell? ⟨gb2, 0, none⟩ = some (.string t542) := (Ae BK2.out 0).trans rfl
            have hcz136_1 : wc.cell? ⟨gb2, 1, none⟩ = some (.string t543) := (Ae BK2.out 1).trans rfl
            have hcz136_2 : wc.cell? ⟨gb2, 2, none⟩ = some (.int .i64 t544) := (Ae BK2.out 2).trans rfl
            have hfz136_0 := Af BK2.out 0
            have hfz136_1 := Af BK2.out 1
            have hfz136_2 := Af BK2.out 2
            have hnb137 := NB0_1.out
            have hnc137 := NB1_0.out
            have hnb138 := NB0_3.out
            have hnc138 := NB3_0.out
            have hcz139_0 : wc.cell? ⟨gb0, 0, none⟩ = some (.string t535) := (Ae BK0.out 0).trans rfl
            have hcz139_1 : wc.cell? ⟨gb0, 1, none⟩ = some (.string t536) := (Ae BK0.out 1).trans rfl
            have hcz139_2 : wc.cell? ⟨gb0, 2, none⟩ = some (.int .i64 t537) := (Ae BK0.out 2).trans rfl
            have hfz139_0 := Af BK0.out 0
            have hfz139_1 := Af BK0.out 1
            have hfz139_2 := Af BK0.out 2
            go_wp2
            go_ret
            exact ⟨by first | rfl | (simp [Ak, Aj] <;> rfl) | (simp [*, Ak, Aj] <;> rfl), by repeat (first | (with_reducible first | exact HB.out | apply below_alloc | apply pw_below_drewN | apply below_drew1 | refine below_set ?_ GE0.out | refine below_set ?_ GE1.out | refine below_set ?_ GE2.out | refine below_set ?_ GE3.out) | exact HB.out)⟩
end Go.Proofs.YtkpieljmhgfofaaDoor.X

namespace Go.Proofs.YtkpieljmhgfofaaDoorZ
open Go.ChangeShapes Go.WideShapes Go.ChangeAt Go.RowKit
open Go.Proofs.YtkpieljmhgfofaaDoorW.PrintWords
section
variable {P : Program}
/-- A reading of type t is a value of kind d, and the value fits. -/
def Opens (P : Program) {α : Type} (d : Kd α) (t : TypeId) (fits : α → Prop) : Prop :=
  ∀ {H : Type} {enc : TypeId × Value → H} {w : World} {base : Nat} {spare : Nat → Bool} {held : Bool} {fuel : Nat} {cs : List Value} {x : DataW H × List MemPlace},
    DataW.trod enc P w base spare held fuel t cs = some x → (∀ n ∈ x.1.weights P t, n ≤ reachBytes) → ∃ v, d.K w v cs ∧ fits v
theorem opens_int {k : IntKind} {t : TypeId} (ht : P.underlying t = some (.int k)) : Opens P (Kd.int k) t (fun n => (Lit.int k n).wf = true) := by
  intro H enc w base spare held fuel cs x h _
  obtain ⟨n, rfl, _, hw⟩ := DataW.trod_int ht h
  exact ⟨n, rfl, hw⟩
theorem weightsAll_mem {H : Type} {e : TypeId} {d : DataW H} {n : Nat} : ∀ {l : List (DataW H)}, d ∈ l → n ∈ d.weights P e → n ∈ DataW.weightsAll P e l
  | [], h, _ => by cases h
  | x :: r, h, hn => by
    simp only [DataW.weightsAll, List.mem_append]
    rcases List.mem_cons.1 h with rfl | h
    · exact .inl hn
    · exact .inr (weightsAll_mem h hn)
theorem weightsEach_mem {H : Type} {n : Nat} : ∀ {ts : List TypeId} {l : List (DataW H)} {i : Nat} {t : TypeId} {d : DataW H}, ts[i]? = some t → l[i]? = some d → n ∈ d.weights P t → n ∈ DataW.weightsEach P ts l
  | [], l, i, t, d, h, _, _ => by simp at h
  | t :: ts, [], i, _, _, _, h, _ => by simp at h
  | t :: ts, d :: l, 0, _, _, h, k, hn => by
    simp at h k; subst h k
    simp only [DataW.weightsEach, List.mem_append]; exact .inl hn
  | t :: ts, d :: l, i + 1, _, _, h, k, hn => by
    simp at h k
    simp only [DataW.weightsEach, List.mem_append]; exact .inr (weightsEach_mem h k hn)
theorem opens_slice {α : Type} (z : α) {d : Kd α} {t e : TypeId} {fits : α → Prop} (ht : P.underlying t = some (.slice e)) (hsz : P.cellsOf e = d.sz) (he : Opens P d e fits) {B : Nat} (hB : P.bytesOf e = B) :
    Opens P (Kd.slice e d) t (fun l => l.length * B ≤ 140737488351232 ∧ l.length ≤ 9223372036854775807 ∧ ∀ x ∈ l, fits x) := by
  intro H enc w base spare held fuel cs x h hw
  rcases Deep.open_slice ht h with ⟨rfl, rfl⟩ | ⟨a, len, cap, m, n, D, Pl, rfl, hb, hl, hm, hmm, rfl, hc⟩
  · exact ⟨[], ⟨none, 0, rfl, Nat.le_refl _, Kd.C_nil d w⟩, by simp, by simp, fun x hx => by cases hx⟩
  · have hlm : len ≤ m := by rw [hmm]; split <;> omega
    have hbnd : len * B ≤ 140737488351232 := by
      have := hw ((((List.range len).map D).length + ((List.range (m - len)).map fun j => D (len + j)).length) * P.bytesOf e) (by simp [DataW.weights, ht])
      simp only [List.length_map, List.length_range, hB] at this
      have h2 : len * B ≤ (len + (m - len)) * B := Nat.mul_le_mul_right _ (by omega)
      exact Nat.le_trans h2 this
    have hel : ∀ i, i < len → ∃ v : α, (∃ c, c.length = d.sz ∧ d.K w v c ∧ ∀ j u, c[j]? = some u → w.cell? (a.add (i * d.sz + j)) = some u) ∧ fits v := by
      intro i hi
      obtain ⟨c, h1, h2⟩ := hc i (by omega)
      obtain ⟨v, hv, hf⟩ := he h2 (fun k hk => hw k (by
        simp only [DataW.weights, ht, List.mem_cons, List.mem_append]
        exact .inr (.inl (weightsAll_mem (d := D i) (List.mem_map.2 ⟨i, List.mem_range.2 hi, rfl⟩) hk))))
      rw [hsz] at h1
      obtain ⟨_, hlen, hcell⟩ := World.cells?_some h1
      refine ⟨v, ⟨c, hlen, hv, fun j u hj => ?_⟩, hf⟩
      have hjl : j < d.sz := by rw [← hlen]; exact (List.getElem?_eq_some_iff.1 hj).1
      rw [← Deep.add_add, hcell j hjl]
      exact hj
    haveI : Inhabited α := ⟨z⟩
    obtain ⟨f, hf⟩ := Deep.choose_lt hel
    refine ⟨(List.range len).map f, ⟨some a, cap, by simp, by simpa using hl, ⟨by simp, ?_, fun _ => ⟨a, rfl, ?_⟩⟩⟩, by simpa using hbnd, by simp; unfold maxLen at hm; omega, ?_⟩
    · simp; unfold maxLen at hm; omega
    · intro j p hj
      have hjl : j < len := by
        have := (List.getElem?_eq_some_iff.1 hj).1
        simpa using this
      rw [List.getElem?_map, List.getElem?_range hjl] at hj
      simp only [Option.map_some, Option.some.injEq] at hj
      subst hj
      exact (hf j hjl).1
    · intro x hx
      obtain ⟨j, hj, rfl⟩ := List.mem_map.1 hx
      exact (hf j (List.mem_range.1 hj)).2
/-- A parameter's weights are among all. -/
theorem weights_param {H : Type} {ts : List TypeId} {ds : List (DataW H)} {j : Nat} {t : TypeId} {d : DataW H} (hsz : (DataW.weightsEach P ts ds).all (· ≤ reachBytes) = true) (ht : ts[j]? = some t) (hd : ds[j]? = some d) : ∀ n ∈ d.weights P t, n ≤ reachBytes := fun n hn => by
  have := List.all_eq_true.1 hsz n (weightsEach_mem ht hd hn)
  simpa using this
end
end Go.Proofs.YtkpieljmhgfofaaDoorZ

namespace Go.Proofs.YtkpieljmhgfofaaDoor.X
open Go.RowKit Go.Proofs.YtkpieljmhgfofaaDoorW.PrintWords Go.Proofs.YtkpieljmhgfofaaDoorW.PrintLast Go.Proofs.YtkpieljmhgfofaaDoorW.PrintMore
open Go.Proofs.YtkpieljmhgfofaaDoorZ
namespace OFnLog
def Pure : Prop := ∀ (l0 : List Int), (l0.length * 1 ≤ 140737488351232 ∧ l0.length ≤ 9223372036854775807 ∧ ∀ y2 ∈ l0, (Lit.int .u8 y2).wf = true) → ∃ k, Ap.f k l0 = some true
end OFnLog
end Go.Proofs.YtkpieljmhgfofaaDoor.X

namespace Go.Proofs.YtkpieljmhgfofaaDoorL
open Go.RowKit Go.Proofs.YtkpieljmhgfofaaDoorW.PrintWords
theorem ev_eq {α : Type} {g : Nat → Option α} {r : α} (h : ∀ k, g k = some r) : Ev g r := ⟨0, fun k _ => h k⟩
theorem ev_rounds {α : Type} {g : Nat → Option α} {r : α} (h : Ev g r) : ∃ k, g k = some r := h.rounds
theorem wrap_id {x : Int} (h0 : -9223372036854775808 ≤ x) (h1 : x ≤ 9223372036854775807) : wrap64 x = x := by unfold wrap64; omega
theorem wrap_succ {n : Nat} (h : n < 9223372036854775807) : wrap64 ((n : Int) + 1) = ((n + 1 : Nat) : Int) := by rw [wrap_id (by omega) (by omega)]; rfl
end Go.Proofs.YtkpieljmhgfofaaDoorL

namespace Go.Proofs.YtkpieljmhgfofaaDoorL
open Go.RowKit Go.Proofs.YtkpieljmhgfofaaDoorW.PrintWords
/-- A text's bytes. -/
def B (s : ByteArray) : List UInt8 := s.data.toList
theorem D7 (s : ByteArray) : (B s).length = s.size := by simp [B]
theorem bt_B (s : ByteArray) (n : Nat) (h : n < (B s).length) : bt s n = ((B s)[n].toNat : Int) := by
  have h2 : n < s.size := by rw [D7] at h; exact h
  unfold bt
  rw [Int.toNat_natCast, dif_pos h2]
  rfl
theorem Hy (s : ByteArray) : s.toList = B s := by
  unfold B
  have key : ∀ (d i : Nat) (r : List UInt8), i + d = s.size → ByteArray.toList.loop s i r = r.reverse ++ (s.data.toList.drop i) := by
    intro d
    induction d with
    | zero =>
      intro i r h
      unfold ByteArray.toList.loop
      rw [if_neg (by omega), List.drop_of_length_le (by simp; omega)]; simp
    | succ d ih =>
      intro i r h
      unfold ByteArray.toList.loop
      have hi : i < s.size := by omega
      rw [if_pos hi, ih (i + 1) _ (by omega), List.drop_eq_getElem_cons (show i < s.data.toList.length by simp; omega)]
      have e : s.get! i = s.data.toList[i]'(by simp; omega) := by
        show s.data[i]! = _
        rw [getElem!_pos s.data i hi]; simp
      rw [e, List.reverse_cons]
      simp
  have := key s.size 0 [] (by omega)
  simpa [ByteArray.toList] using this
theorem B_inj {s t : ByteArray} (h : B s = B t) : s = t := by
  have : s.data = t.data := Array.toList_inj.1 h
  cases s; cases t; simp_all
theorem containsAny_any (c : List UInt8) : ∀ l : List UInt8, Lib.containsAny l c = l.any fun b => c.contains b
  | [] => by simp [Lib.containsAny, Lib.indexAny]
  | b :: l => by
    have ih := containsAny_any c l
    have hg := Lib.indexAny_ge c l
    unfold Lib.containsAny at ih ⊢
    rw [List.any_cons, ← ih]
    have hu : Lib.indexAny (b :: l) c = if c.contains b then 0 else if Lib.indexAny l c == -1 then -1 else Lib.indexAny l c + 1 := by rw [Lib.indexAny]
    rw [hu]
    by_cases h : c.contains b = true
    · rw [if_pos h, h]; simp
    · have h2 : c.contains b = false := by simpa using h
      rw [if_neg h, h2, Bool.false_or]
      by_cases e : Lib.indexAny l c = -1
      · rw [e]; simp
      · rw [if_neg (by simpa using e)]
        by_cases z : 0 ≤ Lib.indexAny l c
        · rw [decide_eq_true z, decide_eq_true (by omega)]
        · omega
end Go.Proofs.YtkpieljmhgfofaaDoorL

namespace Go.Proofs.YtkpieljmhgfofaaDoor.X
open Go.RowKit Go.Proofs.YtkpieljmhgfofaaDoorW.PrintWords Go.Proofs.YtkpieljmhgfofaaDoorL
theorem within_eq' (a b c : Int) : Fz.f a b c = some (decide (b ≤ a) && decide (a ≤ c)) := by
  unfold Fz.f
  by_cases h : a ≥ b
  · rw [if_pos h]; simp [show b ≤ a from h]
  · rw [if_neg h]; simp [show ¬ b ≤ a from h]
theorem l1In_eq' (a b c : Int) : Gi.f a b c = some (decide (b ≤ a) && decide (a ≤ c)) := by
  unfold Gi.f
  by_cases h : a ≥ b
  · rw [if_pos h]; simp [show b ≤ a from h]
  · rw [if_neg h]; simp [show ¬ b ≤ a from h]
/-- Bytes that can be printed, none of some. -/
def okP (bad : List UInt8) (b : UInt8) : Bool := decide (32 ≤ b.toNat) && decide (b.toNat ≤ 126) && !bad.contains b
def rngP (b : UInt8) : Bool := decide (32 ≤ b.toNat) && decide (b.toNat ≤ 126)
theorem implPrint_ev (s c : ByteArray) (hs : s.size < 4294967281) (hc : asciiB c = true) : Ev (fun k => Dc.f k s c) ((B s).all (okP (B c))) := by
  have hlen := D7 s
  have hB : ∀ x : ByteArray, x.data.toList = B x := fun _ => rfl
  have key : ∀ (d n : Nat), n + d = s.size → ((B s).take n).all rngP = true → Ev (fun k => Dc.l0 k s c (s.size : Int) n) ((B s).all rngP && !Lib.containsAny (B s) (B c)) := by
    intro d
    induction d with
    | zero =>
      intro n hn hr
      obtain rfl : n = s.size := by omega
      rw [List.take_of_length_le (by omega)] at hr
      refine Ev.step (f := fun _ => some _) (fun k => ?_) (Ev.now _)
      simp only [Dc.l0]
      have ha : asciiB s = true := by
        unfold asciiB
        simp only [Bool.and_eq_true, decide_eq_true_eq, List.all_eq_true]
        refine ⟨hs, fun b hb => ?_⟩
        have := List.all_eq_true.1 hr b hb
        simp [rngP] at this; omega
      rw [if_neg (by omega)]
      unfold strings_ContainsAny.f
      rw [if_pos ⟨ha, hc⟩, hr, hB, hB]
      simp
    | succ d ih =>
      intro n hn hr
      have hl : n < (B s).length := by omega
      have hb := bt_B s n hl
      by_cases e : rngP (B s)[n] = true
      · refine Ev.step (f := fun k => Dc.l0 k s c (s.size : Int) ((n + 1 : Nat) : Int)) (fun k => ?_) (ih (n + 1) (by omega) (by rw [List.take_succ_eq_append_getElem hl, List.all_append, hr]; simp [e]))
        simp only [Dc.l0]
        simp [rngP] at e
        rw [if_pos (by omega), if_pos (by omega), if_pos (by omega), hb, if_neg (by omega), if_neg (by omega), wrap_succ (by omega)]
      · have hf : (B s).all rngP = false := by
          rw [List.all_eq_false]; exact ⟨_, List.getElem_mem hl, by simpa using e⟩
        rw [hf, Bool.false_and]
        refine Ev.step (f := fun _ => some false) (fun k => ?_) (Ev.now _)
        simp only [Dc.l0]
        simp [rngP] at e
        rw [if_pos (by omega), if_pos (by omega), if_pos (by omega), hb]
        by_cases z : ((B s)[n].toNat : Int) < 32
        · rw [if_pos z]
        · rw [if_neg z, if_pos (by have := e (by omega); omega)]
  have e : (B s).all (okP (B c)) = ((B s).all rngP && !Lib.containsAny (B s) (B c)) := by
    rw [containsAny_any]
    generalize B s = l
    induction l with
    | nil => rfl
    | cons b l ih =>
      simp only [List.all_cons, List.any_cons, ih, okP, rngP]
      cases decide (32 ≤ b.toNat) <;> cases decide (b.toNat ≤ 126) <;> cases (B c).contains b <;> cases l.all rngP <;> simp
  rw [e]
  exact Ev.congr (fun k => rfl) (key s.size 0 (by omega) (by simp))
theorem specPlain_ev (s : ByteArray) (m : Int) (hs : s.size < 4294967281) : Ev (fun k => Dh.f k s m) ((B s).all (okP [35]) && decide ((s.size : Int) ≤ m)) := by
  have hlen := D7 s
  have key : ∀ (d n : Nat), n + d = s.size → Ev (fun k => Dh.l0 k s m n) (((B s).drop n).all (okP [35]) && decide ((s.size : Int) ≤ m)) := by
    intro d
    induction d with
    | zero =>
      intro n hn
      obtain rfl : n = s.size := by omega
      refine Ev.step (f := fun _ => some _) (fun k => ?_) (Ev.now _)
      simp only [Dh.l0]
      rw [if_neg (by omega), List.drop_of_length_le (by omega)]
      simp
    | succ d ih =>
      intro n hn
      have hl : n < (B s).length := by omega
      have hb := bt_B s n hl
      rw [List.drop_eq_getElem_cons hl, List.all_cons]
      have h255 := bt_range s n
      have e35 : (([35] : List UInt8).contains (B s)[n]) = decide ((B s)[n].toNat = 35) := by
        by_cases z : (B s)[n] = 35
        · simp [z]
        · have : ¬ (B s)[n].toNat = 35 := fun y => z (UInt8.toNat_inj.1 (by simpa using y))
          simp [z, this]
      by_cases e : okP [35] (B s)[n] = true
      · rw [e, Bool.true_and]
        refine Ev.step (f := fun k => Dh.l0 k s m ((n + 1 : Nat) : Int)) (fun k => ?_) (ih (n + 1) (by omega))
        simp only [Dh.l0, l1In_eq']
        unfold okP at e
        rw [e35] at e
        simp only [Bool.and_eq_true, decide_eq_true_eq, Bool.not_eq_true', decide_eq_false_iff_not] at e
        rw [if_pos (by omega), if_pos (by omega), wrap_id (x := bt s n) (by omega) (by omega), hb, decide_eq_true (show (32 : Int) ≤ ((B s)[n].toNat : Int) by omega), decide_eq_true (show ((B s)[n].toNat : Int) ≤ 126 by omega)]
        simp only [Option.bind_some, Bool.and_self, if_true]
        rw [if_neg (by omega), wrap_succ (by omega)]
      · have e2 : okP [35] (B s)[n] = false := by simpa using e
        rw [e2, Bool.false_and, Bool.false_and]
        refine Ev.step (f := fun _ => some false) (fun k => ?_) (Ev.now _)
        simp only [Dh.l0, l1In_eq']
        unfold okP at e2
        rw [e35] at e2
        rw [if_pos (by omega), if_pos (by omega), wrap_id (x := bt s n) (by omega) (by omega), hb]
        by_cases c1 : 32 ≤ (B s)[n].toNat
        · by_cases c2 : (B s)[n].toNat ≤ 126
          · have c3 : (B s)[n].toNat = 35 := by simpa [c1, c2] using e2
            rw [decide_eq_true (show (32 : Int) ≤ ((B s)[n].toNat : Int) by omega), decide_eq_true (show ((B s)[n].toNat : Int) ≤ 126 by omega)]
            simp only [Option.bind_some, Bool.and_self, if_true]
            rw [if_pos (by omega)]
          · rw [decide_eq_false (show ¬ ((B s)[n].toNat : Int) ≤ 126 by omega)]; simp
        · rw [decide_eq_false (show ¬ (32 : Int) ≤ ((B s)[n].toNat : Int) by omega)]; simp
  exact Ev.congr (f := fun k => Dh.l0 k s m ((0 : Nat) : Int)) (fun k => rfl) (by simpa using key s.size 0 (by omega))
theorem specStands_ev (s : ByteArray) (c : UInt8) (hs : s.size < 4294967281) : Ev (fun k => Du.f k s (c.toNat : Int)) ((B s).any fun b => b == c) := by
  have hlen := D7 s
  have key : ∀ (d n : Nat), n + d = s.size → Ev (fun k => Du.l0 k s (c.toNat : Int) n) (((B s).drop n).any fun b => b == c) := by
    intro d
    induction d with
    | zero =>
      intro n hn
      obtain rfl : n = s.size := by omega
      refine Ev.step (f := fun _ => some _) (fun k => ?_) (Ev.now _)
      simp only [Du.l0]
      rw [if_neg (by omega), List.drop_of_length_le (by omega)]
      simp
    | succ d ih =>
      intro n hn
      have hl : n < (B s).length := by omega
      have hb := bt_B s n hl
      rw [List.drop_eq_getElem_cons hl, List.any_cons]
      by_cases e : (B s)[n] = c
      · have : ((B s)[n] == c) = true := by simpa using e
        rw [this, Bool.true_or]
        refine Ev.step (f := fun _ => some true) (fun k => ?_) (Ev.now _)
        simp only [Du.l0]
        rw [if_pos (by omega), if_pos (by omega), hb, if_pos (by rw [e])]
      · have : ((B s)[n] == c) = false := by simpa using e
        rw [this, Bool.false_or]
        refine Ev.step (f := fun k => Du.l0 k s (c.toNat : Int) ((n + 1 : Nat) : Int)) (fun k => ?_) (ih (n + 1) (by omega))
        simp only [Du.l0]
        rw [if_pos (by omega), if_pos (by omega), hb, if_neg (fun z => e (UInt8.toNat_inj.1 (by omega))), wrap_succ (by omega)]
  exact Ev.congr (f := fun k => Du.l0 k s (c.toNat : Int) ((0 : Nat) : Int)) (fun k => rfl) (by simpa using key s.size 0 (by omega))
/-- Is it a record? -/
def Es (c r : ByteArray) : Bool := decide (1 ≤ c.size) && decide (c.size ≤ 160) && (B c).all (okP [35, 64]) && decide (r.size ≤ 200) && (B r).all (okP [35])
def cmdOk (c : ByteArray) : Bool := decide (1 ≤ c.size) && decide (c.size ≤ 160) && (B c).all (okP [35, 64])
theorem implCmd_ev (c : ByteArray) : Ev (fun k => Fb.f k c) (cmdOk c) := by
  unfold Fb.f cmdOk
  simp only [within_eq', Option.bind_some]
  by_cases h : 1 ≤ c.size ∧ c.size ≤ 160
  · have h1 : (decide ((1 : Int) ≤ (c.size : Int)) && decide ((c.size : Int) ≤ 160)) = true := by simp; omega
    simp only [h1, if_true, h.1, h.2, decide_true, Bool.true_and]
    exact Ev.bind (implPrint_ev c _ (by omega) (by decide)) (Ev.now _)
  · have h1 : (decide ((1 : Int) ≤ (c.size : Int)) && decide ((c.size : Int) ≤ 160)) = false := by
      rw [Bool.and_eq_false_iff]; simp only [decide_eq_false_iff_not]; omega
    have h2 : (decide (1 ≤ c.size) && decide (c.size ≤ 160)) = false := by
      rw [Bool.and_eq_false_iff]; simp only [decide_eq_false_iff_not]; omega
    simp only [h1, h2, Bool.false_and, Bool.false_eq_true, if_false]
    exact Ev.now _
theorem implRec_ev (c r : ByteArray) : Ev (fun k => Ba.f k c r) (Es c r) := by
  unfold Ba.f
  have e : Es c r = (cmdOk c && (decide (r.size ≤ 200) && (B r).all (okP [35]))) := by simp [Es, cmdOk, Bool.and_assoc]
  rw [e]
  refine Ev.bind (implCmd_ev c) ?_
  cases hc : cmdOk c with
  | false => simp only [Bool.false_and, Bool.false_eq_true, if_false]; exact Ev.now _
  | true =>
    simp only [Bool.true_and, if_true]
    by_cases h : r.size ≤ 200
    · simp only [if_pos (show (r.size : Int) ≤ 200 by omega), h, decide_true, Bool.true_and]
      exact Ev.bind (implPrint_ev r _ (by omega) (by decide)) (Ev.now _)
    · simp only [if_neg (show ¬ (r.size : Int) ≤ 200 by omega), h, decide_false, Bool.false_and]; exact Ev.now _
theorem okP_both (l : List UInt8) : l.all (okP [35, 64]) = (l.all (okP [35]) && !(l.any fun b => b == 64)) := by
  induction l with
  | nil => rfl
  | cons b l ih =>
    simp only [List.all_cons, List.any_cons, ih, okP, List.contains_cons, List.contains_nil]
    cases decide (32 ≤ b.toNat) <;> cases decide (b.toNat ≤ 126) <;> cases (b == 35) <;> cases (b == 64) <;> simp
theorem specRec_ev (c r : ByteArray) (hc : c.size < 4294967281) (hr : r.size < 4294967281) : Ev (fun k => Dl.f k c r) (Es c r) := by
  unfold Dl.f
  rw [Hy]
  by_cases h : B c = []
  · have h0 : c.size = 0 := by rw [← D7, h]; rfl
    simp only [if_pos h]
    have e : Es c r = false := by simp [Es, h0]
    rw [e]; exact Ev.now _
  · have h1 : 1 ≤ c.size := by
      rw [← D7]; exact Nat.one_le_iff_ne_zero.2 (fun z => h (List.length_eq_zero_iff.1 z))
    simp only [if_neg h]
    refine Ev.bind (specPlain_ev c 160 hc) ?_
    have e : Es c r = (((B c).all (okP [35]) && decide ((c.size : Int) ≤ 160)) && (!((B c).any fun b => b == 64) && ((B r).all (okP [35]) && decide ((r.size : Int) ≤ 200)))) := by
      unfold Es
      rw [okP_both, show decide (1 ≤ c.size) = true from decide_eq_true h1, show decide (c.size ≤ 160) = decide ((c.size : Int) ≤ 160) from by simp <;> omega, show decide (r.size ≤ 200) = decide ((r.size : Int) ≤ 200) from by simp <;> omega]
      cases decide ((c.size : Int) ≤ 160) <;> cases decide ((r.size : Int) ≤ 200) <;> cases (B c).all (okP [35]) <;> cases ((B c).any fun b => b == 64) <;> simp
    rw [e]
    cases hz : ((B c).all (okP [35]) && decide ((c.size : Int) ≤ 160)) with
    | false => simp only [Bool.false_and, Bool.false_eq_true, if_false]; exact Ev.now _
    | true =>
      simp only [Bool.true_and, if_true]
      refine Ev.bind (specStands_ev c 64 hc) ?_
      cases hy : ((B c).any fun b => b == 64) with
      | true => simp only [if_true, Bool.not_true, Bool.false_and]; exact Ev.now _
      | false =>
        simp only [Bool.false_eq_true, if_false, Bool.not_false, Bool.true_and]
        exact Ev.bind (specPlain_ev r 200 hr) (Ev.now _)
end Go.Proofs.YtkpieljmhgfofaaDoor.X

namespace Go.Proofs.YtkpieljmhgfofaaDoor.X
open Go.RowKit Go.Proofs.YtkpieljmhgfofaaDoorW.PrintWords Go.Proofs.YtkpieljmhgfofaaDoorL
theorem F9 (s t : ByteArray) : B (s ++ t) = B s ++ B t := by unfold B; simp
theorem B_mk (l : List UInt8) : B ⟨l.toArray⟩ = l := by simp [B]
theorem size_B (s : ByteArray) : s.size = (B s).length := (D7 s).symm
theorem mk_append (a b : List UInt8) : (⟨a.toArray⟩ : ByteArray) ++ ⟨b.toArray⟩ = ⟨(a ++ b).toArray⟩ := B_inj (by rw [F9, B_mk, B_mk, B_mk])
def dec (n : Int) : ByteArray := ⟨(Lib.itoa n).toArray⟩
theorem B_dec (n : Int) : B (dec n) = Lib.itoa n := B_mk _
theorem Ha (n : Int) (h0 : -9223372036854775808 ≤ n) (h1 : n ≤ 9223372036854775807) : (dec n).size ≤ 21 := by
  rw [size_B, B_dec]; exact Lib.itoa_length_le n h0 h1
theorem implDec (n : Int) (h0 : -9223372036854775808 ≤ n) (h1 : n ≤ 9223372036854775807) : Ec.f n = some (dec n) := by
  unfold Ec.f Gn.f
  rw [if_pos ⟨h0, h1⟩]
  rfl
theorem digit_cut (d : Nat) (h : d < 10) : (⟨#[48, 49, 50, 51, 52, 53, 54, 55, 56, 57]⟩ : ByteArray).extract d (d + 1) = ⟨[UInt8.ofNat (48 + d)].toArray⟩ := by
  have : d = 0 ∨ d = 1 ∨ d = 2 ∨ d = 3 ∨ d = 4 ∨ d = 5 ∨ d = 6 ∨ d = 7 ∨ d = 8 ∨ d = 9 := by omega
  rcases this with rfl | rfl | rfl | rfl | rfl | rfl | rfl | rfl | rfl | rfl <;> rfl
theorem decDigits_le (u : Nat) (h : u ≤ 9223372036854775807) : (Lib.decDigits u).length ≤ 21 := by
  have := Lib.itoa_length_le (u : Int) (by omega) (by omega)
  unfold Lib.itoa at this
  rw [if_neg (by omega), Int.toNat_natCast] at this
  exact this
theorem specNum_nat : ∀ (m u : Nat), u ≤ m → u ≤ 9223372036854775807 → Ev (fun k => Dj.f k (u : Int)) ⟨(Lib.decDigits u).toArray⟩ := by
  intro m
  induction m with
  | zero =>
    intro u hu hb
    obtain rfl : u = 0 := by omega
    refine Ev.step (f := fun _ => some _) (fun k => ?_) (Ev.now _)
    simp only [Dj.f]
    rw [if_neg (by omega), if_pos (by omega), if_pos (by omega), wrap_id (by omega) (by omega), if_pos (by omega), if_pos (by omega), Lib.decDigits, dif_pos (by omega)]
    rfl
  | succ m ih =>
    intro u hu hb
    by_cases h : u < 10
    · refine Ev.step (f := fun _ => some _) (fun k => ?_) (Ev.now _)
      simp only [Dj.f]
      rw [if_neg (by omega), if_pos (by omega), if_pos (by omega), wrap_id (by omega) (by omega), if_pos (by omega), if_pos (by omega), Lib.decDigits, dif_pos h, ← digit_cut u h]
      rfl
    · have hd : wrap64 (Int.tdiv (u : Int) 10) = ((u / 10 : Nat) : Int) := by
        rw [Int.tdiv_eq_ediv_of_nonneg (by omega), wrap_id (by omega) (by omega)]; omega
      have hm : Int.tmod (u : Int) 10 = ((u % 10 : Nat) : Int) := by rw [Int.tmod_eq_emod_of_nonneg (by omega)]; omega
      refine Ev.step (f := fun k => (Dj.f k ((u / 10 : Nat) : Int)).bind fun t => if t.size + (⟨[UInt8.ofNat (48 + u % 10)].toArray⟩ : ByteArray).size ≤ 9223372036854775807 then some (t ++ ⟨[UInt8.ofNat (48 + u % 10)].toArray⟩) else none) (fun k => ?_) ?_
      · simp only [Dj.f]
        rw [if_neg (by omega), if_neg (by omega), hd, hm]
        congr 1
        funext t
        rw [if_pos (by omega), wrap_id (x := ((u % 10 : Nat) : Int) + 1) (by omega) (by omega), if_pos (by omega), if_pos (by omega)]
        have e : (((u % 10 : Nat) : Int) + 1).toNat = u % 10 + 1 := by omega
        rw [Int.toNat_natCast, e, digit_cut (u % 10) (by omega)]
      · have i1 := ih (u / 10) (by omega) (by omega)
        have hs := decDigits_le (u / 10) (by omega)
        refine Ev.bind i1 (Ev.congr (fun k => if_pos ?_) ?_)
        · rw [size_B, size_B, B_mk, B_mk]; simp only [List.length_cons, List.length_nil]; omega
        · rw [mk_append, Lib.decDigits.eq_1 u, dif_neg h]; exact Ev.now _
theorem specNum_ev (n : Int) (h0 : -9223372036854775807 ≤ n) (h1 : n ≤ 9223372036854775807) : Ev (fun k => Dj.f k n) (dec n) := by
  by_cases h : n < 0
  · have e : wrap64 (-n) = ((n.natAbs : Nat) : Int) := by rw [wrap_id (by omega) (by omega)]; omega
    have hs := decDigits_le n.natAbs (by omega)
    refine Ev.step (f := fun k => (Dj.f k ((n.natAbs : Nat) : Int)).bind fun t => if 1 + t.size ≤ 9223372036854775807 then some ((⟨#[45]⟩ : ByteArray) ++ t) else none) (fun k => ?_) (Ev.bind (specNum_nat n.natAbs n.natAbs (Nat.le_refl _) (by omega)) (Ev.congr (fun k => if_pos ?_) ?_))
    · simp only [Dj.f]
      rw [if_pos h, e]
    · rw [size_B, B_mk]; omega
    · have : dec n = (⟨#[45]⟩ : ByteArray) ++ ⟨(Lib.decDigits n.natAbs).toArray⟩ := B_inj (by rw [F9, B_dec, B_mk]; unfold Lib.itoa; rw [if_pos h]; rfl)
      rw [this]; exact Ev.now _
  · obtain ⟨u, rfl⟩ : ∃ u : Nat, n = (u : Int) := ⟨n.toNat, by omega⟩
    have : dec (u : Int) = ⟨(Lib.decDigits u).toArray⟩ := by unfold dec Lib.itoa; rw [if_neg h, Int.toNat_natCast]
    rw [this]
    exact specNum_nat u u (Nat.le_refl _) (by omega)
end Go.Proofs.YtkpieljmhgfofaaDoor.X

namespace Go.Proofs.YtkpieljmhgfofaaDoor.X
open Go.RowKit Go.Proofs.YtkpieljmhgfofaaDoorW.PrintWords Go.Proofs.YtkpieljmhgfofaaDoorL
def sumStep (h : Int) (b : UInt8) : Int := Int.tmod (41 * h + (b.toNat : Int) + 1) 999979
def sumB (l : List UInt8) : Int := l.foldl sumStep 7
theorem sumStep_bound (h : Int) (b : UInt8) (h0 : 0 ≤ h) : 0 ≤ sumStep h b ∧ sumStep h b < 999979 := by
  have := b.toNat_lt
  exact ⟨Int.tmod_nonneg _ (by omega), Int.tmod_lt_of_pos _ (by omega)⟩
theorem Ib (l : List UInt8) (n : Nat) (h : n < l.length) : sumB (l.take (n + 1)) = sumStep (sumB (l.take n)) l[n] := by
  unfold sumB; rw [List.take_succ_eq_append_getElem h, List.foldl_append]; rfl
theorem sumB_bound (l : List UInt8) : ∀ n, n ≤ l.length → 0 ≤ sumB (l.take n) ∧ sumB (l.take n) < 999979 := by
  intro n
  induction n with
  | zero => intro _; simp [sumB]
  | succ n ih => intro h; rw [Ib l n (by omega)]; exact sumStep_bound _ _ (ih (by omega)).1
theorem sumB_ok (l : List UInt8) : 0 ≤ sumB l ∧ sumB l < 999979 := by have := sumB_bound l l.length (Nat.le_refl _); rwa [List.take_length] at this
theorem sum_expr (h : Int) (b : UInt8) (h0 : 0 ≤ h) (h1 : h < 999979) : Int.tmod (wrap64 ((wrap64 ((wrap64 (41 * h)) + (wrap64 (b.toNat : Int)))) + 1)) 999979 = sumStep h b := by
  have := b.toNat_lt
  unfold sumStep
  rw [wrap_id (x := 41 * h) (by omega) (by omega), wrap_id (x := (b.toNat : Int)) (by omega) (by omega), wrap_id (x := 41 * h + (b.toNat : Int)) (by omega) (by omega), wrap_id (x := 41 * h + (b.toNat : Int) + 1) (by omega) (by omega)]
theorem specSum_ev (s : ByteArray) (hs : s.size ≤ 1000000000) : Ev (fun k => Ee.f k s) (sumB (B s)) := by
  have key : ∀ (d n : Nat), n + d = (B s).length → Ev (fun k => Ee.l0 k s (sumB ((B s).take n)) n) (sumB (B s)) := by
    intro d
    induction d with
    | zero =>
      intro n hn
      obtain rfl : n = (B s).length := by omega
      rw [List.take_length]
      exact Ev.step (f := fun _ => some _) (fun k => by simp only [Ee.l0]; rw [if_neg (by rw [size_B]; omega)]) (Ev.now _)
    | succ d ih =>
      intro n hn
      have hb := sumB_bound (B s) n (by omega)
      have i1 := ih (n + 1) (by omega)
      rw [Ib _ n (by omega)] at i1
      rw [size_B] at hs
      refine Ev.step (fun k => ?_) i1
      simp only [Ee.l0]
      rw [if_pos (by rw [size_B]; omega), if_pos (by omega), bt_B s n (by omega), sum_expr _ _ hb.1 hb.2, wrap_succ (by omega)]
  exact key (B s).length 0 (by omega)
theorem implSum_ev (s : ByteArray) (hs : s.size ≤ 4000) : Ev (fun k => Dw.f k s) (sumB (B s), true) := by
  have key : ∀ (d n : Nat), n + d = (B s).length → Ev (fun k => Dw.l0 k s (sumB ((B s).take n)) (s.size : Int) n) (sumB (B s), true) := by
    intro d
    induction d with
    | zero =>
      intro n hn
      obtain rfl : n = (B s).length := by omega
      rw [List.take_length]
      exact Ev.step (f := fun _ => some _) (fun k => by simp only [Dw.l0]; rw [if_neg (by rw [size_B]; omega)]) (Ev.now _)
    | succ d ih =>
      intro n hn
      have hb := sumB_bound (B s) n (by omega)
      have i1 := ih (n + 1) (by omega)
      rw [Ib _ n (by omega)] at i1
      have hs2 := hs
      rw [size_B] at hs2
      refine Ev.step (fun k => ?_) i1
      simp only [Dw.l0]
      rw [if_pos (by rw [size_B]; omega), if_pos (by omega), if_pos (by rw [size_B]; omega), bt_B s n (by omega), sum_expr _ _ hb.1 hb.2, wrap_succ (by omega)]
  refine Ev.congr (fun k => ?_) (key (B s).length 0 (by omega))
  unfold Dw.f
  rw [if_neg (by omega)]
  rfl
/-- A text with its checksum. -/
def Fg (s : ByteArray) : ByteArray := (s ++ ⟨#[35]⟩) ++ dec (sumB (B s))
theorem H8 (s : ByteArray) : s.size + 2 ≤ (Fg s).size + 1 ∧ (Fg s).size ≤ s.size + 22 := by
  have h := sumB_ok (B s)
  have hd := Ha (sumB (B s)) (by omega) (by omega)
  have : (Fg s).size = s.size + 1 + (dec (sumB (B s))).size := by unfold Fg; rw [ByteArray.size_append, ByteArray.size_append]; rfl
  omega
theorem specSeal_ev (s : ByteArray) (hs : s.size ≤ 1000000000) : Ev (fun k => Fh.f k s) (Fg s) := by
  have h := sumB_ok (B s)
  have hd := Ha (sumB (B s)) (by omega) (by omega)
  unfold Fh.f
  simp only [if_pos (show s.size + 1 ≤ 9223372036854775807 by omega)]
  refine Ev.bind (specSum_ev s hs) (Ev.bind (specNum_ev _ (by omega) (by omega)) (Ev.congr (fun k => if_pos ?_) (Ev.now _)))
  rw [ByteArray.size_append]
  show s.size + 1 + _ ≤ _
  omega
theorem contains35 (s : ByteArray) (c : UInt8) : strings_Contains.f s ⟨#[c]⟩ = some ((B s).contains c) := by
  have e : stringslite_Index.f s ⟨#[c]⟩ = some (Lib.indexByte (B s) c) := rfl
  unfold strings_Contains.f strings_Index.f
  rw [e]
  simp only [Option.bind_some]
  rw [Lib.contains_iff_indexByte]
theorem implSeal_ev (s : ByteArray) (hs : s.size ≤ 3900) (hn : (B s).contains 35 = false) : Ev (fun k => Dq.f k s) (Fg s, true) := by
  have h := sumB_ok (B s)
  have hd := Ha (sumB (B s)) (by omega) (by omega)
  have hz := (H8 s).2
  unfold Dq.f
  refine Ev.bind (implSum_ev s (by omega)) ?_
  simp only [if_pos (show s.size + 1 ≤ 9223372036854775807 by omega), implDec _ (show -9223372036854775808 ≤ sumB (B s) by omega) (show sumB (B s) ≤ 9223372036854775807 by omega), Option.bind_some, if_true]
  refine Ev.congr (fun k => ?_) (Ev.now _)
  rw [if_pos (by rw [ByteArray.size_append]; show s.size + 1 + _ ≤ _; omega), contains35, hn]
  simp only [Option.bind_some, Bool.false_eq_true, if_false]
  rw [if_neg]
  · rfl
  · show ¬ (((Fg s).size : Nat) : Int) > 4000
    omega
end Go.Proofs.YtkpieljmhgfofaaDoor.X

namespace Go.Proofs.YtkpieljmhgfofaaDoor.X
open Go.RowKit Go.Proofs.YtkpieljmhgfofaaDoorW.PrintWords Go.Proofs.YtkpieljmhgfofaaDoorW.PrintLast Go.Proofs.YtkpieljmhgfofaaDoorW.PrintMore
attribute [local go_sem] max2_int min2_int max_two min_two max_three min_three max_four min_four
open Go.Proofs.YtkpieljmhgfofaaDoorG
def Gt.f (k : Nat) (a0 : Int) (a1_0 : ByteArray) (a1_1 : ByteArray) : Option (ByteArray × Bool) := (Gi.f a0 0 59).bind fun t115 => (if t115 = true then ((Dl.f k a1_0 a1_1).bind fun t116 => (if t116 = true then ((Ci.f k a0 a1_0 a1_1).bind fun t117 => (some (t117, true))) else (some ((⟨#[]⟩ : ByteArray), false)))) else (some ((⟨#[]⟩ : ByteArray), false)))
theorem Gt.mono : ∀ a0 a1 a2 k, LeO (Gt.f k a0 a1 a2) (Gt.f (k + 1) a0 a1 a2) := by
  intro a0 a1 a2 k
  unfold Gt.f
  repeat' first
      | (with_reducible exact Dl.mono _ _ _)
      | (with_reducible exact Ci.mono _ _ _ _)
      | (with_reducible exact LeO.refl _)
      | (with_reducible exact LeO.none _)
      | (with_reducible refine LeO.ite ?_ ?_)
      | (with_reducible refine LeO.bind ?_ (fun _ => ?_))
      | exact Dl.mono _ _ _
      | exact Ci.mono _ _ _ _
      | exact LeO.none _
      | refine LeO.ite ?_ ?_
      | refine LeO.bind ?_ (fun _ => ?_)
set_option maxHeartbeats 8000000 in
set_option maxRecDepth 100000 in
theorem Gt.calls (k : Nat) (a0 : Int) (a1_0 : ByteArray) (a1_1 : ByteArray) (r1 : ByteArray) (r2 : Bool) (w : World) (h : Gt.f k a0 a1_0 a1_1 = some (r1, r2)) :
    Calls Tryd.prog 14 #[.int .i64 a0, .agg #[.string a1_0, .string a1_1]] w fun e w' => e = .returned (.tuple #[.string r1, .bool r2]) ∧ Below w.heap.size w w' := by
  have hu27 := Tryd.underlying27
  have HB := Aside0.mk (Below.refl w.heap.size w)
  have H : ((Gi.f a0 0 59).bind fun t115 => (if t115 = true then ((Dl.f k a1_0 a1_1).bind fun t116 => (if t116 = true then ((Ci.f k a0 a1_0 a1_1).bind fun t117 => (some (t117, true))) else (some ((⟨#[]⟩ : ByteArray), false)))) else (some ((⟨#[]⟩ : ByteArray), false)))) = some (r1, r2) := h
  clear h
  replace H := Option.bind_eq_some_iff.mp H
  obtain ⟨t115, A30, H⟩ := H
  replace H : (if t115 = true then ((Dl.f k a1_0 a1_1).bind fun t116 => (if t116 = true then ((Ci.f k a0 a1_0 a1_1).bind fun t117 => (some (t117, true))) else (some ((⟨#[]⟩ : ByteArray), false)))) else (some ((⟨#[]⟩ : ByteArray), false))) = some (r1, r2) := H
  have A3 := Aside0.mk A30
  clear A30
  by_cases c4 : t115 = true
  · subst c4
    have H1 : ((Dl.f k a1_0 a1_1).bind fun t116 => (if t116 = true then ((Ci.f k a0 a1_0 a1_1).bind fun t117 => (some (t117, true))) else (some ((⟨#[]⟩ : ByteArray), false)))) = some (r1, r2) := by rw [if_pos rfl] at H; exact H
    clear H
    have H := H1
    clear H1
    replace H := Option.bind_eq_some_iff.mp H
    obtain ⟨t116, A50, H⟩ := H
    replace H : (if t116 = true then ((Ci.f k a0 a1_0 a1_1).bind fun t117 => (some (t117, true))) else (some ((⟨#[]⟩ : ByteArray), false))) = some (r1, r2) := H
    have A5 := Aside0.mk A50
    clear A50
    by_cases c6 : t116 = true
    · subst c6
      have H1 : ((Ci.f k a0 a1_0 a1_1).bind fun t117 => (some (t117, true))) = some (r1, r2) := by rw [if_pos rfl] at H; exact H
      clear H
      have H := H1
      clear H1
      replace H := Option.bind_eq_some_iff.mp H
      obtain ⟨t117, A70, H⟩ := H
      replace H : (some (t117, true)) = some (r1, r2) := H
      have A7 := Aside0.mk A70
      clear A70
      simp only [Option.some.injEq, Prod.mk.injEq] at H
      obtain ⟨rfl, rfl⟩ := H
      go_enter Tryd.func14, Tryd.ntmps14
      go_wp2_with (first | ((with_reducible refine Bd (N := 3) rfl ?_); refine Bc ?hg (N := 3) ?hd (cs := #[.string a1_0, .string a1_1]) (t := 27) ?hr ?_; (case hd => rfl); (case hg => rfl); (case hr => first | (go_simp; done) | (go_simp; rfl)); intro gb0 hg w8 hbox hb; have n0_ := Aside0.mk (Ag Ya_ hb); have n1_ := Aside0.mk (hbox); have n2_ := Aside0.mk ((by rw [hg]; exact (Ah Ya_) : w.heap.size ≤ gb0)); have n3_ := Aside0.mk ((by rw [hg]; exact (Ah Ya_) : w.heap.size ≤ gb0)); clear HB; have HB := n0_; have BK0 := n1_; have GW0 := n2_; have GE0 := n3_; clear n0_ n1_ n2_ n3_; clear hb hbox hg) | ((with_reducible refine Am (f := 42) rfl ?_); refine Be (some 7) rfl rfl Tryd.func42 (by kernel_rfl) rfl #[.int .i64 a0, .int .i64 0, .int .i64 59] rfl Yc_ ?_; (with_reducible refine (Gi.calls a0 0 59 true _ A3.out).mono ?_); rintro e w' ⟨rfl, ⟨nd, rfl⟩⟩; refine ⟨_, rfl, ?_⟩; have hcz9_0 : w8.cell? ⟨gb0, 0, none⟩ = some (.string a1_0) := (Ae BK0.out 0).trans rfl; have hcz9_1 : w8.cell? ⟨gb0, 1, none⟩ = some (.string a1_1) := (Ae BK0.out 1).trans rfl; have hfz9_0 := Af BK0.out 0; have hfz9_1 := Af BK0.out 1) | (go_at_call 43; (with_reducible refine (Dl.calls k a1_0 a1_1 true _ A5.out).mono ?_); rintro e w10 ⟨rfl, hb⟩; have n0_ := Aside0.mk (Ai (g := gb0) (o := .cells #[.string a1_0, .string a1_1] 27 (0, 0)) Yd_ hb); have n1_ := Aside0.mk (Ag Yb_ hb); clear BK0; clear HB; have BK0 := n0_; have HB := n1_; clear n0_ n1_; (try clear hb); (try clear hb2); (try clear hk); (try clear hi); have hcz11_0 : w10.cell? ⟨gb0, 0, none⟩ = some (.string a1_0) := (Ae BK0.out 0).trans rfl; have hcz11_1 : w10.cell? ⟨gb0, 1, none⟩ = some (.string a1_1) := (Ae BK0.out 1).trans rfl; have hfz11_0 := Af BK0.out 0; have hfz11_1 := Af BK0.out 1) | ((with_reducible refine Am (f := 44) rfl ?_); refine Be (some 16) rfl rfl Tryd.func44 (by kernel_rfl) rfl #[.int .i64 a0, .agg #[.string a1_0, .string a1_1]] rfl Yc_ ?_; (with_reducible refine (Ci.calls k a0 a1_0 a1_1 t117 _ A7.out).mono ?_); rintro e w12 ⟨rfl, hb⟩; refine ⟨_, rfl, ?_⟩; have n0_ := Aside0.mk (Ai (g := gb0) (o := .cells #[.string a1_0, .string a1_1] 27 (0, 0)) Yd_ hb); have n1_ := Aside0.mk (Ag Yb_ hb); clear BK0; clear HB; have BK0 := n0_; have HB := n1_; clear n0_ n1_; (try clear hb); (try clear hb2); (try clear hk); (try clear hi)))
      go_ret2
      exact ⟨by first | rfl | (simp [Ak, Aj] <;> rfl) | (simp [*, Ak, Aj] <;> rfl), by repeat (first | (with_reducible first | exact HB.out | apply below_alloc | apply pw_below_drewN | apply below_drew1 | refine below_set ?_ GE0.out) | exact HB.out)⟩
    · replace c6 := Bool.eq_false_iff.mpr c6
      subst c6
      have H1 : (some ((⟨#[]⟩ : ByteArray), false)) = some (r1, r2) := by rw [if_neg (show ¬ (false = true) by decide)] at H; exact H
      clear H
      have H := H1
      clear H1
      simp only [Option.some.injEq, Prod.mk.injEq] at H
      obtain ⟨rfl, rfl⟩ := H
      go_enter Tryd.func14, Tryd.ntmps14
      go_wp2_with (first | ((with_reducible refine Bd (N := 3) rfl ?_); refine Bc ?hg (N := 3) ?hd (cs := #[.string a1_0, .string a1_1]) (t := 27) ?hr ?_; (case hd => rfl); (case hg => rfl); (case hr => first | (go_simp; done) | (go_simp; rfl)); intro gb0 hg w13 hbox hb; have n0_ := Aside0.mk (Ag Ya_ hb); have n1_ := Aside0.mk (hbox); have n2_ := Aside0.mk ((by rw [hg]; exact (Ah Ya_) : w.heap.size ≤ gb0)); have n3_ := Aside0.mk ((by rw [hg]; exact (Ah Ya_) : w.heap.size ≤ gb0)); clear HB; have HB := n0_; have BK0 := n1_; have GW0 := n2_; have GE0 := n3_; clear n0_ n1_ n2_ n3_; clear hb hbox hg) | ((with_reducible refine Am (f := 42) rfl ?_); refine Be (some 7) rfl rfl Tryd.func42 (by kernel_rfl) rfl #[.int .i64 a0, .int .i64 0, .int .i64 59] rfl Yc_ ?_; (with_reducible refine (Gi.calls a0 0 59 true _ A3.out).mono ?_); rintro e w' ⟨rfl, ⟨nd, rfl⟩⟩; refine ⟨_, rfl, ?_⟩; have hcz14_0 : w13.cell? ⟨gb0, 0, none⟩ = some (.string a1_0) := (Ae BK0.out 0).trans rfl; have hcz14_1 : w13.cell? ⟨gb0, 1, none⟩ = some (.string a1_1) := (Ae BK0.out 1).trans rfl; have hfz14_0 := Af BK0.out 0; have hfz14_1 := Af BK0.out 1) | (go_at_call 43; (with_reducible refine (Dl.calls k a1_0 a1_1 false _ A5.out).mono ?_); rintro e w15 ⟨rfl, hb⟩; have n0_ := Aside0.mk (Ai (g := gb0) (o := .cells #[.string a1_0, .string a1_1] 27 (0, 0)) Yd_ hb); have n1_ := Aside0.mk (Ag Yb_ hb); clear BK0; clear HB; have BK0 := n0_; have HB := n1_; clear n0_ n1_; (try clear hb); (try clear hb2); (try clear hk); (try clear hi)))
      go_ret2
      exact ⟨by first | rfl | (simp [Ak, Aj] <;> rfl) | (simp [*, Ak, Aj] <;> rfl), by repeat (first | (with_reducible first | exact HB.out | apply below_alloc | apply pw_below_drewN | apply below_drew1 | refine below_set ?_ GE0.out) | exact HB.out)⟩
  · replace c4 := Bool.eq_false_iff.mpr c4
    subst c4
    have H1 : (some ((⟨#[]⟩ : ByteArray), false)) = some (r1, r2) := by rw [if_neg (show ¬ (false = true) by decide)] at H; exact H
    clear H
    have H := H1
    clear H1
    simp only [Option.some.injEq, Prod.mk.injEq] at H
    obtain ⟨rfl, rfl⟩ := H
    go_enter Tryd.func14, Tryd.ntmps14
    go_wp2_with (first | ((with_reducible refine Bd (N := 3) rfl ?_); refine Bc ?hg (N := 3) ?hd (cs := #[.string a1_0, .string a1_1]) (t := 27) ?hr ?_; (case hd => rfl); (case hg => rfl); (case hr => first | (go_simp; done) | (go_simp; rfl)); intro gb0 hg w16 hbox hb; have n0_ := Aside0.mk (Ag Ya_ hb); have n1_ := Aside0.mk (hbox); have n2_ := Aside0.mk ((by rw [hg]; exact (Ah Ya_) : w.heap.size ≤ gb0)); have n3_ := Aside0.mk ((by rw [hg]; exact (Ah Ya_) : w.heap.size ≤ gb0)); clear HB; have HB := n0_; have BK0 := n1_; have GW0 := n2_; have GE0 := n3_; clear n0_ n1_ n2_ n3_; clear hb hbox hg) | ((with_reducible refine Am (f := 42) rfl ?_); refine Be (some 7) rfl rfl Tryd.func42 (by kernel_rfl) rfl #[.int .i64 a0, .int .i64 0, .int .i64 59] rfl Yc_ ?_; (with_reducible refine (Gi.calls a0 0 59 false _ A3.out).mono ?_); rintro e w' ⟨rfl, ⟨nd, rfl⟩⟩; refine ⟨_, rfl, ?_⟩))
    go_ret2
    exact ⟨by first | rfl | (simp [Ak, Aj] <;> rfl) | (simp [*, Ak, Aj] <;> rfl), by repeat (first | (with_reducible first | exact HB.out | apply below_alloc | apply pw_below_drewN | apply below_drew1 | refine below_set ?_ GE0.out) | exact HB.out)⟩
end Go.Proofs.YtkpieljmhgfofaaDoor.X

