/- Texts that the proof of the law FnExactParseReport leans on, part 5 of 6. -/
import Derived.Shelf.Abstract
import Derived.Deep.Slices
import Derived.ChangeSame
import Derived.ChangeArms
import Derived.DataReads
import Derived.SizedLaws
import Derived.ProofKit
import Derived.Lib.SmallJoins
import Derived.ChangeOld
import Derived.Below
import Derived.Lib.IndexAny
import Derived.Lib.ItoaNum
import Derived.Lib.ItoaLen
import Derived.Test.YtghnljoaklmakaaDoorKFnExactParseReport0
import Derived.Test.YtghnljoaklmakaaDoorKFnExactParseReport1
import Derived.Test.YtghnljoaklmakaaDoorKFnExactParseReport2
import Derived.Test.YtghnljoaklmakaaDoorKFnExactParseReport3
set_option linter.unusedVariables false
set_option linter.unusedSimpArgs false
namespace Go.Proofs.YtghnljoaklmakaaDoor.X
open Go.RowKit Go.Proofs.YtghnljoaklmakaaDoorW.PrintWords Go.Proofs.YtghnljoaklmakaaDoorW.PrintLast Go.Proofs.YtghnljoaklmakaaDoorW.PrintMore
attribute [local go_sem] Ea Eb Eh Eg Dz D5 Ec D9
open Go.Proofs.YtghnljoaklmakaaDoorG
mutual
def Bc.j0 : Nat → ByteArray → ByteArray → Bool → Option (Int × ByteArray × Int × Int × Bool)
  | 0, _, _, _ => none
  | k + 1, x0, x4, x22 => if x22 = true then (some (0, (⟨#[]⟩ : ByteArray), 0, 0, false)) else (if 8 ≤ (x4.size : Int) then ((Dj.f k (x4.extract 8 x4.size)).bind fun t338 => (if 0 < (t338.length : Int) then (if 1 < (t338.length : Int) then (Bc.l0 k x0 x4 (([(⟨1, (⟨#[]⟩ : ByteArray), rd t338 0, 0⟩ : S27), (⟨2, (⟨#[]⟩ : ByteArray), rd t338 0, rd t338 1⟩ : S27), (⟨4, (⟨#[]⟩ : ByteArray), rd t338 0, 0⟩ : S27), (⟨5, (⟨#[]⟩ : ByteArray), rd t338 0, rd t338 1⟩ : S27)] : List (S27))) 1) else (none)) else (none))) else (none))
def Bc.l0 : Nat → ByteArray → ByteArray → List (S27) → Int → Option (Int × ByteArray × Int × Int × Bool)
  | 0, _, _, _, _ => none
  | k + 1, x0, x4, x7, x8 => if x8 ≤ 15 then (if x7.length < 3518437208883 then (Bc.l0 k x0 x4 (x7 ++ [(⟨3, (⟨#[]⟩ : ByteArray), x8, 0⟩ : S27)]) (wrap64 (x8 + 1))) else (none)) else (Bc.l1 k x0 x4 x7 (x7.length : Int) 0)
def Bc.l1 : Nat → ByteArray → ByteArray → List (S27) → Int → Int → Option (Int × ByteArray × Int × Int × Bool)
  | 0, _, _, _, _, _ => none
  | k + 1, x0, x4, x59, x60, x61 => if x61 < x60 then (if 0 ≤ x61 then (if x61 < (x59.length : Int) then (if 0 ≤ 8 then (if 8 ≤ (x4.size : Int) then ((D7.f k ((Ak x59 x61).f0) (x4.extract 0 8) ((Ak x59 x61).f2) ((Ak x59 x61).f3)).bind fun t355 => (if t355 = true then ((Dk.f k ((Ak x59 x61).f0) (x4.extract 0 8) ((Ak x59 x61).f2) ((Ak x59 x61).f3)).bind fun t356 => (if t356.toList = x0.toList then (some ((Ak x59 x61).f0, x4.extract 0 8, (Ak x59 x61).f2, (Ak x59 x61).f3, true)) else (Bc.l1 k x0 x4 x59 x60 (wrap64 (x61 + 1))))) else (Bc.l1 k x0 x4 x59 x60 (wrap64 (x61 + 1))))) else (none)) else (none)) else (none)) else (none)) else (some (0, (⟨#[]⟩ : ByteArray), 0, 0, false))
end
def Bc.f (k : Nat) (a0 : ByteArray) : Option (Int × ByteArray × Int × Int × Bool) := (strings_CutPrefix.f a0 (⟨#[67, 111, 110, 116, 97, 105, 110, 101, 114, 32]⟩ : ByteArray)).bind fun bt336 => (if bt336.2 = true then (Bc.j0 k a0 bt336.1 (decide ((bt336.1.size : Int) < 8))) else (Bc.j0 k a0 bt336.1 true))
theorem Bc.Ed : ∀ k, (∀ y0 y1 y2, LeO (Bc.j0 k y0 y1 y2) (Bc.j0 (k + 1) y0 y1 y2)) ∧ (∀ y0 y1 y2 y3, LeO (Bc.l0 k y0 y1 y2 y3) (Bc.l0 (k + 1) y0 y1 y2 y3)) ∧ (∀ y0 y1 y2 y3 y4, LeO (Bc.l1 k y0 y1 y2 y3 y4) (Bc.l1 (k + 1) y0 y1 y2 y3 y4))
  | 0 => ⟨fun _ _ _ r h => by simp [Bc.j0] at h, fun _ _ _ _ r h => by simp [Bc.l0] at h, fun _ _ _ _ _ r h => by simp [Bc.l1] at h⟩
  | k + 1 => by
    obtain ⟨ih0, ih1, ih2⟩ := Bc.Ed k
    refine ⟨?_, ?_, ?_⟩
    · intro y0 y1 y2
      unfold Bc.j0
      repeat' first
      | (with_reducible exact ih0 _ _ _)
      | (with_reducible exact ih1 _ _ _ _)
      | (with_reducible exact ih2 _ _ _ _ _)
      | (with_reducible exact D7.mono _ _ _ _ _)
      | (with_reducible exact Dk.mono _ _ _ _ _)
      | (with_reducible exact Dj.mono _ _)
      | (with_reducible exact LeO.refl _)
      | (with_reducible exact LeO.none _)
      | (with_reducible refine LeO.ite ?_ ?_)
      | (with_reducible refine LeO.bind ?_ (fun _ => ?_))
      | exact ih0 _ _ _
      | exact ih1 _ _ _ _
      | exact ih2 _ _ _ _ _
      | exact D7.mono _ _ _ _ _
      | exact Dk.mono _ _ _ _ _
      | exact Dj.mono _ _
      | exact LeO.none _
      | refine LeO.ite ?_ ?_
      | refine LeO.bind ?_ (fun _ => ?_)
    · intro y0 y1 y2 y3
      unfold Bc.l0
      repeat' first
      | (with_reducible exact ih0 _ _ _)
      | (with_reducible exact ih1 _ _ _ _)
      | (with_reducible exact ih2 _ _ _ _ _)
      | (with_reducible exact D7.mono _ _ _ _ _)
      | (with_reducible exact Dk.mono _ _ _ _ _)
      | (with_reducible exact Dj.mono _ _)
      | (with_reducible exact LeO.refl _)
      | (with_reducible exact LeO.none _)
      | (with_reducible refine LeO.ite ?_ ?_)
      | (with_reducible refine LeO.bind ?_ (fun _ => ?_))
      | exact ih0 _ _ _
      | exact ih1 _ _ _ _
      | exact ih2 _ _ _ _ _
      | exact D7.mono _ _ _ _ _
      | exact Dk.mono _ _ _ _ _
      | exact Dj.mono _ _
      | exact LeO.none _
      | refine LeO.ite ?_ ?_
      | refine LeO.bind ?_ (fun _ => ?_)
    · intro y0 y1 y2 y3 y4
      unfold Bc.l1
      repeat' first
      | (with_reducible exact ih0 _ _ _)
      | (with_reducible exact ih1 _ _ _ _)
      | (with_reducible exact ih2 _ _ _ _ _)
      | (with_reducible exact D7.mono _ _ _ _ _)
      | (with_reducible exact Dk.mono _ _ _ _ _)
      | (with_reducible exact Dj.mono _ _)
      | (with_reducible exact LeO.refl _)
      | (with_reducible exact LeO.none _)
      | (with_reducible refine LeO.ite ?_ ?_)
      | (with_reducible refine LeO.bind ?_ (fun _ => ?_))
      | exact ih0 _ _ _
      | exact ih1 _ _ _ _
      | exact ih2 _ _ _ _ _
      | exact D7.mono _ _ _ _ _
      | exact Dk.mono _ _ _ _ _
      | exact Dj.mono _ _
      | exact LeO.none _
      | refine LeO.ite ?_ ?_
      | refine LeO.bind ?_ (fun _ => ?_)
theorem Bc.mono : ∀ a0 k, LeO (Bc.f k a0) (Bc.f (k + 1) a0) := by
  intro a0 k
  obtain ⟨ih0, ih1, ih2⟩ := Bc.Ed k
  unfold Bc.f
  repeat' first
      | (with_reducible exact ih0 _ _ _)
      | (with_reducible exact ih1 _ _ _ _)
      | (with_reducible exact ih2 _ _ _ _ _)
      | (with_reducible exact D7.mono _ _ _ _ _)
      | (with_reducible exact Dk.mono _ _ _ _ _)
      | (with_reducible exact Dj.mono _ _)
      | (with_reducible exact LeO.refl _)
      | (with_reducible exact LeO.none _)
      | (with_reducible refine LeO.ite ?_ ?_)
      | (with_reducible refine LeO.bind ?_ (fun _ => ?_))
      | exact ih0 _ _ _
      | exact ih1 _ _ _ _
      | exact ih2 _ _ _ _ _
      | exact D7.mono _ _ _ _ _
      | exact Dk.mono _ _ _ _ _
      | exact Dj.mono _ _
      | exact LeO.none _
      | refine LeO.ite ?_ ?_
      | refine LeO.bind ?_ (fun _ => ?_)
def Bc.T5 : Bool × List (List Nat × List Nat) := (true, [([], []), ([0], [0]), ([1], [1]), ([2], [2]), ([], []), ([4], [4]), ([5], [5]), ([], []), ([7], [7]), ([8], [8]), ([6, 9], [6, 9]), ([], []), ([11], [11]), ([12], [12]), ([13], [13]), ([], []), ([15], [15]), ([16], [16]), ([], []), ([18], [18]), ([19], [19]), ([17, 20], [17, 20]), ([3, 10, 14, 21], [3, 10, 14, 21]), ([22, 0, 1, 2, 3, 4, 5, 6, 7, 8, 9, 10, 11, 12, 13, 14, 15, 16, 17, 18, 19, 20, 21, 22], [22])])
def Bc.B5 : List Nat := [0, 1, 3, 7, 0, 16, 48, 0, 128, 384, 1008, 0, 2048, 6144, 14336, 0, 32768, 98304, 0, 262144, 786432, 2064384, 4194303, 8388607]
theorem Bc.tab5 : rtab .any (opsOf Tryd.f17 5) = Bc.T5 := by kernel_rfl
theorem Bc.bits5 : Hm Bc.T5.2 Bc.B5 = true := by kernel_rfl
set_option maxHeartbeats 8000000 in
set_option maxRecDepth 100000 in
theorem Bc.calls (k : Nat) (a0 : ByteArray) (r1 : Int) (r2 : ByteArray) (r3 : Int) (r4 : Int) (r5 : Bool) (w : World) (hG : Eo w) (h : Bc.f k a0 = some (r1, r2, r3, r4, r5)) :
    Calls Tryd.prog 17 #[.string a0] w fun e w' => e = .returned (.tuple #[.agg #[.int .i64 r1, .string r2, .int .i64 r3, .int .i64 r4], .bool r5]) ∧ Below w.heap.size w w' := by
  have hu27 := Tryd.underlying27
  have HGL := Ac.mk hG
  clear hG
  have HB := Ac.mk (Below.refl w.heap.size w)
  have H : ((strings_CutPrefix.f a0 (⟨#[67, 111, 110, 116, 97, 105, 110, 101, 114, 32]⟩ : ByteArray)).bind fun bt336 => (if bt336.2 = true then (Bc.j0 k a0 bt336.1 (decide ((bt336.1.size : Int) < 8))) else (Bc.j0 k a0 bt336.1 true))) = some (r1, r2, r3, r4, r5) := h
  clear h
  replace H := Option.bind_eq_some_iff.mp H
  obtain ⟨⟨t336, t337⟩, A20, H⟩ := H
  replace H : (if t337 = true then (Bc.j0 k a0 t336 (decide ((t336.size : Int) < 8))) else (Bc.j0 k a0 t336 true)) = some (r1, r2, r3, r4, r5) := H
  have A2 := Ac.mk A20
  clear A20
  have HC3 := Ac.mk H
  clear H
  go_enter Tryd.func17, Tryd.ntmps17
  go_upto_region 2 with (first | ((with_reducible refine Dh (N := 2) rfl ?_); (try (refine Gi (by rfl) ?_; dsimp only)); refine Dl ?hg (N := 2) ?hd (cs := #[.int .i64 0, .string (⟨#[]⟩ : ByteArray), .int .i64 0, .int .i64 0]) (t := 27) ?hr ?_; (case hd => rfl); (case hg => rfl); (case hr => first | (go_simp; done) | (go_simp; rfl)); intro gb0 hg w4 hbox hb; have n0_ := Ac.mk (Au Ya_ hb); have n1_ := Ac.mk (hbox); have n2_ := Ac.mk ((by rw [hg]; exact (Az Ya_) : w.heap.size ≤ gb0)); have n3_ := Ac.mk ((by rw [hg]; exact (Az Ya_) : w.heap.size ≤ gb0)); clear HB; have HB := n0_; have BK0 := n1_; have GW0 := n2_; have GE0 := n3_; clear n0_ n1_ n2_ n3_; clear hb hbox hg) | ((with_reducible refine Aw (f := 33) rfl ?_); refine Bj (some 13) rfl rfl Tryd.func33 (by kernel_rfl) rfl #[.string a0, .string (⟨#[67, 111, 110, 116, 97, 105, 110, 101, 114, 32]⟩ : ByteArray)] rfl Yb_ ?_; (with_reducible refine (strings_CutPrefix.calls a0 (⟨#[67, 111, 110, 116, 97, 105, 110, 101, 114, 32]⟩ : ByteArray) t336 t337 _ A2.out).mono ?_); rintro e w' ⟨rfl, ⟨nd, rfl⟩⟩; refine ⟨_, rfl, ?_⟩))
  (try simp only [Act.put, List.setIfInBounds_toArray, List.set_cons_zero, List.set_cons_succ])
  go_cut [22] (fun v22 wc => ∃ (kq : Nat) (x22_2 : Bool), v22 = .bool x22_2 ∧ Ac (Bc.j0 kq a0 t336 x22_2 = some (r1, r2, r3, r4, r5)) ∧ Ac (kq ≤ k) ∧ Ac (wc.heap[gb0]? = some (.cells #[.int .i64 0, .string (⟨#[]⟩ : ByteArray), .int .i64 0, .int .i64 0] 27 (0, 0))) ∧ Ac (Below w.heap.size w wc))
  case first =>
    have H := HC3.out
    clear HC3
    by_cases c5 : t337 = true
    · subst c5
      have H1 : (Bc.j0 k a0 t336 (decide ((t336.size : Int) < 8))) = some (r1, r2, r3, r4, r5) := by rw [if_pos rfl] at H; exact H
      clear H
      have H := H1
      clear H1
      have H' := Ac.mk H
      clear H
      go_wp2
      go_meet
      case rel => exact ⟨_, (decide ((t336.size : Int) < 8)), Yf_, H', ⟨by first | omega | exact Nat.le_refl _⟩, ⟨by (with_reducible repeat (first | refine Ah ?_ _ | refine Aj ?_ | refine Ai ?_ _)); exact BK0.out⟩, ⟨by repeat (first | (with_reducible first | exact HB.out | apply Ae | apply Aa | apply Ad | refine Am ?_ GE0.out) | exact HB.out)⟩⟩
    · replace c5 := Bool.eq_false_iff.mpr c5
      subst c5
      have H1 : (Bc.j0 k a0 t336 true) = some (r1, r2, r3, r4, r5) := by rw [if_neg (show ¬ (false = true) by decide)] at H; exact H
      clear H
      have H := H1
      clear H1
      have H' := Ac.mk H
      clear H
      go_wp2
      go_meet
      case rel => exact ⟨_, (true), Yf_, H', ⟨by first | omega | exact Nat.le_refl _⟩, ⟨by (with_reducible repeat (first | refine Ah ?_ _ | refine Aj ?_ | refine Ai ?_ _)); exact BK0.out⟩, ⟨by repeat (first | (with_reducible first | exact HB.out | apply Ae | apply Aa | apply Ad | refine Am ?_ GE0.out) | exact HB.out)⟩⟩
  case rest =>
    clear HC3
    try clear c1
    try clear p2
    try clear c3
    try clear c5
    obtain ⟨kq, x22_2, rfl, HA, HJ2, BK0, HB⟩ := hcut
    cases kq with
    | zero => exact absurd HA.out (by simp [Bc.j0])
    | succ kj2 =>
      have H := HA.out
      clear HA
      simp only [Bc.j0] at H
      by_cases c6 : x22_2 = true
      · subst c6
        have H1 : (some (0, (⟨#[]⟩ : ByteArray), 0, 0, false)) = some (r1, r2, r3, r4, r5) := by rw [if_pos rfl] at H; exact H
        clear H
        have H := H1
        clear H1
        simp only [Option.some.injEq, Prod.mk.injEq] at H
        obtain ⟨rfl, rfl, rfl, rfl, rfl⟩ := H
        have hcz7_0 : wc.cell? ⟨gb0, 0, none⟩ = some (.int .i64 0) := (Af BK0.out 0).trans rfl
        have hcz7_1 : wc.cell? ⟨gb0, 1, none⟩ = some (.string (⟨#[]⟩ : ByteArray)) := (Af BK0.out 1).trans rfl
        have hcz7_2 : wc.cell? ⟨gb0, 2, none⟩ = some (.int .i64 0) := (Af BK0.out 2).trans rfl
        have hcz7_3 : wc.cell? ⟨gb0, 3, none⟩ = some (.int .i64 0) := (Af BK0.out 3).trans rfl
        have hfz7_0 := Ag BK0.out 0
        have hfz7_1 := Ag BK0.out 1
        have hfz7_2 := Ag BK0.out 2
        have hfz7_3 := Ag BK0.out 3
        go_wp2
        refine bodyPost_ret (Hq rfl _ _ gb0 27 #[.int .i64 0, .string (⟨#[]⟩ : ByteArray), .int .i64 0, .int .i64 0] (0, 0) _ rfl Yi_ Tryd.underlying27 rfl (by kernel_rfl)) rfl ?_
        exact ⟨by first | rfl | (simp [Aq, Ar] <;> rfl) | (simp [*, Aq, Ar] <;> rfl), by repeat (first | (with_reducible first | exact HB.out | apply Ae | apply Aa | apply Ad | refine Am ?_ GE0.out) | exact HB.out)⟩
      · replace c6 := Bool.eq_false_iff.mpr c6
        subst c6
        have H1 : (if 8 ≤ (t336.size : Int) then ((Dj.f kj2 (t336.extract 8 t336.size)).bind fun t338 => (if 0 < (t338.length : Int) then (if 1 < (t338.length : Int) then (Bc.l0 kj2 a0 t336 (([(⟨1, (⟨#[]⟩ : ByteArray), rd t338 0, 0⟩ : S27), (⟨2, (⟨#[]⟩ : ByteArray), rd t338 0, rd t338 1⟩ : S27), (⟨4, (⟨#[]⟩ : ByteArray), rd t338 0, 0⟩ : S27), (⟨5, (⟨#[]⟩ : ByteArray), rd t338 0, rd t338 1⟩ : S27)] : List (S27))) 1) else (none)) else (none))) else (none)) = some (r1, r2, r3, r4, r5) := by rw [if_neg (show ¬ (false = true) by decide)] at H; exact H
        clear H
        have H := H1
        clear H1
        by_cases c8 : 8 ≤ (t336.size : Int)
        · rw [if_pos c8] at H
          have c8b0 := eq_true c8
          have c8b1 : decide (8 ≤ (t336.size : Int)) = true := decide_eq_true c8
          clear c8
          replace H := Option.bind_eq_some_iff.mp H
          obtain ⟨t338, A90, H⟩ := H
          replace H : (if 0 < (t338.length : Int) then (if 1 < (t338.length : Int) then (Bc.l0 kj2 a0 t336 (([(⟨1, (⟨#[]⟩ : ByteArray), rd t338 0, 0⟩ : S27), (⟨2, (⟨#[]⟩ : ByteArray), rd t338 0, rd t338 1⟩ : S27), (⟨4, (⟨#[]⟩ : ByteArray), rd t338 0, 0⟩ : S27), (⟨5, (⟨#[]⟩ : ByteArray), rd t338 0, rd t338 1⟩ : S27)] : List (S27))) 1) else (none)) else (none)) = some (r1, r2, r3, r4, r5) := H
          have A9 := Ac.mk A90
          clear A90
          by_cases c10 : 0 < (t338.length : Int)
          · rw [if_pos c10] at H
            have c10b0 : decide (0 < (t338.length : Int)) = true := decide_eq_true c10
            have c10b1 : decide (0 < t338.length) = true := decide_eq_true (by omega)
            clear c10
            by_cases c11 : 1 < (t338.length : Int)
            · rw [if_pos c11] at H
              have c11b0 : decide (1 < (t338.length : Int)) = true := decide_eq_true c11
              have c11b1 : decide (1 < t338.length) = true := decide_eq_true (by omega)
              clear c11
              obtain ⟨y347, hy347⟩ : ∃ y_ : List (S27), y_ = (([(⟨1, (⟨#[]⟩ : ByteArray), rd t338 0, 0⟩ : S27), (⟨2, (⟨#[]⟩ : ByteArray), rd t338 0, rd t338 1⟩ : S27), (⟨4, (⟨#[]⟩ : ByteArray), rd t338 0, 0⟩ : S27), (⟨5, (⟨#[]⟩ : ByteArray), rd t338 0, rd t338 1⟩ : S27)] : List (S27))) := ⟨_, rfl⟩
              replace H : (Bc.l0 kj2 a0 t336 y347 1) = some (r1, r2, r3, r4, r5) := by first | (rw [hy347]; with_reducible exact H) | (have H2_ := (Option.bind_some _ _).symm.trans H; rw [hy347]; with_reducible exact H2_) | (have H2_ := (Option.bind_some _ _).symm.trans H; with_reducible exact H2_) | with_reducible exact H | (rw [hy347]; exact H) | exact H
              have Ny347 := Ac.mk hy347
              clear hy347
              have H' := Ac.mk H
              clear H
              try go_wp2_with (first | ((with_reducible refine Aw (f := 34) rfl ?_); refine Bj (some 26) rfl rfl Tryd.func34 (by kernel_rfl) rfl #[.string (t336.extract 8 t336.size)] rfl Yb_ ?_; (with_reducible refine (Dj.calls kj2 (t336.extract 8 t336.size) t338 _ ?side1 A9.out).mono ?_); (case side1 => exact Eo.below HGL.out Yd_); rintro e w12 ⟨v339, rfl, ho0, hb⟩; refine ⟨_, rfl, ?_⟩; have n0_ := Ac.mk (Kd.F6 ho0 (Az Yd_)); have n1_ := Ac.mk (Ce (g := gb0) (o := .cells #[.int .i64 0, .string (⟨#[]⟩ : ByteArray), .int .i64 0, .int .i64 0] 27 (0, 0)) Ye_ hb); have n2_ := Ac.mk (Au Yd_ hb); clear BK0; clear HB; have HO340 := n0_; have BK0 := n1_; have HB := n2_; clear n0_ n1_ n2_; (try clear hb); (try clear hb2); (try clear hk); (try clear hi); (try clear ho0)))
              have n0_ := Ac.mk (Kd.Bl HO340.out)
              have n1_ := Ac.mk (Aj BK0.out)
              have n2_ := Ac.mk (Ad HB.out)
              clear HO340
              clear BK0
              clear HB
              have HO340 := n0_
              have BK0 := n1_
              have HB := n2_
              clear n0_ n1_ n2_
              obtain ⟨Ao14, co14, eo14⟩ := Kd.Ff HO340.out
              (first | subst eo14 | (injection eo14 with f1_ f2_ f3_; have f4_ := f1_.symm; have f5_ := f3_.symm; clear f1_ f2_ f3_; subst f4_; subst f5_))
              have p341 : 0 ≤ (0 : Int) := (by omega)
              have q341 : 0 < (t338.length : Int) := of_decide_eq_true Yc_
              obtain ⟨ad341, e341, hx341_0⟩ := Kd.at_int (Kd.Dv HO340.out).2.2 0 p341 q341
              cases e341
              have qi341 : (0 < t338.length) = True := eq_true (by omega)
              (try rw [show ((0 : Int)).toNat = 0 from rfl] at hx341_0)
              (try rw [Addr.add_zero'] at hx341_0)
              replace p341 := eq_true p341
              replace q341 := eq_true q341
              have p342 : 0 ≤ (0 : Int) := (by omega)
              have q342 : 0 < (t338.length : Int) := of_decide_eq_true Yc_
              obtain ⟨ad342, e342, hx342_0⟩ := Kd.at_int (Kd.Dv HO340.out).2.2 0 p342 q342
              obtain rfl : ad341 = ad342 := (by injection e342)
              have qi342 : (0 < t338.length) = True := eq_true (by omega)
              (try rw [show ((0 : Int)).toNat = 0 from rfl] at hx342_0)
              (try rw [Addr.add_zero'] at hx342_0)
              replace p342 := eq_true p342
              replace q342 := eq_true q342
              have p343 : 0 ≤ (1 : Int) := (by omega)
              have q343 : 1 < (t338.length : Int) := of_decide_eq_true Yc_
              obtain ⟨ad343, e343, hx343_0⟩ := Kd.at_int (Kd.Dv HO340.out).2.2 1 p343 q343
              obtain rfl : ad341 = ad343 := (by injection e343)
              (try simp only [show (1 : Int).toNat = 1 from rfl, Nat.reduceMul, Nat.reduceEqDiff, Go.Addr.add, ↓reduceIte] at hx343_0)
              have qi343 : (1 < t338.length) = True := eq_true (by omega)
              (try rw [show ((1 : Int)).toNat = 1 from rfl] at hx343_0)
              replace p343 := eq_true p343
              replace q343 := eq_true q343
              have p344 : 0 ≤ (0 : Int) := (by omega)
              have q344 : 0 < (t338.length : Int) := of_decide_eq_true Yc_
              obtain ⟨ad344, e344, hx344_0⟩ := Kd.at_int (Kd.Dv HO340.out).2.2 0 p344 q344
              obtain rfl : ad341 = ad344 := (by injection e344)
              have qi344 : (0 < t338.length) = True := eq_true (by omega)
              (try rw [show ((0 : Int)).toNat = 0 from rfl] at hx344_0)
              (try rw [Addr.add_zero'] at hx344_0)
              replace p344 := eq_true p344
              replace q344 := eq_true q344
              have p345 : 0 ≤ (0 : Int) := (by omega)
              have q345 : 0 < (t338.length : Int) := of_decide_eq_true Yc_
              obtain ⟨ad345, e345, hx345_0⟩ := Kd.at_int (Kd.Dv HO340.out).2.2 0 p345 q345
              obtain rfl : ad341 = ad345 := (by injection e345)
              have qi345 : (0 < t338.length) = True := eq_true (by omega)
              (try rw [show ((0 : Int)).toNat = 0 from rfl] at hx345_0)
              (try rw [Addr.add_zero'] at hx345_0)
              replace p345 := eq_true p345
              replace q345 := eq_true q345
              have p346 : 0 ≤ (1 : Int) := (by omega)
              have q346 : 1 < (t338.length : Int) := of_decide_eq_true Yc_
              obtain ⟨ad346, e346, hx346_0⟩ := Kd.at_int (Kd.Dv HO340.out).2.2 1 p346 q346
              obtain rfl : ad341 = ad346 := (by injection e346)
              (try simp only [show (1 : Int).toNat = 1 from rfl, Nat.reduceMul, Nat.reduceEqDiff, Go.Addr.add, ↓reduceIte] at hx346_0)
              have qi346 : (1 < t338.length) = True := eq_true (by omega)
              (try rw [show ((1 : Int)).toNat = 1 from rfl] at hx346_0)
              replace p346 := eq_true p346
              replace q346 := eq_true q346
              refine G7 (n := 24) (S := fun w' => w'.cell? ad341 = some (.int .i64 (rd t338 0)) ∧ w'.cell? ad341 = some (.int .i64 (rd t338 0)) ∧ w'.cell? ⟨ad341.block, ad341.off + 1, none⟩ = some (.int .i64 (rd t338 1)) ∧ w'.cell? ad341 = some (.int .i64 (rd t338 0)) ∧ w'.cell? ad341 = some (.int .i64 (rd t338 0)) ∧ w'.cell? ⟨ad341.block, ad341.off + 1, none⟩ = some (.int .i64 (rd t338 1))) (ds := []) #[false, false, false, false, false, false, false, false, false, false, false, false, false, false, false, false, false, false, false, false, false, false, false, false] (by kernel_rfl) rfl rfl ⟨hx341_0, hx342_0, hx343_0, hx344_0, hx345_0, hx346_0⟩ (fun hHeld => ?_); refine Gf Bc.tab5 Bc.bits5 (fun HT_ HW_ => ?_)
              generalize w12.drew = w13 at HO340 BK0 HB hx341_0 hx342_0 hx343_0 hx344_0 hx345_0 hx346_0 hHeld ⊢
              refine Du (i := 0) (N := some 27) (v := ?_) (a' := ?_) #[true, false, false, false, false, false, false, false, false, false, false, false, false, false, false, false, false, false, false, false, false, false, false, false] rfl rfl (Di HT_.out (by kernel_rfl)) (fun _ _ _ h => h) (Or.inl ⟨by rfl, ?_⟩) ?_ ?_
              rotate_left
              · intro w'
                go_simp
                with_reducible rfl
              rotate_left
              · simp only [Act.put, List.setIfInBounds_toArray, List.set_cons_zero, List.set_cons_succ, Bz, Cb]
                rfl
              refine Du (i := 1) (N := some 28) (v := ?_) (a' := ?_) #[true, true, false, false, false, false, false, false, false, false, false, false, false, false, false, false, false, false, false, false, false, false, false, false] rfl rfl (Di HT_.out (by kernel_rfl)) (fun _ _ _ h => h) (Or.inl ⟨by rfl, ?_⟩) ?_ ?_
              rotate_left
              · intro w'
                go_simp
                with_reducible rfl
              rotate_left
              · simp only [Act.put, List.setIfInBounds_toArray, List.set_cons_zero, List.set_cons_succ, Bz, Cb]
                rfl
              refine Du (i := 4) (N := some 31) (v := ?_) (a' := ?_) #[true, true, false, false, true, false, false, false, false, false, false, false, false, false, false, false, false, false, false, false, false, false, false, false] rfl rfl (Di HT_.out (by kernel_rfl)) (fun _ _ _ h => h) (Or.inl ⟨by rfl, ?_⟩) ?_ ?_
              rotate_left
              · intro w'
                go_simp
                with_reducible rfl
              rotate_left
              · simp only [Act.put, List.setIfInBounds_toArray, List.set_cons_zero, List.set_cons_succ, Bz, Cb]
                rfl
              refine Du (i := 5) (N := some 32) (v := ?_) (a' := ?_) #[true, true, false, false, true, true, false, false, false, false, false, false, false, false, false, false, false, false, false, false, false, false, false, false] rfl rfl (Di HT_.out (by kernel_rfl)) (fun _ _ _ h => h) (Or.inl ⟨by rfl, ?_⟩) ?_ ?_
              rotate_left
              · intro w'
                go_simp
                with_reducible rfl
              rotate_left
              · simp only [Act.put, List.setIfInBounds_toArray, List.set_cons_zero, List.set_cons_succ, Bz, Cb]
                rfl
              refine Du (i := 7) (N := some 34) (v := ?_) (a' := ?_) #[true, true, false, false, true, true, false, true, false, false, false, false, false, false, false, false, false, false, false, false, false, false, false, false] rfl rfl (Di HT_.out (by kernel_rfl)) (fun _ _ _ h => h) (Or.inl ⟨by rfl, ?_⟩) ?_ ?_
              rotate_left
              · intro w'
                go_simp
                with_reducible rfl
              rotate_left
              · simp only [Act.put, List.setIfInBounds_toArray, List.set_cons_zero, List.set_cons_succ, Bz, Cb]
                rfl
              refine Du (i := 8) (N := some 35) (v := ?_) (a' := ?_) #[true, true, false, false, true, true, false, true, true, false, false, false, false, false, false, false, false, false, false, false, false, false, false, false] rfl rfl (Di HT_.out (by kernel_rfl)) (fun _ _ _ h => h) (Or.inl ⟨by rfl, ?_⟩) ?_ ?_
              rotate_left
              · intro w'
                go_simp
                with_reducible rfl
              rotate_left
              · simp only [Act.put, List.setIfInBounds_toArray, List.set_cons_zero, List.set_cons_succ, Bz, Cb]
                rfl
              refine Du (i := 11) (N := some 38) (v := ?_) (a' := ?_) #[true, true, false, false, true, true, false, true, true, false, false, true, false, false, false, false, false, false, false, false, false, false, false, false] rfl rfl (Di HT_.out (by kernel_rfl)) (fun _ _ _ h => h) (Or.inl ⟨by rfl, ?_⟩) ?_ ?_
              rotate_left
              · intro w'
                go_simp
                with_reducible rfl
              rotate_left
              · simp only [Act.put, List.setIfInBounds_toArray, List.set_cons_zero, List.set_cons_succ, Bz, Cb]
                rfl
              refine Du (i := 12) (N := some 39) (v := ?_) (a' := ?_) #[true, true, false, false, true, true, false, true, true, false, false, true, true, false, false, false, false, false, false, false, false, false, false, false] rfl rfl (Di HT_.out (by kernel_rfl)) (fun _ _ _ h => h) (Or.inl ⟨by rfl, ?_⟩) ?_ ?_
              rotate_left
              · intro w'
                go_simp
                with_reducible rfl
              rotate_left
              · simp only [Act.put, List.setIfInBounds_toArray, List.set_cons_zero, List.set_cons_succ, Bz, Cb]
                rfl
              refine Du (i := 15) (N := some 42) (v := ?_) (a' := ?_) #[true, true, false, false, true, true, false, true, true, false, false, true, true, false, false, true, false, false, false, false, false, false, false, false] rfl rfl (Di HT_.out (by kernel_rfl)) (fun _ _ _ h => h) (Or.inl ⟨by rfl, ?_⟩) ?_ ?_
              rotate_left
              · intro w'
                go_simp
                with_reducible rfl
              rotate_left
              · simp only [Act.put, List.setIfInBounds_toArray, List.set_cons_zero, List.set_cons_succ, Bz, Cb]
                rfl
              refine Du (i := 16) (N := some 43) (v := ?_) (a' := ?_) #[true, true, false, false, true, true, false, true, true, false, false, true, true, false, false, true, true, false, false, false, false, false, false, false] rfl rfl (Di HT_.out (by kernel_rfl)) (fun _ _ _ h => h) (Or.inl ⟨by rfl, ?_⟩) ?_ ?_
              rotate_left
              · intro w'
                go_simp
                with_reducible rfl
              rotate_left
              · simp only [Act.put, List.setIfInBounds_toArray, List.set_cons_zero, List.set_cons_succ, Bz, Cb]
                rfl
              refine Du (i := 18) (N := some 45) (v := ?_) (a' := ?_) #[true, true, false, false, true, true, false, true, true, false, false, true, true, false, false, true, true, false, true, false, false, false, false, false] rfl rfl (Di HT_.out (by kernel_rfl)) (fun _ _ _ h => h) (Or.inl ⟨by rfl, ?_⟩) ?_ ?_
              rotate_left
              · intro w'
                go_simp
                with_reducible rfl
              rotate_left
              · simp only [Act.put, List.setIfInBounds_toArray, List.set_cons_zero, List.set_cons_succ, Bz, Cb]
                rfl
              refine Du (i := 19) (N := some 46) (v := ?_) (a' := ?_) #[true, true, false, false, true, true, false, true, true, false, false, true, true, false, false, true, true, false, true, true, false, false, false, false] rfl rfl (Di HT_.out (by kernel_rfl)) (fun _ _ _ h => h) (Or.inl ⟨by rfl, ?_⟩) ?_ ?_
              rotate_left
              · intro w'
                go_simp
                with_reducible rfl
              rotate_left
              · simp only [Act.put, List.setIfInBounds_toArray, List.set_cons_zero, List.set_cons_succ, Bz, Cb]
                rfl
              refine Fv (i := 2) (N := some 29) (v := ?_) (a' := ?_) #[true, true, true, false, true, true, false, true, true, false, false, true, true, false, false, true, true, false, true, true, false, false, false, false] rfl rfl (Et HT_.out HW_.out (by kernel_rfl)) (fun _ _ _ h => h) (Or.inl ⟨by rfl, ?_⟩) hHeld ?_ ?_
              rotate_left
              · rintro w' ⟨s0, s1, s2, s3, s4, s5⟩
                go_simp
                with_reducible rfl
              rotate_left
              · simp only [Act.put, List.setIfInBounds_toArray, List.set_cons_zero, List.set_cons_succ, Bz, Cb]
                rfl
              refine Du (i := 3) (N := some 30) (v := ?_) (a' := ?_) #[true, true, true, true, true, true, false, true, true, false, false, true, true, false, false, true, true, false, true, true, false, false, false, false] rfl rfl (Di HT_.out (by kernel_rfl)) (fun _ _ _ h => h) (Or.inl ⟨by rfl, ?_⟩) ?_ ?_
              rotate_left
              · intro w'
                go_simp
                with_reducible rfl
              rotate_left
              · simp only [Act.put, List.setIfInBounds_toArray, List.set_cons_zero, List.set_cons_succ, Bz, Cb]
                rfl
              refine Fv (i := 6) (N := some 33) (v := ?_) (a' := ?_) #[true, true, true, true, true, true, true, true, true, false, false, true, true, false, false, true, true, false, true, true, false, false, false, false] rfl rfl (Et HT_.out HW_.out (by kernel_rfl)) (fun _ _ _ h => h) (Or.inl ⟨by rfl, ?_⟩) hHeld ?_ ?_
              rotate_left
              · rintro w' ⟨s0, s1, s2, s3, s4, s5⟩
                go_simp
                with_reducible rfl
              rotate_left
              · simp only [Act.put, List.setIfInBounds_toArray, List.set_cons_zero, List.set_cons_succ, Bz, Cb]
                rfl
              refine Fv (i := 9) (N := some 36) (v := ?_) (a' := ?_) #[true, true, true, true, true, true, true, true, true, true, false, true, true, false, false, true, true, false, true, true, false, false, false, false] rfl rfl (Et HT_.out HW_.out (by kernel_rfl)) (fun _ _ _ h => h) (Or.inl ⟨by rfl, ?_⟩) hHeld ?_ ?_
              rotate_left
              · rintro w' ⟨s0, s1, s2, s3, s4, s5⟩
                go_simp
                with_reducible rfl
              rotate_left
              · simp only [Act.put, List.setIfInBounds_toArray, List.set_cons_zero, List.set_cons_succ, Bz, Cb]
                rfl
              refine Du (i := 10) (N := some 37) (v := ?_) (a' := ?_) #[true, true, true, true, true, true, true, true, true, true, true, true, true, false, false, true, true, false, true, true, false, false, false, false] rfl rfl (Di HT_.out (by kernel_rfl)) (fun _ _ _ h => h) (Or.inl ⟨by rfl, ?_⟩) ?_ ?_
              rotate_left
              · intro w'
                go_simp
                with_reducible rfl
              rotate_left
              · simp only [Act.put, List.setIfInBounds_toArray, List.set_cons_zero, List.set_cons_succ, Bz, Cb]
                rfl
              refine Fv (i := 13) (N := some 40) (v := ?_) (a' := ?_) #[true, true, true, true, true, true, true, true, true, true, true, true, true, true, false, true, true, false, true, true, false, false, false, false] rfl rfl (Et HT_.out HW_.out (by kernel_rfl)) (fun _ _ _ h => h) (Or.inl ⟨by rfl, ?_⟩) hHeld ?_ ?_
              rotate_left
              · rintro w' ⟨s0, s1, s2, s3, s4, s5⟩
                go_simp
                with_reducible rfl
              rotate_left
              · simp only [Act.put, List.setIfInBounds_toArray, List.set_cons_zero, List.set_cons_succ, Bz, Cb]
                rfl
              refine Du (i := 14) (N := some 41) (v := ?_) (a' := ?_) #[true, true, true, true, true, true, true, true, true, true, true, true, true, true, true, true, true, false, true, true, false, false, false, false] rfl rfl (Di HT_.out (by kernel_rfl)) (fun _ _ _ h => h) (Or.inl ⟨by rfl, ?_⟩) ?_ ?_
              rotate_left
              · intro w'
                go_simp
                with_reducible rfl
              rotate_left
              · simp only [Act.put, List.setIfInBounds_toArray, List.set_cons_zero, List.set_cons_succ, Bz, Cb]
                rfl
              refine Fv (i := 17) (N := some 44) (v := ?_) (a' := ?_) #[true, true, true, true, true, true, true, true, true, true, true, true, true, true, true, true, true, true, true, true, false, false, false, false] rfl rfl (Et HT_.out HW_.out (by kernel_rfl)) (fun _ _ _ h => h) (Or.inl ⟨by rfl, ?_⟩) hHeld ?_ ?_
              rotate_left
              · rintro w' ⟨s0, s1, s2, s3, s4, s5⟩
                go_simp
                with_reducible rfl
              rotate_left
              · simp only [Act.put, List.setIfInBounds_toArray, List.set_cons_zero, List.set_cons_succ, Bz, Cb]
                rfl
              refine Fv (i := 20) (N := some 47) (v := ?_) (a' := ?_) #[true, true, true, true, true, true, true, true, true, true, true, true, true, true, true, true, true, true, true, true, true, false, false, false] rfl rfl (Et HT_.out HW_.out (by kernel_rfl)) (fun _ _ _ h => h) (Or.inl ⟨by rfl, ?_⟩) hHeld ?_ ?_
              rotate_left
              · rintro w' ⟨s0, s1, s2, s3, s4, s5⟩
                go_simp
                with_reducible rfl
              rotate_left
              · simp only [Act.put, List.setIfInBounds_toArray, List.set_cons_zero, List.set_cons_succ, Bz, Cb]
                rfl
              refine Du (i := 21) (N := some 48) (v := ?_) (a' := ?_) #[true, true, true, true, true, true, true, true, true, true, true, true, true, true, true, true, true, true, true, true, true, true, false, false] rfl rfl (Di HT_.out (by kernel_rfl)) (fun _ _ _ h => h) (Or.inl ⟨by rfl, ?_⟩) ?_ ?_
              rotate_left
              · intro w'
                go_simp
                with_reducible rfl
              rotate_left
              · simp only [Act.put, List.setIfInBounds_toArray, List.set_cons_zero, List.set_cons_succ, Bz, Cb]
                rfl
              refine one_ (i := 22) (N := some 49) #[true, true, true, true, true, true, true, true, true, true, true, true, true, true, true, true, true, true, true, true, true, true, true, false] rfl rfl (Gg HT_.out (by kernel_rfl)) (by decide) (fun K hK => ?_)
              refine Kd.R_lit_step k27 _ 27 ?hg (N := 49) ?hd (xs := ([(⟨1, (⟨#[]⟩ : ByteArray), rd t338 0, 0⟩ : S27), (⟨2, (⟨#[]⟩ : ByteArray), rd t338 0, rd t338 1⟩ : S27), (⟨4, (⟨#[]⟩ : ByteArray), rd t338 0, 0⟩ : S27), (⟨5, (⟨#[]⟩ : ByteArray), rd t338 0, rd t338 1⟩ : S27)] : List (S27))) (inner := [.int .i64 1, .string (⟨#[]⟩ : ByteArray), .int .i64 (rd t338 0), .int .i64 0, .int .i64 2, .string (⟨#[]⟩ : ByteArray), .int .i64 (rd t338 0), .int .i64 (rd t338 1), .int .i64 4, .string (⟨#[]⟩ : ByteArray), .int .i64 (rd t338 0), .int .i64 0, .int .i64 5, .string (⟨#[]⟩ : ByteArray), .int .i64 (rd t338 0), .int .i64 (rd t338 1)]) (ok := fun _ => True) (okp := fun _ => True) ?hr ?hp (fun _ hk => hk) trivial (Below.refl _ _) (Nat.le_refl _) (by simp) ?_; (case hd => rfl); (case hg => rfl); (case hr => first | (go_simp; done) | (go_simp; rfl)); (case hp => exact (Ee.c4 (show Kd.M k27 _ _ _ (⟨1, (⟨#[]⟩ : ByteArray), rd t338 0, 0⟩ : S27) [.int .i64 1, .string (⟨#[]⟩ : ByteArray), .int .i64 (rd t338 0), .int .i64 0] from (G6 _ _ _ (⟨1, (⟨#[]⟩ : ByteArray), rd t338 0, 0⟩ : S27) )) (Ee.c4 (show Kd.M k27 _ _ _ (⟨2, (⟨#[]⟩ : ByteArray), rd t338 0, rd t338 1⟩ : S27) [.int .i64 2, .string (⟨#[]⟩ : ByteArray), .int .i64 (rd t338 0), .int .i64 (rd t338 1)] from (G6 _ _ _ (⟨2, (⟨#[]⟩ : ByteArray), rd t338 0, rd t338 1⟩ : S27) )) (Ee.c4 (show Kd.M k27 _ _ _ (⟨4, (⟨#[]⟩ : ByteArray), rd t338 0, 0⟩ : S27) [.int .i64 4, .string (⟨#[]⟩ : ByteArray), .int .i64 (rd t338 0), .int .i64 0] from (G6 _ _ _ (⟨4, (⟨#[]⟩ : ByteArray), rd t338 0, 0⟩ : S27) )) (Ee.c4 (show Kd.M k27 _ _ _ (⟨5, (⟨#[]⟩ : ByteArray), rd t338 0, rd t338 1⟩ : S27) [.int .i64 5, .string (⟨#[]⟩ : ByteArray), .int .i64 (rd t338 0), .int .i64 (rd t338 1)] from (G6 _ _ _ (⟨5, (⟨#[]⟩ : ByteArray), rd t338 0, rd t338 1⟩ : S27) )) (Ee.none _ _))))))
              intro v348 w15 ho16 hb hg_ hnew_
              have HS0_ := (hb.cell (World.block_lt_of_cell? _ _ (hHeld.1))).trans (hHeld.1)
              have HS1_ := (hb.cell (World.block_lt_of_cell? _ _ (hHeld.2.1))).trans (hHeld.2.1)
              have HS2_ := (hb.cell (World.block_lt_of_cell? _ _ (hHeld.2.2.1))).trans (hHeld.2.2.1)
              have HS3_ := (hb.cell (World.block_lt_of_cell? _ _ (hHeld.2.2.2.1))).trans (hHeld.2.2.2.1)
              have HS4_ := (hb.cell (World.block_lt_of_cell? _ _ (hHeld.2.2.2.2.1))).trans (hHeld.2.2.2.2.1)
              have HS5_ := (hb.cell (World.block_lt_of_cell? _ _ (hHeld.2.2.2.2.2))).trans (hHeld.2.2.2.2.2)
              clear hg_ hnew_
              (first | rw [← Ny347.out] at ho16 | (simp only [Int.reduceToNat] at ho16; rw [← Ny347.out] at ho16))
              have n0_ := Ac.mk (Kd.D6 (by (with_reducible repeat (first | apply Kd.Bg | apply Kd.Bh | apply Kd.Bl)); exact HO340.out) hb)
              have n1_ := Ac.mk (Kd.F6 (Kd.R_newB ho16 (g := gb0) (o := .cells #[.int .i64 0, .string (⟨#[]⟩ : ByteArray), .int .i64 0, .int .i64 0] 27 (0, 0)) Ye_) (Az Yd_))
              have n2_ := Ac.mk (Ce (g := gb0) (o := .cells #[.int .i64 0, .string (⟨#[]⟩ : ByteArray), .int .i64 0, .int .i64 0] 27 (0, 0)) Ye_ hb)
              have n3_ := Ac.mk (Au Yd_ hb)
              clear HO340
              clear BK0
              clear HB
              have HO340 := n0_
              have HO349 := n1_
              have BK0 := n2_
              have HB := n3_
              clear n0_ n1_ n2_ n3_
              clear hb ho16
              refine hK.out _ _ ⟨HS0_, HS1_, HS2_, HS3_, HS4_, HS5_⟩ (fun hHeld => ?_)
              clear hK K
              refine Gp (a' := ?_) ?_ ?_
              rotate_left
              · show Act.put _ (some 49) _ = _
                simp only [Act.put, List.setIfInBounds_toArray, List.set_cons_zero, List.set_cons_succ, Bz, Cb]
                rfl
              refine Du (i := 23) (N := some 7) (v := ?_) (a' := ?_) #[true, true, true, true, true, true, true, true, true, true, true, true, true, true, true, true, true, true, true, true, true, true, true, true] rfl rfl (Di HT_.out (by kernel_rfl)) (fun _ _ _ h => h) (Or.inl ⟨by rfl, ?_⟩) ?_ ?_
              rotate_left
              · intro w'
                go_simp
                with_reducible rfl
              rotate_left
              · simp only [Act.put, List.setIfInBounds_toArray, List.set_cons_zero, List.set_cons_succ, Bz, Cb]
                rfl
              refine done_ (Gv HT_.out (by kernel_rfl)) ?_
              try go_wp2
              go_loopg [7, 8] kj2 (fun kq v7 v8 w' => ∃ (x7_2 : List (S27)) (x8_2 : Int), v8 = .int .i64 x8_2 ∧ Ac (Bc.l0 kq a0 t336 x7_2 x8_2 = some (r1, r2, r3, r4, r5)) ∧ Ac (kq ≤ kj2) ∧ Ac (Kd.R k27 27 w' w.heap.size (fun k_ => k_ ≠ gb0) v7 x7_2) ∧ Ac (w'.heap[gb0]? = some (.cells #[.int .i64 0, .string (⟨#[]⟩ : ByteArray), .int .i64 0, .int .i64 0] 27 (0, 0))) ∧ Ac (Below w.heap.size w w'))
              case atStart => exact ⟨(y347), (1), Yf_, H', ⟨Nat.le_refl _⟩, ⟨by (with_reducible repeat (first | apply Kd.Bg | apply Kd.Bh | apply Kd.Bl)); exact Kd.R_mono HO349.out (fun _ hk => hk.2)⟩, ⟨by (with_reducible repeat (first | refine Ah ?_ _ | refine Aj ?_ | refine Ai ?_ _)); exact BK0.out⟩, ⟨by repeat (first | (with_reducible first | exact HB.out | apply Ae | apply Aa | apply Ad | refine Am ?_ GE0.out) | exact HB.out)⟩⟩
              case round =>
                clear H'
                try clear c1
                try clear p2
                try clear c3
                try clear p3
                try clear q3
                try clear hx3
                try clear qi3
                try clear c4
                try clear c5
                try clear c6
                try clear c8
                try clear c8b0
                try clear c8b1
                try clear c10
                try clear c10b0
                try clear c10b1
                try clear c11
                try clear c11b0
                try clear c11b1
                try clear hcz7_0
                try clear hcz7_1
                try clear hcz7_2
                try clear hcz7_3
                try clear hfz7_0
                try clear hfz7_1
                try clear hfz7_2
                try clear hfz7_3
                try clear hx341_0
                try clear hx342_0
                try clear hx343_0
                try clear hx344_0
                try clear hx345_0
                try clear hx346_0
                try clear p2
                try clear p341
                try clear p342
                try clear p343
                try clear p344
                try clear p345
                try clear p346
                try clear q341
                try clear q342
                try clear q343
                try clear q344
                try clear q345
                try clear q346
                obtain ⟨x7_2, x8_2, rfl, HA, HK2, HO_7, BK0, HB⟩ := hrel
                cases gk with
                | zero => exact absurd HA.out (by simp [Bc.l0])
                | succ k2 =>
                  have H := HA.out
                  clear HA
                  simp only [Bc.l0] at H
                  by_cases c17 : x8_2 ≤ 15
                  · rw [if_pos c17] at H
                    have c17b0 : decide (x8_2 ≤ 15) = true := decide_eq_true c17
                    clear c17
                    by_cases c18 : x7_2.length < 3518437208883
                    · rw [if_pos c18] at H
                      have LMc18 := Ac.mk c18
                      clear c18
                      obtain ⟨y350, hy350⟩ : ∃ y_ : List (S27), y_ = (x7_2 ++ [(⟨3, (⟨#[]⟩ : ByteArray), x8_2, 0⟩ : S27)]) := ⟨_, rfl⟩
                      replace H : (Bc.l0 k2 a0 t336 y350 (wrap64 (x8_2 + 1))) = some (r1, r2, r3, r4, r5) := by first | (rw [hy350]; with_reducible exact H) | (have H2_ := (Option.bind_some _ _).symm.trans H; rw [hy350]; with_reducible exact H2_) | (have H2_ := (Option.bind_some _ _).symm.trans H; with_reducible exact H2_) | with_reducible exact H | (rw [hy350]; exact H) | exact H
                      have Ny350 := Ac.mk hy350
                      clear hy350
                      have H' := Ac.mk H
                      clear H
                      go_wp2_with (first | ((with_reducible refine Gy (b := .append) (xs := #[.tmp 54, .tmp 57]) rfl ?_); (try (refine Gi (by rfl) ?_; dsimp only)); at_builtin; refine Kd.R_append k27 (w0 := w) w.heap.size rfl (.tmp 54) (.tmp 57) 33 27 (.agg #[(.int .i64 0), (.string ⟨#[]⟩), (.int .i64 0), (.int .i64 0)]) 40 rfl Tryd.underlying33 info27 rfl (by decide) (by omega) u7 x7_2 (⟨3, (⟨#[]⟩ : ByteArray), x8_2, 0⟩ : S27) [.int .i64 3, .string (⟨#[]⟩ : ByteArray), .int .i64 x8_2, .int .i64 0] (fun k_ => k_ ≠ gb0) (fun _ => False) rfl rfl ?aP (fun _ hk => hk.elim) ?aF ?aO ?aB ?aS ?aL ?_; (case aP => exact G6 _ _ _ (⟨3, (⟨#[]⟩ : ByteArray), x8_2, 0⟩ : S27)); (case aB => exact Yd_); (case aF => exact (fun k_ hk => Kd.freshB (g := gb0) (o := .cells #[.int .i64 0, .string (⟨#[]⟩ : ByteArray), .int .i64 0, .int .i64 0] 27 (0, 0)) Ye_ k_ hk)); (case aO => exact (by (with_reducible repeat (first | apply Kd.Bg | apply Kd.Bh | apply Kd.Bl)); exact HO_7.out)); (case aS => exact (Az Yd_)); (case aL => have := LMc18.out; omega); intro v351 w19 ho hb hg hat; rw [← Ny350.out] at ho; have n0_ := Ac.mk (blk_grown (g := gb0) (o := .cells #[.int .i64 0, .string (⟨#[]⟩ : ByteArray), .int .i64 0, .int .i64 0] 27 (0, 0)) Ye_ hg (Kd.R_away HO_7.out (fun _ hk => hk))); have n1_ := Ac.mk (hb); have n2_ := Ac.mk (ho); clear BK0; clear HB; clear HO_7; have BK0 := n0_; have HB := n1_; have HO352 := n2_; clear n0_ n1_ n2_; clear ho hb hg hat))
                      go_roundg k2
                      case measure => have := HJ2.out; have := HK2.out; omega
                      case rel => exact ⟨(y350), (wrap64 (x8_2 + 1)), Yf_, H', ⟨by have := HJ2.out; have := HK2.out; omega⟩, ⟨by (with_reducible repeat (first | apply Kd.Bg | apply Kd.Bh | apply Kd.Bl)); exact HO352.out⟩, ⟨by (with_reducible repeat (first | refine Ah ?_ _ | refine Aj ?_ | refine Ai ?_ _)); exact BK0.out⟩, ⟨by repeat (first | (with_reducible first | exact HB.out | apply Ae | apply Aa | apply Ad | refine Am ?_ GE0.out) | exact HB.out)⟩⟩
                    · rw [if_neg c18] at H
                      exact absurd H (by simp)
                  · rw [if_neg c17] at H
                    have c17b0 : decide (x8_2 ≤ 15) = false := decide_eq_false c17
                    clear c17
                    have H' := Ac.mk H
                    clear H
                    obtain ⟨Ao20, co20, eo20⟩ := Kd.Ff HO_7.out
                    subst eo20
                    go_wp2
                    go_loopg [61] k2 (fun kq v61 w' => ∃ (x61_3 : Int) (x336000_3 : Int) (x336001_3 : ByteArray) (x336002_3 : Int) (x336003_3 : Int), v61 = .int .i64 x61_3 ∧ Ac (Bc.l1 kq a0 t336 x7_2 (x7_2.length : Int) x61_3 = some (r1, r2, r3, r4, r5)) ∧ Ac (kq ≤ k2) ∧ Ac (Kd.R k27 27 w' w.heap.size (fun k_ => k_ ≠ gb0) (.slice Ao20 x7_2.length co20) x7_2) ∧ Ac (w'.heap[gb0]? = some (.cells #[.int .i64 x336000_3, .string x336001_3, .int .i64 x336002_3, .int .i64 x336003_3] 27 (0, 0))) ∧ Ac (Below w.heap.size w w'))
                    case atStart => exact ⟨(0), (0), ((⟨#[]⟩ : ByteArray)), (0), (0), Yf_, H', ⟨Nat.le_refl _⟩, ⟨by (with_reducible repeat (first | apply Kd.Bg | apply Kd.Bh | apply Kd.Bl)); exact HO_7.out⟩, ⟨by (with_reducible repeat (first | refine Ah ?_ _ | refine Aj ?_ | refine Ai ?_ _)); exact BK0.out⟩, ⟨by repeat (first | (with_reducible first | exact HB.out | apply Ae | apply Aa | apply Ad | refine Am ?_ GE0.out) | exact HB.out)⟩⟩
                    case round =>
                      clear H'
                      try clear c1
                      try clear p2
                      try clear c3
                      try clear p3
                      try clear q3
                      try clear hx3
                      try clear qi3
                      try clear c4
                      try clear c5
                      try clear c6
                      try clear p6
                      try clear c8
                      try clear c8b0
                      try clear c8b1
                      try clear c10
                      try clear c10b0
                      try clear c10b1
                      try clear c11
                      try clear c11b0
                      try clear c11b1
                      try clear c17
                      try clear c17b0
                      try clear c18
                      try clear hcz7_0
                      try clear hcz7_1
                      try clear hcz7_2
                      try clear hcz7_3
                      try clear hfz7_0
                      try clear hfz7_1
                      try clear hfz7_2
                      try clear hfz7_3
                      try clear hx341_0
                      try clear hx342_0
                      try clear hx343_0
                      try clear hx344_0
                      try clear hx345_0
                      try clear hx346_0
                      try clear p2
                      try clear p3
                      try clear p341
                      try clear p342
                      try clear p343
                      try clear p344
                      try clear p345
                      try clear p346
                      try clear q3
                      try clear q341
                      try clear q342
                      try clear q343
                      try clear q344
                      try clear q345
                      try clear q346
                      obtain ⟨x61_3, x336000_3, x336001_3, x336002_3, x336003_3, rfl, HA, HK3, HO_59, BK0, HB⟩ := hrel
                      cases gk with
                      | zero => exact absurd HA.out (by simp [Bc.l1])
                      | succ k3 =>
                        have H := HA.out
                        clear HA
                        simp only [Bc.l1] at H
                        by_cases c21 : x61_3 < (x7_2.length : Int)
                        · rw [if_pos c21] at H
                          have c21b0 : decide (x61_3 < (x7_2.length : Int)) = true := decide_eq_true c21
                          clear c21
                          by_cases c22 : 0 ≤ x61_3
                          · rw [if_pos c22] at H
                            have c22b0 : decide (0 ≤ x61_3) = true := decide_eq_true c22
                            clear c22
                            by_cases c23 : x61_3 < (x7_2.length : Int)
                            · rw [if_pos c23] at H
                              have c23b0 : decide (x61_3 < (x7_2.length : Int)) = true := decide_eq_true c23
                              clear c23
                              by_cases c24 : 0 ≤ 8
                              · rw [if_pos c24] at H
                                have c24b0 := eq_true c24
                                have c24b1 : decide (0 ≤ 8) = true := decide_eq_true c24
                                clear c24
                                by_cases c25 : 8 ≤ (t336.size : Int)
                                · rw [if_pos c25] at H
                                  have c25b0 := eq_true c25
                                  have c25b1 : decide (8 ≤ (t336.size : Int)) = true := decide_eq_true c25
                                  clear c25
                                  replace H := Option.bind_eq_some_iff.mp H
                                  obtain ⟨t355, A260, H⟩ := H
                                  replace H : (if t355 = true then ((Dk.f k3 ((Ak x7_2 x61_3).f0) (t336.extract 0 8) ((Ak x7_2 x61_3).f2) ((Ak x7_2 x61_3).f3)).bind fun t356 => (if t356.toList = a0.toList then (some ((Ak x7_2 x61_3).f0, t336.extract 0 8, (Ak x7_2 x61_3).f2, (Ak x7_2 x61_3).f3, true)) else (Bc.l1 k3 a0 t336 x7_2 (x7_2.length : Int) (wrap64 (x61_3 + 1))))) else (Bc.l1 k3 a0 t336 x7_2 (x7_2.length : Int) (wrap64 (x61_3 + 1)))) = some (r1, r2, r3, r4, r5) := H
                                  have A26 := Ac.mk A260
                                  clear A260
                                  by_cases c27 : t355 = true
                                  · subst c27
                                    have H1 : ((Dk.f k3 ((Ak x7_2 x61_3).f0) (t336.extract 0 8) ((Ak x7_2 x61_3).f2) ((Ak x7_2 x61_3).f3)).bind fun t356 => (if t356.toList = a0.toList then (some ((Ak x7_2 x61_3).f0, t336.extract 0 8, (Ak x7_2 x61_3).f2, (Ak x7_2 x61_3).f3, true)) else (Bc.l1 k3 a0 t336 x7_2 (x7_2.length : Int) (wrap64 (x61_3 + 1))))) = some (r1, r2, r3, r4, r5) := by rw [if_pos rfl] at H; exact H
                                    clear H
                                    have H := H1
                                    clear H1
                                    replace H := Option.bind_eq_some_iff.mp H
                                    obtain ⟨t356, A280, H⟩ := H
                                    replace H : (if t356.toList = a0.toList then (some ((Ak x7_2 x61_3).f0, t336.extract 0 8, (Ak x7_2 x61_3).f2, (Ak x7_2 x61_3).f3, true)) else (Bc.l1 k3 a0 t336 x7_2 (x7_2.length : Int) (wrap64 (x61_3 + 1)))) = some (r1, r2, r3, r4, r5) := H
                                    have A28 := Ac.mk A280
                                    clear A280
                                    by_cases c29 : t356.toList = a0.toList
                                    · rw [if_pos c29] at H
                                      have c29b0 : (t356.toList == a0.toList) = true := beq_iff_eq.mpr c29
                                      have c29b1 : (t356.toList != a0.toList) = false := bne_eq_false_iff_eq.mpr c29
                                      clear c29
                                      simp only [Option.some.injEq, Prod.mk.injEq] at H
                                      obtain ⟨rfl, rfl, rfl, rfl, rfl⟩ := H
                                      have p353 : 0 ≤ (x61_3 : Int) := of_decide_eq_true Yc_
                                      have q353 : x61_3 < (x7_2.length : Int) := of_decide_eq_true Yc_
                                      obtain ⟨ad353, e353, hx353_0, hx353_1, hx353_2, hx353_3⟩ := Fp (Kd.Dv HO_59.out).2.2 x61_3 p353 q353
                                      cases e353
                                      replace p353 := eq_true p353
                                      replace q353 := eq_true q353
                                      go_upto_region 14 with (first | ((with_reducible refine Dh (N := 10) rfl ?_); (try (refine Gi (by rfl) ?_; dsimp only)); refine Dl ?hg (N := 10) ?hd (cs := #[.int .i64 0, .string (⟨#[]⟩ : ByteArray), .int .i64 0, .int .i64 0]) (t := 27) ?hr ?_; (case hd => rfl); (case hg => rfl); (case hr => first | (go_simp; done) | (go_simp; rfl)); intro gb1 hg w30 hbox hb; have n0_ := Ac.mk (Kd.D6 (Kd.Hg Ybi_ gb1 (Nat.le_of_eq hg.symm)) hb); have n1_ := Ac.mk (Ce (g := gb0) (o := .cells #[.int .i64 x336000_3, .string x336001_3, .int .i64 x336002_3, .int .i64 x336003_3] 27 (0, 0)) Ye_ hb); have n2_ := Ac.mk (Au Yd_ hb); have n3_ := Ac.mk (hbox); have n4_ := Ac.mk ((by rw [hg]; exact (Az Yd_) : w.heap.size ≤ gb1)); have n5_ := Ac.mk ((by rw [hg]; exact (Az Yd_) : w.heap.size ≤ gb1)); have n6_ := Ac.mk ((by rw [hg]; exact Nat.ne_of_lt (Fb (g := gb0) (o := .cells #[.int .i64 x336000_3, .string x336001_3, .int .i64 x336002_3, .int .i64 x336003_3] 27 (0, 0)) Ye_) : gb0 ≠ gb1)); have n7_ := Ac.mk ((by rw [hg]; exact Nat.ne_of_gt (Fb (g := gb0) (o := .cells #[.int .i64 x336000_3, .string x336001_3, .int .i64 x336002_3, .int .i64 x336003_3] 27 (0, 0)) Ye_) : gb1 ≠ gb0)); clear HO_59; clear BK0; clear HB; have HO_59 := n0_; have BK0 := n1_; have HB := n2_; have BK1 := n3_; have GW1 := n4_; have GE1 := n5_; have NB0_1 := n6_; have NB1_0 := n7_; clear n0_ n1_ n2_ n3_ n4_ n5_ n6_ n7_; clear hb hbox hg; have hnb31 := NB1_0.out; have hnc31 := NB0_1.out; have hcz32_0 : w30.cell? ⟨gb1, 0, none⟩ = some (.int .i64 0) := (Af BK1.out 0).trans rfl; have hcz32_1 : w30.cell? ⟨gb1, 1, none⟩ = some (.string (⟨#[]⟩ : ByteArray)) := (Af BK1.out 1).trans rfl; have hcz32_2 : w30.cell? ⟨gb1, 2, none⟩ = some (.int .i64 0) := (Af BK1.out 2).trans rfl; have hcz32_3 : w30.cell? ⟨gb1, 3, none⟩ = some (.int .i64 0) := (Af BK1.out 3).trans rfl; have hfz32_0 := Ag BK1.out 0; have hfz32_1 := Ag BK1.out 1; have hfz32_2 := Ag BK1.out 2; have hfz32_3 := Ag BK1.out 3))
                                      have m0_ := Ac.mk (Kd.R_mono (Kd.Fe (p := ⟨gb1, 1, none⟩) (Kd.Fe (p := ⟨gb1, 3, none⟩) (Kd.Fe (p := ⟨gb1, 2, none⟩) (Kd.Fe (p := ⟨gb1, 1, none⟩) (Kd.Fe (p := ⟨gb1, 0, none⟩) (Kd.R_mono HO_59.out (fun k_ hk => (⟨hk, hk.2⟩ : _ ∧ k_ ≠ gb1))) (fun _ hk => hk.2) (.int .i64 ((Ak x7_2 x61_3).f0))) (fun _ hk => hk.2) (.string ((Ak x7_2 x61_3).f1))) (fun _ hk => hk.2) (.int .i64 ((Ak x7_2 x61_3).f2))) (fun _ hk => hk.2) (.int .i64 ((Ak x7_2 x61_3).f3))) (fun _ hk => hk.2) (.string (t336.extract 0 8))) (fun _ h_ => h_.1))
                                      have m1_ := Ac.mk (show (((((w30.setCell ⟨gb1, 0, none⟩ (.int .i64 ((Ak x7_2 x61_3).f0))).setCell ⟨gb1, 1, none⟩ (.string ((Ak x7_2 x61_3).f1))).setCell ⟨gb1, 2, none⟩ (.int .i64 ((Ak x7_2 x61_3).f2))).setCell ⟨gb1, 3, none⟩ (.int .i64 ((Ak x7_2 x61_3).f3))).setCell ⟨gb1, 1, none⟩ (.string (t336.extract 0 8))).heap[gb0]? = some (.cells #[.int .i64 x336000_3, .string x336001_3, .int .i64 x336002_3, .int .i64 x336003_3] 27 (0, 0)) from by (with_reducible repeat (first | refine Ah ?_ _ | refine Aj ?_ | refine Ai ?_ _)); refine Dc ?_ NB0_1.out _; (with_reducible repeat (first | refine Ah ?_ _ | refine Aj ?_ | refine Ai ?_ _)); refine Dc ?_ NB0_1.out _; (with_reducible repeat (first | refine Ah ?_ _ | refine Aj ?_ | refine Ai ?_ _)); refine Dc ?_ NB0_1.out _; (with_reducible repeat (first | refine Ah ?_ _ | refine Aj ?_ | refine Ai ?_ _)); refine Dc ?_ NB0_1.out _; (with_reducible repeat (first | refine Ah ?_ _ | refine Aj ?_ | refine Ai ?_ _)); refine Dc ?_ NB0_1.out _; (with_reducible repeat (first | refine Ah ?_ _ | refine Aj ?_ | refine Ai ?_ _)); exact BK0.out)
                                      have m2_ := Ac.mk (show (((((w30.setCell ⟨gb1, 0, none⟩ (.int .i64 ((Ak x7_2 x61_3).f0))).setCell ⟨gb1, 1, none⟩ (.string ((Ak x7_2 x61_3).f1))).setCell ⟨gb1, 2, none⟩ (.int .i64 ((Ak x7_2 x61_3).f2))).setCell ⟨gb1, 3, none⟩ (.int .i64 ((Ak x7_2 x61_3).f3))).setCell ⟨gb1, 1, none⟩ (.string (t336.extract 0 8))).heap[gb1]? = some (.cells #[.int .i64 ((Ak x7_2 x61_3).f0), .string (t336.extract 0 8), .int .i64 ((Ak x7_2 x61_3).f2), .int .i64 ((Ak x7_2 x61_3).f3)] 27 (0, 0)) from by (with_reducible repeat (first | refine Ah ?_ _ | refine Aj ?_ | refine Ai ?_ _)); refine Bo (cs := #[.int .i64 ((Ak x7_2 x61_3).f0), .string ((Ak x7_2 x61_3).f1), .int .i64 ((Ak x7_2 x61_3).f2), .int .i64 ((Ak x7_2 x61_3).f3)]) ?_ 1 _ rfl; (with_reducible repeat (first | refine Ah ?_ _ | refine Aj ?_ | refine Ai ?_ _)); refine Bo (cs := #[.int .i64 ((Ak x7_2 x61_3).f0), .string ((Ak x7_2 x61_3).f1), .int .i64 ((Ak x7_2 x61_3).f2), .int .i64 0]) ?_ 3 _ rfl; (with_reducible repeat (first | refine Ah ?_ _ | refine Aj ?_ | refine Ai ?_ _)); refine Bo (cs := #[.int .i64 ((Ak x7_2 x61_3).f0), .string ((Ak x7_2 x61_3).f1), .int .i64 0, .int .i64 0]) ?_ 2 _ rfl; (with_reducible repeat (first | refine Ah ?_ _ | refine Aj ?_ | refine Ai ?_ _)); refine Bo (cs := #[.int .i64 ((Ak x7_2 x61_3).f0), .string (⟨#[]⟩ : ByteArray), .int .i64 0, .int .i64 0]) ?_ 1 _ rfl; (with_reducible repeat (first | refine Ah ?_ _ | refine Aj ?_ | refine Ai ?_ _)); refine Bo (cs := #[.int .i64 0, .string (⟨#[]⟩ : ByteArray), .int .i64 0, .int .i64 0]) ?_ 0 _ rfl; (with_reducible repeat (first | refine Ah ?_ _ | refine Aj ?_ | refine Ai ?_ _)); exact BK1.out)
                                      have m3_ := Ac.mk (show Below w.heap.size w (((((w30.setCell ⟨gb1, 0, none⟩ (.int .i64 ((Ak x7_2 x61_3).f0))).setCell ⟨gb1, 1, none⟩ (.string ((Ak x7_2 x61_3).f1))).setCell ⟨gb1, 2, none⟩ (.int .i64 ((Ak x7_2 x61_3).f2))).setCell ⟨gb1, 3, none⟩ (.int .i64 ((Ak x7_2 x61_3).f3))).setCell ⟨gb1, 1, none⟩ (.string (t336.extract 0 8))) from by repeat (first | (with_reducible first | exact HB.out | apply Ae | apply Aa | apply Ad | refine Am ?_ GE0.out | refine Am ?_ GE1.out) | exact HB.out))
                                      generalize (((((w30.setCell ⟨gb1, 0, none⟩ (.int .i64 ((Ak x7_2 x61_3).f0))).setCell ⟨gb1, 1, none⟩ (.string ((Ak x7_2 x61_3).f1))).setCell ⟨gb1, 2, none⟩ (.int .i64 ((Ak x7_2 x61_3).f2))).setCell ⟨gb1, 3, none⟩ (.int .i64 ((Ak x7_2 x61_3).f3))).setCell ⟨gb1, 1, none⟩ (.string (t336.extract 0 8))) = w30n at m0_ m1_ m2_ m3_ ⊢
                                      clear hcz32_0 hcz32_1 hcz32_2 hcz32_3 hfz32_0 hfz32_1 hfz32_2 hfz32_3
                                      clear HO_59 BK0 BK1 HB
                                      have HO_59 := m0_
                                      have BK0 := m1_
                                      have BK1 := m2_
                                      have HB := m3_
                                      clear m0_ m1_ m2_ m3_
                                      have hcn_0 : w30n.cell? ⟨gb1, 0, none⟩ = some (.int .i64 ((Ak x7_2 x61_3).f0)) := (Af BK1.out 0).trans rfl
                                      have hcn_1 : w30n.cell? ⟨gb1, 1, none⟩ = some (.string (t336.extract 0 8)) := (Af BK1.out 1).trans rfl
                                      have hcn_2 : w30n.cell? ⟨gb1, 2, none⟩ = some (.int .i64 ((Ak x7_2 x61_3).f2)) := (Af BK1.out 2).trans rfl
                                      have hcn_3 : w30n.cell? ⟨gb1, 3, none⟩ = some (.int .i64 ((Ak x7_2 x61_3).f3)) := (Af BK1.out 3).trans rfl
                                      go_wp2_with (first | ((with_reducible refine Aw (f := 25) rfl ?_); refine Bj (some 69) rfl rfl Tryd.func25 (by kernel_rfl) rfl #[.agg #[.int .i64 ((Ak x7_2 x61_3).f0), .string (t336.extract 0 8), .int .i64 ((Ak x7_2 x61_3).f2), .int .i64 ((Ak x7_2 x61_3).f3)]] rfl Yb_ ?_; (with_reducible refine (D7.calls k3 ((Ak x7_2 x61_3).f0) (t336.extract 0 8) ((Ak x7_2 x61_3).f2) ((Ak x7_2 x61_3).f3) true _ A26.out).mono ?_); rintro e w33 ⟨rfl, hb⟩; refine ⟨_, rfl, ?_⟩; have n0_ := Ac.mk (Kd.D6 Ybi_ hb); have n1_ := Ac.mk (Ce (g := gb0) (o := .cells #[.int .i64 x336000_3, .string x336001_3, .int .i64 x336002_3, .int .i64 x336003_3] 27 (0, 0)) Ye_ hb); have n2_ := Ac.mk (Ce (g := gb1) (o := .cells #[.int .i64 ((Ak x7_2 x61_3).f0), .string (t336.extract 0 8), .int .i64 ((Ak x7_2 x61_3).f2), .int .i64 ((Ak x7_2 x61_3).f3)] 27 (0, 0)) Ybe_ hb); have n3_ := Ac.mk (Au Ybd_ hb); clear HO_59; clear BK0; clear BK1; clear HB; have HO_59 := n0_; have BK0 := n1_; have BK1 := n2_; have HB := n3_; clear n0_ n1_ n2_ n3_; (try clear hb); (try clear hb2); (try clear hk); (try clear hi); have hcz34_0 : w33.cell? ⟨gb1, 0, none⟩ = some (.int .i64 ((Ak x7_2 x61_3).f0)) := (Af BK1.out 0).trans rfl; have hcz34_1 : w33.cell? ⟨gb1, 1, none⟩ = some (.string (t336.extract 0 8)) := (Af BK1.out 1).trans rfl; have hcz34_2 : w33.cell? ⟨gb1, 2, none⟩ = some (.int .i64 ((Ak x7_2 x61_3).f2)) := (Af BK1.out 2).trans rfl; have hcz34_3 : w33.cell? ⟨gb1, 3, none⟩ = some (.int .i64 ((Ak x7_2 x61_3).f3)) := (Af BK1.out 3).trans rfl; have hfz34_0 := Ag BK1.out 0; have hfz34_1 := Ag BK1.out 1; have hfz34_2 := Ag BK1.out 2; have hfz34_3 := Ag BK1.out 3; (try clear hcn_0 hcn_1 hcn_2 hcn_3)) | (go_at_call 26; (with_reducible refine (Dk.calls k3 ((Ak x7_2 x61_3).f0) (t336.extract 0 8) ((Ak x7_2 x61_3).f2) ((Ak x7_2 x61_3).f3) t356 _ ?side1 A28.out).mono ?_); (case side1 => exact Eo.below HGL.out Ybd_); rintro e w35 ⟨rfl, hb⟩; have n0_ := Ac.mk (Kd.D6 Ybi_ hb); have n1_ := Ac.mk (Ce (g := gb0) (o := .cells #[.int .i64 x336000_3, .string x336001_3, .int .i64 x336002_3, .int .i64 x336003_3] 27 (0, 0)) Ye_ hb); have n2_ := Ac.mk (Ce (g := gb1) (o := .cells #[.int .i64 ((Ak x7_2 x61_3).f0), .string (t336.extract 0 8), .int .i64 ((Ak x7_2 x61_3).f2), .int .i64 ((Ak x7_2 x61_3).f3)] 27 (0, 0)) Ybe_ hb); have n3_ := Ac.mk (Au Ybd_ hb); clear HO_59; clear BK0; clear BK1; clear HB; have HO_59 := n0_; have BK0 := n1_; have BK1 := n2_; have HB := n3_; clear n0_ n1_ n2_ n3_; (try clear hb); (try clear hb2); (try clear hk); (try clear hi); have hcz36_0 : w35.cell? ⟨gb1, 0, none⟩ = some (.int .i64 ((Ak x7_2 x61_3).f0)) := (Af BK1.out 0).trans rfl; have hcz36_1 : w35.cell? ⟨gb1, 1, none⟩ = some (.string (t336.extract 0 8)) := (Af BK1.out 1).trans rfl; have hcz36_2 : w35.cell? ⟨gb1, 2, none⟩ = some (.int .i64 ((Ak x7_2 x61_3).f2)) := (Af BK1.out 2).trans rfl; have hcz36_3 : w35.cell? ⟨gb1, 3, none⟩ = some (.int .i64 ((Ak x7_2 x61_3).f3)) := (Af BK1.out 3).trans rfl; have hfz36_0 := Ag BK1.out 0; have hfz36_1 := Ag BK1.out 1; have hfz36_2 := Ag BK1.out 2; have hfz36_3 := Ag BK1.out 3; have hcz37_0 : w35.cell? ⟨gb0, 0, none⟩ = some (.int .i64 x336000_3) := (Af BK0.out 0).trans rfl; have hcz37_1 : w35.cell? ⟨gb0, 1, none⟩ = some (.string x336001_3) := (Af BK0.out 1).trans rfl; have hcz37_2 : w35.cell? ⟨gb0, 2, none⟩ = some (.int .i64 x336002_3) := (Af BK0.out 2).trans rfl; have hcz37_3 : w35.cell? ⟨gb0, 3, none⟩ = some (.int .i64 x336003_3) := (Af BK0.out 3).trans rfl; have hfz37_0 := Ag BK0.out 0; have hfz37_1 := Ag BK0.out 1; have hfz37_2 := Ag BK0.out 2; have hfz37_3 := Ag BK0.out 3))
                                      refine bodyPost_ret (Hq rfl _ _ gb0 27 #[.int .i64 ((Ak x7_2 x61_3).f0), .string (t336.extract 0 8), .int .i64 ((Ak x7_2 x61_3).f2), .int .i64 ((Ak x7_2 x61_3).f3)] (0, 0) _ rfl (by (with_reducible repeat (first | refine Ah ?_ _ | refine Aj ?_ | refine Ai ?_ _)); refine Bo (cs := #[.int .i64 ((Ak x7_2 x61_3).f0), .string (t336.extract 0 8), .int .i64 ((Ak x7_2 x61_3).f2), .int .i64 x336003_3]) ?_ 3 _ rfl; (with_reducible repeat (first | refine Ah ?_ _ | refine Aj ?_ | refine Ai ?_ _)); refine Bo (cs := #[.int .i64 ((Ak x7_2 x61_3).f0), .string (t336.extract 0 8), .int .i64 x336002_3, .int .i64 x336003_3]) ?_ 2 _ rfl; (with_reducible repeat (first | refine Ah ?_ _ | refine Aj ?_ | refine Ai ?_ _)); refine Bo (cs := #[.int .i64 ((Ak x7_2 x61_3).f0), .string x336001_3, .int .i64 x336002_3, .int .i64 x336003_3]) ?_ 1 _ rfl; (with_reducible repeat (first | refine Ah ?_ _ | refine Aj ?_ | refine Ai ?_ _)); refine Bo (cs := #[.int .i64 x336000_3, .string x336001_3, .int .i64 x336002_3, .int .i64 x336003_3]) ?_ 0 _ rfl; (with_reducible repeat (first | refine Ah ?_ _ | refine Aj ?_ | refine Ai ?_ _)); exact BK0.out) Tryd.underlying27 rfl (by kernel_rfl)) rfl ?_
                                      exact ⟨by first | rfl | (simp [Aq, Ar] <;> rfl) | (simp [*, Aq, Ar] <;> rfl), by repeat (first | (with_reducible first | exact HB.out | apply Ae | apply Aa | apply Ad | refine Am ?_ GE0.out | refine Am ?_ GE1.out) | exact HB.out)⟩
                                    · rw [if_neg c29] at H
                                      have c29b0 : (t356.toList == a0.toList) = false := beq_eq_false_iff_ne.mpr c29
                                      have c29b1 : (t356.toList != a0.toList) = true := bne_iff_ne.mpr c29
                                      have H' := Ac.mk H
                                      clear H
                                      have p353 : 0 ≤ (x61_3 : Int) := of_decide_eq_true Yc_
                                      have q353 : x61_3 < (x7_2.length : Int) := of_decide_eq_true Yc_
                                      obtain ⟨ad353, e353, hx353_0, hx353_1, hx353_2, hx353_3⟩ := Fp (Kd.Dv HO_59.out).2.2 x61_3 p353 q353
                                      cases e353
                                      replace p353 := eq_true p353
                                      replace q353 := eq_true q353
                                      go_upto_region 14 with (first | ((with_reducible refine Dh (N := 10) rfl ?_); (try (refine Gi (by rfl) ?_; dsimp only)); refine Dl ?hg (N := 10) ?hd (cs := #[.int .i64 0, .string (⟨#[]⟩ : ByteArray), .int .i64 0, .int .i64 0]) (t := 27) ?hr ?_; (case hd => rfl); (case hg => rfl); (case hr => first | (go_simp; done) | (go_simp; rfl)); intro gb1 hg w38 hbox hb; have n0_ := Ac.mk (Kd.D6 (Kd.Hg Ybi_ gb1 (Nat.le_of_eq hg.symm)) hb); have n1_ := Ac.mk (Ce (g := gb0) (o := .cells #[.int .i64 x336000_3, .string x336001_3, .int .i64 x336002_3, .int .i64 x336003_3] 27 (0, 0)) Ye_ hb); have n2_ := Ac.mk (Au Yd_ hb); have n3_ := Ac.mk (hbox); have n4_ := Ac.mk ((by rw [hg]; exact (Az Yd_) : w.heap.size ≤ gb1)); have n5_ := Ac.mk ((by rw [hg]; exact (Az Yd_) : w.heap.size ≤ gb1)); have n6_ := Ac.mk ((by rw [hg]; exact Nat.ne_of_lt (Fb (g := gb0) (o := .cells #[.int .i64 x336000_3, .string x336001_3, .int .i64 x336002_3, .int .i64 x336003_3] 27 (0, 0)) Ye_) : gb0 ≠ gb1)); have n7_ := Ac.mk ((by rw [hg]; exact Nat.ne_of_gt (Fb (g := gb0) (o := .cells #[.int .i64 x336000_3, .string x336001_3, .int .i64 x336002_3, .int .i64 x336003_3] 27 (0, 0)) Ye_) : gb1 ≠ gb0)); clear HO_59; clear BK0; clear HB; have HO_59 := n0_; have BK0 := n1_; have HB := n2_; have BK1 := n3_; have GW1 := n4_; have GE1 := n5_; have NB0_1 := n6_; have NB1_0 := n7_; clear n0_ n1_ n2_ n3_ n4_ n5_ n6_ n7_; clear hb hbox hg; have hnb39 := NB1_0.out; have hnc39 := NB0_1.out; have hcz40_0 : w38.cell? ⟨gb1, 0, none⟩ = some (.int .i64 0) := (Af BK1.out 0).trans rfl; have hcz40_1 : w38.cell? ⟨gb1, 1, none⟩ = some (.string (⟨#[]⟩ : ByteArray)) := (Af BK1.out 1).trans rfl; have hcz40_2 : w38.cell? ⟨gb1, 2, none⟩ = some (.int .i64 0) := (Af BK1.out 2).trans rfl; have hcz40_3 : w38.cell? ⟨gb1, 3, none⟩ = some (.int .i64 0) := (Af BK1.out 3).trans rfl; have hfz40_0 := Ag BK1.out 0; have hfz40_1 := Ag BK1.out 1; have hfz40_2 := Ag BK1.out 2; have hfz40_3 := Ag BK1.out 3))
                                      have m0_ := Ac.mk (Kd.R_mono (Kd.Fe (p := ⟨gb1, 1, none⟩) (Kd.Fe (p := ⟨gb1, 3, none⟩) (Kd.Fe (p := ⟨gb1, 2, none⟩) (Kd.Fe (p := ⟨gb1, 1, none⟩) (Kd.Fe (p := ⟨gb1, 0, none⟩) (Kd.R_mono HO_59.out (fun k_ hk => (⟨hk, hk.2⟩ : _ ∧ k_ ≠ gb1))) (fun _ hk => hk.2) (.int .i64 ((Ak x7_2 x61_3).f0))) (fun _ hk => hk.2) (.string ((Ak x7_2 x61_3).f1))) (fun _ hk => hk.2) (.int .i64 ((Ak x7_2 x61_3).f2))) (fun _ hk => hk.2) (.int .i64 ((Ak x7_2 x61_3).f3))) (fun _ hk => hk.2) (.string (t336.extract 0 8))) (fun _ h_ => h_.1))
                                      have m1_ := Ac.mk (show (((((w38.setCell ⟨gb1, 0, none⟩ (.int .i64 ((Ak x7_2 x61_3).f0))).setCell ⟨gb1, 1, none⟩ (.string ((Ak x7_2 x61_3).f1))).setCell ⟨gb1, 2, none⟩ (.int .i64 ((Ak x7_2 x61_3).f2))).setCell ⟨gb1, 3, none⟩ (.int .i64 ((Ak x7_2 x61_3).f3))).setCell ⟨gb1, 1, none⟩ (.string (t336.extract 0 8))).heap[gb0]? = some (.cells #[.int .i64 x336000_3, .string x336001_3, .int .i64 x336002_3, .int .i64 x336003_3] 27 (0, 0)) from by (with_reducible repeat (first | refine Ah ?_ _ | refine Aj ?_ | refine Ai ?_ _)); refine Dc ?_ NB0_1.out _; (with_reducible repeat (first | refine Ah ?_ _ | refine Aj ?_ | refine Ai ?_ _)); refine Dc ?_ NB0_1.out _; (with_reducible repeat (first | refine Ah ?_ _ | refine Aj ?_ | refine Ai ?_ _)); refine Dc ?_ NB0_1.out _; (with_reducible repeat (first | refine Ah ?_ _ | refine Aj ?_ | refine Ai ?_ _)); refine Dc ?_ NB0_1.out _; (with_reducible repeat (first | refine Ah ?_ _ | refine Aj ?_ | refine Ai ?_ _)); refine Dc ?_ NB0_1.out _; (with_reducible repeat (first | refine Ah ?_ _ | refine Aj ?_ | refine Ai ?_ _)); exact BK0.out)
                                      have m2_ := Ac.mk (show (((((w38.setCell ⟨gb1, 0, none⟩ (.int .i64 ((Ak x7_2 x61_3).f0))).setCell ⟨gb1, 1, none⟩ (.string ((Ak x7_2 x61_3).f1))).setCell ⟨gb1, 2, none⟩ (.int .i64 ((Ak x7_2 x61_3).f2))).setCell ⟨gb1, 3, none⟩ (.int .i64 ((Ak x7_2 x61_3).f3))).setCell ⟨gb1, 1, none⟩ (.string (t336.extract 0 8))).heap[gb1]? = some (.cells #[.int .i64 ((Ak x7_2 x61_3).f0), .string (t336.extract 0 8), .int .i64 ((Ak x7_2 x61_3).f2), .int .i64 ((Ak x7_2 x61_3).f3)] 27 (0, 0)) from by (with_reducible repeat (first | refine Ah ?_ _ | refine Aj ?_ | refine Ai ?_ _)); refine Bo (cs := #[.int .i64 ((Ak x7_2 x61_3).f0), .string ((Ak x7_2 x61_3).f1), .int .i64 ((Ak x7_2 x61_3).f2), .int .i64 ((Ak x7_2 x61_3).f3)]) ?_ 1 _ rfl; (with_reducible repeat (first | refine Ah ?_ _ | refine Aj ?_ | refine Ai ?_ _)); refine Bo (cs := #[.int .i64 ((Ak x7_2 x61_3).f0), .string ((Ak x7_2 x61_3).f1), .int .i64 ((Ak x7_2 x61_3).f2), .int .i64 0]) ?_ 3 _ rfl; (with_reducible repeat (first | refine Ah ?_ _ | refine Aj ?_ | refine Ai ?_ _)); refine Bo (cs := #[.int .i64 ((Ak x7_2 x61_3).f0), .string ((Ak x7_2 x61_3).f1), .int .i64 0, .int .i64 0]) ?_ 2 _ rfl; (with_reducible repeat (first | refine Ah ?_ _ | refine Aj ?_ | refine Ai ?_ _)); refine Bo (cs := #[.int .i64 ((Ak x7_2 x61_3).f0), .string (⟨#[]⟩ : ByteArray), .int .i64 0, .int .i64 0]) ?_ 1 _ rfl; (with_reducible repeat (first | refine Ah ?_ _ | refine Aj ?_ | refine Ai ?_ _)); refine Bo (cs := #[.int .i64 0, .string (⟨#[]⟩ : ByteArray), .int .i64 0, .int .i64 0]) ?_ 0 _ rfl; (with_reducible repeat (first | refine Ah ?_ _ | refine Aj ?_ | refine Ai ?_ _)); exact BK1.out)
                                      have m3_ := Ac.mk (show Below w.heap.size w (((((w38.setCell ⟨gb1, 0, none⟩ (.int .i64 ((Ak x7_2 x61_3).f0))).setCell ⟨gb1, 1, none⟩ (.string ((Ak x7_2 x61_3).f1))).setCell ⟨gb1, 2, none⟩ (.int .i64 ((Ak x7_2 x61_3).f2))).setCell ⟨gb1, 3, none⟩ (.int .i64 ((Ak x7_2 x61_3).f3))).setCell ⟨gb1, 1, none⟩ (.string (t336.extract 0 8))) from by repeat (first | (with_reducible first | exact HB.out | apply Ae | apply Aa | apply Ad | refine Am ?_ GE0.out | refine Am ?_ GE1.out) | exact HB.out))
                                      generalize (((((w38.setCell ⟨gb1, 0, none⟩ (.int .i64 ((Ak x7_2 x61_3).f0))).setCell ⟨gb1, 1, none⟩ (.string ((Ak x7_2 x61_3).f1))).setCell ⟨gb1, 2, none⟩ (.int .i64 ((Ak x7_2 x61_3).f2))).setCell ⟨gb1, 3, none⟩ (.int .i64 ((Ak x7_2 x61_3).f3))).setCell ⟨gb1, 1, none⟩ (.string (t336.extract 0 8))) = w38n at m0_ m1_ m2_ m3_ ⊢
                                      clear hcz40_0 hcz40_1 hcz40_2 hcz40_3 hfz40_0 hfz40_1 hfz40_2 hfz40_3
                                      clear HO_59 BK0 BK1 HB
                                      have HO_59 := m0_
                                      have BK0 := m1_
                                      have BK1 := m2_
                                      have HB := m3_
                                      clear m0_ m1_ m2_ m3_
                                      have hcn_0 : w38n.cell? ⟨gb1, 0, none⟩ = some (.int .i64 ((Ak x7_2 x61_3).f0)) := (Af BK1.out 0).trans rfl
                                      have hcn_1 : w38n.cell? ⟨gb1, 1, none⟩ = some (.string (t336.extract 0 8)) := (Af BK1.out 1).trans rfl
                                      have hcn_2 : w38n.cell? ⟨gb1, 2, none⟩ = some (.int .i64 ((Ak x7_2 x61_3).f2)) := (Af BK1.out 2).trans rfl
                                      have hcn_3 : w38n.cell? ⟨gb1, 3, none⟩ = some (.int .i64 ((Ak x7_2 x61_3).f3)) := (Af BK1.out 3).trans rfl
                                      go_wp2_with (first | ((with_reducible refine Aw (f := 25) rfl ?_); refine Bj (some 69) rfl rfl Tryd.func25 (by kernel_rfl) rfl #[.agg #[.int .i64 ((Ak x7_2 x61_3).f0), .string (t336.extract 0 8), .int .i64 ((Ak x7_2 x61_3).f2), .int .i64 ((Ak x7_2 x61_3).f3)]] rfl Yb_ ?_; (with_reducible refine (D7.calls k3 ((Ak x7_2 x61_3).f0) (t336.extract 0 8) ((Ak x7_2 x61_3).f2) ((Ak x7_2 x61_3).f3) true _ A26.out).mono ?_); rintro e w41 ⟨rfl, hb⟩; refine ⟨_, rfl, ?_⟩; have n0_ := Ac.mk (Kd.D6 Ybi_ hb); have n1_ := Ac.mk (Ce (g := gb0) (o := .cells #[.int .i64 x336000_3, .string x336001_3, .int .i64 x336002_3, .int .i64 x336003_3] 27 (0, 0)) Ye_ hb); have n2_ := Ac.mk (Ce (g := gb1) (o := .cells #[.int .i64 ((Ak x7_2 x61_3).f0), .string (t336.extract 0 8), .int .i64 ((Ak x7_2 x61_3).f2), .int .i64 ((Ak x7_2 x61_3).f3)] 27 (0, 0)) Ybe_ hb); have n3_ := Ac.mk (Au Ybd_ hb); clear HO_59; clear BK0; clear BK1; clear HB; have HO_59 := n0_; have BK0 := n1_; have BK1 := n2_; have HB := n3_; clear n0_ n1_ n2_ n3_; (try clear hb); (try clear hb2); (try clear hk); (try clear hi); have hcz42_0 : w41.cell? ⟨gb1, 0, none⟩ = some (.int .i64 ((Ak x7_2 x61_3).f0)) := (Af BK1.out 0).trans rfl; have hcz42_1 : w41.cell? ⟨gb1, 1, none⟩ = some (.string (t336.extract 0 8)) := (Af BK1.out 1).trans rfl; have hcz42_2 : w41.cell? ⟨gb1, 2, none⟩ = some (.int .i64 ((Ak x7_2 x61_3).f2)) := (Af BK1.out 2).trans rfl; have hcz42_3 : w41.cell? ⟨gb1, 3, none⟩ = some (.int .i64 ((Ak x7_2 x61_3).f3)) := (Af BK1.out 3).trans rfl; have hfz42_0 := Ag BK1.out 0; have hfz42_1 := Ag BK1.out 1; have hfz42_2 := Ag BK1.out 2; have hfz42_3 := Ag BK1.out 3; (try clear hcn_0 hcn_1 hcn_2 hcn_3)) | (go_at_call 26; (with_reducible refine (Dk.calls k3 ((Ak x7_2 x61_3).f0) (t336.extract 0 8) ((Ak x7_2 x61_3).f2) ((Ak x7_2 x61_3).f3) t356 _ ?side1 A28.out).mono ?_); (case side1 => exact Eo.below HGL.out Ybd_); rintro e w43 ⟨rfl, hb⟩; have n0_ := Ac.mk (Kd.D6 Ybi_ hb); have n1_ := Ac.mk (Ce (g := gb0) (o := .cells #[.int .i64 x336000_3, .string x336001_3, .int .i64 x336002_3, .int .i64 x336003_3] 27 (0, 0)) Ye_ hb); have n2_ := Ac.mk (Ce (g := gb1) (o := .cells #[.int .i64 ((Ak x7_2 x61_3).f0), .string (t336.extract 0 8), .int .i64 ((Ak x7_2 x61_3).f2), .int .i64 ((Ak x7_2 x61_3).f3)] 27 (0, 0)) Ybe_ hb); have n3_ := Ac.mk (Au Ybd_ hb); clear HO_59; clear BK0; clear BK1; clear HB; have HO_59 := n0_; have BK0 := n1_; have BK1 := n2_; have HB := n3_; clear n0_ n1_ n2_ n3_; (try clear hb); (try clear hb2); (try clear hk); (try clear hi)))
                                      go_roundg k3
                                      case measure => have := HJ2.out; have := HK2.out; have := HK3.out; omega
                                      case rel => exact ⟨(wrap64 (x61_3 + 1)), (x336000_3), (x336001_3), (x336002_3), (x336003_3), Yf_, H', ⟨by have := HJ2.out; have := HK2.out; have := HK3.out; omega⟩, ⟨by (with_reducible repeat (first | apply Kd.Bg | apply Kd.Bh | apply Kd.Bl)); exact Kd.R_mono HO_59.out (fun _ hk => hk.1)⟩, ⟨by (with_reducible repeat (first | refine Ah ?_ _ | refine Aj ?_ | refine Ai ?_ _)); exact BK0.out⟩, ⟨by repeat (first | (with_reducible first | exact HB.out | apply Ae | apply Aa | apply Ad | refine Am ?_ GE0.out | refine Am ?_ GE1.out) | exact HB.out)⟩⟩
                                  · replace c27 := Bool.eq_false_iff.mpr c27
                                    subst c27
                                    have H1 : (Bc.l1 k3 a0 t336 x7_2 (x7_2.length : Int) (wrap64 (x61_3 + 1))) = some (r1, r2, r3, r4, r5) := by rw [if_neg (show ¬ (false = true) by decide)] at H; exact H
                                    clear H
                                    have H := H1
                                    clear H1
                                    have H' := Ac.mk H
                                    clear H
                                    have p353 : 0 ≤ (x61_3 : Int) := of_decide_eq_true Yc_
                                    have q353 : x61_3 < (x7_2.length : Int) := of_decide_eq_true Yc_
                                    obtain ⟨ad353, e353, hx353_0, hx353_1, hx353_2, hx353_3⟩ := Fp (Kd.Dv HO_59.out).2.2 x61_3 p353 q353
                                    cases e353
                                    replace p353 := eq_true p353
                                    replace q353 := eq_true q353
                                    go_upto_region 14 with (first | ((with_reducible refine Dh (N := 10) rfl ?_); (try (refine Gi (by rfl) ?_; dsimp only)); refine Dl ?hg (N := 10) ?hd (cs := #[.int .i64 0, .string (⟨#[]⟩ : ByteArray), .int .i64 0, .int .i64 0]) (t := 27) ?hr ?_; (case hd => rfl); (case hg => rfl); (case hr => first | (go_simp; done) | (go_simp; rfl)); intro gb1 hg w44 hbox hb; have n0_ := Ac.mk (Kd.D6 (Kd.Hg Ybi_ gb1 (Nat.le_of_eq hg.symm)) hb); have n1_ := Ac.mk (Ce (g := gb0) (o := .cells #[.int .i64 x336000_3, .string x336001_3, .int .i64 x336002_3, .int .i64 x336003_3] 27 (0, 0)) Ye_ hb); have n2_ := Ac.mk (Au Yd_ hb); have n3_ := Ac.mk (hbox); have n4_ := Ac.mk ((by rw [hg]; exact (Az Yd_) : w.heap.size ≤ gb1)); have n5_ := Ac.mk ((by rw [hg]; exact (Az Yd_) : w.heap.size ≤ gb1)); have n6_ := Ac.mk ((by rw [hg]; exact Nat.ne_of_lt (Fb (g := gb0) (o := .cells #[.int .i64 x336000_3, .string x336001_3, .int .i64 x336002_3, .int .i64 x336003_3] 27 (0, 0)) Ye_) : gb0 ≠ gb1)); have n7_ := Ac.mk ((by rw [hg]; exact Nat.ne_of_gt (Fb (g := gb0) (o := .cells #[.int .i64 x336000_3, .string x336001_3, .int .i64 x336002_3, .int .i64 x336003_3] 27 (0, 0)) Ye_) : gb1 ≠ gb0)); clear HO_59; clear BK0; clear HB; have HO_59 := n0_; have BK0 := n1_; have HB := n2_; have BK1 := n3_; have GW1 := n4_; have GE1 := n5_; have NB0_1 := n6_; have NB1_0 := n7_; clear n0_ n1_ n2_ n3_ n4_ n5_ n6_ n7_; clear hb hbox hg; have hnb45 := NB1_0.out; have hnc45 := NB0_1.out; have hcz46_0 : w44.cell? ⟨gb1, 0, none⟩ = some (.int .i64 0) := (Af BK1.out 0).trans rfl; have hcz46_1 : w44.cell? ⟨gb1, 1, none⟩ = some (.string (⟨#[]⟩ : ByteArray)) := (Af BK1.out 1).trans rfl; have hcz46_2 : w44.cell? ⟨gb1, 2, none⟩ = some (.int .i64 0) := (Af BK1.out 2).trans rfl; have hcz46_3 : w44.cell? ⟨gb1, 3, none⟩ = some (.int .i64 0) := (Af BK1.out 3).trans rfl; have hfz46_0 := Ag BK1.out 0; have hfz46_1 := Ag BK1.out 1; have hfz46_2 := Ag BK1.out 2; have hfz46_3 := Ag BK1.out 3))
                                    have m0_ := Ac.mk (Kd.R_mono (Kd.Fe (p := ⟨gb1, 1, none⟩) (Kd.Fe (p := ⟨gb1, 3, none⟩) (Kd.Fe (p := ⟨gb1, 2, none⟩) (Kd.Fe (p := ⟨gb1, 1, none⟩) (Kd.Fe (p := ⟨gb1, 0, none⟩) (Kd.R_mono HO_59.out (fun k_ hk => (⟨hk, hk.2⟩ : _ ∧ k_ ≠ gb1))) (fun _ hk => hk.2) (.int .i64 ((Ak x7_2 x61_3).f0))) (fun _ hk => hk.2) (.string ((Ak x7_2 x61_3).f1))) (fun _ hk => hk.2) (.int .i64 ((Ak x7_2 x61_3).f2))) (fun _ hk => hk.2) (.int .i64 ((Ak x7_2 x61_3).f3))) (fun _ hk => hk.2) (.string (t336.extract 0 8))) (fun _ h_ => h_.1))
                                    have m1_ := Ac.mk (show (((((w44.setCell ⟨gb1, 0, none⟩ (.int .i64 ((Ak x7_2 x61_3).f0))).setCell ⟨gb1, 1, none⟩ (.string ((Ak x7_2 x61_3).f1))).setCell ⟨gb1, 2, none⟩ (.int .i64 ((Ak x7_2 x61_3).f2))).setCell ⟨gb1, 3, none⟩ (.int .i64 ((Ak x7_2 x61_3).f3))).setCell ⟨gb1, 1, none⟩ (.string (t336.extract 0 8))).heap[gb0]? = some (.cells #[.int .i64 x336000_3, .string x336001_3, .int .i64 x336002_3, .int .i64 x336003_3] 27 (0, 0)) from by (with_reducible repeat (first | refine Ah ?_ _ | refine Aj ?_ | refine Ai ?_ _)); refine Dc ?_ NB0_1.out _; (with_reducible repeat (first | refine Ah ?_ _ | refine Aj ?_ | refine Ai ?_ _)); refine Dc ?_ NB0_1.out _; (with_reducible repeat (first | refine Ah ?_ _ | refine Aj ?_ | refine Ai ?_ _)); refine Dc ?_ NB0_1.out _; (with_reducible repeat (first | refine Ah ?_ _ | refine Aj ?_ | refine Ai ?_ _)); refine Dc ?_ NB0_1.out _; (with_reducible repeat (first | refine Ah ?_ _ | refine Aj ?_ | refine Ai ?_ _)); refine Dc ?_ NB0_1.out _; (with_reducible repeat (first | refine Ah ?_ _ | refine Aj ?_ | refine Ai ?_ _)); exact BK0.out)
                                    have m2_ := Ac.mk (show (((((w44.setCell ⟨gb1, 0, none⟩ (.int .i64 ((Ak x7_2 x61_3).f0))).setCell ⟨gb1, 1, none⟩ (.string ((Ak x7_2 x61_3).f1))).setCell ⟨gb1, 2, none⟩ (.int .i64 ((Ak x7_2 x61_3).f2))).setCell ⟨gb1, 3, none⟩ (.int .i64 ((Ak x7_2 x61_3).f3))).setCell ⟨gb1, 1, none⟩ (.string (t336.extract 0 8))).heap[gb1]? = some (.cells #[.int .i64 ((Ak x7_2 x61_3).f0), .string (t336.extract 0 8), .int .i64 ((Ak x7_2 x61_3).f2), .int .i64 ((Ak x7_2 x61_3).f3)] 27 (0, 0)) from by (with_reducible repeat (first | refine Ah ?_ _ | refine Aj ?_ | refine Ai ?_ _)); refine Bo (cs := #[.int .i64 ((Ak x7_2 x61_3).f0), .string ((Ak x7_2 x61_3).f1), .int .i64 ((Ak x7_2 x61_3).f2), .int .i64 ((Ak x7_2 x61_3).f3)]) ?_ 1 _ rfl; (with_reducible repeat (first | refine Ah ?_ _ | refine Aj ?_ | refine Ai ?_ _)); refine Bo (cs := #[.int .i64 ((Ak x7_2 x61_3).f0), .string ((Ak x7_2 x61_3).f1), .int .i64 ((Ak x7_2 x61_3).f2), .int .i64 0]) ?_ 3 _ rfl; (with_reducible repeat (first | refine Ah ?_ _ | refine Aj ?_ | refine Ai ?_ _)); refine Bo (cs := #[.int .i64 ((Ak x7_2 x61_3).f0), .string ((Ak x7_2 x61_3).f1), .int .i64 0, .int .i64 0]) ?_ 2 _ rfl; (with_reducible repeat (first | refine Ah ?_ _ | refine Aj ?_ | refine Ai ?_ _)); refine Bo (cs := #[.int .i64 ((Ak x7_2 x61_3).f0), .string (⟨#[]⟩ : ByteArray), .int .i64 0, .int .i64 0]) ?_ 1 _ rfl; (with_reducible repeat (first | refine Ah ?_ _ | refine Aj ?_ | refine Ai ?_ _)); refine Bo (cs := #[.int .i64 0, .string (⟨#[]⟩ : ByteArray), .int .i64 0, .int .i64 0]) ?_ 0 _ rfl; (with_reducible repeat (first | refine Ah ?_ _ | refine Aj ?_ | refine Ai ?_ _)); exact BK1.out)
                                    have m3_ := Ac.mk (show Below w.heap.size w (((((w44.setCell ⟨gb1, 0, none⟩ (.int .i64 ((Ak x7_2 x61_3).f0))).setCell ⟨gb1, 1, none⟩ (.string ((Ak x7_2 x61_3).f1))).setCell ⟨gb1, 2, none⟩ (.int .i64 ((Ak x7_2 x61_3).f2))).setCell ⟨gb1, 3, none⟩ (.int .i64 ((Ak x7_2 x61_3).f3))).setCell ⟨gb1, 1, none⟩ (.string (t336.extract 0 8))) from by repeat (first | (with_reducible first | exact HB.out | apply Ae | apply Aa | apply Ad | refine Am ?_ GE0.out | refine Am ?_ GE1.out) | exact HB.out))
                                    generalize (((((w44.setCell ⟨gb1, 0, none⟩ (.int .i64 ((Ak x7_2 x61_3).f0))).setCell ⟨gb1, 1, none⟩ (.string ((Ak x7_2 x61_3).f1))).setCell ⟨gb1, 2, none⟩ (.int .i64 ((Ak x7_2 x61_3).f2))).setCell ⟨gb1, 3, none⟩ (.int .i64 ((Ak x7_2 x61_3).f3))).setCell ⟨gb1, 1, none⟩ (.string (t336.extract 0 8))) = w44n at m0_ m1_ m2_ m3_ ⊢
                                    clear hcz46_0 hcz46_1 hcz46_2 hcz46_3 hfz46_0 hfz46_1 hfz46_2 hfz46_3
                                    clear HO_59 BK0 BK1 HB
                                    have HO_59 := m0_
                                    have BK0 := m1_
                                    have BK1 := m2_
                                    have HB := m3_
                                    clear m0_ m1_ m2_ m3_
                                    have hcn_0 : w44n.cell? ⟨gb1, 0, none⟩ = some (.int .i64 ((Ak x7_2 x61_3).f0)) := (Af BK1.out 0).trans rfl
                                    have hcn_1 : w44n.cell? ⟨gb1, 1, none⟩ = some (.string (t336.extract 0 8)) := (Af BK1.out 1).trans rfl
                                    have hcn_2 : w44n.cell? ⟨gb1, 2, none⟩ = some (.int .i64 ((Ak x7_2 x61_3).f2)) := (Af BK1.out 2).trans rfl
                                    have hcn_3 : w44n.cell? ⟨gb1, 3, none⟩ = some (.int .i64 ((Ak x7_2 x61_3).f3)) := (Af BK1.out 3).trans rfl
                                    go_wp2_with (first | ((with_reducible refine Aw (f := 25) rfl ?_); refine Bj (some 69) rfl rfl Tryd.func25 (by kernel_rfl) rfl #[.agg #[.int .i64 ((Ak x7_2 x61_3).f0), .string (t336.extract 0 8), .int .i64 ((Ak x7_2 x61_3).f2), .int .i64 ((Ak x7_2 x61_3).f3)]] rfl Yb_ ?_; (with_reducible refine (D7.calls k3 ((Ak x7_2 x61_3).f0) (t336.extract 0 8) ((Ak x7_2 x61_3).f2) ((Ak x7_2 x61_3).f3) false _ A26.out).mono ?_); rintro e w47 ⟨rfl, hb⟩; refine ⟨_, rfl, ?_⟩; have n0_ := Ac.mk (Kd.D6 Ybi_ hb); have n1_ := Ac.mk (Ce (g := gb0) (o := .cells #[.int .i64 x336000_3, .string x336001_3, .int .i64 x336002_3, .int .i64 x336003_3] 27 (0, 0)) Ye_ hb); have n2_ := Ac.mk (Ce (g := gb1) (o := .cells #[.int .i64 ((Ak x7_2 x61_3).f0), .string (t336.extract 0 8), .int .i64 ((Ak x7_2 x61_3).f2), .int .i64 ((Ak x7_2 x61_3).f3)] 27 (0, 0)) Ybe_ hb); have n3_ := Ac.mk (Au Ybd_ hb); clear HO_59; clear BK0; clear BK1; clear HB; have HO_59 := n0_; have BK0 := n1_; have BK1 := n2_; have HB := n3_; clear n0_ n1_ n2_ n3_; (try clear hb); (try clear hb2); (try clear hk); (try clear hi); (try clear hcn_0 hcn_1 hcn_2 hcn_3)))
                                    go_roundg k3
                                    case measure => have := HJ2.out; have := HK2.out; have := HK3.out; omega
                                    case rel => exact ⟨(wrap64 (x61_3 + 1)), (x336000_3), (x336001_3), (x336002_3), (x336003_3), Yf_, H', ⟨by have := HJ2.out; have := HK2.out; have := HK3.out; omega⟩, ⟨by (with_reducible repeat (first | apply Kd.Bg | apply Kd.Bh | apply Kd.Bl)); exact Kd.R_mono HO_59.out (fun _ hk => hk.1)⟩, ⟨by (with_reducible repeat (first | refine Ah ?_ _ | refine Aj ?_ | refine Ai ?_ _)); exact BK0.out⟩, ⟨by repeat (first | (with_reducible first | exact HB.out | apply Ae | apply Aa | apply Ad | refine Am ?_ GE0.out | refine Am ?_ GE1.out) | exact HB.out)⟩⟩
                                · rw [if_neg c25] at H
                                  exact absurd H (by simp)
                              · rw [if_neg c24] at H
                                exact absurd H (by simp)
                            · rw [if_neg c23] at H
                              exact absurd H (by simp)
                          · rw [if_neg c22] at H
                            exact absurd H (by simp)
                        · rw [if_neg c21] at H
                          have c21b0 : decide (x61_3 < (x7_2.length : Int)) = false := decide_eq_false c21
                          clear c21
                          simp only [Option.some.injEq, Prod.mk.injEq] at H
                          obtain ⟨rfl, rfl, rfl, rfl, rfl⟩ := H
                          have hcz48_0 : wr.cell? ⟨gb0, 0, none⟩ = some (.int .i64 x336000_3) := (Af BK0.out 0).trans rfl
                          have hcz48_1 : wr.cell? ⟨gb0, 1, none⟩ = some (.string x336001_3) := (Af BK0.out 1).trans rfl
                          have hcz48_2 : wr.cell? ⟨gb0, 2, none⟩ = some (.int .i64 x336002_3) := (Af BK0.out 2).trans rfl
                          have hcz48_3 : wr.cell? ⟨gb0, 3, none⟩ = some (.int .i64 x336003_3) := (Af BK0.out 3).trans rfl
                          have hfz48_0 := Ag BK0.out 0
                          have hfz48_1 := Ag BK0.out 1
                          have hfz48_2 := Ag BK0.out 2
                          have hfz48_3 := Ag BK0.out 3
                          go_wp2
                          refine bodyPost_ret (Hq rfl _ _ gb0 27 #[.int .i64 0, .string (⟨#[]⟩ : ByteArray), .int .i64 0, .int .i64 0] (0, 0) _ rfl (by (with_reducible repeat (first | refine Ah ?_ _ | refine Aj ?_ | refine Ai ?_ _)); refine Bo (cs := #[.int .i64 0, .string (⟨#[]⟩ : ByteArray), .int .i64 0, .int .i64 x336003_3]) ?_ 3 _ rfl; (with_reducible repeat (first | refine Ah ?_ _ | refine Aj ?_ | refine Ai ?_ _)); refine Bo (cs := #[.int .i64 0, .string (⟨#[]⟩ : ByteArray), .int .i64 x336002_3, .int .i64 x336003_3]) ?_ 2 _ rfl; (with_reducible repeat (first | refine Ah ?_ _ | refine Aj ?_ | refine Ai ?_ _)); refine Bo (cs := #[.int .i64 0, .string x336001_3, .int .i64 x336002_3, .int .i64 x336003_3]) ?_ 1 _ rfl; (with_reducible repeat (first | refine Ah ?_ _ | refine Aj ?_ | refine Ai ?_ _)); refine Bo (cs := #[.int .i64 x336000_3, .string x336001_3, .int .i64 x336002_3, .int .i64 x336003_3]) ?_ 0 _ rfl; (with_reducible repeat (first | refine Ah ?_ _ | refine Aj ?_ | refine Ai ?_ _)); exact BK0.out) Tryd.underlying27 rfl (by kernel_rfl)) rfl ?_
                          exact ⟨by first | rfl | (simp [Aq, Ar] <;> rfl) | (simp [*, Aq, Ar] <;> rfl), by repeat (first | (with_reducible first | exact HB.out | apply Ae | apply Aa | apply Ad | refine Am ?_ GE0.out) | exact HB.out)⟩
            · rw [if_neg c11] at H
              exact absurd H (by simp)
          · rw [if_neg c10] at H
            exact absurd H (by simp)
        · rw [if_neg c8] at H
          exact absurd H (by simp)
end Go.Proofs.YtghnljoaklmakaaDoor.X

namespace Go.Proofs.YtghnljoaklmakaaDoor.X
open Go.RowKit Go.Proofs.YtghnljoaklmakaaDoorW.PrintWords Go.Proofs.YtghnljoaklmakaaDoorW.PrintLast Go.Proofs.YtghnljoaklmakaaDoorW.PrintMore
attribute [local go_sem] Ea Eb Eh Eg Dz D5 Ec D9
open Go.Proofs.YtghnljoaklmakaaDoorG
/-- Where the first element is of which p holds; -1. -/
def H6 (p : S27 → Bool) (l : List S27) : Int := match l.findIdx? p with | some i => (i : Int) | none => -1
theorem idxP_note_hit (p : S27 → Bool) (l : List S27) (x : Int) (h0 : 0 ≤ x) (h1 : x < (l.length : Int)) (hm : ∀ j : Nat, (j : Int) < x → p (Ak l (j : Int)) = false) (hp : p (Ak l x) = true) : H6 p l = x := by
  obtain ⟨n, rfl⟩ := Int.eq_ofNat_of_zero_le h0
  have hn : n < l.length := by omega
  have e : l.findIdx? p = some n := by
    rw [List.findIdx?_eq_some_iff_getElem]
    refine ⟨hn, ?_, ?_⟩
    · simpa [Ak, List.getD_eq_getElem?_getD, List.getElem?_eq_getElem hn] using hp
    · intro j hj
      have := hm j (by omega)
      have hjl : j < l.length := by omega
      simpa [Ak, List.getD_eq_getElem?_getD, List.getElem?_eq_getElem hjl] using this
  simp [H6, e]
theorem idxP_note_miss (p : S27 → Bool) (l : List S27) (x : Int) (h1 : ¬ x < (l.length : Int)) (hm : ∀ j : Nat, (j : Int) < x → p (Ak l (j : Int)) = false) : H6 p l = -1 := by
  have e : l.findIdx? p = none := by
    rw [List.findIdx?_eq_none_iff]
    intro y hy
    obtain ⟨j, hj, rfl⟩ := List.getElem_of_mem hy
    have := hm j (by omega)
    simpa [Ak, List.getD_eq_getElem?_getD, List.getElem?_eq_getElem hj] using this
  simp [H6, e]
theorem idxP_note_any (p : S27 → Bool) (l : List S27) : decide (0 ≤ H6 p l) = l.any p := by
  unfold H6
  cases h : l.findIdx? p with
  | none =>
    rw [List.findIdx?_eq_none_iff] at h
    symm
    simp only [show ¬ (0 : Int) ≤ -1 by omega, decide_false, List.any_eq_false]
    intro y hy; simp [h y hy]
  | some i =>
    rw [List.findIdx?_eq_some_iff_getElem] at h
    obtain ⟨hi, hp, _⟩ := h
    symm
    simp only [show (0 : Int) ≤ (i : Int) by omega, decide_true, List.any_eq_true]
    exact ⟨_, List.getElem_mem hi, hp⟩
set_option maxHeartbeats 2000000 in
theorem slices_IndexFunc_note.calls {p : S27 → Bool} {g : Nat} {lb : Array Value} (eg : ∀ args w, (callFunc g args).run Tryd.prog w = .ok (.enter g args) w) (A0 : Option Addr) (c0 : Nat) (l0 : List S27) (w : World) (hr0 : Kd.C k27 w A0 l0.length l0)
    (hp : ∀ (W : World) (x : S27), Below w.heap.size w W → Calls Tryd.prog g (#[.agg #[.int .i64 x.f0, .string x.f1, .int .i64 x.f2, .int .i64 x.f3]] ++ lb) W fun e w' => e = .returned (.bool (p x)) ∧ Below w.heap.size w w') :
    Calls Tryd.prog 60 #[.slice A0 l0.length c0, .func (.func g) #[] lb] w fun e w' => e = .returned (.int .i64 (H6 p l0)) ∧ Below w.heap.size w w' := by
  have hu27 := Tryd.underlying27
  have HR0 := Ac.mk hr0
  clear hr0
  have hL : l0.length ≤ 9223372036854775807 := HR0.out.2.1
  have HP := Ac.mk hp
  clear hp
  have HB := Ac.mk (Below.refl w.heap.size w)
  go_enter Tryd.func60, Tryd.ntmps60
  go_wp2
  go_loopg [5, 8] l0.length (fun gg _ s8 w' => ∃ x : Int, s8 = .int .i64 x ∧ Ac (0 ≤ x ∧ x ≤ (l0.length : Int) ∧ (l0.length : Int) - x ≤ (gg : Int)) ∧ Ac (Below w.heap.size w w') ∧ Ac (∀ j : Nat, (j : Int) < x → p (Ak l0 (j : Int)) = false))
  case atStart => exact ⟨0, rfl, ⟨by omega, by omega, by omega⟩, HB, ⟨fun j hj => by omega⟩⟩
  case round =>
    clear HB
    obtain ⟨x, rfl, HX, HB, HM⟩ := hrel
    by_cases c4 : x < (l0.length : Int)
    · have c4b0 : decide (x < (l0.length : Int)) = true := decide_eq_true c4
      have c5b0 : decide (0 ≤ x) = true := decide_eq_true HX.out.1
      have p151 : 0 ≤ x := HX.out.1
      have q151 := c4
      have hw : wrap64 (x + 1) = x + 1 := by have := HX.out.1; unfold wrap64; omega
      have Hw := Ac.mk hw
      clear hw
      obtain ⟨ad151, e151, hx151_0, hx151_1, hx151_2, hx151_3⟩ := Fp HR0.out x p151 q151
      cases e151
      replace hx151_0 := (HB.out.cell (World.block_lt_of_cell? w _ hx151_0)).trans hx151_0
      replace hx151_1 := (HB.out.cell (World.block_lt_of_cell? w _ hx151_1)).trans hx151_1
      replace hx151_2 := (HB.out.cell (World.block_lt_of_cell? w _ hx151_2)).trans hx151_2
      replace hx151_3 := (HB.out.cell (World.block_lt_of_cell? w _ hx151_3)).trans hx151_3
      have C4 := Ac.mk c4
      clear c4
      replace p151 := eq_true p151
      replace q151 := eq_true q151
      have HC := Ac.mk (HP.out wr (Ak l0 x) HB.out)
      cases hq : p (Ak l0 x) with
      | true =>
        rw [hq] at HC
        have HQ := Ac.mk hq
        clear hq
        go_wp2_with (go_at_fn g; refine HC.out.mono ?_; rintro e w' ⟨rfl, hb'⟩)
        go_ret
        exact ⟨by rw [idxP_note_hit p l0 x HX.out.1 C4.out HM.out HQ.out]; rfl, hb'⟩
      | false =>
        rw [hq] at HC
        have HQ := Ac.mk hq
        clear hq
        go_wp2_with (go_at_fn g; refine HC.out.mono ?_; rintro e w' ⟨rfl, hb'⟩)
        have HB' := Ac.mk hb'
        clear hb'
        go_roundg (l0.length - (x + 1).toNat)
        case measure => have := HX.out; have := C4.out; omega
        case rel =>
          refine ⟨x + 1, by rw [Hw.out], ⟨by have := HX.out; omega, by have := C4.out; omega, by have := HX.out; have := C4.out; omega⟩, HB', ⟨fun j hj => ?_⟩⟩
          by_cases e : (j : Int) = x
          · rw [e]; exact HQ.out
          · exact HM.out j (by omega)
    · have c4b0 : decide (x < (l0.length : Int)) = false := decide_eq_false c4
      have C4 := Ac.mk c4
      clear c4
      go_wp2
      go_ret
      exact ⟨by rw [idxP_note_miss p l0 x (fun h_ => by have := C4.out; omega) HM.out]; rfl, HB.out⟩
set_option maxHeartbeats 2000000 in
theorem H5.calls {p : S27 → Bool} {g : Nat} {lb : Array Value} (eg : ∀ args w, (callFunc g args).run Tryd.prog w = .ok (.enter g args) w) (A0 : Option Addr) (c0 : Nat) (l0 : List S27) (w : World) (hr0 : Kd.C k27 w A0 l0.length l0)
    (hp : ∀ (W : World) (x : S27), Below w.heap.size w W → Calls Tryd.prog g (#[.agg #[.int .i64 x.f0, .string x.f1, .int .i64 x.f2, .int .i64 x.f3]] ++ lb) W fun e w' => e = .returned (.bool (p x)) ∧ Below w.heap.size w w') :
    Calls Tryd.prog 45 #[.slice A0 l0.length c0, .func (.func g) #[] lb] w fun e w' => e = .returned (.bool (l0.any p)) ∧ Below w.heap.size w w' := by
  have HI := Ac.mk (slices_IndexFunc_note.calls eg A0 c0 l0 w hr0 hp)
  rw [← idxP_note_any]
  clear hr0 hp
  go_enter Tryd.func45, Tryd.ntmps45
  go_wp2_with (go_at_call 60; refine HI.out.mono ?_; rintro e w' ⟨rfl, hb'⟩)
  go_ret
  exact ⟨rfl, hb'⟩
/-- A function value that answers as p, in this world and in all later ones. -/
def CloNote (v : Value) (p : S27 → Bool) (w : World) : Prop := ∃ (g : Nat) (lb : Array Value), v = .func (.func g) #[] lb ∧ (∀ args w, (callFunc g args).run Tryd.prog w = .ok (.enter g args) w) ∧ ∀ (W : World) (x : S27), Below w.heap.size w W → Calls Tryd.prog g (#[.agg #[.int .i64 x.f0, .string x.f1, .int .i64 x.f2, .int .i64 x.f3]] ++ lb) W fun e w' => e = .returned (.bool (p x)) ∧ Below w.heap.size w w'
def impl_Note_45.f (l0 : List S27) (p : S27 → Bool) : Option Bool := some (l0.any p)
theorem impl_Note_45.calls (A0 : Option Addr) (c0 : Nat) (l0 : List S27) (p : S27 → Bool) (v : Value) (r : Bool) (w : World) (hr0 : Kd.C k27 w A0 l0.length l0) (hc0 : l0.length ≤ c0) (hv : CloNote v p w) (h : impl_Note_45.f l0 p = some r) :
    Calls Tryd.prog 45 #[.slice A0 l0.length c0, v] w fun e w' => e = .returned (.bool r) ∧ Below w.heap.size w w' := by
  obtain ⟨g, lb, rfl, eg, hp⟩ := hv
  obtain rfl := Option.some.inj h
  exact H5.calls eg A0 c0 l0 w hr0 hp
end Go.Proofs.YtghnljoaklmakaaDoor.X

namespace Go.Proofs.YtghnljoaklmakaaDoor.X
open Go.RowKit Go.Proofs.YtghnljoaklmakaaDoorW.PrintWords Go.Proofs.YtghnljoaklmakaaDoorW.PrintLast Go.Proofs.YtghnljoaklmakaaDoorW.PrintMore
attribute [local go_sem] Ea Eb Eh Eg Dz D5 Ec D9
open Go.Proofs.YtghnljoaklmakaaDoorG
def Gh.f (k : Nat) (a0_0 : Int) (a0_1 : ByteArray) (a0_2 : Int) (a0_3 : Int) : Option (Bool) := (D7.f k a0_0 a0_1 a0_2 a0_3).bind fun t221 => (some (!t221))
theorem Gh.mono : ∀ a0 a1 a2 a3 k, LeO (Gh.f k a0 a1 a2 a3) (Gh.f (k + 1) a0 a1 a2 a3) := by
  intro a0 a1 a2 a3 k
  unfold Gh.f
  repeat' first
      | (with_reducible exact D7.mono _ _ _ _ _)
      | (with_reducible exact LeO.refl _)
      | (with_reducible exact LeO.none _)
      | (with_reducible refine LeO.ite ?_ ?_)
      | (with_reducible refine LeO.bind ?_ (fun _ => ?_))
      | exact D7.mono _ _ _ _ _
      | exact LeO.none _
      | refine LeO.ite ?_ ?_
      | refine LeO.bind ?_ (fun _ => ?_)
set_option maxHeartbeats 8000000 in
set_option maxRecDepth 100000 in
theorem Gh.calls (k : Nat) (a0_0 : Int) (a0_1 : ByteArray) (a0_2 : Int) (a0_3 : Int) (r : Bool) (w : World) (h : Gh.f k a0_0 a0_1 a0_2 a0_3 = some r) :
    Calls Tryd.prog 46 #[.agg #[.int .i64 a0_0, .string a0_1, .int .i64 a0_2, .int .i64 a0_3]] w fun e w' => e = .returned (.bool r) ∧ Below w.heap.size w w' := by
  have hu27 := Tryd.underlying27
  have HB := Ac.mk (Below.refl w.heap.size w)
  have H : ((D7.f k a0_0 a0_1 a0_2 a0_3).bind fun t221 => (some (!t221))) = some r := h
  clear h
  replace H := Option.bind_eq_some_iff.mp H
  obtain ⟨t221, A20, H⟩ := H
  replace H : (some (!t221)) = some r := H
  have A2 := Ac.mk A20
  clear A20
  obtain rfl := Option.some.inj H
  go_enter Tryd.func46, Tryd.ntmps46
  go_wp2_with (first | ((with_reducible refine Dh (N := 1) rfl ?_); refine Dl ?hg (N := 1) ?hd (cs := #[.int .i64 a0_0, .string a0_1, .int .i64 a0_2, .int .i64 a0_3]) (t := 27) ?hr ?_; (case hd => rfl); (case hg => rfl); (case hr => first | (go_simp; done) | (go_simp; rfl)); intro gb0 hg w3 hbox hb; have n0_ := Ac.mk (Au Ya_ hb); have n1_ := Ac.mk (hbox); have n2_ := Ac.mk ((by rw [hg]; exact (Az Ya_) : w.heap.size ≤ gb0)); have n3_ := Ac.mk ((by rw [hg]; exact (Az Ya_) : w.heap.size ≤ gb0)); clear HB; have HB := n0_; have BK0 := n1_; have GW0 := n2_; have GE0 := n3_; clear n0_ n1_ n2_ n3_; clear hb hbox hg; have hcz4_0 : w3.cell? ⟨gb0, 0, none⟩ = some (.int .i64 a0_0) := (Af BK0.out 0).trans rfl; have hcz4_1 : w3.cell? ⟨gb0, 1, none⟩ = some (.string a0_1) := (Af BK0.out 1).trans rfl; have hcz4_2 : w3.cell? ⟨gb0, 2, none⟩ = some (.int .i64 a0_2) := (Af BK0.out 2).trans rfl; have hcz4_3 : w3.cell? ⟨gb0, 3, none⟩ = some (.int .i64 a0_3) := (Af BK0.out 3).trans rfl; have hfz4_0 := Ag BK0.out 0; have hfz4_1 := Ag BK0.out 1; have hfz4_2 := Ag BK0.out 2; have hfz4_3 := Ag BK0.out 3) | ((with_reducible refine Aw (f := 25) rfl ?_); refine Bj (some 4) rfl rfl Tryd.func25 (by kernel_rfl) rfl #[.agg #[.int .i64 a0_0, .string a0_1, .int .i64 a0_2, .int .i64 a0_3]] rfl Yb_ ?_; (with_reducible refine (D7.calls k a0_0 a0_1 a0_2 a0_3 t221 _ A2.out).mono ?_); rintro e w5 ⟨rfl, hb⟩; refine ⟨_, rfl, ?_⟩; have n0_ := Ac.mk (Ce (g := gb0) (o := .cells #[.int .i64 a0_0, .string a0_1, .int .i64 a0_2, .int .i64 a0_3] 27 (0, 0)) Ye_ hb); have n1_ := Ac.mk (Au Yd_ hb); clear BK0; clear HB; have BK0 := n0_; have HB := n1_; clear n0_ n1_; (try clear hb); (try clear hb2); (try clear hk); (try clear hi)))
  go_ret
  exact ⟨by first | rfl | (simp [Aq, Ar] <;> rfl) | (simp [*, Aq, Ar] <;> rfl), by repeat (first | (with_reducible first | exact HB.out | apply Ae | apply Aa | apply Ad | refine Am ?_ GE0.out) | exact HB.out)⟩
end Go.Proofs.YtghnljoaklmakaaDoor.X

namespace Go.Proofs.YtghnljoaklmakaaDoorL
open Go.RowKit Go.Proofs.YtghnljoaklmakaaDoorW.PrintWords
theorem ev_eq {α : Type} {g : Nat → Option α} {r : α} (h : ∀ k, g k = some r) : Ev g r := ⟨0, fun k _ => h k⟩
theorem ev_rounds {α : Type} {g : Nat → Option α} {r : α} (h : Ev g r) : ∃ k, g k = some r := h.rounds
theorem Eu {x : Int} (h0 : -9223372036854775808 ≤ x) (h1 : x ≤ 9223372036854775807) : wrap64 x = x := by unfold wrap64; omega
theorem wrap_succ {n : Nat} (h : n < 9223372036854775807) : wrap64 ((n : Int) + 1) = ((n + 1 : Nat) : Int) := by rw [Eu (by omega) (by omega)]; rfl
end Go.Proofs.YtghnljoaklmakaaDoorL

namespace Go.Proofs.YtghnljoaklmakaaDoor.X
open Go.RowKit Go.Proofs.YtghnljoaklmakaaDoorW.PrintWords Go.Proofs.YtghnljoaklmakaaDoorL
def okB (n : Nat) (c : Int) : Bool := if n < 3 then decide (65 ≤ c) && decide (c ≤ 90) else decide (48 ≤ c) && decide (c ≤ 57)
def trm (n : Nat) (c : Int) : Int := if n < 3 then ((n : Int) + 2) * (c - 64) else ((n : Int) + 2) * (c - 48)
/-- The sum over the bytes from n on, if all are as they should be. -/
def chk (t : ByteArray) : Nat → Nat → Int → Option Int
  | 0, _, acc => some acc
  | d + 1, n, acc => if okB n (bt t n) = true then chk t d (n + 1) (acc + trm n (bt t n)) else none
theorem seven (n : Nat) (h : n < 7) : n = 0 ∨ n = 1 ∨ n = 2 ∨ n = 3 ∨ n = 4 ∨ n = 5 ∨ n = 6 := by omega
theorem trm_bound (n : Nat) (h : n < 7) (c : Int) (hc : okB n c = true) : 0 ≤ trm n c ∧ trm n c ≤ 234 := by
  rcases seven n h with rfl | rfl | rfl | rfl | rfl | rfl | rfl <;> simp [okB] at hc <;> simp [trm] <;> omega
theorem implChk_loop (t : ByteArray) (ht : t.size = 7) : ∀ (d n : Nat) (acc : Int), n + d = 7 → 0 ≤ acc → acc ≤ 234 * n →
    Ev (fun k => Bv.l0 k t acc 7 n) (match chk t d n acc with | some s => (65 + s % 23, true) | none => (0, false)) := by
  intro d
  induction d with
  | zero =>
    intro n acc hn h0 h1
    refine Ev.step (f := fun _ => some _) (fun k => ?_) (Ev.now _)
    simp only [Bv.l0]
    rw [if_neg (by omega), Int.tmod_eq_emod_of_nonneg h0, Eu (by omega) (by omega)]
    simp only [chk]
    congr 2
    omega
  | succ d ih =>
    intro n acc hn h0 h1
    have hr := bt_range t n
    have hcast : ((n : Int) + 1) = ((n + 1 : Nat) : Int) := rfl
    by_cases hok : okB n (bt t n) = true
    · have hb := trm_bound n (by omega) _ hok
      have h2 := ih (n + 1) (acc + trm n (bt t n)) (by omega) (by omega) (by omega)
      simp only [chk, if_pos hok]
      refine Ev.step (f := fun k => Bv.j1 k t acc n (bt t n) 7 n (decide (n < 3))) (fun k => ?_) ?_
      · simp only [Bv.l0]
        rw [if_pos (by omega), if_pos (by omega), if_pos (by omega)]
        by_cases h3 : n < 3
        · simp only [okB, if_pos h3, Bool.and_eq_true, decide_eq_true_eq] at hok
          rw [if_pos (by omega), if_pos (by omega)]
          simp [h3, hok.2]
        · rw [if_neg (by omega)]; simp [h3]
      · refine Ev.step (f := fun k => Bv.l0 k t (acc + trm n (bt t n)) 7 ((n + 1 : Nat) : Int)) (fun k => ?_) h2
        simp only [Bv.j1]
        rw [wrap_succ (by omega)]
        by_cases h3 : n < 3
        · have e : wrap64 (acc + wrap64 (wrap64 ((n : Int) + 2) * ((bt t n - 65) % 256 + 1))) = acc + trm n (bt t n) := by
            have ho : 65 ≤ bt t n ∧ bt t n ≤ 90 := by simpa [okB, h3] using hok
            have ht2 : trm n (bt t n) = ((n : Int) + 2) * (bt t n - 64) := by simp [trm, h3]
            rw [show (bt t n - 65) % 256 + 1 = bt t n - 64 by omega, Eu (x := (n : Int) + 2) (by omega) (by omega), ← ht2, Eu (x := trm n (bt t n)) (by omega) (by omega), Eu (by omega) (by omega)]
          rw [if_pos (by simp [h3]), e]
        · have e : wrap64 (acc + wrap64 (wrap64 ((n : Int) + 2) * ((bt t n - 48) % 256))) = acc + trm n (bt t n) := by
            have ho : 48 ≤ bt t n ∧ bt t n ≤ 57 := by simpa [okB, h3] using hok
            have ht2 : trm n (bt t n) = ((n : Int) + 2) * (bt t n - 48) := by simp [trm, h3]
            rw [show (bt t n - 48) % 256 = bt t n - 48 by omega, Eu (x := (n : Int) + 2) (by omega) (by omega), ← ht2, Eu (x := trm n (bt t n)) (by omega) (by omega), Eu (by omega) (by omega)]
          simp only [okB, if_neg h3, Bool.and_eq_true, decide_eq_true_eq] at hok
          rw [if_neg (by simp [h3]), if_pos (by omega), if_pos (by omega), if_pos (by omega), e]
    · simp only [chk, if_neg hok]
      by_cases h3 : n < 3
      · simp only [okB, if_pos h3, Bool.and_eq_true, decide_eq_true_eq] at hok
        refine Ev.step (f := fun k => Bv.j1 k t acc n (bt t n) 7 n false) (fun k => ?_) (Ev.step (f := fun _ => some (0, false)) (fun k => ?_) (Ev.now _))
        · simp only [Bv.l0]
          rw [if_pos (by omega), if_pos (by omega), if_pos (by omega), if_pos (by omega)]
          by_cases h4 : bt t n ≥ 65
          · rw [if_pos h4]; simp [show ¬ bt t n ≤ 90 by omega]
          · rw [if_neg h4]
        · simp only [Bv.j1]
          rw [if_neg (by decide), if_neg (by omega)]
      · simp only [okB, if_neg h3, Bool.and_eq_true, decide_eq_true_eq] at hok
        refine Ev.step (f := fun k => Bv.j1 k t acc n (bt t n) 7 n false) (fun k => ?_) (Ev.step (f := fun _ => some (0, false)) (fun k => ?_) (Ev.now _))
        · simp only [Bv.l0]
          rw [if_pos (by omega), if_pos (by omega), if_pos (by omega), if_neg (by omega)]
        · simp only [Bv.j1]
          rw [if_neg (by decide), if_pos (by omega)]
          by_cases h4 : bt t n ≥ 48
          · rw [if_pos h4, if_neg (by omega)]
          · rw [if_neg h4]
theorem specSeven_loop (t : ByteArray) (ht : t.size = 7) : ∀ (d n : Nat) (acc : Int), n + d = 7 → Ev (fun k => Dy.l0 k t n) (chk t d n acc).isSome := by
  intro d
  induction d with
  | zero => intro n acc hn; exact Ev.step (f := fun _ => some _) (fun k => by simp only [Dy.l0]; rw [if_neg (by omega)]; rfl) (Ev.now _)
  | succ d ih =>
    intro n acc hn
    by_cases hok : okB n (bt t n) = true
    · simp only [chk, if_pos hok]
      refine Ev.step (f := fun k => Dy.l0 k t ((n + 1 : Nat) : Int)) (fun k => ?_) (ih (n + 1) _ (by omega))
      simp only [Dy.l0]
      rw [if_pos (by omega), wrap_succ (by omega)]
      by_cases h3 : n < 3
      · simp only [okB, if_pos h3, Bool.and_eq_true, decide_eq_true_eq] at hok
        rw [if_pos (by omega), if_pos (by omega), if_pos (by omega), if_neg (by omega), if_neg (by omega), if_neg (by omega)]
      · simp only [okB, if_neg h3, Bool.and_eq_true, decide_eq_true_eq] at hok
        rw [if_neg (by omega), if_pos (by omega), if_pos (by omega), if_pos (by omega), if_neg (by omega), if_neg (by omega)]
    · simp only [chk, if_neg hok]
      refine Ev.step (f := fun _ => some false) (fun k => ?_) (Ev.now _)
      simp only [Dy.l0]
      rw [if_pos (by omega)]
      by_cases h3 : n < 3
      · simp only [okB, if_pos h3, Bool.and_eq_true, decide_eq_true_eq] at hok
        rw [if_pos (by omega), if_pos (by omega), if_pos (by omega)]
        by_cases h4 : bt t n < 65
        · rw [if_pos h4]
        · rw [if_neg h4, if_pos (by omega)]
      · simp only [okB, if_neg h3, Bool.and_eq_true, decide_eq_true_eq] at hok
        rw [if_neg (by omega), if_pos (by omega), if_pos (by omega), if_pos (by omega)]
        by_cases h4 : bt t n < 48
        · rw [if_pos h4]
        · rw [if_neg h4, if_pos (by omega)]
theorem specCheck_loop (t : ByteArray) (ht : t.size = 7) : ∀ (d n : Nat) (acc s : Int), n + d = 7 → 0 ≤ acc → acc ≤ 234 * n → chk t d n acc = some s → Ev (fun k => D8.l0 k t acc n) (65 + s % 23) := by
  intro d
  induction d with
  | zero =>
    intro n acc s hn h0 h1 hs
    simp only [chk, Option.some.injEq] at hs
    subst hs
    refine Ev.step (f := fun _ => some _) (fun k => ?_) (Ev.now _)
    simp only [D8.l0]
    rw [if_neg (by omega), Int.tmod_eq_emod_of_nonneg h0]
    congr 1
    omega
  | succ d ih =>
    intro n acc s hn h0 h1 hs
    have hr := bt_range t n
    by_cases hok : okB n (bt t n) = true
    · have hb := trm_bound n (by omega) _ hok
      simp only [chk, if_pos hok] at hs
      refine Ev.step (f := fun k => D8.l0 k t (acc + trm n (bt t n)) ((n + 1 : Nat) : Int)) (fun k => ?_) (ih (n + 1) _ s (by omega) (by omega) (by omega) hs)
      simp only [D8.l0]
      rw [if_pos (by omega), if_pos (by omega), if_pos (by omega), wrap_succ (by omega)]
      by_cases h3 : n < 3
      · have e : wrap64 (acc + wrap64 (wrap64 (wrap64 (wrap64 (bt t n) - 65) + 1) * wrap64 ((n : Int) + 2))) = acc + trm n (bt t n) := by
          have ho : 65 ≤ bt t n ∧ bt t n ≤ 90 := by simpa [okB, h3] using hok
          have ht2 : trm n (bt t n) = (bt t n - 64) * ((n : Int) + 2) := by simp [trm, h3, Int.mul_comm]
          rw [Eu (x := bt t n) (by omega) (by omega), Eu (x := bt t n - 65) (by omega) (by omega), show bt t n - 65 + 1 = bt t n - 64 by omega, Eu (x := bt t n - 64) (by omega) (by omega), Eu (x := (n : Int) + 2) (by omega) (by omega), ← ht2, Eu (x := trm n (bt t n)) (by omega) (by omega), Eu (by omega) (by omega)]
        rw [if_pos (by omega), e]
      · have e : wrap64 (acc + wrap64 (wrap64 (wrap64 (bt t n) - 48) * wrap64 ((n : Int) + 2))) = acc + trm n (bt t n) := by
          have ho : 48 ≤ bt t n ∧ bt t n ≤ 57 := by simpa [okB, h3] using hok
          have ht2 : trm n (bt t n) = (bt t n - 48) * ((n : Int) + 2) := by simp [trm, h3, Int.mul_comm]
          rw [Eu (x := bt t n) (by omega) (by omega), Eu (x := bt t n - 48) (by omega) (by omega), Eu (x := (n : Int) + 2) (by omega) (by omega), ← ht2, Eu (x := trm n (bt t n)) (by omega) (by omega), Eu (by omega) (by omega)]
        rw [if_neg (by omega), e]
    · simp only [chk, if_neg hok] at hs; cases hs
/-- Is it an identifier? -/
def idOk (s : ByteArray) : Bool := decide (s.size = 8) && (match chk (s.extract 0 7) 7 0 0 with | some m => bt s 7 == 65 + m % 23 | none => false)
theorem extract7 (s : ByteArray) (h : s.size = 8) : (s.extract 0 7).size = 7 := by simp [ByteArray.size_extract, h]
theorem implId_ev (s : ByteArray) : Ev (fun k => Ei.f k s) (idOk s) := by
  unfold Ei.f idOk
  by_cases h : s.size = 8
  · have h7 := extract7 s h
    simp only [h, show ((8 : Nat) : Int) = 8 from rfl, if_true, decide_true, Bool.true_and, show (0 : Int) ≤ 7 by omega, show (7 : Int) ≤ 8 by omega, show (7 : Int) < 8 by omega]
    refine Ev.bind (a := match chk (s.extract 0 7) 7 0 0 with | some s => (65 + s % 23, true) | none => (0, false)) ?_ ?_
    · unfold Bv.f
      simp only [h7, show ((7 : Nat) : Int) = 7 from rfl, if_true]
      exact implChk_loop _ h7 7 0 0 (by omega) (by omega) (by omega)
    · cases chk (s.extract 0 7) 7 0 0 <;> simp <;> exact Ev.now _
  · have : ¬ (s.size : Int) = 8 := by omega
    simp only [this, if_false, h, decide_false, Bool.false_and]
    exact Ev.now _
theorem specId_ev (s : ByteArray) : Ev (fun k => Ey.f k s) (idOk s) := by
  unfold Ey.f idOk
  by_cases h : s.size = 8
  · have h7 := extract7 s h
    simp only [h, show ((8 : Nat) : Int) = 8 from rfl, if_true, decide_true, Bool.true_and, show (0 : Int) ≤ 7 by omega, show (7 : Int) ≤ 8 by omega, show (7 : Int) < 8 by omega]
    refine Ev.bind (a := (chk (s.extract 0 7) 7 0 0).isSome) ?_ ?_
    · unfold Dy.f
      simp only [h7, show ((7 : Nat) : Int) = 7 from rfl, if_true]
      exact specSeven_loop _ h7 7 0 0 (by omega)
    · cases hc : chk (s.extract 0 7) 7 0 0 with
      | none => simp; exact Ev.now _
      | some m =>
        simp only [Option.isSome_some, if_true]
        refine Ev.bind (a := 65 + m % 23) ?_ (Ev.now _)
        unfold D8.f
        exact specCheck_loop _ h7 7 0 0 m (by omega) (by omega) (by omega) hc
  · have : ¬ (s.size : Int) = 8 := by omega
    simp only [this, if_false, h, decide_false, Bool.false_and]
    exact Ev.now _
end Go.Proofs.YtghnljoaklmakaaDoor.X

namespace Go.Proofs.YtghnljoaklmakaaDoor.X
open Go.RowKit Go.Proofs.YtghnljoaklmakaaDoorW.PrintWords Go.Proofs.YtghnljoaklmakaaDoorL
/-- Is it a note? -/
def Ez (kind : Int) (id : ByteArray) (a b : Int) : Bool :=
  idOk id && (if kind = 1 then decide (0 ≤ a) && decide (a ≤ 5) && b == 0 else if kind = 2 then decide (0 ≤ a) && decide (a ≤ 5) && decide (0 ≤ b) && decide (b ≤ 5) && a != b else
    if kind = 3 then decide (1 ≤ a) && decide (a ≤ 15) && b == 0 else if kind = 4 then decide (0 ≤ a) && decide (a ≤ 11) && b == 0 else
    if kind = 5 then decide (1 ≤ a) && decide (a ≤ 999999) && decide (1 ≤ b) && decide (b ≤ 400) else false)
theorem within_eq (a b c : Int) : Df.f a b c = some (decide (b ≤ a) && decide (a ≤ c)) := by
  unfold Df.f
  by_cases h : a ≥ b
  · rw [if_pos h]; simp [show b ≤ a from h]
  · rw [if_neg h]; simp [show ¬ b ≤ a from h]
theorem l1In_eq (a b c : Int) : Dw.f a b c = some (decide (b ≤ a) && decide (a ≤ c)) := by
  unfold Dw.f
  by_cases h : a ≥ b
  · rw [if_pos h]; simp [show b ≤ a from h]
  · rw [if_neg h]; simp [show ¬ b ≤ a from h]
theorem implNote_ev (kind : Int) (id : ByteArray) (a b : Int) : Ev (fun k => D7.f k kind id a b) (Ez kind id a b) := by
  unfold D7.f
  refine Ev.bind (implId_ev id) ?_
  refine ev_eq (fun _ => ?_)
  unfold Ez
  simp only [within_eq, Option.bind_some]
  cases idOk id
  · simp
  · simp only [if_true, Bool.true_and]
    repeat' split
    all_goals (simp_all <;> omega)
theorem specNote_ev (kind : Int) (id : ByteArray) (a b : Int) : Ev (fun k => Ej.f k kind id a b) (Ez kind id a b) := by
  unfold Ej.f
  refine Ev.bind (specId_ev id) ?_
  refine ev_eq (fun _ => ?_)
  unfold Ez
  simp only [l1In_eq, Option.bind_some]
  cases idOk id
  · simp
  · simp only [if_true, Bool.true_and]
    repeat' split
    all_goals (simp_all <;> omega)
end Go.Proofs.YtghnljoaklmakaaDoor.X

namespace Go.Proofs.YtghnljoaklmakaaDoor.X
open Go.RowKit Go.Proofs.YtghnljoaklmakaaDoorW.PrintWords Go.Proofs.YtghnljoaklmakaaDoorW.PrintLast Go.Proofs.YtghnljoaklmakaaDoorW.PrintMore
attribute [local go_sem] Ea Eb Eh Eg Dz D5 Ec D9
open Go.Proofs.YtghnljoaklmakaaDoorG
def Hl (x : S27) : Bool := Ez x.f0 x.f1 x.f2 x.f3
theorem okNote_f (x : S27) : ∃ k, Gh.f k x.f0 x.f1 x.f2 x.f3 = some (!Hl x) := by
  obtain ⟨k, h⟩ := (implNote_ev x.f0 x.f1 x.f2 x.f3).rounds
  exact ⟨k, by unfold Gh.f; rw [h]; rfl⟩
def F7.f (l0 : List S27) : Option Bool := some (decide (l0.length ≤ 10) && l0.all Hl)
set_option maxHeartbeats 2000000 in
theorem F7.calls (A0 : Option Addr) (c0 : Nat) (l0 : List (S27)) (r : Bool) (w : World) (hr0 : Kd.C k27 w A0 l0.length l0) (hc0 : l0.length ≤ c0) (h : F7.f l0 = some r) :
    Calls Tryd.prog 28 #[.slice A0 l0.length c0] w fun e w' => e = .returned (.bool r) ∧ Below w.heap.size w w' := by
  have HI := Ac.mk (fun (W : World) (hb0 : Below w.heap.size w W) => H5.calls (p := fun x => !Hl x) (g := 46) (lb := #[]) (enters_of Tryd.func46 (by kernel_rfl) rfl) A0 c0 l0 W (Kd.C_below hr0 hb0) (fun W' x hb => by
    obtain ⟨k, hk⟩ := okNote_f x
    exact (Gh.calls k x.f0 x.f1 x.f2 x.f3 (!Hl x) W' hk).mono (fun e w' ⟨he, hb'⟩ => ⟨he, hb.trans (hb'.mono hb.size)⟩)))
  simp only [F7.f, Option.some.injEq] at h
  have ha : l0.all Hl = !(l0.any fun x => !Hl x) := by rw [List.all_eq_not_any_not]
  rw [ha] at h
  clear ha hr0
  have H := Ac.mk h
  clear h
  by_cases hlen : (l0.length : Int) ≤ 10
  · have hd1 : decide ((l0.length : Int) ≤ 10) = true := decide_eq_true hlen
    have hd2 : decide (l0.length ≤ 10) = true := decide_eq_true (by omega)
    have HD2 := Ac.mk hd2
    clear hlen
    cases hq : l0.any (fun x => !Hl x) with
    | true =>
      simp only [hq] at HI
      have HQ := Ac.mk hq
      clear hq
      go_enter Tryd.func28, Tryd.ntmps28
      go_wp2_with (go_at_call 45; refine (HI.out _ (by repeat (first | exact Below.refl _ _ | apply Ae | apply Aa | apply Ad))).mono ?_; rintro e w' ⟨rfl, hb'⟩)
      go_ret
      exact ⟨by rw [← H.out, HQ.out, HD2.out]; rfl, hb'⟩
    | false =>
      simp only [hq] at HI
      have HQ := Ac.mk hq
      clear hq
      go_enter Tryd.func28, Tryd.ntmps28
      go_wp2_with (go_at_call 45; refine (HI.out _ (by repeat (first | exact Below.refl _ _ | apply Ae | apply Aa | apply Ad))).mono ?_; rintro e w' ⟨rfl, hb'⟩)
      go_ret
      exact ⟨by rw [← H.out, HQ.out, HD2.out]; rfl, hb'⟩
  · have hd1 : decide ((l0.length : Int) ≤ 10) = false := decide_eq_false hlen
    have hd2 : decide (l0.length ≤ 10) = false := decide_eq_false (by omega)
    have HD2 := Ac.mk hd2
    have HL := Ac.mk hlen
    clear hlen
    go_enter Tryd.func28, Tryd.ntmps28
    go_wp2
    go_ret
    exact ⟨by rw [← H.out, HD2.out]; rfl, Below.refl _ _⟩
end Go.Proofs.YtghnljoaklmakaaDoor.X

namespace Go.Proofs.YtghnljoaklmakaaDoor.X
open Go.RowKit Go.Proofs.YtghnljoaklmakaaDoorW.PrintWords Go.Proofs.YtghnljoaklmakaaDoorW.PrintLast Go.Proofs.YtghnljoaklmakaaDoorW.PrintMore
attribute [local go_sem] Ea Eb Eh Eg Dz D5 Ec D9
open Go.Proofs.YtghnljoaklmakaaDoorG
/-- Of any text. -/
def stringslite_Index.f (a0 : ByteArray) (a1 : ByteArray) : Option Int := if a0.size < 4294967281 then some (Lib.index a0.data.toList a1.data.toList) else none
theorem stringslite_Index.calls (a0 : ByteArray) (a1 : ByteArray) (r : Int) (w : World) (hG : Eo w) (h : stringslite_Index.f a0 a1 = some r) :
    Calls Tryd.prog 65 #[.string a0, .string a1] w fun e w' => e = .returned (.int .i64 r) ∧ Below w.heap.size w w' := by
  unfold stringslite_Index.f at h
  split at h
  · rename_i hc
    simp only [Option.some.injEq] at h
    subst h
    obtain ⟨m, hm⟩ := hG.max
    refine (Go.Proofs.Tryd.stringslite_Index a0 a1 m w hc hm).mono ?_
    rintro e w' ⟨rfl, rfl⟩
    exact ⟨rfl, Below.refl _ _⟩
  · cases h
end Go.Proofs.YtghnljoaklmakaaDoor.X

namespace Go.Proofs.YtghnljoaklmakaaDoor.X
open Go.RowKit Go.Proofs.YtghnljoaklmakaaDoorW.PrintWords Go.Proofs.YtghnljoaklmakaaDoorW.PrintLast Go.Proofs.YtghnljoaklmakaaDoorW.PrintMore
attribute [local go_sem] Ea Eb Eh Eg Dz D5 Ec D9
open Go.Proofs.YtghnljoaklmakaaDoorG
def stringslite_Cut.f (a0 : ByteArray) (a1 : ByteArray) : Option (ByteArray × ByteArray × Bool) := (stringslite_Index.f a0 a1).bind fun t398 => (if t398 ≥ 0 then (if 0 ≤ t398 then (if t398 ≤ (a0.size : Int) then (if 0 ≤ (wrap64 (t398 + (a1.size : Int))) then (if (wrap64 (t398 + (a1.size : Int))) ≤ (a0.size : Int) then (some (a0.extract 0 (t398 : Int).toNat, a0.extract ((wrap64 (t398 + (a1.size : Int))) : Int).toNat a0.size, true)) else (none)) else (none)) else (none)) else (none)) else (some (a0, (⟨#[]⟩ : ByteArray), false)))
set_option maxHeartbeats 8000000 in
set_option maxRecDepth 100000 in
theorem stringslite_Cut.calls (a0 : ByteArray) (a1 : ByteArray) (r1 : ByteArray) (r2 : ByteArray) (r3 : Bool) (w : World) (hG : Eo w) (h : stringslite_Cut.f a0 a1 = some (r1, r2, r3)) :
    Calls Tryd.prog 55 #[.string a0, .string a1] w fun e w' => e = .returned (.tuple #[.string r1, .string r2, .bool r3]) ∧ Below w.heap.size w w' := by
  have HGL := Ac.mk hG
  clear hG
  have HB := Ac.mk (Below.refl w.heap.size w)
  have H : ((stringslite_Index.f a0 a1).bind fun t398 => (if t398 ≥ 0 then (if 0 ≤ t398 then (if t398 ≤ (a0.size : Int) then (if 0 ≤ (wrap64 (t398 + (a1.size : Int))) then (if (wrap64 (t398 + (a1.size : Int))) ≤ (a0.size : Int) then (some (a0.extract 0 (t398 : Int).toNat, a0.extract ((wrap64 (t398 + (a1.size : Int))) : Int).toNat a0.size, true)) else (none)) else (none)) else (none)) else (none)) else (some (a0, (⟨#[]⟩ : ByteArray), false)))) = some (r1, r2, r3) := h
  clear h
  replace H := Option.bind_eq_some_iff.mp H
  obtain ⟨t398, A30, H⟩ := H
  replace H : (if t398 ≥ 0 then (if 0 ≤ t398 then (if t398 ≤ (a0.size : Int) then (if 0 ≤ (wrap64 (t398 + (a1.size : Int))) then (if (wrap64 (t398 + (a1.size : Int))) ≤ (a0.size : Int) then (some (a0.extract 0 (t398 : Int).toNat, a0.extract ((wrap64 (t398 + (a1.size : Int))) : Int).toNat a0.size, true)) else (none)) else (none)) else (none)) else (none)) else (some (a0, (⟨#[]⟩ : ByteArray), false))) = some (r1, r2, r3) := H
  have A3 := Ac.mk A30
  clear A30
  by_cases c4 : t398 ≥ 0
  · rw [if_pos c4] at H
    have c4b0 : decide (0 ≤ t398) = true := decide_eq_true c4
    clear c4
    by_cases c5 : 0 ≤ t398
    · rw [if_pos c5] at H
      have c5b0 := eq_true c5
      have c5b1 : decide (0 ≤ t398) = true := decide_eq_true c5
      clear c5
      by_cases c6 : t398 ≤ (a0.size : Int)
      · rw [if_pos c6] at H
        have c6b0 := eq_true c6
        have c6b1 : decide (t398 ≤ (a0.size : Int)) = true := decide_eq_true c6
        clear c6
        obtain ⟨ji7, hji7⟩ : ∃ j_ : Int, (wrap64 (t398 + (a1.size : Int))) = j_ := ⟨_, rfl⟩
        replace H : (if 0 ≤ (ji7) then (if (ji7) ≤ (a0.size : Int) then (some (a0.extract 0 (t398 : Int).toNat, a0.extract ((ji7) : Int).toNat a0.size, true)) else (none)) else (none)) = some (r1, r2, r3) := by first | (rw [hji7] at H; exact H) | (simp only [hji7] at H ⊢; exact H)
        (try rw [hji7] at A3)
        have hji7w : (IntKind.i64.wrap (t398 + (a1.size : Int))) = ji7 := (Bz _).trans hji7
        by_cases c8 : 0 ≤ (ji7)
        · rw [if_pos c8] at H
          have c8b0 := eq_true c8
          have c8b1 : decide (0 ≤ (ji7)) = true := decide_eq_true c8
          clear c8
          by_cases c9 : (ji7) ≤ (a0.size : Int)
          · rw [if_pos c9] at H
            have c9b0 := eq_true c9
            have c9b1 : decide ((ji7) ≤ (a0.size : Int)) = true := decide_eq_true c9
            clear c9
            simp only [Option.some.injEq, Prod.mk.injEq] at H
            obtain ⟨rfl, rfl, rfl⟩ := H
            go_enter Tryd.func55, Tryd.ntmps55
            go_wp2_with (first | (go_at_call 65; (with_reducible refine (stringslite_Index.calls a0 a1 t398 _ ?side1 A3.out).mono ?_); (case side1 => exact Eo.below HGL.out Ya_); rintro e w10 ⟨rfl, hb⟩; have n0_ := Ac.mk (Au Ya_ hb); clear HB; have HB := n0_; clear n0_; (try clear hb); (try clear hb2); (try clear hk); (try clear hi)))
            repeat (go_quiet (first | (go_at_call 65; (with_reducible refine (stringslite_Index.calls a0 a1 t398 _ ?side1 A3.out).mono ?_); (case side1 => exact Eo.below HGL.out Ya_); rintro e w10 ⟨rfl, hb⟩; have n0_ := Ac.mk (Au Ya_ hb); clear HB; have HB := n0_; clear n0_; (try clear hb); (try clear hb2); (try clear hk); (try clear hi))); try go_wp2_with (first | (go_at_call 65; (with_reducible refine (stringslite_Index.calls a0 a1 t398 _ ?side1 A3.out).mono ?_); (case side1 => exact Eo.below HGL.out Ya_); rintro e w10 ⟨rfl, hb⟩; have n0_ := Ac.mk (Au Ya_ hb); clear HB; have HB := n0_; clear n0_; (try clear hb); (try clear hb2); (try clear hk); (try clear hi))))
            go_ret3
            exact ⟨by first | rfl | (simp [Aq, Ar] <;> rfl) | (simp only [← hji7]; first | rfl | (simp [Aq, Ar] <;> rfl)) | (simp [*, Aq, Ar] <;> rfl), by repeat (first | (with_reducible first | exact HB.out | apply Ae | apply Aa | apply Ad) | exact HB.out)⟩
          · rw [if_neg c9] at H
            exact absurd H (by simp)
        · rw [if_neg c8] at H
          exact absurd H (by simp)
      · rw [if_neg c6] at H
        exact absurd H (by simp)
    · rw [if_neg c5] at H
      exact absurd H (by simp)
  · rw [if_neg c4] at H
    have c4b0 : decide (0 ≤ t398) = false := decide_eq_false c4
    clear c4
    simp only [Option.some.injEq, Prod.mk.injEq] at H
    obtain ⟨rfl, rfl, rfl⟩ := H
    go_enter Tryd.func55, Tryd.ntmps55
    go_wp2_with (first | (go_at_call 65; (with_reducible refine (stringslite_Index.calls a0 a1 t398 _ ?side1 A3.out).mono ?_); (case side1 => exact Eo.below HGL.out Ya_); rintro e w11 ⟨rfl, hb⟩; have n0_ := Ac.mk (Au Ya_ hb); clear HB; have HB := n0_; clear n0_; (try clear hb); (try clear hb2); (try clear hk); (try clear hi)))
    repeat (go_quiet (first | (go_at_call 65; (with_reducible refine (stringslite_Index.calls a0 a1 t398 _ ?side1 A3.out).mono ?_); (case side1 => exact Eo.below HGL.out Ya_); rintro e w11 ⟨rfl, hb⟩; have n0_ := Ac.mk (Au Ya_ hb); clear HB; have HB := n0_; clear n0_; (try clear hb); (try clear hb2); (try clear hk); (try clear hi))); try go_wp2_with (first | (go_at_call 65; (with_reducible refine (stringslite_Index.calls a0 a1 t398 _ ?side1 A3.out).mono ?_); (case side1 => exact Eo.below HGL.out Ya_); rintro e w11 ⟨rfl, hb⟩; have n0_ := Ac.mk (Au Ya_ hb); clear HB; have HB := n0_; clear n0_; (try clear hb); (try clear hb2); (try clear hk); (try clear hi))))
    go_ret3
    exact ⟨by first | rfl | (simp [Aq, Ar] <;> rfl) | (simp [*, Aq, Ar] <;> rfl), by repeat (first | (with_reducible first | exact HB.out | apply Ae | apply Aa | apply Ad) | exact HB.out)⟩
end Go.Proofs.YtghnljoaklmakaaDoor.X

namespace Go.Proofs.YtghnljoaklmakaaDoor.X
open Go.RowKit Go.Proofs.YtghnljoaklmakaaDoorW.PrintWords Go.Proofs.YtghnljoaklmakaaDoorW.PrintLast Go.Proofs.YtghnljoaklmakaaDoorW.PrintMore
attribute [local go_sem] Ea Eb Eh Eg Dz D5 Ec D9
open Go.Proofs.YtghnljoaklmakaaDoorG
def strings_Cut.f (a0 : ByteArray) (a1 : ByteArray) : Option (ByteArray × ByteArray × Bool) := (stringslite_Cut.f a0 a1).bind fun bt399 => (some (bt399.1, bt399.2.1, bt399.2.2))
set_option maxHeartbeats 8000000 in
set_option maxRecDepth 100000 in
theorem strings_Cut.calls (a0 : ByteArray) (a1 : ByteArray) (r1 : ByteArray) (r2 : ByteArray) (r3 : Bool) (w : World) (hG : Eo w) (h : strings_Cut.f a0 a1 = some (r1, r2, r3)) :
    Calls Tryd.prog 35 #[.string a0, .string a1] w fun e w' => e = .returned (.tuple #[.string r1, .string r2, .bool r3]) ∧ Below w.heap.size w w' := by
  have HGL := Ac.mk hG
  clear hG
  have HB := Ac.mk (Below.refl w.heap.size w)
  have H : ((stringslite_Cut.f a0 a1).bind fun bt399 => (some (bt399.1, bt399.2.1, bt399.2.2))) = some (r1, r2, r3) := h
  clear h
  replace H := Option.bind_eq_some_iff.mp H
  obtain ⟨⟨t399, t400, t401⟩, A30, H⟩ := H
  replace H : (some (t399, t400, t401)) = some (r1, r2, r3) := H
  have A3 := Ac.mk A30
  clear A30
  simp only [Option.some.injEq, Prod.mk.injEq] at H
  obtain ⟨rfl, rfl, rfl⟩ := H
  go_enter Tryd.func35, Tryd.ntmps35
  go_wp2_with (first | ((with_reducible refine Aw (f := 55) rfl ?_); refine Bj (some 9) rfl rfl Tryd.func55 (by kernel_rfl) rfl #[.string a0, .string a1] rfl Yb_ ?_; (with_reducible refine (stringslite_Cut.calls a0 a1 t399 t400 t401 _ ?side1 A3.out).mono ?_); (case side1 => exact Eo.below HGL.out Ya_); rintro e w4 ⟨rfl, hb⟩; refine ⟨_, rfl, ?_⟩; have n0_ := Ac.mk (Au Ya_ hb); clear HB; have HB := n0_; clear n0_; (try clear hb); (try clear hb2); (try clear hk); (try clear hi)))
  go_ret3
  exact ⟨by first | rfl | (simp [Aq, Ar] <;> rfl) | (simp [*, Aq, Ar] <;> rfl), by repeat (first | (with_reducible first | exact HB.out | apply Ae | apply Aa | apply Ad) | exact HB.out)⟩
end Go.Proofs.YtghnljoaklmakaaDoor.X

namespace Go.Proofs.YtghnljoaklmakaaDoor.X
open Go.RowKit Go.Proofs.YtghnljoaklmakaaDoorW.PrintWords Go.Proofs.YtghnljoaklmakaaDoorW.PrintLast Go.Proofs.YtghnljoaklmakaaDoorW.PrintMore
attribute [local go_sem] Ea Eb Eh Eg Dz D5 Ec D9
open Go.Proofs.YtghnljoaklmakaaDoorG
def Bi.l0 : Nat → ByteArray → List (S27) → Option ((List (S27)) × Bool)
  | 0, _, _ => none
  | k + 1, x0, x4 => if x0.toList = ([] : List UInt8) then ((F7.f x4).bind fun t405 => (if t405 = true then (some (x4, true)) else (some (([] : List (S27)), false)))) else ((strings_Cut.f x0 (⟨#[46, 32]⟩ : ByteArray)).bind fun bt406 => (if bt406.2.2 = true then (if bt406.1.size + 1 ≤ 9223372036854775807 then ((Bc.f k (bt406.1 ++ (⟨#[46]⟩ : ByteArray))).bind fun bt409 => (if bt409.2.2.2.2 = true then (if bt406.2.1.toList = ([] : List UInt8) then (some (([] : List (S27)), false)) else (if x4.length < 3518437208883 then (Bi.l0 k bt406.2.1 (x4 ++ [(⟨bt409.1, bt409.2.1, bt409.2.2.1, bt409.2.2.2.1⟩ : S27)])) else (none))) else (some (([] : List (S27)), false)))) else (none)) else ((Bc.f k bt406.1).bind fun bt418 => (if bt418.2.2.2.2 = true then (if x4.length < 3518437208883 then (Bi.l0 k bt406.2.1 (x4 ++ [(⟨bt418.1, bt418.2.1, bt418.2.2.1, bt418.2.2.2.1⟩ : S27)])) else (none)) else (some (([] : List (S27)), false))))))
def Bi.f (k : Nat) (a0 : ByteArray) : Option ((List (S27)) × Bool) := Bi.l0 k a0 (([] : List (S27)))
theorem Bi.Ed : ∀ k, (∀ y0 y1, LeO (Bi.l0 k y0 y1) (Bi.l0 (k + 1) y0 y1))
  | 0 => fun _ _ r h => by simp [Bi.l0] at h
  | k + 1 => by
    have ih0 := Bi.Ed k
    · intro y0 y1
      unfold Bi.l0
      repeat' first
      | (with_reducible exact ih0 _ _)
      | (with_reducible exact Bc.mono _ _)
      | (with_reducible exact LeO.refl _)
      | (with_reducible exact LeO.none _)
      | (with_reducible refine LeO.ite ?_ ?_)
      | (with_reducible refine LeO.bind ?_ (fun _ => ?_))
      | exact ih0 _ _
      | exact Bc.mono _ _
      | exact LeO.none _
      | refine LeO.ite ?_ ?_
      | refine LeO.bind ?_ (fun _ => ?_)
theorem Bi.mono : ∀ a0 k, LeO (Bi.f k a0) (Bi.f (k + 1) a0) := by
  intro a0 k
  have ih0 := Bi.Ed k
  unfold Bi.f
  repeat' first
      | (with_reducible exact ih0 _ _)
      | (with_reducible exact Bc.mono _ _)
      | (with_reducible exact LeO.refl _)
      | (with_reducible exact LeO.none _)
      | (with_reducible refine LeO.ite ?_ ?_)
      | (with_reducible refine LeO.bind ?_ (fun _ => ?_))
      | exact ih0 _ _
      | exact Bc.mono _ _
      | exact LeO.none _
      | refine LeO.ite ?_ ?_
      | refine LeO.bind ?_ (fun _ => ?_)
set_option maxHeartbeats 8000000 in
set_option maxRecDepth 100000 in
theorem Bi.calls (k : Nat) (a0 : ByteArray) (r1 : List (S27)) (r2 : Bool) (w : World) (hG : Eo w) (h : Bi.f k a0 = some (r1, r2)) :
    Calls Tryd.prog 20 #[.string a0] w fun e w' => ∃ v0_ : Value, e = .returned (.tuple #[v0_, .bool r2]) ∧ Kd.R k27 27 w' w.heap.size (fun _ => True) v0_ r1 ∧ Below w.heap.size w w' := by
  have hu27 := Tryd.underlying27
  have HGL := Ac.mk hG
  clear hG
  have HB := Ac.mk (Below.refl w.heap.size w)
  have H : (Bi.l0 k a0 (([] : List (S27)))) = some (r1, r2) := h
  clear h
  obtain ⟨y402, hy402⟩ : ∃ y_ : List (S27), y_ = (([] : List (S27))) := ⟨_, rfl⟩
  replace H : (Bi.l0 k a0 y402) = some (r1, r2) := by first | (rw [hy402]; with_reducible exact H) | (have H2_ := (Option.bind_some _ _).symm.trans H; rw [hy402]; with_reducible exact H2_) | (have H2_ := (Option.bind_some _ _).symm.trans H; with_reducible exact H2_) | with_reducible exact H | (rw [hy402]; exact H) | exact H
  have Ny402 := Ac.mk hy402
  clear hy402
  have H' := Ac.mk H
  clear H
  go_enter Tryd.func20, Tryd.ntmps20
  go_wp2_with (first | ((with_reducible refine Dh (N := 10) rfl ?_); refine Kd.R_lit k27 _ 27 ?hg (N := 10) ?hd (xs := ([] : List (S27))) (inner := []) (ok := fun _ => True) (okp := fun _ => True) ?hr ?hp (fun _ hk => hk) trivial (Below.refl _ _) (Nat.le_refl _) (by simp) ?_; (case hd => rfl); (case hg => rfl); (case hr => first | (go_simp; done) | (go_simp; rfl)); (case hp => exact (Ee.none _ _)); intro v403 w2 ho3 hb hg_ hnew_; clear hg_ hnew_; (first | rw [← Ny402.out] at ho3 | (simp only [Int.reduceToNat] at ho3; rw [← Ny402.out] at ho3)); have n0_ := Ac.mk (Kd.F6 ho3 (Az Ya_)); have n1_ := Ac.mk (Au Ya_ hb); clear HB; have HO404 := n0_; have HB := n1_; clear n0_ n1_; clear hb ho3))
  go_loopg [0, 4] k (fun kq v0 v4 w' => ∃ (x0_1 : ByteArray) (x4_1 : List (S27)), v0 = .string x0_1 ∧ Ac (Bi.l0 kq x0_1 x4_1 = some (r1, r2)) ∧ Ac (kq ≤ k) ∧ Ac (Kd.R k27 27 w' w.heap.size (fun _ => True) v4 x4_1) ∧ Ac (Below w.heap.size w w'))
  case atStart => exact ⟨(a0), (y402), Yf_, H', ⟨Nat.le_refl _⟩, ⟨by (with_reducible repeat (first | apply Kd.Bg | apply Kd.Bh | apply Kd.Bl)); exact HO404.out⟩, ⟨by repeat (first | (with_reducible first | exact HB.out | apply Ae | apply Aa | apply Ad) | exact HB.out)⟩⟩
  case round =>
    clear H'
    try clear c2
    try clear p2
    obtain ⟨x0_1, x4_1, rfl, HA, HK1, HO_4, HB⟩ := hrel
    cases gk with
    | zero => exact absurd HA.out (by simp [Bi.l0])
    | succ k1 =>
      have H := HA.out
      clear HA
      simp only [Bi.l0] at H
      by_cases c4 : x0_1.toList = ([] : List UInt8)
      · rw [if_pos c4] at H
        have c4b0 : (x0_1.toList == ([] : List UInt8)) = true := beq_iff_eq.mpr c4
        have c4b1 : (x0_1.toList != ([] : List UInt8)) = false := bne_eq_false_iff_eq.mpr c4
        clear c4
        replace H := Option.bind_eq_some_iff.mp H
        obtain ⟨t405, A50, H⟩ := H
        replace H : (if t405 = true then (some (x4_1, true)) else (some (([] : List (S27)), false))) = some (r1, r2) := H
        have A5 := Ac.mk A50
        clear A50
        by_cases c6 : t405 = true
        · subst c6
          have H1 : (some (x4_1, true)) = some (r1, r2) := by rw [if_pos rfl] at H; exact H
          clear H
          have H := H1
          clear H1
          simp only [Option.some.injEq, Prod.mk.injEq] at H
          obtain ⟨rfl, rfl⟩ := H
          obtain ⟨Ao7, co7, eo7⟩ := Kd.Ff HO_4.out
          subst eo7
          go_wp2_with (first | ((with_reducible refine Aw (f := 28) rfl ?_); refine Bj (some 42) rfl rfl Tryd.func28 (by kernel_rfl) rfl #[.slice Ao7 x4_1.length co7] rfl Yb_ ?_; (with_reducible refine (F7.calls _ _ x4_1 true _ ?side1 ?side2 A5.out).mono ?_); (case side1 => repeat (first | exact (Kd.Dv HO_4.out).2.2 | (with_reducible refine Kd.Fz ?_ _) | (with_reducible refine Kd.F5 ?_ _) | (with_reducible refine Kd.Gj ?_))); (case side2 => exact (Kd.Dv HO_4.out).2.1); rintro e w8 ⟨rfl, hb⟩; refine ⟨_, rfl, ?_⟩; have n0_ := Ac.mk (Kd.D6 Yg_ hb); have n1_ := Ac.mk (Au Ya_ hb); clear HO_4; clear HB; have HO_4 := n0_; have HB := n1_; clear n0_ n1_; (try clear hb); (try clear hb2); (try clear hk); (try clear hi)))
          go_ret2
          exact ⟨_, by first | rfl | (simp [Aq, Ar] <;> rfl) | (simp [*, Aq, Ar] <;> rfl), by (with_reducible repeat (first | apply Kd.Bg | apply Kd.Bh | apply Kd.Bl)); exact HO_4.out, by repeat (first | (with_reducible first | exact HB.out | apply Ae | apply Aa | apply Ad) | exact HB.out)⟩
        · replace c6 := Bool.eq_false_iff.mpr c6
          subst c6
          have H1 : (some (([] : List (S27)), false)) = some (r1, r2) := by rw [if_neg (show ¬ (false = true) by decide)] at H; exact H
          clear H
          have H := H1
          clear H1
          simp only [Option.some.injEq, Prod.mk.injEq] at H
          obtain ⟨rfl, rfl⟩ := H
          obtain ⟨Ao9, co9, eo9⟩ := Kd.Ff HO_4.out
          subst eo9
          go_wp2_with (first | ((with_reducible refine Aw (f := 28) rfl ?_); refine Bj (some 42) rfl rfl Tryd.func28 (by kernel_rfl) rfl #[.slice Ao9 x4_1.length co9] rfl Yb_ ?_; (with_reducible refine (F7.calls _ _ x4_1 false _ ?side1 ?side2 A5.out).mono ?_); (case side1 => repeat (first | exact (Kd.Dv HO_4.out).2.2 | (with_reducible refine Kd.Fz ?_ _) | (with_reducible refine Kd.F5 ?_ _) | (with_reducible refine Kd.Gj ?_))); (case side2 => exact (Kd.Dv HO_4.out).2.1); rintro e w10 ⟨rfl, hb⟩; refine ⟨_, rfl, ?_⟩; have n0_ := Ac.mk (Kd.D6 Yg_ hb); have n1_ := Ac.mk (Au Ya_ hb); clear HO_4; clear HB; have HO_4 := n0_; have HB := n1_; clear n0_ n1_; (try clear hb); (try clear hb2); (try clear hk); (try clear hi)))
          go_ret2
          exact ⟨_, by first | rfl | (simp [Aq, Ar] <;> rfl) | (simp [*, Aq, Ar] <;> rfl), by first | exact Kd.R_nil _ _ _ _ _ | exact Kd.N_nil _ _ _ _ _ | exact Kd.V_nil _ _ _ _ _ | exact Kd.Q_nil _ _ _ _ _ | exact Kd.S_nil _ _ _ _ _, by repeat (first | (with_reducible first | exact HB.out | apply Ae | apply Aa | apply Ad) | exact HB.out)⟩
      · rw [if_neg c4] at H
        have c4b0 : (x0_1.toList == ([] : List UInt8)) = false := beq_eq_false_iff_ne.mpr c4
        have c4b1 : (x0_1.toList != ([] : List UInt8)) = true := bne_iff_ne.mpr c4
        replace H := Option.bind_eq_some_iff.mp H
        obtain ⟨⟨t406, t407, t408⟩, A110, H⟩ := H
        replace H : (if t408 = true then (if t406.size + 1 ≤ 9223372036854775807 then ((Bc.f k1 (t406 ++ (⟨#[46]⟩ : ByteArray))).bind fun bt409 => (if bt409.2.2.2.2 = true then (if t407.toList = ([] : List UInt8) then (some (([] : List (S27)), false)) else (if x4_1.length < 3518437208883 then (Bi.l0 k1 t407 (x4_1 ++ [(⟨bt409.1, bt409.2.1, bt409.2.2.1, bt409.2.2.2.1⟩ : S27)])) else (none))) else (some (([] : List (S27)), false)))) else (none)) else ((Bc.f k1 t406).bind fun bt418 => (if bt418.2.2.2.2 = true then (if x4_1.length < 3518437208883 then (Bi.l0 k1 t407 (x4_1 ++ [(⟨bt418.1, bt418.2.1, bt418.2.2.1, bt418.2.2.2.1⟩ : S27)])) else (none)) else (some (([] : List (S27)), false))))) = some (r1, r2) := H
        have A11 := Ac.mk A110
        clear A110
        by_cases c12 : t408 = true
        · subst c12
          have H1 : (if t406.size + 1 ≤ 9223372036854775807 then ((Bc.f k1 (t406 ++ (⟨#[46]⟩ : ByteArray))).bind fun bt409 => (if bt409.2.2.2.2 = true then (if t407.toList = ([] : List UInt8) then (some (([] : List (S27)), false)) else (if x4_1.length < 3518437208883 then (Bi.l0 k1 t407 (x4_1 ++ [(⟨bt409.1, bt409.2.1, bt409.2.2.1, bt409.2.2.2.1⟩ : S27)])) else (none))) else (some (([] : List (S27)), false)))) else (none)) = some (r1, r2) := by rw [if_pos rfl] at H; exact H
          clear H
          have H := H1
          clear H1
          by_cases c13 : t406.size + 1 ≤ 9223372036854775807
          · rw [if_pos c13] at H
            have c13b0 := eq_true c13
            have c13b1 : decide (t406.size + 1 ≤ 9223372036854775807) = true := decide_eq_true c13
            try have c13b2 : (9223372036854775807 < t406.size + 1) = False := eq_false (Nat.not_lt.2 c13)
            replace H := Option.bind_eq_some_iff.mp H
            obtain ⟨⟨t409, t410, t411, t412, t413⟩, A140, H⟩ := H
            replace H : (if t413 = true then (if t407.toList = ([] : List UInt8) then (some (([] : List (S27)), false)) else (if x4_1.length < 3518437208883 then (Bi.l0 k1 t407 (x4_1 ++ [(⟨t409, t410, t411, t412⟩ : S27)])) else (none))) else (some (([] : List (S27)), false))) = some (r1, r2) := H
            have A14 := Ac.mk A140
            clear A140
            by_cases c15 : t413 = true
            · subst c15
              have H1 : (if t407.toList = ([] : List UInt8) then (some (([] : List (S27)), false)) else (if x4_1.length < 3518437208883 then (Bi.l0 k1 t407 (x4_1 ++ [(⟨t409, t410, t411, t412⟩ : S27)])) else (none))) = some (r1, r2) := by rw [if_pos rfl] at H; exact H
              clear H
              have H := H1
              clear H1
              by_cases c16 : t407.toList = ([] : List UInt8)
              · rw [if_pos c16] at H
                have c16b0 : (t407.toList == ([] : List UInt8)) = true := beq_iff_eq.mpr c16
                have c16b1 : (t407.toList != ([] : List UInt8)) = false := bne_eq_false_iff_eq.mpr c16
                clear c16
                simp only [Option.some.injEq, Prod.mk.injEq] at H
                obtain ⟨rfl, rfl⟩ := H
                go_wp2_with (first | ((with_reducible refine Aw (f := 35) rfl ?_); refine Bj (some 15) rfl rfl Tryd.func35 (by kernel_rfl) rfl #[.string x0_1, .string (⟨#[46, 32]⟩ : ByteArray)] rfl Yb_ ?_; (with_reducible refine (strings_Cut.calls x0_1 (⟨#[46, 32]⟩ : ByteArray) t406 t407 true _ ?side1 A11.out).mono ?_); (case side1 => exact Eo.below HGL.out Ya_); rintro e w17 ⟨rfl, hb⟩; refine ⟨_, rfl, ?_⟩; have n0_ := Ac.mk (Kd.D6 Yg_ hb); have n1_ := Ac.mk (Au Ya_ hb); clear HO_4; clear HB; have HO_4 := n0_; have HB := n1_; clear n0_ n1_; (try clear hb); (try clear hb2); (try clear hk); (try clear hi)) | ((with_reducible refine Aw (f := 17) rfl ?_); refine Bj (some 24) rfl rfl Tryd.func17 (by kernel_rfl) rfl #[.string (t406 ++ (⟨#[46]⟩ : ByteArray))] rfl Yb_ ?_; (with_reducible refine (Bc.calls k1 (t406 ++ (⟨#[46]⟩ : ByteArray)) t409 t410 t411 t412 true _ ?side1 A14.out).mono ?_); (case side1 => exact Eo.below HGL.out Ya_); rintro e w18 ⟨rfl, hb⟩; refine ⟨_, rfl, ?_⟩; have n0_ := Ac.mk (Kd.D6 Yg_ hb); have n1_ := Ac.mk (Au Ya_ hb); clear HO_4; clear HB; have HO_4 := n0_; have HB := n1_; clear n0_ n1_; (try clear hb); (try clear hb2); (try clear hk); (try clear hi)) | ((with_reducible refine Dh (N := 8) rfl ?_); refine Dl ?hg (N := 8) ?hd (cs := #[.int .i64 0, .string (⟨#[]⟩ : ByteArray), .int .i64 0, .int .i64 0]) (t := 27) ?hr ?_; (case hd => rfl); (case hg => rfl); (case hr => first | (go_simp; done) | (go_simp; rfl)); intro gb0 hg w19 hbox hb; have n0_ := Ac.mk (Kd.D6 (Kd.Hg Yg_ gb0 (Nat.le_of_eq hg.symm)) hb); have n1_ := Ac.mk (Au Ya_ hb); have n2_ := Ac.mk (hbox); have n3_ := Ac.mk ((by rw [hg]; exact (Az Ya_) : w.heap.size ≤ gb0)); have n4_ := Ac.mk ((by rw [hg]; exact (Az Ya_) : w.heap.size ≤ gb0)); clear HO_4; clear HB; have HO_4 := n0_; have HB := n1_; have BK0 := n2_; have GW0 := n3_; have GE0 := n4_; clear n0_ n1_ n2_ n3_ n4_; clear hb hbox hg; have hcz20_0 : w19.cell? ⟨gb0, 0, none⟩ = some (.int .i64 0) := (Af BK0.out 0).trans rfl; have hcz20_1 : w19.cell? ⟨gb0, 1, none⟩ = some (.string (⟨#[]⟩ : ByteArray)) := (Af BK0.out 1).trans rfl; have hcz20_2 : w19.cell? ⟨gb0, 2, none⟩ = some (.int .i64 0) := (Af BK0.out 2).trans rfl; have hcz20_3 : w19.cell? ⟨gb0, 3, none⟩ = some (.int .i64 0) := (Af BK0.out 3).trans rfl; have hfz20_0 := Ag BK0.out 0; have hfz20_1 := Ag BK0.out 1; have hfz20_2 := Ag BK0.out 2; have hfz20_3 := Ag BK0.out 3))
                go_ret2
                exact ⟨_, by first | rfl | (simp [Aq, Ar] <;> rfl) | (simp [*, Aq, Ar] <;> rfl), by first | exact Kd.R_nil _ _ _ _ _ | exact Kd.N_nil _ _ _ _ _ | exact Kd.V_nil _ _ _ _ _ | exact Kd.Q_nil _ _ _ _ _ | exact Kd.S_nil _ _ _ _ _, by repeat (first | (with_reducible first | exact HB.out | apply Ae | apply Aa | apply Ad | refine Am ?_ GE0.out) | exact HB.out)⟩
              · rw [if_neg c16] at H
                have c16b0 : (t407.toList == ([] : List UInt8)) = false := beq_eq_false_iff_ne.mpr c16
                have c16b1 : (t407.toList != ([] : List UInt8)) = true := bne_iff_ne.mpr c16
                by_cases c21 : x4_1.length < 3518437208883
                · rw [if_pos c21] at H
                  have LMc21 := Ac.mk c21
                  clear c21
                  obtain ⟨y415, hy415⟩ : ∃ y_ : List (S27), y_ = (x4_1 ++ [(⟨t409, t410, t411, t412⟩ : S27)]) := ⟨_, rfl⟩
                  replace H : (Bi.l0 k1 t407 y415) = some (r1, r2) := by first | (rw [hy415]; with_reducible exact H) | (have H2_ := (Option.bind_some _ _).symm.trans H; rw [hy415]; with_reducible exact H2_) | (have H2_ := (Option.bind_some _ _).symm.trans H; with_reducible exact H2_) | with_reducible exact H | (rw [hy415]; exact H) | exact H
                  have Ny415 := Ac.mk hy415
                  clear hy415
                  have H' := Ac.mk H
                  clear H
                  go_wp2_with (first | ((with_reducible refine Aw (f := 35) rfl ?_); refine Bj (some 15) rfl rfl Tryd.func35 (by kernel_rfl) rfl #[.string x0_1, .string (⟨#[46, 32]⟩ : ByteArray)] rfl Yb_ ?_; (with_reducible refine (strings_Cut.calls x0_1 (⟨#[46, 32]⟩ : ByteArray) t406 t407 true _ ?side1 A11.out).mono ?_); (case side1 => exact Eo.below HGL.out Ya_); rintro e w22 ⟨rfl, hb⟩; refine ⟨_, rfl, ?_⟩; have n0_ := Ac.mk (Kd.D6 Yg_ hb); have n1_ := Ac.mk (Au Ya_ hb); clear HO_4; clear HB; have HO_4 := n0_; have HB := n1_; clear n0_ n1_; (try clear hb); (try clear hb2); (try clear hk); (try clear hi)) | ((with_reducible refine Aw (f := 17) rfl ?_); refine Bj (some 24) rfl rfl Tryd.func17 (by kernel_rfl) rfl #[.string (t406 ++ (⟨#[46]⟩ : ByteArray))] rfl Yb_ ?_; (with_reducible refine (Bc.calls k1 (t406 ++ (⟨#[46]⟩ : ByteArray)) t409 t410 t411 t412 true _ ?side1 A14.out).mono ?_); (case side1 => exact Eo.below HGL.out Ya_); rintro e w23 ⟨rfl, hb⟩; refine ⟨_, rfl, ?_⟩; have n0_ := Ac.mk (Kd.D6 Yg_ hb); have n1_ := Ac.mk (Au Ya_ hb); clear HO_4; clear HB; have HO_4 := n0_; have HB := n1_; clear n0_ n1_; (try clear hb); (try clear hb2); (try clear hk); (try clear hi)) | ((with_reducible refine Dh (N := 8) rfl ?_); refine Dl ?hg (N := 8) ?hd (cs := #[.int .i64 0, .string (⟨#[]⟩ : ByteArray), .int .i64 0, .int .i64 0]) (t := 27) ?hr ?_; (case hd => rfl); (case hg => rfl); (case hr => first | (go_simp; done) | (go_simp; rfl)); intro gb0 hg w24 hbox hb; have n0_ := Ac.mk (Kd.D6 (Kd.Hg Yg_ gb0 (Nat.le_of_eq hg.symm)) hb); have n1_ := Ac.mk (Au Ya_ hb); have n2_ := Ac.mk (hbox); have n3_ := Ac.mk ((by rw [hg]; exact (Az Ya_) : w.heap.size ≤ gb0)); have n4_ := Ac.mk ((by rw [hg]; exact (Az Ya_) : w.heap.size ≤ gb0)); clear HO_4; clear HB; have HO_4 := n0_; have HB := n1_; have BK0 := n2_; have GW0 := n3_; have GE0 := n4_; clear n0_ n1_ n2_ n3_ n4_; clear hb hbox hg; have hcz25_0 : w24.cell? ⟨gb0, 0, none⟩ = some (.int .i64 0) := (Af BK0.out 0).trans rfl; have hcz25_1 : w24.cell? ⟨gb0, 1, none⟩ = some (.string (⟨#[]⟩ : ByteArray)) := (Af BK0.out 1).trans rfl; have hcz25_2 : w24.cell? ⟨gb0, 2, none⟩ = some (.int .i64 0) := (Af BK0.out 2).trans rfl; have hcz25_3 : w24.cell? ⟨gb0, 3, none⟩ = some (.int .i64 0) := (Af BK0.out 3).trans rfl; have hfz25_0 := Ag BK0.out 0; have hfz25_1 := Ag BK0.out 1; have hfz25_2 := Ag BK0.out 2; have hfz25_3 := Ag BK0.out 3) | ((with_reducible refine Gy (b := .append) (xs := #[.tmp 36, .tmp 38]) rfl ?_); at_builtin; refine Kd.R_append k27 (w0 := w) w.heap.size rfl (.tmp 36) (.tmp 38) 33 27 (.agg #[(.int .i64 0), (.string ⟨#[]⟩), (.int .i64 0), (.int .i64 0)]) 40 rfl Tryd.underlying33 info27 rfl (by decide) (by omega) u4 x4_1 (⟨t409, t410, t411, t412⟩ : S27) [.int .i64 t409, .string t410, .int .i64 t411, .int .i64 t412] (fun k_ => k_ ≠ gb0) (fun _ => False) rfl (by first | (go_simp; done) | (go_simp; rfl)) ?aP (fun _ hk => hk.elim) ?aF ?aO ?aB ?aS ?aL ?_; (case aP => exact G6 _ _ _ (⟨t409, t410, t411, t412⟩ : S27)); (case aB => exact Yd_); (case aF => exact (fun k_ hk => Kd.freshB (g := gb0) (o := .cells #[.int .i64 t409, .string t410, .int .i64 t411, .int .i64 t412] 27 (0, 0)) Ybg_ k_ hk)); (case aO => exact (by (with_reducible repeat (first | apply Kd.Bg | apply Kd.Bh | apply Kd.Bl)); exact Kd.R_mono (Kd.Fe (p := ⟨gb0, 3, none⟩) (Kd.Fe (p := ⟨gb0, 2, none⟩) (Kd.Fe (p := ⟨gb0, 1, none⟩) (Kd.Fe (p := ⟨gb0, 0, none⟩) (Kd.R_mono HO_4.out (fun k_ hk => (⟨hk, hk.2⟩ : _ ∧ k_ ≠ gb0))) (fun _ hk => hk.2) (.int .i64 t409)) (fun _ hk => hk.2) (.string t410)) (fun _ hk => hk.2) (.int .i64 t411)) (fun _ hk => hk.2) (.int .i64 t412)) (fun _ hk => hk.1.2))); (case aS => exact (Az Yd_)); (case aL => have := LMc21.out; omega); intro v416 w26 ho hb hg hat; rw [← Ny415.out] at ho; have n0_ := Ac.mk (blk_grown (g := gb0) (o := .cells #[.int .i64 t409, .string t410, .int .i64 t411, .int .i64 t412] 27 (0, 0)) Ybg_ hg (Kd.R_away HO_4.out (fun _ hk => hk.2))); have n1_ := Ac.mk (hb); have n2_ := Ac.mk (ho); clear BK0; clear HB; clear HO_4; have BK0 := n0_; have HB := n1_; have HO417 := n2_; clear n0_ n1_ n2_; clear ho hb hg hat))
                  go_roundg k1
                  case measure => have := HK1.out; omega
                  case rel => exact ⟨(t407), (y415), Yf_, H', ⟨by have := HK1.out; omega⟩, ⟨by (with_reducible repeat (first | apply Kd.Bg | apply Kd.Bh | apply Kd.Bl)); exact Kd.R_mono HO417.out (fun _ hk => trivial)⟩, ⟨by repeat (first | (with_reducible first | exact HB.out | apply Ae | apply Aa | apply Ad | refine Am ?_ GE0.out) | exact HB.out)⟩⟩
                · rw [if_neg c21] at H
                  exact absurd H (by simp)
            · replace c15 := Bool.eq_false_iff.mpr c15
              subst c15
              have H1 : (some (([] : List (S27)), false)) = some (r1, r2) := by rw [if_neg (show ¬ (false = true) by decide)] at H; exact H
              clear H
              have H := H1
              clear H1
              simp only [Option.some.injEq, Prod.mk.injEq] at H
              obtain ⟨rfl, rfl⟩ := H
              go_wp2_with (first | ((with_reducible refine Aw (f := 35) rfl ?_); refine Bj (some 15) rfl rfl Tryd.func35 (by kernel_rfl) rfl #[.string x0_1, .string (⟨#[46, 32]⟩ : ByteArray)] rfl Yb_ ?_; (with_reducible refine (strings_Cut.calls x0_1 (⟨#[46, 32]⟩ : ByteArray) t406 t407 true _ ?side1 A11.out).mono ?_); (case side1 => exact Eo.below HGL.out Ya_); rintro e w27 ⟨rfl, hb⟩; refine ⟨_, rfl, ?_⟩; have n0_ := Ac.mk (Kd.D6 Yg_ hb); have n1_ := Ac.mk (Au Ya_ hb); clear HO_4; clear HB; have HO_4 := n0_; have HB := n1_; clear n0_ n1_; (try clear hb); (try clear hb2); (try clear hk); (try clear hi)) | ((with_reducible refine Aw (f := 17) rfl ?_); refine Bj (some 24) rfl rfl Tryd.func17 (by kernel_rfl) rfl #[.string (t406 ++ (⟨#[46]⟩ : ByteArray))] rfl Yb_ ?_; (with_reducible refine (Bc.calls k1 (t406 ++ (⟨#[46]⟩ : ByteArray)) t409 t410 t411 t412 false _ ?side1 A14.out).mono ?_); (case side1 => exact Eo.below HGL.out Ya_); rintro e w28 ⟨rfl, hb⟩; refine ⟨_, rfl, ?_⟩; have n0_ := Ac.mk (Kd.D6 Yg_ hb); have n1_ := Ac.mk (Au Ya_ hb); clear HO_4; clear HB; have HO_4 := n0_; have HB := n1_; clear n0_ n1_; (try clear hb); (try clear hb2); (try clear hk); (try clear hi)) | ((with_reducible refine Dh (N := 8) rfl ?_); refine Dl ?hg (N := 8) ?hd (cs := #[.int .i64 0, .string (⟨#[]⟩ : ByteArray), .int .i64 0, .int .i64 0]) (t := 27) ?hr ?_; (case hd => rfl); (case hg => rfl); (case hr => first | (go_simp; done) | (go_simp; rfl)); intro gb0 hg w29 hbox hb; have n0_ := Ac.mk (Kd.D6 (Kd.Hg Yg_ gb0 (Nat.le_of_eq hg.symm)) hb); have n1_ := Ac.mk (Au Ya_ hb); have n2_ := Ac.mk (hbox); have n3_ := Ac.mk ((by rw [hg]; exact (Az Ya_) : w.heap.size ≤ gb0)); have n4_ := Ac.mk ((by rw [hg]; exact (Az Ya_) : w.heap.size ≤ gb0)); clear HO_4; clear HB; have HO_4 := n0_; have HB := n1_; have BK0 := n2_; have GW0 := n3_; have GE0 := n4_; clear n0_ n1_ n2_ n3_ n4_; clear hb hbox hg; have hcz30_0 : w29.cell? ⟨gb0, 0, none⟩ = some (.int .i64 0) := (Af BK0.out 0).trans rfl; have hcz30_1 : w29.cell? ⟨gb0, 1, none⟩ = some (.string (⟨#[]⟩ : ByteArray)) := (Af BK0.out 1).trans rfl; have hcz30_2 : w29.cell? ⟨gb0, 2, none⟩ = some (.int .i64 0) := (Af BK0.out 2).trans rfl; have hcz30_3 : w29.cell? ⟨gb0, 3, none⟩ = some (.int .i64 0) := (Af BK0.out 3).trans rfl; have hfz30_0 := Ag BK0.out 0; have hfz30_1 := Ag BK0.out 1; have hfz30_2 := Ag BK0.out 2; have hfz30_3 := Ag BK0.out 3))
              go_ret2
              exact ⟨_, by first | rfl | (simp [Aq, Ar] <;> rfl) | (simp [*, Aq, Ar] <;> rfl), by first | exact Kd.R_nil _ _ _ _ _ | exact Kd.N_nil _ _ _ _ _ | exact Kd.V_nil _ _ _ _ _ | exact Kd.Q_nil _ _ _ _ _ | exact Kd.S_nil _ _ _ _ _, by repeat (first | (with_reducible first | exact HB.out | apply Ae | apply Aa | apply Ad | refine Am ?_ GE0.out) | exact HB.out)⟩
          · rw [if_neg c13] at H
            exact absurd H (by simp)
        · replace c12 := Bool.eq_false_iff.mpr c12
          subst c12
          have H1 : ((Bc.f k1 t406).bind fun bt418 => (if bt418.2.2.2.2 = true then (if x4_1.length < 3518437208883 then (Bi.l0 k1 t407 (x4_1 ++ [(⟨bt418.1, bt418.2.1, bt418.2.2.1, bt418.2.2.2.1⟩ : S27)])) else (none)) else (some (([] : List (S27)), false)))) = some (r1, r2) := by rw [if_neg (show ¬ (false = true) by decide)] at H; exact H
          clear H
          have H := H1
          clear H1
          replace H := Option.bind_eq_some_iff.mp H
          obtain ⟨⟨t418, t419, t420, t421, t422⟩, A310, H⟩ := H
          replace H : (if t422 = true then (if x4_1.length < 3518437208883 then (Bi.l0 k1 t407 (x4_1 ++ [(⟨t418, t419, t420, t421⟩ : S27)])) else (none)) else (some (([] : List (S27)), false))) = some (r1, r2) := H
          have A31 := Ac.mk A310
          clear A310
          by_cases c32 : t422 = true
          · subst c32
            have H1 : (if x4_1.length < 3518437208883 then (Bi.l0 k1 t407 (x4_1 ++ [(⟨t418, t419, t420, t421⟩ : S27)])) else (none)) = some (r1, r2) := by rw [if_pos rfl] at H; exact H
            clear H
            have H := H1
            clear H1
            by_cases c33 : x4_1.length < 3518437208883
            · rw [if_pos c33] at H
              have LMc33 := Ac.mk c33
              clear c33
              obtain ⟨y424, hy424⟩ : ∃ y_ : List (S27), y_ = (x4_1 ++ [(⟨t418, t419, t420, t421⟩ : S27)]) := ⟨_, rfl⟩
              replace H : (Bi.l0 k1 t407 y424) = some (r1, r2) := by first | (rw [hy424]; with_reducible exact H) | (have H2_ := (Option.bind_some _ _).symm.trans H; rw [hy424]; with_reducible exact H2_) | (have H2_ := (Option.bind_some _ _).symm.trans H; with_reducible exact H2_) | with_reducible exact H | (rw [hy424]; exact H) | exact H
              have Ny424 := Ac.mk hy424
              clear hy424
              have H' := Ac.mk H
              clear H
              go_wp2_with (first | ((with_reducible refine Aw (f := 35) rfl ?_); refine Bj (some 15) rfl rfl Tryd.func35 (by kernel_rfl) rfl #[.string x0_1, .string (⟨#[46, 32]⟩ : ByteArray)] rfl Yb_ ?_; (with_reducible refine (strings_Cut.calls x0_1 (⟨#[46, 32]⟩ : ByteArray) t406 t407 false _ ?side1 A11.out).mono ?_); (case side1 => exact Eo.below HGL.out Ya_); rintro e w34 ⟨rfl, hb⟩; refine ⟨_, rfl, ?_⟩; have n0_ := Ac.mk (Kd.D6 Yg_ hb); have n1_ := Ac.mk (Au Ya_ hb); clear HO_4; clear HB; have HO_4 := n0_; have HB := n1_; clear n0_ n1_; (try clear hb); (try clear hb2); (try clear hk); (try clear hi)) | ((with_reducible refine Aw (f := 17) rfl ?_); refine Bj (some 24) rfl rfl Tryd.func17 (by kernel_rfl) rfl #[.string t406] rfl Yb_ ?_; (with_reducible refine (Bc.calls k1 t406 t418 t419 t420 t421 true _ ?side1 A31.out).mono ?_); (case side1 => exact Eo.below HGL.out Ya_); rintro e w35 ⟨rfl, hb⟩; refine ⟨_, rfl, ?_⟩; have n0_ := Ac.mk (Kd.D6 Yg_ hb); have n1_ := Ac.mk (Au Ya_ hb); clear HO_4; clear HB; have HO_4 := n0_; have HB := n1_; clear n0_ n1_; (try clear hb); (try clear hb2); (try clear hk); (try clear hi)) | ((with_reducible refine Dh (N := 8) rfl ?_); refine Dl ?hg (N := 8) ?hd (cs := #[.int .i64 0, .string (⟨#[]⟩ : ByteArray), .int .i64 0, .int .i64 0]) (t := 27) ?hr ?_; (case hd => rfl); (case hg => rfl); (case hr => first | (go_simp; done) | (go_simp; rfl)); intro gb1 hg w36 hbox hb; have n0_ := Ac.mk (Kd.D6 (Kd.Hg Yg_ gb1 (Nat.le_of_eq hg.symm)) hb); have n1_ := Ac.mk (Au Ya_ hb); have n2_ := Ac.mk (hbox); have n3_ := Ac.mk ((by rw [hg]; exact (Az Ya_) : w.heap.size ≤ gb1)); have n4_ := Ac.mk ((by rw [hg]; exact (Az Ya_) : w.heap.size ≤ gb1)); clear HO_4; clear HB; have HO_4 := n0_; have HB := n1_; have BK1 := n2_; have GW1 := n3_; have GE1 := n4_; clear n0_ n1_ n2_ n3_ n4_; clear hb hbox hg; have hcz37_0 : w36.cell? ⟨gb1, 0, none⟩ = some (.int .i64 0) := (Af BK1.out 0).trans rfl; have hcz37_1 : w36.cell? ⟨gb1, 1, none⟩ = some (.string (⟨#[]⟩ : ByteArray)) := (Af BK1.out 1).trans rfl; have hcz37_2 : w36.cell? ⟨gb1, 2, none⟩ = some (.int .i64 0) := (Af BK1.out 2).trans rfl; have hcz37_3 : w36.cell? ⟨gb1, 3, none⟩ = some (.int .i64 0) := (Af BK1.out 3).trans rfl; have hfz37_0 := Ag BK1.out 0; have hfz37_1 := Ag BK1.out 1; have hfz37_2 := Ag BK1.out 2; have hfz37_3 := Ag BK1.out 3) | ((with_reducible refine Gy (b := .append) (xs := #[.tmp 36, .tmp 38]) rfl ?_); at_builtin; refine Kd.R_append k27 (w0 := w) w.heap.size rfl (.tmp 36) (.tmp 38) 33 27 (.agg #[(.int .i64 0), (.string ⟨#[]⟩), (.int .i64 0), (.int .i64 0)]) 40 rfl Tryd.underlying33 info27 rfl (by decide) (by omega) u4 x4_1 (⟨t418, t419, t420, t421⟩ : S27) [.int .i64 t418, .string t419, .int .i64 t420, .int .i64 t421] (fun k_ => k_ ≠ gb1) (fun _ => False) rfl (by first | (go_simp; done) | (go_simp; rfl)) ?aP (fun _ hk => hk.elim) ?aF ?aO ?aB ?aS ?aL ?_; (case aP => exact G6 _ _ _ (⟨t418, t419, t420, t421⟩ : S27)); (case aB => exact Yci_); (case aF => exact (fun k_ hk => Kd.freshB (g := gb1) (o := .cells #[.int .i64 t418, .string t419, .int .i64 t420, .int .i64 t421] 27 (0, 0)) Ybh_ k_ hk)); (case aO => exact (by (with_reducible repeat (first | apply Kd.Bg | apply Kd.Bh | apply Kd.Bl)); exact Kd.R_mono (Kd.Fe (p := ⟨gb1, 3, none⟩) (Kd.Fe (p := ⟨gb1, 2, none⟩) (Kd.Fe (p := ⟨gb1, 1, none⟩) (Kd.Fe (p := ⟨gb1, 0, none⟩) (Kd.R_mono HO_4.out (fun k_ hk => (⟨hk, hk.2⟩ : _ ∧ k_ ≠ gb1))) (fun _ hk => hk.2) (.int .i64 t418)) (fun _ hk => hk.2) (.string t419)) (fun _ hk => hk.2) (.int .i64 t420)) (fun _ hk => hk.2) (.int .i64 t421)) (fun _ hk => hk.1.2))); (case aS => exact (Az Yci_)); (case aL => have := LMc33.out; omega); intro v425 w38 ho hb hg hat; rw [← Ny424.out] at ho; have n0_ := Ac.mk (blk_grown (g := gb1) (o := .cells #[.int .i64 t418, .string t419, .int .i64 t420, .int .i64 t421] 27 (0, 0)) Ybh_ hg (Kd.R_away HO_4.out (fun _ hk => hk.2))); have n1_ := Ac.mk (hb); have n2_ := Ac.mk (ho); clear BK1; clear HB; clear HO_4; have BK1 := n0_; have HB := n1_; have HO426 := n2_; clear n0_ n1_ n2_; clear ho hb hg hat))
              go_roundg k1
              case measure => have := HK1.out; omega
              case rel => exact ⟨(t407), (y424), Yf_, H', ⟨by have := HK1.out; omega⟩, ⟨by (with_reducible repeat (first | apply Kd.Bg | apply Kd.Bh | apply Kd.Bl)); exact Kd.R_mono HO426.out (fun _ hk => trivial)⟩, ⟨by repeat (first | (with_reducible first | exact HB.out | apply Ae | apply Aa | apply Ad | refine Am ?_ GE1.out) | exact HB.out)⟩⟩
            · rw [if_neg c33] at H
              exact absurd H (by simp)
          · replace c32 := Bool.eq_false_iff.mpr c32
            subst c32
            have H1 : (some (([] : List (S27)), false)) = some (r1, r2) := by rw [if_neg (show ¬ (false = true) by decide)] at H; exact H
            clear H
            have H := H1
            clear H1
            simp only [Option.some.injEq, Prod.mk.injEq] at H
            obtain ⟨rfl, rfl⟩ := H
            go_wp2_with (first | ((with_reducible refine Aw (f := 35) rfl ?_); refine Bj (some 15) rfl rfl Tryd.func35 (by kernel_rfl) rfl #[.string x0_1, .string (⟨#[46, 32]⟩ : ByteArray)] rfl Yb_ ?_; (with_reducible refine (strings_Cut.calls x0_1 (⟨#[46, 32]⟩ : ByteArray) t406 t407 false _ ?side1 A11.out).mono ?_); (case side1 => exact Eo.below HGL.out Ya_); rintro e w39 ⟨rfl, hb⟩; refine ⟨_, rfl, ?_⟩; have n0_ := Ac.mk (Kd.D6 Yg_ hb); have n1_ := Ac.mk (Au Ya_ hb); clear HO_4; clear HB; have HO_4 := n0_; have HB := n1_; clear n0_ n1_; (try clear hb); (try clear hb2); (try clear hk); (try clear hi)) | ((with_reducible refine Aw (f := 17) rfl ?_); refine Bj (some 24) rfl rfl Tryd.func17 (by kernel_rfl) rfl #[.string t406] rfl Yb_ ?_; (with_reducible refine (Bc.calls k1 t406 t418 t419 t420 t421 false _ ?side1 A31.out).mono ?_); (case side1 => exact Eo.below HGL.out Ya_); rintro e w40 ⟨rfl, hb⟩; refine ⟨_, rfl, ?_⟩; have n0_ := Ac.mk (Kd.D6 Yg_ hb); have n1_ := Ac.mk (Au Ya_ hb); clear HO_4; clear HB; have HO_4 := n0_; have HB := n1_; clear n0_ n1_; (try clear hb); (try clear hb2); (try clear hk); (try clear hi)) | ((with_reducible refine Dh (N := 8) rfl ?_); refine Dl ?hg (N := 8) ?hd (cs := #[.int .i64 0, .string (⟨#[]⟩ : ByteArray), .int .i64 0, .int .i64 0]) (t := 27) ?hr ?_; (case hd => rfl); (case hg => rfl); (case hr => first | (go_simp; done) | (go_simp; rfl)); intro gb1 hg w41 hbox hb; have n0_ := Ac.mk (Kd.D6 (Kd.Hg Yg_ gb1 (Nat.le_of_eq hg.symm)) hb); have n1_ := Ac.mk (Au Ya_ hb); have n2_ := Ac.mk (hbox); have n3_ := Ac.mk ((by rw [hg]; exact (Az Ya_) : w.heap.size ≤ gb1)); have n4_ := Ac.mk ((by rw [hg]; exact (Az Ya_) : w.heap.size ≤ gb1)); clear HO_4; clear HB; have HO_4 := n0_; have HB := n1_; have BK1 := n2_; have GW1 := n3_; have GE1 := n4_; clear n0_ n1_ n2_ n3_ n4_; clear hb hbox hg; have hcz42_0 : w41.cell? ⟨gb1, 0, none⟩ = some (.int .i64 0) := (Af BK1.out 0).trans rfl; have hcz42_1 : w41.cell? ⟨gb1, 1, none⟩ = some (.string (⟨#[]⟩ : ByteArray)) := (Af BK1.out 1).trans rfl; have hcz42_2 : w41.cell? ⟨gb1, 2, none⟩ = some (.int .i64 0) := (Af BK1.out 2).trans rfl; have hcz42_3 : w41.cell? ⟨gb1, 3, none⟩ = some (.int .i64 0) := (Af BK1.out 3).trans rfl; have hfz42_0 := Ag BK1.out 0; have hfz42_1 := Ag BK1.out 1; have hfz42_2 := Ag BK1.out 2; have hfz42_3 := Ag BK1.out 3))
            go_ret2
            exact ⟨_, by first | rfl | (simp [Aq, Ar] <;> rfl) | (simp [*, Aq, Ar] <;> rfl), by first | exact Kd.R_nil _ _ _ _ _ | exact Kd.N_nil _ _ _ _ _ | exact Kd.V_nil _ _ _ _ _ | exact Kd.Q_nil _ _ _ _ _ | exact Kd.S_nil _ _ _ _ _, by repeat (first | (with_reducible first | exact HB.out | apply Ae | apply Aa | apply Ad | refine Am ?_ GE1.out) | exact HB.out)⟩
end Go.Proofs.YtghnljoaklmakaaDoor.X

namespace Go.Proofs.YtghnljoaklmakaaDoor.X
open Go.RowKit Go.Proofs.YtghnljoaklmakaaDoorW.PrintWords Go.Proofs.YtghnljoaklmakaaDoorW.PrintLast Go.Proofs.YtghnljoaklmakaaDoorW.PrintMore
attribute [local go_sem] Ea Eb Eh Eg Dz D5 Ec D9
open Go.Proofs.YtghnljoaklmakaaDoorG
def Dp.l0 : Nat → Int → ByteArray → Option (ByteArray)
  | 0, _, _ => none
  | k + 1, x0, x3 => if x0 > 0 then ((some (([(wrap64 (48 + (Int.tmod x0 10))) % 256] : List Int) : List Int)).bind fun y427 => (if (strOfNums y427).size + x3.size ≤ 9223372036854775807 then (Dp.l0 k (wrap64 (Int.tdiv x0 10)) ((strOfNums y427) ++ x3)) else (none))) else (if 1 + x3.size ≤ 9223372036854775807 then (some ((⟨#[109]⟩ : ByteArray) ++ x3)) else (none))
def Dp.f (k : Nat) (a0 : Int) : Option (ByteArray) := if a0 ≤ 0 then (some (⟨#[109, 48]⟩ : ByteArray)) else (Dp.l0 k a0 (⟨#[]⟩ : ByteArray))
theorem Dp.Ed : ∀ k, (∀ y0 y1, LeO (Dp.l0 k y0 y1) (Dp.l0 (k + 1) y0 y1))
  | 0 => fun _ _ r h => by simp [Dp.l0] at h
  | k + 1 => by
    have ih0 := Dp.Ed k
    · intro y0 y1
      unfold Dp.l0
      repeat' first
      | (with_reducible exact ih0 _ _)
      | (with_reducible exact LeO.refl _)
      | (with_reducible exact LeO.none _)
      | (with_reducible refine LeO.ite ?_ ?_)
      | (with_reducible refine LeO.bind ?_ (fun _ => ?_))
      | exact ih0 _ _
      | exact LeO.none _
      | refine LeO.ite ?_ ?_
      | refine LeO.bind ?_ (fun _ => ?_)
theorem Dp.mono : ∀ a0 k, LeO (Dp.f k a0) (Dp.f (k + 1) a0) := by
  intro a0 k
  have ih0 := Dp.Ed k
  unfold Dp.f
  repeat' first
      | (with_reducible exact ih0 _ _)
      | (with_reducible exact LeO.refl _)
      | (with_reducible exact LeO.none _)
      | (with_reducible refine LeO.ite ?_ ?_)
      | (with_reducible refine LeO.bind ?_ (fun _ => ?_))
      | exact ih0 _ _
      | exact LeO.none _
      | refine LeO.ite ?_ ?_
      | refine LeO.bind ?_ (fun _ => ?_)
set_option maxHeartbeats 8000000 in
set_option maxRecDepth 100000 in
theorem Dp.calls (k : Nat) (a0 : Int) (r : ByteArray) (w : World) (h : Dp.f k a0 = some r) :
    Calls Tryd.prog 36 #[.int .i64 a0] w fun e w' => e = .returned (.string r) ∧ Below w.heap.size w w' := by
  have HB := Ac.mk (Below.refl w.heap.size w)
  have H : (if a0 ≤ 0 then (some (⟨#[109, 48]⟩ : ByteArray)) else (Dp.l0 k a0 (⟨#[]⟩ : ByteArray))) = some r := h
  clear h
  by_cases c2 : a0 ≤ 0
  · rw [if_pos c2] at H
    have c2b0 : decide (a0 ≤ 0) = true := decide_eq_true c2
    clear c2
    obtain rfl := Option.some.inj H
    go_enter Tryd.func36, Tryd.ntmps36
    go_wp2
    go_ret
    exact ⟨by first | rfl | (simp [Aq, Ar] <;> rfl) | (simp [*, Aq, Ar] <;> rfl), by repeat (first | (with_reducible first | exact HB.out | apply Ae | apply Aa | apply Ad) | exact HB.out)⟩
  · rw [if_neg c2] at H
    have c2b0 : decide (a0 ≤ 0) = false := decide_eq_false c2
    clear c2
    have H' := Ac.mk H
    clear H
    go_enter Tryd.func36, Tryd.ntmps36
    go_wp2
    go_loopg [0, 3] k (fun kq v0 v3 w' => ∃ (x0_1 : Int) (x3_1 : ByteArray), v0 = .int .i64 x0_1 ∧ v3 = .string x3_1 ∧ Ac (Dp.l0 kq x0_1 x3_1 = some r) ∧ Ac (kq ≤ k) ∧ Ac (Below w.heap.size w w'))
    case atStart => exact ⟨(a0), ((⟨#[]⟩ : ByteArray)), Yf_, Yf_, H', ⟨Nat.le_refl _⟩, ⟨by repeat (first | (with_reducible first | exact HB.out | apply Ae | apply Aa | apply Ad) | exact HB.out)⟩⟩
    case round =>
      clear H'
      try clear c2
      try clear c2b0
      try clear p2
      obtain ⟨x0_1, x3_1, rfl, rfl, HA, HK1, HB⟩ := hrel
      cases gk with
      | zero => exact absurd HA.out (by simp [Dp.l0])
      | succ k1 =>
        have H := HA.out
        clear HA
        simp only [Dp.l0] at H
        by_cases c3 : x0_1 > 0
        · rw [if_pos c3] at H
          have c3b0 : decide (0 < x0_1) = true := decide_eq_true c3
          clear c3
          obtain ⟨y427, hy427⟩ : ∃ y_ : List Int, y_ = (([(wrap64 (48 + (Int.tmod x0_1 10))) % 256] : List Int)) := ⟨_, rfl⟩
          replace H : (if (strOfNums y427).size + x3_1.size ≤ 9223372036854775807 then (Dp.l0 k1 (wrap64 (Int.tdiv x0_1 10)) ((strOfNums y427) ++ x3_1)) else (none)) = some r := by first | (rw [hy427]; with_reducible exact H) | (have H2_ := (Option.bind_some _ _).symm.trans H; rw [hy427]; with_reducible exact H2_) | (have H2_ := (Option.bind_some _ _).symm.trans H; with_reducible exact H2_) | with_reducible exact H | (rw [hy427]; exact H) | exact H
          have Ny427 := Ac.mk hy427
          clear hy427
          by_cases c4 : (strOfNums y427).size + x3_1.size ≤ 9223372036854775807
          · rw [if_pos c4] at H
            have c4b0 := eq_true c4
            have c4b1 : decide ((strOfNums y427).size + x3_1.size ≤ 9223372036854775807) = true := decide_eq_true c4
            try have c4b2 : (9223372036854775807 < (strOfNums y427).size + x3_1.size) = False := eq_false (Nat.not_lt.2 c4)
            have H' := Ac.mk H
            clear H
            go_wp2_with (first | ((with_reducible refine Dh (N := 12) rfl ?_); refine Kd.R_lit (Kd.int .u8) _ 5 ?hg (N := 12) ?hd (xs := ([(wrap64 (48 + (Int.tmod x0_1 10))) % 256] : List Int)) (inner := [.int .u8 ((wrap64 (48 + (Int.tmod x0_1 10))) % 256)]) (ok := fun _ => True) (okp := fun _ => True) ?hr ?hp (fun _ hk => hk) trivial (Below.refl _ _) (Nat.le_refl _) (by simp) ?_; (case hd => rfl); (case hg => rfl); (case hr => first | (go_simp; done) | (go_simp; rfl)); (case hp => exact (Ee.one (show Kd.M (Kd.int .u8) _ _ _ ((wrap64 (48 + (Int.tmod x0_1 10))) % 256) [.int .u8 ((wrap64 (48 + (Int.tmod x0_1 10))) % 256)] from rfl) (Ee.none _ _))); intro v428 w5 ho6 hb hg_ hnew_; clear hg_ hnew_; (first | rw [← Ny427.out] at ho6 | (simp only [Int.reduceToNat] at ho6; rw [← Ny427.out] at ho6)); have n0_ := Ac.mk (Kd.F6 ho6 (Az Ya_)); have n1_ := Ac.mk (Au Ya_ hb); clear HB; have HO429 := n0_; have HB := n1_; clear n0_ n1_; clear hb ho6; have hcv7 := own_string (P := Tryd.prog) Tryd.underlying61 Tryd.underlying5 Tryd.underlying9 (Kd.own_of_R HO429.out)))
            go_roundg k1
            case measure => have := HK1.out; omega
            case rel => exact ⟨(wrap64 (Int.tdiv x0_1 10)), ((strOfNums y427) ++ x3_1), Yf_, Yf_, H', ⟨by have := HK1.out; omega⟩, ⟨by repeat (first | (with_reducible first | exact HB.out | apply Ae | apply Aa | apply Ad) | exact HB.out)⟩⟩
          · rw [if_neg c4] at H
            exact absurd H (by simp)
        · rw [if_neg c3] at H
          have c3b0 : decide (0 < x0_1) = false := decide_eq_false c3
          clear c3
          by_cases c8 : 1 + x3_1.size ≤ 9223372036854775807
          · rw [if_pos c8] at H
            have c8b0 := eq_true c8
            have c8b1 : decide (1 + x3_1.size ≤ 9223372036854775807) = true := decide_eq_true c8
            try have c8b2 : (9223372036854775807 < 1 + x3_1.size) = False := eq_false (Nat.not_lt.2 c8)
            obtain rfl := Option.some.inj H
            go_wp2
            go_ret
            exact ⟨by first | rfl | (simp [Aq, Ar] <;> rfl) | (simp [*, Aq, Ar] <;> rfl), by repeat (first | (with_reducible first | exact HB.out | apply Ae | apply Aa | apply Ad) | exact HB.out)⟩
          · rw [if_neg c8] at H
            exact absurd H (by simp)
end Go.Proofs.YtghnljoaklmakaaDoor.X

namespace Go.Proofs.YtghnljoaklmakaaDoor.X
open Go.RowKit Go.Proofs.YtghnljoaklmakaaDoorW.PrintWords Go.Proofs.YtghnljoaklmakaaDoorW.PrintLast Go.Proofs.YtghnljoaklmakaaDoorW.PrintMore
attribute [local go_sem] Ea Eb Eh Eg Dz D5 Ec D9
open Go.Proofs.YtghnljoaklmakaaDoorG
def Dq.l0 : Nat → List (S27) → Int → Int → Option (Int × (List (S27)))
  | 0, _, _, _ => none
  | k + 1, x0, x1, x5 => if x5 < (x0.length : Int) then (if 0 ≤ x5 then ((some (x0.set (x5 : Int).toNat (⟨x1, (Ak x0 x5).f1, (Ak x0 x5).f2, (Ak x0 x5).f3⟩ : S27) : List (S27))).bind fun y430 => ((Dp.f k (wrap64 (x1 + 1))).bind fun t431 => ((some (y430.set (x5 : Int).toNat (⟨(Ak y430 x5).f0, t431, (Ak y430 x5).f2, (Ak y430 x5).f3⟩ : S27) : List (S27))).bind fun y432 => ((some (y432.set (x5 : Int).toNat (⟨(Ak y432 x5).f0, (Ak y432 x5).f1, wrap64 ((wrap64 (x1 + 1)) + 1), (Ak y432 x5).f3⟩ : S27) : List (S27))).bind fun y433 => (Dq.l0 k (y433.set (x5 : Int).toNat (⟨(Ak y433 x5).f0, (Ak y433 x5).f1, (Ak y433 x5).f2, wrap64 ((wrap64 ((wrap64 (x1 + 1)) + 1)) + 1)⟩ : S27)) (wrap64 ((wrap64 ((wrap64 ((wrap64 (x1 + 1)) + 1)) + 1)) + 1)) (wrap64 (x5 + 1))))))) else (none)) else (some (x1, x0))
def Dq.f (k : Nat) (l0 : List (S27)) (a1 : Int) : Option (Int × (List (S27))) := Dq.l0 k l0 a1 0
theorem Dq.Ed : ∀ k, (∀ y0 y1 y2, LeO (Dq.l0 k y0 y1 y2) (Dq.l0 (k + 1) y0 y1 y2))
  | 0 => fun _ _ _ r h => by simp [Dq.l0] at h
  | k + 1 => by
    have ih0 := Dq.Ed k
    · intro y0 y1 y2
      unfold Dq.l0
      repeat' first
      | (with_reducible exact ih0 _ _ _)
      | (with_reducible exact Dp.mono _ _)
      | (with_reducible exact LeO.refl _)
      | (with_reducible exact LeO.none _)
      | (with_reducible refine LeO.ite ?_ ?_)
      | (with_reducible refine LeO.bind ?_ (fun _ => ?_))
      | exact ih0 _ _ _
      | exact Dp.mono _ _
      | exact LeO.none _
      | refine LeO.ite ?_ ?_
      | refine LeO.bind ?_ (fun _ => ?_)
theorem Dq.mono : ∀ a0 a1 k, LeO (Dq.f k a0 a1) (Dq.f (k + 1) a0 a1) := by
  intro a0 a1 k
  have ih0 := Dq.Ed k
  unfold Dq.f
  repeat' first
      | (with_reducible exact ih0 _ _ _)
      | (with_reducible exact Dp.mono _ _)
      | (with_reducible exact LeO.refl _)
      | (with_reducible exact LeO.none _)
      | (with_reducible refine LeO.ite ?_ ?_)
      | (with_reducible refine LeO.bind ?_ (fun _ => ?_))
      | exact ih0 _ _ _
      | exact Dp.mono _ _
      | exact LeO.none _
      | refine LeO.ite ?_ ?_
      | refine LeO.bind ?_ (fun _ => ?_)
set_option maxHeartbeats 8000000 in
set_option maxRecDepth 100000 in
theorem Dq.calls (k : Nat) (P0_ : Nat → Prop) (u9000_ : Value) (l0 : List (S27)) (a1 : Int) (r1 : Int) (r2 : List (S27)) (w0 w : World) (hB : Below w0.heap.size w0 w) (ho0 : Kd.R k27 27 w w0.heap.size P0_ u9000_ l0) (h : Dq.f k l0 a1 = some (r1, r2)) :
    Calls Tryd.prog 21 #[u9000_, .int .i64 a1] w fun e w' => e = .returned (.int .i64 r1) ∧ Kd.R k27 27 w' w0.heap.size (fun k_ => (P0_ k_ ∨ w.heap.size ≤ k_)) u9000_ r2 ∧ Below w0.heap.size w0 w' ∧ Kept w w' (fun k_ => P0_ k_) := by
  have HO0 := Ac.mk (show Kd.R k27 27 w w0.heap.size (fun k_ => (P0_ k_ ∨ w.heap.size ≤ k_)) u9000_ l0 from Kd.R_mono ho0 (fun k_ hk => (.inl hk)))
  have HK := Ac.mk (Kept.refl w (fun k_ => P0_ k_))
  have HW0 := Ac.mk hB.size
  have HB := Ac.mk hB
  clear hB
  have H : (Dq.l0 k l0 a1 0) = some (r1, r2) := h
  clear h
  have H' := Ac.mk H
  clear H
  go_enter Tryd.func21, Tryd.ntmps21
  go_wp2
  go_loopg [1, 5] k (fun kq v1 v5 w' => ∃ (x0_1 : List (S27)) (x1_1 : Int) (x5_1 : Int), v1 = .int .i64 x1_1 ∧ v5 = .int .i64 x5_1 ∧ Ac (Dq.l0 kq x0_1 x1_1 x5_1 = some (r1, r2)) ∧ Ac (kq ≤ k) ∧ Ac (Kd.R k27 27 w' w0.heap.size (fun k_ => (P0_ k_ ∨ w.heap.size ≤ k_)) u9000_ x0_1) ∧ Ac (Kept w w' (fun k_ => P0_ k_)) ∧ Ac (Below w0.heap.size w0 w'))
  case atStart => exact ⟨(l0), (a1), (0), Yf_, Yf_, H', ⟨Nat.le_refl _⟩, ⟨by (with_reducible repeat (first | apply Kd.Bg | apply Kd.Bh | apply Kd.Bl)); exact HO0.out⟩, ⟨by repeat (first | (with_reducible first | exact HK.out | apply Kept.alloc | apply Kept.drewN | apply Kept.drew) | exact HK.out)⟩, ⟨by repeat (first | (with_reducible first | exact HB.out | apply Ae | apply Aa | apply Ad) | exact HB.out)⟩⟩
  case round =>
    clear H'
    try clear c2
    try clear p2
    obtain ⟨x0_1, x1_1, x5_1, rfl, rfl, HA, HK1, HO_0, HK, HB⟩ := hrel
    cases gk with
    | zero => exact absurd HA.out (by simp [Dq.l0])
    | succ k1 =>
      have H := HA.out
      clear HA
      simp only [Dq.l0] at H
      by_cases c3 : x5_1 < (x0_1.length : Int)
      · rw [if_pos c3] at H
        have c3b0 : decide (x5_1 < (x0_1.length : Int)) = true := decide_eq_true c3
        clear c3
        by_cases c4 : 0 ≤ x5_1
        · rw [if_pos c4] at H
          have c4b0 : decide (0 ≤ x5_1) = true := decide_eq_true c4
          clear c4
          obtain ⟨y430, hy430⟩ : ∃ y_ : List (S27), y_ = (x0_1.set (x5_1 : Int).toNat (⟨x1_1, (Ak x0_1 x5_1).f1, (Ak x0_1 x5_1).f2, (Ak x0_1 x5_1).f3⟩ : S27)) := ⟨_, rfl⟩
          replace H : ((Dp.f k1 (wrap64 (x1_1 + 1))).bind fun t431 => ((some (y430.set (x5_1 : Int).toNat (⟨(Ak y430 x5_1).f0, t431, (Ak y430 x5_1).f2, (Ak y430 x5_1).f3⟩ : S27) : List (S27))).bind fun y432 => ((some (y432.set (x5_1 : Int).toNat (⟨(Ak y432 x5_1).f0, (Ak y432 x5_1).f1, wrap64 ((wrap64 (x1_1 + 1)) + 1), (Ak y432 x5_1).f3⟩ : S27) : List (S27))).bind fun y433 => (Dq.l0 k1 (y433.set (x5_1 : Int).toNat (⟨(Ak y433 x5_1).f0, (Ak y433 x5_1).f1, (Ak y433 x5_1).f2, wrap64 ((wrap64 ((wrap64 (x1_1 + 1)) + 1)) + 1)⟩ : S27)) (wrap64 ((wrap64 ((wrap64 ((wrap64 (x1_1 + 1)) + 1)) + 1)) + 1)) (wrap64 (x5_1 + 1)))))) = some (r1, r2) := by first | (rw [hy430]; with_reducible exact H) | (have H2_ := (Option.bind_some _ _).symm.trans H; rw [hy430]; with_reducible exact H2_) | (have H2_ := (Option.bind_some _ _).symm.trans H; with_reducible exact H2_) | with_reducible exact H | (rw [hy430]; exact H) | exact H
          have Ny430 := Ac.mk hy430
          clear hy430
          replace H := Option.bind_eq_some_iff.mp H
          obtain ⟨t431, A60, H⟩ := H
          replace H : ((some (y430.set (x5_1 : Int).toNat (⟨(Ak y430 x5_1).f0, t431, (Ak y430 x5_1).f2, (Ak y430 x5_1).f3⟩ : S27) : List (S27))).bind fun y432 => ((some (y432.set (x5_1 : Int).toNat (⟨(Ak y432 x5_1).f0, (Ak y432 x5_1).f1, wrap64 ((wrap64 (x1_1 + 1)) + 1), (Ak y432 x5_1).f3⟩ : S27) : List (S27))).bind fun y433 => (Dq.l0 k1 (y433.set (x5_1 : Int).toNat (⟨(Ak y433 x5_1).f0, (Ak y433 x5_1).f1, (Ak y433 x5_1).f2, wrap64 ((wrap64 ((wrap64 (x1_1 + 1)) + 1)) + 1)⟩ : S27)) (wrap64 ((wrap64 ((wrap64 ((wrap64 (x1_1 + 1)) + 1)) + 1)) + 1)) (wrap64 (x5_1 + 1))))) = some (r1, r2) := H
          have A6 := Ac.mk A60
          clear A60
          obtain ⟨y432, hy432⟩ : ∃ y_ : List (S27), y_ = (y430.set (x5_1 : Int).toNat (⟨(Ak y430 x5_1).f0, t431, (Ak y430 x5_1).f2, (Ak y430 x5_1).f3⟩ : S27)) := ⟨_, rfl⟩
          replace H : ((some (y432.set (x5_1 : Int).toNat (⟨(Ak y432 x5_1).f0, (Ak y432 x5_1).f1, wrap64 ((wrap64 (x1_1 + 1)) + 1), (Ak y432 x5_1).f3⟩ : S27) : List (S27))).bind fun y433 => (Dq.l0 k1 (y433.set (x5_1 : Int).toNat (⟨(Ak y433 x5_1).f0, (Ak y433 x5_1).f1, (Ak y433 x5_1).f2, wrap64 ((wrap64 ((wrap64 (x1_1 + 1)) + 1)) + 1)⟩ : S27)) (wrap64 ((wrap64 ((wrap64 ((wrap64 (x1_1 + 1)) + 1)) + 1)) + 1)) (wrap64 (x5_1 + 1)))) = some (r1, r2) := by first | (rw [hy432]; with_reducible exact H) | (have H2_ := (Option.bind_some _ _).symm.trans H; rw [hy432]; with_reducible exact H2_) | (have H2_ := (Option.bind_some _ _).symm.trans H; with_reducible exact H2_) | with_reducible exact H | (rw [hy432]; exact H) | exact H
          have Ny432 := Ac.mk hy432
          clear hy432
          obtain ⟨y433, hy433⟩ : ∃ y_ : List (S27), y_ = (y432.set (x5_1 : Int).toNat (⟨(Ak y432 x5_1).f0, (Ak y432 x5_1).f1, wrap64 ((wrap64 (x1_1 + 1)) + 1), (Ak y432 x5_1).f3⟩ : S27)) := ⟨_, rfl⟩
          replace H : (Dq.l0 k1 (y433.set (x5_1 : Int).toNat (⟨(Ak y433 x5_1).f0, (Ak y433 x5_1).f1, (Ak y433 x5_1).f2, wrap64 ((wrap64 ((wrap64 (x1_1 + 1)) + 1)) + 1)⟩ : S27)) (wrap64 ((wrap64 ((wrap64 ((wrap64 (x1_1 + 1)) + 1)) + 1)) + 1)) (wrap64 (x5_1 + 1))) = some (r1, r2) := by first | (rw [hy433]; with_reducible exact H) | (have H2_ := (Option.bind_some _ _).symm.trans H; rw [hy433]; with_reducible exact H2_) | (have H2_ := (Option.bind_some _ _).symm.trans H; with_reducible exact H2_) | with_reducible exact H | (rw [hy433]; exact H) | exact H
          have Ny433 := Ac.mk hy433
          clear hy433
          obtain ⟨y434, hy434⟩ : ∃ y_ : List (S27), y_ = (y433.set (x5_1 : Int).toNat (⟨(Ak y433 x5_1).f0, (Ak y433 x5_1).f1, (Ak y433 x5_1).f2, wrap64 ((wrap64 ((wrap64 (x1_1 + 1)) + 1)) + 1)⟩ : S27)) := ⟨_, rfl⟩
          replace H : (Dq.l0 k1 y434 (wrap64 ((wrap64 ((wrap64 ((wrap64 (x1_1 + 1)) + 1)) + 1)) + 1)) (wrap64 (x5_1 + 1))) = some (r1, r2) := by first | (rw [hy434]; with_reducible exact H) | (have H2_ := (Option.bind_some _ _).symm.trans H; rw [hy434]; with_reducible exact H2_) | (have H2_ := (Option.bind_some _ _).symm.trans H; with_reducible exact H2_) | with_reducible exact H | (rw [hy434]; exact H) | exact H
          have Ny434 := Ac.mk hy434
          clear hy434
          have H' := Ac.mk H
          clear H
          obtain ⟨Ao10, co10, eo10⟩ := Kd.Ff HO_0.out
          subst eo10
          have p5 : 0 ≤ (x5_1 : Int) := of_decide_eq_true Yc_
          have q5 : (x5_1 : Int) < ((x0_1.length : Int) : Int) := of_decide_eq_true Yc_
          obtain ⟨go5, co5, eo5, gb5, gl5, cl5, HG5⟩ := Kd.R_form HO_0.out (by omega)
          (first | cases eo5 | (injection eo5 with ea_ en_ ec_; (first | subst ea_ | (injection ea_ with ea_; subst ea_)); subst ec_; clear en_))
          have GB5 := Ac.mk gb5
          have GG5 := Ac.mk HG5
          clear gb5 gl5 HG5
          have HMgo5 := Ac.mk (show (P0_ go5 ∨ w.heap.size ≤ go5) from (HO_0.out.1 _ rfl))
          obtain ⟨ce5, hcl5, hM5, hcc5, hfr5⟩ := Kd.R_elem HO_0.out z27 (x5_1 : Int) p5 q5
          obtain rfl := G8 hM5
          have hx5_0 : wr.cell? ⟨go5, (x5_1 : Int).toNat * 4, none⟩ = some (.int .i64 ((Ak x0_1 x5_1).f0)) := hcc5 0 _ rfl
          have hx5_1 : wr.cell? ⟨go5, (x5_1 : Int).toNat * 4 + 1, none⟩ = some (.string ((Ak x0_1 x5_1).f1)) := hcc5 1 _ rfl
          have hx5_2 : wr.cell? ⟨go5, (x5_1 : Int).toNat * 4 + 2, none⟩ = some (.int .i64 ((Ak x0_1 x5_1).f2)) := hcc5 2 _ rfl
          have hx5_3 : wr.cell? ⟨go5, (x5_1 : Int).toNat * 4 + 3, none⟩ = some (.int .i64 ((Ak x0_1 x5_1).f3)) := hcc5 3 _ rfl
          have hf5_0 : wr.frozen? ⟨go5, (x5_1 : Int).toNat * 4, none⟩ = false := hfr5 0
          have hf5_1 : wr.frozen? ⟨go5, (x5_1 : Int).toNat * 4 + 1, none⟩ = false := hfr5 1
          have hf5_2 : wr.frozen? ⟨go5, (x5_1 : Int).toNat * 4 + 2, none⟩ = false := hfr5 2
          have hf5_3 : wr.frozen? ⟨go5, (x5_1 : Int).toNat * 4 + 3, none⟩ = false := hfr5 3
          clear hcl5 hcc5 hfr5 hM5
          replace p5 := eq_true p5
          replace q5 := eq_true q5
          have HX11 := Ac.mk (show Kd.R k27 27 wr w0.heap.size (fun k_ => (P0_ k_ ∨ w.heap.size ≤ k_)) (.slice (some ⟨go5, 0, none⟩) x0_1.length co10) x0_1 from Yce_)
          obtain ⟨ce11, hcl11, hM11, hcc11, hfr11⟩ := Kd.R_elem HX11.out z27 (x5_1 : Int) (of_decide_eq_true Yc_) (by have h_ : (x5_1 : Int) < ((x0_1.length : Int) : Int) := of_decide_eq_true Yc_; first | exact h_ | (have e_ := (Kd.Dv HO_0.out).1; omega) | simpa using h_)
          obtain rfl := G8 hM11
          have HP11 := Kd.R_seg HX11.out (x5_1 : Int) (of_decide_eq_true Yc_) (by have h_ : (x5_1 : Int) < ((x0_1.length : Int) : Int) := of_decide_eq_true Yc_; first | exact h_ | (have e_ := (Kd.Dv HO_0.out).1; omega) | simpa using h_) (seg := [.int .i64 x1_1]) (j := 0) hcl11 hcc11 (show 1 ≤ 4 from by decide) (x' := (⟨x1_1, (Ak x0_1 x5_1).f1, (Ak x0_1 x5_1).f2, (Ak x0_1 x5_1).f3⟩ : S27)) (G6 _ _ _ (⟨x1_1, (Ak x0_1 x5_1).f1, (Ak x0_1 x5_1).f2, (Ak x0_1 x5_1).f3⟩ : S27) ) (fun _ hk => hk)
          have hx11_0 := hcc11 0 _ rfl
          (try simp only [show (k27).sz = 4 from rfl, Nat.mul_one, Nat.add_zero] at hx11_0)
          have hf11_0 := hfr11 0
          (try simp only [show (k27).sz = 4 from rfl, Nat.mul_one, Nat.add_zero] at hf11_0)
          clear hcl11 hcc11 hfr11 hM11
          go_wp2_with (first | ((with_reducible refine Ic (t := 3) (p := 16) rfl ?_); refine H8 (t := 3) (p := 16) (v := ?vo_w12) (w1 := (wr.setCell ⟨go5, (x5_1 : Int).toNat * 4, none⟩ (.int .i64 x1_1))) ?hg ?ho ?hn ?hr ?_; (case ho => rfl); (case hg => rfl); (case hn => rfl); (case hr => first | (go_simp; done) | (go_simp; rfl)); intro w12 hw; have hg : wr.grownBy w12 (some go5) := (by rw [hw]; exact HP11.2); have hp_ : Kd.R k27 27 w12 w0.heap.size (fun k_ => (P0_ k_ ∨ w.heap.size ≤ k_)) (.slice (some ⟨go5, 0, none⟩) x0_1.length co10) y430 := (by rw [hw, Ny430.out]; exact HP11.1); clear HP11; have n0_ := Ac.mk (hp_); have n1_ := Ac.mk ((by rw [hw]; exact Am (HB.out) GB5.out : Below w0.heap.size w0 w12)); have n2_ := Ac.mk (Kept.of_grown (S := (fun k_ => P0_ k_)) hg Yca_ (fun k_ e_ => (HO_0.out.1 k_ e_))); clear HO_0; clear HB; clear HK; have HO_0 := n0_; have HB := n1_; have HK := n2_; clear n0_ n1_ n2_; clear hg hw hp_) | ((with_reducible refine Aw (f := 36) rfl ?_); refine Bj (some 22) rfl rfl Tryd.func36 (by kernel_rfl) rfl #[.int .i64 (wrap64 (x1_1 + 1))] rfl Yb_ ?_; (with_reducible refine (Dp.calls k1 (wrap64 (x1_1 + 1)) t431 _ A6.out).mono ?_); rintro e w13 ⟨rfl, hb⟩; refine ⟨_, rfl, ?_⟩; have n0_ := Ac.mk (Kd.D6 Yce_ hb); have n1_ := Ac.mk (Kept.below (S := (fun k_ => P0_ k_)) Yca_ hb); have n2_ := Ac.mk (Au Ya_ hb); clear HO_0; clear HK; clear HB; have HO_0 := n0_; have HK := n1_; have HB := n2_; clear n0_ n1_ n2_; (try clear hb); (try clear hb2); (try clear hk); (try clear hi); have p7 : 0 ≤ (x5_1 : Int) := of_decide_eq_true Yc_; have q7 : (x5_1 : Int) < ((x0_1.length : Int) : Int) := of_decide_eq_true Yc_; obtain ⟨ce7, hcl7, hM7, hcc7, hfr7⟩ := Kd.R_elem HO_0.out z27 (x5_1 : Int) p7 q7; obtain rfl := G8 hM7; have hx7_0 : w13.cell? ⟨go5, (x5_1 : Int).toNat * 4, none⟩ = some (.int .i64 ((Ak y430 x5_1).f0)) := hcc7 0 _ rfl; have hx7_1 : w13.cell? ⟨go5, (x5_1 : Int).toNat * 4 + 1, none⟩ = some (.string ((Ak y430 x5_1).f1)) := hcc7 1 _ rfl; have hx7_2 : w13.cell? ⟨go5, (x5_1 : Int).toNat * 4 + 2, none⟩ = some (.int .i64 ((Ak y430 x5_1).f2)) := hcc7 2 _ rfl; have hx7_3 : w13.cell? ⟨go5, (x5_1 : Int).toNat * 4 + 3, none⟩ = some (.int .i64 ((Ak y430 x5_1).f3)) := hcc7 3 _ rfl; have hf7_0 : w13.frozen? ⟨go5, (x5_1 : Int).toNat * 4, none⟩ = false := hfr7 0; have hf7_1 : w13.frozen? ⟨go5, (x5_1 : Int).toNat * 4 + 1, none⟩ = false := hfr7 1; have hf7_2 : w13.frozen? ⟨go5, (x5_1 : Int).toNat * 4 + 2, none⟩ = false := hfr7 2; have hf7_3 : w13.frozen? ⟨go5, (x5_1 : Int).toNat * 4 + 3, none⟩ = false := hfr7 3; (try clear hcl7); (try clear hcc7); (try clear hfr7); (try clear hM7); replace p7 := eq_true p7; replace q7 := eq_true q7; have HX14 := Ac.mk (show Kd.R k27 27 w13 w0.heap.size (fun k_ => (P0_ k_ ∨ w.heap.size ≤ k_)) (.slice (some ⟨go5, 0, none⟩) x0_1.length co10) y430 from Yce_); obtain ⟨ce14, hcl14, hM14, hcc14, hfr14⟩ := Kd.R_elem HX14.out z27 (x5_1 : Int) (of_decide_eq_true Yc_) (by have h_ : (x5_1 : Int) < ((x0_1.length : Int) : Int) := of_decide_eq_true Yc_; first | exact h_ | (have e_ := (Kd.Dv HO_0.out).1; omega) | simpa using h_); obtain rfl := G8 hM14; have HP14 := Kd.R_seg HX14.out (x5_1 : Int) (of_decide_eq_true Yc_) (by have h_ : (x5_1 : Int) < ((x0_1.length : Int) : Int) := of_decide_eq_true Yc_; first | exact h_ | (have e_ := (Kd.Dv HO_0.out).1; omega) | simpa using h_) (seg := [.string t431]) (j := 1) hcl14 hcc14 (show 2 ≤ 4 from by decide) (x' := (⟨(Ak y430 x5_1).f0, t431, (Ak y430 x5_1).f2, (Ak y430 x5_1).f3⟩ : S27)) (G6 _ _ _ (⟨(Ak y430 x5_1).f0, t431, (Ak y430 x5_1).f2, (Ak y430 x5_1).f3⟩ : S27) ) (fun _ hk => hk); have hx14_1 := hcc14 1 _ rfl; (try simp only [show (k27).sz = 4 from rfl, Nat.mul_one, Nat.add_zero] at hx14_1); have hf14_1 := hfr14 1; (try simp only [show (k27).sz = 4 from rfl, Nat.mul_one, Nat.add_zero] at hf14_1); clear hcl14 hcc14 hfr14 hM14) | ((with_reducible refine Ic (t := 9) (p := 24) rfl ?_); refine H8 (t := 9) (p := 24) (v := ?vo_w15) (w1 := (w13.setCell ⟨go5, (x5_1 : Int).toNat * 4 + 1, none⟩ (.string t431))) ?hg ?ho ?hn ?hr ?_; (case ho => rfl); (case hg => rfl); (case hn => rfl); (case hr => first | (go_simp; done) | (go_simp; rfl)); intro w15 hw; have hg : w13.grownBy w15 (some go5) := (by rw [hw]; exact HP14.2); have hp_ : Kd.R k27 27 w15 w0.heap.size (fun k_ => (P0_ k_ ∨ w.heap.size ≤ k_)) (.slice (some ⟨go5, 0, none⟩) x0_1.length co10) y432 := (by rw [hw, Ny432.out]; exact HP14.1); clear HP14; have n0_ := Ac.mk (hp_); have n1_ := Ac.mk ((by rw [hw]; exact Am (HB.out) GB5.out : Below w0.heap.size w0 w15)); have n2_ := Ac.mk (Kept.of_grown (S := (fun k_ => P0_ k_)) hg Yca_ (fun k_ e_ => (HO_0.out.1 k_ e_))); clear HO_0; clear HB; clear HK; have HO_0 := n0_; have HB := n1_; have HK := n2_; clear n0_ n1_ n2_; clear hg hw hp_; have p8 : 0 ≤ (x5_1 : Int) := of_decide_eq_true Yc_; have q8 : (x5_1 : Int) < ((x0_1.length : Int) : Int) := of_decide_eq_true Yc_; obtain ⟨ce8, hcl8, hM8, hcc8, hfr8⟩ := Kd.R_elem HO_0.out z27 (x5_1 : Int) p8 q8; obtain rfl := G8 hM8; have hx8_0 : w15.cell? ⟨go5, (x5_1 : Int).toNat * 4, none⟩ = some (.int .i64 ((Ak y432 x5_1).f0)) := hcc8 0 _ rfl; have hx8_1 : w15.cell? ⟨go5, (x5_1 : Int).toNat * 4 + 1, none⟩ = some (.string ((Ak y432 x5_1).f1)) := hcc8 1 _ rfl; have hx8_2 : w15.cell? ⟨go5, (x5_1 : Int).toNat * 4 + 2, none⟩ = some (.int .i64 ((Ak y432 x5_1).f2)) := hcc8 2 _ rfl; have hx8_3 : w15.cell? ⟨go5, (x5_1 : Int).toNat * 4 + 3, none⟩ = some (.int .i64 ((Ak y432 x5_1).f3)) := hcc8 3 _ rfl; have hf8_0 : w15.frozen? ⟨go5, (x5_1 : Int).toNat * 4, none⟩ = false := hfr8 0; have hf8_1 : w15.frozen? ⟨go5, (x5_1 : Int).toNat * 4 + 1, none⟩ = false := hfr8 1; have hf8_2 : w15.frozen? ⟨go5, (x5_1 : Int).toNat * 4 + 2, none⟩ = false := hfr8 2; have hf8_3 : w15.frozen? ⟨go5, (x5_1 : Int).toNat * 4 + 3, none⟩ = false := hfr8 3; (try clear hcl8); (try clear hcc8); (try clear hfr8); (try clear hM8); replace p8 := eq_true p8; replace q8 := eq_true q8; have HX16 := Ac.mk (show Kd.R k27 27 w15 w0.heap.size (fun k_ => (P0_ k_ ∨ w.heap.size ≤ k_)) (.slice (some ⟨go5, 0, none⟩) x0_1.length co10) y432 from Yce_); obtain ⟨ce16, hcl16, hM16, hcc16, hfr16⟩ := Kd.R_elem HX16.out z27 (x5_1 : Int) (of_decide_eq_true Yc_) (by have h_ : (x5_1 : Int) < ((x0_1.length : Int) : Int) := of_decide_eq_true Yc_; first | exact h_ | (have e_ := (Kd.Dv HO_0.out).1; omega) | simpa using h_); obtain rfl := G8 hM16; have HP16 := Kd.R_seg HX16.out (x5_1 : Int) (of_decide_eq_true Yc_) (by have h_ : (x5_1 : Int) < ((x0_1.length : Int) : Int) := of_decide_eq_true Yc_; first | exact h_ | (have e_ := (Kd.Dv HO_0.out).1; omega) | simpa using h_) (seg := [.int .i64 (wrap64 ((wrap64 (x1_1 + 1)) + 1))]) (j := 2) hcl16 hcc16 (show 3 ≤ 4 from by decide) (x' := (⟨(Ak y432 x5_1).f0, (Ak y432 x5_1).f1, wrap64 ((wrap64 (x1_1 + 1)) + 1), (Ak y432 x5_1).f3⟩ : S27)) (G6 _ _ _ (⟨(Ak y432 x5_1).f0, (Ak y432 x5_1).f1, wrap64 ((wrap64 (x1_1 + 1)) + 1), (Ak y432 x5_1).f3⟩ : S27) ) (fun _ hk => hk); have hx16_2 := hcc16 2 _ rfl; (try simp only [show (k27).sz = 4 from rfl, Nat.mul_one, Nat.add_zero] at hx16_2); have hf16_2 := hfr16 2; (try simp only [show (k27).sz = 4 from rfl, Nat.mul_one, Nat.add_zero] at hf16_2); clear hcl16 hcc16 hfr16 hM16) | ((with_reducible refine Ic (t := 3) (p := 31) rfl ?_); refine H8 (t := 3) (p := 31) (v := ?vo_w17) (w1 := (w15.setCell ⟨go5, (x5_1 : Int).toNat * 4 + 2, none⟩ (.int .i64 (wrap64 ((wrap64 (x1_1 + 1)) + 1))))) ?hg ?ho ?hn ?hr ?_; (case ho => rfl); (case hg => rfl); (case hn => rfl); (case hr => first | (go_simp; done) | (go_simp; rfl)); intro w17 hw; have hg : w15.grownBy w17 (some go5) := (by rw [hw]; exact HP16.2); have hp_ : Kd.R k27 27 w17 w0.heap.size (fun k_ => (P0_ k_ ∨ w.heap.size ≤ k_)) (.slice (some ⟨go5, 0, none⟩) x0_1.length co10) y433 := (by rw [hw, Ny433.out]; exact HP16.1); clear HP16; have n0_ := Ac.mk (hp_); have n1_ := Ac.mk ((by rw [hw]; exact Am (HB.out) GB5.out : Below w0.heap.size w0 w17)); have n2_ := Ac.mk (Kept.of_grown (S := (fun k_ => P0_ k_)) hg Yca_ (fun k_ e_ => (HO_0.out.1 k_ e_))); clear HO_0; clear HB; clear HK; have HO_0 := n0_; have HB := n1_; have HK := n2_; clear n0_ n1_ n2_; clear hg hw hp_; have p9 : 0 ≤ (x5_1 : Int) := of_decide_eq_true Yc_; have q9 : (x5_1 : Int) < ((x0_1.length : Int) : Int) := of_decide_eq_true Yc_; obtain ⟨ce9, hcl9, hM9, hcc9, hfr9⟩ := Kd.R_elem HO_0.out z27 (x5_1 : Int) p9 q9; obtain rfl := G8 hM9; have hx9_0 : w17.cell? ⟨go5, (x5_1 : Int).toNat * 4, none⟩ = some (.int .i64 ((Ak y433 x5_1).f0)) := hcc9 0 _ rfl; have hx9_1 : w17.cell? ⟨go5, (x5_1 : Int).toNat * 4 + 1, none⟩ = some (.string ((Ak y433 x5_1).f1)) := hcc9 1 _ rfl; have hx9_2 : w17.cell? ⟨go5, (x5_1 : Int).toNat * 4 + 2, none⟩ = some (.int .i64 ((Ak y433 x5_1).f2)) := hcc9 2 _ rfl; have hx9_3 : w17.cell? ⟨go5, (x5_1 : Int).toNat * 4 + 3, none⟩ = some (.int .i64 ((Ak y433 x5_1).f3)) := hcc9 3 _ rfl; have hf9_0 : w17.frozen? ⟨go5, (x5_1 : Int).toNat * 4, none⟩ = false := hfr9 0; have hf9_1 : w17.frozen? ⟨go5, (x5_1 : Int).toNat * 4 + 1, none⟩ = false := hfr9 1; have hf9_2 : w17.frozen? ⟨go5, (x5_1 : Int).toNat * 4 + 2, none⟩ = false := hfr9 2; have hf9_3 : w17.frozen? ⟨go5, (x5_1 : Int).toNat * 4 + 3, none⟩ = false := hfr9 3; (try clear hcl9); (try clear hcc9); (try clear hfr9); (try clear hM9); replace p9 := eq_true p9; replace q9 := eq_true q9; have HX18 := Ac.mk (show Kd.R k27 27 w17 w0.heap.size (fun k_ => (P0_ k_ ∨ w.heap.size ≤ k_)) (.slice (some ⟨go5, 0, none⟩) x0_1.length co10) y433 from Yce_); obtain ⟨ce18, hcl18, hM18, hcc18, hfr18⟩ := Kd.R_elem HX18.out z27 (x5_1 : Int) (of_decide_eq_true Yc_) (by have h_ : (x5_1 : Int) < ((x0_1.length : Int) : Int) := of_decide_eq_true Yc_; first | exact h_ | (have e_ := (Kd.Dv HO_0.out).1; omega) | simpa using h_); obtain rfl := G8 hM18; have HP18 := Kd.R_seg HX18.out (x5_1 : Int) (of_decide_eq_true Yc_) (by have h_ : (x5_1 : Int) < ((x0_1.length : Int) : Int) := of_decide_eq_true Yc_; first | exact h_ | (have e_ := (Kd.Dv HO_0.out).1; omega) | simpa using h_) (seg := [.int .i64 (wrap64 ((wrap64 ((wrap64 (x1_1 + 1)) + 1)) + 1))]) (j := 3) hcl18 hcc18 (show 4 ≤ 4 from by decide) (x' := (⟨(Ak y433 x5_1).f0, (Ak y433 x5_1).f1, (Ak y433 x5_1).f2, wrap64 ((wrap64 ((wrap64 (x1_1 + 1)) + 1)) + 1)⟩ : S27)) (G6 _ _ _ (⟨(Ak y433 x5_1).f0, (Ak y433 x5_1).f1, (Ak y433 x5_1).f2, wrap64 ((wrap64 ((wrap64 (x1_1 + 1)) + 1)) + 1)⟩ : S27) ) (fun _ hk => hk); have hx18_3 := hcc18 3 _ rfl; (try simp only [show (k27).sz = 4 from rfl, Nat.mul_one, Nat.add_zero] at hx18_3); have hf18_3 := hfr18 3; (try simp only [show (k27).sz = 4 from rfl, Nat.mul_one, Nat.add_zero] at hf18_3); clear hcl18 hcc18 hfr18 hM18) | ((with_reducible refine Ic (t := 3) (p := 38) rfl ?_); refine H8 (t := 3) (p := 38) (v := ?vo_w19) (w1 := (w17.setCell ⟨go5, (x5_1 : Int).toNat * 4 + 3, none⟩ (.int .i64 (wrap64 ((wrap64 ((wrap64 (x1_1 + 1)) + 1)) + 1))))) ?hg ?ho ?hn ?hr ?_; (case ho => rfl); (case hg => rfl); (case hn => rfl); (case hr => first | (go_simp; done) | (go_simp; rfl)); intro w19 hw; have hg : w17.grownBy w19 (some go5) := (by rw [hw]; exact HP18.2); have hp_ : Kd.R k27 27 w19 w0.heap.size (fun k_ => (P0_ k_ ∨ w.heap.size ≤ k_)) (.slice (some ⟨go5, 0, none⟩) x0_1.length co10) y434 := (by rw [hw, Ny434.out]; exact HP18.1); clear HP18; have n0_ := Ac.mk (hp_); have n1_ := Ac.mk ((by rw [hw]; exact Am (HB.out) GB5.out : Below w0.heap.size w0 w19)); have n2_ := Ac.mk (Kept.of_grown (S := (fun k_ => P0_ k_)) hg Yca_ (fun k_ e_ => (HO_0.out.1 k_ e_))); clear HO_0; clear HB; clear HK; have HO_0 := n0_; have HB := n1_; have HK := n2_; clear n0_ n1_ n2_; clear hg hw hp_))
          go_roundg k1
          case measure => have := HK1.out; omega
          case rel => exact ⟨(y434), (wrap64 ((wrap64 ((wrap64 ((wrap64 (x1_1 + 1)) + 1)) + 1)) + 1)), (wrap64 (x5_1 + 1)), Yf_, Yf_, H', ⟨by have := HK1.out; omega⟩, ⟨by (with_reducible repeat (first | apply Kd.Bg | apply Kd.Bh | apply Kd.Bl)); exact HO_0.out⟩, ⟨by repeat (first | (with_reducible first | exact HK.out | apply Kept.alloc | apply Kept.drewN | apply Kept.drew) | exact HK.out)⟩, ⟨by repeat (first | (with_reducible first | exact HB.out | apply Ae | apply Aa | apply Ad) | exact HB.out)⟩⟩
        · rw [if_neg c4] at H
          exact absurd H (by simp)
      · rw [if_neg c3] at H
        have c3b0 : decide (x5_1 < (x0_1.length : Int)) = false := decide_eq_false c3
        clear c3
        simp only [Option.some.injEq, Prod.mk.injEq] at H
        obtain ⟨rfl, rfl⟩ := H
        obtain ⟨Ao20, co20, eo20⟩ := Kd.Ff HO_0.out
        subst eo20
        go_wp2
        go_ret
        exact ⟨by first | rfl | (simp [Aq, Ar] <;> rfl) | (simp [*, Aq, Ar] <;> rfl), by (with_reducible repeat (first | apply Kd.Bg | apply Kd.Bh | apply Kd.Bl)); exact HO_0.out, by repeat (first | (with_reducible first | exact HB.out | apply Ae | apply Aa | apply Ad) | exact HB.out), by repeat (first | (with_reducible first | exact HK.out | apply Kept.alloc | apply Kept.drewN | apply Kept.drew) | exact HK.out)⟩
end Go.Proofs.YtghnljoaklmakaaDoor.X

namespace Go.Proofs.YtghnljoaklmakaaDoor.X
open Go.RowKit Go.Proofs.YtghnljoaklmakaaDoorW.PrintWords Go.Proofs.YtghnljoaklmakaaDoorW.PrintLast Go.Proofs.YtghnljoaklmakaaDoorW.PrintMore
attribute [local go_sem] Ea Eb Eh Eg Dz D5 Ec D9
open Go.Proofs.YtghnljoaklmakaaDoorG
def Cf.l0 : Nat → List (S27) → Int → Int → Option (Int)
  | 0, _, _, _ => none
  | k + 1, x0, x1, x5 => if x5 < (x0.length : Int) then (if 0 ≤ x5 then (if ((Ak x0 x5).f0) = x1 then ((Dp.f k (wrap64 (x1 + 1))).bind fun t437 => (if ((Ak x0 x5).f1).toList = t437.toList then (if ((Ak x0 x5).f2) = (wrap64 ((wrap64 (x1 + 1)) + 1)) then (if ((Ak x0 x5).f3) = (wrap64 ((wrap64 ((wrap64 (x1 + 1)) + 1)) + 1)) then (Cf.l0 k x0 (wrap64 ((wrap64 ((wrap64 ((wrap64 (x1 + 1)) + 1)) + 1)) + 1)) (wrap64 (x5 + 1))) else (some (-1))) else (some (-1))) else (some (-1)))) else (some (-1))) else (none)) else (some x1)
def Cf.f (k : Nat) (l0 : List (S27)) (a1 : Int) : Option (Int) := Cf.l0 k l0 a1 0
theorem Cf.Ed : ∀ k, (∀ y0 y1 y2, LeO (Cf.l0 k y0 y1 y2) (Cf.l0 (k + 1) y0 y1 y2))
  | 0 => fun _ _ _ r h => by simp [Cf.l0] at h
  | k + 1 => by
    have ih0 := Cf.Ed k
    · intro y0 y1 y2
      unfold Cf.l0
      repeat' first
      | (with_reducible exact ih0 _ _ _)
      | (with_reducible exact Dp.mono _ _)
      | (with_reducible exact LeO.refl _)
      | (with_reducible exact LeO.none _)
      | (with_reducible refine LeO.ite ?_ ?_)
      | (with_reducible refine LeO.bind ?_ (fun _ => ?_))
      | exact ih0 _ _ _
      | exact Dp.mono _ _
      | exact LeO.none _
      | refine LeO.ite ?_ ?_
      | refine LeO.bind ?_ (fun _ => ?_)
theorem Cf.mono : ∀ a0 a1 k, LeO (Cf.f k a0 a1) (Cf.f (k + 1) a0 a1) := by
  intro a0 a1 k
  have ih0 := Cf.Ed k
  unfold Cf.f
  repeat' first
      | (with_reducible exact ih0 _ _ _)
      | (with_reducible exact Dp.mono _ _)
      | (with_reducible exact LeO.refl _)
      | (with_reducible exact LeO.none _)
      | (with_reducible refine LeO.ite ?_ ?_)
      | (with_reducible refine LeO.bind ?_ (fun _ => ?_))
      | exact ih0 _ _ _
      | exact Dp.mono _ _
      | exact LeO.none _
      | refine LeO.ite ?_ ?_
      | refine LeO.bind ?_ (fun _ => ?_)
def Cf.T7 : Bool × List (List Nat × List Nat) := (true, [([], []), ([], []), ([0, 1], [0, 1]), ([2], [2]), ([3], [3]), ([], []), ([5], [5]), ([4, 6], [4, 6])])
def Cf.B7 : List Nat := [0, 0, 3, 7, 15, 0, 32, 127]
theorem Cf.tab7 : rtab .any (opsOf Tryd.f22 7) = Cf.T7 := by kernel_rfl
theorem Cf.bits7 : Hm Cf.T7.2 Cf.B7 = true := by kernel_rfl
set_option maxHeartbeats 8000000 in
set_option maxRecDepth 100000 in
theorem Cf.calls (k : Nat) (A0 : Option Addr) (c0 : Nat) (l0 : List (S27)) (a1 : Int) (r : Int) (w : World) (hr0 : Kd.C k27 w A0 l0.length l0) (hc0 : l0.length ≤ c0) (h : Cf.f k l0 a1 = some r) :
    Calls Tryd.prog 22 #[.slice A0 l0.length c0, .int .i64 a1] w fun e w' => e = .returned (.int .i64 r) ∧ Below w.heap.size w w' := by
  have HR0 := Ac.mk hr0
  have HC0 := Ac.mk hc0
  clear hr0 hc0
  have HB := Ac.mk (Below.refl w.heap.size w)
  have H : (Cf.l0 k l0 a1 0) = some r := h
  clear h
  have H' := Ac.mk H
  clear H
  go_enter Tryd.func22, Tryd.ntmps22
  go_wp2
  go_loopg [1, 5] k (fun kq v1 v5 w' => ∃ (x1_1 : Int) (x5_1 : Int), v1 = .int .i64 x1_1 ∧ v5 = .int .i64 x5_1 ∧ Ac (Cf.l0 kq l0 x1_1 x5_1 = some r) ∧ Ac (kq ≤ k) ∧ Ac (Below w.heap.size w w'))
  case atStart => exact ⟨(a1), (0), Yf_, Yf_, H', ⟨Nat.le_refl _⟩, ⟨by repeat (first | (with_reducible first | exact HB.out | apply Ae | apply Aa | apply Ad) | exact HB.out)⟩⟩
  case round =>
    clear H'
    try clear c2
    try clear p2
    obtain ⟨x1_1, x5_1, rfl, rfl, HA, HK1, HB⟩ := hrel
    cases gk with
    | zero => exact absurd HA.out (by simp [Cf.l0])
    | succ k1 =>
      have H := HA.out
      clear HA
      simp only [Cf.l0] at H
      by_cases c3 : x5_1 < (l0.length : Int)
      · rw [if_pos c3] at H
        have c3b0 : decide (x5_1 < (l0.length : Int)) = true := decide_eq_true c3
        clear c3
        by_cases c4 : 0 ≤ x5_1
        · rw [if_pos c4] at H
          have c4b0 : decide (0 ≤ x5_1) = true := decide_eq_true c4
          clear c4
          by_cases c5 : ((Ak l0 x5_1).f0) = x1_1
          · rw [if_pos c5] at H
            have c5b0 : (((Ak l0 x5_1).f0) == x1_1) = true := beq_iff_eq.mpr c5
            have c5b1 : (((Ak l0 x5_1).f0) != x1_1) = false := bne_eq_false_iff_eq.mpr c5
            clear c5
            replace H := Option.bind_eq_some_iff.mp H
            obtain ⟨t437, A60, H⟩ := H
            replace H : (if ((Ak l0 x5_1).f1).toList = t437.toList then (if ((Ak l0 x5_1).f2) = (wrap64 ((wrap64 (x1_1 + 1)) + 1)) then (if ((Ak l0 x5_1).f3) = (wrap64 ((wrap64 ((wrap64 (x1_1 + 1)) + 1)) + 1)) then (Cf.l0 k1 l0 (wrap64 ((wrap64 ((wrap64 ((wrap64 (x1_1 + 1)) + 1)) + 1)) + 1)) (wrap64 (x5_1 + 1))) else (some (-1))) else (some (-1))) else (some (-1))) = some r := H
            have A6 := Ac.mk A60
            clear A60
            by_cases c7 : ((Ak l0 x5_1).f1).toList = t437.toList
            · rw [if_pos c7] at H
              have c7b0 : (((Ak l0 x5_1).f1).toList == t437.toList) = true := beq_iff_eq.mpr c7
              have c7b1 : (((Ak l0 x5_1).f1).toList != t437.toList) = false := bne_eq_false_iff_eq.mpr c7
              clear c7
              by_cases c8 : ((Ak l0 x5_1).f2) = (wrap64 ((wrap64 (x1_1 + 1)) + 1))
              · rw [if_pos c8] at H
                have c8b0 : (((Ak l0 x5_1).f2) == (wrap64 ((wrap64 (x1_1 + 1)) + 1))) = true := beq_iff_eq.mpr c8
                have c8b1 : (((Ak l0 x5_1).f2) != (wrap64 ((wrap64 (x1_1 + 1)) + 1))) = false := bne_eq_false_iff_eq.mpr c8
                clear c8
                by_cases c9 : ((Ak l0 x5_1).f3) = (wrap64 ((wrap64 ((wrap64 (x1_1 + 1)) + 1)) + 1))
                · rw [if_pos c9] at H
                  have c9b0 : (((Ak l0 x5_1).f3) == (wrap64 ((wrap64 ((wrap64 (x1_1 + 1)) + 1)) + 1))) = true := beq_iff_eq.mpr c9
                  have c9b1 : (((Ak l0 x5_1).f3) != (wrap64 ((wrap64 ((wrap64 (x1_1 + 1)) + 1)) + 1))) = false := bne_eq_false_iff_eq.mpr c9
                  clear c9
                  have H' := Ac.mk H
                  clear H
                  have p435 : 0 ≤ (x5_1 : Int) := of_decide_eq_true Yc_
                  have q435 : x5_1 < (l0.length : Int) := of_decide_eq_true Yc_
                  obtain ⟨ad435, e435, hx435_0, hx435_1, hx435_2, hx435_3⟩ := Fp HR0.out x5_1 p435 q435
                  cases e435
                  replace hx435_0 := (HB.out.cell (World.block_lt_of_cell? w _ hx435_0)).trans hx435_0
                  replace hx435_1 := (HB.out.cell (World.block_lt_of_cell? w _ hx435_1)).trans hx435_1
                  replace hx435_2 := (HB.out.cell (World.block_lt_of_cell? w _ hx435_2)).trans hx435_2
                  replace hx435_3 := (HB.out.cell (World.block_lt_of_cell? w _ hx435_3)).trans hx435_3
                  replace p435 := eq_true p435
                  replace q435 := eq_true q435
                  try go_wp2
                  have n0_ := Ac.mk (Ad HB.out)
                  clear HB
                  have HB := n0_
                  clear n0_
                  have p436 : 0 ≤ (x5_1 : Int) := of_decide_eq_true Yc_
                  have q436 : x5_1 < (l0.length : Int) := of_decide_eq_true Yc_
                  obtain ⟨ad436, e436, hx436_0, hx436_1, hx436_2, hx436_3⟩ := Fp HR0.out x5_1 p436 q436
                  have hw436_3 := hx436_3
                  have hw436_2 := hx436_2
                  have hw436_1 := hx436_1
                  have hw436_0 := hx436_0
                  obtain rfl : ad435 = ad436 := (by injection e436)
                  replace hx436_0 := (HB.out.cell (World.block_lt_of_cell? w _ hx436_0)).trans hx436_0
                  replace hx436_1 := (HB.out.cell (World.block_lt_of_cell? w _ hx436_1)).trans hx436_1
                  replace hx436_2 := (HB.out.cell (World.block_lt_of_cell? w _ hx436_2)).trans hx436_2
                  replace hx436_3 := (HB.out.cell (World.block_lt_of_cell? w _ hx436_3)).trans hx436_3
                  replace p436 := eq_true p436
                  replace q436 := eq_true q436
                  refine G7 (n := 8) (S := fun w' => w'.cell? (ad435.add ((x5_1).toNat * 4)) = some (.int .i64 ((Ak l0 x5_1).f0)) ∧ w'.cell? ⟨(ad435.add ((x5_1).toNat * 4)).block, (ad435.add ((x5_1).toNat * 4)).off + 1, none⟩ = some (.string ((Ak l0 x5_1).f1)) ∧ w'.cell? ⟨(ad435.add ((x5_1).toNat * 4)).block, (ad435.add ((x5_1).toNat * 4)).off + 2, none⟩ = some (.int .i64 ((Ak l0 x5_1).f2)) ∧ w'.cell? ⟨(ad435.add ((x5_1).toNat * 4)).block, (ad435.add ((x5_1).toNat * 4)).off + 3, none⟩ = some (.int .i64 ((Ak l0 x5_1).f3))) (ds := []) #[false, false, false, false, false, false, false, false] (by kernel_rfl) rfl rfl ⟨((HB.out.cell (World.block_lt_of_cell? w _ hw436_0)).trans hw436_0), ((HB.out.cell (World.block_lt_of_cell? w _ hw436_1)).trans hw436_1), ((HB.out.cell (World.block_lt_of_cell? w _ hw436_2)).trans hw436_2), ((HB.out.cell (World.block_lt_of_cell? w _ hw436_3)).trans hw436_3)⟩ (fun hHeld => ?_); refine Gf Cf.tab7 Cf.bits7 (fun HT_ HW_ => ?_)
                  generalize wr.drew = w10 at HB hx436_0 hx436_1 hx436_2 hx436_3 hHeld ⊢
                  refine Du (i := 0) (N := some 21) (v := ?_) (a' := ?_) #[true, false, false, false, false, false, false, false] rfl rfl (Di HT_.out (by kernel_rfl)) (fun _ _ _ h => h) (Or.inl ⟨by rfl, ?_⟩) ?_ ?_
                  rotate_left
                  · intro w'
                    go_simp
                    with_reducible rfl
                  rotate_left
                  · simp only [Act.put, List.setIfInBounds_toArray, List.set_cons_zero, List.set_cons_succ, Bz, Cb]
                    rfl
                  refine Du (i := 1) (N := some 22) (v := ?_) (a' := ?_) #[true, true, false, false, false, false, false, false] rfl rfl (Di HT_.out (by kernel_rfl)) (fun _ _ _ h => h) (Or.inl ⟨by rfl, ?_⟩) ?_ ?_
                  rotate_left
                  · intro w'
                    go_simp
                    with_reducible rfl
                  rotate_left
                  · simp only [Act.put, List.setIfInBounds_toArray, List.set_cons_zero, List.set_cons_succ, Bz, Cb]
                    rfl
                  refine Du (i := 2) (N := some 23) (v := ?_) (a' := ?_) #[true, true, true, false, false, false, false, false] rfl rfl (Di HT_.out (by kernel_rfl)) (fun _ _ _ h => h) (Or.inl ⟨by rfl, ?_⟩) ?_ ?_
                  rotate_left
                  · intro w'
                    go_simp
                    with_reducible rfl
                  rotate_left
                  · simp only [Act.put, List.setIfInBounds_toArray, List.set_cons_zero, List.set_cons_succ, Bz, Cb]
                    rfl
                  refine Du (i := 3) (N := some 24) (v := ?_) (a' := ?_) #[true, true, true, true, false, false, false, false] rfl rfl (Di HT_.out (by kernel_rfl)) (fun _ _ _ h => h) (Or.inl ⟨by rfl, ?_⟩) ?_ ?_
                  rotate_left
                  · intro w'
                    go_simp
                    with_reducible rfl
                  rotate_left
                  · simp only [Act.put, List.setIfInBounds_toArray, List.set_cons_zero, List.set_cons_succ, Bz, Cb]
                    rfl
                  refine Du (i := 5) (N := some 26) (v := ?_) (a' := ?_) #[true, true, true, true, false, true, false, false] rfl rfl (Di HT_.out (by kernel_rfl)) (fun _ _ _ h => h) (Or.inl ⟨by rfl, ?_⟩) ?_ ?_
                  rotate_left
                  · intro w'
                    go_simp
                    with_reducible rfl
                  rotate_left
                  · simp only [Act.put, List.setIfInBounds_toArray, List.set_cons_zero, List.set_cons_succ, Bz, Cb]
                    rfl
                  refine Fv (i := 4) (N := some 25) (v := ?_) (a' := ?_) #[true, true, true, true, true, true, false, false] rfl rfl (Et HT_.out HW_.out (by kernel_rfl)) (fun _ _ _ h => h) (Or.inl ⟨by rfl, ?_⟩) hHeld ?_ ?_
                  rotate_left
                  · rintro w' ⟨s0, s1, s2, s3⟩
                    go_simp
                    with_reducible rfl
                  rotate_left
                  · simp only [Act.put, List.setIfInBounds_toArray, List.set_cons_zero, List.set_cons_succ, Bz, Cb]
                    rfl
                  refine one_ (i := 6) (N := some 27) #[true, true, true, true, true, true, true, false] rfl rfl (Gg HT_.out (by kernel_rfl)) (by decide) (fun K hK => ?_)
                  refine Gn Tryd.func36 (by kernel_rfl) rfl #[.int .i64 (wrap64 (x1_1 + 1))] (by rfl) rfl rfl Yb_ ?_
                  with_reducible refine (Dp.calls k1 (wrap64 (x1_1 + 1)) t437 _ A6.out).mono ?_
                  rintro e w11 ⟨rfl, hb⟩
                  refine ⟨_, rfl, ?_⟩
                  have n0_ := Ac.mk (Au Ya_ hb)
                  clear HB
                  have HB := n0_
                  clear n0_
                  (try clear hb)
                  (try clear hb2)
                  (try clear hk)
                  (try clear hi)
                  refine hK.out _ _ ⟨((HB.out.cell (World.block_lt_of_cell? w _ hw436_0)).trans hw436_0), ((HB.out.cell (World.block_lt_of_cell? w _ hw436_1)).trans hw436_1), ((HB.out.cell (World.block_lt_of_cell? w _ hw436_2)).trans hw436_2), ((HB.out.cell (World.block_lt_of_cell? w _ hw436_3)).trans hw436_3)⟩ (fun hHeld => ?_)
                  clear hK K
                  refine Gp (a' := ?_) ?_ ?_
                  rotate_left
                  · show Act.put _ (some 27) _ = _
                    simp only [Act.put, List.setIfInBounds_toArray, List.set_cons_zero, List.set_cons_succ, Bz, Cb]
                    rfl
                  refine Du (i := 7) (N := some 28) (v := ?_) (a' := ?_) #[true, true, true, true, true, true, true, true] rfl rfl (Di HT_.out (by kernel_rfl)) (fun _ _ _ h => h) (Or.inl ⟨by rfl, ?_⟩) ?_ ?_
                  rotate_left
                  · intro w'
                    go_simp
                    with_reducible rfl
                  rotate_left
                  · simp only [Act.put, List.setIfInBounds_toArray, List.set_cons_zero, List.set_cons_succ, Bz, Cb]
                    rfl
                  refine done_ (Gv HT_.out (by kernel_rfl)) ?_
                  have p438 : 0 ≤ (x5_1 : Int) := of_decide_eq_true Yc_
                  have q438 : x5_1 < (l0.length : Int) := of_decide_eq_true Yc_
                  obtain ⟨ad438, e438, hx438_0, hx438_1, hx438_2, hx438_3⟩ := Fp HR0.out x5_1 p438 q438
                  obtain rfl : ad435 = ad438 := (by injection e438)
                  replace hx438_0 := (HB.out.cell (World.block_lt_of_cell? w _ hx438_0)).trans hx438_0
                  replace hx438_1 := (HB.out.cell (World.block_lt_of_cell? w _ hx438_1)).trans hx438_1
                  replace hx438_2 := (HB.out.cell (World.block_lt_of_cell? w _ hx438_2)).trans hx438_2
                  replace hx438_3 := (HB.out.cell (World.block_lt_of_cell? w _ hx438_3)).trans hx438_3
                  replace p438 := eq_true p438
                  replace q438 := eq_true q438
                  have p439 : 0 ≤ (x5_1 : Int) := of_decide_eq_true Yc_
                  have q439 : x5_1 < (l0.length : Int) := of_decide_eq_true Yc_
                  obtain ⟨ad439, e439, hx439_0, hx439_1, hx439_2, hx439_3⟩ := Fp HR0.out x5_1 p439 q439
                  obtain rfl : ad435 = ad439 := (by injection e439)
                  replace hx439_0 := (HB.out.cell (World.block_lt_of_cell? w _ hx439_0)).trans hx439_0
                  replace hx439_1 := (HB.out.cell (World.block_lt_of_cell? w _ hx439_1)).trans hx439_1
                  replace hx439_2 := (HB.out.cell (World.block_lt_of_cell? w _ hx439_2)).trans hx439_2
                  replace hx439_3 := (HB.out.cell (World.block_lt_of_cell? w _ hx439_3)).trans hx439_3
                  replace p439 := eq_true p439
                  replace q439 := eq_true q439
                  try go_wp2
                  go_roundg k1
                  case measure => have := HK1.out; omega
                  case rel => exact ⟨(wrap64 ((wrap64 ((wrap64 ((wrap64 (x1_1 + 1)) + 1)) + 1)) + 1)), (wrap64 (x5_1 + 1)), Yf_, Yf_, H', ⟨by have := HK1.out; omega⟩, ⟨by repeat (first | (with_reducible first | exact HB.out | apply Ae | apply Aa | apply Ad) | exact HB.out)⟩⟩
                · rw [if_neg c9] at H
                  have c9b0 : (((Ak l0 x5_1).f3) == (wrap64 ((wrap64 ((wrap64 (x1_1 + 1)) + 1)) + 1))) = false := beq_eq_false_iff_ne.mpr c9
                  have c9b1 : (((Ak l0 x5_1).f3) != (wrap64 ((wrap64 ((wrap64 (x1_1 + 1)) + 1)) + 1))) = true := bne_iff_ne.mpr c9
                  obtain rfl := Option.some.inj H
                  have p435 : 0 ≤ (x5_1 : Int) := of_decide_eq_true Yc_
                  have q435 : x5_1 < (l0.length : Int) := of_decide_eq_true Yc_
                  obtain ⟨ad435, e435, hx435_0, hx435_1, hx435_2, hx435_3⟩ := Fp HR0.out x5_1 p435 q435
                  cases e435
                  replace hx435_0 := (HB.out.cell (World.block_lt_of_cell? w _ hx435_0)).trans hx435_0
                  replace hx435_1 := (HB.out.cell (World.block_lt_of_cell? w _ hx435_1)).trans hx435_1
                  replace hx435_2 := (HB.out.cell (World.block_lt_of_cell? w _ hx435_2)).trans hx435_2
                  replace hx435_3 := (HB.out.cell (World.block_lt_of_cell? w _ hx435_3)).trans hx435_3
                  replace p435 := eq_true p435
                  replace q435 := eq_true q435
                  try go_wp2
                  have n0_ := Ac.mk (Ad HB.out)
                  clear HB
                  have HB := n0_
                  clear n0_
                  have p436 : 0 ≤ (x5_1 : Int) := of_decide_eq_true Yc_
                  have q436 : x5_1 < (l0.length : Int) := of_decide_eq_true Yc_
                  obtain ⟨ad436, e436, hx436_0, hx436_1, hx436_2, hx436_3⟩ := Fp HR0.out x5_1 p436 q436
                  have hw436_3 := hx436_3
                  have hw436_2 := hx436_2
                  have hw436_1 := hx436_1
                  have hw436_0 := hx436_0
                  obtain rfl : ad435 = ad436 := (by injection e436)
                  replace hx436_0 := (HB.out.cell (World.block_lt_of_cell? w _ hx436_0)).trans hx436_0
                  replace hx436_1 := (HB.out.cell (World.block_lt_of_cell? w _ hx436_1)).trans hx436_1
                  replace hx436_2 := (HB.out.cell (World.block_lt_of_cell? w _ hx436_2)).trans hx436_2
                  replace hx436_3 := (HB.out.cell (World.block_lt_of_cell? w _ hx436_3)).trans hx436_3
                  replace p436 := eq_true p436
                  replace q436 := eq_true q436
                  refine G7 (n := 8) (S := fun w' => w'.cell? (ad435.add ((x5_1).toNat * 4)) = some (.int .i64 ((Ak l0 x5_1).f0)) ∧ w'.cell? ⟨(ad435.add ((x5_1).toNat * 4)).block, (ad435.add ((x5_1).toNat * 4)).off + 1, none⟩ = some (.string ((Ak l0 x5_1).f1)) ∧ w'.cell? ⟨(ad435.add ((x5_1).toNat * 4)).block, (ad435.add ((x5_1).toNat * 4)).off + 2, none⟩ = some (.int .i64 ((Ak l0 x5_1).f2)) ∧ w'.cell? ⟨(ad435.add ((x5_1).toNat * 4)).block, (ad435.add ((x5_1).toNat * 4)).off + 3, none⟩ = some (.int .i64 ((Ak l0 x5_1).f3))) (ds := []) #[false, false, false, false, false, false, false, false] (by kernel_rfl) rfl rfl ⟨((HB.out.cell (World.block_lt_of_cell? w _ hw436_0)).trans hw436_0), ((HB.out.cell (World.block_lt_of_cell? w _ hw436_1)).trans hw436_1), ((HB.out.cell (World.block_lt_of_cell? w _ hw436_2)).trans hw436_2), ((HB.out.cell (World.block_lt_of_cell? w _ hw436_3)).trans hw436_3)⟩ (fun hHeld => ?_); refine Gf Cf.tab7 Cf.bits7 (fun HT_ HW_ => ?_)
                  generalize wr.drew = w12 at HB hx436_0 hx436_1 hx436_2 hx436_3 hHeld ⊢
                  refine Du (i := 0) (N := some 21) (v := ?_) (a' := ?_) #[true, false, false, false, false, false, false, false] rfl rfl (Di HT_.out (by kernel_rfl)) (fun _ _ _ h => h) (Or.inl ⟨by rfl, ?_⟩) ?_ ?_
                  rotate_left
                  · intro w'
                    go_simp
                    with_reducible rfl
                  rotate_left
                  · simp only [Act.put, List.setIfInBounds_toArray, List.set_cons_zero, List.set_cons_succ, Bz, Cb]
                    rfl
                  refine Du (i := 1) (N := some 22) (v := ?_) (a' := ?_) #[true, true, false, false, false, false, false, false] rfl rfl (Di HT_.out (by kernel_rfl)) (fun _ _ _ h => h) (Or.inl ⟨by rfl, ?_⟩) ?_ ?_
                  rotate_left
                  · intro w'
                    go_simp
                    with_reducible rfl
                  rotate_left
                  · simp only [Act.put, List.setIfInBounds_toArray, List.set_cons_zero, List.set_cons_succ, Bz, Cb]
                    rfl
                  refine Du (i := 2) (N := some 23) (v := ?_) (a' := ?_) #[true, true, true, false, false, false, false, false] rfl rfl (Di HT_.out (by kernel_rfl)) (fun _ _ _ h => h) (Or.inl ⟨by rfl, ?_⟩) ?_ ?_
                  rotate_left
                  · intro w'
                    go_simp
                    with_reducible rfl
                  rotate_left
                  · simp only [Act.put, List.setIfInBounds_toArray, List.set_cons_zero, List.set_cons_succ, Bz, Cb]
                    rfl
                  refine Du (i := 3) (N := some 24) (v := ?_) (a' := ?_) #[true, true, true, true, false, false, false, false] rfl rfl (Di HT_.out (by kernel_rfl)) (fun _ _ _ h => h) (Or.inl ⟨by rfl, ?_⟩) ?_ ?_
                  rotate_left
                  · intro w'
                    go_simp
                    with_reducible rfl
                  rotate_left
                  · simp only [Act.put, List.setIfInBounds_toArray, List.set_cons_zero, List.set_cons_succ, Bz, Cb]
                    rfl
                  refine Du (i := 5) (N := some 26) (v := ?_) (a' := ?_) #[true, true, true, true, false, true, false, false] rfl rfl (Di HT_.out (by kernel_rfl)) (fun _ _ _ h => h) (Or.inl ⟨by rfl, ?_⟩) ?_ ?_
                  rotate_left
                  · intro w'
                    go_simp
                    with_reducible rfl
                  rotate_left
                  · simp only [Act.put, List.setIfInBounds_toArray, List.set_cons_zero, List.set_cons_succ, Bz, Cb]
                    rfl
                  refine Fv (i := 4) (N := some 25) (v := ?_) (a' := ?_) #[true, true, true, true, true, true, false, false] rfl rfl (Et HT_.out HW_.out (by kernel_rfl)) (fun _ _ _ h => h) (Or.inl ⟨by rfl, ?_⟩) hHeld ?_ ?_
                  rotate_left
                  · rintro w' ⟨s0, s1, s2, s3⟩
                    go_simp
                    with_reducible rfl
                  rotate_left
                  · simp only [Act.put, List.setIfInBounds_toArray, List.set_cons_zero, List.set_cons_succ, Bz, Cb]
                    rfl
                  refine one_ (i := 6) (N := some 27) #[true, true, true, true, true, true, true, false] rfl rfl (Gg HT_.out (by kernel_rfl)) (by decide) (fun K hK => ?_)
                  refine Gn Tryd.func36 (by kernel_rfl) rfl #[.int .i64 (wrap64 (x1_1 + 1))] (by rfl) rfl rfl Yb_ ?_
                  with_reducible refine (Dp.calls k1 (wrap64 (x1_1 + 1)) t437 _ A6.out).mono ?_
                  rintro e w13 ⟨rfl, hb⟩
                  refine ⟨_, rfl, ?_⟩
                  have n0_ := Ac.mk (Au Ya_ hb)
                  clear HB
                  have HB := n0_
                  clear n0_
                  (try clear hb)
                  (try clear hb2)
                  (try clear hk)
                  (try clear hi)
                  refine hK.out _ _ ⟨((HB.out.cell (World.block_lt_of_cell? w _ hw436_0)).trans hw436_0), ((HB.out.cell (World.block_lt_of_cell? w _ hw436_1)).trans hw436_1), ((HB.out.cell (World.block_lt_of_cell? w _ hw436_2)).trans hw436_2), ((HB.out.cell (World.block_lt_of_cell? w _ hw436_3)).trans hw436_3)⟩ (fun hHeld => ?_)
                  clear hK K
                  refine Gp (a' := ?_) ?_ ?_
                  rotate_left
                  · show Act.put _ (some 27) _ = _
                    simp only [Act.put, List.setIfInBounds_toArray, List.set_cons_zero, List.set_cons_succ, Bz, Cb]
                    rfl
                  refine Du (i := 7) (N := some 28) (v := ?_) (a' := ?_) #[true, true, true, true, true, true, true, true] rfl rfl (Di HT_.out (by kernel_rfl)) (fun _ _ _ h => h) (Or.inl ⟨by rfl, ?_⟩) ?_ ?_
                  rotate_left
                  · intro w'
                    go_simp
                    with_reducible rfl
                  rotate_left
                  · simp only [Act.put, List.setIfInBounds_toArray, List.set_cons_zero, List.set_cons_succ, Bz, Cb]
                    rfl
                  refine done_ (Gv HT_.out (by kernel_rfl)) ?_
                  have p438 : 0 ≤ (x5_1 : Int) := of_decide_eq_true Yc_
                  have q438 : x5_1 < (l0.length : Int) := of_decide_eq_true Yc_
                  obtain ⟨ad438, e438, hx438_0, hx438_1, hx438_2, hx438_3⟩ := Fp HR0.out x5_1 p438 q438
                  obtain rfl : ad435 = ad438 := (by injection e438)
                  replace hx438_0 := (HB.out.cell (World.block_lt_of_cell? w _ hx438_0)).trans hx438_0
                  replace hx438_1 := (HB.out.cell (World.block_lt_of_cell? w _ hx438_1)).trans hx438_1
                  replace hx438_2 := (HB.out.cell (World.block_lt_of_cell? w _ hx438_2)).trans hx438_2
                  replace hx438_3 := (HB.out.cell (World.block_lt_of_cell? w _ hx438_3)).trans hx438_3
                  replace p438 := eq_true p438
                  replace q438 := eq_true q438
                  have p439 : 0 ≤ (x5_1 : Int) := of_decide_eq_true Yc_
                  have q439 : x5_1 < (l0.length : Int) := of_decide_eq_true Yc_
                  obtain ⟨ad439, e439, hx439_0, hx439_1, hx439_2, hx439_3⟩ := Fp HR0.out x5_1 p439 q439
                  obtain rfl : ad435 = ad439 := (by injection e439)
                  replace hx439_0 := (HB.out.cell (World.block_lt_of_cell? w _ hx439_0)).trans hx439_0
                  replace hx439_1 := (HB.out.cell (World.block_lt_of_cell? w _ hx439_1)).trans hx439_1
                  replace hx439_2 := (HB.out.cell (World.block_lt_of_cell? w _ hx439_2)).trans hx439_2
                  replace hx439_3 := (HB.out.cell (World.block_lt_of_cell? w _ hx439_3)).trans hx439_3
                  replace p439 := eq_true p439
                  replace q439 := eq_true q439
                  try go_wp2
                  go_ret
                  exact ⟨by first | rfl | (simp [Aq, Ar] <;> rfl) | (simp [*, Aq, Ar] <;> rfl), by repeat (first | (with_reducible first | exact HB.out | apply Ae | apply Aa | apply Ad) | exact HB.out)⟩
              · rw [if_neg c8] at H
                have c8b0 : (((Ak l0 x5_1).f2) == (wrap64 ((wrap64 (x1_1 + 1)) + 1))) = false := beq_eq_false_iff_ne.mpr c8
                have c8b1 : (((Ak l0 x5_1).f2) != (wrap64 ((wrap64 (x1_1 + 1)) + 1))) = true := bne_iff_ne.mpr c8
                obtain rfl := Option.some.inj H
                have p435 : 0 ≤ (x5_1 : Int) := of_decide_eq_true Yc_
                have q435 : x5_1 < (l0.length : Int) := of_decide_eq_true Yc_
                obtain ⟨ad435, e435, hx435_0, hx435_1, hx435_2, hx435_3⟩ := Fp HR0.out x5_1 p435 q435
                cases e435
                replace hx435_0 := (HB.out.cell (World.block_lt_of_cell? w _ hx435_0)).trans hx435_0
                replace hx435_1 := (HB.out.cell (World.block_lt_of_cell? w _ hx435_1)).trans hx435_1
                replace hx435_2 := (HB.out.cell (World.block_lt_of_cell? w _ hx435_2)).trans hx435_2
                replace hx435_3 := (HB.out.cell (World.block_lt_of_cell? w _ hx435_3)).trans hx435_3
                replace p435 := eq_true p435
                replace q435 := eq_true q435
                try go_wp2
                have n0_ := Ac.mk (Ad HB.out)
                clear HB
                have HB := n0_
                clear n0_
                have p436 : 0 ≤ (x5_1 : Int) := of_decide_eq_true Yc_
                have q436 : x5_1 < (l0.length : Int) := of_decide_eq_true Yc_
                obtain ⟨ad436, e436, hx436_0, hx436_1, hx436_2, hx436_3⟩ := Fp HR0.out x5_1 p436 q436
                have hw436_3 := hx436_3
                have hw436_2 := hx436_2
                have hw436_1 := hx436_1
                have hw436_0 := hx436_0
                obtain rfl : ad435 = ad436 := (by injection e436)
                replace hx436_0 := (HB.out.cell (World.block_lt_of_cell? w _ hx436_0)).trans hx436_0
                replace hx436_1 := (HB.out.cell (World.block_lt_of_cell? w _ hx436_1)).trans hx436_1
                replace hx436_2 := (HB.out.cell (World.block_lt_of_cell? w _ hx436_2)).trans hx436_2
                replace hx436_3 := (HB.out.cell (World.block_lt_of_cell? w _ hx436_3)).trans hx436_3
                replace p436 := eq_true p436
                replace q436 := eq_true q436
                refine G7 (n := 8) (S := fun w' => w'.cell? (ad435.add ((x5_1).toNat * 4)) = some (.int .i64 ((Ak l0 x5_1).f0)) ∧ w'.cell? ⟨(ad435.add ((x5_1).toNat * 4)).block, (ad435.add ((x5_1).toNat * 4)).off + 1, none⟩ = some (.string ((Ak l0 x5_1).f1)) ∧ w'.cell? ⟨(ad435.add ((x5_1).toNat * 4)).block, (ad435.add ((x5_1).toNat * 4)).off + 2, none⟩ = some (.int .i64 ((Ak l0 x5_1).f2)) ∧ w'.cell? ⟨(ad435.add ((x5_1).toNat * 4)).block, (ad435.add ((x5_1).toNat * 4)).off + 3, none⟩ = some (.int .i64 ((Ak l0 x5_1).f3))) (ds := []) #[false, false, false, false, false, false, false, false] (by kernel_rfl) rfl rfl ⟨((HB.out.cell (World.block_lt_of_cell? w _ hw436_0)).trans hw436_0), ((HB.out.cell (World.block_lt_of_cell? w _ hw436_1)).trans hw436_1), ((HB.out.cell (World.block_lt_of_cell? w _ hw436_2)).trans hw436_2), ((HB.out.cell (World.block_lt_of_cell? w _ hw436_3)).trans hw436_3)⟩ (fun hHeld => ?_); refine Gf Cf.tab7 Cf.bits7 (fun HT_ HW_ => ?_)
                generalize wr.drew = w14 at HB hx436_0 hx436_1 hx436_2 hx436_3 hHeld ⊢
                refine Du (i := 0) (N := some 21) (v := ?_) (a' := ?_) #[true, false, false, false, false, false, false, false] rfl rfl (Di HT_.out (by kernel_rfl)) (fun _ _ _ h => h) (Or.inl ⟨by rfl, ?_⟩) ?_ ?_
                rotate_left
                · intro w'
                  go_simp
                  with_reducible rfl
                rotate_left
                · simp only [Act.put, List.setIfInBounds_toArray, List.set_cons_zero, List.set_cons_succ, Bz, Cb]
                  rfl
                refine Du (i := 1) (N := some 22) (v := ?_) (a' := ?_) #[true, true, false, false, false, false, false, false] rfl rfl (Di HT_.out (by kernel_rfl)) (fun _ _ _ h => h) (Or.inl ⟨by rfl, ?_⟩) ?_ ?_
                rotate_left
                · intro w'
                  go_simp
                  with_reducible rfl
                rotate_left
                · simp only [Act.put, List.setIfInBounds_toArray, List.set_cons_zero, List.set_cons_succ, Bz, Cb]
                  rfl
                refine Du (i := 2) (N := some 23) (v := ?_) (a' := ?_) #[true, true, true, false, false, false, false, false] rfl rfl (Di HT_.out (by kernel_rfl)) (fun _ _ _ h => h) (Or.inl ⟨by rfl, ?_⟩) ?_ ?_
                rotate_left
                · intro w'
                  go_simp
                  with_reducible rfl
                rotate_left
                · simp only [Act.put, List.setIfInBounds_toArray, List.set_cons_zero, List.set_cons_succ, Bz, Cb]
                  rfl
                refine Du (i := 3) (N := some 24) (v := ?_) (a' := ?_) #[true, true, true, true, false, false, false, false] rfl rfl (Di HT_.out (by kernel_rfl)) (fun _ _ _ h => h) (Or.inl ⟨by rfl, ?_⟩) ?_ ?_
                rotate_left
                · intro w'
                  go_simp
                  with_reducible rfl
                rotate_left
                · simp only [Act.put, List.setIfInBounds_toArray, List.set_cons_zero, List.set_cons_succ, Bz, Cb]
                  rfl
                refine Du (i := 5) (N := some 26) (v := ?_) (a' := ?_) #[true, true, true, true, false, true, false, false] rfl rfl (Di HT_.out (by kernel_rfl)) (fun _ _ _ h => h) (Or.inl ⟨by rfl, ?_⟩) ?_ ?_
                rotate_left
                · intro w'
                  go_simp
                  with_reducible rfl
                rotate_left
                · simp only [Act.put, List.setIfInBounds_toArray, List.set_cons_zero, List.set_cons_succ, Bz, Cb]
                  rfl
                refine Fv (i := 4) (N := some 25) (v := ?_) (a' := ?_) #[true, true, true, true, true, true, false, false] rfl rfl (Et HT_.out HW_.out (by kernel_rfl)) (fun _ _ _ h => h) (Or.inl ⟨by rfl, ?_⟩) hHeld ?_ ?_
                rotate_left
                · rintro w' ⟨s0, s1, s2, s3⟩
                  go_simp
                  with_reducible rfl
                rotate_left
                · simp only [Act.put, List.setIfInBounds_toArray, List.set_cons_zero, List.set_cons_succ, Bz, Cb]
                  rfl
                refine one_ (i := 6) (N := some 27) #[true, true, true, true, true, true, true, false] rfl rfl (Gg HT_.out (by kernel_rfl)) (by decide) (fun K hK => ?_)
                refine Gn Tryd.func36 (by kernel_rfl) rfl #[.int .i64 (wrap64 (x1_1 + 1))] (by rfl) rfl rfl Yb_ ?_
                with_reducible refine (Dp.calls k1 (wrap64 (x1_1 + 1)) t437 _ A6.out).mono ?_
                rintro e w15 ⟨rfl, hb⟩
                refine ⟨_, rfl, ?_⟩
                have n0_ := Ac.mk (Au Ya_ hb)
                clear HB
                have HB := n0_
                clear n0_
                (try clear hb)
                (try clear hb2)
                (try clear hk)
                (try clear hi)
                refine hK.out _ _ ⟨((HB.out.cell (World.block_lt_of_cell? w _ hw436_0)).trans hw436_0), ((HB.out.cell (World.block_lt_of_cell? w _ hw436_1)).trans hw436_1), ((HB.out.cell (World.block_lt_of_cell? w _ hw436_2)).trans hw436_2), ((HB.out.cell (World.block_lt_of_cell? w _ hw436_3)).trans hw436_3)⟩ (fun hHeld => ?_)
                clear hK K
                refine Gp (a' := ?_) ?_ ?_
                rotate_left
                · show Act.put _ (some 27) _ = _
                  simp only [Act.put, List.setIfInBounds_toArray, List.set_cons_zero, List.set_cons_succ, Bz, Cb]
                  rfl
                refine Du (i := 7) (N := some 28) (v := ?_) (a' := ?_) #[true, true, true, true, true, true, true, true] rfl rfl (Di HT_.out (by kernel_rfl)) (fun _ _ _ h => h) (Or.inl ⟨by rfl, ?_⟩) ?_ ?_
                rotate_left
                · intro w'
                  go_simp
                  with_reducible rfl
                rotate_left
                · simp only [Act.put, List.setIfInBounds_toArray, List.set_cons_zero, List.set_cons_succ, Bz, Cb]
                  rfl
                refine done_ (Gv HT_.out (by kernel_rfl)) ?_
                have p438 : 0 ≤ (x5_1 : Int) := of_decide_eq_true Yc_
                have q438 : x5_1 < (l0.length : Int) := of_decide_eq_true Yc_
                obtain ⟨ad438, e438, hx438_0, hx438_1, hx438_2, hx438_3⟩ := Fp HR0.out x5_1 p438 q438
                obtain rfl : ad435 = ad438 := (by injection e438)
                replace hx438_0 := (HB.out.cell (World.block_lt_of_cell? w _ hx438_0)).trans hx438_0
                replace hx438_1 := (HB.out.cell (World.block_lt_of_cell? w _ hx438_1)).trans hx438_1
                replace hx438_2 := (HB.out.cell (World.block_lt_of_cell? w _ hx438_2)).trans hx438_2
                replace hx438_3 := (HB.out.cell (World.block_lt_of_cell? w _ hx438_3)).trans hx438_3
                replace p438 := eq_true p438
                replace q438 := eq_true q438
                try go_wp2
                go_ret
                exact ⟨by first | rfl | (simp [Aq, Ar] <;> rfl) | (simp [*, Aq, Ar] <;> rfl), by repeat (first | (with_reducible first | exact HB.out | apply Ae | apply Aa | apply Ad) | exact HB.out)⟩
            · rw [if_neg c7] at H
              have c7b0 : (((Ak l0 x5_1).f1).toList == t437.toList) = false := beq_eq_false_iff_ne.mpr c7
              have c7b1 : (((Ak l0 x5_1).f1).toList != t437.toList) = true := bne_iff_ne.mpr c7
              obtain rfl := Option.some.inj H
              have p435 : 0 ≤ (x5_1 : Int) := of_decide_eq_true Yc_
              have q435 : x5_1 < (l0.length : Int) := of_decide_eq_true Yc_
              obtain ⟨ad435, e435, hx435_0, hx435_1, hx435_2, hx435_3⟩ := Fp HR0.out x5_1 p435 q435
              cases e435
              replace hx435_0 := (HB.out.cell (World.block_lt_of_cell? w _ hx435_0)).trans hx435_0
              replace hx435_1 := (HB.out.cell (World.block_lt_of_cell? w _ hx435_1)).trans hx435_1
              replace hx435_2 := (HB.out.cell (World.block_lt_of_cell? w _ hx435_2)).trans hx435_2
              replace hx435_3 := (HB.out.cell (World.block_lt_of_cell? w _ hx435_3)).trans hx435_3
              replace p435 := eq_true p435
              replace q435 := eq_true q435
              try go_wp2
              have n0_ := Ac.mk (Ad HB.out)
              clear HB
              have HB := n0_
              clear n0_
              have p436 : 0 ≤ (x5_1 : Int) := of_decide_eq_true Yc_
              have q436 : x5_1 < (l0.length : Int) := of_decide_eq_true Yc_
              obtain ⟨ad436, e436, hx436_0, hx436_1, hx436_2, hx436_3⟩ := Fp HR0.out x5_1 p436 q436
              have hw436_3 := hx436_3
              have hw436_2 := hx436_2
              have hw436_1 := hx436_1
              have hw436_0 := hx436_0
              obtain rfl : ad435 = ad436 := (by injection e436)
              replace hx436_0 := (HB.out.cell (World.block_lt_of_cell? w _ hx436_0)).trans hx436_0
              replace hx436_1 := (HB.out.cell (World.block_lt_of_cell? w _ hx436_1)).trans hx436_1
              replace hx436_2 := (HB.out.cell (World.block_lt_of_cell? w _ hx436_2)).trans hx436_2
              replace hx436_3 := (HB.out.cell (World.block_lt_of_cell? w _ hx436_3)).trans hx436_3
              replace p436 := eq_true p436
              replace q436 := eq_true q436
              refine G7 (n := 8) (S := fun w' => w'.cell? (ad435.add ((x5_1).toNat * 4)) = some (.int .i64 ((Ak l0 x5_1).f0)) ∧ w'.cell? ⟨(ad435.add ((x5_1).toNat * 4)).block, (ad435.add ((x5_1).toNat * 4)).off + 1, none⟩ = some (.string ((Ak l0 x5_1).f1)) ∧ w'.cell? ⟨(ad435.add ((x5_1).toNat * 4)).block, (ad435.add ((x5_1).toNat * 4)).off + 2, none⟩ = some (.int .i64 ((Ak l0 x5_1).f2)) ∧ w'.cell? ⟨(ad435.add ((x5_1).toNat * 4)).block, (ad435.add ((x5_1).toNat * 4)).off + 3, none⟩ = some (.int .i64 ((Ak l0 x5_1).f3))) (ds := []) #[false, false, false, false, false, false, false, false] (by kernel_rfl) rfl rfl ⟨((HB.out.cell (World.block_lt_of_cell? w _ hw436_0)).trans hw436_0), ((HB.out.cell (World.block_lt_of_cell? w _ hw436_1)).trans hw436_1), ((HB.out.cell (World.block_lt_of_cell? w _ hw436_2)).trans hw436_2), ((HB.out.cell (World.block_lt_of_cell? w _ hw436_3)).trans hw436_3)⟩ (fun hHeld => ?_); refine Gf Cf.tab7 Cf.bits7 (fun HT_ HW_ => ?_)
              generalize wr.drew = w16 at HB hx436_0 hx436_1 hx436_2 hx436_3 hHeld ⊢
              refine Du (i := 0) (N := some 21) (v := ?_) (a' := ?_) #[true, false, false, false, false, false, false, false] rfl rfl (Di HT_.out (by kernel_rfl)) (fun _ _ _ h => h) (Or.inl ⟨by rfl, ?_⟩) ?_ ?_
              rotate_left
              · intro w'
                go_simp
                with_reducible rfl
              rotate_left
              · simp only [Act.put, List.setIfInBounds_toArray, List.set_cons_zero, List.set_cons_succ, Bz, Cb]
                rfl
              refine Du (i := 1) (N := some 22) (v := ?_) (a' := ?_) #[true, true, false, false, false, false, false, false] rfl rfl (Di HT_.out (by kernel_rfl)) (fun _ _ _ h => h) (Or.inl ⟨by rfl, ?_⟩) ?_ ?_
              rotate_left
              · intro w'
                go_simp
                with_reducible rfl
              rotate_left
              · simp only [Act.put, List.setIfInBounds_toArray, List.set_cons_zero, List.set_cons_succ, Bz, Cb]
                rfl
              refine Du (i := 2) (N := some 23) (v := ?_) (a' := ?_) #[true, true, true, false, false, false, false, false] rfl rfl (Di HT_.out (by kernel_rfl)) (fun _ _ _ h => h) (Or.inl ⟨by rfl, ?_⟩) ?_ ?_
              rotate_left
              · intro w'
                go_simp
                with_reducible rfl
              rotate_left
              · simp only [Act.put, List.setIfInBounds_toArray, List.set_cons_zero, List.set_cons_succ, Bz, Cb]
                rfl
              refine Du (i := 3) (N := some 24) (v := ?_) (a' := ?_) #[true, true, true, true, false, false, false, false] rfl rfl (Di HT_.out (by kernel_rfl)) (fun _ _ _ h => h) (Or.inl ⟨by rfl, ?_⟩) ?_ ?_
              rotate_left
              · intro w'
                go_simp
                with_reducible rfl
              rotate_left
              · simp only [Act.put, List.setIfInBounds_toArray, List.set_cons_zero, List.set_cons_succ, Bz, Cb]
                rfl
              refine Du (i := 5) (N := some 26) (v := ?_) (a' := ?_) #[true, true, true, true, false, true, false, false] rfl rfl (Di HT_.out (by kernel_rfl)) (fun _ _ _ h => h) (Or.inl ⟨by rfl, ?_⟩) ?_ ?_
              rotate_left
              · intro w'
                go_simp
                with_reducible rfl
              rotate_left
              · simp only [Act.put, List.setIfInBounds_toArray, List.set_cons_zero, List.set_cons_succ, Bz, Cb]
                rfl
              refine Fv (i := 4) (N := some 25) (v := ?_) (a' := ?_) #[true, true, true, true, true, true, false, false] rfl rfl (Et HT_.out HW_.out (by kernel_rfl)) (fun _ _ _ h => h) (Or.inl ⟨by rfl, ?_⟩) hHeld ?_ ?_
              rotate_left
              · rintro w' ⟨s0, s1, s2, s3⟩
                go_simp
                with_reducible rfl
              rotate_left
              · simp only [Act.put, List.setIfInBounds_toArray, List.set_cons_zero, List.set_cons_succ, Bz, Cb]
                rfl
              refine one_ (i := 6) (N := some 27) #[true, true, true, true, true, true, true, false] rfl rfl (Gg HT_.out (by kernel_rfl)) (by decide) (fun K hK => ?_)
              refine Gn Tryd.func36 (by kernel_rfl) rfl #[.int .i64 (wrap64 (x1_1 + 1))] (by rfl) rfl rfl Yb_ ?_
              with_reducible refine (Dp.calls k1 (wrap64 (x1_1 + 1)) t437 _ A6.out).mono ?_
              rintro e w17 ⟨rfl, hb⟩
              refine ⟨_, rfl, ?_⟩
              have n0_ := Ac.mk (Au Ya_ hb)
              clear HB
              have HB := n0_
              clear n0_
              (try clear hb)
              (try clear hb2)
              (try clear hk)
              (try clear hi)
              refine hK.out _ _ ⟨((HB.out.cell (World.block_lt_of_cell? w _ hw436_0)).trans hw436_0), ((HB.out.cell (World.block_lt_of_cell? w _ hw436_1)).trans hw436_1), ((HB.out.cell (World.block_lt_of_cell? w _ hw436_2)).trans hw436_2), ((HB.out.cell (World.block_lt_of_cell? w _ hw436_3)).trans hw436_3)⟩ (fun hHeld => ?_)
              clear hK K
              refine Gp (a' := ?_) ?_ ?_
              rotate_left
              · show Act.put _ (some 27) _ = _
                simp only [Act.put, List.setIfInBounds_toArray, List.set_cons_zero, List.set_cons_succ, Bz, Cb]
                rfl
              refine Du (i := 7) (N := some 28) (v := ?_) (a' := ?_) #[true, true, true, true, true, true, true, true] rfl rfl (Di HT_.out (by kernel_rfl)) (fun _ _ _ h => h) (Or.inl ⟨by rfl, ?_⟩) ?_ ?_
              rotate_left
              · intro w'
                go_simp
                with_reducible rfl
              rotate_left
              · simp only [Act.put, List.setIfInBounds_toArray, List.set_cons_zero, List.set_cons_succ, Bz, Cb]
                rfl
              refine done_ (Gv HT_.out (by kernel_rfl)) ?_
              try go_wp2
              go_ret
              exact ⟨by first | rfl | (simp [Aq, Ar] <;> rfl) | (simp [*, Aq, Ar] <;> rfl), by repeat (first | (with_reducible first | exact HB.out | apply Ae | apply Aa | apply Ad) | exact HB.out)⟩
          · rw [if_neg c5] at H
            have c5b0 : (((Ak l0 x5_1).f0) == x1_1) = false := beq_eq_false_iff_ne.mpr c5
            have c5b1 : (((Ak l0 x5_1).f0) != x1_1) = true := bne_iff_ne.mpr c5
            obtain rfl := Option.some.inj H
            have p435 : 0 ≤ (x5_1 : Int) := of_decide_eq_true Yc_
            have q435 : x5_1 < (l0.length : Int) := of_decide_eq_true Yc_
            obtain ⟨ad435, e435, hx435_0, hx435_1, hx435_2, hx435_3⟩ := Fp HR0.out x5_1 p435 q435
            cases e435
            replace hx435_0 := (HB.out.cell (World.block_lt_of_cell? w _ hx435_0)).trans hx435_0
            replace hx435_1 := (HB.out.cell (World.block_lt_of_cell? w _ hx435_1)).trans hx435_1
            replace hx435_2 := (HB.out.cell (World.block_lt_of_cell? w _ hx435_2)).trans hx435_2
            replace hx435_3 := (HB.out.cell (World.block_lt_of_cell? w _ hx435_3)).trans hx435_3
            replace p435 := eq_true p435
            replace q435 := eq_true q435
            go_wp2
            go_ret
            exact ⟨by first | rfl | (simp [Aq, Ar] <;> rfl) | (simp [*, Aq, Ar] <;> rfl), by repeat (first | (with_reducible first | exact HB.out | apply Ae | apply Aa | apply Ad) | exact HB.out)⟩
        · rw [if_neg c4] at H
          exact absurd H (by simp)
      · rw [if_neg c3] at H
        have c3b0 : decide (x5_1 < (l0.length : Int)) = false := decide_eq_false c3
        clear c3
        obtain rfl := Option.some.inj H
        go_wp2
        go_ret
        exact ⟨by first | rfl | (simp [Aq, Ar] <;> rfl) | (simp [*, Aq, Ar] <;> rfl), by repeat (first | (with_reducible first | exact HB.out | apply Ae | apply Aa | apply Ad) | exact HB.out)⟩
end Go.Proofs.YtghnljoaklmakaaDoor.X

namespace Go.Proofs.YtghnljoaklmakaaDoor.X
open Go.RowKit Go.Proofs.YtghnljoaklmakaaDoorW.PrintWords Go.Proofs.YtghnljoaklmakaaDoorW.PrintLast Go.Proofs.YtghnljoaklmakaaDoorW.PrintMore
attribute [local go_sem] Ea Eb Eh Eg Dz D5 Ec D9
open Go.Proofs.YtghnljoaklmakaaDoorG
mutual
def Bd.j0 : Nat → ByteArray → List (S27) → Bool → List (S27) → Bool → Option (Bool)
  | 0, _, _, _, _, _ => none
  | k + 1, x0, x3, x4, x5, x32 => if x32 = true then (some false) else ((Dq.f k x5 1).bind fun bt449 => ((Cf.f k bt449.2 1).bind fun t451 => (if t451 < 0 then (some false) else (if t451 = bt449.1 then ((Bi.f k x0).bind fun bt452 => ((Cm.f k bt452.1 x3).bind fun t456 => (if t456 = true then (Bd.j1 k bt449.2 bt449.1 (bt452.2 != x4)) else (Bd.j1 k bt449.2 bt449.1 true)))) else (some false)))))
def Bd.j1 : Nat → List (S27) → Int → Bool → Option (Bool)
  | 0, _, _, _ => none
  | k + 1, x5, x7, x57 => if x57 = true then (some false) else ((Cf.f k x5 1).bind fun t457 => (if t457 < 0 then (some false) else (if t457 = x7 then (some true) else (some false))))
end
def Bd.f (k : Nat) (a0 : ByteArray) : Option (Bool) := if (a0.size : Int) > 1048576 then (some true) else ((Be.f k a0).bind fun bt440 => ((Bi.f k a0).bind fun bt444 => ((Cm.f k bt444.1 bt440.1).bind fun t448 => (if t448 = true then (Bd.j0 k a0 bt440.1 bt440.2 bt444.1 (bt444.2 != bt440.2)) else (Bd.j0 k a0 bt440.1 bt440.2 bt444.1 true)))))
theorem Bd.Ed : ∀ k, (∀ y0 y1 y2 y3 y4, LeO (Bd.j0 k y0 y1 y2 y3 y4) (Bd.j0 (k + 1) y0 y1 y2 y3 y4)) ∧ (∀ y0 y1 y2, LeO (Bd.j1 k y0 y1 y2) (Bd.j1 (k + 1) y0 y1 y2))
  | 0 => ⟨fun _ _ _ _ _ r h => by simp [Bd.j0] at h, fun _ _ _ r h => by simp [Bd.j1] at h⟩
  | k + 1 => by
    obtain ⟨ih0, ih1⟩ := Bd.Ed k
    refine ⟨?_, ?_⟩
    · intro y0 y1 y2 y3 y4
      unfold Bd.j0
      repeat' first
      | (with_reducible exact ih0 _ _ _ _ _)
      | (with_reducible exact ih1 _ _ _)
      | (with_reducible exact Bi.mono _ _)
      | (with_reducible exact Cm.mono _ _ _)
      | (with_reducible exact Cf.mono _ _ _)
      | (with_reducible exact Dq.mono _ _ _)
      | (with_reducible exact Be.mono _ _)
      | (with_reducible exact LeO.refl _)
      | (with_reducible exact LeO.none _)
      | (with_reducible refine LeO.ite ?_ ?_)
      | (with_reducible refine LeO.bind ?_ (fun _ => ?_))
      | exact ih0 _ _ _ _ _
      | exact ih1 _ _ _
      | exact Bi.mono _ _
      | exact Cm.mono _ _ _
      | exact Cf.mono _ _ _
      | exact Dq.mono _ _ _
      | exact Be.mono _ _
      | exact LeO.none _
      | refine LeO.ite ?_ ?_
      | refine LeO.bind ?_ (fun _ => ?_)
    · intro y0 y1 y2
      unfold Bd.j1
      repeat' first
      | (with_reducible exact ih0 _ _ _ _ _)
      | (with_reducible exact ih1 _ _ _)
      | (with_reducible exact Bi.mono _ _)
      | (with_reducible exact Cm.mono _ _ _)
      | (with_reducible exact Cf.mono _ _ _)
      | (with_reducible exact Dq.mono _ _ _)
      | (with_reducible exact Be.mono _ _)
      | (with_reducible exact LeO.refl _)
      | (with_reducible exact LeO.none _)
      | (with_reducible refine LeO.ite ?_ ?_)
      | (with_reducible refine LeO.bind ?_ (fun _ => ?_))
      | exact ih0 _ _ _ _ _
      | exact ih1 _ _ _
      | exact Bi.mono _ _
      | exact Cm.mono _ _ _
      | exact Cf.mono _ _ _
      | exact Dq.mono _ _ _
      | exact Be.mono _ _
      | exact LeO.none _
      | refine LeO.ite ?_ ?_
      | refine LeO.bind ?_ (fun _ => ?_)
theorem Bd.mono : ∀ a0 k, LeO (Bd.f k a0) (Bd.f (k + 1) a0) := by
  intro a0 k
  obtain ⟨ih0, ih1⟩ := Bd.Ed k
  unfold Bd.f
  repeat' first
      | (with_reducible exact ih0 _ _ _ _ _)
      | (with_reducible exact ih1 _ _ _)
      | (with_reducible exact Bi.mono _ _)
      | (with_reducible exact Cm.mono _ _ _)
      | (with_reducible exact Cf.mono _ _ _)
      | (with_reducible exact Dq.mono _ _ _)
      | (with_reducible exact Be.mono _ _)
      | (with_reducible exact LeO.refl _)
      | (with_reducible exact LeO.none _)
      | (with_reducible refine LeO.ite ?_ ?_)
      | (with_reducible refine LeO.bind ?_ (fun _ => ?_))
      | exact ih0 _ _ _ _ _
      | exact ih1 _ _ _
      | exact Bi.mono _ _
      | exact Cm.mono _ _ _
      | exact Cf.mono _ _ _
      | exact Dq.mono _ _ _
      | exact Be.mono _ _
      | exact LeO.none _
      | refine LeO.ite ?_ ?_
      | refine LeO.bind ?_ (fun _ => ?_)
set_option maxHeartbeats 8000000 in
set_option maxRecDepth 100000 in
theorem Bd.calls (k : Nat) (a0 : ByteArray) (r : Bool) (w : World) (hG : Eo w) (h : Bd.f k a0 = some r) (hr_ : r = true) :
    Calls Tryd.prog 6 #[.string a0] w fun e w' => e = .returned (.bool r) ∧ Below w.heap.size w w' := by
  have HR_ := Ac.mk hr_
  clear hr_
  have HGL := Ac.mk hG
  clear hG
  have HB := Ac.mk (Below.refl w.heap.size w)
  have H : (if (a0.size : Int) > 1048576 then (some true) else ((Be.f k a0).bind fun bt440 => ((Bi.f k a0).bind fun bt444 => ((Cm.f k bt444.1 bt440.1).bind fun t448 => (if t448 = true then (Bd.j0 k a0 bt440.1 bt440.2 bt444.1 (bt444.2 != bt440.2)) else (Bd.j0 k a0 bt440.1 bt440.2 bt444.1 true)))))) = some r := h
  clear h
  by_cases c2 : (a0.size : Int) > 1048576
  · rw [if_pos c2] at H
    have c2b0 : decide (1048576 < (a0.size : Int)) = true := decide_eq_true c2
    have c2b1 : decide (1048576 < a0.size) = true := decide_eq_true (by omega)
    clear c2
    obtain rfl := Option.some.inj H
    go_enter Tryd.func6, Tryd.ntmps6
    go_wp2
    go_ret
    exact ⟨by first | rfl | (simp [Aq, Ar] <;> rfl) | (simp [*, Aq, Ar] <;> rfl), by repeat (first | (with_reducible first | exact HB.out | apply Ae | apply Aa | apply Ad) | exact HB.out)⟩
  · rw [if_neg c2] at H
    have c2b0 : decide (1048576 < (a0.size : Int)) = false := decide_eq_false c2
    have c2b1 : decide (1048576 < a0.size) = false := decide_eq_false (by omega)
    clear c2
    replace H := Option.bind_eq_some_iff.mp H
    obtain ⟨⟨t440, t441⟩, A30, H⟩ := H
    replace H : ((Bi.f k a0).bind fun bt444 => ((Cm.f k bt444.1 t440).bind fun t448 => (if t448 = true then (Bd.j0 k a0 t440 t441 bt444.1 (bt444.2 != t441)) else (Bd.j0 k a0 t440 t441 bt444.1 true)))) = some r := H
    have A3 := Ac.mk A30
    clear A30
    replace H := Option.bind_eq_some_iff.mp H
    obtain ⟨⟨t444, t445⟩, A40, H⟩ := H
    replace H : ((Cm.f k t444 t440).bind fun t448 => (if t448 = true then (Bd.j0 k a0 t440 t441 t444 (t445 != t441)) else (Bd.j0 k a0 t440 t441 t444 true))) = some r := H
    have A4 := Ac.mk A40
    clear A40
    have HC5 := Ac.mk H
    clear H
    go_enter Tryd.func6, Tryd.ntmps6
    go_upto_region 5 with (first | ((with_reducible refine Aw (f := 19) rfl ?_); refine Bj (some 16) rfl rfl Tryd.func19 (by kernel_rfl) rfl #[.string a0] rfl Yb_ ?_; (with_reducible refine (Be.calls k a0 t440 t441 _ A3.out).mono ?_); rintro e w6 ⟨v442, rfl, ho0, hb⟩; refine ⟨_, rfl, ?_⟩; have n0_ := Ac.mk (Kd.F6 ho0 (Az Ya_)); have n1_ := Ac.mk (Au Ya_ hb); clear HB; have HO443 := n0_; have HB := n1_; clear n0_ n1_; (try clear hb); (try clear hb2); (try clear hk); (try clear hi); (try clear ho0)) | ((with_reducible refine Aw (f := 20) rfl ?_); refine Bj (some 21) rfl rfl Tryd.func20 (by kernel_rfl) rfl #[.string a0] rfl Yb_ ?_; (with_reducible refine (Bi.calls k a0 t444 t445 _ ?side1 A4.out).mono ?_); (case side1 => exact Eo.below HGL.out Ya_); rintro e w7 ⟨v446, rfl, ho0, hb⟩; refine ⟨_, rfl, ?_⟩; have n0_ := Ac.mk (Kd.Hr Ycf_ (Kd.R_base ho0) hb); have n1_ := Ac.mk (Kd.F6 (Kd.R_new' ho0 (Kd.R_lt Ycf_)) (Az Ya_)); have n2_ := Ac.mk (Au Ya_ hb); clear HO443; clear HB; have HO443 := n0_; have HO447 := n1_; have HB := n2_; clear n0_ n1_ n2_; (try clear hb); (try clear hb2); (try clear hk); (try clear hi); (try clear ho0)))
    (try simp only [Act.put, List.setIfInBounds_toArray, List.set_cons_zero, List.set_cons_succ])
    go_cut [32] (fun v32 wc => ∃ (kq : Nat) (x32_4 : Bool), v32 = .bool x32_4 ∧ Ac (Bd.j0 kq a0 t440 t441 t444 x32_4 = some r) ∧ Ac (kq ≤ k) ∧ Ac (Kd.R k27 27 wc w.heap.size (fun k_ => some k_ ≠ (v446 : Value).ownBlock) v442 t440) ∧ Ac (Kd.R k27 27 wc w.heap.size (fun k_ => some k_ ≠ (v442 : Value).ownBlock) v446 t444) ∧ Ac (Below w.heap.size w wc))
    case first =>
      have H := HC5.out
      clear HC5
      replace H := Option.bind_eq_some_iff.mp H
      obtain ⟨t448, A80, H⟩ := H
      replace H : (if t448 = true then (Bd.j0 k a0 t440 t441 t444 (t445 != t441)) else (Bd.j0 k a0 t440 t441 t444 true)) = some r := H
      have A8 := Ac.mk A80
      clear A80
      by_cases c9 : t448 = true
      · subst c9
        have H1 : (Bd.j0 k a0 t440 t441 t444 (t445 != t441)) = some r := by rw [if_pos rfl] at H; exact H
        clear H
        have H := H1
        clear H1
        have H' := Ac.mk H
        clear H
        obtain ⟨Ao10, co10, eo10⟩ := Kd.Ff HO447.out
        subst eo10
        obtain ⟨Ao11, co11, eo11⟩ := Kd.Ff HO443.out
        subst eo11
        go_wp2_with (first | ((with_reducible refine Aw (f := 15) rfl ?_); refine Bj (some 26) rfl rfl Tryd.func15 (by kernel_rfl) rfl #[.slice Ao10 t444.length co10, .slice Ao11 t440.length co11] rfl Yb_ ?_; (with_reducible refine (Cm.calls k _ _ t444 _ _ t440 true _ ?side1 ?side2 ?side3 ?side4 A8.out).mono ?_); (case side1 => repeat (first | exact (Kd.Dv HO447.out).2.2 | (with_reducible refine Kd.Fz ?_ _) | (with_reducible refine Kd.F5 ?_ _) | (with_reducible refine Kd.Gj ?_))); (case side2 => exact (Kd.Dv HO447.out).2.1); (case side3 => repeat (first | exact (Kd.Dv HO443.out).2.2 | (with_reducible refine Kd.Fz ?_ _) | (with_reducible refine Kd.F5 ?_ _) | (with_reducible refine Kd.Gj ?_))); (case side4 => exact (Kd.Dv HO443.out).2.1); rintro e w12 ⟨rfl, hb⟩; refine ⟨_, rfl, ?_⟩; have n0_ := Ac.mk (Kd.D6 Ycf_ hb); have n1_ := Ac.mk (Kd.D6 (by (with_reducible repeat (first | apply Kd.Bg | apply Kd.Bh | apply Kd.Bl)); exact HO447.out) hb); have n2_ := Ac.mk (Au Ya_ hb); clear HO443; clear HO447; clear HB; have HO443 := n0_; have HO447 := n1_; have HB := n2_; clear n0_ n1_ n2_; (try clear hb); (try clear hb2); (try clear hk); (try clear hi)))
        go_meet
        case rel => exact ⟨_, ((t445 != t441)), Yf_, H', ⟨by first | omega | exact Nat.le_refl _⟩, ⟨by (with_reducible repeat (first | apply Kd.Bg | apply Kd.Bh | apply Kd.Bl)); exact Kd.R_mono HO443.out (fun _ hk => hk.2)⟩, ⟨by (with_reducible repeat (first | apply Kd.Bg | apply Kd.Bh | apply Kd.Bl)); exact Kd.R_mono HO447.out (fun _ hk => hk.2)⟩, ⟨by repeat (first | (with_reducible first | exact HB.out | apply Ae | apply Aa | apply Ad) | exact HB.out)⟩⟩
      · replace c9 := Bool.eq_false_iff.mpr c9
        subst c9
        have H1 : (Bd.j0 k a0 t440 t441 t444 true) = some r := by rw [if_neg (show ¬ (false = true) by decide)] at H; exact H
        clear H
        have H := H1
        clear H1
        have H' := Ac.mk H
        clear H
        obtain ⟨Ao13, co13, eo13⟩ := Kd.Ff HO447.out
        subst eo13
        obtain ⟨Ao14, co14, eo14⟩ := Kd.Ff HO443.out
        subst eo14
        go_wp2_with (first | ((with_reducible refine Aw (f := 15) rfl ?_); refine Bj (some 26) rfl rfl Tryd.func15 (by kernel_rfl) rfl #[.slice Ao13 t444.length co13, .slice Ao14 t440.length co14] rfl Yb_ ?_; (with_reducible refine (Cm.calls k _ _ t444 _ _ t440 false _ ?side1 ?side2 ?side3 ?side4 A8.out).mono ?_); (case side1 => repeat (first | exact (Kd.Dv HO447.out).2.2 | (with_reducible refine Kd.Fz ?_ _) | (with_reducible refine Kd.F5 ?_ _) | (with_reducible refine Kd.Gj ?_))); (case side2 => exact (Kd.Dv HO447.out).2.1); (case side3 => repeat (first | exact (Kd.Dv HO443.out).2.2 | (with_reducible refine Kd.Fz ?_ _) | (with_reducible refine Kd.F5 ?_ _) | (with_reducible refine Kd.Gj ?_))); (case side4 => exact (Kd.Dv HO443.out).2.1); rintro e w15 ⟨rfl, hb⟩; refine ⟨_, rfl, ?_⟩; have n0_ := Ac.mk (Kd.D6 Ycf_ hb); have n1_ := Ac.mk (Kd.D6 (by (with_reducible repeat (first | apply Kd.Bg | apply Kd.Bh | apply Kd.Bl)); exact HO447.out) hb); have n2_ := Ac.mk (Au Ya_ hb); clear HO443; clear HO447; clear HB; have HO443 := n0_; have HO447 := n1_; have HB := n2_; clear n0_ n1_ n2_; (try clear hb); (try clear hb2); (try clear hk); (try clear hi)))
        go_meet
        case rel => exact ⟨_, (true), Yf_, H', ⟨by first | omega | exact Nat.le_refl _⟩, ⟨by (with_reducible repeat (first | apply Kd.Bg | apply Kd.Bh | apply Kd.Bl)); exact Kd.R_mono HO443.out (fun _ hk => hk.2)⟩, ⟨by (with_reducible repeat (first | apply Kd.Bg | apply Kd.Bh | apply Kd.Bl)); exact Kd.R_mono HO447.out (fun _ hk => hk.2)⟩, ⟨by repeat (first | (with_reducible first | exact HB.out | apply Ae | apply Aa | apply Ad) | exact HB.out)⟩⟩
    case rest =>
      clear HC5
      try clear c1
      try clear c2
      try clear c2b0
      try clear c2b1
      try clear p2
      try clear c6
      try clear c9
      try clear c15
      obtain ⟨kq, x32_4, rfl, HA, HJ4, HO_3, HO_5, HB⟩ := hcut
      cases kq with
      | zero => exact absurd HA.out (by simp [Bd.j0])
      | succ kj4 =>
        have H := HA.out
        clear HA
        simp only [Bd.j0] at H
        by_cases c16 : x32_4 = true
        · subst c16
          have H1 : (some false) = some r := by rw [if_pos rfl] at H; exact H
          clear H
          have H := H1
          clear H1
          exact absurd (Option.some.inj H) (by rw [HR_.out]; decide)
        · replace c16 := Bool.eq_false_iff.mpr c16
          subst c16
          have H1 : ((Dq.f kj4 t444 1).bind fun bt449 => ((Cf.f kj4 bt449.2 1).bind fun t451 => (if t451 < 0 then (some false) else (if t451 = bt449.1 then ((Bi.f kj4 a0).bind fun bt452 => ((Cm.f kj4 bt452.1 t440).bind fun t456 => (if t456 = true then (Bd.j1 kj4 bt449.2 bt449.1 (bt452.2 != t441)) else (Bd.j1 kj4 bt449.2 bt449.1 true)))) else (some false))))) = some r := by rw [if_neg (show ¬ (false = true) by decide)] at H; exact H
          clear H
          have H := H1
          clear H1
          replace H := Option.bind_eq_some_iff.mp H
          obtain ⟨⟨t449, t450⟩, A170, H⟩ := H
          replace H : ((Cf.f kj4 t450 1).bind fun t451 => (if t451 < 0 then (some false) else (if t451 = t449 then ((Bi.f kj4 a0).bind fun bt452 => ((Cm.f kj4 bt452.1 t440).bind fun t456 => (if t456 = true then (Bd.j1 kj4 t450 t449 (bt452.2 != t441)) else (Bd.j1 kj4 t450 t449 true)))) else (some false)))) = some r := H
          have A17 := Ac.mk A170
          clear A170
          replace H := Option.bind_eq_some_iff.mp H
          obtain ⟨t451, A180, H⟩ := H
          replace H : (if t451 < 0 then (some false) else (if t451 = t449 then ((Bi.f kj4 a0).bind fun bt452 => ((Cm.f kj4 bt452.1 t440).bind fun t456 => (if t456 = true then (Bd.j1 kj4 t450 t449 (bt452.2 != t441)) else (Bd.j1 kj4 t450 t449 true)))) else (some false))) = some r := H
          have A18 := Ac.mk A180
          clear A180
          by_cases c19 : t451 < 0
          · rw [if_pos c19] at H
            have c19b0 : decide (t451 < 0) = true := decide_eq_true c19
            clear c19
            exact absurd (Option.some.inj H) (by rw [HR_.out]; decide)
          · rw [if_neg c19] at H
            have c19b0 : decide (t451 < 0) = false := decide_eq_false c19
            clear c19
            by_cases c23 : t451 = t449
            · rw [if_pos c23] at H
              have c23b0 : (t451 == t449) = true := beq_iff_eq.mpr c23
              have c23b1 : (t451 != t449) = false := bne_eq_false_iff_eq.mpr c23
              clear c23
              replace H := Option.bind_eq_some_iff.mp H
              obtain ⟨⟨t452, t453⟩, A240, H⟩ := H
              replace H : ((Cm.f kj4 t452 t440).bind fun t456 => (if t456 = true then (Bd.j1 kj4 t450 t449 (t453 != t441)) else (Bd.j1 kj4 t450 t449 true))) = some r := H
              have A24 := Ac.mk A240
              clear A240
              have HC25 := Ac.mk H
              clear H
              obtain ⟨Ao26, co26, eo26⟩ := Kd.Ff HO_5.out
              subst eo26
              go_upto_region 16 with (first | ((with_reducible refine Aw (f := 21) rfl ?_); refine Bj (some 35) rfl rfl Tryd.func21 (by kernel_rfl) rfl #[.slice Ao26 t444.length co26, .int .i64 1] rfl Yb_ ?_; (with_reducible refine (Dq.calls kj4 (fun k_ => some k_ = (.slice Ao26 t444.length co26 : Value).ownBlock) (.slice Ao26 t444.length co26) t444 1 t449 t450 w _ ?side1 ?side2 A17.out).mono ?_); (case side1 => repeat (first | (with_reducible first | exact HB.out | apply Ae | apply Aa | apply Ad) | exact HB.out)); (case side2 => exact Kd.R_tight rfl HO_5.out); rintro e w27 ⟨rfl, hy0, hb, hkp⟩; refine ⟨_, rfl, ?_⟩; have n0_ := Ac.mk (Kd.R_mono (ok' := fun k_ => some k_ ≠ (.slice Ao26 t444.length co26 : Value).ownBlock) (Kd.R_keptB (HO_3.out) hkp (fun k_ hk_ hs_ => (hk_) hs_)) (fun k_ hk_ => hk_.1)); have n1_ := Ac.mk (Kd.R_reok rfl hy0 (fun k_ e_ => HO_5.out.1 k_ e_)); have n2_ := Ac.mk (hb); clear HO_3; clear HO_5; clear HB; have HO_3 := n0_; have HO_5 := n1_; have HB := n2_; clear n0_ n1_ n2_; (try clear hb); (try clear hkp); (try clear hy0)) | ((with_reducible refine Aw (f := 22) rfl ?_); refine Bj (some 38) rfl rfl Tryd.func22 (by kernel_rfl) rfl #[.slice Ao26 t450.length co26, .int .i64 1] rfl (by (try simp only [List.map_toArray, List.map_cons, List.map_nil]); first | done | (rw [show t450.length = t444.length from (Kd.Dv HO_5.out).1.symm] <;> rfl) | rfl | (simp only [List.length_drop, List.length_take]; rfl)) ?_; (with_reducible refine (Cf.calls kj4 _ _ t450 1 t451 _ ?side1 ?side2 A18.out).mono ?_); (case side1 => repeat (first | exact (Kd.Dv HO_5.out).2.2 | (with_reducible refine Kd.Fz ?_ _) | (with_reducible refine Kd.F5 ?_ _) | (with_reducible refine Kd.Gj ?_))); (case side2 => rw [show t450.length = t444.length from (Kd.Dv HO_5.out).1.symm]; exact (Kd.Dv HO_5.out).2.1); rintro e w28 ⟨rfl, hb⟩; refine ⟨_, rfl, ?_⟩; have n0_ := Ac.mk (Kd.D6 Ybf_ hb); have n1_ := Ac.mk (Kd.D6 Ycc_ hb); have n2_ := Ac.mk (Au Ya_ hb); clear HO_3; clear HO_5; clear HB; have HO_3 := n0_; have HO_5 := n1_; have HB := n2_; clear n0_ n1_ n2_; (try clear hb); (try clear hb2); (try clear hk); (try clear hi)) | ((with_reducible refine Aw (f := 20) rfl ?_); refine Bj (some 46) rfl rfl Tryd.func20 (by kernel_rfl) rfl #[.string a0] rfl Yb_ ?_; (with_reducible refine (Bi.calls kj4 a0 t452 t453 _ ?side1 A24.out).mono ?_); (case side1 => exact Eo.below HGL.out Ya_); rintro e w29 ⟨v454, rfl, ho0, hb⟩; refine ⟨_, rfl, ?_⟩; have n0_ := Ac.mk (Kd.Hr Ybf_ (Kd.R_base ho0) hb); have n1_ := Ac.mk (Kd.Hr Ycc_ (Kd.R_base ho0) hb); have n2_ := Ac.mk (Kd.F6 (Kd.R_new' (Kd.R_new' ho0 (Kd.R_lt Ybf_)) (Kd.R_lt Ycc_)) (Az Ya_)); have n3_ := Ac.mk (Au Ya_ hb); clear HO_3; clear HO_5; clear HB; have HO_3 := n0_; have HO_5 := n1_; have HO455 := n2_; have HB := n3_; clear n0_ n1_ n2_ n3_; (try clear hb); (try clear hb2); (try clear hk); (try clear hi); (try clear ho0)))
              (try simp only [Act.put, List.setIfInBounds_toArray, List.set_cons_zero, List.set_cons_succ])
              go_cut [57] (fun v57 wc => ∃ (kq : Nat) (x57_24 : Bool), v57 = .bool x57_24 ∧ Ac (Bd.j1 kq t450 t449 x57_24 = some r) ∧ Ac (kq ≤ kj4) ∧ Ac (Kd.R k27 27 wc w.heap.size (fun _ => True) (.slice Ao26 t444.length co26) t450) ∧ Ac (Below w.heap.size w wc))
              case first =>
                have H := HC25.out
                clear HC25
                replace H := Option.bind_eq_some_iff.mp H
                obtain ⟨t456, A300, H⟩ := H
                replace H : (if t456 = true then (Bd.j1 kj4 t450 t449 (t453 != t441)) else (Bd.j1 kj4 t450 t449 true)) = some r := H
                have A30 := Ac.mk A300
                clear A300
                by_cases c31 : t456 = true
                · subst c31
                  have H1 : (Bd.j1 kj4 t450 t449 (t453 != t441)) = some r := by rw [if_pos rfl] at H; exact H
                  clear H
                  have H := H1
                  clear H1
                  have H' := Ac.mk H
                  clear H
                  obtain ⟨Ao32, co32, eo32⟩ := Kd.Ff HO455.out
                  subst eo32
                  obtain ⟨Ao33, co33, eo33⟩ := Kd.Ff HO_3.out
                  subst eo33
                  go_wp2_with (first | ((with_reducible refine Aw (f := 15) rfl ?_); refine Bj (some 51) rfl rfl Tryd.func15 (by kernel_rfl) rfl #[.slice Ao32 t452.length co32, .slice Ao33 t440.length co33] rfl Yb_ ?_; (with_reducible refine (Cm.calls kj4 _ _ t452 _ _ t440 true _ ?side1 ?side2 ?side3 ?side4 A30.out).mono ?_); (case side1 => repeat (first | exact (Kd.Dv HO455.out).2.2 | (with_reducible refine Kd.Fz ?_ _) | (with_reducible refine Kd.F5 ?_ _) | (with_reducible refine Kd.Gj ?_))); (case side2 => exact (Kd.Dv HO455.out).2.1); (case side3 => repeat (first | exact (Kd.Dv HO_3.out).2.2 | (with_reducible refine Kd.Fz ?_ _) | (with_reducible refine Kd.F5 ?_ _) | (with_reducible refine Kd.Gj ?_))); (case side4 => exact (Kd.Dv HO_3.out).2.1); rintro e w34 ⟨rfl, hb⟩; refine ⟨_, rfl, ?_⟩; have n0_ := Ac.mk (Kd.D6 Ybf_ hb); have n1_ := Ac.mk (Kd.D6 Ycc_ hb); have n2_ := Ac.mk (Kd.D6 (by (with_reducible repeat (first | apply Kd.Bg | apply Kd.Bh | apply Kd.Bl)); exact HO455.out) hb); have n3_ := Ac.mk (Au Ya_ hb); clear HO_3; clear HO_5; clear HO455; clear HB; have HO_3 := n0_; have HO_5 := n1_; have HO455 := n2_; have HB := n3_; clear n0_ n1_ n2_ n3_; (try clear hb); (try clear hb2); (try clear hk); (try clear hi)))
                  go_meet
                  case rel => exact ⟨_, ((t453 != t441)), Yf_, H', ⟨by have := HJ4.out; first | omega | exact Nat.le_refl _⟩, ⟨by (with_reducible repeat (first | apply Kd.Bg | apply Kd.Bh | apply Kd.Bl)); exact Kd.R_mono HO_5.out (fun _ hk => trivial)⟩, ⟨by repeat (first | (with_reducible first | exact HB.out | apply Ae | apply Aa | apply Ad) | exact HB.out)⟩⟩
                · replace c31 := Bool.eq_false_iff.mpr c31
                  subst c31
                  have H1 : (Bd.j1 kj4 t450 t449 true) = some r := by rw [if_neg (show ¬ (false = true) by decide)] at H; exact H
                  clear H
                  have H := H1
                  clear H1
                  have H' := Ac.mk H
                  clear H
                  obtain ⟨Ao35, co35, eo35⟩ := Kd.Ff HO455.out
                  subst eo35
                  obtain ⟨Ao36, co36, eo36⟩ := Kd.Ff HO_3.out
                  subst eo36
                  go_wp2_with (first | ((with_reducible refine Aw (f := 15) rfl ?_); refine Bj (some 51) rfl rfl Tryd.func15 (by kernel_rfl) rfl #[.slice Ao35 t452.length co35, .slice Ao36 t440.length co36] rfl Yb_ ?_; (with_reducible refine (Cm.calls kj4 _ _ t452 _ _ t440 false _ ?side1 ?side2 ?side3 ?side4 A30.out).mono ?_); (case side1 => repeat (first | exact (Kd.Dv HO455.out).2.2 | (with_reducible refine Kd.Fz ?_ _) | (with_reducible refine Kd.F5 ?_ _) | (with_reducible refine Kd.Gj ?_))); (case side2 => exact (Kd.Dv HO455.out).2.1); (case side3 => repeat (first | exact (Kd.Dv HO_3.out).2.2 | (with_reducible refine Kd.Fz ?_ _) | (with_reducible refine Kd.F5 ?_ _) | (with_reducible refine Kd.Gj ?_))); (case side4 => exact (Kd.Dv HO_3.out).2.1); rintro e w37 ⟨rfl, hb⟩; refine ⟨_, rfl, ?_⟩; have n0_ := Ac.mk (Kd.D6 Ybf_ hb); have n1_ := Ac.mk (Kd.D6 Ycc_ hb); have n2_ := Ac.mk (Kd.D6 (by (with_reducible repeat (first | apply Kd.Bg | apply Kd.Bh | apply Kd.Bl)); exact HO455.out) hb); have n3_ := Ac.mk (Au Ya_ hb); clear HO_3; clear HO_5; clear HO455; clear HB; have HO_3 := n0_; have HO_5 := n1_; have HO455 := n2_; have HB := n3_; clear n0_ n1_ n2_ n3_; (try clear hb); (try clear hb2); (try clear hk); (try clear hi)))
                  go_meet
                  case rel => exact ⟨_, (true), Yf_, H', ⟨by have := HJ4.out; first | omega | exact Nat.le_refl _⟩, ⟨by (with_reducible repeat (first | apply Kd.Bg | apply Kd.Bh | apply Kd.Bl)); exact Kd.R_mono HO_5.out (fun _ hk => trivial)⟩, ⟨by repeat (first | (with_reducible first | exact HB.out | apply Ae | apply Aa | apply Ad) | exact HB.out)⟩⟩
              case rest =>
                clear HC25
                try clear c1
                try clear c2
                try clear c2b0
                try clear c2b1
                try clear p2
                try clear c3
                try clear c6
                try clear c9
                try clear c15
                try clear c16
                try clear c19
                try clear c19b0
                try clear c20
                try clear c21
                try clear c22
                try clear c23
                try clear c23b0
                try clear c23b1
                try clear c31
                try clear p2
                obtain ⟨kq, x57_24, rfl, HA, HJ24, HO_5, HB⟩ := hcut
                have hl5_24 := (Kd.Dv HO_5.out).1
                rw [hl5_24] at HO_5
                (try simp only [hl5_24])
                cases kq with
                | zero => exact absurd HA.out (by simp [Bd.j1])
                | succ kj24 =>
                  have H := HA.out
                  clear HA
                  simp only [Bd.j1] at H
                  by_cases c38 : x57_24 = true
                  · subst c38
                    have H1 : (some false) = some r := by rw [if_pos rfl] at H; exact H
                    clear H
                    have H := H1
                    clear H1
                    exact absurd (Option.some.inj H) (by rw [HR_.out]; decide)
                  · replace c38 := Bool.eq_false_iff.mpr c38
                    subst c38
                    have H1 : ((Cf.f kj24 t450 1).bind fun t457 => (if t457 < 0 then (some false) else (if t457 = t449 then (some true) else (some false)))) = some r := by rw [if_neg (show ¬ (false = true) by decide)] at H; exact H
                    clear H
                    have H := H1
                    clear H1
                    replace H := Option.bind_eq_some_iff.mp H
                    obtain ⟨t457, A390, H⟩ := H
                    replace H : (if t457 < 0 then (some false) else (if t457 = t449 then (some true) else (some false))) = some r := H
                    have A39 := Ac.mk A390
                    clear A390
                    by_cases c40 : t457 < 0
                    · rw [if_pos c40] at H
                      have c40b0 : decide (t457 < 0) = true := decide_eq_true c40
                      clear c40
                      exact absurd (Option.some.inj H) (by rw [HR_.out]; decide)
                    · rw [if_neg c40] at H
                      have c40b0 : decide (t457 < 0) = false := decide_eq_false c40
                      clear c40
                      by_cases c42 : t457 = t449
                      · rw [if_pos c42] at H
                        have c42b0 : (t457 == t449) = true := beq_iff_eq.mpr c42
                        have c42b1 : (t457 != t449) = false := bne_eq_false_iff_eq.mpr c42
                        clear c42
                        obtain rfl := Option.some.inj H
                        go_wp2_with (first | ((with_reducible refine Aw (f := 22) rfl ?_); refine Bj (some 60) rfl rfl Tryd.func22 (by kernel_rfl) rfl #[.slice Ao26 t450.length co26, .int .i64 1] rfl Yb_ ?_; (with_reducible refine (Cf.calls kj24 _ _ t450 1 t457 _ ?side1 ?side2 A39.out).mono ?_); (case side1 => repeat (first | exact (Kd.Dv HO_5.out).2.2 | (with_reducible refine Kd.Fz ?_ _) | (with_reducible refine Kd.F5 ?_ _) | (with_reducible refine Kd.Gj ?_))); (case side2 => exact (Kd.Dv HO_5.out).2.1); rintro e w43 ⟨rfl, hb⟩; refine ⟨_, rfl, ?_⟩; have n0_ := Ac.mk (Kd.D6 Ycc_ hb); have n1_ := Ac.mk (Au Ya_ hb); clear HO_5; clear HB; have HO_5 := n0_; have HB := n1_; clear n0_ n1_; (try clear hb); (try clear hb2); (try clear hk); (try clear hi)))
                        go_ret
                        exact ⟨by first | rfl | (simp [Aq, Ar] <;> rfl) | (simp [*, Aq, Ar] <;> rfl), by repeat (first | (with_reducible first | exact HB.out | apply Ae | apply Aa | apply Ad) | exact HB.out)⟩
                      · rw [if_neg c42] at H
                        have c42b0 : (t457 == t449) = false := beq_eq_false_iff_ne.mpr c42
                        have c42b1 : (t457 != t449) = true := bne_iff_ne.mpr c42
                        exact absurd (Option.some.inj H) (by rw [HR_.out]; decide)
            · rw [if_neg c23] at H
              have c23b0 : (t451 == t449) = false := beq_eq_false_iff_ne.mpr c23
              have c23b1 : (t451 != t449) = true := bne_iff_ne.mpr c23
              exact absurd (Option.some.inj H) (by rw [HR_.out]; decide)
end Go.Proofs.YtghnljoaklmakaaDoor.X

namespace Go.Proofs.YtghnljoaklmakaaDoorZ
open Go.ChangeShapes Go.WideShapes Go.ChangeAt Go.RowKit
open Go.Proofs.YtghnljoaklmakaaDoorW.PrintWords
section
variable {P : Program}
end
end Go.Proofs.YtghnljoaklmakaaDoorZ

namespace Go.Proofs.YtghnljoaklmakaaDoor.X
open Go.RowKit Go.Proofs.YtghnljoaklmakaaDoorW.PrintWords Go.Proofs.YtghnljoaklmakaaDoorW.PrintLast Go.Proofs.YtghnljoaklmakaaDoorW.PrintMore
open Go.Proofs.YtghnljoaklmakaaDoorZ
namespace OFnExactParseReport
def Pure : Prop := ∀ (a0 : ByteArray), a0.size ≤ 140737488351232 → ∃ k, Bd.f k a0 = some true
end OFnExactParseReport
end Go.Proofs.YtghnljoaklmakaaDoor.X

namespace Go.Proofs.YtghnljoaklmakaaDoorL
open Go.RowKit Go.Proofs.YtghnljoaklmakaaDoorW.PrintWords
/-- A text's bytes. -/
def B (s : ByteArray) : List UInt8 := s.data.toList
theorem Ew (s : ByteArray) : (B s).length = s.size := by simp [B]
theorem bt_B (s : ByteArray) (n : Nat) (h : n < (B s).length) : bt s n = ((B s)[n].toNat : Int) := by
  have h2 : n < s.size := by rw [Ew] at h; exact h
  unfold bt
  rw [Int.toNat_natCast, dif_pos h2]
  rfl
theorem Fg (s : ByteArray) : s.toList = B s := by
  unfold B
  have key : ∀ (d i : Nat) (r : List UInt8), i + d = s.size → ByteArray.toList.loop s i r = r.reverse ++ (s.data.toList.drop i) := by
    intro d
    induction d with
    | zero =>
      intro i r h
      unfold ByteArray.toList.loop
      rw [if_neg (by omega), List.drop_of_length_le (by simp; omega)]; simp
    | succ d ih =>
      intro i r h
      unfold ByteArray.toList.loop
      have hi : i < s.size := by omega
      rw [if_pos hi, ih (i + 1) _ (by omega), List.drop_eq_getElem_cons (show i < s.data.toList.length by simp; omega)]
      have e : s.get! i = s.data.toList[i]'(by simp; omega) := by
        show s.data[i]! = _
        rw [getElem!_pos s.data i hi]; simp
      rw [e, List.reverse_cons]
      simp
  have := key s.size 0 [] (by omega)
  simpa [ByteArray.toList] using this
theorem Gw {s t : ByteArray} (h : B s = B t) : s = t := by
  have : s.data = t.data := Array.toList_inj.1 h
  cases s; cases t; simp_all
end Go.Proofs.YtghnljoaklmakaaDoorL

namespace Go.Proofs.YtghnljoaklmakaaDoor.X
open Go.RowKit Go.Proofs.YtghnljoaklmakaaDoorW.PrintWords Go.Proofs.YtghnljoaklmakaaDoorL
theorem Gl (s t : ByteArray) : B (s ++ t) = B s ++ B t := by unfold B; simp
theorem B_mk (l : List UInt8) : B ⟨l.toArray⟩ = l := by simp [B]
theorem size_B (s : ByteArray) : s.size = (B s).length := (Ew s).symm
theorem mk_append (a b : List UInt8) : (⟨a.toArray⟩ : ByteArray) ++ ⟨b.toArray⟩ = ⟨(a ++ b).toArray⟩ := Gw (by rw [Gl, B_mk, B_mk, B_mk])
def dec (n : Int) : ByteArray := ⟨(Lib.itoa n).toArray⟩
theorem B_dec (n : Int) : B (dec n) = Lib.itoa n := B_mk _
theorem dec_size (n : Int) (h0 : -9223372036854775808 ≤ n) (h1 : n ≤ 9223372036854775807) : (dec n).size ≤ 21 := by
  rw [size_B, B_dec]; exact Lib.itoa_length_le n h0 h1
theorem implDec (n : Int) (h0 : -9223372036854775808 ≤ n) (h1 : n ≤ 9223372036854775807) : Em.f n = some (dec n) := by
  unfold Em.f Gt.f
  rw [if_pos ⟨h0, h1⟩]
  rfl
theorem digit_cut (d : Nat) (h : d < 10) : (⟨#[48, 49, 50, 51, 52, 53, 54, 55, 56, 57]⟩ : ByteArray).extract d (d + 1) = ⟨[UInt8.ofNat (48 + d)].toArray⟩ := by
  have : d = 0 ∨ d = 1 ∨ d = 2 ∨ d = 3 ∨ d = 4 ∨ d = 5 ∨ d = 6 ∨ d = 7 ∨ d = 8 ∨ d = 9 := by omega
  rcases this with rfl | rfl | rfl | rfl | rfl | rfl | rfl | rfl | rfl | rfl <;> rfl
theorem decDigits_le (u : Nat) (h : u ≤ 9223372036854775807) : (Lib.decDigits u).length ≤ 21 := by
  have := Lib.itoa_length_le (u : Int) (by omega) (by omega)
  unfold Lib.itoa at this
  rw [if_neg (by omega), Int.toNat_natCast] at this
  exact this
theorem specNum_nat : ∀ (m u : Nat), u ≤ m → u ≤ 9223372036854775807 → Ev (fun k => Ci.f k (u : Int)) ⟨(Lib.decDigits u).toArray⟩ := by
  intro m
  induction m with
  | zero =>
    intro u hu hb
    obtain rfl : u = 0 := by omega
    refine Ev.step (f := fun _ => some _) (fun k => ?_) (Ev.now _)
    simp only [Ci.f]
    rw [if_neg (by omega), if_pos (by omega), if_pos (by omega), Eu (by omega) (by omega), if_pos (by omega), if_pos (by omega), Lib.decDigits, dif_pos (by omega)]
    rfl
  | succ m ih =>
    intro u hu hb
    by_cases h : u < 10
    · refine Ev.step (f := fun _ => some _) (fun k => ?_) (Ev.now _)
      simp only [Ci.f]
      rw [if_neg (by omega), if_pos (by omega), if_pos (by omega), Eu (by omega) (by omega), if_pos (by omega), if_pos (by omega), Lib.decDigits, dif_pos h, ← digit_cut u h]
      rfl
    · have hd : wrap64 (Int.tdiv (u : Int) 10) = ((u / 10 : Nat) : Int) := by
        rw [Int.tdiv_eq_ediv_of_nonneg (by omega), Eu (by omega) (by omega)]; omega
      have hm : Int.tmod (u : Int) 10 = ((u % 10 : Nat) : Int) := by rw [Int.tmod_eq_emod_of_nonneg (by omega)]; omega
      refine Ev.step (f := fun k => (Ci.f k ((u / 10 : Nat) : Int)).bind fun t => if t.size + (⟨[UInt8.ofNat (48 + u % 10)].toArray⟩ : ByteArray).size ≤ 9223372036854775807 then some (t ++ ⟨[UInt8.ofNat (48 + u % 10)].toArray⟩) else none) (fun k => ?_) ?_
      · simp only [Ci.f]
        rw [if_neg (by omega), if_neg (by omega), hd, hm]
        congr 1
        funext t
        rw [if_pos (by omega), Eu (x := ((u % 10 : Nat) : Int) + 1) (by omega) (by omega), if_pos (by omega), if_pos (by omega)]
        have e : (((u % 10 : Nat) : Int) + 1).toNat = u % 10 + 1 := by omega
        rw [Int.toNat_natCast, e, digit_cut (u % 10) (by omega)]
      · have i1 := ih (u / 10) (by omega) (by omega)
        have hs := decDigits_le (u / 10) (by omega)
        refine Ev.bind i1 (Ev.congr (fun k => if_pos ?_) ?_)
        · rw [size_B, size_B, B_mk, B_mk]; simp only [List.length_cons, List.length_nil]; omega
        · rw [mk_append, Lib.decDigits.eq_1 u, dif_neg h]; exact Ev.now _
theorem specNum_ev (n : Int) (h0 : -9223372036854775807 ≤ n) (h1 : n ≤ 9223372036854775807) : Ev (fun k => Ci.f k n) (dec n) := by
  by_cases h : n < 0
  · have e : wrap64 (-n) = ((n.natAbs : Nat) : Int) := by rw [Eu (by omega) (by omega)]; omega
    have hs := decDigits_le n.natAbs (by omega)
    refine Ev.step (f := fun k => (Ci.f k ((n.natAbs : Nat) : Int)).bind fun t => if 1 + t.size ≤ 9223372036854775807 then some ((⟨#[45]⟩ : ByteArray) ++ t) else none) (fun k => ?_) (Ev.bind (specNum_nat n.natAbs n.natAbs (Nat.le_refl _) (by omega)) (Ev.congr (fun k => if_pos ?_) ?_))
    · simp only [Ci.f]
      rw [if_pos h, e]
    · rw [size_B, B_mk]; omega
    · have : dec n = (⟨#[45]⟩ : ByteArray) ++ ⟨(Lib.decDigits n.natAbs).toArray⟩ := Gw (by rw [Gl, B_dec, B_mk]; unfold Lib.itoa; rw [if_pos h]; rfl)
      rw [this]; exact Ev.now _
  · obtain ⟨u, rfl⟩ : ∃ u : Nat, n = (u : Int) := ⟨n.toNat, by omega⟩
    have : dec (u : Int) = ⟨(Lib.decDigits u).toArray⟩ := by unfold dec Lib.itoa; rw [if_neg h, Int.toNat_natCast]
    rw [this]
    exact specNum_nat u u (Nat.le_refl _) (by omega)
end Go.Proofs.YtghnljoaklmakaaDoor.X

namespace Go.Proofs.YtghnljoaklmakaaDoor.X
open Go.RowKit Go.Proofs.YtghnljoaklmakaaDoorW.PrintWords Go.Proofs.YtghnljoaklmakaaDoorW.PrintLast Go.Proofs.YtghnljoaklmakaaDoorW.PrintMore
attribute [local go_sem] Ea Eb Eh Eg Dz D5 Ec D9
open Go.Proofs.YtghnljoaklmakaaDoorG
def H7.f (a0_0 : Int) (a0_1 : ByteArray) (a0_2 : Int) (a0_3 : Int) (a1 : Int) : Option (Int) := if (wrap64 (a1 - (a0_1.size : Int))) < 0 then (some (-1)) else (some (wrap64 (a1 - (a0_1.size : Int))))
set_option maxHeartbeats 8000000 in
set_option maxRecDepth 100000 in
theorem H7.calls (a0_0 : Int) (a0_1 : ByteArray) (a0_2 : Int) (a0_3 : Int) (a1 : Int) (r : Int) (w : World) (h : H7.f a0_0 a0_1 a0_2 a0_3 a1 = some r) :
    Calls Tryd.prog 7 #[.agg #[.int .i64 a0_0, .string a0_1, .int .i64 a0_2, .int .i64 a0_3], .int .i64 a1] w fun e w' => e = .returned (.int .i64 r) ∧ Below w.heap.size w w' := by
  have hu23 := Tryd.underlying23
  have HB := Ac.mk (Below.refl w.heap.size w)
  have H : (if (wrap64 (a1 - (a0_1.size : Int))) < 0 then (some (-1)) else (some (wrap64 (a1 - (a0_1.size : Int))))) = some r := h
  clear h
  by_cases c3 : (wrap64 (a1 - (a0_1.size : Int))) < 0
  · rw [if_pos c3] at H
    have c3b0 : decide ((wrap64 (a1 - (a0_1.size : Int))) < 0) = true := decide_eq_true c3
    clear c3
    obtain rfl := Option.some.inj H
    go_enter Tryd.func7, Tryd.ntmps7
    go_wp2_with (first | ((with_reducible refine Dh (N := 2) rfl ?_); refine Dl ?hg (N := 2) ?hd (cs := #[.int .i64 a0_0, .string a0_1, .int .i64 a0_2, .int .i64 a0_3]) (t := 23) ?hr ?_; (case hd => rfl); (case hg => rfl); (case hr => first | (go_simp; done) | (go_simp; rfl)); intro gb0 hg w4 hbox hb; have n0_ := Ac.mk (Au Ya_ hb); have n1_ := Ac.mk (hbox); have n2_ := Ac.mk ((by rw [hg]; exact (Az Ya_) : w.heap.size ≤ gb0)); have n3_ := Ac.mk ((by rw [hg]; exact (Az Ya_) : w.heap.size ≤ gb0)); clear HB; have HB := n0_; have BK0 := n1_; have GW0 := n2_; have GE0 := n3_; clear n0_ n1_ n2_ n3_; clear hb hbox hg; have hcz5_0 : w4.cell? ⟨gb0, 0, none⟩ = some (.int .i64 a0_0) := (Af BK0.out 0).trans rfl; have hcz5_1 : w4.cell? ⟨gb0, 1, none⟩ = some (.string a0_1) := (Af BK0.out 1).trans rfl; have hcz5_2 : w4.cell? ⟨gb0, 2, none⟩ = some (.int .i64 a0_2) := (Af BK0.out 2).trans rfl; have hcz5_3 : w4.cell? ⟨gb0, 3, none⟩ = some (.int .i64 a0_3) := (Af BK0.out 3).trans rfl; have hfz5_0 := Ag BK0.out 0; have hfz5_1 := Ag BK0.out 1; have hfz5_2 := Ag BK0.out 2; have hfz5_3 := Ag BK0.out 3))
    go_ret
    exact ⟨by first | rfl | (simp [Aq, Ar] <;> rfl) | (simp [*, Aq, Ar] <;> rfl), by repeat (first | (with_reducible first | exact HB.out | apply Ae | apply Aa | apply Ad | refine Am ?_ GE0.out) | exact HB.out)⟩
  · rw [if_neg c3] at H
    have c3b0 : decide ((wrap64 (a1 - (a0_1.size : Int))) < 0) = false := decide_eq_false c3
    clear c3
    obtain rfl := Option.some.inj H
    go_enter Tryd.func7, Tryd.ntmps7
    go_wp2_with (first | ((with_reducible refine Dh (N := 2) rfl ?_); refine Dl ?hg (N := 2) ?hd (cs := #[.int .i64 a0_0, .string a0_1, .int .i64 a0_2, .int .i64 a0_3]) (t := 23) ?hr ?_; (case hd => rfl); (case hg => rfl); (case hr => first | (go_simp; done) | (go_simp; rfl)); intro gb0 hg w6 hbox hb; have n0_ := Ac.mk (Au Ya_ hb); have n1_ := Ac.mk (hbox); have n2_ := Ac.mk ((by rw [hg]; exact (Az Ya_) : w.heap.size ≤ gb0)); have n3_ := Ac.mk ((by rw [hg]; exact (Az Ya_) : w.heap.size ≤ gb0)); clear HB; have HB := n0_; have BK0 := n1_; have GW0 := n2_; have GE0 := n3_; clear n0_ n1_ n2_ n3_; clear hb hbox hg; have hcz7_0 : w6.cell? ⟨gb0, 0, none⟩ = some (.int .i64 a0_0) := (Af BK0.out 0).trans rfl; have hcz7_1 : w6.cell? ⟨gb0, 1, none⟩ = some (.string a0_1) := (Af BK0.out 1).trans rfl; have hcz7_2 : w6.cell? ⟨gb0, 2, none⟩ = some (.int .i64 a0_2) := (Af BK0.out 2).trans rfl; have hcz7_3 : w6.cell? ⟨gb0, 3, none⟩ = some (.int .i64 a0_3) := (Af BK0.out 3).trans rfl; have hfz7_0 := Ag BK0.out 0; have hfz7_1 := Ag BK0.out 1; have hfz7_2 := Ag BK0.out 2; have hfz7_3 := Ag BK0.out 3))
    go_ret
    exact ⟨by first | rfl | (simp [Aq, Ar] <;> rfl) | (simp [*, Aq, Ar] <;> rfl), by repeat (first | (with_reducible first | exact HB.out | apply Ae | apply Aa | apply Ad | refine Am ?_ GE0.out) | exact HB.out)⟩
end Go.Proofs.YtghnljoaklmakaaDoor.X

