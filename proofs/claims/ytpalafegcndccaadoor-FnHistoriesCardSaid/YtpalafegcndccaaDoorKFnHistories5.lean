/- The law FnHistories answers true for every input that the row lets in, and leaves its arguments as they were. Conditions: none beyond the row's own. -/
import Derived.Handed
import Derived.HandedShaped
import Derived.Test.YtpalafegcndccaaDoorProg
import Derived.Test.YtpalafegcndccaaDoorRows
import Derived.WalkKit
import Derived.ProofKit
import Derived.OpenShut
import Derived.ShutString
import Derived.ChangeOld
import Derived.Below
import Derived.SizedLaws
import Derived.Lib.SmallJoins
import Derived.Handy
import Derived.Lay
import Derived.SevenTiedAt
import Derived.LaidSub
import Derived.Lib.LaidTab
import Derived.Test.YtpalafegcndccaaDoorCards
import Derived.Test.YtpalafegcndccaaDoorTie
import Derived.Test.YtpalafegcndccaaDoorKFnHistories1
import Derived.Test.YtpalafegcndccaaDoorKFnHistories2
import Derived.Test.YtpalafegcndccaaDoorKFnHistories3
import Derived.Test.YtpalafegcndccaaDoorKFnHistories4
set_option linter.unusedVariables false
set_option linter.unusedSimpArgs false
namespace Go.Proofs.YtpalafegcndccaaDoor.X
open Go.RowKit Go.Proofs.YtpalafegcndccaaDoorW.PrintWords Go.Proofs.YtpalafegcndccaaDoorW.PrintLast Go.Proofs.YtpalafegcndccaaDoorW.PrintMore
attribute [local go_sem] Ej Eg Eu Ew D9 D8 Ei Eh
open Go.Proofs.YtpalafegcndccaaDoorG
mutual
def Df.j0 : Nat → ByteArray → ByteArray → Bool → Option (Int × Bool)
  | 0, _, _, _ => none
  | k + 1, x0, x4, x15 => if x15 = true then (if 1 ≤ (x4.size : Int) then (Df.j1 k x0 (x4.extract 1 x4.size)) else (none)) else (Df.j1 k x0 x4)
def Df.j1 : Nat → ByteArray → ByteArray → Option (Int × Bool)
  | 0, _, _ => none
  | k + 1, x0, x4 => (Gw.f (x4.size : Int) 1 6).bind fun t193 => (if t193 = true then (Df.l0 k x0 x4 0 0) else (some (0, false)))
def Df.l0 : Nat → ByteArray → ByteArray → Int → Int → Option (Int × Bool)
  | 0, _, _, _, _ => none
  | k + 1, x0, x4, x5, x6 => if x6 < (x4.size : Int) then (if 0 ≤ x6 then (if (bt x4 x6) < 48 then (some (0, false)) else (if (bt x4 x6) > 57 then (some (0, false)) else (Df.l0 k x0 x4 (wrap64 ((wrap64 (10 * x5)) + (((bt x4 x6) - 48) % 256))) (wrap64 (x6 + 1))))) else (none)) else (if (x4.size : Int) < (x0.size : Int) then ((Dz.f k (wrap64 (-x5))).bind fun t194 => (if t194.toList = x0.toList then (some (wrap64 (-x5), true)) else (some (0, false)))) else ((Dz.f k x5).bind fun t195 => (if t195.toList = x0.toList then (some (x5, true)) else (some (0, false)))))
end
def Df.f (k : Nat) (a0 : ByteArray) : Option (Int × Bool) := if (a0.size : Int) > 1 then (if 0 < (a0.size : Int) then (Df.j0 k a0 a0 ((bt a0 0) == 45)) else (none)) else (Df.j0 k a0 a0 false)
theorem Df.Et : ∀ k, (∀ y0 y1 y2, LeO (Df.j0 k y0 y1 y2) (Df.j0 (k + 1) y0 y1 y2)) ∧ (∀ y0 y1, LeO (Df.j1 k y0 y1) (Df.j1 (k + 1) y0 y1)) ∧ (∀ y0 y1 y2 y3, LeO (Df.l0 k y0 y1 y2 y3) (Df.l0 (k + 1) y0 y1 y2 y3))
  | 0 => ⟨fun _ _ _ r h => by simp [Df.j0] at h, fun _ _ r h => by simp [Df.j1] at h, fun _ _ _ _ r h => by simp [Df.l0] at h⟩
  | k + 1 => by
    obtain ⟨ih0, ih1, ih2⟩ := Df.Et k
    refine ⟨?_, ?_, ?_⟩
    · intro y0 y1 y2
      unfold Df.j0
      repeat' first
      | (with_reducible exact ih0 _ _ _)
      | (with_reducible exact ih1 _ _)
      | (with_reducible exact ih2 _ _ _ _)
      | (with_reducible exact Dz.mono _ _)
      | (with_reducible exact LeO.refl _)
      | (with_reducible exact LeO.none _)
      | (with_reducible refine LeO.ite ?_ ?_)
      | (with_reducible refine LeO.bind ?_ (fun _ => ?_))
      | exact ih0 _ _ _
      | exact ih1 _ _
      | exact ih2 _ _ _ _
      | exact Dz.mono _ _
      | exact LeO.none _
      | refine LeO.ite ?_ ?_
      | refine LeO.bind ?_ (fun _ => ?_)
    · intro y0 y1
      unfold Df.j1
      repeat' first
      | (with_reducible exact ih0 _ _ _)
      | (with_reducible exact ih1 _ _)
      | (with_reducible exact ih2 _ _ _ _)
      | (with_reducible exact Dz.mono _ _)
      | (with_reducible exact LeO.refl _)
      | (with_reducible exact LeO.none _)
      | (with_reducible refine LeO.ite ?_ ?_)
      | (with_reducible refine LeO.bind ?_ (fun _ => ?_))
      | exact ih0 _ _ _
      | exact ih1 _ _
      | exact ih2 _ _ _ _
      | exact Dz.mono _ _
      | exact LeO.none _
      | refine LeO.ite ?_ ?_
      | refine LeO.bind ?_ (fun _ => ?_)
    · intro y0 y1 y2 y3
      unfold Df.l0
      repeat' first
      | (with_reducible exact ih0 _ _ _)
      | (with_reducible exact ih1 _ _)
      | (with_reducible exact ih2 _ _ _ _)
      | (with_reducible exact Dz.mono _ _)
      | (with_reducible exact LeO.refl _)
      | (with_reducible exact LeO.none _)
      | (with_reducible refine LeO.ite ?_ ?_)
      | (with_reducible refine LeO.bind ?_ (fun _ => ?_))
      | exact ih0 _ _ _
      | exact ih1 _ _
      | exact ih2 _ _ _ _
      | exact Dz.mono _ _
      | exact LeO.none _
      | refine LeO.ite ?_ ?_
      | refine LeO.bind ?_ (fun _ => ?_)
theorem Df.mono : ∀ a0 k, LeO (Df.f k a0) (Df.f (k + 1) a0) := by
  intro a0 k
  obtain ⟨ih0, ih1, ih2⟩ := Df.Et k
  unfold Df.f
  repeat' first
      | (with_reducible exact ih0 _ _ _)
      | (with_reducible exact ih1 _ _)
      | (with_reducible exact ih2 _ _ _ _)
      | (with_reducible exact Dz.mono _ _)
      | (with_reducible exact LeO.refl _)
      | (with_reducible exact LeO.none _)
      | (with_reducible refine LeO.ite ?_ ?_)
      | (with_reducible refine LeO.bind ?_ (fun _ => ?_))
      | exact ih0 _ _ _
      | exact ih1 _ _
      | exact ih2 _ _ _ _
      | exact Dz.mono _ _
      | exact LeO.none _
      | refine LeO.ite ?_ ?_
      | refine LeO.bind ?_ (fun _ => ?_)
set_option maxHeartbeats 8000000 in
set_option maxRecDepth 100000 in
theorem Df.calls (k : Nat) (a0 : ByteArray) (r1 : Int) (r2 : Bool) (w : World) (h : Df.f k a0 = some (r1, r2)) :
    Calls Tryd.prog 54 #[.string a0] w fun e w' => e = .returned (.tuple #[.int .i64 r1, .bool r2]) ∧ Below w.heap.size w w' := by
  have HB := Aa.mk (Below.refl w.heap.size w)
  have H : (if (a0.size : Int) > 1 then (if 0 < (a0.size : Int) then (Df.j0 k a0 a0 ((bt a0 0) == 45)) else (none)) else (Df.j0 k a0 a0 false)) = some (r1, r2) := h
  clear h
  have HC2 := Aa.mk H
  clear H
  go_enter Tryd.func54, Tryd.ntmps54
  go_upto_region 2 with (fail)
  go_cut [15] (fun v15 wc => ∃ (kq : Nat) (x15_1 : Bool), v15 = .bool x15_1 ∧ Aa (Df.j0 kq a0 a0 x15_1 = some (r1, r2)) ∧ Aa (kq ≤ k) ∧ Aa (Below w.heap.size w wc))
  case first =>
    have H := HC2.out
    clear HC2
    by_cases c3 : (a0.size : Int) > 1
    · rw [if_pos c3] at H
      have c3b0 : decide (1 < (a0.size : Int)) = true := decide_eq_true c3
      have c3b1 : decide (1 < a0.size) = true := decide_eq_true (by omega)
      clear c3
      (first | rw [c3b0] | (simp only [Dh, Dp]; rw [c3b0]) | skip)
      by_cases c4 : 0 < (a0.size : Int)
      · rw [if_pos c4] at H
        have c4b0 : decide (0 < (a0.size : Int)) = true := decide_eq_true c4
        have c4b1 : decide (0 < a0.size) = true := decide_eq_true (by omega)
        clear c4
        have H' := Aa.mk H
        clear H
        have p5 : 0 ≤ (0 : Int) := (by omega)
        have q5 : 0 < a0.size := (by have : (0 : Int) < (a0.size : Int) := of_decide_eq_true (by first | (with_reducible assumption) | assumption); omega)
        have hx5 : ∀ h : 0 < a0.size, ((a0[0]'h).toNat : Int) = bt a0 0 := bt_at a0 0
        clear p5
        have qi5 : (0 < (a0.size : Int)) = True := eq_true (of_decide_eq_true (by first | (with_reducible assumption) | assumption))
        replace q5 := eq_true q5
        go_wp2
        go_meet
        case rel => exact ⟨_, (((bt a0 0) == 45)), (by first | rfl | (simp; done) | (simp [*]; done)), H', ⟨by first | omega | exact Nat.le_refl _⟩, ⟨by repeat (first | (with_reducible first | exact HB.out | apply Ae | apply Ac | apply Ad) | exact HB.out)⟩⟩
      · rw [if_neg c4] at H
        exact absurd H (by simp)
    · rw [if_neg c3] at H
      have c3b0 : decide (1 < (a0.size : Int)) = false := decide_eq_false c3
      have c3b1 : decide (1 < a0.size) = false := decide_eq_false (by omega)
      clear c3
      (first | rw [c3b0] | (simp only [Dh, Dp]; rw [c3b0]) | skip)
      have H' := Aa.mk H
      clear H
      go_wp2
      go_meet
      case rel => exact ⟨_, (false), (by first | rfl | (simp; done) | (simp [*]; done)), H', ⟨by first | omega | exact Nat.le_refl _⟩, ⟨by repeat (first | (with_reducible first | exact HB.out | apply Ae | apply Ac | apply Ad) | exact HB.out)⟩⟩
  case rest =>
    clear HC2
    try clear p2
    try clear c3
    try clear c3b0
    try clear c3b1
    try clear c4
    try clear c4b0
    try clear c4b1
    try clear c5
    try clear p5
    try clear q5
    try clear hx5
    try clear qi5
    try clear p5
    try clear q5
    obtain ⟨kq, x15_1, rfl, HA, HJ1, HB⟩ := hcut
    cases kq with
    | zero => exact absurd HA.out (by simp [Df.j0])
    | succ kj1 =>
      have H := HA.out
      clear HA
      simp only [Df.j0] at H
      have HC6 := Aa.mk H
      clear H
      go_upto_if 15 with (fail)
      go_cut [4] (fun v4 wc => ∃ (kq : Nat) (x4_5 : ByteArray), v4 = .string x4_5 ∧ Aa (Df.j1 kq a0 x4_5 = some (r1, r2)) ∧ Aa (kq ≤ kj1) ∧ Aa (Below w.heap.size w wc))
      case first =>
        have H := HC6.out
        clear HC6
        by_cases c7 : x15_1 = true
        · subst c7
          have H1 : (if 1 ≤ (a0.size : Int) then (Df.j1 kj1 a0 (a0.extract 1 a0.size)) else (none)) = some (r1, r2) := by rw [if_pos rfl] at H; exact H
          clear H
          have H := H1
          clear H1
          by_cases c8 : 1 ≤ (a0.size : Int)
          · rw [if_pos c8] at H
            have c8b0 := eq_true c8
            have c8b1 : decide (1 ≤ (a0.size : Int)) = true := decide_eq_true c8
            clear c8
            have H' := Aa.mk H
            clear H
            go_wp2
            go_meet
            case rel => exact ⟨_, (a0.extract 1 a0.size), (by first | rfl | (simp; done) | (simp [*]; done)), H', ⟨by have := HJ1.out; first | omega | exact Nat.le_refl _⟩, ⟨by repeat (first | (with_reducible first | exact HB.out | apply Ae | apply Ac | apply Ad) | exact HB.out)⟩⟩
          · rw [if_neg c8] at H
            exact absurd H (by simp)
        · replace c7 := Bool.eq_false_iff.mpr c7
          subst c7
          have H1 : (Df.j1 kj1 a0 a0) = some (r1, r2) := by rw [if_neg (show ¬ (false = true) by decide)] at H; exact H
          clear H
          have H := H1
          clear H1
          have H' := Aa.mk H
          clear H
          go_wp2
          go_meet
          case rel => exact ⟨_, (a0), (by first | rfl | (simp; done) | (simp [*]; done)), H', ⟨by have := HJ1.out; first | omega | exact Nat.le_refl _⟩, ⟨by repeat (first | (with_reducible first | exact HB.out | apply Ae | apply Ac | apply Ad) | exact HB.out)⟩⟩
      case rest =>
        clear HC6
        try clear p2
        try clear c3
        try clear c3b0
        try clear c3b1
        try clear c4
        try clear c4b0
        try clear c4b1
        try clear c5
        try clear p5
        try clear q5
        try clear hx5
        try clear qi5
        try clear c7
        try clear c8
        try clear c8b0
        try clear c8b1
        try clear p2
        try clear p5
        try clear q5
        obtain ⟨kq, x4_5, rfl, HA, HJ5, HB⟩ := hcut
        cases kq with
        | zero => exact absurd HA.out (by simp [Df.j1])
        | succ kj5 =>
          have H := HA.out
          clear HA
          simp only [Df.j1] at H
          replace H := Option.bind_eq_some_iff.mp H
          obtain ⟨t193, A90, H⟩ := H
          replace H : (if t193 = true then (Df.l0 kj5 a0 x4_5 0 0) else (some (0, false))) = some (r1, r2) := H
          have A9 := Aa.mk A90
          clear A90
          by_cases c10 : t193 = true
          · subst c10
            have H1 : (Df.l0 kj5 a0 x4_5 0 0) = some (r1, r2) := by rw [if_pos rfl] at H; exact H
            clear H
            have H := H1
            clear H1
            have H' := Aa.mk H
            clear H
            go_wp2_with (first | ((with_reducible refine Bv (f := 47) rfl ?_); refine D5 (some 20) rfl rfl Tryd.func47 (by kernel_rfl) rfl #[.int .i64 (x4_5.size : Int), .int .i64 1, .int .i64 6] rfl (by (try simp only [List.map_toArray, List.map_cons, List.map_nil]); first | done | rfl | (simp only [List.length_drop, List.length_take]; rfl)) ?_; (with_reducible refine (Gw.calls (x4_5.size : Int) 1 6 true _ A9.out).mono ?_); rintro e w' ⟨rfl, ⟨nd, rfl⟩⟩; refine ⟨_, rfl, ?_⟩))
            go_loopg [5, 6] kj5 (fun kq v5 v6 w' => ∃ (x5_3 : Int) (x6_3 : Int), v5 = .int .i64 x5_3 ∧ v6 = .int .i64 x6_3 ∧ Aa (Df.l0 kq a0 x4_5 x5_3 x6_3 = some (r1, r2)) ∧ Aa (kq ≤ kj5) ∧ Aa (Below w.heap.size w w'))
            case atStart => exact ⟨(0), (0), (by first | rfl | (simp; done) | (simp [*]; done)), (by first | rfl | (simp; done) | (simp [*]; done)), H', ⟨Nat.le_refl _⟩, ⟨by repeat (first | (with_reducible first | exact HB.out | apply Ae | apply Ac | apply Ad) | exact HB.out)⟩⟩
            case round =>
              clear H'
              try clear c1
              try clear p2
              try clear c3
              try clear c3b0
              try clear c3b1
              try clear c4
              try clear c4b0
              try clear c4b1
              try clear c5
              try clear p5
              try clear q5
              try clear hx5
              try clear qi5
              try clear c7
              try clear c8
              try clear c8b0
              try clear c8b1
              try clear c10
              try clear p2
              try clear p5
              try clear q5
              obtain ⟨x5_3, x6_3, rfl, rfl, HA, HK3, HB⟩ := hrel
              cases gk with
              | zero => exact absurd HA.out (by simp [Df.l0])
              | succ k3 =>
                have H := HA.out
                clear HA
                simp only [Df.l0] at H
                by_cases c11 : x6_3 < (x4_5.size : Int)
                · rw [if_pos c11] at H
                  have c11b0 : decide (x6_3 < (x4_5.size : Int)) = true := decide_eq_true c11
                  clear c11
                  by_cases c12 : 0 ≤ x6_3
                  · rw [if_pos c12] at H
                    have c12b0 : decide (0 ≤ x6_3) = true := decide_eq_true c12
                    clear c12
                    by_cases c14 : (bt x4_5 x6_3) < 48
                    · rw [if_pos c14] at H
                      have c14b0 : decide ((bt x4_5 x6_3) < 48) = true := decide_eq_true c14
                      clear c14
                      simp only [Option.some.injEq, Prod.mk.injEq] at H
                      obtain ⟨rfl, rfl⟩ := H
                      have p13 : 0 ≤ (x6_3 : Int) := of_decide_eq_true (by first | (with_reducible assumption) | assumption)
                      have q13 : x6_3 < (x4_5.size : Int) := of_decide_eq_true (by first | (with_reducible assumption) | assumption)
                      have hx13 := bt_at x4_5 x6_3
                      replace p13 := eq_true p13
                      replace q13 := eq_true q13
                      go_wp2
                      go_ret2
                      exact ⟨by first | rfl | (simp [Be, Bf] <;> rfl) | (simp [*, Be, Bf] <;> rfl), by repeat (first | (with_reducible first | exact HB.out | apply Ae | apply Ac | apply Ad) | exact HB.out)⟩
                    · rw [if_neg c14] at H
                      have c14b0 : decide ((bt x4_5 x6_3) < 48) = false := decide_eq_false c14
                      clear c14
                      by_cases c16 : (bt x4_5 x6_3) > 57
                      · rw [if_pos c16] at H
                        have c16b0 : decide (57 < (bt x4_5 x6_3)) = true := decide_eq_true c16
                        clear c16
                        simp only [Option.some.injEq, Prod.mk.injEq] at H
                        obtain ⟨rfl, rfl⟩ := H
                        have p13 : 0 ≤ (x6_3 : Int) := of_decide_eq_true (by first | (with_reducible assumption) | assumption)
                        have q13 : x6_3 < (x4_5.size : Int) := of_decide_eq_true (by first | (with_reducible assumption) | assumption)
                        have hx13 := bt_at x4_5 x6_3
                        replace p13 := eq_true p13
                        replace q13 := eq_true q13
                        have p15 : 0 ≤ (x6_3 : Int) := of_decide_eq_true (by first | (with_reducible assumption) | assumption)
                        have q15 : x6_3 < (x4_5.size : Int) := of_decide_eq_true (by first | (with_reducible assumption) | assumption)
                        have hx15 := bt_at x4_5 x6_3
                        replace p15 := eq_true p15
                        replace q15 := eq_true q15
                        go_wp2
                        go_ret2
                        exact ⟨by first | rfl | (simp [Be, Bf] <;> rfl) | (simp [*, Be, Bf] <;> rfl), by repeat (first | (with_reducible first | exact HB.out | apply Ae | apply Ac | apply Ad) | exact HB.out)⟩
                      · rw [if_neg c16] at H
                        have c16b0 : decide (57 < (bt x4_5 x6_3)) = false := decide_eq_false c16
                        clear c16
                        have H' := Aa.mk H
                        clear H
                        have p13 : 0 ≤ (x6_3 : Int) := of_decide_eq_true (by first | (with_reducible assumption) | assumption)
                        have q13 : x6_3 < (x4_5.size : Int) := of_decide_eq_true (by first | (with_reducible assumption) | assumption)
                        have hx13 := bt_at x4_5 x6_3
                        replace p13 := eq_true p13
                        replace q13 := eq_true q13
                        have p15 : 0 ≤ (x6_3 : Int) := of_decide_eq_true (by first | (with_reducible assumption) | assumption)
                        have q15 : x6_3 < (x4_5.size : Int) := of_decide_eq_true (by first | (with_reducible assumption) | assumption)
                        have hx15 := bt_at x4_5 x6_3
                        replace p15 := eq_true p15
                        replace q15 := eq_true q15
                        have p17 : 0 ≤ (x6_3 : Int) := of_decide_eq_true (by first | (with_reducible assumption) | assumption)
                        have q17 : x6_3 < (x4_5.size : Int) := of_decide_eq_true (by first | (with_reducible assumption) | assumption)
                        have hx17 := bt_at x4_5 x6_3
                        replace p17 := eq_true p17
                        replace q17 := eq_true q17
                        go_wp2
                        go_roundg k3
                        case measure => have := HJ1.out; have := HJ5.out; have := HK3.out; omega
                        case rel => exact ⟨(wrap64 ((wrap64 (10 * x5_3)) + (((bt x4_5 x6_3) - 48) % 256))), (wrap64 (x6_3 + 1)), (by first | rfl | (simp; done) | (simp [*]; done)), (by first | rfl | (simp; done) | (simp [*]; done)), H', ⟨by have := HJ1.out; have := HJ5.out; have := HK3.out; omega⟩, ⟨by repeat (first | (with_reducible first | exact HB.out | apply Ae | apply Ac | apply Ad) | exact HB.out)⟩⟩
                  · rw [if_neg c12] at H
                    exact absurd H (by simp)
                · rw [if_neg c11] at H
                  have c11b0 : decide (x6_3 < (x4_5.size : Int)) = false := decide_eq_false c11
                  clear c11
                  by_cases c18 : (x4_5.size : Int) < (a0.size : Int)
                  · rw [if_pos c18] at H
                    have c18b0 : decide ((x4_5.size : Int) < (a0.size : Int)) = true := decide_eq_true c18
                    have c18b1 : decide (x4_5.size < a0.size) = true := decide_eq_true (Int.ofNat_lt.mp c18)
                    clear c18
                    replace H := Option.bind_eq_some_iff.mp H
                    obtain ⟨t194, A190, H⟩ := H
                    replace H : (if t194.toList = a0.toList then (some (wrap64 (-x5_3), true)) else (some (0, false))) = some (r1, r2) := H
                    have A19 := Aa.mk A190
                    clear A190
                    by_cases c20 : t194.toList = a0.toList
                    · rw [if_pos c20] at H
                      have c20b0 : (t194.toList == a0.toList) = true := beq_iff_eq.mpr c20
                      have c20b1 : (t194.toList != a0.toList) = false := bne_eq_false_iff_eq.mpr c20
                      clear c20
                      simp only [Option.some.injEq, Prod.mk.injEq] at H
                      obtain ⟨rfl, rfl⟩ := H
                      go_wp2_with (first | ((with_reducible refine Bv (f := 49) rfl ?_); refine D5 (some 54) rfl rfl Tryd.func49 (by kernel_rfl) rfl #[.int .i64 (wrap64 (-x5_3))] rfl (by (try simp only [List.map_toArray, List.map_cons, List.map_nil]); first | done | rfl | (simp only [List.length_drop, List.length_take]; rfl)) ?_; (with_reducible refine (Dz.calls k3 (wrap64 (-x5_3)) t194 _ A19.out).mono ?_); rintro e w21 ⟨rfl, hb⟩; refine ⟨_, rfl, ?_⟩; have n0_ := Aa.mk (Ap (by repeat (first | (with_reducible first | exact HB.out | apply Ae | apply Ac | apply Ad) | exact HB.out)) hb); clear HB; have HB := n0_; clear n0_; (try clear hb); (try clear hb2); (try clear hk); (try clear hi)))
                      go_ret2
                      exact ⟨by first | rfl | (simp [Be, Bf] <;> rfl) | (simp [*, Be, Bf] <;> rfl), by repeat (first | (with_reducible first | exact HB.out | apply Ae | apply Ac | apply Ad) | exact HB.out)⟩
                    · rw [if_neg c20] at H
                      have c20b0 : (t194.toList == a0.toList) = false := beq_eq_false_iff_ne.mpr c20
                      have c20b1 : (t194.toList != a0.toList) = true := bne_iff_ne.mpr c20
                      simp only [Option.some.injEq, Prod.mk.injEq] at H
                      obtain ⟨rfl, rfl⟩ := H
                      go_wp2_with (first | ((with_reducible refine Bv (f := 49) rfl ?_); refine D5 (some 54) rfl rfl Tryd.func49 (by kernel_rfl) rfl #[.int .i64 (wrap64 (-x5_3))] rfl (by (try simp only [List.map_toArray, List.map_cons, List.map_nil]); first | done | rfl | (simp only [List.length_drop, List.length_take]; rfl)) ?_; (with_reducible refine (Dz.calls k3 (wrap64 (-x5_3)) t194 _ A19.out).mono ?_); rintro e w22 ⟨rfl, hb⟩; refine ⟨_, rfl, ?_⟩; have n0_ := Aa.mk (Ap (by repeat (first | (with_reducible first | exact HB.out | apply Ae | apply Ac | apply Ad) | exact HB.out)) hb); clear HB; have HB := n0_; clear n0_; (try clear hb); (try clear hb2); (try clear hk); (try clear hi)))
                      go_ret2
                      exact ⟨by first | rfl | (simp [Be, Bf] <;> rfl) | (simp [*, Be, Bf] <;> rfl), by repeat (first | (with_reducible first | exact HB.out | apply Ae | apply Ac | apply Ad) | exact HB.out)⟩
                  · rw [if_neg c18] at H
                    have c18b0 : decide ((x4_5.size : Int) < (a0.size : Int)) = false := decide_eq_false c18
                    have c18b1 : decide (x4_5.size < a0.size) = false := decide_eq_false (fun h => c18 (Int.ofNat_lt.mpr h))
                    clear c18
                    replace H := Option.bind_eq_some_iff.mp H
                    obtain ⟨t195, A230, H⟩ := H
                    replace H : (if t195.toList = a0.toList then (some (x5_3, true)) else (some (0, false))) = some (r1, r2) := H
                    have A23 := Aa.mk A230
                    clear A230
                    by_cases c24 : t195.toList = a0.toList
                    · rw [if_pos c24] at H
                      have c24b0 : (t195.toList == a0.toList) = true := beq_iff_eq.mpr c24
                      have c24b1 : (t195.toList != a0.toList) = false := bne_eq_false_iff_eq.mpr c24
                      clear c24
                      simp only [Option.some.injEq, Prod.mk.injEq] at H
                      obtain ⟨rfl, rfl⟩ := H
                      go_wp2_with (first | ((with_reducible refine Bv (f := 49) rfl ?_); refine D5 (some 54) rfl rfl Tryd.func49 (by kernel_rfl) rfl #[.int .i64 x5_3] rfl (by (try simp only [List.map_toArray, List.map_cons, List.map_nil]); first | done | rfl | (simp only [List.length_drop, List.length_take]; rfl)) ?_; (with_reducible refine (Dz.calls k3 x5_3 t195 _ A23.out).mono ?_); rintro e w25 ⟨rfl, hb⟩; refine ⟨_, rfl, ?_⟩; have n0_ := Aa.mk (Ap (by repeat (first | (with_reducible first | exact HB.out | apply Ae | apply Ac | apply Ad) | exact HB.out)) hb); clear HB; have HB := n0_; clear n0_; (try clear hb); (try clear hb2); (try clear hk); (try clear hi)))
                      go_ret2
                      exact ⟨by first | rfl | (simp [Be, Bf] <;> rfl) | (simp [*, Be, Bf] <;> rfl), by repeat (first | (with_reducible first | exact HB.out | apply Ae | apply Ac | apply Ad) | exact HB.out)⟩
                    · rw [if_neg c24] at H
                      have c24b0 : (t195.toList == a0.toList) = false := beq_eq_false_iff_ne.mpr c24
                      have c24b1 : (t195.toList != a0.toList) = true := bne_iff_ne.mpr c24
                      simp only [Option.some.injEq, Prod.mk.injEq] at H
                      obtain ⟨rfl, rfl⟩ := H
                      go_wp2_with (first | ((with_reducible refine Bv (f := 49) rfl ?_); refine D5 (some 54) rfl rfl Tryd.func49 (by kernel_rfl) rfl #[.int .i64 x5_3] rfl (by (try simp only [List.map_toArray, List.map_cons, List.map_nil]); first | done | rfl | (simp only [List.length_drop, List.length_take]; rfl)) ?_; (with_reducible refine (Dz.calls k3 x5_3 t195 _ A23.out).mono ?_); rintro e w26 ⟨rfl, hb⟩; refine ⟨_, rfl, ?_⟩; have n0_ := Aa.mk (Ap (by repeat (first | (with_reducible first | exact HB.out | apply Ae | apply Ac | apply Ad) | exact HB.out)) hb); clear HB; have HB := n0_; clear n0_; (try clear hb); (try clear hb2); (try clear hk); (try clear hi)))
                      go_ret2
                      exact ⟨by first | rfl | (simp [Be, Bf] <;> rfl) | (simp [*, Be, Bf] <;> rfl), by repeat (first | (with_reducible first | exact HB.out | apply Ae | apply Ac | apply Ad) | exact HB.out)⟩
          · replace c10 := Bool.eq_false_iff.mpr c10
            subst c10
            have H1 : (some (0, false)) = some (r1, r2) := by rw [if_neg (show ¬ (false = true) by decide)] at H; exact H
            clear H
            have H := H1
            clear H1
            simp only [Option.some.injEq, Prod.mk.injEq] at H
            obtain ⟨rfl, rfl⟩ := H
            go_wp2_with (first | ((with_reducible refine Bv (f := 47) rfl ?_); refine D5 (some 20) rfl rfl Tryd.func47 (by kernel_rfl) rfl #[.int .i64 (x4_5.size : Int), .int .i64 1, .int .i64 6] rfl (by (try simp only [List.map_toArray, List.map_cons, List.map_nil]); first | done | rfl | (simp only [List.length_drop, List.length_take]; rfl)) ?_; (with_reducible refine (Gw.calls (x4_5.size : Int) 1 6 false _ A9.out).mono ?_); rintro e w' ⟨rfl, ⟨nd, rfl⟩⟩; refine ⟨_, rfl, ?_⟩))
            go_ret2
            exact ⟨by first | rfl | (simp [Be, Bf] <;> rfl) | (simp [*, Be, Bf] <;> rfl), by repeat (first | (with_reducible first | exact HB.out | apply Ae | apply Ac | apply Ad) | exact HB.out)⟩
end Go.Proofs.YtpalafegcndccaaDoor.X

namespace Go.Proofs.YtpalafegcndccaaDoor.X
open Go.RowKit Go.Proofs.YtpalafegcndccaaDoorW.PrintWords Go.Proofs.YtpalafegcndccaaDoorL
theorem l1In_is (a b c : Int) : Gw.f a b c = some (decide (b ≤ a) && decide (a ≤ c)) := by
  unfold Gw.f
  by_cases h : a ≥ b
  · rw [if_pos h]; simp [show b ≤ a from h]
  · rw [if_neg h]; simp [show ¬ b ≤ a from h]
end Go.Proofs.YtpalafegcndccaaDoor.X

namespace Go.Proofs.YtpalafegcndccaaDoor.X
open Go.RowKit Go.Proofs.YtpalafegcndccaaDoorW.PrintWords Go.Proofs.YtpalafegcndccaaDoorL
theorem readAny_ev (x : ByteArray) (hx : x.size ≤ 1000) : ∃ v o, Ev (fun k => Df.f k x) (v, o) ∧ ∀ u : Nat, u ≤ 999999 → B x = Lib.decDigits u → v = (u : Int) ∧ o = true := by
  have hs := Hm x
  have loop : ∀ y : ByteArray, (B y).length ≤ 6 → ∀ (d n : Nat), n + d = (B y).length → (∀ b ∈ (B y).take n, isD b) → ∃ v o, Ev (fun k => Df.l0 k x y (val 0 ((B y).take n) : Int) (n : Int)) (v, o) ∧ (y = x → ∀ u : Nat, u ≤ 999999 → B x = Lib.decDigits u → v = (u : Int) ∧ o = true) := by
    intro y hy6 d
    have hys := Hm y
    have vb : ∀ n, n ≤ (B y).length → (∀ b ∈ (B y).take n, isD b) → val 0 ((B y).take n) < 1000000 := fun n hn hd => by
      have hv := val_lt ((B y).take n) 0 0 hd (by simp)
      have hv2 : val 0 ((B y).take n) < 10 ^ 6 := Nat.lt_of_lt_of_le hv (Nat.pow_le_pow_right (by omega) (by rw [List.length_take]; omega))
      exact hv2
    induction d with
    | zero =>
      intro n hn hd
      obtain rfl : n = (B y).length := by omega
      have hv3 := vb _ (Nat.le_refl _) hd
      rw [List.take_length] at hd hv3 ⊢
      by_cases c : (y.size : Int) < (x.size : Int)
      · have w1 : wrap64 (-(val 0 (B y) : Int)) = -(val 0 (B y) : Int) := Gi (by omega) (by omega)
        have fin : ∀ r, Ev (fun k => (Dz.f k (-(val 0 (B y) : Int))).bind fun t => if t.toList = x.toList then some (-(val 0 (B y) : Int), true) else some (0, false)) r → Ev (fun k => Df.l0 k x y (val 0 (B y) : Int) ((B y).length : Int)) r := fun r h => by
          refine Ev.step (fun k => ?_) h
          simp only [Df.l0]
          rw [if_neg (by omega), if_pos c, w1]
        by_cases e : (dec (-(val 0 (B y) : Int))).toList = x.toList
        · exact ⟨_, true, fin _ (Ev.bind (Ji _ (by omega) (by omega)) (Ev.congr (fun k => if_pos e) (Ev.now _))), fun h => by subst h; omega⟩
        · exact ⟨0, false, fin _ (Ev.bind (Ji _ (by omega) (by omega)) (Ev.congr (fun k => if_neg e) (Ev.now _))), fun h => by subst h; omega⟩
      · have fin : ∀ r, Ev (fun k => (Dz.f k (val 0 (B y) : Int)).bind fun t => if t.toList = x.toList then some ((val 0 (B y) : Int), true) else some (0, false)) r → Ev (fun k => Df.l0 k x y (val 0 (B y) : Int) ((B y).length : Int)) r := fun r h => by
          refine Ev.step (fun k => ?_) h
          simp only [Df.l0]
          rw [if_neg (by omega), if_neg c]
        by_cases e : (dec (val 0 (B y) : Int)).toList = x.toList
        · refine ⟨_, true, fin _ (Ev.bind (Ji _ (by omega) (by omega)) (Ev.congr (fun k => if_pos e) (Ev.now _))), fun h u hu eu => ⟨?_, rfl⟩⟩
          rw [h, eu, val_dd u u (Nat.le_refl _)]
        · refine ⟨0, false, fin _ (Ev.bind (Ji _ (by omega) (by omega)) (Ev.congr (fun k => if_neg e) (Ev.now _))), fun h u hu eu => absurd ?_ e⟩
          rw [Hy, Hy, h, eu, val_dd u u (Nat.le_refl _), B_decN]
    | succ d ih =>
      intro n hn hd
      have hl2 : n < (B y).length := by omega
      have hb := bt_B y n hl2
      by_cases c : isD (B y)[n]
      · have hd2 : ∀ b ∈ (B y).take (n + 1), isD b := by
          intro b hb2
          rw [List.take_succ_eq_append_getElem hl2, List.mem_append] at hb2
          rcases hb2 with h | h
          · exact hd b h
          · simp only [List.mem_singleton] at h; rw [h]; exact c
        obtain ⟨v, o, he, hr⟩ := ih (n + 1) (by omega) hd2
        refine ⟨v, o, Ev.step (fun k => ?_) he, hr⟩
        have hv3 := vb (n + 1) (by omega) hd2
        unfold isD at c
        rw [List.take_succ_eq_append_getElem hl2, val_snoc] at hv3 ⊢
        simp only [Df.l0]
        rw [if_pos (by omega), if_pos (by omega), if_neg (by omega), if_neg (by omega), wrap_succ (by omega)]
        have e1 : wrap64 (10 * (val 0 ((B y).take n) : Int)) = 10 * (val 0 ((B y).take n) : Int) := Gi (by omega) (by omega)
        have e2 : (bt y (n : Int) - 48) % 256 = ((B y)[n].toNat - 48 : Nat) := by omega
        have e3 : wrap64 (10 * (val 0 ((B y).take n) : Int) + (((B y)[n].toNat - 48 : Nat) : Int)) = ((val 0 ((B y).take n) * 10 + ((B y)[n].toNat - 48) : Nat) : Int) := by rw [Gi (by omega) (by omega)]; omega
        rw [e1, e2, e3]
      · refine ⟨0, false, Ev.step (f := fun _ => some (0, false)) (fun k => ?_) (Ev.now _), fun h u hu eu => absurd ?_ c⟩
        · simp only [Df.l0]
          unfold isD at c
          rw [if_pos (by omega), if_pos (by omega)]
          by_cases q : bt y (n : Int) < 48
          · rw [if_pos q]
          · rw [if_neg q, if_pos (by omega)]
        · subst h
          have := dd_range u u (Nat.le_refl _)
          rw [← eu] at this
          exact this _ (List.getElem_mem hl2)
  have j1 : ∀ y : ByteArray, y.size ≤ 1000 → ∃ v o, Ev (fun k => Df.j1 k x y) (v, o) ∧ (y = x → ∀ u : Nat, u ≤ 999999 → B x = Lib.decDigits u → v = (u : Int) ∧ o = true) := by
    intro y hy
    have hys := Hm y
    by_cases c : 1 ≤ y.size ∧ y.size ≤ 6
    · obtain ⟨v, o, he, hr⟩ := loop y (by omega) (B y).length 0 (by omega) (by simp)
      refine ⟨v, o, Ev.step (fun k => ?_) he, hr⟩
      simp only [Df.j1, l1In_is, Option.bind_some]
      rw [show (decide ((1 : Int) ≤ (y.size : Int)) && decide ((y.size : Int) ≤ 6)) = true from by simp; omega, if_pos rfl]
      rfl
    · refine ⟨0, false, Ev.step (f := fun _ => some (0, false)) (fun k => ?_) (Ev.now _), fun h u hu eu => absurd ?_ c⟩
      · simp only [Df.j1, l1In_is, Option.bind_some]
        rw [show (decide ((1 : Int) ≤ (y.size : Int)) && decide ((y.size : Int) ≤ 6)) = false from by simp; omega]
        rfl
      · subst h
        have h1 := dd_len 6 u (by omega) (by omega)
        have h2 := List.length_pos_iff.2 (dd_ne u)
        rw [← eu] at h1 h2
        omega
  by_cases c : (x.size : Int) > 1
  · by_cases m : (bt x 0 == 45) = true
    · obtain ⟨v, o, he, _⟩ := j1 (x.extract 1 x.size) (by rw [ByteArray.size_extract]; omega)
      refine ⟨v, o, Ev.congr (f := fun k => Df.j0 k x x true) (fun k => ?_) (Ev.step (fun k => ?_) he), fun u hu eu => ?_⟩
      · unfold Df.f; rw [if_pos c, if_pos (by omega), m]
      · simp only [Df.j0, if_true]; rw [if_pos (by omega)]
      · exfalso
        have hl0 : 0 < (B x).length := by omega
        have h0 := bt_B x 0 hl0
        have hh := dd_range u u (Nat.le_refl _)
        rw [← eu] at hh
        have := hh _ (List.getElem_mem hl0)
        unfold isD at this
        have m2 : bt x 0 = 45 := by simpa using m
        have h1 : bt x ((0 : Nat) : Int) = 45 := m2
        omega
    · obtain ⟨v, o, he, hr⟩ := j1 x (by omega)
      refine ⟨v, o, Ev.congr (f := fun k => Df.j0 k x x false) (fun k => ?_) (Ev.step (fun k => ?_) he), hr rfl⟩
      · unfold Df.f; rw [if_pos c, if_pos (by omega), Bool.eq_false_iff.2 m]
      · simp only [Df.j0, Bool.false_eq_true, if_false]
  · obtain ⟨v, o, he, hr⟩ := j1 x (by omega)
    refine ⟨v, o, Ev.congr (f := fun k => Df.j0 k x x false) (fun k => ?_) (Ev.step (fun k => ?_) he), hr rfl⟩
    · unfold Df.f; rw [if_neg c]
    · simp only [Df.j0, Bool.false_eq_true, if_false]
end Go.Proofs.YtpalafegcndccaaDoor.X

namespace Go.Proofs.YtpalafegcndccaaDoor.X
open Go.RowKit Go.Proofs.YtpalafegcndccaaDoorW.PrintWords Go.Proofs.YtpalafegcndccaaDoorW.PrintLast Go.Proofs.YtpalafegcndccaaDoorW.PrintMore
attribute [local go_sem] Ej Eg Eu Ew D9 D8 Ei Eh
open Go.Proofs.YtpalafegcndccaaDoorG
def Ea.l0 : Nat → ByteArray → Int → Option (Int × Int × Bool)
  | 0, _, _ => none
  | k + 1, x0, x4 => if x4 < (x0.size : Int) then (if 0 ≤ x4 then (if (bt x0 x4) = 32 then (if x4 ≤ (x0.size : Int) then ((Df.f k (x0.extract 0 (x4 : Int).toNat)).bind fun bt198 => ((G7.f).bind fun t200 => (if 0 ≤ (wrap64 (x4 + 1)) then (if (wrap64 (x4 + 1)) ≤ (x0.size : Int) then ((Em.f k t200 (x0.extract ((wrap64 (x4 + 1)) : Int).toNat x0.size)).bind fun t203 => (if bt198.2 = true then (some (bt198.1, t203, decide (t203 > 0))) else (some (bt198.1, t203, false)))) else (none)) else (none)))) else (none)) else (Ea.l0 k x0 (wrap64 (x4 + 1)))) else (none)) else (some (0, 0, false))
def Ea.f (k : Nat) (a0 : ByteArray) : Option (Int × Int × Bool) := Ea.l0 k a0 0
theorem Ea.Et : ∀ k, (∀ y0 y1, LeO (Ea.l0 k y0 y1) (Ea.l0 (k + 1) y0 y1))
  | 0 => fun _ _ r h => by simp [Ea.l0] at h
  | k + 1 => by
    have ih0 := Ea.Et k
    · intro y0 y1
      unfold Ea.l0
      repeat' first
      | (with_reducible exact ih0 _ _)
      | (with_reducible exact Df.mono _ _)
      | (with_reducible exact Em.mono _ _ _)
      | (with_reducible exact LeO.refl _)
      | (with_reducible exact LeO.none _)
      | (with_reducible refine LeO.ite ?_ ?_)
      | (with_reducible refine LeO.bind ?_ (fun _ => ?_))
      | exact ih0 _ _
      | exact Df.mono _ _
      | exact Em.mono _ _ _
      | exact LeO.none _
      | refine LeO.ite ?_ ?_
      | refine LeO.bind ?_ (fun _ => ?_)
theorem Ea.mono : ∀ a0 k, LeO (Ea.f k a0) (Ea.f (k + 1) a0) := by
  intro a0 k
  have ih0 := Ea.Et k
  unfold Ea.f
  repeat' first
      | (with_reducible exact ih0 _ _)
      | (with_reducible exact Df.mono _ _)
      | (with_reducible exact Em.mono _ _ _)
      | (with_reducible exact LeO.refl _)
      | (with_reducible exact LeO.none _)
      | (with_reducible refine LeO.ite ?_ ?_)
      | (with_reducible refine LeO.bind ?_ (fun _ => ?_))
      | exact ih0 _ _
      | exact Df.mono _ _
      | exact Em.mono _ _ _
      | exact LeO.none _
      | refine LeO.ite ?_ ?_
      | refine LeO.bind ?_ (fun _ => ?_)
set_option maxHeartbeats 8000000 in
set_option maxRecDepth 100000 in
theorem Ea.calls (k : Nat) (a0 : ByteArray) (r1 : Int) (r2 : Int) (r3 : Bool) (w : World) (h : Ea.f k a0 = some (r1, r2, r3)) :
    Calls Tryd.prog 31 #[.string a0] w fun e w' => e = .returned (.tuple #[.agg #[.int .i64 r1, .int .i64 r2], .bool r3]) ∧ Below w.heap.size w w' := by
  have hu40 := Tryd.underlying40
  have HB := Aa.mk (Below.refl w.heap.size w)
  have H : (Ea.l0 k a0 0) = some (r1, r2, r3) := h
  clear h
  have H' := Aa.mk H
  clear H
  go_enter Tryd.func31, Tryd.ntmps31
  go_wp2_with (first | ((with_reducible refine D7 (N := 2) rfl ?_); refine Es ?hg (N := 2) ?hd (cs := #[.int .i64 0, .int .i64 0]) (t := 40) ?hr ?_; (case hd => rfl); (case hg => rfl); (case hr => first | (go_simp; done) | (go_simp; rfl)); intro gb197 hg w2 hbox hb; have n0_ := Aa.mk (Ap (by repeat (first | (with_reducible first | exact HB.out | apply Ae | apply Ac | apply Ad) | exact HB.out)) hb); have n1_ := Aa.mk (hbox); have n2_ := Aa.mk ((by rw [hg]; exact (Aq (by repeat (first | (with_reducible first | exact HB.out | apply Ae | apply Ac | apply Ad) | exact HB.out))) : w.heap.size ≤ gb197)); have n3_ := Aa.mk ((by rw [hg]; exact (Aq (by repeat (first | (with_reducible first | exact HB.out | apply Ae | apply Ac | apply Ad) | exact HB.out))) : w.heap.size ≤ gb197)); clear HB; have HB := n0_; have BK197 := n1_; have GW197 := n2_; have GE197 := n3_; clear n0_ n1_ n2_ n3_; clear hb hbox hg))
  go_loopg [4] k (fun kq v4 w' => ∃ (x4_1 : Int) (x198000_1 : Int) (x198001_1 : Int), v4 = .int .i64 x4_1 ∧ Aa (Ea.l0 kq a0 x4_1 = some (r1, r2, r3)) ∧ Aa (kq ≤ k) ∧ Aa (w'.heap[gb197]? = some (.cells #[.int .i64 x198000_1, .int .i64 x198001_1] 40 (0, 0))) ∧ Aa (Below w.heap.size w w'))
  case atStart => exact ⟨(0), (0), (0), (by first | rfl | (simp; done) | (simp [*]; done)), H', ⟨Nat.le_refl _⟩, ⟨by (with_reducible repeat (first | refine Au ?_ _ | refine Az ?_ | refine Ar ?_ _)); exact BK197.out⟩, ⟨by repeat (first | (with_reducible first | exact HB.out | apply Ae | apply Ac | apply Ad | refine Ag ?_ GE197.out) | exact HB.out)⟩⟩
  case round =>
    clear H'
    try clear p2
    obtain ⟨x4_1, x198000_1, x198001_1, rfl, HA, HK1, BK197, HB⟩ := hrel
    cases gk with
    | zero => exact absurd HA.out (by simp [Ea.l0])
    | succ k1 =>
      have H := HA.out
      clear HA
      simp only [Ea.l0] at H
      by_cases c3 : x4_1 < (a0.size : Int)
      · rw [if_pos c3] at H
        have c3b0 : decide (x4_1 < (a0.size : Int)) = true := decide_eq_true c3
        clear c3
        by_cases c4 : 0 ≤ x4_1
        · rw [if_pos c4] at H
          have c4b0 : decide (0 ≤ x4_1) = true := decide_eq_true c4
          clear c4
          by_cases c6 : (bt a0 x4_1) = 32
          · rw [if_pos c6] at H
            have c6b0 : ((bt a0 x4_1) == 32) = true := beq_iff_eq.mpr c6
            have c6b1 : ((bt a0 x4_1) != 32) = false := bne_eq_false_iff_eq.mpr c6
            clear c6
            have c7b0 := eq_true (of_decide_eq_true (by first | (with_reducible assumption) | assumption) : 0 ≤ x4_1)
            by_cases c8 : x4_1 ≤ (a0.size : Int)
            · rw [if_pos c8] at H
              have c8b0 := eq_true c8
              have c8b1 : decide (x4_1 ≤ (a0.size : Int)) = true := decide_eq_true c8
              clear c8
              replace H := Option.bind_eq_some_iff.mp H
              obtain ⟨⟨t198, t199⟩, A90, H⟩ := H
              replace H : ((G7.f).bind fun t200 => (if 0 ≤ (wrap64 (x4_1 + 1)) then (if (wrap64 (x4_1 + 1)) ≤ (a0.size : Int) then ((Em.f k1 t200 (a0.extract ((wrap64 (x4_1 + 1)) : Int).toNat a0.size)).bind fun t203 => (if t199 = true then (some (t198, t203, decide (t203 > 0))) else (some (t198, t203, false)))) else (none)) else (none))) = some (r1, r2, r3) := H
              have A9 := Aa.mk A90
              clear A90
              replace H := Option.bind_eq_some_iff.mp H
              obtain ⟨t200, A100, H⟩ := H
              replace H : (if 0 ≤ (wrap64 (x4_1 + 1)) then (if (wrap64 (x4_1 + 1)) ≤ (a0.size : Int) then ((Em.f k1 t200 (a0.extract ((wrap64 (x4_1 + 1)) : Int).toNat a0.size)).bind fun t203 => (if t199 = true then (some (t198, t203, decide (t203 > 0))) else (some (t198, t203, false)))) else (none)) else (none)) = some (r1, r2, r3) := H
              have A10 := Aa.mk A100
              clear A100
              obtain ⟨ji11, hji11⟩ : ∃ j_ : Int, (wrap64 (x4_1 + 1)) = j_ := ⟨_, rfl⟩
              replace H : (if 0 ≤ (ji11) then (if (ji11) ≤ (a0.size : Int) then ((Em.f k1 t200 (a0.extract ((ji11) : Int).toNat a0.size)).bind fun t203 => (if t199 = true then (some (t198, t203, decide (t203 > 0))) else (some (t198, t203, false)))) else (none)) else (none)) = some (r1, r2, r3) := by first | (rw [hji11] at H; exact H) | (simp only [hji11] at H ⊢; exact H)
              (try rw [hji11] at A9)
              (try rw [hji11] at A10)
              have hji11w : (IntKind.i64.wrap (x4_1 + 1)) = ji11 := (Dh _).trans hji11
              by_cases c12 : 0 ≤ (ji11)
              · rw [if_pos c12] at H
                have c12b0 := eq_true c12
                have c12b1 : decide (0 ≤ (ji11)) = true := decide_eq_true c12
                clear c12
                by_cases c13 : (ji11) ≤ (a0.size : Int)
                · rw [if_pos c13] at H
                  have c13b0 := eq_true c13
                  have c13b1 : decide ((ji11) ≤ (a0.size : Int)) = true := decide_eq_true c13
                  clear c13
                  replace H := Option.bind_eq_some_iff.mp H
                  obtain ⟨t203, A140, H⟩ := H
                  replace H : (if t199 = true then (some (t198, t203, decide (t203 > 0))) else (some (t198, t203, false))) = some (r1, r2, r3) := H
                  have A14 := Aa.mk A140
                  clear A140
                  by_cases c15 : t199 = true
                  · subst c15
                    have H1 : (some (t198, t203, decide (t203 > 0))) = some (r1, r2, r3) := by rw [if_pos rfl] at H; exact H
                    clear H
                    have H := H1
                    clear H1
                    simp only [Option.some.injEq, Prod.mk.injEq] at H
                    obtain ⟨rfl, rfl, rfl⟩ := H
                    have p5 : 0 ≤ (x4_1 : Int) := of_decide_eq_true (by first | (with_reducible assumption) | assumption)
                    have q5 : x4_1 < (a0.size : Int) := of_decide_eq_true (by first | (with_reducible assumption) | assumption)
                    have hx5 := bt_at a0 x4_1
                    replace p5 := eq_true p5
                    replace q5 := eq_true q5
                    try go_wp2_with (first | ((with_reducible refine Bv (f := 54) rfl ?_); refine D5 (some 22) rfl rfl Tryd.func54 (by kernel_rfl) rfl #[.string (a0.extract 0 (x4_1 : Int).toNat)] rfl (by (try simp only [List.map_toArray, List.map_cons, List.map_nil]); first | done | rfl | (simp only [List.length_drop, List.length_take]; rfl)) ?_; (with_reducible refine (Df.calls k1 (a0.extract 0 (x4_1 : Int).toNat) t198 true _ A9.out).mono ?_); rintro e w16 ⟨rfl, hb⟩; refine ⟨_, rfl, ?_⟩; have n0_ := Aa.mk (Dv (g := gb197) (o := .cells #[.int .i64 x198000_1, .int .i64 x198001_1] 40 (0, 0)) (by (with_reducible repeat (first | refine Au ?_ _ | refine Az ?_ | refine Ar ?_ _)); exact BK197.out) hb); have n1_ := Aa.mk (Ap (by repeat (first | (with_reducible first | exact HB.out | apply Ae | apply Ac | apply Ad | refine Ag ?_ GE197.out) | exact HB.out)) hb); clear BK197; clear HB; have BK197 := n0_; have HB := n1_; clear n0_ n1_; (try clear hb); (try clear hb2); (try clear hk); (try clear hi)))
                    have n0_ := Aa.mk (Az BK197.out)
                    have n1_ := Aa.mk (Ad HB.out)
                    clear BK197
                    clear HB
                    have BK197 := n0_
                    have HB := n1_
                    clear n0_ n1_
                    refine start_ (n := 7) (S := fun w' => True) (ds := []) #[false, false, false, false, false, false, false] (by kernel_rfl) rfl rfl trivial (fun hHeld => ?_)
                    generalize w16.drew = w17 at BK197 HB hHeld ⊢
                    refine Fq (i := 1) (N := some 26) (v := ?_) (a' := ?_) #[false, true, false, false, false, false, false] rfl rfl (by kernel_rfl) (fun _ _ _ h => h) (Or.inl ⟨by rfl, ?_⟩) ?_ ?_
                    rotate_left
                    · intro w'
                      go_simp
                      with_reducible rfl
                    rotate_left
                    · simp only [Act.put, List.setIfInBounds_toArray, List.set_cons_zero, List.set_cons_succ, Dh, Dp]
                      rfl
                    refine Fq (i := 2) (N := some 27) (v := ?_) (a' := ?_) #[false, true, true, false, false, false, false] rfl rfl (by kernel_rfl) (fun _ _ _ h => h) (Or.inl ⟨by rfl, ?_⟩) ?_ ?_
                    rotate_left
                    · intro w'
                      go_simp
                      with_reducible rfl
                    rotate_left
                    · simp only [Act.put, List.setIfInBounds_toArray, List.set_cons_zero, List.set_cons_succ, Dh, Dp]
                      rfl
                    refine Fq (i := 3) (N := some 28) (v := ?_) (a' := ?_) #[false, true, true, true, false, false, false] rfl rfl (by kernel_rfl) (fun _ _ _ h => h) (Or.inl ⟨by rfl, ?_⟩) ?_ ?_
                    rotate_left
                    · intro w'
                      go_simp
                      with_reducible rfl
                    rotate_left
                    · simp only [Act.put, List.setIfInBounds_toArray, List.set_cons_zero, List.set_cons_succ, Dh, Dp]
                      rfl
                    refine Fq (i := 4) (N := some 29) (v := ?_) (a' := ?_) #[false, true, true, true, true, false, false] rfl rfl (by kernel_rfl) (fun _ _ _ h => h) (Or.inl ⟨by rfl, ?_⟩) ?_ ?_
                    rotate_left
                    · intro w'
                      go_simp
                      with_reducible rfl
                    rotate_left
                    · simp only [Act.put, List.setIfInBounds_toArray, List.set_cons_zero, List.set_cons_succ, Dh, Dp]
                      rfl
                    refine one_ (i := 0) (N := some 25) #[true, true, true, true, true, false, false] rfl rfl (by kernel_rfl) (by decide) (fun K hK => ?_)
                    refine goes_ Tryd.func50 (by kernel_rfl) rfl #[] (by rfl) rfl rfl (by (try simp only [List.map_toArray, List.map_cons, List.map_nil]); first | done | rfl | (simp only [List.length_drop, List.length_take]; rfl)) ?_
                    with_reducible refine (G7.calls  t200 _ A10.out).mono ?_
                    rintro e w18 ⟨v201, rfl, ho0, hb⟩
                    refine ⟨_, rfl, ?_⟩
                    have n0_ := Aa.mk (Kd.Du ho0 (Aq (by repeat (first | (with_reducible first | exact HB.out | apply Ae | apply Ac | apply Ad | refine Ag ?_ GE197.out) | exact HB.out))))
                    have n1_ := Aa.mk (Dv (g := gb197) (o := .cells #[.int .i64 x198000_1, .int .i64 x198001_1] 40 (0, 0)) (by (with_reducible repeat (first | refine Au ?_ _ | refine Az ?_ | refine Ar ?_ _)); exact BK197.out) hb)
                    have n2_ := Aa.mk (Ap (by repeat (first | (with_reducible first | exact HB.out | apply Ae | apply Ac | apply Ad | refine Ag ?_ GE197.out) | exact HB.out)) hb)
                    clear BK197
                    clear HB
                    have HO202 := n0_
                    have BK197 := n1_
                    have HB := n2_
                    clear n0_ n1_ n2_
                    (try clear hb)
                    (try clear hb2)
                    (try clear hk)
                    (try clear hi)
                    (try clear ho0)
                    obtain ⟨Ao19, co19, eo19⟩ := Kd.Ef HO202.out
                    (first | subst eo19 | (injection eo19 with f1_ f2_ f3_; have f4_ := f1_.symm; have f5_ := f3_.symm; clear f1_ f2_ f3_; subst f4_; subst f5_))
                    refine hK.out _ _ trivial (fun hHeld => ?_)
                    clear hK K
                    refine E5 (a' := ?_) ?_ ?_
                    rotate_left
                    · show Act.put _ (some 25) _ = _
                      simp only [Act.put, List.setIfInBounds_toArray, List.set_cons_zero, List.set_cons_succ, Dh, Dp]
                      rfl
                    refine one_ (i := 5) (N := some 30) #[true, true, true, true, true, true, false] rfl rfl (by kernel_rfl) (by decide) (fun K hK => ?_)
                    refine goes_ Tryd.func55 (by kernel_rfl) rfl #[.slice Ao19 t200.length co19, .string (a0.extract ((ji11) : Int).toNat a0.size)] (by rfl) rfl rfl (by (try simp only [List.map_toArray, List.map_cons, List.map_nil]); first | done | (simp only [hji11]; rfl) | rfl | (simp only [List.length_drop, List.length_take]; rfl)) ?_
                    with_reducible refine (Em.calls k1 _ _ t200 (a0.extract ((ji11) : Int).toNat a0.size) t203 _ ?side1 ?side2 A14.out).mono ?_
                    (case side1 => repeat (first | exact (Kd.Ba HO202.out).2.2 | (with_reducible refine Kd.Ci ?_ _) | (with_reducible refine Kd.Cf ?_ _) | (with_reducible refine Kd.Di ?_)))
                    (case side2 => exact (Kd.Ba HO202.out).2.1)
                    rintro e w' ⟨rfl, ⟨nd, rfl⟩⟩
                    refine ⟨_, rfl, ?_⟩
                    refine hK.out _ _ trivial (fun hHeld => ?_)
                    clear hK K
                    refine E5 (a' := ?_) ?_ ?_
                    rotate_left
                    · show Act.put _ (some 30) _ = _
                      simp only [Act.put, List.setIfInBounds_toArray, List.set_cons_zero, List.set_cons_succ, Dh, Dp]
                      rfl
                    refine Fq (i := 6) (N := some 7) (v := ?_) (a' := ?_) #[true, true, true, true, true, true, true] rfl rfl (by kernel_rfl) (fun _ _ _ h => h) (Or.inl ⟨by rfl, ?_⟩) ?_ ?_
                    rotate_left
                    · intro w'
                      go_simp
                      with_reducible rfl
                    rotate_left
                    · simp only [Act.put, List.setIfInBounds_toArray, List.set_cons_zero, List.set_cons_succ, Dh, Dp]
                      rfl
                    refine done_ (by kernel_rfl) ?_
                    have hcz20_0 : w18.cell? ⟨gb197, 0, none⟩ = some (.int .i64 x198000_1) := (Bd BK197.out 0).trans rfl
                    have hcz20_1 : w18.cell? ⟨gb197, 1, none⟩ = some (.int .i64 x198001_1) := (Bd BK197.out 1).trans rfl
                    have hfz20_0 := Bl BK197.out 0
                    have hfz20_1 := Bl BK197.out 1
                    try go_wp2
                    refine bodyPost_ret (results_ct rfl _ _ gb197 40 #[.int .i64 t198, .int .i64 t203] (0, 0) _ rfl (by (with_reducible repeat (first | refine Au ?_ _ | refine Az ?_ | refine Ar ?_ _)); refine Fv (cs := #[.int .i64 t198, .int .i64 x198001_1]) ?_ 1 _ rfl; (with_reducible repeat (first | refine Au ?_ _ | refine Az ?_ | refine Ar ?_ _)); refine Fv (cs := #[.int .i64 x198000_1, .int .i64 x198001_1]) ?_ 0 _ rfl; (with_reducible repeat (first | refine Au ?_ _ | refine Az ?_ | refine Ar ?_ _)); exact BK197.out) Tryd.underlying40 rfl (by kernel_rfl)) rfl ?_
                    exact ⟨by first | rfl | (simp [Be, Bf] <;> rfl) | (simp only [← hji11]; first | rfl | (simp [Be, Bf] <;> rfl)) | (simp [*, Be, Bf] <;> rfl), by repeat (first | (with_reducible first | exact HB.out | apply Ae | apply Ac | apply Ad | refine Ag ?_ GE197.out) | exact HB.out)⟩
                  · replace c15 := Bool.eq_false_iff.mpr c15
                    subst c15
                    have H1 : (some (t198, t203, false)) = some (r1, r2, r3) := by rw [if_neg (show ¬ (false = true) by decide)] at H; exact H
                    clear H
                    have H := H1
                    clear H1
                    simp only [Option.some.injEq, Prod.mk.injEq] at H
                    obtain ⟨rfl, rfl, rfl⟩ := H
                    have p5 : 0 ≤ (x4_1 : Int) := of_decide_eq_true (by first | (with_reducible assumption) | assumption)
                    have q5 : x4_1 < (a0.size : Int) := of_decide_eq_true (by first | (with_reducible assumption) | assumption)
                    have hx5 := bt_at a0 x4_1
                    replace p5 := eq_true p5
                    replace q5 := eq_true q5
                    try go_wp2_with (first | ((with_reducible refine Bv (f := 54) rfl ?_); refine D5 (some 22) rfl rfl Tryd.func54 (by kernel_rfl) rfl #[.string (a0.extract 0 (x4_1 : Int).toNat)] rfl (by (try simp only [List.map_toArray, List.map_cons, List.map_nil]); first | done | rfl | (simp only [List.length_drop, List.length_take]; rfl)) ?_; (with_reducible refine (Df.calls k1 (a0.extract 0 (x4_1 : Int).toNat) t198 false _ A9.out).mono ?_); rintro e w21 ⟨rfl, hb⟩; refine ⟨_, rfl, ?_⟩; have n0_ := Aa.mk (Dv (g := gb197) (o := .cells #[.int .i64 x198000_1, .int .i64 x198001_1] 40 (0, 0)) (by (with_reducible repeat (first | refine Au ?_ _ | refine Az ?_ | refine Ar ?_ _)); exact BK197.out) hb); have n1_ := Aa.mk (Ap (by repeat (first | (with_reducible first | exact HB.out | apply Ae | apply Ac | apply Ad | refine Ag ?_ GE197.out) | exact HB.out)) hb); clear BK197; clear HB; have BK197 := n0_; have HB := n1_; clear n0_ n1_; (try clear hb); (try clear hb2); (try clear hk); (try clear hi)))
                    have n0_ := Aa.mk (Az BK197.out)
                    have n1_ := Aa.mk (Ad HB.out)
                    clear BK197
                    clear HB
                    have BK197 := n0_
                    have HB := n1_
                    clear n0_ n1_
                    refine start_ (n := 7) (S := fun w' => True) (ds := []) #[false, false, false, false, false, false, false] (by kernel_rfl) rfl rfl trivial (fun hHeld => ?_)
                    generalize w21.drew = w22 at BK197 HB hHeld ⊢
                    refine Fq (i := 1) (N := some 26) (v := ?_) (a' := ?_) #[false, true, false, false, false, false, false] rfl rfl (by kernel_rfl) (fun _ _ _ h => h) (Or.inl ⟨by rfl, ?_⟩) ?_ ?_
                    rotate_left
                    · intro w'
                      go_simp
                      with_reducible rfl
                    rotate_left
                    · simp only [Act.put, List.setIfInBounds_toArray, List.set_cons_zero, List.set_cons_succ, Dh, Dp]
                      rfl
                    refine Fq (i := 2) (N := some 27) (v := ?_) (a' := ?_) #[false, true, true, false, false, false, false] rfl rfl (by kernel_rfl) (fun _ _ _ h => h) (Or.inl ⟨by rfl, ?_⟩) ?_ ?_
                    rotate_left
                    · intro w'
                      go_simp
                      with_reducible rfl
                    rotate_left
                    · simp only [Act.put, List.setIfInBounds_toArray, List.set_cons_zero, List.set_cons_succ, Dh, Dp]
                      rfl
                    refine Fq (i := 3) (N := some 28) (v := ?_) (a' := ?_) #[false, true, true, true, false, false, false] rfl rfl (by kernel_rfl) (fun _ _ _ h => h) (Or.inl ⟨by rfl, ?_⟩) ?_ ?_
                    rotate_left
                    · intro w'
                      go_simp
                      with_reducible rfl
                    rotate_left
                    · simp only [Act.put, List.setIfInBounds_toArray, List.set_cons_zero, List.set_cons_succ, Dh, Dp]
                      rfl
                    refine Fq (i := 4) (N := some 29) (v := ?_) (a' := ?_) #[false, true, true, true, true, false, false] rfl rfl (by kernel_rfl) (fun _ _ _ h => h) (Or.inl ⟨by rfl, ?_⟩) ?_ ?_
                    rotate_left
                    · intro w'
                      go_simp
                      with_reducible rfl
                    rotate_left
                    · simp only [Act.put, List.setIfInBounds_toArray, List.set_cons_zero, List.set_cons_succ, Dh, Dp]
                      rfl
                    refine one_ (i := 0) (N := some 25) #[true, true, true, true, true, false, false] rfl rfl (by kernel_rfl) (by decide) (fun K hK => ?_)
                    refine goes_ Tryd.func50 (by kernel_rfl) rfl #[] (by rfl) rfl rfl (by (try simp only [List.map_toArray, List.map_cons, List.map_nil]); first | done | rfl | (simp only [List.length_drop, List.length_take]; rfl)) ?_
                    with_reducible refine (G7.calls  t200 _ A10.out).mono ?_
                    rintro e w23 ⟨v201, rfl, ho0, hb⟩
                    refine ⟨_, rfl, ?_⟩
                    have n0_ := Aa.mk (Kd.Du ho0 (Aq (by repeat (first | (with_reducible first | exact HB.out | apply Ae | apply Ac | apply Ad | refine Ag ?_ GE197.out) | exact HB.out))))
                    have n1_ := Aa.mk (Dv (g := gb197) (o := .cells #[.int .i64 x198000_1, .int .i64 x198001_1] 40 (0, 0)) (by (with_reducible repeat (first | refine Au ?_ _ | refine Az ?_ | refine Ar ?_ _)); exact BK197.out) hb)
                    have n2_ := Aa.mk (Ap (by repeat (first | (with_reducible first | exact HB.out | apply Ae | apply Ac | apply Ad | refine Ag ?_ GE197.out) | exact HB.out)) hb)
                    clear BK197
                    clear HB
                    have HO202 := n0_
                    have BK197 := n1_
                    have HB := n2_
                    clear n0_ n1_ n2_
                    (try clear hb)
                    (try clear hb2)
                    (try clear hk)
                    (try clear hi)
                    (try clear ho0)
                    obtain ⟨Ao24, co24, eo24⟩ := Kd.Ef HO202.out
                    (first | subst eo24 | (injection eo24 with f1_ f2_ f3_; have f4_ := f1_.symm; have f5_ := f3_.symm; clear f1_ f2_ f3_; subst f4_; subst f5_))
                    refine hK.out _ _ trivial (fun hHeld => ?_)
                    clear hK K
                    refine E5 (a' := ?_) ?_ ?_
                    rotate_left
                    · show Act.put _ (some 25) _ = _
                      simp only [Act.put, List.setIfInBounds_toArray, List.set_cons_zero, List.set_cons_succ, Dh, Dp]
                      rfl
                    refine one_ (i := 5) (N := some 30) #[true, true, true, true, true, true, false] rfl rfl (by kernel_rfl) (by decide) (fun K hK => ?_)
                    refine goes_ Tryd.func55 (by kernel_rfl) rfl #[.slice Ao24 t200.length co24, .string (a0.extract ((ji11) : Int).toNat a0.size)] (by rfl) rfl rfl (by (try simp only [List.map_toArray, List.map_cons, List.map_nil]); first | done | (simp only [hji11]; rfl) | rfl | (simp only [List.length_drop, List.length_take]; rfl)) ?_
                    with_reducible refine (Em.calls k1 _ _ t200 (a0.extract ((ji11) : Int).toNat a0.size) t203 _ ?side1 ?side2 A14.out).mono ?_
                    (case side1 => repeat (first | exact (Kd.Ba HO202.out).2.2 | (with_reducible refine Kd.Ci ?_ _) | (with_reducible refine Kd.Cf ?_ _) | (with_reducible refine Kd.Di ?_)))
                    (case side2 => exact (Kd.Ba HO202.out).2.1)
                    rintro e w' ⟨rfl, ⟨nd, rfl⟩⟩
                    refine ⟨_, rfl, ?_⟩
                    refine hK.out _ _ trivial (fun hHeld => ?_)
                    clear hK K
                    refine E5 (a' := ?_) ?_ ?_
                    rotate_left
                    · show Act.put _ (some 30) _ = _
                      simp only [Act.put, List.setIfInBounds_toArray, List.set_cons_zero, List.set_cons_succ, Dh, Dp]
                      rfl
                    refine Fq (i := 6) (N := some 7) (v := ?_) (a' := ?_) #[true, true, true, true, true, true, true] rfl rfl (by kernel_rfl) (fun _ _ _ h => h) (Or.inl ⟨by rfl, ?_⟩) ?_ ?_
                    rotate_left
                    · intro w'
                      go_simp
                      with_reducible rfl
                    rotate_left
                    · simp only [Act.put, List.setIfInBounds_toArray, List.set_cons_zero, List.set_cons_succ, Dh, Dp]
                      rfl
                    refine done_ (by kernel_rfl) ?_
                    have hcz25_0 : w23.cell? ⟨gb197, 0, none⟩ = some (.int .i64 x198000_1) := (Bd BK197.out 0).trans rfl
                    have hcz25_1 : w23.cell? ⟨gb197, 1, none⟩ = some (.int .i64 x198001_1) := (Bd BK197.out 1).trans rfl
                    have hfz25_0 := Bl BK197.out 0
                    have hfz25_1 := Bl BK197.out 1
                    try go_wp2
                    refine bodyPost_ret (results_ct rfl _ _ gb197 40 #[.int .i64 t198, .int .i64 t203] (0, 0) _ rfl (by (with_reducible repeat (first | refine Au ?_ _ | refine Az ?_ | refine Ar ?_ _)); refine Fv (cs := #[.int .i64 t198, .int .i64 x198001_1]) ?_ 1 _ rfl; (with_reducible repeat (first | refine Au ?_ _ | refine Az ?_ | refine Ar ?_ _)); refine Fv (cs := #[.int .i64 x198000_1, .int .i64 x198001_1]) ?_ 0 _ rfl; (with_reducible repeat (first | refine Au ?_ _ | refine Az ?_ | refine Ar ?_ _)); exact BK197.out) Tryd.underlying40 rfl (by kernel_rfl)) rfl ?_
                    exact ⟨by first | rfl | (simp [Be, Bf] <;> rfl) | (simp only [← hji11]; first | rfl | (simp [Be, Bf] <;> rfl)) | (simp [*, Be, Bf] <;> rfl), by repeat (first | (with_reducible first | exact HB.out | apply Ae | apply Ac | apply Ad | refine Ag ?_ GE197.out) | exact HB.out)⟩
                · rw [if_neg c13] at H
                  exact absurd H (by simp)
              · rw [if_neg c12] at H
                exact absurd H (by simp)
            · rw [if_neg c8] at H
              exact absurd H (by simp)
          · rw [if_neg c6] at H
            have c6b0 : ((bt a0 x4_1) == 32) = false := beq_eq_false_iff_ne.mpr c6
            have c6b1 : ((bt a0 x4_1) != 32) = true := bne_iff_ne.mpr c6
            have H' := Aa.mk H
            clear H
            have p5 : 0 ≤ (x4_1 : Int) := of_decide_eq_true (by first | (with_reducible assumption) | assumption)
            have q5 : x4_1 < (a0.size : Int) := of_decide_eq_true (by first | (with_reducible assumption) | assumption)
            have hx5 := bt_at a0 x4_1
            replace p5 := eq_true p5
            replace q5 := eq_true q5
            go_wp2
            go_roundg k1
            case measure => have := HK1.out; omega
            case rel => exact ⟨(wrap64 (x4_1 + 1)), (x198000_1), (x198001_1), (by first | rfl | (simp; done) | (simp [*]; done)), H', ⟨by have := HK1.out; omega⟩, ⟨by (with_reducible repeat (first | refine Au ?_ _ | refine Az ?_ | refine Ar ?_ _)); exact BK197.out⟩, ⟨by repeat (first | (with_reducible first | exact HB.out | apply Ae | apply Ac | apply Ad | refine Ag ?_ GE197.out) | exact HB.out)⟩⟩
        · rw [if_neg c4] at H
          exact absurd H (by simp)
      · rw [if_neg c3] at H
        have c3b0 : decide (x4_1 < (a0.size : Int)) = false := decide_eq_false c3
        clear c3
        simp only [Option.some.injEq, Prod.mk.injEq] at H
        obtain ⟨rfl, rfl, rfl⟩ := H
        have hcz26_0 : wr.cell? ⟨gb197, 0, none⟩ = some (.int .i64 x198000_1) := (Bd BK197.out 0).trans rfl
        have hcz26_1 : wr.cell? ⟨gb197, 1, none⟩ = some (.int .i64 x198001_1) := (Bd BK197.out 1).trans rfl
        have hfz26_0 := Bl BK197.out 0
        have hfz26_1 := Bl BK197.out 1
        go_wp2
        refine bodyPost_ret (results_ct rfl _ _ gb197 40 #[.int .i64 0, .int .i64 0] (0, 0) _ rfl (by (with_reducible repeat (first | refine Au ?_ _ | refine Az ?_ | refine Ar ?_ _)); refine Fv (cs := #[.int .i64 0, .int .i64 x198001_1]) ?_ 1 _ rfl; (with_reducible repeat (first | refine Au ?_ _ | refine Az ?_ | refine Ar ?_ _)); refine Fv (cs := #[.int .i64 x198000_1, .int .i64 x198001_1]) ?_ 0 _ rfl; (with_reducible repeat (first | refine Au ?_ _ | refine Az ?_ | refine Ar ?_ _)); exact BK197.out) Tryd.underlying40 rfl (by kernel_rfl)) rfl ?_
        exact ⟨by first | rfl | (simp [Be, Bf] <;> rfl) | (simp [*, Be, Bf] <;> rfl), by repeat (first | (with_reducible first | exact HB.out | apply Ae | apply Ac | apply Ad | refine Ag ?_ GE197.out) | exact HB.out)⟩
end Go.Proofs.YtpalafegcndccaaDoor.X

namespace Go.Proofs.YtpalafegcndccaaDoor.X
open Go.RowKit Go.Proofs.YtpalafegcndccaaDoorW.PrintWords Go.Proofs.YtpalafegcndccaaDoorW.PrintLast Go.Proofs.YtpalafegcndccaaDoorW.PrintMore
attribute [local go_sem] Ej Eg Eu Ew D9 D8 Ei Eh
open Go.Proofs.YtpalafegcndccaaDoorG
mutual
def Ce.j0 : Nat → ByteArray → List (S40) → List ByteArray → Bool → Option ((List (S40)) × Bool)
  | 0, _, _, _, _ => none
  | k + 1, x0, x4, x5, x23 => if x23 = true then (some (x4, false)) else (Ce.l0 k x0 x4 x5 0)
def Ce.l0 : Nat → ByteArray → List (S40) → List ByteArray → Int → Option ((List (S40)) × Bool)
  | 0, _, _, _, _ => none
  | k + 1, x0, x4, x5, x6 => if x6 < (wrap64 ((x5.length : Int) - 1)) then (if 0 ≤ x6 then (if x6 < (x5.length : Int) then ((Ea.f k (Fh ByteArray.empty x5 x6)).bind fun bt212 => (if bt212.2.2 = true then (if x4.length < 8796093022208 then (Ce.l0 k x0 (x4 ++ [(⟨bt212.1, bt212.2.1⟩ : S40)]) x5 (wrap64 (x6 + 1))) else (none)) else (some ((([] : List (S40))), false)))) else (none)) else (none)) else ((Bh.f k x4).bind fun t222 => (if t222 < 0 then (some ((([] : List (S40))), false)) else ((Dn.f k x4).bind fun t226 => (if t226.toList = x0.toList then (some (x4, true)) else (some ((([] : List (S40))), false))))))
end
def Ce.f (k : Nat) (a0 : ByteArray) : Option ((List (S40)) × Bool) := (some (([] : List (S40)) : List (S40))).bind fun y204 => ((Eb.f k a0 10).bind fun t207 => (if (a0.size : Int) > 400 then (Ce.j0 k a0 y204 t207 true) else (if 0 ≤ (wrap64 ((t207.length : Int) - 1)) then (if (wrap64 ((t207.length : Int) - 1)) < (t207.length : Int) then (Ce.j0 k a0 y204 t207 ((Fh ByteArray.empty t207 (wrap64 ((t207.length : Int) - 1))).toList != ([] : List UInt8))) else (none)) else (none))))
theorem isEmpty_bne (l : List UInt8) : l.isEmpty = !(l != []) := by cases l <;> rfl
theorem Ce.Et : ∀ k, (∀ y0 y1 y2 y3, LeO (Ce.j0 k y0 y1 y2 y3) (Ce.j0 (k + 1) y0 y1 y2 y3)) ∧ (∀ y0 y1 y2 y3, LeO (Ce.l0 k y0 y1 y2 y3) (Ce.l0 (k + 1) y0 y1 y2 y3))
  | 0 => ⟨fun _ _ _ _ r h => by simp [Ce.j0] at h, fun _ _ _ _ r h => by simp [Ce.l0] at h⟩
  | k + 1 => by
    obtain ⟨ih0, ih1⟩ := Ce.Et k
    refine ⟨?_, ?_⟩
    · intro y0 y1 y2 y3
      unfold Ce.j0
      repeat' first
      | (with_reducible exact ih0 _ _ _ _)
      | (with_reducible exact ih1 _ _ _ _)
      | (with_reducible exact Eb.mono _ _ _)
      | (with_reducible exact Ea.mono _ _)
      | (with_reducible exact Bh.mono _ _)
      | (with_reducible exact Dn.mono _ _)
      | (with_reducible exact LeO.refl _)
      | (with_reducible exact LeO.none _)
      | (with_reducible refine LeO.ite ?_ ?_)
      | (with_reducible refine LeO.bind ?_ (fun _ => ?_))
      | exact ih0 _ _ _ _
      | exact ih1 _ _ _ _
      | exact Eb.mono _ _ _
      | exact Ea.mono _ _
      | exact Bh.mono _ _
      | exact Dn.mono _ _
      | exact LeO.none _
      | refine LeO.ite ?_ ?_
      | refine LeO.bind ?_ (fun _ => ?_)
    · intro y0 y1 y2 y3
      unfold Ce.l0
      repeat' first
      | (with_reducible exact ih0 _ _ _ _)
      | (with_reducible exact ih1 _ _ _ _)
      | (with_reducible exact Eb.mono _ _ _)
      | (with_reducible exact Ea.mono _ _)
      | (with_reducible exact Bh.mono _ _)
      | (with_reducible exact Dn.mono _ _)
      | (with_reducible exact LeO.refl _)
      | (with_reducible exact LeO.none _)
      | (with_reducible refine LeO.ite ?_ ?_)
      | (with_reducible refine LeO.bind ?_ (fun _ => ?_))
      | exact ih0 _ _ _ _
      | exact ih1 _ _ _ _
      | exact Eb.mono _ _ _
      | exact Ea.mono _ _
      | exact Bh.mono _ _
      | exact Dn.mono _ _
      | exact LeO.none _
      | refine LeO.ite ?_ ?_
      | refine LeO.bind ?_ (fun _ => ?_)
theorem Ce.mono : ∀ a0 k, LeO (Ce.f k a0) (Ce.f (k + 1) a0) := by
  intro a0 k
  obtain ⟨ih0, ih1⟩ := Ce.Et k
  unfold Ce.f
  repeat' first
      | (with_reducible exact ih0 _ _ _ _)
      | (with_reducible exact ih1 _ _ _ _)
      | (with_reducible exact Eb.mono _ _ _)
      | (with_reducible exact Ea.mono _ _)
      | (with_reducible exact Bh.mono _ _)
      | (with_reducible exact Dn.mono _ _)
      | (with_reducible exact LeO.refl _)
      | (with_reducible exact LeO.none _)
      | (with_reducible refine LeO.ite ?_ ?_)
      | (with_reducible refine LeO.bind ?_ (fun _ => ?_))
      | exact ih0 _ _ _ _
      | exact ih1 _ _ _ _
      | exact Eb.mono _ _ _
      | exact Ea.mono _ _
      | exact Bh.mono _ _
      | exact Dn.mono _ _
      | exact LeO.none _
      | refine LeO.ite ?_ ?_
      | refine LeO.bind ?_ (fun _ => ?_)
set_option maxHeartbeats 8000000 in
set_option maxRecDepth 100000 in
theorem Ce.calls (k : Nat) (a0 : ByteArray) (r1 : List (S40)) (r2 : Bool) (w : World) (h : Ce.f k a0 = some (r1, r2)) :
    Calls Tryd.prog 11 #[.string a0] w fun e w' => ∃ v0_ : Value, e = .returned (.tuple #[v0_, .bool r2]) ∧ Kd.R k40 40 w' w.heap.size (fun _ => True) v0_ r1 ∧ Below w.heap.size w w' := by
  have hu40 := Tryd.underlying40
  have HB := Aa.mk (Below.refl w.heap.size w)
  have H : ((some (([] : List (S40)) : List (S40))).bind fun y204 => ((Eb.f k a0 10).bind fun t207 => (if (a0.size : Int) > 400 then (Ce.j0 k a0 y204 t207 true) else (if 0 ≤ (wrap64 ((t207.length : Int) - 1)) then (if (wrap64 ((t207.length : Int) - 1)) < (t207.length : Int) then (Ce.j0 k a0 y204 t207 ((Fh ByteArray.empty t207 (wrap64 ((t207.length : Int) - 1))).toList != ([] : List UInt8))) else (none)) else (none))))) = some (r1, r2) := h
  clear h
  obtain ⟨y204, hy204⟩ : ∃ y_ : List (S40), y_ = (([] : List (S40))) := ⟨_, rfl⟩
  replace H : ((Eb.f k a0 10).bind fun t207 => (if (a0.size : Int) > 400 then (Ce.j0 k a0 y204 t207 true) else (if 0 ≤ (wrap64 ((t207.length : Int) - 1)) then (if (wrap64 ((t207.length : Int) - 1)) < (t207.length : Int) then (Ce.j0 k a0 y204 t207 ((Fh ByteArray.empty t207 (wrap64 ((t207.length : Int) - 1))).toList != ([] : List UInt8))) else (none)) else (none)))) = some (r1, r2) := by first | (rw [hy204]; with_reducible exact H) | (have H2_ := (Option.bind_some _ _).symm.trans H; rw [hy204]; with_reducible exact H2_) | (have H2_ := (Option.bind_some _ _).symm.trans H; with_reducible exact H2_) | with_reducible exact H | (rw [hy204]; exact H) | exact H
  have Ny204 := Aa.mk hy204
  clear hy204
  replace H := Option.bind_eq_some_iff.mp H
  obtain ⟨t207, A20, H⟩ := H
  replace H : (if (a0.size : Int) > 400 then (Ce.j0 k a0 y204 t207 true) else (if 0 ≤ (wrap64 ((t207.length : Int) - 1)) then (if (wrap64 ((t207.length : Int) - 1)) < (t207.length : Int) then (Ce.j0 k a0 y204 t207 ((Fh ByteArray.empty t207 (wrap64 ((t207.length : Int) - 1))).toList != ([] : List UInt8))) else (none)) else (none))) = some (r1, r2) := H
  have A2 := Aa.mk A20
  clear A20
  have HC3 := Aa.mk H
  clear H
  go_enter Tryd.func11, Tryd.ntmps11
  go_upto_region 3 with (first | ((with_reducible refine D7 (N := 9) rfl ?_); (try (refine Gq (by rfl) ?_; dsimp only)); refine Kd.Ii k40 _ 40 ?hg (N := 9) ?hd (xs := ([] : List (S40))) (inner := []) (ok := fun _ => True) (okp := fun _ => True) ?hr ?hp (fun _ hk => hk) trivial (Below.refl _ _) (Nat.le_refl _) (by simp) ?_; (case hd => rfl); (case hg => rfl); (case hr => first | (go_simp; done) | (go_simp; rfl)); (case hp => exact (Dw.none _ _)); intro v205 w4 ho5 hb hg_ hnew_; clear hg_ hnew_; (first | rw [← Ny204.out] at ho5 | (simp only [Int.reduceToNat] at ho5; rw [← Ny204.out] at ho5)); have n0_ := Aa.mk (Kd.Du ho5 (Aq (by repeat (first | (with_reducible first | exact HB.out | apply Ae | apply Ac | apply Ad) | exact HB.out)))); have n1_ := Aa.mk (Ap (by repeat (first | (with_reducible first | exact HB.out | apply Ae | apply Ac | apply Ad) | exact HB.out)) hb); clear HB; have HO206 := n0_; have HB := n1_; clear n0_ n1_; clear hb ho5) | ((with_reducible refine Bv (f := 30) rfl ?_); refine D5 (some 11) rfl rfl Tryd.func30 (by kernel_rfl) rfl #[.string a0, .int .u8 10] rfl (by (try simp only [List.map_toArray, List.map_cons, List.map_nil]); first | done | rfl | (simp only [List.length_drop, List.length_take]; rfl)) ?_; (with_reducible refine (Eb.calls k a0 10 t207 _ A2.out).mono ?_); rintro e w6 ⟨v208, rfl, ho0, hb⟩; refine ⟨_, rfl, ?_⟩; have n0_ := Aa.mk (Kd.Dk (by (with_reducible repeat (first | apply Kd.Ah | apply Kd.Ai | apply Kd.Ak)); exact HO206.out) hb); have n1_ := Aa.mk (Kd.Du ho0 (Aq (by repeat (first | (with_reducible first | exact HB.out | apply Ae | apply Ac | apply Ad) | exact HB.out)))); have n2_ := Aa.mk (Ap (by repeat (first | (with_reducible first | exact HB.out | apply Ae | apply Ac | apply Ad) | exact HB.out)) hb); clear HO206; clear HB; have HO206 := n0_; have HO209 := n1_; have HB := n2_; clear n0_ n1_ n2_; (try clear hb); (try clear hb2); (try clear hk); (try clear hi); (try clear ho0)))
  (try simp only [Act.put, List.setIfInBounds_toArray, List.set_cons_zero, List.set_cons_succ])
  go_cut [23] (fun v23 wc => ∃ (kq : Nat) (x23_2 : Bool), v23 = .bool x23_2 ∧ Aa (Ce.j0 kq a0 y204 t207 x23_2 = some (r1, r2)) ∧ Aa (kq ≤ k) ∧ Aa (Kd.R k40 40 wc w.heap.size (fun _ => True) v205 y204) ∧ Aa (Kd.R Kd.string 9 wc w.heap.size (fun _ => True) v208 t207) ∧ Aa (Below w.heap.size w wc))
  case first =>
    have H := HC3.out
    clear HC3
    by_cases c7 : (a0.size : Int) > 400
    · rw [if_pos c7] at H
      have c7b0 : decide (400 < (a0.size : Int)) = true := decide_eq_true c7
      have c7b1 : decide (400 < a0.size) = true := decide_eq_true (by omega)
      clear c7
      (first | rw [c7b0] | (simp only [Dh, Dp]; rw [c7b0]) | skip)
      have H' := Aa.mk H
      clear H
      go_wp2
      go_meet
      case rel => exact ⟨_, (true), (by first | rfl | (simp; done) | (simp [*]; done)), H', ⟨by first | omega | exact Nat.le_refl _⟩, ⟨by (with_reducible repeat (first | apply Kd.Ah | apply Kd.Ai | apply Kd.Ak)); exact HO206.out⟩, ⟨by (with_reducible repeat (first | apply Kd.Ah | apply Kd.Ai | apply Kd.Ak)); exact HO209.out⟩, ⟨by repeat (first | (with_reducible first | exact HB.out | apply Ae | apply Ac | apply Ad) | exact HB.out)⟩⟩
    · rw [if_neg c7] at H
      have c7b0 : decide (400 < (a0.size : Int)) = false := decide_eq_false c7
      have c7b1 : decide (400 < a0.size) = false := decide_eq_false (by omega)
      clear c7
      (first | rw [c7b0] | (simp only [Dh, Dp]; rw [c7b0]) | skip)
      obtain ⟨ji8, hji8⟩ : ∃ j_ : Int, (wrap64 ((t207.length : Int) - 1)) = j_ := ⟨_, rfl⟩
      replace H : (if 0 ≤ (ji8) then (if (ji8) < (t207.length : Int) then (Ce.j0 k a0 y204 t207 ((Fh ByteArray.empty t207 (ji8)).toList != ([] : List UInt8))) else (none)) else (none)) = some (r1, r2) := by first | (rw [hji8] at H; exact H) | (simp only [hji8] at H ⊢; exact H)
      have hji8w : (IntKind.i64.wrap ((t207.length : Int) - 1)) = ji8 := (Dh _).trans hji8
      by_cases c9 : 0 ≤ (ji8)
      · rw [if_pos c9] at H
        have c9b0 : decide (0 ≤ (ji8)) = true := decide_eq_true c9
        clear c9
        by_cases c10 : (ji8) < (t207.length : Int)
        · rw [if_pos c10] at H
          have c10b0 : decide ((ji8) < (t207.length : Int)) = true := decide_eq_true c10
          clear c10
          have H' := Aa.mk H
          clear H
          obtain ⟨Ao11, co11, eo11⟩ := Kd.Ef HO209.out
          subst eo11
          have p210 : 0 ≤ ((ji8) : Int) := of_decide_eq_true (by first | (with_reducible assumption) | assumption)
          have q210 : (ji8) < (t207.length : Int) := of_decide_eq_true (by first | (with_reducible assumption) | assumption)
          obtain ⟨ad210, e210, hx210_0⟩ := Kd.H8 (Kd.Ba HO209.out).2.2 (ji8) p210 q210
          cases e210
          replace p210 := eq_true p210
          replace q210 := eq_true q210
          go_wp2
          go_meet
          case rel => exact ⟨_, (((Fh ByteArray.empty t207 (ji8)).toList != ([] : List UInt8))), (by first | rfl | (simp; done) | (simp only [← hji8]; simp; exact isEmpty_bne _) | (simp only [← hji8] <;> (first | rfl | simp)) | (simp [*]; done)), H', ⟨by first | omega | exact Nat.le_refl _⟩, ⟨by (with_reducible repeat (first | apply Kd.Ah | apply Kd.Ai | apply Kd.Ak)); exact HO206.out⟩, ⟨by (with_reducible repeat (first | apply Kd.Ah | apply Kd.Ai | apply Kd.Ak)); exact HO209.out⟩, ⟨by repeat (first | (with_reducible first | exact HB.out | apply Ae | apply Ac | apply Ad) | exact HB.out)⟩⟩
        · rw [if_neg c10] at H
          exact absurd H (by simp)
      · rw [if_neg c9] at H
        exact absurd H (by simp)
  case rest =>
    clear HC3
    try clear c1
    try clear p2
    try clear q2
    try clear hx2
    try clear c3
    try clear p6
    try clear c7
    try clear c7b0
    try clear c7b1
    try clear c9
    try clear c9b0
    try clear c10
    try clear c10b0
    try clear c11
    try clear hx210_0
    try clear p210
    try clear q210
    obtain ⟨kq, x23_2, rfl, HA, HJ2, HO_4, HO_5, HB⟩ := hcut
    cases kq with
    | zero => exact absurd HA.out (by simp [Ce.j0])
    | succ kj2 =>
      have H := HA.out
      clear HA
      simp only [Ce.j0] at H
      by_cases c12 : x23_2 = true
      · subst c12
        have H1 : (some (y204, false)) = some (r1, r2) := by rw [if_pos rfl] at H; exact H
        clear H
        have H := H1
        clear H1
        simp only [Option.some.injEq, Prod.mk.injEq] at H
        obtain ⟨rfl, rfl⟩ := H
        go_wp2
        go_ret2
        exact ⟨_, by first | rfl | (simp [Be, Bf] <;> rfl) | (simp [*, Be, Bf] <;> rfl), by (with_reducible repeat (first | apply Kd.Ah | apply Kd.Ai | apply Kd.Ak)); exact HO_4.out, by repeat (first | (with_reducible first | exact HB.out | apply Ae | apply Ac | apply Ad) | exact HB.out)⟩
      · replace c12 := Bool.eq_false_iff.mpr c12
        subst c12
        have H1 : (Ce.l0 kj2 a0 y204 t207 0) = some (r1, r2) := by rw [if_neg (show ¬ (false = true) by decide)] at H; exact H
        clear H
        have H := H1
        clear H1
        have H' := Aa.mk H
        clear H
        go_wp2
        go_loopg [4, 6] kj2 (fun kq v4 v6 w' => ∃ (x4_2 : List (S40)) (x6_2 : Int), v6 = .int .i64 x6_2 ∧ Aa (Ce.l0 kq a0 x4_2 t207 x6_2 = some (r1, r2)) ∧ Aa (kq ≤ kj2) ∧ Aa (Kd.R k40 40 w' w.heap.size (fun _ => True) v4 x4_2) ∧ Aa (Kd.R Kd.string 9 w' w.heap.size (fun _ => True) v208 t207) ∧ Aa (Below w.heap.size w w'))
        case atStart => exact ⟨(y204), (0), (by first | rfl | (simp; done) | (simp [*]; done)), H', ⟨Nat.le_refl _⟩, ⟨by (with_reducible repeat (first | apply Kd.Ah | apply Kd.Ai | apply Kd.Ak)); exact HO_4.out⟩, ⟨by (with_reducible repeat (first | apply Kd.Ah | apply Kd.Ai | apply Kd.Ak)); exact HO_5.out⟩, ⟨by repeat (first | (with_reducible first | exact HB.out | apply Ae | apply Ac | apply Ad) | exact HB.out)⟩⟩
        case round =>
          clear H'
          try clear c1
          try clear p2
          try clear q2
          try clear hx2
          try clear c3
          try clear p6
          try clear c7
          try clear c7b0
          try clear c7b1
          try clear c9
          try clear c9b0
          try clear c10
          try clear c10b0
          try clear c11
          try clear c12
          try clear hx210_0
          try clear p2
          try clear p210
          try clear p6
          try clear q2
          try clear q210
          obtain ⟨x4_2, x6_2, rfl, HA, HK2, HO_4, HO_5, HB⟩ := hrel
          cases gk with
          | zero => exact absurd HA.out (by simp [Ce.l0])
          | succ k2 =>
            have H := HA.out
            clear HA
            simp only [Ce.l0] at H
            by_cases c13 : x6_2 < (wrap64 ((t207.length : Int) - 1))
            · rw [if_pos c13] at H
              have c13b0 : decide (x6_2 < (wrap64 ((t207.length : Int) - 1))) = true := decide_eq_true c13
              clear c13
              by_cases c14 : 0 ≤ x6_2
              · rw [if_pos c14] at H
                have c14b0 : decide (0 ≤ x6_2) = true := decide_eq_true c14
                clear c14
                by_cases c15 : x6_2 < (t207.length : Int)
                · rw [if_pos c15] at H
                  have c15b0 : decide (x6_2 < (t207.length : Int)) = true := decide_eq_true c15
                  clear c15
                  replace H := Option.bind_eq_some_iff.mp H
                  obtain ⟨⟨t212, t213, t214⟩, A160, H⟩ := H
                  replace H : (if t214 = true then (if x4_2.length < 8796093022208 then (Ce.l0 k2 a0 (x4_2 ++ [(⟨t212, t213⟩ : S40)]) t207 (wrap64 (x6_2 + 1))) else (none)) else (some ((([] : List (S40))), false))) = some (r1, r2) := H
                  have A16 := Aa.mk A160
                  clear A160
                  by_cases c17 : t214 = true
                  · subst c17
                    have H1 : (if x4_2.length < 8796093022208 then (Ce.l0 k2 a0 (x4_2 ++ [(⟨t212, t213⟩ : S40)]) t207 (wrap64 (x6_2 + 1))) else (none)) = some (r1, r2) := by rw [if_pos rfl] at H; exact H
                    clear H
                    have H := H1
                    clear H1
                    by_cases c18 : x4_2.length < 8796093022208
                    · rw [if_pos c18] at H
                      have LMc18 := Aa.mk c18
                      clear c18
                      obtain ⟨y216, hy216⟩ : ∃ y_ : List (S40), y_ = (x4_2 ++ [(⟨t212, t213⟩ : S40)]) := ⟨_, rfl⟩
                      replace H : (Ce.l0 k2 a0 y216 t207 (wrap64 (x6_2 + 1))) = some (r1, r2) := by first | (rw [hy216]; with_reducible exact H) | (have H2_ := (Option.bind_some _ _).symm.trans H; rw [hy216]; with_reducible exact H2_) | (have H2_ := (Option.bind_some _ _).symm.trans H; with_reducible exact H2_) | with_reducible exact H | (rw [hy216]; exact H) | exact H
                      have Ny216 := Aa.mk hy216
                      clear hy216
                      have H' := Aa.mk H
                      clear H
                      obtain ⟨Ao19, co19, eo19⟩ := Kd.Ef HO_5.out
                      subst eo19
                      have p211 : 0 ≤ (x6_2 : Int) := of_decide_eq_true (by first | (with_reducible assumption) | assumption)
                      have q211 : x6_2 < (t207.length : Int) := of_decide_eq_true (by first | (with_reducible assumption) | assumption)
                      obtain ⟨ad211, e211, hx211_0⟩ := Kd.H8 (Kd.Ba HO_5.out).2.2 x6_2 p211 q211
                      cases e211
                      replace p211 := eq_true p211
                      replace q211 := eq_true q211
                      go_wp2_with (first | ((with_reducible refine Bv (f := 31) rfl ?_); refine D5 (some 37) rfl rfl Tryd.func31 (by kernel_rfl) rfl #[.string (Fh ByteArray.empty t207 x6_2)] rfl (by (try simp only [List.map_toArray, List.map_cons, List.map_nil]); first | done | rfl | (simp only [List.length_drop, List.length_take]; rfl)) ?_; (with_reducible refine (Ea.calls k2 (Fh ByteArray.empty t207 x6_2) t212 t213 true _ A16.out).mono ?_); rintro e w20 ⟨rfl, hb⟩; refine ⟨_, rfl, ?_⟩; have n0_ := Aa.mk (Kd.Dk (by (with_reducible repeat (first | apply Kd.Ah | apply Kd.Ai | apply Kd.Ak)); exact HO_4.out) hb); have n1_ := Aa.mk (Kd.Dk (by (with_reducible repeat (first | apply Kd.Ah | apply Kd.Ai | apply Kd.Ak)); exact HO_5.out) hb); have n2_ := Aa.mk (Ap (by repeat (first | (with_reducible first | exact HB.out | apply Ae | apply Ac | apply Ad) | exact HB.out)) hb); clear HO_4; clear HO_5; clear HB; have HO_4 := n0_; have HO_5 := n1_; have HB := n2_; clear n0_ n1_ n2_; (try clear hb); (try clear hb2); (try clear hk); (try clear hi)) | ((with_reducible refine D7 (N := 7) rfl ?_); (try (refine Gq (by rfl) ?_; dsimp only)); refine Es ?hg (N := 7) ?hd (cs := #[.int .i64 0, .int .i64 0]) (t := 40) ?hr ?_; (case hd => rfl); (case hg => rfl); (case hr => first | (go_simp; done) | (go_simp; rfl)); intro gb215 hg w21 hbox hb; have n0_ := Aa.mk (Kd.Dk (Kd.R_elderB (by (with_reducible repeat (first | apply Kd.Ah | apply Kd.Ai | apply Kd.Ak)); exact HO_4.out) gb215 (Nat.le_of_eq hg.symm)) hb); have n1_ := Aa.mk (Kd.Dk (by (with_reducible repeat (first | apply Kd.Ah | apply Kd.Ai | apply Kd.Ak)); exact HO_5.out) hb); have n2_ := Aa.mk (Ap (by repeat (first | (with_reducible first | exact HB.out | apply Ae | apply Ac | apply Ad) | exact HB.out)) hb); have n3_ := Aa.mk (hbox); have n4_ := Aa.mk ((by rw [hg]; exact (Aq (by repeat (first | (with_reducible first | exact HB.out | apply Ae | apply Ac | apply Ad) | exact HB.out))) : w.heap.size ≤ gb215)); have n5_ := Aa.mk ((by rw [hg]; exact (Aq (by repeat (first | (with_reducible first | exact HB.out | apply Ae | apply Ac | apply Ad) | exact HB.out))) : w.heap.size ≤ gb215)); clear HO_4; clear HO_5; clear HB; have HO_4 := n0_; have HO_5 := n1_; have HB := n2_; have BK215 := n3_; have GW215 := n4_; have GE215 := n5_; clear n0_ n1_ n2_ n3_ n4_ n5_; clear hb hbox hg; have hcz22_0 : w21.cell? ⟨gb215, 0, none⟩ = some (.int .i64 0) := (Bd BK215.out 0).trans rfl; have hcz22_1 : w21.cell? ⟨gb215, 1, none⟩ = some (.int .i64 0) := (Bd BK215.out 1).trans rfl; have hfz22_0 := Bl BK215.out 0; have hfz22_1 := Bl BK215.out 1) | ((with_reducible refine Hq (b := .append) (xs := #[.tmp 43, .tmp 45]) rfl ?_); (try (refine Gq (by rfl) ?_; dsimp only)); at_builtin; refine Kd.Iw k40 (w0 := w) w.heap.size rfl (.tmp 43) (.tmp 45) 26 40 (.agg #[(.int .i64 0), (.int .i64 0)]) 16 rfl Tryd.underlying26 Hr rfl (by decide) (by omega) u4 x4_2 (⟨t212, t213⟩ : S40) [.int .i64 t212, .int .i64 t213] (fun k_ => k_ ≠ gb215) (fun _ => False) rfl (by first | (go_simp; done) | (go_simp; rfl)) ?aP (fun _ hk => hk.elim) ?aF ?aO ?aB ?aS ?aL ?_; (case aP => exact G8 _ _ _ (⟨t212, t213⟩ : S40)); (case aB => exact (by repeat (first | (with_reducible first | exact HB.out | apply Ae | apply Ac | apply Ad | refine Ag ?_ GE215.out) | exact HB.out))); (case aF => exact (fun k_ hk => Kd.Ih (g := gb215) (o := .cells #[.int .i64 t212, .int .i64 t213] 40 (0, 0)) (by (with_reducible repeat (first | refine Au ?_ _ | refine Az ?_ | refine Ar ?_ _)); refine Fv (cs := #[.int .i64 t212, .int .i64 0]) ?_ 1 _ rfl; (with_reducible repeat (first | refine Au ?_ _ | refine Az ?_ | refine Ar ?_ _)); refine Fv (cs := #[.int .i64 0, .int .i64 0]) ?_ 0 _ rfl; (with_reducible repeat (first | refine Au ?_ _ | refine Az ?_ | refine Ar ?_ _)); exact BK215.out) k_ hk)); (case aO => exact (by (with_reducible repeat (first | apply Kd.Ah | apply Kd.Ai | apply Kd.Ak)); exact Kd.R_mono (Kd.F7 (p := ⟨gb215, 1, none⟩) (Kd.F7 (p := ⟨gb215, 0, none⟩) (Kd.R_mono HO_4.out (fun k_ hk => (⟨hk, hk.2⟩ : _ ∧ k_ ≠ gb215))) (fun _ hk => hk.2) (.int .i64 t212)) (fun _ hk => hk.2) (.int .i64 t213)) (fun _ hk => hk.1.2))); (case aS => exact (Aq (by repeat (first | (with_reducible first | exact HB.out | apply Ae | apply Ac | apply Ad | refine Ag ?_ GE215.out) | exact HB.out)))); (case aL => have := LMc18.out; omega); intro v217 w23 ho hb hg hat; rw [← Ny216.out] at ho; have n0_ := Aa.mk (Kd.R_over' (by (with_reducible repeat (first | apply Kd.Ah | apply Kd.Ai | apply Kd.Ak)); exact (Kd.R_mono (Kd.F7 (p := ⟨gb215, 1, none⟩) (Kd.F7 (p := ⟨gb215, 0, none⟩) (Kd.R_types HO_5.out BK215.out (by decide)) (fun _ hk => hk.2) (.int .i64 t212)) (fun _ hk => hk.2) (.int .i64 t213)) (fun _ h_ => h_.1))) (Kd.R_typed (by (with_reducible repeat (first | apply Kd.Ah | apply Kd.Ai | apply Kd.Ak)); exact (Kd.R_mono (Kd.F7 (p := ⟨gb215, 1, none⟩) (Kd.F7 (p := ⟨gb215, 0, none⟩) (Kd.R_mono HO_4.out (fun k_ hk => (⟨hk, hk.2⟩ : _ ∧ k_ ≠ gb215))) (fun _ hk => hk.2) (.int .i64 t212)) (fun _ hk => hk.2) (.int .i64 t213)) (fun _ h_ => h_.1)))) (by decide) hg); have n1_ := Aa.mk (Gy (g := gb215) (o := .cells #[.int .i64 t212, .int .i64 t213] 40 (0, 0)) (by (with_reducible repeat (first | refine Au ?_ _ | refine Az ?_ | refine Ar ?_ _)); refine Fv (cs := #[.int .i64 t212, .int .i64 0]) ?_ 1 _ rfl; (with_reducible repeat (first | refine Au ?_ _ | refine Az ?_ | refine Ar ?_ _)); refine Fv (cs := #[.int .i64 0, .int .i64 0]) ?_ 0 _ rfl; (with_reducible repeat (first | refine Au ?_ _ | refine Az ?_ | refine Ar ?_ _)); exact BK215.out) hg (Kd.Ij HO_4.out (fun _ hk => hk.2))); have n2_ := Aa.mk (hb); have n3_ := Aa.mk (ho); clear HO_5; clear BK215; clear HB; clear HO_4; have HO_5 := n0_; have BK215 := n1_; have HB := n2_; have HO218 := n3_; clear n0_ n1_ n2_ n3_; clear ho hb hg hat))
                      go_roundg k2
                      case measure => have := HJ2.out; have := HK2.out; omega
                      case rel => exact ⟨(y216), (wrap64 (x6_2 + 1)), (by first | rfl | (simp; done) | (simp [*]; done)), H', ⟨by have := HJ2.out; have := HK2.out; omega⟩, ⟨by (with_reducible repeat (first | apply Kd.Ah | apply Kd.Ai | apply Kd.Ak)); exact Kd.R_mono HO218.out (fun _ hk => trivial)⟩, ⟨by (with_reducible repeat (first | apply Kd.Ah | apply Kd.Ai | apply Kd.Ak)); exact HO_5.out⟩, ⟨by repeat (first | (with_reducible first | exact HB.out | apply Ae | apply Ac | apply Ad | refine Ag ?_ GE215.out) | exact HB.out)⟩⟩
                    · rw [if_neg c18] at H
                      exact absurd H (by simp)
                  · replace c17 := Bool.eq_false_iff.mpr c17
                    subst c17
                    have H1 : (some ((([] : List (S40))), false)) = some (r1, r2) := by rw [if_neg (show ¬ (false = true) by decide)] at H; exact H
                    clear H
                    have H := H1
                    clear H1
                    obtain ⟨y219, hy219⟩ : ∃ y_ : List (S40), y_ = (([] : List (S40))) := ⟨_, rfl⟩
                    replace H : (some (y219, false)) = some (r1, r2) := by first | (rw [hy219]; with_reducible exact H) | (have H2_ := (Option.bind_some _ _).symm.trans H; rw [hy219]; with_reducible exact H2_) | (have H2_ := (Option.bind_some _ _).symm.trans H; with_reducible exact H2_) | with_reducible exact H | (rw [hy219]; exact H) | exact H
                    have Ny219 := Aa.mk hy219
                    clear hy219
                    simp only [Option.some.injEq, Prod.mk.injEq] at H
                    obtain ⟨rfl, rfl⟩ := H
                    obtain ⟨Ao24, co24, eo24⟩ := Kd.Ef HO_5.out
                    subst eo24
                    have p211 : 0 ≤ (x6_2 : Int) := of_decide_eq_true (by first | (with_reducible assumption) | assumption)
                    have q211 : x6_2 < (t207.length : Int) := of_decide_eq_true (by first | (with_reducible assumption) | assumption)
                    obtain ⟨ad211, e211, hx211_0⟩ := Kd.H8 (Kd.Ba HO_5.out).2.2 x6_2 p211 q211
                    cases e211
                    replace p211 := eq_true p211
                    replace q211 := eq_true q211
                    go_wp2_with (first | ((with_reducible refine Bv (f := 31) rfl ?_); refine D5 (some 37) rfl rfl Tryd.func31 (by kernel_rfl) rfl #[.string (Fh ByteArray.empty t207 x6_2)] rfl (by (try simp only [List.map_toArray, List.map_cons, List.map_nil]); first | done | rfl | (simp only [List.length_drop, List.length_take]; rfl)) ?_; (with_reducible refine (Ea.calls k2 (Fh ByteArray.empty t207 x6_2) t212 t213 false _ A16.out).mono ?_); rintro e w25 ⟨rfl, hb⟩; refine ⟨_, rfl, ?_⟩; have n0_ := Aa.mk (Kd.Dk (by (with_reducible repeat (first | apply Kd.Ah | apply Kd.Ai | apply Kd.Ak)); exact HO_4.out) hb); have n1_ := Aa.mk (Kd.Dk (by (with_reducible repeat (first | apply Kd.Ah | apply Kd.Ai | apply Kd.Ak)); exact HO_5.out) hb); have n2_ := Aa.mk (Ap (by repeat (first | (with_reducible first | exact HB.out | apply Ae | apply Ac | apply Ad) | exact HB.out)) hb); clear HO_4; clear HO_5; clear HB; have HO_4 := n0_; have HO_5 := n1_; have HB := n2_; clear n0_ n1_ n2_; (try clear hb); (try clear hb2); (try clear hk); (try clear hi)) | ((with_reducible refine D7 (N := 7) rfl ?_); (try (refine Gq (by rfl) ?_; dsimp only)); refine Es ?hg (N := 7) ?hd (cs := #[.int .i64 0, .int .i64 0]) (t := 40) ?hr ?_; (case hd => rfl); (case hg => rfl); (case hr => first | (go_simp; done) | (go_simp; rfl)); intro gb215 hg w26 hbox hb; have n0_ := Aa.mk (Kd.Dk (Kd.R_elderB (by (with_reducible repeat (first | apply Kd.Ah | apply Kd.Ai | apply Kd.Ak)); exact HO_4.out) gb215 (Nat.le_of_eq hg.symm)) hb); have n1_ := Aa.mk (Kd.Dk (by (with_reducible repeat (first | apply Kd.Ah | apply Kd.Ai | apply Kd.Ak)); exact HO_5.out) hb); have n2_ := Aa.mk (Ap (by repeat (first | (with_reducible first | exact HB.out | apply Ae | apply Ac | apply Ad) | exact HB.out)) hb); have n3_ := Aa.mk (hbox); have n4_ := Aa.mk ((by rw [hg]; exact (Aq (by repeat (first | (with_reducible first | exact HB.out | apply Ae | apply Ac | apply Ad) | exact HB.out))) : w.heap.size ≤ gb215)); have n5_ := Aa.mk ((by rw [hg]; exact (Aq (by repeat (first | (with_reducible first | exact HB.out | apply Ae | apply Ac | apply Ad) | exact HB.out))) : w.heap.size ≤ gb215)); clear HO_4; clear HO_5; clear HB; have HO_4 := n0_; have HO_5 := n1_; have HB := n2_; have BK215 := n3_; have GW215 := n4_; have GE215 := n5_; clear n0_ n1_ n2_ n3_ n4_ n5_; clear hb hbox hg; have hcz27_0 : w26.cell? ⟨gb215, 0, none⟩ = some (.int .i64 0) := (Bd BK215.out 0).trans rfl; have hcz27_1 : w26.cell? ⟨gb215, 1, none⟩ = some (.int .i64 0) := (Bd BK215.out 1).trans rfl; have hfz27_0 := Bl BK215.out 0; have hfz27_1 := Bl BK215.out 1) | ((with_reducible refine D7 (N := 42) rfl ?_); (try (refine Gq (by rfl) ?_; dsimp only)); refine Kd.Ii k40 _ 40 ?hg (N := 42) ?hd (xs := ([] : List (S40))) (inner := []) (ok := fun _ => True) (okp := fun _ => True) ?hr ?hp (fun _ hk => hk) trivial (Below.refl _ _) (Nat.le_refl _) (by simp) ?_; (case hd => rfl); (case hg => rfl); (case hr => first | (go_simp; done) | (go_simp; rfl)); (case hp => exact (Dw.none _ _)); intro v220 w28 ho29 hb hg_ hnew_; clear hg_ hnew_; (first | rw [← Ny219.out] at ho29 | (simp only [Int.reduceToNat] at ho29; rw [← Ny219.out] at ho29)); have n0_ := Aa.mk (Kd.Ff (by (with_reducible repeat (first | apply Kd.Ah | apply Kd.Ai | apply Kd.Ak)); exact (Kd.R_mono (Kd.F7 (p := ⟨gb215, 1, none⟩) (Kd.F7 (p := ⟨gb215, 0, none⟩) (Kd.R_mono HO_4.out (fun k_ hk => (⟨hk, hk.2⟩ : _ ∧ k_ ≠ gb215))) (fun _ hk => hk.2) (.int .i64 t212)) (fun _ hk => hk.2) (.int .i64 t213)) (fun _ h_ => h_.1))) (Kd.Gg ho29) hb); have n1_ := Aa.mk (Kd.Dk (by (with_reducible repeat (first | apply Kd.Ah | apply Kd.Ai | apply Kd.Ak)); exact (Kd.R_mono (Kd.F7 (p := ⟨gb215, 1, none⟩) (Kd.F7 (p := ⟨gb215, 0, none⟩) (Kd.R_types HO_5.out BK215.out (by decide)) (fun _ hk => hk.2) (.int .i64 t212)) (fun _ hk => hk.2) (.int .i64 t213)) (fun _ h_ => h_.1))) hb); have n2_ := Aa.mk (Kd.Du (Kd.Gj (Kd.Gh ho29 (Kd.Gs (by (with_reducible repeat (first | apply Kd.Ah | apply Kd.Ai | apply Kd.Ak)); exact (Kd.R_mono (Kd.F7 (p := ⟨gb215, 1, none⟩) (Kd.F7 (p := ⟨gb215, 0, none⟩) (Kd.R_mono HO_4.out (fun k_ hk => (⟨hk, hk.2⟩ : _ ∧ k_ ≠ gb215))) (fun _ hk => hk.2) (.int .i64 t212)) (fun _ hk => hk.2) (.int .i64 t213)) (fun _ h_ => h_.1))))) (g := gb215) (o := .cells #[.int .i64 t212, .int .i64 t213] 40 (0, 0)) (by (with_reducible repeat (first | refine Au ?_ _ | refine Az ?_ | refine Ar ?_ _)); refine Fv (cs := #[.int .i64 t212, .int .i64 0]) ?_ 1 _ rfl; (with_reducible repeat (first | refine Au ?_ _ | refine Az ?_ | refine Ar ?_ _)); refine Fv (cs := #[.int .i64 0, .int .i64 0]) ?_ 0 _ rfl; (with_reducible repeat (first | refine Au ?_ _ | refine Az ?_ | refine Ar ?_ _)); exact BK215.out)) (Aq (by repeat (first | (with_reducible first | exact HB.out | apply Ae | apply Ac | apply Ad | refine Ag ?_ GE215.out) | exact HB.out)))); have n3_ := Aa.mk (Dv (g := gb215) (o := .cells #[.int .i64 t212, .int .i64 t213] 40 (0, 0)) (by (with_reducible repeat (first | refine Au ?_ _ | refine Az ?_ | refine Ar ?_ _)); refine Fv (cs := #[.int .i64 t212, .int .i64 0]) ?_ 1 _ rfl; (with_reducible repeat (first | refine Au ?_ _ | refine Az ?_ | refine Ar ?_ _)); refine Fv (cs := #[.int .i64 0, .int .i64 0]) ?_ 0 _ rfl; (with_reducible repeat (first | refine Au ?_ _ | refine Az ?_ | refine Ar ?_ _)); exact BK215.out) hb); have n4_ := Aa.mk (Ap (by repeat (first | (with_reducible first | exact HB.out | apply Ae | apply Ac | apply Ad | refine Ag ?_ GE215.out) | exact HB.out)) hb); clear HO_4; clear HO_5; clear BK215; clear HB; have HO_4 := n0_; have HO_5 := n1_; have HO221 := n2_; have BK215 := n3_; have HB := n4_; clear n0_ n1_ n2_ n3_ n4_; clear hb ho29))
                    go_ret2
                    exact ⟨_, by first | rfl | (simp [Be, Bf] <;> rfl) | (simp [*, Be, Bf] <;> rfl), by (with_reducible repeat (first | apply Kd.Ah | apply Kd.Ai | apply Kd.Ak)); exact Kd.R_mono HO221.out (fun _ hk => trivial), by repeat (first | (with_reducible first | exact HB.out | apply Ae | apply Ac | apply Ad | refine Ag ?_ GE215.out) | exact HB.out)⟩
                · rw [if_neg c15] at H
                  exact absurd H (by simp)
              · rw [if_neg c14] at H
                exact absurd H (by simp)
            · rw [if_neg c13] at H
              have c13b0 : decide (x6_2 < (wrap64 ((t207.length : Int) - 1))) = false := decide_eq_false c13
              clear c13
              replace H := Option.bind_eq_some_iff.mp H
              obtain ⟨t222, A300, H⟩ := H
              replace H : (if t222 < 0 then (some ((([] : List (S40))), false)) else ((Dn.f k2 x4_2).bind fun t226 => (if t226.toList = a0.toList then (some (x4_2, true)) else (some ((([] : List (S40))), false))))) = some (r1, r2) := H
              have A30 := Aa.mk A300
              clear A300
              by_cases c31 : t222 < 0
              · rw [if_pos c31] at H
                have c31b0 : decide (t222 < 0) = true := decide_eq_true c31
                clear c31
                obtain ⟨y223, hy223⟩ : ∃ y_ : List (S40), y_ = (([] : List (S40))) := ⟨_, rfl⟩
                replace H : (some (y223, false)) = some (r1, r2) := by first | (rw [hy223]; with_reducible exact H) | (have H2_ := (Option.bind_some _ _).symm.trans H; rw [hy223]; with_reducible exact H2_) | (have H2_ := (Option.bind_some _ _).symm.trans H; with_reducible exact H2_) | with_reducible exact H | (rw [hy223]; exact H) | exact H
                have Ny223 := Aa.mk hy223
                clear hy223
                simp only [Option.some.injEq, Prod.mk.injEq] at H
                obtain ⟨rfl, rfl⟩ := H
                obtain ⟨Ao32, co32, eo32⟩ := Kd.Ef HO_5.out
                subst eo32
                obtain ⟨Ao33, co33, eo33⟩ := Kd.Ef HO_4.out
                subst eo33
                go_wp2_with (first | ((with_reducible refine Bv (f := 25) rfl ?_); refine D5 (some 48) rfl rfl Tryd.func25 (by kernel_rfl) rfl #[.slice Ao33 x4_2.length co33] rfl (by (try simp only [List.map_toArray, List.map_cons, List.map_nil]); first | done | rfl | (simp only [List.length_drop, List.length_take]; rfl)) ?_; (with_reducible refine (Bh.calls k2 _ _ x4_2 t222 _ ?side1 ?side2 A30.out).mono ?_); (case side1 => repeat (first | exact (Kd.Ba HO_4.out).2.2 | (with_reducible refine Kd.Ci ?_ _) | (with_reducible refine Kd.Cf ?_ _) | (with_reducible refine Kd.Di ?_))); (case side2 => exact (Kd.Ba HO_4.out).2.1); rintro e w' ⟨rfl, ⟨nd, rfl⟩⟩; refine ⟨_, rfl, ?_⟩) | ((with_reducible refine D7 (N := 56) rfl ?_); (try (refine Gq (by rfl) ?_; dsimp only)); refine Kd.Ii k40 _ 40 ?hg (N := 56) ?hd (xs := ([] : List (S40))) (inner := []) (ok := fun _ => True) (okp := fun _ => True) ?hr ?hp (fun _ hk => hk) trivial (Below.refl _ _) (Nat.le_refl _) (by simp) ?_; (case hd => rfl); (case hg => rfl); (case hr => first | (go_simp; done) | (go_simp; rfl)); (case hp => exact (Dw.none _ _)); intro v224 w34 ho35 hb hg_ hnew_; clear hg_ hnew_; (first | rw [← Ny223.out] at ho35 | (simp only [Int.reduceToNat] at ho35; rw [← Ny223.out] at ho35)); have n0_ := Aa.mk (Kd.Ff (by (with_reducible repeat (first | apply Kd.Ah | apply Kd.Ai | apply Kd.Ak)); exact HO_4.out) (Kd.Gg ho35) hb); have n1_ := Aa.mk (Kd.Dk (by (with_reducible repeat (first | apply Kd.Ah | apply Kd.Ai | apply Kd.Ak)); exact HO_5.out) hb); have n2_ := Aa.mk (Kd.Du (Kd.Gh ho35 (Kd.Gs (by (with_reducible repeat (first | apply Kd.Ah | apply Kd.Ai | apply Kd.Ak)); exact HO_4.out))) (Aq (by repeat (first | (with_reducible first | exact HB.out | apply Ae | apply Ac | apply Ad) | exact HB.out)))); have n3_ := Aa.mk (Ap (by repeat (first | (with_reducible first | exact HB.out | apply Ae | apply Ac | apply Ad) | exact HB.out)) hb); clear HO_4; clear HO_5; clear HB; have HO_4 := n0_; have HO_5 := n1_; have HO225 := n2_; have HB := n3_; clear n0_ n1_ n2_ n3_; clear hb ho35))
                go_ret2
                exact ⟨_, by first | rfl | (simp [Be, Bf] <;> rfl) | (simp [*, Be, Bf] <;> rfl), by (with_reducible repeat (first | apply Kd.Ah | apply Kd.Ai | apply Kd.Ak)); exact Kd.R_mono HO225.out (fun _ hk => trivial), by repeat (first | (with_reducible first | exact HB.out | apply Ae | apply Ac | apply Ad) | exact HB.out)⟩
              · rw [if_neg c31] at H
                have c31b0 : decide (t222 < 0) = false := decide_eq_false c31
                clear c31
                replace H := Option.bind_eq_some_iff.mp H
                obtain ⟨t226, A360, H⟩ := H
                replace H : (if t226.toList = a0.toList then (some (x4_2, true)) else (some ((([] : List (S40))), false))) = some (r1, r2) := H
                have A36 := Aa.mk A360
                clear A360
                by_cases c37 : t226.toList = a0.toList
                · rw [if_pos c37] at H
                  have c37b0 : (t226.toList == a0.toList) = true := beq_iff_eq.mpr c37
                  have c37b1 : (t226.toList != a0.toList) = false := bne_eq_false_iff_eq.mpr c37
                  clear c37
                  simp only [Option.some.injEq, Prod.mk.injEq] at H
                  obtain ⟨rfl, rfl⟩ := H
                  obtain ⟨Ao38, co38, eo38⟩ := Kd.Ef HO_5.out
                  subst eo38
                  obtain ⟨Ao39, co39, eo39⟩ := Kd.Ef HO_4.out
                  subst eo39
                  go_wp2_with (first | ((with_reducible refine Bv (f := 25) rfl ?_); refine D5 (some 48) rfl rfl Tryd.func25 (by kernel_rfl) rfl #[.slice Ao39 x4_2.length co39] rfl (by (try simp only [List.map_toArray, List.map_cons, List.map_nil]); first | done | rfl | (simp only [List.length_drop, List.length_take]; rfl)) ?_; (with_reducible refine (Bh.calls k2 _ _ x4_2 t222 _ ?side1 ?side2 A30.out).mono ?_); (case side1 => repeat (first | exact (Kd.Ba HO_4.out).2.2 | (with_reducible refine Kd.Ci ?_ _) | (with_reducible refine Kd.Cf ?_ _) | (with_reducible refine Kd.Di ?_))); (case side2 => exact (Kd.Ba HO_4.out).2.1); rintro e w' ⟨rfl, ⟨nd, rfl⟩⟩; refine ⟨_, rfl, ?_⟩) | (go_at_call 26; (with_reducible refine (Dn.calls k2 _ _ x4_2 t226 _ ?side1 ?side2 A36.out).mono ?_); (case side1 => repeat (first | exact (Kd.Ba HO_4.out).2.2 | (with_reducible refine Kd.Ci ?_ _) | (with_reducible refine Kd.Cf ?_ _) | (with_reducible refine Kd.Di ?_))); (case side2 => exact (Kd.Ba HO_4.out).2.1); rintro e w40 ⟨rfl, hb⟩; have n0_ := Aa.mk (Kd.Dk (by (with_reducible repeat (first | apply Kd.Ah | apply Kd.Ai | apply Kd.Ak)); exact HO_4.out) hb); have n1_ := Aa.mk (Kd.Dk (by (with_reducible repeat (first | apply Kd.Ah | apply Kd.Ai | apply Kd.Ak)); exact HO_5.out) hb); have n2_ := Aa.mk (Ap (by repeat (first | (with_reducible first | exact HB.out | apply Ae | apply Ac | apply Ad) | exact HB.out)) hb); clear HO_4; clear HO_5; clear HB; have HO_4 := n0_; have HO_5 := n1_; have HB := n2_; clear n0_ n1_ n2_; (try clear hb); (try clear hb2); (try clear hk); (try clear hi)))
                  go_ret2
                  exact ⟨_, by first | rfl | (simp [Be, Bf] <;> rfl) | (simp [*, Be, Bf] <;> rfl), by (with_reducible repeat (first | apply Kd.Ah | apply Kd.Ai | apply Kd.Ak)); exact HO_4.out, by repeat (first | (with_reducible first | exact HB.out | apply Ae | apply Ac | apply Ad) | exact HB.out)⟩
                · rw [if_neg c37] at H
                  have c37b0 : (t226.toList == a0.toList) = false := beq_eq_false_iff_ne.mpr c37
                  have c37b1 : (t226.toList != a0.toList) = true := bne_iff_ne.mpr c37
                  obtain ⟨y227, hy227⟩ : ∃ y_ : List (S40), y_ = (([] : List (S40))) := ⟨_, rfl⟩
                  replace H : (some (y227, false)) = some (r1, r2) := by first | (rw [hy227]; with_reducible exact H) | (have H2_ := (Option.bind_some _ _).symm.trans H; rw [hy227]; with_reducible exact H2_) | (have H2_ := (Option.bind_some _ _).symm.trans H; with_reducible exact H2_) | with_reducible exact H | (rw [hy227]; exact H) | exact H
                  have Ny227 := Aa.mk hy227
                  clear hy227
                  simp only [Option.some.injEq, Prod.mk.injEq] at H
                  obtain ⟨rfl, rfl⟩ := H
                  obtain ⟨Ao41, co41, eo41⟩ := Kd.Ef HO_5.out
                  subst eo41
                  obtain ⟨Ao42, co42, eo42⟩ := Kd.Ef HO_4.out
                  subst eo42
                  go_wp2_with (first | ((with_reducible refine Bv (f := 25) rfl ?_); refine D5 (some 48) rfl rfl Tryd.func25 (by kernel_rfl) rfl #[.slice Ao42 x4_2.length co42] rfl (by (try simp only [List.map_toArray, List.map_cons, List.map_nil]); first | done | rfl | (simp only [List.length_drop, List.length_take]; rfl)) ?_; (with_reducible refine (Bh.calls k2 _ _ x4_2 t222 _ ?side1 ?side2 A30.out).mono ?_); (case side1 => repeat (first | exact (Kd.Ba HO_4.out).2.2 | (with_reducible refine Kd.Ci ?_ _) | (with_reducible refine Kd.Cf ?_ _) | (with_reducible refine Kd.Di ?_))); (case side2 => exact (Kd.Ba HO_4.out).2.1); rintro e w' ⟨rfl, ⟨nd, rfl⟩⟩; refine ⟨_, rfl, ?_⟩) | (go_at_call 26; (with_reducible refine (Dn.calls k2 _ _ x4_2 t226 _ ?side1 ?side2 A36.out).mono ?_); (case side1 => repeat (first | exact (Kd.Ba HO_4.out).2.2 | (with_reducible refine Kd.Ci ?_ _) | (with_reducible refine Kd.Cf ?_ _) | (with_reducible refine Kd.Di ?_))); (case side2 => exact (Kd.Ba HO_4.out).2.1); rintro e w43 ⟨rfl, hb⟩; have n0_ := Aa.mk (Kd.Dk (by (with_reducible repeat (first | apply Kd.Ah | apply Kd.Ai | apply Kd.Ak)); exact HO_4.out) hb); have n1_ := Aa.mk (Kd.Dk (by (with_reducible repeat (first | apply Kd.Ah | apply Kd.Ai | apply Kd.Ak)); exact HO_5.out) hb); have n2_ := Aa.mk (Ap (by repeat (first | (with_reducible first | exact HB.out | apply Ae | apply Ac | apply Ad) | exact HB.out)) hb); clear HO_4; clear HO_5; clear HB; have HO_4 := n0_; have HO_5 := n1_; have HB := n2_; clear n0_ n1_ n2_; (try clear hb); (try clear hb2); (try clear hk); (try clear hi)) | ((with_reducible refine D7 (N := 56) rfl ?_); (try (refine Gq (by rfl) ?_; dsimp only)); refine Kd.Ii k40 _ 40 ?hg (N := 56) ?hd (xs := ([] : List (S40))) (inner := []) (ok := fun _ => True) (okp := fun _ => True) ?hr ?hp (fun _ hk => hk) trivial (Below.refl _ _) (Nat.le_refl _) (by simp) ?_; (case hd => rfl); (case hg => rfl); (case hr => first | (go_simp; done) | (go_simp; rfl)); (case hp => exact (Dw.none _ _)); intro v228 w44 ho45 hb hg_ hnew_; clear hg_ hnew_; (first | rw [← Ny227.out] at ho45 | (simp only [Int.reduceToNat] at ho45; rw [← Ny227.out] at ho45)); have n0_ := Aa.mk (Kd.Ff (by (with_reducible repeat (first | apply Kd.Ah | apply Kd.Ai | apply Kd.Ak)); exact HO_4.out) (Kd.Gg ho45) hb); have n1_ := Aa.mk (Kd.Dk (by (with_reducible repeat (first | apply Kd.Ah | apply Kd.Ai | apply Kd.Ak)); exact HO_5.out) hb); have n2_ := Aa.mk (Kd.Du (Kd.Gh ho45 (Kd.Gs (by (with_reducible repeat (first | apply Kd.Ah | apply Kd.Ai | apply Kd.Ak)); exact HO_4.out))) (Aq (by repeat (first | (with_reducible first | exact HB.out | apply Ae | apply Ac | apply Ad) | exact HB.out)))); have n3_ := Aa.mk (Ap (by repeat (first | (with_reducible first | exact HB.out | apply Ae | apply Ac | apply Ad) | exact HB.out)) hb); clear HO_4; clear HO_5; clear HB; have HO_4 := n0_; have HO_5 := n1_; have HO229 := n2_; have HB := n3_; clear n0_ n1_ n2_ n3_; clear hb ho45))
                  go_ret2
                  exact ⟨_, by first | rfl | (simp [Be, Bf] <;> rfl) | (simp [*, Be, Bf] <;> rfl), by (with_reducible repeat (first | apply Kd.Ah | apply Kd.Ai | apply Kd.Ak)); exact Kd.R_mono HO229.out (fun _ hk => trivial), by repeat (first | (with_reducible first | exact HB.out | apply Ae | apply Ac | apply Ad) | exact HB.out)⟩
end Go.Proofs.YtpalafegcndccaaDoor.X

namespace Go.Proofs.YtpalafegcndccaaDoor.X
open Go.RowKit Go.Proofs.YtpalafegcndccaaDoorW.PrintWords Go.Proofs.YtpalafegcndccaaDoorL
/-- The bytes of an event's line, without its end. -/
def H9 (x : Event) : List UInt8 := Lib.itoa x.f0 ++ 32 :: B (wordE x.f1)
theorem B_lineE (x : Event) : B (lineE x) = H9 x ++ [10] := by
  unfold lineE H9
  rw [B_append, B_append, B_append, B_dec]
  simp [B]
theorem words7 : ∀ p : Fin 7, (∀ b ∈ B (G6.getD p.val ByteArray.empty), b ≠ 10) := by decide
theorem words_far : ∀ p q : Fin 7, p ≠ q → G6.getD p.val ByteArray.empty ≠ G6.getD q.val ByteArray.empty := by decide
theorem itoa_nat {n : Int} (h0 : 0 ≤ n) : Lib.itoa n = Lib.decDigits n.toNat := by unfold Lib.itoa; rw [if_neg (by omega)]
theorem wordE_at {a : Int} (h0 : 1 ≤ a) (h1 : a ≤ 6) : ∃ j : Nat, (j : Int) = a ∧ 1 ≤ j ∧ ∃ hj : j < G6.length, wordE a = G6[j] := by
  obtain ⟨j, rfl⟩ := Int.eq_ofNat_of_zero_le (show 0 ≤ a by omega)
  have hj : j < G6.length := by show j < 7; omega
  exact ⟨j, rfl, by omega, hj, rdW G6 j hj⟩
theorem word_ne {i j : Nat} (hi : i < G6.length) (hj : j < G6.length) (h : i ≠ j) : G6[i] ≠ G6[j] := by
  have := words_far ⟨i, hi⟩ ⟨j, hj⟩ (fun e => h (by injection e))
  simpa [List.getD_eq_getElem?_getD, List.getElem?_eq_getElem hi, List.getElem?_eq_getElem hj] using this
theorem word_no10 {a : Int} (h0 : 1 ≤ a) (h1 : a ≤ 6) : (10 : UInt8) ∉ B (wordE a) := by
  obtain ⟨j, _, _, hj, e⟩ := wordE_at h0 h1
  have := words7 ⟨j, hj⟩
  rw [e]
  intro h
  have h2 : (10 : UInt8) ∈ B (G6.getD j ByteArray.empty) := by
    simpa [List.getD_eq_getElem?_getD, List.getElem?_eq_getElem hj] using h
  exact this 10 h2 rfl
theorem dig_not (u : Nat) {b : UInt8} (h : b ∈ Lib.decDigits u) (c : UInt8) (hc : c.toNat < 48) : b ≠ c := by
  have := dd_range u u (Nat.le_refl _) b h
  unfold isD at this
  intro e
  subst e
  omega
theorem body_no10 {x : Event} (h : okEv x) : (10 : UInt8) ∉ H9 x := by
  unfold H9
  rw [itoa_nat h.1.1]
  intro hm
  rcases List.mem_append.1 hm with hm | hm
  · exact dig_not _ hm 10 (by decide) rfl
  · rcases List.mem_cons.1 hm with hm | hm
    · exact absurd hm (by decide)
    · exact word_no10 h.2.1 h.2.2 hm
theorem body_cut {x : Event} (h : okEv x) : F8 32 (H9 x) = (Lib.decDigits x.f0.toNat, B (wordE x.f1), true) := by
  unfold H9
  rw [itoa_nat h.1.1]
  exact cutL_hit 32 _ _ (fun hm => dig_not _ hm 32 (by decide) rfl)
theorem body_len {x : Event} (h : okEv x) : (H9 x).length ≤ 13 := by
  have h1 : (Lib.decDigits x.f0.toNat).length ≤ 4 := dd_len 4 _ (by omega) (by have := h.1; omega)
  have h2 := wordE_size x.f1 h.2.1 h.2.2
  rw [size_B] at h2
  unfold H9
  rw [itoa_nat h.1.1, List.length_append, List.length_cons]
  omega
/-- The bytes of a history's text. -/
def bytesH (l : List Event) : List UInt8 := l.flatMap fun x => H9 x ++ [10]
theorem bytesH_cons (x : Event) (l : List Event) : bytesH (x :: l) = H9 x ++ 10 :: bytesH l := by unfold bytesH; simp
theorem B_textH (l : List Event) : B (Gx l) = bytesH l := by
  have key : ∀ (l : List Event) (s : ByteArray), B (l.foldl (fun s x => s ++ lineE x) s) = B s ++ bytesH l := by
    intro l
    induction l with
    | nil => intro s; simp [bytesH]
    | cons x l ih => intro s; rw [List.foldl_cons, ih, B_append, B_lineE, bytesH_cons]; simp
  have := key l ⟨#[]⟩
  unfold Gx
  rw [this]
  simp [B]
theorem bytesH_len : ∀ l : List Event, (∀ x ∈ l, okEv x) → (bytesH l).length ≤ 14 * l.length
  | [], _ => by simp [bytesH]
  | x :: l, h => by
    have ih := bytesH_len l (fun y hy => h y (by simp [hy]))
    have := body_len (h x (by simp))
    rw [bytesH_cons, List.length_append, List.length_cons, List.length_cons]
    omega
theorem text_small {l : List Event} (h : okH l) : (Gx l).size ≤ 280 := by
  have h1 := bytesH_len l h.2
  have h2 := h.1
  rw [size_B, B_textH]
  omega
theorem pieces_bytesH : ∀ l : List Event, (∀ x ∈ l, okEv x) → pieces 10 (bytesH l) = l.map H9 ++ [[]]
  | [], _ => rfl
  | x :: l, h => by
    have ih := pieces_bytesH l (fun y hy => h y (by simp [hy]))
    rw [bytesH_cons, Jf, cutL_hit 10 _ _ (body_no10 (h x (by simp))), if_pos rfl, ih]
    rfl
/-- What the program reads in a line. -/
theorem implLine (y : ByteArray) (hy : y.size ≤ 1048576) : ∃ (a b : ByteArray) (o o2 : Bool) (i v : Int), strings_Cut.f y (⟨#[32]⟩ : ByteArray) = some (a, b, o) ∧ Ev (fun k => Cc.f k G6 b) i ∧ Gt.f a = some (v, o2) ∧ ∀ x, okEv x → B y = H9 x → (⟨v, i⟩ : Event) = x := by
  have hc := stringsCut_eq y 32 (by omega)
  obtain ⟨i, hi, hip⟩ := implIndex_ev G6 (mk (F8 32 (B y)).2.1) (by decide)
  have hl : (F8 32 (B y)).1.length ≤ (B y).length := by
    by_cases h : (F8 32 (B y)).2.2 = true
    · have := congrArg List.length (Iy 32 (B y) h)
      rw [List.length_append, List.length_cons] at this
      omega
    · rw [cutL_lost 32 (B y) (by simpa using h)]; exact Nat.le_refl _
  rw [Hm] at hl
  obtain ⟨v, o2, hv⟩ := parseInt_total (mk (F8 32 (B y)).1) (by rw [mk_size]; omega)
  refine ⟨_, _, _, o2, i, v, hc, hi, hv, fun x hx e => ?_⟩
  rw [e, body_cut hx] at hv hip
  have h1 : v = x.f0 := by
    rw [parseInt_dd x.f0.toNat (by have := hx.1; omega)] at hv
    simp only [Option.some.injEq, Prod.mk.injEq] at hv
    have := hx.1
    omega
  have h2 : i = x.f1 := by
    obtain ⟨j, ej, j1, hj, ew⟩ := wordE_at hx.2.1 hx.2.2
    rw [← ej]
    refine hip j hj ?_ (fun k hk => ?_)
    · rw [mk_of_B, ew]
    · rw [mk_of_B, ew]
      exact word_ne (by omega) hj (by omega)
  subst h1 h2
  rfl
/-- What the reference reads in a line. -/
theorem specLine (y : ByteArray) (hy : y.size ≤ 400) : ∃ (v i : Int) (o : Bool), Ev (fun k => Ea.f k y) (v, i, o) ∧ ∀ x, okEv x → B y = H9 x → (v, i, o) = (x.f0, x.f1, true) := by
  have hlen := Hm y
  by_cases h : (F8 32 (B y)).2.2 = true
  · have hf := Iy 32 (B y) h
    have hn := Jd 32 (B y)
    have hbody : ∀ x, okEv x → B y = H9 x → (F8 32 (B y)).1 = Lib.decDigits x.f0.toNat ∧ (F8 32 (B y)).2.1 = B (wordE x.f1) := fun x hx e => by rw [e, body_cut hx]; exact ⟨rfl, rfl⟩
    generalize (F8 32 (B y)).1 = a at hf hn hbody
    generalize (F8 32 (B y)).2.1 = b at hf hbody
    have hl := congrArg List.length hf
    rw [List.length_append, List.length_cons, hlen] at hl
    have e1 : y.extract 0 a.length = mk a := B_inj (by rw [Iu, H6, hf, List.drop_zero, Nat.sub_zero, List.take_left' rfl])
    have e2 : y.extract (a.length + 1) y.size = mk b := B_inj (by
      rw [Iu, H6, List.take_of_length_le (by rw [List.length_drop]; omega), hf, show a.length + 1 = (a ++ [(32 : UInt8)]).length from by simp, show a ++ 32 :: b = (a ++ [32]) ++ b from by simp, List.drop_left' rfl])
    obtain ⟨v, o, hv, hvp⟩ := readAny_ev (mk a) (by rw [mk_size]; omega)
    obtain ⟨i, hi, hip⟩ := specIndex_ev G6 (mk b) (by decide)
    have key : ∀ (d n : Nat), n + d = a.length → Ev (fun k => Ea.l0 k y (n : Int)) (v, i, if o = true then decide (i > 0) else false) := by
      intro d
      induction d with
      | zero =>
        intro n hn2
        obtain rfl : n = a.length := by omega
        have hb := bt_B y a.length (by omega)
        have h32 : (B y)[a.length]'(by omega) = 32 := by
          have : (a ++ 32 :: b)[a.length]'(by simp) = 32 := by simp
          simp only [hf, this]
        refine Ev.step (f := fun k => (Df.f k (mk a)).bind fun t => (Em.f k G6 (mk b)).bind fun i => if t.2 = true then some (t.1, i, decide (i > 0)) else some (t.1, i, false)) (fun k => ?_) ?_
        · simp only [Ea.l0]
          have ew : G7.f = some G6 := rfl
          have q1 : (0 : Int) ≤ ((a.length + 1 : Nat) : Int) := by omega
          have q2 : ((a.length + 1 : Nat) : Int) ≤ (y.size : Int) := by omega
          rw [if_pos (by omega), if_pos (by omega), hb, h32, if_pos (by rfl), if_pos (by omega), wrap_succ (by omega), Int.toNat_natCast, e1]
          simp only [ew, Option.bind_some, if_pos q1, if_pos q2, Int.toNat_natCast, e2]
        · refine Ev.bind hv (Ev.bind hi ?_)
          cases o with
          | true => simp only [if_true]; exact Ev.now _
          | false => simp only [Bool.false_eq_true, if_false]; exact Ev.now _
      | succ d ih =>
        intro n hn2
        have hn3 : n < a.length := by omega
        have hb := bt_B y n (by omega)
        have hne : (B y)[n]'(by omega) ≠ 32 := by
          have : (a ++ 32 :: b)[n]'(by simp; omega) = a[n] := List.getElem_append_left hn3
          simp only [hf, this]
          intro e
          exact hn (by rw [← e]; exact List.getElem_mem hn3)
        refine Ev.step (fun k => ?_) (ih (n + 1) (by omega))
        simp only [Ea.l0]
        rw [if_pos (by omega), if_pos (by omega), hb, if_neg (fun z => hne (UInt8.toNat_inj.1 (by show _ = 32; omega))), wrap_succ (by omega)]
    refine ⟨v, i, _, Ev.congr (fun k => rfl) (key a.length 0 (by omega)), fun x hx e => ?_⟩
    obtain ⟨ea, eb⟩ := hbody x hx e
    have h1 := hvp x.f0.toNat (by have := hx.1; omega) (by rw [H6, ea])
    have h2 : i = x.f1 := by
      obtain ⟨j, ej, j1, hj, ew⟩ := wordE_at hx.2.1 hx.2.2
      rw [← ej]
      refine hip j j1 hj ?_ (fun k _ hk => ?_)
      · rw [eb, mk_of_B, ew]
      · rw [eb, mk_of_B, ew]
        exact word_ne (by omega) hj (by omega)
    have h3 : v = x.f0 := by have := hx.1; omega
    rw [h2, h3, h1.2, if_pos rfl, decide_eq_true (by have := hx.2; omega)]
  · have hl := cutL_lost 32 (B y) (by simpa using h)
    have hn : (32 : UInt8) ∉ B y := by
      have := Jd 32 (B y)
      rw [hl] at this
      exact this
    have key : ∀ (d n : Nat), n + d = y.size → Ev (fun k => Ea.l0 k y (n : Int)) ((0, 0, false) : Int × Int × Bool) := by
      intro d
      induction d with
      | zero =>
        intro n hn2
        refine Ev.step (f := fun _ => some _) (fun k => ?_) (Ev.now _)
        simp only [Ea.l0]
        rw [if_neg (by omega)]
      | succ d ih =>
        intro n hn2
        have hb := bt_B y n (by omega)
        have hne : (B y)[n]'(by omega) ≠ 32 := fun e => hn (by rw [← e]; exact List.getElem_mem _)
        refine Ev.step (fun k => ?_) (ih (n + 1) (by omega))
        simp only [Ea.l0]
        rw [if_pos (by omega), if_pos (by omega), hb, if_neg (fun z => hne (UInt8.toNat_inj.1 (by show _ = 32; omega))), wrap_succ (by omega)]
    refine ⟨0, 0, false, Ev.congr (fun k => rfl) (key y.size 0 (by omega)), fun x hx e => ?_⟩
    rw [e, body_cut hx] at h
    exact absurd rfl h
end Go.Proofs.YtpalafegcndccaaDoor.X

namespace Go.Proofs.YtpalafegcndccaaDoor.X
open Go.RowKit Go.Proofs.YtpalafegcndccaaDoorW.PrintWords Go.Proofs.YtpalafegcndccaaDoorL
abbrev noH : List Event × Bool := ([], false)
/-- What a result of reading s may be. -/
def readsH (s : ByteArray) (r : List Event × Bool) : Prop := (r = noH ∨ ∃ L, (hist L).isSome = true ∧ Gx L = s ∧ r = (L, true)) ∧ ∀ L, (hist L).isSome = true → Gx L = s → r = (L, true)
theorem someH {L : List Event} (h : (hist L).isSome = true) : okH L := by
  cases e : hist L with
  | none => rw [e] at h; cases h
  | some t => exact hist_ok e
open Classical in
/-- The end of reading: the check. -/
noncomputable def endH (s : ByteArray) (out : List Event) : List Event × Bool := if (hist out).isSome = true ∧ Gx out = s then (out, true) else noH
theorem endH_hit {s : ByteArray} {out : List Event} (h : (hist out).isSome = true) (e : Gx out = s) : endH s out = (out, true) := by unfold endH; exact if_pos ⟨h, e⟩
theorem endH_miss {s : ByteArray} {out : List Event} (h : ¬ ((hist out).isSome = true ∧ Gx out = s)) : endH s out = noH := by unfold endH; exact if_neg h
theorem endH_or (s : ByteArray) (out : List Event) : endH s out = noH ∨ ∃ L, (hist L).isSome = true ∧ Gx L = s ∧ endH s out = (L, true) := by
  by_cases c : (hist out).isSome = true ∧ Gx out = s
  · exact .inr ⟨out, c.1, c.2, endH_hit c.1 c.2⟩
  · exact .inl (endH_miss c)
theorem implEnd (s : ByteArray) (out : List Event) (hl : out.length ≤ 1048576) : Ev (fun k => (Cm.f k out).bind fun t => (if t = true then ((Dt.f k out).bind fun t2 => (if t2.toList = s.toList then (some (out, true)) else (some (([] : List Event), false)))) else (some (([] : List Event), false)))) (endH s out) := by
  refine Ev.bind (Ja out hl) ?_
  by_cases h : (hist out).isSome = true
  · refine Ev.congr (fun k => if_pos h) (Ev.bind (implTextH_ev out (someH h)) ?_)
    by_cases e : Gx out = s
    · rw [endH_hit h e]
      exact Ev.congr (fun k => if_pos (by rw [e])) (Ev.now _)
    · rw [endH_miss (fun z => e z.2)]
      exact Ev.congr (fun k => if_neg (fun z => e (B_inj (by rwa [Hy, Hy] at z)))) (Ev.now _)
  · rw [endH_miss (fun z => h z.1)]
    exact Ev.congr (fun k => if_neg h) (Ev.now _)
theorem implLoopH (s : ByteArray) (ys : List ByteArray) (hys : ys.length ≤ 1048576) (hsz : ∀ y ∈ ys, y.size ≤ 1048576) : ∀ (d n : Nat) (acc : List Event), n + d = ys.length → acc.length = n →
    ∃ out : List Event, out.length = d ∧ Ev (fun k => Bz.l0 k s acc ys (ys.length : Int) (n : Int)) (endH s (acc ++ out)) ∧ ∀ L : List Event, L.length = d → (∀ i : Nat, (h : i < L.length) → (h2 : n + i < ys.length) → okEv L[i] ∧ B ys[n + i] = H9 L[i]) → out = L := by
  intro d
  induction d with
  | zero =>
    intro n acc hn ha
    refine ⟨[], rfl, ?_, fun L hL _ => (List.eq_nil_of_length_eq_zero hL).symm⟩
    rw [List.append_nil]
    refine Ev.step (fun k => ?_) (implEnd s acc (by omega))
    simp only [Bz.l0]
    rw [if_neg (by omega)]
  | succ d ih =>
    intro n acc hn ha
    have hn2 : n < ys.length := by omega
    obtain ⟨a, b, o, o2, i, v, hc, hi, hv, hp⟩ := implLine ys[n] (hsz _ (List.getElem_mem hn2))
    obtain ⟨out, ho, he, hL⟩ := ih (n + 1) (acc ++ [⟨v, i⟩]) (by omega) (by simp [ha])
    refine ⟨⟨v, i⟩ :: out, by simp [ho], ?_, fun L hLl hb => ?_⟩
    · rw [List.append_assoc] at he
      have ew : Ha.f = some G6 := rfl
      refine Ev.step (f := fun k => (Cc.f k G6 b).bind fun t => Bz.l0 k s (acc ++ [(⟨v, t⟩ : Event)]) ys (ys.length : Int) ((n + 1 : Nat) : Int)) (fun k => ?_) (Ev.bind hi he)
      have q : acc.length < 8796093022208 := by omega
      simp only [Bz.l0]
      rw [if_pos (by omega), if_pos (by omega), if_pos (by omega), rdW ys n hn2, hc, wrap_succ (by omega)]
      simp only [ew, hv, Option.bind_some, if_pos q]
    · cases L with
      | nil => cases hLl
      | cons x L =>
        have h0 := hb 0 (by simp) (by omega)
        have e0 : (⟨v, i⟩ : Event) = x := hp x h0.1 h0.2
        have e1 : out = L := hL L (by simpa using hLl) (fun j hj hj2 => by
          have := hb (j + 1) (by simpa using hj) (by omega)
          simp only [List.getElem_cons_succ] at this
          have e : n + (j + 1) = n + 1 + j := by omega
          simp only [e] at this
          exact this)
        rw [e0, e1]
/-- A history's lines stand in the text's pieces. -/
theorem lines_of {s : ByteArray} {L : List Event} (h : (hist L).isSome = true) (e : Gx L = s) : pieces 10 (B s) = L.map H9 ++ [[]] := by
  rw [← e, B_textH]
  exact pieces_bytesH L (someH h).2
theorem piece_size (s : ByteArray) : ∀ p ∈ pieces 10 (B s), p.length ≤ s.size := by
  have key : ∀ (m : Nat) (l : List UInt8), l.length ≤ m → ∀ p ∈ pieces 10 l, p.length ≤ l.length := by
    intro m
    induction m with
    | zero =>
      intro l hl p hp
      obtain rfl : l = [] := List.eq_nil_of_length_eq_zero (by omega)
      simp [pieces] at hp
      rw [hp]
      exact Nat.le_refl _
    | succ m ih =>
      intro l hl p hp
      rw [Jf] at hp
      by_cases h : (F8 10 l).2.2 = true
      · rw [if_pos h] at hp
        have hf := congrArg List.length (Iy 10 l h)
        rw [List.length_append, List.length_cons] at hf
        rcases List.mem_cons.1 hp with rfl | hp
        · omega
        · have := ih _ (by omega) p hp
          omega
      · rw [if_neg h] at hp
        rw [List.mem_singleton.1 hp]
        exact Nat.le_refl _
  intro p hp
  have := key _ _ (Nat.le_refl _) p hp
  rwa [Hm] at this
theorem implHist_read (s : ByteArray) (hs : s.size ≤ 1048576) : ∃ r, Ev (fun k => Bz.f k s) r ∧ readsH s r := by
  have hB := Hm s
  have hpl := Jb 10 (B s)
  -- what lines there are
  obtain ⟨ys, ok, hlo, hlen, hmem, hokk⟩ : ∃ (ys : List ByteArray) (ok : Bool), Hu.f s = some (ys, ok) ∧ ys.length ≤ 1048576 ∧ (∀ y ∈ ys, y.size ≤ 1048576) ∧ ∀ L, (hist L).isSome = true → Gx L = s → ok = true ∧ ys = L.map fun x => mk (H9 x) := by
    by_cases c : s.toList = []
    · refine ⟨[], true, by unfold Hu.f; rw [if_pos c], by simp, fun y hy => (by cases hy), fun L h e => ⟨rfl, ?_⟩⟩
      have hp := lines_of h e
      have hb : B s = [] := by rw [← Hy]; exact c
      rw [hb] at hp
      cases L with
      | nil => rfl
      | cons x L => have := congrArg List.length hp; simp [pieces] at this
    · have hsp := stringsSplit_eq s 10 hs
      have hsp2 : strings_Split.f s (⟨#[10]⟩ : ByteArray) = some ((pieces 10 (B s)).map mk) := hsp
      refine ⟨((pieces 10 (B s)).map mk).take (((pieces 10 (B s)).map mk).length - 1), _, by unfold Hu.f; rw [if_neg c, hsp2, Option.bind_some, if_pos ⟨by rw [List.length_map]; omega, by rw [List.length_map]; omega⟩], by rw [List.length_take, List.length_map]; omega, fun y hy => ?_, fun L h e => ?_⟩
      · obtain ⟨p, hp, rfl⟩ := List.mem_map.1 (List.mem_of_mem_take hy)
        have := piece_size s p hp
        rw [mk_size]
        omega
      · have hp := lines_of h e
        rw [hp]
        simp only [List.map_append, List.map_map, List.map_cons, List.map_nil, List.length_append, List.length_map, List.length_cons, List.length_nil]
        refine ⟨?_, ?_⟩
        · rw [show L.length + (0 + 1) - 1 = L.length by omega, rdW _ L.length (by simp)]
          simp [mk]
        · rw [show L.length + (0 + 1) - 1 = L.length by omega, List.take_left' (by simp)]
          rfl
  unfold Bz.f
  rw [hlo]
  simp only [Option.bind_some]
  cases ok with
  | false =>
    exact ⟨noH, ev_eq (fun k => if_neg (by decide)), .inl rfl, fun L h e => by have := (hokk L h e).1; cases this⟩
  | true =>
    obtain ⟨out, ho, he, hL⟩ := implLoopH s ys hlen hmem ys.length 0 [] (by omega) rfl
    rw [List.nil_append] at he
    refine ⟨endH s out, Ev.congr (fun k => if_pos rfl) he, endH_or s out, fun L h e => ?_⟩
    · have hy := (hokk L h e).2
      have hout : out = L := hL L (by rw [hy, List.length_map]) (fun i hi hi2 => by
        refine ⟨(someH h).2 _ (List.getElem_mem hi), ?_⟩
        simp only [hy, List.getElem_map, H6, Nat.zero_add])
      rw [hout]
      exact endH_hit h e
theorem specEnd (s : ByteArray) (out : List Event) : Ev (fun k => (Bh.f k out).bind fun t222 => (if t222 < 0 then (some ((([] : List Event)), false)) else ((Dn.f k out).bind fun t226 => (if t226.toList = s.toList then (some (out, true)) else (some ((([] : List Event)), false)))))) (endH s out) := by
  refine Ev.bind (I8 out) ?_
  cases e0 : hist out with
  | none =>
    rw [endH_miss (fun z => by rw [e0] at z; cases z.1)]
    exact Ev.congr (fun k => if_pos (by decide)) (Ev.now _)
  | some t =>
    have := hist_nonneg e0
    refine Ev.congr (fun k => if_neg (by simp only [Option.getD_some]; omega)) (Ev.bind (Jh out (hist_ok e0)) ?_)
    by_cases e : Gx out = s
    · rw [endH_hit (by rw [e0]; rfl) e]
      exact Ev.congr (fun k => if_pos (by rw [e])) (Ev.now _)
    · rw [endH_miss (fun z => e z.2)]
      exact Ev.congr (fun k => if_neg (fun z => e (B_inj (by rwa [Hy, Hy] at z)))) (Ev.now _)
theorem specLoopH (s : ByteArray) (ys : List ByteArray) (m : Nat) (hm : ys.length = m + 1) (hys : ys.length ≤ 1000) (hsz : ∀ y ∈ ys, y.size ≤ 400) : ∀ (d n : Nat) (acc : List Event), n + d = m → acc.length = n →
    ∃ r, Ev (fun k => Ce.l0 k s acc ys (n : Int)) r ∧ ((r = noH ∧ ∀ L : List Event, L.length = d → ¬ (∀ i : Nat, (h : i < L.length) → (h2 : n + i < ys.length) → okEv L[i] ∧ B ys[n + i] = H9 L[i])) ∨
      ∃ out : List Event, r = endH s (acc ++ out) ∧ ∀ L : List Event, L.length = d → (∀ i : Nat, (h : i < L.length) → (h2 : n + i < ys.length) → okEv L[i] ∧ B ys[n + i] = H9 L[i]) → out = L) := by
  intro d
  induction d with
  | zero =>
    intro n acc hn ha
    refine ⟨endH s acc, ?_, .inr ⟨[], by rw [List.append_nil], fun L hL _ => (List.eq_nil_of_length_eq_zero hL).symm⟩⟩
    refine Ev.step (fun k => ?_) (specEnd s acc)
    simp only [Ce.l0]
    rw [Gi (x := (ys.length : Int) - 1) (by omega) (by omega), if_neg (by omega)]
  | succ d ih =>
    intro n acc hn ha
    have hn2 : n < ys.length := by omega
    obtain ⟨v, i, o, hp, hpp⟩ := specLine ys[n] (hsz _ (List.getElem_mem hn2))
    have q : acc.length < 8796093022208 := by omega
    have step : ∀ k, Ce.l0 (k + 1) s acc ys (n : Int) = (Ea.f k ys[n]).bind fun b => if b.2.2 = true then Ce.l0 k s (acc ++ [(⟨b.1, b.2.1⟩ : Event)]) ys ((n + 1 : Nat) : Int) else some (([] : List Event), false) := fun k => by
      simp only [Ce.l0]
      rw [Gi (x := (ys.length : Int) - 1) (by omega) (by omega), if_pos (by omega), if_pos (by omega), if_pos (by omega), rdW ys n hn2, wrap_succ (by omega)]
      simp only [if_pos q]
    cases o with
    | false =>
      refine ⟨noH, Ev.step step (Ev.bind hp (Ev.congr (fun k => if_neg Bool.false_ne_true) (Ev.now _))), .inl ⟨rfl, fun L hL hb => ?_⟩⟩
      cases L with
      | nil => cases hL
      | cons x L =>
        have h0 := hb 0 (by simp) (by omega)
        have := hpp x h0.1 h0.2
        simp only [Prod.mk.injEq] at this
        exact absurd this.2.2 (by decide)
    | true =>
      obtain ⟨r, he, hr⟩ := ih (n + 1) (acc ++ [⟨v, i⟩]) (by omega) (by simp [ha])
      have tl : ∀ (x : Event) (L : List Event), (∀ j : Nat, (h : j < (x :: L).length) → (h2 : n + j < ys.length) → okEv (x :: L)[j] ∧ B ys[n + j] = H9 (x :: L)[j]) → (⟨v, i⟩ : Event) = x ∧ ∀ j : Nat, (h : j < L.length) → (h2 : n + 1 + j < ys.length) → okEv L[j] ∧ B ys[n + 1 + j] = H9 L[j] := fun x L hb => by
        have h0 := hb 0 (by simp) (by omega)
        have := hpp x h0.1 h0.2
        simp only [Prod.mk.injEq] at this
        refine ⟨by cases x; simp_all, fun j hj hj2 => ?_⟩
        have := hb (j + 1) (by simpa using hj) (by omega)
        simp only [List.getElem_cons_succ] at this
        have e : n + (j + 1) = n + 1 + j := by omega
        simp only [e] at this
        exact this
      refine ⟨r, Ev.step step (Ev.bind hp (Ev.congr (fun k => if_pos rfl) he)), ?_⟩
      rcases hr with ⟨rfl, hno⟩ | ⟨out, rfl, hL⟩
      · refine .inl ⟨rfl, fun L hLl hb => ?_⟩
        cases L with
        | nil => cases hLl
        | cons x L => exact hno L (by simpa using hLl) (tl x L hb).2
      · refine .inr ⟨⟨v, i⟩ :: out, by rw [List.append_assoc]; rfl, fun L hLl hb => ?_⟩
        cases L with
        | nil => cases hLl
        | cons x L => rw [hL L (by simpa using hLl) (tl x L hb).2, (tl x L hb).1]
theorem specHist_read (s : ByteArray) (hs : s.size ≤ 1048576) : ∃ r, Ev (fun k => Ce.f k s) r ∧ readsH s r := by
  have hB := Hm s
  have hpl := Jb 10 (B s)
  have hsp : Ev (fun k => Eb.f k s 10) ((pieces 10 (B s)).map mk) := specSplit_ev s 10 (by omega)
  have bad : ∀ ts, Ev (fun k => Ce.j0 k s [] ts true) noH := fun ts => Ev.step (f := fun _ => some _) (fun k => by simp only [Ce.j0, if_true]) (Ev.now _)
  unfold Ce.f
  simp only [Option.bind_some]
  by_cases c : (s.size : Int) > 400
  · refine ⟨noH, Ev.bind hsp (Ev.congr (fun k => if_pos c) (bad _)), .inl rfl, fun L h e => ?_⟩
    have := text_small (someH h)
    rw [e] at this
    omega
  · have hl : ((pieces 10 (B s)).map mk).length = (pieces 10 (B s)).length := List.length_map _
    obtain ⟨m, hm⟩ : ∃ m, (pieces 10 (B s)).length = m + 1 := ⟨(pieces 10 (B s)).length - 1, by omega⟩
    have hmm : ((pieces 10 (B s)).map mk).length = m + 1 := by omega
    have hw : wrap64 ((((pieces 10 (B s)).map mk).length : Int) - 1) = (m : Int) := by rw [hmm, Gi (by omega) (by omega)]; omega
    have hms : m < ((pieces 10 (B s)).map mk).length := by omega
    have hlast : ∀ L, (hist L).isSome = true → Gx L = s → m = L.length ∧ (((pieces 10 (B s)).map mk)[m]).toList = [] ∧ ∀ i : Nat, (h : i < L.length) → (h2 : i < ((pieces 10 (B s)).map mk).length) → okEv L[i] ∧ B ((pieces 10 (B s)).map mk)[i] = H9 L[i] := fun L h e => by
      have hp := lines_of h e
      have e1 : m = L.length := by have := congrArg List.length hp; simp at this; omega
      refine ⟨e1, ?_, fun i hi hi2 => ⟨(someH h).2 _ (List.getElem_mem hi), ?_⟩⟩
      · simp only [hp, List.getElem_map]
        rw [List.getElem_append_right (by simp; omega), Hy, H6]
        simp [e1]
      · simp only [hp, List.getElem_map, H6]
        rw [List.getElem_append_left (by simpa using hi)]
        simp
    have pre : ∀ {r : List Event × Bool}, Ev (fun k => Ce.j0 k s [] ((pieces 10 (B s)).map mk) ((((pieces 10 (B s)).map mk)[m]).toList != ([] : List UInt8))) r → Ev (fun k => (Eb.f k s 10).bind fun t207 => (if (s.size : Int) > 400 then (Ce.j0 k s [] t207 true) else (if 0 ≤ (wrap64 ((t207.length : Int) - 1)) then (if (wrap64 ((t207.length : Int) - 1)) < (t207.length : Int) then (Ce.j0 k s [] t207 ((Fh ByteArray.empty t207 (wrap64 ((t207.length : Int) - 1))).toList != ([] : List UInt8))) else (none)) else (none)))) r := fun h => by
      refine Ev.bind hsp (Ev.congr (fun k => ?_) h)
      rw [if_neg c, hw, if_pos (by omega), if_pos (by omega), rdW _ m hms]
    by_cases z : (((pieces 10 (B s)).map mk)[m]).toList = []
    · obtain ⟨r, he, hr⟩ := specLoopH s ((pieces 10 (B s)).map mk) m hmm (by omega) (fun y hy => by
        obtain ⟨p, hp, rfl⟩ := List.mem_map.1 hy
        have := piece_size s p hp
        rw [mk_size]
        omega) m 0 [] (by omega) rfl
      refine ⟨r, pre ?_, ?_⟩
      · rw [z]
        exact Ev.step (fun k => by simp only [Ce.j0]; rw [if_neg (by decide)]; rfl) he
      · rcases hr with ⟨rfl, hno⟩ | ⟨out, rfl, hL⟩
        · refine ⟨.inl rfl, fun L h e => ?_⟩
          obtain ⟨e1, _, hb⟩ := hlast L h e
          exact absurd (fun i hi hi2 => by
            have := hb i hi (by omega)
            simp only [Nat.zero_add]
            exact this) (hno L e1.symm)
        · rw [List.nil_append]
          refine ⟨endH_or s out, fun L h e => ?_⟩
          · obtain ⟨e1, _, hb⟩ := hlast L h e
            have hout : out = L := hL L e1.symm (fun i hi hi2 => by
              have := hb i hi (by omega)
              simp only [Nat.zero_add]
              exact this)
            rw [hout]
            exact endH_hit h e
    · refine ⟨noH, pre ?_, .inl rfl, fun L h e => absurd (hlast L h e).2.1 z⟩
      rw [show ((((pieces 10 (B s)).map mk)[m]).toList != ([] : List UInt8)) = true from bne_iff_ne.2 z]
      exact bad _
theorem histBoth (s : ByteArray) (hs : s.size ≤ 1048576) : ∃ r, Ev (fun k => Ce.f k s) r ∧ Ev (fun k => Bz.f k s) r ∧ readsH s r ∧ r.1.length ≤ 20 := by
  obtain ⟨r, h1, a1, b1⟩ := specHist_read s hs
  obtain ⟨q, h2, a2, b2⟩ := implHist_read s hs
  have e : q = r := by
    rcases a1 with rfl | ⟨L, hL, eL, rfl⟩
    · rcases a2 with rfl | ⟨L, hL, eL, rfl⟩
      · rfl
      · exact (b1 L hL eL).symm
    · exact b2 L hL eL
  refine ⟨r, h1, by rw [← e]; exact h2, ⟨a1, b1⟩, ?_⟩
  rcases a1 with rfl | ⟨L, hL, eL, rfl⟩
  · simp
  · exact (someH hL).1
end Go.Proofs.YtpalafegcndccaaDoor.X

namespace Go.Proofs.YtpalafegcndccaaDoor.X
open Go.RowKit Go.Proofs.YtpalafegcndccaaDoorW.PrintWords Go.Proofs.YtpalafegcndccaaDoorL
def okB (l : List Int) : Prop := ∀ y ∈ l, 0 ≤ y ∧ y ≤ 255
theorem okB_of {l : List Int} (h : ∀ y ∈ l, (Lit.int .u8 y).wf = true) : okB l := fun y hy => by have := h y hy; simpa [Lit.wf, IntKind.min, IntKind.max, IntKind.signed, IntKind.bits] using this
theorem bits255 (x : Int) : 0 ≤ Go.bits .and .u64 x 255 ∧ Go.bits .and .u64 x 255 ≤ 255 := by
  have h : (BitVec.ofInt 64 x &&& BitVec.ofInt 64 255).toNat ≤ 255 := by
    rw [BitVec.toNat_and]; exact Nat.le_trans Nat.and_le_right (by decide)
  have e : Go.bits .and .u64 x 255 = IntKind.u64.wrap ((BitVec.ofInt 64 x &&& BitVec.ofInt 64 255).toNat : Int) := rfl
  rw [e]
  generalize (BitVec.ofInt 64 x &&& BitVec.ofInt 64 255).toNat = n at h
  have : IntKind.u64.wrap (n : Int) = (n : Int) := by
    simp only [IntKind.wrap, IntKind.bits, IntKind.signed]
    simp
    omega
  rw [this]; omega
theorem rd_okB {l : List Int} (h : okB l) (p : Int) : 0 ≤ rd l p ∧ rd l p ≤ 255 := by
  unfold rd
  rw [List.getD_eq_getElem?_getD]
  cases e : l[p.toNat]? with
  | none => simp
  | some y => simpa using h y (List.mem_of_getElem? e)
theorem next_ok {l : List Int} (h : okB l) (p s : Int) (h0 : 0 ≤ p) (h1 : p ≤ 1000000000000) : ∃ v s', Gp.f l p s = some (v, p + 1, s') ∧ 0 ≤ v ∧ v ≤ 255 := by
  have hr := rd_okB h p
  have hw : wrap64 (p + 1) = p + 1 := Gi (by omega) (by omega)
  have hr2 : wrap64 (rd l p) = rd l p := Gi (by omega) (by omega)
  unfold Gp.f
  rw [hw]
  have hb : ∀ x, 0 ≤ wrap64 (Go.bits .and .u64 x 255) ∧ wrap64 (Go.bits .and .u64 x 255) ≤ 255 := fun x => by have := bits255 x; rw [Gi (by omega) (by omega)]; exact this
  by_cases a : p < (l.length : Int)
  · rw [if_pos a, if_pos h0]
    by_cases b : p + 1 ≤ (l.length : Int)
    · rw [if_pos b]; exact ⟨_, _, rfl, by omega, by omega⟩
    · omega
  · rw [if_neg a]
    by_cases b : p + 1 ≤ (l.length : Int)
    · omega
    · rw [if_neg b]; exact ⟨_, _, rfl, (hb _).1, (hb _).2⟩
/-- What every draw gives: a value with a property, and a cursor moved on by n at most. -/
def Drawn {α : Type} (o : Option (α × Int × Int)) (p : Int) (n : Int) (q : α → Prop) : Prop := ∃ v p' s', o = some (v, p', s') ∧ q v ∧ p ≤ p' ∧ p' ≤ p + n
theorem Ia {l : List Int} (h : okB l) (p s a : Int) (h0 : 0 ≤ p) (h1 : p ≤ 900000000000) (ha : a ≤ 9223372036854775807) : Drawn (Bq.f l p s a) p 2 (fun v => 0 ≤ v ∧ (1 ≤ a → v < a) ∧ (a ≤ 1 → v = 0)) := by
  unfold Bq.f
  by_cases c : a ≤ 1
  · rw [if_pos c]; exact ⟨0, p, s, rfl, ⟨by omega, by omega, fun _ => rfl⟩, by omega, by omega⟩
  · rw [if_neg c]
    obtain ⟨v, s1, e, v0, v1⟩ := next_ok h p s h0 (by omega)
    rw [e]
    simp only [Option.bind_some]
    by_cases d : a > 200
    · rw [if_pos d]
      obtain ⟨w, s2, e2, w0, w1⟩ := next_ok h (p + 1) s1 (by omega) (by omega)
      rw [e2]
      simp only [Option.bind_some]
      rw [if_neg (by omega), Gi (x := v * 256) (by omega) (by omega), Gi (x := v * 256 + w) (by omega) (by omega)]
      exact ⟨_, _, _, rfl, ⟨Int.tmod_nonneg _ (by omega), fun _ => Int.tmod_lt_of_pos _ (by omega), fun z => absurd z c⟩, by omega, by omega⟩
    · rw [if_neg d, if_neg (by omega)]
      exact ⟨_, _, _, rfl, ⟨Int.tmod_nonneg _ v0, fun _ => Int.tmod_lt_of_pos _ (by omega), fun z => absurd z c⟩, by omega, by omega⟩
theorem one_ok {l : List Int} (h : okB l) (p s a : Int) (h0 : 0 ≤ p) (h1 : p ≤ 900000000000) (ha : a ≤ 9223372036854775807) : Drawn (Fj.f l p s a) p 2 (fun _ => True) := by
  obtain ⟨v, p', s', e, q, b⟩ := Ia h p s a h0 h1 ha
  exact ⟨v == 0, p', s', by unfold Fj.f; rw [e]; rfl, trivial, b⟩
theorem among_ok {l : List Int} (h : okB l) (p s : Int) (x : List Int) (h0 : 0 ≤ p) (h1 : p ≤ 900000000000) (hx : 1 ≤ x.length) (hx2 : x.length ≤ 9223372036854775807) : Drawn (Eo.f l p s x) p 2 (fun v => v ∈ x) := by
  obtain ⟨v, p', s', e, q, b⟩ := Ia h p s x.length h0 h1 (by omega)
  have hlt := q.2.1 (by omega)
  have e3 : v = (v.toNat : Int) := by omega
  refine ⟨rd x v, p', s', ?_, ?_, b⟩
  · unfold Eo.f; rw [e]; simp only [Option.bind_some]; rw [if_pos q.1, if_pos hlt]
  · rw [e3, rd_at x v.toNat (by omega)]; exact List.getElem_mem _
/-- The rounds of a draw. -/
def DrawnE {α : Type} (o : Nat → Option (α × Int × Int)) (p : Int) (n : Int) (q : α → Prop) : Prop := ∃ v p' s', Ev o (v, p', s') ∧ q v ∧ p ≤ p' ∧ p' ≤ p + n
end Go.Proofs.YtpalafegcndccaaDoor.X

namespace Go.Proofs.YtpalafegcndccaaDoor.X
open Go.RowKit Go.Proofs.YtpalafegcndccaaDoorW.PrintWords Go.Proofs.YtpalafegcndccaaDoorL
def Fp (s x : Int) (out : List Int) : List Int := if 0 ≤ nxt s x then out ++ [x] else out
def kindsOf (s : Int) (n : Nat) : List Int := if n < 20 then Hf (Fp s) 6 1 [] else []
theorem loopKinds_length (s : Int) : ∀ (d : Nat) (x : Int) (out : List Int), (Hf (Fp s) d x out).length ≤ out.length + d := by
  intro d
  induction d with
  | zero => intro x out; simp [Hf]
  | succ d ih =>
    intro x out
    show (Hf (Fp s) d (x + 1) (Fp s x out)).length ≤ _
    have := ih (x + 1) (Fp s x out)
    have h2 : (Fp s x out).length ≤ out.length + 1 := by unfold Fp; split <;> simp
    omega
theorem kindsOf_length (s : Int) (n : Nat) : (kindsOf s n).length ≤ 6 := by
  unfold kindsOf
  split
  · have := loopKinds_length s 6 1 []; simpa using this
  · simp
theorem implKinds_loop (l : List Event) (s : Int) (hl : l.length < 20) : ∀ (d : Nat) (x : Int) (out : List Int), x + d = 7 → 1 ≤ x → out.length ≤ 100 - d → d ≤ 6 → Ev (fun k => Bo.l0 k l s out x) (Hf (Fp s) d x out, true) := by
  intro d
  induction d with
  | zero => intro x out hx h1 hb hd; exact Ev.step (f := fun k => Bo.j1 k l s out x false) (fun k => by simp only [Bo.l0]; rw [if_neg (by omega)]) (Ev.step (f := fun _ => some _) (fun k => by simp only [Bo.j1]; rw [if_neg (by decide)]; rfl) (Ev.now _))
  | succ d ih =>
    intro x out hx h1 hb hd
    refine Ev.step (f := fun k => Bo.j1 k l s out x true) (fun k => by simp only [Bo.l0]; rw [if_pos (by omega), decide_eq_true (by omega)]) ?_
    refine Ev.step (f := fun k => (Bj.f k s x).bind fun t => if t.2 = true then Bo.l0 k l s (out ++ [x]) (x + 1) else Bo.l0 k l s out (x + 1)) (fun k => by simp only [Bo.j1, if_true]; rw [Gi (x := x + 1) (by omega) (by omega), if_pos (show out.length < 17592186044416 by omega)]) ?_
    refine Ev.bind (implNext_ev _ _) ?_
    show Ev _ (Hf (Fp s) d (x + 1) (Fp s x out), true)
    unfold Fp
    by_cases c : 0 ≤ nxt s x
    · simp only [if_pos c, if_true]; exact ih (x + 1) _ (by omega) (by omega) (by simp; omega) (by omega)
    · simp only [if_neg c, Bool.false_eq_true, if_false]; exact ih (x + 1) _ (by omega) (by omega) (by omega) (by omega)
noncomputable def nextKinds (l : List Event) : List Int × Bool := match hist l with | some s => (kindsOf s l.length, true) | none => ([], false)
theorem implKinds_ev (l : List Event) (hb : l.length ≤ 1048576) : Ev (fun k => Bo.f k l) (nextKinds l) := by
  unfold Bo.f nextKinds
  obtain ⟨r, hr, h2, h1⟩ := implState_ev l hb
  refine Ev.bind hr ?_
  cases h : hist l with
  | none =>
    rw [h] at h2
    simp only [h2, Option.isSome_none, Bool.false_eq_true, if_false]; exact Ev.now _
  | some s =>
    rw [h] at h2
    simp only [h2, Option.isSome_some, if_true, h1 s h]
    unfold kindsOf
    by_cases hl : l.length < 20
    · rw [if_pos hl]; exact implKinds_loop l s hl 6 1 [] (by omega) (by omega) (by simp) (by omega)
    · rw [if_neg hl]
      exact Ev.step (f := fun k => Bo.j1 k l s [] 1 false) (fun k => by simp only [Bo.l0]; rw [if_pos (by omega), decide_eq_false (by omega)]) (Ev.step (f := fun _ => some _) (fun k => by simp only [Bo.j1]; rw [if_neg (by decide)]) (Ev.now _))
end Go.Proofs.YtpalafegcndccaaDoor.X

namespace Go.Proofs.YtpalafegcndccaaDoor.X
open Go.RowKit Go.Proofs.YtpalafegcndccaaDoorW.PrintWords Go.Proofs.YtpalafegcndccaaDoorL
theorem okE_append (l : List Event) (e : Event) (n : Nat) (s : Int) (h : n < l.length) : okE (l ++ [e]) n s (by rw [List.length_append]; omega) ↔ okE l n s h := by
  have a : (l ++ [e])[n]'(by rw [List.length_append]; omega) = l[n] := List.getElem_append_left h
  unfold okE
  constructor
  · rintro ⟨b, c, d, f⟩
    rw [a] at b c f
    refine ⟨b, c, fun h0 => ?_, f⟩
    have := d h0
    rw [a, List.getElem_append_left (show n - 1 < l.length by omega)] at this; exact this
  · rintro ⟨b, c, d, f⟩
    refine ⟨by rw [a]; exact b, by rw [a]; exact c, fun h0 => ?_, by rw [a]; exact f⟩
    have := d h0
    rw [a, List.getElem_append_left (show n - 1 < l.length by omega)]; exact this
theorem runE_append (l : List Event) (e : Event) (t : Int) (h0 : 0 ≤ e.f0) (h1 : e.f0 ≤ 9999) (hd : ∀ y ∈ l, y.f0 ≤ e.f0) (hk : 0 ≤ nxt t e.f1) : ∀ (d n : Nat) (s : Int), n + d = l.length → runE l d n s = some t → runE (l ++ [e]) (d + 1) n s = some (nxt t e.f1) := by
  intro d
  induction d with
  | zero =>
    intro n s hn hr
    simp only [runE, Option.some.injEq] at hr
    subst hr
    have hlt : n < (l ++ [e]).length := by rw [List.length_append]; simp; omega
    have a : (l ++ [e])[n]'hlt = e := by rw [List.getElem_append_right (by omega)]; simp [show n - l.length = 0 by omega]
    simp only [runE, dif_pos hlt, a]
    rw [if_pos]
    unfold okE
    refine ⟨by rw [a]; exact h0, by rw [a]; exact h1, fun hp => ?_, by rw [a]; exact hk⟩
    rw [a, List.getElem_append_left (show n - 1 < l.length by omega)]
    exact hd _ (List.getElem_mem _)
  | succ d ih =>
    intro n s hn hr
    have hln : n < l.length := by omega
    simp only [runE, dif_pos hln] at hr
    by_cases ok : okE l n s hln
    · rw [if_pos ok] at hr
      have i1 := ih (n + 1) _ (by omega) hr
      have hlt : n < (l ++ [e]).length := by rw [List.length_append]; omega
      have a : (l ++ [e])[n]'hlt = l[n] := List.getElem_append_left hln
      rw [runE, dif_pos hlt, if_pos ((okE_append l e n s hln).2 ok), a]
      exact i1
    · rw [if_neg ok] at hr; cases hr
theorem hist_append {l : List Event} {t : Int} (h : hist l = some t) (hl : l.length < 20) (e : Event) (h0 : 0 ≤ e.f0) (h1 : e.f0 ≤ 9999) (hd : ∀ y ∈ l, y.f0 ≤ e.f0) (hk : 0 ≤ nxt t e.f1) : hist (l ++ [e]) = some (nxt t e.f1) := by
  unfold hist at h ⊢
  rw [if_pos (by omega)] at h
  rw [if_pos (by rw [List.length_append]; simp; omega), List.length_append]
  exact runE_append l e t h0 h1 hd hk l.length 0 0 (by omega) h
theorem runE_state (l : List Event) : ∀ (d n : Nat) (s r : Int), (s = 0 ∨ s = 1 ∨ s = 2) → runE l d n s = some r → (r = 0 ∨ r = 1 ∨ r = 2) := by
  intro d
  induction d with
  | zero => intro n s r hs h; simp only [runE, Option.some.injEq] at h; omega
  | succ d ih =>
    intro n s r hs h
    simp only [runE] at h
    split at h
    · split at h
      · rename_i h1 h2
        refine ih _ _ _ ?_ h
        have := h2.2.2.2
        rcases nxt_or s l[n].f1 with a | a | a | a <;> omega
      · cases h
    · cases h
theorem hist_state {l : List Event} {s : Int} (h : hist l = some s) : s = 0 ∨ s = 1 ∨ s = 2 := by
  unfold hist at h; split at h
  · exact runE_state l _ _ _ _ (.inl rfl) h
  · cases h
theorem kinds6 (s : Int) (hs : s = 0 ∨ s = 1 ∨ s = 2) : Hf (Fp s) 6 1 [] ≠ [] ∧ ∀ x ∈ Hf (Fp s) 6 1 [], 0 ≤ nxt s x := by
  rcases hs with rfl | rfl | rfl <;> (simp only [Hf, Fp, nxt]; simp)
theorem drawKinds_loop {b : List Int} (hb : okB b) (l : List Event) (s : Int) (hs : hist l = some s) (day n : Int) (r : List Event × Int × Int) (p sd : Int)
    (fin : ∀ kinds, kinds = Hf (Fp s) 6 1 [] → Ev (fun k => (Eo.f b p sd [0, 0, 1, 3, 10]).bind fun bt303 => (Bq.f b bt303.2.1 bt303.2.2 (kinds.length : Int)).bind fun bt306 => if 0 ≤ bt306.1 then (if bt306.1 < (kinds.length : Int) then (if l.length < 8796093022208 then Bg.l0 k (l ++ [⟨wrap64 (day + bt303.1), rd kinds bt306.1⟩]) (wrap64 (day + bt303.1)) (wrap64 (n - 1)) b bt306.2.1 bt306.2.2 else none) else none) else none) r) :
    ∀ (d : Nat) (x : Int) (out : List Int), x + d = 7 → 1 ≤ x → out.length ≤ 100 - d → d ≤ 6 → Hf (Fp s) d x out = Hf (Fp s) 6 1 [] → Ev (fun k => Bg.l1 k l day n out x b p sd) r := by
  intro d
  induction d with
  | zero =>
    intro x out hx h1 ho hd he
    refine Ev.step (fun k => ?_) (fin out he)
    simp only [Bg.l1]
    rw [if_neg (by omega)]
  | succ d ih =>
    intro x out hx h1 ho hd he
    refine Ev.step (f := fun k => (Bh.f k l).bind fun t => (Cb.f k t x).bind fun t2 => if t2 ≥ 0 then Bg.l1 k l day n (out ++ [x]) (x + 1) b p sd else Bg.l1 k l day n out (x + 1) b p sd) (fun k => ?_) ?_
    · simp only [Bg.l1]
      rw [if_pos (by omega), Gi (x := x + 1) (by omega) (by omega), if_pos (show out.length < 17592186044416 by omega)]
    · have hsE := I8 l
      rw [hs] at hsE
      refine Ev.bind hsE (Ev.bind (specNext_ev _ _) ?_)
      simp only [Option.getD_some]
      have he2 : Hf (Fp s) d (x + 1) (Fp s x out) = Hf (Fp s) 6 1 [] := he
      unfold Fp at he2
      by_cases c : 0 ≤ nxt s x
      · simp only [if_pos (show nxt s x ≥ 0 from c)]
        rw [if_pos c] at he2
        exact ih (x + 1) _ (by omega) (by omega) (by simp; omega) (by omega) he2
      · simp only [if_neg (show ¬ nxt s x ≥ 0 from c)]
        rw [if_neg c] at he2
        exact ih (x + 1) _ (by omega) (by omega) (by omega) (by omega) he2
theorem drawHist_loop {b : List Int} (hb : okB b) : ∀ (d : Nat) (l : List Event) (day p sd s : Int), hist l = some s → l.length + d ≤ 9 → 0 ≤ day → day ≤ 19 + 10 * l.length → (∀ y ∈ l, y.f0 ≤ day) → 0 ≤ p → p + 4 * d ≤ 800000000000 →
    DrawnE (fun k => Bg.l0 k l day (d : Int) b p sd) p (4 * d) (fun r => r.length ≤ 9 ∧ ∃ t, hist r = some t) := by
  intro d
  induction d with
  | zero => intro l day p sd s hs hl h0 h1 hd p0 p1; exact ⟨l, p, sd, Ev.step (f := fun _ => some _) (fun k => by simp only [Bg.l0]; rw [if_neg (by omega)]) (Ev.now _), ⟨by omega, s, hs⟩, by omega, by omega⟩
  | succ d ih =>
    intro l day p sd s hs hl h0 h1 hd p0 p1
    obtain ⟨v, pa, sa, ea, qa, ba, ba2⟩ := among_ok hb p sd [0, 0, 1, 3, 10] p0 (by omega) (by simp) (by simp)
    have hv : 0 ≤ v ∧ v ≤ 10 := by simp at qa; omega
    obtain ⟨ne, km⟩ := kinds6 s (hist_state hs)
    have kl : (Hf (Fp s) 6 1 []).length ≤ 6 := by have := loopKinds_length s 6 1 []; simpa using this
    have kp : 1 ≤ (Hf (Fp s) 6 1 []).length := List.length_pos_iff.2 ne
    obtain ⟨w, pb, sb, eb, qb, bb, bb2⟩ := Ia hb pa sa ((Hf (Fp s) 6 1 []).length : Int) (by omega) (by omega) (by omega)
    have hw := qb.2.1 (by omega)
    have hw2 : w = (w.toNat : Int) := by omega
    have hk : rd (Hf (Fp s) 6 1 []) w ∈ Hf (Fp s) 6 1 [] := by rw [hw2, rd_at _ w.toNat (by omega)]; exact List.getElem_mem _
    obtain ⟨r, pc, sc, ec, qc, bc, bc2⟩ := ih (l ++ [⟨day + v, rd (Hf (Fp s) 6 1 []) w⟩]) (day + v) pb sb _ (hist_append hs (by omega) _ (show 0 ≤ day + v by omega) (show day + v ≤ 9999 by omega) (fun y hy => by have := hd y hy; show y.f0 ≤ day + v; omega) (km _ hk)) (by rw [List.length_append]; simp; omega) (by omega) (by rw [List.length_append]; simp; omega) (fun y hy => by
      rcases List.mem_append.1 hy with hy | hy
      · have := hd y hy; omega
      · simp only [List.mem_singleton] at hy; subst hy; show day + v ≤ day + v; omega) (by omega) (by omega)
    refine ⟨r, pc, sc, Ev.step (f := fun k => Bg.l1 k l day ((d + 1 : Nat) : Int) [] 1 b p sd) (fun k => by simp only [Bg.l0]; rw [if_pos (by omega)]) (drawKinds_loop hb l s hs day ((d + 1 : Nat) : Int) _ p sd (fun kinds hkk => ?_) 6 1 [] (by omega) (by omega) (by simp) (by omega) rfl), qc, by omega, by omega⟩
    subst hkk
    refine Ev.congr (fun k => ?_) ec
    simp only [ea, Option.bind_some, eb]
    rw [if_pos qb.1, if_pos hw, if_pos (by omega), Gi (x := day + v) (by omega) (by omega), Gi (x := ((d + 1 : Nat) : Int) - 1) (by omega) (by omega), show ((d + 1 : Nat) : Int) - 1 = (d : Int) by omega]
theorem hist_nil : hist [] = some 0 := by unfold hist; rw [if_pos (by simp)]; rfl
theorem history_ok {b : List Int} (hb : okB b) (p sd : Int) (p0 : 0 ≤ p) (p1 : p ≤ 700000000000) : DrawnE (fun k => Bg.f k b p sd) p 100 (fun r => r.length ≤ 9 ∧ ∃ t, hist r = some t) := by
  obtain ⟨v, pa, sa, ea, qa, ba, ba2⟩ := Ia hb p sd 20 p0 (by omega) (by omega)
  obtain ⟨w, pb, sb, eb, qb, bb, bb2⟩ := Ia hb pa sa 10 (by omega) (by omega) (by omega)
  have v1 := qa.2.1 (by omega)
  have w1 := qb.2.1 (by omega)
  obtain ⟨r, pc, sc, ec, qc, bc, bc2⟩ := drawHist_loop hb w.toNat [] v pb sb 0 hist_nil (by simp; omega) qa.1 (by simp; omega) (by simp) (by omega) (by omega)
  refine ⟨r, pc, sc, Ev.congr (fun k => ?_) ec, qc, by omega, by omega⟩
  unfold Bg.f
  rw [ea]; simp only [Option.bind_some]; rw [eb]; simp only [Option.bind_some]
  rw [show ((w.toNat : Nat) : Int) = w by omega]
theorem anyHist_l0 {b : List Int} (hb : okB b) : ∀ (d : Nat) (l : List Event) (x p sd : Int), x + d = 22 → 0 ≤ x → l.length ≤ x → 0 ≤ p → p + 2 * d ≤ 800000000000 →
    DrawnE (fun k => Am.l0 k l x b p sd) p (2 * d + 2) (fun r => r.length ≤ 22) := by
  intro d
  induction d with
  | zero =>
    intro l x p sd hx x0 hl p0 p1
    obtain ⟨v, pa, sa, ea, qa, ba, ba2⟩ := Ia hb p sd 2 p0 (by omega) (by omega)
    refine ⟨l, pa, sa, Ev.step (f := fun _ => some _) (fun k => ?_) (Ev.now _), by show l.length ≤ 22; omega, by omega, by omega⟩
    simp only [Am.l0, ea, Option.bind_some]
    rw [if_neg (show ¬ x < 22 by omega), ite_self]
  | succ d ih =>
    intro l x p sd hx x0 hl p0 p1
    obtain ⟨v, pa, sa, ea, qa, ba, ba2⟩ := Ia hb p sd 2 p0 (by omega) (by omega)
    have v1 := qa.2.1 (by omega)
    by_cases c : (l.length : Int) < 20 + v
    · obtain ⟨r, pc, sc, ec, qc, bc, bc2⟩ := ih (l ++ [⟨x, wrap64 (1 + (wrap64 (5 * (Int.tmod x 2))))⟩]) (x + 1) pa sa (by omega) (by omega) (by rw [List.length_append]; simp; omega) (by omega) (by omega)
      refine ⟨r, pc, sc, Ev.step (fun k => ?_) ec, qc, by omega, by omega⟩
      simp only [Am.l0, ea, Option.bind_some]
      rw [Gi (x := 20 + v) (by omega) (by omega), if_pos c, if_pos (show x < 22 by omega), if_pos (show l.length < 8796093022208 by omega), Gi (x := x + 1) (by omega) (by omega)]
    · refine ⟨l, pa, sa, Ev.step (f := fun _ => some _) (fun k => ?_) (Ev.now _), by show l.length ≤ 22; omega, by omega, by omega⟩
      simp only [Am.l0, ea, Option.bind_some]
      rw [Gi (x := 20 + v) (by omega) (by omega), if_neg c]
theorem anyHist_j2 {b : List Int} (hb : okB b) (l : List Event) (p sd : Int) (hl : l.length ≤ 22) (p0 : 0 ≤ p) (p1 : p ≤ 700000000000) : DrawnE (fun k => Am.j2 k l b p sd) p 100 (fun r => r.length ≤ 22) := by
  obtain ⟨v, pa, sa, ea, _, ba, ba2⟩ := one_ok hb p sd 24 p0 (by omega) (by omega)
  cases v with
  | true =>
    obtain ⟨r, pc, sc, ec, qc, bc, bc2⟩ := anyHist_l0 hb 22 [] 0 pa sa (by omega) (by omega) (by simp) (by omega) (by omega)
    exact ⟨r, pc, sc, Ev.step (fun k => by simp only [Am.j2, ea, Option.bind_some, if_true]) ec, qc, by omega, by omega⟩
  | false => exact ⟨l, pa, sa, Ev.step (f := fun _ => some _) (fun k => by simp only [Am.j2, ea, Option.bind_some]; rw [if_neg (by decide)]) (Ev.now _), hl, by omega, by omega⟩
theorem anyHist_j1 {b : List Int} (hb : okB b) (l : List Event) (c : Bool) (p sd : Int) (hc : c = true → 0 < l.length) (hl : l.length ≤ 22) (p0 : 0 ≤ p) (p1 : p ≤ 600000000000) : DrawnE (fun k => Am.j1 k l c b p sd) p 110 (fun r => r.length ≤ 22) := by
  cases c with
  | false =>
    obtain ⟨r, pc, sc, ec, qc, bc, bc2⟩ := anyHist_j2 hb l p sd hl p0 (by omega)
    exact ⟨r, pc, sc, Ev.step (fun k => by simp only [Am.j1]; rw [if_neg (by decide)]) ec, qc, by omega, by omega⟩
  | true =>
    have hp := hc rfl
    obtain ⟨v, pa, sa, ea, qa, ba, ba2⟩ := Ia hb p sd (l.length : Int) p0 (by omega) (by omega)
    obtain ⟨w, pb, sb, eb, qb, bb, bb2⟩ := Ia hb pa sa 30 (by omega) (by omega) (by omega)
    obtain ⟨y, pd, sd2, ed, qd, bd, bd2⟩ := Ia hb pb sb 6 (by omega) (by omega) (by omega)
    obtain ⟨r, pc, sc, ec, qc, bc, bc2⟩ := anyHist_j2 hb (l.set v.toNat ⟨w, wrap64 (1 + y)⟩) pd sd2 (by rw [List.length_set]; exact hl) (by omega) (by omega)
    have hv := qa.2.1 (by omega)
    refine ⟨r, pc, sc, Ev.step (fun k => ?_) ec, qc, by omega, by omega⟩
    simp only [Am.j1, if_true, ea, Option.bind_some, eb, ed]
    rw [if_pos qa.1, if_pos hv]
theorem anyHist_j0 {b : List Int} (hb : okB b) (l : List Event) (p sd : Int) (hl : l.length ≤ 22) (p0 : 0 ≤ p) (p1 : p ≤ 500000000000) : DrawnE (fun k => Am.j0 k l b p sd) p 120 (fun r => r.length ≤ 22) := by
  by_cases c : (l.length : Int) > 0
  · obtain ⟨v, pa, sa, ea, _, ba, ba2⟩ := one_ok hb p sd 16 p0 (by omega) (by omega)
    obtain ⟨r, pc, sc, ec, qc, bc, bc2⟩ := anyHist_j1 hb l v pa sa (fun _ => by omega) hl (by omega) (by omega)
    exact ⟨r, pc, sc, Ev.step (fun k => by simp only [Am.j0]; rw [if_pos c, ea]; simp only [Option.bind_some]) ec, qc, by omega, by omega⟩
  · obtain ⟨r, pc, sc, ec, qc, bc, bc2⟩ := anyHist_j1 hb l false p sd (fun z => by cases z) hl (by omega) (by omega)
    exact ⟨r, pc, sc, Ev.step (fun k => by simp only [Am.j0]; rw [if_neg c]) ec, qc, by omega, by omega⟩
theorem anyHistory_ok {b : List Int} (hb : okB b) (p sd : Int) (p0 : 0 ≤ p) (p1 : p ≤ 400000000000) : DrawnE (fun k => Am.f k b p sd) p 300 (fun r => r.length ≤ 22) := by
  obtain ⟨l, pa, sa, ea, qa, ba, ba2⟩ := history_ok hb p sd p0 (by omega)
  obtain ⟨v, pb, sb, eb, _, bb, bb2⟩ := one_ok hb pa sa 16 (by omega) (by omega) (by omega)
  cases v with
  | true =>
    obtain ⟨w, pd, sd2, ed, qd, bd, bd2⟩ := among_ok hb pb sb [(-1), 9999, 10000, 5] (by omega) (by omega) (by simp) (by simp)
    obtain ⟨y, pe, se, ee, qe, be, be2⟩ := Ia hb pd sd2 8 (by omega) (by omega) (by omega)
    obtain ⟨r, pc, sc, ec, qc, bc, bc2⟩ := anyHist_j0 hb (l ++ [⟨w, y⟩]) pe se (by have := qa.1; rw [List.length_append]; simp; omega) (by omega) (by omega)
    refine ⟨r, pc, sc, Ev.bind ea ?_, qc, by omega, by omega⟩
    refine Ev.congr (fun k => ?_) ec
    have := qa.1
    simp only [eb, Option.bind_some, if_true, ed, ee]
    rw [if_pos (show l.length < 8796093022208 by omega)]
  | false =>
    obtain ⟨r, pc, sc, ec, qc, bc, bc2⟩ := anyHist_j0 hb l pb sb (by have := qa.1; omega) (by omega) (by omega)
    refine ⟨r, pc, sc, Ev.bind ea ?_, qc, by omega, by omega⟩
    refine Ev.congr (fun k => ?_) ec
    simp only [eb, Option.bind_some]
    rw [if_neg (by decide)]
end Go.Proofs.YtpalafegcndccaaDoor.X

namespace Go.Proofs.YtpalafegcndccaaDoor.X
open Go.RowKit Go.Proofs.YtpalafegcndccaaDoorW.PrintWords Go.Proofs.YtpalafegcndccaaDoorL
theorem spoilt_ok {l : List Int} (h : okB l) (p s : Int) (a b : ByteArray) (h0 : 0 ≤ p) (h1 : p ≤ 800000000000) (ha : a.size ≤ 1000000) (hb : 1 ≤ b.size) (hb2 : b.size ≤ 100) : Drawn (Gf.f l p s a b) p 6 (fun v => v.size ≤ a.size + 1) := by
  unfold Gf.f
  by_cases c : a.toList = ([] : List UInt8)
  · rw [if_pos c, if_pos (by omega)]
    exact ⟨_, _, _, rfl, by simp only [ByteArray.size_extract]; omega, by omega, by omega⟩
  · rw [if_neg c]
    have ha1 : 1 ≤ a.size := by
      rcases Nat.eq_zero_or_pos a.size with e | e
      · exfalso; apply c; rw [Hy]; exact List.length_eq_zero_iff.1 (by rw [Hm]; exact e)
      · exact e
    obtain ⟨v1, p1, s1, e1, m1, b1, b1'⟩ := Ia h p s a.size h0 (by omega) (by omega)
    obtain ⟨v2, p2, s2, e2, m2, b2, b2'⟩ := Ia h p1 s1 b.size (by omega) (by omega) (by omega)
    obtain ⟨v3, p3, s3, e3, m3, b3, b3'⟩ := Ia h p2 s2 3 (by omega) (by omega) (by omega)
    have k1 := m1.2.1 (by omega)
    have k2 := m2.2.1 (by omega)
    rw [e1]; simp only [Option.bind_some]
    rw [e2]; simp only [Option.bind_some]
    rw [e3]; simp only [Option.bind_some]
    rw [if_pos ⟨⟨m2.1, k2⟩, ⟨m1.1, k1⟩, by omega, by omega⟩]
    by_cases d0 : v3 = 0
    · rw [if_pos d0]
      exact ⟨_, _, _, rfl, by simp only [ByteArray.size_append, ByteArray.size_extract]; omega, by omega, by omega⟩
    · rw [if_neg d0]
      by_cases d1 : v3 = 1
      · rw [if_pos d1]
        exact ⟨_, _, _, rfl, by simp only [ByteArray.size_append, ByteArray.size_extract]; omega, by omega, by omega⟩
      · rw [if_neg d1]
        exact ⟨_, _, _, rfl, by simp only [ByteArray.size_append, ByteArray.size_extract]; omega, by omega, by omega⟩
end Go.Proofs.YtpalafegcndccaaDoor.X

namespace Go.Proofs.YtpalafegcndccaaDoor.X
open Go.RowKit Go.Proofs.YtpalafegcndccaaDoorW.PrintWords Go.Proofs.YtpalafegcndccaaDoorL
theorem vEvents_ev (l : List Event) (h : l.length ≤ 1048576) : Ev (fun k => Dq.f k l l) true := by
  have key : ∀ (d n : Nat), n + d = l.length → Ev (fun k => Dq.l0 k l l n) true := by
    intro d
    induction d with
    | zero => intro n hn; exact Ev.step (f := fun _ => some _) (fun k => by simp only [Dq.l0]; rw [if_neg (by omega)]) (Ev.now _)
    | succ d ih =>
      intro n hn
      refine Ev.step (fun k => ?_) (ih (n + 1) (by omega))
      simp only [Dq.l0]
      rw [if_pos (by omega), if_pos (by omega), if_pos (by omega), wrap_succ (by omega)]
      simp
  exact Ev.congr (f := fun k => Dq.l0 k l l ((0 : Nat) : Int)) (fun k => by unfold Dq.f; rw [if_pos rfl]; rfl) (key l.length 0 (by omega))
theorem vHas_ev (l : List Int) (x : Int) (h : l.length ≤ 1048576) : Ev (fun k => Ee.f k l x) (decide (x ∈ l)) := by
  have key : ∀ (d n : Nat), n + d = l.length → Ev (fun k => Ee.l0 k l x n) (decide (x ∈ l.drop n)) := by
    intro d
    induction d with
    | zero =>
      intro n hn
      rw [List.drop_of_length_le (by omega)]
      exact Ev.step (f := fun _ => some _) (fun k => by simp only [Ee.l0]; rw [if_neg (by omega)]) (by simp; exact Ev.now _)
    | succ d ih =>
      intro n hn
      have hn2 : n < l.length := by omega
      have hr : rd l (n : Int) = l[n] := by simp [rd, List.getD_eq_getElem?_getD, List.getElem?_eq_getElem hn2]
      rw [List.drop_eq_getElem_cons hn2]
      by_cases c : l[n] = x
      · rw [decide_eq_true (by rw [c]; simp)]
        exact Ev.step (f := fun _ => some _) (fun k => by simp only [Ee.l0]; rw [if_pos (by omega), if_pos (by omega), hr, if_pos c]) (Ev.now _)
      · have e : decide (x ∈ l[n] :: l.drop (n + 1)) = decide (x ∈ l.drop (n + 1)) := by
          refine decide_eq_decide.2 ?_
          rw [List.mem_cons]
          exact ⟨fun h => h.resolve_left (fun z => c z.symm), .inr⟩
        rw [e]
        refine Ev.step (fun k => ?_) (ih (n + 1) (by omega))
        simp only [Ee.l0]
        rw [if_pos (by omega), if_pos (by omega), hr, if_neg c, wrap_succ (by omega)]
  have := key l.length 0 (by omega)
  rw [List.drop_zero] at this
  exact Ev.congr (fun k => rfl) this
/-- May e come last? -/
def lastOk (l : List Event) (e : Event) : Prop := 0 ≤ e.f0 ∧ e.f0 ≤ 9999 ∧ ∀ h : 0 < l.length, l[l.length - 1].f0 ≤ e.f0
theorem runE_more (l : List Event) (e : Event) (t : Int) (ho : lastOk l e) (hk : 0 ≤ nxt t e.f1) : ∀ (d n : Nat) (s : Int), n + d = l.length → runE l d n s = some t → runE (l ++ [e]) (d + 1) n s = some (nxt t e.f1) := by
  intro d
  induction d with
  | zero =>
    intro n s hn hr
    simp only [runE, Option.some.injEq] at hr
    subst hr
    have hlt : n < (l ++ [e]).length := by rw [List.length_append]; simp; omega
    have a : (l ++ [e])[n]'hlt = e := by rw [List.getElem_append_right (by omega)]; simp [show n - l.length = 0 by omega]
    simp only [runE, dif_pos hlt, a]
    rw [if_pos]
    unfold okE
    refine ⟨by rw [a]; exact ho.1, by rw [a]; exact ho.2.1, fun hp => ?_, by rw [a]; exact hk⟩
    rw [a, List.getElem_append_left (show n - 1 < l.length by omega)]
    have := ho.2.2 (by omega)
    simp only [show l.length = n by omega] at this
    exact this
  | succ d ih =>
    intro n s hn hr
    have hln : n < l.length := by omega
    simp only [runE, dif_pos hln] at hr
    by_cases ok : okE l n s hln
    · rw [if_pos ok] at hr
      have i1 := ih (n + 1) _ (by omega) hr
      have hlt : n < (l ++ [e]).length := by rw [List.length_append]; omega
      have a : (l ++ [e])[n]'hlt = l[n] := List.getElem_append_left hln
      rw [runE, dif_pos hlt, if_pos ((okE_append l e n s hln).2 ok), a]
      exact i1
    · rw [if_neg ok] at hr; cases hr
theorem runE_less (l : List Event) (e : Event) (r : Int) : ∀ (d n : Nat) (s : Int), n + d = l.length → runE (l ++ [e]) (d + 1) n s = some r → ∃ t, runE l d n s = some t ∧ lastOk l e ∧ 0 ≤ nxt t e.f1 := by
  intro d
  induction d with
  | zero =>
    intro n s hn hr
    have hlt : n < (l ++ [e]).length := by rw [List.length_append]; simp; omega
    have a : (l ++ [e])[n]'hlt = e := by rw [List.getElem_append_right (by omega)]; simp [show n - l.length = 0 by omega]
    rw [runE, dif_pos hlt] at hr
    by_cases ok : okE (l ++ [e]) n s hlt
    · obtain ⟨a1, a2, a3, a4⟩ := ok
      rw [a] at a1 a2 a4
      refine ⟨s, rfl, ⟨a1, a2, fun h => ?_⟩, a4⟩
      have := a3 (by omega)
      rw [a, List.getElem_append_left (show n - 1 < l.length by omega)] at this
      simp only [show l.length = n by omega]
      exact this
    · rw [if_neg ok] at hr; cases hr
  | succ d ih =>
    intro n s hn hr
    have hln : n < l.length := by omega
    have hlt : n < (l ++ [e]).length := by rw [List.length_append]; omega
    have a : (l ++ [e])[n]'hlt = l[n] := List.getElem_append_left hln
    rw [runE, dif_pos hlt] at hr
    by_cases ok : okE (l ++ [e]) n s hlt
    · rw [if_pos ok, a] at hr
      obtain ⟨t, h1, h2⟩ := ih (n + 1) _ (by omega) hr
      exact ⟨t, by rw [runE, dif_pos hln, if_pos ((okE_append l e n s hln).1 ok)]; exact h1, h2⟩
    · rw [if_neg ok] at hr; cases hr
theorem hist_more {l : List Event} {e : Event} {t : Int} (h : hist l = some t) (hl : l.length < 20) (ho : lastOk l e) (hk : 0 ≤ nxt t e.f1) : (hist (l ++ [e])).isSome = true := by
  unfold hist at h ⊢
  rw [if_pos (by omega)] at h
  have := runE_more l e t ho hk l.length 0 0 (by omega) h
  rw [if_pos (by rw [List.length_append]; simp; omega)]
  have e1 : (l ++ [e]).length = l.length + 1 := by simp
  rw [e1, this]
  rfl
theorem hist_less {l : List Event} {e : Event} (h : (hist (l ++ [e])).isSome = true) : ∃ t, hist l = some t ∧ l.length < 20 ∧ lastOk l e ∧ 0 ≤ nxt t e.f1 := by
  have e1 : (l ++ [e]).length = l.length + 1 := by simp
  cases hh : hist (l ++ [e]) with
  | none => rw [hh] at h; cases h
  | some r =>
    unfold hist at hh
    split at hh
    · rename_i hl
      rw [e1] at hl hh
      obtain ⟨t, h1, h2, h3⟩ := runE_less l e r l.length 0 0 (by omega) hh
      exact ⟨t, by unfold hist; rw [if_pos (by omega)]; exact h1, by omega, h2, h3⟩
    · cases hh
theorem kinds_mem (s : Int) (hs : s = 0 ∨ s = 1 ∨ s = 2) (k : Int) : k ∈ Hf (Fp s) 6 1 [] ↔ 0 ≤ nxt s k := by
  rcases hs with rfl | rfl | rfl
  · have e : Hf (Fp 0) 6 1 [] = [1, 2] := by simp [Hf, Fp, nxt]
    rw [e]; unfold nxt; simp; split <;> (try omega) <;> simp_all
  · have e : Hf (Fp 1) 6 1 [] = [3, 5, 6] := by simp [Hf, Fp, nxt]
    rw [e]; unfold nxt; simp; (repeat' split) <;> (try omega) <;> simp_all
  · have e : Hf (Fp 2) 6 1 [] = [4] := by simp [Hf, Fp, nxt]
    rw [e]; unfold nxt; simp; (repeat' split) <;> (try omega) <;> simp_all
noncomputable def added (l : List Event) (a b : Int) : List Event × Bool := if (hist (l ++ [⟨a, b⟩])).isSome = true then (l ++ [⟨a, b⟩], true) else ([], false)
theorem added_hit {l : List Event} {a b : Int} (h : (hist (l ++ [⟨a, b⟩])).isSome = true) : added l a b = (l ++ [⟨a, b⟩], true) := by unfold added; exact if_pos h
theorem added_miss {l : List Event} {a b : Int} (h : ¬ (hist (l ++ [⟨a, b⟩])).isSome = true) : added l a b = ([], false) := by unfold added; exact if_neg h
theorem implAdd_ev (l : List Event) (a b : Int) (h : l.length ≤ 1000) : Ev (fun k => Fe.f k l a b) (added l a b) := by
  unfold Fe.f Ie.f
  rw [if_pos (by omega)]
  simp only [Option.bind_some, List.length_cons, List.length_nil]
  refine Ev.congr (fun k => if_pos (by omega)) (Ev.bind (Ja (l ++ [⟨a, b⟩]) (by simp; omega)) ?_)
  by_cases c : (hist (l ++ [⟨a, b⟩])).isSome = true
  · rw [added_hit c]; exact Ev.congr (fun k => if_pos c) (Ev.now _)
  · rw [added_miss c]; exact Ev.congr (fun k => if_neg c) (Ev.now _)
theorem specAdd_ev (l : List Event) (a b : Int) (h : l.length ≤ 1000) : Ev (fun k => Fa.f k l a b) (added l a b) := by
  unfold Fa.f
  simp only [Option.bind_some, List.length_cons, List.length_nil, List.nil_append]
  refine Ev.congr (fun k => by rw [if_pos (by omega), if_pos (by omega)]) (Ev.bind (I8 l) ?_)
  cases e : hist l with
  | none =>
    have : added l a b = ([], false) := by
      unfold added
      refine if_neg (fun z => ?_)
      obtain ⟨t, ht, _⟩ := hist_less z
      rw [e] at ht; cases ht
    rw [this]
    exact Ev.congr (fun k => if_pos (by decide)) (Ev.now _)
  | some t =>
    have h0 := hist_nonneg e
    refine Ev.congr (fun k => if_neg (by simp only [Option.getD_some]; omega)) (Ev.bind (I8 (l ++ [⟨a, b⟩])) ?_)
    cases e2 : hist (l ++ [(⟨a, b⟩ : Event)]) with
    | none =>
      rw [added_miss (by rw [e2]; decide)]
      exact Ev.congr (fun k => if_pos (by decide)) (Ev.now _)
    | some t2 =>
      have h2 := hist_nonneg e2
      rw [added_hit (by rw [e2]; rfl)]
      exact Ev.congr (fun k => if_neg (by simp only [Option.getD_some]; omega)) (Ev.now _)
theorem hist_j2 (q : List Event) (a b : Int) (h : q.length ≤ 1000) : Ev (fun k => Aj.j2 k q (added q a b).2 false a b) true := by
  have hn := implKinds_ev q (by omega)
  have h2 : (added q a b).2 = (hist (q ++ [⟨a, b⟩])).isSome := by
    unfold added
    by_cases c : (hist (q ++ [⟨a, b⟩])).isSome = true
    · rw [if_pos c, c]
    · rw [if_neg c]; simp at c; simp [c]
  rw [h2]
  refine Ev.step (f := fun k => (Bo.f k q).bind fun bt516 => (if bt516.2 = true then (if a ≥ 0 then (if a ≤ 9999 then (if (q.length : Int) = 0 then ((Ee.f k bt516.1 b).bind fun t520 => (some ((hist (q ++ [⟨a, b⟩])).isSome == t520))) else (if 0 ≤ (wrap64 ((q.length : Int) - 1)) then (if (wrap64 ((q.length : Int) - 1)) < (q.length : Int) then (if ((Bc q (wrap64 ((q.length : Int) - 1))).f0) ≤ a then ((Ee.f k bt516.1 b).bind fun t522 => (some ((hist (q ++ [⟨a, b⟩])).isSome == t522))) else (some ((hist (q ++ [⟨a, b⟩])).isSome == false))) else (none)) else (none))) else (some ((hist (q ++ [⟨a, b⟩])).isSome == false))) else (some ((hist (q ++ [⟨a, b⟩])).isSome == false))) else (some (!(hist (q ++ [⟨a, b⟩])).isSome)))) (fun k => by simp only [Aj.j2, Bool.false_eq_true, if_false]) ?_
  refine Ev.bind hn ?_
  have hno : ¬ (hist (q ++ [⟨a, b⟩])).isSome = true → ((hist (q ++ [(⟨a, b⟩ : Event)])).isSome == false) = true := fun z => by simp at z; simp [z]
  unfold nextKinds
  cases e : hist q with
  | none =>
    have : (hist (q ++ [(⟨a, b⟩ : Event)])).isSome = false := by
      cases z : (hist (q ++ [(⟨a, b⟩ : Event)])).isSome with
      | false => rfl
      | true => obtain ⟨t, ht, _⟩ := hist_less z; rw [e] at ht; cases ht
    rw [this]
    exact Ev.congr (fun k => if_neg Bool.false_ne_true) (Ev.now _)
  | some s =>
    have hs := hist_state e
    have hk6 := kindsOf_length s q.length
    refine Ev.congr (fun k => if_pos rfl) ?_
    have key : lastOk q ⟨a, b⟩ → Ev (fun k => (Ee.f k (kindsOf s q.length) b).bind fun t => some ((hist (q ++ [(⟨a, b⟩ : Event)])).isSome == t)) true := fun ho => by
      refine Ev.bind (vHas_ev _ b (by omega)) ?_
      have : (hist (q ++ [(⟨a, b⟩ : Event)])).isSome = decide (b ∈ kindsOf s q.length) := by
        unfold kindsOf
        by_cases c : q.length < 20
        · rw [if_pos c]
          by_cases c2 : 0 ≤ nxt s b
          · rw [decide_eq_true ((kinds_mem s hs b).2 c2)]
            exact hist_more e c ho c2
          · rw [decide_eq_false (fun z => c2 ((kinds_mem s hs b).1 z))]
            cases z : (hist (q ++ [(⟨a, b⟩ : Event)])).isSome with
            | false => rfl
            | true =>
              obtain ⟨t, ht, _, _, h4⟩ := hist_less z
              rw [e] at ht
              injection ht with ht
              rw [ht] at c2
              exact absurd h4 c2
        · rw [if_neg c]
          cases z : (hist (q ++ [(⟨a, b⟩ : Event)])).isSome with
          | false => simp
          | true => obtain ⟨t, _, h3, _⟩ := hist_less z; exact absurd h3 c
      rw [this, beq_self_eq_true]
      exact Ev.now _
    have bad : ¬ lastOk q ⟨a, b⟩ → ((hist (q ++ [(⟨a, b⟩ : Event)])).isSome == false) = true := fun ho => hno (fun z => by obtain ⟨t, _, _, h3, _⟩ := hist_less z; exact ho h3)
    by_cases c1 : a ≥ 0
    · refine Ev.congr (fun k => if_pos c1) ?_
      by_cases c2 : a ≤ 9999
      · refine Ev.congr (fun k => if_pos c2) ?_
        by_cases c3 : (q.length : Int) = 0
        · exact Ev.congr (fun k => if_pos c3) (key ⟨c1, c2, fun h => by omega⟩)
        · have hw : wrap64 ((q.length : Int) - 1) = ((q.length - 1 : Nat) : Int) := by rw [Gi (by omega) (by omega)]; omega
          refine Ev.congr (fun k => by rw [if_neg c3, hw, if_pos (by omega), if_pos (by omega), rdE q (q.length - 1) (by omega)]) ?_
          by_cases c4 : q[q.length - 1].f0 ≤ a
          · exact Ev.congr (fun k => if_pos c4) (key ⟨c1, c2, fun _ => c4⟩)
          · refine Ev.congr (fun k => if_neg c4) ?_
            rw [bad (fun z => c4 (z.2.2 (by omega)))]
            exact Ev.now _
      · refine Ev.congr (fun k => if_neg c2) ?_
        rw [bad (fun z => c2 z.2.1)]
        exact Ev.now _
    · refine Ev.congr (fun k => if_neg c1) ?_
      rw [bad (fun z => c1 z.1)]
      exact Ev.now _
theorem drawAdd_ok {b : List Int} (hb : okB b) : ∃ q x y, Ev (fun k => Ey.f k b) (q, x, y) ∧ q.length ≤ 22 := by
  obtain ⟨q, pa, sa, ea, qa, ba, ba2⟩ := anyHistory_ok hb 0 0 (by omega) (by omega)
  obtain ⟨v1, p1, s1, e1, m1, b1, b1'⟩ := among_ok hb pa sa [0, 1, 5, (-1)] (by omega) (by omega) (by simp) (by simp)
  obtain ⟨v2, p2, s2, e2, m2, b2, b2'⟩ := Ia hb p1 s1 8 (by omega) (by omega) (by omega)
  have hq : q.length ≤ 22 := qa
  unfold Ey.f
  by_cases c : (q.length : Int) > 0
  · have hw : wrap64 ((q.length : Int) - 1) = ((q.length - 1 : Nat) : Int) := by rw [Gi (by omega) (by omega)]; omega
    refine ⟨q, wrap64 ((Bc q ((q.length - 1 : Nat) : Int)).f0 + v1), v2, Ev.bind ea (Ev.congr (fun k => ?_) (Ev.now _)), hq⟩
    simp only [if_pos c, hw]
    rw [if_pos (by omega), if_pos (by omega), e1, Option.bind_some, e2, Option.bind_some]
  · refine ⟨q, wrap64 v1, v2, Ev.bind ea (Ev.congr (fun k => ?_) (Ev.now _)), hq⟩
    simp only [if_neg c]
    rw [e1, Option.bind_some, e2, Option.bind_some]
theorem drawText_ok {b : List Int} (hb : okB b) : ∃ t, Ev (fun k => Ec.f k b) t ∧ t.size ≤ 1000 := by
  obtain ⟨l, pa, sa, ea, ⟨hl, t0, ht⟩, ba, ba2⟩ := history_ok hb 0 0 (by omega) (by omega)
  have hs := text_small (hist_ok ht)
  obtain ⟨v1, p1, s1, e1, _, b1, b1'⟩ := one_ok hb pa sa 4 (by omega) (by omega) (by omega)
  obtain ⟨v2, p2, s2, e2, m2, b2, b2'⟩ := spoilt_ok hb p1 s1 (Gx l) (⟨#[49, 32, 97, 10, 103, 97, 116, 101]⟩ : ByteArray) (by omega) (by omega) (by omega) (by decide) (by decide)
  have m2 : v2.size ≤ (Gx l).size + 1 := m2
  unfold Ec.f
  cases v1 with
  | true =>
    refine ⟨v2, Ev.bind ea (Ev.bind (Jh l (hist_ok ht)) (Ev.congr (fun k => ?_) (Ev.now _))), by omega⟩
    simp only
    rw [e1, Option.bind_some, if_pos rfl, e2, Option.bind_some]
  | false =>
    refine ⟨Gx l, Ev.bind ea (Ev.bind (Jh l (hist_ok ht)) (Ev.congr (fun k => ?_) (Ev.now _))), by omega⟩
    simp only
    rw [e1, Option.bind_some, if_neg Bool.false_ne_true]
theorem hist_j1 {b : List Int} (hb : okB b) : Ev (fun k => Aj.j1 k b false) true := by
  obtain ⟨q, x, y, hd, hq⟩ := drawAdd_ok hb
  refine Ev.step (f := fun k => (Ey.f k b).bind fun bt501 => ((Fe.f k bt501.1 bt501.2.1 bt501.2.2).bind fun bt507 => ((Fa.f k bt501.1 bt501.2.1 bt501.2.2).bind fun bt511 => (if (bt507.2 != bt511.2) = true then (Aj.j2 k bt501.1 bt507.2 true bt501.2.1 bt501.2.2) else ((Dq.f k bt507.1 bt511.1).bind fun t515 => (Aj.j2 k bt501.1 bt507.2 (!t515) bt501.2.1 bt501.2.2)))))) (fun k => by simp only [Aj.j1, Bool.false_eq_true, if_false]) ?_
  have hal : (added q x y).1.length ≤ 1048576 := by
    unfold added
    split
    · simp; omega
    · simp
  refine Ev.bind hd (Ev.bind (implAdd_ev q x y (by omega)) (Ev.bind (specAdd_ev q x y (by omega)) ?_))
  simp only [bne_self_eq_false, Bool.false_eq_true, if_false]
  refine Ev.bind (vEvents_ev _ hal) ?_
  exact hist_j2 q x y (by omega)
theorem hist_j0 {b : List Int} (hb : okB b) : Ev (fun k => Aj.j0 k b false) true := by
  obtain ⟨t, hd, ht⟩ := drawText_ok hb
  obtain ⟨r, _, h2, ⟨a1, _⟩, hl⟩ := histBoth t (by omega)
  refine Ev.step (f := fun k => (Ec.f k b).bind fun t494 => ((Bz.f k t494).bind fun bt495 => ((D6.f k bt495.1).bind fun bt499 => (if bt495.2 = true then (if bt499.2 = true then (Aj.j1 k b (bt499.1.toList != t494.toList)) else (Aj.j1 k b true)) else (Aj.j1 k b false))))) (fun k => by simp only [Aj.j0, Bool.false_eq_true, if_false]) ?_
  refine Ev.bind hd (Ev.bind h2 (Ev.bind (implHistText_ev r.1 (by omega)) ?_))
  rcases a1 with rfl | ⟨L, hL, eL, rfl⟩
  · exact Ev.congr (fun k => if_neg Bool.false_ne_true) (hist_j1 hb)
  · have e : Hw L = (t, true) := by unfold Hw; rw [if_pos hL, eL]
    refine Ev.congr (fun k => if_pos rfl) ?_
    show Ev (fun k => if (Hw L).2 = true then Aj.j1 k b ((Hw L).1.toList != t.toList) else Aj.j1 k b true) true
    rw [e]
    refine Ev.congr (fun k => if_pos rfl) ?_
    simp only [bne_self_eq_false]
    exact hist_j1 hb
end Go.Proofs.YtpalafegcndccaaDoor.X
namespace Go.Proofs.YtpalafegcndccaaDoor.Pure
open Go.RowKit Go.Proofs.YtpalafegcndccaaDoorW.PrintWords Go.Proofs.YtpalafegcndccaaDoorL Go.Proofs.YtpalafegcndccaaDoor.X
theorem FnHistories : OFnHistories.Pure := by
  intro b hb
  refine ev_rounds ?_
  have hB := okB_of hb.2.2
  unfold Aj.f Ig.f
  simp only [Option.bind_some]
  by_cases big : (b.length : Int) > 65536
  · simp only [decide_eq_true big, if_true]; exact Ev.now _
  · simp only [decide_eq_false big, Bool.false_eq_true, if_false]
    obtain ⟨l, pa, sa, ea, qa, _, _⟩ := anyHistory_ok hB 0 0 (by omega) (by omega)
    have hl : l.length ≤ 22 := qa
    have hd : Ev (fun k => Ed.f k b) l := by
      unfold Ed.f F6.f
      exact Ev.bind (Ev.bind ea (Ev.now _)) (Ev.now _)
    have hsz : (Hw l).1.size ≤ 1000 := by
      unfold Hw
      split
      · rename_i h
        have := text_small (someH h)
        simp only; omega
      · simp only; decide
    obtain ⟨r, _, h2, ⟨_, a2⟩, hrl⟩ := histBoth (Hw l).1 (by omega)
    refine Ev.bind hd (Ev.bind (implHistText_ev l (by omega)) (Ev.bind h2 (Ev.bind (specHistText_ev l) ?_)))
    simp only [if_true, bne_self_eq_false, Bool.false_eq_true, if_false]
    refine Ev.bind (Ja l (by omega)) ?_
    have e2 : (Hw l).2 = (hist l).isSome := by
      unfold Hw
      by_cases c : (hist l).isSome = true
      · rw [if_pos c, c]
      · rw [if_neg c]; simp at c; simp [c]
    rw [e2]
    simp only [bne_self_eq_false, Bool.false_eq_true, if_false]
    by_cases c : (hist l).isSome = true
    · have e1 : (Hw l).1 = Gx l := by unfold Hw; rw [if_pos c]
      have er := a2 l c e1.symm
      refine Ev.congr (fun k => if_pos c) ?_
      rw [er]
      simp only [if_true]
      refine Ev.bind (vEvents_ev l (by omega)) ?_
      exact hist_j0 hB
    · exact Ev.congr (fun k => if_neg c) (hist_j0 hB)
end Go.Proofs.YtpalafegcndccaaDoor.Pure

namespace Go.Proofs.YtpalafegcndccaaDoorHs
open Go
theorem handed_shaped {H : Type} {enc : TypeId × Value → H} {a : Assume} {C : Checked} {os : Os} {f : FuncId} {fn : Func} {s : ChangeSpec} {conds : List PathCond} {apart fresh handsOn again : Bool} {X : World → Array Value → Prop}
    (hX : ∀ (w w' : World) (args : Array Value), w.heap = w'.heap → X w args → X w' args)
    (own : ownKnob C.prog.godebug = none) (started : os.Started) (noInit : C.prog.inits.idxOf? f = none) (hfn : C.prog.funcs[f]? = some fn)
    (witness : ∃ (w : World) (tape : Tape) (i : Input), w.os = os ∧ (w.forCall tape i).Shaped C.prog ∧ i.vars = [] ∧ Input.okWide C.prog (w.forCall tape i) .any w.heap.size f i ∧
      ((s.pre enc C.prog fn conds apart (w.forCall tape i).memory i.args ∧ X (w.forCall tape i).memory i.args) ∧ sizedMet enc C.prog fn (OpenSpec.ofChange s) apart (w.forCall tape i).memory i.args) ∧ a.holds C.prog (lone (Frame.enter C.prog f i.args .normal) [] (w.forCall tape i)))
    (contract : ∀ (W : World) (base : Nat) (args : Array Value) (ds gs : List (DataW H)) (before : List MemPlace),
      (∀ (j : Nat) t v, fn.params[j]? = some t → args[j]? = some v → Value.okWide C.prog W .any base t v) →
      DataW.Whole enc C.prog fn.params.toList s.vars apart W args.toList ds gs before →
      conds.all (PathCond.test C.prog ⟨fn.params.toList, ds, s.plain.varTypes C.prog, gs⟩) = true →
      (DataW.weightsEach C.prog (fn.params.toList ++ s.plain.varTypes C.prog) (ds ++ gs)).all (· ≤ reachBytes) = true → X W args →
      W.ShapedOpen C.prog →
      Calls C.prog f args W fun e W' => ∃ v, e = .returned v ∧ s.post enc C.prog fn apart fresh handsOn again W args v W') :
    ReturnsInHanded a C os f .any (fun w args => (s.pre enc C.prog fn conds apart w args ∧ X w args) ∧ sizedMet enc C.prog fn (OpenSpec.ofChange s) apart w args) (s.post enc C.prog fn apart fresh handsOn again) := by
  refine returnsInHanded_of_calls own started noInit witness ?_
  intro w tape i _ hsh _ hok hpre hholds
  obtain ⟨_, _, _, fn', hfn', _, _, _, _, hval⟩ := hok
  obtain rfl : fn' = fn := Option.some.inj (hfn'.symm.trans hfn)
  obtain ⟨⟨⟨ds, gs, before, hw, hc⟩, hx⟩, hz⟩ := hpre
  have hw' := DataW.Whole.of_heap (w' := w.forCall tape i) (by rfl) hw
  refine (contract (w.forCall tape i) w.heap.size i.args ds gs before hval hw' hc (hz.weights hw) (hX _ _ _ (by rfl) hx) hsh).mono fun e W' ⟨v, he, hp⟩ => ?_
  subst he
  exact ChangeSpec.post_blind hp
end Go.Proofs.YtpalafegcndccaaDoorHs


namespace Go.Proofs.YtpalafegcndccaaDoor.fnHistories
open Go.ChangeShapes Go.WideShapes Go.ChangeAt Go.RowKit
open Go.ChangeMaps (open_string shut_string)
open Go.Joins
open Go.Proofs.YtpalafegcndccaaDoorW.PrintWords Go.Proofs.YtpalafegcndccaaDoorW.PrintLast Go.Proofs.YtpalafegcndccaaDoorW.PrintMore
open Go.Proofs.YtpalafegcndccaaDoorZ Go.Proofs.YtpalafegcndccaaDoor.X Go.Proofs.YtpalafegcndccaaDoor.X.OFnHistories
set_option linter.unusedVariables false
set_option linter.unusedSimpArgs false
theorem own : ownKnob Tryd.prog.godebug = none := by kernel_rfl
theorem laidOut : laidOutB Tryd.prog = true := by kernel_rfl
open Go Go.Proofs.YtpalafegcndccaaDoorG
def laidL : List (String × DataW Unit) := [("math/bits.deBruijn32tab", Rows.laid_math_bits_deBruijn32tab), ("math/bits.deBruijn64tab", Rows.laid_math_bits_deBruijn64tab), ("internal/strconv.uint64pow10", Rows.laid_internal_strconv_uint64pow10), ("unicode/utf8.acceptRanges", Rows.laid_unicode_utf8_acceptRanges), ("strconv.ErrRange", Rows.laid_strconv_ErrRange), ("strconv.ErrSyntax", Rows.laid_strconv_ErrSyntax), ("unicode/utf8.first", Rows.laid_unicode_utf8_first)]
theorem globOf {W : World} (h : laidMetH Tryd.prog laidL W) (hs : W.ShapedOpen Tryd.prog) : F9 W := by
  rw [MakeChecks.laidMetH_plain _ _ _ (by kernel_rfl)] at h
  exact F9.of_tabs (ts := [105, 110, 118, 97, 108, 105, 100, 32, 115, 121, 110, 116, 97, 120]) (tr := [118, 97, 108, 117, 101, 32, 111, 117, 116, 32, 111, 102, 32, 114, 97, 110, 103, 101]) (h.filter fun x => x.1 == "internal/strconv.uint64pow10") (h.filter fun x => x.1 == "strconv.ErrSyntax") (h.filter fun x => x.1 == "strconv.ErrRange") (Go.Proofs.Tryd.laysM219.s1_3 W hs)
set_option maxRecDepth 100000 in
set_option maxHeartbeats 2000000 in
theorem lifted (os : Os) (started : os.Started) (H : Type) (enc : TypeId × Value → H) :
    ReturnsInHanded {} Tryd.checked os 5 .any (fun w args => (Rows.fnHistoriesSpec.pre enc Tryd.prog Tryd.f5 Rows.fnHistoriesRow.domain false w args ∧ laidMetH Tryd.prog laidL w) ∧ sizedMet enc Tryd.prog Tryd.f5 (OpenSpec.ofChange Rows.fnHistoriesSpec) false w args) (Rows.fnHistoriesSpec.post enc Tryd.prog Tryd.f5 false true false false) := by
  refine Go.Proofs.YtpalafegcndccaaDoorHs.handed_shaped (C := Tryd.checked) (X := fun w _ => laidMetH Tryd.prog laidL w) (fun _ _ _ hh h => h.of_heap hh) own started (by kernel_rfl) Tryd.func5
    (ChangeSpec.witness_shaped (enc := enc) (C := Tryd.checked) (os := os) (X := fun w _ => laidMetH Tryd.prog laidL w) false (World.laidAll Tryd.prog os laidL) #[.slice none 0 0] 8 (World.laidAll_os _ _ _)
      (World.shaped_of_ZipB (by kernel_rfl) (by kernel_rfl)) (by kernel_rfl) (by kernel_rfl) (by kernel_rfl)
      (by rw [MakeChecks.laidMetH_plain _ _ _ (by kernel_rfl)]; exact laidMet_laidAll _ (by kernel_rfl) (by kernel_rfl))) ?_
  intro W base args ds gs before hval0 hW hcnd hsz0 hL hSh
  have hG := globOf hL hSh
  have hsz : (DataW.weightsEach Tryd.prog (Tryd.f5.params.toList ++ Rows.fnHistoriesSpec.plain.varTypes Tryd.prog) (ds ++ gs)).all (· ≤ reachBytes) = true := hsz0
  have hval : ∀ (j : Nat) t v, Tryd.f5.params[j]? = some t → args[j]? = some v → Value.okWide Tryd.prog W .any base t v := hval0
  have hW' := hW
  obtain ⟨p, q, hA0, hV, rfl, hfz, hnd⟩ := hW
  have hA : DataW.TrodAll enc Tryd.prog W 0 (fun _ => true) true Tryd.f5.params.toList args.toList ds p := hA0
  rw [Tryd.params5] at hA hval hsz
  obtain ⟨v0, vs0, d0, ds0, p0, q0, hargs, rfl, rfl, h0, r0⟩ := trodAll_cons hA
  obtain ⟨rfl, rfl, rfl⟩ := trodAll_nil r0
  obtain rfl : args = #[v0] := by cases args; simp_all
  obtain ⟨rfl, rfl⟩ := trodVars_none hV
  obtain ⟨a0, len0, cap0, rfl⟩ := okWide_slice Tryd.underlying34 (hval 0 34 v0 rfl rfl)
  have k0 := h0
  have lt0 : ∀ x ∈ p0, x.block < W.heap.size := by obtain ⟨m, hm⟩ := k0; exact DataW.trod_lt m _ _ _ hm
  obtain ⟨l0, rfl, hc0, hr0, w0⟩ : ∃ l : List Int, len0 = l.length ∧ l.length ≤ cap0 ∧ Kd.C (Kd.int .u8) W a0 l.length l ∧ (l.length * 1 ≤ 140737488351232 ∧ l.length ≤ 9223372036854775807 ∧ ∀ y1 ∈ l, (Lit.int .u8 y1).wf = true) := by
    obtain ⟨fuel, hf⟩ := h0
    obtain ⟨l, ⟨A_, c_, e_, hl_, hC_⟩, hfit_⟩ := (opens_slice 0 Tryd.underlying34 (by kernel_rfl) (opens_int Tryd.underlying5) (by kernel_rfl)) hf (weights_param hsz (j := 0) rfl rfl)
    simp [Value.cells] at e_
    obtain ⟨rfl, rfl, rfl⟩ := e_
    exact ⟨l, rfl, hl_, hC_, hfit_⟩
  clear hA0 hval0 hsz0 hsz
  obtain ⟨k, h⟩ := Go.Proofs.YtpalafegcndccaaDoor.Pure.FnHistories l0 w0
  refine (Aj.calls k a0 cap0 l0 true W hr0 hc0 hG h rfl).mono fun e W' ⟨he, bel0⟩ => ?_
  have bel : Below W.heap.size W W' := bel0
  subst he
  exact ⟨_, rfl, _, _, _, [], _, [], hW', trodAll_mk1 (shut_bool Tryd.underlying4 _), (trodAll_cons_mk (Below.trod laidOut (by kernel_rfl) (of_decide_eq_true (by kernel_rfl)) k0 bel lt0) trodAll_mk0), rfl, bel.frame _, fun h => by cases h⟩
theorem over : Rows.fnHistoriesRow.holds Tryd.pinned (OpenSpec.ofChange Rows.fnHistoriesSpec) :=
  OpenClaim.holds_of_wide 5 Tryd.f5 rfl rfl rfl rfl rfl rfl rfl ⟨rfl, rfl, rfl, rfl, rfl⟩ rfl rfl rfl rfl rfl (by kernel_rfl) Tryd.func5 (by kernel_rfl)
    (of_decide_eq_true (by kernel_rfl)) (by unfold Func.isWrapper; first | (rw [if_pos (by decide +kernel)]; kernel_rfl) | (rw [if_neg (by decide +kernel)]; exact ⟨rfl, rfl⟩))
    (fun os started H enc _ => lifted os started H enc)
theorem proved : Rows.FnHistoriesSaid := over
theorem carded : Rows.FnHistoriesCardSaid :=
  Claim7.holds_tied_plain_at .later [] [.data, .data, .data, .data, .sentinel, .sentinel, .pinned] true (true, "d63b0e492804cc4184f76d7010eba84c8670ebb5bab97d3b8c5f434333da6478") true
    proved (fun _ h => by cases h) (by kernel_rfl) (fun _ h => by cases h) fnHistories_row_tie rfl ⟨rfl, rfl⟩ (by kernel_rfl) rfl
    (fun f fn hf hfn => by
      obtain rfl : f = 5 := Option.some.inj ((show Tryd.prog.funcNamed "loop.example/g00906/laws.FnHistories" = some 5 by kernel_rfl).symm.trans hf) |>.symm
      obtain rfl : fn = Tryd.f5 := (Option.some.inj (Tryd.func5.symm.trans hfn)).symm
      exact ⟨by kernel_rfl, fun j t ht => by
        rw [Tryd.params5] at ht
        have hm : t ∈ [34] := by simpa using Array.mem_of_getElem? ht
        have hall : ([34].all fun u => !Tryd.prog.wantsStandIn u) = true := by kernel_rfl
        exact (show Tryd.prog.wantsStandIn t = false by simpa using List.all_eq_true.1 hall t hm)⟩)
    (by kernel_rfl)
#print axioms carded
end Go.Proofs.YtpalafegcndccaaDoor.fnHistories
namespace Go.Proofs.YtpalafegcndccaaDoor
/-- The card, under a short name, for the claim. -/
theorem fnHistories_holds : Rows.FnHistoriesCardSaid := fnHistories.carded
end Go.Proofs.YtpalafegcndccaaDoor

