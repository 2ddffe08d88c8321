/- The law FnExactParseReport answers true for every input that the row lets in, and leaves its arguments as they were. Conditions: none beyond the row's own. -/
import Derived.Lib.Join
import Derived.Lib.AtoiAll
import Derived.Lib.FieldsP
import Derived.Lib.TrimAscii
import Derived.Lib.TrimUEq
import Derived.Lib.IndexMore
import Derived.Handed
import Derived.HandedShaped
import Derived.Test.YtghnljoaklmakaaDoorProg
import Derived.Test.YtghnljoaklmakaaDoorRows
import Derived.WalkKit
import Derived.ProofKit
import Derived.OpenShut
import Derived.ShutString
import Derived.ChangeOld
import Derived.Below
import Derived.SizedLaws
import Derived.Lib.SmallJoins
import Derived.Handy
import Derived.Lay
import Derived.SevenTiedAt
import Derived.LaidSub
import Derived.Lib.LaidTab
import Derived.Test.YtghnljoaklmakaaDoorCards
import Derived.Test.YtghnljoaklmakaaDoorTie
import Derived.Test.YtghnljoaklmakaaDoorKFnExactParseReport1
import Derived.Test.YtghnljoaklmakaaDoorKFnExactParseReport2
import Derived.Test.YtghnljoaklmakaaDoorKFnExactParseReport3
import Derived.Test.YtghnljoaklmakaaDoorKFnExactParseReport4
set_option linter.unusedVariables false
set_option linter.unusedSimpArgs false
namespace Go.Proofs.YtghnljoaklmakaaDoor.X
open Go.RowKit Go.Proofs.YtghnljoaklmakaaDoorW.PrintWords Go.Proofs.YtghnljoaklmakaaDoorW.PrintLast Go.Proofs.YtghnljoaklmakaaDoorW.PrintMore
attribute [local go_sem] Ea Eb Eh Eg Dz D5 Ec D9
open Go.Proofs.YtghnljoaklmakaaDoorG
def Ep.l0 : Nat → List (S23) → Int → Int → Option (Int)
  | 0, _, _, _ => none
  | k + 1, x0, x1, x5 => if x5 < (x0.length : Int) then (if 0 ≤ x5 then ((H7.f ((E5 x0 x5).f0) ((E5 x0 x5).f1) ((E5 x0 x5).f2) ((E5 x0 x5).f3) x1).bind fun t203 => (if t203 < 0 then (some (-1)) else (Ep.l0 k x0 t203 (wrap64 (x5 + 1))))) else (none)) else (some x1)
def Ep.f (k : Nat) (l0 : List (S23)) (a1 : Int) : Option (Int) := if (wrap64 (a1 - (l0.length : Int))) < 0 then (some (-1)) else (Ep.l0 k l0 (wrap64 (a1 - (l0.length : Int))) 0)
theorem Ep.Ed : ∀ k, (∀ y0 y1 y2, LeO (Ep.l0 k y0 y1 y2) (Ep.l0 (k + 1) y0 y1 y2))
  | 0 => fun _ _ _ r h => by simp [Ep.l0] at h
  | k + 1 => by
    have ih0 := Ep.Ed k
    · intro y0 y1 y2
      unfold Ep.l0
      repeat' first
      | (with_reducible exact ih0 _ _ _)
      | (with_reducible exact LeO.refl _)
      | (with_reducible exact LeO.none _)
      | (with_reducible refine LeO.ite ?_ ?_)
      | (with_reducible refine LeO.bind ?_ (fun _ => ?_))
      | exact ih0 _ _ _
      | exact LeO.none _
      | refine LeO.ite ?_ ?_
      | refine LeO.bind ?_ (fun _ => ?_)
theorem Ep.mono : ∀ a0 a1 k, LeO (Ep.f k a0 a1) (Ep.f (k + 1) a0 a1) := by
  intro a0 a1 k
  have ih0 := Ep.Ed k
  unfold Ep.f
  repeat' first
      | (with_reducible exact ih0 _ _ _)
      | (with_reducible exact LeO.refl _)
      | (with_reducible exact LeO.none _)
      | (with_reducible refine LeO.ite ?_ ?_)
      | (with_reducible refine LeO.bind ?_ (fun _ => ?_))
      | exact ih0 _ _ _
      | exact LeO.none _
      | refine LeO.ite ?_ ?_
      | refine LeO.bind ?_ (fun _ => ?_)
set_option maxHeartbeats 8000000 in
set_option maxRecDepth 100000 in
theorem Ep.calls (k : Nat) (A0 : Option Addr) (c0 : Nat) (l0 : List (S23)) (a1 : Int) (r : Int) (w : World) (hr0 : Kd.C k23 w A0 l0.length l0) (hc0 : l0.length ≤ c0) (h : Ep.f k l0 a1 = some r) :
    Calls Tryd.prog 11 #[.slice A0 l0.length c0, .int .i64 a1] w fun e w' => e = .returned (.int .i64 r) ∧ Below w.heap.size w w' := by
  have hu23 := Tryd.underlying23
  have HR0 := Ac.mk hr0
  have HC0 := Ac.mk hc0
  clear hr0 hc0
  have HB := Ac.mk (Below.refl w.heap.size w)
  have H : (if (wrap64 (a1 - (l0.length : Int))) < 0 then (some (-1)) else (Ep.l0 k l0 (wrap64 (a1 - (l0.length : Int))) 0)) = some r := h
  clear h
  by_cases c3 : (wrap64 (a1 - (l0.length : Int))) < 0
  · rw [if_pos c3] at H
    have c3b0 : decide ((wrap64 (a1 - (l0.length : Int))) < 0) = true := decide_eq_true c3
    clear c3
    obtain rfl := Option.some.inj H
    go_enter Tryd.func11, Tryd.ntmps11
    go_wp2
    go_ret
    exact ⟨by first | rfl | (simp [Aq, Ar] <;> rfl) | (simp [*, Aq, Ar] <;> rfl), by repeat (first | (with_reducible first | exact HB.out | apply Ae | apply Aa | apply Ad) | exact HB.out)⟩
  · rw [if_neg c3] at H
    have c3b0 : decide ((wrap64 (a1 - (l0.length : Int))) < 0) = false := decide_eq_false c3
    clear c3
    have H' := Ac.mk H
    clear H
    go_enter Tryd.func11, Tryd.ntmps11
    go_wp2
    go_loopg [1, 5] k (fun kq v1 v5 w' => ∃ (x1_1 : Int) (x5_1 : Int), v1 = .int .i64 x1_1 ∧ v5 = .int .i64 x5_1 ∧ Ac (Ep.l0 kq l0 x1_1 x5_1 = some r) ∧ Ac (kq ≤ k) ∧ Ac (Below w.heap.size w w'))
    case atStart => exact ⟨(wrap64 (a1 - (l0.length : Int))), (0), Yf_, Yf_, H', ⟨Nat.le_refl _⟩, ⟨by repeat (first | (with_reducible first | exact HB.out | apply Ae | apply Aa | apply Ad) | exact HB.out)⟩⟩
    case round =>
      clear H'
      try clear c1
      try clear p2
      try clear c3
      try clear c3b0
      obtain ⟨x1_1, x5_1, rfl, rfl, HA, HK1, HB⟩ := hrel
      cases gk with
      | zero => exact absurd HA.out (by simp [Ep.l0])
      | succ k1 =>
        have H := HA.out
        clear HA
        simp only [Ep.l0] at H
        by_cases c4 : x5_1 < (l0.length : Int)
        · rw [if_pos c4] at H
          have c4b0 : decide (x5_1 < (l0.length : Int)) = true := decide_eq_true c4
          clear c4
          by_cases c5 : 0 ≤ x5_1
          · rw [if_pos c5] at H
            have c5b0 : decide (0 ≤ x5_1) = true := decide_eq_true c5
            clear c5
            replace H := Option.bind_eq_some_iff.mp H
            obtain ⟨t203, A60, H⟩ := H
            replace H : (if t203 < 0 then (some (-1)) else (Ep.l0 k1 l0 t203 (wrap64 (x5_1 + 1)))) = some r := H
            have A6 := Ac.mk A60
            clear A60
            by_cases c7 : t203 < 0
            · rw [if_pos c7] at H
              have c7b0 : decide (t203 < 0) = true := decide_eq_true c7
              clear c7
              obtain rfl := Option.some.inj H
              have p202 : 0 ≤ (x5_1 : Int) := of_decide_eq_true Yc_
              have q202 : x5_1 < (l0.length : Int) := of_decide_eq_true Yc_
              obtain ⟨ad202, e202, hx202_0, hx202_1, hx202_2, hx202_3⟩ := at_T23 HR0.out x5_1 p202 q202
              cases e202
              replace hx202_0 := (HB.out.cell (World.block_lt_of_cell? w _ hx202_0)).trans hx202_0
              replace hx202_1 := (HB.out.cell (World.block_lt_of_cell? w _ hx202_1)).trans hx202_1
              replace hx202_2 := (HB.out.cell (World.block_lt_of_cell? w _ hx202_2)).trans hx202_2
              replace hx202_3 := (HB.out.cell (World.block_lt_of_cell? w _ hx202_3)).trans hx202_3
              replace p202 := eq_true p202
              replace q202 := eq_true q202
              go_wp2_with (first | ((with_reducible refine Aw (f := 7) rfl ?_); refine Bj (some 23) rfl rfl Tryd.func7 (by kernel_rfl) rfl #[.agg #[.int .i64 ((E5 l0 x5_1).f0), .string ((E5 l0 x5_1).f1), .int .i64 ((E5 l0 x5_1).f2), .int .i64 ((E5 l0 x5_1).f3)], .int .i64 x1_1] rfl Yb_ ?_; (with_reducible refine (H7.calls ((E5 l0 x5_1).f0) ((E5 l0 x5_1).f1) ((E5 l0 x5_1).f2) ((E5 l0 x5_1).f3) x1_1 t203 _ A6.out).mono ?_); rintro e w8 ⟨rfl, hb⟩; refine ⟨_, rfl, ?_⟩; have n0_ := Ac.mk (Au Ya_ hb); clear HB; have HB := n0_; clear n0_; (try clear hb); (try clear hb2); (try clear hk); (try clear hi)))
              go_ret
              exact ⟨by first | rfl | (simp [Aq, Ar] <;> rfl) | (simp [*, Aq, Ar] <;> rfl), by repeat (first | (with_reducible first | exact HB.out | apply Ae | apply Aa | apply Ad) | exact HB.out)⟩
            · rw [if_neg c7] at H
              have c7b0 : decide (t203 < 0) = false := decide_eq_false c7
              clear c7
              have H' := Ac.mk H
              clear H
              have p202 : 0 ≤ (x5_1 : Int) := of_decide_eq_true Yc_
              have q202 : x5_1 < (l0.length : Int) := of_decide_eq_true Yc_
              obtain ⟨ad202, e202, hx202_0, hx202_1, hx202_2, hx202_3⟩ := at_T23 HR0.out x5_1 p202 q202
              cases e202
              replace hx202_0 := (HB.out.cell (World.block_lt_of_cell? w _ hx202_0)).trans hx202_0
              replace hx202_1 := (HB.out.cell (World.block_lt_of_cell? w _ hx202_1)).trans hx202_1
              replace hx202_2 := (HB.out.cell (World.block_lt_of_cell? w _ hx202_2)).trans hx202_2
              replace hx202_3 := (HB.out.cell (World.block_lt_of_cell? w _ hx202_3)).trans hx202_3
              replace p202 := eq_true p202
              replace q202 := eq_true q202
              go_wp2_with (first | ((with_reducible refine Aw (f := 7) rfl ?_); refine Bj (some 23) rfl rfl Tryd.func7 (by kernel_rfl) rfl #[.agg #[.int .i64 ((E5 l0 x5_1).f0), .string ((E5 l0 x5_1).f1), .int .i64 ((E5 l0 x5_1).f2), .int .i64 ((E5 l0 x5_1).f3)], .int .i64 x1_1] rfl Yb_ ?_; (with_reducible refine (H7.calls ((E5 l0 x5_1).f0) ((E5 l0 x5_1).f1) ((E5 l0 x5_1).f2) ((E5 l0 x5_1).f3) x1_1 t203 _ A6.out).mono ?_); rintro e w9 ⟨rfl, hb⟩; refine ⟨_, rfl, ?_⟩; have n0_ := Ac.mk (Au Ya_ hb); clear HB; have HB := n0_; clear n0_; (try clear hb); (try clear hb2); (try clear hk); (try clear hi)))
              go_roundg k1
              case measure => have := HK1.out; omega
              case rel => exact ⟨(t203), (wrap64 (x5_1 + 1)), Yf_, Yf_, H', ⟨by have := HK1.out; omega⟩, ⟨by repeat (first | (with_reducible first | exact HB.out | apply Ae | apply Aa | apply Ad) | exact HB.out)⟩⟩
          · rw [if_neg c5] at H
            exact absurd H (by simp)
        · rw [if_neg c4] at H
          have c4b0 : decide (x5_1 < (l0.length : Int)) = false := decide_eq_false c4
          clear c4
          obtain rfl := Option.some.inj H
          go_wp2
          go_ret
          exact ⟨by first | rfl | (simp [Aq, Ar] <;> rfl) | (simp [*, Aq, Ar] <;> rfl), by repeat (first | (with_reducible first | exact HB.out | apply Ae | apply Aa | apply Ad) | exact HB.out)⟩
end Go.Proofs.YtghnljoaklmakaaDoor.X

namespace Go.Proofs.YtghnljoaklmakaaDoor.X
open Go.RowKit Go.Proofs.YtghnljoaklmakaaDoorW.PrintWords Go.Proofs.YtghnljoaklmakaaDoorW.PrintLast Go.Proofs.YtghnljoaklmakaaDoorW.PrintMore
attribute [local go_sem] Ea Eb Eh Eg Dz D5 Ec D9
open Go.Proofs.YtghnljoaklmakaaDoorG
def laws_toNote.f (a0_0 : Int) (a0_1 : ByteArray) (a0_2 : Int) (a0_3 : Int) : Option (Int × ByteArray × Int × Int) := some (a0_0, a0_1, a0_2, a0_3)
set_option maxHeartbeats 8000000 in
set_option maxRecDepth 100000 in
theorem laws_toNote.calls (a0_0 : Int) (a0_1 : ByteArray) (a0_2 : Int) (a0_3 : Int) (r1 : Int) (r2 : ByteArray) (r3 : Int) (r4 : Int) (w : World) (h : laws_toNote.f a0_0 a0_1 a0_2 a0_3 = some (r1, r2, r3, r4)) :
    Calls Tryd.prog 9 #[.agg #[.int .i64 a0_0, .string a0_1, .int .i64 a0_2, .int .i64 a0_3]] w fun e w' => e = .returned (.agg #[.int .i64 r1, .string r2, .int .i64 r3, .int .i64 r4]) ∧ Below w.heap.size w w' := by
  have hu23 := Tryd.underlying23
  have hu27 := Tryd.underlying27
  have HB := Ac.mk (Below.refl w.heap.size w)
  have H : (some (a0_0, a0_1, a0_2, a0_3)) = some (r1, r2, r3, r4) := h
  clear h
  simp only [Option.some.injEq, Prod.mk.injEq] at H
  obtain ⟨rfl, rfl, rfl, rfl⟩ := H
  go_enter Tryd.func9, Tryd.ntmps9
  go_wp2_with (first | ((with_reducible refine Dh (N := 1) rfl ?_); refine Dl ?hg (N := 1) ?hd (cs := #[.int .i64 a0_0, .string a0_1, .int .i64 a0_2, .int .i64 a0_3]) (t := 23) ?hr ?_; (case hd => rfl); (case hg => rfl); (case hr => first | (go_simp; done) | (go_simp; rfl)); intro gb0 hg w2 hbox hb; have n0_ := Ac.mk (Au Ya_ hb); have n1_ := Ac.mk (hbox); have n2_ := Ac.mk ((by rw [hg]; exact (Az Ya_) : w.heap.size ≤ gb0)); have n3_ := Ac.mk ((by rw [hg]; exact (Az Ya_) : w.heap.size ≤ gb0)); clear HB; have HB := n0_; have BK0 := n1_; have GW0 := n2_; have GE0 := n3_; clear n0_ n1_ n2_ n3_; clear hb hbox hg) | ((with_reducible refine Dh (N := 2) rfl ?_); refine Dl ?hg (N := 2) ?hd (cs := #[.int .i64 0, .string (⟨#[]⟩ : ByteArray), .int .i64 0, .int .i64 0]) (t := 27) ?hr ?_; (case hd => rfl); (case hg => rfl); (case hr => first | (go_simp; done) | (go_simp; rfl)); intro gb1 hg w3 hbox hb; have n0_ := Ac.mk (Ce (g := gb0) (o := .cells #[.int .i64 a0_0, .string a0_1, .int .i64 a0_2, .int .i64 a0_3] 23 (0, 0)) Ye_ hb); have n1_ := Ac.mk (Au Yd_ hb); have n2_ := Ac.mk (hbox); have n3_ := Ac.mk ((by rw [hg]; exact (Az Yd_) : w.heap.size ≤ gb1)); have n4_ := Ac.mk ((by rw [hg]; exact (Az Yd_) : w.heap.size ≤ gb1)); have n5_ := Ac.mk ((by rw [hg]; exact Nat.ne_of_lt (Fb (g := gb0) (o := .cells #[.int .i64 a0_0, .string a0_1, .int .i64 a0_2, .int .i64 a0_3] 23 (0, 0)) Ye_) : gb0 ≠ gb1)); have n6_ := Ac.mk ((by rw [hg]; exact Nat.ne_of_gt (Fb (g := gb0) (o := .cells #[.int .i64 a0_0, .string a0_1, .int .i64 a0_2, .int .i64 a0_3] 23 (0, 0)) Ye_) : gb1 ≠ gb0)); clear BK0; clear HB; have BK0 := n0_; have HB := n1_; have BK1 := n2_; have GW1 := n3_; have GE1 := n4_; have NB0_1 := n5_; have NB1_0 := n6_; clear n0_ n1_ n2_ n3_ n4_ n5_ n6_; clear hb hbox hg) | ((with_reducible refine Dh (N := 3) rfl ?_); refine Dl ?hg (N := 3) ?hd (cs := #[.int .i64 0, .string (⟨#[]⟩ : ByteArray), .int .i64 0, .int .i64 0]) (t := 27) ?hr ?_; (case hd => rfl); (case hg => rfl); (case hr => first | (go_simp; done) | (go_simp; rfl)); intro gb2 hg w4 hbox hb; have n0_ := Ac.mk (Ce (g := gb0) (o := .cells #[.int .i64 a0_0, .string a0_1, .int .i64 a0_2, .int .i64 a0_3] 23 (0, 0)) Ye_ hb); have n1_ := Ac.mk (Ce (g := gb1) (o := .cells #[.int .i64 0, .string (⟨#[]⟩ : ByteArray), .int .i64 0, .int .i64 0] 27 (0, 0)) Ybe_ hb); have n2_ := Ac.mk (Au Ybd_ hb); have n3_ := Ac.mk (hbox); have n4_ := Ac.mk ((by rw [hg]; exact (Az Ybd_) : w.heap.size ≤ gb2)); have n5_ := Ac.mk ((by rw [hg]; exact (Az Ybd_) : w.heap.size ≤ gb2)); have n6_ := Ac.mk ((by rw [hg]; exact Nat.ne_of_lt (Fb (g := gb0) (o := .cells #[.int .i64 a0_0, .string a0_1, .int .i64 a0_2, .int .i64 a0_3] 23 (0, 0)) Ye_) : gb0 ≠ gb2)); have n7_ := Ac.mk ((by rw [hg]; exact Nat.ne_of_gt (Fb (g := gb0) (o := .cells #[.int .i64 a0_0, .string a0_1, .int .i64 a0_2, .int .i64 a0_3] 23 (0, 0)) Ye_) : gb2 ≠ gb0)); have n8_ := Ac.mk ((by rw [hg]; exact Nat.ne_of_lt (Fb (g := gb1) (o := .cells #[.int .i64 0, .string (⟨#[]⟩ : ByteArray), .int .i64 0, .int .i64 0] 27 (0, 0)) Ybe_) : gb1 ≠ gb2)); have n9_ := Ac.mk ((by rw [hg]; exact Nat.ne_of_gt (Fb (g := gb1) (o := .cells #[.int .i64 0, .string (⟨#[]⟩ : ByteArray), .int .i64 0, .int .i64 0] 27 (0, 0)) Ybe_) : gb2 ≠ gb1)); clear BK0; clear BK1; clear HB; have BK0 := n0_; have BK1 := n1_; have HB := n2_; have BK2 := n3_; have GW2 := n4_; have GE2 := n5_; have NB0_2 := n6_; have NB2_0 := n7_; have NB1_2 := n8_; have NB2_1 := n9_; clear n0_ n1_ n2_ n3_ n4_ n5_ n6_ n7_ n8_ n9_; clear hb hbox hg; have hnb5 := NB0_1.out; have hnc5 := NB1_0.out; have hnb6 := NB0_2.out; have hnc6 := NB2_0.out; have hcz7_0 : w4.cell? ⟨gb0, 0, none⟩ = some (.int .i64 a0_0) := (Af BK0.out 0).trans rfl; have hcz7_1 : w4.cell? ⟨gb0, 1, none⟩ = some (.string a0_1) := (Af BK0.out 1).trans rfl; have hcz7_2 : w4.cell? ⟨gb0, 2, none⟩ = some (.int .i64 a0_2) := (Af BK0.out 2).trans rfl; have hcz7_3 : w4.cell? ⟨gb0, 3, none⟩ = some (.int .i64 a0_3) := (Af BK0.out 3).trans rfl; have hfz7_0 := Ag BK0.out 0; have hfz7_1 := Ag BK0.out 1; have hfz7_2 := Ag BK0.out 2; have hfz7_3 := Ag BK0.out 3; have hnb8 := NB2_1.out; have hnc8 := NB1_2.out; have hcz9_0 : w4.cell? ⟨gb2, 0, none⟩ = some (.int .i64 0) := (Af BK2.out 0).trans rfl; have hcz9_1 : w4.cell? ⟨gb2, 1, none⟩ = some (.string (⟨#[]⟩ : ByteArray)) := (Af BK2.out 1).trans rfl; have hcz9_2 : w4.cell? ⟨gb2, 2, none⟩ = some (.int .i64 0) := (Af BK2.out 2).trans rfl; have hcz9_3 : w4.cell? ⟨gb2, 3, none⟩ = some (.int .i64 0) := (Af BK2.out 3).trans rfl; have hfz9_0 := Ag BK2.out 0; have hfz9_1 := Ag BK2.out 1; have hfz9_2 := Ag BK2.out 2; have hfz9_3 := Ag BK2.out 3; have hcz10_0 : w4.cell? ⟨gb1, 0, none⟩ = some (.int .i64 0) := (Af BK1.out 0).trans rfl; have hcz10_1 : w4.cell? ⟨gb1, 1, none⟩ = some (.string (⟨#[]⟩ : ByteArray)) := (Af BK1.out 1).trans rfl; have hcz10_2 : w4.cell? ⟨gb1, 2, none⟩ = some (.int .i64 0) := (Af BK1.out 2).trans rfl; have hcz10_3 : w4.cell? ⟨gb1, 3, none⟩ = some (.int .i64 0) := (Af BK1.out 3).trans rfl; have hfz10_0 := Ag BK1.out 0; have hfz10_1 := Ag BK1.out 1; have hfz10_2 := Ag BK1.out 2; have hfz10_3 := Ag BK1.out 3))
  refine bodyPost_ret (results_cell_row rfl _ _ gb1 27 #[.int .i64 a0_0, .string a0_1, .int .i64 a0_2, .int .i64 a0_3] (0, 0) _ rfl (by (with_reducible repeat (first | refine Ah ?_ _ | refine Aj ?_ | refine Ai ?_ _)); refine Bo (cs := #[.int .i64 a0_0, .string a0_1, .int .i64 a0_2, .int .i64 0]) ?_ 3 _ rfl; (with_reducible repeat (first | refine Ah ?_ _ | refine Aj ?_ | refine Ai ?_ _)); refine Bo (cs := #[.int .i64 a0_0, .string a0_1, .int .i64 0, .int .i64 0]) ?_ 2 _ rfl; (with_reducible repeat (first | refine Ah ?_ _ | refine Aj ?_ | refine Ai ?_ _)); refine Bo (cs := #[.int .i64 a0_0, .string (⟨#[]⟩ : ByteArray), .int .i64 0, .int .i64 0]) ?_ 1 _ rfl; (with_reducible repeat (first | refine Ah ?_ _ | refine Aj ?_ | refine Ai ?_ _)); refine Bo (cs := #[.int .i64 0, .string (⟨#[]⟩ : ByteArray), .int .i64 0, .int .i64 0]) ?_ 0 _ rfl; (with_reducible repeat (first | refine Ah ?_ _ | refine Aj ?_ | refine Ai ?_ _)); refine Dc ?_ NB1_2.out _; (with_reducible repeat (first | refine Ah ?_ _ | refine Aj ?_ | refine Ai ?_ _)); refine Dc ?_ NB1_2.out _; (with_reducible repeat (first | refine Ah ?_ _ | refine Aj ?_ | refine Ai ?_ _)); refine Dc ?_ NB1_2.out _; (with_reducible repeat (first | refine Ah ?_ _ | refine Aj ?_ | refine Ai ?_ _)); refine Dc ?_ NB1_2.out _; (with_reducible repeat (first | refine Ah ?_ _ | refine Aj ?_ | refine Ai ?_ _)); exact BK1.out) Tryd.underlying27 rfl (by kernel_rfl)) rfl ?_
  exact ⟨by first | rfl | (simp [Aq, Ar] <;> rfl) | (simp [*, Aq, Ar] <;> rfl), by repeat (first | (with_reducible first | exact HB.out | apply Ae | apply Aa | apply Ad | refine Am ?_ GE0.out | refine Am ?_ GE1.out | refine Am ?_ GE2.out) | exact HB.out)⟩
end Go.Proofs.YtghnljoaklmakaaDoor.X

namespace Go.Proofs.YtghnljoaklmakaaDoor.X
open Go.RowKit Go.Proofs.YtghnljoaklmakaaDoorW.PrintWords Go.Proofs.YtghnljoaklmakaaDoorW.PrintLast Go.Proofs.YtghnljoaklmakaaDoorW.PrintMore
attribute [local go_sem] Ea Eb Eh Eg Dz D5 Ec D9
open Go.Proofs.YtghnljoaklmakaaDoorG
def En.l0 : Nat → List (S23) → List (S27) → Int → Option ((List (S27)))
  | 0, _, _, _ => none
  | k + 1, x0, x3, x4 => if x4 < (x0.length : Int) then (if 0 ≤ x4 then ((laws_toNote.f ((E5 x0 x4).f0) ((E5 x0 x4).f1) ((E5 x0 x4).f2) ((E5 x0 x4).f3)).bind fun bt215 => (if x4 < (x3.length : Int) then (En.l0 k x0 (x3.set (x4 : Int).toNat (⟨bt215.1, bt215.2.1, bt215.2.2.1, bt215.2.2.2⟩ : S27)) (wrap64 (x4 + 1))) else (none))) else (none)) else (some x3)
def En.f (k : Nat) (l0 : List (S23)) : Option ((List (S27))) := if 0 ≤ (l0.length : Int) then (if ((l0.length : Int) : Int).toNat ≤ 7036874417766 then (En.l0 k l0 (List.replicate ((l0.length : Int) : Int).toNat z27) 0) else (none)) else (none)
theorem En.Ed : ∀ k, (∀ y0 y1 y2, LeO (En.l0 k y0 y1 y2) (En.l0 (k + 1) y0 y1 y2))
  | 0 => fun _ _ _ r h => by simp [En.l0] at h
  | k + 1 => by
    have ih0 := En.Ed k
    · intro y0 y1 y2
      unfold En.l0
      repeat' first
      | (with_reducible exact ih0 _ _ _)
      | (with_reducible exact LeO.refl _)
      | (with_reducible exact LeO.none _)
      | (with_reducible refine LeO.ite ?_ ?_)
      | (with_reducible refine LeO.bind ?_ (fun _ => ?_))
      | exact ih0 _ _ _
      | exact LeO.none _
      | refine LeO.ite ?_ ?_
      | refine LeO.bind ?_ (fun _ => ?_)
theorem En.mono : ∀ a0 k, LeO (En.f k a0) (En.f (k + 1) a0) := by
  intro a0 k
  have ih0 := En.Ed k
  unfold En.f
  repeat' first
      | (with_reducible exact ih0 _ _ _)
      | (with_reducible exact LeO.refl _)
      | (with_reducible exact LeO.none _)
      | (with_reducible refine LeO.ite ?_ ?_)
      | (with_reducible refine LeO.bind ?_ (fun _ => ?_))
      | exact ih0 _ _ _
      | exact LeO.none _
      | refine LeO.ite ?_ ?_
      | refine LeO.bind ?_ (fun _ => ?_)
set_option maxHeartbeats 8000000 in
set_option maxRecDepth 100000 in
theorem En.calls (k : Nat) (A0 : Option Addr) (c0 : Nat) (l0 : List (S23)) (r : List (S27)) (w : World) (hr0 : Kd.C k23 w A0 l0.length l0) (hc0 : l0.length ≤ c0) (h : En.f k l0 = some r) :
    Calls Tryd.prog 13 #[.slice A0 l0.length c0] w fun e w' => ∃ v0_ : Value, e = .returned (v0_) ∧ Kd.R k27 27 w' w.heap.size (fun _ => True) v0_ r ∧ Below w.heap.size w w' := by
  have hu23 := Tryd.underlying23
  have hu27 := Tryd.underlying27
  have HR0 := Ac.mk hr0
  have HC0 := Ac.mk hc0
  clear hr0 hc0
  have HB := Ac.mk (Below.refl w.heap.size w)
  have H : (if 0 ≤ (l0.length : Int) then (if ((l0.length : Int) : Int).toNat ≤ 7036874417766 then (En.l0 k l0 (List.replicate ((l0.length : Int) : Int).toNat z27) 0) else (none)) else (none)) = some r := h
  clear h
  by_cases c2 : 0 ≤ (l0.length : Int)
  · rw [if_pos c2] at H
    have c2b0 := eq_true c2
    have c2b1 : decide (0 ≤ (l0.length : Int)) = true := decide_eq_true c2
    clear c2
    by_cases c3 : ((l0.length : Int) : Int).toNat ≤ 7036874417766
    · rw [if_pos c3] at H
      have c3b0 := eq_true c3
      have c3b1 : decide (((l0.length : Int) : Int).toNat ≤ 7036874417766) = true := decide_eq_true c3
      clear c3
      obtain ⟨y211, hy211⟩ : ∃ y_ : List (S27), y_ = (List.replicate ((l0.length : Int) : Int).toNat z27) := ⟨_, rfl⟩
      replace H : (En.l0 k l0 y211 0) = some r := by first | (rw [hy211]; with_reducible exact H) | (have H2_ := (Option.bind_some _ _).symm.trans H; rw [hy211]; with_reducible exact H2_) | (have H2_ := (Option.bind_some _ _).symm.trans H; with_reducible exact H2_) | with_reducible exact H | (rw [hy211]; exact H) | exact H
      have Ny211 := Ac.mk hy211
      clear hy211
      have H' := Ac.mk H
      clear H
      go_enter Tryd.func13, Tryd.ntmps13
      go_wp2_with (first | ((with_reducible refine Dh (N := 7) rfl ?_); refine Kd.R_make k27 _ 27 rfl (N := 7) rfl 33 _ _ rfl (l0.length : Int) rfl rfl Tryd.underlying33 (.agg #[(.int .i64 0), (.string ⟨#[]⟩), (.int .i64 0), (.int .i64 0)]) 40 info27 rfl (by decide) (by omega) z27 (ok := fun _ => True) (okp := fun _ => True) (G6 _ _ _ z27 ) (fun _ hk => hk) trivial (of_decide_eq_true Yc_) (Nat.le_trans (Nat.mul_le_mul_right _ (of_decide_eq_true Yc_ : (l0.length : Int).toNat ≤ 7036874417766)) (by omega)) (Below.refl _ _) (Nat.le_refl _) ?_; intro v212 w4 ho5 hb hg_ hnew_; clear hg_ hnew_; (first | rw [← Ny211.out] at ho5 | (simp only [Int.reduceToNat] at ho5; rw [← Ny211.out] at ho5)); have n0_ := Ac.mk (Kd.F6 ho5 (Az Ya_)); have n1_ := Ac.mk (Au Ya_ hb); clear HB; have HO213 := n0_; have HB := n1_; clear n0_ n1_; clear hb ho5))
      go_loopg [4] k (fun kq v4 w' => ∃ (x3_1 : List (S27)) (x4_1 : Int), v4 = .int .i64 x4_1 ∧ Ac (En.l0 kq l0 x3_1 x4_1 = some r) ∧ Ac (kq ≤ k) ∧ Ac (Kd.R k27 27 w' w.heap.size (fun _ => True) v212 x3_1) ∧ Ac (Below w.heap.size w w'))
      case atStart => exact ⟨(y211), (0), Yf_, H', ⟨Nat.le_refl _⟩, ⟨by (with_reducible repeat (first | apply Kd.Bg | apply Kd.Bh | apply Kd.Bl)); exact HO213.out⟩, ⟨by repeat (first | (with_reducible first | exact HB.out | apply Ae | apply Aa | apply Ad) | exact HB.out)⟩⟩
      case round =>
        clear H'
        try clear c1
        try clear c2
        try clear c2b0
        try clear c2b1
        try clear p2
        try clear c3
        try clear c3b0
        try clear c3b1
        obtain ⟨x3_1, x4_1, rfl, HA, HK1, HO_3, HB⟩ := hrel
        cases gk with
        | zero => exact absurd HA.out (by simp [En.l0])
        | succ k1 =>
          have H := HA.out
          clear HA
          simp only [En.l0] at H
          by_cases c6 : x4_1 < (l0.length : Int)
          · rw [if_pos c6] at H
            have c6b0 : decide (x4_1 < (l0.length : Int)) = true := decide_eq_true c6
            clear c6
            by_cases c7 : 0 ≤ x4_1
            · rw [if_pos c7] at H
              have c7b0 : decide (0 ≤ x4_1) = true := decide_eq_true c7
              clear c7
              replace H := Option.bind_eq_some_iff.mp H
              obtain ⟨⟨t215, t216, t217, t218⟩, A80, H⟩ := H
              replace H : (if x4_1 < (x3_1.length : Int) then (En.l0 k1 l0 (x3_1.set (x4_1 : Int).toNat (⟨t215, t216, t217, t218⟩ : S27)) (wrap64 (x4_1 + 1))) else (none)) = some r := H
              have A8 := Ac.mk A80
              clear A80
              by_cases c9 : x4_1 < (x3_1.length : Int)
              · rw [if_pos c9] at H
                have c9b0 : decide (x4_1 < (x3_1.length : Int)) = true := decide_eq_true c9
                clear c9
                obtain ⟨y219, hy219⟩ : ∃ y_ : List (S27), y_ = (x3_1.set (x4_1 : Int).toNat (⟨t215, t216, t217, t218⟩ : S27)) := ⟨_, rfl⟩
                replace H : (En.l0 k1 l0 y219 (wrap64 (x4_1 + 1))) = some r := by first | (rw [hy219]; with_reducible exact H) | (have H2_ := (Option.bind_some _ _).symm.trans H; rw [hy219]; with_reducible exact H2_) | (have H2_ := (Option.bind_some _ _).symm.trans H; with_reducible exact H2_) | with_reducible exact H | (rw [hy219]; exact H) | exact H
                have Ny219 := Ac.mk hy219
                clear hy219
                have H' := Ac.mk H
                clear H
                have p214 : 0 ≤ (x4_1 : Int) := of_decide_eq_true Yc_
                have q214 : x4_1 < (l0.length : Int) := of_decide_eq_true Yc_
                obtain ⟨ad214, e214, hx214_0, hx214_1, hx214_2, hx214_3⟩ := at_T23 HR0.out x4_1 p214 q214
                cases e214
                replace hx214_0 := (HB.out.cell (World.block_lt_of_cell? w _ hx214_0)).trans hx214_0
                replace hx214_1 := (HB.out.cell (World.block_lt_of_cell? w _ hx214_1)).trans hx214_1
                replace hx214_2 := (HB.out.cell (World.block_lt_of_cell? w _ hx214_2)).trans hx214_2
                replace hx214_3 := (HB.out.cell (World.block_lt_of_cell? w _ hx214_3)).trans hx214_3
                replace p214 := eq_true p214
                replace q214 := eq_true q214
                go_wp2_with (first | ((with_reducible refine Aw (f := 9) rfl ?_); refine Bj (some 20) rfl rfl Tryd.func9 (by kernel_rfl) rfl #[.agg #[.int .i64 ((E5 l0 x4_1).f0), .string ((E5 l0 x4_1).f1), .int .i64 ((E5 l0 x4_1).f2), .int .i64 ((E5 l0 x4_1).f3)]] rfl Yb_ ?_; (with_reducible refine (laws_toNote.calls ((E5 l0 x4_1).f0) ((E5 l0 x4_1).f1) ((E5 l0 x4_1).f2) ((E5 l0 x4_1).f3) t215 t216 t217 t218 _ A8.out).mono ?_); rintro e w11 ⟨rfl, hb⟩; refine ⟨_, rfl, ?_⟩; have n0_ := Ac.mk (Kd.D6 Ybf_ hb); have n1_ := Ac.mk (Au Ya_ hb); clear HO_3; clear HB; have HO_3 := n0_; have HB := n1_; clear n0_ n1_; (try clear hb); (try clear hb2); (try clear hk); (try clear hi); have p10 : 0 ≤ (x4_1 : Int) := of_decide_eq_true Yc_; have q10 : (x4_1 : Int) < ((x3_1.length : Int) : Int) := of_decide_eq_true Yc_; obtain ⟨go10, co10, eo10, gb10, gl10, cl10, HG10⟩ := Kd.R_form HO_3.out (by omega); (first | cases eo10 | (injection eo10 with ea_ en_ ec_; (first | subst ea_ | (injection ea_ with ea_; subst ea_)); subst ec_; clear en_)); have GB10 := Ac.mk gb10; have GG10 := Ac.mk HG10; clear gb10 gl10 HG10; obtain ⟨ce10, hcl10, hM10, hcc10, hfr10⟩ := Kd.R_elem HO_3.out z27 (x4_1 : Int) p10 q10; obtain rfl := G8 hM10; have hx10_0 : w11.cell? ⟨go10, (x4_1 : Int).toNat * 4, none⟩ = some (.int .i64 ((Ak x3_1 x4_1).f0)) := hcc10 0 _ rfl; have hx10_1 : w11.cell? ⟨go10, (x4_1 : Int).toNat * 4 + 1, none⟩ = some (.string ((Ak x3_1 x4_1).f1)) := hcc10 1 _ rfl; have hx10_2 : w11.cell? ⟨go10, (x4_1 : Int).toNat * 4 + 2, none⟩ = some (.int .i64 ((Ak x3_1 x4_1).f2)) := hcc10 2 _ rfl; have hx10_3 : w11.cell? ⟨go10, (x4_1 : Int).toNat * 4 + 3, none⟩ = some (.int .i64 ((Ak x3_1 x4_1).f3)) := hcc10 3 _ rfl; have hf10_0 : w11.frozen? ⟨go10, (x4_1 : Int).toNat * 4, none⟩ = false := hfr10 0; have hf10_1 : w11.frozen? ⟨go10, (x4_1 : Int).toNat * 4 + 1, none⟩ = false := hfr10 1; have hf10_2 : w11.frozen? ⟨go10, (x4_1 : Int).toNat * 4 + 2, none⟩ = false := hfr10 2; have hf10_3 : w11.frozen? ⟨go10, (x4_1 : Int).toNat * 4 + 3, none⟩ = false := hfr10 3; (try clear hcl10); (try clear hcc10); (try clear hfr10); (try clear hM10); replace p10 := eq_true p10; replace q10 := eq_true q10; have HX12 := Ac.mk (show Kd.R k27 27 w11 w.heap.size (fun _ => True) (.slice (some ⟨go10, 0, none⟩) x3_1.length co10) x3_1 from Ybf_); obtain ⟨ce12, hcl12, hM12, hcc12, hfr12⟩ := Kd.R_elem HX12.out z27 (x4_1 : Int) (of_decide_eq_true Yc_) (by have h_ : (x4_1 : Int) < ((x3_1.length : Int) : Int) := of_decide_eq_true Yc_; first | exact h_ | (have e_ := (Kd.Dv HO_3.out).1; omega) | simpa using h_); obtain rfl := G8 hM12; have HP12 := Kd.R_seg HX12.out (x4_1 : Int) (of_decide_eq_true Yc_) (by have h_ : (x4_1 : Int) < ((x3_1.length : Int) : Int) := of_decide_eq_true Yc_; first | exact h_ | (have e_ := (Kd.Dv HO_3.out).1; omega) | simpa using h_) (seg := [.int .i64 t215, .string t216, .int .i64 t217, .int .i64 t218]) (j := 0) hcl12 hcc12 (show 4 ≤ 4 from by decide) (x' := (⟨t215, t216, t217, t218⟩ : S27)) (G6 _ _ _ (⟨t215, t216, t217, t218⟩ : S27) ) (fun _ hk => hk); have hx12_0 := hcc12 0 _ rfl; (try simp only [show (k27).sz = 4 from rfl, Nat.mul_one, Nat.add_zero] at hx12_0); have hf12_0 := hfr12 0; (try simp only [show (k27).sz = 4 from rfl, Nat.mul_one, Nat.add_zero] at hf12_0); have hx12_1 := hcc12 1 _ rfl; (try simp only [show (k27).sz = 4 from rfl, Nat.mul_one, Nat.add_zero] at hx12_1); have hf12_1 := hfr12 1; (try simp only [show (k27).sz = 4 from rfl, Nat.mul_one, Nat.add_zero] at hf12_1); have hx12_2 := hcc12 2 _ rfl; (try simp only [show (k27).sz = 4 from rfl, Nat.mul_one, Nat.add_zero] at hx12_2); have hf12_2 := hfr12 2; (try simp only [show (k27).sz = 4 from rfl, Nat.mul_one, Nat.add_zero] at hf12_2); have hx12_3 := hcc12 3 _ rfl; (try simp only [show (k27).sz = 4 from rfl, Nat.mul_one, Nat.add_zero] at hx12_3); have hf12_3 := hfr12 3; (try simp only [show (k27).sz = 4 from rfl, Nat.mul_one, Nat.add_zero] at hf12_3); clear hcl12 hcc12 hfr12 hM12) | ((with_reducible refine Ic (t := 27) (p := 21) rfl ?_); refine H8 (t := 27) (p := 21) (v := ?vo_w13) (w1 := ((((w11.setCell ⟨go10, (x4_1 : Int).toNat * 4, none⟩ (.int .i64 t215)).setCell ⟨go10, (x4_1 : Int).toNat * 4 + 1, none⟩ (.string t216)).setCell ⟨go10, (x4_1 : Int).toNat * 4 + 2, none⟩ (.int .i64 t217)).setCell ⟨go10, (x4_1 : Int).toNat * 4 + 3, none⟩ (.int .i64 t218))) ?hg ?ho ?hn ?hr ?_; (case ho => rfl); (case hg => rfl); (case hn => rfl); (case hr => first | (go_simp; done) | (go_simp; rfl)); intro w13 hw; have hg : w11.grownBy w13 (some go10) := (by rw [hw]; exact HP12.2); have hp_ : Kd.R k27 27 w13 w.heap.size (fun _ => True) (.slice (some ⟨go10, 0, none⟩) x3_1.length co10) y219 := (by rw [hw, Ny219.out]; exact HP12.1); clear HP12; have n0_ := Ac.mk (hp_); have n1_ := Ac.mk ((by rw [hw]; exact Am (Am (Am (Am (HB.out) GB10.out) GB10.out) GB10.out) GB10.out : Below w.heap.size w w13)); clear HO_3; clear HB; have HO_3 := n0_; have HB := n1_; clear n0_ n1_; clear hg hw hp_))
                go_roundg k1
                case measure => have := HK1.out; omega
                case rel => exact ⟨(y219), (wrap64 (x4_1 + 1)), Yf_, H', ⟨by have := HK1.out; omega⟩, ⟨by (with_reducible repeat (first | apply Kd.Bg | apply Kd.Bh | apply Kd.Bl)); exact HO_3.out⟩, ⟨by repeat (first | (with_reducible first | exact HB.out | apply Ae | apply Aa | apply Ad) | exact HB.out)⟩⟩
              · rw [if_neg c9] at H
                exact absurd H (by simp)
            · rw [if_neg c7] at H
              exact absurd H (by simp)
          · rw [if_neg c6] at H
            have c6b0 : decide (x4_1 < (l0.length : Int)) = false := decide_eq_false c6
            clear c6
            obtain rfl := Option.some.inj H
            go_wp2
            go_ret
            exact ⟨_, by first | rfl | (simp [Aq, Ar] <;> rfl) | (simp [*, Aq, Ar] <;> rfl), by (with_reducible repeat (first | apply Kd.Bg | apply Kd.Bh | apply Kd.Bl)); exact HO_3.out, by repeat (first | (with_reducible first | exact HB.out | apply Ae | apply Aa | apply Ad) | exact HB.out)⟩
    · rw [if_neg c3] at H
      exact absurd H (by simp)
  · rw [if_neg c2] at H
    exact absurd H (by simp)
end Go.Proofs.YtghnljoaklmakaaDoor.X

namespace Go.Proofs.YtghnljoaklmakaaDoor.X
open Go.RowKit Go.Proofs.YtghnljoaklmakaaDoorW.PrintWords Go.Proofs.YtghnljoaklmakaaDoorL
abbrev Note := S27
theorem rdN (l : List Note) (n : Nat) (h : n < l.length) : Ak l (n : Int) = l[n] := by simp [Ak, List.getD_eq_getElem?_getD, List.getElem?_eq_getElem h]
theorem eqNoteS_ev (l : List Note) (h : l.length ≤ 1048576) : Ev (fun k => Cm.f k l l) true := by
  have key : ∀ (d n : Nat), n + d = l.length → Ev (fun k => Cm.l0 k l l n) true := by
    intro d
    induction d with
    | zero => intro n hn; exact Ev.step (f := fun _ => some _) (fun k => by simp only [Cm.l0]; rw [if_neg (by omega)]) (Ev.now _)
    | succ d ih =>
      intro n hn
      refine Ev.step (f := fun k => Cm.l0 k l l ((n + 1 : Nat) : Int)) (fun k => ?_) (ih (n + 1) (by omega))
      simp only [Cm.l0]
      rw [if_pos (by omega), if_pos (by omega), if_pos (by omega), wrap_succ (by omega)]
      simp [Hy.f]
  exact Ev.congr (f := fun k => Cm.l0 k l l ((0 : Nat) : Int)) (fun k => by unfold Cm.f; rw [if_pos rfl]; rfl) (key l.length 0 (by omega))
def report (l : List Note) : Bool := decide (l.length ≤ 10) && l.all Hl
theorem implReport (l : List Note) : F7.f l = some (report l) := rfl
theorem report_ok {l : List Note} (h : report l = true) : l.length ≤ 10 ∧ ∀ x ∈ l, Ez x.f0 x.f1 x.f2 x.f3 = true := by
  unfold report Hl at h
  simp only [Bool.and_eq_true, List.all_eq_true, decide_eq_true_eq] at h
  exact h
theorem specReport_ev (l : List Note) (h : l.length ≤ 1048576) : Ev (fun k => Dx.f k l) (report l) := by
  have key : ∀ (d n : Nat), n + d = l.length → Ev (fun k => Dx.l0 k l n) (decide (l.length ≤ 10) && (l.drop n).all Hl) := by
    intro d
    induction d with
    | zero =>
      intro n hn
      obtain rfl : n = l.length := by omega
      refine Ev.step (f := fun _ => some _) (fun k => ?_) (Ev.now _)
      simp only [Dx.l0]; rw [if_neg (by omega)]
      simp <;> omega
    | succ d ih =>
      intro n hn
      have hl : n < l.length := by omega
      have ih := ih (n + 1) (by omega)
      rw [List.drop_eq_getElem_cons hl, List.all_cons]
      refine Ev.step (f := fun k => (Ej.f k l[n].f0 l[n].f1 l[n].f2 l[n].f3).bind fun t => if t = true then Dx.l0 k l ((n + 1 : Nat) : Int) else some false) (fun k => ?_) ?_
      · simp only [Dx.l0]
        rw [if_pos (by omega), if_pos (by omega), rdN l n hl, wrap_succ (by omega)]
      · refine Ev.bind (specNote_ev _ _ _ _) ?_
        by_cases e : Hl l[n] = true
        · have e2 : Ez l[n].f0 l[n].f1 l[n].f2 l[n].f3 = true := e
          simp only [e, e2, if_true, Bool.true_and]; exact ih
        · have e2 : Ez l[n].f0 l[n].f1 l[n].f2 l[n].f3 = false := by simpa [Hl] using e
          have e3 : Hl l[n] = false := e2
          simp only [e2, e3, Bool.false_and, Bool.and_false, Bool.false_eq_true, if_false]; exact Ev.now _
  exact Ev.congr (f := fun k => Dx.l0 k l ((0 : Nat) : Int)) (fun k => rfl) (by simpa [report] using key l.length 0 (by omega))
end Go.Proofs.YtghnljoaklmakaaDoor.X

namespace Go.Proofs.YtghnljoaklmakaaDoor.X
open Go.RowKit Go.Proofs.YtghnljoaklmakaaDoorW.PrintWords Go.Proofs.YtghnljoaklmakaaDoorL
/-- The names of the holds of a number from 1 to 15. -/
def hold (n : Int) : ByteArray × Bool := (Cc.f 6 n).getD (ByteArray.empty, true)
theorem hold_all : ∀ i : Fin 15, Cc.f 6 ((i.val : Int) + 1) = some (hold ((i.val : Int) + 1)) ∧ Dt.f 6 ((i.val : Int) + 1) = some (hold ((i.val : Int) + 1)) ∧ (hold ((i.val : Int) + 1)).1.size ≤ 60 := by decide +kernel
theorem hold_at (n : Int) (h0 : 1 ≤ n) (h1 : n ≤ 15) : Cc.f 6 n = some (hold n) ∧ Dt.f 6 n = some (hold n) ∧ (hold n).1.size ≤ 60 := by
  have := hold_all ⟨(n - 1).toNat, by omega⟩
  rw [show (((n - 1).toNat : Nat) : Int) + 1 = n from by omega] at this
  exact this
theorem mono_le {α : Type} {g : Nat → Option α} (hm : ∀ k, LeO (g k) (g (k + 1))) {k : Nat} {r : α} (h : g k = some r) : ∀ j, k ≤ j → g j = some r := by
  intro j hj
  obtain ⟨d, rfl⟩ := Nat.exists_eq_add_of_le hj
  clear hj
  induction d with
  | zero => exact h
  | succ d ih => exact hm _ _ ih
def Gm (kind : Int) (id : ByteArray) (a b : Int) : ByteArray :=
  if kind = 1 then ((((⟨#[67, 111, 110, 116, 97, 105, 110, 101, 114, 32]⟩ : ByteArray) ++ id) ++ (⟨#[32, 104, 97, 115, 32, 97, 114, 114, 105, 118, 101, 100, 32, 105, 110, 32, 115, 116, 97, 99, 107, 32]⟩ : ByteArray)) ++ dec a) ++ (⟨#[46]⟩ : ByteArray)
  else if kind = 2 then ((((((⟨#[67, 111, 110, 116, 97, 105, 110, 101, 114, 32]⟩ : ByteArray) ++ id) ++ (⟨#[32, 119, 97, 115, 32, 109, 111, 118, 101, 100, 32, 102, 114, 111, 109, 32, 115, 116, 97, 99, 107, 32]⟩ : ByteArray)) ++ dec a) ++ (⟨#[32, 116, 111, 32, 115, 116, 97, 99, 107, 32]⟩ : ByteArray)) ++ dec b) ++ (⟨#[46]⟩ : ByteArray)
  else if kind = 3 then ((((⟨#[67, 111, 110, 116, 97, 105, 110, 101, 114, 32]⟩ : ByteArray) ++ id) ++ (⟨#[32, 105, 115, 32, 104, 101, 108, 100, 32, 102, 111, 114, 32]⟩ : ByteArray)) ++ (hold a).1) ++ (⟨#[46]⟩ : ByteArray)
  else if kind = 4 then ((((⟨#[67, 111, 110, 116, 97, 105, 110, 101, 114, 32]⟩ : ByteArray) ++ id) ++ (⟨#[32, 105, 115, 32, 114, 101, 97, 100, 121, 32, 102, 111, 114, 32, 112, 105, 99, 107, 117, 112, 32, 105, 110, 32, 115, 108, 111, 116, 32]⟩ : ByteArray)) ++ dec a) ++ (⟨#[46]⟩ : ByteArray)
  else if b = 1 then ((((⟨#[67, 111, 110, 116, 97, 105, 110, 101, 114, 32]⟩ : ByteArray) ++ id) ++ (⟨#[32, 111, 119, 101, 115, 32]⟩ : ByteArray)) ++ dec a) ++ (⟨#[32, 102, 111, 114, 32, 49, 32, 100, 97, 121, 46]⟩ : ByteArray)
  else ((((((⟨#[67, 111, 110, 116, 97, 105, 110, 101, 114, 32]⟩ : ByteArray) ++ id) ++ (⟨#[32, 111, 119, 101, 115, 32]⟩ : ByteArray)) ++ dec a) ++ (⟨#[32, 102, 111, 114, 32]⟩ : ByteArray)) ++ dec b) ++ (⟨#[32, 100, 97, 121, 115, 46]⟩ : ByteArray)
theorem Fj {kind : Int} {id : ByteArray} {a b : Int} (h : Ez kind id a b = true) : id.size = 8 ∧ (1 ≤ kind ∧ kind ≤ 5) ∧ (0 ≤ a ∧ a ≤ 999999) ∧ (0 ≤ b ∧ b ≤ 999999) ∧ (kind = 3 → 1 ≤ a ∧ a ≤ 15) := by
  unfold Ez at h
  simp only [Bool.and_eq_true] at h
  obtain ⟨h1, h2⟩ := h
  have h3 : id.size = 8 := by
    unfold idOk at h1
    simp only [Bool.and_eq_true, decide_eq_true_eq] at h1
    exact h1.1
  refine ⟨h3, ?_⟩
  clear h1 h3
  repeat' split at h2
  all_goals (simp_all <;> omega)
theorem dec_sz (n : Int) (h : 0 ≤ n ∧ n ≤ 999999) : (dec n).size ≤ 21 := dec_size n (by omega) (by omega)
theorem implText_ev (kind : Int) (id : ByteArray) (a b : Int) (h : Ez kind id a b = true) : Ev (fun k => Dk.f k kind id a b) (Gm kind id a b) := by
  obtain ⟨hi, hk, ha, hb, h3⟩ := Fj h
  have da := dec_sz a ha
  have db := dec_sz b hb
  clear h
  have zC_ : (⟨#[67, 111, 110, 116, 97, 105, 110, 101, 114, 32]⟩ : ByteArray).size = 10 := rfl
  have zarr_ : (⟨#[32, 104, 97, 115, 32, 97, 114, 114, 105, 118, 101, 100, 32, 105, 110, 32, 115, 116, 97, 99, 107, 32]⟩ : ByteArray).size = 22 := rfl
  have zmov_ : (⟨#[32, 119, 97, 115, 32, 109, 111, 118, 101, 100, 32, 102, 114, 111, 109, 32, 115, 116, 97, 99, 107, 32]⟩ : ByteArray).size = 22 := rfl
  have zto_ : (⟨#[32, 116, 111, 32, 115, 116, 97, 99, 107, 32]⟩ : ByteArray).size = 10 := rfl
  have zheld_ : (⟨#[32, 105, 115, 32, 104, 101, 108, 100, 32, 102, 111, 114, 32]⟩ : ByteArray).size = 13 := rfl
  have zrdy_ : (⟨#[32, 105, 115, 32, 114, 101, 97, 100, 121, 32, 102, 111, 114, 32, 112, 105, 99, 107, 117, 112, 32, 105, 110, 32, 115, 108, 111, 116, 32]⟩ : ByteArray).size = 29 := rfl
  have zowes_ : (⟨#[32, 111, 119, 101, 115, 32]⟩ : ByteArray).size = 6 := rfl
  have zone_ : (⟨#[32, 102, 111, 114, 32, 49, 32, 100, 97, 121, 46]⟩ : ByteArray).size = 11 := rfl
  have zfor_ : (⟨#[32, 102, 111, 114, 32]⟩ : ByteArray).size = 5 := rfl
  have zdays_ : (⟨#[32, 100, 97, 121, 115, 46]⟩ : ByteArray).size = 6 := rfl
  have zdot_ : (⟨#[46]⟩ : ByteArray).size = 1 := rfl
  have zoneday_ : (⟨#[49, 32, 100, 97, 121]⟩ : ByteArray).size = 5 := rfl
  have zsdays_ : (⟨#[32, 100, 97, 121, 115]⟩ : ByteArray).size = 5 := rfl
  refine ⟨6, fun k hk6 => ?_⟩
  unfold Dk.f Gm
  rw [implDec a (by omega) (by omega), implDec b (by omega) (by omega)]
  have kk : kind = 1 ∨ kind = 2 ∨ kind = 3 ∨ kind = 4 ∨ kind = 5 := by omega
  rcases kk with rfl | rfl | rfl | rfl | rfl
  · simp only [Option.bind_some, if_true]
    repeat rw [if_pos (by (try simp only [ByteArray.size_append]); omega)]
  · simp only [Option.bind_some, if_true, if_neg (show ¬ (2 : Int) = 1 by decide)]
    repeat rw [if_pos (by (try simp only [ByteArray.size_append]); omega)]
  · obtain ⟨_, e3, z3⟩ := hold_at a (h3 rfl).1 (h3 rfl).2
    have e4 := mono_le (g := fun k => Dt.f k a) (fun k => Dt.mono _ _) e3 k hk6
    simp only [e4, Option.bind_some, if_true, if_neg (show ¬ (3 : Int) = 1 by decide), if_neg (show ¬ (3 : Int) = 2 by decide)]
    repeat rw [if_pos (by (try simp only [ByteArray.size_append]); omega)]
  · simp only [Option.bind_some, if_true, if_neg (show ¬ (4 : Int) = 1 by decide), if_neg (show ¬ (4 : Int) = 2 by decide), if_neg (show ¬ (4 : Int) = 3 by decide)]
    repeat rw [if_pos (by (try simp only [ByteArray.size_append]); omega)]
  · simp only [Option.bind_some, if_neg (show ¬ (5 : Int) = 1 by decide), if_neg (show ¬ (5 : Int) = 2 by decide), if_neg (show ¬ (5 : Int) = 3 by decide), if_neg (show ¬ (5 : Int) = 4 by decide)]
    by_cases b1 : b = 1
    · simp only [if_pos b1]
      repeat rw [if_pos (by (try simp only [ByteArray.size_append]); omega)]
    · simp only [if_neg b1]
      repeat rw [if_pos (by (try simp only [ByteArray.size_append]); omega)]
theorem day_one (x : ByteArray) : ((x ++ (⟨#[32, 102, 111, 114, 32]⟩ : ByteArray)) ++ (⟨#[49, 32, 100, 97, 121]⟩ : ByteArray)) ++ (⟨#[46]⟩ : ByteArray) = x ++ (⟨#[32, 102, 111, 114, 32, 49, 32, 100, 97, 121, 46]⟩ : ByteArray) := by
  rw [ByteArray.append_assoc, ByteArray.append_assoc]
  exact congrArg (fun z => x ++ z) (by decide +kernel)
theorem day_days (x d : ByteArray) : (x ++ (d ++ (⟨#[32, 100, 97, 121, 115]⟩ : ByteArray))) ++ (⟨#[46]⟩ : ByteArray) = (x ++ d) ++ (⟨#[32, 100, 97, 121, 115, 46]⟩ : ByteArray) := by
  rw [← ByteArray.append_assoc, ByteArray.append_assoc]
  exact congrArg (fun z => (x ++ d) ++ z) (by decide +kernel)
theorem specText_ev (kind : Int) (id : ByteArray) (a b : Int) (h : Ez kind id a b = true) : Ev (fun k => Dn.f k kind id a b) (Gm kind id a b) := by
  obtain ⟨hi, hk, ha, hb, h3⟩ := Fj h
  have da := dec_sz a ha
  have db := dec_sz b hb
  clear h
  have zC_ : (⟨#[67, 111, 110, 116, 97, 105, 110, 101, 114, 32]⟩ : ByteArray).size = 10 := rfl
  have zarr_ : (⟨#[32, 104, 97, 115, 32, 97, 114, 114, 105, 118, 101, 100, 32, 105, 110, 32, 115, 116, 97, 99, 107, 32]⟩ : ByteArray).size = 22 := rfl
  have zmov_ : (⟨#[32, 119, 97, 115, 32, 109, 111, 118, 101, 100, 32, 102, 114, 111, 109, 32, 115, 116, 97, 99, 107, 32]⟩ : ByteArray).size = 22 := rfl
  have zto_ : (⟨#[32, 116, 111, 32, 115, 116, 97, 99, 107, 32]⟩ : ByteArray).size = 10 := rfl
  have zheld_ : (⟨#[32, 105, 115, 32, 104, 101, 108, 100, 32, 102, 111, 114, 32]⟩ : ByteArray).size = 13 := rfl
  have zrdy_ : (⟨#[32, 105, 115, 32, 114, 101, 97, 100, 121, 32, 102, 111, 114, 32, 112, 105, 99, 107, 117, 112, 32, 105, 110, 32, 115, 108, 111, 116, 32]⟩ : ByteArray).size = 29 := rfl
  have zowes_ : (⟨#[32, 111, 119, 101, 115, 32]⟩ : ByteArray).size = 6 := rfl
  have zone_ : (⟨#[32, 102, 111, 114, 32, 49, 32, 100, 97, 121, 46]⟩ : ByteArray).size = 11 := rfl
  have zfor_ : (⟨#[32, 102, 111, 114, 32]⟩ : ByteArray).size = 5 := rfl
  have zdays_ : (⟨#[32, 100, 97, 121, 115, 46]⟩ : ByteArray).size = 6 := rfl
  have zdot_ : (⟨#[46]⟩ : ByteArray).size = 1 := rfl
  have zoneday_ : (⟨#[49, 32, 100, 97, 121]⟩ : ByteArray).size = 5 := rfl
  have zsdays_ : (⟨#[32, 100, 97, 121, 115]⟩ : ByteArray).size = 5 := rfl
  obtain ⟨ka, ea⟩ := specNum_ev a (by omega) (by omega)
  obtain ⟨kb, eb⟩ := specNum_ev b (by omega) (by omega)
  refine ⟨6 + ka + kb, fun k hk6 => ?_⟩
  replace ea := ea k (by omega)
  replace eb := eb k (by omega)
  dsimp only at ea eb
  unfold Dn.f Gm Fq.f
  have kk : kind = 1 ∨ kind = 2 ∨ kind = 3 ∨ kind = 4 ∨ kind = 5 := by omega
  rcases kk with rfl | rfl | rfl | rfl | rfl
  · simp only [ea, eb, Option.bind_some, if_true]
    repeat rw [if_pos (by (try simp only [ByteArray.size_append]); omega)]
  · simp only [ea, eb, Option.bind_some, if_true, if_neg (show ¬ (2 : Int) = 1 by decide)]
    repeat rw [if_pos (by (try simp only [ByteArray.size_append]); omega)]
  · obtain ⟨e3, _, z3⟩ := hold_at a (h3 rfl).1 (h3 rfl).2
    have e4 := mono_le (g := fun k => Cc.f k a) (fun k => Cc.mono _ _) e3 k (by omega)
    simp only [e4, Option.bind_some, if_true, if_neg (show ¬ (3 : Int) = 1 by decide), if_neg (show ¬ (3 : Int) = 2 by decide)]
    repeat rw [if_pos (by (try simp only [ByteArray.size_append]); omega)]
  · simp only [ea, Option.bind_some, if_true, if_neg (show ¬ (4 : Int) = 1 by decide), if_neg (show ¬ (4 : Int) = 2 by decide), if_neg (show ¬ (4 : Int) = 3 by decide)]
    repeat rw [if_pos (by (try simp only [ByteArray.size_append]); omega)]
  · simp only [ea, eb, Option.bind_some, if_neg (show ¬ (5 : Int) = 1 by decide), if_neg (show ¬ (5 : Int) = 2 by decide), if_neg (show ¬ (5 : Int) = 3 by decide), if_neg (show ¬ (5 : Int) = 4 by decide)]
    by_cases b1 : b = 1
    · simp only [if_pos b1, Option.bind_some]
      rw [← day_one]
      repeat rw [if_pos (by (try simp only [ByteArray.size_append]); omega)]
    · simp only [if_neg b1, Option.bind_some]
      rw [← day_days]
      repeat (first | rw [if_pos (by (try simp only [ByteArray.size_append]); omega)] | rw [Option.bind_some])
theorem text_size (kind : Int) (id : ByteArray) (a b : Int) (h : Ez kind id a b = true) : (Gm kind id a b).size ≤ 150 := by
  obtain ⟨hi, hk, ha, hb, h3⟩ := Fj h
  have da := dec_sz a ha
  have db := dec_sz b hb
  have zC_ : (⟨#[67, 111, 110, 116, 97, 105, 110, 101, 114, 32]⟩ : ByteArray).size = 10 := rfl
  have zarr_ : (⟨#[32, 104, 97, 115, 32, 97, 114, 114, 105, 118, 101, 100, 32, 105, 110, 32, 115, 116, 97, 99, 107, 32]⟩ : ByteArray).size = 22 := rfl
  have zmov_ : (⟨#[32, 119, 97, 115, 32, 109, 111, 118, 101, 100, 32, 102, 114, 111, 109, 32, 115, 116, 97, 99, 107, 32]⟩ : ByteArray).size = 22 := rfl
  have zto_ : (⟨#[32, 116, 111, 32, 115, 116, 97, 99, 107, 32]⟩ : ByteArray).size = 10 := rfl
  have zheld_ : (⟨#[32, 105, 115, 32, 104, 101, 108, 100, 32, 102, 111, 114, 32]⟩ : ByteArray).size = 13 := rfl
  have zrdy_ : (⟨#[32, 105, 115, 32, 114, 101, 97, 100, 121, 32, 102, 111, 114, 32, 112, 105, 99, 107, 117, 112, 32, 105, 110, 32, 115, 108, 111, 116, 32]⟩ : ByteArray).size = 29 := rfl
  have zowes_ : (⟨#[32, 111, 119, 101, 115, 32]⟩ : ByteArray).size = 6 := rfl
  have zone_ : (⟨#[32, 102, 111, 114, 32, 49, 32, 100, 97, 121, 46]⟩ : ByteArray).size = 11 := rfl
  have zfor_ : (⟨#[32, 102, 111, 114, 32]⟩ : ByteArray).size = 5 := rfl
  have zdays_ : (⟨#[32, 100, 97, 121, 115, 46]⟩ : ByteArray).size = 6 := rfl
  have zdot_ : (⟨#[46]⟩ : ByteArray).size = 1 := rfl
  have zoneday_ : (⟨#[49, 32, 100, 97, 121]⟩ : ByteArray).size = 5 := rfl
  have zsdays_ : (⟨#[32, 100, 97, 121, 115]⟩ : ByteArray).size = 5 := rfl
  have z3 : kind = 3 → (hold a).1.size ≤ 60 := fun h_ => (hold_at a (h3 h_).1 (h3 h_).2).2.2
  unfold Gm
  repeat' split
  all_goals (simp only [ByteArray.size_append]; omega)
end Go.Proofs.YtghnljoaklmakaaDoor.X

namespace Go.Proofs.YtghnljoaklmakaaDoor.X
open Go.RowKit Go.Proofs.YtghnljoaklmakaaDoorW.PrintWords Go.Proofs.YtghnljoaklmakaaDoorW.PrintLast Go.Proofs.YtghnljoaklmakaaDoorW.PrintMore
attribute [local go_sem] Ea Eb Eh Eg Dz D5 Ec D9
open Go.Proofs.YtghnljoaklmakaaDoorG
def Ef.l0 : Nat → List ByteArray → List (S27) → Int → Int → Option (ByteArray × Bool)
  | 0, _, _, _, _ => none
  | k + 1, x4, x11, x12, x13 => if x13 < x12 then (if 0 ≤ x13 then (if x13 < (x11.length : Int) then ((Dk.f k ((Ak x11 x13).f0) ((Ak x11 x13).f1) ((Ak x11 x13).f2) ((Ak x11 x13).f3)).bind fun t228 => (if x4.length < 8796093022208 then (Ef.l0 k (x4 ++ [t228]) x11 x12 (wrap64 (x13 + 1))) else (none))) else (none)) else (none)) else ((strings_Join.f x4 (⟨#[32]⟩ : ByteArray)).bind fun t232 => (some (t232, true)))
def Ef.f (k : Nat) (l0 : List (S27)) : Option (ByteArray × Bool) := (F7.f l0).bind fun t222 => (if t222 = true then (Ef.l0 k (([] : List ByteArray)) l0 (l0.length : Int) 0) else (some ((⟨#[]⟩ : ByteArray), false)))
theorem Ef.Ed : ∀ k, (∀ y0 y1 y2 y3, LeO (Ef.l0 k y0 y1 y2 y3) (Ef.l0 (k + 1) y0 y1 y2 y3))
  | 0 => fun _ _ _ _ r h => by simp [Ef.l0] at h
  | k + 1 => by
    have ih0 := Ef.Ed k
    · intro y0 y1 y2 y3
      unfold Ef.l0
      repeat' first
      | (with_reducible exact ih0 _ _ _ _)
      | (with_reducible exact Dk.mono _ _ _ _ _)
      | (with_reducible exact LeO.refl _)
      | (with_reducible exact LeO.none _)
      | (with_reducible refine LeO.ite ?_ ?_)
      | (with_reducible refine LeO.bind ?_ (fun _ => ?_))
      | exact ih0 _ _ _ _
      | exact Dk.mono _ _ _ _ _
      | exact LeO.none _
      | refine LeO.ite ?_ ?_
      | refine LeO.bind ?_ (fun _ => ?_)
theorem Ef.mono : ∀ a0 k, LeO (Ef.f k a0) (Ef.f (k + 1) a0) := by
  intro a0 k
  have ih0 := Ef.Ed k
  unfold Ef.f
  repeat' first
      | (with_reducible exact ih0 _ _ _ _)
      | (with_reducible exact Dk.mono _ _ _ _ _)
      | (with_reducible exact LeO.refl _)
      | (with_reducible exact LeO.none _)
      | (with_reducible refine LeO.ite ?_ ?_)
      | (with_reducible refine LeO.bind ?_ (fun _ => ?_))
      | exact ih0 _ _ _ _
      | exact Dk.mono _ _ _ _ _
      | exact LeO.none _
      | refine LeO.ite ?_ ?_
      | refine LeO.bind ?_ (fun _ => ?_)
set_option maxHeartbeats 8000000 in
set_option maxRecDepth 100000 in
theorem Ef.calls (k : Nat) (A0 : Option Addr) (c0 : Nat) (l0 : List (S27)) (r1 : ByteArray) (r2 : Bool) (w : World) (hr0 : Kd.C k27 w A0 l0.length l0) (hc0 : l0.length ≤ c0) (hG : Eo w) (h : Ef.f k l0 = some (r1, r2)) :
    Calls Tryd.prog 14 #[.slice A0 l0.length c0] w fun e w' => e = .returned (.tuple #[.string r1, .bool r2]) ∧ Below w.heap.size w w' := by
  have hu27 := Tryd.underlying27
  have HGL := Ac.mk hG
  clear hG
  have HR0 := Ac.mk hr0
  have HC0 := Ac.mk hc0
  clear hr0 hc0
  have HB := Ac.mk (Below.refl w.heap.size w)
  have H : ((F7.f l0).bind fun t222 => (if t222 = true then (Ef.l0 k (([] : List ByteArray)) l0 (l0.length : Int) 0) else (some ((⟨#[]⟩ : ByteArray), false)))) = some (r1, r2) := h
  clear h
  replace H := Option.bind_eq_some_iff.mp H
  obtain ⟨t222, A20, H⟩ := H
  replace H : (if t222 = true then (Ef.l0 k (([] : List ByteArray)) l0 (l0.length : Int) 0) else (some ((⟨#[]⟩ : ByteArray), false))) = some (r1, r2) := H
  have A2 := Ac.mk A20
  clear A20
  by_cases c3 : t222 = true
  · subst c3
    have H1 : (Ef.l0 k (([] : List ByteArray)) l0 (l0.length : Int) 0) = some (r1, r2) := by rw [if_pos rfl] at H; exact H
    clear H
    have H := H1
    clear H1
    obtain ⟨y223, hy223⟩ : ∃ y_ : List ByteArray, y_ = (([] : List ByteArray)) := ⟨_, rfl⟩
    replace H : (Ef.l0 k y223 l0 (l0.length : Int) 0) = some (r1, r2) := by first | (rw [hy223]; with_reducible exact H) | (have H2_ := (Option.bind_some _ _).symm.trans H; rw [hy223]; with_reducible exact H2_) | (have H2_ := (Option.bind_some _ _).symm.trans H; with_reducible exact H2_) | with_reducible exact H | (rw [hy223]; exact H) | exact H
    have Ny223 := Ac.mk hy223
    clear hy223
    have H' := Ac.mk H
    clear H
    go_enter Tryd.func14, Tryd.ntmps14
    go_wp2_with (first | ((with_reducible refine Aw (f := 28) rfl ?_); refine Bj (some 8) rfl rfl Tryd.func28 (by kernel_rfl) rfl #[.slice A0 l0.length c0] rfl Yb_ ?_; (with_reducible refine (F7.calls _ _ l0 true _ ?side1 ?side2 A2.out).mono ?_); (case side1 => repeat (first | exact HR0.out | (with_reducible refine Kd.Fz ?_ _) | (with_reducible refine Kd.F5 ?_ _) | (with_reducible refine Kd.Gj ?_))); (case side2 => exact HC0.out); rintro e w4 ⟨rfl, hb⟩; refine ⟨_, rfl, ?_⟩; have n0_ := Ac.mk (Au Ya_ hb); clear HB; have HB := n0_; clear n0_; (try clear hb); (try clear hb2); (try clear hk); (try clear hi)) | ((with_reducible refine Dh (N := 10) rfl ?_); refine Kd.R_lit Kd.string _ 9 ?hg (N := 10) ?hd (xs := ([] : List ByteArray)) (inner := []) (ok := fun _ => True) (okp := fun _ => True) ?hr ?hp (fun _ hk => hk) trivial (Below.refl _ _) (Nat.le_refl _) (by simp) ?_; (case hd => rfl); (case hg => rfl); (case hr => first | (go_simp; done) | (go_simp; rfl)); (case hp => exact (Ee.none _ _)); intro v224 w5 ho6 hb hg_ hnew_; clear hg_ hnew_; (first | rw [← Ny223.out] at ho6 | (simp only [Int.reduceToNat] at ho6; rw [← Ny223.out] at ho6)); have n0_ := Ac.mk (Kd.F6 ho6 (Az Ya_)); have n1_ := Ac.mk (Au Ya_ hb); clear HB; have HO225 := n0_; have HB := n1_; clear n0_ n1_; clear hb ho6))
    go_loopg [4, 13] k (fun kq v4 v13 w' => ∃ (x4_1 : List ByteArray) (x13_1 : Int), v13 = .int .i64 x13_1 ∧ Ac (Ef.l0 kq x4_1 l0 (l0.length : Int) x13_1 = some (r1, r2)) ∧ Ac (kq ≤ k) ∧ Ac (Kd.R Kd.string 9 w' w.heap.size (fun _ => True) v4 x4_1) ∧ Ac (Below w.heap.size w w'))
    case atStart => exact ⟨(y223), (0), Yf_, H', ⟨Nat.le_refl _⟩, ⟨by (with_reducible repeat (first | apply Kd.Bg | apply Kd.Bh | apply Kd.Bl)); exact HO225.out⟩, ⟨by repeat (first | (with_reducible first | exact HB.out | apply Ae | apply Aa | apply Ad) | exact HB.out)⟩⟩
    case round =>
      clear H'
      try clear c1
      try clear c2
      try clear p2
      try clear c3
      obtain ⟨x4_1, x13_1, rfl, HA, HK1, HO_4, HB⟩ := hrel
      cases gk with
      | zero => exact absurd HA.out (by simp [Ef.l0])
      | succ k1 =>
        have H := HA.out
        clear HA
        simp only [Ef.l0] at H
        by_cases c7 : x13_1 < (l0.length : Int)
        · rw [if_pos c7] at H
          have c7b0 : decide (x13_1 < (l0.length : Int)) = true := decide_eq_true c7
          clear c7
          by_cases c8 : 0 ≤ x13_1
          · rw [if_pos c8] at H
            have c8b0 : decide (0 ≤ x13_1) = true := decide_eq_true c8
            clear c8
            by_cases c9 : x13_1 < (l0.length : Int)
            · rw [if_pos c9] at H
              have c9b0 : decide (x13_1 < (l0.length : Int)) = true := decide_eq_true c9
              clear c9
              replace H := Option.bind_eq_some_iff.mp H
              obtain ⟨t228, A100, H⟩ := H
              replace H : (if x4_1.length < 8796093022208 then (Ef.l0 k1 (x4_1 ++ [t228]) l0 (l0.length : Int) (wrap64 (x13_1 + 1))) else (none)) = some (r1, r2) := H
              have A10 := Ac.mk A100
              clear A100
              by_cases c11 : x4_1.length < 8796093022208
              · rw [if_pos c11] at H
                have LMc11 := Ac.mk c11
                clear c11
                obtain ⟨y229, hy229⟩ : ∃ y_ : List ByteArray, y_ = (x4_1 ++ [t228]) := ⟨_, rfl⟩
                replace H : (Ef.l0 k1 y229 l0 (l0.length : Int) (wrap64 (x13_1 + 1))) = some (r1, r2) := by first | (rw [hy229]; with_reducible exact H) | (have H2_ := (Option.bind_some _ _).symm.trans H; rw [hy229]; with_reducible exact H2_) | (have H2_ := (Option.bind_some _ _).symm.trans H; with_reducible exact H2_) | with_reducible exact H | (rw [hy229]; exact H) | exact H
                have Ny229 := Ac.mk hy229
                clear hy229
                have H' := Ac.mk H
                clear H
                have p226 : 0 ≤ (x13_1 : Int) := of_decide_eq_true Yc_
                have q226 : x13_1 < (l0.length : Int) := of_decide_eq_true Yc_
                obtain ⟨ad226, e226, hx226_0, hx226_1, hx226_2, hx226_3⟩ := Fp HR0.out x13_1 p226 q226
                cases e226
                replace hx226_0 := (HB.out.cell (World.block_lt_of_cell? w _ hx226_0)).trans hx226_0
                replace hx226_1 := (HB.out.cell (World.block_lt_of_cell? w _ hx226_1)).trans hx226_1
                replace hx226_2 := (HB.out.cell (World.block_lt_of_cell? w _ hx226_2)).trans hx226_2
                replace hx226_3 := (HB.out.cell (World.block_lt_of_cell? w _ hx226_3)).trans hx226_3
                replace p226 := eq_true p226
                replace q226 := eq_true q226
                go_wp2_with (first | ((with_reducible refine Dh (N := 6) rfl ?_); refine Dl ?hg (N := 6) ?hd (cs := #[.int .i64 0, .string (⟨#[]⟩ : ByteArray), .int .i64 0, .int .i64 0]) (t := 27) ?hr ?_; (case hd => rfl); (case hg => rfl); (case hr => first | (go_simp; done) | (go_simp; rfl)); intro gb0 hg w12 hbox hb; have n0_ := Ac.mk (Kd.D6 Yg_ hb); have n1_ := Ac.mk (Au Ya_ hb); have n2_ := Ac.mk (hbox); have n3_ := Ac.mk ((by rw [hg]; exact (Az Ya_) : w.heap.size ≤ gb0)); have n4_ := Ac.mk ((by rw [hg]; exact (Az Ya_) : w.heap.size ≤ gb0)); clear HO_4; clear HB; have HO_4 := n0_; have HB := n1_; have BK0 := n2_; have GW0 := n3_; have GE0 := n4_; clear n0_ n1_ n2_ n3_ n4_; clear hb hbox hg; have hcz13_0 : w12.cell? ⟨gb0, 0, none⟩ = some (.int .i64 0) := (Af BK0.out 0).trans rfl; have hcz13_1 : w12.cell? ⟨gb0, 1, none⟩ = some (.string (⟨#[]⟩ : ByteArray)) := (Af BK0.out 1).trans rfl; have hcz13_2 : w12.cell? ⟨gb0, 2, none⟩ = some (.int .i64 0) := (Af BK0.out 2).trans rfl; have hcz13_3 : w12.cell? ⟨gb0, 3, none⟩ = some (.int .i64 0) := (Af BK0.out 3).trans rfl; have hfz13_0 := Ag BK0.out 0; have hfz13_1 := Ag BK0.out 1; have hfz13_2 := Ag BK0.out 2; have hfz13_3 := Ag BK0.out 3) | ((with_reducible refine Aw (f := 26) rfl ?_); refine Bj (some 19) rfl rfl Tryd.func26 (by kernel_rfl) rfl #[.agg #[.int .i64 ((Ak l0 x13_1).f0), .string ((Ak l0 x13_1).f1), .int .i64 ((Ak l0 x13_1).f2), .int .i64 ((Ak l0 x13_1).f3)]] rfl Yb_ ?_; (with_reducible refine (Dk.calls k1 ((Ak l0 x13_1).f0) ((Ak l0 x13_1).f1) ((Ak l0 x13_1).f2) ((Ak l0 x13_1).f3) t228 _ ?side1 A10.out).mono ?_); (case side1 => exact Eo.below HGL.out Yd_); rintro e w14 ⟨rfl, hb⟩; refine ⟨_, rfl, ?_⟩; have n0_ := Ac.mk (Kd.D6 (by (with_reducible repeat (first | apply Kd.Bg | apply Kd.Bh | apply Kd.Bl)); exact (Kd.R_mono (Kd.Fe (p := ⟨gb0, 3, none⟩) (Kd.Fe (p := ⟨gb0, 2, none⟩) (Kd.Fe (p := ⟨gb0, 1, none⟩) (Kd.Fe (p := ⟨gb0, 0, none⟩) (Kd.R_types HO_4.out BK0.out (by decide)) (fun _ hk => hk.2) (.int .i64 ((Ak l0 x13_1).f0))) (fun _ hk => hk.2) (.string ((Ak l0 x13_1).f1))) (fun _ hk => hk.2) (.int .i64 ((Ak l0 x13_1).f2))) (fun _ hk => hk.2) (.int .i64 ((Ak l0 x13_1).f3))) (fun _ h_ => h_.1))) hb); have n1_ := Ac.mk (Ce (g := gb0) (o := .cells #[.int .i64 ((Ak l0 x13_1).f0), .string ((Ak l0 x13_1).f1), .int .i64 ((Ak l0 x13_1).f2), .int .i64 ((Ak l0 x13_1).f3)] 27 (0, 0)) (by (with_reducible repeat (first | refine Ah ?_ _ | refine Aj ?_ | refine Ai ?_ _)); refine Bo (cs := #[.int .i64 ((Ak l0 x13_1).f0), .string ((Ak l0 x13_1).f1), .int .i64 ((Ak l0 x13_1).f2), .int .i64 0]) ?_ 3 _ rfl; (with_reducible repeat (first | refine Ah ?_ _ | refine Aj ?_ | refine Ai ?_ _)); refine Bo (cs := #[.int .i64 ((Ak l0 x13_1).f0), .string ((Ak l0 x13_1).f1), .int .i64 0, .int .i64 0]) ?_ 2 _ rfl; (with_reducible repeat (first | refine Ah ?_ _ | refine Aj ?_ | refine Ai ?_ _)); refine Bo (cs := #[.int .i64 ((Ak l0 x13_1).f0), .string (⟨#[]⟩ : ByteArray), .int .i64 0, .int .i64 0]) ?_ 1 _ rfl; (with_reducible repeat (first | refine Ah ?_ _ | refine Aj ?_ | refine Ai ?_ _)); refine Bo (cs := #[.int .i64 0, .string (⟨#[]⟩ : ByteArray), .int .i64 0, .int .i64 0]) ?_ 0 _ rfl; (with_reducible repeat (first | refine Ah ?_ _ | refine Aj ?_ | refine Ai ?_ _)); exact BK0.out) hb); have n2_ := Ac.mk (Au Yd_ hb); clear HO_4; clear BK0; clear HB; have HO_4 := n0_; have BK0 := n1_; have HB := n2_; clear n0_ n1_ n2_; (try clear hb); (try clear hb2); (try clear hk); (try clear hi)) | ((with_reducible refine Gy (b := .append) (xs := #[.tmp 17, .tmp 20]) rfl ?_); at_builtin; refine Kd.R_append Kd.string (w0 := w) w.heap.size rfl (.tmp 17) (.tmp 20) 47 9 (.string ⟨#[]⟩) 16 rfl Tryd.underlying47 info9 rfl (by decide) (by omega) u4 x4_1 t228 [.string t228] (fun _ => True) (fun _ => False) rfl rfl ?aP (fun _ hk => hk.elim) ?aF ?aO ?aB ?aS ?aL ?_; (case aP => exact rfl); (case aB => exact Yd_); (case aF => exact (fun _ _ => trivial)); (case aO => exact Yg_); (case aS => exact (Az Yd_)); (case aL => have := LMc11.out; omega); intro v230 w15 ho hb hg hat; rw [← Ny229.out] at ho; have n0_ := Ac.mk (blk_grown (g := gb0) (o := .cells #[.int .i64 ((Ak l0 x13_1).f0), .string ((Ak l0 x13_1).f1), .int .i64 ((Ak l0 x13_1).f2), .int .i64 ((Ak l0 x13_1).f3)] 27 (0, 0)) Ye_ hg (Kd.R_ne HO_4.out BK0.out (by decide))); have n1_ := Ac.mk (hb); have n2_ := Ac.mk (ho); clear BK0; clear HB; clear HO_4; have BK0 := n0_; have HB := n1_; have HO231 := n2_; clear n0_ n1_ n2_; clear ho hb hg hat))
                go_roundg k1
                case measure => have := HK1.out; omega
                case rel => exact ⟨(y229), (wrap64 (x13_1 + 1)), Yf_, H', ⟨by have := HK1.out; omega⟩, ⟨by (with_reducible repeat (first | apply Kd.Bg | apply Kd.Bh | apply Kd.Bl)); exact HO231.out⟩, ⟨by repeat (first | (with_reducible first | exact HB.out | apply Ae | apply Aa | apply Ad | refine Am ?_ GE0.out) | exact HB.out)⟩⟩
              · rw [if_neg c11] at H
                exact absurd H (by simp)
            · rw [if_neg c9] at H
              exact absurd H (by simp)
          · rw [if_neg c8] at H
            exact absurd H (by simp)
        · rw [if_neg c7] at H
          have c7b0 : decide (x13_1 < (l0.length : Int)) = false := decide_eq_false c7
          clear c7
          replace H := Option.bind_eq_some_iff.mp H
          obtain ⟨t232, A160, H⟩ := H
          replace H : (some (t232, true)) = some (r1, r2) := H
          have A16 := Ac.mk A160
          clear A160
          simp only [Option.some.injEq, Prod.mk.injEq] at H
          obtain ⟨rfl, rfl⟩ := H
          obtain ⟨Ao17, co17, eo17⟩ := Kd.Ff HO_4.out
          subst eo17
          go_wp2_with (first | ((with_reducible refine Aw (f := 29) rfl ?_); refine Bj (some 24) rfl rfl Tryd.func29 (by kernel_rfl) rfl #[.slice Ao17 x4_1.length co17, .string (⟨#[32]⟩ : ByteArray)] rfl Yb_ ?_; (with_reducible refine (strings_Join.calls _ _ x4_1 (⟨#[32]⟩ : ByteArray) t232 _ ?side1 ?side2 A16.out).mono ?_); (case side1 => repeat (first | exact (Kd.Dv HO_4.out).2.2 | (with_reducible refine Kd.Fz ?_ _) | (with_reducible refine Kd.F5 ?_ _) | (with_reducible refine Kd.Gj ?_))); (case side2 => exact (Kd.Dv HO_4.out).2.1); rintro e w18 ⟨rfl, hb⟩; refine ⟨_, rfl, ?_⟩; have n0_ := Ac.mk (Kd.D6 Yg_ hb); have n1_ := Ac.mk (Au Ya_ hb); clear HO_4; clear HB; have HO_4 := n0_; have HB := n1_; clear n0_ n1_; (try clear hb); (try clear hb2); (try clear hk); (try clear hi)))
          go_ret2
          exact ⟨by first | rfl | (simp [Aq, Ar] <;> rfl) | (simp [*, Aq, Ar] <;> rfl), by repeat (first | (with_reducible first | exact HB.out | apply Ae | apply Aa | apply Ad) | exact HB.out)⟩
  · replace c3 := Bool.eq_false_iff.mpr c3
    subst c3
    have H1 : (some ((⟨#[]⟩ : ByteArray), false)) = some (r1, r2) := by rw [if_neg (show ¬ (false = true) by decide)] at H; exact H
    clear H
    have H := H1
    clear H1
    simp only [Option.some.injEq, Prod.mk.injEq] at H
    obtain ⟨rfl, rfl⟩ := H
    go_enter Tryd.func14, Tryd.ntmps14
    go_wp2_with (first | ((with_reducible refine Aw (f := 28) rfl ?_); refine Bj (some 8) rfl rfl Tryd.func28 (by kernel_rfl) rfl #[.slice A0 l0.length c0] rfl Yb_ ?_; (with_reducible refine (F7.calls _ _ l0 false _ ?side1 ?side2 A2.out).mono ?_); (case side1 => repeat (first | exact HR0.out | (with_reducible refine Kd.Fz ?_ _) | (with_reducible refine Kd.F5 ?_ _) | (with_reducible refine Kd.Gj ?_))); (case side2 => exact HC0.out); rintro e w19 ⟨rfl, hb⟩; refine ⟨_, rfl, ?_⟩; have n0_ := Ac.mk (Au Ya_ hb); clear HB; have HB := n0_; clear n0_; (try clear hb); (try clear hb2); (try clear hk); (try clear hi)))
    go_ret2
    exact ⟨by first | rfl | (simp [Aq, Ar] <;> rfl) | (simp [*, Aq, Ar] <;> rfl), by repeat (first | (with_reducible first | exact HB.out | apply Ae | apply Aa | apply Ad) | exact HB.out)⟩
end Go.Proofs.YtghnljoaklmakaaDoor.X

namespace Go.Proofs.YtghnljoaklmakaaDoor.X
open Go.RowKit Go.Proofs.YtghnljoaklmakaaDoorW.PrintWords Go.Proofs.YtghnljoaklmakaaDoorL
def tx (x : Note) : ByteArray := Gm x.f0 x.f1 x.f2 x.f3
abbrev spB : ByteArray := ⟨#[32]⟩
theorem join_snoc (l : List ByteArray) (s x : ByteArray) : joinB (l ++ [x]) s = if l = [] then x else (joinB l s ++ s) ++ x := by
  refine Gw ?_
  cases l with
  | nil => simp [joinB, B, Lib.join_one]
  | cons y r =>
    rw [if_neg (by simp), Gl, Gl]
    simp only [joinB, B_mk, List.map_append, List.map_cons, List.map_nil, List.cons_append]
    rw [Lib.join_cons, Lib.join_cons]
    simp [Lib.joinTail, B, List.append_assoc]
/-- What has been told of a report. -/
def told (l : List Note) : ByteArray := joinB (l.map tx) spB
theorem told_snoc (l : List Note) (x : Note) : told (l ++ [x]) = if l = [] then tx x else (told l ++ spB) ++ tx x := by
  unfold told
  rw [List.map_append, List.map_cons, List.map_nil, join_snoc]
  by_cases h : l = []
  · subst h; rfl
  · rw [if_neg h, if_neg (by simpa using h)]
theorem told_nil : told [] = (⟨#[]⟩ : ByteArray) := rfl
theorem told_size : ∀ (n : Nat) (l : List Note), l.length = n → (∀ x ∈ l, Ez x.f0 x.f1 x.f2 x.f3 = true) → (told l).size ≤ 151 * n
  | 0, l, hl, _ => by rw [List.eq_nil_of_length_eq_zero hl, told_nil]; exact Nat.le_refl _
  | n + 1, l, hl, h => by
    have hne : l ≠ [] := by intro e; rw [e] at hl; cases hl
    have hd : l = l.dropLast ++ [l.getLast hne] := (List.dropLast_concat_getLast hne).symm
    have ih := told_size n l.dropLast (by simp [hl]) (fun x hx => h x (List.dropLast_subset l hx))
    have hx := text_size _ _ _ _ (h _ (List.getLast_mem hne))
    have e1 : spB.size = 1 := rfl
    rw [hd, told_snoc]
    unfold tx
    split
    · omega
    · simp only [ByteArray.size_append]; omega
def reportText (l : List Note) : ByteArray × Bool := if report l = true then (told l, true) else (⟨#[]⟩, false)
theorem specReportText_ev (l : List Note) (h : l.length ≤ 1048576) : Ev (fun k => C9.f k l) (reportText l) := by
  unfold C9.f reportText
  refine Ev.bind (specReport_ev l h) ?_
  cases c : report l with
  | false => simp only [Bool.false_eq_true, if_false]; exact Ev.now _
  | true =>
    simp only [if_true]
    obtain ⟨hl, ho⟩ := report_ok c
    have key : ∀ (d n : Nat), n + d = l.length → Ev (fun k => C9.l0 k l (told (l.take n)) (n : Int)) (told l, true) := by
      intro d
      induction d with
      | zero =>
        intro n hn
        obtain rfl : n = l.length := by omega
        refine Ev.step (f := fun _ => some _) (fun k => ?_) (Ev.now _)
        simp only [C9.l0]
        rw [if_neg (by omega), List.take_length]
      | succ d ih =>
        intro n hn
        have hn2 : n < l.length := by omega
        have hs := told_size _ (l.take n) rfl (fun x hx => ho x (List.mem_of_mem_take hx))
        rw [List.length_take] at hs
        have ht := text_size _ _ _ _ (ho _ (List.getElem_mem hn2))
        have e1 : (⟨#[32]⟩ : ByteArray).size = 1 := rfl
        have ih := ih (n + 1) (by omega)
        rw [List.take_succ_eq_append_getElem hn2, told_snoc] at ih
        by_cases z : n = 0
        · subst z
          refine Ev.step (f := fun k => (Dn.f k l[0].f0 l[0].f1 l[0].f2 l[0].f3).bind fun t => if (told (l.take 0)).size + t.size ≤ 9223372036854775807 then C9.l0 k l (told (l.take 0) ++ t) ((0 + 1 : Nat) : Int) else none) (fun k => ?_) ?_
          · simp only [C9.l0]
            rw [if_pos (by omega), if_neg (by omega), if_pos (by omega), rdN l 0 hn2, wrap_succ (by omega)]
          · refine Ev.bind (specText_ev _ _ _ _ (ho _ (List.getElem_mem hn2))) ?_
            refine Ev.congr (fun k => if_pos (by omega)) ?_
            rw [if_pos (show l.take 0 = [] from rfl)] at ih
            have e : told (l.take 0) ++ tx l[0] = tx l[0] := Gw (by rw [Gl]; rfl)
            unfold tx at e ih
            rw [e]; exact ih
        · refine Ev.step (f := fun k => (Dn.f k l[n].f0 l[n].f1 l[n].f2 l[n].f3).bind fun t => if (told (l.take n) ++ (⟨#[32]⟩ : ByteArray)).size + t.size ≤ 9223372036854775807 then C9.l0 k l ((told (l.take n) ++ (⟨#[32]⟩ : ByteArray)) ++ t) ((n + 1 : Nat) : Int) else none) (fun k => ?_) ?_
          · simp only [C9.l0]
            rw [if_pos (by omega), if_pos (by omega), if_pos (by omega), if_pos (by omega), rdN l n hn2, wrap_succ (by omega)]
          · refine Ev.bind (specText_ev _ _ _ _ (ho _ (List.getElem_mem hn2))) ?_
            refine Ev.congr (fun k => if_pos (by simp only [ByteArray.size_append]; omega)) ?_
            rw [if_neg (by intro e; have h9 := congrArg List.length e; rw [List.length_take, List.length_nil] at h9; omega)] at ih
            exact ih
    exact key l.length 0 (by omega)
end Go.Proofs.YtghnljoaklmakaaDoor.X

namespace Go.Proofs.YtghnljoaklmakaaDoor.X
open Go.RowKit Go.Proofs.YtghnljoaklmakaaDoorW.PrintWords Go.Proofs.YtghnljoaklmakaaDoorL
def mk (l : List UInt8) : ByteArray := ⟨l.toArray⟩
theorem Fa (l : List UInt8) : B (mk l) = l := B_mk l
theorem mk_of_B (s : ByteArray) : mk (B s) = s := Gw (B_mk _)
theorem Ha (l : List UInt8) : (mk l).size = l.length := by rw [size_B, Fa]
theorem mk_inj {a b : List UInt8} (h : mk a = mk b) : a = b := by have := congrArg B h; rwa [Fa, Fa] at this
theorem Fh (s : ByteArray) (i j : Nat) : B (s.extract i j) = ((B s).drop i).take (j - i) := by
  unfold B; simp [List.extract_eq_take_drop]
end Go.Proofs.YtghnljoaklmakaaDoor.X

namespace Go.Proofs.YtghnljoaklmakaaDoor.X
open Go.RowKit Go.Proofs.YtghnljoaklmakaaDoorW.PrintWords Go.Proofs.YtghnljoaklmakaaDoorL
def isD (b : UInt8) : Prop := 48 ≤ b.toNat ∧ b.toNat ≤ 57
theorem digit_ofNat (d : Nat) (h : d < 10) : (UInt8.ofNat (48 + d)).toNat = 48 + d := by simp; omega
theorem dd_range : ∀ (m u : Nat), u ≤ m → ∀ b ∈ Lib.decDigits u, isD b := by
  intro m
  have one : ∀ d : Nat, d < 10 → isD (UInt8.ofNat (48 + d)) := by
    intro d hd
    have := digit_ofNat d hd
    unfold isD; omega
  induction m with
  | zero =>
    intro u hu b hb
    rw [Lib.decDigits, dif_pos (by omega)] at hb
    simp only [List.mem_singleton] at hb
    subst hb; exact one u (by omega)
  | succ m ih =>
    intro u hu b hb
    by_cases c : u < 10
    · rw [Lib.decDigits, dif_pos c] at hb
      simp only [List.mem_singleton] at hb
      subst hb; exact one u c
    · rw [Lib.decDigits.eq_1 u, dif_neg c] at hb
      rcases List.mem_append.1 hb with hb | hb
      · exact ih (u / 10) (by omega) b hb
      · simp only [List.mem_singleton] at hb
        subst hb; exact one _ (by omega)
@[irreducible] def push (a : Nat) (b : UInt8) : Nat := a * 10 + (b.toNat - 48)
theorem push_eq (a : Nat) (b : UInt8) : push a b = a * 10 + (b.toNat - 48) := by unfold push; rfl
def val (a : Nat) (l : List UInt8) : Nat := l.foldl push a
theorem val_nil (a : Nat) : val a [] = a := rfl
theorem val_cons (a : Nat) (b : UInt8) (l : List UInt8) : val a (b :: l) = val (a * 10 + (b.toNat - 48)) l := by rw [← push_eq]; rfl
theorem val_snoc (b : UInt8) (l : List UInt8) (a : Nat) : val a (l ++ [b]) = val a l * 10 + (b.toNat - 48) := by rw [← push_eq]; unfold val; rw [List.foldl_append]; rfl
theorem val_ge : ∀ (l : List UInt8) (a : Nat), a ≤ val a l
  | [], a => by rw [val_nil]; exact Nat.le_refl _
  | b :: l, a => by have := val_ge l (a * 10 + (b.toNat - 48)); rw [val_cons]; omega
theorem val_dd : ∀ (m u : Nat), u ≤ m → val 0 (Lib.decDigits u) = u := by
  intro m
  induction m with
  | zero =>
    intro u hu
    obtain rfl : u = 0 := by omega
    rw [Lib.decDigits, dif_pos (by omega)]
    rw [val_cons, val_nil, digit_ofNat 0 (by omega)]
  | succ m ih =>
    intro u hu
    by_cases c : u < 10
    · rw [Lib.decDigits, dif_pos c]; rw [val_cons, val_nil, digit_ofNat u c]; omega
    · rw [Lib.decDigits.eq_1 u, dif_neg c, val_snoc, ih (u / 10) (by omega), digit_ofNat _ (by omega)]; omega
theorem val_lt : ∀ (l : List UInt8) (a n : Nat), (∀ b ∈ l, isD b) → a < 10 ^ n → val a l < 10 ^ (n + l.length)
  | [], a, n, _, h => by rw [val_nil]; exact h
  | b :: l, a, n, hl, h => by
    have hb := hl b (by simp)
    unfold isD at hb
    rw [val_cons, List.length_cons, show n + (l.length + 1) = (n + 1) + l.length from by omega]
    exact val_lt l _ (n + 1) (fun x hx => hl x (by simp [hx])) (by rw [Nat.pow_succ]; omega)
theorem dd_ne (u : Nat) : Lib.decDigits u ≠ [] := by
  rw [Lib.decDigits]; split <;> simp
theorem dd_len : ∀ (n u : Nat), 1 ≤ n → u < 10 ^ n → (Lib.decDigits u).length ≤ n := by
  intro n
  induction n with
  | zero => intro u h; omega
  | succ n ih =>
    intro u _ h
    rw [Lib.decDigits]
    by_cases c : u < 10
    · rw [dif_pos c]; simp
    · rw [dif_neg c, List.length_append]
      have : 1 ≤ n := by
        rcases Nat.eq_zero_or_pos n with rfl | h2
        · simp at h; omega
        · exact h2
      have := ih (u / 10) this (by rw [Nat.pow_succ] at h; omega)
      simp; omega
theorem parse10 : ∀ (l : List UInt8) (a : Nat), (∀ b ∈ l, isD b) → val a l < 1000000000 → Lib.parseUint10 a l = .ok (val a l)
  | [], a, _, _ => by rw [val_nil]; rfl
  | b :: l, a, hl, h => by
    have hb := hl b (by simp)
    unfold isD at hb
    rw [val_cons] at h ⊢
    have := val_ge l (a * 10 + (b.toNat - 48))
    rw [Lib.parseUint10, if_pos hb, if_neg (by omega), if_neg (by omega)]
    exact parse10 l _ (fun x hx => hl x (by simp [hx])) h
theorem B_decN (u : Nat) : B (dec (u : Int)) = Lib.decDigits u := by rw [B_dec]; unfold Lib.itoa; rw [if_neg (by omega)]; simp
theorem atoi_dd (u : Nat) (h : u ≤ 999999) : Lib.atoiAll (Lib.decDigits u) = .ok (u : Int) := by
  have hr := dd_range u u (Nat.le_refl _)
  have hv := val_dd u u (Nat.le_refl _)
  cases e : Lib.decDigits u with
  | nil => exact absurd e (dd_ne u)
  | cons c r =>
    rw [e] at hr hv
    have hc := hr c (by simp)
    unfold isD at hc
    have hp := parse10 (c :: r) 0 hr (by omega)
    unfold Lib.atoiAll
    simp only [if_neg (show ¬ (c.toNat = 43 ∨ c.toNat = 45) by omega)]
    unfold Lib.parseMag
    rw [if_neg (by simp), hp, hv]
    simp only [show ¬ c.toNat = 45 from by omega, false_and, not_false_eq_true, true_and, if_false]
    rw [if_neg (by omega)]
theorem parseInt_dd (u : Nat) (h : u ≤ 999999) : F9.f (mk (Lib.decDigits u)) = some ((u : Int), true) := by
  have hl := dd_len 6 u (by omega) (by omega)
  unfold F9.f
  rw [if_pos (by rw [Ha]; omega), show (mk (Lib.decDigits u)).data.toList = Lib.decDigits u from Fa _, atoi_dd u h]
  simp only [implDec (u : Int) (by omega) (by omega), Option.bind_some]
  rw [if_pos (by omega), if_pos (by rw [Fg, Fg, B_decN, Fa])]
/-- ParseInt comes to an end. -/
theorem parseInt_total (w : ByteArray) (h : w.size ≤ 281474976710656) : ∃ v o, F9.f w = some (v, o) := by
  unfold F9.f
  rw [if_pos h]
  rcases Lib.atoiAll w.data.toList with v | _ | _
  · dsimp only
    by_cases c : -999999 ≤ v ∧ v ≤ 999999
    · rw [if_pos c, implDec v (by omega) (by omega), Option.bind_some]
      by_cases d : (dec v).toList = w.toList
      · rw [if_pos d]; exact ⟨_, _, rfl⟩
      · rw [if_neg d]; exact ⟨_, _, rfl⟩
    · rw [if_neg c]; exact ⟨_, _, rfl⟩
  · exact ⟨_, _, rfl⟩
  · exact ⟨_, _, rfl⟩
theorem Gz (T K : ByteArray) : Bf.f T K = some (if (B K).isPrefixOf (B T) = true then (mk ((B T).drop (B K).length), true) else ((⟨#[]⟩ : ByteArray), false)) := by
  have ht := Ew T
  have hk := Ew K
  unfold Bf.f
  by_cases c : (T.size : Int) < (K.size : Int)
  · rw [if_pos c, if_neg]
    intro hp
    have := (List.isPrefixOf_iff_prefix.1 hp).length_le
    omega
  · rw [if_neg c, if_pos (by omega), if_pos (by omega)]
    have e1 : (T.extract 0 ((K.size : Int) : Int).toNat).toList = (B T).take (B K).length := by rw [Fg, Fh, hk]; simp
    have e2 : T.extract ((K.size : Int) : Int).toNat T.size = mk ((B T).drop (B K).length) := Gw (by rw [Fh, Fa, hk, Int.toNat_natCast, List.take_of_length_le (by simp; omega)])
    rw [e1, e2, Fg]
    by_cases hp : (B T).take (B K).length = B K
    · rw [if_pos hp, if_pos (List.isPrefixOf_iff_prefix.2 (List.prefix_iff_eq_take.2 hp.symm))]
    · rw [if_neg hp, if_neg (fun h => hp (List.prefix_iff_eq_take.1 (List.isPrefixOf_iff_prefix.1 h)).symm)]
end Go.Proofs.YtghnljoaklmakaaDoor.X

namespace Go.Proofs.YtghnljoaklmakaaDoor.X
open Go.RowKit Go.Proofs.YtghnljoaklmakaaDoorW.PrintWords Go.Proofs.YtghnljoaklmakaaDoorL
theorem read_ev (x : ByteArray) (hd : ∀ b ∈ B x, isD b) (hl : (B x).length ≤ 6) : ∃ v o, Ev (fun k => Bq.f k x) (v, o) ∧ (0 ≤ v ∧ v ≤ 999999) ∧ ∀ u : Nat, u ≤ 999999 → B x = Lib.decDigits u → v = (u : Int) := by
  have hs := Ew x
  have start : ∀ r, Ev (fun k => Bq.j0 k x x false) r → Ev (fun k => Bq.f k x) r := by
    intro r h
    refine Ev.congr (fun k => ?_) h
    unfold Bq.f
    by_cases c : (x.size : Int) > 1
    · rw [if_pos c, if_pos (by omega)]
      have hb := bt_B x 0 (by omega)
      have hh := hd _ (List.getElem_mem (show 0 < (B x).length by omega))
      unfold isD at hh
      have : (bt x 0 == 45) = false := by
        rw [beq_eq_false_iff_ne]
        have h2 : bt x ((0 : Nat) : Int) = ((B x)[0].toNat : Int) := hb
        have h3 : bt x 0 = ((B x)[0].toNat : Int) := h2
        omega
      rw [this]
    · rw [if_neg c]
  have j0 : ∀ r, Ev (fun k => Bq.j1 k x x) r → Ev (fun k => Bq.j0 k x x false) r := fun r h => Ev.step (fun k => by simp only [Bq.j0, Bool.false_eq_true, if_false]) h
  by_cases hz : (B x).length = 0
  · refine ⟨0, false, start _ (j0 _ (Ev.step (f := fun _ => some (0, false)) (fun k => ?_) (Ev.now _))), by omega, fun u _ e => absurd (List.eq_nil_of_length_eq_zero hz) (by rw [e]; exact dd_ne u)⟩
    simp only [Bq.j1, l1In_eq, Option.bind_some]
    rw [show (decide ((1 : Int) ≤ (x.size : Int)) && decide ((x.size : Int) ≤ 6)) = false from by simp; omega]
    rfl
  · have key : ∀ (d n : Nat), n + d = (B x).length → ∃ v o, Ev (fun k => Bq.l0 k x x (val 0 ((B x).take n) : Int) (n : Int)) (v, o) ∧ (0 ≤ v ∧ v ≤ 999999) ∧ ∀ u : Nat, u ≤ 999999 → B x = Lib.decDigits u → v = (u : Int) := by
      intro d
      induction d with
      | zero =>
        intro n hn
        obtain rfl : n = (B x).length := by omega
        rw [List.take_length]
        have hv := val_lt (B x) 0 0 hd (by simp)
        have hv2 : val 0 (B x) < 10 ^ 6 := Nat.lt_of_lt_of_le hv (Nat.pow_le_pow_right (by omega) (by omega))
        have hv3 : val 0 (B x) < 1000000 := hv2
        have fin : ∀ r, Ev (fun k => (Ci.f k (val 0 (B x) : Int)).bind fun t => if t.toList = x.toList then some ((val 0 (B x) : Int), true) else some (0, false)) r → Ev (fun k => Bq.l0 k x x (val 0 (B x) : Int) ((B x).length : Int)) r := by
          intro r h
          refine Ev.step (fun k => ?_) h
          simp only [Bq.l0]
          rw [if_neg (by omega), if_neg (by omega)]
        by_cases c : (dec (val 0 (B x) : Int)).toList = x.toList
        · refine ⟨_, true, fin _ (Ev.bind (specNum_ev _ (by omega) (by omega)) (Ev.congr (fun k => if_pos c) (Ev.now _))), by omega, fun u hu e => ?_⟩
          rw [e, val_dd u u (Nat.le_refl _)]
        · refine ⟨0, false, fin _ (Ev.bind (specNum_ev _ (by omega) (by omega)) (Ev.congr (fun k => if_neg c) (Ev.now _))), by omega, fun u hu e => absurd ?_ c⟩
          rw [Fg, Fg, e, val_dd u u (Nat.le_refl _), B_decN]
      | succ d ih =>
        intro n hn
        have hl2 : n < (B x).length := by omega
        obtain ⟨v, o, he, hr⟩ := ih (n + 1) (by omega)
        refine ⟨v, o, Ev.step (fun k => ?_) he, hr⟩
        have hb := bt_B x n hl2
        have hh := hd _ (List.getElem_mem hl2)
        unfold isD at hh
        have hv := val_lt ((B x).take n) 0 0 (fun b hb => hd b (List.mem_of_mem_take hb)) (by simp)
        have hv2 : val 0 ((B x).take n) < 10 ^ 5 := Nat.lt_of_lt_of_le hv (Nat.pow_le_pow_right (by omega) (by rw [List.length_take]; omega))
        have hv3 : val 0 ((B x).take n) < 100000 := hv2
        simp only [Bq.l0]
        rw [if_pos (by omega), if_pos (by omega), if_neg (by omega), if_neg (by omega), wrap_succ (by omega), List.take_succ_eq_append_getElem hl2, val_snoc]
        have e1 : wrap64 (10 * (val 0 ((B x).take n) : Int)) = 10 * (val 0 ((B x).take n) : Int) := Eu (by omega) (by omega)
        have e2 : (bt x (n : Int) - 48) % 256 = ((B x)[n].toNat - 48 : Nat) := by omega
        have e3 : wrap64 (10 * (val 0 ((B x).take n) : Int) + (((B x)[n].toNat - 48 : Nat) : Int)) = ((val 0 ((B x).take n) * 10 + ((B x)[n].toNat - 48) : Nat) : Int) := by rw [Eu (by omega) (by omega)]; omega
        rw [e1, e2, e3]
    obtain ⟨v, o, he, hr⟩ := key (B x).length 0 (by omega)
    refine ⟨v, o, start _ (j0 _ (Ev.step (fun k => ?_) he)), hr⟩
    simp only [Bq.j1, l1In_eq, Option.bind_some]
    rw [show (decide ((1 : Int) ≤ (x.size : Int)) && decide ((x.size : Int) ≤ 6)) = true from by simp; omega, if_pos rfl]
    rfl
theorem digits_ev (T : ByteArray) (hs : T.size ≤ 1000000000) : ∃ v R, Ev (fun k => Ba.f k T) (v, R) ∧ (0 ≤ v ∧ v ≤ 999999) ∧ R.size ≤ T.size ∧
    ∀ (u : Nat) (r : List UInt8), u ≤ 999999 → B T = Lib.decDigits u ++ r → (∀ b, r.head? = some b → ¬ isD b) → v = (u : Int) ∧ R = mk r := by
  have hl := Ew T
  have stop : ∀ n : Nat, n ≤ (B T).length → n ≤ 6 → (∀ b ∈ (B T).take n, isD b) → (n = (B T).length ∨ n = 6 ∨ ∃ h : n < (B T).length, ¬ isD (B T)[n]) →
      (∀ k, Ba.l0 (k + 1) T (n : Int) = (Bq.f k (T.extract 0 n)).bind fun bt => some (bt.1, T.extract n T.size)) →
      ∃ v R, Ev (fun k => Ba.l0 k T (n : Int)) (v, R) ∧ (0 ≤ v ∧ v ≤ 999999) ∧ R.size ≤ T.size ∧ ∀ (u : Nat) (r : List UInt8), u ≤ 999999 → B T = Lib.decDigits u ++ r → (∀ b, r.head? = some b → ¬ isD b) → v = (u : Int) ∧ R = mk r := by
    intro n hn h6 hd hstop hstep
    have hB : B (T.extract 0 n) = (B T).take n := by rw [Fh]; simp
    obtain ⟨v, o, he, hr, hu⟩ := read_ev (T.extract 0 n) (by rw [hB]; exact hd) (by rw [hB, List.length_take]; omega)
    refine ⟨v, T.extract n T.size, Ev.step (f := fun k => (Bq.f k (T.extract 0 n)).bind fun bt => some (bt.1, T.extract n T.size)) hstep (Ev.bind he (Ev.now _)), hr, by rw [ByteArray.size_extract]; omega, fun u r hu6 e hh => ?_⟩
    have hlen := dd_len 6 u (by omega) (by omega)
    have hrg := dd_range u u (Nat.le_refl _)
    have hn2 : n = (Lib.decDigits u).length := by
      have ht : (B T).length = (Lib.decDigits u).length + r.length := by rw [e, List.length_append]
      rcases Nat.lt_trichotomy n (Lib.decDigits u).length with h | h | h
      · exfalso
        rcases hstop with h1 | h1 | ⟨h1, h2⟩
        · omega
        · omega
        · refine h2 ?_
          have : (B T)[n] = (Lib.decDigits u)[n] := by simp only [e]; exact List.getElem_append_left h
          rw [this]; exact hrg _ (List.getElem_mem h)
      · exact h
      · exfalso
        cases r with
        | nil => simp at ht; omega
        | cons b r' =>
          refine hh b rfl (hd b ?_)
          have hi : (Lib.decDigits u).length < ((B T).take n).length := by rw [List.length_take]; omega
          have : ((B T).take n)[(Lib.decDigits u).length] = b := by rw [List.getElem_take]; simp only [e]; simp
          rw [← this]; exact List.getElem_mem hi
    refine ⟨hu u hu6 (by rw [hB, e, hn2, List.take_left']; rfl), Gw ?_⟩
    rw [Fh, Fa, List.take_of_length_le (by simp; omega), e, hn2, List.drop_left']; rfl
  have key : ∀ (d n : Nat), n + d = 6 → n ≤ (B T).length → (∀ b ∈ (B T).take n, isD b) →
      ∃ v R, Ev (fun k => Ba.l0 k T (n : Int)) (v, R) ∧ (0 ≤ v ∧ v ≤ 999999) ∧ R.size ≤ T.size ∧ ∀ (u : Nat) (r : List UInt8), u ≤ 999999 → B T = Lib.decDigits u ++ r → (∀ b, r.head? = some b → ¬ isD b) → v = (u : Int) ∧ R = mk r := by
    intro d
    induction d with
    | zero =>
      intro n hn hle hd
      refine stop n hle (by omega) hd (.inr (.inl (by omega))) (fun k => ?_)
      simp only [Ba.l0]
      by_cases c : (n : Int) < (T.size : Int)
      · rw [if_pos c, if_neg (by omega), if_pos (by omega), if_pos (by omega)]; rfl
      · rw [if_neg c, if_pos (by omega), if_pos (by omega)]; rfl
    | succ d ih =>
      intro n hn hle hd
      by_cases c : (n : Int) < (T.size : Int)
      · have hl2 : n < (B T).length := by omega
        have hb := bt_B T n hl2
        by_cases hdig : isD (B T)[n]
        · obtain ⟨v, R, he, hr⟩ := ih (n + 1) (by omega) (by omega) (by
            intro b hb2
            rw [List.take_succ_eq_append_getElem hl2, List.mem_append] at hb2
            rcases hb2 with h | h
            · exact hd b h
            · simp only [List.mem_singleton] at h; rw [h]; exact hdig)
          unfold isD at hdig
          refine ⟨v, R, Ev.step (fun k => ?_) he, hr⟩
          simp only [Ba.l0]
          rw [if_pos c, if_pos (by omega), if_pos (by omega), if_pos (by omega), if_pos (by omega), wrap_succ (by omega)]
        · refine stop n hle (by omega) hd (.inr (.inr ⟨hl2, hdig⟩)) (fun k => ?_)
          simp only [Ba.l0]
          unfold isD at hdig
          rw [if_pos c, if_pos (by omega), if_pos (by omega)]
          by_cases c2 : bt T (n : Int) ≥ 48
          · rw [if_pos c2, if_neg (by omega), if_pos (by omega)]; rfl
          · rw [if_neg c2, if_pos (by omega)]; rfl
      · refine stop n hle (by omega) hd (.inl (by omega)) (fun k => ?_)
        simp only [Ba.l0]
        rw [if_neg c, if_pos (by omega), if_pos (by omega)]; rfl
  exact key 6 0 rfl (by omega) (by simp)
end Go.Proofs.YtghnljoaklmakaaDoor.X

namespace Go.Proofs.YtghnljoaklmakaaDoor.X
open Go.RowKit Go.Proofs.YtghnljoaklmakaaDoorW.PrintWords Go.Proofs.YtghnljoaklmakaaDoorL
def kC : List UInt8 := [67, 111, 110, 116, 97, 105, 110, 101, 114, 32]
def k1 : List UInt8 := [32, 104, 97, 115, 32, 97, 114, 114, 105, 118, 101, 100, 32, 105, 110, 32, 115, 116, 97, 99, 107, 32]
def k2 : List UInt8 := [32, 119, 97, 115, 32, 109, 111, 118, 101, 100, 32, 102, 114, 111, 109, 32, 115, 116, 97, 99, 107, 32]
def kto : List UInt8 := [32, 116, 111, 32, 115, 116, 97, 99, 107, 32]
def k3 : List UInt8 := [32, 105, 115, 32, 104, 101, 108, 100, 32, 102, 111, 114, 32]
def k4 : List UInt8 := [32, 105, 115, 32, 114, 101, 97, 100, 121, 32, 102, 111, 114, 32, 112, 105, 99, 107, 117, 112, 32, 105, 110, 32, 115, 108, 111, 116, 32]
def k5 : List UInt8 := [32, 111, 119, 101, 115, 32]
def kfor : List UInt8 := [32, 102, 111, 114, 32]
def kday : List UInt8 := [32, 100, 97, 121, 46]
def kdays : List UInt8 := [32, 100, 97, 121, 115, 46]
/-- What stands behind the Id. -/
def restL (kind a b : Int) : List UInt8 :=
  if kind = 1 then k1 ++ (B (dec a) ++ [46]) else if kind = 2 then k2 ++ (B (dec a) ++ (kto ++ (B (dec b) ++ [46])))
  else if kind = 3 then k3 ++ (B (hold a).1 ++ [46]) else if kind = 4 then k4 ++ (B (dec a) ++ [46])
  else k5 ++ (B (dec a) ++ (kfor ++ (B (dec b) ++ (if b = 1 then kday else kdays))))
theorem text_B (kind : Int) (id : ByteArray) (a b : Int) : B (Gm kind id a b) = kC ++ (B id ++ restL kind a b) := by
  have one : B (dec 1) = [49] := by rw [show (1 : Int) = ((1 : Nat) : Int) from rfl, B_decN, Lib.decDigits_one (by omega)]; rfl
  unfold Gm restL
  by_cases c1 : kind = 1
  · simp only [if_pos c1, Gl, List.append_assoc]; rfl
  · by_cases c2 : kind = 2
    · simp only [if_neg c1, if_pos c2, Gl, List.append_assoc]; rfl
    · by_cases c3 : kind = 3
      · simp only [if_neg c1, if_neg c2, if_pos c3, Gl, List.append_assoc]; rfl
      · by_cases c4 : kind = 4
        · simp only [if_neg c1, if_neg c2, if_neg c3, if_pos c4, Gl, List.append_assoc]; rfl
        · by_cases c5 : b = 1
          · subst c5; simp only [if_neg c1, if_neg c2, if_neg c3, if_neg c4, if_true, Gl, List.append_assoc, one]; rfl
          · simp only [if_neg c1, if_neg c2, if_neg c3, if_neg c4, if_neg c5, Gl, List.append_assoc]; rfl
theorem note_b {kind : Int} {id : ByteArray} {a b : Int} (h : Ez kind id a b = true) (hk : kind = 1 ∨ kind = 3 ∨ kind = 4) : b = 0 := by
  unfold Ez at h
  rcases hk with rfl | rfl | rfl <;> simp at h <;> omega
theorem hold_inj_all : ∀ i j : Fin 15, (hold ((i.val : Int) + 1)).1 = (hold ((j.val : Int) + 1)).1 → i = j := by decide +kernel
theorem hold_inj (a b : Int) (ha : 1 ≤ a ∧ a ≤ 15) (hb : 1 ≤ b ∧ b ≤ 15) (h : (hold a).1 = (hold b).1) : a = b := by
  have := hold_inj_all ⟨(a - 1).toNat, by omega⟩ ⟨(b - 1).toNat, by omega⟩
  rw [show (((a - 1).toNat : Nat) : Int) + 1 = a from by omega, show (((b - 1).toNat : Nat) : Int) + 1 = b from by omega] at this
  have := congrArg Fin.val (this h)
  simp only at this
  omega
abbrev zeroN : Int × ByteArray × Int × Int × Bool := (0, (⟨#[]⟩ : ByteArray), 0, 0, false)
/-- A note, if it is one and s is its sentence. -/
def ans (s : ByteArray) (kind : Int) (id : ByteArray) (a b : Int) : Int × ByteArray × Int × Int × Bool := if Ez kind id a b = true ∧ Gm kind id a b = s then (kind, id, a, b, true) else zeroN
theorem j2_ev (s : ByteArray) (kind : Int) (id : ByteArray) (a b : Int) : Ev (fun k => Ap.j2 k s 0 (⟨#[]⟩ : ByteArray) 0 0 kind id a b) (ans s kind id a b) := by
  refine Ev.step (f := fun k => (Ej.f k kind id a b).bind fun t => if t = true then ((Dn.f k kind id a b).bind fun t2 => if t2.toList = s.toList then some (kind, id, a, b, true) else some zeroN) else some zeroN) (fun k => by simp only [Ap.j2]) ?_
  refine Ev.bind (specNote_ev _ _ _ _) ?_
  unfold ans
  cases e : Ez kind id a b with
  | false => simp only [Bool.false_eq_true, if_false, false_and]; exact Ev.now _
  | true =>
    simp only [if_true, true_and]
    refine Ev.bind (specText_ev _ _ _ _ e) ?_
    by_cases c : Gm kind id a b = s
    · rw [if_pos c, if_pos (by rw [c])]; exact Ev.now _
    · rw [if_neg c, if_neg (fun h => c (Gw (by rw [Fg, Fg] at h; exact h)))]; exact Ev.now _
theorem holds_ev (s t id : ByteArray) : ∀ (d n : Nat) (f : Int), n + d = 16 → 1 ≤ n → ∃ f', Ev (fun k => Ap.l0 k s t (n : Int) 0 (⟨#[]⟩ : ByteArray) 0 0 3 id f 0) (ans s 3 id f' 0) ∧
    ∀ a : Int, 1 ≤ a ∧ a ≤ 15 → B t = B (hold a).1 ++ [46] → ((n : Int) ≤ a → f' = a) ∧ (a < (n : Int) → f = a → f' = a) := by
  intro d
  induction d with
  | zero =>
    intro n f hn h1
    refine ⟨f, Ev.step (fun k => ?_) (j2_ev s 3 id f 0), fun a ha e => ⟨fun h => by omega, fun _ h => h⟩⟩
    simp only [Ap.l0]
    rw [if_neg (by omega)]
  | succ d ih =>
    intro n f hn h1
    obtain ⟨eh, _, hz⟩ := hold_at (n : Int) (by omega) (by omega)
    have eh2 : Ev (fun k => Cc.f k (n : Int)) (hold (n : Int)) := ⟨6, fun k hk => mono_le (g := fun k => Cc.f k (n : Int)) (fun k => Cc.mono _ _) eh k hk⟩
    by_cases c : t.toList = ((hold (n : Int)).1 ++ (⟨#[46]⟩ : ByteArray)).toList
    · obtain ⟨f', he, hf⟩ := ih (n + 1) (n : Int) (by omega) (by omega)
      refine ⟨f', Ev.step (f := fun k => (Cc.f k (n : Int)).bind fun bt => if bt.1.size + 1 ≤ 9223372036854775807 then (if t.toList = (bt.1 ++ (⟨#[46]⟩ : ByteArray)).toList then Ap.l0 k s t ((n + 1 : Nat) : Int) 0 (⟨#[]⟩ : ByteArray) 0 0 3 id (n : Int) 0 else Ap.l0 k s t ((n + 1 : Nat) : Int) 0 (⟨#[]⟩ : ByteArray) 0 0 3 id f 0) else none) (fun k => ?_) (Ev.bind eh2 ?_), fun a ha e => ?_⟩
      · simp only [Ap.l0]; rw [if_pos (by omega), wrap_succ (by omega)]
      · exact Ev.congr (fun k => by rw [if_pos (by omega), if_pos c]) he
      · have ea : a = (n : Int) := by
          refine hold_inj a n ha ⟨by omega, by omega⟩ (Gw ?_)
          rw [Fg, Fg, Gl, e] at c
          exact List.append_cancel_right c
        have := (hf a ha e).2 (by omega) ea.symm
        exact ⟨fun _ => this, fun _ _ => this⟩
    · obtain ⟨f', he, hf⟩ := ih (n + 1) f (by omega) (by omega)
      refine ⟨f', Ev.step (f := fun k => (Cc.f k (n : Int)).bind fun bt => if bt.1.size + 1 ≤ 9223372036854775807 then (if t.toList = (bt.1 ++ (⟨#[46]⟩ : ByteArray)).toList then Ap.l0 k s t ((n + 1 : Nat) : Int) 0 (⟨#[]⟩ : ByteArray) 0 0 3 id (n : Int) 0 else Ap.l0 k s t ((n + 1 : Nat) : Int) 0 (⟨#[]⟩ : ByteArray) 0 0 3 id f 0) else none) (fun k => ?_) (Ev.bind eh2 ?_), fun a ha e => ?_⟩
      · simp only [Ap.l0]; rw [if_pos (by omega), wrap_succ (by omega)]
      · exact Ev.congr (fun k => by rw [if_pos (by omega), if_neg c]) he
      · have hne : a ≠ (n : Int) := fun h => c (by rw [Fg, Fg, Gl, e, h]; rfl)
        exact ⟨fun h => (hf a ha e).1 (by omega), fun h hfa => (hf a ha e).2 (by omega) hfa⟩
theorem head46 : ∀ b, ([46] : List UInt8).head? = some b → ¬ isD b := by intro b h; cases h; unfold isD; decide
theorem head32 (l : List UInt8) : ∀ b, ((32 : UInt8) :: l).head? = some b → ¬ isD b := by intro b h; cases h; unfold isD; decide
/-- The decimal numeral of a whole number of a note. -/
theorem B_decI (a : Int) (h : 0 ≤ a ∧ a ≤ 999999) : ∃ u : Nat, (u : Int) = a ∧ u ≤ 999999 ∧ B (dec a) = Lib.decDigits u := by
  obtain ⟨u, rfl⟩ := Int.eq_ofNat_of_zero_le h.1
  exact ⟨u, rfl, by omega, B_decN u⟩
theorem Ib (T : ByteArray) (hs : T.size ≤ 1000000000) : ∃ v R, Ev (fun k => Ba.f k T) (v, R) ∧ R.size ≤ T.size ∧
    ∀ (a : Int) (r : List UInt8), 0 ≤ a ∧ a ≤ 999999 → B T = B (dec a) ++ r → (∀ b, r.head? = some b → ¬ isD b) → v = a ∧ R = mk r := by
  obtain ⟨v, R, he, _, hz, hu⟩ := digits_ev T hs
  refine ⟨v, R, he, hz, fun a r ha e hh => ?_⟩
  obtain ⟨u, rfl, hu6, eb⟩ := B_decI a ha
  exact hu u r hu6 (by rw [e, eb]) hh
def afterB (R K : ByteArray) : ByteArray := (if (B K).isPrefixOf (B R) = true then (mk ((B R).drop (B K).length), true) else ((⟨#[]⟩ : ByteArray), false)).1
theorem after_at (R K : ByteArray) : (afterB R K).size ≤ R.size ∧ ∀ X, B R = B K ++ X → afterB R K = mk X := by
  unfold afterB
  refine ⟨?_, fun X e => ?_⟩
  · split
    · show (mk _).size ≤ _; rw [Ha, List.length_drop, Ew]; omega
    · exact Nat.zero_le _
  · rw [if_pos (by rw [e]; exact List.isPrefixOf_iff_prefix.2 (List.prefix_append _ _)), e, List.drop_left' rfl]
abbrev Fits (s : ByteArray) (kind : Int) (id : ByteArray) (a b : Int) : Prop := ∀ kind' id' a' b', Ez kind' id' a' b' = true → Gm kind' id' a' b' = s → kind = kind' ∧ id = id' ∧ a = a' ∧ b = b'
/-- Behind the Id. -/
theorem behind_ev (s x5 : ByteArray) (h8 : 8 ≤ x5.size) (hs : x5.size ≤ 1000000000) (hy : ∀ kind' id' a' b', Ez kind' id' a' b' = true → Gm kind' id' a' b' = s → B x5 = B id' ++ restL kind' a' b') :
    ∃ kind id a b, Ev (fun k => Ap.j0 k s x5 false 0 (⟨#[]⟩ : ByteArray) 0 0) (ans s kind id a b) ∧ Fits s kind id a b := by
  have hy2 : ∀ kind' id' a' b', Ez kind' id' a' b' = true → Gm kind' id' a' b' = s → B (x5.extract 8 x5.size) = restL kind' a' b' ∧ x5.extract 0 8 = id' := by
    intro kind' id' a' b' h1 h2
    have e := hy kind' id' a' b' h1 h2
    have h8' : (B id').length = 8 := by rw [Ew]; exact (Fj h1).1
    refine ⟨?_, Gw ?_⟩
    · rw [Fh, List.take_of_length_le (by rw [List.length_drop, Ew]; omega), e, List.drop_left' h8']
    · rw [Fh, e, List.drop_zero, List.take_left' h8']
  have hts : (x5.extract 8 x5.size).size ≤ 1000000000 := by rw [ByteArray.size_extract]; omega
  obtain ⟨t, ht⟩ : ∃ t, x5.extract 8 x5.size = t := ⟨_, rfl⟩
  obtain ⟨id, hid⟩ : ∃ id, x5.extract 0 8 = id := ⟨_, rfl⟩
  rw [ht] at hts
  simp only [ht, hid] at hy2
  have dsz : ∀ n, (mk ((B t).drop n)).size ≤ 1000000000 := fun n => by rw [Ha, List.length_drop, Ew]; omega
  by_cases p1 : (B (⟨#[32, 104, 97, 115, 32, 97, 114, 114, 105, 118, 101, 100, 32, 105, 110, 32, 115, 116, 97, 99, 107, 32]⟩ : ByteArray)).isPrefixOf (B t) = true
  · obtain ⟨v, R, he, _, hu⟩ := Ib (mk ((B t).drop (B (⟨#[32, 104, 97, 115, 32, 97, 114, 114, 105, 118, 101, 100, 32, 105, 110, 32, 115, 116, 97, 99, 107, 32]⟩ : ByteArray)).length)) (dsz _)
    refine ⟨1, id, v, 0, Ev.step (f := fun k => (Ba.f k (mk ((B t).drop (B (⟨#[32, 104, 97, 115, 32, 97, 114, 114, 105, 118, 101, 100, 32, 105, 110, 32, 115, 116, 97, 99, 107, 32]⟩ : ByteArray)).length))).bind fun bt => Ap.j2 k s 0 (⟨#[]⟩ : ByteArray) 0 0 1 id bt.1 0) (fun k => ?_) (Ev.bind he (j2_ev s 1 id v 0)), ?_⟩
    · simp only [Ap.j0, Bool.false_eq_true, if_false, ht, hid, Gz, Option.bind_some, if_pos p1, if_true]
      rw [if_pos (by omega), if_pos (by omega)]
    · intro kind' id' a' b' h1 h2
      obtain ⟨e, ei⟩ := hy2 kind' id' a' b' h1 h2
      obtain ⟨_, hk, ha, hb, _⟩ := Fj h1
      have kk : kind' = 1 ∨ kind' = 2 ∨ kind' = 3 ∨ kind' = 4 ∨ kind' = 5 := by omega
      rw [e] at p1
      rcases kk with rfl | rfl | rfl | rfl | rfl
      · have := hu a' [46] ha (by rw [Fa, e]; rfl) head46
        exact ⟨rfl, ei, this.1, (note_b h1 (.inl rfl)).symm⟩
      · exact absurd (show false = true from p1) (by decide)
      · exact absurd (show false = true from p1) (by decide)
      · exact absurd (show false = true from p1) (by decide)
      · exact absurd (show false = true from p1) (by decide)
  by_cases p2 : (B (⟨#[32, 119, 97, 115, 32, 109, 111, 118, 101, 100, 32, 102, 114, 111, 109, 32, 115, 116, 97, 99, 107, 32]⟩ : ByteArray)).isPrefixOf (B t) = true
  · obtain ⟨v, R, he, hR, hu⟩ := Ib (mk ((B t).drop (B (⟨#[32, 119, 97, 115, 32, 109, 111, 118, 101, 100, 32, 102, 114, 111, 109, 32, 115, 116, 97, 99, 107, 32]⟩ : ByteArray)).length)) (dsz _)
    obtain ⟨hz2, ha2⟩ := after_at R (⟨#[32, 116, 111, 32, 115, 116, 97, 99, 107, 32]⟩ : ByteArray)
    obtain ⟨v2, R2, he2, _, hu2⟩ := Ib (afterB R (⟨#[32, 116, 111, 32, 115, 116, 97, 99, 107, 32]⟩ : ByteArray)) (by have := dsz (B (⟨#[32, 119, 97, 115, 32, 109, 111, 118, 101, 100, 32, 102, 114, 111, 109, 32, 115, 116, 97, 99, 107, 32]⟩ : ByteArray)).length; omega)
    refine ⟨2, id, v, v2, Ev.step (f := fun k => (Ba.f k (mk ((B t).drop (B (⟨#[32, 119, 97, 115, 32, 109, 111, 118, 101, 100, 32, 102, 114, 111, 109, 32, 115, 116, 97, 99, 107, 32]⟩ : ByteArray)).length))).bind fun bt => (Bf.f bt.2 (⟨#[32, 116, 111, 32, 115, 116, 97, 99, 107, 32]⟩ : ByteArray)).bind fun bt2 => (Ba.f k bt2.1).bind fun bt3 => Ap.j2 k s 0 (⟨#[]⟩ : ByteArray) 0 0 2 id bt.1 bt3.1) (fun k => ?_) (Ev.bind he (Ev.congr (f := fun k => (Ba.f k (afterB R (⟨#[32, 116, 111, 32, 115, 116, 97, 99, 107, 32]⟩ : ByteArray))).bind fun bt3 => Ap.j2 k s 0 (⟨#[]⟩ : ByteArray) 0 0 2 id v bt3.1) (fun k => by simp only [Gz, Option.bind_some]; rfl) (Ev.bind he2 (j2_ev s 2 id v v2)))), ?_⟩
    · simp only [Ap.j0, Bool.false_eq_true, if_false, ht, hid, Gz, Option.bind_some, if_neg p1, if_pos p2, if_true]
      rw [if_pos (by omega), if_pos (by omega)]
    · intro kind' id' a' b' h1 h2
      obtain ⟨e, ei⟩ := hy2 kind' id' a' b' h1 h2
      obtain ⟨_, hk, ha, hb, _⟩ := Fj h1
      have kk : kind' = 1 ∨ kind' = 2 ∨ kind' = 3 ∨ kind' = 4 ∨ kind' = 5 := by omega
      rw [e] at p2
      rcases kk with rfl | rfl | rfl | rfl | rfl
      · exact absurd (show false = true from p2) (by decide)
      · have w := hu a' (kto ++ (B (dec b') ++ [46])) ha (by rw [Fa, e]; rfl) (fun b h => head32 _ b h)
        have w2 := hu2 b' [46] hb (by rw [ha2 (B (dec b') ++ [46]) (by rw [w.2, Fa]; rfl), Fa]) head46
        exact ⟨rfl, ei, w.1, w2.1⟩
      · exact absurd (show false = true from p2) (by decide)
      · exact absurd (show false = true from p2) (by decide)
      · exact absurd (show false = true from p2) (by decide)
  by_cases p3 : (B (⟨#[32, 105, 115, 32, 104, 101, 108, 100, 32, 102, 111, 114, 32]⟩ : ByteArray)).isPrefixOf (B t) = true
  · obtain ⟨f', he, hf⟩ := holds_ev s (mk ((B t).drop (B (⟨#[32, 105, 115, 32, 104, 101, 108, 100, 32, 102, 111, 114, 32]⟩ : ByteArray)).length)) id 15 1 0 rfl (by omega)
    refine ⟨3, id, f', 0, Ev.step (f := fun k => Ap.l0 k s (mk ((B t).drop (B (⟨#[32, 105, 115, 32, 104, 101, 108, 100, 32, 102, 111, 114, 32]⟩ : ByteArray)).length)) ((1 : Nat) : Int) 0 (⟨#[]⟩ : ByteArray) 0 0 3 id 0 0) (fun k => ?_) he, ?_⟩
    · simp only [Ap.j0, Bool.false_eq_true, if_false, ht, hid, Gz, Option.bind_some, if_neg p1, if_neg p2, if_pos p3, if_true]
      rw [if_pos (by omega), if_pos (by omega)]
      rfl
    · intro kind' id' a' b' h1 h2
      obtain ⟨e, ei⟩ := hy2 kind' id' a' b' h1 h2
      obtain ⟨_, hk, ha, hb, h3⟩ := Fj h1
      have kk : kind' = 1 ∨ kind' = 2 ∨ kind' = 3 ∨ kind' = 4 ∨ kind' = 5 := by omega
      rw [e] at p3
      rcases kk with rfl | rfl | rfl | rfl | rfl
      · exact absurd (show false = true from p3) (by decide)
      · exact absurd (show false = true from p3) (by decide)
      · have w := (hf a' (h3 rfl) (by rw [Fa, e]; rfl)).1 (by have := h3 rfl; omega)
        exact ⟨rfl, ei, w, (note_b h1 (.inr (.inl rfl))).symm⟩
      · exact absurd (show false = true from p3) (by decide)
      · exact absurd (show false = true from p3) (by decide)
  by_cases p4 : (B (⟨#[32, 105, 115, 32, 114, 101, 97, 100, 121, 32, 102, 111, 114, 32, 112, 105, 99, 107, 117, 112, 32, 105, 110, 32, 115, 108, 111, 116, 32]⟩ : ByteArray)).isPrefixOf (B t) = true
  · obtain ⟨v, R, he, _, hu⟩ := Ib (mk ((B t).drop (B (⟨#[32, 105, 115, 32, 114, 101, 97, 100, 121, 32, 102, 111, 114, 32, 112, 105, 99, 107, 117, 112, 32, 105, 110, 32, 115, 108, 111, 116, 32]⟩ : ByteArray)).length)) (dsz _)
    refine ⟨4, id, v, 0, Ev.step (f := fun k => (Ba.f k (mk ((B t).drop (B (⟨#[32, 105, 115, 32, 114, 101, 97, 100, 121, 32, 102, 111, 114, 32, 112, 105, 99, 107, 117, 112, 32, 105, 110, 32, 115, 108, 111, 116, 32]⟩ : ByteArray)).length))).bind fun bt => Ap.j2 k s 0 (⟨#[]⟩ : ByteArray) 0 0 4 id bt.1 0) (fun k => ?_) (Ev.bind he (j2_ev s 4 id v 0)), ?_⟩
    · simp only [Ap.j0, Bool.false_eq_true, if_false, ht, hid, Gz, Option.bind_some, if_neg p1, if_neg p2, if_neg p3, if_pos p4, if_true]
      rw [if_pos (by omega), if_pos (by omega)]
    · intro kind' id' a' b' h1 h2
      obtain ⟨e, ei⟩ := hy2 kind' id' a' b' h1 h2
      obtain ⟨_, hk, ha, hb, _⟩ := Fj h1
      have kk : kind' = 1 ∨ kind' = 2 ∨ kind' = 3 ∨ kind' = 4 ∨ kind' = 5 := by omega
      rw [e] at p4
      rcases kk with rfl | rfl | rfl | rfl | rfl
      · exact absurd (show false = true from p4) (by decide)
      · exact absurd (show false = true from p4) (by decide)
      · exact absurd (show false = true from p4) (by decide)
      · have := hu a' [46] ha (by rw [Fa, e]; rfl) head46
        exact ⟨rfl, ei, this.1, (note_b h1 (.inr (.inr rfl))).symm⟩
      · exact absurd (show false = true from p4) (by decide)
  by_cases p5 : (B (⟨#[32, 111, 119, 101, 115, 32]⟩ : ByteArray)).isPrefixOf (B t) = true
  · obtain ⟨v, R, he, hR, hu⟩ := Ib (mk ((B t).drop (B (⟨#[32, 111, 119, 101, 115, 32]⟩ : ByteArray)).length)) (dsz _)
    obtain ⟨hz2, ha2⟩ := after_at R (⟨#[32, 102, 111, 114, 32]⟩ : ByteArray)
    obtain ⟨v2, R2, he2, _, hu2⟩ := Ib (afterB R (⟨#[32, 102, 111, 114, 32]⟩ : ByteArray)) (by have := dsz (B (⟨#[32, 111, 119, 101, 115, 32]⟩ : ByteArray)).length; omega)
    refine ⟨5, id, v, v2, Ev.step (f := fun k => (Ba.f k (mk ((B t).drop (B (⟨#[32, 111, 119, 101, 115, 32]⟩ : ByteArray)).length))).bind fun bt => (Bf.f bt.2 (⟨#[32, 102, 111, 114, 32]⟩ : ByteArray)).bind fun bt2 => (Ba.f k bt2.1).bind fun bt3 => Ap.j2 k s 0 (⟨#[]⟩ : ByteArray) 0 0 5 id bt.1 bt3.1) (fun k => ?_) (Ev.bind he (Ev.congr (f := fun k => (Ba.f k (afterB R (⟨#[32, 102, 111, 114, 32]⟩ : ByteArray))).bind fun bt3 => Ap.j2 k s 0 (⟨#[]⟩ : ByteArray) 0 0 5 id v bt3.1) (fun k => by simp only [Gz, Option.bind_some]; rfl) (Ev.bind he2 (j2_ev s 5 id v v2)))), ?_⟩
    · simp only [Ap.j0, Bool.false_eq_true, if_false, ht, hid, Gz, Option.bind_some, if_neg p1, if_neg p2, if_neg p3, if_neg p4, if_pos p5, if_true]
      rw [if_pos (by omega), if_pos (by omega)]
    · intro kind' id' a' b' h1 h2
      obtain ⟨e, ei⟩ := hy2 kind' id' a' b' h1 h2
      obtain ⟨_, hk, ha, hb, _⟩ := Fj h1
      have kk : kind' = 1 ∨ kind' = 2 ∨ kind' = 3 ∨ kind' = 4 ∨ kind' = 5 := by omega
      rw [e] at p5
      rcases kk with rfl | rfl | rfl | rfl | rfl
      · exact absurd (show false = true from p5) (by decide)
      · exact absurd (show false = true from p5) (by decide)
      · exact absurd (show false = true from p5) (by decide)
      · exact absurd (show false = true from p5) (by decide)
      · have w := hu a' (kfor ++ (B (dec b') ++ (if b' = 1 then kday else kdays))) ha (by rw [Fa, e]; rfl) (fun b h => head32 _ b h)
        have w2 := hu2 b' (if b' = 1 then kday else kdays) hb (by rw [ha2 (B (dec b') ++ (if b' = 1 then kday else kdays)) (by rw [w.2, Fa]; rfl), Fa]) (by
          split
          · exact fun b h => head32 _ b h
          · exact fun b h => head32 _ b h)
        exact ⟨rfl, ei, w.1, w2.1⟩
  refine ⟨0, id, 0, 0, Ev.step (fun k => ?_) (j2_ev s 0 id 0 0), ?_⟩
  · simp only [Ap.j0, Bool.false_eq_true, if_false, ht, hid, Gz, Option.bind_some, if_neg p1, if_neg p2, if_neg p3, if_neg p4, if_neg p5, if_true]
    rw [if_pos (by omega), if_pos (by omega)]
  · intro kind' id' a' b' h1 h2
    obtain ⟨e, ei⟩ := hy2 kind' id' a' b' h1 h2
    obtain ⟨_, hk, ha, hb, _⟩ := Fj h1
    have kk : kind' = 1 ∨ kind' = 2 ∨ kind' = 3 ∨ kind' = 4 ∨ kind' = 5 := by omega
    rcases kk with rfl | rfl | rfl | rfl | rfl
    · exact absurd (by rw [e]; rfl) p1
    · exact absurd (by rw [e]; rfl) p2
    · exact absurd (by rw [e]; rfl) p3
    · exact absurd (by rw [e]; rfl) p4
    · exact absurd (by rw [e]; rfl) p5
theorem specParse_ev (s : ByteArray) (hs : s.size ≤ 1048576) : ∃ kind id a b, Ev (fun k => Ap.f k s) (ans s kind id a b) ∧ Fits s kind id a b := by
  have no : (∀ kind' id' a' b', Ez kind' id' a' b' = true → Gm kind' id' a' b' ≠ s) → Ev (fun k => Ap.f k s) zeroN → ∃ kind id a b, Ev (fun k => Ap.f k s) (ans s kind id a b) ∧ Fits s kind id a b := by
    intro h he
    refine ⟨0, ⟨#[]⟩, 0, 0, ?_, fun k' i' a' b' h1 h2 => absurd h2 (h k' i' a' b' h1)⟩
    unfold ans
    rw [if_neg (fun hh => h _ _ _ _ hh.1 hh.2)]
    exact he
  have bad : ∀ x, Ev (fun k => Ap.j0 k s x true 0 (⟨#[]⟩ : ByteArray) 0 0) zeroN := fun x => Ev.step (f := fun _ => some _) (fun k => by simp only [Ap.j0, if_true]) (Ev.now _)
  have all : ∀ kind' id' a' b', Ez kind' id' a' b' = true → Gm kind' id' a' b' = s → B s = B (⟨#[67, 111, 110, 116, 97, 105, 110, 101, 114, 32]⟩ : ByteArray) ++ (B id' ++ restL kind' a' b') := by
    intro kind' id' a' b' h1 h2
    rw [← h2, text_B]; rfl
  by_cases p0 : (B (⟨#[67, 111, 110, 116, 97, 105, 110, 101, 114, 32]⟩ : ByteArray)).isPrefixOf (B s) = true
  · by_cases c : (mk ((B s).drop (B (⟨#[67, 111, 110, 116, 97, 105, 110, 101, 114, 32]⟩ : ByteArray)).length)).size < 8
    · refine no (fun k' i' a' b' h1 h2 => ?_) (Ev.congr (fun k => ?_) (bad (mk ((B s).drop (B (⟨#[67, 111, 110, 116, 97, 105, 110, 101, 114, 32]⟩ : ByteArray)).length))))
      · have e := all k' i' a' b' h1 h2
        have h8 : (B i').length = 8 := by rw [Ew]; exact (Fj h1).1
        rw [Ha, e, List.drop_left' rfl, List.length_append] at c
        omega
      · unfold Ap.f
        simp only [Gz, Option.bind_some, if_pos p0, if_true, decide_eq_true (show ((mk ((B s).drop (B (⟨#[67, 111, 110, 116, 97, 105, 110, 101, 114, 32]⟩ : ByteArray)).length)).size : Int) < 8 by omega)]
    · obtain ⟨kind, id, a, b, he, hf⟩ := behind_ev s (mk ((B s).drop (B (⟨#[67, 111, 110, 116, 97, 105, 110, 101, 114, 32]⟩ : ByteArray)).length)) (by omega) (by rw [Ha, List.length_drop, Ew]; omega) (fun k' i' a' b' h1 h2 => by rw [Fa, all k' i' a' b' h1 h2, List.drop_left' rfl])
      refine ⟨kind, id, a, b, Ev.congr (fun k => ?_) he, hf⟩
      unfold Ap.f
      simp only [Gz, Option.bind_some, if_pos p0, if_true, decide_eq_false (show ¬ ((mk ((B s).drop (B (⟨#[67, 111, 110, 116, 97, 105, 110, 101, 114, 32]⟩ : ByteArray)).length)).size : Int) < 8 by omega)]
  · refine no (fun k' i' a' b' h1 h2 => p0 ?_) (Ev.congr (fun k => ?_) (bad (⟨#[]⟩ : ByteArray)))
    · rw [all k' i' a' b' h1 h2]
      exact List.isPrefixOf_iff_prefix.2 (List.prefix_append _ _)
    · unfold Ap.f
      simp only [Gz, Option.bind_some, if_neg p0, Bool.false_eq_true, if_false]
end Go.Proofs.YtghnljoaklmakaaDoor.X

namespace Go.Proofs.YtghnljoaklmakaaDoor.X
open Go.RowKit Go.Proofs.YtghnljoaklmakaaDoorW.PrintWords Go.Proofs.YtghnljoaklmakaaDoorL
abbrev sepP : Nat → Bool := clo_53
/-- The words; cur: what has been read of the word that is open. -/
def wd : List UInt8 → List UInt8 → List (List UInt8)
  | [], cur => if cur = [] then [] else [cur]
  | b :: l, cur => if sepP b.toNat = true then (if cur = [] then wd l [] else cur :: wd l []) else wd l (cur ++ [b])
def opened (s : ByteArray) (st : Option Nat) (pos : Nat) : List UInt8 := match st with | none => [] | some a => B (s.extract a pos)
theorem cut_ne (s : ByteArray) (a pos : Nat) (h : a < pos) (hp : pos ≤ s.size) : B (s.extract a pos) ≠ [] := by
  intro e
  have := congrArg List.length e
  rw [Fh, List.length_take, List.length_drop, Ew, List.length_nil] at this
  omega
theorem cut_grow (s : ByteArray) (a pos : Nat) (h : a ≤ pos) (hp : pos < (B s).length) : B (s.extract a (pos + 1)) = B (s.extract a pos) ++ [(B s)[pos]] := by
  rw [Fh, Fh, show pos + 1 - a = (pos - a) + 1 from by omega, List.take_succ_eq_append_getElem (by rw [List.length_drop]; omega), List.getElem_drop]
  congr 2
  congr 1
  omega
theorem wd_spans (s : ByteArray) (ha : ∀ b ∈ B s, b.toNat < 128) : ∀ (f pos : Nat) (st : Option Nat) (acc : List (Nat × Nat)), s.size ≤ pos + f → pos ≤ s.size → (∀ a, st = some a → a < pos) →
    (Lib.closeSpans s (Lib.spansFromP sepP s f pos st acc)).map (fun x => B (s.extract x.1 x.2)) = acc.map (fun x => B (s.extract x.1 x.2)) ++ wd ((B s).drop pos) (opened s st pos) := by
  have fin : ∀ (st : Option Nat) (acc : List (Nat × Nat)), (∀ a, st = some a → a < s.size) → (Lib.closeSpans s (acc, st)).map (fun x => B (s.extract x.1 x.2)) = acc.map (fun x => B (s.extract x.1 x.2)) ++ wd ((B s).drop s.size) (opened s st s.size) := by
    intro st acc hst
    rw [← Ew s, List.drop_length, Ew]
    cases st with
    | none => simp [Lib.closeSpans, opened, wd]
    | some a =>
      have := cut_ne s a s.size (hst a rfl) (Nat.le_refl _)
      simp [Lib.closeSpans, opened, wd, this]
  intro f
  induction f with
  | zero =>
    intro pos st acc h hp hst
    obtain rfl : pos = s.size := by omega
    exact fin st acc hst
  | succ f ih =>
    intro pos st acc h hp hst
    by_cases hlt : pos < s.size
    · have hl : pos < (B s).length := by rw [Ew]; exact hlt
      have hd : (B s).drop pos = (B s)[pos] :: (B s).drop (pos + 1) := List.drop_eq_getElem_cons hl
      have hdec : Utf8.decode s pos = ((B s)[pos].toNat, 1) := by
        rw [← Lib.decodeL_drop]
        show Lib.decodeL ((B s).drop pos) = _
        rw [hd]
        exact Lib.decodeL_ascii _ _ (ha _ (List.getElem_mem hl))
      rw [hd]
      simp only [Lib.spansFromP, if_pos hlt, hdec, wd]
      cases hs : sepP (B s)[pos].toNat with
      | true =>
        simp only [if_true]
        cases st with
        | none =>
          simp only [opened, if_true]
          exact ih (pos + 1) none acc (by omega) (by omega) (fun a h => by cases h)
        | some a =>
          have hn := cut_ne s a pos (hst a rfl) hp
          have := ih (pos + 1) none (acc ++ [(a, pos)]) (by omega) (by omega) (fun a h => by cases h)
          rw [this]
          simp [opened, hn]
      | false =>
        simp only [Bool.false_eq_true, if_false]
        cases st with
        | none =>
          have := ih (pos + 1) (some pos) acc (by omega) (by omega) (fun a h => by cases h; omega)
          rw [this]
          simp only [opened]
          rw [cut_grow s pos pos (Nat.le_refl _) hl]
          congr 3
          rw [Fh]; simp
        | some a =>
          have := ih (pos + 1) (some a) acc (by omega) (by omega) (fun b h => by cases h; have := hst a rfl; omega)
          rw [this]
          simp only [opened]
          rw [cut_grow s a pos (Nat.le_of_lt (hst a rfl)) hl]
    · obtain rfl : pos = s.size := by omega
      rw [Lib.spansFromP_end _ _ _ _ _ _ hlt]
      exact fin st acc hst
theorem fields_wd (s : ByteArray) (ha : ∀ b ∈ B s, b.toNat < 128) : Lib.goFieldsP sepP s = (wd (B s) []).map mk := by
  have := wd_spans s ha s.size 0 none [] (by omega) (by omega) (fun a h => by cases h)
  have e : (Lib.goFieldsP sepP s).map B = wd (B s) [] := by
    unfold Lib.goFieldsP Lib.spansOfP
    rw [List.map_map]
    exact this
  rw [← e, List.map_map]
  conv => lhs; rw [← List.map_id (Lib.goFieldsP sepP s)]
  exact List.map_congr_left (fun x _ => (mk_of_B x).symm)
/-- A word that ends at a separator. -/
theorem wd_word (w l cur : List UInt8) (c : UInt8) (hw : ∀ b ∈ w, sepP b.toNat = false) (hc : sepP c.toNat = true) (hn : cur ++ w ≠ []) : wd (w ++ c :: l) cur = (cur ++ w) :: wd l [] := by
  induction w generalizing cur with
  | nil => simp only [List.nil_append, wd, hc, if_true]; rw [List.append_nil] at hn ⊢; rw [if_neg hn]
  | cons b w ih =>
    simp only [List.cons_append, wd, hw b (by simp), Bool.false_eq_true, if_false]
    rw [ih (cur ++ [b]) (fun x hx => hw x (by simp [hx])) (by simp)]
    simp
end Go.Proofs.YtghnljoaklmakaaDoor.X

namespace Go.Proofs.YtghnljoaklmakaaDoor.X
open Go.RowKit Go.Proofs.YtghnljoaklmakaaDoorW.PrintWords Go.Proofs.YtghnljoaklmakaaDoorL
theorem cutPrefix_eq (T K : ByteArray) : strings_CutPrefix.f T K = some (if (B K).isPrefixOf (B T) = true then (mk ((B T).drop (B K).length), true) else (T, false)) := by
  have ht := Ew T
  have hk := Ew K
  have e1 : (T.extract 0 ((K.size : Int) : Int).toNat).toList = (B T).take (B K).length := by rw [Fg, Fh, hk]; simp
  have e2 : T.extract ((K.size : Int) : Int).toNat T.size = mk ((B T).drop (B K).length) := Gw (by rw [Fh, Fa, hk, Int.toNat_natCast, List.take_of_length_le (by simp; omega)])
  unfold strings_CutPrefix.f stringslite_CutPrefix.f stringslite_HasPrefix.f
  by_cases c : (T.size : Int) ≥ (K.size : Int)
  · rw [if_pos c, if_pos (by omega), if_pos (by omega)]
    simp only [Option.bind_some, e1, e2, Fg]
    by_cases hp : (B T).take (B K).length = B K
    · rw [if_pos (by simpa using hp), if_pos (by omega), if_pos (by omega), if_pos (List.isPrefixOf_iff_prefix.2 (List.prefix_iff_eq_take.2 hp.symm))]; rfl
    · rw [if_neg (by simpa using hp), if_neg (fun h => hp (List.prefix_iff_eq_take.1 (List.isPrefixOf_iff_prefix.1 h)).symm)]; rfl
  · rw [if_neg c]
    simp only [Option.bind_some, Bool.false_eq_true, if_false]
    rw [if_neg]
    intro hp
    have := (List.isPrefixOf_iff_prefix.1 hp).length_le
    omega
theorem rdB (l : List ByteArray) (n : Nat) (h : n < l.length) : rdOf ByteArray.empty l (n : Int) = l[n] := by simp [rdOf, List.getD_eq_getElem?_getD, List.getElem?_eq_getElem h]
def parseW (w : ByteArray) : Option Int := match F9.f w with | some (v, true) => some v | _ => none
def nums (t : ByteArray) : List Int := (Lib.goFieldsP sepP t).filterMap parseW ++ [0, 0]
theorem spans_len (s : ByteArray) : ∀ (f pos : Nat) (st : Option Nat) (acc : List (Nat × Nat)), (Lib.spansFromP sepP s f pos st acc).1.length ≤ acc.length + f := by
  intro f
  induction f with
  | zero => intro pos st acc; simp [Lib.spansFromP]
  | succ f ih =>
    intro pos st acc
    unfold Lib.spansFromP
    by_cases c : pos < s.size
    · rw [if_pos c]
      by_cases d : sepP (Utf8.decode s pos).1 = true
      · rw [if_pos d]
        cases st with
        | none => exact Nat.le_trans (ih _ _ _) (by omega)
        | some a => exact Nat.le_trans (ih _ _ _) (by simp; omega)
      · rw [if_neg d]
        cases st with
        | none => exact Nat.le_trans (ih _ _ _) (by omega)
        | some a => exact Nat.le_trans (ih _ _ _) (by omega)
    · rw [if_neg c]; simp
theorem fields_len (s : ByteArray) : (Lib.goFieldsP sepP s).length ≤ s.size + 1 := by
  unfold Lib.goFieldsP Lib.spansOfP Lib.closeSpans
  have := spans_len s s.size 0 none []
  rw [List.length_map]
  simp only [List.length_nil, Nat.zero_add] at this
  split
  · rw [List.length_append]; simp; omega
  · omega
theorem fields_piece (s w : ByteArray) (h : w ∈ Lib.goFieldsP sepP s) : w.size ≤ s.size := by
  unfold Lib.goFieldsP at h
  obtain ⟨x, _, rfl⟩ := List.mem_map.1 h
  rw [ByteArray.size_extract]; omega
theorem numbersIn_ev (t : ByteArray) (ht : t.size ≤ 1048576) : Ev (fun k => Dj.f k t) (nums t) := by
  have hl := fields_len t
  have hp := fields_piece t
  have key : ∀ (d n : Nat), n + d = (Lib.goFieldsP sepP t).length → Ev (fun k => Dj.l0 k (((Lib.goFieldsP sepP t).take n).filterMap parseW) (Lib.goFieldsP sepP t) ((Lib.goFieldsP sepP t).length : Int) (n : Int)) (nums t) := by
    intro d
    induction d with
    | zero =>
      intro n hn
      obtain rfl : n = (Lib.goFieldsP sepP t).length := by omega
      have hf : ((Lib.goFieldsP sepP t).filterMap parseW).length ≤ (Lib.goFieldsP sepP t).length := List.length_filterMap_le _ _
      refine Ev.step (f := fun _ => some _) (fun k => ?_) (Ev.now _)
      simp only [Dj.l0]
      rw [if_neg (by omega), List.take_length]
      simp only [Option.bind_some]
      rw [if_pos (by simp; omega)]
      rfl
    | succ d ih =>
      intro n hn
      have hn2 : n < (Lib.goFieldsP sepP t).length := by omega
      have hf : (((Lib.goFieldsP sepP t).take n).filterMap parseW).length ≤ n := Nat.le_trans (List.length_filterMap_le _ _) (by rw [List.length_take]; omega)
      obtain ⟨v, o, hv⟩ := parseInt_total (Lib.goFieldsP sepP t)[n] (by have := hp _ (List.getElem_mem hn2); omega)
      have ih := ih (n + 1) (by omega)
      rw [List.take_succ_eq_append_getElem hn2, List.filterMap_append] at ih
      refine Ev.step (fun k => ?_) ih
      simp only [Dj.l0]
      rw [if_pos (by omega), if_pos (by omega), if_pos (by omega), rdB _ n hn2, hv, wrap_succ (by omega)]
      simp only [Option.bind_some]
      cases o with
      | true =>
        have e : parseW (Lib.goFieldsP sepP t)[n] = some v := by unfold parseW; rw [hv]
        rw [if_pos rfl, if_pos (by omega)]
        simp [e]
      | false =>
        have e : parseW (Lib.goFieldsP sepP t)[n] = none := by unfold parseW; rw [hv]
        rw [if_neg (by decide)]
        simp [e]
  refine Ev.congr (fun k => ?_) (key (Lib.goFieldsP sepP t).length 0 (by omega))
  unfold Dj.f strings_FieldsFunc.f
  rw [if_pos (by omega), Option.bind_some]
  rfl
theorem parseW_dd (u : Nat) (h : u ≤ 999999) : parseW (mk (Lib.decDigits u)) = some (u : Int) := by unfold parseW; rw [parseInt_dd u h]
theorem He (a : Int) (h : 0 ≤ a ∧ a ≤ 999999) : parseW (mk (B (dec a))) = some a := by
  obtain ⟨u, rfl, hu, e⟩ := B_decI a h
  rw [e, parseW_dd u hu]
theorem no_words : ([[104, 97, 115], [97, 114, 114, 105, 118, 101, 100], [105, 110], [115, 116, 97, 99, 107], [119, 97, 115], [109, 111, 118, 101, 100], [102, 114, 111, 109], [116, 111], [105, 115], [114, 101, 97, 100, 121], [102, 111, 114], [112, 105, 99, 107, 117, 112], [115, 108, 111, 116], [111, 119, 101, 115], [100, 97, 121], [100, 97, 121, 115]] : List (List UInt8)).all (fun w => decide (parseW (mk w) = none)) = true := by decide +kernel
theorem no_word {w : List UInt8} (h : w ∈ ([[104, 97, 115], [97, 114, 114, 105, 118, 101, 100], [105, 110], [115, 116, 97, 99, 107], [119, 97, 115], [109, 111, 118, 101, 100], [102, 114, 111, 109], [116, 111], [105, 115], [114, 101, 97, 100, 121], [102, 111, 114], [112, 105, 99, 107, 117, 112], [115, 108, 111, 116], [111, 119, 101, 115], [100, 97, 121], [100, 97, 121, 115]] : List (List UInt8))) : parseW (mk w) = none := of_decide_eq_true (List.all_eq_true.1 no_words w h)
theorem dec_plain (a : Int) (h : 0 ≤ a ∧ a ≤ 999999) : ∀ b ∈ B (dec a), isD b := by
  obtain ⟨u, rfl, hu, e⟩ := B_decI a h
  rw [e]; exact dd_range u u (Nat.le_refl _)
theorem dec_ne (a : Int) (h : 0 ≤ a ∧ a ≤ 999999) : B (dec a) ≠ [] := by
  obtain ⟨u, rfl, hu, e⟩ := B_decI a h
  rw [e]; exact dd_ne u
theorem isD_sep (b : UInt8) (h : isD b) : sepP b.toNat = false := by
  unfold isD at h
  show (b.toNat == 32 || b.toNat == 46) = false
  simp; omega
theorem wd_dec (a : Int) (h : 0 ≤ a ∧ a ≤ 999999) (c : UInt8) (l : List UInt8) (hc : sepP c.toNat = true) : wd (B (dec a) ++ c :: l) [] = B (dec a) :: wd l [] :=
  wd_word (B (dec a)) l [] c (fun b hb => isD_sep b (dec_plain a h b hb)) hc (dec_ne a h)
/-- The numbers in what stands behind the Id. -/
theorem nums_rest (t : ByteArray) (kind : Int) (id : ByteArray) (a b : Int) (h : Ez kind id a b = true) (hk3 : kind ≠ 3) (ht : B t = restL kind a b) : ∃ tl, nums t = a :: ((if kind = 2 ∨ kind = 5 then [b] else []) ++ (0 :: 0 :: tl)) := by
  obtain ⟨_, hk, ha, hb, _⟩ := Fj h
  have da : ∀ x ∈ B (dec a), x.toNat < 128 := fun x hx => by have := dec_plain a ha x hx; unfold isD at this; omega
  have db : ∀ x ∈ B (dec b), x.toNat < 128 := fun x hx => by have := dec_plain b hb x hx; unfold isD at this; omega
  have q46 : ∀ x ∈ ([46] : List UInt8), x.toNat < 128 := by decide
  have app : ∀ {l m : List UInt8}, (∀ x ∈ l, x.toNat < 128) → (∀ x ∈ m, x.toNat < 128) → ∀ x ∈ l ++ m, x.toNat < 128 := fun h1 h2 x hx => (List.mem_append.1 hx).elim (h1 x) (h2 x)
  have fin : ∀ ws : List (List UInt8), (∀ x ∈ restL kind a b, x.toNat < 128) → wd (restL kind a b) [] = ws → nums t = (ws.map mk).filterMap parseW ++ [0, 0] := by
    intro ws h1 h2
    unfold nums
    rw [fields_wd t (by rw [ht]; exact h1), ht, h2]
  have kk : kind = 1 ∨ kind = 2 ∨ kind = 4 ∨ kind = 5 := by omega
  rcases kk with rfl | rfl | rfl | rfl
  · refine ⟨[], ?_⟩
    rw [fin [[104, 97, 115], [97, 114, 114, 105, 118, 101, 100], [105, 110], [115, 116, 97, 99, 107], B (dec a)] (app (by decide : ∀ x ∈ k1, x.toNat < 128) (app da q46)) (by
      show [104, 97, 115] :: [97, 114, 114, 105, 118, 101, 100] :: [105, 110] :: [115, 116, 97, 99, 107] :: wd (B (dec a) ++ 46 :: []) [] = _
      rw [wd_dec a ha 46 [] (by decide)]; rfl)]
    simp only [List.map_cons, List.map_nil, List.filterMap_cons, List.filterMap_nil, no_word (show [104, 97, 115] ∈ _ by decide), no_word (show [97, 114, 114, 105, 118, 101, 100] ∈ _ by decide), no_word (show [105, 110] ∈ _ by decide), no_word (show [115, 116, 97, 99, 107] ∈ _ by decide), He a ha]
    rfl
  · refine ⟨[], ?_⟩
    rw [fin [[119, 97, 115], [109, 111, 118, 101, 100], [102, 114, 111, 109], [115, 116, 97, 99, 107], B (dec a), [116, 111], [115, 116, 97, 99, 107], B (dec b)] (app (by decide : ∀ x ∈ k2, x.toNat < 128) (app da (app (by decide : ∀ x ∈ kto, x.toNat < 128) (app db q46)))) (by
      show [119, 97, 115] :: [109, 111, 118, 101, 100] :: [102, 114, 111, 109] :: [115, 116, 97, 99, 107] :: wd (B (dec a) ++ 32 :: ([116, 111, 32, 115, 116, 97, 99, 107, 32] ++ (B (dec b) ++ [46]))) [] = _
      rw [wd_dec a ha 32 _ (by decide)]
      show [119, 97, 115] :: [109, 111, 118, 101, 100] :: [102, 114, 111, 109] :: [115, 116, 97, 99, 107] :: B (dec a) :: [116, 111] :: [115, 116, 97, 99, 107] :: wd (B (dec b) ++ 46 :: []) [] = _
      rw [wd_dec b hb 46 [] (by decide)]; rfl)]
    simp only [List.map_cons, List.map_nil, List.filterMap_cons, List.filterMap_nil, no_word (show [119, 97, 115] ∈ _ by decide), no_word (show [109, 111, 118, 101, 100] ∈ _ by decide), no_word (show [102, 114, 111, 109] ∈ _ by decide), no_word (show [115, 116, 97, 99, 107] ∈ _ by decide), no_word (show [116, 111] ∈ _ by decide), He a ha, He b hb]
    rfl
  · refine ⟨[], ?_⟩
    rw [fin [[105, 115], [114, 101, 97, 100, 121], [102, 111, 114], [112, 105, 99, 107, 117, 112], [105, 110], [115, 108, 111, 116], B (dec a)] (app (by decide : ∀ x ∈ k4, x.toNat < 128) (app da q46)) (by
      show [105, 115] :: [114, 101, 97, 100, 121] :: [102, 111, 114] :: [112, 105, 99, 107, 117, 112] :: [105, 110] :: [115, 108, 111, 116] :: wd (B (dec a) ++ 46 :: []) [] = _
      rw [wd_dec a ha 46 [] (by decide)]; rfl)]
    simp only [List.map_cons, List.map_nil, List.filterMap_cons, List.filterMap_nil, no_word (show [105, 115] ∈ _ by decide), no_word (show [114, 101, 97, 100, 121] ∈ _ by decide), no_word (show [102, 111, 114] ∈ _ by decide), no_word (show [112, 105, 99, 107, 117, 112] ∈ _ by decide), no_word (show [105, 110] ∈ _ by decide), no_word (show [115, 108, 111, 116] ∈ _ by decide), He a ha]
    rfl
  · refine ⟨[], ?_⟩
    by_cases c : b = 1
    · rw [fin [[111, 119, 101, 115], B (dec a), [102, 111, 114], B (dec b), [100, 97, 121]] (by
        show ∀ x ∈ k5 ++ (B (dec a) ++ (kfor ++ (B (dec b) ++ (if b = 1 then kday else kdays)))), x.toNat < 128
        rw [if_pos c]
        exact app (by decide : ∀ x ∈ k5, x.toNat < 128) (app da (app (by decide : ∀ x ∈ kfor, x.toNat < 128) (app db (by decide : ∀ x ∈ kday, x.toNat < 128))))) (by
        show wd (k5 ++ (B (dec a) ++ (kfor ++ (B (dec b) ++ (if b = 1 then kday else kdays))))) [] = _
        rw [if_pos c]
        show [111, 119, 101, 115] :: wd (B (dec a) ++ 32 :: ([102, 111, 114, 32] ++ (B (dec b) ++ kday))) [] = _
        rw [wd_dec a ha 32 _ (by decide)]
        show [111, 119, 101, 115] :: B (dec a) :: [102, 111, 114] :: wd (B (dec b) ++ 32 :: [100, 97, 121, 46]) [] = _
        rw [wd_dec b hb 32 _ (by decide)]; rfl)]
      simp only [List.map_cons, List.map_nil, List.filterMap_cons, List.filterMap_nil, no_word (show [111, 119, 101, 115] ∈ _ by decide), no_word (show [102, 111, 114] ∈ _ by decide), no_word (show [100, 97, 121] ∈ _ by decide), He a ha, He b hb]
      rfl
    · rw [fin [[111, 119, 101, 115], B (dec a), [102, 111, 114], B (dec b), [100, 97, 121, 115]] (by
        show ∀ x ∈ k5 ++ (B (dec a) ++ (kfor ++ (B (dec b) ++ (if b = 1 then kday else kdays)))), x.toNat < 128
        rw [if_neg c]
        exact app (by decide : ∀ x ∈ k5, x.toNat < 128) (app da (app (by decide : ∀ x ∈ kfor, x.toNat < 128) (app db (by decide : ∀ x ∈ kdays, x.toNat < 128))))) (by
        show wd (k5 ++ (B (dec a) ++ (kfor ++ (B (dec b) ++ (if b = 1 then kday else kdays))))) [] = _
        rw [if_neg c]
        show [111, 119, 101, 115] :: wd (B (dec a) ++ 32 :: ([102, 111, 114, 32] ++ (B (dec b) ++ kdays))) [] = _
        rw [wd_dec a ha 32 _ (by decide)]
        show [111, 119, 101, 115] :: B (dec a) :: [102, 111, 114] :: wd (B (dec b) ++ 32 :: [100, 97, 121, 115, 46]) [] = _
        rw [wd_dec b hb 32 _ (by decide)]; rfl)]
      simp only [List.map_cons, List.map_nil, List.filterMap_cons, List.filterMap_nil, no_word (show [111, 119, 101, 115] ∈ _ by decide), no_word (show [102, 111, 114] ∈ _ by decide), no_word (show [100, 97, 121, 115] ∈ _ by decide), He a ha, He b hb]
      rfl
end Go.Proofs.YtghnljoaklmakaaDoor.X

namespace Go.Proofs.YtghnljoaklmakaaDoor.X
open Go.RowKit Go.Proofs.YtghnljoaklmakaaDoorW.PrintWords Go.Proofs.YtghnljoaklmakaaDoorL
/-- Is it the note of the sentence s about id? -/
def isOne (s id : ByteArray) (c : Note) : Bool := Ez c.f0 id c.f2 c.f3 && decide (Gm c.f0 id c.f2 c.f3 = s)
def found (s id : ByteArray) (o : Option Note) : Int × ByteArray × Int × Int × Bool := match o with | some c => (c.f0, id, c.f2, c.f3, true) | none => zeroN
theorem search_ev (s x4 : ByteArray) (h8 : 8 ≤ x4.size) (C : List Note) (hC : C.length ≤ 1000) : Ev (fun k => Bc.l1 k s x4 C (C.length : Int) 0) (found s (x4.extract 0 8) (C.find? (isOne s (x4.extract 0 8)))) := by
  have key : ∀ (d n : Nat), n + d = C.length → Ev (fun k => Bc.l1 k s x4 C (C.length : Int) (n : Int)) (found s (x4.extract 0 8) ((C.drop n).find? (isOne s (x4.extract 0 8)))) := by
    intro d
    induction d with
    | zero =>
      intro n hn
      obtain rfl : n = C.length := by omega
      rw [List.drop_length]
      refine Ev.step (f := fun _ => some _) (fun k => ?_) (Ev.now _)
      simp only [Bc.l1]
      rw [if_neg (by omega)]
      rfl
    | succ d ih =>
      intro n hn
      have hn2 : n < C.length := by omega
      have ih := ih (n + 1) (by omega)
      rw [List.drop_eq_getElem_cons hn2, List.find?_cons]
      refine Ev.step (f := fun k => (D7.f k C[n].f0 (x4.extract 0 8) C[n].f2 C[n].f3).bind fun t => if t = true then ((Dk.f k C[n].f0 (x4.extract 0 8) C[n].f2 C[n].f3).bind fun t2 => if t2.toList = s.toList then some (C[n].f0, x4.extract 0 8, C[n].f2, C[n].f3, true) else Bc.l1 k s x4 C (C.length : Int) ((n + 1 : Nat) : Int)) else Bc.l1 k s x4 C (C.length : Int) ((n + 1 : Nat) : Int)) (fun k => ?_) ?_
      · simp only [Bc.l1]
        rw [if_pos (by omega), if_pos (by omega), if_pos (by omega), if_pos (by omega), if_pos (by omega), rdN C n hn2, wrap_succ (by omega)]
      · refine Ev.bind (implNote_ev _ _ _ _) ?_
        cases e : Ez C[n].f0 (x4.extract 0 8) C[n].f2 C[n].f3 with
        | false =>
          have : isOne s (x4.extract 0 8) C[n] = false := by unfold isOne; rw [e]; rfl
          rw [this]
          simp only [Bool.false_eq_true, if_false]
          exact ih
        | true =>
          simp only [if_true]
          refine Ev.bind (implText_ev _ _ _ _ e) ?_
          by_cases c : Gm C[n].f0 (x4.extract 0 8) C[n].f2 C[n].f3 = s
          · have : isOne s (x4.extract 0 8) C[n] = true := by unfold isOne; rw [e, decide_eq_true c]; rfl
            rw [this]
            exact Ev.congr (fun k => if_pos (by rw [c])) (Ev.now _)
          · have : isOne s (x4.extract 0 8) C[n] = false := by unfold isOne; rw [decide_eq_false c, Bool.and_false]
            rw [this]
            exact Ev.congr (fun k => if_neg (fun h => c (Gw (by rw [Fg, Fg] at h; exact h)))) ih
  exact key C.length 0 (by omega)
def heldN (n : Nat) : List Note := (List.range n).map fun i => ⟨3, ⟨#[]⟩, ((i + 1 : Nat) : Int), 0⟩
def cands (n0 n1 : Int) : List Note := [⟨1, ⟨#[]⟩, n0, 0⟩, ⟨2, ⟨#[]⟩, n0, n1⟩, ⟨4, ⟨#[]⟩, n0, 0⟩, ⟨5, ⟨#[]⟩, n0, n1⟩]
theorem build_ev (s x4 : ByteArray) (h8 : 8 ≤ x4.size) (n0 n1 : Int) : Ev (fun k => Bc.l0 k s x4 (cands n0 n1) 1) (found s (x4.extract 0 8) ((cands n0 n1 ++ heldN 15).find? (isOne s (x4.extract 0 8)))) := by
  have hl : ∀ n, (heldN n).length = n := fun n => by simp [heldN]
  have key : ∀ (d n : Nat), n + d = 15 → Ev (fun k => Bc.l0 k s x4 (cands n0 n1 ++ heldN n) ((n + 1 : Nat) : Int)) (found s (x4.extract 0 8) ((cands n0 n1 ++ heldN 15).find? (isOne s (x4.extract 0 8)))) := by
    intro d
    induction d with
    | zero =>
      intro n hn
      obtain rfl : n = 15 := by omega
      refine Ev.step (fun k => ?_) (search_ev s x4 h8 (cands n0 n1 ++ heldN 15) (by rw [List.length_append, hl]; simp [cands]))
      simp only [Bc.l0]
      rw [if_neg (by omega)]
    | succ d ih =>
      intro n hn
      have ih := ih (n + 1) (by omega)
      refine Ev.step (fun k => ?_) ih
      simp only [Bc.l0]
      rw [if_pos (by omega), if_pos (by rw [List.length_append, hl]; simp [cands]; omega), wrap_succ (by omega), List.append_assoc]
      have : heldN (n + 1) = heldN n ++ [(⟨3, ⟨#[]⟩, ((n + 1 : Nat) : Int), 0⟩ : Note)] := by simp [heldN, List.range_succ]
      rw [this]
  exact key 15 0 rfl
theorem implParse_ev (s : ByteArray) (hs : s.size ≤ 1048576) : ∃ r, Ev (fun k => Bc.f k s) r ∧ (r = zeroN ∨ ∃ kind id a b, Ez kind id a b = true ∧ Gm kind id a b = s ∧ r = (kind, id, a, b, true)) ∧
    ∀ kind id a b, Ez kind id a b = true → Gm kind id a b = s → r ≠ zeroN := by
  have bad : ∀ x, Ev (fun k => Bc.j0 k s x true) zeroN := fun x => Ev.step (f := fun _ => some _) (fun k => by simp only [Bc.j0, if_true]) (Ev.now _)
  have all : ∀ kind' id' a' b', Ez kind' id' a' b' = true → Gm kind' id' a' b' = s → B s = B (⟨#[67, 111, 110, 116, 97, 105, 110, 101, 114, 32]⟩ : ByteArray) ++ (B id' ++ restL kind' a' b') := by
    intro kind' id' a' b' h1 h2
    rw [← h2, text_B]; rfl
  by_cases p0 : (B (⟨#[67, 111, 110, 116, 97, 105, 110, 101, 114, 32]⟩ : ByteArray)).isPrefixOf (B s) = true
  · obtain ⟨R, hR⟩ : ∃ R, mk ((B s).drop (B (⟨#[67, 111, 110, 116, 97, 105, 110, 101, 114, 32]⟩ : ByteArray)).length) = R := ⟨_, rfl⟩
    have hRs : R.size ≤ 1048576 := by rw [← hR, Ha, List.length_drop, Ew]; omega
    have allR : ∀ kind' id' a' b', Ez kind' id' a' b' = true → Gm kind' id' a' b' = s → B R = B id' ++ restL kind' a' b' := fun k' i' a' b' h1 h2 => by rw [← hR, Fa, all k' i' a' b' h1 h2, List.drop_left' rfl]
    have hf : ∀ k, Bc.f k s = Bc.j0 k s R (decide ((R.size : Int) < 8)) := fun k => by
      unfold Bc.f
      simp only [cutPrefix_eq, Option.bind_some, if_pos p0, if_true, hR]
    by_cases c : R.size < 8
    · refine ⟨zeroN, Ev.congr (fun k => by rw [hf, decide_eq_true (show (R.size : Int) < 8 by omega)]) (bad R), .inl rfl, fun k' i' a' b' h1 h2 => ?_⟩
      have e := congrArg List.length (allR k' i' a' b' h1 h2)
      have h8 : (B i').length = 8 := by rw [Ew]; exact (Fj h1).1
      rw [List.length_append, Ew] at e
      omega
    · obtain ⟨t, ht⟩ : ∃ t, R.extract 8 R.size = t := ⟨_, rfl⟩
      have hts : t.size ≤ 1048576 := by rw [← ht, ByteArray.size_extract]; omega
      have hn2 : 2 ≤ (nums t).length := by unfold nums; rw [List.length_append]; simp
      obtain ⟨n0, n1, tl, hn⟩ : ∃ n0 n1 tl, nums t = n0 :: n1 :: tl := by
        cases e : nums t with
        | nil => rw [e] at hn2; simp at hn2
        | cons x l => cases l with
          | nil => rw [e] at hn2; simp at hn2
          | cons y l => exact ⟨x, y, l, rfl⟩
      have he : Ev (fun k => Bc.f k s) (found s (R.extract 0 8) ((cands n0 n1 ++ heldN 15).find? (isOne s (R.extract 0 8)))) := by
        refine Ev.congr (fun k => by rw [hf, decide_eq_false (show ¬ (R.size : Int) < 8 by omega)]) ?_
        refine Ev.step (f := fun k => (Dj.f k t).bind fun l => if 0 < (l.length : Int) then (if 1 < (l.length : Int) then Bc.l0 k s R ([(⟨1, (⟨#[]⟩ : ByteArray), rd l 0, 0⟩ : Note), (⟨2, (⟨#[]⟩ : ByteArray), rd l 0, rd l 1⟩ : Note), (⟨4, (⟨#[]⟩ : ByteArray), rd l 0, 0⟩ : Note), (⟨5, (⟨#[]⟩ : ByteArray), rd l 0, rd l 1⟩ : Note)]) 1 else none) else none) (fun k => ?_) (Ev.bind (numbersIn_ev t hts) ?_)
        · simp only [Bc.j0, Bool.false_eq_true, if_false, ht]
          rw [if_pos (by omega)]
        · refine Ev.congr (fun k => by rw [if_pos (by omega), if_pos (by omega)]) ?_
          rw [hn]
          exact build_ev s R (by omega) n0 n1
      refine ⟨_, he, ?_, fun k' i' a' b' h1 h2 hz => ?_⟩
      · cases hfd : (cands n0 n1 ++ heldN 15).find? (isOne s (R.extract 0 8)) with
        | none => exact .inl rfl
        | some c =>
          have hc := List.find?_some hfd
          unfold isOne at hc
          simp only [Bool.and_eq_true, decide_eq_true_eq] at hc
          exact .inr ⟨_, _, _, _, hc.1, hc.2, rfl⟩
      · have e := allR k' i' a' b' h1 h2
        have h8 : (B i').length = 8 := by rw [Ew]; exact (Fj h1).1
        have ei : R.extract 0 8 = i' := Gw (by rw [Fh, e, List.drop_zero, List.take_left' h8])
        have et : B t = restL k' a' b' := by rw [← ht, Fh, List.take_of_length_le (by rw [List.length_drop, Ew]; omega), e, List.drop_left' h8]
        obtain ⟨_, hk, ha, hb, h3⟩ := Fj h1
        have hmem : (⟨k', ⟨#[]⟩, a', b'⟩ : Note) ∈ cands n0 n1 ++ heldN 15 := by
          by_cases k3 : k' = 3
          · subst k3
            have hb0 := note_b h1 (.inr (.inl rfl))
            subst hb0
            have h3 := h3 rfl
            refine List.mem_append_right _ (List.mem_map.2 ⟨(a' - 1).toNat, List.mem_range.2 (by omega), ?_⟩)
            congr 1
            omega
          · obtain ⟨tl', hn'⟩ := nums_rest t k' i' a' b' h1 k3 et
            rw [hn] at hn'
            refine List.mem_append_left _ ?_
            have kk : k' = 1 ∨ k' = 2 ∨ k' = 4 ∨ k' = 5 := by omega
            rcases kk with rfl | rfl | rfl | rfl
            · have hb0 := note_b h1 (.inl rfl); subst hb0
              injection hn' with e1 _; subst e1; simp [cands]
            · injection hn' with e1 e2
              have e3 : n1 = b' := by injection e2
              subst e1; subst e3; simp [cands]
            · have hb0 := note_b h1 (.inr (.inr rfl)); subst hb0
              injection hn' with e1 _; subst e1; simp [cands]
            · injection hn' with e1 e2
              have e3 : n1 = b' := by injection e2
              subst e1; subst e3; simp [cands]
        cases hfd : (cands n0 n1 ++ heldN 15).find? (isOne s (R.extract 0 8)) with
        | none =>
          have := List.find?_eq_none.1 hfd _ hmem
          refine this ?_
          unfold isOne
          simp only [ei, h1, h2, decide_true, Bool.and_self]
        | some c =>
          rw [hfd] at hz
          have := congrArg (fun z => z.2.2.2.2) hz
          simp [found, zeroN] at this
  · refine ⟨zeroN, Ev.congr (fun k => ?_) (bad s), .inl rfl, fun k' i' a' b' h1 h2 => absurd ?_ p0⟩
    · unfold Bc.f
      simp only [cutPrefix_eq, Option.bind_some, if_neg p0, Bool.false_eq_true, if_false]
    · rw [all k' i' a' b' h1 h2]
      exact List.isPrefixOf_iff_prefix.2 (List.prefix_append _ _)
/-- One answer for both. -/
theorem parseBoth (s : ByteArray) (hs : s.size ≤ 1048576) : ∃ r, Ev (fun k => Ap.f k s) r ∧ Ev (fun k => Bc.f k s) r ∧ (r = zeroN ∨ ∃ kind id a b, Ez kind id a b = true ∧ Gm kind id a b = s ∧ r = (kind, id, a, b, true)) ∧ ∀ kind id a b, Ez kind id a b = true → Gm kind id a b = s → r = (kind, id, a, b, true) := by
  obtain ⟨kind, id, a, b, he, hfit⟩ := specParse_ev s hs
  obtain ⟨r, hi, hr, hne⟩ := implParse_ev s hs
  have hra : r = ans s kind id a b := by
    unfold ans
    rcases hr with rfl | ⟨k', i', a', b', h1, h2, rfl⟩
    · rw [if_neg]
      rintro ⟨h1, h2⟩
      exact hne _ _ _ _ h1 h2 rfl
    · obtain ⟨rfl, rfl, rfl, rfl⟩ := hfit k' i' a' b' h1 h2
      rw [if_pos ⟨h1, h2⟩]
  refine ⟨r, by rw [hra]; exact he, hi, hr, fun k' i' a' b' h1 h2 => ?_⟩
  obtain ⟨rfl, rfl, rfl, rfl⟩ := hfit k' i' a' b' h1 h2
  rw [hra]; unfold ans; rw [if_pos ⟨h1, h2⟩]
end Go.Proofs.YtghnljoaklmakaaDoor.X

namespace Go.Proofs.YtghnljoaklmakaaDoor.X
open Go.RowKit Go.Proofs.YtghnljoaklmakaaDoorW.PrintWords Go.Proofs.YtghnljoaklmakaaDoorL
theorem chk_ok (t : ByteArray) : ∀ (d n : Nat) (acc s : Int), chk t d n acc = some s → ∀ j : Nat, n ≤ j → j < n + d → okB j (bt t (j : Int)) = true
  | 0, n, acc, s, h, j, h1, h2 => by omega
  | d + 1, n, acc, s, h, j, h1, h2 => by
    simp only [chk] at h
    by_cases c : okB n (bt t (n : Int)) = true
    · rw [if_pos c] at h
      by_cases e : j = n
      · rw [e]; exact c
      · exact chk_ok t d (n + 1) _ s h j (by omega) (by omega)
    · rw [if_neg c] at h; cases h
theorem id_bytes (id : ByteArray) (h : idOk id = true) : ∀ b ∈ B id, b ≠ 46 := by
  intro b hb
  obtain ⟨i, hi, rfl⟩ := List.getElem_of_mem hb
  unfold idOk at h
  simp only [Bool.and_eq_true, decide_eq_true_eq] at h
  obtain ⟨h8, h2⟩ := h
  have h8' : (B id).length = 8 := by rw [Ew]; exact h8
  have hge : 48 ≤ (B id)[i].toNat := by
    cases hc : chk (id.extract 0 7) 7 0 0 with
    | none => rw [hc] at h2; cases h2
    | some m =>
      rw [hc] at h2
      simp only [beq_iff_eq] at h2
      by_cases c : i < 7
      · have hok := chk_ok _ 7 0 0 m hc i (by omega) (by omega)
        have hl : i < (B (id.extract 0 7)).length := by rw [Fh, List.length_take, List.length_drop]; omega
        rw [bt_B _ i hl] at hok
        have e : (B (id.extract 0 7))[i] = (B id)[i] := by simp only [Fh, List.drop_zero]; exact List.getElem_take
        rw [e] at hok
        unfold okB at hok
        by_cases c3 : i < 3
        · rw [if_pos c3] at hok; simp at hok; omega
        · rw [if_neg c3] at hok; simp at hok; omega
      · obtain rfl : i = 7 := by omega
        have := bt_B id 7 (by omega)
        have h7 : bt id ((7 : Nat) : Int) = 65 + m % 23 := h2
        omega
  intro e
  rw [e] at hge
  exact absurd hge (by decide)
theorem hold46 : ∀ i : Fin 15, (B (hold ((i.val : Int) + 1)).1).all (fun b => decide (b ≠ 46)) = true := by decide +kernel
/-- A sentence: a stop at its end, and none before. -/
theorem body_ex (x : Note) (h : Ez x.f0 x.f1 x.f2 x.f3 = true) : ∃ body, B (tx x) = body ++ [46] ∧ ∀ b ∈ body, b ≠ 46 := by
  obtain ⟨hsz, hk, ha, hb, h3⟩ := Fj h
  have hid : idOk x.f1 = true := by unfold Ez at h; simp only [Bool.and_eq_true] at h; exact h.1
  have di : ∀ b ∈ B x.f1, b ≠ 46 := id_bytes x.f1 hid
  have dn : ∀ v : Int, 0 ≤ v ∧ v ≤ 999999 → ∀ b ∈ B (dec v), b ≠ 46 := fun v hv b hb e => by have := dec_plain v hv b hb; rw [e] at this; unfold isD at this; exact absurd this.1 (by decide)
  have app : ∀ {l m : List UInt8}, (∀ b ∈ l, b ≠ 46) → (∀ b ∈ m, b ≠ 46) → ∀ b ∈ l ++ m, b ≠ 46 := fun h1 h2 b hb => (List.mem_append.1 hb).elim (h1 b) (h2 b)
  have kk : x.f0 = 1 ∨ x.f0 = 2 ∨ x.f0 = 3 ∨ x.f0 = 4 ∨ x.f0 = 5 := by omega
  have wrap_ : ∀ r, restL x.f0 x.f2 x.f3 = r ++ [46] → (∀ b ∈ r, b ≠ 46) → ∃ body, B (tx x) = body ++ [46] ∧ ∀ b ∈ body, b ≠ 46 := fun r e hr => ⟨kC ++ (B x.f1 ++ r), by unfold tx; rw [text_B, e]; simp [List.append_assoc], app (by decide) (app di hr)⟩
  rcases kk with e | e | e | e | e
  · exact wrap_ (k1 ++ B (dec x.f2)) (by rw [e, List.append_assoc]; rfl) (app (by decide) (dn _ ha))
  · exact wrap_ (k2 ++ (B (dec x.f2) ++ (kto ++ B (dec x.f3)))) (by rw [e, List.append_assoc, List.append_assoc, List.append_assoc]; rfl) (app (by decide) (app (dn _ ha) (app (by decide) (dn _ hb))))
  · refine wrap_ (k3 ++ B (hold x.f2).1) (by rw [e, List.append_assoc]; rfl) (app (by decide) ?_)
    have := hold46 ⟨(x.f2 - 1).toNat, by have := h3 e; omega⟩
    rw [show (((x.f2 - 1).toNat : Nat) : Int) + 1 = x.f2 from by have := h3 e; omega] at this
    exact fun b hb => of_decide_eq_true (List.all_eq_true.1 this b hb)
  · exact wrap_ (k4 ++ B (dec x.f2)) (by rw [e, List.append_assoc]; rfl) (app (by decide) (dn _ ha))
  · by_cases c : x.f3 = 1
    · refine wrap_ (k5 ++ (B (dec x.f2) ++ (kfor ++ (B (dec x.f3) ++ [32, 100, 97, 121])))) ?_ (app (by decide) (app (dn _ ha) (app (by decide) (app (dn _ hb) (by decide)))))
      rw [e]
      show k5 ++ (B (dec x.f2) ++ (kfor ++ (B (dec x.f3) ++ (if x.f3 = 1 then kday else kdays)))) = _
      rw [if_pos c]
      simp only [List.append_assoc]
      rfl
    · refine wrap_ (k5 ++ (B (dec x.f2) ++ (kfor ++ (B (dec x.f3) ++ [32, 100, 97, 121, 115])))) ?_ (app (by decide) (app (dn _ ha) (app (by decide) (app (dn _ hb) (by decide)))))
      rw [e]
      show k5 ++ (B (dec x.f2) ++ (kfor ++ (B (dec x.f3) ++ (if x.f3 = 1 then kday else kdays)))) = _
      rw [if_neg c]
      simp only [List.append_assoc]
      rfl
def tailL (m : List Note) : List UInt8 := (m.map fun x => 32 :: B (tx x)).flatten
def Gs : List Note → List UInt8
  | [] => []
  | x :: m => B (tx x) ++ tailL m
theorem tailL_cons (y : Note) (m : List Note) : tailL (y :: m) = 32 :: Gs (y :: m) := rfl
theorem B_told (l : List Note) : B (told l) = Gs l := by
  cases l with
  | nil => rfl
  | cons x m =>
    unfold told joinB
    rw [List.map_cons, List.map_cons, Lib.join_cons]
    show B ⟨_⟩ = _
    rw [B_mk]
    unfold Gs tailL Lib.joinTail
    rw [List.map_map, List.map_map]
    rfl
abbrev stopB : ByteArray := ⟨#[46, 32]⟩
theorem cutAt (s : ByteArray) (hs : s.size ≤ 4000000000) (i : Nat) (h : Lib.index (B s) [46, 32] = (i : Int)) (hi : i + 2 ≤ (B s).length) : strings_Cut.f s stopB = some (mk ((B s).take i), mk ((B s).drop (i + 2)), true) := by
  have hl := Ew s
  unfold strings_Cut.f stringslite_Cut.f stringslite_Index.f
  rw [if_pos (by omega)]
  have h' : Lib.index s.data.toList (stopB).data.toList = (i : Int) := h
  have hz : ((stopB).size : Int) = 2 := rfl
  simp only [Option.bind_some, h', hz]
  rw [if_pos (by omega), if_pos (by omega), if_pos (by omega), Eu (by omega) (by omega), if_pos (by omega), if_pos (by omega)]
  simp only [Option.bind_some]
  congr 2
  · exact Gw (by rw [Fh, Fa]; simp)
  · congr 1
    exact Gw (by rw [Fh, Fa, show ((i : Int) + 2).toNat = i + 2 from by omega, List.take_of_length_le (by rw [List.length_drop]; omega)])
theorem cutNo (s : ByteArray) (hs : s.size ≤ 4000000000) (h : Lib.index (B s) [46, 32] = -1) : strings_Cut.f s stopB = some (s, (⟨#[]⟩ : ByteArray), false) := by
  unfold strings_Cut.f stringslite_Cut.f stringslite_Index.f
  rw [if_pos (by omega)]
  have h' : Lib.index s.data.toList (stopB).data.toList = -1 := h
  simp only [Option.bind_some, h']
  rw [if_neg (by omega)]
  rfl
theorem head_ne (body t : List UInt8) (hb : ∀ b ∈ body, b ≠ 46) (j : Nat) (hj : j < body.length) : Lib.occAt (body ++ t) [46, 32] j = false := by
  unfold Lib.occAt
  rw [List.drop_append_of_le_length (by omega), List.drop_eq_getElem_cons hj, List.cons_append]
  have hne := hb _ (List.getElem_mem hj)
  simp only [List.isPrefixOf]
  rw [show (46 == body[j]) = false from beq_eq_false_iff_ne.2 (fun h => hne h.symm), Bool.false_and]
/-- Of a sentence with more behind it, and of the last one. -/
theorem cut_more (s : ByteArray) (hs : s.size ≤ 4000000000) (body t : List UInt8) (e : B s = body ++ 46 :: 32 :: t) (hb : ∀ b ∈ body, b ≠ 46) : strings_Cut.f s stopB = some (mk body, mk t, true) := by
  have hi : Lib.index (B s) [46, 32] = (body.length : Int) := by
    rw [e]
    refine Lib.index_first (by simp) ?_ (fun j hj => head_ne body _ hb j hj)
    unfold Lib.occAt
    rw [List.drop_left' rfl]
    rfl
  rw [cutAt s hs body.length hi (by rw [e]; simp), e, List.take_left' rfl, show body.length + 2 = (body ++ [46, 32]).length from by simp, show body ++ 46 :: 32 :: t = (body ++ [46, 32]) ++ t from by simp, List.drop_left' rfl]
theorem cut_last (s : ByteArray) (hs : s.size ≤ 4000000000) (body : List UInt8) (e : B s = body ++ [46]) (hb : ∀ b ∈ body, b ≠ 46) : strings_Cut.f s stopB = some (s, (⟨#[]⟩ : ByteArray), false) := by
  refine cutNo s hs ?_
  rw [e]
  refine Lib.index_none (fun j hj => ?_)
  rcases Nat.lt_or_ge j body.length with h | h
  · exact head_ne body _ hb j h
  · unfold Lib.occAt
    rw [List.length_append] at hj
    have : j = body.length ∨ j = body.length + 1 := by simp at hj; omega
    rcases this with rfl | rfl
    · rw [List.drop_left' rfl]; rfl
    · rw [show body.length + 1 = (body ++ [46]).length from by simp, List.drop_length]; rfl
/-- Of any text. -/
theorem cut_any (s : ByteArray) (hs : s.size ≤ 4000000000) : (∃ h t, B s = h ++ 46 :: 32 :: t ∧ strings_Cut.f s stopB = some (mk h, mk t, true)) ∨ strings_Cut.f s stopB = some (s, (⟨#[]⟩ : ByteArray), false) := by
  rcases Lib.index_spec (B s) [46, 32] with ⟨h, _⟩ | ⟨i, h, hi, ho, _⟩
  · exact .inr (cutNo s hs h)
  · refine .inl ?_
    unfold Lib.occAt at ho
    obtain ⟨t, ht⟩ := List.isPrefixOf_iff_prefix.1 ho
    have hd : (B s).drop i = 46 :: 32 :: t := ht.symm
    have hlen := congrArg List.length hd
    rw [List.length_drop] at hlen
    simp only [List.length_cons] at hlen
    refine ⟨(B s).take i, t, ?_, ?_⟩
    · rw [← hd, List.take_append_drop]
    · rw [cutAt s hs i h (by omega)]
      have : (B s).drop (i + 2) = t := by rw [← List.drop_drop, hd]; rfl
      rw [this]
end Go.Proofs.YtghnljoaklmakaaDoor.X

namespace Go.Proofs.YtghnljoaklmakaaDoor.X
open Go.RowKit Go.Proofs.YtghnljoaklmakaaDoorW.PrintWords Go.Proofs.YtghnljoaklmakaaDoorL
theorem mark_ex (k : Int) (h0 : 0 ≤ k) (h1 : k ≤ 1000000000000) : ∃ t, Ev (fun f => Dp.f f k) t := by
  have key : ∀ (m : Nat) (x : Int) (s : ByteArray), 0 ≤ x → x ≤ 1000000000000 → x < 10 ^ m → s.size + m ≤ 1000 → ∃ t, Ev (fun f => Dp.l0 f x s) t := by
    intro m
    induction m with
    | zero =>
      intro x s h0 hB h1 hs
      refine ⟨_, Ev.step (f := fun _ => some ((⟨#[109]⟩ : ByteArray) ++ s)) (fun f => ?_) (Ev.now _)⟩
      simp only [Dp.l0]
      rw [if_neg (by omega), if_pos (by omega)]
    | succ m ih =>
      intro x s h0 hB h1 hs
      by_cases hx : x > 0
      · have hd : Int.tdiv x 10 = x / 10 := Int.tdiv_eq_ediv_of_nonneg h0
        have hp : (10 : Int) ^ (m + 1) = 10 * 10 ^ m := by rw [Int.pow_succ, Int.mul_comm]
        have hq : x / 10 < 10 ^ m := by rw [hp] at h1; omega
        have hz : ∀ b : Int, (strOfNums [b] ++ s).size = 1 + s.size := fun b => by rw [ByteArray.size_append, strOfNums_size]; rfl
        have hw : wrap64 (Int.tdiv x 10) = x / 10 := by rw [hd]; exact Eu (by omega) (by omega)
        obtain ⟨t, ht⟩ := ih (x / 10) (strOfNums [wrap64 (48 + Int.tmod x 10) % 256] ++ s) (by omega) (by omega) hq (by rw [hz]; omega)
        refine ⟨t, Ev.step (fun f => ?_) ht⟩
        simp only [Dp.l0]
        rw [if_pos hx]
        simp only [Option.bind_some]
        rw [if_pos (by rw [strOfNums_size]; simp; omega), hw]
      · refine ⟨_, Ev.step (f := fun _ => some ((⟨#[109]⟩ : ByteArray) ++ s)) (fun f => ?_) (Ev.now _)⟩
        simp only [Dp.l0]
        rw [if_neg hx, if_pos (by omega)]
  by_cases h : k ≤ 0
  · exact ⟨_, ev_eq (fun f => if_pos h)⟩
  · obtain ⟨t, ht⟩ := key 20 k ⟨#[]⟩ h0 h1 (by omega) (by decide)
    exact ⟨t, Ev.congr (fun f => if_neg h) ht⟩
end Go.Proofs.YtghnljoaklmakaaDoor.X

namespace Go.Proofs.YtghnljoaklmakaaDoor.X
open Go.RowKit Go.Proofs.YtghnljoaklmakaaDoorW.PrintWords Go.Proofs.YtghnljoaklmakaaDoorL
theorem tx_ne (x : Note) : B (tx x) ≠ [] := by unfold tx; rw [text_B]; intro h; cases h
theorem toldL_ne (x : Note) (m : List Note) : Gs (x :: m) ≠ [] := by
  unfold Gs
  intro h
  exact tx_ne x (List.append_eq_nil_iff.1 h).1
theorem toldL_nil {m : List Note} (h : Gs m = []) : m = [] := by
  cases m with
  | nil => rfl
  | cons x m => exact absurd h (toldL_ne x m)
theorem first46 : ∀ {a a' b b' : List UInt8}, a ++ 46 :: b = a' ++ 46 :: b' → (∀ x ∈ a, x ≠ 46) → (∀ x ∈ a', x ≠ 46) → a = a' ∧ b = b'
  | [], [], b, b', h, _, _ => ⟨rfl, by injection h⟩
  | [], c :: a', b, b', h, _, h2 => by injection h with h _; exact absurd h.symm (h2 c (by simp))
  | c :: a, [], b, b', h, h1, _ => by injection h with h _; exact absurd h (h1 c (by simp))
  | c :: a, d :: a', b, b', h, h1, h2 => by
    injection h with e h
    obtain ⟨r1, r2⟩ := first46 h (fun x hx => h1 x (by simp [hx])) (fun x hx => h2 x (by simp [hx]))
    exact ⟨by rw [e, r1], r2⟩
theorem split46 : ∀ l : List UInt8, (∃ a b, l = a ++ 46 :: b ∧ ∀ x ∈ a, x ≠ 46) ∨ ∀ x ∈ l, x ≠ 46
  | [] => .inr (by simp)
  | c :: l => by
    by_cases e : c = 46
    · exact .inl ⟨[], l, by rw [e]; rfl, by simp⟩
    · rcases split46 l with ⟨a, b, h, h2⟩ | h
      · exact .inl ⟨c :: a, b, by rw [h]; rfl, fun x hx => (List.mem_cons.1 hx).elim (fun q => q ▸ e) (h2 x)⟩
      · exact .inr (fun x hx => (List.mem_cons.1 hx).elim (fun q => q ▸ e) (h x))
theorem Hf {out m : List Note} {x : Note} (h : report (out ++ x :: m) = true) : Ez x.f0 x.f1 x.f2 x.f3 = true := (report_ok h).2 x (by simp)
/-- What a reading of one sentence tells. -/
theorem read_one (s : ByteArray) (hs : s.size ≤ 1048576) : ∃ p, Ev (fun k => Ap.f k s) p ∧ Ev (fun k => Bc.f k s) p ∧ (p = zeroN ∨ ∃ y : Note, Ez y.f0 y.f1 y.f2 y.f3 = true ∧ tx y = s ∧ p = (y.f0, y.f1, y.f2, y.f3, true)) ∧ ∀ x : Note, Ez x.f0 x.f1 x.f2 x.f3 = true → tx x = s → p = (x.f0, x.f1, x.f2, x.f3, true) := by
  obtain ⟨p, h1, h2, h3, h4⟩ := parseBoth s hs
  refine ⟨p, h1, h2, ?_, fun x hx e => h4 _ _ _ _ hx e⟩
  rcases h3 with h | ⟨kind, id, a, b, q1, q2, q3⟩
  · exact .inl h
  · exact .inr ⟨⟨kind, id, a, b⟩, q1, q2, q3⟩
theorem same_note {x y : Note} (h : (y.f0, y.f1, y.f2, y.f3, true) = (x.f0, x.f1, x.f2, x.f3, true)) : y = x := by
  obtain ⟨a, b, c, d⟩ := x
  obtain ⟨a', b', c', d'⟩ := y
  simp only [Prod.mk.injEq, and_true] at h
  obtain ⟨rfl, rfl, rfl, rfl⟩ := h
  rfl
theorem implRep_ev : ∀ (N : Nat) (s : ByteArray) (out : List Note), s.size ≤ N → s.size ≤ 1048576 → out.length + s.size ≤ 2097152 → ∃ r, Ev (fun k => Bi.l0 k s out) r ∧
    (r = ([], false) ∨ ∃ m, Gs m = B s ∧ report (out ++ m) = true ∧ r = (out ++ m, true)) ∧ ∀ m, Gs m = B s → report (out ++ m) = true → r = (out ++ m, true) := by
  have nil_ev : ∀ (s : ByteArray) (out : List Note), B s = [] → ∃ r, Ev (fun k => Bi.l0 k s out) r ∧ (r = ([], false) ∨ ∃ m, Gs m = B s ∧ report (out ++ m) = true ∧ r = (out ++ m, true)) ∧ ∀ m, Gs m = B s → report (out ++ m) = true → r = (out ++ m, true) := by
    intro s out hz
    refine ⟨if report out = true then (out, true) else ([], false), Ev.step (f := fun _ => some _) (fun k => ?_) (Ev.now _), ?_, fun m hm hr => ?_⟩
    · simp only [Bi.l0]
      rw [if_pos (by rw [Fg, hz]), implReport, Option.bind_some]
      split <;> rfl
    · by_cases c : report out = true
      · rw [if_pos c]; exact .inr ⟨[], by rw [hz]; rfl, by rw [List.append_nil]; exact c, by rw [List.append_nil]⟩
      · rw [if_neg c]; exact .inl rfl
    · obtain rfl := toldL_nil (hm.trans hz)
      rw [List.append_nil] at hr ⊢
      rw [if_pos hr]
  intro N
  induction N with
  | zero =>
    intro s out h0 _ _
    exact nil_ev s out (List.eq_nil_of_length_eq_zero (by rw [Ew]; omega))
  | succ N ih =>
    intro s out hN h1 h2
    by_cases hz : B s = []
    · exact nil_ev s out hz
    have hzt : ¬ s.toList = [] := by rw [Fg]; exact hz
    have hlen := Ew s
    -- what a list of notes says of the cut
    have look : ∀ x m, Ez x.f0 x.f1 x.f2 x.f3 = true → Gs (x :: m) = B s → (m = [] ∧ tx x = s ∧ strings_Cut.f s stopB = some (s, (⟨#[]⟩ : ByteArray), false)) ∨ (m ≠ [] ∧ ∃ body, tx x = mk body ++ (⟨#[46]⟩ : ByteArray) ∧ strings_Cut.f s stopB = some (mk body, mk (Gs m), true)) := by
      intro x m hx e
      obtain ⟨body, eb, hb⟩ := body_ex x hx
      cases m with
      | nil =>
        refine .inl ⟨rfl, Gw (by rw [← e]; simp [Gs, tailL]), cut_last s (by omega) body ?_ hb⟩
        rw [← e, ← eb]; simp [Gs, tailL]
      | cons y m =>
        refine .inr ⟨by simp, body, Gw (by rw [eb, Gl, Fa]; rfl), cut_more s (by omega) body (Gs (y :: m)) ?_ hb⟩
        rw [← e]
        show B (tx x) ++ tailL (y :: m) = _
        rw [eb, tailL_cons]
        simp
    rcases cut_any s (by omega) with ⟨h, t, e, hc⟩ | hc
    · have hl2 : h.length + t.length + 2 = s.size := by rw [← hlen, e]; simp; omega
      obtain ⟨p, _, hp, hps, hpc⟩ := read_one (mk h ++ (⟨#[46]⟩ : ByteArray)) (by rw [ByteArray.size_append, Ha]; have : (⟨#[46]⟩ : ByteArray).size = 1 := rfl; omega)
      have stp : ∀ r, Ev (fun k => if p.2.2.2.2 = true then (if (mk t).toList = [] then some ([], false) else if out.length < 3518437208883 then Bi.l0 k (mk t) (out ++ [(⟨p.1, p.2.1, p.2.2.1, p.2.2.2.1⟩ : Note)]) else none) else some ([], false)) r → Ev (fun k => Bi.l0 k s out) r := by
        intro r hr
        refine Ev.step (f := fun k => (Bc.f k (mk h ++ (⟨#[46]⟩ : ByteArray))).bind fun bt => if bt.2.2.2.2 = true then (if (mk t).toList = [] then some ([], false) else if out.length < 3518437208883 then Bi.l0 k (mk t) (out ++ [(⟨bt.1, bt.2.1, bt.2.2.1, bt.2.2.2.1⟩ : Note)]) else none) else some ([], false)) (fun k => ?_) (Ev.bind hp hr)
        simp only [Bi.l0]
        rw [if_neg hzt, hc, Option.bind_some]
        simp only [if_true]
        rw [if_pos (by rw [Ha]; omega)]
      rcases hps with rfl | ⟨y, hy, ey, rfl⟩
      · refine ⟨([], false), stp _ (Ev.congr (fun k => if_neg (by decide)) (Ev.now _)), .inl rfl, fun m hm hr => ?_⟩
        cases m with
        | nil => exact absurd hm.symm hz
        | cons x m =>
          have hx := Hf hr
          rcases look x m hx hm with ⟨_, _, hc2⟩ | ⟨_, body, etx, hc2⟩
          · rw [hc] at hc2; simp at hc2
          · rw [hc] at hc2
            simp only [Option.some.injEq, Prod.mk.injEq, and_true] at hc2
            have := hpc x hx (by rw [etx, hc2.1])
            simp [zeroN] at this
      · have hby : B (tx y) = h ++ [46] := by rw [ey, Gl, Fa]; rfl
        by_cases ht : t = []
        · subst ht
          refine ⟨([], false), stp _ (Ev.congr (fun k => by rw [if_pos rfl, if_pos (by rw [Fg, Fa])]) (Ev.now _)), .inl rfl, fun m hm hr => ?_⟩
          cases m with
          | nil => exact absurd hm.symm hz
          | cons x m =>
            have hx := Hf hr
            rcases look x m hx hm with ⟨_, _, hc2⟩ | ⟨hne, body, etx, hc2⟩
            · rw [hc] at hc2; simp at hc2
            · rw [hc] at hc2
              simp only [Option.some.injEq, Prod.mk.injEq, and_true] at hc2
              have := mk_inj hc2.2
              exact absurd (toldL_nil this.symm) hne
        · obtain ⟨r, hr1, hr2, hr3⟩ := ih (mk t) (out ++ [y]) (by rw [Ha]; omega) (by rw [Ha]; omega) (by rw [Ha, List.length_append]; simp; omega)
          refine ⟨r, stp _ (Ev.congr (fun k => by rw [if_pos rfl, if_neg (by rw [Fg, Fa]; exact ht), if_pos (by omega)]) hr1), ?_, fun m hm hr => ?_⟩
          · rcases hr2 with h0 | ⟨m, hm, hrep, er⟩
            · exact .inl h0
            · rw [Fa] at hm
              cases m with
              | nil => exact absurd hm.symm ht
              | cons z m =>
                refine .inr ⟨y :: z :: m, ?_, by rw [List.append_assoc] at hrep; exact hrep, by rw [er, List.append_assoc]; rfl⟩
                show B (tx y) ++ tailL (z :: m) = B s
                rw [hby, tailL_cons, hm, e]; simp
          · cases m with
            | nil => exact absurd hm.symm hz
            | cons x m =>
              have hx := Hf hr
              rcases look x m hx hm with ⟨_, _, hc2⟩ | ⟨hne, body, etx, hc2⟩
              · rw [hc] at hc2; simp at hc2
              · rw [hc] at hc2
                simp only [Option.some.injEq, Prod.mk.injEq, and_true] at hc2
                obtain rfl := same_note (hpc x hx (by rw [etx, hc2.1]))
                have := hr3 m (by rw [Fa]; exact (mk_inj hc2.2).symm) (by rw [List.append_assoc]; exact hr)
                rw [this, List.append_assoc]; rfl
    · obtain ⟨p, _, hp, hps, hpc⟩ := read_one s h1
      have stp : ∀ r, Ev (fun k => if p.2.2.2.2 = true then (if out.length < 3518437208883 then Bi.l0 k (⟨#[]⟩ : ByteArray) (out ++ [(⟨p.1, p.2.1, p.2.2.1, p.2.2.2.1⟩ : Note)]) else none) else some ([], false)) r → Ev (fun k => Bi.l0 k s out) r := by
        intro r hr
        refine Ev.step (f := fun k => (Bc.f k s).bind fun bt => if bt.2.2.2.2 = true then (if out.length < 3518437208883 then Bi.l0 k (⟨#[]⟩ : ByteArray) (out ++ [(⟨bt.1, bt.2.1, bt.2.2.1, bt.2.2.2.1⟩ : Note)]) else none) else some ([], false)) (fun k => ?_) (Ev.bind hp hr)
        simp only [Bi.l0]
        rw [if_neg hzt, hc, Option.bind_some]
        simp only [Bool.false_eq_true, if_false]
      rcases hps with rfl | ⟨y, hy, ey, rfl⟩
      · refine ⟨([], false), stp _ (Ev.congr (fun k => if_neg (by decide)) (Ev.now _)), .inl rfl, fun m hm hr => ?_⟩
        cases m with
        | nil => exact absurd hm.symm hz
        | cons x m =>
          have hx := Hf hr
          rcases look x m hx hm with ⟨_, etx, _⟩ | ⟨_, body, etx, hc2⟩
          · have := hpc x hx etx
            simp [zeroN] at this
          · rw [hc] at hc2; simp at hc2
      · obtain ⟨r, hr1, hr2, hr3⟩ := nil_ev (⟨#[]⟩ : ByteArray) (out ++ [y]) rfl
        refine ⟨r, stp _ (Ev.congr (fun k => by rw [if_pos rfl, if_pos (by omega)]) hr1), ?_, fun m hm hr => ?_⟩
        · rcases hr2 with h0 | ⟨m, hm, hrep, er⟩
          · exact .inl h0
          · obtain rfl := toldL_nil (hm.trans rfl)
            exact .inr ⟨[y], by show B (tx y) ++ tailL [] = B s; rw [ey]; simp [tailL], by rw [List.append_nil] at hrep; exact hrep, by rw [er, List.append_nil]⟩
        · cases m with
          | nil => exact absurd hm.symm hz
          | cons x m =>
            have hx := Hf hr
            rcases look x m hx hm with ⟨rfl, etx, _⟩ | ⟨_, body, etx, hc2⟩
            · obtain rfl := same_note (hpc x hx etx)
              have := hr3 [] rfl (by rw [List.append_nil]; exact hr)
              rw [this, List.append_nil]
            · rw [hc] at hc2; simp at hc2
theorem specRep_ev (s : ByteArray) (hs : s.size ≤ 2000) : ∀ (N fr : Nat) (out : List Note), s.size ≤ fr + N → out.length ≤ fr → fr ≤ 3000 → ∃ r, Ev (fun k => Be.l0 k s out (fr : Int)) r ∧
    (r = ([], false) ∨ ∃ l, report l = true ∧ told l = s ∧ r = (l, true)) ∧
    ∀ m, report (out ++ m) = true → told (out ++ m) = s → (m = [] → s.size ≤ fr) → (m ≠ [] → fr < s.size ∧ (B s).drop fr = Gs m) → r = (out ++ m, true) := by
  have hlen := Ew s
  have done : ∀ (fr : Nat) (out : List Note), s.size ≤ fr → out.length ≤ fr → fr ≤ 3000 → ∃ r, Ev (fun k => Be.l0 k s out (fr : Int)) r ∧
      (r = ([], false) ∨ ∃ l, report l = true ∧ told l = s ∧ r = (l, true)) ∧
      ∀ m, report (out ++ m) = true → told (out ++ m) = s → (m = [] → s.size ≤ fr) → (m ≠ [] → fr < s.size ∧ (B s).drop fr = Gs m) → r = (out ++ m, true) := by
    intro fr out h1 h2 h3
    have stp : ∀ r, Ev (fun k => if (reportText out).2 = true then (if (reportText out).1.toList = s.toList then some (out, true) else some ([], false)) else some ([], false)) r → Ev (fun k => Be.l0 k s out (fr : Int)) r := by
      intro r hr
      refine Ev.step (f := fun k => (C9.f k out).bind fun bt => if bt.2 = true then (if bt.1.toList = s.toList then some (out, true) else some ([], false)) else some ([], false)) (fun k => ?_) (Ev.bind (specReportText_ev out (by omega)) hr)
      simp only [Be.l0]
      rw [if_neg (by omega)]
    refine ⟨if report out = true ∧ told out = s then (out, true) else ([], false), stp _ ?_, ?_, fun m q1 q2 q3 q4 => ?_⟩
    · by_cases c : report out = true
      · have e1 : reportText out = (told out, true) := if_pos c
        by_cases d : told out = s
        · have e2 : (if report out = true ∧ told out = s then (out, true) else (([] : List Note), false)) = (out, true) := if_pos ⟨c, d⟩
          rw [e1, e2]
          exact Ev.congr (fun k => (if_pos rfl).trans (if_pos (by rw [d]))) (Ev.now _)
        · have e2 : (if report out = true ∧ told out = s then (out, true) else (([] : List Note), false)) = ([], false) := if_neg (fun h => d h.2)
          rw [e1, e2]
          exact Ev.congr (fun k => (if_pos rfl).trans (if_neg (fun h => d (Gw (by rw [Fg, Fg] at h; exact h))))) (Ev.now _)
      · have e1 : reportText out = ((⟨#[]⟩ : ByteArray), false) := if_neg c
        have e2 : (if report out = true ∧ told out = s then (out, true) else (([] : List Note), false)) = ([], false) := if_neg (fun h => c h.1)
        rw [e1, e2]
        exact Ev.congr (fun k => if_neg (by decide)) (Ev.now _)
    · by_cases c : report out = true ∧ told out = s
      · rw [if_pos c]; exact .inr ⟨out, c.1, c.2, rfl⟩
      · rw [if_neg c]; exact .inl rfl
    · by_cases hm : m = []
      · subst hm
        rw [List.append_nil] at q1 q2 ⊢
        rw [if_pos ⟨q1, q2⟩]
      · have := (q4 hm).1; omega
  intro N
  induction N with
  | zero => intro fr out h1 h2 h3; exact done fr out (by omega) h2 h3
  | succ N ih =>
    intro fr out h1 h2 h3
    by_cases hf : s.size ≤ fr
    · exact done fr out hf h2 h3
    -- to the next stop
    have run : ∀ (e : Nat) (r : List Note × Bool), e ≤ s.size → (∀ j (hj : j < (B s).length), fr ≤ j → j < e → (B s)[j] ≠ 46) → (e = s.size ∨ ∃ hj : e < (B s).length, (B s)[e] = 46) → Ev (fun k => Be.j2 k s out (fr : Int) (e : Int)) r → fr ≤ e → Ev (fun k => Be.l0 k s out (fr : Int)) r := by
      intro e r he hno hend hr hfe
      have key : ∀ (d n : Nat), n + d = e → fr ≤ n → Ev (fun k => Be.l1 k s out (fr : Int) (n : Int)) r := by
        intro d
        induction d with
        | zero =>
          intro n hn hfn
          obtain rfl : n = e := by omega
          refine Ev.step (fun k => ?_) hr
          simp only [Be.l1]
          rcases hend with h | ⟨hj, h⟩
          · rw [if_neg (by omega)]
          · rw [if_pos (by omega), if_pos (by omega), if_pos (by rw [bt_B s n hj, h]; rfl)]
        | succ d ih2 =>
          intro n hn hfn
          have hj : n < (B s).length := by omega
          refine Ev.step (fun k => ?_) (ih2 (n + 1) (by omega) (by omega))
          simp only [Be.l1]
          rw [if_pos (by omega), if_pos (by omega), if_neg, wrap_succ (by omega)]
          rw [bt_B s n hj]
          intro h
          refine hno n hj hfn (by omega) (UInt8.toNat_inj.1 ?_)
          show (B s)[n].toNat = 46
          omega
      refine Ev.step (fun k => ?_) (key (e - fr) fr (by omega) (Nat.le_refl _))
      simp only [Be.l0]
      rw [if_pos (by omega)]
    have at_ : ∀ j, fr ≤ j → (hj : j < (B s).length) → ∃ h2 : j - fr < ((B s).drop fr).length, ((B s).drop fr)[j - fr] = (B s)[j] := by
      intro j h1 hj
      refine ⟨by rw [List.length_drop]; omega, ?_⟩
      rw [List.getElem_drop]
      congr 1
      omega
    rcases split46 ((B s).drop fr) with ⟨body, t, e, hb⟩ | hno
    · have hl2 := congrArg List.length e
      rw [List.length_drop, List.length_append, List.length_cons] at hl2
      have hx : s.extract fr (fr + body.length + 1) = mk (body ++ [46]) := Gw (by
        rw [Fh, Fa, e, show fr + body.length + 1 - fr = (body ++ [46]).length from by simp; omega, show body ++ 46 :: t = (body ++ [46]) ++ t from by simp, List.take_left' rfl])
      have hdr : (B s).drop (fr + body.length + 1) = t := by rw [show fr + body.length + 1 = fr + (body ++ [46]).length from by simp; omega, ← List.drop_drop, e, show body ++ 46 :: t = (body ++ [46]) ++ t from by simp, List.drop_left' rfl]
      obtain ⟨p, hp, _, hps, hpc⟩ := read_one (mk (body ++ [46])) (by rw [Ha]; simp; omega)
      have stp : ∀ r, Ev (fun k => if p.2.2.2.2 = true then (if out.length < 3518437208883 then Be.l0 k s (out ++ [(⟨p.1, p.2.1, p.2.2.1, p.2.2.2.1⟩ : Note)]) ((fr + body.length + 2 : Nat) : Int) else none) else some ([], false)) r → Ev (fun k => Be.l0 k s out (fr : Int)) r := by
        intro r hr
        refine run (fr + body.length) r (by omega) (fun j hj h1 h2 => ?_) (.inr ⟨by omega, ?_⟩) ?_ (by omega)
        · obtain ⟨hq, eq⟩ := at_ j h1 hj
          rw [← eq]
          simp only [e]
          rw [List.getElem_append_left (by omega)]
          exact hb _ (List.getElem_mem _)
        · obtain ⟨hq, eq⟩ := at_ (fr + body.length) (by omega) (by omega)
          rw [← eq]
          simp only [e, show fr + body.length - fr = body.length from by omega]
          simp
        · refine Ev.step (f := fun k => (Ap.f k (mk (body ++ [46]))).bind fun bt => if bt.2.2.2.2 = true then (if out.length < 3518437208883 then Be.l0 k s (out ++ [(⟨bt.1, bt.2.1, bt.2.2.1, bt.2.2.2.1⟩ : Note)]) ((fr + body.length + 2 : Nat) : Int) else none) else some ([], false)) (fun k => ?_) (Ev.bind hp hr)
          simp only [Be.j2]
          have w1 : wrap64 (((fr + body.length : Nat) : Int) + 1) = ((fr + body.length + 1 : Nat) : Int) := by rw [Eu (by omega) (by omega)]; omega
          have w2 : wrap64 (((fr + body.length : Nat) : Int) + 2) = ((fr + body.length + 2 : Nat) : Int) := by rw [Eu (by omega) (by omega)]; omega
          rw [if_neg (by omega), if_pos (by omega), w1, w2, if_pos (by omega), if_pos (by omega), Int.toNat_natCast, Int.toNat_natCast, hx]
      rcases hps with rfl | ⟨y, hy, ey, rfl⟩
      · refine ⟨([], false), stp _ (Ev.congr (fun k => if_neg (by decide)) (Ev.now _)), .inl rfl, fun m q1 q2 q3 q4 => ?_⟩
        cases m with
        | nil => exact absurd (q3 rfl) hf
        | cons x m =>
          have hx2 := Hf q1
          obtain ⟨bx, ebx, hbx⟩ := body_ex x hx2
          have e2 := (q4 (by simp)).2
          rw [e, show Gs (x :: m) = B (tx x) ++ tailL m from rfl, ebx, List.append_assoc] at e2
          obtain ⟨f1, f2⟩ := first46 e2 hb hbx
          have := hpc x hx2 (Gw (by rw [ebx, Fa, f1]))
          simp [zeroN] at this
      · obtain ⟨r, hr1, hr2, hr3⟩ := ih (fr + body.length + 2) (out ++ [y]) (by omega) (by rw [List.length_append]; simp; omega) (by omega)
        refine ⟨r, stp _ (Ev.congr (fun k => by rw [if_pos rfl, if_pos (by omega)]) hr1), hr2, fun m q1 q2 q3 q4 => ?_⟩
        cases m with
        | nil => exact absurd (q3 rfl) hf
        | cons x m =>
          have hx2 := Hf q1
          obtain ⟨bx, ebx, hbx⟩ := body_ex x hx2
          have e2 := (q4 (by simp)).2
          rw [e, show Gs (x :: m) = B (tx x) ++ tailL m from rfl, ebx, List.append_assoc] at e2
          obtain ⟨f1, f2⟩ := first46 e2 hb hbx
          obtain rfl := same_note (hpc x hx2 (Gw (by rw [ebx, Fa, f1])))
          have := hr3 m (by rw [List.append_assoc]; exact q1) (by rw [List.append_assoc]; exact q2) (fun hm => by
            subst hm
            have : t = [] := f2
            rw [this] at hl2
            simp at hl2
            omega) (fun hm => by
            cases m with
            | nil => exact absurd rfl hm
            | cons z m =>
              have ft : t = 32 :: Gs (z :: m) := f2
              have hne := toldL_ne z m
              have hpos : 0 < (Gs (z :: m)).length := List.length_pos_iff.2 hne
              rw [ft] at hl2 hdr
              simp at hl2
              refine ⟨by omega, ?_⟩
              rw [show fr + body.length + 2 = (fr + body.length + 1) + 1 from rfl, ← List.drop_drop, hdr]
              rfl)
          rw [this, List.append_assoc]
          rfl
    · refine ⟨([], false), run s.size ([], false) (Nat.le_refl _) (fun j hj h1 h2 => ?_) (.inl rfl) (Ev.step (f := fun _ => some _) (fun k => ?_) (Ev.now _)) (by omega), .inl rfl, fun m q1 q2 q3 q4 => ?_⟩
      · obtain ⟨hq, eq⟩ := at_ j h1 hj
        rw [← eq]
        exact hno _ (List.getElem_mem hq)
      · simp only [Be.j2]
        exact if_pos trivial
      · cases m with
        | nil => exact absurd (q3 rfl) hf
        | cons x m =>
          obtain ⟨bx, ebx, hbx⟩ := body_ex x (Hf q1)
          have e2 := (q4 (by simp)).2
          rw [show Gs (x :: m) = B (tx x) ++ tailL m from rfl, ebx, List.append_assoc] at e2
          exact absurd rfl (hno 46 (by rw [e2]; simp))
/-- One answer for both. -/
theorem reportBoth (s : ByteArray) (hs : s.size ≤ 1048576) : ∃ r : List Note × Bool, Ev (fun k => Be.f k s) r ∧ Ev (fun k => Bi.f k s) r ∧ r.1.length ≤ 10 := by
  obtain ⟨ri, hi, hi2, hi3⟩ := implRep_ev s.size s [] (Nat.le_refl _) hs (by simp; omega)
  have hspec : ∃ r, Ev (fun k => Be.f k s) r ∧ (r = ([], false) ∨ ∃ l, report l = true ∧ told l = s ∧ r = (l, true)) ∧ ∀ l, report l = true → told l = s → r = (l, true) := by
    unfold Be.f
    simp only [Option.bind_some]
    by_cases c : (s.size : Int) > 2000
    · refine ⟨([], false), Ev.congr (fun k => if_pos c) (Ev.now _), .inl rfl, fun l h1 h2 => ?_⟩
      obtain ⟨hl, ho⟩ := report_ok h1
      have := told_size _ l rfl ho
      rw [h2] at this
      omega
    · obtain ⟨r, h1, h2, h3⟩ := specRep_ev s (by omega) s.size 0 [] (by omega) (by simp) (by omega)
      refine ⟨r, Ev.congr (fun k => if_neg c) h1, h2, fun l q1 q2 => h3 l q1 q2 (fun hm => ?_) (fun hm => ?_)⟩
      · subst hm; rw [← q2]; exact Nat.le_refl 0
      · have e : B s = Gs l := by rw [← q2, B_told]
        cases l with
        | nil => exact absurd rfl hm
        | cons x m =>
          refine ⟨?_, by rw [List.drop_zero, e]⟩
          have := List.length_pos_iff.2 (toldL_ne x m)
          rw [← e, Ew] at this
          exact this
  obtain ⟨rs, hs1, hs2, hs3⟩ := hspec
  have heq : ri = rs := by
    rcases hi2 with h | ⟨m, hm, hrep, hr⟩
    · rcases hs2 with h' | ⟨l, q1, q2, q3⟩
      · rw [h, h']
      · have := hi3 l (by rw [← B_told, q2]) q1
        rw [this, q3]; rfl
    · rw [hr, hs3 m hrep (Gw (by rw [B_told, hm]))]; rfl
  refine ⟨rs, hs1, by rw [heq] at hi; exact hi, ?_⟩
  rcases hs2 with h | ⟨l, q1, _, q3⟩
  · rw [h]; simp
  · rw [q3]; exact (report_ok q1).1
/-- Marks written into a list of notes are found again. -/
theorem markHeld (l : List Note) (h : l.length ≤ 1048576) : ∃ y : List Note, Ev (fun k => Dq.f k l 1) (4 * (l.length : Int) + 1, y) ∧ Ev (fun k => Cf.f k y 1) (4 * (l.length : Int) + 1) := by
  have key : ∀ (d n : Nat) (x : List Note), x.length = l.length → n + d = l.length → ∃ y : List Note, Ev (fun k => Dq.l0 k x (4 * (n : Int) + 1) (n : Int)) (4 * (l.length : Int) + 1, y) ∧ y.length = l.length ∧ (∀ j : Nat, j < n → y[j]? = x[j]?) ∧ Ev (fun k => Cf.l0 k y (4 * (n : Int) + 1) (n : Int)) (4 * (l.length : Int) + 1) := by
    intro d
    induction d with
    | zero =>
      intro n x hx hn
      obtain rfl : n = l.length := by omega
      refine ⟨x, Ev.step (f := fun _ => some _) (fun k => by simp only [Dq.l0]; rw [if_neg (by omega)]) (Ev.now _), hx, fun _ _ => rfl, Ev.step (f := fun _ => some _) (fun k => by simp only [Cf.l0]; rw [if_neg (by omega)]) (Ev.now _)⟩
    | succ d ih =>
      intro n x hx hn
      obtain ⟨t, ht⟩ := mark_ex (4 * (n : Int) + 2) (by omega) (by omega)
      have w1 : wrap64 (4 * (n : Int) + 1 + 1) = 4 * (n : Int) + 2 := by rw [Eu (by omega) (by omega)]; omega
      have w2 : wrap64 (4 * (n : Int) + 2 + 1) = 4 * (n : Int) + 3 := by rw [Eu (by omega) (by omega)]; omega
      have w3 : wrap64 (4 * (n : Int) + 3 + 1) = 4 * (n : Int) + 4 := by rw [Eu (by omega) (by omega)]; omega
      have w4 : wrap64 (4 * (n : Int) + 4 + 1) = 4 * ((n + 1 : Nat) : Int) + 1 := by rw [Eu (by omega) (by omega)]; omega
      have hn2 : n < x.length := by omega
      obtain ⟨y, hy1, hy2, hy3, hy4⟩ := ih (n + 1) (x.set n (⟨4 * (n : Int) + 1, t, 4 * (n : Int) + 3, 4 * (n : Int) + 4⟩ : Note)) (by rw [List.length_set]; exact hx) (by omega)
      have hny : n < y.length := by omega
      have hyn : y[n] = (⟨4 * (n : Int) + 1, t, 4 * (n : Int) + 3, 4 * (n : Int) + 4⟩ : Note) := by
        have := hy3 n (by omega)
        rw [List.getElem?_eq_getElem hny, List.getElem?_eq_getElem (by rw [List.length_set]; exact hn2), List.getElem_set_self] at this
        exact Option.some.inj this
      refine ⟨y, Ev.step (f := fun k => (Dp.f k (4 * (n : Int) + 2)).bind fun t => Dq.l0 k (x.set n (⟨4 * (n : Int) + 1, t, 4 * (n : Int) + 3, 4 * (n : Int) + 4⟩ : Note)) (4 * ((n + 1 : Nat) : Int) + 1) ((n + 1 : Nat) : Int)) (fun k => ?_) (Ev.bind ht hy1), hy2, fun j hj => ?_, Ev.step (f := fun k => (Dp.f k (4 * (n : Int) + 2)).bind fun t => if y[n].f1.toList = t.toList then (if y[n].f2 = 4 * (n : Int) + 3 then (if y[n].f3 = 4 * (n : Int) + 4 then Cf.l0 k y (4 * ((n + 1 : Nat) : Int) + 1) ((n + 1 : Nat) : Int) else some (-1)) else some (-1)) else some (-1)) (fun k => ?_) (Ev.bind ht (Ev.congr (fun k => ?_) hy4))⟩
      · simp only [Dq.l0]
        rw [if_pos (by omega), if_pos (by omega), w1, w2, w3, w4, wrap_succ (by omega)]
        simp only [Option.bind_some, Int.toNat_natCast, List.set_set]
        refine congrArg (Option.bind _) (funext fun t => ?_)
        have rdS : ∀ v : Note, Ak (x.set n v) (n : Int) = v := fun v => by rw [rdN _ n (by rw [List.length_set]; exact hn2), List.getElem_set_self]
        simp only [rdS]
      · rw [hy3 j (by omega), List.getElem?_set_ne (by omega)]
      · simp only [Cf.l0]
        rw [if_pos (by omega), if_pos (by omega), rdN y n hny, w1, w2, w3, w4, wrap_succ (by omega), if_pos (by rw [hyn])]
      · rw [hyn, if_pos rfl, if_pos rfl, if_pos rfl]
  obtain ⟨y, h1, _, _, h4⟩ := key l.length 0 l rfl (by omega)
  exact ⟨y, h1, h4⟩
end Go.Proofs.YtghnljoaklmakaaDoor.X

namespace Go.Proofs.YtghnljoaklmakaaDoor.Pure
open Go.RowKit Go.Proofs.YtghnljoaklmakaaDoorW.PrintWords Go.Proofs.YtghnljoaklmakaaDoorL Go.Proofs.YtghnljoaklmakaaDoor.X
theorem FnExactParseReport : OFnExactParseReport.Pure := by
  intro s hs
  refine ev_rounds ?_
  unfold Bd.f
  by_cases c : (s.size : Int) > 1048576
  · simp only [if_pos c]; exact Ev.now _
  · simp only [if_neg c]
    obtain ⟨r, h1, h2, hl⟩ := reportBoth s (by omega)
    obtain ⟨y, hm, hh⟩ := markHeld r.1 (by omega)
    refine Ev.bind h1 (Ev.bind h2 (Ev.bind (eqNoteS_ev r.1 (by omega)) ?_))
    simp only [if_true, bne_self_eq_false]
    refine Ev.step (f := fun k => (Dq.f k r.1 1).bind fun bt => (Cf.f k bt.2 1).bind fun t => if t < 0 then some false else if t = bt.1 then ((Bi.f k s).bind fun b2 => (Cm.f k b2.1 r.1).bind fun t2 => if t2 = true then Bd.j1 k bt.2 bt.1 (b2.2 != r.2) else Bd.j1 k bt.2 bt.1 true) else some false) (fun k => by simp only [Bd.j0, Bool.false_eq_true, if_false]) ?_
    refine Ev.bind hm (Ev.bind hh (Ev.congr (fun k => by rw [if_neg (by omega), if_pos rfl]) (Ev.bind h2 (Ev.bind (eqNoteS_ev r.1 (by omega)) ?_))))
    simp only [if_true, bne_self_eq_false]
    refine Ev.step (f := fun k => (Cf.f k y 1).bind fun t => if t < 0 then some false else if t = 4 * (r.1.length : Int) + 1 then some true else some false) (fun k => by simp only [Bd.j1, Bool.false_eq_true, if_false]) (Ev.bind hh (Ev.congr (fun k => by rw [if_neg (by omega), if_pos rfl]) (Ev.now _)))
end Go.Proofs.YtghnljoaklmakaaDoor.Pure

namespace Go.Proofs.YtghnljoaklmakaaDoorHs
open Go
theorem handed_shaped {H : Type} {enc : TypeId × Value → H} {a : Assume} {C : Checked} {os : Os} {f : FuncId} {fn : Func} {s : ChangeSpec} {conds : List PathCond} {apart fresh handsOn again : Bool} {X : World → Array Value → Prop}
    (hX : ∀ (w w' : World) (args : Array Value), w.heap = w'.heap → X w args → X w' args)
    (own : ownKnob C.prog.godebug = none) (started : os.Started) (noInit : C.prog.inits.idxOf? f = none) (hfn : C.prog.funcs[f]? = some fn)
    (witness : ∃ (w : World) (tape : Tape) (i : Input), w.os = os ∧ (w.forCall tape i).Shaped C.prog ∧ i.vars = [] ∧ Input.okWide C.prog (w.forCall tape i) .any w.heap.size f i ∧
      ((s.pre enc C.prog fn conds apart (w.forCall tape i).memory i.args ∧ X (w.forCall tape i).memory i.args) ∧ sizedMet enc C.prog fn (OpenSpec.ofChange s) apart (w.forCall tape i).memory i.args) ∧ a.holds C.prog (lone (Frame.enter C.prog f i.args .normal) [] (w.forCall tape i)))
    (contract : ∀ (W : World) (base : Nat) (args : Array Value) (ds gs : List (DataW H)) (before : List MemPlace),
      (∀ (j : Nat) t v, fn.params[j]? = some t → args[j]? = some v → Value.okWide C.prog W .any base t v) →
      DataW.Whole enc C.prog fn.params.toList s.vars apart W args.toList ds gs before →
      conds.all (PathCond.test C.prog ⟨fn.params.toList, ds, s.plain.varTypes C.prog, gs⟩) = true →
      (DataW.weightsEach C.prog (fn.params.toList ++ s.plain.varTypes C.prog) (ds ++ gs)).all (· ≤ reachBytes) = true → X W args →
      W.ShapedOpen C.prog →
      Calls C.prog f args W fun e W' => ∃ v, e = .returned v ∧ s.post enc C.prog fn apart fresh handsOn again W args v W') :
    ReturnsInHanded a C os f .any (fun w args => (s.pre enc C.prog fn conds apart w args ∧ X w args) ∧ sizedMet enc C.prog fn (OpenSpec.ofChange s) apart w args) (s.post enc C.prog fn apart fresh handsOn again) := by
  refine returnsInHanded_of_calls own started noInit witness ?_
  intro w tape i _ hsh _ hok hpre hholds
  obtain ⟨_, _, _, fn', hfn', _, _, _, _, hval⟩ := hok
  obtain rfl : fn' = fn := Option.some.inj (hfn'.symm.trans hfn)
  obtain ⟨⟨⟨ds, gs, before, hw, hc⟩, hx⟩, hz⟩ := hpre
  have hw' := DataW.Whole.of_heap (w' := w.forCall tape i) (by rfl) hw
  refine (contract (w.forCall tape i) w.heap.size i.args ds gs before hval hw' hc (hz.weights hw) (hX _ _ _ (by rfl) hx) hsh).mono fun e W' ⟨v, he, hp⟩ => ?_
  subst he
  exact ChangeSpec.post_blind hp
end Go.Proofs.YtghnljoaklmakaaDoorHs


namespace Go.Proofs.YtghnljoaklmakaaDoor.fnExactParseReport
open Go.ChangeShapes Go.WideShapes Go.ChangeAt Go.RowKit
open Go.ChangeMaps (open_string shut_string)
open Go.Joins
open Go.Proofs.YtghnljoaklmakaaDoorW.PrintWords Go.Proofs.YtghnljoaklmakaaDoorW.PrintLast Go.Proofs.YtghnljoaklmakaaDoorW.PrintMore
open Go.Proofs.YtghnljoaklmakaaDoorZ Go.Proofs.YtghnljoaklmakaaDoor.X Go.Proofs.YtghnljoaklmakaaDoor.X.OFnExactParseReport
set_option linter.unusedVariables false
set_option linter.unusedSimpArgs false
theorem own : ownKnob Tryd.prog.godebug = none := by kernel_rfl
theorem laidOut : laidOutB Tryd.prog = true := by kernel_rfl
open Go Go.Proofs.YtghnljoaklmakaaDoorG
def laidL : List (String × DataW Unit) := [("math/bits.deBruijn32tab", Rows.laid_math_bits_deBruijn32tab), ("math/bits.deBruijn64tab", Rows.laid_math_bits_deBruijn64tab), ("internal/strconv.uint64pow10", Rows.laid_internal_strconv_uint64pow10), ("strconv.ErrRange", Rows.laid_strconv_ErrRange), ("strconv.ErrSyntax", Rows.laid_strconv_ErrSyntax)]
theorem globOf {W : World} (h : laidMetH Tryd.prog laidL W) (hs : W.ShapedOpen Tryd.prog) : Eo W := by
  rw [MakeChecks.laidMetH_plain _ _ _ (by kernel_rfl)] at h
  exact Eo.of_tabs (ts := [105, 110, 118, 97, 108, 105, 100, 32, 115, 121, 110, 116, 97, 120]) (tr := [118, 97, 108, 117, 101, 32, 111, 117, 116, 32, 111, 102, 32, 114, 97, 110, 103, 101]) (h.filter fun x => x.1 == "internal/strconv.uint64pow10") (h.filter fun x => x.1 == "strconv.ErrSyntax") (h.filter fun x => x.1 == "strconv.ErrRange") (Go.Proofs.Tryd.laysM219.s1_3 W hs)
set_option maxRecDepth 100000 in
set_option maxHeartbeats 2000000 in
theorem lifted (os : Os) (started : os.Started) (H : Type) (enc : TypeId × Value → H) :
    ReturnsInHanded {} Tryd.checked os 6 .any (fun w args => (Rows.fnExactParseReportSpec.pre enc Tryd.prog Tryd.f6 Rows.fnExactParseReportRow.domain false w args ∧ laidMetH Tryd.prog laidL w) ∧ sizedMet enc Tryd.prog Tryd.f6 (OpenSpec.ofChange Rows.fnExactParseReportSpec) false w args) (Rows.fnExactParseReportSpec.post enc Tryd.prog Tryd.f6 false true false false) := by
  refine Go.Proofs.YtghnljoaklmakaaDoorHs.handed_shaped (C := Tryd.checked) (X := fun w _ => laidMetH Tryd.prog laidL w) (fun _ _ _ hh h => h.of_heap hh) own started (by kernel_rfl) Tryd.func6
    (ChangeSpec.witness_shaped (enc := enc) (C := Tryd.checked) (os := os) (X := fun w _ => laidMetH Tryd.prog laidL w) false (World.laidAll Tryd.prog os laidL) #[.string ByteArray.empty] 8 (World.laidAll_os _ _ _)
      (World.shaped_of_ZipB (by kernel_rfl) (by kernel_rfl)) (by kernel_rfl) (by kernel_rfl) (by kernel_rfl)
      (by rw [MakeChecks.laidMetH_plain _ _ _ (by kernel_rfl)]; exact laidMet_laidAll _ (by kernel_rfl) (by kernel_rfl))) ?_
  intro W base args ds gs before hval0 hW hcnd hsz0 hL hSh
  have hG := globOf hL hSh
  have hsz : (DataW.weightsEach Tryd.prog (Tryd.f6.params.toList ++ Rows.fnExactParseReportSpec.plain.varTypes Tryd.prog) (ds ++ gs)).all (· ≤ reachBytes) = true := hsz0
  have hval : ∀ (j : Nat) t v, Tryd.f6.params[j]? = some t → args[j]? = some v → Value.okWide Tryd.prog W .any base t v := hval0
  have hW' := hW
  obtain ⟨p, q, hA0, hV, rfl, hfz, hnd⟩ := hW
  have hA : DataW.TrodAll enc Tryd.prog W 0 (fun _ => true) true Tryd.f6.params.toList args.toList ds p := hA0
  rw [Tryd.params6] at hA hval hsz
  obtain ⟨v0, vs0, d0, ds0, p0, q0, hargs, rfl, rfl, h0, r0⟩ := trodAll_cons hA
  obtain ⟨rfl, rfl, rfl⟩ := trodAll_nil r0
  obtain rfl : args = #[v0] := by cases args; simp_all
  obtain ⟨rfl, rfl⟩ := trodVars_none hV
  obtain ⟨a0, rfl, rfl, rfl, y0⟩ := open_string Tryd.underlying9 (hval 0 9 v0 rfl rfl) h0
  have w0 : a0.size ≤ 140737488351232 := by
    have z := sized_string hsz (j := 0) (t := 9) rfl rfl
    rw [Array.length_toList] at z
    exact z
  clear hA0 hval0 hsz0 hsz
  obtain ⟨k, h⟩ := Go.Proofs.YtghnljoaklmakaaDoor.Pure.FnExactParseReport a0 w0
  refine (Bd.calls k a0 true W hG h rfl).mono fun e W' ⟨he, bel0⟩ => ?_
  have bel : Below W.heap.size W W' := bel0
  subst he
  exact ⟨_, rfl, _, _, _, [], _, [], hW', trodAll_mk1 (shut_bool Tryd.underlying4 _), (trodAll_cons_mk (shut_string Tryd.underlying9 y0) trodAll_mk0), rfl, bel.frame _, fun h => by cases h⟩
theorem over : Rows.fnExactParseReportRow.holds Tryd.pinned (OpenSpec.ofChange Rows.fnExactParseReportSpec) :=
  OpenClaim.holds_of_wide 6 Tryd.f6 rfl rfl rfl rfl rfl rfl rfl ⟨rfl, rfl, rfl, rfl, rfl⟩ rfl rfl rfl rfl rfl (by kernel_rfl) Tryd.func6 (by kernel_rfl)
    (of_decide_eq_true (by kernel_rfl)) (by unfold Func.isWrapper; first | (rw [if_pos (by decide +kernel)]; kernel_rfl) | (rw [if_neg (by decide +kernel)]; exact ⟨rfl, rfl⟩))
    (fun os started H enc _ => lifted os started H enc)
theorem proved : Rows.FnExactParseReportSaid := over
theorem carded : Rows.FnExactParseReportCardSaid :=
  Claim7.holds_tied_plain_at .later [] [.data, .data, .data, .sentinel, .sentinel] true (true, "473a44862caf675654c5180208842fc01173ba62518eb296b907e25a22484391") true
    proved (fun _ h => by cases h) (by kernel_rfl) (fun _ h => by cases h) fnExactParseReport_row_tie rfl ⟨rfl, rfl⟩ (by kernel_rfl) rfl
    (fun f fn hf hfn => by
      obtain rfl : f = 6 := Option.some.inj ((show Tryd.prog.funcNamed "loop.example/g00906/laws.FnExactParseReport" = some 6 by kernel_rfl).symm.trans hf) |>.symm
      obtain rfl : fn = Tryd.f6 := (Option.some.inj (Tryd.func6.symm.trans hfn)).symm
      exact ⟨by kernel_rfl, fun j t ht => by
        rw [Tryd.params6] at ht
        have hm : t ∈ [9] := by simpa using Array.mem_of_getElem? ht
        have hall : ([9].all fun u => !Tryd.prog.wantsStandIn u) = true := by kernel_rfl
        exact (show Tryd.prog.wantsStandIn t = false by simpa using List.all_eq_true.1 hall t hm)⟩)
    (by kernel_rfl)
#print axioms carded
end Go.Proofs.YtghnljoaklmakaaDoor.fnExactParseReport
namespace Go.Proofs.YtghnljoaklmakaaDoor
/-- The card, under a short name, for the claim. -/
theorem fnExactParseReport_holds : Rows.FnExactParseReportCardSaid := fnExactParseReport.carded
end Go.Proofs.YtghnljoaklmakaaDoor

