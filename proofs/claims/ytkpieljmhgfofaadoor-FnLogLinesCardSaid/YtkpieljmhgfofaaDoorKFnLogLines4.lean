/- Texts that the proof of the law FnLogLines leans on, part 5 of 6. -/
import Derived.Deep.Slices
import Derived.ChangeSame
import Derived.ChangeArms
import Derived.DataReads
import Derived.SizedLaws
import Derived.ProofKit
import Derived.Lib.SmallJoins
import Derived.ChangeOld
import Derived.Below
import Derived.Lib.IndexAny
import Derived.Test.YtkpieljmhgfofaaDoorKFnLogLines0
import Derived.Test.YtkpieljmhgfofaaDoorKFnLogLines1
import Derived.Test.YtkpieljmhgfofaaDoorKFnLogLines2
import Derived.Test.YtkpieljmhgfofaaDoorKFnLogLines3
-- written by a program of this session (wip/ext.py) out of the translation. Not trusted: Lean checks it.
namespace Go.Proofs.YtkpieljmhgfofaaDoor.X
open Go.RowKit Go.Proofs.YtkpieljmhgfofaaDoorW.PrintWords Go.Proofs.YtkpieljmhgfofaaDoorW.PrintLast Go.Proofs.YtkpieljmhgfofaaDoorW.PrintMore
attribute [local go_sem] max2_int min2_int max_two min_two max_three min_three max_four min_four   -- for this text's walks alone
open Go.Proofs.YtkpieljmhgfofaaDoorG
set_option linter.unusedVariables false
set_option linter.unusedSimpArgs false

def Bc.j0 : Nat → Bool → ByteArray → ByteArray → Int → ByteArray → ByteArray → Option (ByteArray × ByteArray × Int × Int)
  | 0, _, _, _, _, _, _ => none
  | k + 1, x13, x330000, x330001, x330002, x331000, x331001 => if x13 = true then (some (x330000, x330001, x330002, 1)) else (if x330002 = 60 then (some (x330000, x330001, x330002, 2)) else ((Bg.f k x330002 x331000 x331001).bind fun t334 => (if x330001.size + t334.size ≤ 9223372036854775807 then (some (x330000, x330001 ++ t334, wrap64 (x330002 + 1), 0)) else (none))))
def Bc.f (k : Nat) (a0_0 : ByteArray) (a0_1 : ByteArray) (a0_2 : Int) (a1_0 : ByteArray) (a1_1 : ByteArray) : Option (ByteArray × ByteArray × Int × Int) := (Em.f k a0_0 a0_1 a0_2).bind fun t332 => (if t332 = true then ((Dk.f k a1_0 a1_1).bind fun t333 => (Bc.j0 k (!t333) a0_0 a0_1 a0_2 a1_0 a1_1)) else (Bc.j0 k true a0_0 a0_1 a0_2 a1_0 a1_1))
theorem Bc.Ee : ∀ k, (∀ y0 y1 y2 y3 y4 y5, LeO (Bc.j0 k y0 y1 y2 y3 y4 y5) (Bc.j0 (k + 1) y0 y1 y2 y3 y4 y5))
  | 0 => fun _ _ _ _ _ _ r h => by simp [Bc.j0] at h
  | k + 1 => by
    have ih0 := Bc.Ee k
    · intro y0 y1 y2 y3 y4 y5
      unfold Bc.j0
      repeat' first
      | (with_reducible exact ih0 _ _ _ _ _ _)
      | (with_reducible exact Dk.mono _ _ _)
      | (with_reducible exact Bg.mono _ _ _ _)
      | (with_reducible exact Em.mono _ _ _ _)
      | (with_reducible exact LeO.refl _)
      | (with_reducible exact LeO.none _)
      | (with_reducible refine LeO.ite ?_ ?_)
      | (with_reducible refine LeO.bind ?_ (fun _ => ?_))
      | exact ih0 _ _ _ _ _ _
      | exact Dk.mono _ _ _
      | exact Bg.mono _ _ _ _
      | exact Em.mono _ _ _ _
      | exact LeO.none _
      | refine LeO.ite ?_ ?_
      | refine LeO.bind ?_ (fun _ => ?_)
theorem Bc.mono : ∀ a0 a1 a2 a3 a4 k, LeO (Bc.f k a0 a1 a2 a3 a4) (Bc.f (k + 1) a0 a1 a2 a3 a4) := by
  intro a0 a1 a2 a3 a4 k
  have ih0 := Bc.Ee k
  unfold Bc.f
  repeat' first
      | (with_reducible exact ih0 _ _ _ _ _ _)
      | (with_reducible exact Dk.mono _ _ _)
      | (with_reducible exact Bg.mono _ _ _ _)
      | (with_reducible exact Em.mono _ _ _ _)
      | (with_reducible exact LeO.refl _)
      | (with_reducible exact LeO.none _)
      | (with_reducible refine LeO.ite ?_ ?_)
      | (with_reducible refine LeO.bind ?_ (fun _ => ?_))
      | exact ih0 _ _ _ _ _ _
      | exact Dk.mono _ _ _
      | exact Bg.mono _ _ _ _
      | exact Em.mono _ _ _ _
      | exact LeO.none _
      | refine LeO.ite ?_ ?_
      | refine LeO.bind ?_ (fun _ => ?_)
def Bc.T5 : Bool × List (List Nat × List Nat) := (true, [([], []), ([0], [0]), ([], []), ([2], [2]), ([], []), ([3, 4], [3, 4]), ([1, 5], [1, 5]), ([0, 1, 2, 3, 4, 5, 6], []), ([7, 6, 5, 0, 1, 2, 3, 4, 5, 6], [6, 7])])
def Bc.B5 : List Nat := [0, 1, 0, 4, 0, 28, 63, 127, 255]
theorem Bc.tab5 : rtab .any (opsOf Tryd.f28 5) = Bc.T5 := by kernel_rfl
theorem Bc.bits5 : G9 Bc.T5.2 Bc.B5 = true := by kernel_rfl
set_option maxHeartbeats 8000000 in
set_option maxRecDepth 100000 in
theorem Bc.calls (k : Nat) (a0_0 : ByteArray) (a0_1 : ByteArray) (a0_2 : Int) (a1_0 : ByteArray) (a1_1 : ByteArray) (r1 : ByteArray) (r2 : ByteArray) (r3 : Int) (r4 : Int) (w : World) (h : Bc.f k a0_0 a0_1 a0_2 a1_0 a1_1 = some (r1, r2, r3, r4)) :
    Calls Tryd.prog 28 #[.agg #[.string a0_0, .string a0_1, .int .i64 a0_2], .agg #[.string a1_0, .string a1_1]] w fun e w' => e = .returned (.tuple #[.agg #[.string r1, .string r2, .int .i64 r3], .int .i64 r4]) ∧ Below w.heap.size w w' := by
  have hu31 := Tryd.underlying31
  have hu27 := Tryd.underlying27
  have HB := Aside0.mk (Below.refl w.heap.size w)
  have H : ((Em.f k a0_0 a0_1 a0_2).bind fun t332 => (if t332 = true then ((Dk.f k a1_0 a1_1).bind fun t333 => (Bc.j0 k (!t333) a0_0 a0_1 a0_2 a1_0 a1_1)) else (Bc.j0 k true a0_0 a0_1 a0_2 a1_0 a1_1))) = some (r1, r2, r3, r4) := h
  clear h
  have HC3 := Aside0.mk H
  clear H
  go_enter Tryd.func28, Tryd.ntmps28
  go_upto_region 1 with (first | ((with_reducible refine Az (N := 2) rfl ?_); refine Ba ?hg (N := 2) ?hd (cs := #[.string a0_0, .string a0_1, .int .i64 a0_2]) (t := 31) ?hr ?_; (case hd => rfl); (case hg => rfl); (case hr => first | (go_simp; done) | (go_simp; rfl)); intro gb329 hg w4 hbox hb; have n0_ := Aside0.mk (Ag (by repeat (first | (with_reducible first | exact HB.out | apply below_alloc | apply pw_below_drewN | apply below_drew1) | exact HB.out)) hb); have n1_ := Aside0.mk (hbox); have n2_ := Aside0.mk ((by rw [hg]; exact (Ah (by repeat (first | (with_reducible first | exact HB.out | apply below_alloc | apply pw_below_drewN | apply below_drew1) | exact HB.out))) : w.heap.size ≤ gb329)); have n3_ := Aside0.mk ((by rw [hg]; exact (Ah (by repeat (first | (with_reducible first | exact HB.out | apply below_alloc | apply pw_below_drewN | apply below_drew1) | exact HB.out))) : w.heap.size ≤ gb329)); clear HB; have HB := n0_; have BK329 := n1_; have GW329 := n2_; have GE329 := n3_; clear n0_ n1_ n2_ n3_; clear hb hbox hg) | ((with_reducible refine Az (N := 3) rfl ?_); refine Ba ?hg (N := 3) ?hd (cs := #[.string a1_0, .string a1_1]) (t := 27) ?hr ?_; (case hd => rfl); (case hg => rfl); (case hr => first | (go_simp; done) | (go_simp; rfl)); intro gb330 hg w5 hbox hb; have n0_ := Aside0.mk (Ak (g := gb329) (o := .cells #[.string a0_0, .string a0_1, .int .i64 a0_2] 31 (0, 0)) (by (with_reducible repeat (first | refine Ac ?_ _ | refine Ad ?_ | refine Aa ?_ _)); exact BK329.out) hb); have n1_ := Aside0.mk (Ag (by repeat (first | (with_reducible first | exact HB.out | apply below_alloc | apply pw_below_drewN | apply below_drew1 | refine below_set ?_ GE329.out) | exact HB.out)) hb); have n2_ := Aside0.mk (hbox); have n3_ := Aside0.mk ((by rw [hg]; exact (Ah (by repeat (first | (with_reducible first | exact HB.out | apply below_alloc | apply pw_below_drewN | apply below_drew1 | refine below_set ?_ GE329.out) | exact HB.out))) : w.heap.size ≤ gb330)); have n4_ := Aside0.mk ((by rw [hg]; exact (Ah (by repeat (first | (with_reducible first | exact HB.out | apply below_alloc | apply pw_below_drewN | apply below_drew1 | refine below_set ?_ GE329.out) | exact HB.out))) : w.heap.size ≤ gb330)); have n5_ := Aside0.mk ((by rw [hg]; exact Nat.ne_of_lt (Cf (g := gb329) (o := .cells #[.string a0_0, .string a0_1, .int .i64 a0_2] 31 (0, 0)) (by (with_reducible repeat (first | refine Ac ?_ _ | refine Ad ?_ | refine Aa ?_ _)); exact BK329.out)) : gb329 ≠ gb330)); have n6_ := Aside0.mk ((by rw [hg]; exact Nat.ne_of_gt (Cf (g := gb329) (o := .cells #[.string a0_0, .string a0_1, .int .i64 a0_2] 31 (0, 0)) (by (with_reducible repeat (first | refine Ac ?_ _ | refine Ad ?_ | refine Aa ?_ _)); exact BK329.out)) : gb330 ≠ gb329)); clear BK329; clear HB; have BK329 := n0_; have HB := n1_; have BK330 := n2_; have GW330 := n3_; have GE330 := n4_; have NB329_330 := n5_; have NB330_329 := n6_; clear n0_ n1_ n2_ n3_ n4_ n5_ n6_; clear hb hbox hg) | ((with_reducible refine Az (N := 4) rfl ?_); refine Ba ?hg (N := 4) ?hd (cs := #[.string (⟨#[]⟩ : ByteArray), .string (⟨#[]⟩ : ByteArray), .int .i64 0]) (t := 31) ?hr ?_; (case hd => rfl); (case hg => rfl); (case hr => first | (go_simp; done) | (go_simp; rfl)); intro gb331 hg w6 hbox hb; have n0_ := Aside0.mk (Ak (g := gb329) (o := .cells #[.string a0_0, .string a0_1, .int .i64 a0_2] 31 (0, 0)) (by (with_reducible repeat (first | refine Ac ?_ _ | refine Ad ?_ | refine Aa ?_ _)); exact BK329.out) hb); have n1_ := Aside0.mk (Ak (g := gb330) (o := .cells #[.string a1_0, .string a1_1] 27 (0, 0)) (by (with_reducible repeat (first | refine Ac ?_ _ | refine Ad ?_ | refine Aa ?_ _)); exact BK330.out) hb); have n2_ := Aside0.mk (Ag (by repeat (first | (with_reducible first | exact HB.out | apply below_alloc | apply pw_below_drewN | apply below_drew1 | refine below_set ?_ GE329.out | refine below_set ?_ GE330.out) | exact HB.out)) hb); have n3_ := Aside0.mk (hbox); have n4_ := Aside0.mk ((by rw [hg]; exact (Ah (by repeat (first | (with_reducible first | exact HB.out | apply below_alloc | apply pw_below_drewN | apply below_drew1 | refine below_set ?_ GE329.out | refine below_set ?_ GE330.out) | exact HB.out))) : w.heap.size ≤ gb331)); have n5_ := Aside0.mk ((by rw [hg]; exact (Ah (by repeat (first | (with_reducible first | exact HB.out | apply below_alloc | apply pw_below_drewN | apply below_drew1 | refine below_set ?_ GE329.out | refine below_set ?_ GE330.out) | exact HB.out))) : w.heap.size ≤ gb331)); have n6_ := Aside0.mk ((by rw [hg]; exact Nat.ne_of_lt (Cf (g := gb329) (o := .cells #[.string a0_0, .string a0_1, .int .i64 a0_2] 31 (0, 0)) (by (with_reducible repeat (first | refine Ac ?_ _ | refine Ad ?_ | refine Aa ?_ _)); exact BK329.out)) : gb329 ≠ gb331)); have n7_ := Aside0.mk ((by rw [hg]; exact Nat.ne_of_gt (Cf (g := gb329) (o := .cells #[.string a0_0, .string a0_1, .int .i64 a0_2] 31 (0, 0)) (by (with_reducible repeat (first | refine Ac ?_ _ | refine Ad ?_ | refine Aa ?_ _)); exact BK329.out)) : gb331 ≠ gb329)); have n8_ := Aside0.mk ((by rw [hg]; exact Nat.ne_of_lt (Cf (g := gb330) (o := .cells #[.string a1_0, .string a1_1] 27 (0, 0)) (by (with_reducible repeat (first | refine Ac ?_ _ | refine Ad ?_ | refine Aa ?_ _)); exact BK330.out)) : gb330 ≠ gb331)); have n9_ := Aside0.mk ((by rw [hg]; exact Nat.ne_of_gt (Cf (g := gb330) (o := .cells #[.string a1_0, .string a1_1] 27 (0, 0)) (by (with_reducible repeat (first | refine Ac ?_ _ | refine Ad ?_ | refine Aa ?_ _)); exact BK330.out)) : gb331 ≠ gb330)); clear BK329; clear BK330; clear HB; have BK329 := n0_; have BK330 := n1_; have HB := n2_; have BK331 := n3_; have GW331 := n4_; have GE331 := n5_; have NB329_331 := n6_; have NB331_329 := n7_; have NB330_331 := n8_; have NB331_330 := n9_; clear n0_ n1_ n2_ n3_ n4_ n5_ n6_ n7_ n8_ n9_; clear hb hbox hg))
  (try simp only [Act.put, List.setIfInBounds_toArray, List.set_cons_zero, List.set_cons_succ])
  go_cut [13] (fun v13 wc => ∃ (kq : Nat) (x13_2 : Bool), v13 = .bool x13_2 ∧ Aside0 (Bc.j0 kq x13_2 a0_0 a0_1 a0_2 a1_0 a1_1 = some (r1, r2, r3, r4)) ∧ Aside0 (kq ≤ k) ∧ Aside0 (wc.heap[gb329]? = some (.cells #[.string a0_0, .string a0_1, .int .i64 a0_2] 31 (0, 0))) ∧ Aside0 (wc.heap[gb330]? = some (.cells #[.string a1_0, .string a1_1] 27 (0, 0))) ∧ Aside0 (wc.heap[gb331]? = some (.cells #[.string (⟨#[]⟩ : ByteArray), .string (⟨#[]⟩ : ByteArray), .int .i64 0] 31 (0, 0))) ∧ Aside0 (Below w.heap.size w wc))
  case first =>
    have H := HC3.out
    clear HC3
    replace H := Option.bind_eq_some_iff.mp H
    obtain ⟨t332, A70, H⟩ := H
    replace H : (if t332 = true then ((Dk.f k a1_0 a1_1).bind fun t333 => (Bc.j0 k (!t333) a0_0 a0_1 a0_2 a1_0 a1_1)) else (Bc.j0 k true a0_0 a0_1 a0_2 a1_0 a1_1)) = some (r1, r2, r3, r4) := H
    have A7 := Aside0.mk A70
    clear A70
    by_cases c8 : t332 = true
    · subst c8
      have H1 : ((Dk.f k a1_0 a1_1).bind fun t333 => (Bc.j0 k (!t333) a0_0 a0_1 a0_2 a1_0 a1_1)) = some (r1, r2, r3, r4) := by rw [if_pos rfl] at H; exact H
      clear H
      have H := H1
      clear H1
      replace H := Option.bind_eq_some_iff.mp H
      obtain ⟨t333, A90, H⟩ := H
      replace H : (Bc.j0 k (!t333) a0_0 a0_1 a0_2 a1_0 a1_1) = some (r1, r2, r3, r4) := H
      have A9 := Aside0.mk A90
      clear A90
      have H' := Aside0.mk H
      clear H
      have hnb10 := NB329_330.out
      have hnc10 := NB330_329.out
      have hnb11 := NB329_331.out
      have hnc11 := NB331_329.out
      have hcz12_0 : w6.cell? ⟨gb329, 0, none⟩ = some (.string a0_0) := (Af BK329.out 0).trans rfl
      have hcz12_1 : w6.cell? ⟨gb329, 1, none⟩ = some (.string a0_1) := (Af BK329.out 1).trans rfl
      have hcz12_2 : w6.cell? ⟨gb329, 2, none⟩ = some (.int .i64 a0_2) := (Af BK329.out 2).trans rfl
      have hfz12_0 := Ae BK329.out 0
      have hfz12_1 := Ae BK329.out 1
      have hfz12_2 := Ae BK329.out 2
      go_wp2_with (first | ((with_reducible refine Am (f := 49) rfl ?_); refine Au (some 7) rfl rfl Tryd.func49 (by kernel_rfl) rfl #[.agg #[.string a0_0, .string a0_1, .int .i64 a0_2]] rfl (by (try simp only [List.map_toArray, List.map_cons, List.map_nil]); first | done | rfl | (simp only [List.length_drop, List.length_take]; rfl)) ?_; (with_reducible refine (Em.calls k a0_0 a0_1 a0_2 true _ A7.out).mono ?_); rintro e w13 ⟨rfl, hb⟩; refine ⟨_, rfl, ?_⟩; have n0_ := Aside0.mk (Ak (g := gb329) (o := .cells #[.string a0_0, .string a0_1, .int .i64 a0_2] 31 (0, 0)) (by (with_reducible repeat (first | refine Ac ?_ _ | refine Ad ?_ | refine Aa ?_ _)); exact BK329.out) hb); have n1_ := Aside0.mk (Ak (g := gb330) (o := .cells #[.string a1_0, .string a1_1] 27 (0, 0)) (by (with_reducible repeat (first | refine Ac ?_ _ | refine Ad ?_ | refine Aa ?_ _)); exact BK330.out) hb); have n2_ := Aside0.mk (Ak (g := gb331) (o := .cells #[.string (⟨#[]⟩ : ByteArray), .string (⟨#[]⟩ : ByteArray), .int .i64 0] 31 (0, 0)) (by (with_reducible repeat (first | refine Ac ?_ _ | refine Ad ?_ | refine Aa ?_ _)); exact BK331.out) hb); have n3_ := Aside0.mk (Ag (by repeat (first | (with_reducible first | exact HB.out | apply below_alloc | apply pw_below_drewN | apply below_drew1 | refine below_set ?_ GE329.out | refine below_set ?_ GE330.out | refine below_set ?_ GE331.out) | exact HB.out)) hb); clear BK329; clear BK330; clear BK331; clear HB; have BK329 := n0_; have BK330 := n1_; have BK331 := n2_; have HB := n3_; clear n0_ n1_ n2_ n3_; (try clear hb); (try clear hb2); (try clear hk); (try clear hi); have hnb14 := NB330_331.out; have hnc14 := NB331_330.out; have hcz15_0 : w13.cell? ⟨gb330, 0, none⟩ = some (.string a1_0) := (Af BK330.out 0).trans rfl; have hcz15_1 : w13.cell? ⟨gb330, 1, none⟩ = some (.string a1_1) := (Af BK330.out 1).trans rfl; have hfz15_0 := Ae BK330.out 0; have hfz15_1 := Ae BK330.out 1) | (go_at_call 43; (with_reducible refine (Dk.calls k a1_0 a1_1 t333 _ A9.out).mono ?_); rintro e w16 ⟨rfl, hb⟩; have n0_ := Aside0.mk (Ak (g := gb329) (o := .cells #[.string a0_0, .string a0_1, .int .i64 a0_2] 31 (0, 0)) (by (with_reducible repeat (first | refine Ac ?_ _ | refine Ad ?_ | refine Aa ?_ _)); exact BK329.out) hb); have n1_ := Aside0.mk (Ak (g := gb330) (o := .cells #[.string a1_0, .string a1_1] 27 (0, 0)) (by (with_reducible repeat (first | refine Ac ?_ _ | refine Ad ?_ | refine Aa ?_ _)); exact BK330.out) hb); have n2_ := Aside0.mk (Ak (g := gb331) (o := .cells #[.string (⟨#[]⟩ : ByteArray), .string (⟨#[]⟩ : ByteArray), .int .i64 0] 31 (0, 0)) (by (with_reducible repeat (first | refine Ac ?_ _ | refine Ad ?_ | refine Aa ?_ _)); exact BK331.out) hb); have n3_ := Aside0.mk (Ag (by repeat (first | (with_reducible first | exact HB.out | apply below_alloc | apply pw_below_drewN | apply below_drew1 | refine below_set ?_ GE329.out | refine below_set ?_ GE330.out | refine below_set ?_ GE331.out) | exact HB.out)) hb); clear BK329; clear BK330; clear BK331; clear HB; have BK329 := n0_; have BK330 := n1_; have BK331 := n2_; have HB := n3_; clear n0_ n1_ n2_ n3_; (try clear hb); (try clear hb2); (try clear hk); (try clear hi)))
      go_meet
      case rel => exact ⟨_, (!t333), (by first | rfl | (simp; done) | (simp [*]; done)), H', ⟨by first | omega | exact Nat.le_refl _⟩, ⟨by (with_reducible repeat (first | refine Ac ?_ _ | refine Ad ?_ | refine Aa ?_ _)); exact BK329.out⟩, ⟨by (with_reducible repeat (first | refine Ac ?_ _ | refine Ad ?_ | refine Aa ?_ _)); exact BK330.out⟩, ⟨by (with_reducible repeat (first | refine Ac ?_ _ | refine Ad ?_ | refine Aa ?_ _)); exact BK331.out⟩, ⟨by repeat (first | (with_reducible first | exact HB.out | apply below_alloc | apply pw_below_drewN | apply below_drew1 | refine below_set ?_ GE329.out | refine below_set ?_ GE330.out | refine below_set ?_ GE331.out) | exact HB.out)⟩⟩
    · replace c8 := Bool.eq_false_iff.mpr c8
      subst c8
      have H1 : (Bc.j0 k true a0_0 a0_1 a0_2 a1_0 a1_1) = some (r1, r2, r3, r4) := by rw [if_neg (show ¬ (false = true) by decide)] at H; exact H
      clear H
      have H := H1
      clear H1
      have H' := Aside0.mk H
      clear H
      have hnb17 := NB329_330.out
      have hnc17 := NB330_329.out
      have hnb18 := NB329_331.out
      have hnc18 := NB331_329.out
      have hcz19_0 : w6.cell? ⟨gb329, 0, none⟩ = some (.string a0_0) := (Af BK329.out 0).trans rfl
      have hcz19_1 : w6.cell? ⟨gb329, 1, none⟩ = some (.string a0_1) := (Af BK329.out 1).trans rfl
      have hcz19_2 : w6.cell? ⟨gb329, 2, none⟩ = some (.int .i64 a0_2) := (Af BK329.out 2).trans rfl
      have hfz19_0 := Ae BK329.out 0
      have hfz19_1 := Ae BK329.out 1
      have hfz19_2 := Ae BK329.out 2
      go_wp2_with (first | ((with_reducible refine Am (f := 49) rfl ?_); refine Au (some 7) rfl rfl Tryd.func49 (by kernel_rfl) rfl #[.agg #[.string a0_0, .string a0_1, .int .i64 a0_2]] rfl (by (try simp only [List.map_toArray, List.map_cons, List.map_nil]); first | done | rfl | (simp only [List.length_drop, List.length_take]; rfl)) ?_; (with_reducible refine (Em.calls k a0_0 a0_1 a0_2 false _ A7.out).mono ?_); rintro e w20 ⟨rfl, hb⟩; refine ⟨_, rfl, ?_⟩; have n0_ := Aside0.mk (Ak (g := gb329) (o := .cells #[.string a0_0, .string a0_1, .int .i64 a0_2] 31 (0, 0)) (by (with_reducible repeat (first | refine Ac ?_ _ | refine Ad ?_ | refine Aa ?_ _)); exact BK329.out) hb); have n1_ := Aside0.mk (Ak (g := gb330) (o := .cells #[.string a1_0, .string a1_1] 27 (0, 0)) (by (with_reducible repeat (first | refine Ac ?_ _ | refine Ad ?_ | refine Aa ?_ _)); exact BK330.out) hb); have n2_ := Aside0.mk (Ak (g := gb331) (o := .cells #[.string (⟨#[]⟩ : ByteArray), .string (⟨#[]⟩ : ByteArray), .int .i64 0] 31 (0, 0)) (by (with_reducible repeat (first | refine Ac ?_ _ | refine Ad ?_ | refine Aa ?_ _)); exact BK331.out) hb); have n3_ := Aside0.mk (Ag (by repeat (first | (with_reducible first | exact HB.out | apply below_alloc | apply pw_below_drewN | apply below_drew1 | refine below_set ?_ GE329.out | refine below_set ?_ GE330.out | refine below_set ?_ GE331.out) | exact HB.out)) hb); clear BK329; clear BK330; clear BK331; clear HB; have BK329 := n0_; have BK330 := n1_; have BK331 := n2_; have HB := n3_; clear n0_ n1_ n2_ n3_; (try clear hb); (try clear hb2); (try clear hk); (try clear hi)))
      go_meet
      case rel => exact ⟨_, (true), (by first | rfl | (simp; done) | (simp [*]; done)), H', ⟨by first | omega | exact Nat.le_refl _⟩, ⟨by (with_reducible repeat (first | refine Ac ?_ _ | refine Ad ?_ | refine Aa ?_ _)); exact BK329.out⟩, ⟨by (with_reducible repeat (first | refine Ac ?_ _ | refine Ad ?_ | refine Aa ?_ _)); exact BK330.out⟩, ⟨by (with_reducible repeat (first | refine Ac ?_ _ | refine Ad ?_ | refine Aa ?_ _)); exact BK331.out⟩, ⟨by repeat (first | (with_reducible first | exact HB.out | apply below_alloc | apply pw_below_drewN | apply below_drew1 | refine below_set ?_ GE329.out | refine below_set ?_ GE330.out | refine below_set ?_ GE331.out) | exact HB.out)⟩⟩
  case rest =>
    clear HC3
    try clear c1
    try clear c2
    try clear p2
    try clear c4
    try clear c8
    try clear c10
    try clear c11
    try clear c14
    try clear c17
    try clear c18
    try clear hcz12_0
    try clear hcz12_1
    try clear hcz12_2
    try clear hcz15_0
    try clear hcz15_1
    try clear hcz19_0
    try clear hcz19_1
    try clear hcz19_2
    try clear hfz12_0
    try clear hfz12_1
    try clear hfz12_2
    try clear hfz15_0
    try clear hfz15_1
    try clear hfz19_0
    try clear hfz19_1
    try clear hfz19_2
    obtain ⟨kq, x13_2, rfl, HA, HJ2, BK329, BK330, BK331, HB⟩ := hcut
    cases kq with
    | zero => exact absurd HA.out (by simp [Bc.j0])
    | succ kj2 =>
      have H := HA.out
      clear HA
      simp only [Bc.j0] at H
      by_cases c21 : x13_2 = true
      · subst c21
        have H1 : (some (a0_0, a0_1, a0_2, 1)) = some (r1, r2, r3, r4) := by rw [if_pos rfl] at H; exact H
        clear H
        have H := H1
        clear H1
        simp only [Option.some.injEq, Prod.mk.injEq] at H
        obtain ⟨rfl, rfl, rfl, rfl⟩ := H
        have hnb22 := NB329_330.out
        have hnc22 := NB330_329.out
        have hnb23 := NB329_331.out
        have hnc23 := NB331_329.out
        have hcz24_0 : wc.cell? ⟨gb329, 0, none⟩ = some (.string a0_0) := (Af BK329.out 0).trans rfl
        have hcz24_1 : wc.cell? ⟨gb329, 1, none⟩ = some (.string a0_1) := (Af BK329.out 1).trans rfl
        have hcz24_2 : wc.cell? ⟨gb329, 2, none⟩ = some (.int .i64 a0_2) := (Af BK329.out 2).trans rfl
        have hfz24_0 := Ae BK329.out 0
        have hfz24_1 := Ae BK329.out 1
        have hfz24_2 := Ae BK329.out 2
        have hnb25 := NB331_330.out
        have hnc25 := NB330_331.out
        have hcz26_0 : wc.cell? ⟨gb331, 0, none⟩ = some (.string (⟨#[]⟩ : ByteArray)) := (Af BK331.out 0).trans rfl
        have hcz26_1 : wc.cell? ⟨gb331, 1, none⟩ = some (.string (⟨#[]⟩ : ByteArray)) := (Af BK331.out 1).trans rfl
        have hcz26_2 : wc.cell? ⟨gb331, 2, none⟩ = some (.int .i64 0) := (Af BK331.out 2).trans rfl
        have hfz26_0 := Ae BK331.out 0
        have hfz26_1 := Ae BK331.out 1
        have hfz26_2 := Ae BK331.out 2
        go_wp2
        refine bodyPost_ret (Fq rfl _ _ gb331 31 #[.string a0_0, .string a0_1, .int .i64 a0_2] (0, 0) _ rfl (by (with_reducible repeat (first | refine Ac ?_ _ | refine Ad ?_ | refine Aa ?_ _)); refine Ar (cs := #[.string a0_0, .string a0_1, .int .i64 0]) ?_ 2 _ rfl; (with_reducible repeat (first | refine Ac ?_ _ | refine Ad ?_ | refine Aa ?_ _)); refine Ar (cs := #[.string a0_0, .string (⟨#[]⟩ : ByteArray), .int .i64 0]) ?_ 1 _ rfl; (with_reducible repeat (first | refine Ac ?_ _ | refine Ad ?_ | refine Aa ?_ _)); refine Ar (cs := #[.string (⟨#[]⟩ : ByteArray), .string (⟨#[]⟩ : ByteArray), .int .i64 0]) ?_ 0 _ rfl; (with_reducible repeat (first | refine Ac ?_ _ | refine Ad ?_ | refine Aa ?_ _)); exact BK331.out) Tryd.underlying31 rfl (by kernel_rfl)) rfl ?_
        exact ⟨by first | rfl | (simp [Aj, Ai] <;> rfl) | (simp [*, Aj, Ai] <;> rfl), by repeat (first | (with_reducible first | exact HB.out | apply below_alloc | apply pw_below_drewN | apply below_drew1 | refine below_set ?_ GE329.out | refine below_set ?_ GE330.out | refine below_set ?_ GE331.out) | exact HB.out)⟩
      · replace c21 := Bool.eq_false_iff.mpr c21
        subst c21
        have H1 : (if a0_2 = 60 then (some (a0_0, a0_1, a0_2, 2)) else ((Bg.f kj2 a0_2 a1_0 a1_1).bind fun t334 => (if a0_1.size + t334.size ≤ 9223372036854775807 then (some (a0_0, a0_1 ++ t334, wrap64 (a0_2 + 1), 0)) else (none)))) = some (r1, r2, r3, r4) := by rw [if_neg (show ¬ (false = true) by decide)] at H; exact H
        clear H
        have H := H1
        clear H1
        by_cases c27 : a0_2 = 60
        · rw [if_pos c27] at H
          have c27b0 : (a0_2 == 60) = true := beq_iff_eq.mpr c27
          have c27b1 : (a0_2 != 60) = false := bne_eq_false_iff_eq.mpr c27
          clear c27
          simp only [Option.some.injEq, Prod.mk.injEq] at H
          obtain ⟨rfl, rfl, rfl, rfl⟩ := H
          have hnb28 := NB329_330.out
          have hnc28 := NB330_329.out
          have hnb29 := NB329_331.out
          have hnc29 := NB331_329.out
          have hcz30_0 : wc.cell? ⟨gb329, 0, none⟩ = some (.string a0_0) := (Af BK329.out 0).trans rfl
          have hcz30_1 : wc.cell? ⟨gb329, 1, none⟩ = some (.string a0_1) := (Af BK329.out 1).trans rfl
          have hcz30_2 : wc.cell? ⟨gb329, 2, none⟩ = some (.int .i64 a0_2) := (Af BK329.out 2).trans rfl
          have hfz30_0 := Ae BK329.out 0
          have hfz30_1 := Ae BK329.out 1
          have hfz30_2 := Ae BK329.out 2
          have hnb31 := NB331_330.out
          have hnc31 := NB330_331.out
          have hcz32_0 : wc.cell? ⟨gb331, 0, none⟩ = some (.string (⟨#[]⟩ : ByteArray)) := (Af BK331.out 0).trans rfl
          have hcz32_1 : wc.cell? ⟨gb331, 1, none⟩ = some (.string (⟨#[]⟩ : ByteArray)) := (Af BK331.out 1).trans rfl
          have hcz32_2 : wc.cell? ⟨gb331, 2, none⟩ = some (.int .i64 0) := (Af BK331.out 2).trans rfl
          have hfz32_0 := Ae BK331.out 0
          have hfz32_1 := Ae BK331.out 1
          have hfz32_2 := Ae BK331.out 2
          go_wp2
          refine bodyPost_ret (Fq rfl _ _ gb331 31 #[.string a0_0, .string a0_1, .int .i64 a0_2] (0, 0) _ rfl (by (with_reducible repeat (first | refine Ac ?_ _ | refine Ad ?_ | refine Aa ?_ _)); refine Ar (cs := #[.string a0_0, .string a0_1, .int .i64 0]) ?_ 2 _ rfl; (with_reducible repeat (first | refine Ac ?_ _ | refine Ad ?_ | refine Aa ?_ _)); refine Ar (cs := #[.string a0_0, .string (⟨#[]⟩ : ByteArray), .int .i64 0]) ?_ 1 _ rfl; (with_reducible repeat (first | refine Ac ?_ _ | refine Ad ?_ | refine Aa ?_ _)); refine Ar (cs := #[.string (⟨#[]⟩ : ByteArray), .string (⟨#[]⟩ : ByteArray), .int .i64 0]) ?_ 0 _ rfl; (with_reducible repeat (first | refine Ac ?_ _ | refine Ad ?_ | refine Aa ?_ _)); exact BK331.out) Tryd.underlying31 rfl (by kernel_rfl)) rfl ?_
          exact ⟨by first | rfl | (simp [Aj, Ai] <;> rfl) | (simp [*, Aj, Ai] <;> rfl), by repeat (first | (with_reducible first | exact HB.out | apply below_alloc | apply pw_below_drewN | apply below_drew1 | refine below_set ?_ GE329.out | refine below_set ?_ GE330.out | refine below_set ?_ GE331.out) | exact HB.out)⟩
        · rw [if_neg c27] at H
          have c27b0 : (a0_2 == 60) = false := beq_eq_false_iff_ne.mpr c27
          have c27b1 : (a0_2 != 60) = true := bne_iff_ne.mpr c27
          replace H := Option.bind_eq_some_iff.mp H
          obtain ⟨t334, A330, H⟩ := H
          replace H : (if a0_1.size + t334.size ≤ 9223372036854775807 then (some (a0_0, a0_1 ++ t334, wrap64 (a0_2 + 1), 0)) else (none)) = some (r1, r2, r3, r4) := H
          have A33 := Aside0.mk A330
          clear A330
          by_cases c34 : a0_1.size + t334.size ≤ 9223372036854775807
          · rw [if_pos c34] at H
            have c34b0 := eq_true c34
            have c34b1 : decide (a0_1.size + t334.size ≤ 9223372036854775807) = true := decide_eq_true c34
            try have c34b2 : (9223372036854775807 < a0_1.size + t334.size) = False := eq_false (Nat.not_lt.2 c34)
            simp only [Option.some.injEq, Prod.mk.injEq] at H
            obtain ⟨rfl, rfl, rfl, rfl⟩ := H
            have hnb35 := NB329_330.out
            have hnc35 := NB330_329.out
            have hnb36 := NB329_331.out
            have hnc36 := NB331_329.out
            have hcz37_0 : wc.cell? ⟨gb329, 0, none⟩ = some (.string a0_0) := (Af BK329.out 0).trans rfl
            have hcz37_1 : wc.cell? ⟨gb329, 1, none⟩ = some (.string a0_1) := (Af BK329.out 1).trans rfl
            have hcz37_2 : wc.cell? ⟨gb329, 2, none⟩ = some (.int .i64 a0_2) := (Af BK329.out 2).trans rfl
            have hfz37_0 := Ae BK329.out 0
            have hfz37_1 := Ae BK329.out 1
            have hfz37_2 := Ae BK329.out 2
            try go_wp2
            have n0_ := Aside0.mk (Ad BK329.out)
            have n1_ := Aside0.mk (Ad BK330.out)
            have n2_ := Aside0.mk (Ad BK331.out)
            have n3_ := Aside0.mk (below_drew1 HB.out)
            clear BK329
            clear BK330
            clear BK331
            clear HB
            have BK329 := n0_
            have BK330 := n1_
            have BK331 := n2_
            have HB := n3_
            clear n0_ n1_ n2_ n3_
            refine start_ (n := 9) (S := fun w' => w'.cell? ⟨gb329, 0, none⟩ = some (.string a0_0) ∧ w'.cell? ⟨gb329, 1, none⟩ = some (.string a0_1) ∧ w'.cell? ⟨gb329, 2, none⟩ = some (.int .i64 a0_2) ∧ w'.cell? ⟨gb330, 0, none⟩ = some (.string a1_0) ∧ w'.cell? ⟨gb330, 1, none⟩ = some (.string a1_1)) (ds := [8]) #[false, false, false, false, false, false, false, false, false] (by kernel_rfl) rfl rfl ⟨(Af BK329.out 0).trans rfl, (Af BK329.out 1).trans rfl, (Af BK329.out 2).trans rfl, (Af BK330.out 0).trans rfl, (Af BK330.out 1).trans rfl⟩ (fun hHeld => ?_); refine Gy Bc.tab5 Bc.bits5 (fun HT_ HW_ => ?_)
            generalize wc.drew = w38 at BK329 BK330 BK331 HB hHeld ⊢
            refine D6 (i := 0) (N := some 19) (v := ?_) (a' := ?_) #[true, false, false, false, false, false, false, false, false] rfl rfl (Dt HT_.out (by kernel_rfl)) (fun _ _ _ h => h) (Or.inl ⟨by rfl, ?_⟩) ?_ ?_
            rotate_left
            · intro w'
              go_simp
              with_reducible rfl
            rotate_left
            · simp only [Act.put, List.setIfInBounds_toArray, List.set_cons_zero, List.set_cons_succ, Cj, C9]
              rfl
            refine D6 (i := 2) (N := some 21) (v := ?_) (a' := ?_) #[true, false, true, false, false, false, false, false, false] rfl rfl (Dt HT_.out (by kernel_rfl)) (fun _ _ _ h => h) (Or.inl ⟨by rfl, ?_⟩) ?_ ?_
            rotate_left
            · intro w'
              go_simp
              with_reducible rfl
            rotate_left
            · simp only [Act.put, List.setIfInBounds_toArray, List.set_cons_zero, List.set_cons_succ, Cj, C9]
              rfl
            refine Gn (i := 1) (N := some 20) (v := ?_) (a' := ?_) #[true, true, true, false, false, false, false, false, false] rfl rfl (Fh HT_.out HW_.out (by kernel_rfl)) (fun _ _ _ h => h) (Or.inl ⟨by rfl, ?_⟩) hHeld ?_ ?_
            rotate_left
            · rintro w' ⟨s0, s1, s2, s3, s4⟩
              go_simp
              with_reducible rfl
            rotate_left
            · simp only [Act.put, List.setIfInBounds_toArray, List.set_cons_zero, List.set_cons_succ, Cj, C9]
              rfl
            refine Gn (i := 3) (N := some 22) (v := ?_) (a' := ?_) #[true, true, true, true, false, false, false, false, false] rfl rfl (Fh HT_.out HW_.out (by kernel_rfl)) (fun _ _ _ h => h) (Or.inl ⟨by rfl, ?_⟩) hHeld ?_ ?_
            rotate_left
            · rintro w' ⟨s0, s1, s2, s3, s4⟩
              go_simp
              with_reducible rfl
            rotate_left
            · simp only [Act.put, List.setIfInBounds_toArray, List.set_cons_zero, List.set_cons_succ, Cj, C9]
              rfl
            refine Gn (i := 4) (N := some 23) (v := ?_) (a' := ?_) #[true, true, true, true, true, false, false, false, false] rfl rfl (Fh HT_.out HW_.out (by kernel_rfl)) (fun _ _ _ h => h) (Or.inl ⟨by rfl, ?_⟩) hHeld ?_ ?_
            rotate_left
            · rintro w' ⟨s0, s1, s2, s3, s4⟩
              go_simp
              with_reducible rfl
            rotate_left
            · simp only [Act.put, List.setIfInBounds_toArray, List.set_cons_zero, List.set_cons_succ, Cj, C9]
              rfl
            refine one_ (i := 5) (N := some 24) #[true, true, true, true, true, true, false, false, false] rfl rfl (Gg HT_.out (by kernel_rfl)) (by decide) (fun K hK => ?_)
            refine goes_ Tryd.func44 (by kernel_rfl) rfl #[.int .i64 a0_2, .agg #[.string a1_0, .string a1_1]] (by rfl) rfl rfl (by (try simp only [List.map_toArray, List.map_cons, List.map_nil]); first | done | rfl | (simp only [List.length_drop, List.length_take]; rfl)) ?_
            with_reducible refine (Bg.calls kj2 a0_2 a1_0 a1_1 t334 _ A33.out).mono ?_
            rintro e w39 ⟨rfl, hb⟩
            refine ⟨_, rfl, ?_⟩
            have n0_ := Aside0.mk (Ak (g := gb329) (o := .cells #[.string a0_0, .string a0_1, .int .i64 a0_2] 31 (0, 0)) (by (with_reducible repeat (first | refine Ac ?_ _ | refine Ad ?_ | refine Aa ?_ _)); exact BK329.out) hb)
            have n1_ := Aside0.mk (Ak (g := gb330) (o := .cells #[.string a1_0, .string a1_1] 27 (0, 0)) (by (with_reducible repeat (first | refine Ac ?_ _ | refine Ad ?_ | refine Aa ?_ _)); exact BK330.out) hb)
            have n2_ := Aside0.mk (Ak (g := gb331) (o := .cells #[.string (⟨#[]⟩ : ByteArray), .string (⟨#[]⟩ : ByteArray), .int .i64 0] 31 (0, 0)) (by (with_reducible repeat (first | refine Ac ?_ _ | refine Ad ?_ | refine Aa ?_ _)); exact BK331.out) hb)
            have n3_ := Aside0.mk (Ag (by repeat (first | (with_reducible first | exact HB.out | apply below_alloc | apply pw_below_drewN | apply below_drew1 | refine below_set ?_ GE329.out | refine below_set ?_ GE330.out | refine below_set ?_ GE331.out) | exact HB.out)) hb)
            clear BK329
            clear BK330
            clear BK331
            clear HB
            have BK329 := n0_
            have BK330 := n1_
            have BK331 := n2_
            have HB := n3_
            clear n0_ n1_ n2_ n3_
            (try clear hb)
            (try clear hb2)
            (try clear hk)
            (try clear hi)
            refine hK.out _ _ ⟨(Af BK329.out 0).trans rfl, (Af BK329.out 1).trans rfl, (Af BK329.out 2).trans rfl, (Af BK330.out 0).trans rfl, (Af BK330.out 1).trans rfl⟩ (fun hHeld => ?_)
            clear hK K
            refine norm_ (a' := ?_) ?_ ?_
            rotate_left
            · show Act.put _ (some 24) _ = _
              simp only [Act.put, List.setIfInBounds_toArray, List.set_cons_zero, List.set_cons_succ, Cj, C9]
              rfl
            refine D6 (i := 6) (N := some 25) (v := ?_) (a' := ?_) #[true, true, true, true, true, true, true, false, false] rfl rfl (Dt HT_.out (by kernel_rfl)) (fun _ _ _ h => h) (Or.inl ⟨by rfl, ?_⟩) ?_ ?_
            rotate_left
            · intro w'
              go_simp
              with_reducible rfl
            rotate_left
            · simp only [Act.put, List.setIfInBounds_toArray, List.set_cons_zero, List.set_cons_succ, Cj, C9]
              rfl
            refine D6 (i := 7) (N := some 26) (v := ?_) (a' := ?_) #[true, true, true, true, true, true, true, true, false] rfl rfl (Dt HT_.out (by kernel_rfl)) (fun _ _ _ h => h) (Or.inl ⟨by rfl, ?_⟩) ?_ ?_
            rotate_left
            · intro w'
              go_simp
              with_reducible rfl
            rotate_left
            · simp only [Act.put, List.setIfInBounds_toArray, List.set_cons_zero, List.set_cons_succ, Cj, C9]
              rfl
            refine last_ (i := 8) (N := none) #[true, true, true, true, true, true, true, true, true] rfl rfl (Gg HT_.out (by kernel_rfl)) (by decide) (fun K hK => ?_)
            have hs40 : w39.cell? ⟨gb329, 1, none⟩ = some (.string a0_1) := (Af BK329.out 1).trans rfl
            have hfs40 := Ae BK329.out 1
            have hns40_1 := NB330_329.out
            have hns40_2 := NB331_329.out
            have hms40_1 := NB329_330.out
            have hms40_2 := NB329_331.out
            refine skip_ (w1 := ?_) (by rfl) rfl ?_ ?_
            rotate_left
            · go_simp
              rfl
            refine hK.out _ _ ?_
            clear hK K
            refine done_ (done_of HT_.out (by kernel_rfl)) ?_
            have hcz41_0 : w39.cell? ⟨gb329, 0, none⟩ = some (.string a0_0) := (Af BK329.out 0).trans rfl
            have hcz41_1 : w39.cell? ⟨gb329, 1, none⟩ = some (.string a0_1) := (Af BK329.out 1).trans rfl
            have hcz41_2 : w39.cell? ⟨gb329, 2, none⟩ = some (.int .i64 a0_2) := (Af BK329.out 2).trans rfl
            have hfz41_0 := Ae BK329.out 0
            have hfz41_1 := Ae BK329.out 1
            have hfz41_2 := Ae BK329.out 2
            have hnb42 := NB331_330.out
            have hnc42 := NB330_331.out
            have hcz43_0 : w39.cell? ⟨gb331, 0, none⟩ = some (.string (⟨#[]⟩ : ByteArray)) := (Af BK331.out 0).trans rfl
            have hcz43_1 : w39.cell? ⟨gb331, 1, none⟩ = some (.string (⟨#[]⟩ : ByteArray)) := (Af BK331.out 1).trans rfl
            have hcz43_2 : w39.cell? ⟨gb331, 2, none⟩ = some (.int .i64 0) := (Af BK331.out 2).trans rfl
            have hfz43_0 := Ae BK331.out 0
            have hfz43_1 := Ae BK331.out 1
            have hfz43_2 := Ae BK331.out 2
            try go_wp2
            refine bodyPost_ret (Fq rfl _ _ gb331 31 #[.string a0_0, .string (a0_1 ++ t334), .int .i64 (wrap64 (a0_2 + 1))] (0, 0) _ rfl (by (with_reducible repeat (first | refine Ac ?_ _ | refine Ad ?_ | refine Aa ?_ _)); refine Ar (cs := #[.string a0_0, .string (a0_1 ++ t334), .int .i64 0]) ?_ 2 _ rfl; (with_reducible repeat (first | refine Ac ?_ _ | refine Ad ?_ | refine Aa ?_ _)); refine Ar (cs := #[.string a0_0, .string (⟨#[]⟩ : ByteArray), .int .i64 0]) ?_ 1 _ rfl; (with_reducible repeat (first | refine Ac ?_ _ | refine Ad ?_ | refine Aa ?_ _)); refine Ar (cs := #[.string (⟨#[]⟩ : ByteArray), .string (⟨#[]⟩ : ByteArray), .int .i64 0]) ?_ 0 _ rfl; (with_reducible repeat (first | refine Ac ?_ _ | refine Ad ?_ | refine Aa ?_ _)); refine Aw ?_ NB331_329.out _; (with_reducible repeat (first | refine Ac ?_ _ | refine Ad ?_ | refine Aa ?_ _)); refine Aw ?_ NB331_329.out _; (with_reducible repeat (first | refine Ac ?_ _ | refine Ad ?_ | refine Aa ?_ _)); exact BK331.out) Tryd.underlying31 rfl (by kernel_rfl)) rfl ?_
            exact ⟨by first | rfl | (simp [Aj, Ai] <;> rfl) | (simp [*, Aj, Ai] <;> rfl), by repeat (first | (with_reducible first | exact HB.out | apply below_alloc | apply pw_below_drewN | apply below_drew1 | refine below_set ?_ GE329.out | refine below_set ?_ GE330.out | refine below_set ?_ GE331.out) | exact HB.out)⟩
          · rw [if_neg c34] at H
            exact absurd H (by simp)

end Go.Proofs.YtkpieljmhgfofaaDoor.X


-- written by a program of this session (wip/ext.py) out of the translation. Not trusted: Lean checks it.
namespace Go.Proofs.YtkpieljmhgfofaaDoor.X
open Go.RowKit Go.Proofs.YtkpieljmhgfofaaDoorW.PrintWords Go.Proofs.YtkpieljmhgfofaaDoorW.PrintLast Go.Proofs.YtkpieljmhgfofaaDoorW.PrintMore
attribute [local go_sem] max2_int min2_int max_two min_two max_three min_three max_four min_four   -- for this text's walks alone
open Go.Proofs.YtkpieljmhgfofaaDoorG
set_option linter.unusedVariables false
set_option linter.unusedSimpArgs false

def Bf.l0 : Nat → Int → List Int → Int → Int → ByteArray → ByteArray → Int → Option (ByteArray × ByteArray × Int × Int × Int)
  | 0, _, _, _, _, _, _, _ => none
  | k + 1, x4, x1000, x1001, x1002, x473000, x473001, x473002 => if x4 > 0 then ((Du.f x1000 x1001 x1002).bind fun bt476 => ((Bc.f k x473000 x473001 x473002 bt476.1 bt476.2.1).bind fun bt480 => ((Ez.f x1000 bt476.2.2.1 bt476.2.2.2 4).bind fun bt484 => (if bt484.1 = true then ((En.f k bt480.1 bt480.2.1 bt480.2.2.1).bind fun bt487 => (Bf.l0 k (wrap64 (x4 - 1)) x1000 bt484.2.1 bt484.2.2 bt487.1 bt487.2.1 bt487.2.2.1)) else (Bf.l0 k (wrap64 (x4 - 1)) x1000 bt484.2.1 bt484.2.2 bt480.1 bt480.2.1 bt480.2.2.1))))) else (some (x473000, x473001, x473002, x1001, x1002))
def Bf.f (k : Nat) (s0_0 : List Int) (s0_1 : Int) (s0_2 : Int) : Option (ByteArray × ByteArray × Int × Int × Int) := (spec_l1Cur_pick.f s0_0 s0_1 s0_2 7).bind fun bt473 => (Bf.l0 k bt473.1 s0_0 bt473.2.1 bt473.2.2 (⟨#[]⟩ : ByteArray) (⟨#[]⟩ : ByteArray) 0)
theorem Bf.Ee : ∀ k, (∀ y0 y1 y2 y3 y4 y5 y6, LeO (Bf.l0 k y0 y1 y2 y3 y4 y5 y6) (Bf.l0 (k + 1) y0 y1 y2 y3 y4 y5 y6))
  | 0 => fun _ _ _ _ _ _ _ r h => by simp [Bf.l0] at h
  | k + 1 => by
    have ih0 := Bf.Ee k
    · intro y0 y1 y2 y3 y4 y5 y6
      unfold Bf.l0
      repeat' first
      | (with_reducible exact ih0 _ _ _ _ _ _ _)
      | (with_reducible exact Bc.mono _ _ _ _ _ _)
      | (with_reducible exact En.mono _ _ _ _)
      | (with_reducible exact LeO.refl _)
      | (with_reducible exact LeO.none _)
      | (with_reducible refine LeO.ite ?_ ?_)
      | (with_reducible refine LeO.bind ?_ (fun _ => ?_))
      | exact ih0 _ _ _ _ _ _ _
      | exact Bc.mono _ _ _ _ _ _
      | exact En.mono _ _ _ _
      | exact LeO.none _
      | refine LeO.ite ?_ ?_
      | refine LeO.bind ?_ (fun _ => ?_)
theorem Bf.mono : ∀ a0 a1 a2 k, LeO (Bf.f k a0 a1 a2) (Bf.f (k + 1) a0 a1 a2) := by
  intro a0 a1 a2 k
  have ih0 := Bf.Ee k
  unfold Bf.f
  repeat' first
      | (with_reducible exact ih0 _ _ _ _ _ _ _)
      | (with_reducible exact Bc.mono _ _ _ _ _ _)
      | (with_reducible exact En.mono _ _ _ _)
      | (with_reducible exact LeO.refl _)
      | (with_reducible exact LeO.none _)
      | (with_reducible refine LeO.ite ?_ ?_)
      | (with_reducible refine LeO.bind ?_ (fun _ => ?_))
      | exact ih0 _ _ _ _ _ _ _
      | exact Bc.mono _ _ _ _ _ _
      | exact En.mono _ _ _ _
      | exact LeO.none _
      | refine LeO.ite ?_ ?_
      | refine LeO.bind ?_ (fun _ => ?_)
def Bf.T5 : Bool × List (List Nat × List Nat) := (true, [([], []), ([], []), ([1], [1]), ([0, 2, 2], [0, 2]), ([3], [3]), ([4], [4]), ([4], [4]), ([5, 3, 0, 1, 2, 3, 4, 5], [5])])
def Bf.B5 : List Nat := [0, 0, 2, 7, 15, 31, 31, 63]
theorem Bf.tab5 : rtab .any (opsOf Tryd.f60 5) = Bf.T5 := by kernel_rfl
theorem Bf.bits5 : G9 Bf.T5.2 Bf.B5 = true := by kernel_rfl
set_option maxHeartbeats 8000000 in
set_option maxRecDepth 100000 in
theorem Bf.calls (k : Nat) (g : Nat) (s0_0 : List Int) (s0_1 : Int) (s0_2 : Int) (r1 : ByteArray) (r2 : ByteArray) (r3 : Int) (r4 : Int) (r5 : Int) (w0 w : World) (hI : IsS74 w0 w g s0_0 s0_1 s0_2) (hB : Below w0.heap.size w0 w) (h : Bf.f k s0_0 s0_1 s0_2 = some (r1, r2, r3, r4, r5)) :
    Calls Tryd.prog 60 #[.pointer (some ⟨g, 0, none⟩)] w fun e w' => e = .returned (.agg #[.string r1, .string r2, .int .i64 r3]) ∧ IsS74 w0 w' g s0_0 r4 r5 ∧ Below w0.heap.size w0 w' ∧ KeepBut w w' g none := by
  have hu31 := Tryd.underlying31
  have HI0 := Aside0.mk hI
  have HK := Aside0.mk (KeepBut.refl w g none)
  have HL := Aside0.mk hB.size
  clear hI
  have HW0 := Aside0.mk hB.size
  have HB := Aside0.mk hB
  clear hB
  have H : ((spec_l1Cur_pick.f s0_0 s0_1 s0_2 7).bind fun bt473 => (Bf.l0 k bt473.1 s0_0 bt473.2.1 bt473.2.2 (⟨#[]⟩ : ByteArray) (⟨#[]⟩ : ByteArray) 0)) = some (r1, r2, r3, r4, r5) := h
  clear h
  replace H := Option.bind_eq_some_iff.mp H
  obtain ⟨⟨t473, t474, t475⟩, A20, H⟩ := H
  replace H : (Bf.l0 k t473 s0_0 t474 t475 (⟨#[]⟩ : ByteArray) (⟨#[]⟩ : ByteArray) 0) = some (r1, r2, r3, r4, r5) := H
  have A2 := Aside0.mk A20
  clear A20
  have H' := Aside0.mk H
  clear H
  go_enter Tryd.func60, Tryd.ntmps60
  go_wp2_with (first | ((with_reducible refine Az (N := 2) rfl ?_); refine Ba ?hg (N := 2) ?hd (cs := #[.string (⟨#[]⟩ : ByteArray), .string (⟨#[]⟩ : ByteArray), .int .i64 0]) (t := 31) ?hr ?_; (case hd => rfl); (case hg => rfl); (case hr => first | (go_simp; done) | (go_simp; rfl)); intro gb471 hg w3 hbox hb; have n0_ := Aside0.mk (IsS74.below (by repeat (first | (with_reducible first | exact HI0.out | apply IsS74.alloc | apply IsS74.drewN | apply IsS74.drew | apply IsS74.set_1 | apply IsS74.set_2) | exact HI0.out)) hb); have n1_ := Aside0.mk (KeepBut.trans (by repeat (first | (with_reducible first | exact HK.out | apply KeepBut.set_ | apply keep_drewN | apply keep_drew | apply keep_alloc) | exact HK.out)) (KeepBut.of_below hb g none) (.inl rfl)); have n2_ := Aside0.mk (Ag (by repeat (first | (with_reducible first | exact HB.out | apply below_alloc | apply pw_below_drewN | apply below_drew1 | refine below_set ?_ (IsS74.ge HI0.out)) | exact HB.out)) hb); have n3_ := Aside0.mk (hbox); have n4_ := Aside0.mk ((by rw [hg]; exact (Ep (w := w) (g := g) (row := none) (by repeat (first | (with_reducible first | exact HK.out | apply KeepBut.set_ | apply keep_drewN | apply keep_drew | apply keep_alloc) | exact HK.out))) : w.heap.size ≤ gb471)); have n5_ := Aside0.mk ((Nat.le_trans HW0.out (by rw [hg]; exact (Ep (w := w) (g := g) (row := none) (by repeat (first | (with_reducible first | exact HK.out | apply KeepBut.set_ | apply keep_drewN | apply keep_drew | apply keep_alloc) | exact HK.out))) : w.heap.size ≤ gb471) : w0.heap.size ≤ gb471)); have n6_ := Aside0.mk ((by rw [hg]; exact Nat.ne_of_lt (IsS74.lt (show IsS74 w0 _ g s0_0 s0_1 s0_2 from by repeat (first | (with_reducible first | exact HI0.out | apply IsS74.alloc | apply IsS74.drewN | apply IsS74.drew | apply IsS74.set_1 | apply IsS74.set_2) | exact HI0.out))) : g ≠ gb471)); have n7_ := Aside0.mk ((by rw [hg]; exact Nat.ne_of_gt (IsS74.lt (show IsS74 w0 _ g s0_0 s0_1 s0_2 from by repeat (first | (with_reducible first | exact HI0.out | apply IsS74.alloc | apply IsS74.drewN | apply IsS74.drew | apply IsS74.set_1 | apply IsS74.set_2) | exact HI0.out))) : gb471 ≠ g)); clear HI0; clear HK; clear HB; have HI0 := n0_; have HK := n1_; have HB := n2_; have BK471 := n3_; have GW471 := n4_; have GE471 := n5_; have NB0_471 := n6_; have NB471_0 := n7_; clear n0_ n1_ n2_ n3_ n4_ n5_ n6_ n7_; clear hb hbox hg) | ((with_reducible refine Az (N := 3) rfl ?_); refine Ba ?hg (N := 3) ?hd (cs := #[.string (⟨#[]⟩ : ByteArray), .string (⟨#[]⟩ : ByteArray), .int .i64 0]) (t := 31) ?hr ?_; (case hd => rfl); (case hg => rfl); (case hr => first | (go_simp; done) | (go_simp; rfl)); intro gb472 hg w4 hbox hb; have n0_ := Aside0.mk (IsS74.below (by repeat (first | (with_reducible first | exact HI0.out | apply IsS74.alloc | apply IsS74.drewN | apply IsS74.drew | apply IsS74.set_1 | apply IsS74.set_2 | refine IsS74.far ?_ NB0_471.out _) | exact HI0.out)) hb); have n1_ := Aside0.mk (Ak (g := gb471) (o := .cells #[.string (⟨#[]⟩ : ByteArray), .string (⟨#[]⟩ : ByteArray), .int .i64 0] 31 (0, 0)) (by (with_reducible repeat (first | refine Ac ?_ _ | refine Ad ?_ | refine Aa ?_ _)); exact BK471.out) hb); have n2_ := Aside0.mk (KeepBut.trans (by repeat (first | (with_reducible first | exact HK.out | apply KeepBut.set_ | apply keep_drewN | apply keep_drew | apply keep_alloc | refine Bv ?_ GW471.out _) | exact HK.out)) (KeepBut.of_below hb g none) (.inl rfl)); have n3_ := Aside0.mk (Ag (by repeat (first | (with_reducible first | exact HB.out | apply below_alloc | apply pw_below_drewN | apply below_drew1 | refine below_set ?_ (IsS74.ge HI0.out) | refine below_set ?_ GE471.out) | exact HB.out)) hb); have n4_ := Aside0.mk (hbox); have n5_ := Aside0.mk ((by rw [hg]; exact (Ep (w := w) (g := g) (row := none) (by repeat (first | (with_reducible first | exact HK.out | apply KeepBut.set_ | apply keep_drewN | apply keep_drew | apply keep_alloc | refine Bv ?_ GW471.out _) | exact HK.out))) : w.heap.size ≤ gb472)); have n6_ := Aside0.mk ((Nat.le_trans HW0.out (by rw [hg]; exact (Ep (w := w) (g := g) (row := none) (by repeat (first | (with_reducible first | exact HK.out | apply KeepBut.set_ | apply keep_drewN | apply keep_drew | apply keep_alloc | refine Bv ?_ GW471.out _) | exact HK.out))) : w.heap.size ≤ gb472) : w0.heap.size ≤ gb472)); have n7_ := Aside0.mk ((by rw [hg]; exact Nat.ne_of_lt (Cf (g := gb471) (o := .cells #[.string (⟨#[]⟩ : ByteArray), .string (⟨#[]⟩ : ByteArray), .int .i64 0] 31 (0, 0)) (by (with_reducible repeat (first | refine Ac ?_ _ | refine Ad ?_ | refine Aa ?_ _)); exact BK471.out)) : gb471 ≠ gb472)); have n8_ := Aside0.mk ((by rw [hg]; exact Nat.ne_of_gt (Cf (g := gb471) (o := .cells #[.string (⟨#[]⟩ : ByteArray), .string (⟨#[]⟩ : ByteArray), .int .i64 0] 31 (0, 0)) (by (with_reducible repeat (first | refine Ac ?_ _ | refine Ad ?_ | refine Aa ?_ _)); exact BK471.out)) : gb472 ≠ gb471)); have n9_ := Aside0.mk ((by rw [hg]; exact Nat.ne_of_lt (IsS74.lt (show IsS74 w0 _ g s0_0 s0_1 s0_2 from by repeat (first | (with_reducible first | exact HI0.out | apply IsS74.alloc | apply IsS74.drewN | apply IsS74.drew | apply IsS74.set_1 | apply IsS74.set_2 | refine IsS74.far ?_ NB0_471.out _) | exact HI0.out))) : g ≠ gb472)); have n10_ := Aside0.mk ((by rw [hg]; exact Nat.ne_of_gt (IsS74.lt (show IsS74 w0 _ g s0_0 s0_1 s0_2 from by repeat (first | (with_reducible first | exact HI0.out | apply IsS74.alloc | apply IsS74.drewN | apply IsS74.drew | apply IsS74.set_1 | apply IsS74.set_2 | refine IsS74.far ?_ NB0_471.out _) | exact HI0.out))) : gb472 ≠ g)); clear HI0; clear BK471; clear HK; clear HB; have HI0 := n0_; have BK471 := n1_; have HK := n2_; have HB := n3_; have BK472 := n4_; have GW472 := n5_; have GE472 := n6_; have NB471_472 := n7_; have NB472_471 := n8_; have NB0_472 := n9_; have NB472_0 := n10_; clear n0_ n1_ n2_ n3_ n4_ n5_ n6_ n7_ n8_ n9_ n10_; clear hb hbox hg; have hnb5 := NB472_471.out; have hnc5 := NB471_472.out; have hnb6 := NB472_0.out; have hnc6 := NB0_472.out; have hcz7_0 : w4.cell? ⟨gb472, 0, none⟩ = some (.string (⟨#[]⟩ : ByteArray)) := (Af BK472.out 0).trans rfl; have hcz7_1 : w4.cell? ⟨gb472, 1, none⟩ = some (.string (⟨#[]⟩ : ByteArray)) := (Af BK472.out 1).trans rfl; have hcz7_2 : w4.cell? ⟨gb472, 2, none⟩ = some (.int .i64 0) := (Af BK472.out 2).trans rfl; have hfz7_0 := Ae BK472.out 0; have hfz7_1 := Ae BK472.out 1; have hfz7_2 := Ae BK472.out 2) | ((with_reducible refine Am (f := 55) rfl ?_); refine Au (some 7) rfl rfl Tryd.func55 (by kernel_rfl) rfl #[.pointer (some ⟨g, 0, none⟩), .int .i64 7] rfl (by (try simp only [List.map_toArray, List.map_cons, List.map_nil]); first | done | rfl | (simp only [List.length_drop, List.length_take]; rfl)) ?_; (with_reducible refine (spec_l1Cur_pick.calls g s0_0 s0_1 s0_2 7 t473 t474 t475 w0 _ ?side1 ?side2 A2.out).mono ?_); (case side1 => repeat (first | (with_reducible first | exact HI0.out | apply IsS74.alloc | apply IsS74.drewN | apply IsS74.drew | apply IsS74.set_1 | apply IsS74.set_2 | refine IsS74.far ?_ NB0_471.out _ | refine IsS74.far ?_ NB0_472.out _) | exact HI0.out)); (case side2 => repeat (first | (with_reducible first | exact HB.out | apply below_alloc | apply pw_below_drewN | apply below_drew1 | refine below_set ?_ (IsS74.ge HI0.out) | refine below_set ?_ GE471.out | refine below_set ?_ GE472.out) | exact HB.out)); rintro e w8 ⟨rfl, hi, hb, hk⟩; refine ⟨_, rfl, ?_⟩; have n0_ := Aside0.mk (KeepBut.blk hk (g' := gb471) (o := .cells #[.string (⟨#[]⟩ : ByteArray), .string (⟨#[]⟩ : ByteArray), .int .i64 0] 31 (0, 0)) (by (with_reducible repeat (first | refine Ac ?_ _ | refine Ad ?_ | refine Aa ?_ _)); refine Aw ?_ NB471_472.out _; (with_reducible repeat (first | refine Ac ?_ _ | refine Ad ?_ | refine Aa ?_ _)); refine Aw ?_ NB471_472.out _; (with_reducible repeat (first | refine Ac ?_ _ | refine Ad ?_ | refine Aa ?_ _)); refine Aw ?_ NB471_472.out _; (with_reducible repeat (first | refine Ac ?_ _ | refine Ad ?_ | refine Aa ?_ _)); exact BK471.out) NB471_0.out (by simp)); have n1_ := Aside0.mk (KeepBut.blk hk (g' := gb472) (o := .cells #[.string (⟨#[]⟩ : ByteArray), .string (⟨#[]⟩ : ByteArray), .int .i64 0] 31 (0, 0)) (by (with_reducible repeat (first | refine Ac ?_ _ | refine Ad ?_ | refine Aa ?_ _)); refine Ar (cs := #[.string (⟨#[]⟩ : ByteArray), .string (⟨#[]⟩ : ByteArray), .int .i64 0]) ?_ 2 _ rfl; (with_reducible repeat (first | refine Ac ?_ _ | refine Ad ?_ | refine Aa ?_ _)); refine Ar (cs := #[.string (⟨#[]⟩ : ByteArray), .string (⟨#[]⟩ : ByteArray), .int .i64 0]) ?_ 1 _ rfl; (with_reducible repeat (first | refine Ac ?_ _ | refine Ad ?_ | refine Aa ?_ _)); refine Ar (cs := #[.string (⟨#[]⟩ : ByteArray), .string (⟨#[]⟩ : ByteArray), .int .i64 0]) ?_ 0 _ rfl; (with_reducible repeat (first | refine Ac ?_ _ | refine Ad ?_ | refine Aa ?_ _)); exact BK472.out) NB472_0.out (by simp)); have n2_ := Aside0.mk (KeepBut.trans (by repeat (first | (with_reducible first | exact HK.out | apply KeepBut.set_ | apply keep_drewN | apply keep_drew | apply keep_alloc | refine Bv ?_ GW471.out _ | refine Bv ?_ GW472.out _) | exact HK.out)) hk (.inl rfl)); have n3_ := Aside0.mk (hb); have n4_ := Aside0.mk (hi); clear BK471; clear BK472; clear HK; clear HB; clear HI0; have BK471 := n0_; have BK472 := n1_; have HK := n2_; have HB := n3_; have HI0 := n4_; clear n0_ n1_ n2_ n3_ n4_; (try clear hb); (try clear hb2); (try clear hk); (try clear hi)))
  go_loopg [4] k (fun kq v4 w' => ∃ (x4_1 : Int) (x1001_1 : Int) (x1002_1 : Int) (x473000_1 : ByteArray) (x473001_1 : ByteArray) (x473002_1 : Int), v4 = .int .i64 x4_1 ∧ Aside0 (Bf.l0 kq x4_1 s0_0 x1001_1 x1002_1 x473000_1 x473001_1 x473002_1 = some (r1, r2, r3, r4, r5)) ∧ Aside0 (kq ≤ k) ∧ Aside0 (w'.heap[gb471]? = some (.cells #[.string (⟨#[]⟩ : ByteArray), .string (⟨#[]⟩ : ByteArray), .int .i64 0] 31 (0, 0))) ∧ Aside0 (w'.heap[gb472]? = some (.cells #[.string x473000_1, .string x473001_1, .int .i64 x473002_1] 31 (0, 0))) ∧ Aside0 (IsS74 w0 w' g s0_0 x1001_1 x1002_1) ∧ Aside0 (KeepBut w w' g none) ∧ Aside0 (Below w0.heap.size w0 w'))
  case atStart => exact ⟨(t473), (t474), (t475), ((⟨#[]⟩ : ByteArray)), ((⟨#[]⟩ : ByteArray)), (0), (by first | rfl | (simp; done) | (simp [*]; done)), H', ⟨Nat.le_refl _⟩, ⟨by (with_reducible repeat (first | refine Ac ?_ _ | refine Ad ?_ | refine Aa ?_ _)); exact BK471.out⟩, ⟨by (with_reducible repeat (first | refine Ac ?_ _ | refine Ad ?_ | refine Aa ?_ _)); exact BK472.out⟩, ⟨by repeat (first | (with_reducible first | exact HI0.out | apply IsS74.alloc | apply IsS74.drewN | apply IsS74.drew | apply IsS74.set_1 | apply IsS74.set_2 | refine IsS74.far ?_ NB0_471.out _ | refine IsS74.far ?_ NB0_472.out _) | exact HI0.out)⟩, ⟨by repeat (first | (with_reducible first | exact HK.out | apply KeepBut.set_ | apply keep_drewN | apply keep_drew | apply keep_alloc | refine Bv ?_ GW471.out _ | refine Bv ?_ GW472.out _) | exact HK.out)⟩, ⟨by repeat (first | (with_reducible first | exact HB.out | apply below_alloc | apply pw_below_drewN | apply below_drew1 | refine below_set ?_ (IsS74.ge HI0.out) | refine below_set ?_ GE471.out | refine below_set ?_ GE472.out) | exact HB.out)⟩⟩
  case round =>
    clear H'
    try clear p2
    try clear c5
    try clear c6
    try clear hcz7_0
    try clear hcz7_1
    try clear hcz7_2
    try clear hfz7_0
    try clear hfz7_1
    try clear hfz7_2
    obtain ⟨x4_1, x1001_1, x1002_1, x473000_1, x473001_1, x473002_1, rfl, HA, HK1, BK471, BK472, HI0, HK, HB⟩ := hrel
    cases gk with
    | zero => exact absurd HA.out (by simp [Bf.l0])
    | succ k1 =>
      have H := HA.out
      clear HA
      simp only [Bf.l0] at H
      by_cases c9 : x4_1 > 0
      · rw [if_pos c9] at H
        have c9b0 : decide (0 < x4_1) = true := decide_eq_true c9
        clear c9
        replace H := Option.bind_eq_some_iff.mp H
        obtain ⟨⟨t476, t477, t478, t479⟩, A100, H⟩ := H
        replace H : ((Bc.f k1 x473000_1 x473001_1 x473002_1 t476 t477).bind fun bt480 => ((Ez.f s0_0 t478 t479 4).bind fun bt484 => (if bt484.1 = true then ((En.f k1 bt480.1 bt480.2.1 bt480.2.2.1).bind fun bt487 => (Bf.l0 k1 (wrap64 (x4_1 - 1)) s0_0 bt484.2.1 bt484.2.2 bt487.1 bt487.2.1 bt487.2.2.1)) else (Bf.l0 k1 (wrap64 (x4_1 - 1)) s0_0 bt484.2.1 bt484.2.2 bt480.1 bt480.2.1 bt480.2.2.1)))) = some (r1, r2, r3, r4, r5) := H
        have A10 := Aside0.mk A100
        clear A100
        replace H := Option.bind_eq_some_iff.mp H
        obtain ⟨⟨t480, t481, t482, t483⟩, A110, H⟩ := H
        replace H : ((Ez.f s0_0 t478 t479 4).bind fun bt484 => (if bt484.1 = true then ((En.f k1 t480 t481 t482).bind fun bt487 => (Bf.l0 k1 (wrap64 (x4_1 - 1)) s0_0 bt484.2.1 bt484.2.2 bt487.1 bt487.2.1 bt487.2.2.1)) else (Bf.l0 k1 (wrap64 (x4_1 - 1)) s0_0 bt484.2.1 bt484.2.2 t480 t481 t482))) = some (r1, r2, r3, r4, r5) := H
        have A11 := Aside0.mk A110
        clear A110
        replace H := Option.bind_eq_some_iff.mp H
        obtain ⟨⟨t484, t485, t486⟩, A120, H⟩ := H
        replace H : (if t484 = true then ((En.f k1 t480 t481 t482).bind fun bt487 => (Bf.l0 k1 (wrap64 (x4_1 - 1)) s0_0 t485 t486 bt487.1 bt487.2.1 bt487.2.2.1)) else (Bf.l0 k1 (wrap64 (x4_1 - 1)) s0_0 t485 t486 t480 t481 t482)) = some (r1, r2, r3, r4, r5) := H
        have A12 := Aside0.mk A120
        clear A120
        by_cases c13 : t484 = true
        · subst c13
          have H1 : ((En.f k1 t480 t481 t482).bind fun bt487 => (Bf.l0 k1 (wrap64 (x4_1 - 1)) s0_0 t485 t486 bt487.1 bt487.2.1 bt487.2.2.1)) = some (r1, r2, r3, r4, r5) := by rw [if_pos rfl] at H; exact H
          clear H
          have H := H1
          clear H1
          replace H := Option.bind_eq_some_iff.mp H
          obtain ⟨⟨t487, t488, t489, t490⟩, A140, H⟩ := H
          replace H : (Bf.l0 k1 (wrap64 (x4_1 - 1)) s0_0 t485 t486 t487 t488 t489) = some (r1, r2, r3, r4, r5) := H
          have A14 := Aside0.mk A140
          clear A140
          have H' := Aside0.mk H
          clear H
          try go_wp2
          have n0_ := Aside0.mk (Ad BK471.out)
          have n1_ := Aside0.mk (Ad BK472.out)
          have n2_ := Aside0.mk (IsS74.drew HI0.out)
          have n3_ := Aside0.mk (keep_drew HK.out)
          have n4_ := Aside0.mk (below_drew1 HB.out)
          clear BK471
          clear BK472
          clear HI0
          clear HK
          clear HB
          have BK471 := n0_
          have BK472 := n1_
          have HI0 := n2_
          have HK := n3_
          have HB := n4_
          clear n0_ n1_ n2_ n3_ n4_
          refine start_ (n := 8) (S := fun w' => w'.cell? ⟨gb472, 0, none⟩ = some (.string x473000_1) ∧ w'.cell? ⟨gb472, 1, none⟩ = some (.string x473001_1) ∧ w'.cell? ⟨gb472, 2, none⟩ = some (.int .i64 x473002_1)) (ds := [7]) #[false, false, false, false, false, false, false, false] (by kernel_rfl) rfl rfl ⟨(Af BK472.out 0).trans rfl, (Af BK472.out 1).trans rfl, (Af BK472.out 2).trans rfl⟩ (fun hHeld => ?_); refine Gy Bf.tab5 Bf.bits5 (fun HT_ HW_ => ?_)
          generalize wr.drew = w15 at BK471 BK472 HI0 HK HB hHeld ⊢
          refine D6 (i := 1) (N := some 14) (v := ?_) (a' := ?_) #[false, true, false, false, false, false, false, false] rfl rfl (Dt HT_.out (by kernel_rfl)) (fun _ _ _ h => h) (Or.inl ⟨by rfl, ?_⟩) ?_ ?_
          rotate_left
          · intro w'
            go_simp
            with_reducible rfl
          rotate_left
          · simp only [Act.put, List.setIfInBounds_toArray, List.set_cons_zero, List.set_cons_succ, Cj, C9]
            rfl
          refine Gn (i := 0) (N := some 13) (v := ?_) (a' := ?_) #[true, true, false, false, false, false, false, false] rfl rfl (Fh HT_.out HW_.out (by kernel_rfl)) (fun _ _ _ h => h) (Or.inl ⟨by rfl, ?_⟩) hHeld ?_ ?_
          rotate_left
          · rintro w' ⟨s0, s1, s2⟩
            go_simp
            with_reducible rfl
          rotate_left
          · simp only [Act.put, List.setIfInBounds_toArray, List.set_cons_zero, List.set_cons_succ, Cj, C9]
            rfl
          refine one_ (i := 2) (N := some 15) #[true, true, true, false, false, false, false, false] rfl rfl (Gg HT_.out (by kernel_rfl)) (by decide) (fun K hK => ?_)
          refine goes_ Tryd.func56 (by kernel_rfl) rfl #[.pointer (some ⟨g, 0, none⟩)] (by rfl) rfl rfl (by (try simp only [List.map_toArray, List.map_cons, List.map_nil]); first | done | rfl | (simp only [List.length_drop, List.length_take]; rfl)) ?_
          with_reducible refine (Du.calls g s0_0 x1001_1 x1002_1 t476 t477 t478 t479 w0 _ ?side1 ?side2 A10.out).mono ?_
          (case side1 => repeat (first | (with_reducible first | exact HI0.out | apply IsS74.alloc | apply IsS74.drewN | apply IsS74.drew | apply IsS74.set_1 | apply IsS74.set_2 | refine IsS74.far ?_ NB0_471.out _ | refine IsS74.far ?_ NB0_472.out _) | exact HI0.out))
          (case side2 => repeat (first | (with_reducible first | exact HB.out | apply below_alloc | apply pw_below_drewN | apply below_drew1 | refine below_set ?_ (IsS74.ge HI0.out) | refine below_set ?_ GE471.out | refine below_set ?_ GE472.out) | exact HB.out))
          rintro e w16 ⟨rfl, hi, hb, hk⟩
          refine ⟨_, rfl, ?_⟩
          have n0_ := Aside0.mk (KeepBut.blk hk (g' := gb471) (o := .cells #[.string (⟨#[]⟩ : ByteArray), .string (⟨#[]⟩ : ByteArray), .int .i64 0] 31 (0, 0)) (by (with_reducible repeat (first | refine Ac ?_ _ | refine Ad ?_ | refine Aa ?_ _)); exact BK471.out) NB471_0.out (by simp))
          have n1_ := Aside0.mk (KeepBut.blk hk (g' := gb472) (o := .cells #[.string x473000_1, .string x473001_1, .int .i64 x473002_1] 31 (0, 0)) (by (with_reducible repeat (first | refine Ac ?_ _ | refine Ad ?_ | refine Aa ?_ _)); exact BK472.out) NB472_0.out (by simp))
          have n2_ := Aside0.mk (KeepBut.trans (by repeat (first | (with_reducible first | exact HK.out | apply KeepBut.set_ | apply keep_drewN | apply keep_drew | apply keep_alloc | refine Bv ?_ GW471.out _ | refine Bv ?_ GW472.out _) | exact HK.out)) hk (.inl rfl))
          have n3_ := Aside0.mk (hb)
          have n4_ := Aside0.mk (hi)
          clear BK471
          clear BK472
          clear HK
          clear HB
          clear HI0
          have BK471 := n0_
          have BK472 := n1_
          have HK := n2_
          have HB := n3_
          have HI0 := n4_
          clear n0_ n1_ n2_ n3_ n4_
          (try clear hb)
          (try clear hb2)
          (try clear hk)
          (try clear hi)
          refine hK.out _ _ ⟨(Af BK472.out 0).trans rfl, (Af BK472.out 1).trans rfl, (Af BK472.out 2).trans rfl⟩ (fun hHeld => ?_)
          clear hK K
          refine norm_ (a' := ?_) ?_ ?_
          rotate_left
          · show Act.put _ (some 15) _ = _
            simp only [Act.put, List.setIfInBounds_toArray, List.set_cons_zero, List.set_cons_succ, Cj, C9]
            rfl
          refine one_ (i := 3) (N := some 16) #[true, true, true, true, false, false, false, false] rfl rfl (Gg HT_.out (by kernel_rfl)) (by decide) (fun K hK => ?_)
          refine goes_ Tryd.func28 (by kernel_rfl) rfl #[.agg #[.string x473000_1, .string x473001_1, .int .i64 x473002_1], .agg #[.string t476, .string t477]] (by rfl) rfl rfl (by (try simp only [List.map_toArray, List.map_cons, List.map_nil]); first | done | rfl | (simp only [List.length_drop, List.length_take]; rfl)) ?_
          with_reducible refine (Bc.calls k1 x473000_1 x473001_1 x473002_1 t476 t477 t480 t481 t482 t483 _ A11.out).mono ?_
          rintro e w17 ⟨rfl, hb⟩
          refine ⟨_, rfl, ?_⟩
          have n0_ := Aside0.mk (Ak (g := gb471) (o := .cells #[.string (⟨#[]⟩ : ByteArray), .string (⟨#[]⟩ : ByteArray), .int .i64 0] 31 (0, 0)) (by (with_reducible repeat (first | refine Ac ?_ _ | refine Ad ?_ | refine Aa ?_ _)); exact BK471.out) hb)
          have n1_ := Aside0.mk (Ak (g := gb472) (o := .cells #[.string x473000_1, .string x473001_1, .int .i64 x473002_1] 31 (0, 0)) (by (with_reducible repeat (first | refine Ac ?_ _ | refine Ad ?_ | refine Aa ?_ _)); exact BK472.out) hb)
          have n2_ := Aside0.mk (IsS74.below (by repeat (first | (with_reducible first | exact HI0.out | apply IsS74.alloc | apply IsS74.drewN | apply IsS74.drew | apply IsS74.set_1 | apply IsS74.set_2 | refine IsS74.far ?_ NB0_471.out _ | refine IsS74.far ?_ NB0_472.out _) | exact HI0.out)) hb)
          have n3_ := Aside0.mk (KeepBut.trans (by repeat (first | (with_reducible first | exact HK.out | apply KeepBut.set_ | apply keep_drewN | apply keep_drew | apply keep_alloc | refine Bv ?_ GW471.out _ | refine Bv ?_ GW472.out _) | exact HK.out)) (KeepBut.of_below hb g none) (.inl rfl))
          have n4_ := Aside0.mk (Ag (by repeat (first | (with_reducible first | exact HB.out | apply below_alloc | apply pw_below_drewN | apply below_drew1 | refine below_set ?_ (IsS74.ge HI0.out) | refine below_set ?_ GE471.out | refine below_set ?_ GE472.out) | exact HB.out)) hb)
          clear BK471
          clear BK472
          clear HI0
          clear HK
          clear HB
          have BK471 := n0_
          have BK472 := n1_
          have HI0 := n2_
          have HK := n3_
          have HB := n4_
          clear n0_ n1_ n2_ n3_ n4_
          (try clear hb)
          (try clear hb2)
          (try clear hk)
          (try clear hi)
          refine hK.out _ _ ⟨(Af BK472.out 0).trans rfl, (Af BK472.out 1).trans rfl, (Af BK472.out 2).trans rfl⟩ (fun hHeld => ?_)
          clear hK K
          refine norm_ (a' := ?_) ?_ ?_
          rotate_left
          · show Act.put _ (some 16) _ = _
            simp only [Act.put, List.setIfInBounds_toArray, List.set_cons_zero, List.set_cons_succ, Cj, C9]
            rfl
          refine D6 (i := 4) (N := some 12) (v := ?_) (a' := ?_) #[true, true, true, true, true, false, false, false] rfl rfl (Dt HT_.out (by kernel_rfl)) (fun _ _ _ h => h) (Or.inl ⟨by rfl, ?_⟩) ?_ ?_
          rotate_left
          · intro w'
            go_simp
            with_reducible rfl
          rotate_left
          · simp only [Act.put, List.setIfInBounds_toArray, List.set_cons_zero, List.set_cons_succ, Cj, C9]
            rfl
          refine D6 (i := 5) (N := some 17) (v := ?_) (a' := ?_) #[true, true, true, true, true, true, false, false] rfl rfl (Dt HT_.out (by kernel_rfl)) (fun _ _ _ h => h) (Or.inl ⟨by rfl, ?_⟩) ?_ ?_
          rotate_left
          · intro w'
            go_simp
            with_reducible rfl
          rotate_left
          · simp only [Act.put, List.setIfInBounds_toArray, List.set_cons_zero, List.set_cons_succ, Cj, C9]
            rfl
          refine D6 (i := 6) (N := some 18) (v := ?_) (a' := ?_) #[true, true, true, true, true, true, true, false] rfl rfl (Dt HT_.out (by kernel_rfl)) (fun _ _ _ h => h) (Or.inl ⟨by rfl, ?_⟩) ?_ ?_
          rotate_left
          · intro w'
            go_simp
            with_reducible rfl
          rotate_left
          · simp only [Act.put, List.setIfInBounds_toArray, List.set_cons_zero, List.set_cons_succ, Cj, C9]
            rfl
          refine last_ (i := 7) (N := none) #[true, true, true, true, true, true, true, true] rfl rfl (Gg HT_.out (by kernel_rfl)) (by decide) (fun K hK => ?_)
          have hs18 : w17.cell? ⟨gb472, 0, none⟩ = some (.string x473000_1) := (Af BK472.out 0).trans rfl
          have hfs18 := Ae BK472.out 0
          have hns18_0 := NB471_472.out
          have hms18_0 := NB472_471.out
          have hs19 : w17.cell? ⟨gb472, 1, none⟩ = some (.string x473001_1) := (Af BK472.out 1).trans rfl
          have hfs19 := Ae BK472.out 1
          have hns19_0 := NB471_472.out
          have hms19_0 := NB472_471.out
          have hs20 : w17.cell? ⟨gb472, 2, none⟩ = some (.int .i64 x473002_1) := (Af BK472.out 2).trans rfl
          have hfs20 := Ae BK472.out 2
          have hns20_0 := NB471_472.out
          have hms20_0 := NB472_471.out
          refine skip_ (w1 := ?_) (by rfl) rfl ?_ ?_
          rotate_left
          · go_simp
            rfl
          refine hK.out _ _ ?_
          clear hK K
          refine done_ (done_of HT_.out (by kernel_rfl)) ?_
          try go_wp2_with (first | ((with_reducible refine Am (f := 54) rfl ?_); refine Au (some 20) rfl rfl Tryd.func54 (by kernel_rfl) rfl #[.pointer (some ⟨g, 0, none⟩), .int .i64 4] rfl (by (try simp only [List.map_toArray, List.map_cons, List.map_nil]); first | done | rfl | (simp only [List.length_drop, List.length_take]; rfl)) ?_; (with_reducible refine (Ez.calls g s0_0 t478 t479 4 true t485 t486 w0 _ ?side1 ?side2 A12.out).mono ?_); (case side1 => repeat (first | (with_reducible first | exact HI0.out | apply IsS74.alloc | apply IsS74.drewN | apply IsS74.drew | apply IsS74.set_1 | apply IsS74.set_2 | refine IsS74.far ?_ NB0_471.out _ | refine IsS74.far ?_ NB0_472.out _) | exact HI0.out)); (case side2 => repeat (first | (with_reducible first | exact HB.out | apply below_alloc | apply pw_below_drewN | apply below_drew1 | refine below_set ?_ (IsS74.ge HI0.out) | refine below_set ?_ GE471.out | refine below_set ?_ GE472.out) | exact HB.out)); rintro e w21 ⟨rfl, hi, hb, hk⟩; refine ⟨_, rfl, ?_⟩; have n0_ := Aside0.mk (KeepBut.blk hk (g' := gb471) (o := .cells #[.string (⟨#[]⟩ : ByteArray), .string (⟨#[]⟩ : ByteArray), .int .i64 0] 31 (0, 0)) (by (with_reducible repeat (first | refine Ac ?_ _ | refine Ad ?_ | refine Aa ?_ _)); refine Aw ?_ NB471_472.out _; (with_reducible repeat (first | refine Ac ?_ _ | refine Ad ?_ | refine Aa ?_ _)); refine Aw ?_ NB471_472.out _; (with_reducible repeat (first | refine Ac ?_ _ | refine Ad ?_ | refine Aa ?_ _)); refine Aw ?_ NB471_472.out _; (with_reducible repeat (first | refine Ac ?_ _ | refine Ad ?_ | refine Aa ?_ _)); exact BK471.out) NB471_0.out (by simp)); have n1_ := Aside0.mk (KeepBut.blk hk (g' := gb472) (o := .cells #[.string t480, .string t481, .int .i64 t482] 31 (0, 0)) (by (with_reducible repeat (first | refine Ac ?_ _ | refine Ad ?_ | refine Aa ?_ _)); refine Ar (cs := #[.string t480, .string t481, .int .i64 x473002_1]) ?_ 2 _ rfl; (with_reducible repeat (first | refine Ac ?_ _ | refine Ad ?_ | refine Aa ?_ _)); refine Ar (cs := #[.string t480, .string x473001_1, .int .i64 x473002_1]) ?_ 1 _ rfl; (with_reducible repeat (first | refine Ac ?_ _ | refine Ad ?_ | refine Aa ?_ _)); refine Ar (cs := #[.string x473000_1, .string x473001_1, .int .i64 x473002_1]) ?_ 0 _ rfl; (with_reducible repeat (first | refine Ac ?_ _ | refine Ad ?_ | refine Aa ?_ _)); exact BK472.out) NB472_0.out (by simp)); have n2_ := Aside0.mk (KeepBut.trans (by repeat (first | (with_reducible first | exact HK.out | apply KeepBut.set_ | apply keep_drewN | apply keep_drew | apply keep_alloc | refine Bv ?_ GW471.out _ | refine Bv ?_ GW472.out _) | exact HK.out)) hk (.inl rfl)); have n3_ := Aside0.mk (hb); have n4_ := Aside0.mk (hi); clear BK471; clear BK472; clear HK; clear HB; clear HI0; have BK471 := n0_; have BK472 := n1_; have HK := n2_; have HB := n3_; have HI0 := n4_; clear n0_ n1_ n2_ n3_ n4_; (try clear hb); (try clear hb2); (try clear hk); (try clear hi); have hnb22 := NB472_471.out; have hnc22 := NB471_472.out; have hnb23 := NB472_0.out; have hnc23 := NB0_472.out; have hcz24_0 : w21.cell? ⟨gb472, 0, none⟩ = some (.string t480) := (Af BK472.out 0).trans rfl; have hcz24_1 : w21.cell? ⟨gb472, 1, none⟩ = some (.string t481) := (Af BK472.out 1).trans rfl; have hcz24_2 : w21.cell? ⟨gb472, 2, none⟩ = some (.int .i64 t482) := (Af BK472.out 2).trans rfl; have hfz24_0 := Ae BK472.out 0; have hfz24_1 := Ae BK472.out 1; have hfz24_2 := Ae BK472.out 2) | ((with_reducible refine Am (f := 26) rfl ?_); refine Au (some 23) rfl rfl Tryd.func26 (by kernel_rfl) rfl #[.agg #[.string t480, .string t481, .int .i64 t482]] rfl (by (try simp only [List.map_toArray, List.map_cons, List.map_nil]); first | done | rfl | (simp only [List.length_drop, List.length_take]; rfl)) ?_; (with_reducible refine (En.calls k1 t480 t481 t482 t487 t488 t489 t490 _ A14.out).mono ?_); rintro e w25 ⟨rfl, hb⟩; refine ⟨_, rfl, ?_⟩; have n0_ := Aside0.mk (Ak (g := gb471) (o := .cells #[.string (⟨#[]⟩ : ByteArray), .string (⟨#[]⟩ : ByteArray), .int .i64 0] 31 (0, 0)) (by (with_reducible repeat (first | refine Ac ?_ _ | refine Ad ?_ | refine Aa ?_ _)); exact BK471.out) hb); have n1_ := Aside0.mk (Ak (g := gb472) (o := .cells #[.string t480, .string t481, .int .i64 t482] 31 (0, 0)) (by (with_reducible repeat (first | refine Ac ?_ _ | refine Ad ?_ | refine Aa ?_ _)); exact BK472.out) hb); have n2_ := Aside0.mk (IsS74.below (by repeat (first | (with_reducible first | exact HI0.out | apply IsS74.alloc | apply IsS74.drewN | apply IsS74.drew | apply IsS74.set_1 | apply IsS74.set_2 | refine IsS74.far ?_ NB0_471.out _ | refine IsS74.far ?_ NB0_472.out _) | exact HI0.out)) hb); have n3_ := Aside0.mk (KeepBut.trans (by repeat (first | (with_reducible first | exact HK.out | apply KeepBut.set_ | apply keep_drewN | apply keep_drew | apply keep_alloc | refine Bv ?_ GW471.out _ | refine Bv ?_ GW472.out _) | exact HK.out)) (KeepBut.of_below hb g none) (.inl rfl)); have n4_ := Aside0.mk (Ag (by repeat (first | (with_reducible first | exact HB.out | apply below_alloc | apply pw_below_drewN | apply below_drew1 | refine below_set ?_ (IsS74.ge HI0.out) | refine below_set ?_ GE471.out | refine below_set ?_ GE472.out) | exact HB.out)) hb); clear BK471; clear BK472; clear HI0; clear HK; clear HB; have BK471 := n0_; have BK472 := n1_; have HI0 := n2_; have HK := n3_; have HB := n4_; clear n0_ n1_ n2_ n3_ n4_; (try clear hb); (try clear hb2); (try clear hk); (try clear hi); have hcz26_0 : w25.cell? ⟨gb472, 0, none⟩ = some (.string t480) := (Af BK472.out 0).trans rfl; have hcz26_1 : w25.cell? ⟨gb472, 1, none⟩ = some (.string t481) := (Af BK472.out 1).trans rfl; have hcz26_2 : w25.cell? ⟨gb472, 2, none⟩ = some (.int .i64 t482) := (Af BK472.out 2).trans rfl; have hfz26_0 := Ae BK472.out 0; have hfz26_1 := Ae BK472.out 1; have hfz26_2 := Ae BK472.out 2))
          go_roundg k1
          case measure => have := HK1.out; omega
          case rel => exact ⟨(wrap64 (x4_1 - 1)), (t485), (t486), (t487), (t488), (t489), (by first | rfl | (simp; done) | (simp [*]; done)), H', ⟨by have := HK1.out; omega⟩, ⟨by (with_reducible repeat (first | refine Ac ?_ _ | refine Ad ?_ | refine Aa ?_ _)); refine Aw ?_ NB471_472.out _; (with_reducible repeat (first | refine Ac ?_ _ | refine Ad ?_ | refine Aa ?_ _)); refine Aw ?_ NB471_472.out _; (with_reducible repeat (first | refine Ac ?_ _ | refine Ad ?_ | refine Aa ?_ _)); refine Aw ?_ NB471_472.out _; (with_reducible repeat (first | refine Ac ?_ _ | refine Ad ?_ | refine Aa ?_ _)); exact BK471.out⟩, ⟨by (with_reducible repeat (first | refine Ac ?_ _ | refine Ad ?_ | refine Aa ?_ _)); refine Ar (cs := #[.string t487, .string t488, .int .i64 t482]) ?_ 2 _ rfl; (with_reducible repeat (first | refine Ac ?_ _ | refine Ad ?_ | refine Aa ?_ _)); refine Ar (cs := #[.string t487, .string t481, .int .i64 t482]) ?_ 1 _ rfl; (with_reducible repeat (first | refine Ac ?_ _ | refine Ad ?_ | refine Aa ?_ _)); refine Ar (cs := #[.string t480, .string t481, .int .i64 t482]) ?_ 0 _ rfl; (with_reducible repeat (first | refine Ac ?_ _ | refine Ad ?_ | refine Aa ?_ _)); exact BK472.out⟩, ⟨by repeat (first | (with_reducible first | exact HI0.out | apply IsS74.alloc | apply IsS74.drewN | apply IsS74.drew | apply IsS74.set_1 | apply IsS74.set_2 | refine IsS74.far ?_ NB0_471.out _ | refine IsS74.far ?_ NB0_472.out _) | exact HI0.out)⟩, ⟨by repeat (first | (with_reducible first | exact HK.out | apply KeepBut.set_ | apply keep_drewN | apply keep_drew | apply keep_alloc | refine Bv ?_ GW471.out _ | refine Bv ?_ GW472.out _) | exact HK.out)⟩, ⟨by repeat (first | (with_reducible first | exact HB.out | apply below_alloc | apply pw_below_drewN | apply below_drew1 | refine below_set ?_ (IsS74.ge HI0.out) | refine below_set ?_ GE471.out | refine below_set ?_ GE472.out) | exact HB.out)⟩⟩
        · replace c13 := Bool.eq_false_iff.mpr c13
          subst c13
          have H1 : (Bf.l0 k1 (wrap64 (x4_1 - 1)) s0_0 t485 t486 t480 t481 t482) = some (r1, r2, r3, r4, r5) := by rw [if_neg (show ¬ (false = true) by decide)] at H; exact H
          clear H
          have H := H1
          clear H1
          have H' := Aside0.mk H
          clear H
          try go_wp2
          have n0_ := Aside0.mk (Ad BK471.out)
          have n1_ := Aside0.mk (Ad BK472.out)
          have n2_ := Aside0.mk (IsS74.drew HI0.out)
          have n3_ := Aside0.mk (keep_drew HK.out)
          have n4_ := Aside0.mk (below_drew1 HB.out)
          clear BK471
          clear BK472
          clear HI0
          clear HK
          clear HB
          have BK471 := n0_
          have BK472 := n1_
          have HI0 := n2_
          have HK := n3_
          have HB := n4_
          clear n0_ n1_ n2_ n3_ n4_
          refine start_ (n := 8) (S := fun w' => w'.cell? ⟨gb472, 0, none⟩ = some (.string x473000_1) ∧ w'.cell? ⟨gb472, 1, none⟩ = some (.string x473001_1) ∧ w'.cell? ⟨gb472, 2, none⟩ = some (.int .i64 x473002_1)) (ds := [7]) #[false, false, false, false, false, false, false, false] (by kernel_rfl) rfl rfl ⟨(Af BK472.out 0).trans rfl, (Af BK472.out 1).trans rfl, (Af BK472.out 2).trans rfl⟩ (fun hHeld => ?_); refine Gy Bf.tab5 Bf.bits5 (fun HT_ HW_ => ?_)
          generalize wr.drew = w27 at BK471 BK472 HI0 HK HB hHeld ⊢
          refine D6 (i := 1) (N := some 14) (v := ?_) (a' := ?_) #[false, true, false, false, false, false, false, false] rfl rfl (Dt HT_.out (by kernel_rfl)) (fun _ _ _ h => h) (Or.inl ⟨by rfl, ?_⟩) ?_ ?_
          rotate_left
          · intro w'
            go_simp
            with_reducible rfl
          rotate_left
          · simp only [Act.put, List.setIfInBounds_toArray, List.set_cons_zero, List.set_cons_succ, Cj, C9]
            rfl
          refine Gn (i := 0) (N := some 13) (v := ?_) (a' := ?_) #[true, true, false, false, false, false, false, false] rfl rfl (Fh HT_.out HW_.out (by kernel_rfl)) (fun _ _ _ h => h) (Or.inl ⟨by rfl, ?_⟩) hHeld ?_ ?_
          rotate_left
          · rintro w' ⟨s0, s1, s2⟩
            go_simp
            with_reducible rfl
          rotate_left
          · simp only [Act.put, List.setIfInBounds_toArray, List.set_cons_zero, List.set_cons_succ, Cj, C9]
            rfl
          refine one_ (i := 2) (N := some 15) #[true, true, true, false, false, false, false, false] rfl rfl (Gg HT_.out (by kernel_rfl)) (by decide) (fun K hK => ?_)
          refine goes_ Tryd.func56 (by kernel_rfl) rfl #[.pointer (some ⟨g, 0, none⟩)] (by rfl) rfl rfl (by (try simp only [List.map_toArray, List.map_cons, List.map_nil]); first | done | rfl | (simp only [List.length_drop, List.length_take]; rfl)) ?_
          with_reducible refine (Du.calls g s0_0 x1001_1 x1002_1 t476 t477 t478 t479 w0 _ ?side1 ?side2 A10.out).mono ?_
          (case side1 => repeat (first | (with_reducible first | exact HI0.out | apply IsS74.alloc | apply IsS74.drewN | apply IsS74.drew | apply IsS74.set_1 | apply IsS74.set_2 | refine IsS74.far ?_ NB0_471.out _ | refine IsS74.far ?_ NB0_472.out _) | exact HI0.out))
          (case side2 => repeat (first | (with_reducible first | exact HB.out | apply below_alloc | apply pw_below_drewN | apply below_drew1 | refine below_set ?_ (IsS74.ge HI0.out) | refine below_set ?_ GE471.out | refine below_set ?_ GE472.out) | exact HB.out))
          rintro e w28 ⟨rfl, hi, hb, hk⟩
          refine ⟨_, rfl, ?_⟩
          have n0_ := Aside0.mk (KeepBut.blk hk (g' := gb471) (o := .cells #[.string (⟨#[]⟩ : ByteArray), .string (⟨#[]⟩ : ByteArray), .int .i64 0] 31 (0, 0)) (by (with_reducible repeat (first | refine Ac ?_ _ | refine Ad ?_ | refine Aa ?_ _)); exact BK471.out) NB471_0.out (by simp))
          have n1_ := Aside0.mk (KeepBut.blk hk (g' := gb472) (o := .cells #[.string x473000_1, .string x473001_1, .int .i64 x473002_1] 31 (0, 0)) (by (with_reducible repeat (first | refine Ac ?_ _ | refine Ad ?_ | refine Aa ?_ _)); exact BK472.out) NB472_0.out (by simp))
          have n2_ := Aside0.mk (KeepBut.trans (by repeat (first | (with_reducible first | exact HK.out | apply KeepBut.set_ | apply keep_drewN | apply keep_drew | apply keep_alloc | refine Bv ?_ GW471.out _ | refine Bv ?_ GW472.out _) | exact HK.out)) hk (.inl rfl))
          have n3_ := Aside0.mk (hb)
          have n4_ := Aside0.mk (hi)
          clear BK471
          clear BK472
          clear HK
          clear HB
          clear HI0
          have BK471 := n0_
          have BK472 := n1_
          have HK := n2_
          have HB := n3_
          have HI0 := n4_
          clear n0_ n1_ n2_ n3_ n4_
          (try clear hb)
          (try clear hb2)
          (try clear hk)
          (try clear hi)
          refine hK.out _ _ ⟨(Af BK472.out 0).trans rfl, (Af BK472.out 1).trans rfl, (Af BK472.out 2).trans rfl⟩ (fun hHeld => ?_)
          clear hK K
          refine norm_ (a' := ?_) ?_ ?_
          rotate_left
          · show Act.put _ (some 15) _ = _
            simp only [Act.put, List.setIfInBounds_toArray, List.set_cons_zero, List.set_cons_succ, Cj, C9]
            rfl
          refine one_ (i := 3) (N := some 16) #[true, true, true, true, false, false, false, false] rfl rfl (Gg HT_.out (by kernel_rfl)) (by decide) (fun K hK => ?_)
          refine goes_ Tryd.func28 (by kernel_rfl) rfl #[.agg #[.string x473000_1, .string x473001_1, .int .i64 x473002_1], .agg #[.string t476, .string t477]] (by rfl) rfl rfl (by (try simp only [List.map_toArray, List.map_cons, List.map_nil]); first | done | rfl | (simp only [List.length_drop, List.length_take]; rfl)) ?_
          with_reducible refine (Bc.calls k1 x473000_1 x473001_1 x473002_1 t476 t477 t480 t481 t482 t483 _ A11.out).mono ?_
          rintro e w29 ⟨rfl, hb⟩
          refine ⟨_, rfl, ?_⟩
          have n0_ := Aside0.mk (Ak (g := gb471) (o := .cells #[.string (⟨#[]⟩ : ByteArray), .string (⟨#[]⟩ : ByteArray), .int .i64 0] 31 (0, 0)) (by (with_reducible repeat (first | refine Ac ?_ _ | refine Ad ?_ | refine Aa ?_ _)); exact BK471.out) hb)
          have n1_ := Aside0.mk (Ak (g := gb472) (o := .cells #[.string x473000_1, .string x473001_1, .int .i64 x473002_1] 31 (0, 0)) (by (with_reducible repeat (first | refine Ac ?_ _ | refine Ad ?_ | refine Aa ?_ _)); exact BK472.out) hb)
          have n2_ := Aside0.mk (IsS74.below (by repeat (first | (with_reducible first | exact HI0.out | apply IsS74.alloc | apply IsS74.drewN | apply IsS74.drew | apply IsS74.set_1 | apply IsS74.set_2 | refine IsS74.far ?_ NB0_471.out _ | refine IsS74.far ?_ NB0_472.out _) | exact HI0.out)) hb)
          have n3_ := Aside0.mk (KeepBut.trans (by repeat (first | (with_reducible first | exact HK.out | apply KeepBut.set_ | apply keep_drewN | apply keep_drew | apply keep_alloc | refine Bv ?_ GW471.out _ | refine Bv ?_ GW472.out _) | exact HK.out)) (KeepBut.of_below hb g none) (.inl rfl))
          have n4_ := Aside0.mk (Ag (by repeat (first | (with_reducible first | exact HB.out | apply below_alloc | apply pw_below_drewN | apply below_drew1 | refine below_set ?_ (IsS74.ge HI0.out) | refine below_set ?_ GE471.out | refine below_set ?_ GE472.out) | exact HB.out)) hb)
          clear BK471
          clear BK472
          clear HI0
          clear HK
          clear HB
          have BK471 := n0_
          have BK472 := n1_
          have HI0 := n2_
          have HK := n3_
          have HB := n4_
          clear n0_ n1_ n2_ n3_ n4_
          (try clear hb)
          (try clear hb2)
          (try clear hk)
          (try clear hi)
          refine hK.out _ _ ⟨(Af BK472.out 0).trans rfl, (Af BK472.out 1).trans rfl, (Af BK472.out 2).trans rfl⟩ (fun hHeld => ?_)
          clear hK K
          refine norm_ (a' := ?_) ?_ ?_
          rotate_left
          · show Act.put _ (some 16) _ = _
            simp only [Act.put, List.setIfInBounds_toArray, List.set_cons_zero, List.set_cons_succ, Cj, C9]
            rfl
          refine D6 (i := 4) (N := some 12) (v := ?_) (a' := ?_) #[true, true, true, true, true, false, false, false] rfl rfl (Dt HT_.out (by kernel_rfl)) (fun _ _ _ h => h) (Or.inl ⟨by rfl, ?_⟩) ?_ ?_
          rotate_left
          · intro w'
            go_simp
            with_reducible rfl
          rotate_left
          · simp only [Act.put, List.setIfInBounds_toArray, List.set_cons_zero, List.set_cons_succ, Cj, C9]
            rfl
          refine D6 (i := 5) (N := some 17) (v := ?_) (a' := ?_) #[true, true, true, true, true, true, false, false] rfl rfl (Dt HT_.out (by kernel_rfl)) (fun _ _ _ h => h) (Or.inl ⟨by rfl, ?_⟩) ?_ ?_
          rotate_left
          · intro w'
            go_simp
            with_reducible rfl
          rotate_left
          · simp only [Act.put, List.setIfInBounds_toArray, List.set_cons_zero, List.set_cons_succ, Cj, C9]
            rfl
          refine D6 (i := 6) (N := some 18) (v := ?_) (a' := ?_) #[true, true, true, true, true, true, true, false] rfl rfl (Dt HT_.out (by kernel_rfl)) (fun _ _ _ h => h) (Or.inl ⟨by rfl, ?_⟩) ?_ ?_
          rotate_left
          · intro w'
            go_simp
            with_reducible rfl
          rotate_left
          · simp only [Act.put, List.setIfInBounds_toArray, List.set_cons_zero, List.set_cons_succ, Cj, C9]
            rfl
          refine last_ (i := 7) (N := none) #[true, true, true, true, true, true, true, true] rfl rfl (Gg HT_.out (by kernel_rfl)) (by decide) (fun K hK => ?_)
          have hs30 : w29.cell? ⟨gb472, 0, none⟩ = some (.string x473000_1) := (Af BK472.out 0).trans rfl
          have hfs30 := Ae BK472.out 0
          have hns30_0 := NB471_472.out
          have hms30_0 := NB472_471.out
          have hs31 : w29.cell? ⟨gb472, 1, none⟩ = some (.string x473001_1) := (Af BK472.out 1).trans rfl
          have hfs31 := Ae BK472.out 1
          have hns31_0 := NB471_472.out
          have hms31_0 := NB472_471.out
          have hs32 : w29.cell? ⟨gb472, 2, none⟩ = some (.int .i64 x473002_1) := (Af BK472.out 2).trans rfl
          have hfs32 := Ae BK472.out 2
          have hns32_0 := NB471_472.out
          have hms32_0 := NB472_471.out
          refine skip_ (w1 := ?_) (by rfl) rfl ?_ ?_
          rotate_left
          · go_simp
            rfl
          refine hK.out _ _ ?_
          clear hK K
          refine done_ (done_of HT_.out (by kernel_rfl)) ?_
          try go_wp2_with (first | ((with_reducible refine Am (f := 54) rfl ?_); refine Au (some 20) rfl rfl Tryd.func54 (by kernel_rfl) rfl #[.pointer (some ⟨g, 0, none⟩), .int .i64 4] rfl (by (try simp only [List.map_toArray, List.map_cons, List.map_nil]); first | done | rfl | (simp only [List.length_drop, List.length_take]; rfl)) ?_; (with_reducible refine (Ez.calls g s0_0 t478 t479 4 false t485 t486 w0 _ ?side1 ?side2 A12.out).mono ?_); (case side1 => repeat (first | (with_reducible first | exact HI0.out | apply IsS74.alloc | apply IsS74.drewN | apply IsS74.drew | apply IsS74.set_1 | apply IsS74.set_2 | refine IsS74.far ?_ NB0_471.out _ | refine IsS74.far ?_ NB0_472.out _) | exact HI0.out)); (case side2 => repeat (first | (with_reducible first | exact HB.out | apply below_alloc | apply pw_below_drewN | apply below_drew1 | refine below_set ?_ (IsS74.ge HI0.out) | refine below_set ?_ GE471.out | refine below_set ?_ GE472.out) | exact HB.out)); rintro e w33 ⟨rfl, hi, hb, hk⟩; refine ⟨_, rfl, ?_⟩; have n0_ := Aside0.mk (KeepBut.blk hk (g' := gb471) (o := .cells #[.string (⟨#[]⟩ : ByteArray), .string (⟨#[]⟩ : ByteArray), .int .i64 0] 31 (0, 0)) (by (with_reducible repeat (first | refine Ac ?_ _ | refine Ad ?_ | refine Aa ?_ _)); refine Aw ?_ NB471_472.out _; (with_reducible repeat (first | refine Ac ?_ _ | refine Ad ?_ | refine Aa ?_ _)); refine Aw ?_ NB471_472.out _; (with_reducible repeat (first | refine Ac ?_ _ | refine Ad ?_ | refine Aa ?_ _)); refine Aw ?_ NB471_472.out _; (with_reducible repeat (first | refine Ac ?_ _ | refine Ad ?_ | refine Aa ?_ _)); exact BK471.out) NB471_0.out (by simp)); have n1_ := Aside0.mk (KeepBut.blk hk (g' := gb472) (o := .cells #[.string t480, .string t481, .int .i64 t482] 31 (0, 0)) (by (with_reducible repeat (first | refine Ac ?_ _ | refine Ad ?_ | refine Aa ?_ _)); refine Ar (cs := #[.string t480, .string t481, .int .i64 x473002_1]) ?_ 2 _ rfl; (with_reducible repeat (first | refine Ac ?_ _ | refine Ad ?_ | refine Aa ?_ _)); refine Ar (cs := #[.string t480, .string x473001_1, .int .i64 x473002_1]) ?_ 1 _ rfl; (with_reducible repeat (first | refine Ac ?_ _ | refine Ad ?_ | refine Aa ?_ _)); refine Ar (cs := #[.string x473000_1, .string x473001_1, .int .i64 x473002_1]) ?_ 0 _ rfl; (with_reducible repeat (first | refine Ac ?_ _ | refine Ad ?_ | refine Aa ?_ _)); exact BK472.out) NB472_0.out (by simp)); have n2_ := Aside0.mk (KeepBut.trans (by repeat (first | (with_reducible first | exact HK.out | apply KeepBut.set_ | apply keep_drewN | apply keep_drew | apply keep_alloc | refine Bv ?_ GW471.out _ | refine Bv ?_ GW472.out _) | exact HK.out)) hk (.inl rfl)); have n3_ := Aside0.mk (hb); have n4_ := Aside0.mk (hi); clear BK471; clear BK472; clear HK; clear HB; clear HI0; have BK471 := n0_; have BK472 := n1_; have HK := n2_; have HB := n3_; have HI0 := n4_; clear n0_ n1_ n2_ n3_ n4_; (try clear hb); (try clear hb2); (try clear hk); (try clear hi)))
          go_roundg k1
          case measure => have := HK1.out; omega
          case rel => exact ⟨(wrap64 (x4_1 - 1)), (t485), (t486), (t480), (t481), (t482), (by first | rfl | (simp; done) | (simp [*]; done)), H', ⟨by have := HK1.out; omega⟩, ⟨by (with_reducible repeat (first | refine Ac ?_ _ | refine Ad ?_ | refine Aa ?_ _)); exact BK471.out⟩, ⟨by (with_reducible repeat (first | refine Ac ?_ _ | refine Ad ?_ | refine Aa ?_ _)); exact BK472.out⟩, ⟨by repeat (first | (with_reducible first | exact HI0.out | apply IsS74.alloc | apply IsS74.drewN | apply IsS74.drew | apply IsS74.set_1 | apply IsS74.set_2 | refine IsS74.far ?_ NB0_471.out _ | refine IsS74.far ?_ NB0_472.out _) | exact HI0.out)⟩, ⟨by repeat (first | (with_reducible first | exact HK.out | apply KeepBut.set_ | apply keep_drewN | apply keep_drew | apply keep_alloc | refine Bv ?_ GW471.out _ | refine Bv ?_ GW472.out _) | exact HK.out)⟩, ⟨by repeat (first | (with_reducible first | exact HB.out | apply below_alloc | apply pw_below_drewN | apply below_drew1 | refine below_set ?_ (IsS74.ge HI0.out) | refine below_set ?_ GE471.out | refine below_set ?_ GE472.out) | exact HB.out)⟩⟩
      · rw [if_neg c9] at H
        have c9b0 : decide (0 < x4_1) = false := decide_eq_false c9
        clear c9
        simp only [Option.some.injEq, Prod.mk.injEq] at H
        obtain ⟨rfl, rfl, rfl, rfl, rfl⟩ := H
        have hnb34 := NB472_471.out
        have hnc34 := NB471_472.out
        have hnb35 := NB472_0.out
        have hnc35 := NB0_472.out
        have hcz36_0 : wr.cell? ⟨gb472, 0, none⟩ = some (.string x473000_1) := (Af BK472.out 0).trans rfl
        have hcz36_1 : wr.cell? ⟨gb472, 1, none⟩ = some (.string x473001_1) := (Af BK472.out 1).trans rfl
        have hcz36_2 : wr.cell? ⟨gb472, 2, none⟩ = some (.int .i64 x473002_1) := (Af BK472.out 2).trans rfl
        have hfz36_0 := Ae BK472.out 0
        have hfz36_1 := Ae BK472.out 1
        have hfz36_2 := Ae BK472.out 2
        have hnb37 := NB471_0.out
        have hnc37 := NB0_471.out
        have hcz38_0 : wr.cell? ⟨gb471, 0, none⟩ = some (.string (⟨#[]⟩ : ByteArray)) := (Af BK471.out 0).trans rfl
        have hcz38_1 : wr.cell? ⟨gb471, 1, none⟩ = some (.string (⟨#[]⟩ : ByteArray)) := (Af BK471.out 1).trans rfl
        have hcz38_2 : wr.cell? ⟨gb471, 2, none⟩ = some (.int .i64 0) := (Af BK471.out 2).trans rfl
        have hfz38_0 := Ae BK471.out 0
        have hfz38_1 := Ae BK471.out 1
        have hfz38_2 := Ae BK471.out 2
        go_wp2
        refine bodyPost_ret (results_cell_row rfl _ _ gb471 31 #[.string x473000_1, .string x473001_1, .int .i64 x473002_1] (0, 0) _ rfl (by (with_reducible repeat (first | refine Ac ?_ _ | refine Ad ?_ | refine Aa ?_ _)); refine Ar (cs := #[.string x473000_1, .string x473001_1, .int .i64 0]) ?_ 2 _ rfl; (with_reducible repeat (first | refine Ac ?_ _ | refine Ad ?_ | refine Aa ?_ _)); refine Ar (cs := #[.string x473000_1, .string (⟨#[]⟩ : ByteArray), .int .i64 0]) ?_ 1 _ rfl; (with_reducible repeat (first | refine Ac ?_ _ | refine Ad ?_ | refine Aa ?_ _)); refine Ar (cs := #[.string (⟨#[]⟩ : ByteArray), .string (⟨#[]⟩ : ByteArray), .int .i64 0]) ?_ 0 _ rfl; (with_reducible repeat (first | refine Ac ?_ _ | refine Ad ?_ | refine Aa ?_ _)); exact BK471.out) Tryd.underlying31 rfl (by kernel_rfl)) rfl ?_
        exact ⟨by first | rfl | (simp [Aj, Ai] <;> rfl) | (simp [*, Aj, Ai] <;> rfl), by repeat (first | (with_reducible first | exact HI0.out | apply IsS74.alloc | apply IsS74.drewN | apply IsS74.drew | apply IsS74.set_1 | apply IsS74.set_2 | refine IsS74.far ?_ NB0_471.out _ | refine IsS74.far ?_ NB0_472.out _) | exact HI0.out), by repeat (first | (with_reducible first | exact HB.out | apply below_alloc | apply pw_below_drewN | apply below_drew1 | refine below_set ?_ (IsS74.ge HI0.out) | refine below_set ?_ GE471.out | refine below_set ?_ GE472.out) | exact HB.out), by repeat (first | (with_reducible first | exact HK.out | apply KeepBut.set_ | apply keep_drewN | apply keep_drew | apply keep_alloc | refine Bv ?_ GW471.out _ | refine Bv ?_ GW472.out _) | exact HK.out)⟩

end Go.Proofs.YtkpieljmhgfofaaDoor.X


-- written by a program of this session (wip/ext.py) out of the translation. Not trusted: Lean checks it.
namespace Go.Proofs.YtkpieljmhgfofaaDoor.X
open Go.RowKit Go.Proofs.YtkpieljmhgfofaaDoorW.PrintWords Go.Proofs.YtkpieljmhgfofaaDoorW.PrintLast Go.Proofs.YtkpieljmhgfofaaDoorW.PrintMore
attribute [local go_sem] max2_int min2_int max_two min_two max_three min_three max_four min_four   -- for this text's walks alone
open Go.Proofs.YtkpieljmhgfofaaDoorG
set_option linter.unusedVariables false
set_option linter.unusedSimpArgs false

def spec_l1Cur_spoilt.f (s0_0 : List Int) (s0_1 : Int) (s0_2 : Int) (a1 : ByteArray) (a2 : ByteArray) : Option (ByteArray × Int × Int) :=
  if a1.toList = ([] : List UInt8) then (if 1 ≤ (a2.size : Int) then some (a2.extract 0 1, s0_1, s0_2) else none)
  else (spec_l1Cur_pick.f s0_0 s0_1 s0_2 (a1.size : Int)).bind fun p => (spec_l1Cur_pick.f s0_0 p.2.1 p.2.2 (a2.size : Int)).bind fun q =>
    (spec_l1Cur_pick.f s0_0 q.2.1 q.2.2 3).bind fun m => if (0 ≤ q.1 ∧ q.1 < (a2.size : Int)) ∧ (0 ≤ p.1 ∧ p.1 < (a1.size : Int)) ∧ a1.size ≤ 4611686018427387904 ∧ a2.size ≤ 4611686018427387904 then
      some (if m.1 = 0 then ((a1.extract 0 p.1.toNat ++ (a2.extract q.1.toNat a2.size).extract 0 1) ++ a1.extract p.1.toNat a1.size, m.2.1, m.2.2)
        else if m.1 = 1 then ((a1.extract 0 p.1.toNat ++ (a2.extract q.1.toNat a2.size).extract 0 1) ++ a1.extract (p.1 + 1).toNat a1.size, m.2.1, m.2.2)
        else (a1.extract 0 p.1.toNat ++ a1.extract (p.1 + 1).toNat a1.size, m.2.1, m.2.2)) else none
set_option maxHeartbeats 8000000 in
set_option maxRecDepth 100000 in
theorem spec_l1Cur_spoilt.calls (g : Nat) (s0_0 : List Int) (s0_1 : Int) (s0_2 : Int) (a1 : ByteArray) (a2 : ByteArray) (r1 : ByteArray) (r2 : Int) (r3 : Int) (w0 w : World) (hI : IsS74 w0 w g s0_0 s0_1 s0_2) (hB : Below w0.heap.size w0 w) (h : spec_l1Cur_spoilt.f s0_0 s0_1 s0_2 a1 a2 = some (r1, r2, r3)) :
    Calls Tryd.prog 61 #[.pointer (some ⟨g, 0, none⟩), .string a1, .string a2] w fun e w' => e = .returned (.string r1) ∧ IsS74 w0 w' g s0_0 r2 r3 ∧ Below w0.heap.size w0 w' ∧ KeepBut w w' g none := by
  have HI0 := Aside0.mk hI
  have HK := Aside0.mk (KeepBut.refl w g none)
  have HB := Aside0.mk hB
  clear hI hB
  unfold spec_l1Cur_spoilt.f at h
  by_cases c4 : a1.toList = ([] : List UInt8)
  · rw [if_pos c4] at h
    have c4b0 : (a1.toList == ([] : List UInt8)) = true := beq_iff_eq.mpr c4
    clear c4
    by_cases c6 : 1 ≤ (a2.size : Int)
    · rw [if_pos c6] at h
      simp only [Option.some.injEq, Prod.mk.injEq] at h
      obtain ⟨rfl, rfl, rfl⟩ := h
      have c6b := eq_true c6
      have c6c : decide (1 ≤ (a2.size : Int)) = true := decide_eq_true c6
      have c6d : (1 ≤ a2.size) = True := eq_true (by omega)
      clear c6
      go_enter Tryd.func61, Tryd.ntmps61
      go_wp2
      go_ret
      exact ⟨by first | rfl | (simp [*]; done), by repeat (first | (with_reducible first | exact HI0.out | apply IsS74.alloc | apply IsS74.drewN | apply IsS74.drew | apply IsS74.set_1 | apply IsS74.set_2) | exact HI0.out), by repeat (first | (with_reducible first | exact HB.out | apply below_alloc | apply pw_below_drewN | apply below_drew1 | refine below_set ?_ (IsS74.ge HI0.out)) | exact HB.out), by repeat (first | (with_reducible first | exact HK.out | apply KeepBut.set_ | apply keep_drewN | apply keep_drew | apply keep_alloc) | exact HK.out)⟩
    · rw [if_neg c6] at h; cases h
  · rw [if_neg c4] at h
    have c4b0 : (a1.toList == ([] : List UInt8)) = false := beq_eq_false_iff_ne.mpr c4
    clear c4
    replace h := Option.bind_eq_some_iff.mp h
    obtain ⟨⟨p, p2, p3⟩, A1, h⟩ := h
    replace h := Option.bind_eq_some_iff.mp h
    obtain ⟨⟨q, q2, q3⟩, A2, h⟩ := h
    replace h := Option.bind_eq_some_iff.mp h
    obtain ⟨⟨m, m2, m3⟩, A3, h⟩ := h
    have AA1 := Aside0.mk A1
    have AA2 := Aside0.mk A2
    have AA3 := Aside0.mk A3
    clear A1 A2 A3
    dsimp only at h AA1 AA2 AA3
    by_cases c : (0 ≤ q ∧ q < (a2.size : Int)) ∧ (0 ≤ p ∧ p < (a1.size : Int)) ∧ a1.size ≤ 4611686018427387904 ∧ a2.size ≤ 4611686018427387904
    · rw [if_pos c] at h
      have CC := Aside0.mk c
      have hp0 : 0 ≤ p := c.2.1.1
      have hq0 : 0 ≤ q := c.1.1
      obtain ⟨pn, rfl⟩ := Int.eq_ofNat_of_zero_le hp0
      obtain ⟨qn, rfl⟩ := Int.eq_ofNat_of_zero_le hq0
      have x1 : ((qn : Int) ≤ (a2.size : Int)) = True := eq_true (by omega)
      have x1n : (qn ≤ a2.size) = True := eq_true (by omega)
      have x2n : (1 ≤ a2.size - qn) = True := eq_true (by omega)
      have x2i : ((1 : Int) ≤ ((a2.size - qn : Nat) : Int)) = True := eq_true (by omega)
      have x2j : (qn < a2.size) = True := eq_true (by omega)
      have x2k : (qn + 1 ≤ a2.size) = True := eq_true (by omega)
      have x3n : (pn ≤ a1.size) = True := eq_true (by omega)
      have x4n : (pn + 1 ≤ a1.size) = True := eq_true (by omega)
      have x5 : wrap64 ((pn : Int) + 1) = (pn : Int) + 1 := by unfold wrap64; omega
      have x6 : ((pn : Int) + 1).toNat = pn + 1 := by omega
      simp only [Option.some.injEq, Int.toNat_natCast, x6] at h
      have X5 := Aside0.mk x5
      clear c hp0 hq0 x5 x6
      have HH := Aside0.mk h
      clear h
      by_cases d0 : m = 0
      · subst d0
        have H2 := Aside0.mk (HH.out.symm.trans (if_pos rfl))
        clear HH
        simp only [Prod.mk.injEq] at H2
        obtain ⟨rfl, rfl, rfl⟩ := H2.out
        clear H2
        go_enter Tryd.func61, Tryd.ntmps61
        go_wp2_with (first | (go_at_call 55; (with_reducible refine (spec_l1Cur_pick.calls g s0_0 s0_1 s0_2 (a1.size : Int) (pn : Int) p2 p3 w0 _ ?side1 ?side2 AA1.out).mono ?_); (case side1 => repeat (first | (with_reducible first | exact HI0.out | apply IsS74.alloc | apply IsS74.drewN | apply IsS74.drew | apply IsS74.set_1 | apply IsS74.set_2) | exact HI0.out)); (case side2 => repeat (first | (with_reducible first | exact HB.out | apply below_alloc | apply pw_below_drewN | apply below_drew1 | refine below_set ?_ (IsS74.ge HI0.out)) | exact HB.out)); rintro e w' ⟨rfl, hi, hb, hk⟩; have n0_ := Aside0.mk (KeepBut.trans (by repeat (first | (with_reducible first | exact HK.out | apply KeepBut.set_ | apply keep_drewN | apply keep_drew | apply keep_alloc) | exact HK.out)) hk (.inl rfl)); have n1_ := Aside0.mk hb; have n2_ := Aside0.mk hi; clear HK HB HI0; have HK := n0_; have HB := n1_; have HI0 := n2_; clear n0_ n1_ n2_ hb hk hi) | (go_at_call 55; (with_reducible refine (spec_l1Cur_pick.calls g s0_0 p2 p3 (a2.size : Int) (qn : Int) q2 q3 w0 _ ?side1 ?side2 AA2.out).mono ?_); (case side1 => repeat (first | (with_reducible first | exact HI0.out | apply IsS74.alloc | apply IsS74.drewN | apply IsS74.drew | apply IsS74.set_1 | apply IsS74.set_2) | exact HI0.out)); (case side2 => repeat (first | (with_reducible first | exact HB.out | apply below_alloc | apply pw_below_drewN | apply below_drew1 | refine below_set ?_ (IsS74.ge HI0.out)) | exact HB.out)); rintro e w' ⟨rfl, hi, hb, hk⟩; have n0_ := Aside0.mk (KeepBut.trans (by repeat (first | (with_reducible first | exact HK.out | apply KeepBut.set_ | apply keep_drewN | apply keep_drew | apply keep_alloc) | exact HK.out)) hk (.inl rfl)); have n1_ := Aside0.mk hb; have n2_ := Aside0.mk hi; clear HK HB HI0; have HK := n0_; have HB := n1_; have HI0 := n2_; clear n0_ n1_ n2_ hb hk hi) | (go_at_call 55; (with_reducible refine (spec_l1Cur_pick.calls g s0_0 q2 q3 3 0 _ _ w0 _ ?side1 ?side2 AA3.out).mono ?_); (case side1 => repeat (first | (with_reducible first | exact HI0.out | apply IsS74.alloc | apply IsS74.drewN | apply IsS74.drew | apply IsS74.set_1 | apply IsS74.set_2) | exact HI0.out)); (case side2 => repeat (first | (with_reducible first | exact HB.out | apply below_alloc | apply pw_below_drewN | apply below_drew1 | refine below_set ?_ (IsS74.ge HI0.out)) | exact HB.out)); rintro e w' ⟨rfl, hi, hb, hk⟩; have n0_ := Aside0.mk (KeepBut.trans (by repeat (first | (with_reducible first | exact HK.out | apply KeepBut.set_ | apply keep_drewN | apply keep_drew | apply keep_alloc) | exact HK.out)) hk (.inl rfl)); have n1_ := Aside0.mk hb; have n2_ := Aside0.mk hi; clear HK HB HI0; have HK := n0_; have HB := n1_; have HI0 := n2_; clear n0_ n1_ n2_ hb hk hi))
        have hC := CC.out
        have z0 : (9223372036854775807 < pn + 1) = False := eq_false (by omega)
        have z1 : (9223372036854775807 < pn + 1 + (a1.size - pn)) = False := eq_false (by omega)
        clear hC
        repeat (go_quiet (fail); try go_wp2)
        go_ret
        exact ⟨by first | rfl | (simp [*]; done), by repeat (first | (with_reducible first | exact HI0.out | apply IsS74.alloc | apply IsS74.drewN | apply IsS74.drew | apply IsS74.set_1 | apply IsS74.set_2) | exact HI0.out), by repeat (first | (with_reducible first | exact HB.out | apply below_alloc | apply pw_below_drewN | apply below_drew1 | refine below_set ?_ (IsS74.ge HI0.out)) | exact HB.out), by repeat (first | (with_reducible first | exact HK.out | apply KeepBut.set_ | apply keep_drewN | apply keep_drew | apply keep_alloc) | exact HK.out)⟩
      · by_cases d1 : m = 1
        · subst d1
          have H2 := Aside0.mk (HH.out.symm.trans ((if_neg d0).trans (if_pos rfl)))
          clear HH d0
          simp only [Prod.mk.injEq] at H2
          obtain ⟨rfl, rfl, rfl⟩ := H2.out
          clear H2
          go_enter Tryd.func61, Tryd.ntmps61
          go_wp2_with (first | (go_at_call 55; (with_reducible refine (spec_l1Cur_pick.calls g s0_0 s0_1 s0_2 (a1.size : Int) (pn : Int) p2 p3 w0 _ ?side1 ?side2 AA1.out).mono ?_); (case side1 => repeat (first | (with_reducible first | exact HI0.out | apply IsS74.alloc | apply IsS74.drewN | apply IsS74.drew | apply IsS74.set_1 | apply IsS74.set_2) | exact HI0.out)); (case side2 => repeat (first | (with_reducible first | exact HB.out | apply below_alloc | apply pw_below_drewN | apply below_drew1 | refine below_set ?_ (IsS74.ge HI0.out)) | exact HB.out)); rintro e w' ⟨rfl, hi, hb, hk⟩; have n0_ := Aside0.mk (KeepBut.trans (by repeat (first | (with_reducible first | exact HK.out | apply KeepBut.set_ | apply keep_drewN | apply keep_drew | apply keep_alloc) | exact HK.out)) hk (.inl rfl)); have n1_ := Aside0.mk hb; have n2_ := Aside0.mk hi; clear HK HB HI0; have HK := n0_; have HB := n1_; have HI0 := n2_; clear n0_ n1_ n2_ hb hk hi) | (go_at_call 55; (with_reducible refine (spec_l1Cur_pick.calls g s0_0 p2 p3 (a2.size : Int) (qn : Int) q2 q3 w0 _ ?side1 ?side2 AA2.out).mono ?_); (case side1 => repeat (first | (with_reducible first | exact HI0.out | apply IsS74.alloc | apply IsS74.drewN | apply IsS74.drew | apply IsS74.set_1 | apply IsS74.set_2) | exact HI0.out)); (case side2 => repeat (first | (with_reducible first | exact HB.out | apply below_alloc | apply pw_below_drewN | apply below_drew1 | refine below_set ?_ (IsS74.ge HI0.out)) | exact HB.out)); rintro e w' ⟨rfl, hi, hb, hk⟩; have n0_ := Aside0.mk (KeepBut.trans (by repeat (first | (with_reducible first | exact HK.out | apply KeepBut.set_ | apply keep_drewN | apply keep_drew | apply keep_alloc) | exact HK.out)) hk (.inl rfl)); have n1_ := Aside0.mk hb; have n2_ := Aside0.mk hi; clear HK HB HI0; have HK := n0_; have HB := n1_; have HI0 := n2_; clear n0_ n1_ n2_ hb hk hi) | (go_at_call 55; (with_reducible refine (spec_l1Cur_pick.calls g s0_0 q2 q3 3 1 _ _ w0 _ ?side1 ?side2 AA3.out).mono ?_); (case side1 => repeat (first | (with_reducible first | exact HI0.out | apply IsS74.alloc | apply IsS74.drewN | apply IsS74.drew | apply IsS74.set_1 | apply IsS74.set_2) | exact HI0.out)); (case side2 => repeat (first | (with_reducible first | exact HB.out | apply below_alloc | apply pw_below_drewN | apply below_drew1 | refine below_set ?_ (IsS74.ge HI0.out)) | exact HB.out)); rintro e w' ⟨rfl, hi, hb, hk⟩; have n0_ := Aside0.mk (KeepBut.trans (by repeat (first | (with_reducible first | exact HK.out | apply KeepBut.set_ | apply keep_drewN | apply keep_drew | apply keep_alloc) | exact HK.out)) hk (.inl rfl)); have n1_ := Aside0.mk hb; have n2_ := Aside0.mk hi; clear HK HB HI0; have HK := n0_; have HB := n1_; have HI0 := n2_; clear n0_ n1_ n2_ hb hk hi))
          have hC := CC.out
          have x5 := X5.out
          have x5b : ((pn : Int) + 1 ≤ (a1.size : Int)) = True := eq_true (by omega)
          have x5c : (0 ≤ (pn : Int) + 1) = True := eq_true (by omega)
          have x6 : ((pn : Int) + 1).toNat = pn + 1 := by omega
          have z0 : (9223372036854775807 < pn + 1) = False := eq_false (by omega)
          have z1 : (9223372036854775807 < pn + 1 + (a1.size - (pn + 1))) = False := eq_false (by omega)
          have z2 : (9223372036854775807 < a1.size) = False := eq_false (by omega)
          clear hC
          repeat (go_quiet (fail); try go_wp2)
          go_ret
          exact ⟨by first | rfl | (simp [*]; done), by repeat (first | (with_reducible first | exact HI0.out | apply IsS74.alloc | apply IsS74.drewN | apply IsS74.drew | apply IsS74.set_1 | apply IsS74.set_2) | exact HI0.out), by repeat (first | (with_reducible first | exact HB.out | apply below_alloc | apply pw_below_drewN | apply below_drew1 | refine below_set ?_ (IsS74.ge HI0.out)) | exact HB.out), by repeat (first | (with_reducible first | exact HK.out | apply KeepBut.set_ | apply keep_drewN | apply keep_drew | apply keep_alloc) | exact HK.out)⟩
        · have H2 := Aside0.mk (HH.out.symm.trans ((if_neg d0).trans (if_neg d1)))
          clear HH
          simp only [Prod.mk.injEq] at H2
          obtain ⟨rfl, rfl, rfl⟩ := H2.out
          clear H2
          have d0b : (m == 0) = false := beq_eq_false_iff_ne.mpr d0
          have d1b : (m == 1) = false := beq_eq_false_iff_ne.mpr d1
          clear d0 d1
          go_enter Tryd.func61, Tryd.ntmps61
          go_wp2_with (first | (go_at_call 55; (with_reducible refine (spec_l1Cur_pick.calls g s0_0 s0_1 s0_2 (a1.size : Int) (pn : Int) p2 p3 w0 _ ?side1 ?side2 AA1.out).mono ?_); (case side1 => repeat (first | (with_reducible first | exact HI0.out | apply IsS74.alloc | apply IsS74.drewN | apply IsS74.drew | apply IsS74.set_1 | apply IsS74.set_2) | exact HI0.out)); (case side2 => repeat (first | (with_reducible first | exact HB.out | apply below_alloc | apply pw_below_drewN | apply below_drew1 | refine below_set ?_ (IsS74.ge HI0.out)) | exact HB.out)); rintro e w' ⟨rfl, hi, hb, hk⟩; have n0_ := Aside0.mk (KeepBut.trans (by repeat (first | (with_reducible first | exact HK.out | apply KeepBut.set_ | apply keep_drewN | apply keep_drew | apply keep_alloc) | exact HK.out)) hk (.inl rfl)); have n1_ := Aside0.mk hb; have n2_ := Aside0.mk hi; clear HK HB HI0; have HK := n0_; have HB := n1_; have HI0 := n2_; clear n0_ n1_ n2_ hb hk hi) | (go_at_call 55; (with_reducible refine (spec_l1Cur_pick.calls g s0_0 p2 p3 (a2.size : Int) (qn : Int) q2 q3 w0 _ ?side1 ?side2 AA2.out).mono ?_); (case side1 => repeat (first | (with_reducible first | exact HI0.out | apply IsS74.alloc | apply IsS74.drewN | apply IsS74.drew | apply IsS74.set_1 | apply IsS74.set_2) | exact HI0.out)); (case side2 => repeat (first | (with_reducible first | exact HB.out | apply below_alloc | apply pw_below_drewN | apply below_drew1 | refine below_set ?_ (IsS74.ge HI0.out)) | exact HB.out)); rintro e w' ⟨rfl, hi, hb, hk⟩; have n0_ := Aside0.mk (KeepBut.trans (by repeat (first | (with_reducible first | exact HK.out | apply KeepBut.set_ | apply keep_drewN | apply keep_drew | apply keep_alloc) | exact HK.out)) hk (.inl rfl)); have n1_ := Aside0.mk hb; have n2_ := Aside0.mk hi; clear HK HB HI0; have HK := n0_; have HB := n1_; have HI0 := n2_; clear n0_ n1_ n2_ hb hk hi) | (go_at_call 55; (with_reducible refine (spec_l1Cur_pick.calls g s0_0 q2 q3 3 m _ _ w0 _ ?side1 ?side2 AA3.out).mono ?_); (case side1 => repeat (first | (with_reducible first | exact HI0.out | apply IsS74.alloc | apply IsS74.drewN | apply IsS74.drew | apply IsS74.set_1 | apply IsS74.set_2) | exact HI0.out)); (case side2 => repeat (first | (with_reducible first | exact HB.out | apply below_alloc | apply pw_below_drewN | apply below_drew1 | refine below_set ?_ (IsS74.ge HI0.out)) | exact HB.out)); rintro e w' ⟨rfl, hi, hb, hk⟩; have n0_ := Aside0.mk (KeepBut.trans (by repeat (first | (with_reducible first | exact HK.out | apply KeepBut.set_ | apply keep_drewN | apply keep_drew | apply keep_alloc) | exact HK.out)) hk (.inl rfl)); have n1_ := Aside0.mk hb; have n2_ := Aside0.mk hi; clear HK HB HI0; have HK := n0_; have HB := n1_; have HI0 := n2_; clear n0_ n1_ n2_ hb hk hi))
          have hC := CC.out
          have x5 := X5.out
          have x5b : ((pn : Int) + 1 ≤ (a1.size : Int)) = True := eq_true (by omega)
          have x5c : (0 ≤ (pn : Int) + 1) = True := eq_true (by omega)
          have x6 : ((pn : Int) + 1).toNat = pn + 1 := by omega
          have z0 : (9223372036854775807 < pn + (a1.size - (pn + 1))) = False := eq_false (by omega)
          clear hC
          repeat (go_quiet (fail); try go_wp2)
          go_ret
          exact ⟨by first | rfl | (simp [*]; done), by repeat (first | (with_reducible first | exact HI0.out | apply IsS74.alloc | apply IsS74.drewN | apply IsS74.drew | apply IsS74.set_1 | apply IsS74.set_2) | exact HI0.out), by repeat (first | (with_reducible first | exact HB.out | apply below_alloc | apply pw_below_drewN | apply below_drew1 | refine below_set ?_ (IsS74.ge HI0.out)) | exact HB.out), by repeat (first | (with_reducible first | exact HK.out | apply KeepBut.set_ | apply keep_drewN | apply keep_drew | apply keep_alloc) | exact HK.out)⟩
    · rw [if_neg c] at h; cases h

end Go.Proofs.YtkpieljmhgfofaaDoor.X


-- written by a program of this session (wip/ext.py) out of the translation. Not trusted: Lean checks it.
namespace Go.Proofs.YtkpieljmhgfofaaDoor.X
open Go.RowKit Go.Proofs.YtkpieljmhgfofaaDoorW.PrintWords Go.Proofs.YtkpieljmhgfofaaDoorW.PrintLast Go.Proofs.YtkpieljmhgfofaaDoorW.PrintMore
attribute [local go_sem] max2_int min2_int max_two min_two max_three min_three max_four min_four   -- for this text's walks alone
open Go.Proofs.YtkpieljmhgfofaaDoorG
set_option linter.unusedVariables false
set_option linter.unusedSimpArgs false

def Aq.j0 : Nat → ByteArray → List Int → Int → Int → Option (ByteArray)
  | 0, _, _, _, _ => none
  | k + 1, x5, x595000, x595001, x595002 => (Ez.f x595000 x595001 x595002 40).bind fun bt618 => (if bt618.1 = true then ((spec_l1Cur_pick.f x595000 bt618.2.1 bt618.2.2 2).bind fun bt621 => (if 0 ≤ (wrap64 (30000 + bt621.1)) then (if (wrap64 (30000 + bt621.1) : Int).toNat ≤ 281474976710656 then (some (strOfNums (List.replicate (wrap64 (30000 + bt621.1) : Int).toNat 0))) else (none)) else (none))) else (some x5))
def Aq.f (k : Nat) (l0 : List Int) : Option (ByteArray) := (Bf.f k l0 0 0).bind fun bt595 => (if bt595.1.size + bt595.2.1.size ≤ 9223372036854775807 then ((spec_l1Cur_pick.f l0 bt595.2.2.2.1 bt595.2.2.2.2 4).bind fun bt601 => (if bt601.1 = 0 then ((spec_l1Cur_spoilt.f l0 bt601.2.1 bt601.2.2 (bt595.1 ++ bt595.2.1) (⟨#[35, 64, 10, 48, 49]⟩ : ByteArray)).bind fun bt604 => (Aq.j0 k bt604.1 l0 bt604.2.1 bt604.2.2)) else (if bt601.1 = 1 then ((spec_l1Cur_pick.f l0 bt601.2.1 bt601.2.2 (wrap64 (((bt595.1 ++ bt595.2.1).size : Int) + 1))).bind fun bt607 => (if 0 ≤ bt607.1 then (if bt607.1 ≤ ((bt595.1 ++ bt595.2.1).size : Int) then (Aq.j0 k ((bt595.1 ++ bt595.2.1).extract 0 (bt607.1 : Int).toNat) l0 bt607.2.1 bt607.2.2) else (none)) else (none))) else (if bt601.1 = 2 then ((spec_l1Cur_pick.f l0 bt601.2.1 bt601.2.2 4).bind fun bt610 => ((Du.f l0 bt610.2.1 bt610.2.2).bind fun bt613 => ((Bg.f k bt610.1 bt613.1 bt613.2.1).bind fun t617 => (if (bt595.1 ++ bt595.2.1).size + t617.size ≤ 9223372036854775807 then (Aq.j0 k ((bt595.1 ++ bt595.2.1) ++ t617) l0 bt613.2.2.1 bt613.2.2.2) else (none))))) else (Aq.j0 k (bt595.1 ++ bt595.2.1) l0 bt601.2.1 bt601.2.2))))) else (none))
theorem Aq.Ee : ∀ k, (∀ y0 y1 y2 y3, LeO (Aq.j0 k y0 y1 y2 y3) (Aq.j0 (k + 1) y0 y1 y2 y3))
  | 0 => fun _ _ _ _ r h => by simp [Aq.j0] at h
  | k + 1 => by
    have ih0 := Aq.Ee k
    · intro y0 y1 y2 y3
      unfold Aq.j0
      repeat' first
      | (with_reducible exact ih0 _ _ _ _)
      | (with_reducible exact Bf.mono _ _ _ _)
      | (with_reducible exact Bg.mono _ _ _ _)
      | (with_reducible exact LeO.refl _)
      | (with_reducible exact LeO.none _)
      | (with_reducible refine LeO.ite ?_ ?_)
      | (with_reducible refine LeO.bind ?_ (fun _ => ?_))
      | exact ih0 _ _ _ _
      | exact Bf.mono _ _ _ _
      | exact Bg.mono _ _ _ _
      | exact LeO.none _
      | refine LeO.ite ?_ ?_
      | refine LeO.bind ?_ (fun _ => ?_)
theorem Aq.mono : ∀ a0 k, LeO (Aq.f k a0) (Aq.f (k + 1) a0) := by
  intro a0 k
  have ih0 := Aq.Ee k
  unfold Aq.f
  repeat' first
      | (with_reducible exact ih0 _ _ _ _)
      | (with_reducible exact Bf.mono _ _ _ _)
      | (with_reducible exact Bg.mono _ _ _ _)
      | (with_reducible exact LeO.refl _)
      | (with_reducible exact LeO.none _)
      | (with_reducible refine LeO.ite ?_ ?_)
      | (with_reducible refine LeO.bind ?_ (fun _ => ?_))
      | exact ih0 _ _ _ _
      | exact Bf.mono _ _ _ _
      | exact Bg.mono _ _ _ _
      | exact LeO.none _
      | refine LeO.ite ?_ ?_
      | refine LeO.bind ?_ (fun _ => ?_)
set_option maxHeartbeats 8000000 in
set_option maxRecDepth 100000 in
theorem Aq.calls (k : Nat) (A0 : Option Addr) (c0 : Nat) (l0 : List Int) (r : ByteArray) (w : World) (hr0 : Kd.C (Kd.int .u8) w A0 l0.length l0) (hc0 : l0.length ≤ c0) (h : Aq.f k l0 = some r) :
    Calls Tryd.prog 40 #[.slice A0 l0.length c0] w fun e w' => e = .returned (.string r) ∧ Below w.heap.size w w' := by
  have hu74 := Tryd.underlying74
  have hu31 := Tryd.underlying31
  have HR0 := Aside0.mk hr0
  have HC0 := Aside0.mk hc0
  clear hr0 hc0
  have HB := Aside0.mk (Below.refl w.heap.size w)
  have H : ((Bf.f k l0 0 0).bind fun bt595 => (if bt595.1.size + bt595.2.1.size ≤ 9223372036854775807 then ((spec_l1Cur_pick.f l0 bt595.2.2.2.1 bt595.2.2.2.2 4).bind fun bt601 => (if bt601.1 = 0 then ((spec_l1Cur_spoilt.f l0 bt601.2.1 bt601.2.2 (bt595.1 ++ bt595.2.1) (⟨#[35, 64, 10, 48, 49]⟩ : ByteArray)).bind fun bt604 => (Aq.j0 k bt604.1 l0 bt604.2.1 bt604.2.2)) else (if bt601.1 = 1 then ((spec_l1Cur_pick.f l0 bt601.2.1 bt601.2.2 (wrap64 (((bt595.1 ++ bt595.2.1).size : Int) + 1))).bind fun bt607 => (if 0 ≤ bt607.1 then (if bt607.1 ≤ ((bt595.1 ++ bt595.2.1).size : Int) then (Aq.j0 k ((bt595.1 ++ bt595.2.1).extract 0 (bt607.1 : Int).toNat) l0 bt607.2.1 bt607.2.2) else (none)) else (none))) else (if bt601.1 = 2 then ((spec_l1Cur_pick.f l0 bt601.2.1 bt601.2.2 4).bind fun bt610 => ((Du.f l0 bt610.2.1 bt610.2.2).bind fun bt613 => ((Bg.f k bt610.1 bt613.1 bt613.2.1).bind fun t617 => (if (bt595.1 ++ bt595.2.1).size + t617.size ≤ 9223372036854775807 then (Aq.j0 k ((bt595.1 ++ bt595.2.1) ++ t617) l0 bt613.2.2.1 bt613.2.2.2) else (none))))) else (Aq.j0 k (bt595.1 ++ bt595.2.1) l0 bt601.2.1 bt601.2.2))))) else (none))) = some r := h
  clear h
  replace H := Option.bind_eq_some_iff.mp H
  obtain ⟨⟨t595, t596, t597, t598, t599⟩, A20, H⟩ := H
  replace H : (if t595.size + t596.size ≤ 9223372036854775807 then ((spec_l1Cur_pick.f l0 t598 t599 4).bind fun bt601 => (if bt601.1 = 0 then ((spec_l1Cur_spoilt.f l0 bt601.2.1 bt601.2.2 (t595 ++ t596) (⟨#[35, 64, 10, 48, 49]⟩ : ByteArray)).bind fun bt604 => (Aq.j0 k bt604.1 l0 bt604.2.1 bt604.2.2)) else (if bt601.1 = 1 then ((spec_l1Cur_pick.f l0 bt601.2.1 bt601.2.2 (wrap64 (((t595 ++ t596).size : Int) + 1))).bind fun bt607 => (if 0 ≤ bt607.1 then (if bt607.1 ≤ ((t595 ++ t596).size : Int) then (Aq.j0 k ((t595 ++ t596).extract 0 (bt607.1 : Int).toNat) l0 bt607.2.1 bt607.2.2) else (none)) else (none))) else (if bt601.1 = 2 then ((spec_l1Cur_pick.f l0 bt601.2.1 bt601.2.2 4).bind fun bt610 => ((Du.f l0 bt610.2.1 bt610.2.2).bind fun bt613 => ((Bg.f k bt610.1 bt613.1 bt613.2.1).bind fun t617 => (if (t595 ++ t596).size + t617.size ≤ 9223372036854775807 then (Aq.j0 k ((t595 ++ t596) ++ t617) l0 bt613.2.2.1 bt613.2.2.2) else (none))))) else (Aq.j0 k (t595 ++ t596) l0 bt601.2.1 bt601.2.2))))) else (none)) = some r := H
  have A2 := Aside0.mk A20
  clear A20
  by_cases c3 : t595.size + t596.size ≤ 9223372036854775807
  · rw [if_pos c3] at H
    have c3b0 := eq_true c3
    have c3b1 : decide (t595.size + t596.size ≤ 9223372036854775807) = true := decide_eq_true c3
    try have c3b2 : (9223372036854775807 < t595.size + t596.size) = False := eq_false (Nat.not_lt.2 c3)
    replace H := Option.bind_eq_some_iff.mp H
    obtain ⟨⟨t601, t602, t603⟩, A40, H⟩ := H
    replace H : (if t601 = 0 then ((spec_l1Cur_spoilt.f l0 t602 t603 (t595 ++ t596) (⟨#[35, 64, 10, 48, 49]⟩ : ByteArray)).bind fun bt604 => (Aq.j0 k bt604.1 l0 bt604.2.1 bt604.2.2)) else (if t601 = 1 then ((spec_l1Cur_pick.f l0 t602 t603 (wrap64 (((t595 ++ t596).size : Int) + 1))).bind fun bt607 => (if 0 ≤ bt607.1 then (if bt607.1 ≤ ((t595 ++ t596).size : Int) then (Aq.j0 k ((t595 ++ t596).extract 0 (bt607.1 : Int).toNat) l0 bt607.2.1 bt607.2.2) else (none)) else (none))) else (if t601 = 2 then ((spec_l1Cur_pick.f l0 t602 t603 4).bind fun bt610 => ((Du.f l0 bt610.2.1 bt610.2.2).bind fun bt613 => ((Bg.f k bt610.1 bt613.1 bt613.2.1).bind fun t617 => (if (t595 ++ t596).size + t617.size ≤ 9223372036854775807 then (Aq.j0 k ((t595 ++ t596) ++ t617) l0 bt613.2.2.1 bt613.2.2.2) else (none))))) else (Aq.j0 k (t595 ++ t596) l0 t602 t603)))) = some r := H
    have A4 := Aside0.mk A40
    clear A40
    have HC5 := Aside0.mk H
    clear H
    go_enter Tryd.func40, Tryd.ntmps40
    go_upto_block 0 with (first | ((with_reducible refine Az (N := 8) rfl ?_); refine Ba ?hg (N := 8) ?hd (cs := #[.slice A0 l0.length c0, .int .i64 0, .int .u64 0]) (t := 74) ?hr ?_; (case hd => rfl); (case hg => rfl); (case hr => first | (go_simp; done) | (go_simp; rfl)); intro gb594 hg w6 hbox hb; have n0_ := Aside0.mk (Ag (by repeat (first | (with_reducible first | exact HB.out | apply below_alloc | apply pw_below_drewN | apply below_drew1) | exact HB.out)) hb); have n1_ := Aside0.mk ((by rw [hg]; exact (Ah (by repeat (first | (with_reducible first | exact HB.out | apply below_alloc | apply pw_below_drewN | apply below_drew1) | exact HB.out))) : w.heap.size ≤ gb594)); have n2_ := Aside0.mk ((by rw [hg]; exact (Ah (by repeat (first | (with_reducible first | exact HB.out | apply below_alloc | apply pw_below_drewN | apply below_drew1) | exact HB.out))) : w.heap.size ≤ gb594)); have n3_ := Aside0.mk ((⟨_, _, hbox, (by rw [hg]; exact (Ah (by repeat (first | (with_reducible first | exact HB.out | apply below_alloc | apply pw_below_drewN | apply below_drew1) | exact HB.out)))), HR0.out⟩ : IsS74 w w6 gb594 l0 0 0)); clear HB; have HB := n0_; have GW594 := n1_; have GE594 := n2_; have HI594 := n3_; clear n0_ n1_ n2_ n3_; clear hb hbox hg) | ((with_reducible refine Am (f := 60) rfl ?_); refine Au (some 10) rfl rfl Tryd.func60 (by kernel_rfl) rfl #[.pointer (some ⟨gb594, 0, none⟩)] rfl (by (try simp only [List.map_toArray, List.map_cons, List.map_nil]); first | done | rfl | (simp only [List.length_drop, List.length_take]; rfl)) ?_; (with_reducible refine (Bf.calls k gb594 l0 0 0 t595 t596 t597 t598 t599 w _ ?side1 ?side2 A2.out).mono ?_); (case side1 => repeat (first | (with_reducible first | exact HI594.out | apply IsS74.alloc | apply IsS74.drewN | apply IsS74.drew | apply IsS74.set_1 | apply IsS74.set_2) | exact HI594.out)); (case side2 => repeat (first | (with_reducible first | exact HB.out | apply below_alloc | apply pw_below_drewN | apply below_drew1 | refine below_set ?_ (IsS74.ge HI594.out)) | exact HB.out)); rintro e w7 ⟨rfl, hi, hb, hk⟩; refine ⟨_, rfl, ?_⟩; have n0_ := Aside0.mk (hb); have n1_ := Aside0.mk (hi); clear HB; clear HI594; have HB := n0_; have HI594 := n1_; clear n0_ n1_; (try clear hb); (try clear hb2); (try clear hk); (try clear hi)) | ((with_reducible refine Az (N := 4) rfl ?_); refine Ba ?hg (N := 4) ?hd (cs := #[.string (⟨#[]⟩ : ByteArray), .string (⟨#[]⟩ : ByteArray), .int .i64 0]) (t := 31) ?hr ?_; (case hd => rfl); (case hg => rfl); (case hr => first | (go_simp; done) | (go_simp; rfl)); intro gb600 hg w8 hbox hb; have n0_ := Aside0.mk (IsS74.below (by repeat (first | (with_reducible first | exact HI594.out | apply IsS74.alloc | apply IsS74.drewN | apply IsS74.drew | apply IsS74.set_1 | apply IsS74.set_2) | exact HI594.out)) hb); have n1_ := Aside0.mk (Ag (by repeat (first | (with_reducible first | exact HB.out | apply below_alloc | apply pw_below_drewN | apply below_drew1 | refine below_set ?_ (IsS74.ge HI594.out)) | exact HB.out)) hb); have n2_ := Aside0.mk (hbox); have n3_ := Aside0.mk ((by rw [hg]; exact (Ah (by repeat (first | (with_reducible first | exact HB.out | apply below_alloc | apply pw_below_drewN | apply below_drew1 | refine below_set ?_ (IsS74.ge HI594.out)) | exact HB.out))) : w.heap.size ≤ gb600)); have n4_ := Aside0.mk ((by rw [hg]; exact (Ah (by repeat (first | (with_reducible first | exact HB.out | apply below_alloc | apply pw_below_drewN | apply below_drew1 | refine below_set ?_ (IsS74.ge HI594.out)) | exact HB.out))) : w.heap.size ≤ gb600)); have n5_ := Aside0.mk ((by rw [hg]; exact Nat.ne_of_lt (IsS74.lt (show IsS74 w _ gb594 l0 t598 t599 from by repeat (first | (with_reducible first | exact HI594.out | apply IsS74.alloc | apply IsS74.drewN | apply IsS74.drew | apply IsS74.set_1 | apply IsS74.set_2) | exact HI594.out))) : gb594 ≠ gb600)); have n6_ := Aside0.mk ((by rw [hg]; exact Nat.ne_of_gt (IsS74.lt (show IsS74 w _ gb594 l0 t598 t599 from by repeat (first | (with_reducible first | exact HI594.out | apply IsS74.alloc | apply IsS74.drewN | apply IsS74.drew | apply IsS74.set_1 | apply IsS74.set_2) | exact HI594.out))) : gb600 ≠ gb594)); clear HI594; clear HB; have HI594 := n0_; have HB := n1_; have BK600 := n2_; have GW600 := n3_; have GE600 := n4_; have NB594_600 := n5_; have NB600_594 := n6_; clear n0_ n1_ n2_ n3_ n4_ n5_ n6_; clear hb hbox hg; have hnb9 := NB600_594.out; have hnc9 := NB594_600.out; have hcz10_0 : w8.cell? ⟨gb600, 0, none⟩ = some (.string (⟨#[]⟩ : ByteArray)) := (Af BK600.out 0).trans rfl; have hcz10_1 : w8.cell? ⟨gb600, 1, none⟩ = some (.string (⟨#[]⟩ : ByteArray)) := (Af BK600.out 1).trans rfl; have hcz10_2 : w8.cell? ⟨gb600, 2, none⟩ = some (.int .i64 0) := (Af BK600.out 2).trans rfl; have hfz10_0 := Ae BK600.out 0; have hfz10_1 := Ae BK600.out 1; have hfz10_2 := Ae BK600.out 2) | ((with_reducible refine Am (f := 55) rfl ?_); refine Au (some 17) rfl rfl Tryd.func55 (by kernel_rfl) rfl #[.pointer (some ⟨gb594, 0, none⟩), .int .i64 4] rfl (by (try simp only [List.map_toArray, List.map_cons, List.map_nil]); first | done | rfl | (simp only [List.length_drop, List.length_take]; rfl)) ?_; (with_reducible refine (spec_l1Cur_pick.calls gb594 l0 t598 t599 4 t601 t602 t603 w _ ?side1 ?side2 A4.out).mono ?_); (case side1 => repeat (first | (with_reducible first | exact HI594.out | apply IsS74.alloc | apply IsS74.drewN | apply IsS74.drew | apply IsS74.set_1 | apply IsS74.set_2 | refine IsS74.far ?_ NB594_600.out _) | exact HI594.out)); (case side2 => repeat (first | (with_reducible first | exact HB.out | apply below_alloc | apply pw_below_drewN | apply below_drew1 | refine below_set ?_ (IsS74.ge HI594.out) | refine below_set ?_ GE600.out) | exact HB.out)); rintro e w11 ⟨rfl, hi, hb, hk⟩; refine ⟨_, rfl, ?_⟩; have n0_ := Aside0.mk (KeepBut.blk hk (g' := gb600) (o := .cells #[.string t595, .string t596, .int .i64 t597] 31 (0, 0)) (by (with_reducible repeat (first | refine Ac ?_ _ | refine Ad ?_ | refine Aa ?_ _)); refine Ar (cs := #[.string t595, .string t596, .int .i64 0]) ?_ 2 _ rfl; (with_reducible repeat (first | refine Ac ?_ _ | refine Ad ?_ | refine Aa ?_ _)); refine Ar (cs := #[.string t595, .string (⟨#[]⟩ : ByteArray), .int .i64 0]) ?_ 1 _ rfl; (with_reducible repeat (first | refine Ac ?_ _ | refine Ad ?_ | refine Aa ?_ _)); refine Ar (cs := #[.string (⟨#[]⟩ : ByteArray), .string (⟨#[]⟩ : ByteArray), .int .i64 0]) ?_ 0 _ rfl; (with_reducible repeat (first | refine Ac ?_ _ | refine Ad ?_ | refine Aa ?_ _)); exact BK600.out) NB600_594.out (by simp)); have n1_ := Aside0.mk (hb); have n2_ := Aside0.mk (hi); clear BK600; clear HB; clear HI594; have BK600 := n0_; have HB := n1_; have HI594 := n2_; clear n0_ n1_ n2_; (try clear hb); (try clear hb2); (try clear hk); (try clear hi)))
    (try simp only [Act.put, List.setIfInBounds_toArray, List.set_cons_zero, List.set_cons_succ])
    generalize hys0 : t595 ++ t596 = ys0 at HC5 ⊢
    have Nys0 := Aside0.mk hys0
    clear hys0
    go_cut [5] (fun v5 wc => ∃ (kq : Nat) (x5_4 : ByteArray) (x595001_4 : Int) (x595002_4 : Int), v5 = .string x5_4 ∧ Aside0 (Aq.j0 kq x5_4 l0 x595001_4 x595002_4 = some r) ∧ Aside0 (kq ≤ k) ∧ Aside0 (wc.heap[gb600]? = some (.cells #[.string t595, .string t596, .int .i64 t597] 31 (0, 0))) ∧ Aside0 (IsS74 w wc gb594 l0 x595001_4 x595002_4) ∧ Aside0 (Below w.heap.size w wc))
    case first =>
      have H := HC5.out
      clear HC5
      by_cases c12 : t601 = 0
      · rw [if_pos c12] at H
        have c12b0 : (t601 == 0) = true := beq_iff_eq.mpr c12
        have c12b1 : (t601 != 0) = false := bne_eq_false_iff_eq.mpr c12
        clear c12
        (first | rw [c12b0] | (simp only [Cj, C9]; rw [c12b0]) | skip)
        replace H := Option.bind_eq_some_iff.mp H
        obtain ⟨⟨t604, t605, t606⟩, A130, H⟩ := H
        replace H : (Aq.j0 k t604 l0 t605 t606) = some r := H
        have A13 := Aside0.mk A130
        clear A130
        have H' := Aside0.mk H
        clear H
        go_wp2_with (first | ((with_reducible refine Am (f := 61) rfl ?_); refine Au (some 22) rfl rfl Tryd.func61 (by kernel_rfl) rfl #[.pointer (some ⟨gb594, 0, none⟩), .string ys0, .string (⟨#[35, 64, 10, 48, 49]⟩ : ByteArray)] rfl (by (try simp only [List.map_toArray, List.map_cons, List.map_nil]); first | done | rfl | (simp only [List.length_drop, List.length_take]; rfl)) ?_; (with_reducible refine (spec_l1Cur_spoilt.calls gb594 l0 t602 t603 ys0 (⟨#[35, 64, 10, 48, 49]⟩ : ByteArray) t604 t605 t606 w _ ?side1 ?side2 A13.out).mono ?_); (case side1 => repeat (first | (with_reducible first | exact HI594.out | apply IsS74.alloc | apply IsS74.drewN | apply IsS74.drew | apply IsS74.set_1 | apply IsS74.set_2 | refine IsS74.far ?_ NB594_600.out _) | exact HI594.out)); (case side2 => repeat (first | (with_reducible first | exact HB.out | apply below_alloc | apply pw_below_drewN | apply below_drew1 | refine below_set ?_ (IsS74.ge HI594.out) | refine below_set ?_ GE600.out) | exact HB.out)); rintro e w14 ⟨rfl, hi, hb, hk⟩; refine ⟨_, rfl, ?_⟩; have n0_ := Aside0.mk (KeepBut.blk hk (g' := gb600) (o := .cells #[.string t595, .string t596, .int .i64 t597] 31 (0, 0)) (by (with_reducible repeat (first | refine Ac ?_ _ | refine Ad ?_ | refine Aa ?_ _)); exact BK600.out) NB600_594.out (by simp)); have n1_ := Aside0.mk (hb); have n2_ := Aside0.mk (hi); clear BK600; clear HB; clear HI594; have BK600 := n0_; have HB := n1_; have HI594 := n2_; clear n0_ n1_ n2_; (try clear hb); (try clear hb2); (try clear hk); (try clear hi)))
        go_meet
        case rel => exact ⟨_, (t604), (t605), (t606), (by first | rfl | (simp; done) | (simp [*]; done)), H', ⟨by first | omega | exact Nat.le_refl _⟩, ⟨by (with_reducible repeat (first | refine Ac ?_ _ | refine Ad ?_ | refine Aa ?_ _)); exact BK600.out⟩, ⟨by repeat (first | (with_reducible first | exact HI594.out | apply IsS74.alloc | apply IsS74.drewN | apply IsS74.drew | apply IsS74.set_1 | apply IsS74.set_2 | refine IsS74.far ?_ NB594_600.out _) | exact HI594.out)⟩, ⟨by repeat (first | (with_reducible first | exact HB.out | apply below_alloc | apply pw_below_drewN | apply below_drew1 | refine below_set ?_ (IsS74.ge HI594.out) | refine below_set ?_ GE600.out) | exact HB.out)⟩⟩
      · rw [if_neg c12] at H
        have c12b0 : (t601 == 0) = false := beq_eq_false_iff_ne.mpr c12
        have c12b1 : (t601 != 0) = true := bne_iff_ne.mpr c12
        (first | rw [c12b0] | (simp only [Cj, C9]; rw [c12b0]) | skip)
        by_cases c15 : t601 = 1
        · rw [if_pos c15] at H
          have c15b0 : (t601 == 1) = true := beq_iff_eq.mpr c15
          have c15b1 : (t601 != 1) = false := bne_eq_false_iff_eq.mpr c15
          clear c15
          replace H := Option.bind_eq_some_iff.mp H
          obtain ⟨⟨t607, t608, t609⟩, A160, H⟩ := H
          replace H : (if 0 ≤ t607 then (if t607 ≤ (ys0.size : Int) then (Aq.j0 k (ys0.extract 0 (t607 : Int).toNat) l0 t608 t609) else (none)) else (none)) = some r := H
          have A16 := Aside0.mk A160
          clear A160
          by_cases c17 : 0 ≤ t607
          · rw [if_pos c17] at H
            have c17b0 := eq_true c17
            have c17b1 : decide (0 ≤ t607) = true := decide_eq_true c17
            clear c17
            by_cases c18 : t607 ≤ (ys0.size : Int)
            · rw [if_pos c18] at H
              have c18b0 := eq_true c18
              have c18b1 : decide (t607 ≤ (ys0.size : Int)) = true := decide_eq_true c18
              have H' := Aside0.mk H
              clear H
              go_wp2_with (first | ((with_reducible refine Am (f := 55) rfl ?_); refine Au (some 30) rfl rfl Tryd.func55 (by kernel_rfl) rfl #[.pointer (some ⟨gb594, 0, none⟩), .int .i64 (wrap64 ((ys0.size : Int) + 1))] rfl (by (try simp only [List.map_toArray, List.map_cons, List.map_nil]); first | done | rfl | (simp only [List.length_drop, List.length_take]; rfl)) ?_; (with_reducible refine (spec_l1Cur_pick.calls gb594 l0 t602 t603 (wrap64 ((ys0.size : Int) + 1)) t607 t608 t609 w _ ?side1 ?side2 A16.out).mono ?_); (case side1 => repeat (first | (with_reducible first | exact HI594.out | apply IsS74.alloc | apply IsS74.drewN | apply IsS74.drew | apply IsS74.set_1 | apply IsS74.set_2 | refine IsS74.far ?_ NB594_600.out _) | exact HI594.out)); (case side2 => repeat (first | (with_reducible first | exact HB.out | apply below_alloc | apply pw_below_drewN | apply below_drew1 | refine below_set ?_ (IsS74.ge HI594.out) | refine below_set ?_ GE600.out) | exact HB.out)); rintro e w19 ⟨rfl, hi, hb, hk⟩; refine ⟨_, rfl, ?_⟩; have n0_ := Aside0.mk (KeepBut.blk hk (g' := gb600) (o := .cells #[.string t595, .string t596, .int .i64 t597] 31 (0, 0)) (by (with_reducible repeat (first | refine Ac ?_ _ | refine Ad ?_ | refine Aa ?_ _)); exact BK600.out) NB600_594.out (by simp)); have n1_ := Aside0.mk (hb); have n2_ := Aside0.mk (hi); clear BK600; clear HB; clear HI594; have BK600 := n0_; have HB := n1_; have HI594 := n2_; clear n0_ n1_ n2_; (try clear hb); (try clear hb2); (try clear hk); (try clear hi)))
              go_meet
              case rel => exact ⟨_, (ys0.extract 0 (t607 : Int).toNat), (t608), (t609), (by first | rfl | (simp; done) | (simp [*]; done)), H', ⟨by first | omega | exact Nat.le_refl _⟩, ⟨by (with_reducible repeat (first | refine Ac ?_ _ | refine Ad ?_ | refine Aa ?_ _)); exact BK600.out⟩, ⟨by repeat (first | (with_reducible first | exact HI594.out | apply IsS74.alloc | apply IsS74.drewN | apply IsS74.drew | apply IsS74.set_1 | apply IsS74.set_2 | refine IsS74.far ?_ NB594_600.out _) | exact HI594.out)⟩, ⟨by repeat (first | (with_reducible first | exact HB.out | apply below_alloc | apply pw_below_drewN | apply below_drew1 | refine below_set ?_ (IsS74.ge HI594.out) | refine below_set ?_ GE600.out) | exact HB.out)⟩⟩
            · rw [if_neg c18] at H
              exact absurd H (by simp)
          · rw [if_neg c17] at H
            exact absurd H (by simp)
        · rw [if_neg c15] at H
          have c15b0 : (t601 == 1) = false := beq_eq_false_iff_ne.mpr c15
          have c15b1 : (t601 != 1) = true := bne_iff_ne.mpr c15
          by_cases c20 : t601 = 2
          · rw [if_pos c20] at H
            have c20b0 : (t601 == 2) = true := beq_iff_eq.mpr c20
            have c20b1 : (t601 != 2) = false := bne_eq_false_iff_eq.mpr c20
            clear c20
            replace H := Option.bind_eq_some_iff.mp H
            obtain ⟨⟨t610, t611, t612⟩, A210, H⟩ := H
            replace H : ((Du.f l0 t611 t612).bind fun bt613 => ((Bg.f k t610 bt613.1 bt613.2.1).bind fun t617 => (if ys0.size + t617.size ≤ 9223372036854775807 then (Aq.j0 k (ys0 ++ t617) l0 bt613.2.2.1 bt613.2.2.2) else (none)))) = some r := H
            have A21 := Aside0.mk A210
            clear A210
            replace H := Option.bind_eq_some_iff.mp H
            obtain ⟨⟨t613, t614, t615, t616⟩, A220, H⟩ := H
            replace H : ((Bg.f k t610 t613 t614).bind fun t617 => (if ys0.size + t617.size ≤ 9223372036854775807 then (Aq.j0 k (ys0 ++ t617) l0 t615 t616) else (none))) = some r := H
            have A22 := Aside0.mk A220
            clear A220
            replace H := Option.bind_eq_some_iff.mp H
            obtain ⟨t617, A230, H⟩ := H
            replace H : (if ys0.size + t617.size ≤ 9223372036854775807 then (Aq.j0 k (ys0 ++ t617) l0 t615 t616) else (none)) = some r := H
            have A23 := Aside0.mk A230
            clear A230
            by_cases c24 : ys0.size + t617.size ≤ 9223372036854775807
            · rw [if_pos c24] at H
              have c24b0 := eq_true c24
              have c24b1 : decide (ys0.size + t617.size ≤ 9223372036854775807) = true := decide_eq_true c24
              try have c24b2 : (9223372036854775807 < ys0.size + t617.size) = False := eq_false (Nat.not_lt.2 c24)
              have c24b3 := c24
              try simp only [ByteArray.size_extract, ByteArray.size_append] at c24b3
              have c24b4 := eq_false (Nat.not_lt.2 c24b3)
              have H' := Aside0.mk H
              clear H
              go_wp2_with (first | ((with_reducible refine Am (f := 55) rfl ?_); refine Au (some 36) rfl rfl Tryd.func55 (by kernel_rfl) rfl #[.pointer (some ⟨gb594, 0, none⟩), .int .i64 4] rfl (by (try simp only [List.map_toArray, List.map_cons, List.map_nil]); first | done | rfl | (simp only [List.length_drop, List.length_take]; rfl)) ?_; (with_reducible refine (spec_l1Cur_pick.calls gb594 l0 t602 t603 4 t610 t611 t612 w _ ?side1 ?side2 A21.out).mono ?_); (case side1 => repeat (first | (with_reducible first | exact HI594.out | apply IsS74.alloc | apply IsS74.drewN | apply IsS74.drew | apply IsS74.set_1 | apply IsS74.set_2 | refine IsS74.far ?_ NB594_600.out _) | exact HI594.out)); (case side2 => repeat (first | (with_reducible first | exact HB.out | apply below_alloc | apply pw_below_drewN | apply below_drew1 | refine below_set ?_ (IsS74.ge HI594.out) | refine below_set ?_ GE600.out) | exact HB.out)); rintro e w25 ⟨rfl, hi, hb, hk⟩; refine ⟨_, rfl, ?_⟩; have n0_ := Aside0.mk (KeepBut.blk hk (g' := gb600) (o := .cells #[.string t595, .string t596, .int .i64 t597] 31 (0, 0)) (by (with_reducible repeat (first | refine Ac ?_ _ | refine Ad ?_ | refine Aa ?_ _)); exact BK600.out) NB600_594.out (by simp)); have n1_ := Aside0.mk (hb); have n2_ := Aside0.mk (hi); clear BK600; clear HB; clear HI594; have BK600 := n0_; have HB := n1_; have HI594 := n2_; clear n0_ n1_ n2_; (try clear hb); (try clear hb2); (try clear hk); (try clear hi)) | ((with_reducible refine Am (f := 56) rfl ?_); refine Au (some 38) rfl rfl Tryd.func56 (by kernel_rfl) rfl #[.pointer (some ⟨gb594, 0, none⟩)] rfl (by (try simp only [List.map_toArray, List.map_cons, List.map_nil]); first | done | rfl | (simp only [List.length_drop, List.length_take]; rfl)) ?_; (with_reducible refine (Du.calls gb594 l0 t611 t612 t613 t614 t615 t616 w _ ?side1 ?side2 A22.out).mono ?_); (case side1 => repeat (first | (with_reducible first | exact HI594.out | apply IsS74.alloc | apply IsS74.drewN | apply IsS74.drew | apply IsS74.set_1 | apply IsS74.set_2 | refine IsS74.far ?_ NB594_600.out _) | exact HI594.out)); (case side2 => repeat (first | (with_reducible first | exact HB.out | apply below_alloc | apply pw_below_drewN | apply below_drew1 | refine below_set ?_ (IsS74.ge HI594.out) | refine below_set ?_ GE600.out) | exact HB.out)); rintro e w26 ⟨rfl, hi, hb, hk⟩; refine ⟨_, rfl, ?_⟩; have n0_ := Aside0.mk (KeepBut.blk hk (g' := gb600) (o := .cells #[.string t595, .string t596, .int .i64 t597] 31 (0, 0)) (by (with_reducible repeat (first | refine Ac ?_ _ | refine Ad ?_ | refine Aa ?_ _)); exact BK600.out) NB600_594.out (by simp)); have n1_ := Aside0.mk (hb); have n2_ := Aside0.mk (hi); clear BK600; clear HB; clear HI594; have BK600 := n0_; have HB := n1_; have HI594 := n2_; clear n0_ n1_ n2_; (try clear hb); (try clear hb2); (try clear hk); (try clear hi)) | ((with_reducible refine Am (f := 44) rfl ?_); refine Au (some 39) rfl rfl Tryd.func44 (by kernel_rfl) rfl #[.int .i64 t610, .agg #[.string t613, .string t614]] rfl (by (try simp only [List.map_toArray, List.map_cons, List.map_nil]); first | done | rfl | (simp only [List.length_drop, List.length_take]; rfl)) ?_; (with_reducible refine (Bg.calls k t610 t613 t614 t617 _ A23.out).mono ?_); rintro e w27 ⟨rfl, hb⟩; refine ⟨_, rfl, ?_⟩; have n0_ := Aside0.mk (IsS74.below (by repeat (first | (with_reducible first | exact HI594.out | apply IsS74.alloc | apply IsS74.drewN | apply IsS74.drew | apply IsS74.set_1 | apply IsS74.set_2 | refine IsS74.far ?_ NB594_600.out _) | exact HI594.out)) hb); have n1_ := Aside0.mk (Ak (g := gb600) (o := .cells #[.string t595, .string t596, .int .i64 t597] 31 (0, 0)) (by (with_reducible repeat (first | refine Ac ?_ _ | refine Ad ?_ | refine Aa ?_ _)); exact BK600.out) hb); have n2_ := Aside0.mk (Ag (by repeat (first | (with_reducible first | exact HB.out | apply below_alloc | apply pw_below_drewN | apply below_drew1 | refine below_set ?_ (IsS74.ge HI594.out) | refine below_set ?_ GE600.out) | exact HB.out)) hb); clear HI594; clear BK600; clear HB; have HI594 := n0_; have BK600 := n1_; have HB := n2_; clear n0_ n1_ n2_; (try clear hb); (try clear hb2); (try clear hk); (try clear hi)))
              go_meet
              case rel => exact ⟨_, (ys0 ++ t617), (t615), (t616), (by first | rfl | (simp; done) | (simp [*]; done)), H', ⟨by first | omega | exact Nat.le_refl _⟩, ⟨by (with_reducible repeat (first | refine Ac ?_ _ | refine Ad ?_ | refine Aa ?_ _)); exact BK600.out⟩, ⟨by repeat (first | (with_reducible first | exact HI594.out | apply IsS74.alloc | apply IsS74.drewN | apply IsS74.drew | apply IsS74.set_1 | apply IsS74.set_2 | refine IsS74.far ?_ NB594_600.out _) | exact HI594.out)⟩, ⟨by repeat (first | (with_reducible first | exact HB.out | apply below_alloc | apply pw_below_drewN | apply below_drew1 | refine below_set ?_ (IsS74.ge HI594.out) | refine below_set ?_ GE600.out) | exact HB.out)⟩⟩
            · rw [if_neg c24] at H
              exact absurd H (by simp)
          · rw [if_neg c20] at H
            have c20b0 : (t601 == 2) = false := beq_eq_false_iff_ne.mpr c20
            have c20b1 : (t601 != 2) = true := bne_iff_ne.mpr c20
            have H' := Aside0.mk H
            clear H
            go_wp2
            go_meet
            case rel => exact ⟨_, ys0, (t602), (t603), (by first | rfl | (simp; done) | (simp [*]; done)), H', ⟨by first | omega | exact Nat.le_refl _⟩, ⟨by (with_reducible repeat (first | refine Ac ?_ _ | refine Ad ?_ | refine Aa ?_ _)); exact BK600.out⟩, ⟨by repeat (first | (with_reducible first | exact HI594.out | apply IsS74.alloc | apply IsS74.drewN | apply IsS74.drew | apply IsS74.set_1 | apply IsS74.set_2 | refine IsS74.far ?_ NB594_600.out _) | exact HI594.out)⟩, ⟨by repeat (first | (with_reducible first | exact HB.out | apply below_alloc | apply pw_below_drewN | apply below_drew1 | refine below_set ?_ (IsS74.ge HI594.out) | refine below_set ?_ GE600.out) | exact HB.out)⟩⟩
    case rest =>
      clear HC5
      try clear c1
      try clear c2
      try clear p2
      try clear c3
      try clear c3b0
      try clear c3b1
      try clear c3b2
      try clear c4
      try clear c5
      try clear c6
      try clear p6
      try clear c9
      try clear c12
      try clear c12b0
      try clear c12b1
      try clear c15
      try clear c15b0
      try clear c15b1
      try clear c17
      try clear c17b0
      try clear c17b1
      try clear c18
      try clear c18b0
      try clear c18b1
      try clear c20
      try clear c20b0
      try clear c20b1
      try clear c24
      try clear c24b0
      try clear c24b1
      try clear c24b2
      try clear hcz10_0
      try clear hcz10_1
      try clear hcz10_2
      try clear hfz10_0
      try clear hfz10_1
      try clear hfz10_2
      obtain ⟨kq, x5_4, x595001_4, x595002_4, rfl, HA, HJ4, BK600, HI594, HB⟩ := hcut
      cases kq with
      | zero => exact absurd HA.out (by simp [Aq.j0])
      | succ kj4 =>
        have H := HA.out
        clear HA
        simp only [Aq.j0] at H
        replace H := Option.bind_eq_some_iff.mp H
        obtain ⟨⟨t618, t619, t620⟩, A280, H⟩ := H
        replace H : (if t618 = true then ((spec_l1Cur_pick.f l0 t619 t620 2).bind fun bt621 => (if 0 ≤ (wrap64 (30000 + bt621.1)) then (if (wrap64 (30000 + bt621.1) : Int).toNat ≤ 281474976710656 then (some (strOfNums (List.replicate (wrap64 (30000 + bt621.1) : Int).toNat 0))) else (none)) else (none))) else (some x5_4)) = some r := H
        have A28 := Aside0.mk A280
        clear A280
        by_cases c29 : t618 = true
        · subst c29
          have H1 : ((spec_l1Cur_pick.f l0 t619 t620 2).bind fun bt621 => (if 0 ≤ (wrap64 (30000 + bt621.1)) then (if (wrap64 (30000 + bt621.1) : Int).toNat ≤ 281474976710656 then (some (strOfNums (List.replicate (wrap64 (30000 + bt621.1) : Int).toNat 0))) else (none)) else (none))) = some r := by rw [if_pos rfl] at H; exact H
          clear H
          have H := H1
          clear H1
          replace H := Option.bind_eq_some_iff.mp H
          obtain ⟨⟨t621, t622, t623⟩, A300, H⟩ := H
          replace H : (if 0 ≤ (wrap64 (30000 + t621)) then (if (wrap64 (30000 + t621) : Int).toNat ≤ 281474976710656 then (some (strOfNums (List.replicate (wrap64 (30000 + t621) : Int).toNat 0))) else (none)) else (none)) = some r := H
          have A30 := Aside0.mk A300
          clear A300
          obtain ⟨ji31, hji31⟩ : ∃ j_ : Int, (wrap64 (30000 + t621)) = j_ := ⟨_, rfl⟩
          replace H : (if 0 ≤ (ji31) then (if (ji31 : Int).toNat ≤ 281474976710656 then (some (strOfNums (List.replicate (ji31 : Int).toNat 0))) else (none)) else (none)) = some r := by first | (rw [hji31] at H; exact H) | (simp only [hji31] at H ⊢; exact H)
          (try rw [hji31] at A28)
          (try rw [hji31] at A30)
          have hji31w : (IntKind.i64.wrap (30000 + t621)) = ji31 := (Cj _).trans hji31
          by_cases c32 : 0 ≤ (ji31)
          · rw [if_pos c32] at H
            have c32b0 := eq_true c32
            have c32b1 : decide (0 ≤ (ji31)) = true := decide_eq_true c32
            clear c32
            by_cases c33 : (ji31 : Int).toNat ≤ 281474976710656
            · rw [if_pos c33] at H
              have c33b0 := eq_true c33
              have c33b1 : decide ((ji31 : Int).toNat ≤ 281474976710656) = true := decide_eq_true c33
              clear c33
              obtain ⟨y624, hy624⟩ : ∃ y_ : List Int, y_ = (List.replicate (ji31 : Int).toNat 0) := ⟨_, rfl⟩
              replace H : (some (strOfNums y624)) = some r := by first | (rw [hy624]; with_reducible exact H) | (have H2_ := (Option.bind_some _ _).symm.trans H; rw [hy624]; with_reducible exact H2_) | (have H2_ := (Option.bind_some _ _).symm.trans H; with_reducible exact H2_) | with_reducible exact H | (rw [hy624]; exact H) | exact H
              have Ny624 := Aside0.mk hy624
              clear hy624
              obtain rfl := Option.some.inj H
              go_wp2_with (first | ((with_reducible refine Am (f := 54) rfl ?_); refine Au (some 42) rfl rfl Tryd.func54 (by kernel_rfl) rfl #[.pointer (some ⟨gb594, 0, none⟩), .int .i64 40] rfl (by (try simp only [List.map_toArray, List.map_cons, List.map_nil]); first | done | rfl | (simp only [List.length_drop, List.length_take]; rfl)) ?_; (with_reducible refine (Ez.calls gb594 l0 x595001_4 x595002_4 40 true t619 t620 w _ ?side1 ?side2 A28.out).mono ?_); (case side1 => repeat (first | (with_reducible first | exact HI594.out | apply IsS74.alloc | apply IsS74.drewN | apply IsS74.drew | apply IsS74.set_1 | apply IsS74.set_2 | refine IsS74.far ?_ NB594_600.out _) | exact HI594.out)); (case side2 => repeat (first | (with_reducible first | exact HB.out | apply below_alloc | apply pw_below_drewN | apply below_drew1 | refine below_set ?_ (IsS74.ge HI594.out) | refine below_set ?_ GE600.out) | exact HB.out)); rintro e w34 ⟨rfl, hi, hb, hk⟩; refine ⟨_, rfl, ?_⟩; have n0_ := Aside0.mk (KeepBut.blk hk (g' := gb600) (o := .cells #[.string t595, .string t596, .int .i64 t597] 31 (0, 0)) (by (with_reducible repeat (first | refine Ac ?_ _ | refine Ad ?_ | refine Aa ?_ _)); exact BK600.out) NB600_594.out (by simp)); have n1_ := Aside0.mk (hb); have n2_ := Aside0.mk (hi); clear BK600; clear HB; clear HI594; have BK600 := n0_; have HB := n1_; have HI594 := n2_; clear n0_ n1_ n2_; (try clear hb); (try clear hb2); (try clear hk); (try clear hi)) | ((with_reducible refine Am (f := 55) rfl ?_); refine Au (some 44) rfl rfl Tryd.func55 (by kernel_rfl) rfl #[.pointer (some ⟨gb594, 0, none⟩), .int .i64 2] rfl (by (try simp only [List.map_toArray, List.map_cons, List.map_nil]); first | done | rfl | (simp only [List.length_drop, List.length_take]; rfl)) ?_; (with_reducible refine (spec_l1Cur_pick.calls gb594 l0 t619 t620 2 t621 t622 t623 w _ ?side1 ?side2 A30.out).mono ?_); (case side1 => repeat (first | (with_reducible first | exact HI594.out | apply IsS74.alloc | apply IsS74.drewN | apply IsS74.drew | apply IsS74.set_1 | apply IsS74.set_2 | refine IsS74.far ?_ NB594_600.out _) | exact HI594.out)); (case side2 => repeat (first | (with_reducible first | exact HB.out | apply below_alloc | apply pw_below_drewN | apply below_drew1 | refine below_set ?_ (IsS74.ge HI594.out) | refine below_set ?_ GE600.out) | exact HB.out)); rintro e w35 ⟨rfl, hi, hb, hk⟩; refine ⟨_, rfl, ?_⟩; have n0_ := Aside0.mk (KeepBut.blk hk (g' := gb600) (o := .cells #[.string t595, .string t596, .int .i64 t597] 31 (0, 0)) (by (with_reducible repeat (first | refine Ac ?_ _ | refine Ad ?_ | refine Aa ?_ _)); exact BK600.out) NB600_594.out (by simp)); have n1_ := Aside0.mk (hb); have n2_ := Aside0.mk (hi); clear BK600; clear HB; clear HI594; have BK600 := n0_; have HB := n1_; have HI594 := n2_; clear n0_ n1_ n2_; (try clear hb); (try clear hb2); (try clear hk); (try clear hi)) | ((with_reducible refine Az (N := 46) rfl ?_); refine Kd.R_make (Kd.int .u8) _ 5 rfl (N := 46) rfl 53 _ _ rfl ji31 rfl rfl Tryd.underlying53 (.int .u8 0) 1 info5 rfl (by decide) (by omega) 0 (ok := fun _ => True) (okp := fun _ => True) rfl (fun _ hk => hk) trivial (of_decide_eq_true (by first | (with_reducible assumption) | assumption)) (Nat.le_trans (Nat.mul_le_mul_right _ (of_decide_eq_true (by first | (with_reducible assumption) | assumption) : ji31.toNat ≤ 281474976710656)) (by omega)) (Below.refl _ _) (Nat.le_refl _) ?_; intro v625 w36 ho37 hb hg_ hnew_; clear hg_ hnew_; (first | rw [← Ny624.out] at ho37 | (simp only [Int.reduceToNat] at ho37; rw [← Ny624.out] at ho37)); have n0_ := Aside0.mk (Kd.Ef ho37 (Ah (by repeat (first | (with_reducible first | exact HB.out | apply below_alloc | apply pw_below_drewN | apply below_drew1 | refine below_set ?_ (IsS74.ge HI594.out) | refine below_set ?_ GE600.out) | exact HB.out)))); have n1_ := Aside0.mk (Ak (g := gb600) (o := .cells #[.string t595, .string t596, .int .i64 t597] 31 (0, 0)) (by (with_reducible repeat (first | refine Ac ?_ _ | refine Ad ?_ | refine Aa ?_ _)); exact BK600.out) hb); have n2_ := Aside0.mk (IsS74.below (by repeat (first | (with_reducible first | exact HI594.out | apply IsS74.alloc | apply IsS74.drewN | apply IsS74.drew | apply IsS74.set_1 | apply IsS74.set_2 | refine IsS74.far ?_ NB594_600.out _) | exact HI594.out)) hb); have n3_ := Aside0.mk (Ag (by repeat (first | (with_reducible first | exact HB.out | apply below_alloc | apply pw_below_drewN | apply below_drew1 | refine below_set ?_ (IsS74.ge HI594.out) | refine below_set ?_ GE600.out) | exact HB.out)) hb); clear BK600; clear HI594; clear HB; have HO626 := n0_; have BK600 := n1_; have HI594 := n2_; have HB := n3_; clear n0_ n1_ n2_ n3_; clear hb ho37; have hcv38 := own_string (P := Tryd.prog) Tryd.underlying53 Tryd.underlying5 Tryd.underlying9 (Kd.own_of_R HO626.out)))
              go_ret
              exact ⟨by first | rfl | (simp [Aj, Ai] <;> rfl) | (simp only [← hji31]; first | rfl | (simp [Aj, Ai] <;> rfl)) | (simp [*, Aj, Ai] <;> rfl), by repeat (first | (with_reducible first | exact HB.out | apply below_alloc | apply pw_below_drewN | apply below_drew1 | refine below_set ?_ (IsS74.ge HI594.out) | refine below_set ?_ GE600.out) | exact HB.out)⟩
            · rw [if_neg c33] at H
              exact absurd H (by simp)
          · rw [if_neg c32] at H
            exact absurd H (by simp)
        · replace c29 := Bool.eq_false_iff.mpr c29
          subst c29
          have H1 : (some x5_4) = some r := by rw [if_neg (show ¬ (false = true) by decide)] at H; exact H
          clear H
          have H := H1
          clear H1
          obtain rfl := Option.some.inj H
          go_wp2_with (first | ((with_reducible refine Am (f := 54) rfl ?_); refine Au (some 42) rfl rfl Tryd.func54 (by kernel_rfl) rfl #[.pointer (some ⟨gb594, 0, none⟩), .int .i64 40] rfl (by (try simp only [List.map_toArray, List.map_cons, List.map_nil]); first | done | rfl | (simp only [List.length_drop, List.length_take]; rfl)) ?_; (with_reducible refine (Ez.calls gb594 l0 x595001_4 x595002_4 40 false t619 t620 w _ ?side1 ?side2 A28.out).mono ?_); (case side1 => repeat (first | (with_reducible first | exact HI594.out | apply IsS74.alloc | apply IsS74.drewN | apply IsS74.drew | apply IsS74.set_1 | apply IsS74.set_2 | refine IsS74.far ?_ NB594_600.out _) | exact HI594.out)); (case side2 => repeat (first | (with_reducible first | exact HB.out | apply below_alloc | apply pw_below_drewN | apply below_drew1 | refine below_set ?_ (IsS74.ge HI594.out) | refine below_set ?_ GE600.out) | exact HB.out)); rintro e w39 ⟨rfl, hi, hb, hk⟩; refine ⟨_, rfl, ?_⟩; have n0_ := Aside0.mk (KeepBut.blk hk (g' := gb600) (o := .cells #[.string t595, .string t596, .int .i64 t597] 31 (0, 0)) (by (with_reducible repeat (first | refine Ac ?_ _ | refine Ad ?_ | refine Aa ?_ _)); exact BK600.out) NB600_594.out (by simp)); have n1_ := Aside0.mk (hb); have n2_ := Aside0.mk (hi); clear BK600; clear HB; clear HI594; have BK600 := n0_; have HB := n1_; have HI594 := n2_; clear n0_ n1_ n2_; (try clear hb); (try clear hb2); (try clear hk); (try clear hi)))
          go_ret
          exact ⟨by first | rfl | (simp [Aj, Ai] <;> rfl) | (simp [*, Aj, Ai] <;> rfl), by repeat (first | (with_reducible first | exact HB.out | apply below_alloc | apply pw_below_drewN | apply below_drew1 | refine below_set ?_ (IsS74.ge HI594.out) | refine below_set ?_ GE600.out) | exact HB.out)⟩
  · rw [if_neg c3] at H
    exact absurd H (by simp)

end Go.Proofs.YtkpieljmhgfofaaDoor.X


-- written by a program of this session (wip/ext.py) out of the translation. Not trusted: Lean checks it.
namespace Go.Proofs.YtkpieljmhgfofaaDoor.X
open Go.RowKit Go.Proofs.YtkpieljmhgfofaaDoorW.PrintWords Go.Proofs.YtkpieljmhgfofaaDoorW.PrintLast Go.Proofs.YtkpieljmhgfofaaDoorW.PrintMore
attribute [local go_sem] max2_int min2_int max_two min_two max_three min_three max_four min_four   -- for this text's walks alone
open Go.Proofs.YtkpieljmhgfofaaDoorG
set_option linter.unusedVariables false
set_option linter.unusedSimpArgs false

attribute [local go_sem high] eqA31
mutual
def Ap.j0 : Nat → Int → ByteArray → Bool → Bool → Bool → ByteArray → ByteArray → Int → Option (Bool)
  | 0, _, _, _, _, _, _, _, _ => none
  | k + 1, x3, x5, x6, x12, x76, x643000, x643001, x643002 => if x76 = true then (some false) else ((Dq.f k x5).bind fun bt649 => (if x6 = true then (if ((decide (bt649.2.2.2.1 > 0)) != (x3 == 0)) = true then (Ap.j1 k x5 x6 x12 true x643000 x643001 x643002) else (if x3 = 0 then (Ap.j1 k x5 x6 x12 (bt649.2.2.1 != 1) x643000 x643001 x643002) else (Ap.j1 k x5 x6 x12 false x643000 x643001 x643002))) else (Ap.j1 k x5 x6 x12 false x643000 x643001 x643002)))
def Ap.j1 : Nat → ByteArray → Bool → Bool → Bool → ByteArray → ByteArray → Int → Option (Bool)
  | 0, _, _, _, _, _, _, _ => none
  | k + 1, x5, x6, x12, x102, x643000, x643001, x643002 => if x102 = true then (some false) else ((Eh.f k x643000 x643001 x643002).bind fun bt655 => (if x12 = true then (if bt655.2.2.2 = true then (if (bt655.1.toList == x643000.toList && (bt655.2.1.toList == x643001.toList && (bt655.2.2.1 == x643002))) = true then ((Cm.f k x643000 x643001 x643002).bind fun t660 => (if t660 = true then (if x6 = true then (some true) else (some (x5.toList == ([] : List UInt8)))) else (some false))) else (some false)) else (some false)) else (some true)))
end
def Ap.f (k : Nat) (l0 : List Int) : Option (Bool) := (Hr.f l0).bind fun t627 => (if t627 = true then (some true) else ((Es.f l0).bind fun bt628 => ((D5.f k bt628.1 bt628.2.1 bt628.2.2).bind fun bt632 => ((Dy.f k bt628.1 bt628.2.1 bt628.2.2).bind fun bt634 => ((Aq.f k l0).bind fun t636 => ((Dq.f k t636).bind fun bt637 => ((Dx.f k t636).bind fun bt643 => (if bt632.1.toList = bt634.1.toList then (if (bt632.2 != bt634.2) = true then (Ap.j0 k bt628.1 bt632.1 bt632.2 bt637.2.2.2.2 true bt637.1 bt637.2.1 bt637.2.2.1) else (if (!(bt637.1.toList == bt643.1.toList) || (!(bt637.2.1.toList == bt643.2.1.toList) || (!(bt637.2.2.1 == bt643.2.2.1)))) = true then (Ap.j0 k bt628.1 bt632.1 bt632.2 bt637.2.2.2.2 true bt637.1 bt637.2.1 bt637.2.2.1) else (if bt637.2.2.2.1 = bt643.2.2.2.1 then (Ap.j0 k bt628.1 bt632.1 bt632.2 bt637.2.2.2.2 (bt637.2.2.2.2 != bt643.2.2.2.2) bt637.1 bt637.2.1 bt637.2.2.1) else (Ap.j0 k bt628.1 bt632.1 bt632.2 bt637.2.2.2.2 true bt637.1 bt637.2.1 bt637.2.2.1)))) else (Ap.j0 k bt628.1 bt632.1 bt632.2 bt637.2.2.2.2 true bt637.1 bt637.2.1 bt637.2.2.1)))))))))
theorem Ap.Ee : ∀ k, (∀ y0 y1 y2 y3 y4 y5 y6 y7, LeO (Ap.j0 k y0 y1 y2 y3 y4 y5 y6 y7) (Ap.j0 (k + 1) y0 y1 y2 y3 y4 y5 y6 y7)) ∧ (∀ y0 y1 y2 y3 y4 y5 y6, LeO (Ap.j1 k y0 y1 y2 y3 y4 y5 y6) (Ap.j1 (k + 1) y0 y1 y2 y3 y4 y5 y6))
  | 0 => ⟨fun _ _ _ _ _ _ _ _ r h => by simp [Ap.j0] at h, fun _ _ _ _ _ _ _ r h => by simp [Ap.j1] at h⟩
  | k + 1 => by
    obtain ⟨ih0, ih1⟩ := Ap.Ee k
    refine ⟨?_, ?_⟩
    · intro y0 y1 y2 y3 y4 y5 y6 y7
      unfold Ap.j0
      repeat' first
      | (with_reducible exact ih0 _ _ _ _ _ _ _ _)
      | (with_reducible exact ih1 _ _ _ _ _ _ _)
      | (with_reducible exact D5.mono _ _ _ _)
      | (with_reducible exact Cm.mono _ _ _ _)
      | (with_reducible exact Dq.mono _ _)
      | (with_reducible exact Eh.mono _ _ _ _)
      | (with_reducible exact Aq.mono _ _)
      | (with_reducible exact Dy.mono _ _ _ _)
      | (with_reducible exact Dx.mono _ _)
      | (with_reducible exact LeO.refl _)
      | (with_reducible exact LeO.none _)
      | (with_reducible refine LeO.ite ?_ ?_)
      | (with_reducible refine LeO.bind ?_ (fun _ => ?_))
      | exact ih0 _ _ _ _ _ _ _ _
      | exact ih1 _ _ _ _ _ _ _
      | exact D5.mono _ _ _ _
      | exact Cm.mono _ _ _ _
      | exact Dq.mono _ _
      | exact Eh.mono _ _ _ _
      | exact Aq.mono _ _
      | exact Dy.mono _ _ _ _
      | exact Dx.mono _ _
      | exact LeO.none _
      | refine LeO.ite ?_ ?_
      | refine LeO.bind ?_ (fun _ => ?_)
    · intro y0 y1 y2 y3 y4 y5 y6
      unfold Ap.j1
      repeat' first
      | (with_reducible exact ih0 _ _ _ _ _ _ _ _)
      | (with_reducible exact ih1 _ _ _ _ _ _ _)
      | (with_reducible exact D5.mono _ _ _ _)
      | (with_reducible exact Cm.mono _ _ _ _)
      | (with_reducible exact Dq.mono _ _)
      | (with_reducible exact Eh.mono _ _ _ _)
      | (with_reducible exact Aq.mono _ _)
      | (with_reducible exact Dy.mono _ _ _ _)
      | (with_reducible exact Dx.mono _ _)
      | (with_reducible exact LeO.refl _)
      | (with_reducible exact LeO.none _)
      | (with_reducible refine LeO.ite ?_ ?_)
      | (with_reducible refine LeO.bind ?_ (fun _ => ?_))
      | exact ih0 _ _ _ _ _ _ _ _
      | exact ih1 _ _ _ _ _ _ _
      | exact D5.mono _ _ _ _
      | exact Cm.mono _ _ _ _
      | exact Dq.mono _ _
      | exact Eh.mono _ _ _ _
      | exact Aq.mono _ _
      | exact Dy.mono _ _ _ _
      | exact Dx.mono _ _
      | exact LeO.none _
      | refine LeO.ite ?_ ?_
      | refine LeO.bind ?_ (fun _ => ?_)
theorem Ap.mono : ∀ a0 k, LeO (Ap.f k a0) (Ap.f (k + 1) a0) := by
  intro a0 k
  obtain ⟨ih0, ih1⟩ := Ap.Ee k
  unfold Ap.f
  repeat' first
      | (with_reducible exact ih0 _ _ _ _ _ _ _ _)
      | (with_reducible exact ih1 _ _ _ _ _ _ _)
      | (with_reducible exact D5.mono _ _ _ _)
      | (with_reducible exact Cm.mono _ _ _ _)
      | (with_reducible exact Dq.mono _ _)
      | (with_reducible exact Eh.mono _ _ _ _)
      | (with_reducible exact Aq.mono _ _)
      | (with_reducible exact Dy.mono _ _ _ _)
      | (with_reducible exact Dx.mono _ _)
      | (with_reducible exact LeO.refl _)
      | (with_reducible exact LeO.none _)
      | (with_reducible refine LeO.ite ?_ ?_)
      | (with_reducible refine LeO.bind ?_ (fun _ => ?_))
      | exact ih0 _ _ _ _ _ _ _ _
      | exact ih1 _ _ _ _ _ _ _
      | exact D5.mono _ _ _ _
      | exact Cm.mono _ _ _ _
      | exact Dq.mono _ _
      | exact Eh.mono _ _ _ _
      | exact Aq.mono _ _
      | exact Dy.mono _ _ _ _
      | exact Dx.mono _ _
      | exact LeO.none _
      | refine LeO.ite ?_ ?_
      | refine LeO.bind ?_ (fun _ => ?_)
set_option maxHeartbeats 8000000 in
set_option maxRecDepth 100000 in
theorem Ap.calls (k : Nat) (A0 : Option Addr) (c0 : Nat) (l0 : List Int) (r : Bool) (w : World) (hr0 : Kd.C (Kd.int .u8) w A0 l0.length l0) (hc0 : l0.length ≤ c0) (hG : Ea w) (h : Ap.f k l0 = some r) (hr_ : r = true) :
    Calls Tryd.prog 11 #[.slice A0 l0.length c0] w fun e w' => e = .returned (.bool r) ∧ Below w.heap.size w w' := by
  have HR_ := Aside0.mk hr_
  clear hr_
  have hu27 := Tryd.underlying27
  have hu31 := Tryd.underlying31
  have HGL := Aside0.mk hG
  clear hG
  have HR0 := Aside0.mk hr0
  have HC0 := Aside0.mk hc0
  clear hr0 hc0
  have HB := Aside0.mk (Below.refl w.heap.size w)
  have H : ((Hr.f l0).bind fun t627 => (if t627 = true then (some true) else ((Es.f l0).bind fun bt628 => ((D5.f k bt628.1 bt628.2.1 bt628.2.2).bind fun bt632 => ((Dy.f k bt628.1 bt628.2.1 bt628.2.2).bind fun bt634 => ((Aq.f k l0).bind fun t636 => ((Dq.f k t636).bind fun bt637 => ((Dx.f k t636).bind fun bt643 => (if bt632.1.toList = bt634.1.toList then (if (bt632.2 != bt634.2) = true then (Ap.j0 k bt628.1 bt632.1 bt632.2 bt637.2.2.2.2 true bt637.1 bt637.2.1 bt637.2.2.1) else (if (!(bt637.1.toList == bt643.1.toList) || (!(bt637.2.1.toList == bt643.2.1.toList) || (!(bt637.2.2.1 == bt643.2.2.1)))) = true then (Ap.j0 k bt628.1 bt632.1 bt632.2 bt637.2.2.2.2 true bt637.1 bt637.2.1 bt637.2.2.1) else (if bt637.2.2.2.1 = bt643.2.2.2.1 then (Ap.j0 k bt628.1 bt632.1 bt632.2 bt637.2.2.2.2 (bt637.2.2.2.2 != bt643.2.2.2.2) bt637.1 bt637.2.1 bt637.2.2.1) else (Ap.j0 k bt628.1 bt632.1 bt632.2 bt637.2.2.2.2 true bt637.1 bt637.2.1 bt637.2.2.1)))) else (Ap.j0 k bt628.1 bt632.1 bt632.2 bt637.2.2.2.2 true bt637.1 bt637.2.1 bt637.2.2.1)))))))))) = some r := h
  clear h
  replace H := Option.bind_eq_some_iff.mp H
  obtain ⟨t627, A20, H⟩ := H
  replace H : (if t627 = true then (some true) else ((Es.f l0).bind fun bt628 => ((D5.f k bt628.1 bt628.2.1 bt628.2.2).bind fun bt632 => ((Dy.f k bt628.1 bt628.2.1 bt628.2.2).bind fun bt634 => ((Aq.f k l0).bind fun t636 => ((Dq.f k t636).bind fun bt637 => ((Dx.f k t636).bind fun bt643 => (if bt632.1.toList = bt634.1.toList then (if (bt632.2 != bt634.2) = true then (Ap.j0 k bt628.1 bt632.1 bt632.2 bt637.2.2.2.2 true bt637.1 bt637.2.1 bt637.2.2.1) else (if (!(bt637.1.toList == bt643.1.toList) || (!(bt637.2.1.toList == bt643.2.1.toList) || (!(bt637.2.2.1 == bt643.2.2.1)))) = true then (Ap.j0 k bt628.1 bt632.1 bt632.2 bt637.2.2.2.2 true bt637.1 bt637.2.1 bt637.2.2.1) else (if bt637.2.2.2.1 = bt643.2.2.2.1 then (Ap.j0 k bt628.1 bt632.1 bt632.2 bt637.2.2.2.2 (bt637.2.2.2.2 != bt643.2.2.2.2) bt637.1 bt637.2.1 bt637.2.2.1) else (Ap.j0 k bt628.1 bt632.1 bt632.2 bt637.2.2.2.2 true bt637.1 bt637.2.1 bt637.2.2.1)))) else (Ap.j0 k bt628.1 bt632.1 bt632.2 bt637.2.2.2.2 true bt637.1 bt637.2.1 bt637.2.2.1))))))))) = some r := H
  have A2 := Aside0.mk A20
  clear A20
  by_cases c3 : t627 = true
  · subst c3
    have H1 : (some true) = some r := by rw [if_pos rfl] at H; exact H
    clear H
    have H := H1
    clear H1
    obtain rfl := Option.some.inj H
    go_enter Tryd.func11, Tryd.ntmps11
    go_wp2_with (first | ((with_reducible refine Am (f := 35) rfl ?_); refine Au (some 22) rfl rfl Tryd.func35 (by kernel_rfl) rfl #[.slice A0 l0.length c0] rfl (by (try simp only [List.map_toArray, List.map_cons, List.map_nil]); first | done | rfl | (simp only [List.length_drop, List.length_take]; rfl)) ?_; (with_reducible refine (Hr.calls _ _ l0 true _ ?side1 ?side2 A2.out).mono ?_); (case side1 => repeat (first | exact HR0.out | (with_reducible refine Kd.Gv ?_ _) | (with_reducible refine Kd.Gu ?_ _) | (with_reducible refine Kd.Ha ?_))); (case side2 => exact HC0.out); rintro e w' ⟨rfl, ⟨nd, rfl⟩⟩; refine ⟨_, rfl, ?_⟩))
    go_ret
    exact ⟨by first | rfl | (simp [Aj, Ai] <;> rfl) | (simp [*, Aj, Ai] <;> rfl), by repeat (first | (with_reducible first | exact HB.out | apply below_alloc | apply pw_below_drewN | apply below_drew1) | exact HB.out)⟩
  · replace c3 := Bool.eq_false_iff.mpr c3
    subst c3
    have H1 : ((Es.f l0).bind fun bt628 => ((D5.f k bt628.1 bt628.2.1 bt628.2.2).bind fun bt632 => ((Dy.f k bt628.1 bt628.2.1 bt628.2.2).bind fun bt634 => ((Aq.f k l0).bind fun t636 => ((Dq.f k t636).bind fun bt637 => ((Dx.f k t636).bind fun bt643 => (if bt632.1.toList = bt634.1.toList then (if (bt632.2 != bt634.2) = true then (Ap.j0 k bt628.1 bt632.1 bt632.2 bt637.2.2.2.2 true bt637.1 bt637.2.1 bt637.2.2.1) else (if (!(bt637.1.toList == bt643.1.toList) || (!(bt637.2.1.toList == bt643.2.1.toList) || (!(bt637.2.2.1 == bt643.2.2.1)))) = true then (Ap.j0 k bt628.1 bt632.1 bt632.2 bt637.2.2.2.2 true bt637.1 bt637.2.1 bt637.2.2.1) else (if bt637.2.2.2.1 = bt643.2.2.2.1 then (Ap.j0 k bt628.1 bt632.1 bt632.2 bt637.2.2.2.2 (bt637.2.2.2.2 != bt643.2.2.2.2) bt637.1 bt637.2.1 bt637.2.2.1) else (Ap.j0 k bt628.1 bt632.1 bt632.2 bt637.2.2.2.2 true bt637.1 bt637.2.1 bt637.2.2.1)))) else (Ap.j0 k bt628.1 bt632.1 bt632.2 bt637.2.2.2.2 true bt637.1 bt637.2.1 bt637.2.2.1)))))))) = some r := by rw [if_neg (show ¬ (false = true) by decide)] at H; exact H
    clear H
    have H := H1
    clear H1
    replace H := Option.bind_eq_some_iff.mp H
    obtain ⟨⟨t628, t629, t630⟩, A40, H⟩ := H
    replace H : ((D5.f k t628 t629 t630).bind fun bt632 => ((Dy.f k t628 t629 t630).bind fun bt634 => ((Aq.f k l0).bind fun t636 => ((Dq.f k t636).bind fun bt637 => ((Dx.f k t636).bind fun bt643 => (if bt632.1.toList = bt634.1.toList then (if (bt632.2 != bt634.2) = true then (Ap.j0 k t628 bt632.1 bt632.2 bt637.2.2.2.2 true bt637.1 bt637.2.1 bt637.2.2.1) else (if (!(bt637.1.toList == bt643.1.toList) || (!(bt637.2.1.toList == bt643.2.1.toList) || (!(bt637.2.2.1 == bt643.2.2.1)))) = true then (Ap.j0 k t628 bt632.1 bt632.2 bt637.2.2.2.2 true bt637.1 bt637.2.1 bt637.2.2.1) else (if bt637.2.2.2.1 = bt643.2.2.2.1 then (Ap.j0 k t628 bt632.1 bt632.2 bt637.2.2.2.2 (bt637.2.2.2.2 != bt643.2.2.2.2) bt637.1 bt637.2.1 bt637.2.2.1) else (Ap.j0 k t628 bt632.1 bt632.2 bt637.2.2.2.2 true bt637.1 bt637.2.1 bt637.2.2.1)))) else (Ap.j0 k t628 bt632.1 bt632.2 bt637.2.2.2.2 true bt637.1 bt637.2.1 bt637.2.2.1))))))) = some r := H
    have A4 := Aside0.mk A40
    clear A40
    replace H := Option.bind_eq_some_iff.mp H
    obtain ⟨⟨t632, t633⟩, A50, H⟩ := H
    replace H : ((Dy.f k t628 t629 t630).bind fun bt634 => ((Aq.f k l0).bind fun t636 => ((Dq.f k t636).bind fun bt637 => ((Dx.f k t636).bind fun bt643 => (if t632.toList = bt634.1.toList then (if (t633 != bt634.2) = true then (Ap.j0 k t628 t632 t633 bt637.2.2.2.2 true bt637.1 bt637.2.1 bt637.2.2.1) else (if (!(bt637.1.toList == bt643.1.toList) || (!(bt637.2.1.toList == bt643.2.1.toList) || (!(bt637.2.2.1 == bt643.2.2.1)))) = true then (Ap.j0 k t628 t632 t633 bt637.2.2.2.2 true bt637.1 bt637.2.1 bt637.2.2.1) else (if bt637.2.2.2.1 = bt643.2.2.2.1 then (Ap.j0 k t628 t632 t633 bt637.2.2.2.2 (bt637.2.2.2.2 != bt643.2.2.2.2) bt637.1 bt637.2.1 bt637.2.2.1) else (Ap.j0 k t628 t632 t633 bt637.2.2.2.2 true bt637.1 bt637.2.1 bt637.2.2.1)))) else (Ap.j0 k t628 t632 t633 bt637.2.2.2.2 true bt637.1 bt637.2.1 bt637.2.2.1)))))) = some r := H
    have A5 := Aside0.mk A50
    clear A50
    replace H := Option.bind_eq_some_iff.mp H
    obtain ⟨⟨t634, t635⟩, A60, H⟩ := H
    replace H : ((Aq.f k l0).bind fun t636 => ((Dq.f k t636).bind fun bt637 => ((Dx.f k t636).bind fun bt643 => (if t632.toList = t634.toList then (if (t633 != t635) = true then (Ap.j0 k t628 t632 t633 bt637.2.2.2.2 true bt637.1 bt637.2.1 bt637.2.2.1) else (if (!(bt637.1.toList == bt643.1.toList) || (!(bt637.2.1.toList == bt643.2.1.toList) || (!(bt637.2.2.1 == bt643.2.2.1)))) = true then (Ap.j0 k t628 t632 t633 bt637.2.2.2.2 true bt637.1 bt637.2.1 bt637.2.2.1) else (if bt637.2.2.2.1 = bt643.2.2.2.1 then (Ap.j0 k t628 t632 t633 bt637.2.2.2.2 (bt637.2.2.2.2 != bt643.2.2.2.2) bt637.1 bt637.2.1 bt637.2.2.1) else (Ap.j0 k t628 t632 t633 bt637.2.2.2.2 true bt637.1 bt637.2.1 bt637.2.2.1)))) else (Ap.j0 k t628 t632 t633 bt637.2.2.2.2 true bt637.1 bt637.2.1 bt637.2.2.1))))) = some r := H
    have A6 := Aside0.mk A60
    clear A60
    replace H := Option.bind_eq_some_iff.mp H
    obtain ⟨t636, A70, H⟩ := H
    replace H : ((Dq.f k t636).bind fun bt637 => ((Dx.f k t636).bind fun bt643 => (if t632.toList = t634.toList then (if (t633 != t635) = true then (Ap.j0 k t628 t632 t633 bt637.2.2.2.2 true bt637.1 bt637.2.1 bt637.2.2.1) else (if (!(bt637.1.toList == bt643.1.toList) || (!(bt637.2.1.toList == bt643.2.1.toList) || (!(bt637.2.2.1 == bt643.2.2.1)))) = true then (Ap.j0 k t628 t632 t633 bt637.2.2.2.2 true bt637.1 bt637.2.1 bt637.2.2.1) else (if bt637.2.2.2.1 = bt643.2.2.2.1 then (Ap.j0 k t628 t632 t633 bt637.2.2.2.2 (bt637.2.2.2.2 != bt643.2.2.2.2) bt637.1 bt637.2.1 bt637.2.2.1) else (Ap.j0 k t628 t632 t633 bt637.2.2.2.2 true bt637.1 bt637.2.1 bt637.2.2.1)))) else (Ap.j0 k t628 t632 t633 bt637.2.2.2.2 true bt637.1 bt637.2.1 bt637.2.2.1)))) = some r := H
    have A7 := Aside0.mk A70
    clear A70
    replace H := Option.bind_eq_some_iff.mp H
    obtain ⟨⟨t637, t638, t639, t640, t641⟩, A80, H⟩ := H
    replace H : ((Dx.f k t636).bind fun bt643 => (if t632.toList = t634.toList then (if (t633 != t635) = true then (Ap.j0 k t628 t632 t633 t641 true t637 t638 t639) else (if (!(t637.toList == bt643.1.toList) || (!(t638.toList == bt643.2.1.toList) || (!(t639 == bt643.2.2.1)))) = true then (Ap.j0 k t628 t632 t633 t641 true t637 t638 t639) else (if t640 = bt643.2.2.2.1 then (Ap.j0 k t628 t632 t633 t641 (t641 != bt643.2.2.2.2) t637 t638 t639) else (Ap.j0 k t628 t632 t633 t641 true t637 t638 t639)))) else (Ap.j0 k t628 t632 t633 t641 true t637 t638 t639))) = some r := H
    have A8 := Aside0.mk A80
    clear A80
    replace H := Option.bind_eq_some_iff.mp H
    obtain ⟨⟨t643, t644, t645, t646, t647⟩, A90, H⟩ := H
    replace H : (if t632.toList = t634.toList then (if (t633 != t635) = true then (Ap.j0 k t628 t632 t633 t641 true t637 t638 t639) else (if (!(t637.toList == t643.toList) || (!(t638.toList == t644.toList) || (!(t639 == t645)))) = true then (Ap.j0 k t628 t632 t633 t641 true t637 t638 t639) else (if t640 = t646 then (Ap.j0 k t628 t632 t633 t641 (t641 != t647) t637 t638 t639) else (Ap.j0 k t628 t632 t633 t641 true t637 t638 t639)))) else (Ap.j0 k t628 t632 t633 t641 true t637 t638 t639)) = some r := H
    have A9 := Aside0.mk A90
    clear A90
    have HC10 := Aside0.mk H
    clear H
    go_enter Tryd.func11, Tryd.ntmps11
    go_upto_region 9 with (first | ((with_reducible refine Am (f := 35) rfl ?_); refine Au (some 22) rfl rfl Tryd.func35 (by kernel_rfl) rfl #[.slice A0 l0.length c0] rfl (by (try simp only [List.map_toArray, List.map_cons, List.map_nil]); first | done | rfl | (simp only [List.length_drop, List.length_take]; rfl)) ?_; (with_reducible refine (Hr.calls _ _ l0 false _ ?side1 ?side2 A2.out).mono ?_); (case side1 => repeat (first | exact HR0.out | (with_reducible refine Kd.Gv ?_ _) | (with_reducible refine Kd.Gu ?_ _) | (with_reducible refine Kd.Ha ?_))); (case side2 => exact HC0.out); rintro e w' ⟨rfl, ⟨nd, rfl⟩⟩; refine ⟨_, rfl, ?_⟩) | ((with_reducible refine Am (f := 39) rfl ?_); refine Au (some 25) rfl rfl Tryd.func39 (by kernel_rfl) rfl #[.slice A0 l0.length c0] rfl (by (try simp only [List.map_toArray, List.map_cons, List.map_nil]); first | done | rfl | (simp only [List.length_drop, List.length_take]; rfl)) ?_; (with_reducible refine (Es.calls _ _ l0 t628 t629 t630 _ ?side1 ?side2 A4.out).mono ?_); (case side1 => repeat (first | exact HR0.out | (with_reducible refine Kd.Gv ?_ _) | (with_reducible refine Kd.Gu ?_ _) | (with_reducible refine Kd.Ha ?_))); (case side2 => exact HC0.out); rintro e w11 ⟨rfl, hb⟩; refine ⟨_, rfl, ?_⟩; have n0_ := Aside0.mk (Ag (by repeat (first | (with_reducible first | exact HB.out | apply below_alloc | apply pw_below_drewN | apply below_drew1) | exact HB.out)) hb); clear HB; have HB := n0_; clear n0_; (try clear hb); (try clear hb2); (try clear hk); (try clear hi)) | ((with_reducible refine Az (N := 4) rfl ?_); refine Ba ?hg (N := 4) ?hd (cs := #[.string (⟨#[]⟩ : ByteArray), .string (⟨#[]⟩ : ByteArray)]) (t := 27) ?hr ?_; (case hd => rfl); (case hg => rfl); (case hr => first | (go_simp; done) | (go_simp; rfl)); intro gb631 hg w12 hbox hb; have n0_ := Aside0.mk (Ag (by repeat (first | (with_reducible first | exact HB.out | apply below_alloc | apply pw_below_drewN | apply below_drew1) | exact HB.out)) hb); have n1_ := Aside0.mk (hbox); have n2_ := Aside0.mk ((by rw [hg]; exact (Ah (by repeat (first | (with_reducible first | exact HB.out | apply below_alloc | apply pw_below_drewN | apply below_drew1) | exact HB.out))) : w.heap.size ≤ gb631)); have n3_ := Aside0.mk ((by rw [hg]; exact (Ah (by repeat (first | (with_reducible first | exact HB.out | apply below_alloc | apply pw_below_drewN | apply below_drew1) | exact HB.out))) : w.heap.size ≤ gb631)); clear HB; have HB := n0_; have BK631 := n1_; have GW631 := n2_; have GE631 := n3_; clear n0_ n1_ n2_ n3_; clear hb hbox hg; have hcz13_0 : w12.cell? ⟨gb631, 0, none⟩ = some (.string (⟨#[]⟩ : ByteArray)) := (Af BK631.out 0).trans rfl; have hcz13_1 : w12.cell? ⟨gb631, 1, none⟩ = some (.string (⟨#[]⟩ : ByteArray)) := (Af BK631.out 1).trans rfl; have hfz13_0 := Ae BK631.out 0; have hfz13_1 := Ae BK631.out 1) | ((with_reducible refine Am (f := 16) rfl ?_); refine Au (some 31) rfl rfl Tryd.func16 (by kernel_rfl) rfl #[.int .i64 t628, .agg #[.string t629, .string t630]] rfl (by (try simp only [List.map_toArray, List.map_cons, List.map_nil]); first | done | rfl | (simp only [List.length_drop, List.length_take]; rfl)) ?_; (with_reducible refine (D5.calls k t628 t629 t630 t632 t633 _ ?side1 A5.out).mono ?_); (case side1 => exact Ea.below HGL.out (by repeat (first | (with_reducible first | exact HB.out | apply below_alloc | apply pw_below_drewN | apply below_drew1 | refine below_set ?_ GE631.out) | exact HB.out))); rintro e w14 ⟨rfl, hb⟩; refine ⟨_, rfl, ?_⟩; have n0_ := Aside0.mk (Ak (g := gb631) (o := .cells #[.string t629, .string t630] 27 (0, 0)) (by (with_reducible repeat (first | refine Ac ?_ _ | refine Ad ?_ | refine Aa ?_ _)); refine Ar (cs := #[.string t629, .string (⟨#[]⟩ : ByteArray)]) ?_ 1 _ rfl; (with_reducible repeat (first | refine Ac ?_ _ | refine Ad ?_ | refine Aa ?_ _)); refine Ar (cs := #[.string (⟨#[]⟩ : ByteArray), .string (⟨#[]⟩ : ByteArray)]) ?_ 0 _ rfl; (with_reducible repeat (first | refine Ac ?_ _ | refine Ad ?_ | refine Aa ?_ _)); exact BK631.out) hb); have n1_ := Aside0.mk (Ag (by repeat (first | (with_reducible first | exact HB.out | apply below_alloc | apply pw_below_drewN | apply below_drew1 | refine below_set ?_ GE631.out) | exact HB.out)) hb); clear BK631; clear HB; have BK631 := n0_; have HB := n1_; clear n0_ n1_; (try clear hb); (try clear hb2); (try clear hk); (try clear hi); have hcz15_0 : w14.cell? ⟨gb631, 0, none⟩ = some (.string t629) := (Af BK631.out 0).trans rfl; have hcz15_1 : w14.cell? ⟨gb631, 1, none⟩ = some (.string t630) := (Af BK631.out 1).trans rfl; have hfz15_0 := Ae BK631.out 0; have hfz15_1 := Ae BK631.out 1) | ((with_reducible refine Am (f := 14) rfl ?_); refine Au (some 37) rfl rfl Tryd.func14 (by kernel_rfl) rfl #[.int .i64 t628, .agg #[.string t629, .string t630]] rfl (by (try simp only [List.map_toArray, List.map_cons, List.map_nil]); first | done | rfl | (simp only [List.length_drop, List.length_take]; rfl)) ?_; (with_reducible refine (Dy.calls k t628 t629 t630 t634 t635 _ A6.out).mono ?_); rintro e w16 ⟨rfl, hb⟩; refine ⟨_, rfl, ?_⟩; have n0_ := Aside0.mk (Ak (g := gb631) (o := .cells #[.string t629, .string t630] 27 (0, 0)) (by (with_reducible repeat (first | refine Ac ?_ _ | refine Ad ?_ | refine Aa ?_ _)); exact BK631.out) hb); have n1_ := Aside0.mk (Ag (by repeat (first | (with_reducible first | exact HB.out | apply below_alloc | apply pw_below_drewN | apply below_drew1 | refine below_set ?_ GE631.out) | exact HB.out)) hb); clear BK631; clear HB; have BK631 := n0_; have HB := n1_; clear n0_ n1_; (try clear hb); (try clear hb2); (try clear hk); (try clear hi)) | ((with_reducible refine Am (f := 40) rfl ?_); refine Au (some 41) rfl rfl Tryd.func40 (by kernel_rfl) rfl #[.slice A0 l0.length c0] rfl (by (try simp only [List.map_toArray, List.map_cons, List.map_nil]); first | done | rfl | (simp only [List.length_drop, List.length_take]; rfl)) ?_; (with_reducible refine (Aq.calls k _ _ l0 t636 _ ?side1 ?side2 A7.out).mono ?_); (case side1 => repeat (first | exact (Kd.C_below HR0.out HB.out) | (with_reducible refine Kd.Gv ?_ _) | (with_reducible refine Kd.Gu ?_ _) | (with_reducible refine Kd.Ha ?_))); (case side2 => exact HC0.out); rintro e w17 ⟨rfl, hb⟩; refine ⟨_, rfl, ?_⟩; have n0_ := Aside0.mk (Ak (g := gb631) (o := .cells #[.string t629, .string t630] 27 (0, 0)) (by (with_reducible repeat (first | refine Ac ?_ _ | refine Ad ?_ | refine Aa ?_ _)); exact BK631.out) hb); have n1_ := Aside0.mk (Ag (by repeat (first | (with_reducible first | exact HB.out | apply below_alloc | apply pw_below_drewN | apply below_drew1 | refine below_set ?_ GE631.out) | exact HB.out)) hb); clear BK631; clear HB; have BK631 := n0_; have HB := n1_; clear n0_ n1_; (try clear hb); (try clear hb2); (try clear hk); (try clear hi)) | ((with_reducible refine Am (f := 18) rfl ?_); refine Au (some 44) rfl rfl Tryd.func18 (by kernel_rfl) rfl #[.string t636] rfl (by (try simp only [List.map_toArray, List.map_cons, List.map_nil]); first | done | rfl | (simp only [List.length_drop, List.length_take]; rfl)) ?_; (with_reducible refine (Dq.calls k t636 t637 t638 t639 t640 t641 _ ?side1 A8.out).mono ?_); (case side1 => exact Ea.below HGL.out (by repeat (first | (with_reducible first | exact HB.out | apply below_alloc | apply pw_below_drewN | apply below_drew1 | refine below_set ?_ GE631.out) | exact HB.out))); rintro e w18 ⟨rfl, hb⟩; refine ⟨_, rfl, ?_⟩; have n0_ := Aside0.mk (Ak (g := gb631) (o := .cells #[.string t629, .string t630] 27 (0, 0)) (by (with_reducible repeat (first | refine Ac ?_ _ | refine Ad ?_ | refine Aa ?_ _)); exact BK631.out) hb); have n1_ := Aside0.mk (Ag (by repeat (first | (with_reducible first | exact HB.out | apply below_alloc | apply pw_below_drewN | apply below_drew1 | refine below_set ?_ GE631.out) | exact HB.out)) hb); clear BK631; clear HB; have BK631 := n0_; have HB := n1_; clear n0_ n1_; (try clear hb); (try clear hb2); (try clear hk); (try clear hi)) | ((with_reducible refine Az (N := 10) rfl ?_); refine Ba ?hg (N := 10) ?hd (cs := #[.string (⟨#[]⟩ : ByteArray), .string (⟨#[]⟩ : ByteArray), .int .i64 0]) (t := 31) ?hr ?_; (case hd => rfl); (case hg => rfl); (case hr => first | (go_simp; done) | (go_simp; rfl)); intro gb642 hg w19 hbox hb; have n0_ := Aside0.mk (Ak (g := gb631) (o := .cells #[.string t629, .string t630] 27 (0, 0)) (by (with_reducible repeat (first | refine Ac ?_ _ | refine Ad ?_ | refine Aa ?_ _)); exact BK631.out) hb); have n1_ := Aside0.mk (Ag (by repeat (first | (with_reducible first | exact HB.out | apply below_alloc | apply pw_below_drewN | apply below_drew1 | refine below_set ?_ GE631.out) | exact HB.out)) hb); have n2_ := Aside0.mk (hbox); have n3_ := Aside0.mk ((by rw [hg]; exact (Ah (by repeat (first | (with_reducible first | exact HB.out | apply below_alloc | apply pw_below_drewN | apply below_drew1 | refine below_set ?_ GE631.out) | exact HB.out))) : w.heap.size ≤ gb642)); have n4_ := Aside0.mk ((by rw [hg]; exact (Ah (by repeat (first | (with_reducible first | exact HB.out | apply below_alloc | apply pw_below_drewN | apply below_drew1 | refine below_set ?_ GE631.out) | exact HB.out))) : w.heap.size ≤ gb642)); have n5_ := Aside0.mk ((by rw [hg]; exact Nat.ne_of_lt (Cf (g := gb631) (o := .cells #[.string t629, .string t630] 27 (0, 0)) (by (with_reducible repeat (first | refine Ac ?_ _ | refine Ad ?_ | refine Aa ?_ _)); exact BK631.out)) : gb631 ≠ gb642)); have n6_ := Aside0.mk ((by rw [hg]; exact Nat.ne_of_gt (Cf (g := gb631) (o := .cells #[.string t629, .string t630] 27 (0, 0)) (by (with_reducible repeat (first | refine Ac ?_ _ | refine Ad ?_ | refine Aa ?_ _)); exact BK631.out)) : gb642 ≠ gb631)); clear BK631; clear HB; have BK631 := n0_; have HB := n1_; have BK642 := n2_; have GW642 := n3_; have GE642 := n4_; have NB631_642 := n5_; have NB642_631 := n6_; clear n0_ n1_ n2_ n3_ n4_ n5_ n6_; clear hb hbox hg; have hnb20 := NB642_631.out; have hnc20 := NB631_642.out; have hcz21_0 : w19.cell? ⟨gb642, 0, none⟩ = some (.string (⟨#[]⟩ : ByteArray)) := (Af BK642.out 0).trans rfl; have hcz21_1 : w19.cell? ⟨gb642, 1, none⟩ = some (.string (⟨#[]⟩ : ByteArray)) := (Af BK642.out 1).trans rfl; have hcz21_2 : w19.cell? ⟨gb642, 2, none⟩ = some (.int .i64 0) := (Af BK642.out 2).trans rfl; have hfz21_0 := Ae BK642.out 0; have hfz21_1 := Ae BK642.out 1; have hfz21_2 := Ae BK642.out 2) | ((with_reducible refine Am (f := 17) rfl ?_); refine Au (some 50) rfl rfl Tryd.func17 (by kernel_rfl) rfl #[.string t636] rfl (by (try simp only [List.map_toArray, List.map_cons, List.map_nil]); first | done | rfl | (simp only [List.length_drop, List.length_take]; rfl)) ?_; (with_reducible refine (Dx.calls k t636 t643 t644 t645 t646 t647 _ A9.out).mono ?_); rintro e w22 ⟨rfl, hb⟩; refine ⟨_, rfl, ?_⟩; have n0_ := Aside0.mk (Ak (g := gb631) (o := .cells #[.string t629, .string t630] 27 (0, 0)) (by (with_reducible repeat (first | refine Ac ?_ _ | refine Ad ?_ | refine Aa ?_ _)); refine Aw ?_ NB631_642.out _; (with_reducible repeat (first | refine Ac ?_ _ | refine Ad ?_ | refine Aa ?_ _)); refine Aw ?_ NB631_642.out _; (with_reducible repeat (first | refine Ac ?_ _ | refine Ad ?_ | refine Aa ?_ _)); refine Aw ?_ NB631_642.out _; (with_reducible repeat (first | refine Ac ?_ _ | refine Ad ?_ | refine Aa ?_ _)); exact BK631.out) hb); have n1_ := Aside0.mk (Ak (g := gb642) (o := .cells #[.string t637, .string t638, .int .i64 t639] 31 (0, 0)) (by (with_reducible repeat (first | refine Ac ?_ _ | refine Ad ?_ | refine Aa ?_ _)); refine Ar (cs := #[.string t637, .string t638, .int .i64 0]) ?_ 2 _ rfl; (with_reducible repeat (first | refine Ac ?_ _ | refine Ad ?_ | refine Aa ?_ _)); refine Ar (cs := #[.string t637, .string (⟨#[]⟩ : ByteArray), .int .i64 0]) ?_ 1 _ rfl; (with_reducible repeat (first | refine Ac ?_ _ | refine Ad ?_ | refine Aa ?_ _)); refine Ar (cs := #[.string (⟨#[]⟩ : ByteArray), .string (⟨#[]⟩ : ByteArray), .int .i64 0]) ?_ 0 _ rfl; (with_reducible repeat (first | refine Ac ?_ _ | refine Ad ?_ | refine Aa ?_ _)); exact BK642.out) hb); have n2_ := Aside0.mk (Ag (by repeat (first | (with_reducible first | exact HB.out | apply below_alloc | apply pw_below_drewN | apply below_drew1 | refine below_set ?_ GE631.out | refine below_set ?_ GE642.out) | exact HB.out)) hb); clear BK631; clear BK642; clear HB; have BK631 := n0_; have BK642 := n1_; have HB := n2_; clear n0_ n1_ n2_; (try clear hb); (try clear hb2); (try clear hk); (try clear hi)) | ((with_reducible refine Az (N := 13) rfl ?_); refine Ba ?hg (N := 13) ?hd (cs := #[.string (⟨#[]⟩ : ByteArray), .string (⟨#[]⟩ : ByteArray), .int .i64 0]) (t := 31) ?hr ?_; (case hd => rfl); (case hg => rfl); (case hr => first | (go_simp; done) | (go_simp; rfl)); intro gb648 hg w23 hbox hb; have n0_ := Aside0.mk (Ak (g := gb631) (o := .cells #[.string t629, .string t630] 27 (0, 0)) (by (with_reducible repeat (first | refine Ac ?_ _ | refine Ad ?_ | refine Aa ?_ _)); exact BK631.out) hb); have n1_ := Aside0.mk (Ak (g := gb642) (o := .cells #[.string t637, .string t638, .int .i64 t639] 31 (0, 0)) (by (with_reducible repeat (first | refine Ac ?_ _ | refine Ad ?_ | refine Aa ?_ _)); exact BK642.out) hb); have n2_ := Aside0.mk (Ag (by repeat (first | (with_reducible first | exact HB.out | apply below_alloc | apply pw_below_drewN | apply below_drew1 | refine below_set ?_ GE631.out | refine below_set ?_ GE642.out) | exact HB.out)) hb); have n3_ := Aside0.mk (hbox); have n4_ := Aside0.mk ((by rw [hg]; exact (Ah (by repeat (first | (with_reducible first | exact HB.out | apply below_alloc | apply pw_below_drewN | apply below_drew1 | refine below_set ?_ GE631.out | refine below_set ?_ GE642.out) | exact HB.out))) : w.heap.size ≤ gb648)); have n5_ := Aside0.mk ((by rw [hg]; exact (Ah (by repeat (first | (with_reducible first | exact HB.out | apply below_alloc | apply pw_below_drewN | apply below_drew1 | refine below_set ?_ GE631.out | refine below_set ?_ GE642.out) | exact HB.out))) : w.heap.size ≤ gb648)); have n6_ := Aside0.mk ((by rw [hg]; exact Nat.ne_of_lt (Cf (g := gb631) (o := .cells #[.string t629, .string t630] 27 (0, 0)) (by (with_reducible repeat (first | refine Ac ?_ _ | refine Ad ?_ | refine Aa ?_ _)); exact BK631.out)) : gb631 ≠ gb648)); have n7_ := Aside0.mk ((by rw [hg]; exact Nat.ne_of_gt (Cf (g := gb631) (o := .cells #[.string t629, .string t630] 27 (0, 0)) (by (with_reducible repeat (first | refine Ac ?_ _ | refine Ad ?_ | refine Aa ?_ _)); exact BK631.out)) : gb648 ≠ gb631)); have n8_ := Aside0.mk ((by rw [hg]; exact Nat.ne_of_lt (Cf (g := gb642) (o := .cells #[.string t637, .string t638, .int .i64 t639] 31 (0, 0)) (by (with_reducible repeat (first | refine Ac ?_ _ | refine Ad ?_ | refine Aa ?_ _)); exact BK642.out)) : gb642 ≠ gb648)); have n9_ := Aside0.mk ((by rw [hg]; exact Nat.ne_of_gt (Cf (g := gb642) (o := .cells #[.string t637, .string t638, .int .i64 t639] 31 (0, 0)) (by (with_reducible repeat (first | refine Ac ?_ _ | refine Ad ?_ | refine Aa ?_ _)); exact BK642.out)) : gb648 ≠ gb642)); clear BK631; clear BK642; clear HB; have BK631 := n0_; have BK642 := n1_; have HB := n2_; have BK648 := n3_; have GW648 := n4_; have GE648 := n5_; have NB631_648 := n6_; have NB648_631 := n7_; have NB642_648 := n8_; have NB648_642 := n9_; clear n0_ n1_ n2_ n3_ n4_ n5_ n6_ n7_ n8_ n9_; clear hb hbox hg; have hnb24 := NB648_631.out; have hnc24 := NB631_648.out; have hnb25 := NB648_642.out; have hnc25 := NB642_648.out; have hcz26_0 : w23.cell? ⟨gb648, 0, none⟩ = some (.string (⟨#[]⟩ : ByteArray)) := (Af BK648.out 0).trans rfl; have hcz26_1 : w23.cell? ⟨gb648, 1, none⟩ = some (.string (⟨#[]⟩ : ByteArray)) := (Af BK648.out 1).trans rfl; have hcz26_2 : w23.cell? ⟨gb648, 2, none⟩ = some (.int .i64 0) := (Af BK648.out 2).trans rfl; have hfz26_0 := Ae BK648.out 0; have hfz26_1 := Ae BK648.out 1; have hfz26_2 := Ae BK648.out 2))
    (try simp only [Act.put, List.setIfInBounds_toArray, List.set_cons_zero, List.set_cons_succ])
    go_cut [76] (fun v76 wc => ∃ (kq : Nat) (x76_9 : Bool), v76 = .bool x76_9 ∧ Aside0 (Ap.j0 kq t628 t632 t633 t641 x76_9 t637 t638 t639 = some r) ∧ Aside0 (kq ≤ k) ∧ Aside0 (wc.heap[gb631]? = some (.cells #[.string t629, .string t630] 27 (0, 0))) ∧ Aside0 (wc.heap[gb642]? = some (.cells #[.string t637, .string t638, .int .i64 t639] 31 (0, 0))) ∧ Aside0 (wc.heap[gb648]? = some (.cells #[.string t643, .string t644, .int .i64 t645] 31 (0, 0))) ∧ Aside0 (Below w.heap.size w wc))
    case first =>
      have H := HC10.out
      clear HC10
      by_cases c27 : t632.toList = t634.toList
      · rw [if_pos c27] at H
        have c27b0 : (t632.toList == t634.toList) = true := beq_iff_eq.mpr c27
        have c27b1 : (t632.toList != t634.toList) = false := bne_eq_false_iff_eq.mpr c27
        clear c27
        (first | rw [c27b0] | (simp only [Cj, C9]; rw [c27b0]) | skip)
        by_cases c28 : (t633 != t635) = true
        · rw [if_pos c28] at H
          have c28b0 : (t633 != t635) = true := c28
          (try (have c28b1 : decide (t633 = t635) = false := by simpa using c28))
          (try (have c28b2 : (t633 == t635) = false := by simpa using c28))
          (try (have c28b3 : ¬ (t633 = t635) := by simpa using c28))
          clear c28
          have H' := Aside0.mk H
          clear H
          go_wp2
          go_meet
          case rel => exact ⟨_, (true), (by first | rfl | (simp; done) | (simp [*]; done)), H', ⟨by first | omega | exact Nat.le_refl _⟩, ⟨by (with_reducible repeat (first | refine Ac ?_ _ | refine Ad ?_ | refine Aa ?_ _)); refine Aw ?_ NB631_648.out _; (with_reducible repeat (first | refine Ac ?_ _ | refine Ad ?_ | refine Aa ?_ _)); refine Aw ?_ NB631_648.out _; (with_reducible repeat (first | refine Ac ?_ _ | refine Ad ?_ | refine Aa ?_ _)); refine Aw ?_ NB631_648.out _; (with_reducible repeat (first | refine Ac ?_ _ | refine Ad ?_ | refine Aa ?_ _)); exact BK631.out⟩, ⟨by (with_reducible repeat (first | refine Ac ?_ _ | refine Ad ?_ | refine Aa ?_ _)); refine Aw ?_ NB642_648.out _; (with_reducible repeat (first | refine Ac ?_ _ | refine Ad ?_ | refine Aa ?_ _)); refine Aw ?_ NB642_648.out _; (with_reducible repeat (first | refine Ac ?_ _ | refine Ad ?_ | refine Aa ?_ _)); refine Aw ?_ NB642_648.out _; (with_reducible repeat (first | refine Ac ?_ _ | refine Ad ?_ | refine Aa ?_ _)); exact BK642.out⟩, ⟨by (with_reducible repeat (first | refine Ac ?_ _ | refine Ad ?_ | refine Aa ?_ _)); refine Ar (cs := #[.string t643, .string t644, .int .i64 0]) ?_ 2 _ rfl; (with_reducible repeat (first | refine Ac ?_ _ | refine Ad ?_ | refine Aa ?_ _)); refine Ar (cs := #[.string t643, .string (⟨#[]⟩ : ByteArray), .int .i64 0]) ?_ 1 _ rfl; (with_reducible repeat (first | refine Ac ?_ _ | refine Ad ?_ | refine Aa ?_ _)); refine Ar (cs := #[.string (⟨#[]⟩ : ByteArray), .string (⟨#[]⟩ : ByteArray), .int .i64 0]) ?_ 0 _ rfl; (with_reducible repeat (first | refine Ac ?_ _ | refine Ad ?_ | refine Aa ?_ _)); exact BK648.out⟩, ⟨by repeat (first | (with_reducible first | exact HB.out | apply below_alloc | apply pw_below_drewN | apply below_drew1 | refine below_set ?_ GE631.out | refine below_set ?_ GE642.out | refine below_set ?_ GE648.out) | exact HB.out)⟩⟩
        · rw [if_neg c28] at H
          have c28b0 : (t633 != t635) = false := by simpa using c28
          (try (have c28b1 : decide (t633 = t635) = true := by simpa using c28))
          (try (have c28b2 : (t633 == t635) = true := by simpa using c28))
          clear c28
          by_cases c29 : (!(t637.toList == t643.toList) || (!(t638.toList == t644.toList) || (!(t639 == t645)))) = true
          · rw [if_pos c29] at H
            have c29b0 : (!(t637.toList == t643.toList) || (!(t638.toList == t644.toList) || (!(t639 == t645)))) = true := c29
            clear c29
            have H' := Aside0.mk H
            clear H
            have hnb30 := NB642_631.out
            have hnc30 := NB631_642.out
            have hnb31 := NB642_648.out
            have hnc31 := NB648_642.out
            have hcz32_0 : w23.cell? ⟨gb642, 0, none⟩ = some (.string t637) := (Af BK642.out 0).trans rfl
            have hcz32_1 : w23.cell? ⟨gb642, 1, none⟩ = some (.string t638) := (Af BK642.out 1).trans rfl
            have hcz32_2 : w23.cell? ⟨gb642, 2, none⟩ = some (.int .i64 t639) := (Af BK642.out 2).trans rfl
            have hfz32_0 := Ae BK642.out 0
            have hfz32_1 := Ae BK642.out 1
            have hfz32_2 := Ae BK642.out 2
            have hnb33 := NB648_631.out
            have hnc33 := NB631_648.out
            have hcz34_0 : w23.cell? ⟨gb648, 0, none⟩ = some (.string (⟨#[]⟩ : ByteArray)) := (Af BK648.out 0).trans rfl
            have hcz34_1 : w23.cell? ⟨gb648, 1, none⟩ = some (.string (⟨#[]⟩ : ByteArray)) := (Af BK648.out 1).trans rfl
            have hcz34_2 : w23.cell? ⟨gb648, 2, none⟩ = some (.int .i64 0) := (Af BK648.out 2).trans rfl
            have hfz34_0 := Ae BK648.out 0
            have hfz34_1 := Ae BK648.out 1
            have hfz34_2 := Ae BK648.out 2
            go_wp2
            go_meet
            case rel => exact ⟨_, (true), (by first | rfl | (simp; done) | (simp [*]; done)), H', ⟨by first | omega | exact Nat.le_refl _⟩, ⟨by (with_reducible repeat (first | refine Ac ?_ _ | refine Ad ?_ | refine Aa ?_ _)); refine Aw ?_ NB631_648.out _; (with_reducible repeat (first | refine Ac ?_ _ | refine Ad ?_ | refine Aa ?_ _)); refine Aw ?_ NB631_648.out _; (with_reducible repeat (first | refine Ac ?_ _ | refine Ad ?_ | refine Aa ?_ _)); refine Aw ?_ NB631_648.out _; (with_reducible repeat (first | refine Ac ?_ _ | refine Ad ?_ | refine Aa ?_ _)); exact BK631.out⟩, ⟨by (with_reducible repeat (first | refine Ac ?_ _ | refine Ad ?_ | refine Aa ?_ _)); refine Aw ?_ NB642_648.out _; (with_reducible repeat (first | refine Ac ?_ _ | refine Ad ?_ | refine Aa ?_ _)); refine Aw ?_ NB642_648.out _; (with_reducible repeat (first | refine Ac ?_ _ | refine Ad ?_ | refine Aa ?_ _)); refine Aw ?_ NB642_648.out _; (with_reducible repeat (first | refine Ac ?_ _ | refine Ad ?_ | refine Aa ?_ _)); exact BK642.out⟩, ⟨by (with_reducible repeat (first | refine Ac ?_ _ | refine Ad ?_ | refine Aa ?_ _)); refine Ar (cs := #[.string t643, .string t644, .int .i64 0]) ?_ 2 _ rfl; (with_reducible repeat (first | refine Ac ?_ _ | refine Ad ?_ | refine Aa ?_ _)); refine Ar (cs := #[.string t643, .string (⟨#[]⟩ : ByteArray), .int .i64 0]) ?_ 1 _ rfl; (with_reducible repeat (first | refine Ac ?_ _ | refine Ad ?_ | refine Aa ?_ _)); refine Ar (cs := #[.string (⟨#[]⟩ : ByteArray), .string (⟨#[]⟩ : ByteArray), .int .i64 0]) ?_ 0 _ rfl; (with_reducible repeat (first | refine Ac ?_ _ | refine Ad ?_ | refine Aa ?_ _)); exact BK648.out⟩, ⟨by repeat (first | (with_reducible first | exact HB.out | apply below_alloc | apply pw_below_drewN | apply below_drew1 | refine below_set ?_ GE631.out | refine below_set ?_ GE642.out | refine below_set ?_ GE648.out) | exact HB.out)⟩⟩
          · rw [if_neg c29] at H
            have c29b0 : (!(t637.toList == t643.toList) || (!(t638.toList == t644.toList) || (!(t639 == t645)))) = false := by simpa using c29
            clear c29
            by_cases c35 : t640 = t646
            · rw [if_pos c35] at H
              have c35b0 : (t640 == t646) = true := beq_iff_eq.mpr c35
              have c35b1 : (t640 != t646) = false := bne_eq_false_iff_eq.mpr c35
              clear c35
              have H' := Aside0.mk H
              clear H
              have hnb36 := NB642_631.out
              have hnc36 := NB631_642.out
              have hnb37 := NB642_648.out
              have hnc37 := NB648_642.out
              have hcz38_0 : w23.cell? ⟨gb642, 0, none⟩ = some (.string t637) := (Af BK642.out 0).trans rfl
              have hcz38_1 : w23.cell? ⟨gb642, 1, none⟩ = some (.string t638) := (Af BK642.out 1).trans rfl
              have hcz38_2 : w23.cell? ⟨gb642, 2, none⟩ = some (.int .i64 t639) := (Af BK642.out 2).trans rfl
              have hfz38_0 := Ae BK642.out 0
              have hfz38_1 := Ae BK642.out 1
              have hfz38_2 := Ae BK642.out 2
              have hnb39 := NB648_631.out
              have hnc39 := NB631_648.out
              have hcz40_0 : w23.cell? ⟨gb648, 0, none⟩ = some (.string (⟨#[]⟩ : ByteArray)) := (Af BK648.out 0).trans rfl
              have hcz40_1 : w23.cell? ⟨gb648, 1, none⟩ = some (.string (⟨#[]⟩ : ByteArray)) := (Af BK648.out 1).trans rfl
              have hcz40_2 : w23.cell? ⟨gb648, 2, none⟩ = some (.int .i64 0) := (Af BK648.out 2).trans rfl
              have hfz40_0 := Ae BK648.out 0
              have hfz40_1 := Ae BK648.out 1
              have hfz40_2 := Ae BK648.out 2
              go_wp2
              go_meet
              case rel => exact ⟨_, ((t641 != t647)), (by first | rfl | (simp; done) | (simp [*]; done)), H', ⟨by first | omega | exact Nat.le_refl _⟩, ⟨by (with_reducible repeat (first | refine Ac ?_ _ | refine Ad ?_ | refine Aa ?_ _)); refine Aw ?_ NB631_648.out _; (with_reducible repeat (first | refine Ac ?_ _ | refine Ad ?_ | refine Aa ?_ _)); refine Aw ?_ NB631_648.out _; (with_reducible repeat (first | refine Ac ?_ _ | refine Ad ?_ | refine Aa ?_ _)); refine Aw ?_ NB631_648.out _; (with_reducible repeat (first | refine Ac ?_ _ | refine Ad ?_ | refine Aa ?_ _)); exact BK631.out⟩, ⟨by (with_reducible repeat (first | refine Ac ?_ _ | refine Ad ?_ | refine Aa ?_ _)); refine Aw ?_ NB642_648.out _; (with_reducible repeat (first | refine Ac ?_ _ | refine Ad ?_ | refine Aa ?_ _)); refine Aw ?_ NB642_648.out _; (with_reducible repeat (first | refine Ac ?_ _ | refine Ad ?_ | refine Aa ?_ _)); refine Aw ?_ NB642_648.out _; (with_reducible repeat (first | refine Ac ?_ _ | refine Ad ?_ | refine Aa ?_ _)); exact BK642.out⟩, ⟨by (with_reducible repeat (first | refine Ac ?_ _ | refine Ad ?_ | refine Aa ?_ _)); refine Ar (cs := #[.string t643, .string t644, .int .i64 0]) ?_ 2 _ rfl; (with_reducible repeat (first | refine Ac ?_ _ | refine Ad ?_ | refine Aa ?_ _)); refine Ar (cs := #[.string t643, .string (⟨#[]⟩ : ByteArray), .int .i64 0]) ?_ 1 _ rfl; (with_reducible repeat (first | refine Ac ?_ _ | refine Ad ?_ | refine Aa ?_ _)); refine Ar (cs := #[.string (⟨#[]⟩ : ByteArray), .string (⟨#[]⟩ : ByteArray), .int .i64 0]) ?_ 0 _ rfl; (with_reducible repeat (first | refine Ac ?_ _ | refine Ad ?_ | refine Aa ?_ _)); exact BK648.out⟩, ⟨by repeat (first | (with_reducible first | exact HB.out | apply below_alloc | apply pw_below_drewN | apply below_drew1 | refine below_set ?_ GE631.out | refine below_set ?_ GE642.out | refine below_set ?_ GE648.out) | exact HB.out)⟩⟩
            · rw [if_neg c35] at H
              have c35b0 : (t640 == t646) = false := beq_eq_false_iff_ne.mpr c35
              have c35b1 : (t640 != t646) = true := bne_iff_ne.mpr c35
              have H' := Aside0.mk H
              clear H
              have hnb41 := NB642_631.out
              have hnc41 := NB631_642.out
              have hnb42 := NB642_648.out
              have hnc42 := NB648_642.out
              have hcz43_0 : w23.cell? ⟨gb642, 0, none⟩ = some (.string t637) := (Af BK642.out 0).trans rfl
              have hcz43_1 : w23.cell? ⟨gb642, 1, none⟩ = some (.string t638) := (Af BK642.out 1).trans rfl
              have hcz43_2 : w23.cell? ⟨gb642, 2, none⟩ = some (.int .i64 t639) := (Af BK642.out 2).trans rfl
              have hfz43_0 := Ae BK642.out 0
              have hfz43_1 := Ae BK642.out 1
              have hfz43_2 := Ae BK642.out 2
              have hnb44 := NB648_631.out
              have hnc44 := NB631_648.out
              have hcz45_0 : w23.cell? ⟨gb648, 0, none⟩ = some (.string (⟨#[]⟩ : ByteArray)) := (Af BK648.out 0).trans rfl
              have hcz45_1 : w23.cell? ⟨gb648, 1, none⟩ = some (.string (⟨#[]⟩ : ByteArray)) := (Af BK648.out 1).trans rfl
              have hcz45_2 : w23.cell? ⟨gb648, 2, none⟩ = some (.int .i64 0) := (Af BK648.out 2).trans rfl
              have hfz45_0 := Ae BK648.out 0
              have hfz45_1 := Ae BK648.out 1
              have hfz45_2 := Ae BK648.out 2
              go_wp2
              go_meet
              case rel => exact ⟨_, (true), (by first | rfl | (simp; done) | (simp [*]; done)), H', ⟨by first | omega | exact Nat.le_refl _⟩, ⟨by (with_reducible repeat (first | refine Ac ?_ _ | refine Ad ?_ | refine Aa ?_ _)); refine Aw ?_ NB631_648.out _; (with_reducible repeat (first | refine Ac ?_ _ | refine Ad ?_ | refine Aa ?_ _)); refine Aw ?_ NB631_648.out _; (with_reducible repeat (first | refine Ac ?_ _ | refine Ad ?_ | refine Aa ?_ _)); refine Aw ?_ NB631_648.out _; (with_reducible repeat (first | refine Ac ?_ _ | refine Ad ?_ | refine Aa ?_ _)); exact BK631.out⟩, ⟨by (with_reducible repeat (first | refine Ac ?_ _ | refine Ad ?_ | refine Aa ?_ _)); refine Aw ?_ NB642_648.out _; (with_reducible repeat (first | refine Ac ?_ _ | refine Ad ?_ | refine Aa ?_ _)); refine Aw ?_ NB642_648.out _; (with_reducible repeat (first | refine Ac ?_ _ | refine Ad ?_ | refine Aa ?_ _)); refine Aw ?_ NB642_648.out _; (with_reducible repeat (first | refine Ac ?_ _ | refine Ad ?_ | refine Aa ?_ _)); exact BK642.out⟩, ⟨by (with_reducible repeat (first | refine Ac ?_ _ | refine Ad ?_ | refine Aa ?_ _)); refine Ar (cs := #[.string t643, .string t644, .int .i64 0]) ?_ 2 _ rfl; (with_reducible repeat (first | refine Ac ?_ _ | refine Ad ?_ | refine Aa ?_ _)); refine Ar (cs := #[.string t643, .string (⟨#[]⟩ : ByteArray), .int .i64 0]) ?_ 1 _ rfl; (with_reducible repeat (first | refine Ac ?_ _ | refine Ad ?_ | refine Aa ?_ _)); refine Ar (cs := #[.string (⟨#[]⟩ : ByteArray), .string (⟨#[]⟩ : ByteArray), .int .i64 0]) ?_ 0 _ rfl; (with_reducible repeat (first | refine Ac ?_ _ | refine Ad ?_ | refine Aa ?_ _)); exact BK648.out⟩, ⟨by repeat (first | (with_reducible first | exact HB.out | apply below_alloc | apply pw_below_drewN | apply below_drew1 | refine below_set ?_ GE631.out | refine below_set ?_ GE642.out | refine below_set ?_ GE648.out) | exact HB.out)⟩⟩
      · rw [if_neg c27] at H
        have c27b0 : (t632.toList == t634.toList) = false := beq_eq_false_iff_ne.mpr c27
        have c27b1 : (t632.toList != t634.toList) = true := bne_iff_ne.mpr c27
        (first | rw [c27b0] | (simp only [Cj, C9]; rw [c27b0]) | skip)
        have H' := Aside0.mk H
        clear H
        go_wp2
        go_meet
        case rel => exact ⟨_, (true), (by first | rfl | (simp; done) | (simp [*]; done)), H', ⟨by first | omega | exact Nat.le_refl _⟩, ⟨by (with_reducible repeat (first | refine Ac ?_ _ | refine Ad ?_ | refine Aa ?_ _)); refine Aw ?_ NB631_648.out _; (with_reducible repeat (first | refine Ac ?_ _ | refine Ad ?_ | refine Aa ?_ _)); refine Aw ?_ NB631_648.out _; (with_reducible repeat (first | refine Ac ?_ _ | refine Ad ?_ | refine Aa ?_ _)); refine Aw ?_ NB631_648.out _; (with_reducible repeat (first | refine Ac ?_ _ | refine Ad ?_ | refine Aa ?_ _)); exact BK631.out⟩, ⟨by (with_reducible repeat (first | refine Ac ?_ _ | refine Ad ?_ | refine Aa ?_ _)); refine Aw ?_ NB642_648.out _; (with_reducible repeat (first | refine Ac ?_ _ | refine Ad ?_ | refine Aa ?_ _)); refine Aw ?_ NB642_648.out _; (with_reducible repeat (first | refine Ac ?_ _ | refine Ad ?_ | refine Aa ?_ _)); refine Aw ?_ NB642_648.out _; (with_reducible repeat (first | refine Ac ?_ _ | refine Ad ?_ | refine Aa ?_ _)); exact BK642.out⟩, ⟨by (with_reducible repeat (first | refine Ac ?_ _ | refine Ad ?_ | refine Aa ?_ _)); refine Ar (cs := #[.string t643, .string t644, .int .i64 0]) ?_ 2 _ rfl; (with_reducible repeat (first | refine Ac ?_ _ | refine Ad ?_ | refine Aa ?_ _)); refine Ar (cs := #[.string t643, .string (⟨#[]⟩ : ByteArray), .int .i64 0]) ?_ 1 _ rfl; (with_reducible repeat (first | refine Ac ?_ _ | refine Ad ?_ | refine Aa ?_ _)); refine Ar (cs := #[.string (⟨#[]⟩ : ByteArray), .string (⟨#[]⟩ : ByteArray), .int .i64 0]) ?_ 0 _ rfl; (with_reducible repeat (first | refine Ac ?_ _ | refine Ad ?_ | refine Aa ?_ _)); exact BK648.out⟩, ⟨by repeat (first | (with_reducible first | exact HB.out | apply below_alloc | apply pw_below_drewN | apply below_drew1 | refine below_set ?_ GE631.out | refine below_set ?_ GE642.out | refine below_set ?_ GE648.out) | exact HB.out)⟩⟩
    case rest =>
      clear HC10
      try clear c1
      try clear c2
      try clear p2
      try clear c3
      try clear c4
      try clear c11
      try clear c14
      try clear c16
      try clear c17
      try clear c18
      try clear c20
      try clear c24
      try clear c25
      try clear c27
      try clear c27b0
      try clear c27b1
      try clear c28
      try clear c28b0
      try clear c28b1
      try clear c28b2
      try clear c29
      try clear c29b0
      try clear c30
      try clear c31
      try clear c33
      try clear c35
      try clear c35b0
      try clear c35b1
      try clear c36
      try clear c37
      try clear c39
      try clear c40
      try clear c41
      try clear c42
      try clear c44
      try clear hcz13_0
      try clear hcz13_1
      try clear hcz15_0
      try clear hcz15_1
      try clear hcz21_0
      try clear hcz21_1
      try clear hcz21_2
      try clear hcz26_0
      try clear hcz26_1
      try clear hcz26_2
      try clear hcz32_0
      try clear hcz32_1
      try clear hcz32_2
      try clear hcz34_0
      try clear hcz34_1
      try clear hcz34_2
      try clear hcz38_0
      try clear hcz38_1
      try clear hcz38_2
      try clear hcz40_0
      try clear hcz40_1
      try clear hcz40_2
      try clear hcz43_0
      try clear hcz43_1
      try clear hcz43_2
      try clear hcz45_0
      try clear hcz45_1
      try clear hcz45_2
      try clear hfz13_0
      try clear hfz13_1
      try clear hfz15_0
      try clear hfz15_1
      try clear hfz21_0
      try clear hfz21_1
      try clear hfz21_2
      try clear hfz26_0
      try clear hfz26_1
      try clear hfz26_2
      try clear hfz32_0
      try clear hfz32_1
      try clear hfz32_2
      try clear hfz34_0
      try clear hfz34_1
      try clear hfz34_2
      try clear hfz38_0
      try clear hfz38_1
      try clear hfz38_2
      try clear hfz40_0
      try clear hfz40_1
      try clear hfz40_2
      try clear hfz43_0
      try clear hfz43_1
      try clear hfz43_2
      try clear hfz45_0
      try clear hfz45_1
      try clear hfz45_2
      obtain ⟨kq, x76_9, rfl, HA, HJ9, BK631, BK642, BK648, HB⟩ := hcut
      cases kq with
      | zero => exact absurd HA.out (by simp [Ap.j0])
      | succ kj9 =>
        have H := HA.out
        clear HA
        simp only [Ap.j0] at H
        by_cases c46 : x76_9 = true
        · subst c46
          have H1 : (some false) = some r := by rw [if_pos rfl] at H; exact H
          clear H
          have H := H1
          clear H1
          exact absurd (Option.some.inj H) (by rw [HR_.out]; decide)
        · replace c46 := Bool.eq_false_iff.mpr c46
          subst c46
          have H1 : ((Dq.f kj9 t632).bind fun bt649 => (if t633 = true then (if ((decide (bt649.2.2.2.1 > 0)) != (t628 == 0)) = true then (Ap.j1 kj9 t632 t633 t641 true t637 t638 t639) else (if t628 = 0 then (Ap.j1 kj9 t632 t633 t641 (bt649.2.2.1 != 1) t637 t638 t639) else (Ap.j1 kj9 t632 t633 t641 false t637 t638 t639))) else (Ap.j1 kj9 t632 t633 t641 false t637 t638 t639))) = some r := by rw [if_neg (show ¬ (false = true) by decide)] at H; exact H
          clear H
          have H := H1
          clear H1
          replace H := Option.bind_eq_some_iff.mp H
          obtain ⟨⟨t649, t650, t651, t652, t653⟩, A470, H⟩ := H
          replace H : (if t633 = true then (if ((decide (t652 > 0)) != (t628 == 0)) = true then (Ap.j1 kj9 t632 t633 t641 true t637 t638 t639) else (if t628 = 0 then (Ap.j1 kj9 t632 t633 t641 (t651 != 1) t637 t638 t639) else (Ap.j1 kj9 t632 t633 t641 false t637 t638 t639))) else (Ap.j1 kj9 t632 t633 t641 false t637 t638 t639)) = some r := H
          have A47 := Aside0.mk A470
          clear A470
          have HC48 := Aside0.mk H
          clear H
          go_upto_region 12 with (first | ((with_reducible refine Am (f := 18) rfl ?_); refine Au (some 79) rfl rfl Tryd.func18 (by kernel_rfl) rfl #[.string t632] rfl (by (try simp only [List.map_toArray, List.map_cons, List.map_nil]); first | done | rfl | (simp only [List.length_drop, List.length_take]; rfl)) ?_; (with_reducible refine (Dq.calls kj9 t632 t649 t650 t651 t652 t653 _ ?side1 A47.out).mono ?_); (case side1 => exact Ea.below HGL.out (by repeat (first | (with_reducible first | exact HB.out | apply below_alloc | apply pw_below_drewN | apply below_drew1 | refine below_set ?_ GE631.out | refine below_set ?_ GE642.out | refine below_set ?_ GE648.out) | exact HB.out))); rintro e w49 ⟨rfl, hb⟩; refine ⟨_, rfl, ?_⟩; have n0_ := Aside0.mk (Ak (g := gb631) (o := .cells #[.string t629, .string t630] 27 (0, 0)) (by (with_reducible repeat (first | refine Ac ?_ _ | refine Ad ?_ | refine Aa ?_ _)); exact BK631.out) hb); have n1_ := Aside0.mk (Ak (g := gb642) (o := .cells #[.string t637, .string t638, .int .i64 t639] 31 (0, 0)) (by (with_reducible repeat (first | refine Ac ?_ _ | refine Ad ?_ | refine Aa ?_ _)); exact BK642.out) hb); have n2_ := Aside0.mk (Ak (g := gb648) (o := .cells #[.string t643, .string t644, .int .i64 t645] 31 (0, 0)) (by (with_reducible repeat (first | refine Ac ?_ _ | refine Ad ?_ | refine Aa ?_ _)); exact BK648.out) hb); have n3_ := Aside0.mk (Ag (by repeat (first | (with_reducible first | exact HB.out | apply below_alloc | apply pw_below_drewN | apply below_drew1 | refine below_set ?_ GE631.out | refine below_set ?_ GE642.out | refine below_set ?_ GE648.out) | exact HB.out)) hb); clear BK631; clear BK642; clear BK648; clear HB; have BK631 := n0_; have BK642 := n1_; have BK648 := n2_; have HB := n3_; clear n0_ n1_ n2_ n3_; (try clear hb); (try clear hb2); (try clear hk); (try clear hi)) | ((with_reducible refine Az (N := 16) rfl ?_); refine Ba ?hg (N := 16) ?hd (cs := #[.string (⟨#[]⟩ : ByteArray), .string (⟨#[]⟩ : ByteArray), .int .i64 0]) (t := 31) ?hr ?_; (case hd => rfl); (case hg => rfl); (case hr => first | (go_simp; done) | (go_simp; rfl)); intro gb654 hg w50 hbox hb; have n0_ := Aside0.mk (Ak (g := gb631) (o := .cells #[.string t629, .string t630] 27 (0, 0)) (by (with_reducible repeat (first | refine Ac ?_ _ | refine Ad ?_ | refine Aa ?_ _)); exact BK631.out) hb); have n1_ := Aside0.mk (Ak (g := gb642) (o := .cells #[.string t637, .string t638, .int .i64 t639] 31 (0, 0)) (by (with_reducible repeat (first | refine Ac ?_ _ | refine Ad ?_ | refine Aa ?_ _)); exact BK642.out) hb); have n2_ := Aside0.mk (Ak (g := gb648) (o := .cells #[.string t643, .string t644, .int .i64 t645] 31 (0, 0)) (by (with_reducible repeat (first | refine Ac ?_ _ | refine Ad ?_ | refine Aa ?_ _)); exact BK648.out) hb); have n3_ := Aside0.mk (Ag (by repeat (first | (with_reducible first | exact HB.out | apply below_alloc | apply pw_below_drewN | apply below_drew1 | refine below_set ?_ GE631.out | refine below_set ?_ GE642.out | refine below_set ?_ GE648.out) | exact HB.out)) hb); have n4_ := Aside0.mk (hbox); have n5_ := Aside0.mk ((by rw [hg]; exact (Ah (by repeat (first | (with_reducible first | exact HB.out | apply below_alloc | apply pw_below_drewN | apply below_drew1 | refine below_set ?_ GE631.out | refine below_set ?_ GE642.out | refine below_set ?_ GE648.out) | exact HB.out))) : w.heap.size ≤ gb654)); have n6_ := Aside0.mk ((by rw [hg]; exact (Ah (by repeat (first | (with_reducible first | exact HB.out | apply below_alloc | apply pw_below_drewN | apply below_drew1 | refine below_set ?_ GE631.out | refine below_set ?_ GE642.out | refine below_set ?_ GE648.out) | exact HB.out))) : w.heap.size ≤ gb654)); have n7_ := Aside0.mk ((by rw [hg]; exact Nat.ne_of_lt (Cf (g := gb631) (o := .cells #[.string t629, .string t630] 27 (0, 0)) (by (with_reducible repeat (first | refine Ac ?_ _ | refine Ad ?_ | refine Aa ?_ _)); exact BK631.out)) : gb631 ≠ gb654)); have n8_ := Aside0.mk ((by rw [hg]; exact Nat.ne_of_gt (Cf (g := gb631) (o := .cells #[.string t629, .string t630] 27 (0, 0)) (by (with_reducible repeat (first | refine Ac ?_ _ | refine Ad ?_ | refine Aa ?_ _)); exact BK631.out)) : gb654 ≠ gb631)); have n9_ := Aside0.mk ((by rw [hg]; exact Nat.ne_of_lt (Cf (g := gb642) (o := .cells #[.string t637, .string t638, .int .i64 t639] 31 (0, 0)) (by (with_reducible repeat (first | refine Ac ?_ _ | refine Ad ?_ | refine Aa ?_ _)); exact BK642.out)) : gb642 ≠ gb654)); have n10_ := Aside0.mk ((by rw [hg]; exact Nat.ne_of_gt (Cf (g := gb642) (o := .cells #[.string t637, .string t638, .int .i64 t639] 31 (0, 0)) (by (with_reducible repeat (first | refine Ac ?_ _ | refine Ad ?_ | refine Aa ?_ _)); exact BK642.out)) : gb654 ≠ gb642)); have n11_ := Aside0.mk ((by rw [hg]; exact Nat.ne_of_lt (Cf (g := gb648) (o := .cells #[.string t643, .string t644, .int .i64 t645] 31 (0, 0)) (by (with_reducible repeat (first | refine Ac ?_ _ | refine Ad ?_ | refine Aa ?_ _)); exact BK648.out)) : gb648 ≠ gb654)); have n12_ := Aside0.mk ((by rw [hg]; exact Nat.ne_of_gt (Cf (g := gb648) (o := .cells #[.string t643, .string t644, .int .i64 t645] 31 (0, 0)) (by (with_reducible repeat (first | refine Ac ?_ _ | refine Ad ?_ | refine Aa ?_ _)); exact BK648.out)) : gb654 ≠ gb648)); clear BK631; clear BK642; clear BK648; clear HB; have BK631 := n0_; have BK642 := n1_; have BK648 := n2_; have HB := n3_; have BK654 := n4_; have GW654 := n5_; have GE654 := n6_; have NB631_654 := n7_; have NB654_631 := n8_; have NB642_654 := n9_; have NB654_642 := n10_; have NB648_654 := n11_; have NB654_648 := n12_; clear n0_ n1_ n2_ n3_ n4_ n5_ n6_ n7_ n8_ n9_ n10_ n11_ n12_; clear hb hbox hg; have hnb51 := NB654_631.out; have hnc51 := NB631_654.out; have hnb52 := NB654_642.out; have hnc52 := NB642_654.out; have hnb53 := NB654_648.out; have hnc53 := NB648_654.out; have hcz54_0 : w50.cell? ⟨gb654, 0, none⟩ = some (.string (⟨#[]⟩ : ByteArray)) := (Af BK654.out 0).trans rfl; have hcz54_1 : w50.cell? ⟨gb654, 1, none⟩ = some (.string (⟨#[]⟩ : ByteArray)) := (Af BK654.out 1).trans rfl; have hcz54_2 : w50.cell? ⟨gb654, 2, none⟩ = some (.int .i64 0) := (Af BK654.out 2).trans rfl; have hfz54_0 := Ae BK654.out 0; have hfz54_1 := Ae BK654.out 1; have hfz54_2 := Ae BK654.out 2))
          (try simp only [Act.put, List.setIfInBounds_toArray, List.set_cons_zero, List.set_cons_succ])
          go_cut [102] (fun v102 wc => ∃ (kq : Nat) (x102_47 : Bool), v102 = .bool x102_47 ∧ Aside0 (Ap.j1 kq t632 t633 t641 x102_47 t637 t638 t639 = some r) ∧ Aside0 (kq ≤ kj9) ∧ Aside0 (wc.heap[gb631]? = some (.cells #[.string t629, .string t630] 27 (0, 0))) ∧ Aside0 (wc.heap[gb642]? = some (.cells #[.string t637, .string t638, .int .i64 t639] 31 (0, 0))) ∧ Aside0 (wc.heap[gb648]? = some (.cells #[.string t643, .string t644, .int .i64 t645] 31 (0, 0))) ∧ Aside0 (wc.heap[gb654]? = some (.cells #[.string t649, .string t650, .int .i64 t651] 31 (0, 0))) ∧ Aside0 (Below w.heap.size w wc))
          case first =>
            have H := HC48.out
            clear HC48
            by_cases c55 : t633 = true
            · subst c55
              have H1 : (if ((decide (t652 > 0)) != (t628 == 0)) = true then (Ap.j1 kj9 t632 true t641 true t637 t638 t639) else (if t628 = 0 then (Ap.j1 kj9 t632 true t641 (t651 != 1) t637 t638 t639) else (Ap.j1 kj9 t632 true t641 false t637 t638 t639))) = some r := by rw [if_pos rfl] at H; exact H
              clear H
              have H := H1
              clear H1
              by_cases c56 : ((decide (t652 > 0)) != (t628 == 0)) = true
              · rw [if_pos c56] at H
                have c56b0 : ((decide (t652 > 0)) != (t628 == 0)) = true := c56
                (try (have c56b1 : decide ((decide (t652 > 0)) = (t628 == 0)) = false := by simpa using c56))
                (try (have c56b2 : ((decide (t652 > 0)) == (t628 == 0)) = false := by simpa using c56))
                (try (have c56b3 : ¬ ((decide (t652 > 0)) = (t628 == 0)) := by simpa using c56))
                clear c56
                (first | rw [c56b0] | (simp only [Cj, C9]; rw [c56b0]) | skip)
                have H' := Aside0.mk H
                clear H
                go_wp2
                go_meet
                case rel => exact ⟨_, (true), (by first | rfl | (simp; done) | (simp [*]; done)), H', ⟨by have := HJ9.out; first | omega | exact Nat.le_refl _⟩, ⟨by (with_reducible repeat (first | refine Ac ?_ _ | refine Ad ?_ | refine Aa ?_ _)); refine Aw ?_ NB631_654.out _; (with_reducible repeat (first | refine Ac ?_ _ | refine Ad ?_ | refine Aa ?_ _)); refine Aw ?_ NB631_654.out _; (with_reducible repeat (first | refine Ac ?_ _ | refine Ad ?_ | refine Aa ?_ _)); refine Aw ?_ NB631_654.out _; (with_reducible repeat (first | refine Ac ?_ _ | refine Ad ?_ | refine Aa ?_ _)); exact BK631.out⟩, ⟨by (with_reducible repeat (first | refine Ac ?_ _ | refine Ad ?_ | refine Aa ?_ _)); refine Aw ?_ NB642_654.out _; (with_reducible repeat (first | refine Ac ?_ _ | refine Ad ?_ | refine Aa ?_ _)); refine Aw ?_ NB642_654.out _; (with_reducible repeat (first | refine Ac ?_ _ | refine Ad ?_ | refine Aa ?_ _)); refine Aw ?_ NB642_654.out _; (with_reducible repeat (first | refine Ac ?_ _ | refine Ad ?_ | refine Aa ?_ _)); exact BK642.out⟩, ⟨by (with_reducible repeat (first | refine Ac ?_ _ | refine Ad ?_ | refine Aa ?_ _)); refine Aw ?_ NB648_654.out _; (with_reducible repeat (first | refine Ac ?_ _ | refine Ad ?_ | refine Aa ?_ _)); refine Aw ?_ NB648_654.out _; (with_reducible repeat (first | refine Ac ?_ _ | refine Ad ?_ | refine Aa ?_ _)); refine Aw ?_ NB648_654.out _; (with_reducible repeat (first | refine Ac ?_ _ | refine Ad ?_ | refine Aa ?_ _)); exact BK648.out⟩, ⟨by (with_reducible repeat (first | refine Ac ?_ _ | refine Ad ?_ | refine Aa ?_ _)); refine Ar (cs := #[.string t649, .string t650, .int .i64 0]) ?_ 2 _ rfl; (with_reducible repeat (first | refine Ac ?_ _ | refine Ad ?_ | refine Aa ?_ _)); refine Ar (cs := #[.string t649, .string (⟨#[]⟩ : ByteArray), .int .i64 0]) ?_ 1 _ rfl; (with_reducible repeat (first | refine Ac ?_ _ | refine Ad ?_ | refine Aa ?_ _)); refine Ar (cs := #[.string (⟨#[]⟩ : ByteArray), .string (⟨#[]⟩ : ByteArray), .int .i64 0]) ?_ 0 _ rfl; (with_reducible repeat (first | refine Ac ?_ _ | refine Ad ?_ | refine Aa ?_ _)); exact BK654.out⟩, ⟨by repeat (first | (with_reducible first | exact HB.out | apply below_alloc | apply pw_below_drewN | apply below_drew1 | refine below_set ?_ GE631.out | refine below_set ?_ GE642.out | refine below_set ?_ GE648.out | refine below_set ?_ GE654.out) | exact HB.out)⟩⟩
              · rw [if_neg c56] at H
                have c56b0 : ((decide (t652 > 0)) != (t628 == 0)) = false := by simpa using c56
                (try (have c56b1 : decide ((decide (t652 > 0)) = (t628 == 0)) = true := by simpa using c56))
                (try (have c56b2 : ((decide (t652 > 0)) == (t628 == 0)) = true := by simpa using c56))
                clear c56
                (first | rw [c56b0] | (simp only [Cj, C9]; rw [c56b0]) | skip)
                by_cases c57 : t628 = 0
                · rw [if_pos c57] at H
                  have c57g : decide (0 < t652) = true := by have h_ := c56b0; rw [show (t628 == 0) = true from beq_iff_eq.mpr c57] at h_; simpa using h_
                  have c57b0 : (t628 == 0) = true := beq_iff_eq.mpr c57
                  have c57b1 : (t628 != 0) = false := bne_eq_false_iff_eq.mpr c57
                  clear c57
                  have H' := Aside0.mk H
                  clear H
                  have hnb58 := NB654_631.out
                  have hnc58 := NB631_654.out
                  have hnb59 := NB654_642.out
                  have hnc59 := NB642_654.out
                  have hnb60 := NB654_648.out
                  have hnc60 := NB648_654.out
                  have hcz61_0 : w50.cell? ⟨gb654, 0, none⟩ = some (.string (⟨#[]⟩ : ByteArray)) := (Af BK654.out 0).trans rfl
                  have hcz61_1 : w50.cell? ⟨gb654, 1, none⟩ = some (.string (⟨#[]⟩ : ByteArray)) := (Af BK654.out 1).trans rfl
                  have hcz61_2 : w50.cell? ⟨gb654, 2, none⟩ = some (.int .i64 0) := (Af BK654.out 2).trans rfl
                  have hfz61_0 := Ae BK654.out 0
                  have hfz61_1 := Ae BK654.out 1
                  have hfz61_2 := Ae BK654.out 2
                  go_wp2
                  go_meet
                  case rel => exact ⟨_, ((t651 != 1)), (by first | rfl | (simp; done) | (simp [*]; done)), H', ⟨by have := HJ9.out; first | omega | exact Nat.le_refl _⟩, ⟨by (with_reducible repeat (first | refine Ac ?_ _ | refine Ad ?_ | refine Aa ?_ _)); refine Aw ?_ NB631_654.out _; (with_reducible repeat (first | refine Ac ?_ _ | refine Ad ?_ | refine Aa ?_ _)); refine Aw ?_ NB631_654.out _; (with_reducible repeat (first | refine Ac ?_ _ | refine Ad ?_ | refine Aa ?_ _)); refine Aw ?_ NB631_654.out _; (with_reducible repeat (first | refine Ac ?_ _ | refine Ad ?_ | refine Aa ?_ _)); exact BK631.out⟩, ⟨by (with_reducible repeat (first | refine Ac ?_ _ | refine Ad ?_ | refine Aa ?_ _)); refine Aw ?_ NB642_654.out _; (with_reducible repeat (first | refine Ac ?_ _ | refine Ad ?_ | refine Aa ?_ _)); refine Aw ?_ NB642_654.out _; (with_reducible repeat (first | refine Ac ?_ _ | refine Ad ?_ | refine Aa ?_ _)); refine Aw ?_ NB642_654.out _; (with_reducible repeat (first | refine Ac ?_ _ | refine Ad ?_ | refine Aa ?_ _)); exact BK642.out⟩, ⟨by (with_reducible repeat (first | refine Ac ?_ _ | refine Ad ?_ | refine Aa ?_ _)); refine Aw ?_ NB648_654.out _; (with_reducible repeat (first | refine Ac ?_ _ | refine Ad ?_ | refine Aa ?_ _)); refine Aw ?_ NB648_654.out _; (with_reducible repeat (first | refine Ac ?_ _ | refine Ad ?_ | refine Aa ?_ _)); refine Aw ?_ NB648_654.out _; (with_reducible repeat (first | refine Ac ?_ _ | refine Ad ?_ | refine Aa ?_ _)); exact BK648.out⟩, ⟨by (with_reducible repeat (first | refine Ac ?_ _ | refine Ad ?_ | refine Aa ?_ _)); refine Ar (cs := #[.string t649, .string t650, .int .i64 0]) ?_ 2 _ rfl; (with_reducible repeat (first | refine Ac ?_ _ | refine Ad ?_ | refine Aa ?_ _)); refine Ar (cs := #[.string t649, .string (⟨#[]⟩ : ByteArray), .int .i64 0]) ?_ 1 _ rfl; (with_reducible repeat (first | refine Ac ?_ _ | refine Ad ?_ | refine Aa ?_ _)); refine Ar (cs := #[.string (⟨#[]⟩ : ByteArray), .string (⟨#[]⟩ : ByteArray), .int .i64 0]) ?_ 0 _ rfl; (with_reducible repeat (first | refine Ac ?_ _ | refine Ad ?_ | refine Aa ?_ _)); exact BK654.out⟩, ⟨by repeat (first | (with_reducible first | exact HB.out | apply below_alloc | apply pw_below_drewN | apply below_drew1 | refine below_set ?_ GE631.out | refine below_set ?_ GE642.out | refine below_set ?_ GE648.out | refine below_set ?_ GE654.out) | exact HB.out)⟩⟩
                · rw [if_neg c57] at H
                  have c57g : decide (0 < t652) = false := by have h_ := c56b0; rw [show (t628 == 0) = false from beq_eq_false_iff_ne.mpr c57] at h_; simpa using h_
                  have c57b0 : (t628 == 0) = false := beq_eq_false_iff_ne.mpr c57
                  have c57b1 : (t628 != 0) = true := bne_iff_ne.mpr c57
                  have H' := Aside0.mk H
                  clear H
                  go_wp2
                  go_meet
                  case rel => exact ⟨_, (false), (by first | rfl | (simp; done) | (simp [*]; done)), H', ⟨by have := HJ9.out; first | omega | exact Nat.le_refl _⟩, ⟨by (with_reducible repeat (first | refine Ac ?_ _ | refine Ad ?_ | refine Aa ?_ _)); refine Aw ?_ NB631_654.out _; (with_reducible repeat (first | refine Ac ?_ _ | refine Ad ?_ | refine Aa ?_ _)); refine Aw ?_ NB631_654.out _; (with_reducible repeat (first | refine Ac ?_ _ | refine Ad ?_ | refine Aa ?_ _)); refine Aw ?_ NB631_654.out _; (with_reducible repeat (first | refine Ac ?_ _ | refine Ad ?_ | refine Aa ?_ _)); exact BK631.out⟩, ⟨by (with_reducible repeat (first | refine Ac ?_ _ | refine Ad ?_ | refine Aa ?_ _)); refine Aw ?_ NB642_654.out _; (with_reducible repeat (first | refine Ac ?_ _ | refine Ad ?_ | refine Aa ?_ _)); refine Aw ?_ NB642_654.out _; (with_reducible repeat (first | refine Ac ?_ _ | refine Ad ?_ | refine Aa ?_ _)); refine Aw ?_ NB642_654.out _; (with_reducible repeat (first | refine Ac ?_ _ | refine Ad ?_ | refine Aa ?_ _)); exact BK642.out⟩, ⟨by (with_reducible repeat (first | refine Ac ?_ _ | refine Ad ?_ | refine Aa ?_ _)); refine Aw ?_ NB648_654.out _; (with_reducible repeat (first | refine Ac ?_ _ | refine Ad ?_ | refine Aa ?_ _)); refine Aw ?_ NB648_654.out _; (with_reducible repeat (first | refine Ac ?_ _ | refine Ad ?_ | refine Aa ?_ _)); refine Aw ?_ NB648_654.out _; (with_reducible repeat (first | refine Ac ?_ _ | refine Ad ?_ | refine Aa ?_ _)); exact BK648.out⟩, ⟨by (with_reducible repeat (first | refine Ac ?_ _ | refine Ad ?_ | refine Aa ?_ _)); refine Ar (cs := #[.string t649, .string t650, .int .i64 0]) ?_ 2 _ rfl; (with_reducible repeat (first | refine Ac ?_ _ | refine Ad ?_ | refine Aa ?_ _)); refine Ar (cs := #[.string t649, .string (⟨#[]⟩ : ByteArray), .int .i64 0]) ?_ 1 _ rfl; (with_reducible repeat (first | refine Ac ?_ _ | refine Ad ?_ | refine Aa ?_ _)); refine Ar (cs := #[.string (⟨#[]⟩ : ByteArray), .string (⟨#[]⟩ : ByteArray), .int .i64 0]) ?_ 0 _ rfl; (with_reducible repeat (first | refine Ac ?_ _ | refine Ad ?_ | refine Aa ?_ _)); exact BK654.out⟩, ⟨by repeat (first | (with_reducible first | exact HB.out | apply below_alloc | apply pw_below_drewN | apply below_drew1 | refine below_set ?_ GE631.out | refine below_set ?_ GE642.out | refine below_set ?_ GE648.out | refine below_set ?_ GE654.out) | exact HB.out)⟩⟩
            · replace c55 := Bool.eq_false_iff.mpr c55
              subst c55
              have H1 : (Ap.j1 kj9 t632 false t641 false t637 t638 t639) = some r := by rw [if_neg (show ¬ (false = true) by decide)] at H; exact H
              clear H
              have H := H1
              clear H1
              have H' := Aside0.mk H
              clear H
              go_wp2
              go_meet
              case rel => exact ⟨_, (false), (by first | rfl | (simp; done) | (simp [*]; done)), H', ⟨by have := HJ9.out; first | omega | exact Nat.le_refl _⟩, ⟨by (with_reducible repeat (first | refine Ac ?_ _ | refine Ad ?_ | refine Aa ?_ _)); refine Aw ?_ NB631_654.out _; (with_reducible repeat (first | refine Ac ?_ _ | refine Ad ?_ | refine Aa ?_ _)); refine Aw ?_ NB631_654.out _; (with_reducible repeat (first | refine Ac ?_ _ | refine Ad ?_ | refine Aa ?_ _)); refine Aw ?_ NB631_654.out _; (with_reducible repeat (first | refine Ac ?_ _ | refine Ad ?_ | refine Aa ?_ _)); exact BK631.out⟩, ⟨by (with_reducible repeat (first | refine Ac ?_ _ | refine Ad ?_ | refine Aa ?_ _)); refine Aw ?_ NB642_654.out _; (with_reducible repeat (first | refine Ac ?_ _ | refine Ad ?_ | refine Aa ?_ _)); refine Aw ?_ NB642_654.out _; (with_reducible repeat (first | refine Ac ?_ _ | refine Ad ?_ | refine Aa ?_ _)); refine Aw ?_ NB642_654.out _; (with_reducible repeat (first | refine Ac ?_ _ | refine Ad ?_ | refine Aa ?_ _)); exact BK642.out⟩, ⟨by (with_reducible repeat (first | refine Ac ?_ _ | refine Ad ?_ | refine Aa ?_ _)); refine Aw ?_ NB648_654.out _; (with_reducible repeat (first | refine Ac ?_ _ | refine Ad ?_ | refine Aa ?_ _)); refine Aw ?_ NB648_654.out _; (with_reducible repeat (first | refine Ac ?_ _ | refine Ad ?_ | refine Aa ?_ _)); refine Aw ?_ NB648_654.out _; (with_reducible repeat (first | refine Ac ?_ _ | refine Ad ?_ | refine Aa ?_ _)); exact BK648.out⟩, ⟨by (with_reducible repeat (first | refine Ac ?_ _ | refine Ad ?_ | refine Aa ?_ _)); refine Ar (cs := #[.string t649, .string t650, .int .i64 0]) ?_ 2 _ rfl; (with_reducible repeat (first | refine Ac ?_ _ | refine Ad ?_ | refine Aa ?_ _)); refine Ar (cs := #[.string t649, .string (⟨#[]⟩ : ByteArray), .int .i64 0]) ?_ 1 _ rfl; (with_reducible repeat (first | refine Ac ?_ _ | refine Ad ?_ | refine Aa ?_ _)); refine Ar (cs := #[.string (⟨#[]⟩ : ByteArray), .string (⟨#[]⟩ : ByteArray), .int .i64 0]) ?_ 0 _ rfl; (with_reducible repeat (first | refine Ac ?_ _ | refine Ad ?_ | refine Aa ?_ _)); exact BK654.out⟩, ⟨by repeat (first | (with_reducible first | exact HB.out | apply below_alloc | apply pw_below_drewN | apply below_drew1 | refine below_set ?_ GE631.out | refine below_set ?_ GE642.out | refine below_set ?_ GE648.out | refine below_set ?_ GE654.out) | exact HB.out)⟩⟩
          case rest =>
            clear HC48
            try clear c1
            try clear c2
            try clear p2
            try clear c3
            try clear c4
            try clear c5
            try clear c6
            try clear c11
            try clear c14
            try clear c16
            try clear c17
            try clear c18
            try clear c20
            try clear c24
            try clear c25
            try clear c27
            try clear c27b0
            try clear c27b1
            try clear c28
            try clear c28b0
            try clear c28b1
            try clear c28b2
            try clear c29
            try clear c29b0
            try clear c30
            try clear c31
            try clear c33
            try clear c35
            try clear c35b0
            try clear c35b1
            try clear c36
            try clear c37
            try clear c39
            try clear c40
            try clear c41
            try clear c42
            try clear c44
            try clear c46
            try clear c51
            try clear c52
            try clear c53
            try clear c55
            try clear c56
            try clear c56b0
            try clear c56b1
            try clear c56b2
            try clear c57
            try clear c57b0
            try clear c57b1
            try clear c58
            try clear c59
            try clear c60
            try clear hcz13_0
            try clear hcz13_1
            try clear hcz15_0
            try clear hcz15_1
            try clear hcz21_0
            try clear hcz21_1
            try clear hcz21_2
            try clear hcz26_0
            try clear hcz26_1
            try clear hcz26_2
            try clear hcz32_0
            try clear hcz32_1
            try clear hcz32_2
            try clear hcz34_0
            try clear hcz34_1
            try clear hcz34_2
            try clear hcz38_0
            try clear hcz38_1
            try clear hcz38_2
            try clear hcz40_0
            try clear hcz40_1
            try clear hcz40_2
            try clear hcz43_0
            try clear hcz43_1
            try clear hcz43_2
            try clear hcz45_0
            try clear hcz45_1
            try clear hcz45_2
            try clear hcz54_0
            try clear hcz54_1
            try clear hcz54_2
            try clear hcz61_0
            try clear hcz61_1
            try clear hcz61_2
            try clear hfz13_0
            try clear hfz13_1
            try clear hfz15_0
            try clear hfz15_1
            try clear hfz21_0
            try clear hfz21_1
            try clear hfz21_2
            try clear hfz26_0
            try clear hfz26_1
            try clear hfz26_2
            try clear hfz32_0
            try clear hfz32_1
            try clear hfz32_2
            try clear hfz34_0
            try clear hfz34_1
            try clear hfz34_2
            try clear hfz38_0
            try clear hfz38_1
            try clear hfz38_2
            try clear hfz40_0
            try clear hfz40_1
            try clear hfz40_2
            try clear hfz43_0
            try clear hfz43_1
            try clear hfz43_2
            try clear hfz45_0
            try clear hfz45_1
            try clear hfz45_2
            try clear hfz54_0
            try clear hfz54_1
            try clear hfz54_2
            try clear hfz61_0
            try clear hfz61_1
            try clear hfz61_2
            try clear p2
            obtain ⟨kq, x102_47, rfl, HA, HJ47, BK631, BK642, BK648, BK654, HB⟩ := hcut
            cases kq with
            | zero => exact absurd HA.out (by simp [Ap.j1])
            | succ kj47 =>
              have H := HA.out
              clear HA
              simp only [Ap.j1] at H
              by_cases c62 : x102_47 = true
              · subst c62
                have H1 : (some false) = some r := by rw [if_pos rfl] at H; exact H
                clear H
                have H := H1
                clear H1
                exact absurd (Option.some.inj H) (by rw [HR_.out]; decide)
              · replace c62 := Bool.eq_false_iff.mpr c62
                subst c62
                have H1 : ((Eh.f kj47 t637 t638 t639).bind fun bt655 => (if t641 = true then (if bt655.2.2.2 = true then (if (bt655.1.toList == t637.toList && (bt655.2.1.toList == t638.toList && (bt655.2.2.1 == t639))) = true then ((Cm.f kj47 t637 t638 t639).bind fun t660 => (if t660 = true then (if t633 = true then (some true) else (some (t632.toList == ([] : List UInt8)))) else (some false))) else (some false)) else (some false)) else (some true))) = some r := by rw [if_neg (show ¬ (false = true) by decide)] at H; exact H
                clear H
                have H := H1
                clear H1
                replace H := Option.bind_eq_some_iff.mp H
                obtain ⟨⟨t655, t656, t657, t658⟩, A630, H⟩ := H
                replace H : (if t641 = true then (if t658 = true then (if (t655.toList == t637.toList && (t656.toList == t638.toList && (t657 == t639))) = true then ((Cm.f kj47 t637 t638 t639).bind fun t660 => (if t660 = true then (if t633 = true then (some true) else (some (t632.toList == ([] : List UInt8)))) else (some false))) else (some false)) else (some false)) else (some true)) = some r := H
                have A63 := Aside0.mk A630
                clear A630
                by_cases c64 : t641 = true
                · subst c64
                  have H1 : (if t658 = true then (if (t655.toList == t637.toList && (t656.toList == t638.toList && (t657 == t639))) = true then ((Cm.f kj47 t637 t638 t639).bind fun t660 => (if t660 = true then (if t633 = true then (some true) else (some (t632.toList == ([] : List UInt8)))) else (some false))) else (some false)) else (some false)) = some r := by rw [if_pos rfl] at H; exact H
                  clear H
                  have H := H1
                  clear H1
                  by_cases c65 : t658 = true
                  · subst c65
                    have H1 : (if (t655.toList == t637.toList && (t656.toList == t638.toList && (t657 == t639))) = true then ((Cm.f kj47 t637 t638 t639).bind fun t660 => (if t660 = true then (if t633 = true then (some true) else (some (t632.toList == ([] : List UInt8)))) else (some false))) else (some false)) = some r := by rw [if_pos rfl] at H; exact H
                    clear H
                    have H := H1
                    clear H1
                    by_cases c66 : (t655.toList == t637.toList && (t656.toList == t638.toList && (t657 == t639))) = true
                    · rw [if_pos c66] at H
                      have c66b0 : (t655.toList == t637.toList && (t656.toList == t638.toList && (t657 == t639))) = true := c66
                      (try (have c66b1 : decide (t655.toList = t637.toList && (t656.toList == t638.toList && (t657 == t639))) = true := by simpa using c66))
                      (try (have c66b2 : (t655.toList == t637.toList && (t656.toList == t638.toList && (t657 == t639))) = true := by simpa using c66))
                      clear c66
                      replace H := Option.bind_eq_some_iff.mp H
                      obtain ⟨t660, A670, H⟩ := H
                      replace H : (if t660 = true then (if t633 = true then (some true) else (some (t632.toList == ([] : List UInt8)))) else (some false)) = some r := H
                      have A67 := Aside0.mk A670
                      clear A670
                      by_cases c68 : t660 = true
                      · subst c68
                        have H1 : (if t633 = true then (some true) else (some (t632.toList == ([] : List UInt8)))) = some r := by rw [if_pos rfl] at H; exact H
                        clear H
                        have H := H1
                        clear H1
                        by_cases c69 : t633 = true
                        · subst c69
                          have H1 : (some true) = some r := by rw [if_pos rfl] at H; exact H
                          clear H
                          have H := H1
                          clear H1
                          obtain rfl := Option.some.inj H
                          have hnb70 := NB642_631.out
                          have hnc70 := NB631_642.out
                          have hnb71 := NB642_648.out
                          have hnc71 := NB648_642.out
                          have hnb72 := NB642_654.out
                          have hnc72 := NB654_642.out
                          have hcz73_0 : wc.cell? ⟨gb642, 0, none⟩ = some (.string t637) := (Af BK642.out 0).trans rfl
                          have hcz73_1 : wc.cell? ⟨gb642, 1, none⟩ = some (.string t638) := (Af BK642.out 1).trans rfl
                          have hcz73_2 : wc.cell? ⟨gb642, 2, none⟩ = some (.int .i64 t639) := (Af BK642.out 2).trans rfl
                          have hfz73_0 := Ae BK642.out 0
                          have hfz73_1 := Ae BK642.out 1
                          have hfz73_2 := Ae BK642.out 2
                          go_wp2_with (first | ((with_reducible refine Am (f := 27) rfl ?_); refine Au (some 105) rfl rfl Tryd.func27 (by kernel_rfl) rfl #[.agg #[.string t637, .string t638, .int .i64 t639]] rfl (by (try simp only [List.map_toArray, List.map_cons, List.map_nil]); first | done | rfl | (simp only [List.length_drop, List.length_take]; rfl)) ?_; (with_reducible refine (Eh.calls kj47 t637 t638 t639 t655 t656 t657 true _ ?side1 A63.out).mono ?_); (case side1 => exact Ea.below HGL.out (by repeat (first | (with_reducible first | exact HB.out | apply below_alloc | apply pw_below_drewN | apply below_drew1 | refine below_set ?_ GE631.out | refine below_set ?_ GE642.out | refine below_set ?_ GE648.out | refine below_set ?_ GE654.out) | exact HB.out))); rintro e w74 ⟨rfl, hb⟩; refine ⟨_, rfl, ?_⟩; have n0_ := Aside0.mk (Ak (g := gb631) (o := .cells #[.string t629, .string t630] 27 (0, 0)) (by (with_reducible repeat (first | refine Ac ?_ _ | refine Ad ?_ | refine Aa ?_ _)); exact BK631.out) hb); have n1_ := Aside0.mk (Ak (g := gb642) (o := .cells #[.string t637, .string t638, .int .i64 t639] 31 (0, 0)) (by (with_reducible repeat (first | refine Ac ?_ _ | refine Ad ?_ | refine Aa ?_ _)); exact BK642.out) hb); have n2_ := Aside0.mk (Ak (g := gb648) (o := .cells #[.string t643, .string t644, .int .i64 t645] 31 (0, 0)) (by (with_reducible repeat (first | refine Ac ?_ _ | refine Ad ?_ | refine Aa ?_ _)); exact BK648.out) hb); have n3_ := Aside0.mk (Ak (g := gb654) (o := .cells #[.string t649, .string t650, .int .i64 t651] 31 (0, 0)) (by (with_reducible repeat (first | refine Ac ?_ _ | refine Ad ?_ | refine Aa ?_ _)); exact BK654.out) hb); have n4_ := Aside0.mk (Ag (by repeat (first | (with_reducible first | exact HB.out | apply below_alloc | apply pw_below_drewN | apply below_drew1 | refine below_set ?_ GE631.out | refine below_set ?_ GE642.out | refine below_set ?_ GE648.out | refine below_set ?_ GE654.out) | exact HB.out)) hb); clear BK631; clear BK642; clear BK648; clear BK654; clear HB; have BK631 := n0_; have BK642 := n1_; have BK648 := n2_; have BK654 := n3_; have HB := n4_; clear n0_ n1_ n2_ n3_ n4_; (try clear hb); (try clear hb2); (try clear hk); (try clear hi)) | ((with_reducible refine Az (N := 19) rfl ?_); refine Ba ?hg (N := 19) ?hd (cs := #[.string (⟨#[]⟩ : ByteArray), .string (⟨#[]⟩ : ByteArray), .int .i64 0]) (t := 31) ?hr ?_; (case hd => rfl); (case hg => rfl); (case hr => first | (go_simp; done) | (go_simp; rfl)); intro gb659 hg w75 hbox hb; have n0_ := Aside0.mk (Ak (g := gb631) (o := .cells #[.string t629, .string t630] 27 (0, 0)) (by (with_reducible repeat (first | refine Ac ?_ _ | refine Ad ?_ | refine Aa ?_ _)); exact BK631.out) hb); have n1_ := Aside0.mk (Ak (g := gb642) (o := .cells #[.string t637, .string t638, .int .i64 t639] 31 (0, 0)) (by (with_reducible repeat (first | refine Ac ?_ _ | refine Ad ?_ | refine Aa ?_ _)); exact BK642.out) hb); have n2_ := Aside0.mk (Ak (g := gb648) (o := .cells #[.string t643, .string t644, .int .i64 t645] 31 (0, 0)) (by (with_reducible repeat (first | refine Ac ?_ _ | refine Ad ?_ | refine Aa ?_ _)); exact BK648.out) hb); have n3_ := Aside0.mk (Ak (g := gb654) (o := .cells #[.string t649, .string t650, .int .i64 t651] 31 (0, 0)) (by (with_reducible repeat (first | refine Ac ?_ _ | refine Ad ?_ | refine Aa ?_ _)); exact BK654.out) hb); have n4_ := Aside0.mk (Ag (by repeat (first | (with_reducible first | exact HB.out | apply below_alloc | apply pw_below_drewN | apply below_drew1 | refine below_set ?_ GE631.out | refine below_set ?_ GE642.out | refine below_set ?_ GE648.out | refine below_set ?_ GE654.out) | exact HB.out)) hb); have n5_ := Aside0.mk (hbox); have n6_ := Aside0.mk ((by rw [hg]; exact (Ah (by repeat (first | (with_reducible first | exact HB.out | apply below_alloc | apply pw_below_drewN | apply below_drew1 | refine below_set ?_ GE631.out | refine below_set ?_ GE642.out | refine below_set ?_ GE648.out | refine below_set ?_ GE654.out) | exact HB.out))) : w.heap.size ≤ gb659)); have n7_ := Aside0.mk ((by rw [hg]; exact (Ah (by repeat (first | (with_reducible first | exact HB.out | apply below_alloc | apply pw_below_drewN | apply below_drew1 | refine below_set ?_ GE631.out | refine below_set ?_ GE642.out | refine below_set ?_ GE648.out | refine below_set ?_ GE654.out) | exact HB.out))) : w.heap.size ≤ gb659)); have n8_ := Aside0.mk ((by rw [hg]; exact Nat.ne_of_lt (Cf (g := gb631) (o := .cells #[.string t629, .string t630] 27 (0, 0)) (by (with_reducible repeat (first | refine Ac ?_ _ | refine Ad ?_ | refine Aa ?_ _)); exact BK631.out)) : gb631 ≠ gb659)); have n9_ := Aside0.mk ((by rw [hg]; exact Nat.ne_of_gt (Cf (g := gb631) (o := .cells #[.string t629, .string t630] 27 (0, 0)) (by (with_reducible repeat (first | refine Ac ?_ _ | refine Ad ?_ | refine Aa ?_ _)); exact BK631.out)) : gb659 ≠ gb631)); have n10_ := Aside0.mk ((by rw [hg]; exact Nat.ne_of_lt (Cf (g := gb642) (o := .cells #[.string t637, .string t638, .int .i64 t639] 31 (0, 0)) (by (with_reducible repeat (first | refine Ac ?_ _ | refine Ad ?_ | refine Aa ?_ _)); exact BK642.out)) : gb642 ≠ gb659)); have n11_ := Aside0.mk ((by rw [hg]; exact Nat.ne_of_gt (Cf (g := gb642) (o := .cells #[.string t637, .string t638, .int .i64 t639] 31 (0, 0)) (by (with_reducible repeat (first | refine Ac ?_ _ | refine Ad ?_ | refine Aa ?_ _)); exact BK642.out)) : gb659 ≠ gb642)); have n12_ := Aside0.mk ((by rw [hg]; exact Nat.ne_of_lt (Cf (g := gb648) (o := .cells #[.string t643, .string t644, .int .i64 t645] 31 (0, 0)) (by (with_reducible repeat (first | refine Ac ?_ _ | refine Ad ?_ | refine Aa ?_ _)); exact BK648.out)) : gb648 ≠ gb659)); have n13_ := Aside0.mk ((by rw [hg]; exact Nat.ne_of_gt (Cf (g := gb648) (o := .cells #[.string t643, .string t644, .int .i64 t645] 31 (0, 0)) (by (with_reducible repeat (first | refine Ac ?_ _ | refine Ad ?_ | refine Aa ?_ _)); exact BK648.out)) : gb659 ≠ gb648)); have n14_ := Aside0.mk ((by rw [hg]; exact Nat.ne_of_lt (Cf (g := gb654) (o := .cells #[.string t649, .string t650, .int .i64 t651] 31 (0, 0)) (by (with_reducible repeat (first | refine Ac ?_ _ | refine Ad ?_ | refine Aa ?_ _)); exact BK654.out)) : gb654 ≠ gb659)); have n15_ := Aside0.mk ((by rw [hg]; exact Nat.ne_of_gt (Cf (g := gb654) (o := .cells #[.string t649, .string t650, .int .i64 t651] 31 (0, 0)) (by (with_reducible repeat (first | refine Ac ?_ _ | refine Ad ?_ | refine Aa ?_ _)); exact BK654.out)) : gb659 ≠ gb654)); clear BK631; clear BK642; clear BK648; clear BK654; clear HB; have BK631 := n0_; have BK642 := n1_; have BK648 := n2_; have BK654 := n3_; have HB := n4_; have BK659 := n5_; have GW659 := n6_; have GE659 := n7_; have NB631_659 := n8_; have NB659_631 := n9_; have NB642_659 := n10_; have NB659_642 := n11_; have NB648_659 := n12_; have NB659_648 := n13_; have NB654_659 := n14_; have NB659_654 := n15_; clear n0_ n1_ n2_ n3_ n4_ n5_ n6_ n7_ n8_ n9_ n10_ n11_ n12_ n13_ n14_ n15_; clear hb hbox hg; have hnb76 := NB659_631.out; have hnc76 := NB631_659.out; have hnb77 := NB659_642.out; have hnc77 := NB642_659.out; have hnb78 := NB659_648.out; have hnc78 := NB648_659.out; have hnb79 := NB659_654.out; have hnc79 := NB654_659.out; have hcz80_0 : w75.cell? ⟨gb659, 0, none⟩ = some (.string (⟨#[]⟩ : ByteArray)) := (Af BK659.out 0).trans rfl; have hcz80_1 : w75.cell? ⟨gb659, 1, none⟩ = some (.string (⟨#[]⟩ : ByteArray)) := (Af BK659.out 1).trans rfl; have hcz80_2 : w75.cell? ⟨gb659, 2, none⟩ = some (.int .i64 0) := (Af BK659.out 2).trans rfl; have hfz80_0 := Ae BK659.out 0; have hfz80_1 := Ae BK659.out 1; have hfz80_2 := Ae BK659.out 2; have hcz81_0 : w75.cell? ⟨gb642, 0, none⟩ = some (.string t637) := (Af BK642.out 0).trans rfl; have hcz81_1 : w75.cell? ⟨gb642, 1, none⟩ = some (.string t638) := (Af BK642.out 1).trans rfl; have hcz81_2 : w75.cell? ⟨gb642, 2, none⟩ = some (.int .i64 t639) := (Af BK642.out 2).trans rfl; have hfz81_0 := Ae BK642.out 0; have hfz81_1 := Ae BK642.out 1; have hfz81_2 := Ae BK642.out 2) | (go_at_call 23; (with_reducible refine (Cm.calls kj47 t637 t638 t639 true _ ?side1 A67.out).mono ?_); (case side1 => exact Ea.below HGL.out (by repeat (first | (with_reducible first | exact HB.out | apply below_alloc | apply pw_below_drewN | apply below_drew1 | refine below_set ?_ GE631.out | refine below_set ?_ GE642.out | refine below_set ?_ GE648.out | refine below_set ?_ GE654.out | refine below_set ?_ GE659.out) | exact HB.out))); rintro e w82 ⟨rfl, hb⟩; have n0_ := Aside0.mk (Ak (g := gb631) (o := .cells #[.string t629, .string t630] 27 (0, 0)) (by (with_reducible repeat (first | refine Ac ?_ _ | refine Ad ?_ | refine Aa ?_ _)); refine Aw ?_ NB631_659.out _; (with_reducible repeat (first | refine Ac ?_ _ | refine Ad ?_ | refine Aa ?_ _)); refine Aw ?_ NB631_659.out _; (with_reducible repeat (first | refine Ac ?_ _ | refine Ad ?_ | refine Aa ?_ _)); refine Aw ?_ NB631_659.out _; (with_reducible repeat (first | refine Ac ?_ _ | refine Ad ?_ | refine Aa ?_ _)); exact BK631.out) hb); have n1_ := Aside0.mk (Ak (g := gb642) (o := .cells #[.string t637, .string t638, .int .i64 t639] 31 (0, 0)) (by (with_reducible repeat (first | refine Ac ?_ _ | refine Ad ?_ | refine Aa ?_ _)); refine Aw ?_ NB642_659.out _; (with_reducible repeat (first | refine Ac ?_ _ | refine Ad ?_ | refine Aa ?_ _)); refine Aw ?_ NB642_659.out _; (with_reducible repeat (first | refine Ac ?_ _ | refine Ad ?_ | refine Aa ?_ _)); refine Aw ?_ NB642_659.out _; (with_reducible repeat (first | refine Ac ?_ _ | refine Ad ?_ | refine Aa ?_ _)); exact BK642.out) hb); have n2_ := Aside0.mk (Ak (g := gb648) (o := .cells #[.string t643, .string t644, .int .i64 t645] 31 (0, 0)) (by (with_reducible repeat (first | refine Ac ?_ _ | refine Ad ?_ | refine Aa ?_ _)); refine Aw ?_ NB648_659.out _; (with_reducible repeat (first | refine Ac ?_ _ | refine Ad ?_ | refine Aa ?_ _)); refine Aw ?_ NB648_659.out _; (with_reducible repeat (first | refine Ac ?_ _ | refine Ad ?_ | refine Aa ?_ _)); refine Aw ?_ NB648_659.out _; (with_reducible repeat (first | refine Ac ?_ _ | refine Ad ?_ | refine Aa ?_ _)); exact BK648.out) hb); have n3_ := Aside0.mk (Ak (g := gb654) (o := .cells #[.string t649, .string t650, .int .i64 t651] 31 (0, 0)) (by (with_reducible repeat (first | refine Ac ?_ _ | refine Ad ?_ | refine Aa ?_ _)); refine Aw ?_ NB654_659.out _; (with_reducible repeat (first | refine Ac ?_ _ | refine Ad ?_ | refine Aa ?_ _)); refine Aw ?_ NB654_659.out _; (with_reducible repeat (first | refine Ac ?_ _ | refine Ad ?_ | refine Aa ?_ _)); refine Aw ?_ NB654_659.out _; (with_reducible repeat (first | refine Ac ?_ _ | refine Ad ?_ | refine Aa ?_ _)); exact BK654.out) hb); have n4_ := Aside0.mk (Ak (g := gb659) (o := .cells #[.string t655, .string t656, .int .i64 t657] 31 (0, 0)) (by (with_reducible repeat (first | refine Ac ?_ _ | refine Ad ?_ | refine Aa ?_ _)); refine Ar (cs := #[.string t655, .string t656, .int .i64 0]) ?_ 2 _ rfl; (with_reducible repeat (first | refine Ac ?_ _ | refine Ad ?_ | refine Aa ?_ _)); refine Ar (cs := #[.string t655, .string (⟨#[]⟩ : ByteArray), .int .i64 0]) ?_ 1 _ rfl; (with_reducible repeat (first | refine Ac ?_ _ | refine Ad ?_ | refine Aa ?_ _)); refine Ar (cs := #[.string (⟨#[]⟩ : ByteArray), .string (⟨#[]⟩ : ByteArray), .int .i64 0]) ?_ 0 _ rfl; (with_reducible repeat (first | refine Ac ?_ _ | refine Ad ?_ | refine Aa ?_ _)); exact BK659.out) hb); have n5_ := Aside0.mk (Ag (by repeat (first | (with_reducible first | exact HB.out | apply below_alloc | apply pw_below_drewN | apply below_drew1 | refine below_set ?_ GE631.out | refine below_set ?_ GE642.out | refine below_set ?_ GE648.out | refine below_set ?_ GE654.out | refine below_set ?_ GE659.out) | exact HB.out)) hb); clear BK631; clear BK642; clear BK648; clear BK654; clear BK659; clear HB; have BK631 := n0_; have BK642 := n1_; have BK648 := n2_; have BK654 := n3_; have BK659 := n4_; have HB := n5_; clear n0_ n1_ n2_ n3_ n4_ n5_; (try clear hb); (try clear hb2); (try clear hk); (try clear hi)))
                          go_ret
                          exact ⟨by first | rfl | (simp [Aj, Ai] <;> rfl) | (simp [*, Aj, Ai] <;> rfl), by repeat (first | (with_reducible first | exact HB.out | apply below_alloc | apply pw_below_drewN | apply below_drew1 | refine below_set ?_ GE631.out | refine below_set ?_ GE642.out | refine below_set ?_ GE648.out | refine below_set ?_ GE654.out | refine below_set ?_ GE659.out) | exact HB.out)⟩
                        · replace c69 := Bool.eq_false_iff.mpr c69
                          subst c69
                          have H1 : (some (t632.toList == ([] : List UInt8))) = some r := by rw [if_neg (show ¬ (false = true) by decide)] at H; exact H
                          clear H
                          have H := H1
                          clear H1
                          obtain rfl := Option.some.inj H
                          have hnb83 := NB642_631.out
                          have hnc83 := NB631_642.out
                          have hnb84 := NB642_648.out
                          have hnc84 := NB648_642.out
                          have hnb85 := NB642_654.out
                          have hnc85 := NB654_642.out
                          have hcz86_0 : wc.cell? ⟨gb642, 0, none⟩ = some (.string t637) := (Af BK642.out 0).trans rfl
                          have hcz86_1 : wc.cell? ⟨gb642, 1, none⟩ = some (.string t638) := (Af BK642.out 1).trans rfl
                          have hcz86_2 : wc.cell? ⟨gb642, 2, none⟩ = some (.int .i64 t639) := (Af BK642.out 2).trans rfl
                          have hfz86_0 := Ae BK642.out 0
                          have hfz86_1 := Ae BK642.out 1
                          have hfz86_2 := Ae BK642.out 2
                          go_wp2_with (first | ((with_reducible refine Am (f := 27) rfl ?_); refine Au (some 105) rfl rfl Tryd.func27 (by kernel_rfl) rfl #[.agg #[.string t637, .string t638, .int .i64 t639]] rfl (by (try simp only [List.map_toArray, List.map_cons, List.map_nil]); first | done | rfl | (simp only [List.length_drop, List.length_take]; rfl)) ?_; (with_reducible refine (Eh.calls kj47 t637 t638 t639 t655 t656 t657 true _ ?side1 A63.out).mono ?_); (case side1 => exact Ea.below HGL.out (by repeat (first | (with_reducible first | exact HB.out | apply below_alloc | apply pw_below_drewN | apply below_drew1 | refine below_set ?_ GE631.out | refine below_set ?_ GE642.out | refine below_set ?_ GE648.out | refine below_set ?_ GE654.out) | exact HB.out))); rintro e w87 ⟨rfl, hb⟩; refine ⟨_, rfl, ?_⟩; have n0_ := Aside0.mk (Ak (g := gb631) (o := .cells #[.string t629, .string t630] 27 (0, 0)) (by (with_reducible repeat (first | refine Ac ?_ _ | refine Ad ?_ | refine Aa ?_ _)); exact BK631.out) hb); have n1_ := Aside0.mk (Ak (g := gb642) (o := .cells #[.string t637, .string t638, .int .i64 t639] 31 (0, 0)) (by (with_reducible repeat (first | refine Ac ?_ _ | refine Ad ?_ | refine Aa ?_ _)); exact BK642.out) hb); have n2_ := Aside0.mk (Ak (g := gb648) (o := .cells #[.string t643, .string t644, .int .i64 t645] 31 (0, 0)) (by (with_reducible repeat (first | refine Ac ?_ _ | refine Ad ?_ | refine Aa ?_ _)); exact BK648.out) hb); have n3_ := Aside0.mk (Ak (g := gb654) (o := .cells #[.string t649, .string t650, .int .i64 t651] 31 (0, 0)) (by (with_reducible repeat (first | refine Ac ?_ _ | refine Ad ?_ | refine Aa ?_ _)); exact BK654.out) hb); have n4_ := Aside0.mk (Ag (by repeat (first | (with_reducible first | exact HB.out | apply below_alloc | apply pw_below_drewN | apply below_drew1 | refine below_set ?_ GE631.out | refine below_set ?_ GE642.out | refine below_set ?_ GE648.out | refine below_set ?_ GE654.out) | exact HB.out)) hb); clear BK631; clear BK642; clear BK648; clear BK654; clear HB; have BK631 := n0_; have BK642 := n1_; have BK648 := n2_; have BK654 := n3_; have HB := n4_; clear n0_ n1_ n2_ n3_ n4_; (try clear hb); (try clear hb2); (try clear hk); (try clear hi)) | ((with_reducible refine Az (N := 19) rfl ?_); refine Ba ?hg (N := 19) ?hd (cs := #[.string (⟨#[]⟩ : ByteArray), .string (⟨#[]⟩ : ByteArray), .int .i64 0]) (t := 31) ?hr ?_; (case hd => rfl); (case hg => rfl); (case hr => first | (go_simp; done) | (go_simp; rfl)); intro gb659 hg w88 hbox hb; have n0_ := Aside0.mk (Ak (g := gb631) (o := .cells #[.string t629, .string t630] 27 (0, 0)) (by (with_reducible repeat (first | refine Ac ?_ _ | refine Ad ?_ | refine Aa ?_ _)); exact BK631.out) hb); have n1_ := Aside0.mk (Ak (g := gb642) (o := .cells #[.string t637, .string t638, .int .i64 t639] 31 (0, 0)) (by (with_reducible repeat (first | refine Ac ?_ _ | refine Ad ?_ | refine Aa ?_ _)); exact BK642.out) hb); have n2_ := Aside0.mk (Ak (g := gb648) (o := .cells #[.string t643, .string t644, .int .i64 t645] 31 (0, 0)) (by (with_reducible repeat (first | refine Ac ?_ _ | refine Ad ?_ | refine Aa ?_ _)); exact BK648.out) hb); have n3_ := Aside0.mk (Ak (g := gb654) (o := .cells #[.string t649, .string t650, .int .i64 t651] 31 (0, 0)) (by (with_reducible repeat (first | refine Ac ?_ _ | refine Ad ?_ | refine Aa ?_ _)); exact BK654.out) hb); have n4_ := Aside0.mk (Ag (by repeat (first | (with_reducible first | exact HB.out | apply below_alloc | apply pw_below_drewN | apply below_drew1 | refine below_set ?_ GE631.out | refine below_set ?_ GE642.out | refine below_set ?_ GE648.out | refine below_set ?_ GE654.out) | exact HB.out)) hb); have n5_ := Aside0.mk (hbox); have n6_ := Aside0.mk ((by rw [hg]; exact (Ah (by repeat (first | (with_reducible first | exact HB.out | apply below_alloc | apply pw_below_drewN | apply below_drew1 | refine below_set ?_ GE631.out | refine below_set ?_ GE642.out | refine below_set ?_ GE648.out | refine below_set ?_ GE654.out) | exact HB.out))) : w.heap.size ≤ gb659)); have n7_ := Aside0.mk ((by rw [hg]; exact (Ah (by repeat (first | (with_reducible first | exact HB.out | apply below_alloc | apply pw_below_drewN | apply below_drew1 | refine below_set ?_ GE631.out | refine below_set ?_ GE642.out | refine below_set ?_ GE648.out | refine below_set ?_ GE654.out) | exact HB.out))) : w.heap.size ≤ gb659)); have n8_ := Aside0.mk ((by rw [hg]; exact Nat.ne_of_lt (Cf (g := gb631) (o := .cells #[.string t629, .string t630] 27 (0, 0)) (by (with_reducible repeat (first | refine Ac ?_ _ | refine Ad ?_ | refine Aa ?_ _)); exact BK631.out)) : gb631 ≠ gb659)); have n9_ := Aside0.mk ((by rw [hg]; exact Nat.ne_of_gt (Cf (g := gb631) (o := .cells #[.string t629, .string t630] 27 (0, 0)) (by (with_reducible repeat (first | refine Ac ?_ _ | refine Ad ?_ | refine Aa ?_ _)); exact BK631.out)) : gb659 ≠ gb631)); have n10_ := Aside0.mk ((by rw [hg]; exact Nat.ne_of_lt (Cf (g := gb642) (o := .cells #[.string t637, .string t638, .int .i64 t639] 31 (0, 0)) (by (with_reducible repeat (first | refine Ac ?_ _ | refine Ad ?_ | refine Aa ?_ _)); exact BK642.out)) : gb642 ≠ gb659)); have n11_ := Aside0.mk ((by rw [hg]; exact Nat.ne_of_gt (Cf (g := gb642) (o := .cells #[.string t637, .string t638, .int .i64 t639] 31 (0, 0)) (by (with_reducible repeat (first | refine Ac ?_ _ | refine Ad ?_ | refine Aa ?_ _)); exact BK642.out)) : gb659 ≠ gb642)); have n12_ := Aside0.mk ((by rw [hg]; exact Nat.ne_of_lt (Cf (g := gb648) (o := .cells #[.string t643, .string t644, .int .i64 t645] 31 (0, 0)) (by (with_reducible repeat (first | refine Ac ?_ _ | refine Ad ?_ | refine Aa ?_ _)); exact BK648.out)) : gb648 ≠ gb659)); have n13_ := Aside0.mk ((by rw [hg]; exact Nat.ne_of_gt (Cf (g := gb648) (o := .cells #[.string t643, .string t644, .int .i64 t645] 31 (0, 0)) (by (with_reducible repeat (first | refine Ac ?_ _ | refine Ad ?_ | refine Aa ?_ _)); exact BK648.out)) : gb659 ≠ gb648)); have n14_ := Aside0.mk ((by rw [hg]; exact Nat.ne_of_lt (Cf (g := gb654) (o := .cells #[.string t649, .string t650, .int .i64 t651] 31 (0, 0)) (by (with_reducible repeat (first | refine Ac ?_ _ | refine Ad ?_ | refine Aa ?_ _)); exact BK654.out)) : gb654 ≠ gb659)); have n15_ := Aside0.mk ((by rw [hg]; exact Nat.ne_of_gt (Cf (g := gb654) (o := .cells #[.string t649, .string t650, .int .i64 t651] 31 (0, 0)) (by (with_reducible repeat (first | refine Ac ?_ _ | refine Ad ?_ | refine Aa ?_ _)); exact BK654.out)) : gb659 ≠ gb654)); clear BK631; clear BK642; clear BK648; clear BK654; clear HB; have BK631 := n0_; have BK642 := n1_; have BK648 := n2_; have BK654 := n3_; have HB := n4_; have BK659 := n5_; have GW659 := n6_; have GE659 := n7_; have NB631_659 := n8_; have NB659_631 := n9_; have NB642_659 := n10_; have NB659_642 := n11_; have NB648_659 := n12_; have NB659_648 := n13_; have NB654_659 := n14_; have NB659_654 := n15_; clear n0_ n1_ n2_ n3_ n4_ n5_ n6_ n7_ n8_ n9_ n10_ n11_ n12_ n13_ n14_ n15_; clear hb hbox hg; have hnb89 := NB659_631.out; have hnc89 := NB631_659.out; have hnb90 := NB659_642.out; have hnc90 := NB642_659.out; have hnb91 := NB659_648.out; have hnc91 := NB648_659.out; have hnb92 := NB659_654.out; have hnc92 := NB654_659.out; have hcz93_0 : w88.cell? ⟨gb659, 0, none⟩ = some (.string (⟨#[]⟩ : ByteArray)) := (Af BK659.out 0).trans rfl; have hcz93_1 : w88.cell? ⟨gb659, 1, none⟩ = some (.string (⟨#[]⟩ : ByteArray)) := (Af BK659.out 1).trans rfl; have hcz93_2 : w88.cell? ⟨gb659, 2, none⟩ = some (.int .i64 0) := (Af BK659.out 2).trans rfl; have hfz93_0 := Ae BK659.out 0; have hfz93_1 := Ae BK659.out 1; have hfz93_2 := Ae BK659.out 2; have hcz94_0 : w88.cell? ⟨gb642, 0, none⟩ = some (.string t637) := (Af BK642.out 0).trans rfl; have hcz94_1 : w88.cell? ⟨gb642, 1, none⟩ = some (.string t638) := (Af BK642.out 1).trans rfl; have hcz94_2 : w88.cell? ⟨gb642, 2, none⟩ = some (.int .i64 t639) := (Af BK642.out 2).trans rfl; have hfz94_0 := Ae BK642.out 0; have hfz94_1 := Ae BK642.out 1; have hfz94_2 := Ae BK642.out 2) | (go_at_call 23; (with_reducible refine (Cm.calls kj47 t637 t638 t639 true _ ?side1 A67.out).mono ?_); (case side1 => exact Ea.below HGL.out (by repeat (first | (with_reducible first | exact HB.out | apply below_alloc | apply pw_below_drewN | apply below_drew1 | refine below_set ?_ GE631.out | refine below_set ?_ GE642.out | refine below_set ?_ GE648.out | refine below_set ?_ GE654.out | refine below_set ?_ GE659.out) | exact HB.out))); rintro e w95 ⟨rfl, hb⟩; have n0_ := Aside0.mk (Ak (g := gb631) (o := .cells #[.string t629, .string t630] 27 (0, 0)) (by (with_reducible repeat (first | refine Ac ?_ _ | refine Ad ?_ | refine Aa ?_ _)); refine Aw ?_ NB631_659.out _; (with_reducible repeat (first | refine Ac ?_ _ | refine Ad ?_ | refine Aa ?_ _)); refine Aw ?_ NB631_659.out _; (with_reducible repeat (first | refine Ac ?_ _ | refine Ad ?_ | refine Aa ?_ _)); refine Aw ?_ NB631_659.out _; (with_reducible repeat (first | refine Ac ?_ _ | refine Ad ?_ | refine Aa ?_ _)); exact BK631.out) hb); have n1_ := Aside0.mk (Ak (g := gb642) (o := .cells #[.string t637, .string t638, .int .i64 t639] 31 (0, 0)) (by (with_reducible repeat (first | refine Ac ?_ _ | refine Ad ?_ | refine Aa ?_ _)); refine Aw ?_ NB642_659.out _; (with_reducible repeat (first | refine Ac ?_ _ | refine Ad ?_ | refine Aa ?_ _)); refine Aw ?_ NB642_659.out _; (with_reducible repeat (first | refine Ac ?_ _ | refine Ad ?_ | refine Aa ?_ _)); refine Aw ?_ NB642_659.out _; (with_reducible repeat (first | refine Ac ?_ _ | refine Ad ?_ | refine Aa ?_ _)); exact BK642.out) hb); have n2_ := Aside0.mk (Ak (g := gb648) (o := .cells #[.string t643, .string t644, .int .i64 t645] 31 (0, 0)) (by (with_reducible repeat (first | refine Ac ?_ _ | refine Ad ?_ | refine Aa ?_ _)); refine Aw ?_ NB648_659.out _; (with_reducible repeat (first | refine Ac ?_ _ | refine Ad ?_ | refine Aa ?_ _)); refine Aw ?_ NB648_659.out _; (with_reducible repeat (first | refine Ac ?_ _ | refine Ad ?_ | refine Aa ?_ _)); refine Aw ?_ NB648_659.out _; (with_reducible repeat (first | refine Ac ?_ _ | refine Ad ?_ | refine Aa ?_ _)); exact BK648.out) hb); have n3_ := Aside0.mk (Ak (g := gb654) (o := .cells #[.string t649, .string t650, .int .i64 t651] 31 (0, 0)) (by (with_reducible repeat (first | refine Ac ?_ _ | refine Ad ?_ | refine Aa ?_ _)); refine Aw ?_ NB654_659.out _; (with_reducible repeat (first | refine Ac ?_ _ | refine Ad ?_ | refine Aa ?_ _)); refine Aw ?_ NB654_659.out _; (with_reducible repeat (first | refine Ac ?_ _ | refine Ad ?_ | refine Aa ?_ _)); refine Aw ?_ NB654_659.out _; (with_reducible repeat (first | refine Ac ?_ _ | refine Ad ?_ | refine Aa ?_ _)); exact BK654.out) hb); have n4_ := Aside0.mk (Ak (g := gb659) (o := .cells #[.string t655, .string t656, .int .i64 t657] 31 (0, 0)) (by (with_reducible repeat (first | refine Ac ?_ _ | refine Ad ?_ | refine Aa ?_ _)); refine Ar (cs := #[.string t655, .string t656, .int .i64 0]) ?_ 2 _ rfl; (with_reducible repeat (first | refine Ac ?_ _ | refine Ad ?_ | refine Aa ?_ _)); refine Ar (cs := #[.string t655, .string (⟨#[]⟩ : ByteArray), .int .i64 0]) ?_ 1 _ rfl; (with_reducible repeat (first | refine Ac ?_ _ | refine Ad ?_ | refine Aa ?_ _)); refine Ar (cs := #[.string (⟨#[]⟩ : ByteArray), .string (⟨#[]⟩ : ByteArray), .int .i64 0]) ?_ 0 _ rfl; (with_reducible repeat (first | refine Ac ?_ _ | refine Ad ?_ | refine Aa ?_ _)); exact BK659.out) hb); have n5_ := Aside0.mk (Ag (by repeat (first | (with_reducible first | exact HB.out | apply below_alloc | apply pw_below_drewN | apply below_drew1 | refine below_set ?_ GE631.out | refine below_set ?_ GE642.out | refine below_set ?_ GE648.out | refine below_set ?_ GE654.out | refine below_set ?_ GE659.out) | exact HB.out)) hb); clear BK631; clear BK642; clear BK648; clear BK654; clear BK659; clear HB; have BK631 := n0_; have BK642 := n1_; have BK648 := n2_; have BK654 := n3_; have BK659 := n4_; have HB := n5_; clear n0_ n1_ n2_ n3_ n4_ n5_; (try clear hb); (try clear hb2); (try clear hk); (try clear hi)))
                          go_ret
                          exact ⟨by first | rfl | (simp [Aj, Ai] <;> rfl) | (simp [*, Aj, Ai] <;> rfl), by repeat (first | (with_reducible first | exact HB.out | apply below_alloc | apply pw_below_drewN | apply below_drew1 | refine below_set ?_ GE631.out | refine below_set ?_ GE642.out | refine below_set ?_ GE648.out | refine below_set ?_ GE654.out | refine below_set ?_ GE659.out) | exact HB.out)⟩
                      · replace c68 := Bool.eq_false_iff.mpr c68
                        subst c68
                        have H1 : (some false) = some r := by rw [if_neg (show ¬ (false = true) by decide)] at H; exact H
                        clear H
                        have H := H1
                        clear H1
                        exact absurd (Option.some.inj H) (by rw [HR_.out]; decide)
                    · rw [if_neg c66] at H
                      have c66b0 : (t655.toList == t637.toList && (t656.toList == t638.toList && (t657 == t639))) = false := by simpa using c66
                      (try (have c66b1 : decide (t655.toList = t637.toList && (t656.toList == t638.toList && (t657 == t639))) = false := by simpa using c66))
                      (try (have c66b2 : (t655.toList == t637.toList && (t656.toList == t638.toList && (t657 == t639))) = false := by simpa using c66))
                      (try (have c66b3 : ¬ (t655.toList = t637.toList && (t656.toList == t638.toList && (t657 == t639))) := by simpa using c66))
                      clear c66
                      exact absurd (Option.some.inj H) (by rw [HR_.out]; decide)
                  · replace c65 := Bool.eq_false_iff.mpr c65
                    subst c65
                    have H1 : (some false) = some r := by rw [if_neg (show ¬ (false = true) by decide)] at H; exact H
                    clear H
                    have H := H1
                    clear H1
                    exact absurd (Option.some.inj H) (by rw [HR_.out]; decide)
                · replace c64 := Bool.eq_false_iff.mpr c64
                  subst c64
                  have H1 : (some true) = some r := by rw [if_neg (show ¬ (false = true) by decide)] at H; exact H
                  clear H
                  have H := H1
                  clear H1
                  obtain rfl := Option.some.inj H
                  have hnb132 := NB642_631.out
                  have hnc132 := NB631_642.out
                  have hnb133 := NB642_648.out
                  have hnc133 := NB648_642.out
                  have hnb134 := NB642_654.out
                  have hnc134 := NB654_642.out
                  have hcz135_0 : wc.cell? ⟨gb642, 0, none⟩ = some (.string t637) := (Af BK642.out 0).trans rfl
                  have hcz135_1 : wc.cell? ⟨gb642, 1, none⟩ = some (.string t638) := (Af BK642.out 1).trans rfl
                  have hcz135_2 : wc.cell? ⟨gb642, 2, none⟩ = some (.int .i64 t639) := (Af BK642.out 2).trans rfl
                  have hfz135_0 := Ae BK642.out 0
                  have hfz135_1 := Ae BK642.out 1
                  have hfz135_2 := Ae BK642.out 2
                  go_wp2_with (first | ((with_reducible refine Am (f := 27) rfl ?_); refine Au (some 105) rfl rfl Tryd.func27 (by kernel_rfl) rfl #[.agg #[.string t637, .string t638, .int .i64 t639]] rfl (by (try simp only [List.map_toArray, List.map_cons, List.map_nil]); first | done | rfl | (simp only [List.length_drop, List.length_take]; rfl)) ?_; (with_reducible refine (Eh.calls kj47 t637 t638 t639 t655 t656 t657 t658 _ ?side1 A63.out).mono ?_); (case side1 => exact Ea.below HGL.out (by repeat (first | (with_reducible first | exact HB.out | apply below_alloc | apply pw_below_drewN | apply below_drew1 | refine below_set ?_ GE631.out | refine below_set ?_ GE642.out | refine below_set ?_ GE648.out | refine below_set ?_ GE654.out) | exact HB.out))); rintro e w136 ⟨rfl, hb⟩; refine ⟨_, rfl, ?_⟩; have n0_ := Aside0.mk (Ak (g := gb631) (o := .cells #[.string t629, .string t630] 27 (0, 0)) (by (with_reducible repeat (first | refine Ac ?_ _ | refine Ad ?_ | refine Aa ?_ _)); exact BK631.out) hb); have n1_ := Aside0.mk (Ak (g := gb642) (o := .cells #[.string t637, .string t638, .int .i64 t639] 31 (0, 0)) (by (with_reducible repeat (first | refine Ac ?_ _ | refine Ad ?_ | refine Aa ?_ _)); exact BK642.out) hb); have n2_ := Aside0.mk (Ak (g := gb648) (o := .cells #[.string t643, .string t644, .int .i64 t645] 31 (0, 0)) (by (with_reducible repeat (first | refine Ac ?_ _ | refine Ad ?_ | refine Aa ?_ _)); exact BK648.out) hb); have n3_ := Aside0.mk (Ak (g := gb654) (o := .cells #[.string t649, .string t650, .int .i64 t651] 31 (0, 0)) (by (with_reducible repeat (first | refine Ac ?_ _ | refine Ad ?_ | refine Aa ?_ _)); exact BK654.out) hb); have n4_ := Aside0.mk (Ag (by repeat (first | (with_reducible first | exact HB.out | apply below_alloc | apply pw_below_drewN | apply below_drew1 | refine below_set ?_ GE631.out | refine below_set ?_ GE642.out | refine below_set ?_ GE648.out | refine below_set ?_ GE654.out) | exact HB.out)) hb); clear BK631; clear BK642; clear BK648; clear BK654; clear HB; have BK631 := n0_; have BK642 := n1_; have BK648 := n2_; have BK654 := n3_; have HB := n4_; clear n0_ n1_ n2_ n3_ n4_; (try clear hb); (try clear hb2); (try clear hk); (try clear hi)) | ((with_reducible refine Az (N := 19) rfl ?_); refine Ba ?hg (N := 19) ?hd (cs := #[.string (⟨#[]⟩ : ByteArray), .string (⟨#[]⟩ : ByteArray), .int .i64 0]) (t := 31) ?hr ?_; (case hd => rfl); (case hg => rfl); (case hr => first | (go_simp; done) | (go_simp; rfl)); intro gb659 hg w137 hbox hb; have n0_ := Aside0.mk (Ak (g := gb631) (o := .cells #[.string t629, .string t630] 27 (0, 0)) (by (with_reducible repeat (first | refine Ac ?_ _ | refine Ad ?_ | refine Aa ?_ _)); exact BK631.out) hb); have n1_ := Aside0.mk (Ak (g := gb642) (o := .cells #[.string t637, .string t638, .int .i64 t639] 31 (0, 0)) (by (with_reducible repeat (first | refine Ac ?_ _ | refine Ad ?_ | refine Aa ?_ _)); exact BK642.out) hb); have n2_ := Aside0.mk (Ak (g := gb648) (o := .cells #[.string t643, .string t644, .int .i64 t645] 31 (0, 0)) (by (with_reducible repeat (first | refine Ac ?_ _ | refine Ad ?_ | refine Aa ?_ _)); exact BK648.out) hb); have n3_ := Aside0.mk (Ak (g := gb654) (o := .cells #[.string t649, .string t650, .int .i64 t651] 31 (0, 0)) (by (with_reducible repeat (first | refine Ac ?_ _ | refine Ad ?_ | refine Aa ?_ _)); exact BK654.out) hb); have n4_ := Aside0.mk (Ag (by repeat (first | (with_reducible first | exact HB.out | apply below_alloc | apply pw_below_drewN | apply below_drew1 | refine below_set ?_ GE631.out | refine below_set ?_ GE642.out | refine below_set ?_ GE648.out | refine below_set ?_ GE654.out) | exact HB.out)) hb); have n5_ := Aside0.mk (hbox); have n6_ := Aside0.mk ((by rw [hg]; exact (Ah (by repeat (first | (with_reducible first | exact HB.out | apply below_alloc | apply pw_below_drewN | apply below_drew1 | refine below_set ?_ GE631.out | refine below_set ?_ GE642.out | refine below_set ?_ GE648.out | refine below_set ?_ GE654.out) | exact HB.out))) : w.heap.size ≤ gb659)); have n7_ := Aside0.mk ((by rw [hg]; exact (Ah (by repeat (first | (with_reducible first | exact HB.out | apply below_alloc | apply pw_below_drewN | apply below_drew1 | refine below_set ?_ GE631.out | refine below_set ?_ GE642.out | refine below_set ?_ GE648.out | refine below_set ?_ GE654.out) | exact HB.out))) : w.heap.size ≤ gb659)); have n8_ := Aside0.mk ((by rw [hg]; exact Nat.ne_of_lt (Cf (g := gb631) (o := .cells #[.string t629, .string t630] 27 (0, 0)) (by (with_reducible repeat (first | refine Ac ?_ _ | refine Ad ?_ | refine Aa ?_ _)); exact BK631.out)) : gb631 ≠ gb659)); have n9_ := Aside0.mk ((by rw [hg]; exact Nat.ne_of_gt (Cf (g := gb631) (o := .cells #[.string t629, .string t630] 27 (0, 0)) (by (with_reducible repeat (first | refine Ac ?_ _ | refine Ad ?_ | refine Aa ?_ _)); exact BK631.out)) : gb659 ≠ gb631)); have n10_ := Aside0.mk ((by rw [hg]; exact Nat.ne_of_lt (Cf (g := gb642) (o := .cells #[.string t637, .string t638, .int .i64 t639] 31 (0, 0)) (by (with_reducible repeat (first | refine Ac ?_ _ | refine Ad ?_ | refine Aa ?_ _)); exact BK642.out)) : gb642 ≠ gb659)); have n11_ := Aside0.mk ((by rw [hg]; exact Nat.ne_of_gt (Cf (g := gb642) (o := .cells #[.string t637, .string t638, .int .i64 t639] 31 (0, 0)) (by (with_reducible repeat (first | refine Ac ?_ _ | refine Ad ?_ | refine Aa ?_ _)); exact BK642.out)) : gb659 ≠ gb642)); have n12_ := Aside0.mk ((by rw [hg]; exact Nat.ne_of_lt (Cf (g := gb648) (o := .cells #[.string t643, .string t644, .int .i64 t645] 31 (0, 0)) (by (with_reducible repeat (first | refine Ac ?_ _ | refine Ad ?_ | refine Aa ?_ _)); exact BK648.out)) : gb648 ≠ gb659)); have n13_ := Aside0.mk ((by rw [hg]; exact Nat.ne_of_gt (Cf (g := gb648) (o := .cells #[.string t643, .string t644, .int .i64 t645] 31 (0, 0)) (by (with_reducible repeat (first | refine Ac ?_ _ | refine Ad ?_ | refine Aa ?_ _)); exact BK648.out)) : gb659 ≠ gb648)); have n14_ := Aside0.mk ((by rw [hg]; exact Nat.ne_of_lt (Cf (g := gb654) (o := .cells #[.string t649, .string t650, .int .i64 t651] 31 (0, 0)) (by (with_reducible repeat (first | refine Ac ?_ _ | refine Ad ?_ | refine Aa ?_ _)); exact BK654.out)) : gb654 ≠ gb659)); have n15_ := Aside0.mk ((by rw [hg]; exact Nat.ne_of_gt (Cf (g := gb654) (o := .cells #[.string t649, .string t650, .int .i64 t651] 31 (0, 0)) (by (with_reducible repeat (first | refine Ac ?_ _ | refine Ad ?_ | refine Aa ?_ _)); exact BK654.out)) : gb659 ≠ gb654)); clear BK631; clear BK642; clear BK648; clear BK654; clear HB; have BK631 := n0_; have BK642 := n1_; have BK648 := n2_; have BK654 := n3_; have HB := n4_; have BK659 := n5_; have GW659 := n6_; have GE659 := n7_; have NB631_659 := n8_; have NB659_631 := n9_; have NB642_659 := n10_; have NB659_642 := n11_; have NB648_659 := n12_; have NB659_648 := n13_; have NB654_659 := n14_; have NB659_654 := n15_; clear n0_ n1_ n2_ n3_ n4_ n5_ n6_ n7_ n8_ n9_ n10_ n11_ n12_ n13_ n14_ n15_; clear hb hbox hg; have hnb138 := NB659_631.out; have hnc138 := NB631_659.out; have hnb139 := NB659_642.out; have hnc139 := NB642_659.out; have hnb140 := NB659_648.out; have hnc140 := NB648_659.out; have hnb141 := NB659_654.out; have hnc141 := NB654_659.out; have hcz142_0 : w137.cell? ⟨gb659, 0, none⟩ = some (.string (⟨#[]⟩ : ByteArray)) := (Af BK659.out 0).trans rfl; have hcz142_1 : w137.cell? ⟨gb659, 1, none⟩ = some (.string (⟨#[]⟩ : ByteArray)) := (Af BK659.out 1).trans rfl; have hcz142_2 : w137.cell? ⟨gb659, 2, none⟩ = some (.int .i64 0) := (Af BK659.out 2).trans rfl; have hfz142_0 := Ae BK659.out 0; have hfz142_1 := Ae BK659.out 1; have hfz142_2 := Ae BK659.out 2))
                  go_ret
                  exact ⟨by first | rfl | (simp [Aj, Ai] <;> rfl) | (simp [*, Aj, Ai] <;> rfl), by repeat (first | (with_reducible first | exact HB.out | apply below_alloc | apply pw_below_drewN | apply below_drew1 | refine below_set ?_ GE631.out | refine below_set ?_ GE642.out | refine below_set ?_ GE648.out | refine below_set ?_ GE654.out | refine below_set ?_ GE659.out) | exact HB.out)⟩

end Go.Proofs.YtkpieljmhgfofaaDoor.X


namespace Go.Proofs.YtkpieljmhgfofaaDoorZ
open Go.ChangeShapes Go.WideShapes Go.ChangeAt Go.RowKit
open Go.Proofs.YtkpieljmhgfofaaDoorW.PrintWords
set_option linter.unusedVariables false
set_option linter.unusedSimpArgs false
section
variable {P : Program}

/-- A reading of type t is a value of kind d, and the value fits. -/
def Opens (P : Program) {α : Type} (d : Kd α) (t : TypeId) (fits : α → Prop) : Prop :=
  ∀ {H : Type} {enc : TypeId × Value → H} {w : World} {base : Nat} {spare : Nat → Bool} {held : Bool} {fuel : Nat} {cs : List Value} {x : DataW H × List MemPlace},
    DataW.trod enc P w base spare held fuel t cs = some x → (∀ n ∈ x.1.weights P t, n ≤ reachBytes) → ∃ v, d.K w v cs ∧ fits v

theorem opens_int {k : IntKind} {t : TypeId} (ht : P.underlying t = some (.int k)) : Opens P (Kd.int k) t (fun n => (Lit.int k n).wf = true) := by
  intro H enc w base spare held fuel cs x h _
  obtain ⟨n, rfl, _, hw⟩ := DataW.trod_int ht h
  exact ⟨n, rfl, hw⟩
theorem weightsAll_mem {H : Type} {e : TypeId} {d : DataW H} {n : Nat} : ∀ {l : List (DataW H)}, d ∈ l → n ∈ d.weights P e → n ∈ DataW.weightsAll P e l
  | [], h, _ => by cases h
  | x :: r, h, hn => by
    simp only [DataW.weightsAll, List.mem_append]
    rcases List.mem_cons.1 h with rfl | h
    · exact .inl hn
    · exact .inr (weightsAll_mem h hn)
theorem weightsEach_mem {H : Type} {n : Nat} : ∀ {ts : List TypeId} {l : List (DataW H)} {i : Nat} {t : TypeId} {d : DataW H}, ts[i]? = some t → l[i]? = some d → n ∈ d.weights P t → n ∈ DataW.weightsEach P ts l
  | [], l, i, t, d, h, _, _ => by simp at h
  | t :: ts, [], i, _, _, _, h, _ => by simp at h
  | t :: ts, d :: l, 0, _, _, h, k, hn => by
    simp at h k; subst h k
    simp only [DataW.weightsEach, List.mem_append]; exact .inl hn
  | t :: ts, d :: l, i + 1, _, _, h, k, hn => by
    simp at h k
    simp only [DataW.weightsEach, List.mem_append]; exact .inr (weightsEach_mem h k hn)
theorem opens_slice {α : Type} (z : α) {d : Kd α} {t e : TypeId} {fits : α → Prop} (ht : P.underlying t = some (.slice e)) (hsz : P.cellsOf e = d.sz) (he : Opens P d e fits) {B : Nat} (hB : P.bytesOf e = B) :
    Opens P (Kd.slice e d) t (fun l => l.length * B ≤ 140737488351232 ∧ l.length ≤ 9223372036854775807 ∧ ∀ x ∈ l, fits x) := by
  intro H enc w base spare held fuel cs x h hw
  rcases Deep.open_slice ht h with ⟨rfl, rfl⟩ | ⟨a, len, cap, m, n, D, Pl, rfl, hb, hl, hm, hmm, rfl, hc⟩
  · exact ⟨[], ⟨none, 0, rfl, Nat.le_refl _, Kd.C_nil d w⟩, by simp, by simp, fun x hx => by cases hx⟩
  · have hlm : len ≤ m := by rw [hmm]; split <;> omega
    have hbnd : len * B ≤ 140737488351232 := by
      have := hw ((((List.range len).map D).length + ((List.range (m - len)).map fun j => D (len + j)).length) * P.bytesOf e) (by simp [DataW.weights, ht])
      simp only [List.length_map, List.length_range, hB] at this
      have h2 : len * B ≤ (len + (m - len)) * B := Nat.mul_le_mul_right _ (by omega)
      exact Nat.le_trans h2 this
    have hel : ∀ i, i < len → ∃ v : α, (∃ c, c.length = d.sz ∧ d.K w v c ∧ ∀ j u, c[j]? = some u → w.cell? (a.add (i * d.sz + j)) = some u) ∧ fits v := by
      intro i hi
      obtain ⟨c, h1, h2⟩ := hc i (by omega)
      obtain ⟨v, hv, hf⟩ := he h2 (fun k hk => hw k (by
        simp only [DataW.weights, ht, List.mem_cons, List.mem_append]
        exact .inr (.inl (weightsAll_mem (d := D i) (List.mem_map.2 ⟨i, List.mem_range.2 hi, rfl⟩) hk))))
      rw [hsz] at h1
      obtain ⟨_, hlen, hcell⟩ := World.cells?_some h1
      refine ⟨v, ⟨c, hlen, hv, fun j u hj => ?_⟩, hf⟩
      have hjl : j < d.sz := by rw [← hlen]; exact (List.getElem?_eq_some_iff.1 hj).1
      rw [← Deep.add_add, hcell j hjl]
      exact hj
    haveI : Inhabited α := ⟨z⟩
    obtain ⟨f, hf⟩ := Deep.choose_lt hel
    refine ⟨(List.range len).map f, ⟨some a, cap, by simp, by simpa using hl, ⟨by simp, ?_, fun _ => ⟨a, rfl, ?_⟩⟩⟩, by simpa using hbnd, by simp; unfold maxLen at hm; omega, ?_⟩
    · simp; unfold maxLen at hm; omega
    · intro j p hj
      have hjl : j < len := by
        have := (List.getElem?_eq_some_iff.1 hj).1
        simpa using this
      rw [List.getElem?_map, List.getElem?_range hjl] at hj
      simp only [Option.map_some, Option.some.injEq] at hj
      subst hj
      exact (hf j hjl).1
    · intro x hx
      obtain ⟨j, hj, rfl⟩ := List.mem_map.1 hx
      exact (hf j (List.mem_range.1 hj)).2

/-- A parameter's weights are among all. -/
theorem weights_param {H : Type} {ts : List TypeId} {ds : List (DataW H)} {j : Nat} {t : TypeId} {d : DataW H} (hsz : (DataW.weightsEach P ts ds).all (· ≤ reachBytes) = true) (ht : ts[j]? = some t) (hd : ds[j]? = some d) : ∀ n ∈ d.weights P t, n ≤ reachBytes := fun n hn => by
  have := List.all_eq_true.1 hsz n (weightsEach_mem ht hd hn)
  simpa using this
end
end Go.Proofs.YtkpieljmhgfofaaDoorZ


-- written by a program of this session (wip/ext.py): what the law says, without Go and memory.
namespace Go.Proofs.YtkpieljmhgfofaaDoor.X
open Go.RowKit Go.Proofs.YtkpieljmhgfofaaDoorW.PrintWords Go.Proofs.YtkpieljmhgfofaaDoorW.PrintLast Go.Proofs.YtkpieljmhgfofaaDoorW.PrintMore
open Go.Proofs.YtkpieljmhgfofaaDoorZ
namespace OFnLogLines
def Pure : Prop := ∀ (l0 : List Int), (l0.length * 1 ≤ 140737488351232 ∧ l0.length ≤ 9223372036854775807 ∧ ∀ y2 ∈ l0, (Lit.int .u8 y2).wf = true) → ∃ k, Ap.f k l0 = some true
end OFnLogLines
end Go.Proofs.YtkpieljmhgfofaaDoor.X


namespace Go.Proofs.YtkpieljmhgfofaaDoorL
open Go.RowKit Go.Proofs.YtkpieljmhgfofaaDoorW.PrintWords
set_option linter.unusedVariables false
set_option linter.unusedSimpArgs false

theorem ev_eq {α : Type} {g : Nat → Option α} {r : α} (h : ∀ k, g k = some r) : Ev g r := ⟨0, fun k _ => h k⟩
theorem ev_rounds {α : Type} {g : Nat → Option α} {r : α} (h : Ev g r) : ∃ k, g k = some r := h.rounds
theorem wrap_id {x : Int} (h0 : -9223372036854775808 ≤ x) (h1 : x ≤ 9223372036854775807) : wrap64 x = x := by unfold wrap64; omega
theorem wrap_succ {n : Nat} (h : n < 9223372036854775807) : wrap64 ((n : Int) + 1) = ((n + 1 : Nat) : Int) := by rw [wrap_id (by omega) (by omega)]; rfl
theorem rd_at (l : List Int) (n : Nat) (h : n < l.length) : rd l (n : Int) = l[n] := by simp [rd, List.getD_eq_getElem?_getD, List.getElem?_eq_getElem h]
end Go.Proofs.YtkpieljmhgfofaaDoorL


namespace Go.Proofs.YtkpieljmhgfofaaDoorL
open Go.RowKit Go.Proofs.YtkpieljmhgfofaaDoorW.PrintWords
set_option linter.unusedVariables false
set_option linter.unusedSimpArgs false
/-- A text's bytes. -/
def B (s : ByteArray) : List UInt8 := s.data.toList
theorem Dw (s : ByteArray) : (B s).length = s.size := by simp [B]
theorem bt_B (s : ByteArray) (n : Nat) (h : n < (B s).length) : bt s n = ((B s)[n].toNat : Int) := by
  have h2 : n < s.size := by rw [Dw] at h; exact h
  unfold bt
  rw [Int.toNat_natCast, dif_pos h2]
  rfl
theorem Hf (s : ByteArray) : s.toList = B s := by
  unfold B
  have key : ∀ (d i : Nat) (r : List UInt8), i + d = s.size → ByteArray.toList.loop s i r = r.reverse ++ (s.data.toList.drop i) := by
    intro d
    induction d with
    | zero =>
      intro i r h
      unfold ByteArray.toList.loop
      rw [if_neg (by omega), List.drop_of_length_le (by simp; omega)]; simp
    | succ d ih =>
      intro i r h
      unfold ByteArray.toList.loop
      have hi : i < s.size := by omega
      rw [if_pos hi, ih (i + 1) _ (by omega), List.drop_eq_getElem_cons (show i < s.data.toList.length by simp; omega)]
      have e : s.get! i = s.data.toList[i]'(by simp; omega) := by
        show s.data[i]! = _
        rw [getElem!_pos s.data i hi]; simp
      rw [e, List.reverse_cons]
      simp
  have := key s.size 0 [] (by omega)
  simpa [ByteArray.toList] using this
theorem B_inj {s t : ByteArray} (h : B s = B t) : s = t := by
  have : s.data = t.data := Array.toList_inj.1 h
  cases s; cases t; simp_all
theorem containsAny_any (c : List UInt8) : ∀ l : List UInt8, Lib.containsAny l c = l.any fun b => c.contains b
  | [] => by simp [Lib.containsAny, Lib.indexAny]
  | b :: l => by
    have ih := containsAny_any c l
    have hg := Lib.indexAny_ge c l
    unfold Lib.containsAny at ih ⊢
    rw [List.any_cons, ← ih]
    have hu : Lib.indexAny (b :: l) c = if c.contains b then 0 else if Lib.indexAny l c == -1 then -1 else Lib.indexAny l c + 1 := by rw [Lib.indexAny]
    rw [hu]
    by_cases h : c.contains b = true
    · rw [if_pos h, h]; simp
    · have h2 : c.contains b = false := by simpa using h
      rw [if_neg h, h2, Bool.false_or]
      by_cases e : Lib.indexAny l c = -1
      · rw [e]; simp
      · rw [if_neg (by simpa using e)]
        by_cases z : 0 ≤ Lib.indexAny l c
        · rw [decide_eq_true z, decide_eq_true (by omega)]
        · omega
end Go.Proofs.YtkpieljmhgfofaaDoorL


