/- The law FnExactPeakHour answers true for every input that the row lets in, and leaves its arguments as they were. Conditions: none beyond the row's own. -/
import Derived.Test.YtolaplcjbmjlmaaRows
import Derived.WalkKit
import Derived.ProofKit
import Derived.OpenShut
import Derived.ShutString
import Derived.ChangeOld
import Derived.Below
import Derived.SizedLaws
import Derived.Lib.SmallJoins
import Derived.Test.YtolaplcjbmjlmaaKFnExactPeakHour2
import Derived.Test.YtolaplcjbmjlmaaKFnExactPeakHour3
-- written by a program of this session (wip/ext.py) out of the translation. Not trusted: Lean checks it.
namespace Go.Proofs.Ytolaplcjbmjlmaa.X
open Go.RowKit Go.Proofs.YtolaplcjbmjlmaaW.PrintWords Go.Proofs.YtolaplcjbmjlmaaW.PrintLast Go.Proofs.YtolaplcjbmjlmaaW.PrintMore
attribute [local go_sem] max2_int min2_int max_two min_two max_three min_three max_four min_four   -- for this text's walks alone
set_option linter.unusedVariables false
set_option linter.unusedSimpArgs false

/-! ### impl_lengthsOf: function 65 -/
def impl_lengthsOf.l0 : Nat → List Int → List (S59) → Int → Int → Option (List Int)
  | 0, _, _, _, _ => none
  | k + 1, x3, x7, x8, x9 => if x9 < x8 then (if 0 ≤ x9 then (if x9 < (x7.length : Int) then (if x3.length < 17592186044416 then (impl_lengthsOf.l0 k (x3 ++ [wrap64 (((rd_T59 x7 x9).f1) - ((rd_T59 x7 x9).f0))]) x7 x8 (wrap64 (x9 + 1))) else (none)) else (none)) else (none)) else (some x3)
def impl_lengthsOf.f (k : Nat) (l0 : List (S59)) : Option (List Int) := impl_lengthsOf.l0 k (([] : List Int)) l0 (l0.length : Int) 0
theorem impl_lengthsOf.mono_l : ∀ k, (∀ y0 y1 y2 y3, LeO (impl_lengthsOf.l0 k y0 y1 y2 y3) (impl_lengthsOf.l0 (k + 1) y0 y1 y2 y3))
  | 0 => fun _ _ _ _ r h => by simp [impl_lengthsOf.l0] at h
  | k + 1 => by
    have ih0 := impl_lengthsOf.mono_l k
    · intro y0 y1 y2 y3
      unfold impl_lengthsOf.l0
      repeat' first
      | (with_reducible exact ih0 _ _ _ _)
      | (with_reducible exact LeO.refl _)
      | (with_reducible exact LeO.none _)
      | (with_reducible refine LeO.ite ?_ ?_)
      | (with_reducible refine LeO.bind ?_ (fun _ => ?_))
      | exact ih0 _ _ _ _
      | exact LeO.none _
      | refine LeO.ite ?_ ?_
      | refine LeO.bind ?_ (fun _ => ?_)
theorem impl_lengthsOf.mono : ∀ a0 k, LeO (impl_lengthsOf.f k a0) (impl_lengthsOf.f (k + 1) a0) := by
  intro a0 k
  have ih0 := impl_lengthsOf.mono_l k
  unfold impl_lengthsOf.f
  repeat' first
      | (with_reducible exact ih0 _ _ _ _)
      | (with_reducible exact LeO.refl _)
      | (with_reducible exact LeO.none _)
      | (with_reducible refine LeO.ite ?_ ?_)
      | (with_reducible refine LeO.bind ?_ (fun _ => ?_))
      | exact ih0 _ _ _ _
      | exact LeO.none _
      | refine LeO.ite ?_ ?_
      | refine LeO.bind ?_ (fun _ => ?_)
set_option maxHeartbeats 8000000 in
set_option maxRecDepth 100000 in
theorem impl_lengthsOf.calls (k : Nat) (A0 : Option Addr) (c0 : Nat) (l0 : List (S59)) (r : List Int) (w : World) (hr0 : Kd.C k59 w A0 l0.length l0) (hc0 : l0.length ≤ c0) (h : impl_lengthsOf.f k l0 = some r) :
    Calls Try.prog 65 #[.slice A0 l0.length c0] w fun e w' => ∃ v0_ : Value, e = .returned (v0_) ∧ Kd.R (Kd.int .i64) 3 w' w.heap.size (fun _ => True) v0_ r ∧ Below w.heap.size w w' := by
  have hu59 := Try.underlying59
  have HR0 := Aside0.mk hr0
  have HC0 := Aside0.mk hc0
  clear hr0 hc0
  have HB := Aside0.mk (Below.refl w.heap.size w)
  have H : (impl_lengthsOf.l0 k (([] : List Int)) l0 (l0.length : Int) 0) = some r := h
  clear h
  obtain ⟨y246, hy246⟩ : ∃ y_ : List Int, y_ = (([] : List Int)) := ⟨_, rfl⟩
  replace H : (impl_lengthsOf.l0 k y246 l0 (l0.length : Int) 0) = some r := by first | (rw [hy246]; with_reducible exact H) | (have H2_ := (Option.bind_some _ _).symm.trans H; rw [hy246]; with_reducible exact H2_) | (have H2_ := (Option.bind_some _ _).symm.trans H; with_reducible exact H2_) | with_reducible exact H | (rw [hy246]; exact H) | exact H
  have Ny246 := Aside0.mk hy246
  clear hy246
  have H' := Aside0.mk H
  clear H
  go_enter Try.func65, Try.ntmps65
  go_wp2_with (first | ((with_reducible refine gate_dst (N := 6) rfl ?_); refine Kd.R_lit (Kd.int .i64) _ 3 ?hg (N := 6) ?hd (xs := ([] : List Int)) (inner := []) (ok := fun _ => True) (okp := fun _ => True) ?hr ?hp (fun _ hk => hk) trivial (Below.refl _ _) (Nat.le_refl _) (by simp) ?_; (case hd => rfl); (case hg => rfl); (case hr => first | (go_simp; done) | (go_simp; rfl)); (case hp => exact (Reps.none _ _)); intro v247 w2 ho3 hb hg_ hnew_; clear hg_ hnew_; (first | rw [← Ny246.out] at ho3 | (simp only [Int.reduceToNat] at ho3; rw [← Ny246.out] at ho3)); have n0_ := Aside0.mk (Kd.R_lower ho3 (below_size (by repeat (first | (with_reducible first | exact HB.out | apply below_alloc | apply pw_below_drewN | apply below_drew1) | exact HB.out)))); have n1_ := Aside0.mk (below_step (by repeat (first | (with_reducible first | exact HB.out | apply below_alloc | apply pw_below_drewN | apply below_drew1) | exact HB.out)) hb); clear HB; have HO248 := n0_; have HB := n1_; clear n0_ n1_; clear hb ho3))
  go_loopg [3, 9] k (fun kq v3 v9 w' => ∃ (x3_1 : List Int) (x9_1 : Int), v9 = .int .i64 x9_1 ∧ Aside0 (impl_lengthsOf.l0 kq x3_1 l0 (l0.length : Int) x9_1 = some r) ∧ Aside0 (kq ≤ k) ∧ Aside0 (Kd.R (Kd.int .i64) 3 w' w.heap.size (fun _ => True) v3 x3_1) ∧ Aside0 (Below w.heap.size w w'))
  case atStart => exact ⟨(y246), (0), (by first | rfl | (simp; done) | (simp [*]; done)), H', ⟨Nat.le_refl _⟩, ⟨by (with_reducible repeat (first | apply Kd.R_alloc | apply Kd.R_drewN | apply Kd.R_drew)); exact HO248.out⟩, ⟨by repeat (first | (with_reducible first | exact HB.out | apply below_alloc | apply pw_below_drewN | apply below_drew1) | exact HB.out)⟩⟩
  case round =>
    clear H'
    try clear p2
    obtain ⟨x3_1, x9_1, rfl, HA, HK1, HO_3, HB⟩ := hrel
    cases gk with
    | zero => exact absurd HA.out (by simp [impl_lengthsOf.l0])
    | succ k1 =>
      have H := HA.out
      clear HA
      simp only [impl_lengthsOf.l0] at H
      by_cases c4 : x9_1 < (l0.length : Int)
      · rw [if_pos c4] at H
        have c4b0 : decide (x9_1 < (l0.length : Int)) = true := decide_eq_true c4
        clear c4
        by_cases c5 : 0 ≤ x9_1
        · rw [if_pos c5] at H
          have c5b0 : decide (0 ≤ x9_1) = true := decide_eq_true c5
          clear c5
          by_cases c6 : x9_1 < (l0.length : Int)
          · rw [if_pos c6] at H
            have c6b0 : decide (x9_1 < (l0.length : Int)) = true := decide_eq_true c6
            clear c6
            by_cases c7 : x3_1.length < 17592186044416
            · rw [if_pos c7] at H
              have LMc7 := Aside0.mk c7
              clear c7
              obtain ⟨y251, hy251⟩ : ∃ y_ : List Int, y_ = (x3_1 ++ [wrap64 (((rd_T59 l0 x9_1).f1) - ((rd_T59 l0 x9_1).f0))]) := ⟨_, rfl⟩
              replace H : (impl_lengthsOf.l0 k1 y251 l0 (l0.length : Int) (wrap64 (x9_1 + 1))) = some r := by first | (rw [hy251]; with_reducible exact H) | (have H2_ := (Option.bind_some _ _).symm.trans H; rw [hy251]; with_reducible exact H2_) | (have H2_ := (Option.bind_some _ _).symm.trans H; with_reducible exact H2_) | with_reducible exact H | (rw [hy251]; exact H) | exact H
              have Ny251 := Aside0.mk hy251
              clear hy251
              have H' := Aside0.mk H
              clear H
              have p249 : 0 ≤ (x9_1 : Int) := of_decide_eq_true (by first | (with_reducible assumption) | assumption)
              have q249 : x9_1 < (l0.length : Int) := of_decide_eq_true (by first | (with_reducible assumption) | assumption)
              obtain ⟨ad249, e249, hx249_0, hx249_1, hx249_2⟩ := at_T59 HR0.out x9_1 p249 q249
              cases e249
              replace hx249_0 := (HB.out.cell (World.block_lt_of_cell? w _ hx249_0)).trans hx249_0
              replace hx249_1 := (HB.out.cell (World.block_lt_of_cell? w _ hx249_1)).trans hx249_1
              replace hx249_2 := (HB.out.cell (World.block_lt_of_cell? w _ hx249_2)).trans hx249_2
              replace p249 := eq_true p249
              replace q249 := eq_true q249
              go_wp2_with (first | ((with_reducible refine gate_dst (N := 5) rfl ?_); refine box_event ?hg (N := 5) ?hd (cs := #[.int .i64 0, .int .i64 0, .int .i64 0]) (t := 59) ?hr ?_; (case hd => rfl); (case hg => rfl); (case hr => first | (go_simp; done) | (go_simp; rfl)); intro gb250 hg w8 hbox hb; have n0_ := Aside0.mk (Kd.R_below (by (with_reducible repeat (first | apply Kd.R_alloc | apply Kd.R_drewN | apply Kd.R_drew)); exact HO_3.out) hb); have n1_ := Aside0.mk (below_step (by repeat (first | (with_reducible first | exact HB.out | apply below_alloc | apply pw_below_drewN | apply below_drew1) | exact HB.out)) hb); have n2_ := Aside0.mk (hbox); have n3_ := Aside0.mk ((by rw [hg]; exact (below_size (by repeat (first | (with_reducible first | exact HB.out | apply below_alloc | apply pw_below_drewN | apply below_drew1) | exact HB.out))) : w.heap.size ≤ gb250)); have n4_ := Aside0.mk ((by rw [hg]; exact (below_size (by repeat (first | (with_reducible first | exact HB.out | apply below_alloc | apply pw_below_drewN | apply below_drew1) | exact HB.out))) : w.heap.size ≤ gb250)); clear HO_3; clear HB; have HO_3 := n0_; have HB := n1_; have BK250 := n2_; have GW250 := n3_; have GE250 := n4_; clear n0_ n1_ n2_ n3_ n4_; clear hb hbox hg; have hcz9_0 : w8.cell? ⟨gb250, 0, none⟩ = some (.int .i64 0) := (blk_cell BK250.out 0).trans rfl; have hcz9_1 : w8.cell? ⟨gb250, 1, none⟩ = some (.int .i64 0) := (blk_cell BK250.out 1).trans rfl; have hcz9_2 : w8.cell? ⟨gb250, 2, none⟩ = some (.int .i64 0) := (blk_cell BK250.out 2).trans rfl; have hfz9_0 := blk_frozen BK250.out 0; have hfz9_1 := blk_frozen BK250.out 1; have hfz9_2 := blk_frozen BK250.out 2) | ((with_reducible refine gate_builtin (b := .append) (xs := #[.tmp 13, .tmp 19]) rfl ?_); at_builtin; refine Kd.R_append (Kd.int .i64) (w0 := w) w.heap.size rfl (.tmp 13) (.tmp 19) 53 3 (.int .i64 0) 8 rfl Try.underlying53 info3 rfl (by decide) (by omega) u3 x3_1 (wrap64 (((rd_T59 l0 x9_1).f1) - ((rd_T59 l0 x9_1).f0))) [.int .i64 (wrap64 (((rd_T59 l0 x9_1).f1) - ((rd_T59 l0 x9_1).f0)))] (fun _ => True) (fun _ => False) rfl (by first | (go_simp; done) | (go_simp; rfl)) ?aP (fun _ hk => hk.elim) ?aF ?aO ?aB ?aS ?aL ?_; (case aP => exact rfl); (case aB => exact (by repeat (first | (with_reducible first | exact HB.out | apply below_alloc | apply pw_below_drewN | apply below_drew1 | refine below_set ?_ GE250.out) | exact HB.out))); (case aF => exact (fun _ _ => trivial)); (case aO => exact (by (with_reducible repeat (first | apply Kd.R_alloc | apply Kd.R_drewN | apply Kd.R_drew)); exact Kd.R_mono (Kd.R_far (p := ⟨gb250, 2, none⟩) (Kd.R_far (p := ⟨gb250, 1, none⟩) (Kd.R_far (p := ⟨gb250, 0, none⟩) (Kd.R_types HO_3.out BK250.out (by decide)) (fun _ hk => hk.2) (.int .i64 ((rd_T59 l0 x9_1).f0))) (fun _ hk => hk.2) (.int .i64 ((rd_T59 l0 x9_1).f1))) (fun _ hk => hk.2) (.int .i64 ((rd_T59 l0 x9_1).f2))) (fun _ hk => trivial))); (case aS => exact (below_size (by repeat (first | (with_reducible first | exact HB.out | apply below_alloc | apply pw_below_drewN | apply below_drew1 | refine below_set ?_ GE250.out) | exact HB.out)))); (case aL => have := LMc7.out; omega); intro v252 w10 ho hb hg hat; rw [← Ny251.out] at ho; have n0_ := Aside0.mk (blk_grown (g := gb250) (o := .cells #[.int .i64 ((rd_T59 l0 x9_1).f0), .int .i64 ((rd_T59 l0 x9_1).f1), .int .i64 ((rd_T59 l0 x9_1).f2)] 59 (0, 0)) (by (with_reducible repeat (first | refine blk_drewN ?_ _ | refine blk_drew ?_ | refine blk_alloc ?_ _)); refine blk_put (cs := #[.int .i64 ((rd_T59 l0 x9_1).f0), .int .i64 ((rd_T59 l0 x9_1).f1), .int .i64 0]) ?_ 2 _ rfl; (with_reducible repeat (first | refine blk_drewN ?_ _ | refine blk_drew ?_ | refine blk_alloc ?_ _)); refine blk_put (cs := #[.int .i64 ((rd_T59 l0 x9_1).f0), .int .i64 0, .int .i64 0]) ?_ 1 _ rfl; (with_reducible repeat (first | refine blk_drewN ?_ _ | refine blk_drew ?_ | refine blk_alloc ?_ _)); refine blk_put (cs := #[.int .i64 0, .int .i64 0, .int .i64 0]) ?_ 0 _ rfl; (with_reducible repeat (first | refine blk_drewN ?_ _ | refine blk_drew ?_ | refine blk_alloc ?_ _)); exact BK250.out) hg (Kd.R_ne HO_3.out BK250.out (by decide))); have n1_ := Aside0.mk (hb); have n2_ := Aside0.mk (ho); clear BK250; clear HB; clear HO_3; have BK250 := n0_; have HB := n1_; have HO253 := n2_; clear n0_ n1_ n2_; clear ho hb hg hat))
              go_roundg k1
              case measure => have := HK1.out; omega
              case rel => exact ⟨(y251), (wrap64 (x9_1 + 1)), (by first | rfl | (simp; done) | (simp [*]; done)), H', ⟨by have := HK1.out; omega⟩, ⟨by (with_reducible repeat (first | apply Kd.R_alloc | apply Kd.R_drewN | apply Kd.R_drew)); exact HO253.out⟩, ⟨by repeat (first | (with_reducible first | exact HB.out | apply below_alloc | apply pw_below_drewN | apply below_drew1 | refine below_set ?_ GE250.out) | exact HB.out)⟩⟩
            · rw [if_neg c7] at H
              exact absurd H (by simp)
          · rw [if_neg c6] at H
            exact absurd H (by simp)
        · rw [if_neg c5] at H
          exact absurd H (by simp)
      · rw [if_neg c4] at H
        have c4b0 : decide (x9_1 < (l0.length : Int)) = false := decide_eq_false c4
        clear c4
        obtain rfl := Option.some.inj H
        go_wp2
        go_ret
        exact ⟨_, by first | rfl | (simp [errW_none, errW_some] <;> rfl) | (simp [*, errW_none, errW_some] <;> rfl), by (with_reducible repeat (first | apply Kd.R_alloc | apply Kd.R_drewN | apply Kd.R_drew)); exact HO_3.out, by repeat (first | (with_reducible first | exact HB.out | apply below_alloc | apply pw_below_drewN | apply below_drew1) | exact HB.out)⟩

end Go.Proofs.Ytolaplcjbmjlmaa.X

-- written by a program of this session (wip/ext.py) out of the translation. Not trusted: Lean checks it.
namespace Go.Proofs.Ytolaplcjbmjlmaa.X
open Go.RowKit Go.Proofs.YtolaplcjbmjlmaaW.PrintWords Go.Proofs.YtolaplcjbmjlmaaW.PrintLast Go.Proofs.YtolaplcjbmjlmaaW.PrintMore
attribute [local go_sem] max2_int min2_int max_two min_two max_three min_three max_four min_four   -- for this text's walks alone
set_option linter.unusedVariables false
set_option linter.unusedSimpArgs false

/-! ### impl_MeanStay: function 28 -/
def impl_MeanStay.j0 : Nat → List (S59) → Bool → Option (Int × Int × Bool)
  | 0, _, _ => none
  | k + 1, x0, x14 => if x14 = true then (some (0, 0, false)) else ((impl_lengthsOf.f k x0).bind fun t255 => ((impl_sumOf.f k t255).bind fun t258 => ((impl_fraction.f k t258 (x0.length : Int)).bind fun bt259 => (some (bt259.1, bt259.2, true)))))
def impl_MeanStay.f (k : Nat) (l0 : List (S59)) : Option (Int × Int × Bool) := (impl_IsValidStays.f l0).bind fun t254 => (if t254 = true then (impl_MeanStay.j0 k l0 ((l0.length : Int) == 0)) else (impl_MeanStay.j0 k l0 true))
theorem impl_MeanStay.mono_l : ∀ k, (∀ y0 y1, LeO (impl_MeanStay.j0 k y0 y1) (impl_MeanStay.j0 (k + 1) y0 y1))
  | 0 => fun _ _ r h => by simp [impl_MeanStay.j0] at h
  | k + 1 => by
    have ih0 := impl_MeanStay.mono_l k
    · intro y0 y1
      unfold impl_MeanStay.j0
      repeat' first
      | (with_reducible exact ih0 _ _)
      | (with_reducible exact impl_fraction.mono _ _ _)
      | (with_reducible exact impl_lengthsOf.mono _ _)
      | (with_reducible exact impl_sumOf.mono _ _)
      | (with_reducible exact LeO.refl _)
      | (with_reducible exact LeO.none _)
      | (with_reducible refine LeO.ite ?_ ?_)
      | (with_reducible refine LeO.bind ?_ (fun _ => ?_))
      | exact ih0 _ _
      | exact impl_fraction.mono _ _ _
      | exact impl_lengthsOf.mono _ _
      | exact impl_sumOf.mono _ _
      | exact LeO.none _
      | refine LeO.ite ?_ ?_
      | refine LeO.bind ?_ (fun _ => ?_)
theorem impl_MeanStay.mono : ∀ a0 k, LeO (impl_MeanStay.f k a0) (impl_MeanStay.f (k + 1) a0) := by
  intro a0 k
  have ih0 := impl_MeanStay.mono_l k
  unfold impl_MeanStay.f
  repeat' first
      | (with_reducible exact ih0 _ _)
      | (with_reducible exact impl_fraction.mono _ _ _)
      | (with_reducible exact impl_lengthsOf.mono _ _)
      | (with_reducible exact impl_sumOf.mono _ _)
      | (with_reducible exact LeO.refl _)
      | (with_reducible exact LeO.none _)
      | (with_reducible refine LeO.ite ?_ ?_)
      | (with_reducible refine LeO.bind ?_ (fun _ => ?_))
      | exact ih0 _ _
      | exact impl_fraction.mono _ _ _
      | exact impl_lengthsOf.mono _ _
      | exact impl_sumOf.mono _ _
      | exact LeO.none _
      | refine LeO.ite ?_ ?_
      | refine LeO.bind ?_ (fun _ => ?_)
set_option maxHeartbeats 8000000 in
set_option maxRecDepth 100000 in
theorem impl_MeanStay.calls (k : Nat) (A0 : Option Addr) (c0 : Nat) (l0 : List (S59)) (r1 : Int) (r2 : Int) (r3 : Bool) (w : World) (hr0 : Kd.C k59 w A0 l0.length l0) (hc0 : l0.length ≤ c0) (h : impl_MeanStay.f k l0 = some (r1, r2, r3)) :
    Calls Try.prog 28 #[.slice A0 l0.length c0] w fun e w' => e = .returned (.tuple #[.int .i64 r1, .int .i64 r2, .bool r3]) ∧ Below w.heap.size w w' := by
  have HR0 := Aside0.mk hr0
  have HC0 := Aside0.mk hc0
  clear hr0 hc0
  have HB := Aside0.mk (Below.refl w.heap.size w)
  have H : ((impl_IsValidStays.f l0).bind fun t254 => (if t254 = true then (impl_MeanStay.j0 k l0 ((l0.length : Int) == 0)) else (impl_MeanStay.j0 k l0 true))) = some (r1, r2, r3) := h
  clear h
  have HC2 := Aside0.mk H
  clear H
  go_enter Try.func28, Try.ntmps28
  go_upto_region 1 with (fail)
  go_cut [14] (fun v14 wc => ∃ (kq : Nat) (x14_1 : Bool), v14 = .bool x14_1 ∧ Aside0 (impl_MeanStay.j0 kq l0 x14_1 = some (r1, r2, r3)) ∧ Aside0 (kq ≤ k) ∧ Aside0 (Below w.heap.size w wc))
  case first =>
    have H := HC2.out
    clear HC2
    replace H := Option.bind_eq_some_iff.mp H
    obtain ⟨t254, A30, H⟩ := H
    replace H : (if t254 = true then (impl_MeanStay.j0 k l0 ((l0.length : Int) == 0)) else (impl_MeanStay.j0 k l0 true)) = some (r1, r2, r3) := H
    have A3 := Aside0.mk A30
    clear A30
    by_cases c4 : t254 = true
    · subst c4
      have H1 : (impl_MeanStay.j0 k l0 ((l0.length : Int) == 0)) = some (r1, r2, r3) := by rw [if_pos rfl] at H; exact H
      clear H
      have H := H1
      clear H1
      have H' := Aside0.mk H
      clear H
      go_wp2_with (first | ((with_reducible refine gate_callee (f := 19) rfl ?_); refine goesL_ (some 8) rfl rfl Try.func19 (by kernel_rfl) rfl #[.slice A0 l0.length c0] rfl (by (try simp only [List.map_toArray, List.map_cons, List.map_nil]); first | done | rfl | (simp only [List.length_drop, List.length_take]; rfl)) ?_; (with_reducible refine (impl_IsValidStays.calls _ _ l0 true _ ?side1 ?side2 A3.out).mono ?_); (case side1 => repeat (first | exact (Kd.C_below HR0.out HB.out) | (with_reducible refine Kd.C_alloc ?_ _) | (with_reducible refine Kd.C_drewN ?_ _) | (with_reducible refine Kd.C_drew ?_))); (case side2 => exact HC0.out); rintro e w5 ⟨rfl, hb⟩; refine ⟨_, rfl, ?_⟩; have n0_ := Aside0.mk (below_step (by repeat (first | (with_reducible first | exact HB.out | apply below_alloc | apply pw_below_drewN | apply below_drew1) | exact HB.out)) hb); clear HB; have HB := n0_; clear n0_; (try clear hb); (try clear hb2); (try clear hk); (try clear hi)))
      go_meet
      case rel => exact ⟨_, (((l0.length : Int) == 0)), (by first | rfl | (simp; done) | (simp [*]; done)), H', ⟨by first | omega | exact Nat.le_refl _⟩, ⟨by repeat (first | (with_reducible first | exact HB.out | apply below_alloc | apply pw_below_drewN | apply below_drew1) | exact HB.out)⟩⟩
    · replace c4 := Bool.eq_false_iff.mpr c4
      subst c4
      have H1 : (impl_MeanStay.j0 k l0 true) = some (r1, r2, r3) := by rw [if_neg (show ¬ (false = true) by decide)] at H; exact H
      clear H
      have H := H1
      clear H1
      have H' := Aside0.mk H
      clear H
      go_wp2_with (first | ((with_reducible refine gate_callee (f := 19) rfl ?_); refine goesL_ (some 8) rfl rfl Try.func19 (by kernel_rfl) rfl #[.slice A0 l0.length c0] rfl (by (try simp only [List.map_toArray, List.map_cons, List.map_nil]); first | done | rfl | (simp only [List.length_drop, List.length_take]; rfl)) ?_; (with_reducible refine (impl_IsValidStays.calls _ _ l0 false _ ?side1 ?side2 A3.out).mono ?_); (case side1 => repeat (first | exact (Kd.C_below HR0.out HB.out) | (with_reducible refine Kd.C_alloc ?_ _) | (with_reducible refine Kd.C_drewN ?_ _) | (with_reducible refine Kd.C_drew ?_))); (case side2 => exact HC0.out); rintro e w6 ⟨rfl, hb⟩; refine ⟨_, rfl, ?_⟩; have n0_ := Aside0.mk (below_step (by repeat (first | (with_reducible first | exact HB.out | apply below_alloc | apply pw_below_drewN | apply below_drew1) | exact HB.out)) hb); clear HB; have HB := n0_; clear n0_; (try clear hb); (try clear hb2); (try clear hk); (try clear hi)))
      go_meet
      case rel => exact ⟨_, (true), (by first | rfl | (simp; done) | (simp [*]; done)), H', ⟨by first | omega | exact Nat.le_refl _⟩, ⟨by repeat (first | (with_reducible first | exact HB.out | apply below_alloc | apply pw_below_drewN | apply below_drew1) | exact HB.out)⟩⟩
  case rest =>
    clear HC2
    try clear c1
    try clear c2
    try clear p2
    try clear c4
    obtain ⟨kq, x14_1, rfl, HA, HJ1, HB⟩ := hcut
    cases kq with
    | zero => exact absurd HA.out (by simp [impl_MeanStay.j0])
    | succ kj1 =>
      have H := HA.out
      clear HA
      simp only [impl_MeanStay.j0] at H
      by_cases c7 : x14_1 = true
      · subst c7
        have H1 : (some (0, 0, false)) = some (r1, r2, r3) := by rw [if_pos rfl] at H; exact H
        clear H
        have H := H1
        clear H1
        simp only [Option.some.injEq, Prod.mk.injEq] at H
        obtain ⟨rfl, rfl, rfl⟩ := H
        go_wp2
        go_ret3
        exact ⟨by first | rfl | (simp [errW_none, errW_some] <;> rfl) | (simp [*, errW_none, errW_some] <;> rfl), by repeat (first | (with_reducible first | exact HB.out | apply below_alloc | apply pw_below_drewN | apply below_drew1) | exact HB.out)⟩
      · replace c7 := Bool.eq_false_iff.mpr c7
        subst c7
        have H1 : ((impl_lengthsOf.f kj1 l0).bind fun t255 => ((impl_sumOf.f kj1 t255).bind fun t258 => ((impl_fraction.f kj1 t258 (l0.length : Int)).bind fun bt259 => (some (bt259.1, bt259.2, true))))) = some (r1, r2, r3) := by rw [if_neg (show ¬ (false = true) by decide)] at H; exact H
        clear H
        have H := H1
        clear H1
        replace H := Option.bind_eq_some_iff.mp H
        obtain ⟨t255, A80, H⟩ := H
        replace H : ((impl_sumOf.f kj1 t255).bind fun t258 => ((impl_fraction.f kj1 t258 (l0.length : Int)).bind fun bt259 => (some (bt259.1, bt259.2, true)))) = some (r1, r2, r3) := H
        have A8 := Aside0.mk A80
        clear A80
        replace H := Option.bind_eq_some_iff.mp H
        obtain ⟨t258, A90, H⟩ := H
        replace H : ((impl_fraction.f kj1 t258 (l0.length : Int)).bind fun bt259 => (some (bt259.1, bt259.2, true))) = some (r1, r2, r3) := H
        have A9 := Aside0.mk A90
        clear A90
        replace H := Option.bind_eq_some_iff.mp H
        obtain ⟨⟨t259, t260⟩, A100, H⟩ := H
        replace H : (some (t259, t260, true)) = some (r1, r2, r3) := H
        have A10 := Aside0.mk A100
        clear A100
        simp only [Option.some.injEq, Prod.mk.injEq] at H
        obtain ⟨rfl, rfl, rfl⟩ := H
        go_wp2_with (first | ((with_reducible refine gate_callee (f := 65) rfl ?_); refine goesL_ (some 17) rfl rfl Try.func65 (by kernel_rfl) rfl #[.slice A0 l0.length c0] rfl (by (try simp only [List.map_toArray, List.map_cons, List.map_nil]); first | done | rfl | (simp only [List.length_drop, List.length_take]; rfl)) ?_; (with_reducible refine (impl_lengthsOf.calls kj1 _ _ l0 t255 _ ?side1 ?side2 A8.out).mono ?_); (case side1 => repeat (first | exact (Kd.C_below HR0.out HB.out) | (with_reducible refine Kd.C_alloc ?_ _) | (with_reducible refine Kd.C_drewN ?_ _) | (with_reducible refine Kd.C_drew ?_))); (case side2 => exact HC0.out); rintro e w11 ⟨v256, rfl, ho0, hb⟩; refine ⟨_, rfl, ?_⟩; have n0_ := Aside0.mk (Kd.R_lower ho0 (below_size (by repeat (first | (with_reducible first | exact HB.out | apply below_alloc | apply pw_below_drewN | apply below_drew1) | exact HB.out)))); have n1_ := Aside0.mk (below_step (by repeat (first | (with_reducible first | exact HB.out | apply below_alloc | apply pw_below_drewN | apply below_drew1) | exact HB.out)) hb); clear HB; have HO257 := n0_; have HB := n1_; clear n0_ n1_; (try clear hb); (try clear hb2); (try clear hk); (try clear hi); (try clear ho0); obtain ⟨Ao12, co12, eo12⟩ := Kd.R_slice HO257.out; subst eo12) | ((with_reducible refine gate_callee (f := 64) rfl ?_); refine goesL_ (some 18) rfl rfl Try.func64 (by kernel_rfl) rfl #[.slice Ao12 t255.length co12] rfl (by (try simp only [List.map_toArray, List.map_cons, List.map_nil]); first | done | rfl | (simp only [List.length_drop, List.length_take]; rfl)) ?_; (with_reducible refine (impl_sumOf.calls kj1 _ _ t255 t258 _ ?side1 ?side2 A9.out).mono ?_); (case side1 => repeat (first | exact (Kd.R_reads' HO257.out).2.2 | (with_reducible refine Kd.C_alloc ?_ _) | (with_reducible refine Kd.C_drewN ?_ _) | (with_reducible refine Kd.C_drew ?_))); (case side2 => exact (Kd.R_reads' HO257.out).2.1); rintro e w' ⟨rfl, ⟨nd, rfl⟩⟩; refine ⟨_, rfl, ?_⟩) | ((with_reducible refine gate_callee (f := 62) rfl ?_); refine goesL_ (some 21) rfl rfl Try.func62 (by kernel_rfl) rfl #[.int .i64 t258, .int .i64 (l0.length : Int)] rfl (by (try simp only [List.map_toArray, List.map_cons, List.map_nil]); first | done | rfl | (simp only [List.length_drop, List.length_take]; rfl)) ?_; (with_reducible refine (impl_fraction.calls kj1 t258 (l0.length : Int) t259 t260 _ A10.out).mono ?_); rintro e w' ⟨rfl, ⟨nd, rfl⟩⟩; refine ⟨_, rfl, ?_⟩))
        go_ret3
        exact ⟨by first | rfl | (simp [errW_none, errW_some] <;> rfl) | (simp [*, errW_none, errW_some] <;> rfl), by repeat (first | (with_reducible first | exact HB.out | apply below_alloc | apply pw_below_drewN | apply below_drew1) | exact HB.out)⟩

end Go.Proofs.Ytolaplcjbmjlmaa.X

-- written by a program of this session (wip/ext.py) out of the translation. Not trusted: Lean checks it.
namespace Go.Proofs.Ytolaplcjbmjlmaa.X
open Go.RowKit Go.Proofs.YtolaplcjbmjlmaaW.PrintWords Go.Proofs.YtolaplcjbmjlmaaW.PrintLast Go.Proofs.YtolaplcjbmjlmaaW.PrintMore
attribute [local go_sem] max2_int min2_int max_two min_two max_three min_three max_four min_four   -- for this text's walks alone
set_option linter.unusedVariables false
set_option linter.unusedSimpArgs false

/-! ### laws_FnExactMeanStay: function 8 -/
def laws_FnExactMeanStay.j0 : Nat → List (S62) → List (S59) → Bool → Option (Bool)
  | 0, _, _, _ => none
  | k + 1, x0, x7, x43 => if x43 = true then (some false) else ((laws_toStayS.f k x0).bind fun t274 => ((laws_eqStayS.f k x7 t274).bind fun t277 => (if t277 = true then (some true) else (some false))))
def laws_FnExactMeanStay.f (k : Nat) (l0 : List (S62)) : Option (Bool) := (laws_szStayS.f l0 1048576).bind fun t261 => (if t261 < 0 then (some true) else ((laws_toStayS.f k l0).bind fun t262 => ((spec_MeanStay.f k t262).bind fun bt265 => ((laws_toStayS.f k l0).bind fun t268 => ((impl_MeanStay.f k t268).bind fun bt271 => (if bt271.1 = bt265.1 then (if bt271.2.1 = bt265.2.1 then (laws_FnExactMeanStay.j0 k l0 t268 (bt271.2.2 != bt265.2.2)) else (laws_FnExactMeanStay.j0 k l0 t268 true)) else (laws_FnExactMeanStay.j0 k l0 t268 true)))))))
theorem laws_FnExactMeanStay.mono_l : ∀ k, (∀ y0 y1 y2, LeO (laws_FnExactMeanStay.j0 k y0 y1 y2) (laws_FnExactMeanStay.j0 (k + 1) y0 y1 y2))
  | 0 => fun _ _ _ r h => by simp [laws_FnExactMeanStay.j0] at h
  | k + 1 => by
    have ih0 := laws_FnExactMeanStay.mono_l k
    · intro y0 y1 y2
      unfold laws_FnExactMeanStay.j0
      repeat' first
      | (with_reducible exact ih0 _ _ _)
      | (with_reducible exact impl_MeanStay.mono _ _)
      | (with_reducible exact laws_eqStayS.mono _ _ _)
      | (with_reducible exact laws_toStayS.mono _ _)
      | (with_reducible exact spec_MeanStay.mono _ _)
      | (with_reducible exact LeO.refl _)
      | (with_reducible exact LeO.none _)
      | (with_reducible refine LeO.ite ?_ ?_)
      | (with_reducible refine LeO.bind ?_ (fun _ => ?_))
      | exact ih0 _ _ _
      | exact impl_MeanStay.mono _ _
      | exact laws_eqStayS.mono _ _ _
      | exact laws_toStayS.mono _ _
      | exact spec_MeanStay.mono _ _
      | exact LeO.none _
      | refine LeO.ite ?_ ?_
      | refine LeO.bind ?_ (fun _ => ?_)
theorem laws_FnExactMeanStay.mono : ∀ a0 k, LeO (laws_FnExactMeanStay.f k a0) (laws_FnExactMeanStay.f (k + 1) a0) := by
  intro a0 k
  have ih0 := laws_FnExactMeanStay.mono_l k
  unfold laws_FnExactMeanStay.f
  repeat' first
      | (with_reducible exact ih0 _ _ _)
      | (with_reducible exact impl_MeanStay.mono _ _)
      | (with_reducible exact laws_eqStayS.mono _ _ _)
      | (with_reducible exact laws_toStayS.mono _ _)
      | (with_reducible exact spec_MeanStay.mono _ _)
      | (with_reducible exact LeO.refl _)
      | (with_reducible exact LeO.none _)
      | (with_reducible refine LeO.ite ?_ ?_)
      | (with_reducible refine LeO.bind ?_ (fun _ => ?_))
      | exact ih0 _ _ _
      | exact impl_MeanStay.mono _ _
      | exact laws_eqStayS.mono _ _ _
      | exact laws_toStayS.mono _ _
      | exact spec_MeanStay.mono _ _
      | exact LeO.none _
      | refine LeO.ite ?_ ?_
      | refine LeO.bind ?_ (fun _ => ?_)
set_option maxHeartbeats 8000000 in
set_option maxRecDepth 100000 in
theorem laws_FnExactMeanStay.calls (k : Nat) (A0 : Option Addr) (c0 : Nat) (l0 : List (S62)) (r : Bool) (w : World) (hr0 : Kd.C k62 w A0 l0.length l0) (hc0 : l0.length ≤ c0) (h : laws_FnExactMeanStay.f k l0 = some r) :
    Calls Try.prog 8 #[.slice A0 l0.length c0] w fun e w' => e = .returned (.bool r) ∧ Below w.heap.size w w' := by
  have HR0 := Aside0.mk hr0
  have HC0 := Aside0.mk hc0
  clear hr0 hc0
  have HB := Aside0.mk (Below.refl w.heap.size w)
  have H : ((laws_szStayS.f l0 1048576).bind fun t261 => (if t261 < 0 then (some true) else ((laws_toStayS.f k l0).bind fun t262 => ((spec_MeanStay.f k t262).bind fun bt265 => ((laws_toStayS.f k l0).bind fun t268 => ((impl_MeanStay.f k t268).bind fun bt271 => (if bt271.1 = bt265.1 then (if bt271.2.1 = bt265.2.1 then (laws_FnExactMeanStay.j0 k l0 t268 (bt271.2.2 != bt265.2.2)) else (laws_FnExactMeanStay.j0 k l0 t268 true)) else (laws_FnExactMeanStay.j0 k l0 t268 true)))))))) = some r := h
  clear h
  replace H := Option.bind_eq_some_iff.mp H
  obtain ⟨t261, A20, H⟩ := H
  replace H : (if t261 < 0 then (some true) else ((laws_toStayS.f k l0).bind fun t262 => ((spec_MeanStay.f k t262).bind fun bt265 => ((laws_toStayS.f k l0).bind fun t268 => ((impl_MeanStay.f k t268).bind fun bt271 => (if bt271.1 = bt265.1 then (if bt271.2.1 = bt265.2.1 then (laws_FnExactMeanStay.j0 k l0 t268 (bt271.2.2 != bt265.2.2)) else (laws_FnExactMeanStay.j0 k l0 t268 true)) else (laws_FnExactMeanStay.j0 k l0 t268 true))))))) = some r := H
  have A2 := Aside0.mk A20
  clear A20
  by_cases c3 : t261 < 0
  · rw [if_pos c3] at H
    have c3b0 : decide (t261 < 0) = true := decide_eq_true c3
    clear c3
    obtain rfl := Option.some.inj H
    go_enter Try.func8, Try.ntmps8
    go_wp2_with (first | ((with_reducible refine gate_callee (f := 16) rfl ?_); refine goesL_ (some 13) rfl rfl Try.func16 (by kernel_rfl) rfl #[.slice A0 l0.length c0, .int .i64 1048576] rfl (by (try simp only [List.map_toArray, List.map_cons, List.map_nil]); first | done | rfl | (simp only [List.length_drop, List.length_take]; rfl)) ?_; (with_reducible refine (laws_szStayS.calls _ _ l0 1048576 t261 _ ?side1 ?side2 A2.out).mono ?_); (case side1 => repeat (first | exact HR0.out | (with_reducible refine Kd.C_alloc ?_ _) | (with_reducible refine Kd.C_drewN ?_ _) | (with_reducible refine Kd.C_drew ?_))); (case side2 => exact HC0.out); rintro e w' ⟨rfl, ⟨nd, rfl⟩⟩; refine ⟨_, rfl, ?_⟩))
    go_ret
    exact ⟨by first | rfl | (simp [errW_none, errW_some] <;> rfl) | (simp [*, errW_none, errW_some] <;> rfl), by repeat (first | (with_reducible first | exact HB.out | apply below_alloc | apply pw_below_drewN | apply below_drew1) | exact HB.out)⟩
  · rw [if_neg c3] at H
    have c3b0 : decide (t261 < 0) = false := decide_eq_false c3
    clear c3
    replace H := Option.bind_eq_some_iff.mp H
    obtain ⟨t262, A40, H⟩ := H
    replace H : ((spec_MeanStay.f k t262).bind fun bt265 => ((laws_toStayS.f k l0).bind fun t268 => ((impl_MeanStay.f k t268).bind fun bt271 => (if bt271.1 = bt265.1 then (if bt271.2.1 = bt265.2.1 then (laws_FnExactMeanStay.j0 k l0 t268 (bt271.2.2 != bt265.2.2)) else (laws_FnExactMeanStay.j0 k l0 t268 true)) else (laws_FnExactMeanStay.j0 k l0 t268 true))))) = some r := H
    have A4 := Aside0.mk A40
    clear A40
    replace H := Option.bind_eq_some_iff.mp H
    obtain ⟨⟨t265, t266, t267⟩, A50, H⟩ := H
    replace H : ((laws_toStayS.f k l0).bind fun t268 => ((impl_MeanStay.f k t268).bind fun bt271 => (if bt271.1 = t265 then (if bt271.2.1 = t266 then (laws_FnExactMeanStay.j0 k l0 t268 (bt271.2.2 != t267)) else (laws_FnExactMeanStay.j0 k l0 t268 true)) else (laws_FnExactMeanStay.j0 k l0 t268 true)))) = some r := H
    have A5 := Aside0.mk A50
    clear A50
    replace H := Option.bind_eq_some_iff.mp H
    obtain ⟨t268, A60, H⟩ := H
    replace H : ((impl_MeanStay.f k t268).bind fun bt271 => (if bt271.1 = t265 then (if bt271.2.1 = t266 then (laws_FnExactMeanStay.j0 k l0 t268 (bt271.2.2 != t267)) else (laws_FnExactMeanStay.j0 k l0 t268 true)) else (laws_FnExactMeanStay.j0 k l0 t268 true))) = some r := H
    have A6 := Aside0.mk A60
    clear A60
    replace H := Option.bind_eq_some_iff.mp H
    obtain ⟨⟨t271, t272, t273⟩, A70, H⟩ := H
    replace H : (if t271 = t265 then (if t272 = t266 then (laws_FnExactMeanStay.j0 k l0 t268 (t273 != t267)) else (laws_FnExactMeanStay.j0 k l0 t268 true)) else (laws_FnExactMeanStay.j0 k l0 t268 true)) = some r := H
    have A7 := Aside0.mk A70
    clear A70
    have HC8 := Aside0.mk H
    clear H
    go_enter Try.func8, Try.ntmps8
    go_upto_region 8 with (first | ((with_reducible refine gate_callee (f := 16) rfl ?_); refine goesL_ (some 13) rfl rfl Try.func16 (by kernel_rfl) rfl #[.slice A0 l0.length c0, .int .i64 1048576] rfl (by (try simp only [List.map_toArray, List.map_cons, List.map_nil]); first | done | rfl | (simp only [List.length_drop, List.length_take]; rfl)) ?_; (with_reducible refine (laws_szStayS.calls _ _ l0 1048576 t261 _ ?side1 ?side2 A2.out).mono ?_); (case side1 => repeat (first | exact HR0.out | (with_reducible refine Kd.C_alloc ?_ _) | (with_reducible refine Kd.C_drewN ?_ _) | (with_reducible refine Kd.C_drew ?_))); (case side2 => exact HC0.out); rintro e w' ⟨rfl, ⟨nd, rfl⟩⟩; refine ⟨_, rfl, ?_⟩) | ((with_reducible refine gate_callee (f := 18) rfl ?_); refine goesL_ (some 18) rfl rfl Try.func18 (by kernel_rfl) rfl #[.slice A0 l0.length c0] rfl (by (try simp only [List.map_toArray, List.map_cons, List.map_nil]); first | done | rfl | (simp only [List.length_drop, List.length_take]; rfl)) ?_; (with_reducible refine (laws_toStayS.calls k _ _ l0 t262 _ ?side1 ?side2 A4.out).mono ?_); (case side1 => repeat (first | exact HR0.out | (with_reducible refine Kd.C_alloc ?_ _) | (with_reducible refine Kd.C_drewN ?_ _) | (with_reducible refine Kd.C_drew ?_))); (case side2 => exact HC0.out); rintro e w9 ⟨v263, rfl, ho0, hb⟩; refine ⟨_, rfl, ?_⟩; have n0_ := Aside0.mk (Kd.R_lower ho0 (below_size (by repeat (first | (with_reducible first | exact HB.out | apply below_alloc | apply pw_below_drewN | apply below_drew1) | exact HB.out)))); have n1_ := Aside0.mk (below_step (by repeat (first | (with_reducible first | exact HB.out | apply below_alloc | apply pw_below_drewN | apply below_drew1) | exact HB.out)) hb); clear HB; have HO264 := n0_; have HB := n1_; clear n0_ n1_; (try clear hb); (try clear hb2); (try clear hk); (try clear hi); (try clear ho0); obtain ⟨Ao10, co10, eo10⟩ := Kd.R_slice HO264.out; subst eo10) | ((with_reducible refine gate_callee (f := 27) rfl ?_); refine goesL_ (some 19) rfl rfl Try.func27 (by kernel_rfl) rfl #[.slice Ao10 t262.length co10] rfl (by (try simp only [List.map_toArray, List.map_cons, List.map_nil]); first | done | rfl | (simp only [List.length_drop, List.length_take]; rfl)) ?_; (with_reducible refine (spec_MeanStay.calls k _ _ t262 t265 t266 t267 _ ?side1 ?side2 A5.out).mono ?_); (case side1 => repeat (first | exact (Kd.R_reads' HO264.out).2.2 | (with_reducible refine Kd.C_alloc ?_ _) | (with_reducible refine Kd.C_drewN ?_ _) | (with_reducible refine Kd.C_drew ?_))); (case side2 => exact (Kd.R_reads' HO264.out).2.1); rintro e w11 ⟨rfl, hb⟩; refine ⟨_, rfl, ?_⟩; have n0_ := Aside0.mk (Kd.R_below (by (with_reducible repeat (first | apply Kd.R_alloc | apply Kd.R_drewN | apply Kd.R_drew)); exact HO264.out) hb); have n1_ := Aside0.mk (below_step (by repeat (first | (with_reducible first | exact HB.out | apply below_alloc | apply pw_below_drewN | apply below_drew1) | exact HB.out)) hb); clear HO264; clear HB; have HO264 := n0_; have HB := n1_; clear n0_ n1_; (try clear hb); (try clear hb2); (try clear hk); (try clear hi)) | ((with_reducible refine gate_callee (f := 18) rfl ?_); refine goesL_ (some 24) rfl rfl Try.func18 (by kernel_rfl) rfl #[.slice A0 l0.length c0] rfl (by (try simp only [List.map_toArray, List.map_cons, List.map_nil]); first | done | rfl | (simp only [List.length_drop, List.length_take]; rfl)) ?_; (with_reducible refine (laws_toStayS.calls k _ _ l0 t268 _ ?side1 ?side2 A6.out).mono ?_); (case side1 => repeat (first | exact (Kd.C_below HR0.out HB.out) | (with_reducible refine Kd.C_alloc ?_ _) | (with_reducible refine Kd.C_drewN ?_ _) | (with_reducible refine Kd.C_drew ?_))); (case side2 => exact HC0.out); rintro e w12 ⟨v269, rfl, ho0, hb⟩; refine ⟨_, rfl, ?_⟩; have n0_ := Aside0.mk (Kd.R_elder' (by (with_reducible repeat (first | apply Kd.R_alloc | apply Kd.R_drewN | apply Kd.R_drew)); exact HO264.out) (Kd.R_base ho0) hb); have n1_ := Aside0.mk (Kd.R_lower (Kd.R_new' ho0 (Kd.R_lt (by (with_reducible repeat (first | apply Kd.R_alloc | apply Kd.R_drewN | apply Kd.R_drew)); exact HO264.out))) (below_size (by repeat (first | (with_reducible first | exact HB.out | apply below_alloc | apply pw_below_drewN | apply below_drew1) | exact HB.out)))); have n2_ := Aside0.mk (below_step (by repeat (first | (with_reducible first | exact HB.out | apply below_alloc | apply pw_below_drewN | apply below_drew1) | exact HB.out)) hb); clear HO264; clear HB; have HO264 := n0_; have HO270 := n1_; have HB := n2_; clear n0_ n1_ n2_; (try clear hb); (try clear hb2); (try clear hk); (try clear hi); (try clear ho0); obtain ⟨Ao13, co13, eo13⟩ := Kd.R_slice HO270.out; subst eo13) | ((with_reducible refine gate_callee (f := 28) rfl ?_); refine goesL_ (some 27) rfl rfl Try.func28 (by kernel_rfl) rfl #[.slice Ao13 t268.length co13] rfl (by (try simp only [List.map_toArray, List.map_cons, List.map_nil]); first | done | rfl | (simp only [List.length_drop, List.length_take]; rfl)) ?_; (with_reducible refine (impl_MeanStay.calls k _ _ t268 t271 t272 t273 _ ?side1 ?side2 A7.out).mono ?_); (case side1 => repeat (first | exact (Kd.R_reads' HO270.out).2.2 | (with_reducible refine Kd.C_alloc ?_ _) | (with_reducible refine Kd.C_drewN ?_ _) | (with_reducible refine Kd.C_drew ?_))); (case side2 => exact (Kd.R_reads' HO270.out).2.1); rintro e w14 ⟨rfl, hb⟩; refine ⟨_, rfl, ?_⟩; have n0_ := Aside0.mk (Kd.R_below (by (with_reducible repeat (first | apply Kd.R_alloc | apply Kd.R_drewN | apply Kd.R_drew)); exact HO264.out) hb); have n1_ := Aside0.mk (Kd.R_below (by (with_reducible repeat (first | apply Kd.R_alloc | apply Kd.R_drewN | apply Kd.R_drew)); exact HO270.out) hb); have n2_ := Aside0.mk (below_step (by repeat (first | (with_reducible first | exact HB.out | apply below_alloc | apply pw_below_drewN | apply below_drew1) | exact HB.out)) hb); clear HO264; clear HO270; clear HB; have HO264 := n0_; have HO270 := n1_; have HB := n2_; clear n0_ n1_ n2_; (try clear hb); (try clear hb2); (try clear hk); (try clear hi)))
    (try simp only [Act.put, List.setIfInBounds_toArray, List.set_cons_zero, List.set_cons_succ])
    go_cut [43] (fun v43 wc => ∃ (kq : Nat) (x43_7 : Bool), v43 = .bool x43_7 ∧ Aside0 (laws_FnExactMeanStay.j0 kq l0 t268 x43_7 = some r) ∧ Aside0 (kq ≤ k) ∧ Aside0 (Kd.R k59 59 wc w.heap.size (fun _ => True) (.slice Ao13 t268.length co13) t268) ∧ Aside0 (Below w.heap.size w wc))
    case first =>
      have H := HC8.out
      clear HC8
      by_cases c15 : t271 = t265
      · rw [if_pos c15] at H
        have c15b0 : (t271 == t265) = true := beq_iff_eq.mpr c15
        have c15b1 : (t271 != t265) = false := bne_eq_false_iff_eq.mpr c15
        clear c15
        (first | rw [c15b0] | (simp only [i64_w, i32_w]; rw [c15b0]) | skip)
        by_cases c16 : t272 = t266
        · rw [if_pos c16] at H
          have c16b0 : (t272 == t266) = true := beq_iff_eq.mpr c16
          have c16b1 : (t272 != t266) = false := bne_eq_false_iff_eq.mpr c16
          clear c16
          have H' := Aside0.mk H
          clear H
          go_wp2
          go_meet
          case rel => exact ⟨_, ((t273 != t267)), (by first | rfl | (simp; done) | (simp [*]; done)), H', ⟨by first | omega | exact Nat.le_refl _⟩, ⟨by (with_reducible repeat (first | apply Kd.R_alloc | apply Kd.R_drewN | apply Kd.R_drew)); exact Kd.R_mono HO270.out (fun _ hk => trivial)⟩, ⟨by repeat (first | (with_reducible first | exact HB.out | apply below_alloc | apply pw_below_drewN | apply below_drew1) | exact HB.out)⟩⟩
        · rw [if_neg c16] at H
          have c16b0 : (t272 == t266) = false := beq_eq_false_iff_ne.mpr c16
          have c16b1 : (t272 != t266) = true := bne_iff_ne.mpr c16
          have H' := Aside0.mk H
          clear H
          go_wp2
          go_meet
          case rel => exact ⟨_, (true), (by first | rfl | (simp; done) | (simp [*]; done)), H', ⟨by first | omega | exact Nat.le_refl _⟩, ⟨by (with_reducible repeat (first | apply Kd.R_alloc | apply Kd.R_drewN | apply Kd.R_drew)); exact Kd.R_mono HO270.out (fun _ hk => trivial)⟩, ⟨by repeat (first | (with_reducible first | exact HB.out | apply below_alloc | apply pw_below_drewN | apply below_drew1) | exact HB.out)⟩⟩
      · rw [if_neg c15] at H
        have c15b0 : (t271 == t265) = false := beq_eq_false_iff_ne.mpr c15
        have c15b1 : (t271 != t265) = true := bne_iff_ne.mpr c15
        (first | rw [c15b0] | (simp only [i64_w, i32_w]; rw [c15b0]) | skip)
        have H' := Aside0.mk H
        clear H
        go_wp2
        go_meet
        case rel => exact ⟨_, (true), (by first | rfl | (simp; done) | (simp [*]; done)), H', ⟨by first | omega | exact Nat.le_refl _⟩, ⟨by (with_reducible repeat (first | apply Kd.R_alloc | apply Kd.R_drewN | apply Kd.R_drew)); exact Kd.R_mono HO270.out (fun _ hk => trivial)⟩, ⟨by repeat (first | (with_reducible first | exact HB.out | apply below_alloc | apply pw_below_drewN | apply below_drew1) | exact HB.out)⟩⟩
    case rest =>
      clear HC8
      try clear c1
      try clear c2
      try clear p2
      try clear c3
      try clear c3b0
      try clear c8
      try clear c15
      try clear c15b0
      try clear c15b1
      try clear c16
      try clear c16b0
      try clear c16b1
      obtain ⟨kq, x43_7, rfl, HA, HJ7, HO_7, HB⟩ := hcut
      cases kq with
      | zero => exact absurd HA.out (by simp [laws_FnExactMeanStay.j0])
      | succ kj7 =>
        have H := HA.out
        clear HA
        simp only [laws_FnExactMeanStay.j0] at H
        by_cases c17 : x43_7 = true
        · subst c17
          have H1 : (some false) = some r := by rw [if_pos rfl] at H; exact H
          clear H
          have H := H1
          clear H1
          obtain rfl := Option.some.inj H
          go_wp2
          go_ret
          exact ⟨by first | rfl | (simp [errW_none, errW_some] <;> rfl) | (simp [*, errW_none, errW_some] <;> rfl), by repeat (first | (with_reducible first | exact HB.out | apply below_alloc | apply pw_below_drewN | apply below_drew1) | exact HB.out)⟩
        · replace c17 := Bool.eq_false_iff.mpr c17
          subst c17
          have H1 : ((laws_toStayS.f kj7 l0).bind fun t274 => ((laws_eqStayS.f kj7 t268 t274).bind fun t277 => (if t277 = true then (some true) else (some false)))) = some r := by rw [if_neg (show ¬ (false = true) by decide)] at H; exact H
          clear H
          have H := H1
          clear H1
          replace H := Option.bind_eq_some_iff.mp H
          obtain ⟨t274, A180, H⟩ := H
          replace H : ((laws_eqStayS.f kj7 t268 t274).bind fun t277 => (if t277 = true then (some true) else (some false))) = some r := H
          have A18 := Aside0.mk A180
          clear A180
          replace H := Option.bind_eq_some_iff.mp H
          obtain ⟨t277, A190, H⟩ := H
          replace H : (if t277 = true then (some true) else (some false)) = some r := H
          have A19 := Aside0.mk A190
          clear A190
          by_cases c20 : t277 = true
          · subst c20
            have H1 : (some true) = some r := by rw [if_pos rfl] at H; exact H
            clear H
            have H := H1
            clear H1
            obtain rfl := Option.some.inj H
            go_wp2_with (first | ((with_reducible refine gate_callee (f := 18) rfl ?_); refine goesL_ (some 46) rfl rfl Try.func18 (by kernel_rfl) rfl #[.slice A0 l0.length c0] rfl (by (try simp only [List.map_toArray, List.map_cons, List.map_nil]); first | done | rfl | (simp only [List.length_drop, List.length_take]; rfl)) ?_; (with_reducible refine (laws_toStayS.calls kj7 _ _ l0 t274 _ ?side1 ?side2 A18.out).mono ?_); (case side1 => repeat (first | exact (Kd.C_below HR0.out HB.out) | (with_reducible refine Kd.C_alloc ?_ _) | (with_reducible refine Kd.C_drewN ?_ _) | (with_reducible refine Kd.C_drew ?_))); (case side2 => exact HC0.out); rintro e w21 ⟨v275, rfl, ho0, hb⟩; refine ⟨_, rfl, ?_⟩; have n0_ := Aside0.mk (Kd.R_elder' (by (with_reducible repeat (first | apply Kd.R_alloc | apply Kd.R_drewN | apply Kd.R_drew)); exact HO_7.out) (Kd.R_base ho0) hb); have n1_ := Aside0.mk (Kd.R_lower (Kd.R_new' ho0 (Kd.R_lt (by (with_reducible repeat (first | apply Kd.R_alloc | apply Kd.R_drewN | apply Kd.R_drew)); exact HO_7.out))) (below_size (by repeat (first | (with_reducible first | exact HB.out | apply below_alloc | apply pw_below_drewN | apply below_drew1) | exact HB.out)))); have n2_ := Aside0.mk (below_step (by repeat (first | (with_reducible first | exact HB.out | apply below_alloc | apply pw_below_drewN | apply below_drew1) | exact HB.out)) hb); clear HO_7; clear HB; have HO_7 := n0_; have HO276 := n1_; have HB := n2_; clear n0_ n1_ n2_; (try clear hb); (try clear hb2); (try clear hk); (try clear hi); (try clear ho0); obtain ⟨Ao22, co22, eo22⟩ := Kd.R_slice HO276.out; subst eo22) | ((with_reducible refine gate_callee (f := 20) rfl ?_); refine goesL_ (some 47) rfl rfl Try.func20 (by kernel_rfl) rfl #[.slice Ao13 t268.length co13, .slice Ao22 t274.length co22] rfl (by (try simp only [List.map_toArray, List.map_cons, List.map_nil]); first | done | rfl | (simp only [List.length_drop, List.length_take]; rfl)) ?_; (with_reducible refine (laws_eqStayS.calls kj7 _ _ t268 _ _ t274 true _ ?side1 ?side2 ?side3 ?side4 A19.out).mono ?_); (case side1 => repeat (first | exact (Kd.R_reads' HO_7.out).2.2 | (with_reducible refine Kd.C_alloc ?_ _) | (with_reducible refine Kd.C_drewN ?_ _) | (with_reducible refine Kd.C_drew ?_))); (case side2 => exact (Kd.R_reads' HO_7.out).2.1); (case side3 => repeat (first | exact (Kd.R_reads' HO276.out).2.2 | (with_reducible refine Kd.C_alloc ?_ _) | (with_reducible refine Kd.C_drewN ?_ _) | (with_reducible refine Kd.C_drew ?_))); (case side4 => exact (Kd.R_reads' HO276.out).2.1); rintro e w23 ⟨rfl, hb⟩; refine ⟨_, rfl, ?_⟩; have n0_ := Aside0.mk (Kd.R_below (by (with_reducible repeat (first | apply Kd.R_alloc | apply Kd.R_drewN | apply Kd.R_drew)); exact HO_7.out) hb); have n1_ := Aside0.mk (Kd.R_below (by (with_reducible repeat (first | apply Kd.R_alloc | apply Kd.R_drewN | apply Kd.R_drew)); exact HO276.out) hb); have n2_ := Aside0.mk (below_step (by repeat (first | (with_reducible first | exact HB.out | apply below_alloc | apply pw_below_drewN | apply below_drew1) | exact HB.out)) hb); clear HO_7; clear HO276; clear HB; have HO_7 := n0_; have HO276 := n1_; have HB := n2_; clear n0_ n1_ n2_; (try clear hb); (try clear hb2); (try clear hk); (try clear hi)))
            go_ret
            exact ⟨by first | rfl | (simp [errW_none, errW_some] <;> rfl) | (simp [*, errW_none, errW_some] <;> rfl), by repeat (first | (with_reducible first | exact HB.out | apply below_alloc | apply pw_below_drewN | apply below_drew1) | exact HB.out)⟩
          · replace c20 := Bool.eq_false_iff.mpr c20
            subst c20
            have H1 : (some false) = some r := by rw [if_neg (show ¬ (false = true) by decide)] at H; exact H
            clear H
            have H := H1
            clear H1
            obtain rfl := Option.some.inj H
            go_wp2_with (first | ((with_reducible refine gate_callee (f := 18) rfl ?_); refine goesL_ (some 46) rfl rfl Try.func18 (by kernel_rfl) rfl #[.slice A0 l0.length c0] rfl (by (try simp only [List.map_toArray, List.map_cons, List.map_nil]); first | done | rfl | (simp only [List.length_drop, List.length_take]; rfl)) ?_; (with_reducible refine (laws_toStayS.calls kj7 _ _ l0 t274 _ ?side1 ?side2 A18.out).mono ?_); (case side1 => repeat (first | exact (Kd.C_below HR0.out HB.out) | (with_reducible refine Kd.C_alloc ?_ _) | (with_reducible refine Kd.C_drewN ?_ _) | (with_reducible refine Kd.C_drew ?_))); (case side2 => exact HC0.out); rintro e w24 ⟨v275, rfl, ho0, hb⟩; refine ⟨_, rfl, ?_⟩; have n0_ := Aside0.mk (Kd.R_elder' (by (with_reducible repeat (first | apply Kd.R_alloc | apply Kd.R_drewN | apply Kd.R_drew)); exact HO_7.out) (Kd.R_base ho0) hb); have n1_ := Aside0.mk (Kd.R_lower (Kd.R_new' ho0 (Kd.R_lt (by (with_reducible repeat (first | apply Kd.R_alloc | apply Kd.R_drewN | apply Kd.R_drew)); exact HO_7.out))) (below_size (by repeat (first | (with_reducible first | exact HB.out | apply below_alloc | apply pw_below_drewN | apply below_drew1) | exact HB.out)))); have n2_ := Aside0.mk (below_step (by repeat (first | (with_reducible first | exact HB.out | apply below_alloc | apply pw_below_drewN | apply below_drew1) | exact HB.out)) hb); clear HO_7; clear HB; have HO_7 := n0_; have HO276 := n1_; have HB := n2_; clear n0_ n1_ n2_; (try clear hb); (try clear hb2); (try clear hk); (try clear hi); (try clear ho0); obtain ⟨Ao25, co25, eo25⟩ := Kd.R_slice HO276.out; subst eo25) | ((with_reducible refine gate_callee (f := 20) rfl ?_); refine goesL_ (some 47) rfl rfl Try.func20 (by kernel_rfl) rfl #[.slice Ao13 t268.length co13, .slice Ao25 t274.length co25] rfl (by (try simp only [List.map_toArray, List.map_cons, List.map_nil]); first | done | rfl | (simp only [List.length_drop, List.length_take]; rfl)) ?_; (with_reducible refine (laws_eqStayS.calls kj7 _ _ t268 _ _ t274 false _ ?side1 ?side2 ?side3 ?side4 A19.out).mono ?_); (case side1 => repeat (first | exact (Kd.R_reads' HO_7.out).2.2 | (with_reducible refine Kd.C_alloc ?_ _) | (with_reducible refine Kd.C_drewN ?_ _) | (with_reducible refine Kd.C_drew ?_))); (case side2 => exact (Kd.R_reads' HO_7.out).2.1); (case side3 => repeat (first | exact (Kd.R_reads' HO276.out).2.2 | (with_reducible refine Kd.C_alloc ?_ _) | (with_reducible refine Kd.C_drewN ?_ _) | (with_reducible refine Kd.C_drew ?_))); (case side4 => exact (Kd.R_reads' HO276.out).2.1); rintro e w26 ⟨rfl, hb⟩; refine ⟨_, rfl, ?_⟩; have n0_ := Aside0.mk (Kd.R_below (by (with_reducible repeat (first | apply Kd.R_alloc | apply Kd.R_drewN | apply Kd.R_drew)); exact HO_7.out) hb); have n1_ := Aside0.mk (Kd.R_below (by (with_reducible repeat (first | apply Kd.R_alloc | apply Kd.R_drewN | apply Kd.R_drew)); exact HO276.out) hb); have n2_ := Aside0.mk (below_step (by repeat (first | (with_reducible first | exact HB.out | apply below_alloc | apply pw_below_drewN | apply below_drew1) | exact HB.out)) hb); clear HO_7; clear HO276; clear HB; have HO_7 := n0_; have HO276 := n1_; have HB := n2_; clear n0_ n1_ n2_; (try clear hb); (try clear hb2); (try clear hk); (try clear hi)))
            go_ret
            exact ⟨by first | rfl | (simp [errW_none, errW_some] <;> rfl) | (simp [*, errW_none, errW_some] <;> rfl), by repeat (first | (with_reducible first | exact HB.out | apply below_alloc | apply pw_below_drewN | apply below_drew1) | exact HB.out)⟩

end Go.Proofs.Ytolaplcjbmjlmaa.X

/- Hours, peaks and shares of stays, in plain Lean. -/
namespace Go.Proofs.Ytolaplcjbmjlmaa.X
open Go.RowKit Go.Proofs.YtolaplcjbmjlmaaW.PrintWords Go.Proofs.YtolaplcjbmjlmaaL
set_option linter.unusedVariables false
set_option linter.unusedSimpArgs false
theorem valid_ok {l : List Stay} (h : valid l = true) : (∀ x ∈ l, okStay x = true) ∧ l.length ≤ 20 := by
  unfold valid at h
  simp only [Bool.and_eq_true, List.all_eq_true, decide_eq_true_eq] at h
  exact h
theorem okStay_iff (x : Stay) : okStay x = true ↔ 0 ≤ x.f0 ∧ x.f0 ≤ x.f1 ∧ x.f1 ≤ 240 ∧ 1 ≤ x.f2 ∧ x.f2 ≤ 9 := by
  simp [okStay, and_assoc]
theorem valid_at {l : List Stay} (h : valid l = true) (n : Nat) (hn : n < l.length) : 0 ≤ l[n].f0 ∧ l[n].f0 ≤ l[n].f1 ∧ l[n].f1 ≤ 240 ∧ 1 ≤ l[n].f2 ∧ l[n].f2 ≤ 9 :=
  (okStay_iff _).1 ((valid_ok h).1 _ (List.getElem_mem hn))
/-- How many are inside at an hour. -/
def inside (l : List Stay) (h : Int) : Int := (l.countP fun s => decide (s.f0 ≤ h) && decide (h < s.f1) : Nat)
theorem inside_nonneg (l : List Stay) (h : Int) : 0 ≤ inside l h := by unfold inside; omega
theorem inside_le (l : List Stay) (h : Int) : inside l h ≤ l.length := by
  unfold inside
  have := List.countP_le_length (p := fun s : Stay => decide (s.f0 ≤ h) && decide (h < s.f1)) (l := l)
  omega
theorem inside_take_succ (l : List Stay) (h : Int) (n : Nat) (hn : n < l.length) : inside (l.take (n + 1)) h = inside (l.take n) h + if l[n].f0 ≤ h ∧ h < l[n].f1 then 1 else 0 := by
  unfold inside
  rw [List.take_succ_eq_append_getElem hn, List.countP_append]
  by_cases e : l[n].f0 ≤ h ∧ h < l[n].f1
  · rw [if_pos e]; simp [List.countP_cons, e.1, e.2]
  · rw [if_neg e]; simp only [List.countP_cons, List.countP_nil]; rw [if_neg (by simpa using e)]; omega
theorem specAt_ev (l : List Stay) (hv : valid l = true) (h : Int) : Ev (fun k => spec_l25At.f k l h) (inside l h) := by
  have h20 := (valid_ok hv).2
  have key : ∀ (d n : Nat), n + d = l.length → Ev (fun k => spec_l25At.l0 k l h (inside (l.take n) h) n) (inside l h) := by
    intro d
    induction d with
    | zero =>
      intro n hn
      obtain rfl : n = l.length := by omega
      refine Ev.step (f := fun _ => some _) (fun k => ?_) (Ev.now _)
      simp only [spec_l25At.l0]; rw [if_neg (by omega), List.take_length]
    | succ d ih =>
      intro n hn
      have hl : n < l.length := by omega
      have hb := inside_le (l.take n) h
      have hb0 := inside_nonneg (l.take n) h
      have hb2 : (l.take n).length ≤ 20 := by rw [List.length_take]; omega
      obtain ⟨a1, a2, a3, _, _⟩ := valid_at hv n hl
      refine Ev.step (f := fun k => spec_l25At.l0 k l h (inside (l.take (n + 1)) h) ((n + 1 : Nat) : Int)) (fun k => ?_) (ih (n + 1) (by omega))
      simp only [spec_l25At.l0]
      rw [if_pos (by omega), if_pos (by omega), rdS l n hl, wrap_succ (by omega), wrap_id (x := inside (l.take n) h + 1) (by omega) (by omega), wrap_id (x := l[n].f1 - 1) (by omega) (by omega), inside_take_succ l h n hl]
      unfold spec_l1In.f
      by_cases e1 : l[n].f0 ≤ h
      · rw [if_pos (show h ≥ l[n].f0 from e1)]
        by_cases e2 : h < l[n].f1
        · rw [if_pos (show l[n].f0 ≤ h ∧ h < l[n].f1 from ⟨e1, e2⟩)]
          simp [show h ≤ l[n].f1 - 1 by omega]
        · rw [if_neg (show ¬ (l[n].f0 ≤ h ∧ h < l[n].f1) from fun z => e2 z.2)]
          simp [show ¬ h ≤ l[n].f1 - 1 by omega]
      · rw [if_neg (show ¬ h ≥ l[n].f0 from e1), if_neg (show ¬ (l[n].f0 ≤ h ∧ h < l[n].f1) from fun z => e1 z.1)]
        simp
  exact Ev.congr (f := fun k => spec_l25At.l0 k l h (inside (l.take 0) h) ((0 : Nat) : Int)) (fun k => rfl) (key l.length 0 (by omega))
theorem insideAt_ev (l : List Stay) (hv : valid l = true) (h : Int) : Ev (fun k => impl_insideAt.f k l h) (inside l h) := by
  have h20 := (valid_ok hv).2
  have key : ∀ (d n : Nat), n + d = l.length → Ev (fun k => impl_insideAt.l0 k h (inside (l.take n) h) l (l.length : Int) n) (inside l h) := by
    intro d
    induction d with
    | zero =>
      intro n hn
      obtain rfl : n = l.length := by omega
      refine Ev.step (f := fun _ => some _) (fun k => ?_) (Ev.now _)
      simp only [impl_insideAt.l0]; rw [if_neg (by omega), List.take_length]
    | succ d ih =>
      intro n hn
      have hl : n < l.length := by omega
      have hb := inside_le (l.take n) h
      have hb0 := inside_nonneg (l.take n) h
      have hb2 : (l.take n).length ≤ 20 := by rw [List.length_take]; omega
      refine Ev.step (f := fun k => impl_insideAt.l0 k h (inside (l.take (n + 1)) h) l (l.length : Int) ((n + 1 : Nat) : Int)) (fun k => ?_) (ih (n + 1) (by omega))
      simp only [impl_insideAt.l0]
      rw [if_pos (by omega), if_pos (by omega), if_pos (by omega), rdS l n hl, wrap_succ (by omega), wrap_id (x := inside (l.take n) h + 1) (by omega) (by omega), inside_take_succ l h n hl]
      by_cases e1 : l[n].f0 ≤ h
      · by_cases e2 : h < l[n].f1
        · rw [if_pos e1, if_pos e2, if_pos (show l[n].f0 ≤ h ∧ h < l[n].f1 from ⟨e1, e2⟩)]
        · rw [if_pos e1, if_neg e2, if_neg (show ¬ (l[n].f0 ≤ h ∧ h < l[n].f1) from fun z => e2 z.2)]; simp
      · rw [if_neg e1, if_neg (show ¬ (l[n].f0 ≤ h ∧ h < l[n].f1) from fun z => e1 z.1)]; simp
  exact Ev.congr (f := fun k => impl_insideAt.l0 k h (inside (l.take 0) h) l (l.length : Int) ((0 : Nat) : Int)) (fun k => rfl) (key l.length 0 (by omega))
/-- The busy hours from an hour on. -/
def busyStep (l : List Stay) (least : Int) (h : Int) (n : Int) : Int := if inside l h ≥ least then n + 1 else n
theorem specBusy_loop (l : List Stay) (hv : valid l = true) (least : Int) : ∀ (d : Nat) (h n : Int), h + d = 241 → 0 ≤ h → 0 ≤ n → n ≤ h → Ev (fun k => spec_BusyHours.l0 k l least n h) (loopN (busyStep l least) d h n, true) := by
  intro d
  induction d with
  | zero => intro h n e h0 n0 hn; exact Ev.step (f := fun _ => some _) (fun k => by simp only [spec_BusyHours.l0]; rw [if_neg (by omega)]; rfl) (Ev.now _)
  | succ d ih =>
    intro h n e h0 n0 hn
    refine Ev.step (f := fun k => (spec_l25At.f k l h).bind fun t => if t ≥ least then spec_BusyHours.l0 k l least (wrap64 (n + 1)) (wrap64 (h + 1)) else spec_BusyHours.l0 k l least n (wrap64 (h + 1))) (fun k => by simp only [spec_BusyHours.l0]; rw [if_pos (by omega)]) ?_
    refine Ev.bind (specAt_ev l hv h) ?_
    rw [wrap_id (x := n + 1) (by omega) (by omega), wrap_id (x := h + 1) (by omega) (by omega)]
    show Ev _ (loopN (busyStep l least) d (h + 1) (busyStep l least h n), true)
    unfold busyStep
    by_cases c : inside l h ≥ least
    · simp only [if_pos c]; exact ih (h + 1) (n + 1) (by omega) (by omega) (by omega) (by omega)
    · simp only [if_neg c]; exact ih (h + 1) n (by omega) (by omega) (by omega) (by omega)
theorem implBusy_loop (l : List Stay) (hv : valid l = true) (least : Int) : ∀ (d : Nat) (h n : Int), h + d = 241 → 0 ≤ h → 0 ≤ n → n ≤ h → Ev (fun k => impl_BusyHours.l0 k l least n h) (loopN (busyStep l least) d h n, true) := by
  intro d
  induction d with
  | zero => intro h n e h0 n0 hn; exact Ev.step (f := fun _ => some _) (fun k => by simp only [impl_BusyHours.l0]; rw [if_neg (by omega)]; rfl) (Ev.now _)
  | succ d ih =>
    intro h n e h0 n0 hn
    refine Ev.step (f := fun k => (impl_insideAt.f k l h).bind fun t => if t ≥ least then impl_BusyHours.l0 k l least (wrap64 (n + 1)) (wrap64 (h + 1)) else impl_BusyHours.l0 k l least n (wrap64 (h + 1))) (fun k => by simp only [impl_BusyHours.l0]; rw [if_pos (by omega)]) ?_
    refine Ev.bind (insideAt_ev l hv h) ?_
    rw [wrap_id (x := n + 1) (by omega) (by omega), wrap_id (x := h + 1) (by omega) (by omega)]
    show Ev _ (loopN (busyStep l least) d (h + 1) (busyStep l least h n), true)
    unfold busyStep
    by_cases c : inside l h ≥ least
    · simp only [if_pos c]; exact ih (h + 1) (n + 1) (by omega) (by omega) (by omega) (by omega)
    · simp only [if_neg c]; exact ih (h + 1) n (by omega) (by omega) (by omega) (by omega)
def busy (l : List Stay) (least : Int) : Int × Bool := if valid l = true ∧ 1 ≤ least ∧ least ≤ 20 then (loopN (busyStep l least) 241 0 0, true) else (0, false)
theorem specBusy_ev (l : List Stay) (h : l.length ≤ 1048576) (least : Int) : Ev (fun k => spec_BusyHours.f k l least) (busy l least) := by
  unfold spec_BusyHours.f
  refine Ev.bind (specGood_ev l h) ?_
  unfold busy
  by_cases hv : valid l = true
  · simp only [hv, if_true, true_and, spec_l1In.f]
    by_cases h1 : least ≥ 1
    · by_cases h2 : least ≤ 20
      · simp only [if_pos h1, Option.bind_some, h2, decide_true, Bool.not_true, if_pos (show 1 ≤ least ∧ least ≤ 20 from ⟨h1, h2⟩), and_true]
        exact Ev.step (f := fun k => spec_BusyHours.l0 k l least 0 0) (fun k => by simp [spec_BusyHours.j0]) (specBusy_loop l hv least 241 0 0 (by omega) (by omega) (by omega) (by omega))
      · simp only [if_pos h1, Option.bind_some, h2, decide_false, Bool.not_false, and_false, if_false]
        exact Ev.step (f := fun _ => some (0, false)) (fun k => by simp [spec_BusyHours.j0]) (Ev.now _)
    · simp only [if_neg h1, Option.bind_some, Bool.not_false, if_neg (show ¬ (1 ≤ least ∧ least ≤ 20) from fun z => h1 z.1)]
      exact Ev.step (f := fun _ => some (0, false)) (fun k => by simp [spec_BusyHours.j0]) (Ev.now _)
  · simp only [hv, false_and, if_false]
    exact Ev.step (f := fun _ => some (0, false)) (fun k => by simp [spec_BusyHours.j0]) (Ev.now _)
theorem implBusy_ev (l : List Stay) (least : Int) : Ev (fun k => impl_BusyHours.f k l least) (busy l least) := by
  unfold impl_BusyHours.f
  simp only [implValid, Option.bind_some]
  unfold busy
  by_cases hv : valid l = true
  · simp only [hv, if_true, true_and, impl_within.f]
    by_cases h1 : least ≥ 1
    · by_cases h2 : least ≤ 20
      · simp only [if_pos h1, Option.bind_some, h2, decide_true, Bool.not_true, if_pos (show 1 ≤ least ∧ least ≤ 20 from ⟨h1, h2⟩), and_true]
        exact Ev.step (f := fun k => impl_BusyHours.l0 k l least 0 0) (fun k => by simp [impl_BusyHours.j0]) (implBusy_loop l hv least 241 0 0 (by omega) (by omega) (by omega) (by omega))
      · simp only [if_pos h1, Option.bind_some, h2, decide_false, Bool.not_false, and_false, if_false]
        exact Ev.step (f := fun _ => some (0, false)) (fun k => by simp [impl_BusyHours.j0]) (Ev.now _)
    · simp only [if_neg h1, Option.bind_some, Bool.not_false, if_neg (show ¬ (1 ≤ least ∧ least ≤ 20) from fun z => h1 z.1)]
      exact Ev.step (f := fun _ => some (0, false)) (fun k => by simp [impl_BusyHours.j0]) (Ev.now _)
  · simp only [hv, false_and, if_false]
    exact Ev.step (f := fun _ => some (0, false)) (fun k => by simp [impl_BusyHours.j0]) (Ev.now _)
/-- The greatest hour so far, and how many there are. -/
def peakStep (l : List Stay) (h : Int) (p : Int × Int) : Int × Int := if inside l h > p.2 then (h, inside l h) else p
theorem specPeak_loop (l : List Stay) (hv : valid l = true) : ∀ (d : Nat) (h : Int) (p : Int × Int), h + d = 241 → 0 ≤ h → Ev (fun k => spec_PeakHour.l0 k l p.1 p.2 h) ((loopN (peakStep l) d h p).1, (loopN (peakStep l) d h p).2, true) := by
  intro d
  induction d with
  | zero => intro h p e h0; exact Ev.step (f := fun _ => some _) (fun k => by simp only [spec_PeakHour.l0]; rw [if_neg (by omega)]; rfl) (Ev.now _)
  | succ d ih =>
    intro h p e h0
    refine Ev.step (f := fun k => (spec_l25At.f k l h).bind fun t => if t > p.2 then spec_PeakHour.l0 k l h t (wrap64 (h + 1)) else spec_PeakHour.l0 k l p.1 p.2 (wrap64 (h + 1))) (fun k => by simp only [spec_PeakHour.l0]; rw [if_pos (by omega)]) ?_
    refine Ev.bind (specAt_ev l hv h) ?_
    rw [wrap_id (x := h + 1) (by omega) (by omega)]
    show Ev _ ((loopN (peakStep l) d (h + 1) (peakStep l h p)).1, (loopN (peakStep l) d (h + 1) (peakStep l h p)).2, true)
    have := ih (h + 1) (peakStep l h p) (by omega) (by omega)
    unfold peakStep at this ⊢
    by_cases c : inside l h > p.2
    · simp only [if_pos c] at this ⊢; exact this
    · simp only [if_neg c] at this ⊢; exact this
theorem implPeak_loop (l : List Stay) (hv : valid l = true) : ∀ (d : Nat) (h : Int) (p : Int × Int), h + d = 241 → 0 ≤ h → Ev (fun k => impl_PeakHour.l0 k l p.1 p.2 h) ((loopN (peakStep l) d h p).1, (loopN (peakStep l) d h p).2, true) := by
  intro d
  induction d with
  | zero => intro h p e h0; exact Ev.step (f := fun _ => some _) (fun k => by simp only [impl_PeakHour.l0]; rw [if_neg (by omega)]; rfl) (Ev.now _)
  | succ d ih =>
    intro h p e h0
    refine Ev.step (f := fun k => (impl_insideAt.f k l h).bind fun t => if t > p.2 then impl_PeakHour.l0 k l h t (wrap64 (h + 1)) else impl_PeakHour.l0 k l p.1 p.2 (wrap64 (h + 1))) (fun k => by simp only [impl_PeakHour.l0]; rw [if_pos (by omega)]) ?_
    refine Ev.bind (insideAt_ev l hv h) ?_
    rw [wrap_id (x := h + 1) (by omega) (by omega)]
    show Ev _ ((loopN (peakStep l) d (h + 1) (peakStep l h p)).1, (loopN (peakStep l) d (h + 1) (peakStep l h p)).2, true)
    have := ih (h + 1) (peakStep l h p) (by omega) (by omega)
    unfold peakStep at this ⊢
    by_cases c : inside l h > p.2
    · simp only [if_pos c] at this ⊢; exact this
    · simp only [if_neg c] at this ⊢; exact this
def peak (l : List Stay) : Int × Int × Bool := if valid l = true then ((loopN (peakStep l) 241 0 (0, 0)).1, (loopN (peakStep l) 241 0 (0, 0)).2, true) else (0, 0, false)
theorem specPeak_ev (l : List Stay) (h : l.length ≤ 1048576) : Ev (fun k => spec_PeakHour.f k l) (peak l) := by
  unfold spec_PeakHour.f
  refine Ev.bind (specGood_ev l h) ?_
  unfold peak
  by_cases hv : valid l = true
  · simp only [hv, if_true]; exact specPeak_loop l hv 241 0 (0, 0) (by omega) (by omega)
  · simp only [hv, if_false]; exact Ev.now _
theorem implPeak_ev (l : List Stay) : Ev (fun k => impl_PeakHour.f k l) (peak l) := by
  unfold impl_PeakHour.f
  simp only [implValid, Option.bind_some]
  unfold peak
  by_cases hv : valid l = true
  · simp only [hv, if_true]; exact implPeak_loop l hv 241 0 (0, 0) (by omega) (by omega)
  · simp only [hv, if_false]; exact Ev.now _
/-- A fraction of natural numbers in lowest terms. -/
def frac (a b : Nat) : Int × Int := (((a / Nat.gcd a b : Nat) : Int), ((b / Nat.gcd a b : Nat) : Int))
theorem gcd_turn (x y : Nat) : Nat.gcd x y = Nat.gcd y (x % y) := by rw [Nat.gcd_comm x y, Nat.gcd_rec y x, Nat.gcd_comm]
theorem specCommon_loop : ∀ (m y x : Nat), y ≤ m → Ev (fun k => spec_l15Common.l0 k (x : Int) (y : Int)) (Nat.gcd x y : Int) := by
  intro m
  induction m with
  | zero =>
    intro y x hy
    obtain rfl : y = 0 := by omega
    exact Ev.step (f := fun _ => some _) (fun k => by simp only [spec_l15Common.l0]; rw [if_pos (show ((0 : Nat) : Int) = 0 from rfl), Nat.gcd_zero_right]) (Ev.now _)
  | succ m ih =>
    intro y x hy
    by_cases e : y = 0
    · subst e
      exact Ev.step (f := fun _ => some _) (fun k => by simp only [spec_l15Common.l0]; rw [if_pos (show ((0 : Nat) : Int) = 0 from rfl), Nat.gcd_zero_right]) (Ev.now _)
    · rw [gcd_turn]
      exact Ev.step (f := fun k => spec_l15Common.l0 k (y : Int) ((x % y : Nat) : Int)) (fun k => by simp only [spec_l15Common.l0]; rw [if_neg (by omega)]; rfl) (ih (x % y) y (by have := Nat.mod_lt x (show 0 < y by omega); omega))
theorem specReduce_ev (a b : Nat) (ha : a ≤ 9223372036854775807) (hb : b ≤ 9223372036854775807) (h0 : 0 < b) : Ev (fun k => spec_l15Reduce.f k (a : Int) (b : Int)) (frac a b) := by
  unfold spec_l15Reduce.f
  have hg : 0 < Nat.gcd a b := Nat.gcd_pos_of_pos_right a h0
  refine Ev.bind (a := (Nat.gcd a b : Int)) ?_ ?_
  · unfold spec_l15Common.f spec_l1Most.f
    have e1 : (if (a : Int) > wrap64 (-(a : Int)) then some (a : Int) else some (wrap64 (-(a : Int)))) = some (a : Int) := by
      rw [wrap_id (by omega) (by omega)]
      by_cases z : a = 0
      · subst z; simp
      · rw [if_pos (by omega)]
    have e2 : (if (b : Int) > wrap64 (-(b : Int)) then some (b : Int) else some (wrap64 (-(b : Int)))) = some (b : Int) := by
      rw [wrap_id (by omega) (by omega), if_pos (by omega)]
    rw [e1, e2]
    simp only [Option.bind_some]
    exact specCommon_loop b b a (Nat.le_refl _)
  · simp only [if_neg (show ¬ (Nat.gcd a b : Int) = 0 by omega)]
    have d1 : Int.tdiv (a : Int) (Nat.gcd a b : Int) = ((a / Nat.gcd a b : Nat) : Int) := rfl
    have d2 : Int.tdiv (b : Int) (Nat.gcd a b : Int) = ((b / Nat.gcd a b : Nat) : Int) := rfl
    have l1 : a / Nat.gcd a b ≤ a := Nat.div_le_self _ _
    have l2 : b / Nat.gcd a b ≤ b := Nat.div_le_self _ _
    rw [d1, d2, wrap_nat _ (Nat.le_trans l1 ha), wrap_nat _ (Nat.le_trans l2 hb)]
    exact Ev.now _
theorem implFraction_ev (a b : Nat) (ha : a ≤ 9223372036854775807) (hb : b ≤ 9223372036854775807) (h0 : 0 < b) : Ev (fun k => impl_fraction.f k (a : Int) (b : Int)) (frac a b) := by
  have key : ∀ (m y x : Nat), y ≤ m → Nat.gcd x y = Nat.gcd a b → Ev (fun k => impl_fraction.l0 k (a : Int) (b : Int) (x : Int) (y : Int)) (frac a b) := by
    intro m
    have hg : 0 < Nat.gcd a b := Nat.gcd_pos_of_pos_right a h0
    have stop : ∀ x : Nat, Nat.gcd x 0 = Nat.gcd a b → Ev (fun k => impl_fraction.l0 k (a : Int) (b : Int) (x : Int) (0 : Nat)) (frac a b) := by
      intro x hx
      rw [Nat.gcd_zero_right] at hx
      subst hx
      refine Ev.step (f := fun _ => some (frac a b)) (fun k => ?_) (Ev.now _)
      simp only [impl_fraction.l0]
      rw [if_pos (show ((0 : Nat) : Int) = 0 from rfl)]
      have n1 : ¬ ((Nat.gcd a b : Nat) : Int) < 0 := by omega
      have n2 : ¬ (b : Int) < 0 := by omega
      have n3 : ¬ ((Nat.gcd a b : Nat) : Int) = 0 := by omega
      simp only [n1, n2, n3, decide_false, bne_self_eq_false, Bool.false_eq_true, if_false]
      have d1 : Int.tdiv (a : Int) (Nat.gcd a b : Int) = ((a / Nat.gcd a b : Nat) : Int) := rfl
      have d2 : Int.tdiv (b : Int) (Nat.gcd a b : Int) = ((b / Nat.gcd a b : Nat) : Int) := rfl
      have l1 : a / Nat.gcd a b ≤ a := Nat.div_le_self _ _
      have l2 : b / Nat.gcd a b ≤ b := Nat.div_le_self _ _
      rw [d1, d2, wrap_nat _ (Nat.le_trans l1 ha), wrap_nat _ (Nat.le_trans l2 hb)]
      rfl
    induction m with
    | zero =>
      intro y x hy hx
      obtain rfl : y = 0 := by omega
      exact stop x hx
    | succ m ih =>
      intro y x hy hx
      by_cases e : y = 0
      · subst e; exact stop x hx
      · exact Ev.step (f := fun k => impl_fraction.l0 k (a : Int) (b : Int) (y : Int) ((x % y : Nat) : Int)) (fun k => by simp only [impl_fraction.l0]; rw [if_neg (by omega)]; rfl) (ih (x % y) y (by have := Nat.mod_lt x (show 0 < y by omega); omega) (by rw [← gcd_turn]; exact hx))
  exact Ev.congr (fun k => rfl) (key b b a (Nat.le_refl _) rfl)
end Go.Proofs.Ytolaplcjbmjlmaa.X

/- Means and occupancies of stays, in plain Lean; and the end that the laws on lists of stays share. -/
namespace Go.Proofs.Ytolaplcjbmjlmaa.X
open Go.RowKit Go.Proofs.YtolaplcjbmjlmaaW.PrintWords Go.Proofs.YtolaplcjbmjlmaaW.PrintMore Go.Proofs.YtolaplcjbmjlmaaL
set_option linter.unusedVariables false
set_option linter.unusedSimpArgs false
theorem tail_ev (l : List LStay) (h : l.length ≤ 1048576) : Ev (fun k => (laws_toStayS.f k l).bind fun t => (laws_eqStayS.f k (l.map conv) t).bind fun t2 => if t2 = true then some true else some false) true :=
  Ev.bind (toStayS_ev l h) (Ev.bind (eqStayS_ev _ (by simpa using h)) (Ev.now _))
/-- The hours of a stay within [f, t). -/
def ov (s : Stay) (f t : Int) : Int := mx 0 (mn s.f1 t - mx s.f0 f)
theorem ov_end (s : Stay) (t : Int) : ov s t t = 0 := by unfold ov mx mn; repeat' split <;> omega
theorem ov_step (s : Stay) (f t : Int) (h : f < t) : ov s f t = (if s.f0 ≤ f ∧ f < s.f1 then 1 else 0) + ov s (f + 1) t := by
  unfold ov mx mn
  by_cases e : s.f0 ≤ f ∧ f < s.f1
  · rw [if_pos e]; repeat' split <;> omega
  · rw [if_neg e]; repeat' split <;> omega
theorem sum_add {α : Type} (f g : α → Int) : ∀ l : List α, (l.map fun x => f x + g x).sum = (l.map f).sum + (l.map g).sum
  | [] => rfl
  | x :: l => by simp only [List.map_cons, List.sum_cons, sum_add f g l]; omega
theorem inside_sum (h : Int) : ∀ l : List Stay, inside l h = (l.map fun s => if s.f0 ≤ h ∧ h < s.f1 then (1 : Int) else 0).sum
  | [] => rfl
  | s :: l => by
    have ih := inside_sum h l
    unfold inside at ih ⊢
    rw [List.countP_cons, List.map_cons, List.sum_cons, ← ih]
    by_cases e : s.f0 ≤ h ∧ h < s.f1
    · rw [if_pos e, if_pos (by simp [e.1, e.2])]; omega
    · rw [if_neg e, if_neg (by simpa using e)]; omega
theorem occ_sum (l : List Stay) : ∀ (d : Nat) (f n : Int), loopN (fun h n => n + inside l h) d f n = n + (l.map fun s => ov s f (f + d)).sum := by
  intro d
  induction d with
  | zero =>
    intro f n
    have : (l.map fun s => ov s f (f + (0 : Nat))).sum = 0 := by
      have e : (l.map fun s => ov s f (f + (0 : Nat))) = l.map fun _ => (0 : Int) := List.map_congr_left fun s _ => by simpa using ov_end s f
      rw [e]
      induction l with
      | nil => rfl
      | cons _ _ ih => simpa using ih (List.map_congr_left fun s _ => by simpa using ov_end s f)
    rw [this]; simp [loopN]
  | succ d ih =>
    intro f n
    show loopN _ d (f + 1) (n + inside l f) = _
    rw [ih, inside_sum]
    have e : (l.map fun s => ov s f (f + ((d + 1 : Nat) : Int))) = l.map fun s => (if s.f0 ≤ f ∧ f < s.f1 then (1 : Int) else 0) + ov s (f + 1) (f + 1 + d) := List.map_congr_left fun s _ => by
      rw [ov_step s f _ (by omega), show f + ((d + 1 : Nat) : Int) = f + 1 + d by omega]
    rw [e, sum_add]; omega
theorem sum_bound {l : List Int} {b : Int} (hb : ∀ x ∈ l, 0 ≤ x ∧ x ≤ b) : 0 ≤ l.sum ∧ l.sum ≤ b * l.length := by
  induction l with
  | nil => simp
  | cons x l ih =>
    have h1 := hb x (by simp)
    have h2 := ih (fun y hy => hb y (by simp [hy]))
    rw [List.sum_cons, List.length_cons]
    have e : b * ((l.length + 1 : Nat) : Int) = b * (l.length : Int) + b := by rw [Int.natCast_add, Int.mul_add]; simp
    omega
theorem sum_take_succ (l : List Int) (n : Nat) (h : n < l.length) : (l.take (n + 1)).sum = (l.take n).sum + l[n] := by
  rw [List.take_succ_eq_append_getElem h, List.sum_append]; simp
theorem take_bound {l : List Int} {b : Int} (n : Nat) (hl : l.length ≤ 20) (hb : ∀ x ∈ l, 0 ≤ x ∧ x ≤ b) (h0 : 0 ≤ b) : 0 ≤ (l.take n).sum ∧ (l.take n).sum ≤ b * 20 := by
  have h := sum_bound (l := l.take n) (b := b) (fun x hx => hb x (List.mem_of_mem_take hx))
  have hle : ((l.take n).length : Int) ≤ 20 := by rw [List.length_take]; omega
  have := Int.mul_le_mul_of_nonneg_left hle h0
  omega
def hours (l : List Stay) : List Int := l.map fun s => s.f1 - s.f0
theorem hours_bound {l : List Stay} (hv : valid l = true) : ∀ x ∈ hours l, 0 ≤ x ∧ x ≤ 240 := by
  intro x hx
  obtain ⟨s, hs, rfl⟩ := List.mem_map.1 hx
  have := (okStay_iff s).1 ((valid_ok hv).1 s hs)
  omega
theorem hours_length (l : List Stay) : (hours l).length = l.length := by simp [hours]
theorem hours_take_succ (l : List Stay) (n : Nat) (h : n < l.length) : (hours l).take n ++ [l[n].f1 - l[n].f0] = (hours l).take (n + 1) := by
  rw [List.take_succ_eq_append_getElem (by rw [hours_length]; exact h)]; simp [hours]
theorem specHours_ev (l : List Stay) (hv : valid l = true) : Ev (fun k => spec_l25Hours.f k l) (hours l) := by
  have h20 := (valid_ok hv).2
  have key : ∀ (d n : Nat), n + d = l.length → Ev (fun k => spec_l25Hours.l0 k l ((hours l).take n) n) (hours l) := by
    intro d
    induction d with
    | zero =>
      intro n hn
      obtain rfl : n = l.length := by omega
      exact Ev.step (f := fun _ => some _) (fun k => by simp only [spec_l25Hours.l0]; rw [if_neg (by omega), List.take_of_length_le (by rw [hours_length]; omega)]) (Ev.now _)
    | succ d ih =>
      intro n hn
      have hl : n < l.length := by omega
      obtain ⟨a1, a2, a3, _, _⟩ := valid_at hv n hl
      refine Ev.step (f := fun k => spec_l25Hours.l0 k l ((hours l).take (n + 1)) ((n + 1 : Nat) : Int)) (fun k => ?_) (ih (n + 1) (by omega))
      simp only [spec_l25Hours.l0]
      rw [if_pos (by omega), if_pos (by omega), rdS l n hl, wrap_succ (by omega), wrap_id (x := l[n].f1 - l[n].f0) (by omega) (by omega), hours_take_succ l n hl, if_pos (by rw [List.length_take, hours_length]; omega)]
  exact Ev.congr (f := fun k => spec_l25Hours.l0 k l ((hours l).take 0) ((0 : Nat) : Int)) (fun k => rfl) (key l.length 0 (by omega))
theorem implHours_ev (l : List Stay) (hv : valid l = true) : Ev (fun k => impl_lengthsOf.f k l) (hours l) := by
  have h20 := (valid_ok hv).2
  have key : ∀ (d n : Nat), n + d = l.length → Ev (fun k => impl_lengthsOf.l0 k ((hours l).take n) l (l.length : Int) n) (hours l) := by
    intro d
    induction d with
    | zero =>
      intro n hn
      obtain rfl : n = l.length := by omega
      exact Ev.step (f := fun _ => some _) (fun k => by simp only [impl_lengthsOf.l0]; rw [if_neg (by omega), List.take_of_length_le (by rw [hours_length]; omega)]) (Ev.now _)
    | succ d ih =>
      intro n hn
      have hl : n < l.length := by omega
      obtain ⟨a1, a2, a3, _, _⟩ := valid_at hv n hl
      refine Ev.step (f := fun k => impl_lengthsOf.l0 k ((hours l).take (n + 1)) l (l.length : Int) ((n + 1 : Nat) : Int)) (fun k => ?_) (ih (n + 1) (by omega))
      simp only [impl_lengthsOf.l0]
      rw [if_pos (by omega), if_pos (by omega), if_pos (by omega), rdS l n hl, wrap_succ (by omega), wrap_id (x := l[n].f1 - l[n].f0) (by omega) (by omega), hours_take_succ l n hl, if_pos (by rw [List.length_take, hours_length]; omega)]
  exact Ev.congr (f := fun k => impl_lengthsOf.l0 k ((hours l).take 0) l (l.length : Int) ((0 : Nat) : Int)) (fun k => rfl) (key l.length 0 (by omega))
theorem implSum_ev (l : List Int) (h20 : l.length ≤ 20) (hb : ∀ x ∈ l, 0 ≤ x ∧ x ≤ 240) : Ev (fun k => impl_sumOf.f k l) l.sum := by
  have key : ∀ (d n : Nat), n + d = l.length → Ev (fun k => impl_sumOf.l0 k (l.take n).sum l (l.length : Int) n) l.sum := by
    intro d
    induction d with
    | zero =>
      intro n hn
      obtain rfl : n = l.length := by omega
      exact Ev.step (f := fun _ => some _) (fun k => by simp only [impl_sumOf.l0]; rw [if_neg (by omega), List.take_length]) (Ev.now _)
    | succ d ih =>
      intro n hn
      have hl : n < l.length := by omega
      have h1 := take_bound (n + 1) h20 hb (by omega)
      rw [sum_take_succ l n hl] at h1
      refine Ev.step (f := fun k => impl_sumOf.l0 k (l.take (n + 1)).sum l (l.length : Int) ((n + 1 : Nat) : Int)) (fun k => ?_) (ih (n + 1) (by omega))
      simp only [impl_sumOf.l0]
      rw [if_pos (by omega), if_pos (by omega), if_pos (by omega), rd_at l n hl, wrap_succ (by omega), sum_take_succ l n hl, wrap_id (by omega) (by omega)]
  exact Ev.congr (f := fun k => impl_sumOf.l0 k (l.take 0).sum l (l.length : Int) ((0 : Nat) : Int)) (fun k => rfl) (key l.length 0 (by omega))
def mean (l : List Stay) : Int × Int × Bool := if valid l = true ∧ l.length ≠ 0 then ((frac (hours l).sum.toNat l.length).1, (frac (hours l).sum.toNat l.length).2, true) else (0, 0, false)
theorem hours_sum {l : List Stay} (hv : valid l = true) : 0 ≤ (hours l).sum ∧ (hours l).sum ≤ 4800 := by
  have h := take_bound (l := hours l) (hours l).length (by rw [hours_length]; exact (valid_ok hv).2) (hours_bound hv) (by omega)
  rw [List.take_length] at h; omega
theorem specMean_ev (l : List Stay) (h : l.length ≤ 1048576) : Ev (fun k => spec_MeanStay.f k l) (mean l) := by
  unfold spec_MeanStay.f
  refine Ev.bind (specGood_ev l h) ?_
  unfold mean
  by_cases hv : valid l = true
  · by_cases h0 : l.length = 0
    · simp only [hv, if_true, h0, ne_eq, not_true, and_false, if_false]
      exact Ev.step (f := fun _ => some (0, 0, false)) (fun k => by simp [spec_MeanStay.j0]) (Ev.now _)
    · have hn : ((l.length : Int) == 0) = false := by simp; exact fun z => h0 (by simp [z])
      simp only [hv, if_true, hn, ne_eq, h0, not_false_eq_true, and_self]
      refine Ev.step (f := fun k => (spec_l25Hours.f k l).bind fun t => spec_MeanStay.l0 k 0 t 0) (fun k => by simp [spec_MeanStay.j0]) ?_
      refine Ev.bind (specHours_ev l hv) ?_
      have h20 := (valid_ok hv).2
      have hl := hours_length l
      have hs := hours_sum hv
      have key : ∀ (d n : Nat), n + d = l.length → Ev (fun k => spec_MeanStay.l0 k ((hours l).take n).sum (hours l) n) ((frac (hours l).sum.toNat l.length).1, (frac (hours l).sum.toNat l.length).2, true) := by
        intro d
        induction d with
        | zero =>
          intro n hn
          obtain rfl : n = l.length := by omega
          refine Ev.step (f := fun k => (spec_l15Reduce.f k (((hours l).sum.toNat : Nat) : Int) (l.length : Int)).bind fun b => some (b.1, b.2, true)) (fun k => ?_) (Ev.bind (specReduce_ev _ _ (by omega) (by omega) (by omega)) (Ev.now _))
          simp only [spec_MeanStay.l0]
          rw [if_neg (by omega), List.take_of_length_le (by omega), hl, Int.toNat_of_nonneg hs.1]
        | succ d ih =>
          intro n hn
          have hl2 : n < (hours l).length := by omega
          have h1 := take_bound (l := hours l) (n + 1) (by omega) (hours_bound hv) (by omega)
          rw [sum_take_succ _ n hl2] at h1
          refine Ev.step (f := fun k => spec_MeanStay.l0 k ((hours l).take (n + 1)).sum (hours l) ((n + 1 : Nat) : Int)) (fun k => ?_) (ih (n + 1) (by omega))
          simp only [spec_MeanStay.l0]
          rw [if_pos (by omega), if_pos (by omega), rd_at _ n hl2, wrap_succ (by omega), sum_take_succ _ n hl2, wrap_id (by omega) (by omega)]
      exact Ev.congr (fun k => rfl) (key l.length 0 (by omega))
  · simp only [hv, false_and, if_false]
    exact Ev.step (f := fun _ => some (0, 0, false)) (fun k => by simp [spec_MeanStay.j0]) (Ev.now _)
theorem implMean_ev (l : List Stay) : Ev (fun k => impl_MeanStay.f k l) (mean l) := by
  unfold impl_MeanStay.f
  simp only [implValid, Option.bind_some]
  unfold mean
  by_cases hv : valid l = true
  · by_cases h0 : l.length = 0
    · simp only [hv, if_true, h0, ne_eq, not_true, and_false, if_false]
      exact Ev.step (f := fun _ => some (0, 0, false)) (fun k => by simp [impl_MeanStay.j0]) (Ev.now _)
    · have hn : ((l.length : Int) == 0) = false := by simp; exact fun z => h0 (by simp [z])
      simp only [hv, if_true, hn, ne_eq, h0, not_false_eq_true, and_self]
      refine Ev.step (f := fun k => (impl_lengthsOf.f k l).bind fun t => (impl_sumOf.f k t).bind fun s => (impl_fraction.f k s (l.length : Int)).bind fun b => some (b.1, b.2, true)) (fun k => by simp [impl_MeanStay.j0]) ?_
      refine Ev.bind (implHours_ev l hv) ?_
      have h20 := (valid_ok hv).2
      have hs := hours_sum hv
      refine Ev.bind (implSum_ev _ (by rw [hours_length]; exact h20) (hours_bound hv)) ?_
      have e : (hours l).sum = ((hours l).sum.toNat : Nat) := (Int.toNat_of_nonneg hs.1).symm
      generalize (hours l).sum.toNat = m at e ⊢
      rw [e] at hs ⊢
      exact Ev.bind (implFraction_ev _ _ (by omega) (by omega) (by omega)) (Ev.now _)
  · simp only [hv, false_and, if_false]
    exact Ev.step (f := fun _ => some (0, 0, false)) (fun k => by simp [impl_MeanStay.j0]) (Ev.now _)
/-! Occupancy. -/
def occOk (l : List Stay) (f t p : Int) : Prop := valid l = true ∧ 0 ≤ f ∧ f < t ∧ t ≤ 240 ∧ 1 ≤ p ∧ p ≤ 1000
instance (l : List Stay) (f t p : Int) : Decidable (occOk l f t p) := inferInstanceAs (Decidable (_ ∧ _))
def ovs (l : List Stay) (f t : Int) : List Int := l.map fun s => ov s f t
def occ (l : List Stay) (f t p : Int) : Int × Int × Bool := if occOk l f t p then ((frac (ovs l f t).sum.toNat (p * (t - f)).toNat).1, (frac (ovs l f t).sum.toNat (p * (t - f)).toNat).2, true) else (0, 0, false)
theorem ovs_bound {l : List Stay} {f t p : Int} (h : occOk l f t p) : ∀ x ∈ ovs l f t, 0 ≤ x ∧ x ≤ 240 := by
  intro x hx
  obtain ⟨s, hs, rfl⟩ := List.mem_map.1 hx
  have := (okStay_iff s).1 ((valid_ok h.1).1 s hs)
  obtain ⟨_, h1, h2, h3, _, _⟩ := h
  unfold ov mx mn
  repeat' split <;> omega
theorem ovs_sum {l : List Stay} {f t p : Int} (h : occOk l f t p) : 0 ≤ (ovs l f t).sum ∧ (ovs l f t).sum ≤ 4800 := by
  have h1 := take_bound (l := ovs l f t) (ovs l f t).length (by simpa [ovs] using (valid_ok h.1).2) (ovs_bound h) (by omega)
  rw [List.take_length] at h1; omega
theorem occ_den {l : List Stay} {f t p : Int} (h : occOk l f t p) : 0 < p * (t - f) ∧ p * (t - f) ≤ 240000 := by
  obtain ⟨_, h1, h2, h3, h4, h5⟩ := h
  have a : 0 < p * (t - f) := Int.mul_pos (by omega) (by omega)
  have b : p * (t - f) ≤ 1000 * (t - f) := Int.mul_le_mul_of_nonneg_right h5 (by omega)
  omega
theorem specOcc_ev (l : List Stay) (hl : l.length ≤ 1048576) (f t p : Int) : Ev (fun k => spec_Occupancy.f k l f t p) (occ l f t p) := by
  have no : ∀ {x : Bool}, x = true → ¬ occOk l f t p → Ev (fun k => spec_Occupancy.j0 k l f t p x) (occ l f t p) := by
    intro x hx h; subst hx; unfold occ; rw [if_neg h]
    exact Ev.step (f := fun _ => some (0, 0, false)) (fun k => by simp [spec_Occupancy.j0]) (Ev.now _)
  unfold spec_Occupancy.f
  refine Ev.bind (specGood_ev l hl) ?_
  by_cases hv : valid l = true
  · simp only [hv, if_true]
    by_cases h1 : f < 0
    · simp only [if_pos h1]; exact no rfl (fun h => by have := h.2.1; omega)
    · by_cases h2 : f ≥ t
      · simp only [if_neg h1, if_pos h2]; exact no rfl (fun h => by have := h.2.2.1; omega)
      · by_cases h3 : t > 240
        · simp only [if_neg h1, if_neg h2, if_pos h3]; exact no rfl (fun h => by have := h.2.2.2.1; omega)
        · simp only [if_neg h1, if_neg h2, if_neg h3, spec_l1In.f]
          by_cases h4 : p ≥ 1
          · by_cases h5 : p ≤ 1000
            · have hok : occOk l f t p := ⟨hv, by omega, by omega, by omega, h4, h5⟩
              simp only [if_pos h4, h5, decide_true, Option.bind_some, Bool.not_true]
              refine Ev.step (f := fun k => spec_Occupancy.l0 k l f t p 0 f) (fun k => by simp [spec_Occupancy.j0]) ?_
              have hs := ovs_sum hok
              have hd := occ_den hok
              have key : ∀ (d : Nat) (h n : Int), h + d = t → f ≤ h → 0 ≤ n → n ≤ 20 * (h - f) → loopN (fun h n => n + inside l h) d h n = (ovs l f t).sum → Ev (fun k => spec_Occupancy.l0 k l f t p n h) (occ l f t p) := by
                intro d
                induction d with
                | zero =>
                  intro h n e hf n0 hn hsum
                  have hsum : n = (ovs l f t).sum := hsum
                  unfold occ; rw [if_pos hok]
                  refine Ev.step (f := fun k => (spec_l15Reduce.f k (((ovs l f t).sum.toNat : Nat) : Int) (((p * (t - f)).toNat : Nat) : Int)).bind fun b => some (b.1, b.2, true)) (fun k => ?_) (Ev.bind (specReduce_ev _ _ (by omega) (by omega) (by omega)) (Ev.now _))
                  simp only [spec_Occupancy.l0]
                  rw [if_neg (by omega), hsum, wrap_id (x := t - f) (by omega) (by omega), wrap_id (x := p * (t - f)) (by omega) (by omega), Int.toNat_of_nonneg hs.1, Int.toNat_of_nonneg (by omega)]
                | succ d ih =>
                  intro h n e hf n0 hn hsum
                  have a1 := inside_le l h
                  have a0 := inside_nonneg l h
                  have h20 := (valid_ok hv).2
                  refine Ev.step (f := fun k => (spec_l25At.f k l h).bind fun x => spec_Occupancy.l0 k l f t p (wrap64 (n + x)) (wrap64 (h + 1))) (fun k => by simp only [spec_Occupancy.l0]; rw [if_pos (by omega)]) ?_
                  refine Ev.bind (specAt_ev l hv h) ?_
                  rw [wrap_id (x := n + inside l h) (by omega) (by omega), wrap_id (x := h + 1) (by omega) (by omega)]
                  exact ih (h + 1) (n + inside l h) (by omega) (by omega) (by omega) (by omega) hsum
              refine key (t - f).toNat f 0 (by omega) (by omega) (by omega) (by omega) ?_
              rw [occ_sum, show f + ((t - f).toNat : Int) = t by omega]
              simp [ovs]
            · simp only [if_pos h4, h5, decide_false, Option.bind_some, Bool.not_false]; exact no rfl (fun h => by have := h.2.2.2.2.2; omega)
          · simp only [if_neg h4, Option.bind_some, Bool.not_false]; exact no rfl (fun h => by have := h.2.2.2.2.1; omega)
  · simp only [hv, if_false]; exact no rfl (fun h => hv h.1)
theorem implOcc_ev (l : List Stay) (f t p : Int) : Ev (fun k => impl_Occupancy.f k l f t p) (occ l f t p) := by
  have no : ∀ {x : Bool}, x = true → ¬ occOk l f t p → Ev (fun k => impl_Occupancy.j0 k l f t p x) (occ l f t p) := by
    intro x hx h; subst hx; unfold occ; rw [if_neg h]
    exact Ev.step (f := fun _ => some (0, 0, false)) (fun k => by simp [impl_Occupancy.j0]) (Ev.now _)
  unfold impl_Occupancy.f
  simp only [implValid, Option.bind_some]
  by_cases hv : valid l = true
  · simp only [hv, if_true]
    by_cases h1 : f < 0
    · simp only [if_pos h1]; exact no rfl (fun h => by have := h.2.1; omega)
    · by_cases h2 : f ≥ t
      · simp only [if_neg h1, if_pos h2]; exact no rfl (fun h => by have := h.2.2.1; omega)
      · by_cases h3 : t > 240
        · simp only [if_neg h1, if_neg h2, if_pos h3]; exact no rfl (fun h => by have := h.2.2.2.1; omega)
        · simp only [if_neg h1, if_neg h2, if_neg h3, impl_within.f]
          by_cases h4 : p ≥ 1
          · by_cases h5 : p ≤ 1000
            · have hok : occOk l f t p := ⟨hv, by omega, by omega, by omega, h4, h5⟩
              simp only [if_pos h4, h5, decide_true, Option.bind_some, Bool.not_true]
              refine Ev.step (f := fun k => impl_Occupancy.l0 k f t p 0 l (l.length : Int) 0) (fun k => by simp [impl_Occupancy.j0]) ?_
              have hs := ovs_sum hok
              have hd := occ_den hok
              have h20 := (valid_ok hv).2
              have hlen : (ovs l f t).length = l.length := by simp [ovs]
              have key : ∀ (d n : Nat), n + d = l.length → Ev (fun k => impl_Occupancy.l0 k f t p ((ovs l f t).take n).sum l (l.length : Int) n) (occ l f t p) := by
                intro d
                induction d with
                | zero =>
                  intro n hn
                  obtain rfl : n = l.length := by omega
                  unfold occ; rw [if_pos hok]
                  refine Ev.step (f := fun k => (impl_fraction.f k (((ovs l f t).sum.toNat : Nat) : Int) (((p * (t - f)).toNat : Nat) : Int)).bind fun b => some (b.1, b.2, true)) (fun k => ?_) (Ev.bind (implFraction_ev _ _ (by omega) (by omega) (by omega)) (Ev.now _))
                  simp only [impl_Occupancy.l0]
                  rw [if_neg (by omega), List.take_of_length_le (by omega), wrap_id (x := t - f) (by omega) (by omega), wrap_id (x := p * (t - f)) (by omega) (by omega), Int.toNat_of_nonneg hs.1, Int.toNat_of_nonneg (by omega)]
                | succ d ih =>
                  intro n hn
                  have hl2 : n < l.length := by omega
                  have hl3 : n < (ovs l f t).length := by omega
                  have e1 : (ovs l f t)[n] = ov l[n] f t := by simp [ovs]
                  have h1 := take_bound (l := ovs l f t) (n + 1) (by omega) (ovs_bound hok) (by omega)
                  rw [sum_take_succ _ n hl3] at h1
                  have hv2 := valid_at hv n hl2
                  refine Ev.step (f := fun k => impl_Occupancy.l0 k f t p ((ovs l f t).take (n + 1)).sum l (l.length : Int) ((n + 1 : Nat) : Int)) (fun k => ?_) (ih (n + 1) (by omega))
                  simp only [impl_Occupancy.l0]
                  have e2 : wrap64 (mn l[n].f1 t - mx l[n].f0 f) = mn l[n].f1 t - mx l[n].f0 f := wrap_id (by unfold mn mx; repeat' split <;> omega) (by unfold mn mx; repeat' split <;> omega)
                  rw [if_pos (by omega), if_pos (by omega), if_pos (by omega), rdS l n hl2, wrap_succ (by omega), e2]
                  have e3 : mx 0 (mn l[n].f1 t - mx l[n].f0 f) = (ovs l f t)[n] := by rw [e1]; rfl
                  rw [e3, sum_take_succ _ n hl3, wrap_id (by omega) (by omega)]
              exact Ev.congr (fun k => rfl) (key l.length 0 (by omega))
            · simp only [if_pos h4, h5, decide_false, Option.bind_some, Bool.not_false]; exact no rfl (fun h => by have := h.2.2.2.2.2; omega)
          · simp only [if_neg h4, Option.bind_some, Bool.not_false]; exact no rfl (fun h => by have := h.2.2.2.2.1; omega)
  · simp only [hv, if_false]; exact no rfl (fun h => hv h.1)
end Go.Proofs.Ytolaplcjbmjlmaa.X

/- PeakHour of the program and of the reference answer alike, whatever the arguments. -/
namespace Go.Proofs.Ytolaplcjbmjlmaa.Pure
open Go.RowKit Go.Proofs.YtolaplcjbmjlmaaW.PrintWords Go.Proofs.YtolaplcjbmjlmaaL Go.Proofs.Ytolaplcjbmjlmaa.X
theorem FnExactPeakHour : OFnExactPeakHour.Pure := by
  intro l hl 
  refine ev_rounds ?_
  by_cases hb : l.length ≤ 1048576
  · unfold laws_FnExactPeakHour.f
    simp only [szStayS_ok l hb, Option.bind_some, if_neg (show ¬ (1048576 - (l.length : Int)) < 0 by omega)]
    have hm : (l.map conv).length ≤ 1048576 := by simpa using hb
    refine Ev.bind (toStayS_ev l hb) ?_
    refine Ev.bind (specPeak_ev _ hm) ?_
    refine Ev.bind (toStayS_ev l hb) ?_
    refine Ev.bind (implPeak_ev _) ?_
    simp only [bne_self_eq_false, if_true]
    refine Ev.step (f := fun k => (laws_toStayS.f k l).bind fun t => (laws_eqStayS.f k (l.map conv) t).bind fun t2 => if t2 = true then some true else some false) (fun k => ?_) (tail_ev l hb)
    simp only [laws_FnExactPeakHour.j0]
    rw [if_neg (by decide)]
  · refine ev_eq (fun k => ?_)
    unfold laws_FnExactPeakHour.f
    rw [szStayS_big l (by omega) hl.2.1]
    rfl
end Go.Proofs.Ytolaplcjbmjlmaa.Pure


namespace Go.Proofs.Ytolaplcjbmjlmaa.fnExactPeakHour
open Go.ChangeShapes Go.WideShapes Go.ChangeAt Go.RowKit
open Go.ChangeMaps (open_string shut_string)
open Go.Joins
open Go.Proofs.YtolaplcjbmjlmaaW.PrintWords Go.Proofs.YtolaplcjbmjlmaaW.PrintLast Go.Proofs.YtolaplcjbmjlmaaW.PrintMore
open Go.Proofs.YtolaplcjbmjlmaaZ Go.Proofs.Ytolaplcjbmjlmaa.X Go.Proofs.Ytolaplcjbmjlmaa.X.OFnExactPeakHour
set_option linter.unusedVariables false
set_option linter.unusedSimpArgs false
theorem own : ownKnob Try.prog.godebug = none := by kernel_rfl
theorem laidOut : laidOutB Try.prog = true := by kernel_rfl
set_option maxRecDepth 100000 in
set_option maxHeartbeats 2000000 in
theorem lifted (os : Os) (started : os.Started) (H : Type) (enc : TypeId × Value → H) :
    ReturnsInHanded {} Try.checked os 6 .any (Rows.fnExactPeakHourSpec.pre6 enc Try.prog Try.f6 Rows.fnExactPeakHourRow.domain false) (Rows.fnExactPeakHourSpec.post enc Try.prog Try.f6 false true false false) := by
  refine returnsInHanded_of_change_sized (C := Try.checked) own started (by kernel_rfl) Try.func6
    (ChangeSpec.witness6 (enc := enc) (C := Try.checked) false ⟨#[], #[.slice none 0 0], []⟩ 8 (by kernel_rfl) (by kernel_rfl) (by kernel_rfl) (by kernel_rfl)) ?_
  intro W base args ds gs before hval0 hW hcnd hsz0 _
  have hsz : (DataW.weightsEach Try.prog (Try.f6.params.toList ++ Rows.fnExactPeakHourSpec.plain.varTypes Try.prog) (ds ++ gs)).all (· ≤ reachBytes) = true := hsz0
  have hval : ∀ (j : Nat) t v, Try.f6.params[j]? = some t → args[j]? = some v → Value.okWide Try.prog W .any base t v := hval0
  have hW' := hW
  obtain ⟨p, q, hA0, hV, rfl, hfz, hnd⟩ := hW
  have hA : DataW.TrodAll enc Try.prog W 0 (fun _ => true) true Try.f6.params.toList args.toList ds p := hA0
  rw [Try.params6] at hA hval hsz
  obtain ⟨v0, vs0, d0, ds0, p0, q0, hargs, rfl, rfl, h0, r0⟩ := trodAll_cons hA
  obtain ⟨rfl, rfl, rfl⟩ := trodAll_nil r0
  obtain rfl : args = #[v0] := by cases args; simp_all
  obtain ⟨rfl, rfl⟩ := trodVars_none hV
  obtain ⟨a0, len0, cap0, rfl⟩ := okWide_slice Try.underlying25 (hval 0 25 v0 rfl rfl)
  have k0 := h0
  have lt0 : ∀ x ∈ p0, x.block < W.heap.size := by obtain ⟨m, hm⟩ := k0; exact DataW.trod_lt m _ _ _ hm
  obtain ⟨l0, rfl, hc0, hr0, w0⟩ : ∃ l : List (S62), len0 = l.length ∧ l.length ≤ cap0 ∧ Kd.C k62 W a0 l.length l ∧ (l.length * 24 ≤ 140737488351232 ∧ l.length ≤ 9223372036854775807 ∧ ∀ y1 ∈ l, fitsT62 y1) := by
    obtain ⟨fuel, hf⟩ := h0
    obtain ⟨l, ⟨A_, c_, e_, hl_, hC_⟩, hfit_⟩ := (opens_slice z62 Try.underlying25 (by kernel_rfl) opensT62 (by kernel_rfl)) hf (weights_param hsz (j := 0) rfl rfl)
    simp [Value.cells] at e_
    obtain ⟨rfl, rfl, rfl⟩ := e_
    exact ⟨l, rfl, hl_, hC_, hfit_⟩
  clear hA0 hval0 hsz0 hsz
  obtain ⟨k, h⟩ := Go.Proofs.Ytolaplcjbmjlmaa.Pure.FnExactPeakHour l0 w0
  refine (laws_FnExactPeakHour.calls k a0 cap0 l0 true W hr0 hc0 h).mono fun e W' ⟨he, bel0⟩ => ?_
  have bel : Below W.heap.size W W' := bel0
  subst he
  exact ⟨_, rfl, _, _, _, [], _, [], hW', trodAll_mk1 (shut_bool Try.underlying4 _), (trodAll_cons_mk (Below.trod laidOut (by kernel_rfl) (of_decide_eq_true (by kernel_rfl)) k0 bel lt0) trodAll_mk0), rfl, bel.frame _, fun h => by cases h⟩
theorem over : Rows.fnExactPeakHourRow.holds Try.pinned (OpenSpec.ofChange Rows.fnExactPeakHourSpec) :=
  OpenClaim.holds_of_wide 6 Try.f6 rfl rfl rfl rfl rfl rfl rfl ⟨rfl, rfl, rfl, rfl, rfl⟩ rfl rfl rfl rfl rfl (by kernel_rfl) Try.func6 (by kernel_rfl)
    (of_decide_eq_true (by kernel_rfl)) (by unfold Func.isWrapper; first | (rw [if_pos (by decide +kernel)]; kernel_rfl) | (rw [if_neg (by decide +kernel)]; exact ⟨rfl, rfl⟩))
    (fun os started H enc _ => lifted os started H enc)
theorem proved : Rows.FnExactPeakHourSaid := over
#print axioms proved
end Go.Proofs.Ytolaplcjbmjlmaa.fnExactPeakHour
namespace Go.Proofs.Ytolaplcjbmjlmaa
/-- The row, under a short name, for the claim. -/
theorem fnExactPeakHour_holds : Rows.FnExactPeakHourSaid := fnExactPeakHour.proved
end Go.Proofs.Ytolaplcjbmjlmaa

