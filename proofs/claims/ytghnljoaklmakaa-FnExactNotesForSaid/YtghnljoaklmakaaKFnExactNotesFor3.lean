/- The law FnExactNotesFor answers true for every input that the row lets in, and leaves its arguments as they were. Conditions: none beyond the row's own. -/
import Derived.Test.YtghnljoaklmakaaRows
import Derived.WalkKit
import Derived.ProofKit
import Derived.OpenShut
import Derived.ShutString
import Derived.ChangeOld
import Derived.Below
import Derived.SizedLaws
import Derived.Lib.SmallJoins
import Derived.Test.YtghnljoaklmakaaKFnExactNotesFor1
import Derived.Test.YtghnljoaklmakaaKFnExactNotesFor2
-- written by a program of this session (wip/ext.py) out of the translation. Not trusted: Lean checks it.
namespace Go.Proofs.Ytghnljoaklmakaa.X
open Go.RowKit Go.Proofs.YtghnljoaklmakaaW.PrintWords Go.Proofs.YtghnljoaklmakaaW.PrintLast Go.Proofs.YtghnljoaklmakaaW.PrintMore
attribute [local go_sem] max2_int min2_int max_two min_two max_three min_three max_four min_four   -- for this text's walks alone
set_option linter.unusedVariables false
set_option linter.unusedSimpArgs false

def impl_lastStack.l0 : Nat → ByteArray → Int → List (S26) → Int → Int → Option (Int)
  | 0, _, _, _, _, _ => none
  | k + 1, x1, x5, x8, x9, x10 => if x10 < x9 then (if 0 ≤ x10 then (if x10 < (x8.length : Int) then (if ((rd_T26 x8 x10).f1).toList = x1.toList then (if ((rd_T26 x8 x10).f0) = 1 then (impl_lastStack.l0 k x1 ((rd_T26 x8 x10).f2) x8 x9 (wrap64 (x10 + 1))) else (if ((rd_T26 x8 x10).f0) = 2 then (impl_lastStack.l0 k x1 ((rd_T26 x8 x10).f3) x8 x9 (wrap64 (x10 + 1))) else (impl_lastStack.l0 k x1 x5 x8 x9 (wrap64 (x10 + 1))))) else (impl_lastStack.l0 k x1 x5 x8 x9 (wrap64 (x10 + 1)))) else (none)) else (none)) else (some x5)
def impl_lastStack.f (k : Nat) (l0 : List (S26)) (a1 : ByteArray) : Option (Int) := impl_lastStack.l0 k a1 (-1) l0 (l0.length : Int) 0
theorem impl_lastStack.mono_l : ∀ k, (∀ y0 y1 y2 y3 y4, LeO (impl_lastStack.l0 k y0 y1 y2 y3 y4) (impl_lastStack.l0 (k + 1) y0 y1 y2 y3 y4))
  | 0 => fun _ _ _ _ _ r h => by simp [impl_lastStack.l0] at h
  | k + 1 => by
    have ih0 := impl_lastStack.mono_l k
    · intro y0 y1 y2 y3 y4
      unfold impl_lastStack.l0
      repeat' first
      | (with_reducible exact ih0 _ _ _ _ _)
      | (with_reducible exact LeO.refl _)
      | (with_reducible exact LeO.none _)
      | (with_reducible refine LeO.ite ?_ ?_)
      | (with_reducible refine LeO.bind ?_ (fun _ => ?_))
      | exact ih0 _ _ _ _ _
      | exact LeO.none _
      | refine LeO.ite ?_ ?_
      | refine LeO.bind ?_ (fun _ => ?_)
theorem impl_lastStack.mono : ∀ a0 a1 k, LeO (impl_lastStack.f k a0 a1) (impl_lastStack.f (k + 1) a0 a1) := by
  intro a0 a1 k
  have ih0 := impl_lastStack.mono_l k
  unfold impl_lastStack.f
  repeat' first
      | (with_reducible exact ih0 _ _ _ _ _)
      | (with_reducible exact LeO.refl _)
      | (with_reducible exact LeO.none _)
      | (with_reducible refine LeO.ite ?_ ?_)
      | (with_reducible refine LeO.bind ?_ (fun _ => ?_))
      | exact ih0 _ _ _ _ _
      | exact LeO.none _
      | refine LeO.ite ?_ ?_
      | refine LeO.bind ?_ (fun _ => ?_)
set_option maxHeartbeats 8000000 in
set_option maxRecDepth 100000 in
theorem impl_lastStack.calls (k : Nat) (A0 : Option Addr) (c0 : Nat) (l0 : List (S26)) (a1 : ByteArray) (r : Int) (w : World) (hr0 : Kd.C k26 w A0 l0.length l0) (hc0 : l0.length ≤ c0) (h : impl_lastStack.f k l0 a1 = some r) :
    Calls Try.prog 39 #[.slice A0 l0.length c0, .string a1] w fun e w' => e = .returned (.int .i64 r) ∧ Below w.heap.size w w' := by
  have hu26 := Try.underlying26
  have HR0 := Aside0.mk hr0
  have HC0 := Aside0.mk hc0
  clear hr0 hc0
  have HB := Aside0.mk (Below.refl w.heap.size w)
  have H : (impl_lastStack.l0 k a1 (-1) l0 (l0.length : Int) 0) = some r := h
  clear h
  have H' := Aside0.mk H
  clear H
  go_enter Try.func39, Try.ntmps39
  go_wp2
  go_loopg [5, 10] k (fun kq v5 v10 w' => ∃ (x5_1 : Int) (x10_1 : Int), v5 = .int .i64 x5_1 ∧ v10 = .int .i64 x10_1 ∧ Aside0 (impl_lastStack.l0 kq a1 x5_1 l0 (l0.length : Int) x10_1 = some r) ∧ Aside0 (kq ≤ k) ∧ Aside0 (Below w.heap.size w w'))
  case atStart => exact ⟨((-1)), (0), (by first | rfl | (simp; done) | (simp [*]; done)), (by first | rfl | (simp; done) | (simp [*]; done)), H', ⟨Nat.le_refl _⟩, ⟨by repeat (first | (with_reducible first | exact HB.out | apply below_alloc | apply pw_below_drewN | apply below_drew1) | exact HB.out)⟩⟩
  case round =>
    clear H'
    try clear p2
    obtain ⟨x5_1, x10_1, rfl, rfl, HA, HK1, HB⟩ := hrel
    cases gk with
    | zero => exact absurd HA.out (by simp [impl_lastStack.l0])
    | succ k1 =>
      have H := HA.out
      clear HA
      simp only [impl_lastStack.l0] at H
      by_cases c3 : x10_1 < (l0.length : Int)
      · rw [if_pos c3] at H
        have c3b0 : decide (x10_1 < (l0.length : Int)) = true := decide_eq_true c3
        clear c3
        by_cases c4 : 0 ≤ x10_1
        · rw [if_pos c4] at H
          have c4b0 : decide (0 ≤ x10_1) = true := decide_eq_true c4
          clear c4
          by_cases c5 : x10_1 < (l0.length : Int)
          · rw [if_pos c5] at H
            have c5b0 : decide (x10_1 < (l0.length : Int)) = true := decide_eq_true c5
            clear c5
            by_cases c6 : ((rd_T26 l0 x10_1).f1).toList = a1.toList
            · rw [if_pos c6] at H
              have c6b0 : (((rd_T26 l0 x10_1).f1).toList == a1.toList) = true := beq_iff_eq.mpr c6
              have c6b1 : (((rd_T26 l0 x10_1).f1).toList != a1.toList) = false := bne_eq_false_iff_eq.mpr c6
              clear c6
              by_cases c7 : ((rd_T26 l0 x10_1).f0) = 1
              · rw [if_pos c7] at H
                have c7b0 : (((rd_T26 l0 x10_1).f0) == 1) = true := beq_iff_eq.mpr c7
                have c7b1 : (((rd_T26 l0 x10_1).f0) != 1) = false := bne_eq_false_iff_eq.mpr c7
                clear c7
                have H' := Aside0.mk H
                clear H
                have p193 : 0 ≤ (x10_1 : Int) := of_decide_eq_true (by first | (with_reducible assumption) | assumption)
                have q193 : x10_1 < (l0.length : Int) := of_decide_eq_true (by first | (with_reducible assumption) | assumption)
                obtain ⟨ad193, e193, hx193_0, hx193_1, hx193_2, hx193_3⟩ := at_T26 HR0.out x10_1 p193 q193
                cases e193
                replace hx193_0 := (HB.out.cell (World.block_lt_of_cell? w _ hx193_0)).trans hx193_0
                replace hx193_1 := (HB.out.cell (World.block_lt_of_cell? w _ hx193_1)).trans hx193_1
                replace hx193_2 := (HB.out.cell (World.block_lt_of_cell? w _ hx193_2)).trans hx193_2
                replace hx193_3 := (HB.out.cell (World.block_lt_of_cell? w _ hx193_3)).trans hx193_3
                replace p193 := eq_true p193
                replace q193 := eq_true q193
                go_wp2_with (first | ((with_reducible refine gate_dst (N := 7) rfl ?_); refine box_event ?hg (N := 7) ?hd (cs := #[.int .i64 0, .string (⟨#[]⟩ : ByteArray), .int .i64 0, .int .i64 0]) (t := 26) ?hr ?_; (case hd => rfl); (case hg => rfl); (case hr => first | (go_simp; done) | (go_simp; rfl)); intro gb194 hg w8 hbox hb; have n0_ := Aside0.mk (below_step (by repeat (first | (with_reducible first | exact HB.out | apply below_alloc | apply pw_below_drewN | apply below_drew1) | exact HB.out)) hb); have n1_ := Aside0.mk (hbox); have n2_ := Aside0.mk ((by rw [hg]; exact (below_size (by repeat (first | (with_reducible first | exact HB.out | apply below_alloc | apply pw_below_drewN | apply below_drew1) | exact HB.out))) : w.heap.size ≤ gb194)); have n3_ := Aside0.mk ((by rw [hg]; exact (below_size (by repeat (first | (with_reducible first | exact HB.out | apply below_alloc | apply pw_below_drewN | apply below_drew1) | exact HB.out))) : w.heap.size ≤ gb194)); clear HB; have HB := n0_; have BK194 := n1_; have GW194 := n2_; have GE194 := n3_; clear n0_ n1_ n2_ n3_; clear hb hbox hg; have hcz9_0 : w8.cell? ⟨gb194, 0, none⟩ = some (.int .i64 0) := (blk_cell BK194.out 0).trans rfl; have hcz9_1 : w8.cell? ⟨gb194, 1, none⟩ = some (.string (⟨#[]⟩ : ByteArray)) := (blk_cell BK194.out 1).trans rfl; have hcz9_2 : w8.cell? ⟨gb194, 2, none⟩ = some (.int .i64 0) := (blk_cell BK194.out 2).trans rfl; have hcz9_3 : w8.cell? ⟨gb194, 3, none⟩ = some (.int .i64 0) := (blk_cell BK194.out 3).trans rfl; have hfz9_0 := blk_frozen BK194.out 0; have hfz9_1 := blk_frozen BK194.out 1; have hfz9_2 := blk_frozen BK194.out 2; have hfz9_3 := blk_frozen BK194.out 3))
                go_roundg k1
                case measure => have := HK1.out; omega
                case rel => exact ⟨((rd_T26 l0 x10_1).f2), (wrap64 (x10_1 + 1)), (by first | rfl | (simp; done) | (simp [*]; done)), (by first | rfl | (simp; done) | (simp [*]; done)), H', ⟨by have := HK1.out; omega⟩, ⟨by repeat (first | (with_reducible first | exact HB.out | apply below_alloc | apply pw_below_drewN | apply below_drew1 | refine below_set ?_ GE194.out) | exact HB.out)⟩⟩
              · rw [if_neg c7] at H
                have c7b0 : (((rd_T26 l0 x10_1).f0) == 1) = false := beq_eq_false_iff_ne.mpr c7
                have c7b1 : (((rd_T26 l0 x10_1).f0) != 1) = true := bne_iff_ne.mpr c7
                by_cases c10 : ((rd_T26 l0 x10_1).f0) = 2
                · rw [if_pos c10] at H
                  have c10b0 : (((rd_T26 l0 x10_1).f0) == 2) = true := beq_iff_eq.mpr c10
                  have c10b1 : (((rd_T26 l0 x10_1).f0) != 2) = false := bne_eq_false_iff_eq.mpr c10
                  clear c10
                  have H' := Aside0.mk H
                  clear H
                  have p193 : 0 ≤ (x10_1 : Int) := of_decide_eq_true (by first | (with_reducible assumption) | assumption)
                  have q193 : x10_1 < (l0.length : Int) := of_decide_eq_true (by first | (with_reducible assumption) | assumption)
                  obtain ⟨ad193, e193, hx193_0, hx193_1, hx193_2, hx193_3⟩ := at_T26 HR0.out x10_1 p193 q193
                  cases e193
                  replace hx193_0 := (HB.out.cell (World.block_lt_of_cell? w _ hx193_0)).trans hx193_0
                  replace hx193_1 := (HB.out.cell (World.block_lt_of_cell? w _ hx193_1)).trans hx193_1
                  replace hx193_2 := (HB.out.cell (World.block_lt_of_cell? w _ hx193_2)).trans hx193_2
                  replace hx193_3 := (HB.out.cell (World.block_lt_of_cell? w _ hx193_3)).trans hx193_3
                  replace p193 := eq_true p193
                  replace q193 := eq_true q193
                  go_wp2_with (first | ((with_reducible refine gate_dst (N := 7) rfl ?_); refine box_event ?hg (N := 7) ?hd (cs := #[.int .i64 0, .string (⟨#[]⟩ : ByteArray), .int .i64 0, .int .i64 0]) (t := 26) ?hr ?_; (case hd => rfl); (case hg => rfl); (case hr => first | (go_simp; done) | (go_simp; rfl)); intro gb194 hg w11 hbox hb; have n0_ := Aside0.mk (below_step (by repeat (first | (with_reducible first | exact HB.out | apply below_alloc | apply pw_below_drewN | apply below_drew1) | exact HB.out)) hb); have n1_ := Aside0.mk (hbox); have n2_ := Aside0.mk ((by rw [hg]; exact (below_size (by repeat (first | (with_reducible first | exact HB.out | apply below_alloc | apply pw_below_drewN | apply below_drew1) | exact HB.out))) : w.heap.size ≤ gb194)); have n3_ := Aside0.mk ((by rw [hg]; exact (below_size (by repeat (first | (with_reducible first | exact HB.out | apply below_alloc | apply pw_below_drewN | apply below_drew1) | exact HB.out))) : w.heap.size ≤ gb194)); clear HB; have HB := n0_; have BK194 := n1_; have GW194 := n2_; have GE194 := n3_; clear n0_ n1_ n2_ n3_; clear hb hbox hg; have hcz12_0 : w11.cell? ⟨gb194, 0, none⟩ = some (.int .i64 0) := (blk_cell BK194.out 0).trans rfl; have hcz12_1 : w11.cell? ⟨gb194, 1, none⟩ = some (.string (⟨#[]⟩ : ByteArray)) := (blk_cell BK194.out 1).trans rfl; have hcz12_2 : w11.cell? ⟨gb194, 2, none⟩ = some (.int .i64 0) := (blk_cell BK194.out 2).trans rfl; have hcz12_3 : w11.cell? ⟨gb194, 3, none⟩ = some (.int .i64 0) := (blk_cell BK194.out 3).trans rfl; have hfz12_0 := blk_frozen BK194.out 0; have hfz12_1 := blk_frozen BK194.out 1; have hfz12_2 := blk_frozen BK194.out 2; have hfz12_3 := blk_frozen BK194.out 3))
                  go_roundg k1
                  case measure => have := HK1.out; omega
                  case rel => exact ⟨((rd_T26 l0 x10_1).f3), (wrap64 (x10_1 + 1)), (by first | rfl | (simp; done) | (simp [*]; done)), (by first | rfl | (simp; done) | (simp [*]; done)), H', ⟨by have := HK1.out; omega⟩, ⟨by repeat (first | (with_reducible first | exact HB.out | apply below_alloc | apply pw_below_drewN | apply below_drew1 | refine below_set ?_ GE194.out) | exact HB.out)⟩⟩
                · rw [if_neg c10] at H
                  have c10b0 : (((rd_T26 l0 x10_1).f0) == 2) = false := beq_eq_false_iff_ne.mpr c10
                  have c10b1 : (((rd_T26 l0 x10_1).f0) != 2) = true := bne_iff_ne.mpr c10
                  have H' := Aside0.mk H
                  clear H
                  have p193 : 0 ≤ (x10_1 : Int) := of_decide_eq_true (by first | (with_reducible assumption) | assumption)
                  have q193 : x10_1 < (l0.length : Int) := of_decide_eq_true (by first | (with_reducible assumption) | assumption)
                  obtain ⟨ad193, e193, hx193_0, hx193_1, hx193_2, hx193_3⟩ := at_T26 HR0.out x10_1 p193 q193
                  cases e193
                  replace hx193_0 := (HB.out.cell (World.block_lt_of_cell? w _ hx193_0)).trans hx193_0
                  replace hx193_1 := (HB.out.cell (World.block_lt_of_cell? w _ hx193_1)).trans hx193_1
                  replace hx193_2 := (HB.out.cell (World.block_lt_of_cell? w _ hx193_2)).trans hx193_2
                  replace hx193_3 := (HB.out.cell (World.block_lt_of_cell? w _ hx193_3)).trans hx193_3
                  replace p193 := eq_true p193
                  replace q193 := eq_true q193
                  go_wp2_with (first | ((with_reducible refine gate_dst (N := 7) rfl ?_); refine box_event ?hg (N := 7) ?hd (cs := #[.int .i64 0, .string (⟨#[]⟩ : ByteArray), .int .i64 0, .int .i64 0]) (t := 26) ?hr ?_; (case hd => rfl); (case hg => rfl); (case hr => first | (go_simp; done) | (go_simp; rfl)); intro gb194 hg w13 hbox hb; have n0_ := Aside0.mk (below_step (by repeat (first | (with_reducible first | exact HB.out | apply below_alloc | apply pw_below_drewN | apply below_drew1) | exact HB.out)) hb); have n1_ := Aside0.mk (hbox); have n2_ := Aside0.mk ((by rw [hg]; exact (below_size (by repeat (first | (with_reducible first | exact HB.out | apply below_alloc | apply pw_below_drewN | apply below_drew1) | exact HB.out))) : w.heap.size ≤ gb194)); have n3_ := Aside0.mk ((by rw [hg]; exact (below_size (by repeat (first | (with_reducible first | exact HB.out | apply below_alloc | apply pw_below_drewN | apply below_drew1) | exact HB.out))) : w.heap.size ≤ gb194)); clear HB; have HB := n0_; have BK194 := n1_; have GW194 := n2_; have GE194 := n3_; clear n0_ n1_ n2_ n3_; clear hb hbox hg; have hcz14_0 : w13.cell? ⟨gb194, 0, none⟩ = some (.int .i64 0) := (blk_cell BK194.out 0).trans rfl; have hcz14_1 : w13.cell? ⟨gb194, 1, none⟩ = some (.string (⟨#[]⟩ : ByteArray)) := (blk_cell BK194.out 1).trans rfl; have hcz14_2 : w13.cell? ⟨gb194, 2, none⟩ = some (.int .i64 0) := (blk_cell BK194.out 2).trans rfl; have hcz14_3 : w13.cell? ⟨gb194, 3, none⟩ = some (.int .i64 0) := (blk_cell BK194.out 3).trans rfl; have hfz14_0 := blk_frozen BK194.out 0; have hfz14_1 := blk_frozen BK194.out 1; have hfz14_2 := blk_frozen BK194.out 2; have hfz14_3 := blk_frozen BK194.out 3))
                  go_roundg k1
                  case measure => have := HK1.out; omega
                  case rel => exact ⟨(x5_1), (wrap64 (x10_1 + 1)), (by first | rfl | (simp; done) | (simp [*]; done)), (by first | rfl | (simp; done) | (simp [*]; done)), H', ⟨by have := HK1.out; omega⟩, ⟨by repeat (first | (with_reducible first | exact HB.out | apply below_alloc | apply pw_below_drewN | apply below_drew1 | refine below_set ?_ GE194.out) | exact HB.out)⟩⟩
            · rw [if_neg c6] at H
              have c6b0 : (((rd_T26 l0 x10_1).f1).toList == a1.toList) = false := beq_eq_false_iff_ne.mpr c6
              have c6b1 : (((rd_T26 l0 x10_1).f1).toList != a1.toList) = true := bne_iff_ne.mpr c6
              have H' := Aside0.mk H
              clear H
              have p193 : 0 ≤ (x10_1 : Int) := of_decide_eq_true (by first | (with_reducible assumption) | assumption)
              have q193 : x10_1 < (l0.length : Int) := of_decide_eq_true (by first | (with_reducible assumption) | assumption)
              obtain ⟨ad193, e193, hx193_0, hx193_1, hx193_2, hx193_3⟩ := at_T26 HR0.out x10_1 p193 q193
              cases e193
              replace hx193_0 := (HB.out.cell (World.block_lt_of_cell? w _ hx193_0)).trans hx193_0
              replace hx193_1 := (HB.out.cell (World.block_lt_of_cell? w _ hx193_1)).trans hx193_1
              replace hx193_2 := (HB.out.cell (World.block_lt_of_cell? w _ hx193_2)).trans hx193_2
              replace hx193_3 := (HB.out.cell (World.block_lt_of_cell? w _ hx193_3)).trans hx193_3
              replace p193 := eq_true p193
              replace q193 := eq_true q193
              go_wp2_with (first | ((with_reducible refine gate_dst (N := 7) rfl ?_); refine box_event ?hg (N := 7) ?hd (cs := #[.int .i64 0, .string (⟨#[]⟩ : ByteArray), .int .i64 0, .int .i64 0]) (t := 26) ?hr ?_; (case hd => rfl); (case hg => rfl); (case hr => first | (go_simp; done) | (go_simp; rfl)); intro gb194 hg w15 hbox hb; have n0_ := Aside0.mk (below_step (by repeat (first | (with_reducible first | exact HB.out | apply below_alloc | apply pw_below_drewN | apply below_drew1) | exact HB.out)) hb); have n1_ := Aside0.mk (hbox); have n2_ := Aside0.mk ((by rw [hg]; exact (below_size (by repeat (first | (with_reducible first | exact HB.out | apply below_alloc | apply pw_below_drewN | apply below_drew1) | exact HB.out))) : w.heap.size ≤ gb194)); have n3_ := Aside0.mk ((by rw [hg]; exact (below_size (by repeat (first | (with_reducible first | exact HB.out | apply below_alloc | apply pw_below_drewN | apply below_drew1) | exact HB.out))) : w.heap.size ≤ gb194)); clear HB; have HB := n0_; have BK194 := n1_; have GW194 := n2_; have GE194 := n3_; clear n0_ n1_ n2_ n3_; clear hb hbox hg; have hcz16_0 : w15.cell? ⟨gb194, 0, none⟩ = some (.int .i64 0) := (blk_cell BK194.out 0).trans rfl; have hcz16_1 : w15.cell? ⟨gb194, 1, none⟩ = some (.string (⟨#[]⟩ : ByteArray)) := (blk_cell BK194.out 1).trans rfl; have hcz16_2 : w15.cell? ⟨gb194, 2, none⟩ = some (.int .i64 0) := (blk_cell BK194.out 2).trans rfl; have hcz16_3 : w15.cell? ⟨gb194, 3, none⟩ = some (.int .i64 0) := (blk_cell BK194.out 3).trans rfl; have hfz16_0 := blk_frozen BK194.out 0; have hfz16_1 := blk_frozen BK194.out 1; have hfz16_2 := blk_frozen BK194.out 2; have hfz16_3 := blk_frozen BK194.out 3))
              go_roundg k1
              case measure => have := HK1.out; omega
              case rel => exact ⟨(x5_1), (wrap64 (x10_1 + 1)), (by first | rfl | (simp; done) | (simp [*]; done)), (by first | rfl | (simp; done) | (simp [*]; done)), H', ⟨by have := HK1.out; omega⟩, ⟨by repeat (first | (with_reducible first | exact HB.out | apply below_alloc | apply pw_below_drewN | apply below_drew1 | refine below_set ?_ GE194.out) | exact HB.out)⟩⟩
          · rw [if_neg c5] at H
            exact absurd H (by simp)
        · rw [if_neg c4] at H
          exact absurd H (by simp)
      · rw [if_neg c3] at H
        have c3b0 : decide (x10_1 < (l0.length : Int)) = false := decide_eq_false c3
        clear c3
        obtain rfl := Option.some.inj H
        go_wp2
        go_ret
        exact ⟨by first | rfl | (simp [errW_none, errW_some] <;> rfl) | (simp [*, errW_none, errW_some] <;> rfl), by repeat (first | (with_reducible first | exact HB.out | apply below_alloc | apply pw_below_drewN | apply below_drew1) | exact HB.out)⟩

end Go.Proofs.Ytghnljoaklmakaa.X


namespace Go.Proofs.Ytghnljoaklmakaa.X
open Go.RowKit Go.Proofs.YtghnljoaklmakaaW.PrintWords Go.Proofs.YtghnljoaklmakaaL
set_option linter.unusedVariables false
set_option linter.unusedSimpArgs false
abbrev Note := S26
abbrev LNote := S23
def convN (s : LNote) : Note := ⟨s.f0, s.f1, s.f2, s.f3⟩
theorem rdN (l : List Note) (n : Nat) (h : n < l.length) : rd_T26 l (n : Int) = l[n] := by simp [rd_T26, List.getD_eq_getElem?_getD, List.getElem?_eq_getElem h]
theorem rdLN (l : List LNote) (n : Nat) (h : n < l.length) : rd_T23 l (n : Int) = l[n] := by simp [rd_T23, List.getD_eq_getElem?_getD, List.getElem?_eq_getElem h]
/-- The size comes to a number; where it is not negative the list is not long. -/
theorem szNoteS_ev (l : List LNote) (hl : l.length ≤ 9223372036854775807) (hs : ∀ x ∈ l, x.f1.size ≤ 140737488351232) : ∃ r, Ev (fun k => laws_szNoteS.f k l 1048576) r ∧ (¬ r < 0 → l.length ≤ 1048576) := by
  by_cases hb : l.length ≤ 1048576
  · have key : ∀ (d n : Nat) (a : Int), n + d = l.length → 0 ≤ a → a ≤ 1048576 → ∃ r, Ev (fun k => laws_szNoteS.l0 k l a n) r := by
      intro d
      induction d with
      | zero => intro n a hn h0 h1; exact ⟨a, Ev.step (f := fun _ => some _) (fun k => by simp only [laws_szNoteS.l0]; rw [if_neg (by omega)]) (Ev.now _)⟩
      | succ d ih =>
        intro n a hn h0 h1
        have hl2 : n < l.length := by omega
        have hsz := hs _ (List.getElem_mem hl2)
        have hw : wrap64 (a - (l[n].f1.size : Int)) = a - (l[n].f1.size : Int) := wrap_id (by omega) (by omega)
        by_cases c : a - (l[n].f1.size : Int) < 0
        · refine ⟨-1, Ev.step (f := fun _ => some _) (fun k => ?_) (Ev.now _)⟩
          simp only [laws_szNoteS.l0]
          rw [if_pos (by omega), if_pos (by omega), rdLN l n hl2]
          simp only [laws_szNote.f, hw, if_pos c, Option.bind_some]
          rfl
        · obtain ⟨r, hr⟩ := ih (n + 1) (a - (l[n].f1.size : Int)) (by omega) (by omega) (by omega)
          refine ⟨r, Ev.step (f := fun k => laws_szNoteS.l0 k l (a - (l[n].f1.size : Int)) ((n + 1 : Nat) : Int)) (fun k => ?_) hr⟩
          simp only [laws_szNoteS.l0]
          rw [if_pos (by omega), if_pos (by omega), rdLN l n hl2, wrap_succ (by omega)]
          simp only [laws_szNote.f, hw, if_neg c, Option.bind_some]
    obtain ⟨r, hr⟩ := key l.length 0 (1048576 - (l.length : Int)) (by omega) (by omega) (by omega)
    refine ⟨r, Ev.congr (fun k => ?_) hr, fun _ => hb⟩
    unfold laws_szNoteS.f
    rw [wrap_id (by omega) (by omega), if_neg (by omega)]
    rfl
  · refine ⟨-1, ev_eq (fun k => ?_), fun h => absurd (by omega) h⟩
    unfold laws_szNoteS.f
    rw [wrap_id (by omega) (by omega), if_pos (by omega)]
theorem toNoteS_ev (l : List LNote) (h : l.length ≤ 1048576) : Ev (fun k => laws_toNoteS.f k l) (l.map convN) := by
  have key : ∀ (d n : Nat), n + d = l.length → Ev (fun k => laws_toNoteS.l0 k l (fill convN z26 l n) n) (l.map convN) := by
    intro d
    induction d with
    | zero =>
      intro n hn
      obtain rfl : n = l.length := by omega
      rw [← fill_all convN z26 l]
      exact Ev.step (f := fun _ => some _) (fun k => by simp only [laws_toNoteS.l0]; rw [if_neg (by omega)]) (Ev.now _)
    | succ d ih =>
      intro n hn
      refine Ev.step (f := fun k => laws_toNoteS.l0 k l (fill convN z26 l (n + 1)) ((n + 1 : Nat) : Int)) (fun k => ?_) (ih (n + 1) (by omega))
      simp only [laws_toNoteS.l0]
      rw [if_pos (by omega), if_pos (by omega), rdLN l n (by omega), wrap_succ (by omega)]
      simp only [laws_toNote.f, Option.bind_some, fill_length convN _ l n (by omega)]
      rw [if_pos (by omega), Int.toNat_natCast, ← fill_set convN _ l n (by omega)]
      rfl
  refine Ev.congr (f := fun k => laws_toNoteS.l0 k l (fill convN z26 l 0) ((0 : Nat) : Int)) (fun k => ?_) (key l.length 0 (by omega))
  unfold laws_toNoteS.f
  rw [if_pos (by omega), if_pos (by omega), fill_zero, Int.toNat_natCast]
  rfl
theorem eqNoteS_ev (l : List Note) (h : l.length ≤ 1048576) : Ev (fun k => laws_eqNoteS.f k l l) true := by
  have key : ∀ (d n : Nat), n + d = l.length → Ev (fun k => laws_eqNoteS.l0 k l l n) true := by
    intro d
    induction d with
    | zero => intro n hn; exact Ev.step (f := fun _ => some _) (fun k => by simp only [laws_eqNoteS.l0]; rw [if_neg (by omega)]) (Ev.now _)
    | succ d ih =>
      intro n hn
      refine Ev.step (f := fun k => laws_eqNoteS.l0 k l l ((n + 1 : Nat) : Int)) (fun k => ?_) (ih (n + 1) (by omega))
      simp only [laws_eqNoteS.l0]
      rw [if_pos (by omega), if_pos (by omega), if_pos (by omega), wrap_succ (by omega)]
      simp [laws_eqNote.f]
  exact Ev.congr (f := fun k => laws_eqNoteS.l0 k l l ((0 : Nat) : Int)) (fun k => by unfold laws_eqNoteS.f; rw [if_pos rfl]; rfl) (key l.length 0 (by omega))
def report (l : List Note) : Bool := decide (l.length ≤ 10) && l.all okNote
theorem implReport (l : List Note) : impl_isReport.f l = some (report l) := rfl
theorem specReport_ev (l : List Note) (h : l.length ≤ 1048576) : Ev (fun k => spec_l26Report.f k l) (report l) := by
  have key : ∀ (d n : Nat), n + d = l.length → Ev (fun k => spec_l26Report.l0 k l n) (decide (l.length ≤ 10) && (l.drop n).all okNote) := by
    intro d
    induction d with
    | zero =>
      intro n hn
      obtain rfl : n = l.length := by omega
      refine Ev.step (f := fun _ => some _) (fun k => ?_) (Ev.now _)
      simp only [spec_l26Report.l0]; rw [if_neg (by omega)]
      simp <;> omega
    | succ d ih =>
      intro n hn
      have hl : n < l.length := by omega
      have ih := ih (n + 1) (by omega)
      rw [List.drop_eq_getElem_cons hl, List.all_cons]
      refine Ev.step (f := fun k => (spec_l26Good.f k l[n].f0 l[n].f1 l[n].f2 l[n].f3).bind fun t => if t = true then spec_l26Report.l0 k l ((n + 1 : Nat) : Int) else some false) (fun k => ?_) ?_
      · simp only [spec_l26Report.l0]
        rw [if_pos (by omega), if_pos (by omega), rdN l n hl, wrap_succ (by omega)]
      · refine Ev.bind (specNote_ev _ _ _ _) ?_
        by_cases e : okNote l[n] = true
        · have e2 : noteOk l[n].f0 l[n].f1 l[n].f2 l[n].f3 = true := e
          simp only [e, e2, if_true, Bool.true_and]; exact ih
        · have e2 : noteOk l[n].f0 l[n].f1 l[n].f2 l[n].f3 = false := by simpa [okNote] using e
          have e3 : okNote l[n] = false := e2
          simp only [e2, e3, Bool.false_and, Bool.and_false, Bool.false_eq_true, if_false]; exact Ev.now _
  exact Ev.congr (f := fun k => spec_l26Report.l0 k l ((0 : Nat) : Int)) (fun k => rfl) (by simpa [report] using key l.length 0 (by omega))
end Go.Proofs.Ytghnljoaklmakaa.X


namespace Go.Proofs.Ytghnljoaklmakaa.X
open Go.RowKit Go.Proofs.YtghnljoaklmakaaW.PrintWords Go.Proofs.YtghnljoaklmakaaL
set_option linter.unusedVariables false
set_option linter.unusedSimpArgs false
theorem eqIntS_ev (l : List Int) (h : l.length ≤ 4611686018427387904) : Ev (fun k => laws_eqIntS.f k l l) true := by
  have key : ∀ (d n : Nat), n + d = l.length → Ev (fun k => laws_eqIntS.l0 k l l n) true := by
    intro d
    induction d with
    | zero => intro n hn; exact Ev.step (f := fun _ => some _) (fun k => by simp only [laws_eqIntS.l0]; rw [if_neg (by omega)]) (Ev.now _)
    | succ d ih =>
      intro n hn
      refine Ev.step (f := fun k => laws_eqIntS.l0 k l l ((n + 1 : Nat) : Int)) (fun k => ?_) (ih (n + 1) (by omega))
      simp only [laws_eqIntS.l0]
      rw [if_pos (by omega), if_pos (by omega), if_pos (by omega), wrap_succ (by omega)]
      simp
  exact Ev.congr (f := fun k => laws_eqIntS.l0 k l l ((0 : Nat) : Int)) (fun k => by unfold laws_eqIntS.f; rw [if_pos rfl]; rfl) (key l.length 0 (by omega))
def cnt (n : Nat) : List Int := (List.range n).map fun (i : Nat) => (i : Int) + 1
theorem cnt_length (n : Nat) : (cnt n).length = n := by simp [cnt]
theorem cnt_succ (n : Nat) : cnt (n + 1) = cnt n ++ [(n : Int) + 1] := by simp [cnt, List.range_succ]
theorem cnt_get (n i : Nat) (h : i < (cnt n).length) : (cnt n)[i] = (i : Int) + 1 := by simp [cnt]
theorem markIntS_ev (l : List Int) (h : l.length ≤ 4611686018427387904) : Ev (fun k => laws_markIntS.f k l 1) ((l.length : Int) + 1, cnt l.length) := by
  have key : ∀ (d n : Nat), n + d = l.length → Ev (fun k => laws_markIntS.l0 k (cnt n ++ l.drop n) ((n : Int) + 1) n) ((l.length : Int) + 1, cnt l.length) := by
    intro d
    induction d with
    | zero =>
      intro n hn
      obtain rfl : n = l.length := by omega
      refine Ev.step (f := fun _ => some _) (fun k => ?_) (Ev.now _)
      have : (cnt l.length ++ l.drop l.length) = cnt l.length := by simp
      rw [this]
      simp only [laws_markIntS.l0, cnt_length]; rw [if_neg (by omega)]
    | succ d ih =>
      intro n hn
      refine Ev.step (f := fun k => laws_markIntS.l0 k (cnt (n + 1) ++ l.drop (n + 1)) (((n + 1 : Nat) : Int) + 1) ((n + 1 : Nat) : Int)) (fun k => ?_) (ih (n + 1) (by omega))
      have hlen : (cnt n ++ l.drop n).length = l.length := by rw [List.length_append, cnt_length, List.length_drop]; omega
      have hset : (cnt n ++ l.drop n).set n ((n : Int) + 1) = cnt (n + 1) ++ l.drop (n + 1) := by
        rw [List.set_append_right _ _ (by rw [cnt_length]; omega), cnt_length, Nat.sub_self, List.drop_eq_getElem_cons (show n < l.length by omega), cnt_succ, List.set_cons_zero, List.append_assoc]
        rfl
      simp only [laws_markIntS.l0, hlen, Int.toNat_natCast, hset]
      rw [if_pos (by omega), if_pos (by omega), wrap_id (x := (n : Int) + 1 + 1) (by omega) (by omega), wrap_succ (by omega)]
      rfl
  exact Ev.congr (f := fun k => laws_markIntS.l0 k (cnt 0 ++ l.drop 0) (((0 : Nat) : Int) + 1) ((0 : Nat) : Int)) (fun k => rfl) (key l.length 0 (by omega))
theorem heldIntS_ev (m : Nat) (h : m ≤ 4611686018427387904) : Ev (fun k => laws_heldIntS.f k (cnt m) 1) ((m : Int) + 1) := by
  have key : ∀ (d n : Nat), n + d = m → Ev (fun k => laws_heldIntS.l0 k (cnt m) ((n : Int) + 1) n) ((m : Int) + 1) := by
    intro d
    induction d with
    | zero =>
      intro n hn
      obtain rfl : n = m := by omega
      exact Ev.step (f := fun _ => some _) (fun k => by simp only [laws_heldIntS.l0, cnt_length]; rw [if_neg (by omega)]) (Ev.now _)
    | succ d ih =>
      intro n hn
      refine Ev.step (f := fun k => laws_heldIntS.l0 k (cnt m) (((n + 1 : Nat) : Int) + 1) ((n + 1 : Nat) : Int)) (fun k => ?_) (ih (n + 1) (by omega))
      simp only [laws_heldIntS.l0, cnt_length]
      rw [if_pos (by omega), if_pos (by omega), rd_at _ n (by rw [cnt_length]; omega), cnt_get, if_pos rfl, wrap_id (x := (n : Int) + 1 + 1) (by omega) (by omega), wrap_succ (by omega)]
      rfl
  exact Ev.congr (f := fun k => laws_heldIntS.l0 k (cnt m) (((0 : Nat) : Int) + 1) ((0 : Nat) : Int)) (fun k => rfl) (key m 0 (by omega))
end Go.Proofs.Ytghnljoaklmakaa.X


namespace Go.Proofs.Ytghnljoaklmakaa.X
open Go.RowKit Go.Proofs.YtghnljoaklmakaaW.PrintWords Go.Proofs.YtghnljoaklmakaaL
set_option linter.unusedVariables false
set_option linter.unusedSimpArgs false
theorem mark_ex (k : Int) (h0 : 0 ≤ k) (h1 : k ≤ 1000000000000) : ∃ t, Ev (fun f => laws_markText.f f k) t := by
  have key : ∀ (m : Nat) (x : Int) (s : ByteArray), 0 ≤ x → x ≤ 1000000000000 → x < 10 ^ m → s.size + m ≤ 1000 → ∃ t, Ev (fun f => laws_markText.l0 f x s) t := by
    intro m
    induction m with
    | zero =>
      intro x s h0 hB h1 hs
      refine ⟨_, Ev.step (f := fun _ => some ((⟨#[109]⟩ : ByteArray) ++ s)) (fun f => ?_) (Ev.now _)⟩
      simp only [laws_markText.l0]
      rw [if_neg (by omega), if_pos (by omega)]
    | succ m ih =>
      intro x s h0 hB h1 hs
      by_cases hx : x > 0
      · have hd : Int.tdiv x 10 = x / 10 := Int.tdiv_eq_ediv_of_nonneg h0
        have hp : (10 : Int) ^ (m + 1) = 10 * 10 ^ m := by rw [Int.pow_succ, Int.mul_comm]
        have hq : x / 10 < 10 ^ m := by rw [hp] at h1; omega
        have hz : ∀ b : Int, (strOfNums [b] ++ s).size = 1 + s.size := fun b => by rw [ByteArray.size_append, strOfNums_size]; rfl
        have hw : wrap64 (Int.tdiv x 10) = x / 10 := by rw [hd]; exact wrap_id (by omega) (by omega)
        obtain ⟨t, ht⟩ := ih (x / 10) (strOfNums [wrap64 (48 + Int.tmod x 10) % 256] ++ s) (by omega) (by omega) hq (by rw [hz]; omega)
        refine ⟨t, Ev.step (fun f => ?_) ht⟩
        simp only [laws_markText.l0]
        rw [if_pos hx]
        simp only [Option.bind_some]
        rw [if_pos (by rw [strOfNums_size]; simp; omega), hw]
      · refine ⟨_, Ev.step (f := fun _ => some ((⟨#[109]⟩ : ByteArray) ++ s)) (fun f => ?_) (Ev.now _)⟩
        simp only [laws_markText.l0]
        rw [if_neg hx, if_pos (by omega)]
  by_cases h : k ≤ 0
  · exact ⟨_, ev_eq (fun f => if_pos h)⟩
  · obtain ⟨t, ht⟩ := key 20 k ⟨#[]⟩ h0 h1 (by omega) (by decide)
    exact ⟨t, Ev.congr (fun f => if_neg h) ht⟩
end Go.Proofs.Ytghnljoaklmakaa.X


namespace Go.Proofs.Ytghnljoaklmakaa.X
open Go.RowKit Go.Proofs.YtghnljoaklmakaaW.PrintWords Go.Proofs.YtghnljoaklmakaaW.PrintMore Go.Proofs.YtghnljoaklmakaaL
set_option linter.unusedVariables false
set_option linter.unusedSimpArgs false
def iota (n : Nat) : List Int := (List.range n).map fun (i : Nat) => (i : Int)
theorem iota_succ (n : Nat) : iota (n + 1) = iota n ++ [(n : Int)] := by simp [iota, List.range_succ]
theorem iota_length (n : Nat) : (iota n).length = n := by simp [iota]
theorem mem_iota {n : Nat} {x : Int} : x ∈ iota n ↔ 0 ≤ x ∧ x < n := by
  unfold iota
  rw [List.mem_map]
  constructor
  · rintro ⟨i, hi, rfl⟩; rw [List.mem_range] at hi; omega
  · rintro ⟨h0, h1⟩; exact ⟨x.toNat, by rw [List.mem_range]; omega, by omega⟩
theorem upTo_ev (n : Nat) (hn : n ≤ 1048576) : Ev (fun k => impl_upTo.f k (n : Int)) (iota n) := by
  unfold impl_upTo.f
  have key : ∀ (d m : Nat), m + d = n → Ev (fun k => impl_upTo.l0 k (iota m) (n : Int) (m : Int)) (iota n) := by
    intro d
    induction d with
    | zero =>
      intro m hm
      obtain rfl : m = n := by omega
      exact Ev.step (f := fun _ => some _) (fun k => by simp only [impl_upTo.l0]; rw [if_neg (by omega)]) (Ev.now _)
    | succ d ih =>
      intro m hm
      refine Ev.step (f := fun k => impl_upTo.l0 k (iota (m + 1)) (n : Int) ((m + 1 : Nat) : Int)) (fun k => ?_) (ih (m + 1) (by omega))
      simp only [impl_upTo.l0]
      rw [if_pos (by omega), if_pos (by rw [iota_length]; omega), wrap_succ (by omega), iota_succ]
  exact Ev.congr (fun k => rfl) (key n 0 (by omega))
abbrev atP (l : List Note) (id : ByteArray) (x : Int) : Bool := !clo_42 l id x
def ats (l : List Note) (id : ByteArray) (m : Nat) : List Int := (iota m).filter (atP l id)
theorem ats_succ (l : List Note) (id : ByteArray) (m : Nat) (h : m < l.length) : ats l id (m + 1) = if l[m].f1.toList = id.toList then ats l id m ++ [(m : Int)] else ats l id m := by
  unfold ats
  rw [iota_succ, List.filter_append]
  have : atP l id (m : Int) = (l[m].f1.toList == id.toList) := by
    unfold atP clo_42
    rw [rdN l m h, Bool.not_not]
  by_cases c : l[m].f1.toList = id.toList
  · rw [if_pos c]
    simp [List.filter, this, c]
  · rw [if_neg c]
    have e : (l[m].f1.toList == id.toList) = false := beq_eq_false_iff_ne.mpr c
    simp [List.filter, this, e]
theorem ats_length (l : List Note) (id : ByteArray) (m : Nat) : (ats l id m).length ≤ m := by
  unfold ats; have := List.length_filter_le (atP l id) (iota m); rw [iota_length] at this; exact this
def notesOf (l : List Note) (id : ByteArray) : List Int × Bool := if report l = true ∧ idOk id = true then (ats l id l.length, true) else ([], false)
theorem implNotes_ev (l : List Note) (h : l.length ≤ 1048576) (id : ByteArray) : Ev (fun k => impl_NotesFor.f k l id) (notesOf l id) := by
  unfold impl_NotesFor.f notesOf
  simp only [implReport, Option.bind_some]
  by_cases hr : report l = true
  · simp only [hr, if_true, true_and]
    refine Ev.bind (implId_ev id) ?_
    by_cases hi : idOk id = true
    · simp only [hi, if_true]
      refine Ev.bind (upTo_ev l.length h) ?_
      by_cases he : iota l.length = []
      · simp only [if_pos he]
        have : ats l id l.length = [] := by unfold ats; rw [he]; rfl
        rw [this]; exact Ev.now _
      · have hp : l.length ≠ 0 := fun e => he (by rw [e]; rfl)
        have hc : 0 ∈ iota l.length ∧ ∀ x ∈ iota l.length, 0 ≤ x ∧ x < (l.length : Int) := ⟨mem_iota.2 ⟨by omega, by omega⟩, fun x hx => mem_iota.1 hx⟩
        simp only [if_neg he, if_pos hc]
        exact Ev.now _
    · simp only [hi, if_false]; exact Ev.now _
  · simp only [hr, false_and, if_false]; exact Ev.now _
theorem specNotes_ev (l : List Note) (h : l.length ≤ 1048576) (id : ByteArray) : Ev (fun k => spec_NotesFor.f k l id) (notesOf l id) := by
  unfold spec_NotesFor.f notesOf
  simp only [Option.bind_some]
  refine Ev.bind (specReport_ev l h) ?_
  by_cases hr : report l = true
  · simp only [hr, if_true, true_and]
    refine Ev.bind (specId_ev id) ?_
    by_cases hi : idOk id = true
    · simp only [hi, Bool.not_true, if_true]
      refine Ev.step (f := fun k => spec_NotesFor.l0 k l id [] 0) (fun k => by simp [spec_NotesFor.j0]) ?_
      have key : ∀ (d n : Nat), n + d = l.length → Ev (fun k => spec_NotesFor.l0 k l id (ats l id n) n) (ats l id l.length, true) := by
        intro d
        induction d with
        | zero =>
          intro n hn
          obtain rfl : n = l.length := by omega
          exact Ev.step (f := fun _ => some _) (fun k => by simp only [spec_NotesFor.l0]; rw [if_neg (by omega)]) (Ev.now _)
        | succ d ih =>
          intro n hn
          have hl : n < l.length := by omega
          have hz := ats_length l id n
          refine Ev.step (f := fun k => spec_NotesFor.l0 k l id (ats l id (n + 1)) ((n + 1 : Nat) : Int)) (fun k => ?_) (ih (n + 1) (by omega))
          simp only [spec_NotesFor.l0]
          rw [if_pos (by omega), if_pos (by omega), rdN l n hl, wrap_succ (by omega), ats_succ l id n hl]
          by_cases c1 : l[n].f1.toList = id.toList
          · simp only [if_pos c1]; rw [if_pos (by omega)]
          · simp only [if_neg c1]
      exact Ev.congr (fun k => rfl) (key l.length 0 (by omega))
    · simp only [hi, if_false]
      exact Ev.step (f := fun _ => some ([], false)) (fun k => by simp [spec_NotesFor.j0]) (Ev.now _)
  · simp only [hr, false_and, if_false]
    exact Ev.step (f := fun _ => some ([], false)) (fun k => by simp [spec_NotesFor.j0]) (Ev.now _)
theorem exBN {α β : Type} {f : Nat → Option α} {g : Nat → α → Option β} {Q : β → Prop} {a : α} (hf : Ev f a) (h : ∃ v, Ev (fun k => g k a) v ∧ Q v) : ∃ v, Ev (fun k => (f k).bind (g k)) v ∧ Q v := by
  obtain ⟨v, h1, h2⟩ := h; exact ⟨v, Ev.bind hf h1, h2⟩
theorem markNoteS_ev (l : List Note) (h : l.length ≤ 1048576) : ∃ r, Ev (fun k => laws_markNoteS.f k l 1) r ∧ 0 ≤ r.1 := by
  have key : ∀ (d n : Nat) (x : List Note), x.length = l.length → n + d = l.length → ∃ r, Ev (fun k => laws_markNoteS.l0 k x (4 * (n : Int) + 1) n) r ∧ 0 ≤ r.1 := by
    intro d
    induction d with
    | zero => intro n x hx hn; exact ⟨(4 * (n : Int) + 1, x), Ev.step (f := fun _ => some _) (fun k => by simp only [laws_markNoteS.l0]; rw [if_neg (by omega)]) (Ev.now _), by show (0 : Int) ≤ 4 * (n : Int) + 1; omega⟩
    | succ d ih =>
      intro n x hx hn
      obtain ⟨t, ht⟩ := mark_ex (4 * (n : Int) + 2) (by omega) (by omega)
      have w1 : wrap64 (4 * (n : Int) + 1 + 1) = 4 * (n : Int) + 2 := by rw [wrap_id (by omega) (by omega)]; omega
      have w2 : wrap64 (4 * (n : Int) + 2 + 1) = 4 * (n : Int) + 3 := by rw [wrap_id (by omega) (by omega)]; omega
      have w3 : wrap64 (4 * (n : Int) + 3 + 1) = 4 * (n : Int) + 4 := by rw [wrap_id (by omega) (by omega)]; omega
      have w4 : wrap64 (4 * (n : Int) + 4 + 1) = 4 * ((n + 1 : Nat) : Int) + 1 := by rw [wrap_id (by omega) (by omega)]; omega
      have hall : ∀ y : List Note, y.length = l.length → ∃ r, Ev (fun k => laws_markNoteS.l0 k y (4 * ((n + 1 : Nat) : Int) + 1) ((n + 1 : Nat) : Int)) r ∧ 0 ≤ r.1 := fun y hy => ih (n + 1) y hy (by omega)
      have go : ∃ r, Ev (fun k => (some (x.set (n : Int).toNat (⟨4 * (n : Int) + 1, (rd_T26 x n).f1, (rd_T26 x n).f2, (rd_T26 x n).f3⟩ : S26) : List S26)).bind fun y233 => ((laws_markText.f k (4 * (n : Int) + 2)).bind fun t234 => ((some (y233.set (n : Int).toNat (⟨(rd_T26 y233 n).f0, t234, (rd_T26 y233 n).f2, (rd_T26 y233 n).f3⟩ : S26) : List S26)).bind fun y235 => ((some (y235.set (n : Int).toNat (⟨(rd_T26 y235 n).f0, (rd_T26 y235 n).f1, 4 * (n : Int) + 3, (rd_T26 y235 n).f3⟩ : S26) : List S26)).bind fun y236 => (laws_markNoteS.l0 k (y236.set (n : Int).toNat (⟨(rd_T26 y236 n).f0, (rd_T26 y236 n).f1, (rd_T26 y236 n).f2, 4 * (n : Int) + 4⟩ : S26)) (4 * ((n + 1 : Nat) : Int) + 1) ((n + 1 : Nat) : Int)))))) r ∧ 0 ≤ r.1 := by
        refine exBN (Ev.now _) ?_
        generalize hy : x.set (n : Int).toNat (⟨4 * (n : Int) + 1, (rd_T26 x n).f1, (rd_T26 x n).f2, (rd_T26 x n).f3⟩ : S26) = y
        have ly : y.length = l.length := by rw [← hy, List.length_set]; exact hx
        refine exBN ht (exBN (Ev.now _) ?_)
        generalize hy2 : y.set (n : Int).toNat (⟨(rd_T26 y n).f0, t, (rd_T26 y n).f2, (rd_T26 y n).f3⟩ : S26) = y2
        have ly2 : y2.length = l.length := by rw [← hy2, List.length_set]; exact ly
        refine exBN (Ev.now _) ?_
        generalize hy3 : y2.set (n : Int).toNat (⟨(rd_T26 y2 n).f0, (rd_T26 y2 n).f1, 4 * (n : Int) + 3, (rd_T26 y2 n).f3⟩ : S26) = y3
        have ly3 : y3.length = l.length := by rw [← hy3, List.length_set]; exact ly2
        exact hall _ (by rw [List.length_set]; exact ly3)
      obtain ⟨r, hr, h0⟩ := go
      refine ⟨r, Ev.step (fun k => ?_) hr, h0⟩
      simp only [laws_markNoteS.l0]
      rw [if_pos (by omega), if_pos (by omega), w1, w2, w3, w4, wrap_succ (by omega)]
  obtain ⟨r, hr, h0⟩ := key l.length 0 l rfl (by omega)
  exact ⟨r, hr, h0⟩
end Go.Proofs.Ytghnljoaklmakaa.X


namespace Go.Proofs.Ytghnljoaklmakaa.Pure
open Go.RowKit Go.Proofs.YtghnljoaklmakaaW.PrintWords Go.Proofs.YtghnljoaklmakaaL Go.Proofs.Ytghnljoaklmakaa.X
set_option linter.unusedVariables false
set_option linter.unusedSimpArgs false
theorem FnExactNotesFor : OFnExactNotesFor.Pure := by
  intro l id hl hid
  refine ev_rounds ?_
  unfold laws_FnExactNotesFor.f
  by_cases hi : (id.size : Int) > 1048576
  · simp only [if_pos hi]; exact Ev.now _
  · simp only [if_neg hi]
    obtain ⟨r, hr, hb⟩ := szNoteS_ev l hl.2.1 (fun x hx => (hl.2.2 x hx).2.1)
    refine Ev.bind hr ?_
    by_cases c : r < 0
    · simp only [if_pos c]; exact Ev.now _
    · have hb := hb c
      simp only [if_neg c]
      have hm : (l.map convN).length ≤ 1048576 := by simpa using hb
      have hT := toNoteS_ev l hb
      have hS := specNotes_ev _ hm id
      have hI := implNotes_ev _ hm id
      have hz : (notesOf (l.map convN) id).1.length ≤ 1048576 := by
        unfold notesOf
        split
        · have := ats_length (l.map convN) id (l.map convN).length; simp only; omega
        · simp
      have hE := eqNoteS_ev (l.map convN) hm
      obtain ⟨q, hM, q0⟩ := markNoteS_ev (l.map convN) hm
      generalize notesOf (l.map convN) id = W at hS hI hz
      obtain ⟨O, o⟩ := W
      dsimp only at hz
      have hO := eqIntS_ev O (by omega)
      have hk := markIntS_ev O (by omega)
      have hh := heldIntS_ev O.length (by omega)
      refine Ev.bind hT (Ev.bind hS (Ev.bind hT (Ev.bind hI (Ev.bind hO ?_))))
      simp only [bne_self_eq_false, if_true]
      have j2 : Ev (fun k => laws_FnExactNotesFor.j2 k (cnt O.length) ((O.length : Int) + 1) false) true := by
        refine Ev.step (f := fun k => (laws_heldIntS.f k (cnt O.length) 1).bind fun t274 => (if t274 < 0 then (some false) else (if t274 = (O.length : Int) + 1 then (some true) else (some false)))) (fun k => ?_) (Ev.bind hh ?_)
        · simp only [laws_FnExactNotesFor.j2]; rw [if_neg (by decide)]
        · rw [if_neg (by omega), if_pos rfl]; exact Ev.now _
      have j1 : Ev (fun k => laws_FnExactNotesFor.j1 k l id O o O false) true := by
        refine Ev.step (f := fun k => (laws_markIntS.f k O 1).bind fun bt263 => ((laws_heldIntS.f k bt263.2 1).bind fun t265 => (if t265 < 0 then (some false) else (if t265 = bt263.1 then ((laws_toNoteS.f k l).bind fun t266 => ((impl_NotesFor.f k t266 id).bind fun bt269 => ((laws_eqIntS.f k bt269.1 O).bind fun t273 => (if t273 = true then (laws_FnExactNotesFor.j2 k bt263.2 bt263.1 (bt269.2 != o)) else (laws_FnExactNotesFor.j2 k bt263.2 bt263.1 true))))) else (some false))))) (fun k => ?_) (Ev.bind hk (Ev.bind hh ?_))
        · simp only [laws_FnExactNotesFor.j1]; rw [if_neg (by decide)]
        · dsimp only
          have q1 : ¬ ((O.length : Int) + 1 < 0) := by omega
          simp only [if_neg q1, if_true]
          refine Ev.bind hT (Ev.bind hI (Ev.bind hO ?_))
          simp only [bne_self_eq_false, if_true]
          exact j2
      refine Ev.step (f := fun k => (laws_toNoteS.f k l).bind fun t256 => ((laws_eqNoteS.f k (l.map convN) t256).bind fun t259 => (if t259 = true then ((laws_markNoteS.f k (l.map convN) 1).bind fun bt260 => (if bt260.1 < 0 then (laws_FnExactNotesFor.j1 k l id O o O true) else ((laws_eqIntS.f k O O).bind fun t262 => (if t262 = true then (laws_FnExactNotesFor.j1 k l id O o O (o != o)) else (laws_FnExactNotesFor.j1 k l id O o O true))))) else (some false)))) (fun k => ?_) (Ev.bind hT (Ev.bind hE ?_))
      · simp only [laws_FnExactNotesFor.j0]; rw [if_neg (by decide)]
      · simp only [if_true]
        refine Ev.bind hM ?_
        have q1 : ¬ (q.1 < 0) := by omega
        simp only [if_neg q1]
        refine Ev.bind hO ?_
        simp only [if_true, bne_self_eq_false]
        exact j1
end Go.Proofs.Ytghnljoaklmakaa.Pure



namespace Go.Proofs.Ytghnljoaklmakaa.fnExactNotesFor
open Go.ChangeShapes Go.WideShapes Go.ChangeAt Go.RowKit
open Go.ChangeMaps (open_string shut_string)
open Go.Joins
open Go.Proofs.YtghnljoaklmakaaW.PrintWords Go.Proofs.YtghnljoaklmakaaW.PrintLast Go.Proofs.YtghnljoaklmakaaW.PrintMore
open Go.Proofs.YtghnljoaklmakaaZ Go.Proofs.Ytghnljoaklmakaa.X Go.Proofs.Ytghnljoaklmakaa.X.OFnExactNotesFor
set_option linter.unusedVariables false
set_option linter.unusedSimpArgs false
theorem own : ownKnob Try.prog.godebug = none := by kernel_rfl
theorem laidOut : laidOutB Try.prog = true := by kernel_rfl
set_option maxRecDepth 100000 in
set_option maxHeartbeats 2000000 in
theorem lifted (os : Os) (started : os.Started) (H : Type) (enc : TypeId × Value → H) :
    ReturnsInHanded {} Try.checked os 6 .any (Rows.fnExactNotesForSpec.pre6 enc Try.prog Try.f6 Rows.fnExactNotesForRow.domain false) (Rows.fnExactNotesForSpec.post enc Try.prog Try.f6 false true false false) := by
  refine returnsInHanded_of_change_sized (C := Try.checked) own started (by kernel_rfl) Try.func6
    (ChangeSpec.witness6 (enc := enc) (C := Try.checked) false ⟨#[], #[.slice none 0 0, .string ByteArray.empty], []⟩ 8 (by kernel_rfl) (by kernel_rfl) (by kernel_rfl) (by kernel_rfl)) ?_
  intro W base args ds gs before hval0 hW hcnd hsz0 _
  have hsz : (DataW.weightsEach Try.prog (Try.f6.params.toList ++ Rows.fnExactNotesForSpec.plain.varTypes Try.prog) (ds ++ gs)).all (· ≤ reachBytes) = true := hsz0
  have hval : ∀ (j : Nat) t v, Try.f6.params[j]? = some t → args[j]? = some v → Value.okWide Try.prog W .any base t v := hval0
  have hW' := hW
  obtain ⟨p, q, hA0, hV, rfl, hfz, hnd⟩ := hW
  have hA : DataW.TrodAll enc Try.prog W 0 (fun _ => true) true Try.f6.params.toList args.toList ds p := hA0
  rw [Try.params6] at hA hval hsz
  obtain ⟨v0, vs0, d0, ds0, p0, q0, hargs, rfl, rfl, h0, r0⟩ := trodAll_cons hA
  obtain ⟨v1, vs1, d1, ds1, p1, q1, rfl, rfl, rfl, h1, r1⟩ := trodAll_cons r0
  obtain ⟨rfl, rfl, rfl⟩ := trodAll_nil r1
  obtain rfl : args = #[v0, v1] := by cases args; simp_all
  obtain ⟨rfl, rfl⟩ := trodVars_none hV
  obtain ⟨a0, len0, cap0, rfl⟩ := okWide_slice Try.underlying29 (hval 0 29 v0 rfl rfl)
  have k0 := h0
  have lt0 : ∀ x ∈ p0, x.block < W.heap.size := by obtain ⟨m, hm⟩ := k0; exact DataW.trod_lt m _ _ _ hm
  obtain ⟨l0, rfl, hc0, hr0, w0⟩ : ∃ l : List (S23), len0 = l.length ∧ l.length ≤ cap0 ∧ Kd.C k23 W a0 l.length l ∧ (l.length * 40 ≤ 140737488351232 ∧ l.length ≤ 9223372036854775807 ∧ ∀ y1 ∈ l, fitsT23 y1) := by
    obtain ⟨fuel, hf⟩ := h0
    obtain ⟨l, ⟨A_, c_, e_, hl_, hC_⟩, hfit_⟩ := (opens_slice z23 Try.underlying29 (by kernel_rfl) opensT23 (by kernel_rfl)) hf (weights_param hsz (j := 0) rfl rfl)
    simp [Value.cells] at e_
    obtain ⟨rfl, rfl, rfl⟩ := e_
    exact ⟨l, rfl, hl_, hC_, hfit_⟩
  obtain ⟨a1, rfl, rfl, rfl, y1⟩ := open_string Try.underlying9 (hval 1 9 v1 rfl rfl) h1
  have w1 : a1.size ≤ 140737488351232 := by
    have z := sized_string hsz (j := 1) (t := 9) rfl rfl
    rw [Array.length_toList] at z
    exact z
  clear hA0 hval0 hsz0 hsz
  obtain ⟨k, h⟩ := Go.Proofs.Ytghnljoaklmakaa.Pure.FnExactNotesFor l0 a1 w0 w1
  refine (laws_FnExactNotesFor.calls k a0 cap0 l0 a1 true W hr0 hc0 h rfl).mono fun e W' ⟨he, bel0⟩ => ?_
  have bel : Below W.heap.size W W' := bel0
  subst he
  exact ⟨_, rfl, _, _, _, [], _, [], hW', trodAll_mk1 (shut_bool Try.underlying4 _), (trodAll_cons_mk (Below.trod laidOut (by kernel_rfl) (of_decide_eq_true (by kernel_rfl)) k0 bel lt0) (trodAll_cons_mk (shut_string Try.underlying9 y1) trodAll_mk0)), rfl, bel.frame _, fun h => by cases h⟩
theorem over : Rows.fnExactNotesForRow.holds Try.pinned (OpenSpec.ofChange Rows.fnExactNotesForSpec) :=
  OpenClaim.holds_of_wide 6 Try.f6 rfl rfl rfl rfl rfl rfl rfl ⟨rfl, rfl, rfl, rfl, rfl⟩ rfl rfl rfl rfl rfl (by kernel_rfl) Try.func6 (by kernel_rfl)
    (of_decide_eq_true (by kernel_rfl)) (by unfold Func.isWrapper; first | (rw [if_pos (by decide +kernel)]; kernel_rfl) | (rw [if_neg (by decide +kernel)]; exact ⟨rfl, rfl⟩))
    (fun os started H enc _ => lifted os started H enc)
theorem proved : Rows.FnExactNotesForSaid := over
#print axioms proved
end Go.Proofs.Ytghnljoaklmakaa.fnExactNotesFor
namespace Go.Proofs.Ytghnljoaklmakaa
/-- The row, under a short name, for the claim. -/
theorem fnExactNotesFor_holds : Rows.FnExactNotesForSaid := fnExactNotesFor.proved
end Go.Proofs.Ytghnljoaklmakaa

