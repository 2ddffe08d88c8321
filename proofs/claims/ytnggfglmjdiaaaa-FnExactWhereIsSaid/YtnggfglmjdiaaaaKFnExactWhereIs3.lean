/- The law FnExactWhereIs answers true for every input that the row lets in, and leaves its arguments as they were. Conditions: none beyond the row's own. -/
import Derived.Deep.Slices
import Derived.ChangeSame
import Derived.ChangeArms
import Derived.DataReads
import Derived.SizedLaws
import Derived.ProofKit
import Derived.Lib.SmallJoins
import Derived.ChangeOld
import Derived.Below
import Derived.Test.YtnggfglmjdiaaaaRows
import Derived.WalkKit
import Derived.OpenShut
import Derived.ShutString
import Derived.Test.YtnggfglmjdiaaaaKFnExactWhereIs0
import Derived.Test.YtnggfglmjdiaaaaKFnExactWhereIs1
import Derived.Test.YtnggfglmjdiaaaaKFnExactWhereIs2
-- written by a program of this session (wip/ext.py) out of the translation. Not trusted: Lean checks it.
namespace Go.Proofs.Ytnggfglmjdiaaaa.X
open Go.RowKit Go.Proofs.YtnggfglmjdiaaaaW.PrintWords Go.Proofs.YtnggfglmjdiaaaaW.PrintLast Go.Proofs.YtnggfglmjdiaaaaW.PrintMore
attribute [local go_sem] max2_int min2_int max_two min_two max_three min_three max_four min_four   -- for this text's walks alone
set_option linter.unusedVariables false
set_option linter.unusedSimpArgs false

/-! ### impl_placeOf: function 44 -/
def impl_placeOf.l0 : Nat → Int → List (List Int) → Int → Int → Option (Int × Int)
  | 0, _, _, _, _ => none
  | k + 1, x1, x10, x11, x12 => if x12 < x11 then (if 0 ≤ x12 then (if x12 < (x10.length : Int) then ((slices_Index_int_int.f k (rd_L1 x10 x12) x1).bind fun t192 => (if t192 ≥ 0 then (some (x12, t192)) else (impl_placeOf.l0 k x1 x10 x11 (wrap64 (x12 + 1))))) else (none)) else (none)) else (some ((-1), (-1)))
def impl_placeOf.f (k : Nat) (l0_0 : List (List Int)) (a1 : Int) : Option (Int × Int) := impl_placeOf.l0 k a1 l0_0 (l0_0.length : Int) 0
theorem impl_placeOf.mono_l : ∀ k, (∀ y0 y1 y2 y3, LeO (impl_placeOf.l0 k y0 y1 y2 y3) (impl_placeOf.l0 (k + 1) y0 y1 y2 y3))
  | 0 => fun _ _ _ _ r h => by simp [impl_placeOf.l0] at h
  | k + 1 => by
    have ih0 := impl_placeOf.mono_l k
    · intro y0 y1 y2 y3
      unfold impl_placeOf.l0
      repeat' first
      | (with_reducible exact ih0 _ _ _ _)
      | (with_reducible exact slices_Index_int_int.mono _ _ _)
      | (with_reducible exact LeO.refl _)
      | (with_reducible exact LeO.none _)
      | (with_reducible refine LeO.ite ?_ ?_)
      | (with_reducible refine LeO.bind ?_ (fun _ => ?_))
      | exact ih0 _ _ _ _
      | exact slices_Index_int_int.mono _ _ _
      | exact LeO.none _
      | refine LeO.ite ?_ ?_
      | refine LeO.bind ?_ (fun _ => ?_)
theorem impl_placeOf.mono : ∀ a0 a1 k, LeO (impl_placeOf.f k a0 a1) (impl_placeOf.f (k + 1) a0 a1) := by
  intro a0 a1 k
  have ih0 := impl_placeOf.mono_l k
  unfold impl_placeOf.f
  repeat' first
      | (with_reducible exact ih0 _ _ _ _)
      | (with_reducible exact slices_Index_int_int.mono _ _ _)
      | (with_reducible exact LeO.refl _)
      | (with_reducible exact LeO.none _)
      | (with_reducible refine LeO.ite ?_ ?_)
      | (with_reducible refine LeO.bind ?_ (fun _ => ?_))
      | exact ih0 _ _ _ _
      | exact slices_Index_int_int.mono _ _ _
      | exact LeO.none _
      | refine LeO.ite ?_ ?_
      | refine LeO.bind ?_ (fun _ => ?_)
set_option maxHeartbeats 8000000 in
set_option maxRecDepth 100000 in
theorem impl_placeOf.calls (k : Nat) (A0_0 : Option Addr) (c0_0 : Nat) (l0_0 : List (List Int)) (a1 : Int) (r1 : Int) (r2 : Int) (w : World) (hr0_0 : Kd.C (Kd.slice 3 (Kd.int .i64)) w A0_0 l0_0.length l0_0) (hc0_0 : l0_0.length ≤ c0_0) (h : impl_placeOf.f k l0_0 a1 = some (r1, r2)) :
    Calls Try.prog 44 #[.agg #[.slice A0_0 l0_0.length c0_0], .int .i64 a1] w fun e w' => e = .returned (.tuple #[.int .i64 r1, .int .i64 r2]) ∧ Below w.heap.size w w' := by
  have hu31 := Try.underlying31
  have HR0_0 := Aside0.mk hr0_0
  have HC0_0 := Aside0.mk hc0_0
  clear hr0_0 hc0_0
  have HB := Aside0.mk (Below.refl w.heap.size w)
  have H : (impl_placeOf.l0 k a1 l0_0 (l0_0.length : Int) 0) = some (r1, r2) := h
  clear h
  have H' := Aside0.mk H
  clear H
  go_enter Try.func44, Try.ntmps44
  go_wp2_with (first | ((with_reducible refine gate_dst (N := 2) rfl ?_); refine box_event ?hg (N := 2) ?hd (cs := #[.slice A0_0 l0_0.length c0_0]) (t := 31) ?hr ?_; (case hd => rfl); (case hg => rfl); (case hr => first | (go_simp; done) | (go_simp; rfl)); intro gb190 hg w3 hbox hb; have n0_ := Aside0.mk (below_step (by repeat (first | (with_reducible first | exact HB.out | apply below_alloc | apply pw_below_drewN | apply below_drew1) | exact HB.out)) hb); have n1_ := Aside0.mk (hbox); have n2_ := Aside0.mk ((by rw [hg]; exact (below_size (by repeat (first | (with_reducible first | exact HB.out | apply below_alloc | apply pw_below_drewN | apply below_drew1) | exact HB.out))) : w.heap.size ≤ gb190)); have n3_ := Aside0.mk ((by rw [hg]; exact (below_size (by repeat (first | (with_reducible first | exact HB.out | apply below_alloc | apply pw_below_drewN | apply below_drew1) | exact HB.out))) : w.heap.size ≤ gb190)); clear HB; have HB := n0_; have BK190 := n1_; have GW190 := n2_; have GE190 := n3_; clear n0_ n1_ n2_ n3_; clear hb hbox hg; have hcz4_0 : w3.cell? ⟨gb190, 0, none⟩ = some (.slice A0_0 l0_0.length c0_0) := (blk_cell BK190.out 0).trans rfl; have hfz4_0 := blk_frozen BK190.out 0))
  go_loopg [12] k (fun kq v12 w' => ∃ (x12_1 : Int), v12 = .int .i64 x12_1 ∧ Aside0 (impl_placeOf.l0 kq a1 l0_0 (l0_0.length : Int) x12_1 = some (r1, r2)) ∧ Aside0 (kq ≤ k) ∧ Aside0 (w'.heap[gb190]? = some (.cells #[(.slice A0_0 l0_0.length c0_0)] 31 (0, 0))) ∧ Aside0 (Below w.heap.size w w'))
  case atStart => exact ⟨(0), (by first | rfl | (simp; done) | (simp [*]; done)), H', ⟨Nat.le_refl _⟩, ⟨by (with_reducible repeat (first | refine blk_drewN ?_ _ | refine blk_drew ?_ | refine blk_alloc ?_ _)); exact BK190.out⟩, ⟨by repeat (first | (with_reducible first | exact HB.out | apply below_alloc | apply pw_below_drewN | apply below_drew1 | refine below_set ?_ GE190.out) | exact HB.out)⟩⟩
  case round =>
    clear H'
    try clear p2
    try clear c4
    try clear hcz4_0
    try clear hfz4_0
    obtain ⟨x12_1, rfl, HA, HK1, BK190, HB⟩ := hrel
    cases gk with
    | zero => exact absurd HA.out (by simp [impl_placeOf.l0])
    | succ k1 =>
      have H := HA.out
      clear HA
      simp only [impl_placeOf.l0] at H
      by_cases c5 : x12_1 < (l0_0.length : Int)
      · rw [if_pos c5] at H
        have c5b0 : decide (x12_1 < (l0_0.length : Int)) = true := decide_eq_true c5
        clear c5
        by_cases c6 : 0 ≤ x12_1
        · rw [if_pos c6] at H
          have c6b0 : decide (0 ≤ x12_1) = true := decide_eq_true c6
          clear c6
          by_cases c7 : x12_1 < (l0_0.length : Int)
          · rw [if_pos c7] at H
            have c7b0 : decide (x12_1 < (l0_0.length : Int)) = true := decide_eq_true c7
            clear c7
            replace H := Option.bind_eq_some_iff.mp H
            obtain ⟨t192, A80, H⟩ := H
            replace H : (if t192 ≥ 0 then (some (x12_1, t192)) else (impl_placeOf.l0 k1 a1 l0_0 (l0_0.length : Int) (wrap64 (x12_1 + 1)))) = some (r1, r2) := H
            have A8 := Aside0.mk A80
            clear A80
            by_cases c9 : t192 ≥ 0
            · rw [if_pos c9] at H
              have c9b0 : decide (0 ≤ t192) = true := decide_eq_true c9
              clear c9
              simp only [Option.some.injEq, Prod.mk.injEq] at H
              obtain ⟨rfl, rfl⟩ := H
              have p191 : 0 ≤ (x12_1 : Int) := of_decide_eq_true (by first | (with_reducible assumption) | assumption)
              have q191 : x12_1 < (l0_0.length : Int) := of_decide_eq_true (by first | (with_reducible assumption) | assumption)
              obtain ⟨ad191, A191_0, c191_0, e191, hx191_0, hl191_0, hi191_0⟩ := at_L1 HR0_0.out x12_1 p191 q191
              cases e191
              replace hx191_0 := (HB.out.cell (World.block_lt_of_cell? w _ hx191_0)).trans hx191_0
              have HR191_0 := Aside0.mk hi191_0
              have HC191_0 := Aside0.mk hl191_0
              clear hi191_0 hl191_0
              replace p191 := eq_true p191
              replace q191 := eq_true q191
              go_wp2_with (first | ((with_reducible refine gate_callee (f := 66) rfl ?_); refine goesL_ (some 19) rfl rfl Try.func66 (by kernel_rfl) rfl #[.slice A191_0 (rd_L1 l0_0 x12_1).length c191_0, .int .i64 a1] rfl (by (try simp only [List.map_toArray, List.map_cons, List.map_nil]); first | done | rfl | (simp only [List.length_drop, List.length_take]; rfl)) ?_; (with_reducible refine (slices_Index_int_int.calls k1 _ _ (rd_L1 l0_0 x12_1) a1 t192 _ ?side1 ?side2 A8.out).mono ?_); (case side1 => repeat (first | exact (Kd.C_below HR191_0.out HB.out) | (with_reducible refine Kd.C_alloc ?_ _) | (with_reducible refine Kd.C_drewN ?_ _) | (with_reducible refine Kd.C_drew ?_))); (case side2 => exact HC191_0.out); rintro e w' ⟨rfl, ⟨nd, rfl⟩⟩; refine ⟨_, rfl, ?_⟩))
              go_ret2
              exact ⟨by first | rfl | (simp [errW_none, errW_some] <;> rfl) | (simp [*, errW_none, errW_some] <;> rfl), by repeat (first | (with_reducible first | exact HB.out | apply below_alloc | apply pw_below_drewN | apply below_drew1 | refine below_set ?_ GE190.out) | exact HB.out)⟩
            · rw [if_neg c9] at H
              have c9b0 : decide (0 ≤ t192) = false := decide_eq_false c9
              clear c9
              have H' := Aside0.mk H
              clear H
              have p191 : 0 ≤ (x12_1 : Int) := of_decide_eq_true (by first | (with_reducible assumption) | assumption)
              have q191 : x12_1 < (l0_0.length : Int) := of_decide_eq_true (by first | (with_reducible assumption) | assumption)
              obtain ⟨ad191, A191_0, c191_0, e191, hx191_0, hl191_0, hi191_0⟩ := at_L1 HR0_0.out x12_1 p191 q191
              cases e191
              replace hx191_0 := (HB.out.cell (World.block_lt_of_cell? w _ hx191_0)).trans hx191_0
              have HR191_0 := Aside0.mk hi191_0
              have HC191_0 := Aside0.mk hl191_0
              clear hi191_0 hl191_0
              replace p191 := eq_true p191
              replace q191 := eq_true q191
              go_wp2_with (first | ((with_reducible refine gate_callee (f := 66) rfl ?_); refine goesL_ (some 19) rfl rfl Try.func66 (by kernel_rfl) rfl #[.slice A191_0 (rd_L1 l0_0 x12_1).length c191_0, .int .i64 a1] rfl (by (try simp only [List.map_toArray, List.map_cons, List.map_nil]); first | done | rfl | (simp only [List.length_drop, List.length_take]; rfl)) ?_; (with_reducible refine (slices_Index_int_int.calls k1 _ _ (rd_L1 l0_0 x12_1) a1 t192 _ ?side1 ?side2 A8.out).mono ?_); (case side1 => repeat (first | exact (Kd.C_below HR191_0.out HB.out) | (with_reducible refine Kd.C_alloc ?_ _) | (with_reducible refine Kd.C_drewN ?_ _) | (with_reducible refine Kd.C_drew ?_))); (case side2 => exact HC191_0.out); rintro e w' ⟨rfl, ⟨nd, rfl⟩⟩; refine ⟨_, rfl, ?_⟩))
              go_roundg k1
              case measure => have := HK1.out; omega
              case rel => exact ⟨(wrap64 (x12_1 + 1)), (by first | rfl | (simp; done) | (simp [*]; done)), H', ⟨by have := HK1.out; omega⟩, ⟨by (with_reducible repeat (first | refine blk_drewN ?_ _ | refine blk_drew ?_ | refine blk_alloc ?_ _)); exact BK190.out⟩, ⟨by repeat (first | (with_reducible first | exact HB.out | apply below_alloc | apply pw_below_drewN | apply below_drew1 | refine below_set ?_ GE190.out) | exact HB.out)⟩⟩
          · rw [if_neg c7] at H
            exact absurd H (by simp)
        · rw [if_neg c6] at H
          exact absurd H (by simp)
      · rw [if_neg c5] at H
        have c5b0 : decide (x12_1 < (l0_0.length : Int)) = false := decide_eq_false c5
        clear c5
        simp only [Option.some.injEq, Prod.mk.injEq] at H
        obtain ⟨rfl, rfl⟩ := H
        go_wp2
        go_ret2
        exact ⟨by first | rfl | (simp [errW_none, errW_some] <;> rfl) | (simp [*, errW_none, errW_some] <;> rfl), by repeat (first | (with_reducible first | exact HB.out | apply below_alloc | apply pw_below_drewN | apply below_drew1 | refine below_set ?_ GE190.out) | exact HB.out)⟩

end Go.Proofs.Ytnggfglmjdiaaaa.X

-- written by a program of this session (wip/ext.py) out of the translation. Not trusted: Lean checks it.
namespace Go.Proofs.Ytnggfglmjdiaaaa.X
open Go.RowKit Go.Proofs.YtnggfglmjdiaaaaW.PrintWords Go.Proofs.YtnggfglmjdiaaaaW.PrintLast Go.Proofs.YtnggfglmjdiaaaaW.PrintMore
attribute [local go_sem] max2_int min2_int max_two min_two max_three min_three max_four min_four   -- for this text's walks alone
set_option linter.unusedVariables false
set_option linter.unusedSimpArgs false

/-! ### impl_IsValidTerminal: function 13 -/
mutual
def impl_IsValidTerminal.j0 : Nat → Bool → List (List Int) → Int → List (List Int) → Option (Bool)
  | 0, _, _, _, _ => none
  | k + 1, x18, x194000, x194001, x194002 => if x18 = true then (some false) else (impl_IsValidTerminal.l0 k x194002 (x194002.length : Int) 0 x194000 x194001 x194002)
def impl_IsValidTerminal.l0 : Nat → List (List Int) → Int → Int → List (List Int) → Int → List (List Int) → Option (Bool)
  | 0, _, _, _, _, _, _ => none
  | k + 1, x21, x22, x23, x194000, x194001, x194002 => if x23 < x22 then (if 0 ≤ x23 then (if x23 < (x21.length : Int) then (impl_IsValidTerminal.l1 k x21 x22 x23 (rd_L1 x21 x23) ((rd_L1 x21 x23).length : Int) 0 x194000 x194001 x194002) else (none)) else (none)) else (some true)
def impl_IsValidTerminal.l1 : Nat → List (List Int) → Int → Int → List Int → Int → Int → List (List Int) → Int → List (List Int) → Option (Bool)
  | 0, _, _, _, _, _, _, _, _, _ => none
  | k + 1, x21, x22, x23, x27, x28, x29, x194000, x194001, x194002 => if x29 < x28 then (if 0 ≤ x29 then (if x29 < (x27.length : Int) then ((impl_placeOf.f k x194000 (rd x27 x29)).bind fun bt198 => (if bt198.1 ≥ 0 then (some false) else (impl_IsValidTerminal.l1 k x21 x22 x23 x27 x28 (wrap64 (x29 + 1)) x194000 x194001 x194002))) else (none)) else (none)) else (impl_IsValidTerminal.l0 k x21 x22 (wrap64 (x23 + 1)) x194000 x194001 x194002)
end
def impl_IsValidTerminal.f (k : Nat) (l0_0 : List (List Int)) (a0_1 : Int) (l0_2 : List (List Int)) : Option (Bool) := (impl_IsValidYard.f l0_0).bind fun t194 => (if t194 = true then ((impl_IsValidBay.f a0_1 l0_2).bind fun t195 => (impl_IsValidTerminal.j0 k (!t195) l0_0 a0_1 l0_2)) else (impl_IsValidTerminal.j0 k true l0_0 a0_1 l0_2))
theorem impl_IsValidTerminal.mono_l : ∀ k, (∀ y0 y1 y2 y3, LeO (impl_IsValidTerminal.j0 k y0 y1 y2 y3) (impl_IsValidTerminal.j0 (k + 1) y0 y1 y2 y3)) ∧ (∀ y0 y1 y2 y3 y4 y5, LeO (impl_IsValidTerminal.l0 k y0 y1 y2 y3 y4 y5) (impl_IsValidTerminal.l0 (k + 1) y0 y1 y2 y3 y4 y5)) ∧ (∀ y0 y1 y2 y3 y4 y5 y6 y7 y8, LeO (impl_IsValidTerminal.l1 k y0 y1 y2 y3 y4 y5 y6 y7 y8) (impl_IsValidTerminal.l1 (k + 1) y0 y1 y2 y3 y4 y5 y6 y7 y8))
  | 0 => ⟨fun _ _ _ _ r h => by simp [impl_IsValidTerminal.j0] at h, fun _ _ _ _ _ _ r h => by simp [impl_IsValidTerminal.l0] at h, fun _ _ _ _ _ _ _ _ _ r h => by simp [impl_IsValidTerminal.l1] at h⟩
  | k + 1 => by
    obtain ⟨ih0, ih1, ih2⟩ := impl_IsValidTerminal.mono_l k
    refine ⟨?_, ?_, ?_⟩
    · intro y0 y1 y2 y3
      unfold impl_IsValidTerminal.j0
      repeat' first
      | (with_reducible exact ih0 _ _ _ _)
      | (with_reducible exact ih1 _ _ _ _ _ _)
      | (with_reducible exact ih2 _ _ _ _ _ _ _ _ _)
      | (with_reducible exact impl_placeOf.mono _ _ _)
      | (with_reducible exact LeO.refl _)
      | (with_reducible exact LeO.none _)
      | (with_reducible refine LeO.ite ?_ ?_)
      | (with_reducible refine LeO.bind ?_ (fun _ => ?_))
      | exact ih0 _ _ _ _
      | exact ih1 _ _ _ _ _ _
      | exact ih2 _ _ _ _ _ _ _ _ _
      | exact impl_placeOf.mono _ _ _
      | exact LeO.none _
      | refine LeO.ite ?_ ?_
      | refine LeO.bind ?_ (fun _ => ?_)
    · intro y0 y1 y2 y3 y4 y5
      unfold impl_IsValidTerminal.l0
      repeat' first
      | (with_reducible exact ih0 _ _ _ _)
      | (with_reducible exact ih1 _ _ _ _ _ _)
      | (with_reducible exact ih2 _ _ _ _ _ _ _ _ _)
      | (with_reducible exact impl_placeOf.mono _ _ _)
      | (with_reducible exact LeO.refl _)
      | (with_reducible exact LeO.none _)
      | (with_reducible refine LeO.ite ?_ ?_)
      | (with_reducible refine LeO.bind ?_ (fun _ => ?_))
      | exact ih0 _ _ _ _
      | exact ih1 _ _ _ _ _ _
      | exact ih2 _ _ _ _ _ _ _ _ _
      | exact impl_placeOf.mono _ _ _
      | exact LeO.none _
      | refine LeO.ite ?_ ?_
      | refine LeO.bind ?_ (fun _ => ?_)
    · intro y0 y1 y2 y3 y4 y5 y6 y7 y8
      unfold impl_IsValidTerminal.l1
      repeat' first
      | (with_reducible exact ih0 _ _ _ _)
      | (with_reducible exact ih1 _ _ _ _ _ _)
      | (with_reducible exact ih2 _ _ _ _ _ _ _ _ _)
      | (with_reducible exact impl_placeOf.mono _ _ _)
      | (with_reducible exact LeO.refl _)
      | (with_reducible exact LeO.none _)
      | (with_reducible refine LeO.ite ?_ ?_)
      | (with_reducible refine LeO.bind ?_ (fun _ => ?_))
      | exact ih0 _ _ _ _
      | exact ih1 _ _ _ _ _ _
      | exact ih2 _ _ _ _ _ _ _ _ _
      | exact impl_placeOf.mono _ _ _
      | exact LeO.none _
      | refine LeO.ite ?_ ?_
      | refine LeO.bind ?_ (fun _ => ?_)
theorem impl_IsValidTerminal.mono : ∀ a0 a1 a2 k, LeO (impl_IsValidTerminal.f k a0 a1 a2) (impl_IsValidTerminal.f (k + 1) a0 a1 a2) := by
  intro a0 a1 a2 k
  obtain ⟨ih0, ih1, ih2⟩ := impl_IsValidTerminal.mono_l k
  unfold impl_IsValidTerminal.f
  repeat' first
      | (with_reducible exact ih0 _ _ _ _)
      | (with_reducible exact ih1 _ _ _ _ _ _)
      | (with_reducible exact ih2 _ _ _ _ _ _ _ _ _)
      | (with_reducible exact impl_placeOf.mono _ _ _)
      | (with_reducible exact LeO.refl _)
      | (with_reducible exact LeO.none _)
      | (with_reducible refine LeO.ite ?_ ?_)
      | (with_reducible refine LeO.bind ?_ (fun _ => ?_))
      | exact ih0 _ _ _ _
      | exact ih1 _ _ _ _ _ _
      | exact ih2 _ _ _ _ _ _ _ _ _
      | exact impl_placeOf.mono _ _ _
      | exact LeO.none _
      | refine LeO.ite ?_ ?_
      | refine LeO.bind ?_ (fun _ => ?_)
set_option maxHeartbeats 8000000 in
set_option maxRecDepth 100000 in
theorem impl_IsValidTerminal.calls (k : Nat) (A0_0 : Option Addr) (c0_0 : Nat) (l0_0 : List (List Int)) (a0_1 : Int) (A0_2 : Option Addr) (c0_2 : Nat) (l0_2 : List (List Int)) (r : Bool) (w : World) (hr0_0 : Kd.C (Kd.slice 3 (Kd.int .i64)) w A0_0 l0_0.length l0_0) (hc0_0 : l0_0.length ≤ c0_0) (hr0_2 : Kd.C (Kd.slice 3 (Kd.int .i64)) w A0_2 l0_2.length l0_2) (hc0_2 : l0_2.length ≤ c0_2) (h : impl_IsValidTerminal.f k l0_0 a0_1 l0_2 = some r) :
    Calls Try.prog 13 #[.agg #[.slice A0_0 l0_0.length c0_0, .int .i64 a0_1, .slice A0_2 l0_2.length c0_2]] w fun e w' => e = .returned (.bool r) ∧ Below w.heap.size w w' := by
  have hu34 := Try.underlying34
  have hu31 := Try.underlying31
  have hu32 := Try.underlying32
  have HR0_0 := Aside0.mk hr0_0
  have HC0_0 := Aside0.mk hc0_0
  clear hr0_0 hc0_0
  have HR0_2 := Aside0.mk hr0_2
  have HC0_2 := Aside0.mk hc0_2
  clear hr0_2 hc0_2
  have HB := Aside0.mk (Below.refl w.heap.size w)
  have H : ((impl_IsValidYard.f l0_0).bind fun t194 => (if t194 = true then ((impl_IsValidBay.f a0_1 l0_2).bind fun t195 => (impl_IsValidTerminal.j0 k (!t195) l0_0 a0_1 l0_2)) else (impl_IsValidTerminal.j0 k true l0_0 a0_1 l0_2))) = some r := h
  clear h
  have HC2 := Aside0.mk H
  clear H
  go_enter Try.func13, Try.ntmps13
  go_upto_region 1 with (first | ((with_reducible refine gate_dst (N := 1) rfl ?_); refine box_event ?hg (N := 1) ?hd (cs := #[.slice A0_0 l0_0.length c0_0, .int .i64 a0_1, .slice A0_2 l0_2.length c0_2]) (t := 34) ?hr ?_; (case hd => rfl); (case hg => rfl); (case hr => first | (go_simp; done) | (go_simp; rfl)); intro gb193 hg w3 hbox hb; have n0_ := Aside0.mk (below_step (by repeat (first | (with_reducible first | exact HB.out | apply below_alloc | apply pw_below_drewN | apply below_drew1) | exact HB.out)) hb); have n1_ := Aside0.mk (hbox); have n2_ := Aside0.mk ((by rw [hg]; exact (below_size (by repeat (first | (with_reducible first | exact HB.out | apply below_alloc | apply pw_below_drewN | apply below_drew1) | exact HB.out))) : w.heap.size ≤ gb193)); have n3_ := Aside0.mk ((by rw [hg]; exact (below_size (by repeat (first | (with_reducible first | exact HB.out | apply below_alloc | apply pw_below_drewN | apply below_drew1) | exact HB.out))) : w.heap.size ≤ gb193)); clear HB; have HB := n0_; have BK193 := n1_; have GW193 := n2_; have GE193 := n3_; clear n0_ n1_ n2_ n3_; clear hb hbox hg))
  (try simp only [Act.put, List.setIfInBounds_toArray, List.set_cons_zero, List.set_cons_succ])
  go_cut [18] (fun v18 wc => ∃ (kq : Nat) (x18_1 : Bool), v18 = .bool x18_1 ∧ Aside0 (impl_IsValidTerminal.j0 kq x18_1 l0_0 a0_1 l0_2 = some r) ∧ Aside0 (kq ≤ k) ∧ Aside0 (wc.heap[gb193]? = some (.cells #[(.slice A0_0 l0_0.length c0_0), .int .i64 a0_1, (.slice A0_2 l0_2.length c0_2)] 34 (0, 0))) ∧ Aside0 (Below w.heap.size w wc))
  case first =>
    have H := HC2.out
    clear HC2
    replace H := Option.bind_eq_some_iff.mp H
    obtain ⟨t194, A40, H⟩ := H
    replace H : (if t194 = true then ((impl_IsValidBay.f a0_1 l0_2).bind fun t195 => (impl_IsValidTerminal.j0 k (!t195) l0_0 a0_1 l0_2)) else (impl_IsValidTerminal.j0 k true l0_0 a0_1 l0_2)) = some r := H
    have A4 := Aside0.mk A40
    clear A40
    by_cases c5 : t194 = true
    · subst c5
      have H1 : ((impl_IsValidBay.f a0_1 l0_2).bind fun t195 => (impl_IsValidTerminal.j0 k (!t195) l0_0 a0_1 l0_2)) = some r := by rw [if_pos rfl] at H; exact H
      clear H
      have H := H1
      clear H1
      replace H := Option.bind_eq_some_iff.mp H
      obtain ⟨t195, A60, H⟩ := H
      replace H : (impl_IsValidTerminal.j0 k (!t195) l0_0 a0_1 l0_2) = some r := H
      have A6 := Aside0.mk A60
      clear A60
      have H' := Aside0.mk H
      clear H
      have hcz7_0 : w3.cell? ⟨gb193, 0, none⟩ = some (.slice A0_0 l0_0.length c0_0) := (blk_cell BK193.out 0).trans rfl
      have hcz7_1 : w3.cell? ⟨gb193, 1, none⟩ = some (.int .i64 a0_1) := (blk_cell BK193.out 1).trans rfl
      have hcz7_2 : w3.cell? ⟨gb193, 2, none⟩ = some (.slice A0_2 l0_2.length c0_2) := (blk_cell BK193.out 2).trans rfl
      have hfz7_0 := blk_frozen BK193.out 0
      have hfz7_1 := blk_frozen BK193.out 1
      have hfz7_2 := blk_frozen BK193.out 2
      go_wp2_with (first | ((with_reducible refine gate_callee (f := 42) rfl ?_); refine goesL_ (some 11) rfl rfl Try.func42 (by kernel_rfl) rfl #[.agg #[.slice A0_0 l0_0.length c0_0]] rfl (by (try simp only [List.map_toArray, List.map_cons, List.map_nil]); first | done | rfl | (simp only [List.length_drop, List.length_take]; rfl)) ?_; (with_reducible refine (impl_IsValidYard.calls _ _ l0_0 true _ ?side1 ?side2 A4.out).mono ?_); (case side1 => repeat (first | exact (Kd.C_below HR0_0.out HB.out) | (with_reducible refine Kd.C_alloc ?_ _) | (with_reducible refine Kd.C_drewN ?_ _) | (with_reducible refine Kd.C_drew ?_))); (case side2 => exact HC0_0.out); rintro e w8 ⟨rfl, hb⟩; refine ⟨_, rfl, ?_⟩; have n0_ := Aside0.mk (blk_below (g := gb193) (o := .cells #[.slice A0_0 l0_0.length c0_0, .int .i64 a0_1, .slice A0_2 l0_2.length c0_2] 34 (0, 0)) (by (with_reducible repeat (first | refine blk_drewN ?_ _ | refine blk_drew ?_ | refine blk_alloc ?_ _)); exact BK193.out) hb); have n1_ := Aside0.mk (below_step (by repeat (first | (with_reducible first | exact HB.out | apply below_alloc | apply pw_below_drewN | apply below_drew1 | refine below_set ?_ GE193.out) | exact HB.out)) hb); clear BK193; clear HB; have BK193 := n0_; have HB := n1_; clear n0_ n1_; (try clear hb); (try clear hb2); (try clear hk); (try clear hi); have hcz9_0 : w8.cell? ⟨gb193, 0, none⟩ = some (.slice A0_0 l0_0.length c0_0) := (blk_cell BK193.out 0).trans rfl; have hcz9_1 : w8.cell? ⟨gb193, 1, none⟩ = some (.int .i64 a0_1) := (blk_cell BK193.out 1).trans rfl; have hcz9_2 : w8.cell? ⟨gb193, 2, none⟩ = some (.slice A0_2 l0_2.length c0_2) := (blk_cell BK193.out 2).trans rfl; have hfz9_0 := blk_frozen BK193.out 0; have hfz9_1 := blk_frozen BK193.out 1; have hfz9_2 := blk_frozen BK193.out 2) | (go_at_call 43; (with_reducible refine (impl_IsValidBay.calls a0_1 _ _ l0_2 t195 _ ?side1 ?side2 A6.out).mono ?_); (case side1 => repeat (first | exact (Kd.C_below HR0_2.out HB.out) | (with_reducible refine Kd.C_alloc ?_ _) | (with_reducible refine Kd.C_drewN ?_ _) | (with_reducible refine Kd.C_drew ?_))); (case side2 => exact HC0_2.out); rintro e w10 ⟨rfl, hb⟩; have n0_ := Aside0.mk (blk_below (g := gb193) (o := .cells #[.slice A0_0 l0_0.length c0_0, .int .i64 a0_1, .slice A0_2 l0_2.length c0_2] 34 (0, 0)) (by (with_reducible repeat (first | refine blk_drewN ?_ _ | refine blk_drew ?_ | refine blk_alloc ?_ _)); exact BK193.out) hb); have n1_ := Aside0.mk (below_step (by repeat (first | (with_reducible first | exact HB.out | apply below_alloc | apply pw_below_drewN | apply below_drew1 | refine below_set ?_ GE193.out) | exact HB.out)) hb); clear BK193; clear HB; have BK193 := n0_; have HB := n1_; clear n0_ n1_; (try clear hb); (try clear hb2); (try clear hk); (try clear hi)))
      go_meet
      case rel => exact ⟨_, (!t195), (by first | rfl | (simp; done) | (simp [*]; done)), H', ⟨by first | omega | exact Nat.le_refl _⟩, ⟨by (with_reducible repeat (first | refine blk_drewN ?_ _ | refine blk_drew ?_ | refine blk_alloc ?_ _)); exact BK193.out⟩, ⟨by repeat (first | (with_reducible first | exact HB.out | apply below_alloc | apply pw_below_drewN | apply below_drew1 | refine below_set ?_ GE193.out) | exact HB.out)⟩⟩
    · replace c5 := Bool.eq_false_iff.mpr c5
      subst c5
      have H1 : (impl_IsValidTerminal.j0 k true l0_0 a0_1 l0_2) = some r := by rw [if_neg (show ¬ (false = true) by decide)] at H; exact H
      clear H
      have H := H1
      clear H1
      have H' := Aside0.mk H
      clear H
      have hcz11_0 : w3.cell? ⟨gb193, 0, none⟩ = some (.slice A0_0 l0_0.length c0_0) := (blk_cell BK193.out 0).trans rfl
      have hcz11_1 : w3.cell? ⟨gb193, 1, none⟩ = some (.int .i64 a0_1) := (blk_cell BK193.out 1).trans rfl
      have hcz11_2 : w3.cell? ⟨gb193, 2, none⟩ = some (.slice A0_2 l0_2.length c0_2) := (blk_cell BK193.out 2).trans rfl
      have hfz11_0 := blk_frozen BK193.out 0
      have hfz11_1 := blk_frozen BK193.out 1
      have hfz11_2 := blk_frozen BK193.out 2
      go_wp2_with (first | ((with_reducible refine gate_callee (f := 42) rfl ?_); refine goesL_ (some 11) rfl rfl Try.func42 (by kernel_rfl) rfl #[.agg #[.slice A0_0 l0_0.length c0_0]] rfl (by (try simp only [List.map_toArray, List.map_cons, List.map_nil]); first | done | rfl | (simp only [List.length_drop, List.length_take]; rfl)) ?_; (with_reducible refine (impl_IsValidYard.calls _ _ l0_0 false _ ?side1 ?side2 A4.out).mono ?_); (case side1 => repeat (first | exact (Kd.C_below HR0_0.out HB.out) | (with_reducible refine Kd.C_alloc ?_ _) | (with_reducible refine Kd.C_drewN ?_ _) | (with_reducible refine Kd.C_drew ?_))); (case side2 => exact HC0_0.out); rintro e w12 ⟨rfl, hb⟩; refine ⟨_, rfl, ?_⟩; have n0_ := Aside0.mk (blk_below (g := gb193) (o := .cells #[.slice A0_0 l0_0.length c0_0, .int .i64 a0_1, .slice A0_2 l0_2.length c0_2] 34 (0, 0)) (by (with_reducible repeat (first | refine blk_drewN ?_ _ | refine blk_drew ?_ | refine blk_alloc ?_ _)); exact BK193.out) hb); have n1_ := Aside0.mk (below_step (by repeat (first | (with_reducible first | exact HB.out | apply below_alloc | apply pw_below_drewN | apply below_drew1 | refine below_set ?_ GE193.out) | exact HB.out)) hb); clear BK193; clear HB; have BK193 := n0_; have HB := n1_; clear n0_ n1_; (try clear hb); (try clear hb2); (try clear hk); (try clear hi)))
      go_meet
      case rel => exact ⟨_, (true), (by first | rfl | (simp; done) | (simp [*]; done)), H', ⟨by first | omega | exact Nat.le_refl _⟩, ⟨by (with_reducible repeat (first | refine blk_drewN ?_ _ | refine blk_drew ?_ | refine blk_alloc ?_ _)); exact BK193.out⟩, ⟨by repeat (first | (with_reducible first | exact HB.out | apply below_alloc | apply pw_below_drewN | apply below_drew1 | refine below_set ?_ GE193.out) | exact HB.out)⟩⟩
  case rest =>
    clear HC2
    try clear c1
    try clear p2
    try clear c4
    try clear c5
    try clear hcz11_0
    try clear hcz11_1
    try clear hcz11_2
    try clear hcz7_0
    try clear hcz7_1
    try clear hcz7_2
    try clear hcz9_0
    try clear hcz9_1
    try clear hcz9_2
    try clear hfz11_0
    try clear hfz11_1
    try clear hfz11_2
    try clear hfz7_0
    try clear hfz7_1
    try clear hfz7_2
    try clear hfz9_0
    try clear hfz9_1
    try clear hfz9_2
    obtain ⟨kq, x18_1, rfl, HA, HJ1, BK193, HB⟩ := hcut
    cases kq with
    | zero => exact absurd HA.out (by simp [impl_IsValidTerminal.j0])
    | succ kj1 =>
      have H := HA.out
      clear HA
      simp only [impl_IsValidTerminal.j0] at H
      by_cases c13 : x18_1 = true
      · subst c13
        have H1 : (some false) = some r := by rw [if_pos rfl] at H; exact H
        clear H
        have H := H1
        clear H1
        obtain rfl := Option.some.inj H
        go_wp2
        go_ret
        exact ⟨by first | rfl | (simp [errW_none, errW_some] <;> rfl) | (simp [*, errW_none, errW_some] <;> rfl), by repeat (first | (with_reducible first | exact HB.out | apply below_alloc | apply pw_below_drewN | apply below_drew1 | refine below_set ?_ GE193.out) | exact HB.out)⟩
      · replace c13 := Bool.eq_false_iff.mpr c13
        subst c13
        have H1 : (impl_IsValidTerminal.l0 kj1 l0_2 (l0_2.length : Int) 0 l0_0 a0_1 l0_2) = some r := by rw [if_neg (show ¬ (false = true) by decide)] at H; exact H
        clear H
        have H := H1
        clear H1
        have H' := Aside0.mk H
        clear H
        have hcz14_0 : wc.cell? ⟨gb193, 0, none⟩ = some (.slice A0_0 l0_0.length c0_0) := (blk_cell BK193.out 0).trans rfl
        have hcz14_1 : wc.cell? ⟨gb193, 1, none⟩ = some (.int .i64 a0_1) := (blk_cell BK193.out 1).trans rfl
        have hcz14_2 : wc.cell? ⟨gb193, 2, none⟩ = some (.slice A0_2 l0_2.length c0_2) := (blk_cell BK193.out 2).trans rfl
        have hfz14_0 := blk_frozen BK193.out 0
        have hfz14_1 := blk_frozen BK193.out 1
        have hfz14_2 := blk_frozen BK193.out 2
        go_wp2
        go_loopg [23] kj1 (fun kq v23 w' => ∃ (x23_2 : Int), v23 = .int .i64 x23_2 ∧ Aside0 (impl_IsValidTerminal.l0 kq l0_2 (l0_2.length : Int) x23_2 l0_0 a0_1 l0_2 = some r) ∧ Aside0 (kq ≤ kj1) ∧ Aside0 (w'.heap[gb193]? = some (.cells #[(.slice A0_0 l0_0.length c0_0), .int .i64 a0_1, (.slice A0_2 l0_2.length c0_2)] 34 (0, 0))) ∧ Aside0 (Below w.heap.size w w'))
        case atStart => exact ⟨(0), (by first | rfl | (simp; done) | (simp [*]; done)), H', ⟨Nat.le_refl _⟩, ⟨by (with_reducible repeat (first | refine blk_drewN ?_ _ | refine blk_drew ?_ | refine blk_alloc ?_ _)); exact BK193.out⟩, ⟨by repeat (first | (with_reducible first | exact HB.out | apply below_alloc | apply pw_below_drewN | apply below_drew1 | refine below_set ?_ GE193.out) | exact HB.out)⟩⟩
        case round =>
          clear H'
          try clear c1
          try clear p2
          try clear c4
          try clear c5
          try clear c13
          try clear hcz11_0
          try clear hcz11_1
          try clear hcz11_2
          try clear hcz14_0
          try clear hcz14_1
          try clear hcz14_2
          try clear hcz7_0
          try clear hcz7_1
          try clear hcz7_2
          try clear hcz9_0
          try clear hcz9_1
          try clear hcz9_2
          try clear hfz11_0
          try clear hfz11_1
          try clear hfz11_2
          try clear hfz14_0
          try clear hfz14_1
          try clear hfz14_2
          try clear hfz7_0
          try clear hfz7_1
          try clear hfz7_2
          try clear hfz9_0
          try clear hfz9_1
          try clear hfz9_2
          try clear p2
          obtain ⟨x23_2, rfl, HA, HK2, BK193, HB⟩ := hrel
          cases gk with
          | zero => exact absurd HA.out (by simp [impl_IsValidTerminal.l0])
          | succ k2 =>
            have H := HA.out
            clear HA
            simp only [impl_IsValidTerminal.l0] at H
            by_cases c15 : x23_2 < (l0_2.length : Int)
            · rw [if_pos c15] at H
              have c15b0 : decide (x23_2 < (l0_2.length : Int)) = true := decide_eq_true c15
              clear c15
              by_cases c16 : 0 ≤ x23_2
              · rw [if_pos c16] at H
                have c16b0 : decide (0 ≤ x23_2) = true := decide_eq_true c16
                clear c16
                by_cases c17 : x23_2 < (l0_2.length : Int)
                · rw [if_pos c17] at H
                  have c17b0 : decide (x23_2 < (l0_2.length : Int)) = true := decide_eq_true c17
                  clear c17
                  have H' := Aside0.mk H
                  clear H
                  have p196 : 0 ≤ (x23_2 : Int) := of_decide_eq_true (by first | (with_reducible assumption) | assumption)
                  have q196 : x23_2 < (l0_2.length : Int) := of_decide_eq_true (by first | (with_reducible assumption) | assumption)
                  obtain ⟨ad196, A196_0, c196_0, e196, hx196_0, hl196_0, hi196_0⟩ := at_L1 HR0_2.out x23_2 p196 q196
                  cases e196
                  replace hx196_0 := (HB.out.cell (World.block_lt_of_cell? w _ hx196_0)).trans hx196_0
                  have HR196_0 := Aside0.mk hi196_0
                  have HC196_0 := Aside0.mk hl196_0
                  clear hi196_0 hl196_0
                  replace p196 := eq_true p196
                  replace q196 := eq_true q196
                  go_wp2
                  go_loopg [29] k2 (fun kq v29 w' => ∃ (x29_3 : Int), v29 = .int .i64 x29_3 ∧ Aside0 (impl_IsValidTerminal.l1 kq l0_2 (l0_2.length : Int) x23_2 (rd_L1 l0_2 x23_2) ((rd_L1 l0_2 x23_2).length : Int) x29_3 l0_0 a0_1 l0_2 = some r) ∧ Aside0 (kq ≤ k2) ∧ Aside0 (w'.heap[gb193]? = some (.cells #[(.slice A0_0 l0_0.length c0_0), .int .i64 a0_1, (.slice (some ad196) l0_2.length c0_2)] 34 (0, 0))) ∧ Aside0 (Below w.heap.size w w'))
                  case atStart => exact ⟨(0), (by first | rfl | (simp; done) | (simp [*]; done)), H', ⟨Nat.le_refl _⟩, ⟨by (with_reducible repeat (first | refine blk_drewN ?_ _ | refine blk_drew ?_ | refine blk_alloc ?_ _)); exact BK193.out⟩, ⟨by repeat (first | (with_reducible first | exact HB.out | apply below_alloc | apply pw_below_drewN | apply below_drew1 | refine below_set ?_ GE193.out) | exact HB.out)⟩⟩
                  case round =>
                    clear H'
                    try clear c1
                    try clear p1
                    try clear q1
                    try clear hx1
                    try clear p2
                    try clear c4
                    try clear c5
                    try clear c13
                    try clear c15
                    try clear c15b0
                    try clear c16
                    try clear c16b0
                    try clear c17
                    try clear c17b0
                    try clear hcz11_0
                    try clear hcz11_1
                    try clear hcz11_2
                    try clear hcz14_0
                    try clear hcz14_1
                    try clear hcz14_2
                    try clear hcz7_0
                    try clear hcz7_1
                    try clear hcz7_2
                    try clear hcz9_0
                    try clear hcz9_1
                    try clear hcz9_2
                    try clear hfz11_0
                    try clear hfz11_1
                    try clear hfz11_2
                    try clear hfz14_0
                    try clear hfz14_1
                    try clear hfz14_2
                    try clear hfz7_0
                    try clear hfz7_1
                    try clear hfz7_2
                    try clear hfz9_0
                    try clear hfz9_1
                    try clear hfz9_2
                    try clear hx196_0
                    try clear p196
                    try clear p2
                    try clear q196
                    obtain ⟨x29_3, rfl, HA, HK3, BK193, HB⟩ := hrel
                    cases gk with
                    | zero => exact absurd HA.out (by simp [impl_IsValidTerminal.l1])
                    | succ k3 =>
                      have H := HA.out
                      clear HA
                      simp only [impl_IsValidTerminal.l1] at H
                      by_cases c18 : x29_3 < ((rd_L1 l0_2 x23_2).length : Int)
                      · rw [if_pos c18] at H
                        have c18b0 : decide (x29_3 < ((rd_L1 l0_2 x23_2).length : Int)) = true := decide_eq_true c18
                        clear c18
                        by_cases c19 : 0 ≤ x29_3
                        · rw [if_pos c19] at H
                          have c19b0 : decide (0 ≤ x29_3) = true := decide_eq_true c19
                          clear c19
                          by_cases c20 : x29_3 < ((rd_L1 l0_2 x23_2).length : Int)
                          · rw [if_pos c20] at H
                            have c20b0 : decide (x29_3 < ((rd_L1 l0_2 x23_2).length : Int)) = true := decide_eq_true c20
                            clear c20
                            replace H := Option.bind_eq_some_iff.mp H
                            obtain ⟨⟨t198, t199⟩, A210, H⟩ := H
                            replace H : (if t198 ≥ 0 then (some false) else (impl_IsValidTerminal.l1 k3 l0_2 (l0_2.length : Int) x23_2 (rd_L1 l0_2 x23_2) ((rd_L1 l0_2 x23_2).length : Int) (wrap64 (x29_3 + 1)) l0_0 a0_1 l0_2)) = some r := H
                            have A21 := Aside0.mk A210
                            clear A210
                            by_cases c22 : t198 ≥ 0
                            · rw [if_pos c22] at H
                              have c22b0 : decide (0 ≤ t198) = true := decide_eq_true c22
                              clear c22
                              obtain rfl := Option.some.inj H
                              have p197 : 0 ≤ (x29_3 : Int) := of_decide_eq_true (by first | (with_reducible assumption) | assumption)
                              have q197 : x29_3 < ((rd_L1 l0_2 x23_2).length : Int) := of_decide_eq_true (by first | (with_reducible assumption) | assumption)
                              obtain ⟨ad197, e197, hx197_0⟩ := Kd.at_int HR196_0.out x29_3 p197 q197
                              cases e197
                              replace hx197_0 := (HB.out.cell (World.block_lt_of_cell? w _ hx197_0)).trans hx197_0
                              replace p197 := eq_true p197
                              replace q197 := eq_true q197
                              have hcz23_0 : wr.cell? ⟨gb193, 0, none⟩ = some (.slice A0_0 l0_0.length c0_0) := (blk_cell BK193.out 0).trans rfl
                              have hcz23_1 : wr.cell? ⟨gb193, 1, none⟩ = some (.int .i64 a0_1) := (blk_cell BK193.out 1).trans rfl
                              have hcz23_2 : wr.cell? ⟨gb193, 2, none⟩ = some (.slice (some ad196) l0_2.length c0_2) := (blk_cell BK193.out 2).trans rfl
                              have hfz23_0 := blk_frozen BK193.out 0
                              have hfz23_1 := blk_frozen BK193.out 1
                              have hfz23_2 := blk_frozen BK193.out 2
                              go_wp2_with (first | ((with_reducible refine gate_callee (f := 44) rfl ?_); refine goesL_ (some 37) rfl rfl Try.func44 (by kernel_rfl) rfl #[.agg #[.slice A0_0 l0_0.length c0_0], .int .i64 (rd (rd_L1 l0_2 x23_2) x29_3)] rfl (by (try simp only [List.map_toArray, List.map_cons, List.map_nil]); first | done | rfl | (simp only [List.length_drop, List.length_take]; rfl)) ?_; (with_reducible refine (impl_placeOf.calls k3 _ _ l0_0 (rd (rd_L1 l0_2 x23_2) x29_3) t198 t199 _ ?side1 ?side2 A21.out).mono ?_); (case side1 => repeat (first | exact (Kd.C_below HR0_0.out HB.out) | (with_reducible refine Kd.C_alloc ?_ _) | (with_reducible refine Kd.C_drewN ?_ _) | (with_reducible refine Kd.C_drew ?_))); (case side2 => exact HC0_0.out); rintro e w24 ⟨rfl, hb⟩; refine ⟨_, rfl, ?_⟩; have n0_ := Aside0.mk (blk_below (g := gb193) (o := .cells #[.slice A0_0 l0_0.length c0_0, .int .i64 a0_1, .slice (some ad196) l0_2.length c0_2] 34 (0, 0)) (by (with_reducible repeat (first | refine blk_drewN ?_ _ | refine blk_drew ?_ | refine blk_alloc ?_ _)); exact BK193.out) hb); have n1_ := Aside0.mk (below_step (by repeat (first | (with_reducible first | exact HB.out | apply below_alloc | apply pw_below_drewN | apply below_drew1 | refine below_set ?_ GE193.out) | exact HB.out)) hb); clear BK193; clear HB; have BK193 := n0_; have HB := n1_; clear n0_ n1_; (try clear hb); (try clear hb2); (try clear hk); (try clear hi)))
                              go_ret
                              exact ⟨by first | rfl | (simp [errW_none, errW_some] <;> rfl) | (simp [*, errW_none, errW_some] <;> rfl), by repeat (first | (with_reducible first | exact HB.out | apply below_alloc | apply pw_below_drewN | apply below_drew1 | refine below_set ?_ GE193.out) | exact HB.out)⟩
                            · rw [if_neg c22] at H
                              have c22b0 : decide (0 ≤ t198) = false := decide_eq_false c22
                              clear c22
                              have H' := Aside0.mk H
                              clear H
                              have p197 : 0 ≤ (x29_3 : Int) := of_decide_eq_true (by first | (with_reducible assumption) | assumption)
                              have q197 : x29_3 < ((rd_L1 l0_2 x23_2).length : Int) := of_decide_eq_true (by first | (with_reducible assumption) | assumption)
                              obtain ⟨ad197, e197, hx197_0⟩ := Kd.at_int HR196_0.out x29_3 p197 q197
                              cases e197
                              replace hx197_0 := (HB.out.cell (World.block_lt_of_cell? w _ hx197_0)).trans hx197_0
                              replace p197 := eq_true p197
                              replace q197 := eq_true q197
                              have hcz25_0 : wr.cell? ⟨gb193, 0, none⟩ = some (.slice A0_0 l0_0.length c0_0) := (blk_cell BK193.out 0).trans rfl
                              have hcz25_1 : wr.cell? ⟨gb193, 1, none⟩ = some (.int .i64 a0_1) := (blk_cell BK193.out 1).trans rfl
                              have hcz25_2 : wr.cell? ⟨gb193, 2, none⟩ = some (.slice (some ad196) l0_2.length c0_2) := (blk_cell BK193.out 2).trans rfl
                              have hfz25_0 := blk_frozen BK193.out 0
                              have hfz25_1 := blk_frozen BK193.out 1
                              have hfz25_2 := blk_frozen BK193.out 2
                              go_wp2_with (first | ((with_reducible refine gate_callee (f := 44) rfl ?_); refine goesL_ (some 37) rfl rfl Try.func44 (by kernel_rfl) rfl #[.agg #[.slice A0_0 l0_0.length c0_0], .int .i64 (rd (rd_L1 l0_2 x23_2) x29_3)] rfl (by (try simp only [List.map_toArray, List.map_cons, List.map_nil]); first | done | rfl | (simp only [List.length_drop, List.length_take]; rfl)) ?_; (with_reducible refine (impl_placeOf.calls k3 _ _ l0_0 (rd (rd_L1 l0_2 x23_2) x29_3) t198 t199 _ ?side1 ?side2 A21.out).mono ?_); (case side1 => repeat (first | exact (Kd.C_below HR0_0.out HB.out) | (with_reducible refine Kd.C_alloc ?_ _) | (with_reducible refine Kd.C_drewN ?_ _) | (with_reducible refine Kd.C_drew ?_))); (case side2 => exact HC0_0.out); rintro e w26 ⟨rfl, hb⟩; refine ⟨_, rfl, ?_⟩; have n0_ := Aside0.mk (blk_below (g := gb193) (o := .cells #[.slice A0_0 l0_0.length c0_0, .int .i64 a0_1, .slice (some ad196) l0_2.length c0_2] 34 (0, 0)) (by (with_reducible repeat (first | refine blk_drewN ?_ _ | refine blk_drew ?_ | refine blk_alloc ?_ _)); exact BK193.out) hb); have n1_ := Aside0.mk (below_step (by repeat (first | (with_reducible first | exact HB.out | apply below_alloc | apply pw_below_drewN | apply below_drew1 | refine below_set ?_ GE193.out) | exact HB.out)) hb); clear BK193; clear HB; have BK193 := n0_; have HB := n1_; clear n0_ n1_; (try clear hb); (try clear hb2); (try clear hk); (try clear hi)))
                              go_roundg k3
                              case measure => have := HJ1.out; have := HK2.out; have := HK3.out; omega
                              case rel => exact ⟨(wrap64 (x29_3 + 1)), (by first | rfl | (simp; done) | (simp [*]; done)), H', ⟨by have := HJ1.out; have := HK2.out; have := HK3.out; omega⟩, ⟨by (with_reducible repeat (first | refine blk_drewN ?_ _ | refine blk_drew ?_ | refine blk_alloc ?_ _)); exact BK193.out⟩, ⟨by repeat (first | (with_reducible first | exact HB.out | apply below_alloc | apply pw_below_drewN | apply below_drew1 | refine below_set ?_ GE193.out) | exact HB.out)⟩⟩
                          · rw [if_neg c20] at H
                            exact absurd H (by simp)
                        · rw [if_neg c19] at H
                          exact absurd H (by simp)
                      · rw [if_neg c18] at H
                        have c18b0 : decide (x29_3 < ((rd_L1 l0_2 x23_2).length : Int)) = false := decide_eq_false c18
                        clear c18
                        have H' := Aside0.mk H
                        clear H
                        go_wp2
                        go_roundg k3
                        case measure => have := HJ1.out; have := HK2.out; have := HK3.out; omega
                        case rel => exact ⟨(wrap64 (x23_2 + 1)), (by first | rfl | (simp; done) | (simp [*]; done)), H', ⟨by have := HJ1.out; have := HK2.out; have := HK3.out; omega⟩, ⟨by (with_reducible repeat (first | refine blk_drewN ?_ _ | refine blk_drew ?_ | refine blk_alloc ?_ _)); exact BK193.out⟩, ⟨by repeat (first | (with_reducible first | exact HB.out | apply below_alloc | apply pw_below_drewN | apply below_drew1 | refine below_set ?_ GE193.out) | exact HB.out)⟩⟩
                · rw [if_neg c17] at H
                  exact absurd H (by simp)
              · rw [if_neg c16] at H
                exact absurd H (by simp)
            · rw [if_neg c15] at H
              have c15b0 : decide (x23_2 < (l0_2.length : Int)) = false := decide_eq_false c15
              clear c15
              obtain rfl := Option.some.inj H
              go_wp2
              go_ret
              exact ⟨by first | rfl | (simp [errW_none, errW_some] <;> rfl) | (simp [*, errW_none, errW_some] <;> rfl), by repeat (first | (with_reducible first | exact HB.out | apply below_alloc | apply pw_below_drewN | apply below_drew1 | refine below_set ?_ GE193.out) | exact HB.out)⟩

end Go.Proofs.Ytnggfglmjdiaaaa.X

-- written by a program of this session (wip/ext.py) out of the translation. Not trusted: Lean checks it.
namespace Go.Proofs.Ytnggfglmjdiaaaa.X
open Go.RowKit Go.Proofs.YtnggfglmjdiaaaaW.PrintWords Go.Proofs.YtnggfglmjdiaaaaW.PrintLast Go.Proofs.YtnggfglmjdiaaaaW.PrintMore
attribute [local go_sem] max2_int min2_int max_two min_two max_three min_three max_four min_four   -- for this text's walks alone
set_option linter.unusedVariables false
set_option linter.unusedSimpArgs false

/-! ### impl_slotOf: function 49 -/
def impl_slotOf.f (k : Nat) (a0_0 : Int) (l0_1 : List (List Int)) (a1 : Int) : Option (Int × Int) := (impl_placeOf.f k l0_1 a1).bind fun bt253 => (some (bt253.1, bt253.2))
theorem impl_slotOf.mono : ∀ a0 a1 a2 k, LeO (impl_slotOf.f k a0 a1 a2) (impl_slotOf.f (k + 1) a0 a1 a2) := by
  intro a0 a1 a2 k
  unfold impl_slotOf.f
  repeat' first
      | (with_reducible exact impl_placeOf.mono _ _ _)
      | (with_reducible exact LeO.refl _)
      | (with_reducible exact LeO.none _)
      | (with_reducible refine LeO.ite ?_ ?_)
      | (with_reducible refine LeO.bind ?_ (fun _ => ?_))
      | exact impl_placeOf.mono _ _ _
      | exact LeO.none _
      | refine LeO.ite ?_ ?_
      | refine LeO.bind ?_ (fun _ => ?_)
set_option maxHeartbeats 8000000 in
set_option maxRecDepth 100000 in
theorem impl_slotOf.calls (k : Nat) (a0_0 : Int) (A0_1 : Option Addr) (c0_1 : Nat) (l0_1 : List (List Int)) (a1 : Int) (r1 : Int) (r2 : Int) (w : World) (hr0_1 : Kd.C (Kd.slice 3 (Kd.int .i64)) w A0_1 l0_1.length l0_1) (hc0_1 : l0_1.length ≤ c0_1) (h : impl_slotOf.f k a0_0 l0_1 a1 = some (r1, r2)) :
    Calls Try.prog 49 #[.agg #[.int .i64 a0_0, .slice A0_1 l0_1.length c0_1], .int .i64 a1] w fun e w' => e = .returned (.tuple #[.int .i64 r1, .int .i64 r2]) ∧ Below w.heap.size w w' := by
  have hu32 := Try.underlying32
  have hu31 := Try.underlying31
  have HR0_1 := Aside0.mk hr0_1
  have HC0_1 := Aside0.mk hc0_1
  clear hr0_1 hc0_1
  have HB := Aside0.mk (Below.refl w.heap.size w)
  have H : ((impl_placeOf.f k l0_1 a1).bind fun bt253 => (some (bt253.1, bt253.2))) = some (r1, r2) := h
  clear h
  replace H := Option.bind_eq_some_iff.mp H
  obtain ⟨⟨t253, t254⟩, A30, H⟩ := H
  replace H : (some (t253, t254)) = some (r1, r2) := H
  have A3 := Aside0.mk A30
  clear A30
  simp only [Option.some.injEq, Prod.mk.injEq] at H
  obtain ⟨rfl, rfl⟩ := H
  go_enter Try.func49, Try.ntmps49
  go_wp2_with (first | ((with_reducible refine gate_dst (N := 2) rfl ?_); refine box_event ?hg (N := 2) ?hd (cs := #[.int .i64 a0_0, .slice A0_1 l0_1.length c0_1]) (t := 32) ?hr ?_; (case hd => rfl); (case hg => rfl); (case hr => first | (go_simp; done) | (go_simp; rfl)); intro gb252 hg w4 hbox hb; have n0_ := Aside0.mk (below_step (by repeat (first | (with_reducible first | exact HB.out | apply below_alloc | apply pw_below_drewN | apply below_drew1) | exact HB.out)) hb); have n1_ := Aside0.mk (hbox); have n2_ := Aside0.mk ((by rw [hg]; exact (below_size (by repeat (first | (with_reducible first | exact HB.out | apply below_alloc | apply pw_below_drewN | apply below_drew1) | exact HB.out))) : w.heap.size ≤ gb252)); have n3_ := Aside0.mk ((by rw [hg]; exact (below_size (by repeat (first | (with_reducible first | exact HB.out | apply below_alloc | apply pw_below_drewN | apply below_drew1) | exact HB.out))) : w.heap.size ≤ gb252)); clear HB; have HB := n0_; have BK252 := n1_; have GW252 := n2_; have GE252 := n3_; clear n0_ n1_ n2_ n3_; clear hb hbox hg; have hcz5_0 : w4.cell? ⟨gb252, 0, none⟩ = some (.int .i64 a0_0) := (blk_cell BK252.out 0).trans rfl; have hcz5_1 : w4.cell? ⟨gb252, 1, none⟩ = some (.slice A0_1 l0_1.length c0_1) := (blk_cell BK252.out 1).trans rfl; have hfz5_0 := blk_frozen BK252.out 0; have hfz5_1 := blk_frozen BK252.out 1) | ((with_reducible refine gate_callee (f := 44) rfl ?_); refine goesL_ (some 10) rfl rfl Try.func44 (by kernel_rfl) rfl #[.agg #[.slice A0_1 l0_1.length c0_1], .int .i64 a1] rfl (by (try simp only [List.map_toArray, List.map_cons, List.map_nil]); first | done | rfl | (simp only [List.length_drop, List.length_take]; rfl)) ?_; (with_reducible refine (impl_placeOf.calls k _ _ l0_1 a1 t253 t254 _ ?side1 ?side2 A3.out).mono ?_); (case side1 => repeat (first | exact (Kd.C_below HR0_1.out HB.out) | (with_reducible refine Kd.C_alloc ?_ _) | (with_reducible refine Kd.C_drewN ?_ _) | (with_reducible refine Kd.C_drew ?_))); (case side2 => exact HC0_1.out); rintro e w6 ⟨rfl, hb⟩; refine ⟨_, rfl, ?_⟩; have n0_ := Aside0.mk (blk_below (g := gb252) (o := .cells #[.int .i64 a0_0, .slice A0_1 l0_1.length c0_1] 32 (0, 0)) (by (with_reducible repeat (first | refine blk_drewN ?_ _ | refine blk_drew ?_ | refine blk_alloc ?_ _)); exact BK252.out) hb); have n1_ := Aside0.mk (below_step (by repeat (first | (with_reducible first | exact HB.out | apply below_alloc | apply pw_below_drewN | apply below_drew1 | refine below_set ?_ GE252.out) | exact HB.out)) hb); clear BK252; clear HB; have BK252 := n0_; have HB := n1_; clear n0_ n1_; (try clear hb); (try clear hb2); (try clear hk); (try clear hi)))
  go_ret2
  exact ⟨by first | rfl | (simp [errW_none, errW_some] <;> rfl) | (simp [*, errW_none, errW_some] <;> rfl), by repeat (first | (with_reducible first | exact HB.out | apply below_alloc | apply pw_below_drewN | apply below_drew1 | refine below_set ?_ GE252.out) | exact HB.out)⟩

end Go.Proofs.Ytnggfglmjdiaaaa.X

-- written by a program of this session (wip/ext.py) out of the translation. Not trusted: Lean checks it.
namespace Go.Proofs.Ytnggfglmjdiaaaa.X
open Go.RowKit Go.Proofs.YtnggfglmjdiaaaaW.PrintWords Go.Proofs.YtnggfglmjdiaaaaW.PrintLast Go.Proofs.YtnggfglmjdiaaaaW.PrintMore
attribute [local go_sem] max2_int min2_int max_two min_two max_three min_three max_four min_four   -- for this text's walks alone
set_option linter.unusedVariables false
set_option linter.unusedSimpArgs false

/-! ### impl_WhereIs: function 16 -/
def impl_WhereIs.f (k : Nat) (l0_0 : List (List Int)) (a0_1 : Int) (l0_2 : List (List Int)) (a1 : Int) : Option (Int × Int × Int × Bool) := (impl_IsValidTerminal.f k l0_0 a0_1 l0_2).bind fun t256 => (if t256 = true then ((impl_placeOf.f k l0_0 a1).bind fun bt257 => (if bt257.1 ≥ 0 then (some (1, bt257.1, bt257.2, true)) else ((impl_slotOf.f k a0_1 l0_2 a1).bind fun bt259 => (if bt259.1 ≥ 0 then (some (2, bt259.1, bt259.2, true)) else (some (0, 0, 0, false)))))) else (some (0, 0, 0, false)))
theorem impl_WhereIs.mono : ∀ a0 a1 a2 a3 k, LeO (impl_WhereIs.f k a0 a1 a2 a3) (impl_WhereIs.f (k + 1) a0 a1 a2 a3) := by
  intro a0 a1 a2 a3 k
  unfold impl_WhereIs.f
  repeat' first
      | (with_reducible exact impl_IsValidTerminal.mono _ _ _ _)
      | (with_reducible exact impl_placeOf.mono _ _ _)
      | (with_reducible exact impl_slotOf.mono _ _ _ _)
      | (with_reducible exact LeO.refl _)
      | (with_reducible exact LeO.none _)
      | (with_reducible refine LeO.ite ?_ ?_)
      | (with_reducible refine LeO.bind ?_ (fun _ => ?_))
      | exact impl_IsValidTerminal.mono _ _ _ _
      | exact impl_placeOf.mono _ _ _
      | exact impl_slotOf.mono _ _ _ _
      | exact LeO.none _
      | refine LeO.ite ?_ ?_
      | refine LeO.bind ?_ (fun _ => ?_)
set_option maxHeartbeats 8000000 in
set_option maxRecDepth 100000 in
theorem impl_WhereIs.calls (k : Nat) (A0_0 : Option Addr) (c0_0 : Nat) (l0_0 : List (List Int)) (a0_1 : Int) (A0_2 : Option Addr) (c0_2 : Nat) (l0_2 : List (List Int)) (a1 : Int) (r1 : Int) (r2 : Int) (r3 : Int) (r4 : Bool) (w : World) (hr0_0 : Kd.C (Kd.slice 3 (Kd.int .i64)) w A0_0 l0_0.length l0_0) (hc0_0 : l0_0.length ≤ c0_0) (hr0_2 : Kd.C (Kd.slice 3 (Kd.int .i64)) w A0_2 l0_2.length l0_2) (hc0_2 : l0_2.length ≤ c0_2) (h : impl_WhereIs.f k l0_0 a0_1 l0_2 a1 = some (r1, r2, r3, r4)) :
    Calls Try.prog 16 #[.agg #[.slice A0_0 l0_0.length c0_0, .int .i64 a0_1, .slice A0_2 l0_2.length c0_2], .int .i64 a1] w fun e w' => e = .returned (.tuple #[.int .i64 r1, .int .i64 r2, .int .i64 r3, .bool r4]) ∧ Below w.heap.size w w' := by
  have hu34 := Try.underlying34
  have hu31 := Try.underlying31
  have hu32 := Try.underlying32
  have HR0_0 := Aside0.mk hr0_0
  have HC0_0 := Aside0.mk hc0_0
  clear hr0_0 hc0_0
  have HR0_2 := Aside0.mk hr0_2
  have HC0_2 := Aside0.mk hc0_2
  clear hr0_2 hc0_2
  have HB := Aside0.mk (Below.refl w.heap.size w)
  have H : ((impl_IsValidTerminal.f k l0_0 a0_1 l0_2).bind fun t256 => (if t256 = true then ((impl_placeOf.f k l0_0 a1).bind fun bt257 => (if bt257.1 ≥ 0 then (some (1, bt257.1, bt257.2, true)) else ((impl_slotOf.f k a0_1 l0_2 a1).bind fun bt259 => (if bt259.1 ≥ 0 then (some (2, bt259.1, bt259.2, true)) else (some (0, 0, 0, false)))))) else (some (0, 0, 0, false)))) = some (r1, r2, r3, r4) := h
  clear h
  replace H := Option.bind_eq_some_iff.mp H
  obtain ⟨t256, A30, H⟩ := H
  replace H : (if t256 = true then ((impl_placeOf.f k l0_0 a1).bind fun bt257 => (if bt257.1 ≥ 0 then (some (1, bt257.1, bt257.2, true)) else ((impl_slotOf.f k a0_1 l0_2 a1).bind fun bt259 => (if bt259.1 ≥ 0 then (some (2, bt259.1, bt259.2, true)) else (some (0, 0, 0, false)))))) else (some (0, 0, 0, false))) = some (r1, r2, r3, r4) := H
  have A3 := Aside0.mk A30
  clear A30
  by_cases c4 : t256 = true
  · subst c4
    have H1 : ((impl_placeOf.f k l0_0 a1).bind fun bt257 => (if bt257.1 ≥ 0 then (some (1, bt257.1, bt257.2, true)) else ((impl_slotOf.f k a0_1 l0_2 a1).bind fun bt259 => (if bt259.1 ≥ 0 then (some (2, bt259.1, bt259.2, true)) else (some (0, 0, 0, false)))))) = some (r1, r2, r3, r4) := by rw [if_pos rfl] at H; exact H
    clear H
    have H := H1
    clear H1
    replace H := Option.bind_eq_some_iff.mp H
    obtain ⟨⟨t257, t258⟩, A50, H⟩ := H
    replace H : (if t257 ≥ 0 then (some (1, t257, t258, true)) else ((impl_slotOf.f k a0_1 l0_2 a1).bind fun bt259 => (if bt259.1 ≥ 0 then (some (2, bt259.1, bt259.2, true)) else (some (0, 0, 0, false))))) = some (r1, r2, r3, r4) := H
    have A5 := Aside0.mk A50
    clear A50
    by_cases c6 : t257 ≥ 0
    · rw [if_pos c6] at H
      have c6b0 : decide (0 ≤ t257) = true := decide_eq_true c6
      clear c6
      simp only [Option.some.injEq, Prod.mk.injEq] at H
      obtain ⟨rfl, rfl, rfl, rfl⟩ := H
      go_enter Try.func16, Try.ntmps16
      go_wp2_with (first | ((with_reducible refine gate_dst (N := 2) rfl ?_); refine box_event ?hg (N := 2) ?hd (cs := #[.slice A0_0 l0_0.length c0_0, .int .i64 a0_1, .slice A0_2 l0_2.length c0_2]) (t := 34) ?hr ?_; (case hd => rfl); (case hg => rfl); (case hr => first | (go_simp; done) | (go_simp; rfl)); intro gb255 hg w7 hbox hb; have n0_ := Aside0.mk (below_step (by repeat (first | (with_reducible first | exact HB.out | apply below_alloc | apply pw_below_drewN | apply below_drew1) | exact HB.out)) hb); have n1_ := Aside0.mk (hbox); have n2_ := Aside0.mk ((by rw [hg]; exact (below_size (by repeat (first | (with_reducible first | exact HB.out | apply below_alloc | apply pw_below_drewN | apply below_drew1) | exact HB.out))) : w.heap.size ≤ gb255)); have n3_ := Aside0.mk ((by rw [hg]; exact (below_size (by repeat (first | (with_reducible first | exact HB.out | apply below_alloc | apply pw_below_drewN | apply below_drew1) | exact HB.out))) : w.heap.size ≤ gb255)); clear HB; have HB := n0_; have BK255 := n1_; have GW255 := n2_; have GE255 := n3_; clear n0_ n1_ n2_ n3_; clear hb hbox hg; have hcz8_0 : w7.cell? ⟨gb255, 0, none⟩ = some (.slice A0_0 l0_0.length c0_0) := (blk_cell BK255.out 0).trans rfl; have hcz8_1 : w7.cell? ⟨gb255, 1, none⟩ = some (.int .i64 a0_1) := (blk_cell BK255.out 1).trans rfl; have hcz8_2 : w7.cell? ⟨gb255, 2, none⟩ = some (.slice A0_2 l0_2.length c0_2) := (blk_cell BK255.out 2).trans rfl; have hfz8_0 := blk_frozen BK255.out 0; have hfz8_1 := blk_frozen BK255.out 1; have hfz8_2 := blk_frozen BK255.out 2) | ((with_reducible refine gate_callee (f := 13) rfl ?_); refine goesL_ (some 13) rfl rfl Try.func13 (by kernel_rfl) rfl #[.agg #[.slice A0_0 l0_0.length c0_0, .int .i64 a0_1, .slice A0_2 l0_2.length c0_2]] rfl (by (try simp only [List.map_toArray, List.map_cons, List.map_nil]); first | done | rfl | (simp only [List.length_drop, List.length_take]; rfl)) ?_; (with_reducible refine (impl_IsValidTerminal.calls k _ _ l0_0 a0_1 _ _ l0_2 true _ ?side1 ?side2 ?side3 ?side4 A3.out).mono ?_); (case side1 => repeat (first | exact (Kd.C_below HR0_0.out HB.out) | (with_reducible refine Kd.C_alloc ?_ _) | (with_reducible refine Kd.C_drewN ?_ _) | (with_reducible refine Kd.C_drew ?_))); (case side2 => exact HC0_0.out); (case side3 => repeat (first | exact (Kd.C_below HR0_2.out HB.out) | (with_reducible refine Kd.C_alloc ?_ _) | (with_reducible refine Kd.C_drewN ?_ _) | (with_reducible refine Kd.C_drew ?_))); (case side4 => exact HC0_2.out); rintro e w9 ⟨rfl, hb⟩; refine ⟨_, rfl, ?_⟩; have n0_ := Aside0.mk (blk_below (g := gb255) (o := .cells #[.slice A0_0 l0_0.length c0_0, .int .i64 a0_1, .slice A0_2 l0_2.length c0_2] 34 (0, 0)) (by (with_reducible repeat (first | refine blk_drewN ?_ _ | refine blk_drew ?_ | refine blk_alloc ?_ _)); exact BK255.out) hb); have n1_ := Aside0.mk (below_step (by repeat (first | (with_reducible first | exact HB.out | apply below_alloc | apply pw_below_drewN | apply below_drew1 | refine below_set ?_ GE255.out) | exact HB.out)) hb); clear BK255; clear HB; have BK255 := n0_; have HB := n1_; clear n0_ n1_; (try clear hb); (try clear hb2); (try clear hk); (try clear hi); have hcz10_0 : w9.cell? ⟨gb255, 0, none⟩ = some (.slice A0_0 l0_0.length c0_0) := (blk_cell BK255.out 0).trans rfl; have hcz10_1 : w9.cell? ⟨gb255, 1, none⟩ = some (.int .i64 a0_1) := (blk_cell BK255.out 1).trans rfl; have hcz10_2 : w9.cell? ⟨gb255, 2, none⟩ = some (.slice A0_2 l0_2.length c0_2) := (blk_cell BK255.out 2).trans rfl; have hfz10_0 := blk_frozen BK255.out 0; have hfz10_1 := blk_frozen BK255.out 1; have hfz10_2 := blk_frozen BK255.out 2) | ((with_reducible refine gate_callee (f := 44) rfl ?_); refine goesL_ (some 19) rfl rfl Try.func44 (by kernel_rfl) rfl #[.agg #[.slice A0_0 l0_0.length c0_0], .int .i64 a1] rfl (by (try simp only [List.map_toArray, List.map_cons, List.map_nil]); first | done | rfl | (simp only [List.length_drop, List.length_take]; rfl)) ?_; (with_reducible refine (impl_placeOf.calls k _ _ l0_0 a1 t257 t258 _ ?side1 ?side2 A5.out).mono ?_); (case side1 => repeat (first | exact (Kd.C_below HR0_0.out HB.out) | (with_reducible refine Kd.C_alloc ?_ _) | (with_reducible refine Kd.C_drewN ?_ _) | (with_reducible refine Kd.C_drew ?_))); (case side2 => exact HC0_0.out); rintro e w11 ⟨rfl, hb⟩; refine ⟨_, rfl, ?_⟩; have n0_ := Aside0.mk (blk_below (g := gb255) (o := .cells #[.slice A0_0 l0_0.length c0_0, .int .i64 a0_1, .slice A0_2 l0_2.length c0_2] 34 (0, 0)) (by (with_reducible repeat (first | refine blk_drewN ?_ _ | refine blk_drew ?_ | refine blk_alloc ?_ _)); exact BK255.out) hb); have n1_ := Aside0.mk (below_step (by repeat (first | (with_reducible first | exact HB.out | apply below_alloc | apply pw_below_drewN | apply below_drew1 | refine below_set ?_ GE255.out) | exact HB.out)) hb); clear BK255; clear HB; have BK255 := n0_; have HB := n1_; clear n0_ n1_; (try clear hb); (try clear hb2); (try clear hk); (try clear hi)))
      refine bodyPost_ret (results_list (rs := [.tmp 4, .tmp 5, .tmp 6, .tmp 7]) rfl (by simp) (.tmp (.tmp (.tmp (.tmp .nil))))) rfl ?_
      exact ⟨by first | rfl | (simp [errW_none, errW_some] <;> rfl) | (simp [*, errW_none, errW_some] <;> rfl), by repeat (first | (with_reducible first | exact HB.out | apply below_alloc | apply pw_below_drewN | apply below_drew1 | refine below_set ?_ GE255.out) | exact HB.out)⟩
    · rw [if_neg c6] at H
      have c6b0 : decide (0 ≤ t257) = false := decide_eq_false c6
      clear c6
      replace H := Option.bind_eq_some_iff.mp H
      obtain ⟨⟨t259, t260⟩, A120, H⟩ := H
      replace H : (if t259 ≥ 0 then (some (2, t259, t260, true)) else (some (0, 0, 0, false))) = some (r1, r2, r3, r4) := H
      have A12 := Aside0.mk A120
      clear A120
      by_cases c13 : t259 ≥ 0
      · rw [if_pos c13] at H
        have c13b0 : decide (0 ≤ t259) = true := decide_eq_true c13
        clear c13
        simp only [Option.some.injEq, Prod.mk.injEq] at H
        obtain ⟨rfl, rfl, rfl, rfl⟩ := H
        go_enter Try.func16, Try.ntmps16
        go_wp2_with (first | ((with_reducible refine gate_dst (N := 2) rfl ?_); refine box_event ?hg (N := 2) ?hd (cs := #[.slice A0_0 l0_0.length c0_0, .int .i64 a0_1, .slice A0_2 l0_2.length c0_2]) (t := 34) ?hr ?_; (case hd => rfl); (case hg => rfl); (case hr => first | (go_simp; done) | (go_simp; rfl)); intro gb255 hg w14 hbox hb; have n0_ := Aside0.mk (below_step (by repeat (first | (with_reducible first | exact HB.out | apply below_alloc | apply pw_below_drewN | apply below_drew1) | exact HB.out)) hb); have n1_ := Aside0.mk (hbox); have n2_ := Aside0.mk ((by rw [hg]; exact (below_size (by repeat (first | (with_reducible first | exact HB.out | apply below_alloc | apply pw_below_drewN | apply below_drew1) | exact HB.out))) : w.heap.size ≤ gb255)); have n3_ := Aside0.mk ((by rw [hg]; exact (below_size (by repeat (first | (with_reducible first | exact HB.out | apply below_alloc | apply pw_below_drewN | apply below_drew1) | exact HB.out))) : w.heap.size ≤ gb255)); clear HB; have HB := n0_; have BK255 := n1_; have GW255 := n2_; have GE255 := n3_; clear n0_ n1_ n2_ n3_; clear hb hbox hg; have hcz15_0 : w14.cell? ⟨gb255, 0, none⟩ = some (.slice A0_0 l0_0.length c0_0) := (blk_cell BK255.out 0).trans rfl; have hcz15_1 : w14.cell? ⟨gb255, 1, none⟩ = some (.int .i64 a0_1) := (blk_cell BK255.out 1).trans rfl; have hcz15_2 : w14.cell? ⟨gb255, 2, none⟩ = some (.slice A0_2 l0_2.length c0_2) := (blk_cell BK255.out 2).trans rfl; have hfz15_0 := blk_frozen BK255.out 0; have hfz15_1 := blk_frozen BK255.out 1; have hfz15_2 := blk_frozen BK255.out 2) | ((with_reducible refine gate_callee (f := 13) rfl ?_); refine goesL_ (some 13) rfl rfl Try.func13 (by kernel_rfl) rfl #[.agg #[.slice A0_0 l0_0.length c0_0, .int .i64 a0_1, .slice A0_2 l0_2.length c0_2]] rfl (by (try simp only [List.map_toArray, List.map_cons, List.map_nil]); first | done | rfl | (simp only [List.length_drop, List.length_take]; rfl)) ?_; (with_reducible refine (impl_IsValidTerminal.calls k _ _ l0_0 a0_1 _ _ l0_2 true _ ?side1 ?side2 ?side3 ?side4 A3.out).mono ?_); (case side1 => repeat (first | exact (Kd.C_below HR0_0.out HB.out) | (with_reducible refine Kd.C_alloc ?_ _) | (with_reducible refine Kd.C_drewN ?_ _) | (with_reducible refine Kd.C_drew ?_))); (case side2 => exact HC0_0.out); (case side3 => repeat (first | exact (Kd.C_below HR0_2.out HB.out) | (with_reducible refine Kd.C_alloc ?_ _) | (with_reducible refine Kd.C_drewN ?_ _) | (with_reducible refine Kd.C_drew ?_))); (case side4 => exact HC0_2.out); rintro e w16 ⟨rfl, hb⟩; refine ⟨_, rfl, ?_⟩; have n0_ := Aside0.mk (blk_below (g := gb255) (o := .cells #[.slice A0_0 l0_0.length c0_0, .int .i64 a0_1, .slice A0_2 l0_2.length c0_2] 34 (0, 0)) (by (with_reducible repeat (first | refine blk_drewN ?_ _ | refine blk_drew ?_ | refine blk_alloc ?_ _)); exact BK255.out) hb); have n1_ := Aside0.mk (below_step (by repeat (first | (with_reducible first | exact HB.out | apply below_alloc | apply pw_below_drewN | apply below_drew1 | refine below_set ?_ GE255.out) | exact HB.out)) hb); clear BK255; clear HB; have BK255 := n0_; have HB := n1_; clear n0_ n1_; (try clear hb); (try clear hb2); (try clear hk); (try clear hi); have hcz17_0 : w16.cell? ⟨gb255, 0, none⟩ = some (.slice A0_0 l0_0.length c0_0) := (blk_cell BK255.out 0).trans rfl; have hcz17_1 : w16.cell? ⟨gb255, 1, none⟩ = some (.int .i64 a0_1) := (blk_cell BK255.out 1).trans rfl; have hcz17_2 : w16.cell? ⟨gb255, 2, none⟩ = some (.slice A0_2 l0_2.length c0_2) := (blk_cell BK255.out 2).trans rfl; have hfz17_0 := blk_frozen BK255.out 0; have hfz17_1 := blk_frozen BK255.out 1; have hfz17_2 := blk_frozen BK255.out 2) | ((with_reducible refine gate_callee (f := 44) rfl ?_); refine goesL_ (some 19) rfl rfl Try.func44 (by kernel_rfl) rfl #[.agg #[.slice A0_0 l0_0.length c0_0], .int .i64 a1] rfl (by (try simp only [List.map_toArray, List.map_cons, List.map_nil]); first | done | rfl | (simp only [List.length_drop, List.length_take]; rfl)) ?_; (with_reducible refine (impl_placeOf.calls k _ _ l0_0 a1 t257 t258 _ ?side1 ?side2 A5.out).mono ?_); (case side1 => repeat (first | exact (Kd.C_below HR0_0.out HB.out) | (with_reducible refine Kd.C_alloc ?_ _) | (with_reducible refine Kd.C_drewN ?_ _) | (with_reducible refine Kd.C_drew ?_))); (case side2 => exact HC0_0.out); rintro e w18 ⟨rfl, hb⟩; refine ⟨_, rfl, ?_⟩; have n0_ := Aside0.mk (blk_below (g := gb255) (o := .cells #[.slice A0_0 l0_0.length c0_0, .int .i64 a0_1, .slice A0_2 l0_2.length c0_2] 34 (0, 0)) (by (with_reducible repeat (first | refine blk_drewN ?_ _ | refine blk_drew ?_ | refine blk_alloc ?_ _)); exact BK255.out) hb); have n1_ := Aside0.mk (below_step (by repeat (first | (with_reducible first | exact HB.out | apply below_alloc | apply pw_below_drewN | apply below_drew1 | refine below_set ?_ GE255.out) | exact HB.out)) hb); clear BK255; clear HB; have BK255 := n0_; have HB := n1_; clear n0_ n1_; (try clear hb); (try clear hb2); (try clear hk); (try clear hi); have hcz19_0 : w18.cell? ⟨gb255, 0, none⟩ = some (.slice A0_0 l0_0.length c0_0) := (blk_cell BK255.out 0).trans rfl; have hcz19_1 : w18.cell? ⟨gb255, 1, none⟩ = some (.int .i64 a0_1) := (blk_cell BK255.out 1).trans rfl; have hcz19_2 : w18.cell? ⟨gb255, 2, none⟩ = some (.slice A0_2 l0_2.length c0_2) := (blk_cell BK255.out 2).trans rfl; have hfz19_0 := blk_frozen BK255.out 0; have hfz19_1 := blk_frozen BK255.out 1; have hfz19_2 := blk_frozen BK255.out 2) | ((with_reducible refine gate_callee (f := 49) rfl ?_); refine goesL_ (some 30) rfl rfl Try.func49 (by kernel_rfl) rfl #[.agg #[.int .i64 a0_1, .slice A0_2 l0_2.length c0_2], .int .i64 a1] rfl (by (try simp only [List.map_toArray, List.map_cons, List.map_nil]); first | done | rfl | (simp only [List.length_drop, List.length_take]; rfl)) ?_; (with_reducible refine (impl_slotOf.calls k a0_1 _ _ l0_2 a1 t259 t260 _ ?side1 ?side2 A12.out).mono ?_); (case side1 => repeat (first | exact (Kd.C_below HR0_2.out HB.out) | (with_reducible refine Kd.C_alloc ?_ _) | (with_reducible refine Kd.C_drewN ?_ _) | (with_reducible refine Kd.C_drew ?_))); (case side2 => exact HC0_2.out); rintro e w20 ⟨rfl, hb⟩; refine ⟨_, rfl, ?_⟩; have n0_ := Aside0.mk (blk_below (g := gb255) (o := .cells #[.slice A0_0 l0_0.length c0_0, .int .i64 a0_1, .slice A0_2 l0_2.length c0_2] 34 (0, 0)) (by (with_reducible repeat (first | refine blk_drewN ?_ _ | refine blk_drew ?_ | refine blk_alloc ?_ _)); exact BK255.out) hb); have n1_ := Aside0.mk (below_step (by repeat (first | (with_reducible first | exact HB.out | apply below_alloc | apply pw_below_drewN | apply below_drew1 | refine below_set ?_ GE255.out) | exact HB.out)) hb); clear BK255; clear HB; have BK255 := n0_; have HB := n1_; clear n0_ n1_; (try clear hb); (try clear hb2); (try clear hk); (try clear hi)))
        refine bodyPost_ret (results_list (rs := [.tmp 4, .tmp 5, .tmp 6, .tmp 7]) rfl (by simp) (.tmp (.tmp (.tmp (.tmp .nil))))) rfl ?_
        exact ⟨by first | rfl | (simp [errW_none, errW_some] <;> rfl) | (simp [*, errW_none, errW_some] <;> rfl), by repeat (first | (with_reducible first | exact HB.out | apply below_alloc | apply pw_below_drewN | apply below_drew1 | refine below_set ?_ GE255.out) | exact HB.out)⟩
      · rw [if_neg c13] at H
        have c13b0 : decide (0 ≤ t259) = false := decide_eq_false c13
        clear c13
        simp only [Option.some.injEq, Prod.mk.injEq] at H
        obtain ⟨rfl, rfl, rfl, rfl⟩ := H
        go_enter Try.func16, Try.ntmps16
        go_wp2_with (first | ((with_reducible refine gate_dst (N := 2) rfl ?_); refine box_event ?hg (N := 2) ?hd (cs := #[.slice A0_0 l0_0.length c0_0, .int .i64 a0_1, .slice A0_2 l0_2.length c0_2]) (t := 34) ?hr ?_; (case hd => rfl); (case hg => rfl); (case hr => first | (go_simp; done) | (go_simp; rfl)); intro gb255 hg w21 hbox hb; have n0_ := Aside0.mk (below_step (by repeat (first | (with_reducible first | exact HB.out | apply below_alloc | apply pw_below_drewN | apply below_drew1) | exact HB.out)) hb); have n1_ := Aside0.mk (hbox); have n2_ := Aside0.mk ((by rw [hg]; exact (below_size (by repeat (first | (with_reducible first | exact HB.out | apply below_alloc | apply pw_below_drewN | apply below_drew1) | exact HB.out))) : w.heap.size ≤ gb255)); have n3_ := Aside0.mk ((by rw [hg]; exact (below_size (by repeat (first | (with_reducible first | exact HB.out | apply below_alloc | apply pw_below_drewN | apply below_drew1) | exact HB.out))) : w.heap.size ≤ gb255)); clear HB; have HB := n0_; have BK255 := n1_; have GW255 := n2_; have GE255 := n3_; clear n0_ n1_ n2_ n3_; clear hb hbox hg; have hcz22_0 : w21.cell? ⟨gb255, 0, none⟩ = some (.slice A0_0 l0_0.length c0_0) := (blk_cell BK255.out 0).trans rfl; have hcz22_1 : w21.cell? ⟨gb255, 1, none⟩ = some (.int .i64 a0_1) := (blk_cell BK255.out 1).trans rfl; have hcz22_2 : w21.cell? ⟨gb255, 2, none⟩ = some (.slice A0_2 l0_2.length c0_2) := (blk_cell BK255.out 2).trans rfl; have hfz22_0 := blk_frozen BK255.out 0; have hfz22_1 := blk_frozen BK255.out 1; have hfz22_2 := blk_frozen BK255.out 2) | ((with_reducible refine gate_callee (f := 13) rfl ?_); refine goesL_ (some 13) rfl rfl Try.func13 (by kernel_rfl) rfl #[.agg #[.slice A0_0 l0_0.length c0_0, .int .i64 a0_1, .slice A0_2 l0_2.length c0_2]] rfl (by (try simp only [List.map_toArray, List.map_cons, List.map_nil]); first | done | rfl | (simp only [List.length_drop, List.length_take]; rfl)) ?_; (with_reducible refine (impl_IsValidTerminal.calls k _ _ l0_0 a0_1 _ _ l0_2 true _ ?side1 ?side2 ?side3 ?side4 A3.out).mono ?_); (case side1 => repeat (first | exact (Kd.C_below HR0_0.out HB.out) | (with_reducible refine Kd.C_alloc ?_ _) | (with_reducible refine Kd.C_drewN ?_ _) | (with_reducible refine Kd.C_drew ?_))); (case side2 => exact HC0_0.out); (case side3 => repeat (first | exact (Kd.C_below HR0_2.out HB.out) | (with_reducible refine Kd.C_alloc ?_ _) | (with_reducible refine Kd.C_drewN ?_ _) | (with_reducible refine Kd.C_drew ?_))); (case side4 => exact HC0_2.out); rintro e w23 ⟨rfl, hb⟩; refine ⟨_, rfl, ?_⟩; have n0_ := Aside0.mk (blk_below (g := gb255) (o := .cells #[.slice A0_0 l0_0.length c0_0, .int .i64 a0_1, .slice A0_2 l0_2.length c0_2] 34 (0, 0)) (by (with_reducible repeat (first | refine blk_drewN ?_ _ | refine blk_drew ?_ | refine blk_alloc ?_ _)); exact BK255.out) hb); have n1_ := Aside0.mk (below_step (by repeat (first | (with_reducible first | exact HB.out | apply below_alloc | apply pw_below_drewN | apply below_drew1 | refine below_set ?_ GE255.out) | exact HB.out)) hb); clear BK255; clear HB; have BK255 := n0_; have HB := n1_; clear n0_ n1_; (try clear hb); (try clear hb2); (try clear hk); (try clear hi); have hcz24_0 : w23.cell? ⟨gb255, 0, none⟩ = some (.slice A0_0 l0_0.length c0_0) := (blk_cell BK255.out 0).trans rfl; have hcz24_1 : w23.cell? ⟨gb255, 1, none⟩ = some (.int .i64 a0_1) := (blk_cell BK255.out 1).trans rfl; have hcz24_2 : w23.cell? ⟨gb255, 2, none⟩ = some (.slice A0_2 l0_2.length c0_2) := (blk_cell BK255.out 2).trans rfl; have hfz24_0 := blk_frozen BK255.out 0; have hfz24_1 := blk_frozen BK255.out 1; have hfz24_2 := blk_frozen BK255.out 2) | ((with_reducible refine gate_callee (f := 44) rfl ?_); refine goesL_ (some 19) rfl rfl Try.func44 (by kernel_rfl) rfl #[.agg #[.slice A0_0 l0_0.length c0_0], .int .i64 a1] rfl (by (try simp only [List.map_toArray, List.map_cons, List.map_nil]); first | done | rfl | (simp only [List.length_drop, List.length_take]; rfl)) ?_; (with_reducible refine (impl_placeOf.calls k _ _ l0_0 a1 t257 t258 _ ?side1 ?side2 A5.out).mono ?_); (case side1 => repeat (first | exact (Kd.C_below HR0_0.out HB.out) | (with_reducible refine Kd.C_alloc ?_ _) | (with_reducible refine Kd.C_drewN ?_ _) | (with_reducible refine Kd.C_drew ?_))); (case side2 => exact HC0_0.out); rintro e w25 ⟨rfl, hb⟩; refine ⟨_, rfl, ?_⟩; have n0_ := Aside0.mk (blk_below (g := gb255) (o := .cells #[.slice A0_0 l0_0.length c0_0, .int .i64 a0_1, .slice A0_2 l0_2.length c0_2] 34 (0, 0)) (by (with_reducible repeat (first | refine blk_drewN ?_ _ | refine blk_drew ?_ | refine blk_alloc ?_ _)); exact BK255.out) hb); have n1_ := Aside0.mk (below_step (by repeat (first | (with_reducible first | exact HB.out | apply below_alloc | apply pw_below_drewN | apply below_drew1 | refine below_set ?_ GE255.out) | exact HB.out)) hb); clear BK255; clear HB; have BK255 := n0_; have HB := n1_; clear n0_ n1_; (try clear hb); (try clear hb2); (try clear hk); (try clear hi); have hcz26_0 : w25.cell? ⟨gb255, 0, none⟩ = some (.slice A0_0 l0_0.length c0_0) := (blk_cell BK255.out 0).trans rfl; have hcz26_1 : w25.cell? ⟨gb255, 1, none⟩ = some (.int .i64 a0_1) := (blk_cell BK255.out 1).trans rfl; have hcz26_2 : w25.cell? ⟨gb255, 2, none⟩ = some (.slice A0_2 l0_2.length c0_2) := (blk_cell BK255.out 2).trans rfl; have hfz26_0 := blk_frozen BK255.out 0; have hfz26_1 := blk_frozen BK255.out 1; have hfz26_2 := blk_frozen BK255.out 2) | ((with_reducible refine gate_callee (f := 49) rfl ?_); refine goesL_ (some 30) rfl rfl Try.func49 (by kernel_rfl) rfl #[.agg #[.int .i64 a0_1, .slice A0_2 l0_2.length c0_2], .int .i64 a1] rfl (by (try simp only [List.map_toArray, List.map_cons, List.map_nil]); first | done | rfl | (simp only [List.length_drop, List.length_take]; rfl)) ?_; (with_reducible refine (impl_slotOf.calls k a0_1 _ _ l0_2 a1 t259 t260 _ ?side1 ?side2 A12.out).mono ?_); (case side1 => repeat (first | exact (Kd.C_below HR0_2.out HB.out) | (with_reducible refine Kd.C_alloc ?_ _) | (with_reducible refine Kd.C_drewN ?_ _) | (with_reducible refine Kd.C_drew ?_))); (case side2 => exact HC0_2.out); rintro e w27 ⟨rfl, hb⟩; refine ⟨_, rfl, ?_⟩; have n0_ := Aside0.mk (blk_below (g := gb255) (o := .cells #[.slice A0_0 l0_0.length c0_0, .int .i64 a0_1, .slice A0_2 l0_2.length c0_2] 34 (0, 0)) (by (with_reducible repeat (first | refine blk_drewN ?_ _ | refine blk_drew ?_ | refine blk_alloc ?_ _)); exact BK255.out) hb); have n1_ := Aside0.mk (below_step (by repeat (first | (with_reducible first | exact HB.out | apply below_alloc | apply pw_below_drewN | apply below_drew1 | refine below_set ?_ GE255.out) | exact HB.out)) hb); clear BK255; clear HB; have BK255 := n0_; have HB := n1_; clear n0_ n1_; (try clear hb); (try clear hb2); (try clear hk); (try clear hi)))
        refine bodyPost_ret (results_list (rs := [.tmp 4, .tmp 5, .tmp 6, .tmp 7]) rfl (by simp) (.tmp (.tmp (.tmp (.tmp .nil))))) rfl ?_
        exact ⟨by first | rfl | (simp [errW_none, errW_some] <;> rfl) | (simp [*, errW_none, errW_some] <;> rfl), by repeat (first | (with_reducible first | exact HB.out | apply below_alloc | apply pw_below_drewN | apply below_drew1 | refine below_set ?_ GE255.out) | exact HB.out)⟩
  · replace c4 := Bool.eq_false_iff.mpr c4
    subst c4
    have H1 : (some (0, 0, 0, false)) = some (r1, r2, r3, r4) := by rw [if_neg (show ¬ (false = true) by decide)] at H; exact H
    clear H
    have H := H1
    clear H1
    simp only [Option.some.injEq, Prod.mk.injEq] at H
    obtain ⟨rfl, rfl, rfl, rfl⟩ := H
    go_enter Try.func16, Try.ntmps16
    go_wp2_with (first | ((with_reducible refine gate_dst (N := 2) rfl ?_); refine box_event ?hg (N := 2) ?hd (cs := #[.slice A0_0 l0_0.length c0_0, .int .i64 a0_1, .slice A0_2 l0_2.length c0_2]) (t := 34) ?hr ?_; (case hd => rfl); (case hg => rfl); (case hr => first | (go_simp; done) | (go_simp; rfl)); intro gb255 hg w28 hbox hb; have n0_ := Aside0.mk (below_step (by repeat (first | (with_reducible first | exact HB.out | apply below_alloc | apply pw_below_drewN | apply below_drew1) | exact HB.out)) hb); have n1_ := Aside0.mk (hbox); have n2_ := Aside0.mk ((by rw [hg]; exact (below_size (by repeat (first | (with_reducible first | exact HB.out | apply below_alloc | apply pw_below_drewN | apply below_drew1) | exact HB.out))) : w.heap.size ≤ gb255)); have n3_ := Aside0.mk ((by rw [hg]; exact (below_size (by repeat (first | (with_reducible first | exact HB.out | apply below_alloc | apply pw_below_drewN | apply below_drew1) | exact HB.out))) : w.heap.size ≤ gb255)); clear HB; have HB := n0_; have BK255 := n1_; have GW255 := n2_; have GE255 := n3_; clear n0_ n1_ n2_ n3_; clear hb hbox hg; have hcz29_0 : w28.cell? ⟨gb255, 0, none⟩ = some (.slice A0_0 l0_0.length c0_0) := (blk_cell BK255.out 0).trans rfl; have hcz29_1 : w28.cell? ⟨gb255, 1, none⟩ = some (.int .i64 a0_1) := (blk_cell BK255.out 1).trans rfl; have hcz29_2 : w28.cell? ⟨gb255, 2, none⟩ = some (.slice A0_2 l0_2.length c0_2) := (blk_cell BK255.out 2).trans rfl; have hfz29_0 := blk_frozen BK255.out 0; have hfz29_1 := blk_frozen BK255.out 1; have hfz29_2 := blk_frozen BK255.out 2) | ((with_reducible refine gate_callee (f := 13) rfl ?_); refine goesL_ (some 13) rfl rfl Try.func13 (by kernel_rfl) rfl #[.agg #[.slice A0_0 l0_0.length c0_0, .int .i64 a0_1, .slice A0_2 l0_2.length c0_2]] rfl (by (try simp only [List.map_toArray, List.map_cons, List.map_nil]); first | done | rfl | (simp only [List.length_drop, List.length_take]; rfl)) ?_; (with_reducible refine (impl_IsValidTerminal.calls k _ _ l0_0 a0_1 _ _ l0_2 false _ ?side1 ?side2 ?side3 ?side4 A3.out).mono ?_); (case side1 => repeat (first | exact (Kd.C_below HR0_0.out HB.out) | (with_reducible refine Kd.C_alloc ?_ _) | (with_reducible refine Kd.C_drewN ?_ _) | (with_reducible refine Kd.C_drew ?_))); (case side2 => exact HC0_0.out); (case side3 => repeat (first | exact (Kd.C_below HR0_2.out HB.out) | (with_reducible refine Kd.C_alloc ?_ _) | (with_reducible refine Kd.C_drewN ?_ _) | (with_reducible refine Kd.C_drew ?_))); (case side4 => exact HC0_2.out); rintro e w30 ⟨rfl, hb⟩; refine ⟨_, rfl, ?_⟩; have n0_ := Aside0.mk (blk_below (g := gb255) (o := .cells #[.slice A0_0 l0_0.length c0_0, .int .i64 a0_1, .slice A0_2 l0_2.length c0_2] 34 (0, 0)) (by (with_reducible repeat (first | refine blk_drewN ?_ _ | refine blk_drew ?_ | refine blk_alloc ?_ _)); exact BK255.out) hb); have n1_ := Aside0.mk (below_step (by repeat (first | (with_reducible first | exact HB.out | apply below_alloc | apply pw_below_drewN | apply below_drew1 | refine below_set ?_ GE255.out) | exact HB.out)) hb); clear BK255; clear HB; have BK255 := n0_; have HB := n1_; clear n0_ n1_; (try clear hb); (try clear hb2); (try clear hk); (try clear hi)))
    refine bodyPost_ret (results_list (rs := [.tmp 4, .tmp 5, .tmp 6, .tmp 7]) rfl (by simp) (.tmp (.tmp (.tmp (.tmp .nil))))) rfl ?_
    exact ⟨by first | rfl | (simp [errW_none, errW_some] <;> rfl) | (simp [*, errW_none, errW_some] <;> rfl), by repeat (first | (with_reducible first | exact HB.out | apply below_alloc | apply pw_below_drewN | apply below_drew1 | refine below_set ?_ GE255.out) | exact HB.out)⟩

end Go.Proofs.Ytnggfglmjdiaaaa.X

-- written by a program of this session (wip/ext.py) out of the translation. Not trusted: Lean checks it.
namespace Go.Proofs.Ytnggfglmjdiaaaa.X
open Go.RowKit Go.Proofs.YtnggfglmjdiaaaaW.PrintWords Go.Proofs.YtnggfglmjdiaaaaW.PrintLast Go.Proofs.YtnggfglmjdiaaaaW.PrintMore
attribute [local go_sem] max2_int min2_int max_two min_two max_three min_three max_four min_four   -- for this text's walks alone
set_option linter.unusedVariables false
set_option linter.unusedSimpArgs false

/-! ### laws_FnExactWhereIs: function 4 -/
def laws_FnExactWhereIs.j0 : Nat → Bool → List (List Int) → Int → List (List Int) → List (List Int) → Int → List (List Int) → Option (Bool)
  | 0, _, _, _, _, _, _, _ => none
  | k + 1, x56, x262000, x262001, x262002, x282000, x282001, x282002 => if x56 = true then (some false) else ((laws_toTerminal.f k x262000 x262001 x262002).bind fun bt286 => ((laws_eqTerminal.f k x282000 x282001 x282002 bt286.1 bt286.2.1 bt286.2.2).bind fun t293 => (if t293 = true then (some true) else (some false))))
def laws_FnExactWhereIs.f (k : Nat) (l0_0 : List (List Int)) (a0_1 : Int) (l0_2 : List (List Int)) (a1 : Int) : Option (Bool) := (laws_szTerminal.f k l0_0 a0_1 l0_2 1048576).bind fun t262 => (if t262 < 0 then (some true) else ((laws_toTerminal.f k l0_0 a0_1 l0_2).bind fun bt263 => ((spec_WhereIs.f k bt263.1 bt263.2.1 bt263.2.2 a1).bind fun bt270 => ((laws_toTerminal.f k l0_0 a0_1 l0_2).bind fun bt274 => ((impl_WhereIs.f k bt274.1 bt274.2.1 bt274.2.2 a1).bind fun bt282 => (if bt282.1 = bt270.1 then (if bt282.2.1 = bt270.2.1 then (if bt282.2.2.1 = bt270.2.2.1 then (laws_FnExactWhereIs.j0 k (bt282.2.2.2 != bt270.2.2.2) l0_0 a0_1 l0_2 bt274.1 bt274.2.1 bt274.2.2) else (laws_FnExactWhereIs.j0 k true l0_0 a0_1 l0_2 bt274.1 bt274.2.1 bt274.2.2)) else (laws_FnExactWhereIs.j0 k true l0_0 a0_1 l0_2 bt274.1 bt274.2.1 bt274.2.2)) else (laws_FnExactWhereIs.j0 k true l0_0 a0_1 l0_2 bt274.1 bt274.2.1 bt274.2.2)))))))
theorem laws_FnExactWhereIs.mono_l : ∀ k, (∀ y0 y1 y2 y3 y4 y5 y6, LeO (laws_FnExactWhereIs.j0 k y0 y1 y2 y3 y4 y5 y6) (laws_FnExactWhereIs.j0 (k + 1) y0 y1 y2 y3 y4 y5 y6))
  | 0 => fun _ _ _ _ _ _ _ r h => by simp [laws_FnExactWhereIs.j0] at h
  | k + 1 => by
    have ih0 := laws_FnExactWhereIs.mono_l k
    · intro y0 y1 y2 y3 y4 y5 y6
      unfold laws_FnExactWhereIs.j0
      repeat' first
      | (with_reducible exact ih0 _ _ _ _ _ _ _)
      | (with_reducible exact impl_WhereIs.mono _ _ _ _ _)
      | (with_reducible exact laws_eqTerminal.mono _ _ _ _ _ _ _)
      | (with_reducible exact laws_szTerminal.mono _ _ _ _ _)
      | (with_reducible exact laws_toTerminal.mono _ _ _ _)
      | (with_reducible exact spec_WhereIs.mono _ _ _ _ _)
      | (with_reducible exact LeO.refl _)
      | (with_reducible exact LeO.none _)
      | (with_reducible refine LeO.ite ?_ ?_)
      | (with_reducible refine LeO.bind ?_ (fun _ => ?_))
      | exact ih0 _ _ _ _ _ _ _
      | exact impl_WhereIs.mono _ _ _ _ _
      | exact laws_eqTerminal.mono _ _ _ _ _ _ _
      | exact laws_szTerminal.mono _ _ _ _ _
      | exact laws_toTerminal.mono _ _ _ _
      | exact spec_WhereIs.mono _ _ _ _ _
      | exact LeO.none _
      | refine LeO.ite ?_ ?_
      | refine LeO.bind ?_ (fun _ => ?_)
theorem laws_FnExactWhereIs.mono : ∀ a0 a1 a2 a3 k, LeO (laws_FnExactWhereIs.f k a0 a1 a2 a3) (laws_FnExactWhereIs.f (k + 1) a0 a1 a2 a3) := by
  intro a0 a1 a2 a3 k
  have ih0 := laws_FnExactWhereIs.mono_l k
  unfold laws_FnExactWhereIs.f
  repeat' first
      | (with_reducible exact ih0 _ _ _ _ _ _ _)
      | (with_reducible exact impl_WhereIs.mono _ _ _ _ _)
      | (with_reducible exact laws_eqTerminal.mono _ _ _ _ _ _ _)
      | (with_reducible exact laws_szTerminal.mono _ _ _ _ _)
      | (with_reducible exact laws_toTerminal.mono _ _ _ _)
      | (with_reducible exact spec_WhereIs.mono _ _ _ _ _)
      | (with_reducible exact LeO.refl _)
      | (with_reducible exact LeO.none _)
      | (with_reducible refine LeO.ite ?_ ?_)
      | (with_reducible refine LeO.bind ?_ (fun _ => ?_))
      | exact ih0 _ _ _ _ _ _ _
      | exact impl_WhereIs.mono _ _ _ _ _
      | exact laws_eqTerminal.mono _ _ _ _ _ _ _
      | exact laws_szTerminal.mono _ _ _ _ _
      | exact laws_toTerminal.mono _ _ _ _
      | exact spec_WhereIs.mono _ _ _ _ _
      | exact LeO.none _
      | refine LeO.ite ?_ ?_
      | refine LeO.bind ?_ (fun _ => ?_)
set_option maxHeartbeats 8000000 in
set_option maxRecDepth 100000 in
theorem laws_FnExactWhereIs.calls (k : Nat) (A0_0 : Option Addr) (c0_0 : Nat) (l0_0 : List (List Int)) (a0_1 : Int) (A0_2 : Option Addr) (c0_2 : Nat) (l0_2 : List (List Int)) (a1 : Int) (r : Bool) (w : World) (hr0_0 : Kd.C (Kd.slice 3 (Kd.int .i64)) w A0_0 l0_0.length l0_0) (hc0_0 : l0_0.length ≤ c0_0) (hr0_2 : Kd.C (Kd.slice 3 (Kd.int .i64)) w A0_2 l0_2.length l0_2) (hc0_2 : l0_2.length ≤ c0_2) (h : laws_FnExactWhereIs.f k l0_0 a0_1 l0_2 a1 = some r) :
    Calls Try.prog 4 #[.agg #[.slice A0_0 l0_0.length c0_0, .int .i64 a0_1, .slice A0_2 l0_2.length c0_2], .int .i64 a1] w fun e w' => e = .returned (.bool r) ∧ Below w.heap.size w w' := by
  have hu28 := Try.underlying28
  have hu34 := Try.underlying34
  have HR0_0 := Aside0.mk hr0_0
  have HC0_0 := Aside0.mk hc0_0
  clear hr0_0 hc0_0
  have HR0_2 := Aside0.mk hr0_2
  have HC0_2 := Aside0.mk hc0_2
  clear hr0_2 hc0_2
  have HB := Aside0.mk (Below.refl w.heap.size w)
  have H : ((laws_szTerminal.f k l0_0 a0_1 l0_2 1048576).bind fun t262 => (if t262 < 0 then (some true) else ((laws_toTerminal.f k l0_0 a0_1 l0_2).bind fun bt263 => ((spec_WhereIs.f k bt263.1 bt263.2.1 bt263.2.2 a1).bind fun bt270 => ((laws_toTerminal.f k l0_0 a0_1 l0_2).bind fun bt274 => ((impl_WhereIs.f k bt274.1 bt274.2.1 bt274.2.2 a1).bind fun bt282 => (if bt282.1 = bt270.1 then (if bt282.2.1 = bt270.2.1 then (if bt282.2.2.1 = bt270.2.2.1 then (laws_FnExactWhereIs.j0 k (bt282.2.2.2 != bt270.2.2.2) l0_0 a0_1 l0_2 bt274.1 bt274.2.1 bt274.2.2) else (laws_FnExactWhereIs.j0 k true l0_0 a0_1 l0_2 bt274.1 bt274.2.1 bt274.2.2)) else (laws_FnExactWhereIs.j0 k true l0_0 a0_1 l0_2 bt274.1 bt274.2.1 bt274.2.2)) else (laws_FnExactWhereIs.j0 k true l0_0 a0_1 l0_2 bt274.1 bt274.2.1 bt274.2.2)))))))) = some r := h
  clear h
  replace H := Option.bind_eq_some_iff.mp H
  obtain ⟨t262, A30, H⟩ := H
  replace H : (if t262 < 0 then (some true) else ((laws_toTerminal.f k l0_0 a0_1 l0_2).bind fun bt263 => ((spec_WhereIs.f k bt263.1 bt263.2.1 bt263.2.2 a1).bind fun bt270 => ((laws_toTerminal.f k l0_0 a0_1 l0_2).bind fun bt274 => ((impl_WhereIs.f k bt274.1 bt274.2.1 bt274.2.2 a1).bind fun bt282 => (if bt282.1 = bt270.1 then (if bt282.2.1 = bt270.2.1 then (if bt282.2.2.1 = bt270.2.2.1 then (laws_FnExactWhereIs.j0 k (bt282.2.2.2 != bt270.2.2.2) l0_0 a0_1 l0_2 bt274.1 bt274.2.1 bt274.2.2) else (laws_FnExactWhereIs.j0 k true l0_0 a0_1 l0_2 bt274.1 bt274.2.1 bt274.2.2)) else (laws_FnExactWhereIs.j0 k true l0_0 a0_1 l0_2 bt274.1 bt274.2.1 bt274.2.2)) else (laws_FnExactWhereIs.j0 k true l0_0 a0_1 l0_2 bt274.1 bt274.2.1 bt274.2.2))))))) = some r := H
  have A3 := Aside0.mk A30
  clear A30
  by_cases c4 : t262 < 0
  · rw [if_pos c4] at H
    have c4b0 : decide (t262 < 0) = true := decide_eq_true c4
    clear c4
    obtain rfl := Option.some.inj H
    go_enter Try.func4, Try.ntmps4
    go_wp2_with (first | ((with_reducible refine gate_dst (N := 2) rfl ?_); refine box_event ?hg (N := 2) ?hd (cs := #[.slice A0_0 l0_0.length c0_0, .int .i64 a0_1, .slice A0_2 l0_2.length c0_2]) (t := 28) ?hr ?_; (case hd => rfl); (case hg => rfl); (case hr => first | (go_simp; done) | (go_simp; rfl)); intro gb261 hg w5 hbox hb; have n0_ := Aside0.mk (below_step (by repeat (first | (with_reducible first | exact HB.out | apply below_alloc | apply pw_below_drewN | apply below_drew1) | exact HB.out)) hb); have n1_ := Aside0.mk (hbox); have n2_ := Aside0.mk ((by rw [hg]; exact (below_size (by repeat (first | (with_reducible first | exact HB.out | apply below_alloc | apply pw_below_drewN | apply below_drew1) | exact HB.out))) : w.heap.size ≤ gb261)); have n3_ := Aside0.mk ((by rw [hg]; exact (below_size (by repeat (first | (with_reducible first | exact HB.out | apply below_alloc | apply pw_below_drewN | apply below_drew1) | exact HB.out))) : w.heap.size ≤ gb261)); clear HB; have HB := n0_; have BK261 := n1_; have GW261 := n2_; have GE261 := n3_; clear n0_ n1_ n2_ n3_; clear hb hbox hg; have hcz6_0 : w5.cell? ⟨gb261, 0, none⟩ = some (.slice A0_0 l0_0.length c0_0) := (blk_cell BK261.out 0).trans rfl; have hcz6_1 : w5.cell? ⟨gb261, 1, none⟩ = some (.int .i64 a0_1) := (blk_cell BK261.out 1).trans rfl; have hcz6_2 : w5.cell? ⟨gb261, 2, none⟩ = some (.slice A0_2 l0_2.length c0_2) := (blk_cell BK261.out 2).trans rfl; have hfz6_0 := blk_frozen BK261.out 0; have hfz6_1 := blk_frozen BK261.out 1; have hfz6_2 := blk_frozen BK261.out 2) | ((with_reducible refine gate_callee (f := 10) rfl ?_); refine goesL_ (some 17) rfl rfl Try.func10 (by kernel_rfl) rfl #[.agg #[.slice A0_0 l0_0.length c0_0, .int .i64 a0_1, .slice A0_2 l0_2.length c0_2], .int .i64 1048576] rfl (by (try simp only [List.map_toArray, List.map_cons, List.map_nil]); first | done | rfl | (simp only [List.length_drop, List.length_take]; rfl)) ?_; (with_reducible refine (laws_szTerminal.calls k _ _ l0_0 a0_1 _ _ l0_2 1048576 t262 _ ?side1 ?side2 ?side3 ?side4 A3.out).mono ?_); (case side1 => repeat (first | exact (Kd.C_below HR0_0.out HB.out) | (with_reducible refine Kd.C_alloc ?_ _) | (with_reducible refine Kd.C_drewN ?_ _) | (with_reducible refine Kd.C_drew ?_))); (case side2 => exact HC0_0.out); (case side3 => repeat (first | exact (Kd.C_below HR0_2.out HB.out) | (with_reducible refine Kd.C_alloc ?_ _) | (with_reducible refine Kd.C_drewN ?_ _) | (with_reducible refine Kd.C_drew ?_))); (case side4 => exact HC0_2.out); rintro e w7 ⟨rfl, hb⟩; refine ⟨_, rfl, ?_⟩; have n0_ := Aside0.mk (blk_below (g := gb261) (o := .cells #[.slice A0_0 l0_0.length c0_0, .int .i64 a0_1, .slice A0_2 l0_2.length c0_2] 28 (0, 0)) (by (with_reducible repeat (first | refine blk_drewN ?_ _ | refine blk_drew ?_ | refine blk_alloc ?_ _)); exact BK261.out) hb); have n1_ := Aside0.mk (below_step (by repeat (first | (with_reducible first | exact HB.out | apply below_alloc | apply pw_below_drewN | apply below_drew1 | refine below_set ?_ GE261.out) | exact HB.out)) hb); clear BK261; clear HB; have BK261 := n0_; have HB := n1_; clear n0_ n1_; (try clear hb); (try clear hb2); (try clear hk); (try clear hi)))
    go_ret
    exact ⟨by first | rfl | (simp [errW_none, errW_some] <;> rfl) | (simp [*, errW_none, errW_some] <;> rfl), by repeat (first | (with_reducible first | exact HB.out | apply below_alloc | apply pw_below_drewN | apply below_drew1 | refine below_set ?_ GE261.out) | exact HB.out)⟩
  · rw [if_neg c4] at H
    have c4b0 : decide (t262 < 0) = false := decide_eq_false c4
    clear c4
    replace H := Option.bind_eq_some_iff.mp H
    obtain ⟨⟨t263, t266, t267⟩, A80, H⟩ := H
    replace H : ((spec_WhereIs.f k t263 t266 t267 a1).bind fun bt270 => ((laws_toTerminal.f k l0_0 a0_1 l0_2).bind fun bt274 => ((impl_WhereIs.f k bt274.1 bt274.2.1 bt274.2.2 a1).bind fun bt282 => (if bt282.1 = bt270.1 then (if bt282.2.1 = bt270.2.1 then (if bt282.2.2.1 = bt270.2.2.1 then (laws_FnExactWhereIs.j0 k (bt282.2.2.2 != bt270.2.2.2) l0_0 a0_1 l0_2 bt274.1 bt274.2.1 bt274.2.2) else (laws_FnExactWhereIs.j0 k true l0_0 a0_1 l0_2 bt274.1 bt274.2.1 bt274.2.2)) else (laws_FnExactWhereIs.j0 k true l0_0 a0_1 l0_2 bt274.1 bt274.2.1 bt274.2.2)) else (laws_FnExactWhereIs.j0 k true l0_0 a0_1 l0_2 bt274.1 bt274.2.1 bt274.2.2))))) = some r := H
    have A8 := Aside0.mk A80
    clear A80
    replace H := Option.bind_eq_some_iff.mp H
    obtain ⟨⟨t270, t271, t272, t273⟩, A90, H⟩ := H
    replace H : ((laws_toTerminal.f k l0_0 a0_1 l0_2).bind fun bt274 => ((impl_WhereIs.f k bt274.1 bt274.2.1 bt274.2.2 a1).bind fun bt282 => (if bt282.1 = t270 then (if bt282.2.1 = t271 then (if bt282.2.2.1 = t272 then (laws_FnExactWhereIs.j0 k (bt282.2.2.2 != t273) l0_0 a0_1 l0_2 bt274.1 bt274.2.1 bt274.2.2) else (laws_FnExactWhereIs.j0 k true l0_0 a0_1 l0_2 bt274.1 bt274.2.1 bt274.2.2)) else (laws_FnExactWhereIs.j0 k true l0_0 a0_1 l0_2 bt274.1 bt274.2.1 bt274.2.2)) else (laws_FnExactWhereIs.j0 k true l0_0 a0_1 l0_2 bt274.1 bt274.2.1 bt274.2.2)))) = some r := H
    have A9 := Aside0.mk A90
    clear A90
    replace H := Option.bind_eq_some_iff.mp H
    obtain ⟨⟨t274, t277, t278⟩, A100, H⟩ := H
    replace H : ((impl_WhereIs.f k t274 t277 t278 a1).bind fun bt282 => (if bt282.1 = t270 then (if bt282.2.1 = t271 then (if bt282.2.2.1 = t272 then (laws_FnExactWhereIs.j0 k (bt282.2.2.2 != t273) l0_0 a0_1 l0_2 t274 t277 t278) else (laws_FnExactWhereIs.j0 k true l0_0 a0_1 l0_2 t274 t277 t278)) else (laws_FnExactWhereIs.j0 k true l0_0 a0_1 l0_2 t274 t277 t278)) else (laws_FnExactWhereIs.j0 k true l0_0 a0_1 l0_2 t274 t277 t278))) = some r := H
    have A10 := Aside0.mk A100
    clear A100
    replace H := Option.bind_eq_some_iff.mp H
    obtain ⟨⟨t282, t283, t284, t285⟩, A110, H⟩ := H
    replace H : (if t282 = t270 then (if t283 = t271 then (if t284 = t272 then (laws_FnExactWhereIs.j0 k (t285 != t273) l0_0 a0_1 l0_2 t274 t277 t278) else (laws_FnExactWhereIs.j0 k true l0_0 a0_1 l0_2 t274 t277 t278)) else (laws_FnExactWhereIs.j0 k true l0_0 a0_1 l0_2 t274 t277 t278)) else (laws_FnExactWhereIs.j0 k true l0_0 a0_1 l0_2 t274 t277 t278)) = some r := H
    have A11 := Aside0.mk A110
    clear A110
    have HC12 := Aside0.mk H
    clear H
    go_enter Try.func4, Try.ntmps4
    go_upto_region 8 with (first | ((with_reducible refine gate_dst (N := 2) rfl ?_); refine box_event ?hg (N := 2) ?hd (cs := #[.slice A0_0 l0_0.length c0_0, .int .i64 a0_1, .slice A0_2 l0_2.length c0_2]) (t := 28) ?hr ?_; (case hd => rfl); (case hg => rfl); (case hr => first | (go_simp; done) | (go_simp; rfl)); intro gb261 hg w13 hbox hb; have n0_ := Aside0.mk (below_step (by repeat (first | (with_reducible first | exact HB.out | apply below_alloc | apply pw_below_drewN | apply below_drew1) | exact HB.out)) hb); have n1_ := Aside0.mk (hbox); have n2_ := Aside0.mk ((by rw [hg]; exact (below_size (by repeat (first | (with_reducible first | exact HB.out | apply below_alloc | apply pw_below_drewN | apply below_drew1) | exact HB.out))) : w.heap.size ≤ gb261)); have n3_ := Aside0.mk ((by rw [hg]; exact (below_size (by repeat (first | (with_reducible first | exact HB.out | apply below_alloc | apply pw_below_drewN | apply below_drew1) | exact HB.out))) : w.heap.size ≤ gb261)); clear HB; have HB := n0_; have BK261 := n1_; have GW261 := n2_; have GE261 := n3_; clear n0_ n1_ n2_ n3_; clear hb hbox hg; have hcz14_0 : w13.cell? ⟨gb261, 0, none⟩ = some (.slice A0_0 l0_0.length c0_0) := (blk_cell BK261.out 0).trans rfl; have hcz14_1 : w13.cell? ⟨gb261, 1, none⟩ = some (.int .i64 a0_1) := (blk_cell BK261.out 1).trans rfl; have hcz14_2 : w13.cell? ⟨gb261, 2, none⟩ = some (.slice A0_2 l0_2.length c0_2) := (blk_cell BK261.out 2).trans rfl; have hfz14_0 := blk_frozen BK261.out 0; have hfz14_1 := blk_frozen BK261.out 1; have hfz14_2 := blk_frozen BK261.out 2) | ((with_reducible refine gate_callee (f := 10) rfl ?_); refine goesL_ (some 17) rfl rfl Try.func10 (by kernel_rfl) rfl #[.agg #[.slice A0_0 l0_0.length c0_0, .int .i64 a0_1, .slice A0_2 l0_2.length c0_2], .int .i64 1048576] rfl (by (try simp only [List.map_toArray, List.map_cons, List.map_nil]); first | done | rfl | (simp only [List.length_drop, List.length_take]; rfl)) ?_; (with_reducible refine (laws_szTerminal.calls k _ _ l0_0 a0_1 _ _ l0_2 1048576 t262 _ ?side1 ?side2 ?side3 ?side4 A3.out).mono ?_); (case side1 => repeat (first | exact (Kd.C_below HR0_0.out HB.out) | (with_reducible refine Kd.C_alloc ?_ _) | (with_reducible refine Kd.C_drewN ?_ _) | (with_reducible refine Kd.C_drew ?_))); (case side2 => exact HC0_0.out); (case side3 => repeat (first | exact (Kd.C_below HR0_2.out HB.out) | (with_reducible refine Kd.C_alloc ?_ _) | (with_reducible refine Kd.C_drewN ?_ _) | (with_reducible refine Kd.C_drew ?_))); (case side4 => exact HC0_2.out); rintro e w15 ⟨rfl, hb⟩; refine ⟨_, rfl, ?_⟩; have n0_ := Aside0.mk (blk_below (g := gb261) (o := .cells #[.slice A0_0 l0_0.length c0_0, .int .i64 a0_1, .slice A0_2 l0_2.length c0_2] 28 (0, 0)) (by (with_reducible repeat (first | refine blk_drewN ?_ _ | refine blk_drew ?_ | refine blk_alloc ?_ _)); exact BK261.out) hb); have n1_ := Aside0.mk (below_step (by repeat (first | (with_reducible first | exact HB.out | apply below_alloc | apply pw_below_drewN | apply below_drew1 | refine below_set ?_ GE261.out) | exact HB.out)) hb); clear BK261; clear HB; have BK261 := n0_; have HB := n1_; clear n0_ n1_; (try clear hb); (try clear hb2); (try clear hk); (try clear hi); have hcz16_0 : w15.cell? ⟨gb261, 0, none⟩ = some (.slice A0_0 l0_0.length c0_0) := (blk_cell BK261.out 0).trans rfl; have hcz16_1 : w15.cell? ⟨gb261, 1, none⟩ = some (.int .i64 a0_1) := (blk_cell BK261.out 1).trans rfl; have hcz16_2 : w15.cell? ⟨gb261, 2, none⟩ = some (.slice A0_2 l0_2.length c0_2) := (blk_cell BK261.out 2).trans rfl; have hfz16_0 := blk_frozen BK261.out 0; have hfz16_1 := blk_frozen BK261.out 1; have hfz16_2 := blk_frozen BK261.out 2) | ((with_reducible refine gate_callee (f := 12) rfl ?_); refine goesL_ (some 22) rfl rfl Try.func12 (by kernel_rfl) rfl #[.agg #[.slice A0_0 l0_0.length c0_0, .int .i64 a0_1, .slice A0_2 l0_2.length c0_2]] rfl (by (try simp only [List.map_toArray, List.map_cons, List.map_nil]); first | done | rfl | (simp only [List.length_drop, List.length_take]; rfl)) ?_; (with_reducible refine (laws_toTerminal.calls k _ _ l0_0 a0_1 _ _ l0_2 t263 t266 t267 _ ?side1 ?side2 ?side3 ?side4 A8.out).mono ?_); (case side1 => repeat (first | exact (Kd.C_below HR0_0.out HB.out) | (with_reducible refine Kd.C_alloc ?_ _) | (with_reducible refine Kd.C_drewN ?_ _) | (with_reducible refine Kd.C_drew ?_))); (case side2 => exact HC0_0.out); (case side3 => repeat (first | exact (Kd.C_below HR0_2.out HB.out) | (with_reducible refine Kd.C_alloc ?_ _) | (with_reducible refine Kd.C_drewN ?_ _) | (with_reducible refine Kd.C_drew ?_))); (case side4 => exact HC0_2.out); rintro e w17 ⟨v264, v268, rfl, ho0, ho1, hb⟩; refine ⟨_, rfl, ?_⟩; have n0_ := Aside0.mk (Kd.S_lower ho0 (below_size (by repeat (first | (with_reducible first | exact HB.out | apply below_alloc | apply pw_below_drewN | apply below_drew1 | refine below_set ?_ GE261.out) | exact HB.out)))); have n1_ := Aside0.mk (Kd.S_lower ho1 (below_size (by repeat (first | (with_reducible first | exact HB.out | apply below_alloc | apply pw_below_drewN | apply below_drew1 | refine below_set ?_ GE261.out) | exact HB.out)))); have n2_ := Aside0.mk (blk_below (g := gb261) (o := .cells #[.slice A0_0 l0_0.length c0_0, .int .i64 a0_1, .slice A0_2 l0_2.length c0_2] 28 (0, 0)) (by (with_reducible repeat (first | refine blk_drewN ?_ _ | refine blk_drew ?_ | refine blk_alloc ?_ _)); exact BK261.out) hb); have n3_ := Aside0.mk (below_step (by repeat (first | (with_reducible first | exact HB.out | apply below_alloc | apply pw_below_drewN | apply below_drew1 | refine below_set ?_ GE261.out) | exact HB.out)) hb); clear BK261; clear HB; have HO265 := n0_; have HO269 := n1_; have BK261 := n2_; have HB := n3_; clear n0_ n1_ n2_ n3_; (try clear hb); (try clear hb2); (try clear hk); (try clear hi); (try clear ho0); (try clear ho1); obtain ⟨Ao18, co18, eo18⟩ := Kd.S_slice HO265.out; subst eo18; obtain ⟨Ao19, co19, eo19⟩ := Kd.S_slice HO269.out; subst eo19) | ((with_reducible refine gate_callee (f := 15) rfl ?_); refine goesL_ (some 24) rfl rfl Try.func15 (by kernel_rfl) rfl #[.agg #[.slice Ao18 t263.length co18, .int .i64 t266, .slice Ao19 t267.length co19], .int .i64 a1] rfl (by (try simp only [List.map_toArray, List.map_cons, List.map_nil]); first | done | rfl | (simp only [List.length_drop, List.length_take]; rfl)) ?_; (with_reducible refine (spec_WhereIs.calls k _ _ t263 t266 _ _ t267 a1 t270 t271 t272 t273 _ ?side1 ?side2 ?side3 ?side4 A9.out).mono ?_); (case side1 => repeat (first | exact (Kd.S_reads' HO265.out).2.2 | (with_reducible refine Kd.C_alloc ?_ _) | (with_reducible refine Kd.C_drewN ?_ _) | (with_reducible refine Kd.C_drew ?_))); (case side2 => exact (Kd.S_reads' HO265.out).2.1); (case side3 => repeat (first | exact (Kd.S_reads' HO269.out).2.2 | (with_reducible refine Kd.C_alloc ?_ _) | (with_reducible refine Kd.C_drewN ?_ _) | (with_reducible refine Kd.C_drew ?_))); (case side4 => exact (Kd.S_reads' HO269.out).2.1); rintro e w20 ⟨rfl, hb⟩; refine ⟨_, rfl, ?_⟩; have n0_ := Aside0.mk (Kd.S_below (by (with_reducible repeat (first | apply Kd.S_alloc | apply Kd.S_drewN | apply Kd.S_drew)); exact HO265.out) hb); have n1_ := Aside0.mk (Kd.S_below (by (with_reducible repeat (first | apply Kd.S_alloc | apply Kd.S_drewN | apply Kd.S_drew)); exact HO269.out) hb); have n2_ := Aside0.mk (blk_below (g := gb261) (o := .cells #[.slice A0_0 l0_0.length c0_0, .int .i64 a0_1, .slice A0_2 l0_2.length c0_2] 28 (0, 0)) (by (with_reducible repeat (first | refine blk_drewN ?_ _ | refine blk_drew ?_ | refine blk_alloc ?_ _)); exact BK261.out) hb); have n3_ := Aside0.mk (below_step (by repeat (first | (with_reducible first | exact HB.out | apply below_alloc | apply pw_below_drewN | apply below_drew1 | refine below_set ?_ GE261.out) | exact HB.out)) hb); clear HO265; clear HO269; clear BK261; clear HB; have HO265 := n0_; have HO269 := n1_; have BK261 := n2_; have HB := n3_; clear n0_ n1_ n2_ n3_; (try clear hb); (try clear hb2); (try clear hk); (try clear hi); have hcz21_0 : w20.cell? ⟨gb261, 0, none⟩ = some (.slice A0_0 l0_0.length c0_0) := (blk_cell BK261.out 0).trans rfl; have hcz21_1 : w20.cell? ⟨gb261, 1, none⟩ = some (.int .i64 a0_1) := (blk_cell BK261.out 1).trans rfl; have hcz21_2 : w20.cell? ⟨gb261, 2, none⟩ = some (.slice A0_2 l0_2.length c0_2) := (blk_cell BK261.out 2).trans rfl; have hfz21_0 := blk_frozen BK261.out 0; have hfz21_1 := blk_frozen BK261.out 1; have hfz21_2 := blk_frozen BK261.out 2) | ((with_reducible refine gate_callee (f := 12) rfl ?_); refine goesL_ (some 30) rfl rfl Try.func12 (by kernel_rfl) rfl #[.agg #[.slice A0_0 l0_0.length c0_0, .int .i64 a0_1, .slice A0_2 l0_2.length c0_2]] rfl (by (try simp only [List.map_toArray, List.map_cons, List.map_nil]); first | done | rfl | (simp only [List.length_drop, List.length_take]; rfl)) ?_; (with_reducible refine (laws_toTerminal.calls k _ _ l0_0 a0_1 _ _ l0_2 t274 t277 t278 _ ?side1 ?side2 ?side3 ?side4 A10.out).mono ?_); (case side1 => repeat (first | exact (Kd.C_below HR0_0.out HB.out) | (with_reducible refine Kd.C_alloc ?_ _) | (with_reducible refine Kd.C_drewN ?_ _) | (with_reducible refine Kd.C_drew ?_))); (case side2 => exact HC0_0.out); (case side3 => repeat (first | exact (Kd.C_below HR0_2.out HB.out) | (with_reducible refine Kd.C_alloc ?_ _) | (with_reducible refine Kd.C_drewN ?_ _) | (with_reducible refine Kd.C_drew ?_))); (case side4 => exact HC0_2.out); rintro e w22 ⟨v275, v279, rfl, ho0, ho1, hb⟩; refine ⟨_, rfl, ?_⟩; have n0_ := Aside0.mk (Kd.S_mono (Kd.S_told (Kd.S_told (Kd.S_old (by (with_reducible repeat (first | apply Kd.S_alloc | apply Kd.S_drewN | apply Kd.S_drew)); exact HO265.out) hb) (Kd.S_base ho0)) (Kd.S_base ho1)) (fun _ h_ => h_.1)); have n1_ := Aside0.mk (Kd.S_mono (Kd.S_told (Kd.S_told (Kd.S_old (by (with_reducible repeat (first | apply Kd.S_alloc | apply Kd.S_drewN | apply Kd.S_drew)); exact HO269.out) hb) (Kd.S_base ho0)) (Kd.S_base ho1)) (fun _ h_ => h_.1)); have n2_ := Aside0.mk (Kd.S_lower (Kd.S_new' (Kd.S_new' ho0 (Kd.S_lt (by (with_reducible repeat (first | apply Kd.S_alloc | apply Kd.S_drewN | apply Kd.S_drew)); exact HO265.out))) (Kd.S_lt (by (with_reducible repeat (first | apply Kd.S_alloc | apply Kd.S_drewN | apply Kd.S_drew)); exact HO269.out))) (below_size (by repeat (first | (with_reducible first | exact HB.out | apply below_alloc | apply pw_below_drewN | apply below_drew1 | refine below_set ?_ GE261.out) | exact HB.out)))); have n3_ := Aside0.mk (Kd.S_lower (Kd.S_new' (Kd.S_new' ho1 (Kd.S_lt (by (with_reducible repeat (first | apply Kd.S_alloc | apply Kd.S_drewN | apply Kd.S_drew)); exact HO265.out))) (Kd.S_lt (by (with_reducible repeat (first | apply Kd.S_alloc | apply Kd.S_drewN | apply Kd.S_drew)); exact HO269.out))) (below_size (by repeat (first | (with_reducible first | exact HB.out | apply below_alloc | apply pw_below_drewN | apply below_drew1 | refine below_set ?_ GE261.out) | exact HB.out)))); have n4_ := Aside0.mk (blk_below (g := gb261) (o := .cells #[.slice A0_0 l0_0.length c0_0, .int .i64 a0_1, .slice A0_2 l0_2.length c0_2] 28 (0, 0)) (by (with_reducible repeat (first | refine blk_drewN ?_ _ | refine blk_drew ?_ | refine blk_alloc ?_ _)); exact BK261.out) hb); have n5_ := Aside0.mk (below_step (by repeat (first | (with_reducible first | exact HB.out | apply below_alloc | apply pw_below_drewN | apply below_drew1 | refine below_set ?_ GE261.out) | exact HB.out)) hb); clear HO265; clear HO269; clear BK261; clear HB; have HO265 := n0_; have HO269 := n1_; have HO276 := n2_; have HO280 := n3_; have BK261 := n4_; have HB := n5_; clear n0_ n1_ n2_ n3_ n4_ n5_; (try clear hb); (try clear hb2); (try clear hk); (try clear hi); (try clear ho0); (try clear ho1)) | ((with_reducible refine gate_dst (N := 10) rfl ?_); refine box_event ?hg (N := 10) ?hd (cs := #[.slice none 0 0, .int .i64 0, .slice none 0 0]) (t := 34) ?hr ?_; (case hd => rfl); (case hg => rfl); (case hr => first | (go_simp; done) | (go_simp; rfl)); intro gb281 hg w23 hbox hb; have n0_ := Aside0.mk (Kd.S_below (by (with_reducible repeat (first | apply Kd.S_alloc | apply Kd.S_drewN | apply Kd.S_drew)); exact HO265.out) hb); have n1_ := Aside0.mk (Kd.S_below (by (with_reducible repeat (first | apply Kd.S_alloc | apply Kd.S_drewN | apply Kd.S_drew)); exact HO269.out) hb); have n2_ := Aside0.mk (Kd.S_below (by (with_reducible repeat (first | apply Kd.S_alloc | apply Kd.S_drewN | apply Kd.S_drew)); exact HO276.out) hb); have n3_ := Aside0.mk (Kd.S_below (by (with_reducible repeat (first | apply Kd.S_alloc | apply Kd.S_drewN | apply Kd.S_drew)); exact HO280.out) hb); have n4_ := Aside0.mk (blk_below (g := gb261) (o := .cells #[.slice A0_0 l0_0.length c0_0, .int .i64 a0_1, .slice A0_2 l0_2.length c0_2] 28 (0, 0)) (by (with_reducible repeat (first | refine blk_drewN ?_ _ | refine blk_drew ?_ | refine blk_alloc ?_ _)); exact BK261.out) hb); have n5_ := Aside0.mk (below_step (by repeat (first | (with_reducible first | exact HB.out | apply below_alloc | apply pw_below_drewN | apply below_drew1 | refine below_set ?_ GE261.out) | exact HB.out)) hb); have n6_ := Aside0.mk (hbox); have n7_ := Aside0.mk ((by rw [hg]; exact (below_size (by repeat (first | (with_reducible first | exact HB.out | apply below_alloc | apply pw_below_drewN | apply below_drew1 | refine below_set ?_ GE261.out) | exact HB.out))) : w.heap.size ≤ gb281)); have n8_ := Aside0.mk ((by rw [hg]; exact (below_size (by repeat (first | (with_reducible first | exact HB.out | apply below_alloc | apply pw_below_drewN | apply below_drew1 | refine below_set ?_ GE261.out) | exact HB.out))) : w.heap.size ≤ gb281)); have n9_ := Aside0.mk ((by rw [hg]; exact Nat.ne_of_lt (blk_lt (g := gb261) (o := .cells #[.slice A0_0 l0_0.length c0_0, .int .i64 a0_1, .slice A0_2 l0_2.length c0_2] 28 (0, 0)) (by (with_reducible repeat (first | refine blk_drewN ?_ _ | refine blk_drew ?_ | refine blk_alloc ?_ _)); exact BK261.out)) : gb261 ≠ gb281)); have n10_ := Aside0.mk ((by rw [hg]; exact Nat.ne_of_gt (blk_lt (g := gb261) (o := .cells #[.slice A0_0 l0_0.length c0_0, .int .i64 a0_1, .slice A0_2 l0_2.length c0_2] 28 (0, 0)) (by (with_reducible repeat (first | refine blk_drewN ?_ _ | refine blk_drew ?_ | refine blk_alloc ?_ _)); exact BK261.out)) : gb281 ≠ gb261)); clear HO265; clear HO269; clear HO276; clear HO280; clear BK261; clear HB; have HO265 := n0_; have HO269 := n1_; have HO276 := n2_; have HO280 := n3_; have BK261 := n4_; have HB := n5_; have BK281 := n6_; have GW281 := n7_; have GE281 := n8_; have NB261_281 := n9_; have NB281_261 := n10_; clear n0_ n1_ n2_ n3_ n4_ n5_ n6_ n7_ n8_ n9_ n10_; clear hb hbox hg; obtain ⟨Ao24, co24, eo24⟩ := Kd.S_slice HO276.out; subst eo24; have hnb25 := NB281_261.out; have hnc25 := NB261_281.out; have hcz26_0 : w23.cell? ⟨gb281, 0, none⟩ = some (.slice none 0 0) := (blk_cell BK281.out 0).trans rfl; have hcz26_1 : w23.cell? ⟨gb281, 1, none⟩ = some (.int .i64 0) := (blk_cell BK281.out 1).trans rfl; have hcz26_2 : w23.cell? ⟨gb281, 2, none⟩ = some (.slice none 0 0) := (blk_cell BK281.out 2).trans rfl; have hfz26_0 := blk_frozen BK281.out 0; have hfz26_1 := blk_frozen BK281.out 1; have hfz26_2 := blk_frozen BK281.out 2; obtain ⟨Ao27, co27, eo27⟩ := Kd.S_slice HO280.out; subst eo27) | ((with_reducible refine gate_callee (f := 16) rfl ?_); refine goesL_ (some 34) rfl rfl Try.func16 (by kernel_rfl) rfl #[.agg #[.slice Ao24 t274.length co24, .int .i64 t277, .slice Ao27 t278.length co27], .int .i64 a1] rfl (by (try simp only [List.map_toArray, List.map_cons, List.map_nil]); first | done | rfl | (simp only [List.length_drop, List.length_take]; rfl)) ?_; (with_reducible refine (impl_WhereIs.calls k _ _ t274 t277 _ _ t278 a1 t282 t283 t284 t285 _ ?side1 ?side2 ?side3 ?side4 A11.out).mono ?_); (case side1 => refine (Kd.S_reads' (e := 73) (base := w.heap.size) (ok := fun k_ => ((some k_ ≠ (.slice Ao27 t278.length co27 : Value).ownBlock ∧ some k_ ≠ (.slice Ao18 t263.length co18 : Value).ownBlock) ∧ some k_ ≠ (.slice Ao19 t267.length co19 : Value).ownBlock)) (n := t274.length) (c := co24) ?_).2.2; exact (by (with_reducible repeat (first | apply Kd.S_alloc | apply Kd.S_drewN | apply Kd.S_drew)); exact (Kd.S_mono (Kd.S_far (p := ⟨gb281, 2, none⟩) (Kd.S_far (p := ⟨gb281, 1, none⟩) (Kd.S_far (p := ⟨gb281, 0, none⟩) (Kd.S_types HO276.out BK281.out (by decide)) (fun _ hk => hk.2) (.slice Ao24 t274.length co24)) (fun _ hk => hk.2) (.int .i64 t277)) (fun _ hk => hk.2) (.slice Ao27 t278.length co27)) (fun _ h_ => h_.1)))); (case side2 => exact (Kd.S_reads' HO276.out).2.1); (case side3 => refine (Kd.S_reads' (e := 73) (base := w.heap.size) (ok := fun k_ => ((some k_ ≠ (.slice Ao24 t274.length co24 : Value).ownBlock ∧ some k_ ≠ (.slice Ao18 t263.length co18 : Value).ownBlock) ∧ some k_ ≠ (.slice Ao19 t267.length co19 : Value).ownBlock)) (n := t278.length) (c := co27) ?_).2.2; exact (by (with_reducible repeat (first | apply Kd.S_alloc | apply Kd.S_drewN | apply Kd.S_drew)); exact (Kd.S_mono (Kd.S_far (p := ⟨gb281, 2, none⟩) (Kd.S_far (p := ⟨gb281, 1, none⟩) (Kd.S_far (p := ⟨gb281, 0, none⟩) (Kd.S_types HO280.out BK281.out (by decide)) (fun _ hk => hk.2) (.slice Ao24 t274.length co24)) (fun _ hk => hk.2) (.int .i64 t277)) (fun _ hk => hk.2) (.slice Ao27 t278.length co27)) (fun _ h_ => h_.1)))); (case side4 => exact (Kd.S_reads' HO280.out).2.1); rintro e w28 ⟨rfl, hb⟩; refine ⟨_, rfl, ?_⟩; have n0_ := Aside0.mk (Kd.S_below (by (with_reducible repeat (first | apply Kd.S_alloc | apply Kd.S_drewN | apply Kd.S_drew)); exact (Kd.S_mono (Kd.S_far (p := ⟨gb281, 2, none⟩) (Kd.S_far (p := ⟨gb281, 1, none⟩) (Kd.S_far (p := ⟨gb281, 0, none⟩) (Kd.S_types HO265.out BK281.out (by decide)) (fun _ hk => hk.2) (.slice Ao24 t274.length co24)) (fun _ hk => hk.2) (.int .i64 t277)) (fun _ hk => hk.2) (.slice Ao27 t278.length co27)) (fun _ h_ => h_.1))) hb); have n1_ := Aside0.mk (Kd.S_below (by (with_reducible repeat (first | apply Kd.S_alloc | apply Kd.S_drewN | apply Kd.S_drew)); exact (Kd.S_mono (Kd.S_far (p := ⟨gb281, 2, none⟩) (Kd.S_far (p := ⟨gb281, 1, none⟩) (Kd.S_far (p := ⟨gb281, 0, none⟩) (Kd.S_types HO269.out BK281.out (by decide)) (fun _ hk => hk.2) (.slice Ao24 t274.length co24)) (fun _ hk => hk.2) (.int .i64 t277)) (fun _ hk => hk.2) (.slice Ao27 t278.length co27)) (fun _ h_ => h_.1))) hb); have n2_ := Aside0.mk (Kd.S_below (by (with_reducible repeat (first | apply Kd.S_alloc | apply Kd.S_drewN | apply Kd.S_drew)); exact (Kd.S_mono (Kd.S_far (p := ⟨gb281, 2, none⟩) (Kd.S_far (p := ⟨gb281, 1, none⟩) (Kd.S_far (p := ⟨gb281, 0, none⟩) (Kd.S_types HO276.out BK281.out (by decide)) (fun _ hk => hk.2) (.slice Ao24 t274.length co24)) (fun _ hk => hk.2) (.int .i64 t277)) (fun _ hk => hk.2) (.slice Ao27 t278.length co27)) (fun _ h_ => h_.1))) hb); have n3_ := Aside0.mk (Kd.S_below (by (with_reducible repeat (first | apply Kd.S_alloc | apply Kd.S_drewN | apply Kd.S_drew)); exact (Kd.S_mono (Kd.S_far (p := ⟨gb281, 2, none⟩) (Kd.S_far (p := ⟨gb281, 1, none⟩) (Kd.S_far (p := ⟨gb281, 0, none⟩) (Kd.S_types HO280.out BK281.out (by decide)) (fun _ hk => hk.2) (.slice Ao24 t274.length co24)) (fun _ hk => hk.2) (.int .i64 t277)) (fun _ hk => hk.2) (.slice Ao27 t278.length co27)) (fun _ h_ => h_.1))) hb); have n4_ := Aside0.mk (blk_below (g := gb261) (o := .cells #[.slice A0_0 l0_0.length c0_0, .int .i64 a0_1, .slice A0_2 l0_2.length c0_2] 28 (0, 0)) (by (with_reducible repeat (first | refine blk_drewN ?_ _ | refine blk_drew ?_ | refine blk_alloc ?_ _)); refine blk_far ?_ NB261_281.out _; (with_reducible repeat (first | refine blk_drewN ?_ _ | refine blk_drew ?_ | refine blk_alloc ?_ _)); refine blk_far ?_ NB261_281.out _; (with_reducible repeat (first | refine blk_drewN ?_ _ | refine blk_drew ?_ | refine blk_alloc ?_ _)); refine blk_far ?_ NB261_281.out _; (with_reducible repeat (first | refine blk_drewN ?_ _ | refine blk_drew ?_ | refine blk_alloc ?_ _)); exact BK261.out) hb); have n5_ := Aside0.mk (blk_below (g := gb281) (o := .cells #[.slice Ao24 t274.length co24, .int .i64 t277, .slice Ao27 t278.length co27] 34 (0, 0)) (by (with_reducible repeat (first | refine blk_drewN ?_ _ | refine blk_drew ?_ | refine blk_alloc ?_ _)); refine blk_put (cs := #[.slice Ao24 t274.length co24, .int .i64 t277, .slice none 0 0]) ?_ 2 _ rfl; (with_reducible repeat (first | refine blk_drewN ?_ _ | refine blk_drew ?_ | refine blk_alloc ?_ _)); refine blk_put (cs := #[.slice Ao24 t274.length co24, .int .i64 0, .slice none 0 0]) ?_ 1 _ rfl; (with_reducible repeat (first | refine blk_drewN ?_ _ | refine blk_drew ?_ | refine blk_alloc ?_ _)); refine blk_put (cs := #[.slice none 0 0, .int .i64 0, .slice none 0 0]) ?_ 0 _ rfl; (with_reducible repeat (first | refine blk_drewN ?_ _ | refine blk_drew ?_ | refine blk_alloc ?_ _)); exact BK281.out) hb); have n6_ := Aside0.mk (below_step (by repeat (first | (with_reducible first | exact HB.out | apply below_alloc | apply pw_below_drewN | apply below_drew1 | refine below_set ?_ GE261.out | refine below_set ?_ GE281.out) | exact HB.out)) hb); clear HO265; clear HO269; clear HO276; clear HO280; clear BK261; clear BK281; clear HB; have HO265 := n0_; have HO269 := n1_; have HO276 := n2_; have HO280 := n3_; have BK261 := n4_; have BK281 := n5_; have HB := n6_; clear n0_ n1_ n2_ n3_ n4_ n5_ n6_; (try clear hb); (try clear hb2); (try clear hk); (try clear hi)))
    (try simp only [Act.put, List.setIfInBounds_toArray, List.set_cons_zero, List.set_cons_succ])
    go_cut [56] (fun v56 wc => ∃ (kq : Nat) (x56_11 : Bool), v56 = .bool x56_11 ∧ Aside0 (laws_FnExactWhereIs.j0 kq x56_11 l0_0 a0_1 l0_2 t274 t277 t278 = some r) ∧ Aside0 (kq ≤ k) ∧ Aside0 (Kd.S (Kd.slice 3 (Kd.int .i64)) 73 wc w.heap.size (fun k_ => some k_ ≠ ((.slice Ao27 t278.length co27) : Value).ownBlock) (.slice Ao24 t274.length co24) t274) ∧ Aside0 (Kd.S (Kd.slice 3 (Kd.int .i64)) 73 wc w.heap.size (fun k_ => some k_ ≠ ((.slice Ao24 t274.length co24) : Value).ownBlock) (.slice Ao27 t278.length co27) t278) ∧ Aside0 (wc.heap[gb261]? = some (.cells #[(.slice A0_0 l0_0.length c0_0), .int .i64 a0_1, (.slice A0_2 l0_2.length c0_2)] 28 (0, 0))) ∧ Aside0 (wc.heap[gb281]? = some (.cells #[(.slice Ao24 t274.length co24), .int .i64 t277, (.slice Ao27 t278.length co27)] 34 (0, 0))) ∧ Aside0 (Below w.heap.size w wc))
    case first =>
      have H := HC12.out
      clear HC12
      by_cases c29 : t282 = t270
      · rw [if_pos c29] at H
        have c29b0 : (t282 == t270) = true := beq_iff_eq.mpr c29
        have c29b1 : (t282 != t270) = false := bne_eq_false_iff_eq.mpr c29
        clear c29
        (first | rw [c29b0] | (simp only [i64_w, i32_w]; rw [c29b0]) | skip)
        by_cases c30 : t283 = t271
        · rw [if_pos c30] at H
          have c30b0 : (t283 == t271) = true := beq_iff_eq.mpr c30
          have c30b1 : (t283 != t271) = false := bne_eq_false_iff_eq.mpr c30
          clear c30
          by_cases c31 : t284 = t272
          · rw [if_pos c31] at H
            have c31b0 : (t284 == t272) = true := beq_iff_eq.mpr c31
            have c31b1 : (t284 != t272) = false := bne_eq_false_iff_eq.mpr c31
            clear c31
            have H' := Aside0.mk H
            clear H
            go_wp2
            go_meet
            case rel => exact ⟨_, ((t285 != t273)), (by first | rfl | (simp; done) | (simp [*]; done)), H', ⟨by first | omega | exact Nat.le_refl _⟩, ⟨by (with_reducible repeat (first | apply Kd.S_alloc | apply Kd.S_drewN | apply Kd.S_drew)); exact Kd.S_mono HO276.out (fun _ hk => hk.1.1)⟩, ⟨by (with_reducible repeat (first | apply Kd.S_alloc | apply Kd.S_drewN | apply Kd.S_drew)); exact Kd.S_mono HO280.out (fun _ hk => hk.1.1)⟩, ⟨by (with_reducible repeat (first | refine blk_drewN ?_ _ | refine blk_drew ?_ | refine blk_alloc ?_ _)); exact BK261.out⟩, ⟨by (with_reducible repeat (first | refine blk_drewN ?_ _ | refine blk_drew ?_ | refine blk_alloc ?_ _)); exact BK281.out⟩, ⟨by repeat (first | (with_reducible first | exact HB.out | apply below_alloc | apply pw_below_drewN | apply below_drew1 | refine below_set ?_ GE261.out | refine below_set ?_ GE281.out) | exact HB.out)⟩⟩
          · rw [if_neg c31] at H
            have c31b0 : (t284 == t272) = false := beq_eq_false_iff_ne.mpr c31
            have c31b1 : (t284 != t272) = true := bne_iff_ne.mpr c31
            have H' := Aside0.mk H
            clear H
            go_wp2
            go_meet
            case rel => exact ⟨_, (true), (by first | rfl | (simp; done) | (simp [*]; done)), H', ⟨by first | omega | exact Nat.le_refl _⟩, ⟨by (with_reducible repeat (first | apply Kd.S_alloc | apply Kd.S_drewN | apply Kd.S_drew)); exact Kd.S_mono HO276.out (fun _ hk => hk.1.1)⟩, ⟨by (with_reducible repeat (first | apply Kd.S_alloc | apply Kd.S_drewN | apply Kd.S_drew)); exact Kd.S_mono HO280.out (fun _ hk => hk.1.1)⟩, ⟨by (with_reducible repeat (first | refine blk_drewN ?_ _ | refine blk_drew ?_ | refine blk_alloc ?_ _)); exact BK261.out⟩, ⟨by (with_reducible repeat (first | refine blk_drewN ?_ _ | refine blk_drew ?_ | refine blk_alloc ?_ _)); exact BK281.out⟩, ⟨by repeat (first | (with_reducible first | exact HB.out | apply below_alloc | apply pw_below_drewN | apply below_drew1 | refine below_set ?_ GE261.out | refine below_set ?_ GE281.out) | exact HB.out)⟩⟩
        · rw [if_neg c30] at H
          have c30b0 : (t283 == t271) = false := beq_eq_false_iff_ne.mpr c30
          have c30b1 : (t283 != t271) = true := bne_iff_ne.mpr c30
          have H' := Aside0.mk H
          clear H
          go_wp2
          go_meet
          case rel => exact ⟨_, (true), (by first | rfl | (simp; done) | (simp [*]; done)), H', ⟨by first | omega | exact Nat.le_refl _⟩, ⟨by (with_reducible repeat (first | apply Kd.S_alloc | apply Kd.S_drewN | apply Kd.S_drew)); exact Kd.S_mono HO276.out (fun _ hk => hk.1.1)⟩, ⟨by (with_reducible repeat (first | apply Kd.S_alloc | apply Kd.S_drewN | apply Kd.S_drew)); exact Kd.S_mono HO280.out (fun _ hk => hk.1.1)⟩, ⟨by (with_reducible repeat (first | refine blk_drewN ?_ _ | refine blk_drew ?_ | refine blk_alloc ?_ _)); exact BK261.out⟩, ⟨by (with_reducible repeat (first | refine blk_drewN ?_ _ | refine blk_drew ?_ | refine blk_alloc ?_ _)); exact BK281.out⟩, ⟨by repeat (first | (with_reducible first | exact HB.out | apply below_alloc | apply pw_below_drewN | apply below_drew1 | refine below_set ?_ GE261.out | refine below_set ?_ GE281.out) | exact HB.out)⟩⟩
      · rw [if_neg c29] at H
        have c29b0 : (t282 == t270) = false := beq_eq_false_iff_ne.mpr c29
        have c29b1 : (t282 != t270) = true := bne_iff_ne.mpr c29
        (first | rw [c29b0] | (simp only [i64_w, i32_w]; rw [c29b0]) | skip)
        have H' := Aside0.mk H
        clear H
        go_wp2
        go_meet
        case rel => exact ⟨_, (true), (by first | rfl | (simp; done) | (simp [*]; done)), H', ⟨by first | omega | exact Nat.le_refl _⟩, ⟨by (with_reducible repeat (first | apply Kd.S_alloc | apply Kd.S_drewN | apply Kd.S_drew)); exact Kd.S_mono HO276.out (fun _ hk => hk.1.1)⟩, ⟨by (with_reducible repeat (first | apply Kd.S_alloc | apply Kd.S_drewN | apply Kd.S_drew)); exact Kd.S_mono HO280.out (fun _ hk => hk.1.1)⟩, ⟨by (with_reducible repeat (first | refine blk_drewN ?_ _ | refine blk_drew ?_ | refine blk_alloc ?_ _)); exact BK261.out⟩, ⟨by (with_reducible repeat (first | refine blk_drewN ?_ _ | refine blk_drew ?_ | refine blk_alloc ?_ _)); exact BK281.out⟩, ⟨by repeat (first | (with_reducible first | exact HB.out | apply below_alloc | apply pw_below_drewN | apply below_drew1 | refine below_set ?_ GE261.out | refine below_set ?_ GE281.out) | exact HB.out)⟩⟩
    case rest =>
      clear HC12
      try clear c1
      try clear c2
      try clear p2
      try clear c3
      try clear c4
      try clear c4b0
      try clear c10
      try clear c12
      try clear c15
      try clear c16
      try clear c25
      try clear c29
      try clear c29b0
      try clear c29b1
      try clear c30
      try clear c30b0
      try clear c30b1
      try clear c31
      try clear c31b0
      try clear c31b1
      try clear hcz14_0
      try clear hcz14_1
      try clear hcz14_2
      try clear hcz16_0
      try clear hcz16_1
      try clear hcz16_2
      try clear hcz21_0
      try clear hcz21_1
      try clear hcz21_2
      try clear hcz26_0
      try clear hcz26_1
      try clear hcz26_2
      try clear hcz6_0
      try clear hcz6_1
      try clear hcz6_2
      try clear hfz14_0
      try clear hfz14_1
      try clear hfz14_2
      try clear hfz16_0
      try clear hfz16_1
      try clear hfz16_2
      try clear hfz21_0
      try clear hfz21_1
      try clear hfz21_2
      try clear hfz26_0
      try clear hfz26_1
      try clear hfz26_2
      try clear hfz6_0
      try clear hfz6_1
      try clear hfz6_2
      obtain ⟨kq, x56_11, rfl, HA, HJ11, HO_282000, HO_282002, BK261, BK281, HB⟩ := hcut
      cases kq with
      | zero => exact absurd HA.out (by simp [laws_FnExactWhereIs.j0])
      | succ kj11 =>
        have H := HA.out
        clear HA
        simp only [laws_FnExactWhereIs.j0] at H
        by_cases c32 : x56_11 = true
        · subst c32
          have H1 : (some false) = some r := by rw [if_pos rfl] at H; exact H
          clear H
          have H := H1
          clear H1
          obtain rfl := Option.some.inj H
          go_wp2
          go_ret
          exact ⟨by first | rfl | (simp [errW_none, errW_some] <;> rfl) | (simp [*, errW_none, errW_some] <;> rfl), by repeat (first | (with_reducible first | exact HB.out | apply below_alloc | apply pw_below_drewN | apply below_drew1 | refine below_set ?_ GE261.out | refine below_set ?_ GE281.out) | exact HB.out)⟩
        · replace c32 := Bool.eq_false_iff.mpr c32
          subst c32
          have H1 : ((laws_toTerminal.f kj11 l0_0 a0_1 l0_2).bind fun bt286 => ((laws_eqTerminal.f kj11 t274 t277 t278 bt286.1 bt286.2.1 bt286.2.2).bind fun t293 => (if t293 = true then (some true) else (some false)))) = some r := by rw [if_neg (show ¬ (false = true) by decide)] at H; exact H
          clear H
          have H := H1
          clear H1
          replace H := Option.bind_eq_some_iff.mp H
          obtain ⟨⟨t286, t289, t290⟩, A330, H⟩ := H
          replace H : ((laws_eqTerminal.f kj11 t274 t277 t278 t286 t289 t290).bind fun t293 => (if t293 = true then (some true) else (some false))) = some r := H
          have A33 := Aside0.mk A330
          clear A330
          replace H := Option.bind_eq_some_iff.mp H
          obtain ⟨t293, A340, H⟩ := H
          replace H : (if t293 = true then (some true) else (some false)) = some r := H
          have A34 := Aside0.mk A340
          clear A340
          by_cases c35 : t293 = true
          · subst c35
            have H1 : (some true) = some r := by rw [if_pos rfl] at H; exact H
            clear H
            have H := H1
            clear H1
            obtain rfl := Option.some.inj H
            try go_wp2
            have n0_ := Aside0.mk (Kd.S_drew HO_282000.out)
            have n1_ := Aside0.mk (Kd.S_drew HO_282002.out)
            have n2_ := Aside0.mk (blk_drew BK261.out)
            have n3_ := Aside0.mk (blk_drew BK281.out)
            have n4_ := Aside0.mk (below_drew1 HB.out)
            clear HO_282000
            clear HO_282002
            clear BK261
            clear BK281
            clear HB
            have HO_282000 := n0_
            have HO_282002 := n1_
            have BK261 := n2_
            have BK281 := n3_
            have HB := n4_
            clear n0_ n1_ n2_ n3_ n4_
            refine start_ (n := 5) (S := fun w' => w'.cell? ⟨gb281, 0, none⟩ = some (.slice Ao24 t274.length co24) ∧ w'.cell? ⟨gb281, 1, none⟩ = some (.int .i64 t277) ∧ w'.cell? ⟨gb281, 2, none⟩ = some (.slice Ao27 t278.length co27) ∧ w'.cell? ⟨gb261, 0, none⟩ = some (.slice A0_0 l0_0.length c0_0) ∧ w'.cell? ⟨gb261, 1, none⟩ = some (.int .i64 a0_1) ∧ w'.cell? ⟨gb261, 2, none⟩ = some (.slice A0_2 l0_2.length c0_2)) (ds := []) #[false, false, false, false, false] (by kernel_rfl) rfl rfl ⟨(blk_cell BK281.out 0).trans rfl, (blk_cell BK281.out 1).trans rfl, (blk_cell BK281.out 2).trans rfl, (blk_cell BK261.out 0).trans rfl, (blk_cell BK261.out 1).trans rfl, (blk_cell BK261.out 2).trans rfl⟩ (fun hHeld => ?_)
            generalize wc.drew = w36 at HO_282000 HO_282002 BK261 BK281 HB hHeld ⊢
            refine take_ (i := 0) (N := some 57) (v := ?_) (a' := ?_) #[true, false, false, false, false] rfl rfl (by kernel_rfl) (fun _ _ _ h => h) (Or.inl ⟨by rfl, ?_⟩) hHeld ?_ ?_
            rotate_left
            · rintro w' ⟨s0, s1, s2, s3, s4, s5⟩
              go_simp
              with_reducible rfl
            rotate_left
            · simp only [Act.put, List.setIfInBounds_toArray, List.set_cons_zero, List.set_cons_succ, i64_w, i32_w]
              rfl
            refine take_ (i := 1) (N := some 58) (v := ?_) (a' := ?_) #[true, true, false, false, false] rfl rfl (by kernel_rfl) (fun _ _ _ h => h) (Or.inl ⟨by rfl, ?_⟩) hHeld ?_ ?_
            rotate_left
            · rintro w' ⟨s0, s1, s2, s3, s4, s5⟩
              go_simp
              with_reducible rfl
            rotate_left
            · simp only [Act.put, List.setIfInBounds_toArray, List.set_cons_zero, List.set_cons_succ, i64_w, i32_w]
              rfl
            refine one_ (i := 2) (N := some 59) #[true, true, true, false, false] rfl rfl (by kernel_rfl) (by decide) (fun K hK => ?_)
            refine goes_ Try.func12 (by kernel_rfl) rfl #[.agg #[.slice A0_0 l0_0.length c0_0, .int .i64 a0_1, .slice A0_2 l0_2.length c0_2]] (by rfl) rfl rfl (by (try simp only [List.map_toArray, List.map_cons, List.map_nil]); first | done | rfl | (simp only [List.length_drop, List.length_take]; rfl)) ?_
            with_reducible refine (laws_toTerminal.calls kj11 _ _ l0_0 a0_1 _ _ l0_2 t286 t289 t290 _ ?side1 ?side2 ?side3 ?side4 A33.out).mono ?_
            (case side1 => repeat (first | exact (Kd.C_below HR0_0.out HB.out) | (with_reducible refine Kd.C_alloc ?_ _) | (with_reducible refine Kd.C_drewN ?_ _) | (with_reducible refine Kd.C_drew ?_)))
            (case side2 => exact HC0_0.out)
            (case side3 => repeat (first | exact (Kd.C_below HR0_2.out HB.out) | (with_reducible refine Kd.C_alloc ?_ _) | (with_reducible refine Kd.C_drewN ?_ _) | (with_reducible refine Kd.C_drew ?_)))
            (case side4 => exact HC0_2.out)
            rintro e w37 ⟨v287, v291, rfl, ho0, ho1, hb⟩
            refine ⟨_, rfl, ?_⟩
            have n0_ := Aside0.mk (Kd.S_mono (Kd.S_told (Kd.S_told (Kd.S_old (by (with_reducible repeat (first | apply Kd.S_alloc | apply Kd.S_drewN | apply Kd.S_drew)); exact HO_282000.out) hb) (Kd.S_base ho0)) (Kd.S_base ho1)) (fun _ h_ => h_.1))
            have n1_ := Aside0.mk (Kd.S_mono (Kd.S_told (Kd.S_told (Kd.S_old (by (with_reducible repeat (first | apply Kd.S_alloc | apply Kd.S_drewN | apply Kd.S_drew)); exact HO_282002.out) hb) (Kd.S_base ho0)) (Kd.S_base ho1)) (fun _ h_ => h_.1))
            have n2_ := Aside0.mk (Kd.S_lower (Kd.S_new' (Kd.S_new' ho0 (Kd.S_lt (by (with_reducible repeat (first | apply Kd.S_alloc | apply Kd.S_drewN | apply Kd.S_drew)); exact HO_282000.out))) (Kd.S_lt (by (with_reducible repeat (first | apply Kd.S_alloc | apply Kd.S_drewN | apply Kd.S_drew)); exact HO_282002.out))) (below_size (by repeat (first | (with_reducible first | exact HB.out | apply below_alloc | apply pw_below_drewN | apply below_drew1 | refine below_set ?_ GE261.out | refine below_set ?_ GE281.out) | exact HB.out))))
            have n3_ := Aside0.mk (Kd.S_lower (Kd.S_new' (Kd.S_new' ho1 (Kd.S_lt (by (with_reducible repeat (first | apply Kd.S_alloc | apply Kd.S_drewN | apply Kd.S_drew)); exact HO_282000.out))) (Kd.S_lt (by (with_reducible repeat (first | apply Kd.S_alloc | apply Kd.S_drewN | apply Kd.S_drew)); exact HO_282002.out))) (below_size (by repeat (first | (with_reducible first | exact HB.out | apply below_alloc | apply pw_below_drewN | apply below_drew1 | refine below_set ?_ GE261.out | refine below_set ?_ GE281.out) | exact HB.out))))
            have n4_ := Aside0.mk (blk_below (g := gb261) (o := .cells #[.slice A0_0 l0_0.length c0_0, .int .i64 a0_1, .slice A0_2 l0_2.length c0_2] 28 (0, 0)) (by (with_reducible repeat (first | refine blk_drewN ?_ _ | refine blk_drew ?_ | refine blk_alloc ?_ _)); exact BK261.out) hb)
            have n5_ := Aside0.mk (blk_below (g := gb281) (o := .cells #[.slice Ao24 t274.length co24, .int .i64 t277, .slice Ao27 t278.length co27] 34 (0, 0)) (by (with_reducible repeat (first | refine blk_drewN ?_ _ | refine blk_drew ?_ | refine blk_alloc ?_ _)); exact BK281.out) hb)
            have n6_ := Aside0.mk (below_step (by repeat (first | (with_reducible first | exact HB.out | apply below_alloc | apply pw_below_drewN | apply below_drew1 | refine below_set ?_ GE261.out | refine below_set ?_ GE281.out) | exact HB.out)) hb)
            clear HO_282000
            clear HO_282002
            clear BK261
            clear BK281
            clear HB
            have HO_282000 := n0_
            have HO_282002 := n1_
            have HO288 := n2_
            have HO292 := n3_
            have BK261 := n4_
            have BK281 := n5_
            have HB := n6_
            clear n0_ n1_ n2_ n3_ n4_ n5_ n6_
            (try clear hb)
            (try clear hb2)
            (try clear hk)
            (try clear hi)
            (try clear ho0)
            (try clear ho1)
            obtain ⟨Ao38, co38, eo38⟩ := Kd.S_slice HO288.out
            (first | subst eo38 | (injection eo38 with f1_ f2_ f3_; have f4_ := f1_.symm; have f5_ := f3_.symm; clear f1_ f2_ f3_; subst f4_; subst f5_))
            obtain ⟨Ao39, co39, eo39⟩ := Kd.S_slice HO292.out
            (first | subst eo39 | (injection eo39 with f1_ f2_ f3_; have f4_ := f1_.symm; have f5_ := f3_.symm; clear f1_ f2_ f3_; subst f4_; subst f5_))
            refine hK.out _ _ ⟨(blk_cell BK281.out 0).trans rfl, (blk_cell BK281.out 1).trans rfl, (blk_cell BK281.out 2).trans rfl, (blk_cell BK261.out 0).trans rfl, (blk_cell BK261.out 1).trans rfl, (blk_cell BK261.out 2).trans rfl⟩ (fun hHeld => ?_)
            clear hK K
            refine norm_ (a' := ?_) ?_ ?_
            rotate_left
            · show Act.put _ (some 59) _ = _
              simp only [Act.put, List.setIfInBounds_toArray, List.set_cons_zero, List.set_cons_succ, i64_w, i32_w]
              rfl
            refine one_ (i := 3) (N := some 60) #[true, true, true, true, false] rfl rfl (by kernel_rfl) (by decide) (fun K hK => ?_)
            refine goes_ Try.func14 (by kernel_rfl) rfl #[.agg #[.slice Ao24 t274.length co24, .int .i64 t277, .slice Ao27 t278.length co27], .agg #[.slice Ao38 t286.length co38, .int .i64 t289, .slice Ao39 t290.length co39]] (by rfl) rfl rfl (by (try simp only [List.map_toArray, List.map_cons, List.map_nil]); first | done | rfl | (simp only [List.length_drop, List.length_take]; rfl)) ?_
            with_reducible refine (laws_eqTerminal.calls kj11 _ _ t274 t277 _ _ t278 _ _ t286 t289 _ _ t290 true _ ?side1 ?side2 ?side3 ?side4 ?side5 ?side6 ?side7 ?side8 A34.out).mono ?_
            (case side1 => repeat (first | exact (Kd.S_reads' HO_282000.out).2.2 | (with_reducible refine Kd.C_alloc ?_ _) | (with_reducible refine Kd.C_drewN ?_ _) | (with_reducible refine Kd.C_drew ?_)))
            (case side2 => exact (Kd.S_reads' HO_282000.out).2.1)
            (case side3 => repeat (first | exact (Kd.S_reads' HO_282002.out).2.2 | (with_reducible refine Kd.C_alloc ?_ _) | (with_reducible refine Kd.C_drewN ?_ _) | (with_reducible refine Kd.C_drew ?_)))
            (case side4 => exact (Kd.S_reads' HO_282002.out).2.1)
            (case side5 => repeat (first | exact (Kd.S_reads' HO288.out).2.2 | (with_reducible refine Kd.C_alloc ?_ _) | (with_reducible refine Kd.C_drewN ?_ _) | (with_reducible refine Kd.C_drew ?_)))
            (case side6 => exact (Kd.S_reads' HO288.out).2.1)
            (case side7 => repeat (first | exact (Kd.S_reads' HO292.out).2.2 | (with_reducible refine Kd.C_alloc ?_ _) | (with_reducible refine Kd.C_drewN ?_ _) | (with_reducible refine Kd.C_drew ?_)))
            (case side8 => exact (Kd.S_reads' HO292.out).2.1)
            rintro e w40 ⟨rfl, hb⟩
            refine ⟨_, rfl, ?_⟩
            have n0_ := Aside0.mk (Kd.S_below (by (with_reducible repeat (first | apply Kd.S_alloc | apply Kd.S_drewN | apply Kd.S_drew)); exact HO_282000.out) hb)
            have n1_ := Aside0.mk (Kd.S_below (by (with_reducible repeat (first | apply Kd.S_alloc | apply Kd.S_drewN | apply Kd.S_drew)); exact HO_282002.out) hb)
            have n2_ := Aside0.mk (Kd.S_below (by (with_reducible repeat (first | apply Kd.S_alloc | apply Kd.S_drewN | apply Kd.S_drew)); exact HO288.out) hb)
            have n3_ := Aside0.mk (Kd.S_below (by (with_reducible repeat (first | apply Kd.S_alloc | apply Kd.S_drewN | apply Kd.S_drew)); exact HO292.out) hb)
            have n4_ := Aside0.mk (blk_below (g := gb261) (o := .cells #[.slice A0_0 l0_0.length c0_0, .int .i64 a0_1, .slice A0_2 l0_2.length c0_2] 28 (0, 0)) (by (with_reducible repeat (first | refine blk_drewN ?_ _ | refine blk_drew ?_ | refine blk_alloc ?_ _)); exact BK261.out) hb)
            have n5_ := Aside0.mk (blk_below (g := gb281) (o := .cells #[.slice Ao24 t274.length co24, .int .i64 t277, .slice Ao27 t278.length co27] 34 (0, 0)) (by (with_reducible repeat (first | refine blk_drewN ?_ _ | refine blk_drew ?_ | refine blk_alloc ?_ _)); exact BK281.out) hb)
            have n6_ := Aside0.mk (below_step (by repeat (first | (with_reducible first | exact HB.out | apply below_alloc | apply pw_below_drewN | apply below_drew1 | refine below_set ?_ GE261.out | refine below_set ?_ GE281.out) | exact HB.out)) hb)
            clear HO_282000
            clear HO_282002
            clear HO288
            clear HO292
            clear BK261
            clear BK281
            clear HB
            have HO_282000 := n0_
            have HO_282002 := n1_
            have HO288 := n2_
            have HO292 := n3_
            have BK261 := n4_
            have BK281 := n5_
            have HB := n6_
            clear n0_ n1_ n2_ n3_ n4_ n5_ n6_
            (try clear hb)
            (try clear hb2)
            (try clear hk)
            (try clear hi)
            refine hK.out _ _ ⟨(blk_cell BK281.out 0).trans rfl, (blk_cell BK281.out 1).trans rfl, (blk_cell BK281.out 2).trans rfl, (blk_cell BK261.out 0).trans rfl, (blk_cell BK261.out 1).trans rfl, (blk_cell BK261.out 2).trans rfl⟩ (fun hHeld => ?_)
            clear hK K
            refine norm_ (a' := ?_) ?_ ?_
            rotate_left
            · show Act.put _ (some 60) _ = _
              simp only [Act.put, List.setIfInBounds_toArray, List.set_cons_zero, List.set_cons_succ, i64_w, i32_w]
              rfl
            refine pure_ (i := 4) (N := some 61) (v := ?_) (a' := ?_) #[true, true, true, true, true] rfl rfl (by kernel_rfl) (fun _ _ _ h => h) (Or.inl ⟨by rfl, ?_⟩) ?_ ?_
            rotate_left
            · intro w'
              go_simp
              with_reducible rfl
            rotate_left
            · simp only [Act.put, List.setIfInBounds_toArray, List.set_cons_zero, List.set_cons_succ, i64_w, i32_w]
              rfl
            refine done_ (by kernel_rfl) ?_
            try go_wp2
            go_ret
            exact ⟨by first | rfl | (simp [errW_none, errW_some] <;> rfl) | (simp [*, errW_none, errW_some] <;> rfl), by repeat (first | (with_reducible first | exact HB.out | apply below_alloc | apply pw_below_drewN | apply below_drew1 | refine below_set ?_ GE261.out | refine below_set ?_ GE281.out) | exact HB.out)⟩
          · replace c35 := Bool.eq_false_iff.mpr c35
            subst c35
            have H1 : (some false) = some r := by rw [if_neg (show ¬ (false = true) by decide)] at H; exact H
            clear H
            have H := H1
            clear H1
            obtain rfl := Option.some.inj H
            try go_wp2
            have n0_ := Aside0.mk (Kd.S_drew HO_282000.out)
            have n1_ := Aside0.mk (Kd.S_drew HO_282002.out)
            have n2_ := Aside0.mk (blk_drew BK261.out)
            have n3_ := Aside0.mk (blk_drew BK281.out)
            have n4_ := Aside0.mk (below_drew1 HB.out)
            clear HO_282000
            clear HO_282002
            clear BK261
            clear BK281
            clear HB
            have HO_282000 := n0_
            have HO_282002 := n1_
            have BK261 := n2_
            have BK281 := n3_
            have HB := n4_
            clear n0_ n1_ n2_ n3_ n4_
            refine start_ (n := 5) (S := fun w' => w'.cell? ⟨gb281, 0, none⟩ = some (.slice Ao24 t274.length co24) ∧ w'.cell? ⟨gb281, 1, none⟩ = some (.int .i64 t277) ∧ w'.cell? ⟨gb281, 2, none⟩ = some (.slice Ao27 t278.length co27) ∧ w'.cell? ⟨gb261, 0, none⟩ = some (.slice A0_0 l0_0.length c0_0) ∧ w'.cell? ⟨gb261, 1, none⟩ = some (.int .i64 a0_1) ∧ w'.cell? ⟨gb261, 2, none⟩ = some (.slice A0_2 l0_2.length c0_2)) (ds := []) #[false, false, false, false, false] (by kernel_rfl) rfl rfl ⟨(blk_cell BK281.out 0).trans rfl, (blk_cell BK281.out 1).trans rfl, (blk_cell BK281.out 2).trans rfl, (blk_cell BK261.out 0).trans rfl, (blk_cell BK261.out 1).trans rfl, (blk_cell BK261.out 2).trans rfl⟩ (fun hHeld => ?_)
            generalize wc.drew = w41 at HO_282000 HO_282002 BK261 BK281 HB hHeld ⊢
            refine take_ (i := 0) (N := some 57) (v := ?_) (a' := ?_) #[true, false, false, false, false] rfl rfl (by kernel_rfl) (fun _ _ _ h => h) (Or.inl ⟨by rfl, ?_⟩) hHeld ?_ ?_
            rotate_left
            · rintro w' ⟨s0, s1, s2, s3, s4, s5⟩
              go_simp
              with_reducible rfl
            rotate_left
            · simp only [Act.put, List.setIfInBounds_toArray, List.set_cons_zero, List.set_cons_succ, i64_w, i32_w]
              rfl
            refine take_ (i := 1) (N := some 58) (v := ?_) (a' := ?_) #[true, true, false, false, false] rfl rfl (by kernel_rfl) (fun _ _ _ h => h) (Or.inl ⟨by rfl, ?_⟩) hHeld ?_ ?_
            rotate_left
            · rintro w' ⟨s0, s1, s2, s3, s4, s5⟩
              go_simp
              with_reducible rfl
            rotate_left
            · simp only [Act.put, List.setIfInBounds_toArray, List.set_cons_zero, List.set_cons_succ, i64_w, i32_w]
              rfl
            refine one_ (i := 2) (N := some 59) #[true, true, true, false, false] rfl rfl (by kernel_rfl) (by decide) (fun K hK => ?_)
            refine goes_ Try.func12 (by kernel_rfl) rfl #[.agg #[.slice A0_0 l0_0.length c0_0, .int .i64 a0_1, .slice A0_2 l0_2.length c0_2]] (by rfl) rfl rfl (by (try simp only [List.map_toArray, List.map_cons, List.map_nil]); first | done | rfl | (simp only [List.length_drop, List.length_take]; rfl)) ?_
            with_reducible refine (laws_toTerminal.calls kj11 _ _ l0_0 a0_1 _ _ l0_2 t286 t289 t290 _ ?side1 ?side2 ?side3 ?side4 A33.out).mono ?_
            (case side1 => repeat (first | exact (Kd.C_below HR0_0.out HB.out) | (with_reducible refine Kd.C_alloc ?_ _) | (with_reducible refine Kd.C_drewN ?_ _) | (with_reducible refine Kd.C_drew ?_)))
            (case side2 => exact HC0_0.out)
            (case side3 => repeat (first | exact (Kd.C_below HR0_2.out HB.out) | (with_reducible refine Kd.C_alloc ?_ _) | (with_reducible refine Kd.C_drewN ?_ _) | (with_reducible refine Kd.C_drew ?_)))
            (case side4 => exact HC0_2.out)
            rintro e w42 ⟨v287, v291, rfl, ho0, ho1, hb⟩
            refine ⟨_, rfl, ?_⟩
            have n0_ := Aside0.mk (Kd.S_mono (Kd.S_told (Kd.S_told (Kd.S_old (by (with_reducible repeat (first | apply Kd.S_alloc | apply Kd.S_drewN | apply Kd.S_drew)); exact HO_282000.out) hb) (Kd.S_base ho0)) (Kd.S_base ho1)) (fun _ h_ => h_.1))
            have n1_ := Aside0.mk (Kd.S_mono (Kd.S_told (Kd.S_told (Kd.S_old (by (with_reducible repeat (first | apply Kd.S_alloc | apply Kd.S_drewN | apply Kd.S_drew)); exact HO_282002.out) hb) (Kd.S_base ho0)) (Kd.S_base ho1)) (fun _ h_ => h_.1))
            have n2_ := Aside0.mk (Kd.S_lower (Kd.S_new' (Kd.S_new' ho0 (Kd.S_lt (by (with_reducible repeat (first | apply Kd.S_alloc | apply Kd.S_drewN | apply Kd.S_drew)); exact HO_282000.out))) (Kd.S_lt (by (with_reducible repeat (first | apply Kd.S_alloc | apply Kd.S_drewN | apply Kd.S_drew)); exact HO_282002.out))) (below_size (by repeat (first | (with_reducible first | exact HB.out | apply below_alloc | apply pw_below_drewN | apply below_drew1 | refine below_set ?_ GE261.out | refine below_set ?_ GE281.out) | exact HB.out))))
            have n3_ := Aside0.mk (Kd.S_lower (Kd.S_new' (Kd.S_new' ho1 (Kd.S_lt (by (with_reducible repeat (first | apply Kd.S_alloc | apply Kd.S_drewN | apply Kd.S_drew)); exact HO_282000.out))) (Kd.S_lt (by (with_reducible repeat (first | apply Kd.S_alloc | apply Kd.S_drewN | apply Kd.S_drew)); exact HO_282002.out))) (below_size (by repeat (first | (with_reducible first | exact HB.out | apply below_alloc | apply pw_below_drewN | apply below_drew1 | refine below_set ?_ GE261.out | refine below_set ?_ GE281.out) | exact HB.out))))
            have n4_ := Aside0.mk (blk_below (g := gb261) (o := .cells #[.slice A0_0 l0_0.length c0_0, .int .i64 a0_1, .slice A0_2 l0_2.length c0_2] 28 (0, 0)) (by (with_reducible repeat (first | refine blk_drewN ?_ _ | refine blk_drew ?_ | refine blk_alloc ?_ _)); exact BK261.out) hb)
            have n5_ := Aside0.mk (blk_below (g := gb281) (o := .cells #[.slice Ao24 t274.length co24, .int .i64 t277, .slice Ao27 t278.length co27] 34 (0, 0)) (by (with_reducible repeat (first | refine blk_drewN ?_ _ | refine blk_drew ?_ | refine blk_alloc ?_ _)); exact BK281.out) hb)
            have n6_ := Aside0.mk (below_step (by repeat (first | (with_reducible first | exact HB.out | apply below_alloc | apply pw_below_drewN | apply below_drew1 | refine below_set ?_ GE261.out | refine below_set ?_ GE281.out) | exact HB.out)) hb)
            clear HO_282000
            clear HO_282002
            clear BK261
            clear BK281
            clear HB
            have HO_282000 := n0_
            have HO_282002 := n1_
            have HO288 := n2_
            have HO292 := n3_
            have BK261 := n4_
            have BK281 := n5_
            have HB := n6_
            clear n0_ n1_ n2_ n3_ n4_ n5_ n6_
            (try clear hb)
            (try clear hb2)
            (try clear hk)
            (try clear hi)
            (try clear ho0)
            (try clear ho1)
            obtain ⟨Ao43, co43, eo43⟩ := Kd.S_slice HO288.out
            (first | subst eo43 | (injection eo43 with f1_ f2_ f3_; have f4_ := f1_.symm; have f5_ := f3_.symm; clear f1_ f2_ f3_; subst f4_; subst f5_))
            obtain ⟨Ao44, co44, eo44⟩ := Kd.S_slice HO292.out
            (first | subst eo44 | (injection eo44 with f1_ f2_ f3_; have f4_ := f1_.symm; have f5_ := f3_.symm; clear f1_ f2_ f3_; subst f4_; subst f5_))
            refine hK.out _ _ ⟨(blk_cell BK281.out 0).trans rfl, (blk_cell BK281.out 1).trans rfl, (blk_cell BK281.out 2).trans rfl, (blk_cell BK261.out 0).trans rfl, (blk_cell BK261.out 1).trans rfl, (blk_cell BK261.out 2).trans rfl⟩ (fun hHeld => ?_)
            clear hK K
            refine norm_ (a' := ?_) ?_ ?_
            rotate_left
            · show Act.put _ (some 59) _ = _
              simp only [Act.put, List.setIfInBounds_toArray, List.set_cons_zero, List.set_cons_succ, i64_w, i32_w]
              rfl
            refine one_ (i := 3) (N := some 60) #[true, true, true, true, false] rfl rfl (by kernel_rfl) (by decide) (fun K hK => ?_)
            refine goes_ Try.func14 (by kernel_rfl) rfl #[.agg #[.slice Ao24 t274.length co24, .int .i64 t277, .slice Ao27 t278.length co27], .agg #[.slice Ao43 t286.length co43, .int .i64 t289, .slice Ao44 t290.length co44]] (by rfl) rfl rfl (by (try simp only [List.map_toArray, List.map_cons, List.map_nil]); first | done | rfl | (simp only [List.length_drop, List.length_take]; rfl)) ?_
            with_reducible refine (laws_eqTerminal.calls kj11 _ _ t274 t277 _ _ t278 _ _ t286 t289 _ _ t290 false _ ?side1 ?side2 ?side3 ?side4 ?side5 ?side6 ?side7 ?side8 A34.out).mono ?_
            (case side1 => repeat (first | exact (Kd.S_reads' HO_282000.out).2.2 | (with_reducible refine Kd.C_alloc ?_ _) | (with_reducible refine Kd.C_drewN ?_ _) | (with_reducible refine Kd.C_drew ?_)))
            (case side2 => exact (Kd.S_reads' HO_282000.out).2.1)
            (case side3 => repeat (first | exact (Kd.S_reads' HO_282002.out).2.2 | (with_reducible refine Kd.C_alloc ?_ _) | (with_reducible refine Kd.C_drewN ?_ _) | (with_reducible refine Kd.C_drew ?_)))
            (case side4 => exact (Kd.S_reads' HO_282002.out).2.1)
            (case side5 => repeat (first | exact (Kd.S_reads' HO288.out).2.2 | (with_reducible refine Kd.C_alloc ?_ _) | (with_reducible refine Kd.C_drewN ?_ _) | (with_reducible refine Kd.C_drew ?_)))
            (case side6 => exact (Kd.S_reads' HO288.out).2.1)
            (case side7 => repeat (first | exact (Kd.S_reads' HO292.out).2.2 | (with_reducible refine Kd.C_alloc ?_ _) | (with_reducible refine Kd.C_drewN ?_ _) | (with_reducible refine Kd.C_drew ?_)))
            (case side8 => exact (Kd.S_reads' HO292.out).2.1)
            rintro e w45 ⟨rfl, hb⟩
            refine ⟨_, rfl, ?_⟩
            have n0_ := Aside0.mk (Kd.S_below (by (with_reducible repeat (first | apply Kd.S_alloc | apply Kd.S_drewN | apply Kd.S_drew)); exact HO_282000.out) hb)
            have n1_ := Aside0.mk (Kd.S_below (by (with_reducible repeat (first | apply Kd.S_alloc | apply Kd.S_drewN | apply Kd.S_drew)); exact HO_282002.out) hb)
            have n2_ := Aside0.mk (Kd.S_below (by (with_reducible repeat (first | apply Kd.S_alloc | apply Kd.S_drewN | apply Kd.S_drew)); exact HO288.out) hb)
            have n3_ := Aside0.mk (Kd.S_below (by (with_reducible repeat (first | apply Kd.S_alloc | apply Kd.S_drewN | apply Kd.S_drew)); exact HO292.out) hb)
            have n4_ := Aside0.mk (blk_below (g := gb261) (o := .cells #[.slice A0_0 l0_0.length c0_0, .int .i64 a0_1, .slice A0_2 l0_2.length c0_2] 28 (0, 0)) (by (with_reducible repeat (first | refine blk_drewN ?_ _ | refine blk_drew ?_ | refine blk_alloc ?_ _)); exact BK261.out) hb)
            have n5_ := Aside0.mk (blk_below (g := gb281) (o := .cells #[.slice Ao24 t274.length co24, .int .i64 t277, .slice Ao27 t278.length co27] 34 (0, 0)) (by (with_reducible repeat (first | refine blk_drewN ?_ _ | refine blk_drew ?_ | refine blk_alloc ?_ _)); exact BK281.out) hb)
            have n6_ := Aside0.mk (below_step (by repeat (first | (with_reducible first | exact HB.out | apply below_alloc | apply pw_below_drewN | apply below_drew1 | refine below_set ?_ GE261.out | refine below_set ?_ GE281.out) | exact HB.out)) hb)
            clear HO_282000
            clear HO_282002
            clear HO288
            clear HO292
            clear BK261
            clear BK281
            clear HB
            have HO_282000 := n0_
            have HO_282002 := n1_
            have HO288 := n2_
            have HO292 := n3_
            have BK261 := n4_
            have BK281 := n5_
            have HB := n6_
            clear n0_ n1_ n2_ n3_ n4_ n5_ n6_
            (try clear hb)
            (try clear hb2)
            (try clear hk)
            (try clear hi)
            refine hK.out _ _ ⟨(blk_cell BK281.out 0).trans rfl, (blk_cell BK281.out 1).trans rfl, (blk_cell BK281.out 2).trans rfl, (blk_cell BK261.out 0).trans rfl, (blk_cell BK261.out 1).trans rfl, (blk_cell BK261.out 2).trans rfl⟩ (fun hHeld => ?_)
            clear hK K
            refine norm_ (a' := ?_) ?_ ?_
            rotate_left
            · show Act.put _ (some 60) _ = _
              simp only [Act.put, List.setIfInBounds_toArray, List.set_cons_zero, List.set_cons_succ, i64_w, i32_w]
              rfl
            refine pure_ (i := 4) (N := some 61) (v := ?_) (a' := ?_) #[true, true, true, true, true] rfl rfl (by kernel_rfl) (fun _ _ _ h => h) (Or.inl ⟨by rfl, ?_⟩) ?_ ?_
            rotate_left
            · intro w'
              go_simp
              with_reducible rfl
            rotate_left
            · simp only [Act.put, List.setIfInBounds_toArray, List.set_cons_zero, List.set_cons_succ, i64_w, i32_w]
              rfl
            refine done_ (by kernel_rfl) ?_
            try go_wp2
            go_ret
            exact ⟨by first | rfl | (simp [errW_none, errW_some] <;> rfl) | (simp [*, errW_none, errW_some] <;> rfl), by repeat (first | (with_reducible first | exact HB.out | apply below_alloc | apply pw_below_drewN | apply below_drew1 | refine below_set ?_ GE261.out | refine below_set ?_ GE281.out) | exact HB.out)⟩

end Go.Proofs.Ytnggfglmjdiaaaa.X

namespace Go.Proofs.YtnggfglmjdiaaaaZ
open Go.ChangeShapes Go.WideShapes Go.ChangeAt Go.RowKit
open Go.Proofs.YtnggfglmjdiaaaaW.PrintWords
set_option linter.unusedVariables false
set_option linter.unusedSimpArgs false
section
variable {P : Program}

/-- A reading of type t is a value of kind d, and the value fits. -/
def Opens (P : Program) {α : Type} (d : Kd α) (t : TypeId) (fits : α → Prop) : Prop :=
  ∀ {H : Type} {enc : TypeId × Value → H} {w : World} {base : Nat} {spare : Nat → Bool} {held : Bool} {fuel : Nat} {cs : List Value} {x : DataW H × List MemPlace},
    DataW.trod enc P w base spare held fuel t cs = some x → (∀ n ∈ x.1.weights P t, n ≤ reachBytes) → ∃ v, d.K w v cs ∧ fits v

theorem opens_int {k : IntKind} {t : TypeId} (ht : P.underlying t = some (.int k)) : Opens P (Kd.int k) t (fun n => (Lit.int k n).wf = true) := by
  intro H enc w base spare held fuel cs x h _
  obtain ⟨n, rfl, _, hw⟩ := DataW.trod_int ht h
  exact ⟨n, rfl, hw⟩
theorem weightsAll_mem {H : Type} {e : TypeId} {d : DataW H} {n : Nat} : ∀ {l : List (DataW H)}, d ∈ l → n ∈ d.weights P e → n ∈ DataW.weightsAll P e l
  | [], h, _ => by cases h
  | x :: r, h, hn => by
    simp only [DataW.weightsAll, List.mem_append]
    rcases List.mem_cons.1 h with rfl | h
    · exact .inl hn
    · exact .inr (weightsAll_mem h hn)
theorem weightsEach_mem {H : Type} {n : Nat} : ∀ {ts : List TypeId} {l : List (DataW H)} {i : Nat} {t : TypeId} {d : DataW H}, ts[i]? = some t → l[i]? = some d → n ∈ d.weights P t → n ∈ DataW.weightsEach P ts l
  | [], l, i, t, d, h, _, _ => by simp at h
  | t :: ts, [], i, _, _, _, h, _ => by simp at h
  | t :: ts, d :: l, 0, _, _, h, k, hn => by
    simp at h k; subst h k
    simp only [DataW.weightsEach, List.mem_append]; exact .inl hn
  | t :: ts, d :: l, i + 1, _, _, h, k, hn => by
    simp at h k
    simp only [DataW.weightsEach, List.mem_append]; exact .inr (weightsEach_mem h k hn)
theorem opens_slice {α : Type} (z : α) {d : Kd α} {t e : TypeId} {fits : α → Prop} (ht : P.underlying t = some (.slice e)) (hsz : P.cellsOf e = d.sz) (he : Opens P d e fits) {B : Nat} (hB : P.bytesOf e = B) :
    Opens P (Kd.slice e d) t (fun l => l.length * B ≤ 140737488351232 ∧ l.length ≤ 9223372036854775807 ∧ ∀ x ∈ l, fits x) := by
  intro H enc w base spare held fuel cs x h hw
  rcases Deep.open_slice ht h with ⟨rfl, rfl⟩ | ⟨a, len, cap, m, n, D, Pl, rfl, hb, hl, hm, hmm, rfl, hc⟩
  · exact ⟨[], ⟨none, 0, rfl, Nat.le_refl _, Kd.C_nil d w⟩, by simp, by simp, fun x hx => by cases hx⟩
  · have hlm : len ≤ m := by rw [hmm]; split <;> omega
    have hbnd : len * B ≤ 140737488351232 := by
      have := hw ((((List.range len).map D).length + ((List.range (m - len)).map fun j => D (len + j)).length) * P.bytesOf e) (by simp [DataW.weights, ht])
      simp only [List.length_map, List.length_range, hB] at this
      have h2 : len * B ≤ (len + (m - len)) * B := Nat.mul_le_mul_right _ (by omega)
      exact Nat.le_trans h2 this
    have hel : ∀ i, i < len → ∃ v : α, (∃ c, c.length = d.sz ∧ d.K w v c ∧ ∀ j u, c[j]? = some u → w.cell? (a.add (i * d.sz + j)) = some u) ∧ fits v := by
      intro i hi
      obtain ⟨c, h1, h2⟩ := hc i (by omega)
      obtain ⟨v, hv, hf⟩ := he h2 (fun k hk => hw k (by
        simp only [DataW.weights, ht, List.mem_cons, List.mem_append]
        exact .inr (.inl (weightsAll_mem (d := D i) (List.mem_map.2 ⟨i, List.mem_range.2 hi, rfl⟩) hk))))
      rw [hsz] at h1
      obtain ⟨_, hlen, hcell⟩ := World.cells?_some h1
      refine ⟨v, ⟨c, hlen, hv, fun j u hj => ?_⟩, hf⟩
      have hjl : j < d.sz := by rw [← hlen]; exact (List.getElem?_eq_some_iff.1 hj).1
      rw [← Deep.add_add, hcell j hjl]
      exact hj
    haveI : Inhabited α := ⟨z⟩
    obtain ⟨f, hf⟩ := Deep.choose_lt hel
    refine ⟨(List.range len).map f, ⟨some a, cap, by simp, by simpa using hl, ⟨by simp, ?_, fun _ => ⟨a, rfl, ?_⟩⟩⟩, by simpa using hbnd, by simp; unfold maxLen at hm; omega, ?_⟩
    · simp; unfold maxLen at hm; omega
    · intro j p hj
      have hjl : j < len := by
        have := (List.getElem?_eq_some_iff.1 hj).1
        simpa using this
      rw [List.getElem?_map, List.getElem?_range hjl] at hj
      simp only [Option.map_some, Option.some.injEq] at hj
      subst hj
      exact (hf j hjl).1
    · intro x hx
      obtain ⟨j, hj, rfl⟩ := List.mem_map.1 hx
      exact (hf j (List.mem_range.1 hj)).2

/-- Fields from offset o on to the struct's end L, as a value of kind d. -/
def OpensF (P : Program) {α : Type} (d : Kd α) (fs : List Field) (o L : Nat) (fits : α → Prop) : Prop :=
  ∀ {H : Type} {enc : TypeId × Value → H} {w : World} {base : Nat} {spare : Nat → Bool} {held : Bool} {fuel : Nat} {cs : List Value} {xs : List (DataW H × List MemPlace)},
    cs.length = L → xs.length = fs.length → (∀ (i : Nat) (f : Field), fs[i]? = some f → DataW.trod enc P w base spare held fuel f.type ((cs.drop f.offset).take (P.cellsOf f.type)) = xs[i]?) →
    (∀ n ∈ DataW.weightsEach P (fs.map (·.type)) (xs.map (·.1)), n ≤ reachBytes) → ∃ v, d.K w v (cs.drop o) ∧ fits v
theorem opensF_one {α : Type} {d : Kd α} {f : Field} {o L : Nat} {fits : α → Prop} (t : TypeId) (hft : f.type = t) (ho : f.offset = o) (hL : o + P.cellsOf t = L) (h : Opens P d t fits) : OpensF P d [f] o L fits := by
  intro H enc w base spare held fuel cs xs hlen hxs hf hw
  match xs, hxs with
  | [x], _ =>
    have h0 := hf 0 f rfl
    rw [hft, ho, List.take_of_length_le (by rw [List.length_drop]; omega)] at h0
    exact h h0 (fun n hn => hw n (by rw [hft.symm] at hn; simp [DataW.weightsEach]; exact hn))
theorem opensF_cons {α β : Type} {d : Kd α} {d' : Kd β} {f : Field} {rest : List Field} {o o' L : Nat} {fits : α → Prop} {fits' : β → Prop} (t : TypeId) (hft : f.type = t) (ho : f.offset = o) (hn : o + P.cellsOf t = o') (h : Opens P d t fits) (hr : OpensF P d' rest o' L fits') :
    OpensF P (Kd.pair d d') (f :: rest) o L (fun p => fits p.1 ∧ fits' p.2) := by
  intro H enc w base spare held fuel cs xs hlen hxs hf hw
  match xs, hxs with
  | x :: xs, hxs =>
    have h0 := hf 0 f rfl
    rw [hft, ho] at h0
    obtain ⟨v, hv, fv⟩ := h h0 (fun n hn => hw n (by rw [hft.symm] at hn; simp [DataW.weightsEach]; exact .inl hn))
    obtain ⟨v', hv', fv'⟩ := hr (cs := cs) (xs := xs) hlen (by simpa using hxs) (fun i g hg => by simpa using hf (i + 1) g (by simpa using hg)) (fun n hn => hw n (by simp only [List.map_cons, DataW.weightsEach, List.mem_append]; exact .inr hn))
    exact ⟨(v, v'), ⟨(cs.drop o).take (P.cellsOf t), cs.drop o', by rw [← hn, ← List.drop_drop]; exact (List.take_append_drop _ _).symm, hv, hv'⟩, fv, fv'⟩
theorem opens_struct {α β : Type} {d : Kd α} {t : TypeId} {fs : Array Field} {L : Nat} {fits : α → Prop} {fits' : β → Prop} (ht : P.underlying t = some (.struct fs)) (hL : P.cellsOf t = L) (h : OpensF P d fs.toList 0 L fits) (g : β → α) (inv : α → β) (hinv : ∀ a, g (inv a) = a) (hf : ∀ a, fits a → fits' (inv a)) :
    Opens P (Kd.iso d g) t fits' := by
  intro H enc w base spare held fuel cs x hx hw
  obtain ⟨xs, n, rfl, rfl, hl, hlen, hff⟩ := DataW.trod_struct ht hx
  obtain ⟨v, hv, fv⟩ := h (cs := cs) (xs := xs) (by rw [hl, hL]) (by simpa using hlen) (fun i f hi => hff i f (by simpa using hi)) (fun k hk => hw k (by simp only [DataW.weights, ht]; exact hk))
  refine ⟨inv v, ?_, hf v fv⟩
  show d.K w (g (inv v)) cs
  rw [hinv]
  simpa using hv
/-- A parameter's weights are among all. -/
theorem weights_param {H : Type} {ts : List TypeId} {ds : List (DataW H)} {j : Nat} {t : TypeId} {d : DataW H} (hsz : (DataW.weightsEach P ts ds).all (· ≤ reachBytes) = true) (ht : ts[j]? = some t) (hd : ds[j]? = some d) : ∀ n ∈ d.weights P t, n ≤ reachBytes := fun n hn => by
  have := List.all_eq_true.1 hsz n (weightsEach_mem ht hd hn)
  simpa using this
end
end Go.Proofs.YtnggfglmjdiaaaaZ


-- written by a program of this session (wip/ext.py): what the law says, without Go and memory.
namespace Go.Proofs.Ytnggfglmjdiaaaa.X
open Go.RowKit Go.Proofs.YtnggfglmjdiaaaaW.PrintWords Go.Proofs.YtnggfglmjdiaaaaW.PrintLast Go.Proofs.YtnggfglmjdiaaaaW.PrintMore
open Go.Proofs.YtnggfglmjdiaaaaZ
namespace OFnExactWhereIs
def fitsT24 (x : S24) : Prop := (x.f0.length * 24 ≤ 140737488351232 ∧ x.f0.length ≤ 9223372036854775807 ∧ ∀ y4 ∈ x.f0, (y4.length * 8 ≤ 140737488351232 ∧ y4.length ≤ 9223372036854775807 ∧ ∀ y2 ∈ y4, (Lit.int .i64 y2).wf = true))
theorem opensT24 : Opens Try.prog k24 24 fitsT24 :=
  opens_struct (L := 1) Try.underlying24 (by kernel_rfl) (opensF_one 22 rfl rfl (by kernel_rfl) (opens_slice [] Try.underlying22 (by kernel_rfl) (opens_slice 0 Try.underlying73 (by kernel_rfl) (opens_int Try.underlying3) (by kernel_rfl)) (by kernel_rfl))) (fun x : S24 => x.f0) (fun p => ⟨p⟩) (fun _ => rfl) (fun _ h => h)
def fitsT26 (x : S26) : Prop := (Lit.int .i64 x.f0).wf = true ∧ (x.f1.length * 24 ≤ 140737488351232 ∧ x.f1.length ≤ 9223372036854775807 ∧ ∀ y4 ∈ x.f1, (y4.length * 8 ≤ 140737488351232 ∧ y4.length ≤ 9223372036854775807 ∧ ∀ y2 ∈ y4, (Lit.int .i64 y2).wf = true))
theorem opensT26 : Opens Try.prog k26 26 fitsT26 :=
  opens_struct (L := 2) Try.underlying26 (by kernel_rfl) (opensF_cons (o' := 1) 3 rfl rfl (by kernel_rfl) (opens_int Try.underlying3) (opensF_one 22 rfl rfl (by kernel_rfl) (opens_slice [] Try.underlying22 (by kernel_rfl) (opens_slice 0 Try.underlying73 (by kernel_rfl) (opens_int Try.underlying3) (by kernel_rfl)) (by kernel_rfl)))) (fun x : S26 => (x.f0, x.f1)) (fun p => ⟨p.1, p.2⟩) (fun _ => rfl) (fun _ h => h)
def fitsT28 (x : S28) : Prop := fitsT24 x.f0 ∧ fitsT26 x.f1
theorem opensT28 : Opens Try.prog k28 28 fitsT28 :=
  opens_struct (L := 3) Try.underlying28 (by kernel_rfl) (opensF_cons (o' := 1) 24 rfl rfl (by kernel_rfl) opensT24 (opensF_one 26 rfl rfl (by kernel_rfl) opensT26)) (fun x : S28 => (x.f0, x.f1)) (fun p => ⟨p.1, p.2⟩) (fun _ => rfl) (fun _ h => h)
def Pure : Prop := ∀ (x0 : S28) (a1 : Int), fitsT28 x0 → (Lit.int .i64 a1).wf = true → ∃ k, laws_FnExactWhereIs.f k x0.f0.f0 x0.f1.f0 x0.f1.f1 a1 = some true
end OFnExactWhereIs
end Go.Proofs.Ytnggfglmjdiaaaa.X

namespace Go.Proofs.YtnggfglmjdiaaaaL
open Go.RowKit Go.Proofs.YtnggfglmjdiaaaaW.PrintWords
set_option linter.unusedVariables false
set_option linter.unusedSimpArgs false

theorem ev_eq {α : Type} {g : Nat → Option α} {r : α} (h : ∀ k, g k = some r) : Ev g r := ⟨0, fun k _ => h k⟩
theorem ev_rounds {α : Type} {g : Nat → Option α} {r : α} (h : Ev g r) : ∃ k, g k = some r := h.rounds
theorem wrap_id {x : Int} (h0 : -9223372036854775808 ≤ x) (h1 : x ≤ 9223372036854775807) : wrap64 x = x := by unfold wrap64; omega
theorem wrap_succ {n : Nat} (h : n < 9223372036854775807) : wrap64 ((n : Int) + 1) = ((n + 1 : Nat) : Int) := by rw [wrap_id (by omega) (by omega)]; rfl
theorem rd_at (l : List Int) (n : Nat) (h : n < l.length) : rd l (n : Int) = l[n] := by simp [rd, List.getD_eq_getElem?_getD, List.getElem?_eq_getElem h]
/-- A list that is filled from the front. -/
def fill {α β : Type} (f : α → β) (z : β) (l : List α) (n : Nat) : List β := (l.take n).map f ++ List.replicate (l.length - n) z
theorem fill_zero {α β : Type} (f : α → β) (z : β) (l : List α) : fill f z l 0 = List.replicate l.length z := by simp [fill]
theorem fill_length {α β : Type} (f : α → β) (z : β) (l : List α) (n : Nat) (h : n ≤ l.length) : (fill f z l n).length = l.length := by simp only [fill, List.length_append, List.length_map, List.length_take, List.length_replicate]; omega
theorem fill_set {α β : Type} (f : α → β) (z : β) (l : List α) (n : Nat) (h : n < l.length) : (fill f z l n).set n (f l[n]) = fill f z l (n + 1) := by
  have e : l.length - n = (l.length - (n + 1)) + 1 := by omega
  have ht : l.take (n + 1) = l.take n ++ [l[n]] := by rw [List.take_succ_eq_append_getElem h]
  unfold fill
  rw [e, List.replicate_succ, ht, List.set_append_right _ _ (by simp; omega)]
  have : n - ((l.take n).map f).length = 0 := by simp; omega
  rw [this, List.map_append, List.append_assoc]
  rfl
theorem fill_all {α β : Type} (f : α → β) (z : β) (l : List α) : fill f z l l.length = l.map f := by simp [fill]
end Go.Proofs.YtnggfglmjdiaaaaL


-- written by a program of this session (wip/ext.py) out of the translation. Not trusted: Lean checks it.
namespace Go.Proofs.Ytnggfglmjdiaaaa.X
open Go.RowKit Go.Proofs.YtnggfglmjdiaaaaW.PrintWords Go.Proofs.YtnggfglmjdiaaaaW.PrintLast Go.Proofs.YtnggfglmjdiaaaaW.PrintMore
attribute [local go_sem] max2_int min2_int max_two min_two max_three min_three max_four min_four   -- for this text's walks alone
set_option linter.unusedVariables false
set_option linter.unusedSimpArgs false

/-! ### laws_markIntS: function 86 -/
def laws_markIntS.l0 : Nat → List Int → Int → Int → Option (Int × List Int)
  | 0, _, _, _ => none
  | k + 1, x0, x1, x5 => if x5 < (x0.length : Int) then (if 0 ≤ x5 then (laws_markIntS.l0 k (x0.set (x5 : Int).toNat x1) (wrap64 (x1 + 1)) (wrap64 (x5 + 1))) else (none)) else (some (x1, x0))
def laws_markIntS.f (k : Nat) (l0 : List Int) (a1 : Int) : Option (Int × List Int) := laws_markIntS.l0 k l0 a1 0
theorem laws_markIntS.mono_l : ∀ k, (∀ y0 y1 y2, LeO (laws_markIntS.l0 k y0 y1 y2) (laws_markIntS.l0 (k + 1) y0 y1 y2))
  | 0 => fun _ _ _ r h => by simp [laws_markIntS.l0] at h
  | k + 1 => by
    have ih0 := laws_markIntS.mono_l k
    · intro y0 y1 y2
      unfold laws_markIntS.l0
      repeat' first
      | (with_reducible exact ih0 _ _ _)
      | (with_reducible exact LeO.refl _)
      | (with_reducible exact LeO.none _)
      | (with_reducible refine LeO.ite ?_ ?_)
      | (with_reducible refine LeO.bind ?_ (fun _ => ?_))
      | exact ih0 _ _ _
      | exact LeO.none _
      | refine LeO.ite ?_ ?_
      | refine LeO.bind ?_ (fun _ => ?_)
theorem laws_markIntS.mono : ∀ a0 a1 k, LeO (laws_markIntS.f k a0 a1) (laws_markIntS.f (k + 1) a0 a1) := by
  intro a0 a1 k
  have ih0 := laws_markIntS.mono_l k
  unfold laws_markIntS.f
  repeat' first
      | (with_reducible exact ih0 _ _ _)
      | (with_reducible exact LeO.refl _)
      | (with_reducible exact LeO.none _)
      | (with_reducible refine LeO.ite ?_ ?_)
      | (with_reducible refine LeO.bind ?_ (fun _ => ?_))
      | exact ih0 _ _ _
      | exact LeO.none _
      | refine LeO.ite ?_ ?_
      | refine LeO.bind ?_ (fun _ => ?_)
set_option maxHeartbeats 8000000 in
set_option maxRecDepth 100000 in
theorem laws_markIntS.calls (k : Nat) (P0_ : Nat → Prop) (u9000_ : Value) (l0 : List Int) (a1 : Int) (r1 : Int) (r2 : List Int) (w0 w : World) (hB : Below w0.heap.size w0 w) (ho0 : Kd.R (Kd.int .i64) 3 w w0.heap.size P0_ u9000_ l0) (h : laws_markIntS.f k l0 a1 = some (r1, r2)) :
    Calls Try.prog 86 #[u9000_, .int .i64 a1] w fun e w' => e = .returned (.int .i64 r1) ∧ Kd.R (Kd.int .i64) 3 w' w0.heap.size (fun k_ => (P0_ k_ ∨ w.heap.size ≤ k_)) u9000_ r2 ∧ Below w0.heap.size w0 w' ∧ Kept w w' (fun k_ => P0_ k_) := by
  have HO0 := Aside0.mk (show Kd.R (Kd.int .i64) 3 w w0.heap.size (fun k_ => (P0_ k_ ∨ w.heap.size ≤ k_)) u9000_ l0 from Kd.R_mono ho0 (fun k_ hk => (.inl hk)))
  have HK := Aside0.mk (Kept.refl w (fun k_ => P0_ k_))
  have HW0 := Aside0.mk hB.size
  have HB := Aside0.mk hB
  clear hB
  have H : (laws_markIntS.l0 k l0 a1 0) = some (r1, r2) := h
  clear h
  have H' := Aside0.mk H
  clear H
  go_enter Try.func86, Try.ntmps86
  go_wp2
  go_loopg [1, 5] k (fun kq v1 v5 w' => ∃ (x0_1 : List Int) (x1_1 : Int) (x5_1 : Int), v1 = .int .i64 x1_1 ∧ v5 = .int .i64 x5_1 ∧ Aside0 (laws_markIntS.l0 kq x0_1 x1_1 x5_1 = some (r1, r2)) ∧ Aside0 (kq ≤ k) ∧ Aside0 (Kd.R (Kd.int .i64) 3 w' w0.heap.size (fun k_ => (P0_ k_ ∨ w.heap.size ≤ k_)) u9000_ x0_1) ∧ Aside0 (Kept w w' (fun k_ => P0_ k_)) ∧ Aside0 (Below w0.heap.size w0 w'))
  case atStart => exact ⟨(l0), (a1), (0), (by first | rfl | (simp; done) | (simp [*]; done)), (by first | rfl | (simp; done) | (simp [*]; done)), H', ⟨Nat.le_refl _⟩, ⟨by (with_reducible repeat (first | apply Kd.R_alloc | apply Kd.R_drewN | apply Kd.R_drew)); exact HO0.out⟩, ⟨by repeat (first | (with_reducible first | exact HK.out | apply Kept.alloc | apply Kept.drewN | apply Kept.drew) | exact HK.out)⟩, ⟨by repeat (first | (with_reducible first | exact HB.out | apply below_alloc | apply pw_below_drewN | apply below_drew1) | exact HB.out)⟩⟩
  case round =>
    clear H'
    try clear p2
    obtain ⟨x0_1, x1_1, x5_1, rfl, rfl, HA, HK1, HO_0, HK, HB⟩ := hrel
    cases gk with
    | zero => exact absurd HA.out (by simp [laws_markIntS.l0])
    | succ k1 =>
      have H := HA.out
      clear HA
      simp only [laws_markIntS.l0] at H
      by_cases c3 : x5_1 < (x0_1.length : Int)
      · rw [if_pos c3] at H
        have c3b0 : decide (x5_1 < (x0_1.length : Int)) = true := decide_eq_true c3
        clear c3
        by_cases c4 : 0 ≤ x5_1
        · rw [if_pos c4] at H
          have c4b0 : decide (0 ≤ x5_1) = true := decide_eq_true c4
          clear c4
          obtain ⟨y448, hy448⟩ : ∃ y_ : List Int, y_ = (x0_1.set (x5_1 : Int).toNat x1_1) := ⟨_, rfl⟩
          replace H : (laws_markIntS.l0 k1 y448 (wrap64 (x1_1 + 1)) (wrap64 (x5_1 + 1))) = some (r1, r2) := by first | (rw [hy448]; with_reducible exact H) | (have H2_ := (Option.bind_some _ _).symm.trans H; rw [hy448]; with_reducible exact H2_) | (have H2_ := (Option.bind_some _ _).symm.trans H; with_reducible exact H2_) | with_reducible exact H | (rw [hy448]; exact H) | exact H
          have Ny448 := Aside0.mk hy448
          clear hy448
          have H' := Aside0.mk H
          clear H
          obtain ⟨Ao6, co6, eo6⟩ := Kd.R_slice HO_0.out
          subst eo6
          have p5 : 0 ≤ (x5_1 : Int) := of_decide_eq_true (by first | (with_reducible assumption) | assumption)
          have q5 : (x5_1 : Int) < ((x0_1.length : Int) : Int) := of_decide_eq_true (by first | (with_reducible assumption) | assumption)
          obtain ⟨go5, co5, eo5, gb5, gl5, cl5, HG5⟩ := Kd.R_form HO_0.out (by omega)
          (first | cases eo5 | (injection eo5 with ea_ en_ ec_; (first | subst ea_ | (injection ea_ with ea_; subst ea_)); subst ec_; clear en_))
          have GB5 := Aside0.mk gb5
          have GG5 := Aside0.mk HG5
          clear gb5 gl5 HG5
          have HMgo5 := Aside0.mk (show (P0_ go5 ∨ w.heap.size ≤ go5) from (HO_0.out.1 _ rfl))
          obtain ⟨hx5_0, hf5_0⟩ := Kd.R_celln 0 HO_0.out (x5_1 : Int) p5 q5
          replace p5 := eq_true p5
          replace q5 := eq_true q5
          have HP7 := Kd.R_putg HO_0.out (x5_1 : Int) x1_1
          go_wp2_with (first | ((with_reducible refine gate_store (t := 3) (p := 15) rfl ?_); refine store_event (t := 3) (p := 15) (v := ?vo_w8) (w1 := (wr.setCell ⟨go5, (x5_1 : Int).toNat, none⟩ (.int .i64 x1_1))) ?hg ?ho ?hn ?hr ?_; (case ho => rfl); (case hg => rfl); (case hn => rfl); (case hr => first | (go_simp; done) | (go_simp; rfl)); intro w8 hw; have hg : wr.grownBy w8 (some go5) := (by rw [hw]; exact HP7.2); have hp_ : Kd.R (Kd.int .i64) 3 w8 w0.heap.size (fun k_ => (P0_ k_ ∨ w.heap.size ≤ k_)) (.slice (some ⟨go5, 0, none⟩) x0_1.length co6) y448 := (by rw [hw, Ny448.out]; exact HP7.1); clear HP7; have n0_ := Aside0.mk (hp_); have n1_ := Aside0.mk ((by rw [hw]; exact below_set (HB.out) GB5.out : Below w0.heap.size w0 w8)); have n2_ := Aside0.mk (Kept.of_grown (S := (fun k_ => P0_ k_)) hg (by repeat (first | (with_reducible first | exact HK.out | apply Kept.alloc | apply Kept.drewN | apply Kept.drew) | exact HK.out)) (fun k_ e_ => (HO_0.out.1 k_ e_))); clear HO_0; clear HB; clear HK; have HO_0 := n0_; have HB := n1_; have HK := n2_; clear n0_ n1_ n2_; clear hg hw hp_))
          go_roundg k1
          case measure => have := HK1.out; omega
          case rel => exact ⟨(y448), (wrap64 (x1_1 + 1)), (wrap64 (x5_1 + 1)), (by first | rfl | (simp; done) | (simp [*]; done)), (by first | rfl | (simp; done) | (simp [*]; done)), H', ⟨by have := HK1.out; omega⟩, ⟨by (with_reducible repeat (first | apply Kd.R_alloc | apply Kd.R_drewN | apply Kd.R_drew)); exact HO_0.out⟩, ⟨by repeat (first | (with_reducible first | exact HK.out | apply Kept.alloc | apply Kept.drewN | apply Kept.drew) | exact HK.out)⟩, ⟨by repeat (first | (with_reducible first | exact HB.out | apply below_alloc | apply pw_below_drewN | apply below_drew1) | exact HB.out)⟩⟩
        · rw [if_neg c4] at H
          exact absurd H (by simp)
      · rw [if_neg c3] at H
        have c3b0 : decide (x5_1 < (x0_1.length : Int)) = false := decide_eq_false c3
        clear c3
        simp only [Option.some.injEq, Prod.mk.injEq] at H
        obtain ⟨rfl, rfl⟩ := H
        obtain ⟨Ao9, co9, eo9⟩ := Kd.R_slice HO_0.out
        subst eo9
        go_wp2
        go_ret
        exact ⟨by first | rfl | (simp [errW_none, errW_some] <;> rfl) | (simp [*, errW_none, errW_some] <;> rfl), by (with_reducible repeat (first | apply Kd.R_alloc | apply Kd.R_drewN | apply Kd.R_drew)); exact HO_0.out, by repeat (first | (with_reducible first | exact HB.out | apply below_alloc | apply pw_below_drewN | apply below_drew1) | exact HB.out), by repeat (first | (with_reducible first | exact HK.out | apply Kept.alloc | apply Kept.drewN | apply Kept.drew) | exact HK.out)⟩

end Go.Proofs.Ytnggfglmjdiaaaa.X

-- written by a program of this session (wip/ext.py) out of the translation. Not trusted: Lean checks it.
namespace Go.Proofs.Ytnggfglmjdiaaaa.X
open Go.RowKit Go.Proofs.YtnggfglmjdiaaaaW.PrintWords Go.Proofs.YtnggfglmjdiaaaaW.PrintLast Go.Proofs.YtnggfglmjdiaaaaW.PrintMore
attribute [local go_sem] max2_int min2_int max_two min_two max_three min_three max_four min_four   -- for this text's walks alone
set_option linter.unusedVariables false
set_option linter.unusedSimpArgs false

/-! ### laws_heldIntS: function 87 -/
def laws_heldIntS.l0 : Nat → List Int → Int → Int → Option (Int)
  | 0, _, _, _ => none
  | k + 1, x0, x1, x5 => if x5 < (x0.length : Int) then (if 0 ≤ x5 then (if (rd x0 x5) = x1 then (laws_heldIntS.l0 k x0 (wrap64 (x1 + 1)) (wrap64 (x5 + 1))) else (some (-1))) else (none)) else (some x1)
def laws_heldIntS.f (k : Nat) (l0 : List Int) (a1 : Int) : Option (Int) := laws_heldIntS.l0 k l0 a1 0
theorem laws_heldIntS.mono_l : ∀ k, (∀ y0 y1 y2, LeO (laws_heldIntS.l0 k y0 y1 y2) (laws_heldIntS.l0 (k + 1) y0 y1 y2))
  | 0 => fun _ _ _ r h => by simp [laws_heldIntS.l0] at h
  | k + 1 => by
    have ih0 := laws_heldIntS.mono_l k
    · intro y0 y1 y2
      unfold laws_heldIntS.l0
      repeat' first
      | (with_reducible exact ih0 _ _ _)
      | (with_reducible exact LeO.refl _)
      | (with_reducible exact LeO.none _)
      | (with_reducible refine LeO.ite ?_ ?_)
      | (with_reducible refine LeO.bind ?_ (fun _ => ?_))
      | exact ih0 _ _ _
      | exact LeO.none _
      | refine LeO.ite ?_ ?_
      | refine LeO.bind ?_ (fun _ => ?_)
theorem laws_heldIntS.mono : ∀ a0 a1 k, LeO (laws_heldIntS.f k a0 a1) (laws_heldIntS.f (k + 1) a0 a1) := by
  intro a0 a1 k
  have ih0 := laws_heldIntS.mono_l k
  unfold laws_heldIntS.f
  repeat' first
      | (with_reducible exact ih0 _ _ _)
      | (with_reducible exact LeO.refl _)
      | (with_reducible exact LeO.none _)
      | (with_reducible refine LeO.ite ?_ ?_)
      | (with_reducible refine LeO.bind ?_ (fun _ => ?_))
      | exact ih0 _ _ _
      | exact LeO.none _
      | refine LeO.ite ?_ ?_
      | refine LeO.bind ?_ (fun _ => ?_)
set_option maxHeartbeats 8000000 in
set_option maxRecDepth 100000 in
theorem laws_heldIntS.calls (k : Nat) (A0 : Option Addr) (c0 : Nat) (l0 : List Int) (a1 : Int) (r : Int) (w : World) (hr0 : Kd.C (Kd.int .i64) w A0 l0.length l0) (hc0 : l0.length ≤ c0) (h : laws_heldIntS.f k l0 a1 = some r) :
    Calls Try.prog 87 #[.slice A0 l0.length c0, .int .i64 a1] w fun e w' => e = .returned (.int .i64 r) ∧ Drawn0 w w' := by
  have HR0 := Aside0.mk hr0
  have HC0 := Aside0.mk hc0
  clear hr0 hc0
  have H : (laws_heldIntS.l0 k l0 a1 0) = some r := h
  clear h
  have H' := Aside0.mk H
  clear H
  go_enter Try.func87, Try.ntmps87
  go_wp2
  go_loopg [1, 5] k (fun kq v1 v5 w' => ∃ (x1_1 : Int) (x5_1 : Int), v1 = .int .i64 x1_1 ∧ v5 = .int .i64 x5_1 ∧ Aside0 (laws_heldIntS.l0 kq l0 x1_1 x5_1 = some r) ∧ Aside0 (kq ≤ k) ∧ Drawn0 w w')
  case atStart => exact ⟨(a1), (0), (by first | rfl | (simp; done) | (simp [*]; done)), (by first | rfl | (simp; done) | (simp [*]; done)), H', ⟨Nat.le_refl _⟩, by repeat (first | exact Drawn0.refl _ | apply Drawn0.step)⟩
  case round =>
    clear H'
    try clear p2
    obtain ⟨x1_1, x5_1, rfl, rfl, HA, HK1, ⟨m1, rfl⟩⟩ := hrel
    cases gk with
    | zero => exact absurd HA.out (by simp [laws_heldIntS.l0])
    | succ k1 =>
      have H := HA.out
      clear HA
      simp only [laws_heldIntS.l0] at H
      by_cases c3 : x5_1 < (l0.length : Int)
      · rw [if_pos c3] at H
        have c3b0 : decide (x5_1 < (l0.length : Int)) = true := decide_eq_true c3
        clear c3
        by_cases c4 : 0 ≤ x5_1
        · rw [if_pos c4] at H
          have c4b0 : decide (0 ≤ x5_1) = true := decide_eq_true c4
          clear c4
          by_cases c5 : (rd l0 x5_1) = x1_1
          · rw [if_pos c5] at H
            have c5b0 : ((rd l0 x5_1) == x1_1) = true := beq_iff_eq.mpr c5
            have c5b1 : ((rd l0 x5_1) != x1_1) = false := bne_eq_false_iff_eq.mpr c5
            clear c5
            have H' := Aside0.mk H
            clear H
            have p453 : 0 ≤ (x5_1 : Int) := of_decide_eq_true (by first | (with_reducible assumption) | assumption)
            have q453 : x5_1 < (l0.length : Int) := of_decide_eq_true (by first | (with_reducible assumption) | assumption)
            obtain ⟨ad453, e453, hx453_0⟩ := Kd.at_int HR0.out x5_1 p453 q453
            cases e453
            replace p453 := eq_true p453
            replace q453 := eq_true q453
            go_wp2
            go_roundg k1
            case measure => have := HK1.out; omega
            case rel => exact ⟨(wrap64 (x1_1 + 1)), (wrap64 (x5_1 + 1)), (by first | rfl | (simp; done) | (simp [*]; done)), (by first | rfl | (simp; done) | (simp [*]; done)), H', ⟨by have := HK1.out; omega⟩, by repeat (first | exact Drawn0.refl _ | apply Drawn0.step)⟩
          · rw [if_neg c5] at H
            have c5b0 : ((rd l0 x5_1) == x1_1) = false := beq_eq_false_iff_ne.mpr c5
            have c5b1 : ((rd l0 x5_1) != x1_1) = true := bne_iff_ne.mpr c5
            obtain rfl := Option.some.inj H
            have p453 : 0 ≤ (x5_1 : Int) := of_decide_eq_true (by first | (with_reducible assumption) | assumption)
            have q453 : x5_1 < (l0.length : Int) := of_decide_eq_true (by first | (with_reducible assumption) | assumption)
            obtain ⟨ad453, e453, hx453_0⟩ := Kd.at_int HR0.out x5_1 p453 q453
            cases e453
            replace p453 := eq_true p453
            replace q453 := eq_true q453
            go_wp2
            go_ret
            exact ⟨by first | rfl | (simp; done) | (simp [*]; done), by repeat (first | exact Drawn0.refl _ | apply Drawn0.step)⟩
        · rw [if_neg c4] at H
          exact absurd H (by simp)
      · rw [if_neg c3] at H
        have c3b0 : decide (x5_1 < (l0.length : Int)) = false := decide_eq_false c3
        clear c3
        obtain rfl := Option.some.inj H
        go_wp2
        go_ret
        exact ⟨by first | rfl | (simp; done) | (simp [*]; done), by repeat (first | exact Drawn0.refl _ | apply Drawn0.step)⟩

end Go.Proofs.Ytnggfglmjdiaaaa.X

/- Lists of integers: equality, marks, and what is held of them. -/
namespace Go.Proofs.Ytnggfglmjdiaaaa.X
open Go.RowKit Go.Proofs.YtnggfglmjdiaaaaW.PrintWords Go.Proofs.YtnggfglmjdiaaaaL
set_option linter.unusedVariables false
set_option linter.unusedSimpArgs false
theorem eqIntS_ev (l : List Int) (h : l.length ≤ 4611686018427387904) : Ev (fun k => laws_eqIntS.f k l l) true := by
  have key : ∀ (d n : Nat), n + d = l.length → Ev (fun k => laws_eqIntS.l0 k l l n) true := by
    intro d
    induction d with
    | zero => intro n hn; exact Ev.step (f := fun _ => some _) (fun k => by simp only [laws_eqIntS.l0]; rw [if_neg (by omega)]) (Ev.now _)
    | succ d ih =>
      intro n hn
      refine Ev.step (f := fun k => laws_eqIntS.l0 k l l ((n + 1 : Nat) : Int)) (fun k => ?_) (ih (n + 1) (by omega))
      simp only [laws_eqIntS.l0]
      rw [if_pos (by omega), if_pos (by omega), if_pos (by omega), wrap_succ (by omega)]
      simp
  exact Ev.congr (f := fun k => laws_eqIntS.l0 k l l ((0 : Nat) : Int)) (fun k => by unfold laws_eqIntS.f; rw [if_pos rfl]; rfl) (key l.length 0 (by omega))
def cnt (n : Nat) : List Int := (List.range n).map fun (i : Nat) => (i : Int) + 1
theorem cnt_length (n : Nat) : (cnt n).length = n := by simp [cnt]
theorem cnt_succ (n : Nat) : cnt (n + 1) = cnt n ++ [(n : Int) + 1] := by simp [cnt, List.range_succ]
theorem cnt_get (n i : Nat) (h : i < (cnt n).length) : (cnt n)[i] = (i : Int) + 1 := by simp [cnt]
theorem markIntS_ev (l : List Int) (h : l.length ≤ 4611686018427387904) : Ev (fun k => laws_markIntS.f k l 1) ((l.length : Int) + 1, cnt l.length) := by
  have key : ∀ (d n : Nat), n + d = l.length → Ev (fun k => laws_markIntS.l0 k (cnt n ++ l.drop n) ((n : Int) + 1) n) ((l.length : Int) + 1, cnt l.length) := by
    intro d
    induction d with
    | zero =>
      intro n hn
      obtain rfl : n = l.length := by omega
      refine Ev.step (f := fun _ => some _) (fun k => ?_) (Ev.now _)
      have : (cnt l.length ++ l.drop l.length) = cnt l.length := by simp
      rw [this]
      simp only [laws_markIntS.l0, cnt_length]; rw [if_neg (by omega)]
    | succ d ih =>
      intro n hn
      refine Ev.step (f := fun k => laws_markIntS.l0 k (cnt (n + 1) ++ l.drop (n + 1)) (((n + 1 : Nat) : Int) + 1) ((n + 1 : Nat) : Int)) (fun k => ?_) (ih (n + 1) (by omega))
      have hlen : (cnt n ++ l.drop n).length = l.length := by rw [List.length_append, cnt_length, List.length_drop]; omega
      have hset : (cnt n ++ l.drop n).set n ((n : Int) + 1) = cnt (n + 1) ++ l.drop (n + 1) := by
        rw [List.set_append_right _ _ (by rw [cnt_length]; omega), cnt_length, Nat.sub_self, List.drop_eq_getElem_cons (show n < l.length by omega), cnt_succ, List.set_cons_zero, List.append_assoc]
        rfl
      simp only [laws_markIntS.l0, hlen, Int.toNat_natCast, hset]
      rw [if_pos (by omega), if_pos (by omega), wrap_id (x := (n : Int) + 1 + 1) (by omega) (by omega), wrap_succ (by omega)]
      rfl
  exact Ev.congr (f := fun k => laws_markIntS.l0 k (cnt 0 ++ l.drop 0) (((0 : Nat) : Int) + 1) ((0 : Nat) : Int)) (fun k => rfl) (key l.length 0 (by omega))
theorem heldIntS_ev (m : Nat) (h : m ≤ 4611686018427387904) : Ev (fun k => laws_heldIntS.f k (cnt m) 1) ((m : Int) + 1) := by
  have key : ∀ (d n : Nat), n + d = m → Ev (fun k => laws_heldIntS.l0 k (cnt m) ((n : Int) + 1) n) ((m : Int) + 1) := by
    intro d
    induction d with
    | zero =>
      intro n hn
      obtain rfl : n = m := by omega
      exact Ev.step (f := fun _ => some _) (fun k => by simp only [laws_heldIntS.l0, cnt_length]; rw [if_neg (by omega)]) (Ev.now _)
    | succ d ih =>
      intro n hn
      refine Ev.step (f := fun k => laws_heldIntS.l0 k (cnt m) (((n + 1 : Nat) : Int) + 1) ((n + 1 : Nat) : Int)) (fun k => ?_) (ih (n + 1) (by omega))
      simp only [laws_heldIntS.l0, cnt_length]
      rw [if_pos (by omega), if_pos (by omega), rd_at _ n (by rw [cnt_length]; omega), cnt_get, if_pos rfl, wrap_id (x := (n : Int) + 1 + 1) (by omega) (by omega), wrap_succ (by omega)]
      rfl
  exact Ev.congr (f := fun k => laws_heldIntS.l0 k (cnt m) (((0 : Nat) : Int) + 1) ((0 : Nat) : Int)) (fun k => rfl) (key m 0 (by omega))
end Go.Proofs.Ytnggfglmjdiaaaa.X

/- Rows of rows of numbers: sizes, copies, equality. -/
namespace Go.Proofs.Ytnggfglmjdiaaaa.X
open Go.RowKit Go.Proofs.YtnggfglmjdiaaaaW.PrintWords Go.Proofs.YtnggfglmjdiaaaaL
set_option linter.unusedVariables false
set_option linter.unusedSimpArgs false
theorem rdR (l : List (List Int)) (n : Nat) (h : n < l.length) : rd_L1 l (n : Int) = l[n] := by simp [rd_L1, List.getD_eq_getElem?_getD, List.getElem?_eq_getElem h]
theorem szIntS_eq (l : List Int) (a : Int) (h0 : 0 ≤ a) (h1 : a ≤ 1048576) (hl : l.length ≤ 4611686018427387904) : laws_szIntS.f l a = some (if a - (l.length : Int) < 0 then -1 else a - (l.length : Int)) := by
  unfold laws_szIntS.f
  rw [wrap_id (by omega) (by omega)]
  split <;> rfl
theorem szIntSS_ev (l : List (List Int)) (a : Int) (h0 : 0 ≤ a) (h1 : a ≤ 1048576) (hl : l.length ≤ 4611686018427387904) (hr : ∀ s ∈ l, s.length ≤ 4611686018427387904) :
    ∃ r, Ev (fun k => laws_szIntSS.f k l a) r ∧ (r < 0 ∨ (0 ≤ r ∧ r ≤ a ∧ (l.length : Int) ≤ a ∧ ∀ s ∈ l, (s.length : Int) ≤ a)) := by
  have key : ∀ (d n : Nat) (x : Int), n + d = l.length → 0 ≤ x → x ≤ a → ∃ r, Ev (fun k => laws_szIntSS.l0 k l x n) r ∧ (r < 0 ∨ (0 ≤ r ∧ r ≤ x ∧ ∀ s ∈ l.drop n, (s.length : Int) ≤ a)) := by
    intro d
    induction d with
    | zero =>
      intro n x hn hx0 hxa
      exact ⟨x, Ev.step (f := fun _ => some _) (fun k => by simp only [laws_szIntSS.l0]; rw [if_neg (by omega)]) (Ev.now _), .inr ⟨hx0, Int.le_refl _, by rw [List.drop_of_length_le (by omega)]; simp⟩⟩
    | succ d ih =>
      intro n x hn hx0 hxa
      have hnl : n < l.length := by omega
      have hm := hr _ (List.getElem_mem hnl)
      by_cases c : x - (l[n].length : Int) < 0
      · refine ⟨-1, Ev.step (f := fun _ => some (-1)) (fun k => ?_) (Ev.now _), .inl (by decide)⟩
        simp only [laws_szIntSS.l0]
        rw [if_pos (by omega), if_pos (by omega), rdR l n hnl, szIntS_eq _ _ hx0 (by omega) hm, if_pos c]
        rfl
      · obtain ⟨r, hev, hq⟩ := ih (n + 1) (x - (l[n].length : Int)) (by omega) (by omega) (by omega)
        refine ⟨r, Ev.step (fun k => ?_) hev, hq.imp id (fun z => ⟨z.1, by omega, ?_⟩)⟩
        · simp only [laws_szIntSS.l0]
          rw [if_pos (by omega), if_pos (by omega), rdR l n hnl, szIntS_eq _ _ hx0 (by omega) hm, if_neg c]
          simp only [Option.bind_some]
          rw [if_neg c, wrap_succ (by omega)]
        · rw [List.drop_eq_getElem_cons hnl]
          intro s hs
          rcases List.mem_cons.1 hs with rfl | hs
          · omega
          · exact z.2.2 s hs
  by_cases c : a - (l.length : Int) < 0
  · exact ⟨-1, ev_eq (fun k => by unfold laws_szIntSS.f; rw [wrap_id (by omega) (by omega), if_pos c]), .inl (by decide)⟩
  · obtain ⟨r, hev, hq⟩ := key l.length 0 (a - (l.length : Int)) (by omega) (by omega) (by omega)
    refine ⟨r, Ev.congr (fun k => by unfold laws_szIntSS.f; rw [wrap_id (by omega) (by omega), if_neg c]; rfl) hev, hq.imp id (fun z => ⟨z.1, by omega, by omega, by simpa using z.2.2⟩)⟩
theorem toIntS_ev (l : List Int) (h : l.length ≤ 1048576) : Ev (fun k => laws_toIntS.f k l) l := by
  have key : ∀ (d n : Nat), n + d = l.length → Ev (fun k => laws_toIntS.l0 k l (fill id (0 : Int) l n) n) l := by
    intro d
    induction d with
    | zero =>
      intro n hn
      obtain rfl : n = l.length := by omega
      have e : fill id (0 : Int) l l.length = l := by rw [fill_all]; simp
      rw [e]
      exact Ev.step (f := fun _ => some _) (fun k => by simp only [laws_toIntS.l0]; rw [if_neg (by omega)]) (Ev.now _)
    | succ d ih =>
      intro n hn
      have hnl : n < l.length := by omega
      refine Ev.step (fun k => ?_) (ih (n + 1) (by omega))
      simp only [laws_toIntS.l0]
      rw [if_pos (by omega), if_pos (by omega), fill_length id _ l n (by omega), if_pos (by omega), rd_at l n hnl, wrap_succ (by omega), Int.toNat_natCast, ← fill_set id _ l n hnl]
      rfl
  refine Ev.congr (fun k => ?_) (key l.length 0 (by omega))
  unfold laws_toIntS.f
  rw [if_pos (by omega), if_pos (by omega), fill_zero, Int.toNat_natCast]
  rfl
theorem toIntSS_ev (l : List (List Int)) (h : l.length ≤ 1048576) (hr : ∀ s ∈ l, s.length ≤ 1048576) : Ev (fun k => laws_toIntSS.f k l) l := by
  have key : ∀ (d n : Nat), n + d = l.length → Ev (fun k => laws_toIntSS.l0 k l (fill id ([] : List Int) l n) n) l := by
    intro d
    induction d with
    | zero =>
      intro n hn
      obtain rfl : n = l.length := by omega
      have e : fill id ([] : List Int) l l.length = l := by rw [fill_all]; simp
      rw [e]
      exact Ev.step (f := fun _ => some _) (fun k => by simp only [laws_toIntSS.l0]; rw [if_neg (by omega)]) (Ev.now _)
    | succ d ih =>
      intro n hn
      have hnl : n < l.length := by omega
      refine Ev.step (f := fun k => (laws_toIntS.f k l[n]).bind fun t => laws_toIntSS.l0 k l ((fill id ([] : List Int) l n).set n t) ((n + 1 : Nat) : Int)) (fun k => ?_) (Ev.bind (toIntS_ev _ (hr _ (List.getElem_mem hnl))) ?_)
      · simp only [laws_toIntSS.l0, fill_length id _ l n (show n ≤ l.length by omega)]
        rw [if_pos (by omega), if_pos (by omega), rdR l n hnl]
        simp only [if_pos (show (n : Int) < (l.length : Int) by omega), wrap_succ (show n < 9223372036854775807 by omega), Int.toNat_natCast]
      · have e : (fill id ([] : List Int) l n).set n l[n] = fill id ([] : List Int) l (n + 1) := by rw [← fill_set id _ l n hnl]; rfl
        rw [e]
        exact ih (n + 1) (by omega)
  refine Ev.congr (fun k => ?_) (key l.length 0 (by omega))
  unfold laws_toIntSS.f
  rw [if_pos (by omega), if_pos (by omega), fill_zero, Int.toNat_natCast]
  rfl
theorem eqIntSS_ev (l : List (List Int)) (h : l.length ≤ 1048576) (hr : ∀ s ∈ l, s.length ≤ 1048576) : Ev (fun k => laws_eqIntSS.f k l l) true := by
  have key : ∀ (d n : Nat), n + d = l.length → Ev (fun k => laws_eqIntSS.l0 k l l n) true := by
    intro d
    induction d with
    | zero => intro n hn; exact Ev.step (f := fun _ => some _) (fun k => by simp only [laws_eqIntSS.l0]; rw [if_neg (by omega)]) (Ev.now _)
    | succ d ih =>
      intro n hn
      have hnl : n < l.length := by omega
      have hm := hr _ (List.getElem_mem hnl)
      refine Ev.step (f := fun k => (laws_eqIntS.f k l[n] l[n]).bind fun t => if t = true then laws_eqIntSS.l0 k l l ((n + 1 : Nat) : Int) else some false) (fun k => ?_) (Ev.bind (eqIntS_ev l[n] (by have : l[n].length ≤ 1048576 := hm; omega)) ?_)
      · simp only [laws_eqIntSS.l0]
        rw [if_pos (by omega), if_pos (by omega), if_pos (by omega), rdR l n hnl, wrap_succ (by omega)]
      · simp only [if_true]; exact ih (n + 1) (by omega)
  exact Ev.congr (f := fun k => laws_eqIntSS.l0 k l l ((0 : Nat) : Int)) (fun k => by unfold laws_eqIntSS.f; rw [if_pos rfl]; rfl) (key l.length 0 (by omega))
end Go.Proofs.Ytnggfglmjdiaaaa.X

/- Yards, bays, terminals: the program and the reference tell the same of them. -/
namespace Go.Proofs.Ytnggfglmjdiaaaa.X
open Go.RowKit Go.Proofs.YtnggfglmjdiaaaaW.PrintWords Go.Proofs.YtnggfglmjdiaaaaL
set_option linter.unusedVariables false
set_option linter.unusedSimpArgs false
theorem l1In_eq2 (a b c : Int) : spec_l1In.f a b c = some (decide (b ≤ a) && decide (a ≤ c)) := by
  unfold spec_l1In.f
  by_cases h : a ≥ b
  · rw [if_pos h]; simp [show b ≤ a from h]
  · rw [if_neg h]; simp [show ¬ b ≤ a from h]
theorem has_ev (S : List Int) (n : Int) (hS : S.length ≤ 1048576) : Ev (fun k => spec_l1Has.f k S n) (decide (n ∈ S)) := by
  have key : ∀ (d i : Nat), i + d = S.length → Ev (fun k => spec_l1Has.l0 k S n i) (decide (n ∈ S.drop i)) := by
    intro d
    induction d with
    | zero =>
      intro i hi
      rw [List.drop_of_length_le (by omega)]
      exact Ev.step (f := fun _ => some _) (fun k => by simp only [spec_l1Has.l0]; rw [if_neg (by omega)]; simp) (Ev.now _)
    | succ d ih =>
      intro i hi
      have hil : i < S.length := by omega
      rw [List.drop_eq_getElem_cons hil]
      by_cases c : S[i] = n
      · have e : decide (n ∈ S[i] :: S.drop (i + 1)) = true := decide_eq_true (by rw [c]; exact List.mem_cons_self)
        rw [e]
        exact Ev.step (f := fun _ => some _) (fun k => by simp only [spec_l1Has.l0]; rw [if_pos (by omega), if_pos (by omega), rd_at S i hil, if_pos c]) (Ev.now _)
      · have e : decide (n ∈ S[i] :: S.drop (i + 1)) = decide (n ∈ S.drop (i + 1)) := by
          rw [decide_eq_decide, List.mem_cons]
          exact ⟨fun z => z.elim (fun y => absurd y.symm c) id, .inr⟩
        rw [e]
        refine Ev.step (fun k => ?_) (ih (i + 1) (by omega))
        simp only [spec_l1Has.l0]
        rw [if_pos (by omega), if_pos (by omega), rd_at S i hil, if_neg c, wrap_succ (by omega)]
  exact Ev.congr (f := fun k => spec_l1Has.l0 k S n ((0 : Nat) : Int)) (fun k => rfl) (by simpa using key S.length 0 (by omega))
theorem spec_l5Good_loop (l : List (List Int)) (hl : l.length ≤ 6) : ∀ (d i : Nat) (S : List Int), i + d = l.length → S.length ≤ 4 * i → Ev (fun k => spec_l5Good.l0 k S i l) (goodRows 4 S (l.drop i)) := by
  intro d
  induction d with
  | zero =>
    intro i S hi hS
    rw [List.drop_of_length_le (by omega)]
    exact Ev.step (f := fun _ => some _) (fun k => by simp only [spec_l5Good.l0]; rw [if_neg (by omega)]; rfl) (Ev.now _)
  | succ d ih =>
    intro i S hi hS
    have hil : i < l.length := by omega
    rw [List.drop_eq_getElem_cons hil]
    by_cases c : (l[i].length : Int) > 4
    · rw [goodRows_over 4 _ _ _ c]
      refine Ev.step (f := fun _ => some false) (fun k => ?_) (Ev.now _)
      simp only [spec_l5Good.l0]
      rw [if_pos (by omega), if_pos (by omega), rdR l i hil, if_pos c]
    · rw [goodRows_in 4 _ _ _ c]
      have inner : ∀ (e j : Nat) (S2 : List Int), j + e = l[i].length → S2.length ≤ 4 * i + j → Ev (fun k => spec_l5Good.l1 k S2 i j l) (goodRest 4 S2 (l[i].drop j) (l.drop (i + 1))) := by
        intro e
        induction e with
        | zero =>
          intro j S2 hj hS2
          rw [List.drop_of_length_le (by omega), goodRest_nil]
          refine Ev.step (fun k => ?_) (ih (i + 1) S2 (by omega) (by omega))
          simp only [spec_l5Good.l1]
          rw [if_pos (by omega), if_pos (by omega), rdR l i hil, if_neg (by omega), wrap_succ (by omega)]
        | succ e ih2 =>
          intro j S2 hj hS2
          have hjl : j < l[i].length := by omega
          rw [List.drop_eq_getElem_cons hjl]
          have hn := rd_at l[i] j hjl
          refine Ev.step (f := fun k => if (decide ((1 : Int) ≤ l[i][j]) && decide (l[i][j] ≤ 99)) = true then ((spec_l1Has.f k S2 l[i][j]).bind fun t => if t = true then some false else spec_l5Good.l1 k (S2 ++ [l[i][j]]) i ((j + 1 : Nat) : Int) l) else some false) (fun k => ?_) ?_
          · simp only [spec_l5Good.l1]
            rw [if_pos (by omega), if_pos (by omega), rdR l i hil, if_pos (by omega), if_pos (by omega), hn, l1In_eq2]
            simp only [Option.bind_some, if_pos (show S2.length < 17592186044416 by omega), wrap_succ (show j < 9223372036854775807 by omega)]
          · generalize hnn : l[i][j] = n
            rw [hnn] at *
            cases c4 : (decide (1 ≤ n) && decide (n ≤ 99)) with
            | false =>
              rw [goodRest_no 4 S2 n _ _ (.inl (fun z => by simp [z.1, z.2] at c4))]
              exact ev_eq (fun k => if_neg (by simp))
            | true =>
              have hn1 : 1 ≤ n ∧ n ≤ 99 := by simpa using c4
              simp only [if_true]
              refine Ev.bind (has_ev S2 n (by omega)) ?_
              cases c5 : decide (n ∈ S2) with
              | true =>
                rw [goodRest_no 4 S2 n _ _ (.inr c5)]
                simp only [if_true]; exact Ev.now _
              | false =>
                rw [goodRest_yes 4 S2 n _ _ hn1.1 hn1.2 c5]
                simp only [Bool.false_eq_true, if_false]
                exact ih2 (j + 1) (S2 ++ [n]) (by omega) (by simp; omega)
      refine Ev.step (fun k => ?_) (inner l[i].length 0 S (by omega) (by omega))
      simp only [spec_l5Good.l0]
      rw [if_pos (by omega), if_pos (by omega), rdR l i hil, if_neg c]
      rfl
theorem spec_l9Good_loop (m : Int) (l : List (List Int)) (hl : l.length ≤ 6) (hm : m ≤ 4) : ∀ (d i : Nat) (S : List Int), i + d = l.length → S.length ≤ 4 * i → Ev (fun k => spec_l9Good.l0 k S i m l) (goodRows m S (l.drop i)) := by
  intro d
  induction d with
  | zero =>
    intro i S hi hS
    rw [List.drop_of_length_le (by omega)]
    exact Ev.step (f := fun _ => some _) (fun k => by simp only [spec_l9Good.l0]; rw [if_neg (by omega)]; rfl) (Ev.now _)
  | succ d ih =>
    intro i S hi hS
    have hil : i < l.length := by omega
    rw [List.drop_eq_getElem_cons hil]
    by_cases c : (l[i].length : Int) > m
    · rw [goodRows_over m _ _ _ c]
      refine Ev.step (f := fun _ => some false) (fun k => ?_) (Ev.now _)
      simp only [spec_l9Good.l0]
      rw [if_pos (by omega), if_pos (by omega), rdR l i hil, if_pos c]
    · rw [goodRows_in m _ _ _ c]
      have inner : ∀ (e j : Nat) (S2 : List Int), j + e = l[i].length → S2.length ≤ 4 * i + j → Ev (fun k => spec_l9Good.l1 k S2 i j m l) (goodRest m S2 (l[i].drop j) (l.drop (i + 1))) := by
        intro e
        induction e with
        | zero =>
          intro j S2 hj hS2
          rw [List.drop_of_length_le (by omega), goodRest_nil]
          refine Ev.step (fun k => ?_) (ih (i + 1) S2 (by omega) (by omega))
          simp only [spec_l9Good.l1]
          rw [if_pos (by omega), if_pos (by omega), rdR l i hil, if_neg (by omega), wrap_succ (by omega)]
        | succ e ih2 =>
          intro j S2 hj hS2
          have hjl : j < l[i].length := by omega
          rw [List.drop_eq_getElem_cons hjl]
          have hn := rd_at l[i] j hjl
          refine Ev.step (f := fun k => if (decide ((1 : Int) ≤ l[i][j]) && decide (l[i][j] ≤ 99)) = true then ((spec_l1Has.f k S2 l[i][j]).bind fun t => if t = true then some false else spec_l9Good.l1 k (S2 ++ [l[i][j]]) i ((j + 1 : Nat) : Int) m l) else some false) (fun k => ?_) ?_
          · simp only [spec_l9Good.l1]
            rw [if_pos (by omega), if_pos (by omega), rdR l i hil, if_pos (by omega), if_pos (by omega), hn, l1In_eq2]
            simp only [Option.bind_some, if_pos (show S2.length < 17592186044416 by omega), wrap_succ (show j < 9223372036854775807 by omega)]
          · generalize hnn : l[i][j] = n
            rw [hnn] at *
            cases c4 : (decide (1 ≤ n) && decide (n ≤ 99)) with
            | false =>
              rw [goodRest_no m S2 n _ _ (.inl (fun z => by simp [z.1, z.2] at c4))]
              exact ev_eq (fun k => if_neg (by simp))
            | true =>
              have hn1 : 1 ≤ n ∧ n ≤ 99 := by simpa using c4
              simp only [if_true]
              refine Ev.bind (has_ev S2 n (by omega)) ?_
              cases c5 : decide (n ∈ S2) with
              | true =>
                rw [goodRest_no m S2 n _ _ (.inr c5)]
                simp only [if_true]; exact Ev.now _
              | false =>
                rw [goodRest_yes m S2 n _ _ hn1.1 hn1.2 c5]
                simp only [Bool.false_eq_true, if_false]
                exact ih2 (j + 1) (S2 ++ [n]) (by omega) (by simp; omega)
      refine Ev.step (fun k => ?_) (inner l[i].length 0 S (by omega) (by omega))
      simp only [spec_l9Good.l0]
      rw [if_pos (by omega), if_pos (by omega), rdR l i hil, if_neg c]
      rfl
def yardOk (l : List (List Int)) : Bool := (decide ((1 : Int) ≤ (l.length : Int)) && decide ((l.length : Int) ≤ 6)) && goodRows 4 [] l
def bayOk (h : Int) (l : List (List Int)) : Bool := (decide ((1 : Int) ≤ h) && decide (h ≤ 4)) && (decide ((1 : Int) ≤ (l.length : Int)) && decide ((l.length : Int) ≤ 5)) && goodRows h [] l
theorem implYard_eq (l : List (List Int)) : impl_IsValidYard.f l = some (yardOk l) := rfl
theorem implBay_eq (h : Int) (l : List (List Int)) : impl_IsValidBay.f h l = some (bayOk h l) := rfl
theorem specYard_ev (l : List (List Int)) : Ev (fun k => spec_l5Good.f k l) (yardOk l) := by
  unfold spec_l5Good.f yardOk
  rw [l1In_eq2]
  simp only [Option.bind_some]
  cases c : (decide ((1 : Int) ≤ (l.length : Int)) && decide ((l.length : Int) ≤ 6)) with
  | false => simp only [Bool.false_eq_true, if_false, Bool.false_and]; exact Ev.now _
  | true =>
    have h6 : l.length ≤ 6 := by simp at c; omega
    simp only [if_true, Bool.true_and]
    exact spec_l5Good_loop l h6 l.length 0 [] (by omega) (by simp)
theorem specBay_ev (h : Int) (l : List (List Int)) : Ev (fun k => spec_l9Good.f k h l) (bayOk h l) := by
  unfold spec_l9Good.f bayOk
  simp only [l1In_eq2, Option.bind_some]
  cases c : (decide ((1 : Int) ≤ h) && decide (h ≤ 4)) with
  | false =>
    simp only [Bool.false_eq_true, if_false, Bool.false_and]
    exact Ev.step (f := fun _ => some _) (fun k => by simp only [spec_l9Good.j0]; rw [if_pos trivial]) (Ev.now _)
  | true =>
    have h4 : h ≤ 4 := by simp at c; omega
    simp only [if_true, Bool.true_and]
    cases c2 : (decide ((1 : Int) ≤ (l.length : Int)) && decide ((l.length : Int) ≤ 5)) with
    | false =>
      simp only [Bool.not_false, Bool.false_and]
      exact Ev.step (f := fun _ => some _) (fun k => by simp only [spec_l9Good.j0]; rw [if_pos trivial]) (Ev.now _)
    | true =>
      have h5 : l.length ≤ 5 := by simp at c2; omega
      simp only [Bool.not_true, Bool.true_and]
      refine Ev.step (f := fun k => spec_l9Good.l0 k [] ((0 : Nat) : Int) h l) (fun k => ?_) (by simpa using spec_l9Good_loop h l (by omega) h4 l.length 0 [] (by omega) (by simp))
      simp only [spec_l9Good.j0]
      rw [if_neg (by decide)]
      rfl
-- where a number stands
def idxFrom : Nat → List Int → Int → Int
  | _, [], _ => -1
  | k, x :: r, n => if x = n then (k : Int) else idxFrom (k + 1) r n
theorem idxFrom_range : ∀ (l : List Int) (k : Nat) (n : Int), idxFrom k l n = -1 ∨ ((k : Int) ≤ idxFrom k l n ∧ idxFrom k l n < (k : Int) + (l.length : Int))
  | [], _, _ => .inl rfl
  | x :: r, k, n => by
    unfold idxFrom
    by_cases h : x = n
    · rw [if_pos h]; right; simp; omega
    · rw [if_neg h]
      rcases idxFrom_range r (k + 1) n with e | e
      · exact .inl e
      · right; simp; omega
def findFrom : Nat → List (List Int) → Int → Int × Int
  | _, [], _ => (-1, -1)
  | i, s :: r, n => if idxFrom 0 s n ≥ 0 then ((i : Int), idxFrom 0 s n) else findFrom (i + 1) r n
theorem index_ev (s : List Int) (n : Int) (hs : s.length ≤ 1048576) : Ev (fun k => slices_Index_int_int.f k s n) (idxFrom 0 s n) := by
  have key : ∀ (d i : Nat), i + d = s.length → Ev (fun k => slices_Index_int_int.l0 k s n (s.length : Int) i) (idxFrom i (s.drop i) n) := by
    intro d
    induction d with
    | zero =>
      intro i hi
      rw [List.drop_of_length_le (by omega)]
      exact Ev.step (f := fun _ => some _) (fun k => by simp only [slices_Index_int_int.l0]; rw [if_neg (by omega)]; rfl) (Ev.now _)
    | succ d ih =>
      intro i hi
      have hil : i < s.length := by omega
      rw [List.drop_eq_getElem_cons hil]
      unfold idxFrom
      by_cases c : s[i] = n
      · rw [if_pos c]
        exact Ev.step (f := fun _ => some _) (fun k => by simp only [slices_Index_int_int.l0]; rw [if_pos (by omega), if_pos (by omega), if_pos (by omega), rd_at s i hil, if_pos c.symm]) (Ev.now _)
      · rw [if_neg c]
        refine Ev.step (fun k => ?_) (ih (i + 1) (by omega))
        simp only [slices_Index_int_int.l0]
        rw [if_pos (by omega), if_pos (by omega), if_pos (by omega), rd_at s i hil, if_neg (fun z => c z.symm), wrap_succ (by omega)]
  exact Ev.congr (f := fun k => slices_Index_int_int.l0 k s n (s.length : Int) ((0 : Nat) : Int)) (fun k => rfl) (by simpa using key s.length 0 (by omega))
def rowsOk (l : List (List Int)) : Prop := l.length ≤ 1048576 ∧ ∀ s ∈ l, s.length ≤ 1048576
theorem place_ev (l : List (List Int)) (n : Int) (hl : rowsOk l) : Ev (fun k => impl_placeOf.f k l n) (findFrom 0 l n) := by
  have key : ∀ (d i : Nat), i + d = l.length → Ev (fun k => impl_placeOf.l0 k n l (l.length : Int) i) (findFrom i (l.drop i) n) := by
    intro d
    induction d with
    | zero =>
      intro i hi
      rw [List.drop_of_length_le (by omega)]
      exact Ev.step (f := fun _ => some _) (fun k => by simp only [impl_placeOf.l0]; rw [if_neg (by omega)]; rfl) (Ev.now _)
    | succ d ih =>
      intro i hi
      have hil : i < l.length := by omega
      rw [List.drop_eq_getElem_cons hil]
      unfold findFrom
      refine Ev.step (f := fun k => (slices_Index_int_int.f k l[i] n).bind fun t => if t ≥ 0 then some ((i : Int), t) else impl_placeOf.l0 k n l (l.length : Int) ((i + 1 : Nat) : Int)) (fun k => ?_) (Ev.bind (index_ev _ n (hl.2 _ (List.getElem_mem hil))) ?_)
      · have := hl.1
        simp only [impl_placeOf.l0]
        rw [if_pos (by omega), if_pos (by omega), if_pos (by omega), rdR l i hil, wrap_succ (by omega)]
      · by_cases c : idxFrom 0 l[i] n ≥ 0
        · simp only [if_pos c]; exact Ev.now _
        · simp only [if_neg c]; exact ih (i + 1) (by omega)
  exact Ev.congr (f := fun k => impl_placeOf.l0 k n l (l.length : Int) ((0 : Nat) : Int)) (fun k => rfl) (by simpa using key l.length 0 (by omega))
theorem spec_l5Find_ev (l : List (List Int)) (n : Int) (hl : rowsOk l) : Ev (fun k => spec_l5Find.f k l n) (findFrom 0 l n) := by
  have key : ∀ (d i : Nat), i + d = l.length → Ev (fun k => spec_l5Find.l0 k n i l) (findFrom i (l.drop i) n) := by
    intro d
    induction d with
    | zero =>
      intro i hi
      rw [List.drop_of_length_le (by omega)]
      exact Ev.step (f := fun _ => some _) (fun k => by simp only [spec_l5Find.l0]; rw [if_neg (by omega)]; rfl) (Ev.now _)
    | succ d ih =>
      intro i hi
      have hil : i < l.length := by omega
      have hs := hl.2 _ (List.getElem_mem hil)
      have hl1 := hl.1
      rw [List.drop_eq_getElem_cons hil]
      unfold findFrom
      have inner : ∀ (e j : Nat), j + e = l[i].length → Ev (fun k => spec_l5Find.l1 k n i j l) (if idxFrom j (l[i].drop j) n ≥ 0 then ((i : Int), idxFrom j (l[i].drop j) n) else findFrom (i + 1) (l.drop (i + 1)) n) := by
        intro e
        induction e with
        | zero =>
          intro j hj
          rw [List.drop_of_length_le (by omega)]
          refine Ev.step (fun k => ?_) (ih (i + 1) (by omega))
          simp only [spec_l5Find.l1]
          rw [if_pos (by omega), if_pos (by omega), rdR l i hil, if_neg (by omega), wrap_succ (by omega)]
        | succ e ih2 =>
          intro j hj
          have hjl : j < l[i].length := by omega
          rw [List.drop_eq_getElem_cons hjl]
          unfold idxFrom
          by_cases c : l[i][j] = n
          · simp only [if_pos c, if_pos (show (j : Int) ≥ 0 by omega)]
            refine Ev.step (f := fun _ => some _) (fun k => ?_) (Ev.now _)
            simp only [spec_l5Find.l1]
            rw [if_pos (by omega), if_pos (by omega), rdR l i hil, if_pos (by omega), if_pos (by omega), rd_at l[i] j hjl, if_pos c]
          · simp only [if_neg c]
            refine Ev.step (fun k => ?_) (ih2 (j + 1) (by omega))
            simp only [spec_l5Find.l1]
            rw [if_pos (by omega), if_pos (by omega), rdR l i hil, if_pos (by omega), if_pos (by omega), rd_at l[i] j hjl, if_neg c, wrap_succ (by omega)]
      refine Ev.step (fun k => ?_) (inner l[i].length 0 (by omega))
      simp only [spec_l5Find.l0]
      rw [if_pos (by omega)]
      rfl
  exact Ev.congr (f := fun k => spec_l5Find.l0 k n ((0 : Nat) : Int) l) (fun k => rfl) (by simpa using key l.length 0 (by omega))
/-- None of a row's numbers stands in a yard. -/
def apart (Y : List (List Int)) (s : List Int) : Bool := s.all fun n => decide ((findFrom 0 Y n).1 < 0)
def termOk (Y : List (List Int)) (h : Int) (S : List (List Int)) : Bool := yardOk Y && bayOk h S && S.all (apart Y)
theorem spec_l24Good_loop (Y : List (List Int)) (h : Int) (S : List (List Int)) (hY : rowsOk Y) (hS : rowsOk S) : ∀ (d i : Nat), i + d = S.length → Ev (fun k => spec_l24Good.l0 k i Y h S) ((S.drop i).all (apart Y)) := by
  have hS1 := hS.1
  intro d
  induction d with
  | zero =>
    intro i hi
    rw [List.drop_of_length_le (by omega)]
    exact Ev.step (f := fun _ => some _) (fun k => by simp only [spec_l24Good.l0]; rw [if_neg (by omega)]; rfl) (Ev.now _)
  | succ d ih =>
    intro i hi
    have hil : i < S.length := by omega
    have hs := hS.2 _ (List.getElem_mem hil)
    rw [List.drop_eq_getElem_cons hil, List.all_cons]
    have inner : ∀ (e j : Nat), j + e = S[i].length → Ev (fun k => spec_l24Good.l1 k i j Y h S) (apart Y (S[i].drop j) && (S.drop (i + 1)).all (apart Y)) := by
      intro e
      induction e with
      | zero =>
        intro j hj
        rw [List.drop_of_length_le (by omega)]
        refine Ev.step (fun k => ?_) (by simpa [apart] using ih (i + 1) (by omega))
        simp only [spec_l24Good.l1]
        rw [if_pos (by omega), if_pos (by omega), rdR S i hil, if_neg (by omega), wrap_succ (by omega)]
        rfl
      | succ e ih2 =>
        intro j hj
        have hjl : j < S[i].length := by omega
        rw [List.drop_eq_getElem_cons hjl]
        refine Ev.step (f := fun k => (spec_l5Find.f k Y S[i][j]).bind fun t => if t.1 ≥ 0 then some false else spec_l24Good.l1 k i ((j + 1 : Nat) : Int) Y h S) (fun k => ?_) (Ev.bind (spec_l5Find_ev Y _ hY) ?_)
        · simp only [spec_l24Good.l1]
          rw [if_pos (by omega), if_pos (by omega), rdR S i hil, if_pos (by omega), if_pos (by omega), rd_at S[i] j hjl, wrap_succ (by omega)]
        · by_cases c : (findFrom 0 Y S[i][j]).1 ≥ 0
          · have e1 : apart Y (S[i][j] :: S[i].drop (j + 1)) = false := by simp only [apart, List.all_cons, decide_eq_false (show ¬ (findFrom 0 Y S[i][j]).1 < 0 by omega), Bool.false_and]
            simp only [if_pos c, e1, Bool.false_and]; exact Ev.now _
          · have e1 : apart Y (S[i][j] :: S[i].drop (j + 1)) = apart Y (S[i].drop (j + 1)) := by simp only [apart, List.all_cons, decide_eq_true (show (findFrom 0 Y S[i][j]).1 < 0 by omega), Bool.true_and]
            simp only [if_neg c, e1]; exact ih2 (j + 1) (by omega)
    refine Ev.step (fun k => ?_) (inner S[i].length 0 (by omega))
    simp only [spec_l24Good.l0]
    rw [if_pos (by omega)]
    rfl
theorem impl_IsValidTerminal_loop (Y : List (List Int)) (h : Int) (S : List (List Int)) (hY : rowsOk Y) (hS : rowsOk S) : ∀ (d i : Nat), i + d = S.length → Ev (fun k => impl_IsValidTerminal.l0 k S (S.length : Int) i Y h S) ((S.drop i).all (apart Y)) := by
  have hS1 := hS.1
  intro d
  induction d with
  | zero =>
    intro i hi
    rw [List.drop_of_length_le (by omega)]
    exact Ev.step (f := fun _ => some _) (fun k => by simp only [impl_IsValidTerminal.l0]; rw [if_neg (by omega)]; rfl) (Ev.now _)
  | succ d ih =>
    intro i hi
    have hil : i < S.length := by omega
    have hs := hS.2 _ (List.getElem_mem hil)
    rw [List.drop_eq_getElem_cons hil, List.all_cons]
    have inner : ∀ (e j : Nat), j + e = S[i].length → Ev (fun k => impl_IsValidTerminal.l1 k S (S.length : Int) i S[i] (S[i].length : Int) j Y h S) (apart Y (S[i].drop j) && (S.drop (i + 1)).all (apart Y)) := by
      intro e
      induction e with
      | zero =>
        intro j hj
        rw [List.drop_of_length_le (by omega)]
        refine Ev.step (fun k => ?_) (by simpa [apart] using ih (i + 1) (by omega))
        simp only [impl_IsValidTerminal.l1]
        rw [if_neg (by omega), wrap_succ (by omega)]
        rfl
      | succ e ih2 =>
        intro j hj
        have hjl : j < S[i].length := by omega
        rw [List.drop_eq_getElem_cons hjl]
        refine Ev.step (f := fun k => (impl_placeOf.f k Y S[i][j]).bind fun t => if t.1 ≥ 0 then some false else impl_IsValidTerminal.l1 k S (S.length : Int) i S[i] (S[i].length : Int) ((j + 1 : Nat) : Int) Y h S) (fun k => ?_) (Ev.bind (place_ev Y _ hY) ?_)
        · simp only [impl_IsValidTerminal.l1]
          rw [if_pos (by omega), if_pos (by omega), if_pos (by omega), rd_at S[i] j hjl, wrap_succ (by omega)]
        · by_cases c : (findFrom 0 Y S[i][j]).1 ≥ 0
          · have e1 : apart Y (S[i][j] :: S[i].drop (j + 1)) = false := by simp only [apart, List.all_cons, decide_eq_false (show ¬ (findFrom 0 Y S[i][j]).1 < 0 by omega), Bool.false_and]
            simp only [if_pos c, e1, Bool.false_and]; exact Ev.now _
          · have e1 : apart Y (S[i][j] :: S[i].drop (j + 1)) = apart Y (S[i].drop (j + 1)) := by simp only [apart, List.all_cons, decide_eq_true (show (findFrom 0 Y S[i][j]).1 < 0 by omega), Bool.true_and]
            simp only [if_neg c, e1]; exact ih2 (j + 1) (by omega)
    refine Ev.step (fun k => ?_) (inner S[i].length 0 (by omega))
    simp only [impl_IsValidTerminal.l0]
    rw [if_pos (by omega), if_pos (by omega), if_pos (by omega), rdR S i hil]
    rfl
theorem specTerm_ev (Y : List (List Int)) (h : Int) (S : List (List Int)) (hY : rowsOk Y) (hS : rowsOk S) : Ev (fun k => spec_l24Good.f k Y h S) (termOk Y h S) := by
  have stop : Ev (fun k => spec_l24Good.j0 k true Y h S) false := Ev.step (f := fun _ => some _) (fun k => by simp only [spec_l24Good.j0]; rw [if_pos trivial]) (Ev.now _)
  unfold spec_l24Good.f termOk
  refine Ev.bind (specYard_ev Y) ?_
  cases c : yardOk Y with
  | false => simp only [Bool.false_eq_true, if_false, Bool.false_and]; exact stop
  | true =>
    simp only [if_true, Bool.true_and]
    refine Ev.bind (specBay_ev h S) ?_
    cases c2 : bayOk h S with
    | false => simp only [Bool.not_false, Bool.false_and]; exact stop
    | true =>
      simp only [Bool.not_true, Bool.true_and]
      refine Ev.step (fun k => ?_) (by simpa using spec_l24Good_loop Y h S hY hS S.length 0 (by omega))
      simp only [spec_l24Good.j0]
      rw [if_neg (by decide)]
theorem implTerm_ev (Y : List (List Int)) (h : Int) (S : List (List Int)) (hY : rowsOk Y) (hS : rowsOk S) : Ev (fun k => impl_IsValidTerminal.f k Y h S) (termOk Y h S) := by
  have stop : Ev (fun k => impl_IsValidTerminal.j0 k true Y h S) false := Ev.step (f := fun _ => some _) (fun k => by simp only [impl_IsValidTerminal.j0]; rw [if_pos trivial]) (Ev.now _)
  unfold impl_IsValidTerminal.f termOk
  rw [implYard_eq]
  simp only [Option.bind_some]
  cases c : yardOk Y with
  | false => simp only [Bool.false_eq_true, if_false, Bool.false_and]; exact stop
  | true =>
    simp only [if_true, Bool.true_and]
    rw [implBay_eq]
    simp only [Option.bind_some]
    cases c2 : bayOk h S with
    | false => simp only [Bool.not_false, Bool.false_and]; exact stop
    | true =>
      simp only [Bool.not_true, Bool.true_and]
      refine Ev.step (fun k => ?_) (by simpa using impl_IsValidTerminal_loop Y h S hY hS S.length 0 (by omega))
      simp only [impl_IsValidTerminal.j0]
      rw [if_neg (by decide)]
theorem szTerm_ev (Y : List (List Int)) (h : Int) (S : List (List Int)) (hY : Y.length ≤ 4611686018427387904) (hYr : ∀ s ∈ Y, s.length ≤ 4611686018427387904) (hS : S.length ≤ 4611686018427387904) (hSr : ∀ s ∈ S, s.length ≤ 4611686018427387904) :
    ∃ r, Ev (fun k => laws_szTerminal.f k Y h S 1048576) r ∧ (¬ r < 0 → rowsOk Y ∧ rowsOk S) := by
  unfold laws_szTerminal.f laws_szYard.f laws_szBay.f
  obtain ⟨r, hr, hq⟩ := szIntSS_ev Y 1048576 (by omega) (by omega) hY hYr
  by_cases c : r < 0
  · refine ⟨-1, Ev.bind (Ev.bind hr (r := -1) ?_) ?_, fun z => absurd (by decide) z⟩
    · simp only [if_pos c]; exact Ev.now _
    · simp only [if_pos (show (-1 : Int) < 0 by decide)]; exact Ev.now _
  · rcases hq with q | ⟨q1, q2, q3, q4⟩
    · exact absurd q c
    obtain ⟨r2, hr2, hq2⟩ := szIntSS_ev S r q1 q2 hS hSr
    have hYo : rowsOk Y := ⟨by omega, fun s hs => by have := q4 s hs; omega⟩
    by_cases c2 : r2 < 0
    · refine ⟨-1, Ev.bind (Ev.bind hr (r := r) ?_) ?_, fun z => absurd (by decide) z⟩
      · simp only [if_neg c]; exact Ev.now _
      · simp only [if_neg c]
        refine Ev.bind (Ev.bind hr2 (r := -1) ?_) ?_
        · simp only [if_pos c2]; exact Ev.now _
        · simp only [if_pos (show (-1 : Int) < 0 by decide)]; exact Ev.now _
    · rcases hq2 with p | ⟨p1, p2, p3, p4⟩
      · exact absurd p c2
      refine ⟨r2, Ev.bind (Ev.bind hr (r := r) ?_) ?_, fun _ => ⟨hYo, by omega, fun s hs => by have := p4 s hs; omega⟩⟩
      · simp only [if_neg c]; exact Ev.now _
      · simp only [if_neg c]
        refine Ev.bind (Ev.bind hr2 (r := r2) ?_) ?_
        · simp only [if_neg c2]; exact Ev.now _
        · simp only [if_neg c2]; exact Ev.now _
theorem toTerm_ev (Y : List (List Int)) (h : Int) (S : List (List Int)) (hY : rowsOk Y) (hS : rowsOk S) : Ev (fun k => laws_toTerminal.f k Y h S) (Y, h, S) := by
  unfold laws_toTerminal.f laws_toYard.f laws_toBay.f
  exact Ev.bind (Ev.bind (toIntSS_ev Y hY.1 hY.2) (Ev.now _)) (Ev.bind (Ev.bind (toIntSS_ev S hS.1 hS.2) (Ev.now _)) (Ev.now _))
theorem eqTerm_ev (Y : List (List Int)) (h : Int) (S : List (List Int)) (hY : rowsOk Y) (hS : rowsOk S) : Ev (fun k => laws_eqTerminal.f k Y h S Y h S) true := by
  unfold laws_eqTerminal.f laws_eqYard.f laws_eqBay.f
  refine Ev.bind (Ev.bind (eqIntSS_ev Y hY.1 hY.2) (r := true) (by simp only [if_true]; exact Ev.now _)) ?_
  simp only [if_true]
  refine Ev.bind (Ev.bind (eqIntSS_ev S hS.1 hS.2) (r := true) (by simp only [if_true]; exact Ev.now _)) ?_
  simp only [if_true]
  exact Ev.now _
end Go.Proofs.Ytnggfglmjdiaaaa.X

/- WhereIs of the program and of the reference answer alike, whatever the terminal and the number, and leave the terminal as it was. -/
namespace Go.Proofs.Ytnggfglmjdiaaaa.X
open Go.RowKit Go.Proofs.YtnggfglmjdiaaaaW.PrintWords Go.Proofs.YtnggfglmjdiaaaaL
set_option linter.unusedVariables false
set_option linter.unusedSimpArgs false
theorem spec_l9Find_ev (h : Int) (l : List (List Int)) (n : Int) (hl : rowsOk l) : Ev (fun k => spec_l9Find.f k h l n) (findFrom 0 l n) := by
  have key : ∀ (d i : Nat), i + d = l.length → Ev (fun k => spec_l9Find.l0 k n i h l) (findFrom i (l.drop i) n) := by
    intro d
    induction d with
    | zero =>
      intro i hi
      rw [List.drop_of_length_le (by omega)]
      exact Ev.step (f := fun _ => some _) (fun k => by simp only [spec_l9Find.l0]; rw [if_neg (by omega)]; rfl) (Ev.now _)
    | succ d ih =>
      intro i hi
      have hil : i < l.length := by omega
      have hs := hl.2 _ (List.getElem_mem hil)
      have hl1 := hl.1
      rw [List.drop_eq_getElem_cons hil]
      unfold findFrom
      have inner : ∀ (e j : Nat), j + e = l[i].length → Ev (fun k => spec_l9Find.l1 k n i j h l) (if idxFrom j (l[i].drop j) n ≥ 0 then ((i : Int), idxFrom j (l[i].drop j) n) else findFrom (i + 1) (l.drop (i + 1)) n) := by
        intro e
        induction e with
        | zero =>
          intro j hj
          rw [List.drop_of_length_le (by omega)]
          refine Ev.step (fun k => ?_) (ih (i + 1) (by omega))
          simp only [spec_l9Find.l1]
          rw [if_pos (by omega), if_pos (by omega), rdR l i hil, if_neg (by omega), wrap_succ (by omega)]
        | succ e ih2 =>
          intro j hj
          have hjl : j < l[i].length := by omega
          rw [List.drop_eq_getElem_cons hjl]
          unfold idxFrom
          by_cases c : l[i][j] = n
          · simp only [if_pos c, if_pos (show (j : Int) ≥ 0 by omega)]
            refine Ev.step (f := fun _ => some _) (fun k => ?_) (Ev.now _)
            simp only [spec_l9Find.l1]
            rw [if_pos (by omega), if_pos (by omega), rdR l i hil, if_pos (by omega), if_pos (by omega), rd_at l[i] j hjl, if_pos c]
          · simp only [if_neg c]
            refine Ev.step (fun k => ?_) (ih2 (j + 1) (by omega))
            simp only [spec_l9Find.l1]
            rw [if_pos (by omega), if_pos (by omega), rdR l i hil, if_pos (by omega), if_pos (by omega), rd_at l[i] j hjl, if_neg c, wrap_succ (by omega)]
      refine Ev.step (fun k => ?_) (inner l[i].length 0 (by omega))
      simp only [spec_l9Find.l0]
      rw [if_pos (by omega)]
      rfl
  exact Ev.congr (f := fun k => spec_l9Find.l0 k n ((0 : Nat) : Int) h l) (fun k => rfl) (by simpa using key l.length 0 (by omega))
def whereIs (Y : List (List Int)) (h : Int) (S : List (List Int)) (n : Int) : Int × Int × Int × Bool :=
  if termOk Y h S = true then (if (findFrom 0 Y n).1 ≥ 0 then (1, (findFrom 0 Y n).1, (findFrom 0 Y n).2, true) else if (findFrom 0 S n).1 ≥ 0 then (2, (findFrom 0 S n).1, (findFrom 0 S n).2, true) else (0, 0, 0, false)) else (0, 0, 0, false)
theorem specWhere_ev (Y : List (List Int)) (h : Int) (S : List (List Int)) (n : Int) (hY : rowsOk Y) (hS : rowsOk S) : Ev (fun k => spec_WhereIs.f k Y h S n) (whereIs Y h S n) := by
  unfold spec_WhereIs.f whereIs
  refine Ev.bind (specTerm_ev Y h S hY hS) ?_
  by_cases c : termOk Y h S = true
  · simp only [if_pos c]
    refine Ev.bind (spec_l5Find_ev Y n hY) ?_
    by_cases c2 : (findFrom 0 Y n).1 ≥ 0
    · simp only [if_pos c2]; exact Ev.now _
    · simp only [if_neg c2]
      refine Ev.bind (spec_l9Find_ev h S n hS) ?_
      by_cases c3 : (findFrom 0 S n).1 ≥ 0
      · simp only [if_pos c3]; exact Ev.now _
      · simp only [if_neg c3]; exact Ev.now _
  · simp only [if_neg c]; exact Ev.now _
theorem implWhere_ev (Y : List (List Int)) (h : Int) (S : List (List Int)) (n : Int) (hY : rowsOk Y) (hS : rowsOk S) : Ev (fun k => impl_WhereIs.f k Y h S n) (whereIs Y h S n) := by
  unfold impl_WhereIs.f whereIs impl_slotOf.f
  refine Ev.bind (implTerm_ev Y h S hY hS) ?_
  by_cases c : termOk Y h S = true
  · simp only [if_pos c]
    refine Ev.bind (place_ev Y n hY) ?_
    by_cases c2 : (findFrom 0 Y n).1 ≥ 0
    · simp only [if_pos c2]; exact Ev.now _
    · simp only [if_neg c2]
      refine Ev.bind (Ev.bind (place_ev S n hS) (Ev.now _)) ?_
      by_cases c3 : (findFrom 0 S n).1 ≥ 0
      · simp only [if_pos c3]; exact Ev.now _
      · simp only [if_neg c3]; exact Ev.now _
  · simp only [if_neg c]; exact Ev.now _
end Go.Proofs.Ytnggfglmjdiaaaa.X
namespace Go.Proofs.Ytnggfglmjdiaaaa.Pure
open Go.RowKit Go.Proofs.YtnggfglmjdiaaaaW.PrintWords Go.Proofs.YtnggfglmjdiaaaaL Go.Proofs.Ytnggfglmjdiaaaa.X
set_option linter.unusedVariables false
set_option linter.unusedSimpArgs false
theorem FnExactWhereIs : OFnExactWhereIs.Pure := by
  intro x n hx hn
  refine ev_rounds ?_
  obtain ⟨h1, h0, h2⟩ := hx
  obtain ⟨r, hr, hb⟩ := szTerm_ev x.f0.f0 x.f1.f0 x.f1.f1 (by have := h1.1; omega) (fun s hs => by have := (h1.2.2 s hs).1; omega) (by have := h2.1; omega) (fun s hs => by have := (h2.2.2 s hs).1; omega)
  unfold laws_FnExactWhereIs.f
  refine Ev.bind hr ?_
  by_cases c : r < 0
  · simp only [if_pos c]; exact Ev.now _
  · obtain ⟨hY, hS⟩ := hb c
    have hT := toTerm_ev x.f0.f0 x.f1.f0 x.f1.f1 hY hS
    simp only [if_neg c]
    refine Ev.bind hT ?_
    refine Ev.bind (specWhere_ev x.f0.f0 x.f1.f0 x.f1.f1 n hY hS) ?_
    refine Ev.bind hT ?_
    refine Ev.bind (implWhere_ev x.f0.f0 x.f1.f0 x.f1.f1 n hY hS) ?_
    simp only [if_true, bne_self_eq_false]
    refine Ev.step (f := fun k => (laws_toTerminal.f k x.f0.f0 x.f1.f0 x.f1.f1).bind fun bt286 => ((laws_eqTerminal.f k x.f0.f0 x.f1.f0 x.f1.f1 bt286.1 bt286.2.1 bt286.2.2).bind fun t293 => (if t293 = true then (some true) else (some false)))) (fun k => ?_) (Ev.bind hT (Ev.bind (eqTerm_ev x.f0.f0 x.f1.f0 x.f1.f1 hY hS) ?_))
    · simp only [laws_FnExactWhereIs.j0]
      rw [if_neg (by decide)]
    · simp only [if_true]
      exact Ev.now _
end Go.Proofs.Ytnggfglmjdiaaaa.Pure


namespace Go.Proofs.Ytnggfglmjdiaaaa.fnExactWhereIs
open Go.ChangeShapes Go.WideShapes Go.ChangeAt Go.RowKit
open Go.ChangeMaps (open_string shut_string)
open Go.Joins
open Go.Proofs.YtnggfglmjdiaaaaW.PrintWords Go.Proofs.YtnggfglmjdiaaaaW.PrintLast Go.Proofs.YtnggfglmjdiaaaaW.PrintMore
open Go.Proofs.YtnggfglmjdiaaaaZ Go.Proofs.Ytnggfglmjdiaaaa.X Go.Proofs.Ytnggfglmjdiaaaa.X.OFnExactWhereIs
set_option linter.unusedVariables false
set_option linter.unusedSimpArgs false
theorem own : ownKnob Try.prog.godebug = none := by kernel_rfl
theorem laidOut : laidOutB Try.prog = true := by kernel_rfl
set_option maxRecDepth 100000 in
set_option maxHeartbeats 2000000 in
theorem lifted (os : Os) (started : os.Started) (H : Type) (enc : TypeId × Value → H) :
    ReturnsInHanded {} Try.checked os 4 .any (Rows.fnExactWhereIsSpec.pre6 enc Try.prog Try.f4 Rows.fnExactWhereIsRow.domain false) (Rows.fnExactWhereIsSpec.post enc Try.prog Try.f4 false true false false) := by
  refine returnsInHanded_of_change_sized (C := Try.checked) own started (by kernel_rfl) Try.func4
    (ChangeSpec.witness6 (enc := enc) (C := Try.checked) false ⟨#[], #[.agg #[.slice none 0 0, .int .i64 0, .slice none 0 0], .int .i64 0], []⟩ 8 (by kernel_rfl) (by kernel_rfl) (by kernel_rfl) (by kernel_rfl)) ?_
  intro W base args ds gs before hval0 hW hcnd hsz0 _
  have hsz : (DataW.weightsEach Try.prog (Try.f4.params.toList ++ Rows.fnExactWhereIsSpec.plain.varTypes Try.prog) (ds ++ gs)).all (· ≤ reachBytes) = true := hsz0
  have hval : ∀ (j : Nat) t v, Try.f4.params[j]? = some t → args[j]? = some v → Value.okWide Try.prog W .any base t v := hval0
  have hW' := hW
  obtain ⟨p, q, hA0, hV, rfl, hfz, hnd⟩ := hW
  have hA : DataW.TrodAll enc Try.prog W 0 (fun _ => true) true Try.f4.params.toList args.toList ds p := hA0
  rw [Try.params4] at hA hval hsz
  obtain ⟨v0, vs0, d0, ds0, p0, q0, hargs, rfl, rfl, h0, r0⟩ := trodAll_cons hA
  obtain ⟨v1, vs1, d1, ds1, p1, q1, rfl, rfl, rfl, h1, r1⟩ := trodAll_cons r0
  obtain ⟨rfl, rfl, rfl⟩ := trodAll_nil r1
  obtain rfl : args = #[v0, v1] := by cases args; simp_all
  obtain ⟨rfl, rfl⟩ := trodVars_none hV
  obtain ⟨cs0, rfl, hs0⟩ := okWide_struct Try.underlying28 (hval 0 28 v0 rfl rfl)
  have k0 := h0
  have lt0 : ∀ x ∈ p0, x.block < W.heap.size := by obtain ⟨m, hm⟩ := k0; exact DataW.trod_lt m _ _ _ hm
  obtain ⟨x0, hK0, w0⟩ : ∃ x : S28, k28.K W x cs0.toList ∧ fitsT28 x := by
    obtain ⟨fuel, hf⟩ := h0
    exact opensT28 hf (weights_param hsz (j := 0) rfl rfl)
  obtain ⟨A0_0, c0_0, A0_2, c0_2, e0, hc0_0, hr0_0, hc0_2, hr0_2⟩ := k28_open hK0
  obtain rfl : cs0 = #[.slice A0_0 x0.f0.f0.length c0_0, .int .i64 x0.f1.f0, .slice A0_2 x0.f1.f1.length c0_2] := by cases cs0; simpa using e0
  obtain ⟨a1, rfl, rfl, rfl, w1⟩ := open_int Try.underlying3 (hval 1 3 v1 rfl rfl) h1
  clear hA0 hval0 hsz0 hsz
  obtain ⟨k, h⟩ := Go.Proofs.Ytnggfglmjdiaaaa.Pure.FnExactWhereIs x0 a1 w0 w1
  refine (laws_FnExactWhereIs.calls k A0_0 c0_0 x0.f0.f0 x0.f1.f0 A0_2 c0_2 x0.f1.f1 a1 true W hr0_0 hc0_0 hr0_2 hc0_2 h).mono fun e W' ⟨he, bel0⟩ => ?_
  have bel : Below W.heap.size W W' := bel0
  subst he
  exact ⟨_, rfl, _, _, _, [], _, [], hW', trodAll_mk1 (shut_bool Try.underlying4 _), (trodAll_cons_mk (Below.trod laidOut (by kernel_rfl) (of_decide_eq_true (by kernel_rfl)) k0 bel lt0) (trodAll_cons_mk (shut_int Try.underlying3 w1) trodAll_mk0)), rfl, bel.frame _, fun h => by cases h⟩
theorem over : Rows.fnExactWhereIsRow.holds Try.pinned (OpenSpec.ofChange Rows.fnExactWhereIsSpec) :=
  OpenClaim.holds_of_wide 4 Try.f4 rfl rfl rfl rfl rfl rfl rfl ⟨rfl, rfl, rfl, rfl, rfl⟩ rfl rfl rfl rfl rfl (by kernel_rfl) Try.func4 (by kernel_rfl)
    (of_decide_eq_true (by kernel_rfl)) (by unfold Func.isWrapper; first | (rw [if_pos (by decide +kernel)]; kernel_rfl) | (rw [if_neg (by decide +kernel)]; exact ⟨rfl, rfl⟩))
    (fun os started H enc _ => lifted os started H enc)
theorem proved : Rows.FnExactWhereIsSaid := over
#print axioms proved
end Go.Proofs.Ytnggfglmjdiaaaa.fnExactWhereIs
namespace Go.Proofs.Ytnggfglmjdiaaaa
/-- The row, under a short name, for the claim. -/
theorem fnExactWhereIs_holds : Rows.FnExactWhereIsSaid := fnExactWhereIs.proved
end Go.Proofs.Ytnggfglmjdiaaaa

