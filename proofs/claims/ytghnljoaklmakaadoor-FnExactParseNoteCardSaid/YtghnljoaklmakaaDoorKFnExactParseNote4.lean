/- Texts that the proof of the law FnExactParseNote leans on, part 5 of 6. -/
import Derived.Deep.Slices
import Derived.ChangeSame
import Derived.ChangeArms
import Derived.DataReads
import Derived.SizedLaws
import Derived.ProofKit
import Derived.Lib.SmallJoins
import Derived.ChangeOld
import Derived.Below
import Derived.Lib.IndexAny
import Derived.Lib.ItoaNum
import Derived.Lib.ItoaLen
import Derived.Lib.AtoiAll
import Derived.Test.YtghnljoaklmakaaDoorKFnExactParseNote0
import Derived.Test.YtghnljoaklmakaaDoorKFnExactParseNote1
import Derived.Test.YtghnljoaklmakaaDoorKFnExactParseNote2
import Derived.Test.YtghnljoaklmakaaDoorKFnExactParseNote3
-- written by a program of this session (wip/ext.py) out of the translation. Not trusted: Lean checks it.
namespace Go.Proofs.YtghnljoaklmakaaDoor.X
open Go.RowKit Go.Proofs.YtghnljoaklmakaaDoorW.PrintWords Go.Proofs.YtghnljoaklmakaaDoorW.PrintLast Go.Proofs.YtghnljoaklmakaaDoorW.PrintMore
attribute [local go_sem] max2_int min2_int max_two min_two max_three min_three max_four min_four   -- for this text's walks alone
open Go.Proofs.YtghnljoaklmakaaDoorG
set_option linter.unusedVariables false
set_option linter.unusedSimpArgs false

mutual
def impl_ParseNote.j0 : Nat → ByteArray → ByteArray → Bool → Option (Int × ByteArray × Int × Int × Bool)
  | 0, _, _, _ => none
  | k + 1, x0, x4, x22 => if x22 = true then (some (0, (⟨#[]⟩ : ByteArray), 0, 0, false)) else (if 8 ≤ (x4.size : Int) then ((impl_numbersIn.f k (x4.extract 8 x4.size)).bind fun t338 => (if 0 < (t338.length : Int) then (if 1 < (t338.length : Int) then (impl_ParseNote.l0 k x0 x4 (([(⟨1, (⟨#[]⟩ : ByteArray), rd t338 0, 0⟩ : S27), (⟨2, (⟨#[]⟩ : ByteArray), rd t338 0, rd t338 1⟩ : S27), (⟨4, (⟨#[]⟩ : ByteArray), rd t338 0, 0⟩ : S27), (⟨5, (⟨#[]⟩ : ByteArray), rd t338 0, rd t338 1⟩ : S27)] : List (S27))) 1) else (none)) else (none))) else (none))
def impl_ParseNote.l0 : Nat → ByteArray → ByteArray → List (S27) → Int → Option (Int × ByteArray × Int × Int × Bool)
  | 0, _, _, _, _ => none
  | k + 1, x0, x4, x7, x8 => if x8 ≤ 15 then (if x7.length < 3518437208883 then (impl_ParseNote.l0 k x0 x4 (x7 ++ [(⟨3, (⟨#[]⟩ : ByteArray), x8, 0⟩ : S27)]) (wrap64 (x8 + 1))) else (none)) else (impl_ParseNote.l1 k x0 x4 x7 (x7.length : Int) 0)
def impl_ParseNote.l1 : Nat → ByteArray → ByteArray → List (S27) → Int → Int → Option (Int × ByteArray × Int × Int × Bool)
  | 0, _, _, _, _, _ => none
  | k + 1, x0, x4, x59, x60, x61 => if x61 < x60 then (if 0 ≤ x61 then (if x61 < (x59.length : Int) then (if 0 ≤ 8 then (if 8 ≤ (x4.size : Int) then ((impl_IsValidNote.f k ((rd_T27 x59 x61).f0) (x4.extract 0 8) ((rd_T27 x59 x61).f2) ((rd_T27 x59 x61).f3)).bind fun t355 => (if t355 = true then ((impl_noteText.f k ((rd_T27 x59 x61).f0) (x4.extract 0 8) ((rd_T27 x59 x61).f2) ((rd_T27 x59 x61).f3)).bind fun t356 => (if t356.toList = x0.toList then (some ((rd_T27 x59 x61).f0, x4.extract 0 8, (rd_T27 x59 x61).f2, (rd_T27 x59 x61).f3, true)) else (impl_ParseNote.l1 k x0 x4 x59 x60 (wrap64 (x61 + 1))))) else (impl_ParseNote.l1 k x0 x4 x59 x60 (wrap64 (x61 + 1))))) else (none)) else (none)) else (none)) else (none)) else (some (0, (⟨#[]⟩ : ByteArray), 0, 0, false))
end
def impl_ParseNote.f (k : Nat) (a0 : ByteArray) : Option (Int × ByteArray × Int × Int × Bool) := (strings_CutPrefix.f a0 (⟨#[67, 111, 110, 116, 97, 105, 110, 101, 114, 32]⟩ : ByteArray)).bind fun bt336 => (if bt336.2 = true then (impl_ParseNote.j0 k a0 bt336.1 (decide ((bt336.1.size : Int) < 8))) else (impl_ParseNote.j0 k a0 bt336.1 true))
theorem impl_ParseNote.mono_l : ∀ k, (∀ y0 y1 y2, LeO (impl_ParseNote.j0 k y0 y1 y2) (impl_ParseNote.j0 (k + 1) y0 y1 y2)) ∧ (∀ y0 y1 y2 y3, LeO (impl_ParseNote.l0 k y0 y1 y2 y3) (impl_ParseNote.l0 (k + 1) y0 y1 y2 y3)) ∧ (∀ y0 y1 y2 y3 y4, LeO (impl_ParseNote.l1 k y0 y1 y2 y3 y4) (impl_ParseNote.l1 (k + 1) y0 y1 y2 y3 y4))
  | 0 => ⟨fun _ _ _ r h => by simp [impl_ParseNote.j0] at h, fun _ _ _ _ r h => by simp [impl_ParseNote.l0] at h, fun _ _ _ _ _ r h => by simp [impl_ParseNote.l1] at h⟩
  | k + 1 => by
    obtain ⟨ih0, ih1, ih2⟩ := impl_ParseNote.mono_l k
    refine ⟨?_, ?_, ?_⟩
    · intro y0 y1 y2
      unfold impl_ParseNote.j0
      repeat' first
      | (with_reducible exact ih0 _ _ _)
      | (with_reducible exact ih1 _ _ _ _)
      | (with_reducible exact ih2 _ _ _ _ _)
      | (with_reducible exact impl_IsValidNote.mono _ _ _ _ _)
      | (with_reducible exact impl_noteText.mono _ _ _ _ _)
      | (with_reducible exact impl_numbersIn.mono _ _)
      | (with_reducible exact LeO.refl _)
      | (with_reducible exact LeO.none _)
      | (with_reducible refine LeO.ite ?_ ?_)
      | (with_reducible refine LeO.bind ?_ (fun _ => ?_))
      | exact ih0 _ _ _
      | exact ih1 _ _ _ _
      | exact ih2 _ _ _ _ _
      | exact impl_IsValidNote.mono _ _ _ _ _
      | exact impl_noteText.mono _ _ _ _ _
      | exact impl_numbersIn.mono _ _
      | exact LeO.none _
      | refine LeO.ite ?_ ?_
      | refine LeO.bind ?_ (fun _ => ?_)
    · intro y0 y1 y2 y3
      unfold impl_ParseNote.l0
      repeat' first
      | (with_reducible exact ih0 _ _ _)
      | (with_reducible exact ih1 _ _ _ _)
      | (with_reducible exact ih2 _ _ _ _ _)
      | (with_reducible exact impl_IsValidNote.mono _ _ _ _ _)
      | (with_reducible exact impl_noteText.mono _ _ _ _ _)
      | (with_reducible exact impl_numbersIn.mono _ _)
      | (with_reducible exact LeO.refl _)
      | (with_reducible exact LeO.none _)
      | (with_reducible refine LeO.ite ?_ ?_)
      | (with_reducible refine LeO.bind ?_ (fun _ => ?_))
      | exact ih0 _ _ _
      | exact ih1 _ _ _ _
      | exact ih2 _ _ _ _ _
      | exact impl_IsValidNote.mono _ _ _ _ _
      | exact impl_noteText.mono _ _ _ _ _
      | exact impl_numbersIn.mono _ _
      | exact LeO.none _
      | refine LeO.ite ?_ ?_
      | refine LeO.bind ?_ (fun _ => ?_)
    · intro y0 y1 y2 y3 y4
      unfold impl_ParseNote.l1
      repeat' first
      | (with_reducible exact ih0 _ _ _)
      | (with_reducible exact ih1 _ _ _ _)
      | (with_reducible exact ih2 _ _ _ _ _)
      | (with_reducible exact impl_IsValidNote.mono _ _ _ _ _)
      | (with_reducible exact impl_noteText.mono _ _ _ _ _)
      | (with_reducible exact impl_numbersIn.mono _ _)
      | (with_reducible exact LeO.refl _)
      | (with_reducible exact LeO.none _)
      | (with_reducible refine LeO.ite ?_ ?_)
      | (with_reducible refine LeO.bind ?_ (fun _ => ?_))
      | exact ih0 _ _ _
      | exact ih1 _ _ _ _
      | exact ih2 _ _ _ _ _
      | exact impl_IsValidNote.mono _ _ _ _ _
      | exact impl_noteText.mono _ _ _ _ _
      | exact impl_numbersIn.mono _ _
      | exact LeO.none _
      | refine LeO.ite ?_ ?_
      | refine LeO.bind ?_ (fun _ => ?_)
theorem impl_ParseNote.mono : ∀ a0 k, LeO (impl_ParseNote.f k a0) (impl_ParseNote.f (k + 1) a0) := by
  intro a0 k
  obtain ⟨ih0, ih1, ih2⟩ := impl_ParseNote.mono_l k
  unfold impl_ParseNote.f
  repeat' first
      | (with_reducible exact ih0 _ _ _)
      | (with_reducible exact ih1 _ _ _ _)
      | (with_reducible exact ih2 _ _ _ _ _)
      | (with_reducible exact impl_IsValidNote.mono _ _ _ _ _)
      | (with_reducible exact impl_noteText.mono _ _ _ _ _)
      | (with_reducible exact impl_numbersIn.mono _ _)
      | (with_reducible exact LeO.refl _)
      | (with_reducible exact LeO.none _)
      | (with_reducible refine LeO.ite ?_ ?_)
      | (with_reducible refine LeO.bind ?_ (fun _ => ?_))
      | exact ih0 _ _ _
      | exact ih1 _ _ _ _
      | exact ih2 _ _ _ _ _
      | exact impl_IsValidNote.mono _ _ _ _ _
      | exact impl_noteText.mono _ _ _ _ _
      | exact impl_numbersIn.mono _ _
      | exact LeO.none _
      | refine LeO.ite ?_ ?_
      | refine LeO.bind ?_ (fun _ => ?_)
def impl_ParseNote.T5 : Bool × List (List Nat × List Nat) := (true, [([], []), ([0], [0]), ([1], [1]), ([2], [2]), ([], []), ([4], [4]), ([5], [5]), ([], []), ([7], [7]), ([8], [8]), ([6, 9], [6, 9]), ([], []), ([11], [11]), ([12], [12]), ([13], [13]), ([], []), ([15], [15]), ([16], [16]), ([], []), ([18], [18]), ([19], [19]), ([17, 20], [17, 20]), ([3, 10, 14, 21], [3, 10, 14, 21]), ([22, 0, 1, 2, 3, 4, 5, 6, 7, 8, 9, 10, 11, 12, 13, 14, 15, 16, 17, 18, 19, 20, 21, 22], [22])])
def impl_ParseNote.B5 : List Nat := [0, 1, 3, 7, 0, 16, 48, 0, 128, 384, 1008, 0, 2048, 6144, 14336, 0, 32768, 98304, 0, 262144, 786432, 2064384, 4194303, 8388607]
theorem impl_ParseNote.tab5 : rtab .any (opsOf Tryd.f17 5) = impl_ParseNote.T5 := by kernel_rfl
theorem impl_ParseNote.bits5 : waitsOk impl_ParseNote.T5.2 impl_ParseNote.B5 = true := by kernel_rfl
set_option maxHeartbeats 8000000 in
set_option maxRecDepth 100000 in
theorem impl_ParseNote.calls (k : Nat) (a0 : ByteArray) (r1 : Int) (r2 : ByteArray) (r3 : Int) (r4 : Int) (r5 : Bool) (w : World) (hG : Glob w) (h : impl_ParseNote.f k a0 = some (r1, r2, r3, r4, r5)) :
    Calls Tryd.prog 17 #[.string a0] w fun e w' => e = .returned (.tuple #[.agg #[.int .i64 r1, .string r2, .int .i64 r3, .int .i64 r4], .bool r5]) ∧ Below w.heap.size w w' := by
  have hu27 := Tryd.underlying27
  have HGL := Aside0.mk hG
  clear hG
  have HB := Aside0.mk (Below.refl w.heap.size w)
  have H : ((strings_CutPrefix.f a0 (⟨#[67, 111, 110, 116, 97, 105, 110, 101, 114, 32]⟩ : ByteArray)).bind fun bt336 => (if bt336.2 = true then (impl_ParseNote.j0 k a0 bt336.1 (decide ((bt336.1.size : Int) < 8))) else (impl_ParseNote.j0 k a0 bt336.1 true))) = some (r1, r2, r3, r4, r5) := h
  clear h
  replace H := Option.bind_eq_some_iff.mp H
  obtain ⟨⟨t336, t337⟩, A20, H⟩ := H
  replace H : (if t337 = true then (impl_ParseNote.j0 k a0 t336 (decide ((t336.size : Int) < 8))) else (impl_ParseNote.j0 k a0 t336 true)) = some (r1, r2, r3, r4, r5) := H
  have A2 := Aside0.mk A20
  clear A20
  have HC3 := Aside0.mk H
  clear H
  go_enter Tryd.func17, Tryd.ntmps17
  go_upto_region 2 with (first | ((with_reducible refine gate_dst (N := 2) rfl ?_); (try (refine gate_guard (by rfl) ?_; dsimp only)); refine box_event ?hg (N := 2) ?hd (cs := #[.int .i64 0, .string (⟨#[]⟩ : ByteArray), .int .i64 0, .int .i64 0]) (t := 27) ?hr ?_; (case hd => rfl); (case hg => rfl); (case hr => first | (go_simp; done) | (go_simp; rfl)); intro gb335 hg w4 hbox hb; have n0_ := Aside0.mk (below_step (by repeat (first | (with_reducible first | exact HB.out | apply below_alloc | apply pw_below_drewN | apply below_drew1) | exact HB.out)) hb); have n1_ := Aside0.mk (hbox); have n2_ := Aside0.mk ((by rw [hg]; exact (below_size (by repeat (first | (with_reducible first | exact HB.out | apply below_alloc | apply pw_below_drewN | apply below_drew1) | exact HB.out))) : w.heap.size ≤ gb335)); have n3_ := Aside0.mk ((by rw [hg]; exact (below_size (by repeat (first | (with_reducible first | exact HB.out | apply below_alloc | apply pw_below_drewN | apply below_drew1) | exact HB.out))) : w.heap.size ≤ gb335)); clear HB; have HB := n0_; have BK335 := n1_; have GW335 := n2_; have GE335 := n3_; clear n0_ n1_ n2_ n3_; clear hb hbox hg) | ((with_reducible refine gate_callee (f := 33) rfl ?_); refine goesL_ (some 13) rfl rfl Tryd.func33 (by kernel_rfl) rfl #[.string a0, .string (⟨#[67, 111, 110, 116, 97, 105, 110, 101, 114, 32]⟩ : ByteArray)] rfl (by (try simp only [List.map_toArray, List.map_cons, List.map_nil]); first | done | rfl | (simp only [List.length_drop, List.length_take]; rfl)) ?_; (with_reducible refine (strings_CutPrefix.calls a0 (⟨#[67, 111, 110, 116, 97, 105, 110, 101, 114, 32]⟩ : ByteArray) t336 t337 _ A2.out).mono ?_); rintro e w' ⟨rfl, ⟨nd, rfl⟩⟩; refine ⟨_, rfl, ?_⟩))
  (try simp only [Act.put, List.setIfInBounds_toArray, List.set_cons_zero, List.set_cons_succ])
  go_cut [22] (fun v22 wc => ∃ (kq : Nat) (x22_2 : Bool), v22 = .bool x22_2 ∧ Aside0 (impl_ParseNote.j0 kq a0 t336 x22_2 = some (r1, r2, r3, r4, r5)) ∧ Aside0 (kq ≤ k) ∧ Aside0 (wc.heap[gb335]? = some (.cells #[.int .i64 0, .string (⟨#[]⟩ : ByteArray), .int .i64 0, .int .i64 0] 27 (0, 0))) ∧ Aside0 (Below w.heap.size w wc))
  case first =>
    have H := HC3.out
    clear HC3
    by_cases c5 : t337 = true
    · subst c5
      have H1 : (impl_ParseNote.j0 k a0 t336 (decide ((t336.size : Int) < 8))) = some (r1, r2, r3, r4, r5) := by rw [if_pos rfl] at H; exact H
      clear H
      have H := H1
      clear H1
      have H' := Aside0.mk H
      clear H
      go_wp2
      go_meet
      case rel => exact ⟨_, (decide ((t336.size : Int) < 8)), (by first | rfl | (simp; done) | (simp [*]; done)), H', ⟨by first | omega | exact Nat.le_refl _⟩, ⟨by (with_reducible repeat (first | refine blk_drewN ?_ _ | refine blk_drew ?_ | refine blk_alloc ?_ _)); exact BK335.out⟩, ⟨by repeat (first | (with_reducible first | exact HB.out | apply below_alloc | apply pw_below_drewN | apply below_drew1 | refine below_set ?_ GE335.out) | exact HB.out)⟩⟩
    · replace c5 := Bool.eq_false_iff.mpr c5
      subst c5
      have H1 : (impl_ParseNote.j0 k a0 t336 true) = some (r1, r2, r3, r4, r5) := by rw [if_neg (show ¬ (false = true) by decide)] at H; exact H
      clear H
      have H := H1
      clear H1
      have H' := Aside0.mk H
      clear H
      go_wp2
      go_meet
      case rel => exact ⟨_, (true), (by first | rfl | (simp; done) | (simp [*]; done)), H', ⟨by first | omega | exact Nat.le_refl _⟩, ⟨by (with_reducible repeat (first | refine blk_drewN ?_ _ | refine blk_drew ?_ | refine blk_alloc ?_ _)); exact BK335.out⟩, ⟨by repeat (first | (with_reducible first | exact HB.out | apply below_alloc | apply pw_below_drewN | apply below_drew1 | refine below_set ?_ GE335.out) | exact HB.out)⟩⟩
  case rest =>
    clear HC3
    try clear c1
    try clear p2
    try clear c3
    try clear c5
    obtain ⟨kq, x22_2, rfl, HA, HJ2, BK335, HB⟩ := hcut
    cases kq with
    | zero => exact absurd HA.out (by simp [impl_ParseNote.j0])
    | succ kj2 =>
      have H := HA.out
      clear HA
      simp only [impl_ParseNote.j0] at H
      by_cases c6 : x22_2 = true
      · subst c6
        have H1 : (some (0, (⟨#[]⟩ : ByteArray), 0, 0, false)) = some (r1, r2, r3, r4, r5) := by rw [if_pos rfl] at H; exact H
        clear H
        have H := H1
        clear H1
        simp only [Option.some.injEq, Prod.mk.injEq] at H
        obtain ⟨rfl, rfl, rfl, rfl, rfl⟩ := H
        have hcz7_0 : wc.cell? ⟨gb335, 0, none⟩ = some (.int .i64 0) := (blk_cell BK335.out 0).trans rfl
        have hcz7_1 : wc.cell? ⟨gb335, 1, none⟩ = some (.string (⟨#[]⟩ : ByteArray)) := (blk_cell BK335.out 1).trans rfl
        have hcz7_2 : wc.cell? ⟨gb335, 2, none⟩ = some (.int .i64 0) := (blk_cell BK335.out 2).trans rfl
        have hcz7_3 : wc.cell? ⟨gb335, 3, none⟩ = some (.int .i64 0) := (blk_cell BK335.out 3).trans rfl
        have hfz7_0 := blk_frozen BK335.out 0
        have hfz7_1 := blk_frozen BK335.out 1
        have hfz7_2 := blk_frozen BK335.out 2
        have hfz7_3 := blk_frozen BK335.out 3
        go_wp2
        refine bodyPost_ret (results_ct rfl _ _ gb335 27 #[.int .i64 0, .string (⟨#[]⟩ : ByteArray), .int .i64 0, .int .i64 0] (0, 0) _ rfl (by (with_reducible repeat (first | refine blk_drewN ?_ _ | refine blk_drew ?_ | refine blk_alloc ?_ _)); refine blk_put (cs := #[.int .i64 0, .string (⟨#[]⟩ : ByteArray), .int .i64 0, .int .i64 0]) ?_ 3 _ rfl; (with_reducible repeat (first | refine blk_drewN ?_ _ | refine blk_drew ?_ | refine blk_alloc ?_ _)); refine blk_put (cs := #[.int .i64 0, .string (⟨#[]⟩ : ByteArray), .int .i64 0, .int .i64 0]) ?_ 2 _ rfl; (with_reducible repeat (first | refine blk_drewN ?_ _ | refine blk_drew ?_ | refine blk_alloc ?_ _)); refine blk_put (cs := #[.int .i64 0, .string (⟨#[]⟩ : ByteArray), .int .i64 0, .int .i64 0]) ?_ 1 _ rfl; (with_reducible repeat (first | refine blk_drewN ?_ _ | refine blk_drew ?_ | refine blk_alloc ?_ _)); refine blk_put (cs := #[.int .i64 0, .string (⟨#[]⟩ : ByteArray), .int .i64 0, .int .i64 0]) ?_ 0 _ rfl; (with_reducible repeat (first | refine blk_drewN ?_ _ | refine blk_drew ?_ | refine blk_alloc ?_ _)); exact BK335.out) Tryd.underlying27 rfl (by kernel_rfl)) rfl ?_
        exact ⟨by first | rfl | (simp [errW_none, errW_some] <;> rfl) | (simp [*, errW_none, errW_some] <;> rfl), by repeat (first | (with_reducible first | exact HB.out | apply below_alloc | apply pw_below_drewN | apply below_drew1 | refine below_set ?_ GE335.out) | exact HB.out)⟩
      · replace c6 := Bool.eq_false_iff.mpr c6
        subst c6
        have H1 : (if 8 ≤ (t336.size : Int) then ((impl_numbersIn.f kj2 (t336.extract 8 t336.size)).bind fun t338 => (if 0 < (t338.length : Int) then (if 1 < (t338.length : Int) then (impl_ParseNote.l0 kj2 a0 t336 (([(⟨1, (⟨#[]⟩ : ByteArray), rd t338 0, 0⟩ : S27), (⟨2, (⟨#[]⟩ : ByteArray), rd t338 0, rd t338 1⟩ : S27), (⟨4, (⟨#[]⟩ : ByteArray), rd t338 0, 0⟩ : S27), (⟨5, (⟨#[]⟩ : ByteArray), rd t338 0, rd t338 1⟩ : S27)] : List (S27))) 1) else (none)) else (none))) else (none)) = some (r1, r2, r3, r4, r5) := by rw [if_neg (show ¬ (false = true) by decide)] at H; exact H
        clear H
        have H := H1
        clear H1
        by_cases c8 : 8 ≤ (t336.size : Int)
        · rw [if_pos c8] at H
          have c8b0 := eq_true c8
          have c8b1 : decide (8 ≤ (t336.size : Int)) = true := decide_eq_true c8
          clear c8
          replace H := Option.bind_eq_some_iff.mp H
          obtain ⟨t338, A90, H⟩ := H
          replace H : (if 0 < (t338.length : Int) then (if 1 < (t338.length : Int) then (impl_ParseNote.l0 kj2 a0 t336 (([(⟨1, (⟨#[]⟩ : ByteArray), rd t338 0, 0⟩ : S27), (⟨2, (⟨#[]⟩ : ByteArray), rd t338 0, rd t338 1⟩ : S27), (⟨4, (⟨#[]⟩ : ByteArray), rd t338 0, 0⟩ : S27), (⟨5, (⟨#[]⟩ : ByteArray), rd t338 0, rd t338 1⟩ : S27)] : List (S27))) 1) else (none)) else (none)) = some (r1, r2, r3, r4, r5) := H
          have A9 := Aside0.mk A90
          clear A90
          by_cases c10 : 0 < (t338.length : Int)
          · rw [if_pos c10] at H
            have c10b0 : decide (0 < (t338.length : Int)) = true := decide_eq_true c10
            have c10b1 : decide (0 < t338.length) = true := decide_eq_true (by omega)
            clear c10
            by_cases c11 : 1 < (t338.length : Int)
            · rw [if_pos c11] at H
              have c11b0 : decide (1 < (t338.length : Int)) = true := decide_eq_true c11
              have c11b1 : decide (1 < t338.length) = true := decide_eq_true (by omega)
              clear c11
              obtain ⟨y347, hy347⟩ : ∃ y_ : List (S27), y_ = (([(⟨1, (⟨#[]⟩ : ByteArray), rd t338 0, 0⟩ : S27), (⟨2, (⟨#[]⟩ : ByteArray), rd t338 0, rd t338 1⟩ : S27), (⟨4, (⟨#[]⟩ : ByteArray), rd t338 0, 0⟩ : S27), (⟨5, (⟨#[]⟩ : ByteArray), rd t338 0, rd t338 1⟩ : S27)] : List (S27))) := ⟨_, rfl⟩
              replace H : (impl_ParseNote.l0 kj2 a0 t336 y347 1) = some (r1, r2, r3, r4, r5) := by first | (rw [hy347]; with_reducible exact H) | (have H2_ := (Option.bind_some _ _).symm.trans H; rw [hy347]; with_reducible exact H2_) | (have H2_ := (Option.bind_some _ _).symm.trans H; with_reducible exact H2_) | with_reducible exact H | (rw [hy347]; exact H) | exact H
              have Ny347 := Aside0.mk hy347
              clear hy347
              have H' := Aside0.mk H
              clear H
              try go_wp2_with (first | ((with_reducible refine gate_callee (f := 34) rfl ?_); refine goesL_ (some 26) rfl rfl Tryd.func34 (by kernel_rfl) rfl #[.string (t336.extract 8 t336.size)] rfl (by (try simp only [List.map_toArray, List.map_cons, List.map_nil]); first | done | rfl | (simp only [List.length_drop, List.length_take]; rfl)) ?_; (with_reducible refine (impl_numbersIn.calls kj2 (t336.extract 8 t336.size) t338 _ ?side1 A9.out).mono ?_); (case side1 => exact Glob.below HGL.out (by repeat (first | (with_reducible first | exact HB.out | apply below_alloc | apply pw_below_drewN | apply below_drew1 | refine below_set ?_ GE335.out) | exact HB.out))); rintro e w12 ⟨v339, rfl, ho0, hb⟩; refine ⟨_, rfl, ?_⟩; have n0_ := Aside0.mk (Kd.R_lower ho0 (below_size (by repeat (first | (with_reducible first | exact HB.out | apply below_alloc | apply pw_below_drewN | apply below_drew1 | refine below_set ?_ GE335.out) | exact HB.out)))); have n1_ := Aside0.mk (blk_below (g := gb335) (o := .cells #[.int .i64 0, .string (⟨#[]⟩ : ByteArray), .int .i64 0, .int .i64 0] 27 (0, 0)) (by (with_reducible repeat (first | refine blk_drewN ?_ _ | refine blk_drew ?_ | refine blk_alloc ?_ _)); exact BK335.out) hb); have n2_ := Aside0.mk (below_step (by repeat (first | (with_reducible first | exact HB.out | apply below_alloc | apply pw_below_drewN | apply below_drew1 | refine below_set ?_ GE335.out) | exact HB.out)) hb); clear BK335; clear HB; have HO340 := n0_; have BK335 := n1_; have HB := n2_; clear n0_ n1_ n2_; (try clear hb); (try clear hb2); (try clear hk); (try clear hi); (try clear ho0)))
              have n0_ := Aside0.mk (Kd.R_drew HO340.out)
              have n1_ := Aside0.mk (blk_drew BK335.out)
              have n2_ := Aside0.mk (below_drew1 HB.out)
              clear HO340
              clear BK335
              clear HB
              have HO340 := n0_
              have BK335 := n1_
              have HB := n2_
              clear n0_ n1_ n2_
              obtain ⟨Ao14, co14, eo14⟩ := Kd.R_slice HO340.out
              (first | subst eo14 | (injection eo14 with f1_ f2_ f3_; have f4_ := f1_.symm; have f5_ := f3_.symm; clear f1_ f2_ f3_; subst f4_; subst f5_))
              have p341 : 0 ≤ (0 : Int) := (by omega)
              have q341 : 0 < (t338.length : Int) := of_decide_eq_true (by first | (with_reducible assumption) | assumption)
              obtain ⟨ad341, e341, hx341_0⟩ := Kd.at_int (Kd.R_reads' HO340.out).2.2 0 p341 q341
              cases e341
              have qi341 : (0 < t338.length) = True := eq_true (by omega)
              (try rw [show ((0 : Int)).toNat = 0 from rfl] at hx341_0)
              (try rw [Addr.add_zero'] at hx341_0)
              replace p341 := eq_true p341
              replace q341 := eq_true q341
              have p342 : 0 ≤ (0 : Int) := (by omega)
              have q342 : 0 < (t338.length : Int) := of_decide_eq_true (by first | (with_reducible assumption) | assumption)
              obtain ⟨ad342, e342, hx342_0⟩ := Kd.at_int (Kd.R_reads' HO340.out).2.2 0 p342 q342
              obtain rfl : ad341 = ad342 := (by injection e342)
              have qi342 : (0 < t338.length) = True := eq_true (by omega)
              (try rw [show ((0 : Int)).toNat = 0 from rfl] at hx342_0)
              (try rw [Addr.add_zero'] at hx342_0)
              replace p342 := eq_true p342
              replace q342 := eq_true q342
              have p343 : 0 ≤ (1 : Int) := (by omega)
              have q343 : 1 < (t338.length : Int) := of_decide_eq_true (by first | (with_reducible assumption) | assumption)
              obtain ⟨ad343, e343, hx343_0⟩ := Kd.at_int (Kd.R_reads' HO340.out).2.2 1 p343 q343
              obtain rfl : ad341 = ad343 := (by injection e343)
              (try simp only [show (1 : Int).toNat = 1 from rfl, Nat.reduceMul, Nat.reduceEqDiff, Go.Addr.add, ↓reduceIte] at hx343_0)
              have qi343 : (1 < t338.length) = True := eq_true (by omega)
              (try rw [show ((1 : Int)).toNat = 1 from rfl] at hx343_0)
              replace p343 := eq_true p343
              replace q343 := eq_true q343
              have p344 : 0 ≤ (0 : Int) := (by omega)
              have q344 : 0 < (t338.length : Int) := of_decide_eq_true (by first | (with_reducible assumption) | assumption)
              obtain ⟨ad344, e344, hx344_0⟩ := Kd.at_int (Kd.R_reads' HO340.out).2.2 0 p344 q344
              obtain rfl : ad341 = ad344 := (by injection e344)
              have qi344 : (0 < t338.length) = True := eq_true (by omega)
              (try rw [show ((0 : Int)).toNat = 0 from rfl] at hx344_0)
              (try rw [Addr.add_zero'] at hx344_0)
              replace p344 := eq_true p344
              replace q344 := eq_true q344
              have p345 : 0 ≤ (0 : Int) := (by omega)
              have q345 : 0 < (t338.length : Int) := of_decide_eq_true (by first | (with_reducible assumption) | assumption)
              obtain ⟨ad345, e345, hx345_0⟩ := Kd.at_int (Kd.R_reads' HO340.out).2.2 0 p345 q345
              obtain rfl : ad341 = ad345 := (by injection e345)
              have qi345 : (0 < t338.length) = True := eq_true (by omega)
              (try rw [show ((0 : Int)).toNat = 0 from rfl] at hx345_0)
              (try rw [Addr.add_zero'] at hx345_0)
              replace p345 := eq_true p345
              replace q345 := eq_true q345
              have p346 : 0 ≤ (1 : Int) := (by omega)
              have q346 : 1 < (t338.length : Int) := of_decide_eq_true (by first | (with_reducible assumption) | assumption)
              obtain ⟨ad346, e346, hx346_0⟩ := Kd.at_int (Kd.R_reads' HO340.out).2.2 1 p346 q346
              obtain rfl : ad341 = ad346 := (by injection e346)
              (try simp only [show (1 : Int).toNat = 1 from rfl, Nat.reduceMul, Nat.reduceEqDiff, Go.Addr.add, ↓reduceIte] at hx346_0)
              have qi346 : (1 < t338.length) = True := eq_true (by omega)
              (try rw [show ((1 : Int)).toNat = 1 from rfl] at hx346_0)
              replace p346 := eq_true p346
              replace q346 := eq_true q346
              refine start_ (n := 24) (S := fun w' => w'.cell? ad341 = some (.int .i64 (rd t338 0)) ∧ w'.cell? ad341 = some (.int .i64 (rd t338 0)) ∧ w'.cell? ⟨ad341.block, ad341.off + 1, none⟩ = some (.int .i64 (rd t338 1)) ∧ w'.cell? ad341 = some (.int .i64 (rd t338 0)) ∧ w'.cell? ad341 = some (.int .i64 (rd t338 0)) ∧ w'.cell? ⟨ad341.block, ad341.off + 1, none⟩ = some (.int .i64 (rd t338 1))) (ds := []) #[false, false, false, false, false, false, false, false, false, false, false, false, false, false, false, false, false, false, false, false, false, false, false, false] (by kernel_rfl) rfl rfl ⟨hx341_0, hx342_0, hx343_0, hx344_0, hx345_0, hx346_0⟩ (fun hHeld => ?_); refine with_tabW impl_ParseNote.tab5 impl_ParseNote.bits5 (fun HT_ HW_ => ?_)
              generalize w12.drew = w13 at HO340 BK335 HB hx341_0 hx342_0 hx343_0 hx344_0 hx345_0 hx346_0 hHeld ⊢
              refine pure_ (i := 0) (N := some 27) (v := ?_) (a' := ?_) #[true, false, false, false, false, false, false, false, false, false, false, false, false, false, false, false, false, false, false, false, false, false, false, false] rfl rfl (any_of HT_.out (by kernel_rfl)) (fun _ _ _ h => h) (Or.inl ⟨by rfl, ?_⟩) ?_ ?_
              rotate_left
              · intro w'
                go_simp
                with_reducible rfl
              rotate_left
              · simp only [Act.put, List.setIfInBounds_toArray, List.set_cons_zero, List.set_cons_succ, i64_w, i32_w]
                rfl
              refine pure_ (i := 1) (N := some 28) (v := ?_) (a' := ?_) #[true, true, false, false, false, false, false, false, false, false, false, false, false, false, false, false, false, false, false, false, false, false, false, false] rfl rfl (any_of HT_.out (by kernel_rfl)) (fun _ _ _ h => h) (Or.inl ⟨by rfl, ?_⟩) ?_ ?_
              rotate_left
              · intro w'
                go_simp
                with_reducible rfl
              rotate_left
              · simp only [Act.put, List.setIfInBounds_toArray, List.set_cons_zero, List.set_cons_succ, i64_w, i32_w]
                rfl
              refine pure_ (i := 4) (N := some 31) (v := ?_) (a' := ?_) #[true, true, false, false, true, false, false, false, false, false, false, false, false, false, false, false, false, false, false, false, false, false, false, false] rfl rfl (any_of HT_.out (by kernel_rfl)) (fun _ _ _ h => h) (Or.inl ⟨by rfl, ?_⟩) ?_ ?_
              rotate_left
              · intro w'
                go_simp
                with_reducible rfl
              rotate_left
              · simp only [Act.put, List.setIfInBounds_toArray, List.set_cons_zero, List.set_cons_succ, i64_w, i32_w]
                rfl
              refine pure_ (i := 5) (N := some 32) (v := ?_) (a' := ?_) #[true, true, false, false, true, true, false, false, false, false, false, false, false, false, false, false, false, false, false, false, false, false, false, false] rfl rfl (any_of HT_.out (by kernel_rfl)) (fun _ _ _ h => h) (Or.inl ⟨by rfl, ?_⟩) ?_ ?_
              rotate_left
              · intro w'
                go_simp
                with_reducible rfl
              rotate_left
              · simp only [Act.put, List.setIfInBounds_toArray, List.set_cons_zero, List.set_cons_succ, i64_w, i32_w]
                rfl
              refine pure_ (i := 7) (N := some 34) (v := ?_) (a' := ?_) #[true, true, false, false, true, true, false, true, false, false, false, false, false, false, false, false, false, false, false, false, false, false, false, false] rfl rfl (any_of HT_.out (by kernel_rfl)) (fun _ _ _ h => h) (Or.inl ⟨by rfl, ?_⟩) ?_ ?_
              rotate_left
              · intro w'
                go_simp
                with_reducible rfl
              rotate_left
              · simp only [Act.put, List.setIfInBounds_toArray, List.set_cons_zero, List.set_cons_succ, i64_w, i32_w]
                rfl
              refine pure_ (i := 8) (N := some 35) (v := ?_) (a' := ?_) #[true, true, false, false, true, true, false, true, true, false, false, false, false, false, false, false, false, false, false, false, false, false, false, false] rfl rfl (any_of HT_.out (by kernel_rfl)) (fun _ _ _ h => h) (Or.inl ⟨by rfl, ?_⟩) ?_ ?_
              rotate_left
              · intro w'
                go_simp
                with_reducible rfl
              rotate_left
              · simp only [Act.put, List.setIfInBounds_toArray, List.set_cons_zero, List.set_cons_succ, i64_w, i32_w]
                rfl
              refine pure_ (i := 11) (N := some 38) (v := ?_) (a' := ?_) #[true, true, false, false, true, true, false, true, true, false, false, true, false, false, false, false, false, false, false, false, false, false, false, false] rfl rfl (any_of HT_.out (by kernel_rfl)) (fun _ _ _ h => h) (Or.inl ⟨by rfl, ?_⟩) ?_ ?_
              rotate_left
              · intro w'
                go_simp
                with_reducible rfl
              rotate_left
              · simp only [Act.put, List.setIfInBounds_toArray, List.set_cons_zero, List.set_cons_succ, i64_w, i32_w]
                rfl
              refine pure_ (i := 12) (N := some 39) (v := ?_) (a' := ?_) #[true, true, false, false, true, true, false, true, true, false, false, true, true, false, false, false, false, false, false, false, false, false, false, false] rfl rfl (any_of HT_.out (by kernel_rfl)) (fun _ _ _ h => h) (Or.inl ⟨by rfl, ?_⟩) ?_ ?_
              rotate_left
              · intro w'
                go_simp
                with_reducible rfl
              rotate_left
              · simp only [Act.put, List.setIfInBounds_toArray, List.set_cons_zero, List.set_cons_succ, i64_w, i32_w]
                rfl
              refine pure_ (i := 15) (N := some 42) (v := ?_) (a' := ?_) #[true, true, false, false, true, true, false, true, true, false, false, true, true, false, false, true, false, false, false, false, false, false, false, false] rfl rfl (any_of HT_.out (by kernel_rfl)) (fun _ _ _ h => h) (Or.inl ⟨by rfl, ?_⟩) ?_ ?_
              rotate_left
              · intro w'
                go_simp
                with_reducible rfl
              rotate_left
              · simp only [Act.put, List.setIfInBounds_toArray, List.set_cons_zero, List.set_cons_succ, i64_w, i32_w]
                rfl
              refine pure_ (i := 16) (N := some 43) (v := ?_) (a' := ?_) #[true, true, false, false, true, true, false, true, true, false, false, true, true, false, false, true, true, false, false, false, false, false, false, false] rfl rfl (any_of HT_.out (by kernel_rfl)) (fun _ _ _ h => h) (Or.inl ⟨by rfl, ?_⟩) ?_ ?_
              rotate_left
              · intro w'
                go_simp
                with_reducible rfl
              rotate_left
              · simp only [Act.put, List.setIfInBounds_toArray, List.set_cons_zero, List.set_cons_succ, i64_w, i32_w]
                rfl
              refine pure_ (i := 18) (N := some 45) (v := ?_) (a' := ?_) #[true, true, false, false, true, true, false, true, true, false, false, true, true, false, false, true, true, false, true, false, false, false, false, false] rfl rfl (any_of HT_.out (by kernel_rfl)) (fun _ _ _ h => h) (Or.inl ⟨by rfl, ?_⟩) ?_ ?_
              rotate_left
              · intro w'
                go_simp
                with_reducible rfl
              rotate_left
              · simp only [Act.put, List.setIfInBounds_toArray, List.set_cons_zero, List.set_cons_succ, i64_w, i32_w]
                rfl
              refine pure_ (i := 19) (N := some 46) (v := ?_) (a' := ?_) #[true, true, false, false, true, true, false, true, true, false, false, true, true, false, false, true, true, false, true, true, false, false, false, false] rfl rfl (any_of HT_.out (by kernel_rfl)) (fun _ _ _ h => h) (Or.inl ⟨by rfl, ?_⟩) ?_ ?_
              rotate_left
              · intro w'
                go_simp
                with_reducible rfl
              rotate_left
              · simp only [Act.put, List.setIfInBounds_toArray, List.set_cons_zero, List.set_cons_succ, i64_w, i32_w]
                rfl
              refine take_ (i := 2) (N := some 29) (v := ?_) (a' := ?_) #[true, true, true, false, true, true, false, true, true, false, false, true, true, false, false, true, true, false, true, true, false, false, false, false] rfl rfl (take_ofW HT_.out HW_.out (by kernel_rfl)) (fun _ _ _ h => h) (Or.inl ⟨by rfl, ?_⟩) hHeld ?_ ?_
              rotate_left
              · rintro w' ⟨s0, s1, s2, s3, s4, s5⟩
                go_simp
                with_reducible rfl
              rotate_left
              · simp only [Act.put, List.setIfInBounds_toArray, List.set_cons_zero, List.set_cons_succ, i64_w, i32_w]
                rfl
              refine pure_ (i := 3) (N := some 30) (v := ?_) (a' := ?_) #[true, true, true, true, true, true, false, true, true, false, false, true, true, false, false, true, true, false, true, true, false, false, false, false] rfl rfl (any_of HT_.out (by kernel_rfl)) (fun _ _ _ h => h) (Or.inl ⟨by rfl, ?_⟩) ?_ ?_
              rotate_left
              · intro w'
                go_simp
                with_reducible rfl
              rotate_left
              · simp only [Act.put, List.setIfInBounds_toArray, List.set_cons_zero, List.set_cons_succ, i64_w, i32_w]
                rfl
              refine take_ (i := 6) (N := some 33) (v := ?_) (a' := ?_) #[true, true, true, true, true, true, true, true, true, false, false, true, true, false, false, true, true, false, true, true, false, false, false, false] rfl rfl (take_ofW HT_.out HW_.out (by kernel_rfl)) (fun _ _ _ h => h) (Or.inl ⟨by rfl, ?_⟩) hHeld ?_ ?_
              rotate_left
              · rintro w' ⟨s0, s1, s2, s3, s4, s5⟩
                go_simp
                with_reducible rfl
              rotate_left
              · simp only [Act.put, List.setIfInBounds_toArray, List.set_cons_zero, List.set_cons_succ, i64_w, i32_w]
                rfl
              refine take_ (i := 9) (N := some 36) (v := ?_) (a' := ?_) #[true, true, true, true, true, true, true, true, true, true, false, true, true, false, false, true, true, false, true, true, false, false, false, false] rfl rfl (take_ofW HT_.out HW_.out (by kernel_rfl)) (fun _ _ _ h => h) (Or.inl ⟨by rfl, ?_⟩) hHeld ?_ ?_
              rotate_left
              · rintro w' ⟨s0, s1, s2, s3, s4, s5⟩
                go_simp
                with_reducible rfl
              rotate_left
              · simp only [Act.put, List.setIfInBounds_toArray, List.set_cons_zero, List.set_cons_succ, i64_w, i32_w]
                rfl
              refine pure_ (i := 10) (N := some 37) (v := ?_) (a' := ?_) #[true, true, true, true, true, true, true, true, true, true, true, true, true, false, false, true, true, false, true, true, false, false, false, false] rfl rfl (any_of HT_.out (by kernel_rfl)) (fun _ _ _ h => h) (Or.inl ⟨by rfl, ?_⟩) ?_ ?_
              rotate_left
              · intro w'
                go_simp
                with_reducible rfl
              rotate_left
              · simp only [Act.put, List.setIfInBounds_toArray, List.set_cons_zero, List.set_cons_succ, i64_w, i32_w]
                rfl
              refine take_ (i := 13) (N := some 40) (v := ?_) (a' := ?_) #[true, true, true, true, true, true, true, true, true, true, true, true, true, true, false, true, true, false, true, true, false, false, false, false] rfl rfl (take_ofW HT_.out HW_.out (by kernel_rfl)) (fun _ _ _ h => h) (Or.inl ⟨by rfl, ?_⟩) hHeld ?_ ?_
              rotate_left
              · rintro w' ⟨s0, s1, s2, s3, s4, s5⟩
                go_simp
                with_reducible rfl
              rotate_left
              · simp only [Act.put, List.setIfInBounds_toArray, List.set_cons_zero, List.set_cons_succ, i64_w, i32_w]
                rfl
              refine pure_ (i := 14) (N := some 41) (v := ?_) (a' := ?_) #[true, true, true, true, true, true, true, true, true, true, true, true, true, true, true, true, true, false, true, true, false, false, false, false] rfl rfl (any_of HT_.out (by kernel_rfl)) (fun _ _ _ h => h) (Or.inl ⟨by rfl, ?_⟩) ?_ ?_
              rotate_left
              · intro w'
                go_simp
                with_reducible rfl
              rotate_left
              · simp only [Act.put, List.setIfInBounds_toArray, List.set_cons_zero, List.set_cons_succ, i64_w, i32_w]
                rfl
              refine take_ (i := 17) (N := some 44) (v := ?_) (a' := ?_) #[true, true, true, true, true, true, true, true, true, true, true, true, true, true, true, true, true, true, true, true, false, false, false, false] rfl rfl (take_ofW HT_.out HW_.out (by kernel_rfl)) (fun _ _ _ h => h) (Or.inl ⟨by rfl, ?_⟩) hHeld ?_ ?_
              rotate_left
              · rintro w' ⟨s0, s1, s2, s3, s4, s5⟩
                go_simp
                with_reducible rfl
              rotate_left
              · simp only [Act.put, List.setIfInBounds_toArray, List.set_cons_zero, List.set_cons_succ, i64_w, i32_w]
                rfl
              refine take_ (i := 20) (N := some 47) (v := ?_) (a' := ?_) #[true, true, true, true, true, true, true, true, true, true, true, true, true, true, true, true, true, true, true, true, true, false, false, false] rfl rfl (take_ofW HT_.out HW_.out (by kernel_rfl)) (fun _ _ _ h => h) (Or.inl ⟨by rfl, ?_⟩) hHeld ?_ ?_
              rotate_left
              · rintro w' ⟨s0, s1, s2, s3, s4, s5⟩
                go_simp
                with_reducible rfl
              rotate_left
              · simp only [Act.put, List.setIfInBounds_toArray, List.set_cons_zero, List.set_cons_succ, i64_w, i32_w]
                rfl
              refine pure_ (i := 21) (N := some 48) (v := ?_) (a' := ?_) #[true, true, true, true, true, true, true, true, true, true, true, true, true, true, true, true, true, true, true, true, true, true, false, false] rfl rfl (any_of HT_.out (by kernel_rfl)) (fun _ _ _ h => h) (Or.inl ⟨by rfl, ?_⟩) ?_ ?_
              rotate_left
              · intro w'
                go_simp
                with_reducible rfl
              rotate_left
              · simp only [Act.put, List.setIfInBounds_toArray, List.set_cons_zero, List.set_cons_succ, i64_w, i32_w]
                rfl
              refine one_ (i := 22) (N := some 49) #[true, true, true, true, true, true, true, true, true, true, true, true, true, true, true, true, true, true, true, true, true, true, true, false] rfl rfl (one_of HT_.out (by kernel_rfl)) (by decide) (fun K hK => ?_)
              refine Kd.R_lit_step k27 _ 27 ?hg (N := 49) ?hd (xs := ([(⟨1, (⟨#[]⟩ : ByteArray), rd t338 0, 0⟩ : S27), (⟨2, (⟨#[]⟩ : ByteArray), rd t338 0, rd t338 1⟩ : S27), (⟨4, (⟨#[]⟩ : ByteArray), rd t338 0, 0⟩ : S27), (⟨5, (⟨#[]⟩ : ByteArray), rd t338 0, rd t338 1⟩ : S27)] : List (S27))) (inner := [.int .i64 1, .string (⟨#[]⟩ : ByteArray), .int .i64 (rd t338 0), .int .i64 0, .int .i64 2, .string (⟨#[]⟩ : ByteArray), .int .i64 (rd t338 0), .int .i64 (rd t338 1), .int .i64 4, .string (⟨#[]⟩ : ByteArray), .int .i64 (rd t338 0), .int .i64 0, .int .i64 5, .string (⟨#[]⟩ : ByteArray), .int .i64 (rd t338 0), .int .i64 (rd t338 1)]) (ok := fun _ => True) (okp := fun _ => True) ?hr ?hp (fun _ hk => hk) trivial (Below.refl _ _) (Nat.le_refl _) (by simp) ?_; (case hd => rfl); (case hg => rfl); (case hr => first | (go_simp; done) | (go_simp; rfl)); (case hp => exact (Reps.c4 (show Kd.M k27 _ _ _ (⟨1, (⟨#[]⟩ : ByteArray), rd t338 0, 0⟩ : S27) [.int .i64 1, .string (⟨#[]⟩ : ByteArray), .int .i64 (rd t338 0), .int .i64 0] from (k27_mkM _ _ _ (⟨1, (⟨#[]⟩ : ByteArray), rd t338 0, 0⟩ : S27) )) (Reps.c4 (show Kd.M k27 _ _ _ (⟨2, (⟨#[]⟩ : ByteArray), rd t338 0, rd t338 1⟩ : S27) [.int .i64 2, .string (⟨#[]⟩ : ByteArray), .int .i64 (rd t338 0), .int .i64 (rd t338 1)] from (k27_mkM _ _ _ (⟨2, (⟨#[]⟩ : ByteArray), rd t338 0, rd t338 1⟩ : S27) )) (Reps.c4 (show Kd.M k27 _ _ _ (⟨4, (⟨#[]⟩ : ByteArray), rd t338 0, 0⟩ : S27) [.int .i64 4, .string (⟨#[]⟩ : ByteArray), .int .i64 (rd t338 0), .int .i64 0] from (k27_mkM _ _ _ (⟨4, (⟨#[]⟩ : ByteArray), rd t338 0, 0⟩ : S27) )) (Reps.c4 (show Kd.M k27 _ _ _ (⟨5, (⟨#[]⟩ : ByteArray), rd t338 0, rd t338 1⟩ : S27) [.int .i64 5, .string (⟨#[]⟩ : ByteArray), .int .i64 (rd t338 0), .int .i64 (rd t338 1)] from (k27_mkM _ _ _ (⟨5, (⟨#[]⟩ : ByteArray), rd t338 0, rd t338 1⟩ : S27) )) (Reps.none _ _))))))
              intro v348 w15 ho16 hb hg_ hnew_
              have HS0_ := (hb.cell (World.block_lt_of_cell? _ _ (hHeld.1))).trans (hHeld.1)
              have HS1_ := (hb.cell (World.block_lt_of_cell? _ _ (hHeld.2.1))).trans (hHeld.2.1)
              have HS2_ := (hb.cell (World.block_lt_of_cell? _ _ (hHeld.2.2.1))).trans (hHeld.2.2.1)
              have HS3_ := (hb.cell (World.block_lt_of_cell? _ _ (hHeld.2.2.2.1))).trans (hHeld.2.2.2.1)
              have HS4_ := (hb.cell (World.block_lt_of_cell? _ _ (hHeld.2.2.2.2.1))).trans (hHeld.2.2.2.2.1)
              have HS5_ := (hb.cell (World.block_lt_of_cell? _ _ (hHeld.2.2.2.2.2))).trans (hHeld.2.2.2.2.2)
              clear hg_ hnew_
              (first | rw [← Ny347.out] at ho16 | (simp only [Int.reduceToNat] at ho16; rw [← Ny347.out] at ho16))
              have n0_ := Aside0.mk (Kd.R_below (by (with_reducible repeat (first | apply Kd.R_alloc | apply Kd.R_drewN | apply Kd.R_drew)); exact HO340.out) hb)
              have n1_ := Aside0.mk (Kd.R_lower (Kd.R_newB ho16 (g := gb335) (o := .cells #[.int .i64 0, .string (⟨#[]⟩ : ByteArray), .int .i64 0, .int .i64 0] 27 (0, 0)) (by (with_reducible repeat (first | refine blk_drewN ?_ _ | refine blk_drew ?_ | refine blk_alloc ?_ _)); exact BK335.out)) (below_size (by repeat (first | (with_reducible first | exact HB.out | apply below_alloc | apply pw_below_drewN | apply below_drew1 | refine below_set ?_ GE335.out) | exact HB.out))))
              have n2_ := Aside0.mk (blk_below (g := gb335) (o := .cells #[.int .i64 0, .string (⟨#[]⟩ : ByteArray), .int .i64 0, .int .i64 0] 27 (0, 0)) (by (with_reducible repeat (first | refine blk_drewN ?_ _ | refine blk_drew ?_ | refine blk_alloc ?_ _)); exact BK335.out) hb)
              have n3_ := Aside0.mk (below_step (by repeat (first | (with_reducible first | exact HB.out | apply below_alloc | apply pw_below_drewN | apply below_drew1 | refine below_set ?_ GE335.out) | exact HB.out)) hb)
              clear HO340
              clear BK335
              clear HB
              have HO340 := n0_
              have HO349 := n1_
              have BK335 := n2_
              have HB := n3_
              clear n0_ n1_ n2_ n3_
              clear hb ho16
              refine hK.out _ _ ⟨HS0_, HS1_, HS2_, HS3_, HS4_, HS5_⟩ (fun hHeld => ?_)
              clear hK K
              refine norm_ (a' := ?_) ?_ ?_
              rotate_left
              · show Act.put _ (some 49) _ = _
                simp only [Act.put, List.setIfInBounds_toArray, List.set_cons_zero, List.set_cons_succ, i64_w, i32_w]
                rfl
              refine pure_ (i := 23) (N := some 7) (v := ?_) (a' := ?_) #[true, true, true, true, true, true, true, true, true, true, true, true, true, true, true, true, true, true, true, true, true, true, true, true] rfl rfl (any_of HT_.out (by kernel_rfl)) (fun _ _ _ h => h) (Or.inl ⟨by rfl, ?_⟩) ?_ ?_
              rotate_left
              · intro w'
                go_simp
                with_reducible rfl
              rotate_left
              · simp only [Act.put, List.setIfInBounds_toArray, List.set_cons_zero, List.set_cons_succ, i64_w, i32_w]
                rfl
              refine done_ (done_of HT_.out (by kernel_rfl)) ?_
              try go_wp2
              go_loopg [7, 8] kj2 (fun kq v7 v8 w' => ∃ (x7_2 : List (S27)) (x8_2 : Int), v8 = .int .i64 x8_2 ∧ Aside0 (impl_ParseNote.l0 kq a0 t336 x7_2 x8_2 = some (r1, r2, r3, r4, r5)) ∧ Aside0 (kq ≤ kj2) ∧ Aside0 (Kd.R k27 27 w' w.heap.size (fun k_ => k_ ≠ gb335) v7 x7_2) ∧ Aside0 (w'.heap[gb335]? = some (.cells #[.int .i64 0, .string (⟨#[]⟩ : ByteArray), .int .i64 0, .int .i64 0] 27 (0, 0))) ∧ Aside0 (Below w.heap.size w w'))
              case atStart => exact ⟨(y347), (1), (by first | rfl | (simp; done) | (simp [*]; done)), H', ⟨Nat.le_refl _⟩, ⟨by (with_reducible repeat (first | apply Kd.R_alloc | apply Kd.R_drewN | apply Kd.R_drew)); exact Kd.R_mono HO349.out (fun _ hk => hk.2)⟩, ⟨by (with_reducible repeat (first | refine blk_drewN ?_ _ | refine blk_drew ?_ | refine blk_alloc ?_ _)); exact BK335.out⟩, ⟨by repeat (first | (with_reducible first | exact HB.out | apply below_alloc | apply pw_below_drewN | apply below_drew1 | refine below_set ?_ GE335.out) | exact HB.out)⟩⟩
              case round =>
                clear H'
                try clear c1
                try clear p2
                try clear c3
                try clear p3
                try clear q3
                try clear hx3
                try clear qi3
                try clear c4
                try clear c5
                try clear c6
                try clear c8
                try clear c8b0
                try clear c8b1
                try clear c10
                try clear c10b0
                try clear c10b1
                try clear c11
                try clear c11b0
                try clear c11b1
                try clear hcz7_0
                try clear hcz7_1
                try clear hcz7_2
                try clear hcz7_3
                try clear hfz7_0
                try clear hfz7_1
                try clear hfz7_2
                try clear hfz7_3
                try clear hx341_0
                try clear hx342_0
                try clear hx343_0
                try clear hx344_0
                try clear hx345_0
                try clear hx346_0
                try clear p2
                try clear p341
                try clear p342
                try clear p343
                try clear p344
                try clear p345
                try clear p346
                try clear q341
                try clear q342
                try clear q343
                try clear q344
                try clear q345
                try clear q346
                obtain ⟨x7_2, x8_2, rfl, HA, HK2, HO_7, BK335, HB⟩ := hrel
                cases gk with
                | zero => exact absurd HA.out (by simp [impl_ParseNote.l0])
                | succ k2 =>
                  have H := HA.out
                  clear HA
                  simp only [impl_ParseNote.l0] at H
                  by_cases c17 : x8_2 ≤ 15
                  · rw [if_pos c17] at H
                    have c17b0 : decide (x8_2 ≤ 15) = true := decide_eq_true c17
                    clear c17
                    by_cases c18 : x7_2.length < 3518437208883
                    · rw [if_pos c18] at H
                      have LMc18 := Aside0.mk c18
                      clear c18
                      obtain ⟨y350, hy350⟩ : ∃ y_ : List (S27), y_ = (x7_2 ++ [(⟨3, (⟨#[]⟩ : ByteArray), x8_2, 0⟩ : S27)]) := ⟨_, rfl⟩
                      replace H : (impl_ParseNote.l0 k2 a0 t336 y350 (wrap64 (x8_2 + 1))) = some (r1, r2, r3, r4, r5) := by first | (rw [hy350]; with_reducible exact H) | (have H2_ := (Option.bind_some _ _).symm.trans H; rw [hy350]; with_reducible exact H2_) | (have H2_ := (Option.bind_some _ _).symm.trans H; with_reducible exact H2_) | with_reducible exact H | (rw [hy350]; exact H) | exact H
                      have Ny350 := Aside0.mk hy350
                      clear hy350
                      have H' := Aside0.mk H
                      clear H
                      go_wp2_with (first | ((with_reducible refine gate_builtin (b := .append) (xs := #[.tmp 54, .tmp 57]) rfl ?_); (try (refine gate_guard (by rfl) ?_; dsimp only)); at_builtin; refine Kd.R_append k27 (w0 := w) w.heap.size rfl (.tmp 54) (.tmp 57) 33 27 (.agg #[(.int .i64 0), (.string ⟨#[]⟩), (.int .i64 0), (.int .i64 0)]) 40 rfl Tryd.underlying33 info27 rfl (by decide) (by omega) u7 x7_2 (⟨3, (⟨#[]⟩ : ByteArray), x8_2, 0⟩ : S27) [.int .i64 3, .string (⟨#[]⟩ : ByteArray), .int .i64 x8_2, .int .i64 0] (fun k_ => k_ ≠ gb335) (fun _ => False) rfl rfl ?aP (fun _ hk => hk.elim) ?aF ?aO ?aB ?aS ?aL ?_; (case aP => exact k27_mkM _ _ _ (⟨3, (⟨#[]⟩ : ByteArray), x8_2, 0⟩ : S27)); (case aB => exact (by repeat (first | (with_reducible first | exact HB.out | apply below_alloc | apply pw_below_drewN | apply below_drew1 | refine below_set ?_ GE335.out) | exact HB.out))); (case aF => exact (fun k_ hk => Kd.freshB (g := gb335) (o := .cells #[.int .i64 0, .string (⟨#[]⟩ : ByteArray), .int .i64 0, .int .i64 0] 27 (0, 0)) (by (with_reducible repeat (first | refine blk_drewN ?_ _ | refine blk_drew ?_ | refine blk_alloc ?_ _)); exact BK335.out) k_ hk)); (case aO => exact (by (with_reducible repeat (first | apply Kd.R_alloc | apply Kd.R_drewN | apply Kd.R_drew)); exact HO_7.out)); (case aS => exact (below_size (by repeat (first | (with_reducible first | exact HB.out | apply below_alloc | apply pw_below_drewN | apply below_drew1 | refine below_set ?_ GE335.out) | exact HB.out)))); (case aL => have := LMc18.out; omega); intro v351 w19 ho hb hg hat; rw [← Ny350.out] at ho; have n0_ := Aside0.mk (blk_grown (g := gb335) (o := .cells #[.int .i64 0, .string (⟨#[]⟩ : ByteArray), .int .i64 0, .int .i64 0] 27 (0, 0)) (by (with_reducible repeat (first | refine blk_drewN ?_ _ | refine blk_drew ?_ | refine blk_alloc ?_ _)); exact BK335.out) hg (Kd.R_away HO_7.out (fun _ hk => hk))); have n1_ := Aside0.mk (hb); have n2_ := Aside0.mk (ho); clear BK335; clear HB; clear HO_7; have BK335 := n0_; have HB := n1_; have HO352 := n2_; clear n0_ n1_ n2_; clear ho hb hg hat))
                      go_roundg k2
                      case measure => have := HJ2.out; have := HK2.out; omega
                      case rel => exact ⟨(y350), (wrap64 (x8_2 + 1)), (by first | rfl | (simp; done) | (simp [*]; done)), H', ⟨by have := HJ2.out; have := HK2.out; omega⟩, ⟨by (with_reducible repeat (first | apply Kd.R_alloc | apply Kd.R_drewN | apply Kd.R_drew)); exact HO352.out⟩, ⟨by (with_reducible repeat (first | refine blk_drewN ?_ _ | refine blk_drew ?_ | refine blk_alloc ?_ _)); exact BK335.out⟩, ⟨by repeat (first | (with_reducible first | exact HB.out | apply below_alloc | apply pw_below_drewN | apply below_drew1 | refine below_set ?_ GE335.out) | exact HB.out)⟩⟩
                    · rw [if_neg c18] at H
                      exact absurd H (by simp)
                  · rw [if_neg c17] at H
                    have c17b0 : decide (x8_2 ≤ 15) = false := decide_eq_false c17
                    clear c17
                    have H' := Aside0.mk H
                    clear H
                    obtain ⟨Ao20, co20, eo20⟩ := Kd.R_slice HO_7.out
                    subst eo20
                    go_wp2
                    go_loopg [61] k2 (fun kq v61 w' => ∃ (x61_3 : Int) (x336000_3 : Int) (x336001_3 : ByteArray) (x336002_3 : Int) (x336003_3 : Int), v61 = .int .i64 x61_3 ∧ Aside0 (impl_ParseNote.l1 kq a0 t336 x7_2 (x7_2.length : Int) x61_3 = some (r1, r2, r3, r4, r5)) ∧ Aside0 (kq ≤ k2) ∧ Aside0 (Kd.R k27 27 w' w.heap.size (fun k_ => k_ ≠ gb335) (.slice Ao20 x7_2.length co20) x7_2) ∧ Aside0 (w'.heap[gb335]? = some (.cells #[.int .i64 x336000_3, .string x336001_3, .int .i64 x336002_3, .int .i64 x336003_3] 27 (0, 0))) ∧ Aside0 (Below w.heap.size w w'))
                    case atStart => exact ⟨(0), (0), ((⟨#[]⟩ : ByteArray)), (0), (0), (by first | rfl | (simp; done) | (simp [*]; done)), H', ⟨Nat.le_refl _⟩, ⟨by (with_reducible repeat (first | apply Kd.R_alloc | apply Kd.R_drewN | apply Kd.R_drew)); exact HO_7.out⟩, ⟨by (with_reducible repeat (first | refine blk_drewN ?_ _ | refine blk_drew ?_ | refine blk_alloc ?_ _)); exact BK335.out⟩, ⟨by repeat (first | (with_reducible first | exact HB.out | apply below_alloc | apply pw_below_drewN | apply below_drew1 | refine below_set ?_ GE335.out) | exact HB.out)⟩⟩
                    case round =>
                      clear H'
                      try clear c1
                      try clear p2
                      try clear c3
                      try clear p3
                      try clear q3
                      try clear hx3
                      try clear qi3
                      try clear c4
                      try clear c5
                      try clear c6
                      try clear p6
                      try clear c8
                      try clear c8b0
                      try clear c8b1
                      try clear c10
                      try clear c10b0
                      try clear c10b1
                      try clear c11
                      try clear c11b0
                      try clear c11b1
                      try clear c17
                      try clear c17b0
                      try clear c18
                      try clear hcz7_0
                      try clear hcz7_1
                      try clear hcz7_2
                      try clear hcz7_3
                      try clear hfz7_0
                      try clear hfz7_1
                      try clear hfz7_2
                      try clear hfz7_3
                      try clear hx341_0
                      try clear hx342_0
                      try clear hx343_0
                      try clear hx344_0
                      try clear hx345_0
                      try clear hx346_0
                      try clear p2
                      try clear p3
                      try clear p341
                      try clear p342
                      try clear p343
                      try clear p344
                      try clear p345
                      try clear p346
                      try clear q3
                      try clear q341
                      try clear q342
                      try clear q343
                      try clear q344
                      try clear q345
                      try clear q346
                      obtain ⟨x61_3, x336000_3, x336001_3, x336002_3, x336003_3, rfl, HA, HK3, HO_59, BK335, HB⟩ := hrel
                      cases gk with
                      | zero => exact absurd HA.out (by simp [impl_ParseNote.l1])
                      | succ k3 =>
                        have H := HA.out
                        clear HA
                        simp only [impl_ParseNote.l1] at H
                        by_cases c21 : x61_3 < (x7_2.length : Int)
                        · rw [if_pos c21] at H
                          have c21b0 : decide (x61_3 < (x7_2.length : Int)) = true := decide_eq_true c21
                          clear c21
                          by_cases c22 : 0 ≤ x61_3
                          · rw [if_pos c22] at H
                            have c22b0 : decide (0 ≤ x61_3) = true := decide_eq_true c22
                            clear c22
                            by_cases c23 : x61_3 < (x7_2.length : Int)
                            · rw [if_pos c23] at H
                              have c23b0 : decide (x61_3 < (x7_2.length : Int)) = true := decide_eq_true c23
                              clear c23
                              by_cases c24 : 0 ≤ 8
                              · rw [if_pos c24] at H
                                have c24b0 := eq_true c24
                                have c24b1 : decide (0 ≤ 8) = true := decide_eq_true c24
                                clear c24
                                by_cases c25 : 8 ≤ (t336.size : Int)
                                · rw [if_pos c25] at H
                                  have c25b0 := eq_true c25
                                  have c25b1 : decide (8 ≤ (t336.size : Int)) = true := decide_eq_true c25
                                  clear c25
                                  replace H := Option.bind_eq_some_iff.mp H
                                  obtain ⟨t355, A260, H⟩ := H
                                  replace H : (if t355 = true then ((impl_noteText.f k3 ((rd_T27 x7_2 x61_3).f0) (t336.extract 0 8) ((rd_T27 x7_2 x61_3).f2) ((rd_T27 x7_2 x61_3).f3)).bind fun t356 => (if t356.toList = a0.toList then (some ((rd_T27 x7_2 x61_3).f0, t336.extract 0 8, (rd_T27 x7_2 x61_3).f2, (rd_T27 x7_2 x61_3).f3, true)) else (impl_ParseNote.l1 k3 a0 t336 x7_2 (x7_2.length : Int) (wrap64 (x61_3 + 1))))) else (impl_ParseNote.l1 k3 a0 t336 x7_2 (x7_2.length : Int) (wrap64 (x61_3 + 1)))) = some (r1, r2, r3, r4, r5) := H
                                  have A26 := Aside0.mk A260
                                  clear A260
                                  by_cases c27 : t355 = true
                                  · subst c27
                                    have H1 : ((impl_noteText.f k3 ((rd_T27 x7_2 x61_3).f0) (t336.extract 0 8) ((rd_T27 x7_2 x61_3).f2) ((rd_T27 x7_2 x61_3).f3)).bind fun t356 => (if t356.toList = a0.toList then (some ((rd_T27 x7_2 x61_3).f0, t336.extract 0 8, (rd_T27 x7_2 x61_3).f2, (rd_T27 x7_2 x61_3).f3, true)) else (impl_ParseNote.l1 k3 a0 t336 x7_2 (x7_2.length : Int) (wrap64 (x61_3 + 1))))) = some (r1, r2, r3, r4, r5) := by rw [if_pos rfl] at H; exact H
                                    clear H
                                    have H := H1
                                    clear H1
                                    replace H := Option.bind_eq_some_iff.mp H
                                    obtain ⟨t356, A280, H⟩ := H
                                    replace H : (if t356.toList = a0.toList then (some ((rd_T27 x7_2 x61_3).f0, t336.extract 0 8, (rd_T27 x7_2 x61_3).f2, (rd_T27 x7_2 x61_3).f3, true)) else (impl_ParseNote.l1 k3 a0 t336 x7_2 (x7_2.length : Int) (wrap64 (x61_3 + 1)))) = some (r1, r2, r3, r4, r5) := H
                                    have A28 := Aside0.mk A280
                                    clear A280
                                    by_cases c29 : t356.toList = a0.toList
                                    · rw [if_pos c29] at H
                                      have c29b0 : (t356.toList == a0.toList) = true := beq_iff_eq.mpr c29
                                      have c29b1 : (t356.toList != a0.toList) = false := bne_eq_false_iff_eq.mpr c29
                                      clear c29
                                      simp only [Option.some.injEq, Prod.mk.injEq] at H
                                      obtain ⟨rfl, rfl, rfl, rfl, rfl⟩ := H
                                      have p353 : 0 ≤ (x61_3 : Int) := of_decide_eq_true (by first | (with_reducible assumption) | assumption)
                                      have q353 : x61_3 < (x7_2.length : Int) := of_decide_eq_true (by first | (with_reducible assumption) | assumption)
                                      obtain ⟨ad353, e353, hx353_0, hx353_1, hx353_2, hx353_3⟩ := at_T27 (Kd.R_reads' HO_59.out).2.2 x61_3 p353 q353
                                      cases e353
                                      replace p353 := eq_true p353
                                      replace q353 := eq_true q353
                                      go_upto_region 14 with (first | ((with_reducible refine gate_dst (N := 10) rfl ?_); (try (refine gate_guard (by rfl) ?_; dsimp only)); refine box_event ?hg (N := 10) ?hd (cs := #[.int .i64 0, .string (⟨#[]⟩ : ByteArray), .int .i64 0, .int .i64 0]) (t := 27) ?hr ?_; (case hd => rfl); (case hg => rfl); (case hr => first | (go_simp; done) | (go_simp; rfl)); intro gb354 hg w30 hbox hb; have n0_ := Aside0.mk (Kd.R_below (Kd.R_elderB (by (with_reducible repeat (first | apply Kd.R_alloc | apply Kd.R_drewN | apply Kd.R_drew)); exact HO_59.out) gb354 (Nat.le_of_eq hg.symm)) hb); have n1_ := Aside0.mk (blk_below (g := gb335) (o := .cells #[.int .i64 x336000_3, .string x336001_3, .int .i64 x336002_3, .int .i64 x336003_3] 27 (0, 0)) (by (with_reducible repeat (first | refine blk_drewN ?_ _ | refine blk_drew ?_ | refine blk_alloc ?_ _)); exact BK335.out) hb); have n2_ := Aside0.mk (below_step (by repeat (first | (with_reducible first | exact HB.out | apply below_alloc | apply pw_below_drewN | apply below_drew1 | refine below_set ?_ GE335.out) | exact HB.out)) hb); have n3_ := Aside0.mk (hbox); have n4_ := Aside0.mk ((by rw [hg]; exact (below_size (by repeat (first | (with_reducible first | exact HB.out | apply below_alloc | apply pw_below_drewN | apply below_drew1 | refine below_set ?_ GE335.out) | exact HB.out))) : w.heap.size ≤ gb354)); have n5_ := Aside0.mk ((by rw [hg]; exact (below_size (by repeat (first | (with_reducible first | exact HB.out | apply below_alloc | apply pw_below_drewN | apply below_drew1 | refine below_set ?_ GE335.out) | exact HB.out))) : w.heap.size ≤ gb354)); have n6_ := Aside0.mk ((by rw [hg]; exact Nat.ne_of_lt (blk_lt (g := gb335) (o := .cells #[.int .i64 x336000_3, .string x336001_3, .int .i64 x336002_3, .int .i64 x336003_3] 27 (0, 0)) (by (with_reducible repeat (first | refine blk_drewN ?_ _ | refine blk_drew ?_ | refine blk_alloc ?_ _)); exact BK335.out)) : gb335 ≠ gb354)); have n7_ := Aside0.mk ((by rw [hg]; exact Nat.ne_of_gt (blk_lt (g := gb335) (o := .cells #[.int .i64 x336000_3, .string x336001_3, .int .i64 x336002_3, .int .i64 x336003_3] 27 (0, 0)) (by (with_reducible repeat (first | refine blk_drewN ?_ _ | refine blk_drew ?_ | refine blk_alloc ?_ _)); exact BK335.out)) : gb354 ≠ gb335)); clear HO_59; clear BK335; clear HB; have HO_59 := n0_; have BK335 := n1_; have HB := n2_; have BK354 := n3_; have GW354 := n4_; have GE354 := n5_; have NB335_354 := n6_; have NB354_335 := n7_; clear n0_ n1_ n2_ n3_ n4_ n5_ n6_ n7_; clear hb hbox hg; have hnb31 := NB354_335.out; have hnc31 := NB335_354.out; have hcz32_0 : w30.cell? ⟨gb354, 0, none⟩ = some (.int .i64 0) := (blk_cell BK354.out 0).trans rfl; have hcz32_1 : w30.cell? ⟨gb354, 1, none⟩ = some (.string (⟨#[]⟩ : ByteArray)) := (blk_cell BK354.out 1).trans rfl; have hcz32_2 : w30.cell? ⟨gb354, 2, none⟩ = some (.int .i64 0) := (blk_cell BK354.out 2).trans rfl; have hcz32_3 : w30.cell? ⟨gb354, 3, none⟩ = some (.int .i64 0) := (blk_cell BK354.out 3).trans rfl; have hfz32_0 := blk_frozen BK354.out 0; have hfz32_1 := blk_frozen BK354.out 1; have hfz32_2 := blk_frozen BK354.out 2; have hfz32_3 := blk_frozen BK354.out 3))
                                      have m0_ := Aside0.mk (Kd.R_mono (Kd.R_far (p := ⟨gb354, 1, none⟩) (Kd.R_far (p := ⟨gb354, 3, none⟩) (Kd.R_far (p := ⟨gb354, 2, none⟩) (Kd.R_far (p := ⟨gb354, 1, none⟩) (Kd.R_far (p := ⟨gb354, 0, none⟩) (Kd.R_mono HO_59.out (fun k_ hk => (⟨hk, hk.2⟩ : _ ∧ k_ ≠ gb354))) (fun _ hk => hk.2) (.int .i64 ((rd_T27 x7_2 x61_3).f0))) (fun _ hk => hk.2) (.string ((rd_T27 x7_2 x61_3).f1))) (fun _ hk => hk.2) (.int .i64 ((rd_T27 x7_2 x61_3).f2))) (fun _ hk => hk.2) (.int .i64 ((rd_T27 x7_2 x61_3).f3))) (fun _ hk => hk.2) (.string (t336.extract 0 8))) (fun _ h_ => h_.1))
                                      have m1_ := Aside0.mk (show (((((w30.setCell ⟨gb354, 0, none⟩ (.int .i64 ((rd_T27 x7_2 x61_3).f0))).setCell ⟨gb354, 1, none⟩ (.string ((rd_T27 x7_2 x61_3).f1))).setCell ⟨gb354, 2, none⟩ (.int .i64 ((rd_T27 x7_2 x61_3).f2))).setCell ⟨gb354, 3, none⟩ (.int .i64 ((rd_T27 x7_2 x61_3).f3))).setCell ⟨gb354, 1, none⟩ (.string (t336.extract 0 8))).heap[gb335]? = some (.cells #[.int .i64 x336000_3, .string x336001_3, .int .i64 x336002_3, .int .i64 x336003_3] 27 (0, 0)) from by (with_reducible repeat (first | refine blk_drewN ?_ _ | refine blk_drew ?_ | refine blk_alloc ?_ _)); refine blk_far ?_ NB335_354.out _; (with_reducible repeat (first | refine blk_drewN ?_ _ | refine blk_drew ?_ | refine blk_alloc ?_ _)); refine blk_far ?_ NB335_354.out _; (with_reducible repeat (first | refine blk_drewN ?_ _ | refine blk_drew ?_ | refine blk_alloc ?_ _)); refine blk_far ?_ NB335_354.out _; (with_reducible repeat (first | refine blk_drewN ?_ _ | refine blk_drew ?_ | refine blk_alloc ?_ _)); refine blk_far ?_ NB335_354.out _; (with_reducible repeat (first | refine blk_drewN ?_ _ | refine blk_drew ?_ | refine blk_alloc ?_ _)); refine blk_far ?_ NB335_354.out _; (with_reducible repeat (first | refine blk_drewN ?_ _ | refine blk_drew ?_ | refine blk_alloc ?_ _)); exact BK335.out)
                                      have m2_ := Aside0.mk (show (((((w30.setCell ⟨gb354, 0, none⟩ (.int .i64 ((rd_T27 x7_2 x61_3).f0))).setCell ⟨gb354, 1, none⟩ (.string ((rd_T27 x7_2 x61_3).f1))).setCell ⟨gb354, 2, none⟩ (.int .i64 ((rd_T27 x7_2 x61_3).f2))).setCell ⟨gb354, 3, none⟩ (.int .i64 ((rd_T27 x7_2 x61_3).f3))).setCell ⟨gb354, 1, none⟩ (.string (t336.extract 0 8))).heap[gb354]? = some (.cells #[.int .i64 ((rd_T27 x7_2 x61_3).f0), .string (t336.extract 0 8), .int .i64 ((rd_T27 x7_2 x61_3).f2), .int .i64 ((rd_T27 x7_2 x61_3).f3)] 27 (0, 0)) from by (with_reducible repeat (first | refine blk_drewN ?_ _ | refine blk_drew ?_ | refine blk_alloc ?_ _)); refine blk_put (cs := #[.int .i64 ((rd_T27 x7_2 x61_3).f0), .string ((rd_T27 x7_2 x61_3).f1), .int .i64 ((rd_T27 x7_2 x61_3).f2), .int .i64 ((rd_T27 x7_2 x61_3).f3)]) ?_ 1 _ rfl; (with_reducible repeat (first | refine blk_drewN ?_ _ | refine blk_drew ?_ | refine blk_alloc ?_ _)); refine blk_put (cs := #[.int .i64 ((rd_T27 x7_2 x61_3).f0), .string ((rd_T27 x7_2 x61_3).f1), .int .i64 ((rd_T27 x7_2 x61_3).f2), .int .i64 0]) ?_ 3 _ rfl; (with_reducible repeat (first | refine blk_drewN ?_ _ | refine blk_drew ?_ | refine blk_alloc ?_ _)); refine blk_put (cs := #[.int .i64 ((rd_T27 x7_2 x61_3).f0), .string ((rd_T27 x7_2 x61_3).f1), .int .i64 0, .int .i64 0]) ?_ 2 _ rfl; (with_reducible repeat (first | refine blk_drewN ?_ _ | refine blk_drew ?_ | refine blk_alloc ?_ _)); refine blk_put (cs := #[.int .i64 ((rd_T27 x7_2 x61_3).f0), .string (⟨#[]⟩ : ByteArray), .int .i64 0, .int .i64 0]) ?_ 1 _ rfl; (with_reducible repeat (first | refine blk_drewN ?_ _ | refine blk_drew ?_ | refine blk_alloc ?_ _)); refine blk_put (cs := #[.int .i64 0, .string (⟨#[]⟩ : ByteArray), .int .i64 0, .int .i64 0]) ?_ 0 _ rfl; (with_reducible repeat (first | refine blk_drewN ?_ _ | refine blk_drew ?_ | refine blk_alloc ?_ _)); exact BK354.out)
                                      have m3_ := Aside0.mk (show Below w.heap.size w (((((w30.setCell ⟨gb354, 0, none⟩ (.int .i64 ((rd_T27 x7_2 x61_3).f0))).setCell ⟨gb354, 1, none⟩ (.string ((rd_T27 x7_2 x61_3).f1))).setCell ⟨gb354, 2, none⟩ (.int .i64 ((rd_T27 x7_2 x61_3).f2))).setCell ⟨gb354, 3, none⟩ (.int .i64 ((rd_T27 x7_2 x61_3).f3))).setCell ⟨gb354, 1, none⟩ (.string (t336.extract 0 8))) from by repeat (first | (with_reducible first | exact HB.out | apply below_alloc | apply pw_below_drewN | apply below_drew1 | refine below_set ?_ GE335.out | refine below_set ?_ GE354.out) | exact HB.out))
                                      generalize (((((w30.setCell ⟨gb354, 0, none⟩ (.int .i64 ((rd_T27 x7_2 x61_3).f0))).setCell ⟨gb354, 1, none⟩ (.string ((rd_T27 x7_2 x61_3).f1))).setCell ⟨gb354, 2, none⟩ (.int .i64 ((rd_T27 x7_2 x61_3).f2))).setCell ⟨gb354, 3, none⟩ (.int .i64 ((rd_T27 x7_2 x61_3).f3))).setCell ⟨gb354, 1, none⟩ (.string (t336.extract 0 8))) = w30n at m0_ m1_ m2_ m3_ ⊢
                                      clear hcz32_0 hcz32_1 hcz32_2 hcz32_3 hfz32_0 hfz32_1 hfz32_2 hfz32_3
                                      clear HO_59 BK335 BK354 HB
                                      have HO_59 := m0_
                                      have BK335 := m1_
                                      have BK354 := m2_
                                      have HB := m3_
                                      clear m0_ m1_ m2_ m3_
                                      have hcn_0 : w30n.cell? ⟨gb354, 0, none⟩ = some (.int .i64 ((rd_T27 x7_2 x61_3).f0)) := (blk_cell BK354.out 0).trans rfl
                                      have hcn_1 : w30n.cell? ⟨gb354, 1, none⟩ = some (.string (t336.extract 0 8)) := (blk_cell BK354.out 1).trans rfl
                                      have hcn_2 : w30n.cell? ⟨gb354, 2, none⟩ = some (.int .i64 ((rd_T27 x7_2 x61_3).f2)) := (blk_cell BK354.out 2).trans rfl
                                      have hcn_3 : w30n.cell? ⟨gb354, 3, none⟩ = some (.int .i64 ((rd_T27 x7_2 x61_3).f3)) := (blk_cell BK354.out 3).trans rfl
                                      go_wp2_with (first | ((with_reducible refine gate_callee (f := 25) rfl ?_); refine goesL_ (some 69) rfl rfl Tryd.func25 (by kernel_rfl) rfl #[.agg #[.int .i64 ((rd_T27 x7_2 x61_3).f0), .string (t336.extract 0 8), .int .i64 ((rd_T27 x7_2 x61_3).f2), .int .i64 ((rd_T27 x7_2 x61_3).f3)]] rfl (by (try simp only [List.map_toArray, List.map_cons, List.map_nil]); first | done | rfl | (simp only [List.length_drop, List.length_take]; rfl)) ?_; (with_reducible refine (impl_IsValidNote.calls k3 ((rd_T27 x7_2 x61_3).f0) (t336.extract 0 8) ((rd_T27 x7_2 x61_3).f2) ((rd_T27 x7_2 x61_3).f3) true _ A26.out).mono ?_); rintro e w33 ⟨rfl, hb⟩; refine ⟨_, rfl, ?_⟩; have n0_ := Aside0.mk (Kd.R_below (by (with_reducible repeat (first | apply Kd.R_alloc | apply Kd.R_drewN | apply Kd.R_drew)); exact HO_59.out) hb); have n1_ := Aside0.mk (blk_below (g := gb335) (o := .cells #[.int .i64 x336000_3, .string x336001_3, .int .i64 x336002_3, .int .i64 x336003_3] 27 (0, 0)) (by (with_reducible repeat (first | refine blk_drewN ?_ _ | refine blk_drew ?_ | refine blk_alloc ?_ _)); exact BK335.out) hb); have n2_ := Aside0.mk (blk_below (g := gb354) (o := .cells #[.int .i64 ((rd_T27 x7_2 x61_3).f0), .string (t336.extract 0 8), .int .i64 ((rd_T27 x7_2 x61_3).f2), .int .i64 ((rd_T27 x7_2 x61_3).f3)] 27 (0, 0)) (by (with_reducible repeat (first | refine blk_drewN ?_ _ | refine blk_drew ?_ | refine blk_alloc ?_ _)); exact BK354.out) hb); have n3_ := Aside0.mk (below_step (by repeat (first | (with_reducible first | exact HB.out | apply below_alloc | apply pw_below_drewN | apply below_drew1 | refine below_set ?_ GE335.out | refine below_set ?_ GE354.out) | exact HB.out)) hb); clear HO_59; clear BK335; clear BK354; clear HB; have HO_59 := n0_; have BK335 := n1_; have BK354 := n2_; have HB := n3_; clear n0_ n1_ n2_ n3_; (try clear hb); (try clear hb2); (try clear hk); (try clear hi); have hcz34_0 : w33.cell? ⟨gb354, 0, none⟩ = some (.int .i64 ((rd_T27 x7_2 x61_3).f0)) := (blk_cell BK354.out 0).trans rfl; have hcz34_1 : w33.cell? ⟨gb354, 1, none⟩ = some (.string (t336.extract 0 8)) := (blk_cell BK354.out 1).trans rfl; have hcz34_2 : w33.cell? ⟨gb354, 2, none⟩ = some (.int .i64 ((rd_T27 x7_2 x61_3).f2)) := (blk_cell BK354.out 2).trans rfl; have hcz34_3 : w33.cell? ⟨gb354, 3, none⟩ = some (.int .i64 ((rd_T27 x7_2 x61_3).f3)) := (blk_cell BK354.out 3).trans rfl; have hfz34_0 := blk_frozen BK354.out 0; have hfz34_1 := blk_frozen BK354.out 1; have hfz34_2 := blk_frozen BK354.out 2; have hfz34_3 := blk_frozen BK354.out 3; (try clear hcn_0 hcn_1 hcn_2 hcn_3)) | (go_at_call 26; (with_reducible refine (impl_noteText.calls k3 ((rd_T27 x7_2 x61_3).f0) (t336.extract 0 8) ((rd_T27 x7_2 x61_3).f2) ((rd_T27 x7_2 x61_3).f3) t356 _ ?side1 A28.out).mono ?_); (case side1 => exact Glob.below HGL.out (by repeat (first | (with_reducible first | exact HB.out | apply below_alloc | apply pw_below_drewN | apply below_drew1 | refine below_set ?_ GE335.out | refine below_set ?_ GE354.out) | exact HB.out))); rintro e w35 ⟨rfl, hb⟩; have n0_ := Aside0.mk (Kd.R_below (by (with_reducible repeat (first | apply Kd.R_alloc | apply Kd.R_drewN | apply Kd.R_drew)); exact HO_59.out) hb); have n1_ := Aside0.mk (blk_below (g := gb335) (o := .cells #[.int .i64 x336000_3, .string x336001_3, .int .i64 x336002_3, .int .i64 x336003_3] 27 (0, 0)) (by (with_reducible repeat (first | refine blk_drewN ?_ _ | refine blk_drew ?_ | refine blk_alloc ?_ _)); exact BK335.out) hb); have n2_ := Aside0.mk (blk_below (g := gb354) (o := .cells #[.int .i64 ((rd_T27 x7_2 x61_3).f0), .string (t336.extract 0 8), .int .i64 ((rd_T27 x7_2 x61_3).f2), .int .i64 ((rd_T27 x7_2 x61_3).f3)] 27 (0, 0)) (by (with_reducible repeat (first | refine blk_drewN ?_ _ | refine blk_drew ?_ | refine blk_alloc ?_ _)); exact BK354.out) hb); have n3_ := Aside0.mk (below_step (by repeat (first | (with_reducible first | exact HB.out | apply below_alloc | apply pw_below_drewN | apply below_drew1 | refine below_set ?_ GE335.out | refine below_set ?_ GE354.out) | exact HB.out)) hb); clear HO_59; clear BK335; clear BK354; clear HB; have HO_59 := n0_; have BK335 := n1_; have BK354 := n2_; have HB := n3_; clear n0_ n1_ n2_ n3_; (try clear hb); (try clear hb2); (try clear hk); (try clear hi); have hcz36_0 : w35.cell? ⟨gb354, 0, none⟩ = some (.int .i64 ((rd_T27 x7_2 x61_3).f0)) := (blk_cell BK354.out 0).trans rfl; have hcz36_1 : w35.cell? ⟨gb354, 1, none⟩ = some (.string (t336.extract 0 8)) := (blk_cell BK354.out 1).trans rfl; have hcz36_2 : w35.cell? ⟨gb354, 2, none⟩ = some (.int .i64 ((rd_T27 x7_2 x61_3).f2)) := (blk_cell BK354.out 2).trans rfl; have hcz36_3 : w35.cell? ⟨gb354, 3, none⟩ = some (.int .i64 ((rd_T27 x7_2 x61_3).f3)) := (blk_cell BK354.out 3).trans rfl; have hfz36_0 := blk_frozen BK354.out 0; have hfz36_1 := blk_frozen BK354.out 1; have hfz36_2 := blk_frozen BK354.out 2; have hfz36_3 := blk_frozen BK354.out 3; have hcz37_0 : w35.cell? ⟨gb335, 0, none⟩ = some (.int .i64 x336000_3) := (blk_cell BK335.out 0).trans rfl; have hcz37_1 : w35.cell? ⟨gb335, 1, none⟩ = some (.string x336001_3) := (blk_cell BK335.out 1).trans rfl; have hcz37_2 : w35.cell? ⟨gb335, 2, none⟩ = some (.int .i64 x336002_3) := (blk_cell BK335.out 2).trans rfl; have hcz37_3 : w35.cell? ⟨gb335, 3, none⟩ = some (.int .i64 x336003_3) := (blk_cell BK335.out 3).trans rfl; have hfz37_0 := blk_frozen BK335.out 0; have hfz37_1 := blk_frozen BK335.out 1; have hfz37_2 := blk_frozen BK335.out 2; have hfz37_3 := blk_frozen BK335.out 3))
                                      refine bodyPost_ret (results_ct rfl _ _ gb335 27 #[.int .i64 ((rd_T27 x7_2 x61_3).f0), .string (t336.extract 0 8), .int .i64 ((rd_T27 x7_2 x61_3).f2), .int .i64 ((rd_T27 x7_2 x61_3).f3)] (0, 0) _ rfl (by (with_reducible repeat (first | refine blk_drewN ?_ _ | refine blk_drew ?_ | refine blk_alloc ?_ _)); refine blk_put (cs := #[.int .i64 ((rd_T27 x7_2 x61_3).f0), .string (t336.extract 0 8), .int .i64 ((rd_T27 x7_2 x61_3).f2), .int .i64 x336003_3]) ?_ 3 _ rfl; (with_reducible repeat (first | refine blk_drewN ?_ _ | refine blk_drew ?_ | refine blk_alloc ?_ _)); refine blk_put (cs := #[.int .i64 ((rd_T27 x7_2 x61_3).f0), .string (t336.extract 0 8), .int .i64 x336002_3, .int .i64 x336003_3]) ?_ 2 _ rfl; (with_reducible repeat (first | refine blk_drewN ?_ _ | refine blk_drew ?_ | refine blk_alloc ?_ _)); refine blk_put (cs := #[.int .i64 ((rd_T27 x7_2 x61_3).f0), .string x336001_3, .int .i64 x336002_3, .int .i64 x336003_3]) ?_ 1 _ rfl; (with_reducible repeat (first | refine blk_drewN ?_ _ | refine blk_drew ?_ | refine blk_alloc ?_ _)); refine blk_put (cs := #[.int .i64 x336000_3, .string x336001_3, .int .i64 x336002_3, .int .i64 x336003_3]) ?_ 0 _ rfl; (with_reducible repeat (first | refine blk_drewN ?_ _ | refine blk_drew ?_ | refine blk_alloc ?_ _)); exact BK335.out) Tryd.underlying27 rfl (by kernel_rfl)) rfl ?_
                                      exact ⟨by first | rfl | (simp [errW_none, errW_some] <;> rfl) | (simp [*, errW_none, errW_some] <;> rfl), by repeat (first | (with_reducible first | exact HB.out | apply below_alloc | apply pw_below_drewN | apply below_drew1 | refine below_set ?_ GE335.out | refine below_set ?_ GE354.out) | exact HB.out)⟩
                                    · rw [if_neg c29] at H
                                      have c29b0 : (t356.toList == a0.toList) = false := beq_eq_false_iff_ne.mpr c29
                                      have c29b1 : (t356.toList != a0.toList) = true := bne_iff_ne.mpr c29
                                      have H' := Aside0.mk H
                                      clear H
                                      have p353 : 0 ≤ (x61_3 : Int) := of_decide_eq_true (by first | (with_reducible assumption) | assumption)
                                      have q353 : x61_3 < (x7_2.length : Int) := of_decide_eq_true (by first | (with_reducible assumption) | assumption)
                                      obtain ⟨ad353, e353, hx353_0, hx353_1, hx353_2, hx353_3⟩ := at_T27 (Kd.R_reads' HO_59.out).2.2 x61_3 p353 q353
                                      cases e353
                                      replace p353 := eq_true p353
                                      replace q353 := eq_true q353
                                      go_upto_region 14 with (first | ((with_reducible refine gate_dst (N := 10) rfl ?_); (try (refine gate_guard (by rfl) ?_; dsimp only)); refine box_event ?hg (N := 10) ?hd (cs := #[.int .i64 0, .string (⟨#[]⟩ : ByteArray), .int .i64 0, .int .i64 0]) (t := 27) ?hr ?_; (case hd => rfl); (case hg => rfl); (case hr => first | (go_simp; done) | (go_simp; rfl)); intro gb354 hg w38 hbox hb; have n0_ := Aside0.mk (Kd.R_below (Kd.R_elderB (by (with_reducible repeat (first | apply Kd.R_alloc | apply Kd.R_drewN | apply Kd.R_drew)); exact HO_59.out) gb354 (Nat.le_of_eq hg.symm)) hb); have n1_ := Aside0.mk (blk_below (g := gb335) (o := .cells #[.int .i64 x336000_3, .string x336001_3, .int .i64 x336002_3, .int .i64 x336003_3] 27 (0, 0)) (by (with_reducible repeat (first | refine blk_drewN ?_ _ | refine blk_drew ?_ | refine blk_alloc ?_ _)); exact BK335.out) hb); have n2_ := Aside0.mk (below_step (by repeat (first | (with_reducible first | exact HB.out | apply below_alloc | apply pw_below_drewN | apply below_drew1 | refine below_set ?_ GE335.out) | exact HB.out)) hb); have n3_ := Aside0.mk (hbox); have n4_ := Aside0.mk ((by rw [hg]; exact (below_size (by repeat (first | (with_reducible first | exact HB.out | apply below_alloc | apply pw_below_drewN | apply below_drew1 | refine below_set ?_ GE335.out) | exact HB.out))) : w.heap.size ≤ gb354)); have n5_ := Aside0.mk ((by rw [hg]; exact (below_size (by repeat (first | (with_reducible first | exact HB.out | apply below_alloc | apply pw_below_drewN | apply below_drew1 | refine below_set ?_ GE335.out) | exact HB.out))) : w.heap.size ≤ gb354)); have n6_ := Aside0.mk ((by rw [hg]; exact Nat.ne_of_lt (blk_lt (g := gb335) (o := .cells #[.int .i64 x336000_3, .string x336001_3, .int .i64 x336002_3, .int .i64 x336003_3] 27 (0, 0)) (by (with_reducible repeat (first | refine blk_drewN ?_ _ | refine blk_drew ?_ | refine blk_alloc ?_ _)); exact BK335.out)) : gb335 ≠ gb354)); have n7_ := Aside0.mk ((by rw [hg]; exact Nat.ne_of_gt (blk_lt (g := gb335) (o := .cells #[.int .i64 x336000_3, .string x336001_3, .int .i64 x336002_3, .int .i64 x336003_3] 27 (0, 0)) (by (with_reducible repeat (first | refine blk_drewN ?_ _ | refine blk_drew ?_ | refine blk_alloc ?_ _)); exact BK335.out)) : gb354 ≠ gb335)); clear HO_59; clear BK335; clear HB; have HO_59 := n0_; have BK335 := n1_; have HB := n2_; have BK354 := n3_; have GW354 := n4_; have GE354 := n5_; have NB335_354 := n6_; have NB354_335 := n7_; clear n0_ n1_ n2_ n3_ n4_ n5_ n6_ n7_; clear hb hbox hg; have hnb39 := NB354_335.out; have hnc39 := NB335_354.out; have hcz40_0 : w38.cell? ⟨gb354, 0, none⟩ = some (.int .i64 0) := (blk_cell BK354.out 0).trans rfl; have hcz40_1 : w38.cell? ⟨gb354, 1, none⟩ = some (.string (⟨#[]⟩ : ByteArray)) := (blk_cell BK354.out 1).trans rfl; have hcz40_2 : w38.cell? ⟨gb354, 2, none⟩ = some (.int .i64 0) := (blk_cell BK354.out 2).trans rfl; have hcz40_3 : w38.cell? ⟨gb354, 3, none⟩ = some (.int .i64 0) := (blk_cell BK354.out 3).trans rfl; have hfz40_0 := blk_frozen BK354.out 0; have hfz40_1 := blk_frozen BK354.out 1; have hfz40_2 := blk_frozen BK354.out 2; have hfz40_3 := blk_frozen BK354.out 3))
                                      have m0_ := Aside0.mk (Kd.R_mono (Kd.R_far (p := ⟨gb354, 1, none⟩) (Kd.R_far (p := ⟨gb354, 3, none⟩) (Kd.R_far (p := ⟨gb354, 2, none⟩) (Kd.R_far (p := ⟨gb354, 1, none⟩) (Kd.R_far (p := ⟨gb354, 0, none⟩) (Kd.R_mono HO_59.out (fun k_ hk => (⟨hk, hk.2⟩ : _ ∧ k_ ≠ gb354))) (fun _ hk => hk.2) (.int .i64 ((rd_T27 x7_2 x61_3).f0))) (fun _ hk => hk.2) (.string ((rd_T27 x7_2 x61_3).f1))) (fun _ hk => hk.2) (.int .i64 ((rd_T27 x7_2 x61_3).f2))) (fun _ hk => hk.2) (.int .i64 ((rd_T27 x7_2 x61_3).f3))) (fun _ hk => hk.2) (.string (t336.extract 0 8))) (fun _ h_ => h_.1))
                                      have m1_ := Aside0.mk (show (((((w38.setCell ⟨gb354, 0, none⟩ (.int .i64 ((rd_T27 x7_2 x61_3).f0))).setCell ⟨gb354, 1, none⟩ (.string ((rd_T27 x7_2 x61_3).f1))).setCell ⟨gb354, 2, none⟩ (.int .i64 ((rd_T27 x7_2 x61_3).f2))).setCell ⟨gb354, 3, none⟩ (.int .i64 ((rd_T27 x7_2 x61_3).f3))).setCell ⟨gb354, 1, none⟩ (.string (t336.extract 0 8))).heap[gb335]? = some (.cells #[.int .i64 x336000_3, .string x336001_3, .int .i64 x336002_3, .int .i64 x336003_3] 27 (0, 0)) from by (with_reducible repeat (first | refine blk_drewN ?_ _ | refine blk_drew ?_ | refine blk_alloc ?_ _)); refine blk_far ?_ NB335_354.out _; (with_reducible repeat (first | refine blk_drewN ?_ _ | refine blk_drew ?_ | refine blk_alloc ?_ _)); refine blk_far ?_ NB335_354.out _; (with_reducible repeat (first | refine blk_drewN ?_ _ | refine blk_drew ?_ | refine blk_alloc ?_ _)); refine blk_far ?_ NB335_354.out _; (with_reducible repeat (first | refine blk_drewN ?_ _ | refine blk_drew ?_ | refine blk_alloc ?_ _)); refine blk_far ?_ NB335_354.out _; (with_reducible repeat (first | refine blk_drewN ?_ _ | refine blk_drew ?_ | refine blk_alloc ?_ _)); refine blk_far ?_ NB335_354.out _; (with_reducible repeat (first | refine blk_drewN ?_ _ | refine blk_drew ?_ | refine blk_alloc ?_ _)); exact BK335.out)
                                      have m2_ := Aside0.mk (show (((((w38.setCell ⟨gb354, 0, none⟩ (.int .i64 ((rd_T27 x7_2 x61_3).f0))).setCell ⟨gb354, 1, none⟩ (.string ((rd_T27 x7_2 x61_3).f1))).setCell ⟨gb354, 2, none⟩ (.int .i64 ((rd_T27 x7_2 x61_3).f2))).setCell ⟨gb354, 3, none⟩ (.int .i64 ((rd_T27 x7_2 x61_3).f3))).setCell ⟨gb354, 1, none⟩ (.string (t336.extract 0 8))).heap[gb354]? = some (.cells #[.int .i64 ((rd_T27 x7_2 x61_3).f0), .string (t336.extract 0 8), .int .i64 ((rd_T27 x7_2 x61_3).f2), .int .i64 ((rd_T27 x7_2 x61_3).f3)] 27 (0, 0)) from by (with_reducible repeat (first | refine blk_drewN ?_ _ | refine blk_drew ?_ | refine blk_alloc ?_ _)); refine blk_put (cs := #[.int .i64 ((rd_T27 x7_2 x61_3).f0), .string ((rd_T27 x7_2 x61_3).f1), .int .i64 ((rd_T27 x7_2 x61_3).f2), .int .i64 ((rd_T27 x7_2 x61_3).f3)]) ?_ 1 _ rfl; (with_reducible repeat (first | refine blk_drewN ?_ _ | refine blk_drew ?_ | refine blk_alloc ?_ _)); refine blk_put (cs := #[.int .i64 ((rd_T27 x7_2 x61_3).f0), .string ((rd_T27 x7_2 x61_3).f1), .int .i64 ((rd_T27 x7_2 x61_3).f2), .int .i64 0]) ?_ 3 _ rfl; (with_reducible repeat (first | refine blk_drewN ?_ _ | refine blk_drew ?_ | refine blk_alloc ?_ _)); refine blk_put (cs := #[.int .i64 ((rd_T27 x7_2 x61_3).f0), .string ((rd_T27 x7_2 x61_3).f1), .int .i64 0, .int .i64 0]) ?_ 2 _ rfl; (with_reducible repeat (first | refine blk_drewN ?_ _ | refine blk_drew ?_ | refine blk_alloc ?_ _)); refine blk_put (cs := #[.int .i64 ((rd_T27 x7_2 x61_3).f0), .string (⟨#[]⟩ : ByteArray), .int .i64 0, .int .i64 0]) ?_ 1 _ rfl; (with_reducible repeat (first | refine blk_drewN ?_ _ | refine blk_drew ?_ | refine blk_alloc ?_ _)); refine blk_put (cs := #[.int .i64 0, .string (⟨#[]⟩ : ByteArray), .int .i64 0, .int .i64 0]) ?_ 0 _ rfl; (with_reducible repeat (first | refine blk_drewN ?_ _ | refine blk_drew ?_ | refine blk_alloc ?_ _)); exact BK354.out)
                                      have m3_ := Aside0.mk (show Below w.heap.size w (((((w38.setCell ⟨gb354, 0, none⟩ (.int .i64 ((rd_T27 x7_2 x61_3).f0))).setCell ⟨gb354, 1, none⟩ (.string ((rd_T27 x7_2 x61_3).f1))).setCell ⟨gb354, 2, none⟩ (.int .i64 ((rd_T27 x7_2 x61_3).f2))).setCell ⟨gb354, 3, none⟩ (.int .i64 ((rd_T27 x7_2 x61_3).f3))).setCell ⟨gb354, 1, none⟩ (.string (t336.extract 0 8))) from by repeat (first | (with_reducible first | exact HB.out | apply below_alloc | apply pw_below_drewN | apply below_drew1 | refine below_set ?_ GE335.out | refine below_set ?_ GE354.out) | exact HB.out))
                                      generalize (((((w38.setCell ⟨gb354, 0, none⟩ (.int .i64 ((rd_T27 x7_2 x61_3).f0))).setCell ⟨gb354, 1, none⟩ (.string ((rd_T27 x7_2 x61_3).f1))).setCell ⟨gb354, 2, none⟩ (.int .i64 ((rd_T27 x7_2 x61_3).f2))).setCell ⟨gb354, 3, none⟩ (.int .i64 ((rd_T27 x7_2 x61_3).f3))).setCell ⟨gb354, 1, none⟩ (.string (t336.extract 0 8))) = w38n at m0_ m1_ m2_ m3_ ⊢
                                      clear hcz40_0 hcz40_1 hcz40_2 hcz40_3 hfz40_0 hfz40_1 hfz40_2 hfz40_3
                                      clear HO_59 BK335 BK354 HB
                                      have HO_59 := m0_
                                      have BK335 := m1_
                                      have BK354 := m2_
                                      have HB := m3_
                                      clear m0_ m1_ m2_ m3_
                                      have hcn_0 : w38n.cell? ⟨gb354, 0, none⟩ = some (.int .i64 ((rd_T27 x7_2 x61_3).f0)) := (blk_cell BK354.out 0).trans rfl
                                      have hcn_1 : w38n.cell? ⟨gb354, 1, none⟩ = some (.string (t336.extract 0 8)) := (blk_cell BK354.out 1).trans rfl
                                      have hcn_2 : w38n.cell? ⟨gb354, 2, none⟩ = some (.int .i64 ((rd_T27 x7_2 x61_3).f2)) := (blk_cell BK354.out 2).trans rfl
                                      have hcn_3 : w38n.cell? ⟨gb354, 3, none⟩ = some (.int .i64 ((rd_T27 x7_2 x61_3).f3)) := (blk_cell BK354.out 3).trans rfl
                                      go_wp2_with (first | ((with_reducible refine gate_callee (f := 25) rfl ?_); refine goesL_ (some 69) rfl rfl Tryd.func25 (by kernel_rfl) rfl #[.agg #[.int .i64 ((rd_T27 x7_2 x61_3).f0), .string (t336.extract 0 8), .int .i64 ((rd_T27 x7_2 x61_3).f2), .int .i64 ((rd_T27 x7_2 x61_3).f3)]] rfl (by (try simp only [List.map_toArray, List.map_cons, List.map_nil]); first | done | rfl | (simp only [List.length_drop, List.length_take]; rfl)) ?_; (with_reducible refine (impl_IsValidNote.calls k3 ((rd_T27 x7_2 x61_3).f0) (t336.extract 0 8) ((rd_T27 x7_2 x61_3).f2) ((rd_T27 x7_2 x61_3).f3) true _ A26.out).mono ?_); rintro e w41 ⟨rfl, hb⟩; refine ⟨_, rfl, ?_⟩; have n0_ := Aside0.mk (Kd.R_below (by (with_reducible repeat (first | apply Kd.R_alloc | apply Kd.R_drewN | apply Kd.R_drew)); exact HO_59.out) hb); have n1_ := Aside0.mk (blk_below (g := gb335) (o := .cells #[.int .i64 x336000_3, .string x336001_3, .int .i64 x336002_3, .int .i64 x336003_3] 27 (0, 0)) (by (with_reducible repeat (first | refine blk_drewN ?_ _ | refine blk_drew ?_ | refine blk_alloc ?_ _)); exact BK335.out) hb); have n2_ := Aside0.mk (blk_below (g := gb354) (o := .cells #[.int .i64 ((rd_T27 x7_2 x61_3).f0), .string (t336.extract 0 8), .int .i64 ((rd_T27 x7_2 x61_3).f2), .int .i64 ((rd_T27 x7_2 x61_3).f3)] 27 (0, 0)) (by (with_reducible repeat (first | refine blk_drewN ?_ _ | refine blk_drew ?_ | refine blk_alloc ?_ _)); exact BK354.out) hb); have n3_ := Aside0.mk (below_step (by repeat (first | (with_reducible first | exact HB.out | apply below_alloc | apply pw_below_drewN | apply below_drew1 | refine below_set ?_ GE335.out | refine below_set ?_ GE354.out) | exact HB.out)) hb); clear HO_59; clear BK335; clear BK354; clear HB; have HO_59 := n0_; have BK335 := n1_; have BK354 := n2_; have HB := n3_; clear n0_ n1_ n2_ n3_; (try clear hb); (try clear hb2); (try clear hk); (try clear hi); have hcz42_0 : w41.cell? ⟨gb354, 0, none⟩ = some (.int .i64 ((rd_T27 x7_2 x61_3).f0)) := (blk_cell BK354.out 0).trans rfl; have hcz42_1 : w41.cell? ⟨gb354, 1, none⟩ = some (.string (t336.extract 0 8)) := (blk_cell BK354.out 1).trans rfl; have hcz42_2 : w41.cell? ⟨gb354, 2, none⟩ = some (.int .i64 ((rd_T27 x7_2 x61_3).f2)) := (blk_cell BK354.out 2).trans rfl; have hcz42_3 : w41.cell? ⟨gb354, 3, none⟩ = some (.int .i64 ((rd_T27 x7_2 x61_3).f3)) := (blk_cell BK354.out 3).trans rfl; have hfz42_0 := blk_frozen BK354.out 0; have hfz42_1 := blk_frozen BK354.out 1; have hfz42_2 := blk_frozen BK354.out 2; have hfz42_3 := blk_frozen BK354.out 3; (try clear hcn_0 hcn_1 hcn_2 hcn_3)) | (go_at_call 26; (with_reducible refine (impl_noteText.calls k3 ((rd_T27 x7_2 x61_3).f0) (t336.extract 0 8) ((rd_T27 x7_2 x61_3).f2) ((rd_T27 x7_2 x61_3).f3) t356 _ ?side1 A28.out).mono ?_); (case side1 => exact Glob.below HGL.out (by repeat (first | (with_reducible first | exact HB.out | apply below_alloc | apply pw_below_drewN | apply below_drew1 | refine below_set ?_ GE335.out | refine below_set ?_ GE354.out) | exact HB.out))); rintro e w43 ⟨rfl, hb⟩; have n0_ := Aside0.mk (Kd.R_below (by (with_reducible repeat (first | apply Kd.R_alloc | apply Kd.R_drewN | apply Kd.R_drew)); exact HO_59.out) hb); have n1_ := Aside0.mk (blk_below (g := gb335) (o := .cells #[.int .i64 x336000_3, .string x336001_3, .int .i64 x336002_3, .int .i64 x336003_3] 27 (0, 0)) (by (with_reducible repeat (first | refine blk_drewN ?_ _ | refine blk_drew ?_ | refine blk_alloc ?_ _)); exact BK335.out) hb); have n2_ := Aside0.mk (blk_below (g := gb354) (o := .cells #[.int .i64 ((rd_T27 x7_2 x61_3).f0), .string (t336.extract 0 8), .int .i64 ((rd_T27 x7_2 x61_3).f2), .int .i64 ((rd_T27 x7_2 x61_3).f3)] 27 (0, 0)) (by (with_reducible repeat (first | refine blk_drewN ?_ _ | refine blk_drew ?_ | refine blk_alloc ?_ _)); exact BK354.out) hb); have n3_ := Aside0.mk (below_step (by repeat (first | (with_reducible first | exact HB.out | apply below_alloc | apply pw_below_drewN | apply below_drew1 | refine below_set ?_ GE335.out | refine below_set ?_ GE354.out) | exact HB.out)) hb); clear HO_59; clear BK335; clear BK354; clear HB; have HO_59 := n0_; have BK335 := n1_; have BK354 := n2_; have HB := n3_; clear n0_ n1_ n2_ n3_; (try clear hb); (try clear hb2); (try clear hk); (try clear hi)))
                                      go_roundg k3
                                      case measure => have := HJ2.out; have := HK2.out; have := HK3.out; omega
                                      case rel => exact ⟨(wrap64 (x61_3 + 1)), (x336000_3), (x336001_3), (x336002_3), (x336003_3), (by first | rfl | (simp; done) | (simp [*]; done)), H', ⟨by have := HJ2.out; have := HK2.out; have := HK3.out; omega⟩, ⟨by (with_reducible repeat (first | apply Kd.R_alloc | apply Kd.R_drewN | apply Kd.R_drew)); exact Kd.R_mono HO_59.out (fun _ hk => hk.1)⟩, ⟨by (with_reducible repeat (first | refine blk_drewN ?_ _ | refine blk_drew ?_ | refine blk_alloc ?_ _)); exact BK335.out⟩, ⟨by repeat (first | (with_reducible first | exact HB.out | apply below_alloc | apply pw_below_drewN | apply below_drew1 | refine below_set ?_ GE335.out | refine below_set ?_ GE354.out) | exact HB.out)⟩⟩
                                  · replace c27 := Bool.eq_false_iff.mpr c27
                                    subst c27
                                    have H1 : (impl_ParseNote.l1 k3 a0 t336 x7_2 (x7_2.length : Int) (wrap64 (x61_3 + 1))) = some (r1, r2, r3, r4, r5) := by rw [if_neg (show ¬ (false = true) by decide)] at H; exact H
                                    clear H
                                    have H := H1
                                    clear H1
                                    have H' := Aside0.mk H
                                    clear H
                                    have p353 : 0 ≤ (x61_3 : Int) := of_decide_eq_true (by first | (with_reducible assumption) | assumption)
                                    have q353 : x61_3 < (x7_2.length : Int) := of_decide_eq_true (by first | (with_reducible assumption) | assumption)
                                    obtain ⟨ad353, e353, hx353_0, hx353_1, hx353_2, hx353_3⟩ := at_T27 (Kd.R_reads' HO_59.out).2.2 x61_3 p353 q353
                                    cases e353
                                    replace p353 := eq_true p353
                                    replace q353 := eq_true q353
                                    go_upto_region 14 with (first | ((with_reducible refine gate_dst (N := 10) rfl ?_); (try (refine gate_guard (by rfl) ?_; dsimp only)); refine box_event ?hg (N := 10) ?hd (cs := #[.int .i64 0, .string (⟨#[]⟩ : ByteArray), .int .i64 0, .int .i64 0]) (t := 27) ?hr ?_; (case hd => rfl); (case hg => rfl); (case hr => first | (go_simp; done) | (go_simp; rfl)); intro gb354 hg w44 hbox hb; have n0_ := Aside0.mk (Kd.R_below (Kd.R_elderB (by (with_reducible repeat (first | apply Kd.R_alloc | apply Kd.R_drewN | apply Kd.R_drew)); exact HO_59.out) gb354 (Nat.le_of_eq hg.symm)) hb); have n1_ := Aside0.mk (blk_below (g := gb335) (o := .cells #[.int .i64 x336000_3, .string x336001_3, .int .i64 x336002_3, .int .i64 x336003_3] 27 (0, 0)) (by (with_reducible repeat (first | refine blk_drewN ?_ _ | refine blk_drew ?_ | refine blk_alloc ?_ _)); exact BK335.out) hb); have n2_ := Aside0.mk (below_step (by repeat (first | (with_reducible first | exact HB.out | apply below_alloc | apply pw_below_drewN | apply below_drew1 | refine below_set ?_ GE335.out) | exact HB.out)) hb); have n3_ := Aside0.mk (hbox); have n4_ := Aside0.mk ((by rw [hg]; exact (below_size (by repeat (first | (with_reducible first | exact HB.out | apply below_alloc | apply pw_below_drewN | apply below_drew1 | refine below_set ?_ GE335.out) | exact HB.out))) : w.heap.size ≤ gb354)); have n5_ := Aside0.mk ((by rw [hg]; exact (below_size (by repeat (first | (with_reducible first | exact HB.out | apply below_alloc | apply pw_below_drewN | apply below_drew1 | refine below_set ?_ GE335.out) | exact HB.out))) : w.heap.size ≤ gb354)); have n6_ := Aside0.mk ((by rw [hg]; exact Nat.ne_of_lt (blk_lt (g := gb335) (o := .cells #[.int .i64 x336000_3, .string x336001_3, .int .i64 x336002_3, .int .i64 x336003_3] 27 (0, 0)) (by (with_reducible repeat (first | refine blk_drewN ?_ _ | refine blk_drew ?_ | refine blk_alloc ?_ _)); exact BK335.out)) : gb335 ≠ gb354)); have n7_ := Aside0.mk ((by rw [hg]; exact Nat.ne_of_gt (blk_lt (g := gb335) (o := .cells #[.int .i64 x336000_3, .string x336001_3, .int .i64 x336002_3, .int .i64 x336003_3] 27 (0, 0)) (by (with_reducible repeat (first | refine blk_drewN ?_ _ | refine blk_drew ?_ | refine blk_alloc ?_ _)); exact BK335.out)) : gb354 ≠ gb335)); clear HO_59; clear BK335; clear HB; have HO_59 := n0_; have BK335 := n1_; have HB := n2_; have BK354 := n3_; have GW354 := n4_; have GE354 := n5_; have NB335_354 := n6_; have NB354_335 := n7_; clear n0_ n1_ n2_ n3_ n4_ n5_ n6_ n7_; clear hb hbox hg; have hnb45 := NB354_335.out; have hnc45 := NB335_354.out; have hcz46_0 : w44.cell? ⟨gb354, 0, none⟩ = some (.int .i64 0) := (blk_cell BK354.out 0).trans rfl; have hcz46_1 : w44.cell? ⟨gb354, 1, none⟩ = some (.string (⟨#[]⟩ : ByteArray)) := (blk_cell BK354.out 1).trans rfl; have hcz46_2 : w44.cell? ⟨gb354, 2, none⟩ = some (.int .i64 0) := (blk_cell BK354.out 2).trans rfl; have hcz46_3 : w44.cell? ⟨gb354, 3, none⟩ = some (.int .i64 0) := (blk_cell BK354.out 3).trans rfl; have hfz46_0 := blk_frozen BK354.out 0; have hfz46_1 := blk_frozen BK354.out 1; have hfz46_2 := blk_frozen BK354.out 2; have hfz46_3 := blk_frozen BK354.out 3))
                                    have m0_ := Aside0.mk (Kd.R_mono (Kd.R_far (p := ⟨gb354, 1, none⟩) (Kd.R_far (p := ⟨gb354, 3, none⟩) (Kd.R_far (p := ⟨gb354, 2, none⟩) (Kd.R_far (p := ⟨gb354, 1, none⟩) (Kd.R_far (p := ⟨gb354, 0, none⟩) (Kd.R_mono HO_59.out (fun k_ hk => (⟨hk, hk.2⟩ : _ ∧ k_ ≠ gb354))) (fun _ hk => hk.2) (.int .i64 ((rd_T27 x7_2 x61_3).f0))) (fun _ hk => hk.2) (.string ((rd_T27 x7_2 x61_3).f1))) (fun _ hk => hk.2) (.int .i64 ((rd_T27 x7_2 x61_3).f2))) (fun _ hk => hk.2) (.int .i64 ((rd_T27 x7_2 x61_3).f3))) (fun _ hk => hk.2) (.string (t336.extract 0 8))) (fun _ h_ => h_.1))
                                    have m1_ := Aside0.mk (show (((((w44.setCell ⟨gb354, 0, none⟩ (.int .i64 ((rd_T27 x7_2 x61_3).f0))).setCell ⟨gb354, 1, none⟩ (.string ((rd_T27 x7_2 x61_3).f1))).setCell ⟨gb354, 2, none⟩ (.int .i64 ((rd_T27 x7_2 x61_3).f2))).setCell ⟨gb354, 3, none⟩ (.int .i64 ((rd_T27 x7_2 x61_3).f3))).setCell ⟨gb354, 1, none⟩ (.string (t336.extract 0 8))).heap[gb335]? = some (.cells #[.int .i64 x336000_3, .string x336001_3, .int .i64 x336002_3, .int .i64 x336003_3] 27 (0, 0)) from by (with_reducible repeat (first | refine blk_drewN ?_ _ | refine blk_drew ?_ | refine blk_alloc ?_ _)); refine blk_far ?_ NB335_354.out _; (with_reducible repeat (first | refine blk_drewN ?_ _ | refine blk_drew ?_ | refine blk_alloc ?_ _)); refine blk_far ?_ NB335_354.out _; (with_reducible repeat (first | refine blk_drewN ?_ _ | refine blk_drew ?_ | refine blk_alloc ?_ _)); refine blk_far ?_ NB335_354.out _; (with_reducible repeat (first | refine blk_drewN ?_ _ | refine blk_drew ?_ | refine blk_alloc ?_ _)); refine blk_far ?_ NB335_354.out _; (with_reducible repeat (first | refine blk_drewN ?_ _ | refine blk_drew ?_ | refine blk_alloc ?_ _)); refine blk_far ?_ NB335_354.out _; (with_reducible repeat (first | refine blk_drewN ?_ _ | refine blk_drew ?_ | refine blk_alloc ?_ _)); exact BK335.out)
                                    have m2_ := Aside0.mk (show (((((w44.setCell ⟨gb354, 0, none⟩ (.int .i64 ((rd_T27 x7_2 x61_3).f0))).setCell ⟨gb354, 1, none⟩ (.string ((rd_T27 x7_2 x61_3).f1))).setCell ⟨gb354, 2, none⟩ (.int .i64 ((rd_T27 x7_2 x61_3).f2))).setCell ⟨gb354, 3, none⟩ (.int .i64 ((rd_T27 x7_2 x61_3).f3))).setCell ⟨gb354, 1, none⟩ (.string (t336.extract 0 8))).heap[gb354]? = some (.cells #[.int .i64 ((rd_T27 x7_2 x61_3).f0), .string (t336.extract 0 8), .int .i64 ((rd_T27 x7_2 x61_3).f2), .int .i64 ((rd_T27 x7_2 x61_3).f3)] 27 (0, 0)) from by (with_reducible repeat (first | refine blk_drewN ?_ _ | refine blk_drew ?_ | refine blk_alloc ?_ _)); refine blk_put (cs := #[.int .i64 ((rd_T27 x7_2 x61_3).f0), .string ((rd_T27 x7_2 x61_3).f1), .int .i64 ((rd_T27 x7_2 x61_3).f2), .int .i64 ((rd_T27 x7_2 x61_3).f3)]) ?_ 1 _ rfl; (with_reducible repeat (first | refine blk_drewN ?_ _ | refine blk_drew ?_ | refine blk_alloc ?_ _)); refine blk_put (cs := #[.int .i64 ((rd_T27 x7_2 x61_3).f0), .string ((rd_T27 x7_2 x61_3).f1), .int .i64 ((rd_T27 x7_2 x61_3).f2), .int .i64 0]) ?_ 3 _ rfl; (with_reducible repeat (first | refine blk_drewN ?_ _ | refine blk_drew ?_ | refine blk_alloc ?_ _)); refine blk_put (cs := #[.int .i64 ((rd_T27 x7_2 x61_3).f0), .string ((rd_T27 x7_2 x61_3).f1), .int .i64 0, .int .i64 0]) ?_ 2 _ rfl; (with_reducible repeat (first | refine blk_drewN ?_ _ | refine blk_drew ?_ | refine blk_alloc ?_ _)); refine blk_put (cs := #[.int .i64 ((rd_T27 x7_2 x61_3).f0), .string (⟨#[]⟩ : ByteArray), .int .i64 0, .int .i64 0]) ?_ 1 _ rfl; (with_reducible repeat (first | refine blk_drewN ?_ _ | refine blk_drew ?_ | refine blk_alloc ?_ _)); refine blk_put (cs := #[.int .i64 0, .string (⟨#[]⟩ : ByteArray), .int .i64 0, .int .i64 0]) ?_ 0 _ rfl; (with_reducible repeat (first | refine blk_drewN ?_ _ | refine blk_drew ?_ | refine blk_alloc ?_ _)); exact BK354.out)
                                    have m3_ := Aside0.mk (show Below w.heap.size w (((((w44.setCell ⟨gb354, 0, none⟩ (.int .i64 ((rd_T27 x7_2 x61_3).f0))).setCell ⟨gb354, 1, none⟩ (.string ((rd_T27 x7_2 x61_3).f1))).setCell ⟨gb354, 2, none⟩ (.int .i64 ((rd_T27 x7_2 x61_3).f2))).setCell ⟨gb354, 3, none⟩ (.int .i64 ((rd_T27 x7_2 x61_3).f3))).setCell ⟨gb354, 1, none⟩ (.string (t336.extract 0 8))) from by repeat (first | (with_reducible first | exact HB.out | apply below_alloc | apply pw_below_drewN | apply below_drew1 | refine below_set ?_ GE335.out | refine below_set ?_ GE354.out) | exact HB.out))
                                    generalize (((((w44.setCell ⟨gb354, 0, none⟩ (.int .i64 ((rd_T27 x7_2 x61_3).f0))).setCell ⟨gb354, 1, none⟩ (.string ((rd_T27 x7_2 x61_3).f1))).setCell ⟨gb354, 2, none⟩ (.int .i64 ((rd_T27 x7_2 x61_3).f2))).setCell ⟨gb354, 3, none⟩ (.int .i64 ((rd_T27 x7_2 x61_3).f3))).setCell ⟨gb354, 1, none⟩ (.string (t336.extract 0 8))) = w44n at m0_ m1_ m2_ m3_ ⊢
                                    clear hcz46_0 hcz46_1 hcz46_2 hcz46_3 hfz46_0 hfz46_1 hfz46_2 hfz46_3
                                    clear HO_59 BK335 BK354 HB
                                    have HO_59 := m0_
                                    have BK335 := m1_
                                    have BK354 := m2_
                                    have HB := m3_
                                    clear m0_ m1_ m2_ m3_
                                    have hcn_0 : w44n.cell? ⟨gb354, 0, none⟩ = some (.int .i64 ((rd_T27 x7_2 x61_3).f0)) := (blk_cell BK354.out 0).trans rfl
                                    have hcn_1 : w44n.cell? ⟨gb354, 1, none⟩ = some (.string (t336.extract 0 8)) := (blk_cell BK354.out 1).trans rfl
                                    have hcn_2 : w44n.cell? ⟨gb354, 2, none⟩ = some (.int .i64 ((rd_T27 x7_2 x61_3).f2)) := (blk_cell BK354.out 2).trans rfl
                                    have hcn_3 : w44n.cell? ⟨gb354, 3, none⟩ = some (.int .i64 ((rd_T27 x7_2 x61_3).f3)) := (blk_cell BK354.out 3).trans rfl
                                    go_wp2_with (first | ((with_reducible refine gate_callee (f := 25) rfl ?_); refine goesL_ (some 69) rfl rfl Tryd.func25 (by kernel_rfl) rfl #[.agg #[.int .i64 ((rd_T27 x7_2 x61_3).f0), .string (t336.extract 0 8), .int .i64 ((rd_T27 x7_2 x61_3).f2), .int .i64 ((rd_T27 x7_2 x61_3).f3)]] rfl (by (try simp only [List.map_toArray, List.map_cons, List.map_nil]); first | done | rfl | (simp only [List.length_drop, List.length_take]; rfl)) ?_; (with_reducible refine (impl_IsValidNote.calls k3 ((rd_T27 x7_2 x61_3).f0) (t336.extract 0 8) ((rd_T27 x7_2 x61_3).f2) ((rd_T27 x7_2 x61_3).f3) false _ A26.out).mono ?_); rintro e w47 ⟨rfl, hb⟩; refine ⟨_, rfl, ?_⟩; have n0_ := Aside0.mk (Kd.R_below (by (with_reducible repeat (first | apply Kd.R_alloc | apply Kd.R_drewN | apply Kd.R_drew)); exact HO_59.out) hb); have n1_ := Aside0.mk (blk_below (g := gb335) (o := .cells #[.int .i64 x336000_3, .string x336001_3, .int .i64 x336002_3, .int .i64 x336003_3] 27 (0, 0)) (by (with_reducible repeat (first | refine blk_drewN ?_ _ | refine blk_drew ?_ | refine blk_alloc ?_ _)); exact BK335.out) hb); have n2_ := Aside0.mk (blk_below (g := gb354) (o := .cells #[.int .i64 ((rd_T27 x7_2 x61_3).f0), .string (t336.extract 0 8), .int .i64 ((rd_T27 x7_2 x61_3).f2), .int .i64 ((rd_T27 x7_2 x61_3).f3)] 27 (0, 0)) (by (with_reducible repeat (first | refine blk_drewN ?_ _ | refine blk_drew ?_ | refine blk_alloc ?_ _)); exact BK354.out) hb); have n3_ := Aside0.mk (below_step (by repeat (first | (with_reducible first | exact HB.out | apply below_alloc | apply pw_below_drewN | apply below_drew1 | refine below_set ?_ GE335.out | refine below_set ?_ GE354.out) | exact HB.out)) hb); clear HO_59; clear BK335; clear BK354; clear HB; have HO_59 := n0_; have BK335 := n1_; have BK354 := n2_; have HB := n3_; clear n0_ n1_ n2_ n3_; (try clear hb); (try clear hb2); (try clear hk); (try clear hi); (try clear hcn_0 hcn_1 hcn_2 hcn_3)))
                                    go_roundg k3
                                    case measure => have := HJ2.out; have := HK2.out; have := HK3.out; omega
                                    case rel => exact ⟨(wrap64 (x61_3 + 1)), (x336000_3), (x336001_3), (x336002_3), (x336003_3), (by first | rfl | (simp; done) | (simp [*]; done)), H', ⟨by have := HJ2.out; have := HK2.out; have := HK3.out; omega⟩, ⟨by (with_reducible repeat (first | apply Kd.R_alloc | apply Kd.R_drewN | apply Kd.R_drew)); exact Kd.R_mono HO_59.out (fun _ hk => hk.1)⟩, ⟨by (with_reducible repeat (first | refine blk_drewN ?_ _ | refine blk_drew ?_ | refine blk_alloc ?_ _)); exact BK335.out⟩, ⟨by repeat (first | (with_reducible first | exact HB.out | apply below_alloc | apply pw_below_drewN | apply below_drew1 | refine below_set ?_ GE335.out | refine below_set ?_ GE354.out) | exact HB.out)⟩⟩
                                · rw [if_neg c25] at H
                                  exact absurd H (by simp)
                              · rw [if_neg c24] at H
                                exact absurd H (by simp)
                            · rw [if_neg c23] at H
                              exact absurd H (by simp)
                          · rw [if_neg c22] at H
                            exact absurd H (by simp)
                        · rw [if_neg c21] at H
                          have c21b0 : decide (x61_3 < (x7_2.length : Int)) = false := decide_eq_false c21
                          clear c21
                          simp only [Option.some.injEq, Prod.mk.injEq] at H
                          obtain ⟨rfl, rfl, rfl, rfl, rfl⟩ := H
                          have hcz48_0 : wr.cell? ⟨gb335, 0, none⟩ = some (.int .i64 x336000_3) := (blk_cell BK335.out 0).trans rfl
                          have hcz48_1 : wr.cell? ⟨gb335, 1, none⟩ = some (.string x336001_3) := (blk_cell BK335.out 1).trans rfl
                          have hcz48_2 : wr.cell? ⟨gb335, 2, none⟩ = some (.int .i64 x336002_3) := (blk_cell BK335.out 2).trans rfl
                          have hcz48_3 : wr.cell? ⟨gb335, 3, none⟩ = some (.int .i64 x336003_3) := (blk_cell BK335.out 3).trans rfl
                          have hfz48_0 := blk_frozen BK335.out 0
                          have hfz48_1 := blk_frozen BK335.out 1
                          have hfz48_2 := blk_frozen BK335.out 2
                          have hfz48_3 := blk_frozen BK335.out 3
                          go_wp2
                          refine bodyPost_ret (results_ct rfl _ _ gb335 27 #[.int .i64 0, .string (⟨#[]⟩ : ByteArray), .int .i64 0, .int .i64 0] (0, 0) _ rfl (by (with_reducible repeat (first | refine blk_drewN ?_ _ | refine blk_drew ?_ | refine blk_alloc ?_ _)); refine blk_put (cs := #[.int .i64 0, .string (⟨#[]⟩ : ByteArray), .int .i64 0, .int .i64 x336003_3]) ?_ 3 _ rfl; (with_reducible repeat (first | refine blk_drewN ?_ _ | refine blk_drew ?_ | refine blk_alloc ?_ _)); refine blk_put (cs := #[.int .i64 0, .string (⟨#[]⟩ : ByteArray), .int .i64 x336002_3, .int .i64 x336003_3]) ?_ 2 _ rfl; (with_reducible repeat (first | refine blk_drewN ?_ _ | refine blk_drew ?_ | refine blk_alloc ?_ _)); refine blk_put (cs := #[.int .i64 0, .string x336001_3, .int .i64 x336002_3, .int .i64 x336003_3]) ?_ 1 _ rfl; (with_reducible repeat (first | refine blk_drewN ?_ _ | refine blk_drew ?_ | refine blk_alloc ?_ _)); refine blk_put (cs := #[.int .i64 x336000_3, .string x336001_3, .int .i64 x336002_3, .int .i64 x336003_3]) ?_ 0 _ rfl; (with_reducible repeat (first | refine blk_drewN ?_ _ | refine blk_drew ?_ | refine blk_alloc ?_ _)); exact BK335.out) Tryd.underlying27 rfl (by kernel_rfl)) rfl ?_
                          exact ⟨by first | rfl | (simp [errW_none, errW_some] <;> rfl) | (simp [*, errW_none, errW_some] <;> rfl), by repeat (first | (with_reducible first | exact HB.out | apply below_alloc | apply pw_below_drewN | apply below_drew1 | refine below_set ?_ GE335.out) | exact HB.out)⟩
            · rw [if_neg c11] at H
              exact absurd H (by simp)
          · rw [if_neg c10] at H
            exact absurd H (by simp)
        · rw [if_neg c8] at H
          exact absurd H (by simp)

end Go.Proofs.YtghnljoaklmakaaDoor.X


-- written by a program of this session (wip/ext.py) out of the translation. Not trusted: Lean checks it.
namespace Go.Proofs.YtghnljoaklmakaaDoor.X
open Go.RowKit Go.Proofs.YtghnljoaklmakaaDoorW.PrintWords Go.Proofs.YtghnljoaklmakaaDoorW.PrintLast Go.Proofs.YtghnljoaklmakaaDoorW.PrintMore
attribute [local go_sem] max2_int min2_int max_two min_two max_three min_three max_four min_four   -- for this text's walks alone
open Go.Proofs.YtghnljoaklmakaaDoorG
set_option linter.unusedVariables false
set_option linter.unusedSimpArgs false

def laws_eqNote.f (a0_0 : Int) (a0_1 : ByteArray) (a0_2 : Int) (a0_3 : Int) (a1_0 : Int) (a1_1 : ByteArray) (a1_2 : Int) (a1_3 : Int) : Option (Bool) := if a0_0 = a1_0 then (if a0_1.toList = a1_1.toList then (if a0_2 = a1_2 then (if a0_3 = a1_3 then (some true) else (some false)) else (some false)) else (some false)) else (some false)
set_option maxHeartbeats 8000000 in
set_option maxRecDepth 100000 in
theorem laws_eqNote.calls (a0_0 : Int) (a0_1 : ByteArray) (a0_2 : Int) (a0_3 : Int) (a1_0 : Int) (a1_1 : ByteArray) (a1_2 : Int) (a1_3 : Int) (r : Bool) (w : World) (h : laws_eqNote.f a0_0 a0_1 a0_2 a0_3 a1_0 a1_1 a1_2 a1_3 = some r) :
    Calls Tryd.prog 18 #[.agg #[.int .i64 a0_0, .string a0_1, .int .i64 a0_2, .int .i64 a0_3], .agg #[.int .i64 a1_0, .string a1_1, .int .i64 a1_2, .int .i64 a1_3]] w fun e w' => e = .returned (.bool r) ∧ Below w.heap.size w w' := by
  have hu27 := Tryd.underlying27
  have HB := Aside0.mk (Below.refl w.heap.size w)
  have H : (if a0_0 = a1_0 then (if a0_1.toList = a1_1.toList then (if a0_2 = a1_2 then (if a0_3 = a1_3 then (some true) else (some false)) else (some false)) else (some false)) else (some false)) = some r := h
  clear h
  by_cases c3 : a0_0 = a1_0
  · rw [if_pos c3] at H
    have c3b0 : (a0_0 == a1_0) = true := beq_iff_eq.mpr c3
    have c3b1 : (a0_0 != a1_0) = false := bne_eq_false_iff_eq.mpr c3
    clear c3
    by_cases c4 : a0_1.toList = a1_1.toList
    · rw [if_pos c4] at H
      have c4b0 : (a0_1.toList == a1_1.toList) = true := beq_iff_eq.mpr c4
      have c4b1 : (a0_1.toList != a1_1.toList) = false := bne_eq_false_iff_eq.mpr c4
      clear c4
      by_cases c5 : a0_2 = a1_2
      · rw [if_pos c5] at H
        have c5b0 : (a0_2 == a1_2) = true := beq_iff_eq.mpr c5
        have c5b1 : (a0_2 != a1_2) = false := bne_eq_false_iff_eq.mpr c5
        clear c5
        by_cases c6 : a0_3 = a1_3
        · rw [if_pos c6] at H
          have c6b0 : (a0_3 == a1_3) = true := beq_iff_eq.mpr c6
          have c6b1 : (a0_3 != a1_3) = false := bne_eq_false_iff_eq.mpr c6
          clear c6
          obtain rfl := Option.some.inj H
          go_enter Tryd.func18, Tryd.ntmps18
          go_wp2_with (first | ((with_reducible refine gate_dst (N := 2) rfl ?_); refine box_event ?hg (N := 2) ?hd (cs := #[.int .i64 a0_0, .string a0_1, .int .i64 a0_2, .int .i64 a0_3]) (t := 27) ?hr ?_; (case hd => rfl); (case hg => rfl); (case hr => first | (go_simp; done) | (go_simp; rfl)); intro gb233 hg w7 hbox hb; have n0_ := Aside0.mk (below_step (by repeat (first | (with_reducible first | exact HB.out | apply below_alloc | apply pw_below_drewN | apply below_drew1) | exact HB.out)) hb); have n1_ := Aside0.mk (hbox); have n2_ := Aside0.mk ((by rw [hg]; exact (below_size (by repeat (first | (with_reducible first | exact HB.out | apply below_alloc | apply pw_below_drewN | apply below_drew1) | exact HB.out))) : w.heap.size ≤ gb233)); have n3_ := Aside0.mk ((by rw [hg]; exact (below_size (by repeat (first | (with_reducible first | exact HB.out | apply below_alloc | apply pw_below_drewN | apply below_drew1) | exact HB.out))) : w.heap.size ≤ gb233)); clear HB; have HB := n0_; have BK233 := n1_; have GW233 := n2_; have GE233 := n3_; clear n0_ n1_ n2_ n3_; clear hb hbox hg) | ((with_reducible refine gate_dst (N := 3) rfl ?_); refine box_event ?hg (N := 3) ?hd (cs := #[.int .i64 a1_0, .string a1_1, .int .i64 a1_2, .int .i64 a1_3]) (t := 27) ?hr ?_; (case hd => rfl); (case hg => rfl); (case hr => first | (go_simp; done) | (go_simp; rfl)); intro gb234 hg w8 hbox hb; have n0_ := Aside0.mk (blk_below (g := gb233) (o := .cells #[.int .i64 a0_0, .string a0_1, .int .i64 a0_2, .int .i64 a0_3] 27 (0, 0)) (by (with_reducible repeat (first | refine blk_drewN ?_ _ | refine blk_drew ?_ | refine blk_alloc ?_ _)); exact BK233.out) hb); have n1_ := Aside0.mk (below_step (by repeat (first | (with_reducible first | exact HB.out | apply below_alloc | apply pw_below_drewN | apply below_drew1 | refine below_set ?_ GE233.out) | exact HB.out)) hb); have n2_ := Aside0.mk (hbox); have n3_ := Aside0.mk ((by rw [hg]; exact (below_size (by repeat (first | (with_reducible first | exact HB.out | apply below_alloc | apply pw_below_drewN | apply below_drew1 | refine below_set ?_ GE233.out) | exact HB.out))) : w.heap.size ≤ gb234)); have n4_ := Aside0.mk ((by rw [hg]; exact (below_size (by repeat (first | (with_reducible first | exact HB.out | apply below_alloc | apply pw_below_drewN | apply below_drew1 | refine below_set ?_ GE233.out) | exact HB.out))) : w.heap.size ≤ gb234)); have n5_ := Aside0.mk ((by rw [hg]; exact Nat.ne_of_lt (blk_lt (g := gb233) (o := .cells #[.int .i64 a0_0, .string a0_1, .int .i64 a0_2, .int .i64 a0_3] 27 (0, 0)) (by (with_reducible repeat (first | refine blk_drewN ?_ _ | refine blk_drew ?_ | refine blk_alloc ?_ _)); exact BK233.out)) : gb233 ≠ gb234)); have n6_ := Aside0.mk ((by rw [hg]; exact Nat.ne_of_gt (blk_lt (g := gb233) (o := .cells #[.int .i64 a0_0, .string a0_1, .int .i64 a0_2, .int .i64 a0_3] 27 (0, 0)) (by (with_reducible repeat (first | refine blk_drewN ?_ _ | refine blk_drew ?_ | refine blk_alloc ?_ _)); exact BK233.out)) : gb234 ≠ gb233)); clear BK233; clear HB; have BK233 := n0_; have HB := n1_; have BK234 := n2_; have GW234 := n3_; have GE234 := n4_; have NB233_234 := n5_; have NB234_233 := n6_; clear n0_ n1_ n2_ n3_ n4_ n5_ n6_; clear hb hbox hg; have hnb9 := NB233_234.out; have hnc9 := NB234_233.out; have hcz10_0 : w8.cell? ⟨gb233, 0, none⟩ = some (.int .i64 a0_0) := (blk_cell BK233.out 0).trans rfl; have hcz10_1 : w8.cell? ⟨gb233, 1, none⟩ = some (.string a0_1) := (blk_cell BK233.out 1).trans rfl; have hcz10_2 : w8.cell? ⟨gb233, 2, none⟩ = some (.int .i64 a0_2) := (blk_cell BK233.out 2).trans rfl; have hcz10_3 : w8.cell? ⟨gb233, 3, none⟩ = some (.int .i64 a0_3) := (blk_cell BK233.out 3).trans rfl; have hfz10_0 := blk_frozen BK233.out 0; have hfz10_1 := blk_frozen BK233.out 1; have hfz10_2 := blk_frozen BK233.out 2; have hfz10_3 := blk_frozen BK233.out 3; have hcz11_0 : w8.cell? ⟨gb234, 0, none⟩ = some (.int .i64 a1_0) := (blk_cell BK234.out 0).trans rfl; have hcz11_1 : w8.cell? ⟨gb234, 1, none⟩ = some (.string a1_1) := (blk_cell BK234.out 1).trans rfl; have hcz11_2 : w8.cell? ⟨gb234, 2, none⟩ = some (.int .i64 a1_2) := (blk_cell BK234.out 2).trans rfl; have hcz11_3 : w8.cell? ⟨gb234, 3, none⟩ = some (.int .i64 a1_3) := (blk_cell BK234.out 3).trans rfl; have hfz11_0 := blk_frozen BK234.out 0; have hfz11_1 := blk_frozen BK234.out 1; have hfz11_2 := blk_frozen BK234.out 2; have hfz11_3 := blk_frozen BK234.out 3))
          go_ret
          exact ⟨by first | rfl | (simp [errW_none, errW_some] <;> rfl) | (simp [*, errW_none, errW_some] <;> rfl), by repeat (first | (with_reducible first | exact HB.out | apply below_alloc | apply pw_below_drewN | apply below_drew1 | refine below_set ?_ GE233.out | refine below_set ?_ GE234.out) | exact HB.out)⟩
        · rw [if_neg c6] at H
          have c6b0 : (a0_3 == a1_3) = false := beq_eq_false_iff_ne.mpr c6
          have c6b1 : (a0_3 != a1_3) = true := bne_iff_ne.mpr c6
          obtain rfl := Option.some.inj H
          go_enter Tryd.func18, Tryd.ntmps18
          go_wp2_with (first | ((with_reducible refine gate_dst (N := 2) rfl ?_); refine box_event ?hg (N := 2) ?hd (cs := #[.int .i64 a0_0, .string a0_1, .int .i64 a0_2, .int .i64 a0_3]) (t := 27) ?hr ?_; (case hd => rfl); (case hg => rfl); (case hr => first | (go_simp; done) | (go_simp; rfl)); intro gb233 hg w12 hbox hb; have n0_ := Aside0.mk (below_step (by repeat (first | (with_reducible first | exact HB.out | apply below_alloc | apply pw_below_drewN | apply below_drew1) | exact HB.out)) hb); have n1_ := Aside0.mk (hbox); have n2_ := Aside0.mk ((by rw [hg]; exact (below_size (by repeat (first | (with_reducible first | exact HB.out | apply below_alloc | apply pw_below_drewN | apply below_drew1) | exact HB.out))) : w.heap.size ≤ gb233)); have n3_ := Aside0.mk ((by rw [hg]; exact (below_size (by repeat (first | (with_reducible first | exact HB.out | apply below_alloc | apply pw_below_drewN | apply below_drew1) | exact HB.out))) : w.heap.size ≤ gb233)); clear HB; have HB := n0_; have BK233 := n1_; have GW233 := n2_; have GE233 := n3_; clear n0_ n1_ n2_ n3_; clear hb hbox hg) | ((with_reducible refine gate_dst (N := 3) rfl ?_); refine box_event ?hg (N := 3) ?hd (cs := #[.int .i64 a1_0, .string a1_1, .int .i64 a1_2, .int .i64 a1_3]) (t := 27) ?hr ?_; (case hd => rfl); (case hg => rfl); (case hr => first | (go_simp; done) | (go_simp; rfl)); intro gb234 hg w13 hbox hb; have n0_ := Aside0.mk (blk_below (g := gb233) (o := .cells #[.int .i64 a0_0, .string a0_1, .int .i64 a0_2, .int .i64 a0_3] 27 (0, 0)) (by (with_reducible repeat (first | refine blk_drewN ?_ _ | refine blk_drew ?_ | refine blk_alloc ?_ _)); exact BK233.out) hb); have n1_ := Aside0.mk (below_step (by repeat (first | (with_reducible first | exact HB.out | apply below_alloc | apply pw_below_drewN | apply below_drew1 | refine below_set ?_ GE233.out) | exact HB.out)) hb); have n2_ := Aside0.mk (hbox); have n3_ := Aside0.mk ((by rw [hg]; exact (below_size (by repeat (first | (with_reducible first | exact HB.out | apply below_alloc | apply pw_below_drewN | apply below_drew1 | refine below_set ?_ GE233.out) | exact HB.out))) : w.heap.size ≤ gb234)); have n4_ := Aside0.mk ((by rw [hg]; exact (below_size (by repeat (first | (with_reducible first | exact HB.out | apply below_alloc | apply pw_below_drewN | apply below_drew1 | refine below_set ?_ GE233.out) | exact HB.out))) : w.heap.size ≤ gb234)); have n5_ := Aside0.mk ((by rw [hg]; exact Nat.ne_of_lt (blk_lt (g := gb233) (o := .cells #[.int .i64 a0_0, .string a0_1, .int .i64 a0_2, .int .i64 a0_3] 27 (0, 0)) (by (with_reducible repeat (first | refine blk_drewN ?_ _ | refine blk_drew ?_ | refine blk_alloc ?_ _)); exact BK233.out)) : gb233 ≠ gb234)); have n6_ := Aside0.mk ((by rw [hg]; exact Nat.ne_of_gt (blk_lt (g := gb233) (o := .cells #[.int .i64 a0_0, .string a0_1, .int .i64 a0_2, .int .i64 a0_3] 27 (0, 0)) (by (with_reducible repeat (first | refine blk_drewN ?_ _ | refine blk_drew ?_ | refine blk_alloc ?_ _)); exact BK233.out)) : gb234 ≠ gb233)); clear BK233; clear HB; have BK233 := n0_; have HB := n1_; have BK234 := n2_; have GW234 := n3_; have GE234 := n4_; have NB233_234 := n5_; have NB234_233 := n6_; clear n0_ n1_ n2_ n3_ n4_ n5_ n6_; clear hb hbox hg; have hnb14 := NB233_234.out; have hnc14 := NB234_233.out; have hcz15_0 : w13.cell? ⟨gb233, 0, none⟩ = some (.int .i64 a0_0) := (blk_cell BK233.out 0).trans rfl; have hcz15_1 : w13.cell? ⟨gb233, 1, none⟩ = some (.string a0_1) := (blk_cell BK233.out 1).trans rfl; have hcz15_2 : w13.cell? ⟨gb233, 2, none⟩ = some (.int .i64 a0_2) := (blk_cell BK233.out 2).trans rfl; have hcz15_3 : w13.cell? ⟨gb233, 3, none⟩ = some (.int .i64 a0_3) := (blk_cell BK233.out 3).trans rfl; have hfz15_0 := blk_frozen BK233.out 0; have hfz15_1 := blk_frozen BK233.out 1; have hfz15_2 := blk_frozen BK233.out 2; have hfz15_3 := blk_frozen BK233.out 3; have hcz16_0 : w13.cell? ⟨gb234, 0, none⟩ = some (.int .i64 a1_0) := (blk_cell BK234.out 0).trans rfl; have hcz16_1 : w13.cell? ⟨gb234, 1, none⟩ = some (.string a1_1) := (blk_cell BK234.out 1).trans rfl; have hcz16_2 : w13.cell? ⟨gb234, 2, none⟩ = some (.int .i64 a1_2) := (blk_cell BK234.out 2).trans rfl; have hcz16_3 : w13.cell? ⟨gb234, 3, none⟩ = some (.int .i64 a1_3) := (blk_cell BK234.out 3).trans rfl; have hfz16_0 := blk_frozen BK234.out 0; have hfz16_1 := blk_frozen BK234.out 1; have hfz16_2 := blk_frozen BK234.out 2; have hfz16_3 := blk_frozen BK234.out 3))
          go_ret
          exact ⟨by first | rfl | (simp [errW_none, errW_some] <;> rfl) | (simp [*, errW_none, errW_some] <;> rfl), by repeat (first | (with_reducible first | exact HB.out | apply below_alloc | apply pw_below_drewN | apply below_drew1 | refine below_set ?_ GE233.out | refine below_set ?_ GE234.out) | exact HB.out)⟩
      · rw [if_neg c5] at H
        have c5b0 : (a0_2 == a1_2) = false := beq_eq_false_iff_ne.mpr c5
        have c5b1 : (a0_2 != a1_2) = true := bne_iff_ne.mpr c5
        obtain rfl := Option.some.inj H
        go_enter Tryd.func18, Tryd.ntmps18
        go_wp2_with (first | ((with_reducible refine gate_dst (N := 2) rfl ?_); refine box_event ?hg (N := 2) ?hd (cs := #[.int .i64 a0_0, .string a0_1, .int .i64 a0_2, .int .i64 a0_3]) (t := 27) ?hr ?_; (case hd => rfl); (case hg => rfl); (case hr => first | (go_simp; done) | (go_simp; rfl)); intro gb233 hg w17 hbox hb; have n0_ := Aside0.mk (below_step (by repeat (first | (with_reducible first | exact HB.out | apply below_alloc | apply pw_below_drewN | apply below_drew1) | exact HB.out)) hb); have n1_ := Aside0.mk (hbox); have n2_ := Aside0.mk ((by rw [hg]; exact (below_size (by repeat (first | (with_reducible first | exact HB.out | apply below_alloc | apply pw_below_drewN | apply below_drew1) | exact HB.out))) : w.heap.size ≤ gb233)); have n3_ := Aside0.mk ((by rw [hg]; exact (below_size (by repeat (first | (with_reducible first | exact HB.out | apply below_alloc | apply pw_below_drewN | apply below_drew1) | exact HB.out))) : w.heap.size ≤ gb233)); clear HB; have HB := n0_; have BK233 := n1_; have GW233 := n2_; have GE233 := n3_; clear n0_ n1_ n2_ n3_; clear hb hbox hg) | ((with_reducible refine gate_dst (N := 3) rfl ?_); refine box_event ?hg (N := 3) ?hd (cs := #[.int .i64 a1_0, .string a1_1, .int .i64 a1_2, .int .i64 a1_3]) (t := 27) ?hr ?_; (case hd => rfl); (case hg => rfl); (case hr => first | (go_simp; done) | (go_simp; rfl)); intro gb234 hg w18 hbox hb; have n0_ := Aside0.mk (blk_below (g := gb233) (o := .cells #[.int .i64 a0_0, .string a0_1, .int .i64 a0_2, .int .i64 a0_3] 27 (0, 0)) (by (with_reducible repeat (first | refine blk_drewN ?_ _ | refine blk_drew ?_ | refine blk_alloc ?_ _)); exact BK233.out) hb); have n1_ := Aside0.mk (below_step (by repeat (first | (with_reducible first | exact HB.out | apply below_alloc | apply pw_below_drewN | apply below_drew1 | refine below_set ?_ GE233.out) | exact HB.out)) hb); have n2_ := Aside0.mk (hbox); have n3_ := Aside0.mk ((by rw [hg]; exact (below_size (by repeat (first | (with_reducible first | exact HB.out | apply below_alloc | apply pw_below_drewN | apply below_drew1 | refine below_set ?_ GE233.out) | exact HB.out))) : w.heap.size ≤ gb234)); have n4_ := Aside0.mk ((by rw [hg]; exact (below_size (by repeat (first | (with_reducible first | exact HB.out | apply below_alloc | apply pw_below_drewN | apply below_drew1 | refine below_set ?_ GE233.out) | exact HB.out))) : w.heap.size ≤ gb234)); have n5_ := Aside0.mk ((by rw [hg]; exact Nat.ne_of_lt (blk_lt (g := gb233) (o := .cells #[.int .i64 a0_0, .string a0_1, .int .i64 a0_2, .int .i64 a0_3] 27 (0, 0)) (by (with_reducible repeat (first | refine blk_drewN ?_ _ | refine blk_drew ?_ | refine blk_alloc ?_ _)); exact BK233.out)) : gb233 ≠ gb234)); have n6_ := Aside0.mk ((by rw [hg]; exact Nat.ne_of_gt (blk_lt (g := gb233) (o := .cells #[.int .i64 a0_0, .string a0_1, .int .i64 a0_2, .int .i64 a0_3] 27 (0, 0)) (by (with_reducible repeat (first | refine blk_drewN ?_ _ | refine blk_drew ?_ | refine blk_alloc ?_ _)); exact BK233.out)) : gb234 ≠ gb233)); clear BK233; clear HB; have BK233 := n0_; have HB := n1_; have BK234 := n2_; have GW234 := n3_; have GE234 := n4_; have NB233_234 := n5_; have NB234_233 := n6_; clear n0_ n1_ n2_ n3_ n4_ n5_ n6_; clear hb hbox hg; have hnb19 := NB233_234.out; have hnc19 := NB234_233.out; have hcz20_0 : w18.cell? ⟨gb233, 0, none⟩ = some (.int .i64 a0_0) := (blk_cell BK233.out 0).trans rfl; have hcz20_1 : w18.cell? ⟨gb233, 1, none⟩ = some (.string a0_1) := (blk_cell BK233.out 1).trans rfl; have hcz20_2 : w18.cell? ⟨gb233, 2, none⟩ = some (.int .i64 a0_2) := (blk_cell BK233.out 2).trans rfl; have hcz20_3 : w18.cell? ⟨gb233, 3, none⟩ = some (.int .i64 a0_3) := (blk_cell BK233.out 3).trans rfl; have hfz20_0 := blk_frozen BK233.out 0; have hfz20_1 := blk_frozen BK233.out 1; have hfz20_2 := blk_frozen BK233.out 2; have hfz20_3 := blk_frozen BK233.out 3; have hcz21_0 : w18.cell? ⟨gb234, 0, none⟩ = some (.int .i64 a1_0) := (blk_cell BK234.out 0).trans rfl; have hcz21_1 : w18.cell? ⟨gb234, 1, none⟩ = some (.string a1_1) := (blk_cell BK234.out 1).trans rfl; have hcz21_2 : w18.cell? ⟨gb234, 2, none⟩ = some (.int .i64 a1_2) := (blk_cell BK234.out 2).trans rfl; have hcz21_3 : w18.cell? ⟨gb234, 3, none⟩ = some (.int .i64 a1_3) := (blk_cell BK234.out 3).trans rfl; have hfz21_0 := blk_frozen BK234.out 0; have hfz21_1 := blk_frozen BK234.out 1; have hfz21_2 := blk_frozen BK234.out 2; have hfz21_3 := blk_frozen BK234.out 3))
        go_ret
        exact ⟨by first | rfl | (simp [errW_none, errW_some] <;> rfl) | (simp [*, errW_none, errW_some] <;> rfl), by repeat (first | (with_reducible first | exact HB.out | apply below_alloc | apply pw_below_drewN | apply below_drew1 | refine below_set ?_ GE233.out | refine below_set ?_ GE234.out) | exact HB.out)⟩
    · rw [if_neg c4] at H
      have c4b0 : (a0_1.toList == a1_1.toList) = false := beq_eq_false_iff_ne.mpr c4
      have c4b1 : (a0_1.toList != a1_1.toList) = true := bne_iff_ne.mpr c4
      obtain rfl := Option.some.inj H
      go_enter Tryd.func18, Tryd.ntmps18
      go_wp2_with (first | ((with_reducible refine gate_dst (N := 2) rfl ?_); refine box_event ?hg (N := 2) ?hd (cs := #[.int .i64 a0_0, .string a0_1, .int .i64 a0_2, .int .i64 a0_3]) (t := 27) ?hr ?_; (case hd => rfl); (case hg => rfl); (case hr => first | (go_simp; done) | (go_simp; rfl)); intro gb233 hg w22 hbox hb; have n0_ := Aside0.mk (below_step (by repeat (first | (with_reducible first | exact HB.out | apply below_alloc | apply pw_below_drewN | apply below_drew1) | exact HB.out)) hb); have n1_ := Aside0.mk (hbox); have n2_ := Aside0.mk ((by rw [hg]; exact (below_size (by repeat (first | (with_reducible first | exact HB.out | apply below_alloc | apply pw_below_drewN | apply below_drew1) | exact HB.out))) : w.heap.size ≤ gb233)); have n3_ := Aside0.mk ((by rw [hg]; exact (below_size (by repeat (first | (with_reducible first | exact HB.out | apply below_alloc | apply pw_below_drewN | apply below_drew1) | exact HB.out))) : w.heap.size ≤ gb233)); clear HB; have HB := n0_; have BK233 := n1_; have GW233 := n2_; have GE233 := n3_; clear n0_ n1_ n2_ n3_; clear hb hbox hg) | ((with_reducible refine gate_dst (N := 3) rfl ?_); refine box_event ?hg (N := 3) ?hd (cs := #[.int .i64 a1_0, .string a1_1, .int .i64 a1_2, .int .i64 a1_3]) (t := 27) ?hr ?_; (case hd => rfl); (case hg => rfl); (case hr => first | (go_simp; done) | (go_simp; rfl)); intro gb234 hg w23 hbox hb; have n0_ := Aside0.mk (blk_below (g := gb233) (o := .cells #[.int .i64 a0_0, .string a0_1, .int .i64 a0_2, .int .i64 a0_3] 27 (0, 0)) (by (with_reducible repeat (first | refine blk_drewN ?_ _ | refine blk_drew ?_ | refine blk_alloc ?_ _)); exact BK233.out) hb); have n1_ := Aside0.mk (below_step (by repeat (first | (with_reducible first | exact HB.out | apply below_alloc | apply pw_below_drewN | apply below_drew1 | refine below_set ?_ GE233.out) | exact HB.out)) hb); have n2_ := Aside0.mk (hbox); have n3_ := Aside0.mk ((by rw [hg]; exact (below_size (by repeat (first | (with_reducible first | exact HB.out | apply below_alloc | apply pw_below_drewN | apply below_drew1 | refine below_set ?_ GE233.out) | exact HB.out))) : w.heap.size ≤ gb234)); have n4_ := Aside0.mk ((by rw [hg]; exact (below_size (by repeat (first | (with_reducible first | exact HB.out | apply below_alloc | apply pw_below_drewN | apply below_drew1 | refine below_set ?_ GE233.out) | exact HB.out))) : w.heap.size ≤ gb234)); have n5_ := Aside0.mk ((by rw [hg]; exact Nat.ne_of_lt (blk_lt (g := gb233) (o := .cells #[.int .i64 a0_0, .string a0_1, .int .i64 a0_2, .int .i64 a0_3] 27 (0, 0)) (by (with_reducible repeat (first | refine blk_drewN ?_ _ | refine blk_drew ?_ | refine blk_alloc ?_ _)); exact BK233.out)) : gb233 ≠ gb234)); have n6_ := Aside0.mk ((by rw [hg]; exact Nat.ne_of_gt (blk_lt (g := gb233) (o := .cells #[.int .i64 a0_0, .string a0_1, .int .i64 a0_2, .int .i64 a0_3] 27 (0, 0)) (by (with_reducible repeat (first | refine blk_drewN ?_ _ | refine blk_drew ?_ | refine blk_alloc ?_ _)); exact BK233.out)) : gb234 ≠ gb233)); clear BK233; clear HB; have BK233 := n0_; have HB := n1_; have BK234 := n2_; have GW234 := n3_; have GE234 := n4_; have NB233_234 := n5_; have NB234_233 := n6_; clear n0_ n1_ n2_ n3_ n4_ n5_ n6_; clear hb hbox hg; have hnb24 := NB233_234.out; have hnc24 := NB234_233.out; have hcz25_0 : w23.cell? ⟨gb233, 0, none⟩ = some (.int .i64 a0_0) := (blk_cell BK233.out 0).trans rfl; have hcz25_1 : w23.cell? ⟨gb233, 1, none⟩ = some (.string a0_1) := (blk_cell BK233.out 1).trans rfl; have hcz25_2 : w23.cell? ⟨gb233, 2, none⟩ = some (.int .i64 a0_2) := (blk_cell BK233.out 2).trans rfl; have hcz25_3 : w23.cell? ⟨gb233, 3, none⟩ = some (.int .i64 a0_3) := (blk_cell BK233.out 3).trans rfl; have hfz25_0 := blk_frozen BK233.out 0; have hfz25_1 := blk_frozen BK233.out 1; have hfz25_2 := blk_frozen BK233.out 2; have hfz25_3 := blk_frozen BK233.out 3; have hcz26_0 : w23.cell? ⟨gb234, 0, none⟩ = some (.int .i64 a1_0) := (blk_cell BK234.out 0).trans rfl; have hcz26_1 : w23.cell? ⟨gb234, 1, none⟩ = some (.string a1_1) := (blk_cell BK234.out 1).trans rfl; have hcz26_2 : w23.cell? ⟨gb234, 2, none⟩ = some (.int .i64 a1_2) := (blk_cell BK234.out 2).trans rfl; have hcz26_3 : w23.cell? ⟨gb234, 3, none⟩ = some (.int .i64 a1_3) := (blk_cell BK234.out 3).trans rfl; have hfz26_0 := blk_frozen BK234.out 0; have hfz26_1 := blk_frozen BK234.out 1; have hfz26_2 := blk_frozen BK234.out 2; have hfz26_3 := blk_frozen BK234.out 3))
      go_ret
      exact ⟨by first | rfl | (simp [errW_none, errW_some] <;> rfl) | (simp [*, errW_none, errW_some] <;> rfl), by repeat (first | (with_reducible first | exact HB.out | apply below_alloc | apply pw_below_drewN | apply below_drew1 | refine below_set ?_ GE233.out | refine below_set ?_ GE234.out) | exact HB.out)⟩
  · rw [if_neg c3] at H
    have c3b0 : (a0_0 == a1_0) = false := beq_eq_false_iff_ne.mpr c3
    have c3b1 : (a0_0 != a1_0) = true := bne_iff_ne.mpr c3
    obtain rfl := Option.some.inj H
    go_enter Tryd.func18, Tryd.ntmps18
    go_wp2_with (first | ((with_reducible refine gate_dst (N := 2) rfl ?_); refine box_event ?hg (N := 2) ?hd (cs := #[.int .i64 a0_0, .string a0_1, .int .i64 a0_2, .int .i64 a0_3]) (t := 27) ?hr ?_; (case hd => rfl); (case hg => rfl); (case hr => first | (go_simp; done) | (go_simp; rfl)); intro gb233 hg w27 hbox hb; have n0_ := Aside0.mk (below_step (by repeat (first | (with_reducible first | exact HB.out | apply below_alloc | apply pw_below_drewN | apply below_drew1) | exact HB.out)) hb); have n1_ := Aside0.mk (hbox); have n2_ := Aside0.mk ((by rw [hg]; exact (below_size (by repeat (first | (with_reducible first | exact HB.out | apply below_alloc | apply pw_below_drewN | apply below_drew1) | exact HB.out))) : w.heap.size ≤ gb233)); have n3_ := Aside0.mk ((by rw [hg]; exact (below_size (by repeat (first | (with_reducible first | exact HB.out | apply below_alloc | apply pw_below_drewN | apply below_drew1) | exact HB.out))) : w.heap.size ≤ gb233)); clear HB; have HB := n0_; have BK233 := n1_; have GW233 := n2_; have GE233 := n3_; clear n0_ n1_ n2_ n3_; clear hb hbox hg) | ((with_reducible refine gate_dst (N := 3) rfl ?_); refine box_event ?hg (N := 3) ?hd (cs := #[.int .i64 a1_0, .string a1_1, .int .i64 a1_2, .int .i64 a1_3]) (t := 27) ?hr ?_; (case hd => rfl); (case hg => rfl); (case hr => first | (go_simp; done) | (go_simp; rfl)); intro gb234 hg w28 hbox hb; have n0_ := Aside0.mk (blk_below (g := gb233) (o := .cells #[.int .i64 a0_0, .string a0_1, .int .i64 a0_2, .int .i64 a0_3] 27 (0, 0)) (by (with_reducible repeat (first | refine blk_drewN ?_ _ | refine blk_drew ?_ | refine blk_alloc ?_ _)); exact BK233.out) hb); have n1_ := Aside0.mk (below_step (by repeat (first | (with_reducible first | exact HB.out | apply below_alloc | apply pw_below_drewN | apply below_drew1 | refine below_set ?_ GE233.out) | exact HB.out)) hb); have n2_ := Aside0.mk (hbox); have n3_ := Aside0.mk ((by rw [hg]; exact (below_size (by repeat (first | (with_reducible first | exact HB.out | apply below_alloc | apply pw_below_drewN | apply below_drew1 | refine below_set ?_ GE233.out) | exact HB.out))) : w.heap.size ≤ gb234)); have n4_ := Aside0.mk ((by rw [hg]; exact (below_size (by repeat (first | (with_reducible first | exact HB.out | apply below_alloc | apply pw_below_drewN | apply below_drew1 | refine below_set ?_ GE233.out) | exact HB.out))) : w.heap.size ≤ gb234)); have n5_ := Aside0.mk ((by rw [hg]; exact Nat.ne_of_lt (blk_lt (g := gb233) (o := .cells #[.int .i64 a0_0, .string a0_1, .int .i64 a0_2, .int .i64 a0_3] 27 (0, 0)) (by (with_reducible repeat (first | refine blk_drewN ?_ _ | refine blk_drew ?_ | refine blk_alloc ?_ _)); exact BK233.out)) : gb233 ≠ gb234)); have n6_ := Aside0.mk ((by rw [hg]; exact Nat.ne_of_gt (blk_lt (g := gb233) (o := .cells #[.int .i64 a0_0, .string a0_1, .int .i64 a0_2, .int .i64 a0_3] 27 (0, 0)) (by (with_reducible repeat (first | refine blk_drewN ?_ _ | refine blk_drew ?_ | refine blk_alloc ?_ _)); exact BK233.out)) : gb234 ≠ gb233)); clear BK233; clear HB; have BK233 := n0_; have HB := n1_; have BK234 := n2_; have GW234 := n3_; have GE234 := n4_; have NB233_234 := n5_; have NB234_233 := n6_; clear n0_ n1_ n2_ n3_ n4_ n5_ n6_; clear hb hbox hg; have hnb29 := NB233_234.out; have hnc29 := NB234_233.out; have hcz30_0 : w28.cell? ⟨gb233, 0, none⟩ = some (.int .i64 a0_0) := (blk_cell BK233.out 0).trans rfl; have hcz30_1 : w28.cell? ⟨gb233, 1, none⟩ = some (.string a0_1) := (blk_cell BK233.out 1).trans rfl; have hcz30_2 : w28.cell? ⟨gb233, 2, none⟩ = some (.int .i64 a0_2) := (blk_cell BK233.out 2).trans rfl; have hcz30_3 : w28.cell? ⟨gb233, 3, none⟩ = some (.int .i64 a0_3) := (blk_cell BK233.out 3).trans rfl; have hfz30_0 := blk_frozen BK233.out 0; have hfz30_1 := blk_frozen BK233.out 1; have hfz30_2 := blk_frozen BK233.out 2; have hfz30_3 := blk_frozen BK233.out 3; have hcz31_0 : w28.cell? ⟨gb234, 0, none⟩ = some (.int .i64 a1_0) := (blk_cell BK234.out 0).trans rfl; have hcz31_1 : w28.cell? ⟨gb234, 1, none⟩ = some (.string a1_1) := (blk_cell BK234.out 1).trans rfl; have hcz31_2 : w28.cell? ⟨gb234, 2, none⟩ = some (.int .i64 a1_2) := (blk_cell BK234.out 2).trans rfl; have hcz31_3 : w28.cell? ⟨gb234, 3, none⟩ = some (.int .i64 a1_3) := (blk_cell BK234.out 3).trans rfl; have hfz31_0 := blk_frozen BK234.out 0; have hfz31_1 := blk_frozen BK234.out 1; have hfz31_2 := blk_frozen BK234.out 2; have hfz31_3 := blk_frozen BK234.out 3))
    go_ret
    exact ⟨by first | rfl | (simp [errW_none, errW_some] <;> rfl) | (simp [*, errW_none, errW_some] <;> rfl), by repeat (first | (with_reducible first | exact HB.out | apply below_alloc | apply pw_below_drewN | apply below_drew1 | refine below_set ?_ GE233.out | refine below_set ?_ GE234.out) | exact HB.out)⟩

end Go.Proofs.YtghnljoaklmakaaDoor.X


-- written by a program of this session (wip/ext.py) out of the translation. Not trusted: Lean checks it.
namespace Go.Proofs.YtghnljoaklmakaaDoor.X
open Go.RowKit Go.Proofs.YtghnljoaklmakaaDoorW.PrintWords Go.Proofs.YtghnljoaklmakaaDoorW.PrintLast Go.Proofs.YtghnljoaklmakaaDoorW.PrintMore
attribute [local go_sem] max2_int min2_int max_two min_two max_three min_three max_four min_four   -- for this text's walks alone
open Go.Proofs.YtghnljoaklmakaaDoorG
set_option linter.unusedVariables false
set_option linter.unusedSimpArgs false

def laws_FnExactParseNote.f (k : Nat) (a0 : ByteArray) : Option (Bool) := if (a0.size : Int) > 1048576 then (some true) else ((spec_ParseNote.f k a0).bind fun bt357 => ((impl_ParseNote.f k a0).bind fun bt363 => ((laws_eqNote.f bt363.1 bt363.2.1 bt363.2.2.1 bt363.2.2.2.1 bt357.1 bt357.2.1 bt357.2.2.1 bt357.2.2.2.1).bind fun t369 => (if t369 = true then (if (bt363.2.2.2.2 != bt357.2.2.2.2) = true then (some false) else (some true)) else (some false)))))
theorem laws_FnExactParseNote.mono : ∀ a0 k, LeO (laws_FnExactParseNote.f k a0) (laws_FnExactParseNote.f (k + 1) a0) := by
  intro a0 k
  unfold laws_FnExactParseNote.f
  repeat' first
      | (with_reducible exact impl_ParseNote.mono _ _)
      | (with_reducible exact spec_ParseNote.mono _ _)
      | (with_reducible exact LeO.refl _)
      | (with_reducible exact LeO.none _)
      | (with_reducible refine LeO.ite ?_ ?_)
      | (with_reducible refine LeO.bind ?_ (fun _ => ?_))
      | exact impl_ParseNote.mono _ _
      | exact spec_ParseNote.mono _ _
      | exact LeO.none _
      | refine LeO.ite ?_ ?_
      | refine LeO.bind ?_ (fun _ => ?_)
set_option maxHeartbeats 8000000 in
set_option maxRecDepth 100000 in
theorem laws_FnExactParseNote.calls (k : Nat) (a0 : ByteArray) (r : Bool) (w : World) (hG : Glob w) (h : laws_FnExactParseNote.f k a0 = some r) (hr_ : r = true) :
    Calls Tryd.prog 5 #[.string a0] w fun e w' => e = .returned (.bool r) ∧ Below w.heap.size w w' := by
  have HR_ := Aside0.mk hr_
  clear hr_
  have hu27 := Tryd.underlying27
  have HGL := Aside0.mk hG
  clear hG
  have HB := Aside0.mk (Below.refl w.heap.size w)
  have H : (if (a0.size : Int) > 1048576 then (some true) else ((spec_ParseNote.f k a0).bind fun bt357 => ((impl_ParseNote.f k a0).bind fun bt363 => ((laws_eqNote.f bt363.1 bt363.2.1 bt363.2.2.1 bt363.2.2.2.1 bt357.1 bt357.2.1 bt357.2.2.1 bt357.2.2.2.1).bind fun t369 => (if t369 = true then (if (bt363.2.2.2.2 != bt357.2.2.2.2) = true then (some false) else (some true)) else (some false)))))) = some r := h
  clear h
  by_cases c2 : (a0.size : Int) > 1048576
  · rw [if_pos c2] at H
    have c2b0 : decide (1048576 < (a0.size : Int)) = true := decide_eq_true c2
    have c2b1 : decide (1048576 < a0.size) = true := decide_eq_true (by omega)
    clear c2
    obtain rfl := Option.some.inj H
    go_enter Tryd.func5, Tryd.ntmps5
    go_wp2
    go_ret
    exact ⟨by first | rfl | (simp [errW_none, errW_some] <;> rfl) | (simp [*, errW_none, errW_some] <;> rfl), by repeat (first | (with_reducible first | exact HB.out | apply below_alloc | apply pw_below_drewN | apply below_drew1) | exact HB.out)⟩
  · rw [if_neg c2] at H
    have c2b0 : decide (1048576 < (a0.size : Int)) = false := decide_eq_false c2
    have c2b1 : decide (1048576 < a0.size) = false := decide_eq_false (by omega)
    clear c2
    replace H := Option.bind_eq_some_iff.mp H
    obtain ⟨⟨t357, t358, t359, t360, t361⟩, A30, H⟩ := H
    replace H : ((impl_ParseNote.f k a0).bind fun bt363 => ((laws_eqNote.f bt363.1 bt363.2.1 bt363.2.2.1 bt363.2.2.2.1 t357 t358 t359 t360).bind fun t369 => (if t369 = true then (if (bt363.2.2.2.2 != t361) = true then (some false) else (some true)) else (some false)))) = some r := H
    have A3 := Aside0.mk A30
    clear A30
    replace H := Option.bind_eq_some_iff.mp H
    obtain ⟨⟨t363, t364, t365, t366, t367⟩, A40, H⟩ := H
    replace H : ((laws_eqNote.f t363 t364 t365 t366 t357 t358 t359 t360).bind fun t369 => (if t369 = true then (if (t367 != t361) = true then (some false) else (some true)) else (some false))) = some r := H
    have A4 := Aside0.mk A40
    clear A40
    replace H := Option.bind_eq_some_iff.mp H
    obtain ⟨t369, A50, H⟩ := H
    replace H : (if t369 = true then (if (t367 != t361) = true then (some false) else (some true)) else (some false)) = some r := H
    have A5 := Aside0.mk A50
    clear A50
    by_cases c6 : t369 = true
    · subst c6
      have H1 : (if (t367 != t361) = true then (some false) else (some true)) = some r := by rw [if_pos rfl] at H; exact H
      clear H
      have H := H1
      clear H1
      by_cases c7 : (t367 != t361) = true
      · rw [if_pos c7] at H
        have c7b0 : (t367 != t361) = true := c7
        (try (have c7b1 : decide (t367 = t361) = false := by simpa using c7))
        (try (have c7b2 : (t367 == t361) = false := by simpa using c7))
        (try (have c7b3 : ¬ (t367 = t361) := by simpa using c7))
        clear c7
        exact absurd (Option.some.inj H) (by rw [HR_.out]; decide)
      · rw [if_neg c7] at H
        have c7b0 : (t367 != t361) = false := by simpa using c7
        (try (have c7b1 : decide (t367 = t361) = true := by simpa using c7))
        (try (have c7b2 : (t367 == t361) = true := by simpa using c7))
        clear c7
        obtain rfl := Option.some.inj H
        go_enter Tryd.func5, Tryd.ntmps5
        go_wp2_with (first | ((with_reducible refine gate_callee (f := 16) rfl ?_); refine goesL_ (some 12) rfl rfl Tryd.func16 (by kernel_rfl) rfl #[.string a0] rfl (by (try simp only [List.map_toArray, List.map_cons, List.map_nil]); first | done | rfl | (simp only [List.length_drop, List.length_take]; rfl)) ?_; (with_reducible refine (spec_ParseNote.calls k a0 t357 t358 t359 t360 t361 _ A3.out).mono ?_); rintro e w17 ⟨rfl, hb⟩; refine ⟨_, rfl, ?_⟩; have n0_ := Aside0.mk (below_step (by repeat (first | (with_reducible first | exact HB.out | apply below_alloc | apply pw_below_drewN | apply below_drew1) | exact HB.out)) hb); clear HB; have HB := n0_; clear n0_; (try clear hb); (try clear hb2); (try clear hk); (try clear hi)) | ((with_reducible refine gate_dst (N := 3) rfl ?_); refine box_event ?hg (N := 3) ?hd (cs := #[.int .i64 0, .string (⟨#[]⟩ : ByteArray), .int .i64 0, .int .i64 0]) (t := 27) ?hr ?_; (case hd => rfl); (case hg => rfl); (case hr => first | (go_simp; done) | (go_simp; rfl)); intro gb362 hg w18 hbox hb; have n0_ := Aside0.mk (below_step (by repeat (first | (with_reducible first | exact HB.out | apply below_alloc | apply pw_below_drewN | apply below_drew1) | exact HB.out)) hb); have n1_ := Aside0.mk (hbox); have n2_ := Aside0.mk ((by rw [hg]; exact (below_size (by repeat (first | (with_reducible first | exact HB.out | apply below_alloc | apply pw_below_drewN | apply below_drew1) | exact HB.out))) : w.heap.size ≤ gb362)); have n3_ := Aside0.mk ((by rw [hg]; exact (below_size (by repeat (first | (with_reducible first | exact HB.out | apply below_alloc | apply pw_below_drewN | apply below_drew1) | exact HB.out))) : w.heap.size ≤ gb362)); clear HB; have HB := n0_; have BK362 := n1_; have GW362 := n2_; have GE362 := n3_; clear n0_ n1_ n2_ n3_; clear hb hbox hg; have hcz19_0 : w18.cell? ⟨gb362, 0, none⟩ = some (.int .i64 0) := (blk_cell BK362.out 0).trans rfl; have hcz19_1 : w18.cell? ⟨gb362, 1, none⟩ = some (.string (⟨#[]⟩ : ByteArray)) := (blk_cell BK362.out 1).trans rfl; have hcz19_2 : w18.cell? ⟨gb362, 2, none⟩ = some (.int .i64 0) := (blk_cell BK362.out 2).trans rfl; have hcz19_3 : w18.cell? ⟨gb362, 3, none⟩ = some (.int .i64 0) := (blk_cell BK362.out 3).trans rfl; have hfz19_0 := blk_frozen BK362.out 0; have hfz19_1 := blk_frozen BK362.out 1; have hfz19_2 := blk_frozen BK362.out 2; have hfz19_3 := blk_frozen BK362.out 3) | ((with_reducible refine gate_callee (f := 17) rfl ?_); refine goesL_ (some 17) rfl rfl Tryd.func17 (by kernel_rfl) rfl #[.string a0] rfl (by (try simp only [List.map_toArray, List.map_cons, List.map_nil]); first | done | rfl | (simp only [List.length_drop, List.length_take]; rfl)) ?_; (with_reducible refine (impl_ParseNote.calls k a0 t363 t364 t365 t366 t367 _ ?side1 A4.out).mono ?_); (case side1 => exact Glob.below HGL.out (by repeat (first | (with_reducible first | exact HB.out | apply below_alloc | apply pw_below_drewN | apply below_drew1 | refine below_set ?_ GE362.out) | exact HB.out))); rintro e w20 ⟨rfl, hb⟩; refine ⟨_, rfl, ?_⟩; have n0_ := Aside0.mk (blk_below (g := gb362) (o := .cells #[.int .i64 t357, .string t358, .int .i64 t359, .int .i64 t360] 27 (0, 0)) (by (with_reducible repeat (first | refine blk_drewN ?_ _ | refine blk_drew ?_ | refine blk_alloc ?_ _)); refine blk_put (cs := #[.int .i64 t357, .string t358, .int .i64 t359, .int .i64 0]) ?_ 3 _ rfl; (with_reducible repeat (first | refine blk_drewN ?_ _ | refine blk_drew ?_ | refine blk_alloc ?_ _)); refine blk_put (cs := #[.int .i64 t357, .string t358, .int .i64 0, .int .i64 0]) ?_ 2 _ rfl; (with_reducible repeat (first | refine blk_drewN ?_ _ | refine blk_drew ?_ | refine blk_alloc ?_ _)); refine blk_put (cs := #[.int .i64 t357, .string (⟨#[]⟩ : ByteArray), .int .i64 0, .int .i64 0]) ?_ 1 _ rfl; (with_reducible repeat (first | refine blk_drewN ?_ _ | refine blk_drew ?_ | refine blk_alloc ?_ _)); refine blk_put (cs := #[.int .i64 0, .string (⟨#[]⟩ : ByteArray), .int .i64 0, .int .i64 0]) ?_ 0 _ rfl; (with_reducible repeat (first | refine blk_drewN ?_ _ | refine blk_drew ?_ | refine blk_alloc ?_ _)); exact BK362.out) hb); have n1_ := Aside0.mk (below_step (by repeat (first | (with_reducible first | exact HB.out | apply below_alloc | apply pw_below_drewN | apply below_drew1 | refine below_set ?_ GE362.out) | exact HB.out)) hb); clear BK362; clear HB; have BK362 := n0_; have HB := n1_; clear n0_ n1_; (try clear hb); (try clear hb2); (try clear hk); (try clear hi)) | ((with_reducible refine gate_dst (N := 5) rfl ?_); refine box_event ?hg (N := 5) ?hd (cs := #[.int .i64 0, .string (⟨#[]⟩ : ByteArray), .int .i64 0, .int .i64 0]) (t := 27) ?hr ?_; (case hd => rfl); (case hg => rfl); (case hr => first | (go_simp; done) | (go_simp; rfl)); intro gb368 hg w21 hbox hb; have n0_ := Aside0.mk (blk_below (g := gb362) (o := .cells #[.int .i64 t357, .string t358, .int .i64 t359, .int .i64 t360] 27 (0, 0)) (by (with_reducible repeat (first | refine blk_drewN ?_ _ | refine blk_drew ?_ | refine blk_alloc ?_ _)); exact BK362.out) hb); have n1_ := Aside0.mk (below_step (by repeat (first | (with_reducible first | exact HB.out | apply below_alloc | apply pw_below_drewN | apply below_drew1 | refine below_set ?_ GE362.out) | exact HB.out)) hb); have n2_ := Aside0.mk (hbox); have n3_ := Aside0.mk ((by rw [hg]; exact (below_size (by repeat (first | (with_reducible first | exact HB.out | apply below_alloc | apply pw_below_drewN | apply below_drew1 | refine below_set ?_ GE362.out) | exact HB.out))) : w.heap.size ≤ gb368)); have n4_ := Aside0.mk ((by rw [hg]; exact (below_size (by repeat (first | (with_reducible first | exact HB.out | apply below_alloc | apply pw_below_drewN | apply below_drew1 | refine below_set ?_ GE362.out) | exact HB.out))) : w.heap.size ≤ gb368)); have n5_ := Aside0.mk ((by rw [hg]; exact Nat.ne_of_lt (blk_lt (g := gb362) (o := .cells #[.int .i64 t357, .string t358, .int .i64 t359, .int .i64 t360] 27 (0, 0)) (by (with_reducible repeat (first | refine blk_drewN ?_ _ | refine blk_drew ?_ | refine blk_alloc ?_ _)); exact BK362.out)) : gb362 ≠ gb368)); have n6_ := Aside0.mk ((by rw [hg]; exact Nat.ne_of_gt (blk_lt (g := gb362) (o := .cells #[.int .i64 t357, .string t358, .int .i64 t359, .int .i64 t360] 27 (0, 0)) (by (with_reducible repeat (first | refine blk_drewN ?_ _ | refine blk_drew ?_ | refine blk_alloc ?_ _)); exact BK362.out)) : gb368 ≠ gb362)); clear BK362; clear HB; have BK362 := n0_; have HB := n1_; have BK368 := n2_; have GW368 := n3_; have GE368 := n4_; have NB362_368 := n5_; have NB368_362 := n6_; clear n0_ n1_ n2_ n3_ n4_ n5_ n6_; clear hb hbox hg; have hnb22 := NB368_362.out; have hnc22 := NB362_368.out; have hcz23_0 : w21.cell? ⟨gb368, 0, none⟩ = some (.int .i64 0) := (blk_cell BK368.out 0).trans rfl; have hcz23_1 : w21.cell? ⟨gb368, 1, none⟩ = some (.string (⟨#[]⟩ : ByteArray)) := (blk_cell BK368.out 1).trans rfl; have hcz23_2 : w21.cell? ⟨gb368, 2, none⟩ = some (.int .i64 0) := (blk_cell BK368.out 2).trans rfl; have hcz23_3 : w21.cell? ⟨gb368, 3, none⟩ = some (.int .i64 0) := (blk_cell BK368.out 3).trans rfl; have hfz23_0 := blk_frozen BK368.out 0; have hfz23_1 := blk_frozen BK368.out 1; have hfz23_2 := blk_frozen BK368.out 2; have hfz23_3 := blk_frozen BK368.out 3; have hcz24_0 : w21.cell? ⟨gb362, 0, none⟩ = some (.int .i64 t357) := (blk_cell BK362.out 0).trans rfl; have hcz24_1 : w21.cell? ⟨gb362, 1, none⟩ = some (.string t358) := (blk_cell BK362.out 1).trans rfl; have hcz24_2 : w21.cell? ⟨gb362, 2, none⟩ = some (.int .i64 t359) := (blk_cell BK362.out 2).trans rfl; have hcz24_3 : w21.cell? ⟨gb362, 3, none⟩ = some (.int .i64 t360) := (blk_cell BK362.out 3).trans rfl; have hfz24_0 := blk_frozen BK362.out 0; have hfz24_1 := blk_frozen BK362.out 1; have hfz24_2 := blk_frozen BK362.out 2; have hfz24_3 := blk_frozen BK362.out 3) | ((with_reducible refine gate_callee (f := 18) rfl ?_); refine goesL_ (some 22) rfl rfl Tryd.func18 (by kernel_rfl) rfl #[.agg #[.int .i64 t363, .string t364, .int .i64 t365, .int .i64 t366], .agg #[.int .i64 t357, .string t358, .int .i64 t359, .int .i64 t360]] rfl (by (try simp only [List.map_toArray, List.map_cons, List.map_nil]); first | done | rfl | (simp only [List.length_drop, List.length_take]; rfl)) ?_; (with_reducible refine (laws_eqNote.calls t363 t364 t365 t366 t357 t358 t359 t360 true _ A5.out).mono ?_); rintro e w25 ⟨rfl, hb⟩; refine ⟨_, rfl, ?_⟩; have n0_ := Aside0.mk (blk_below (g := gb362) (o := .cells #[.int .i64 t357, .string t358, .int .i64 t359, .int .i64 t360] 27 (0, 0)) (by (with_reducible repeat (first | refine blk_drewN ?_ _ | refine blk_drew ?_ | refine blk_alloc ?_ _)); refine blk_far ?_ NB362_368.out _; (with_reducible repeat (first | refine blk_drewN ?_ _ | refine blk_drew ?_ | refine blk_alloc ?_ _)); refine blk_far ?_ NB362_368.out _; (with_reducible repeat (first | refine blk_drewN ?_ _ | refine blk_drew ?_ | refine blk_alloc ?_ _)); refine blk_far ?_ NB362_368.out _; (with_reducible repeat (first | refine blk_drewN ?_ _ | refine blk_drew ?_ | refine blk_alloc ?_ _)); refine blk_far ?_ NB362_368.out _; (with_reducible repeat (first | refine blk_drewN ?_ _ | refine blk_drew ?_ | refine blk_alloc ?_ _)); exact BK362.out) hb); have n1_ := Aside0.mk (blk_below (g := gb368) (o := .cells #[.int .i64 t363, .string t364, .int .i64 t365, .int .i64 t366] 27 (0, 0)) (by (with_reducible repeat (first | refine blk_drewN ?_ _ | refine blk_drew ?_ | refine blk_alloc ?_ _)); refine blk_put (cs := #[.int .i64 t363, .string t364, .int .i64 t365, .int .i64 0]) ?_ 3 _ rfl; (with_reducible repeat (first | refine blk_drewN ?_ _ | refine blk_drew ?_ | refine blk_alloc ?_ _)); refine blk_put (cs := #[.int .i64 t363, .string t364, .int .i64 0, .int .i64 0]) ?_ 2 _ rfl; (with_reducible repeat (first | refine blk_drewN ?_ _ | refine blk_drew ?_ | refine blk_alloc ?_ _)); refine blk_put (cs := #[.int .i64 t363, .string (⟨#[]⟩ : ByteArray), .int .i64 0, .int .i64 0]) ?_ 1 _ rfl; (with_reducible repeat (first | refine blk_drewN ?_ _ | refine blk_drew ?_ | refine blk_alloc ?_ _)); refine blk_put (cs := #[.int .i64 0, .string (⟨#[]⟩ : ByteArray), .int .i64 0, .int .i64 0]) ?_ 0 _ rfl; (with_reducible repeat (first | refine blk_drewN ?_ _ | refine blk_drew ?_ | refine blk_alloc ?_ _)); exact BK368.out) hb); have n2_ := Aside0.mk (below_step (by repeat (first | (with_reducible first | exact HB.out | apply below_alloc | apply pw_below_drewN | apply below_drew1 | refine below_set ?_ GE362.out | refine below_set ?_ GE368.out) | exact HB.out)) hb); clear BK362; clear BK368; clear HB; have BK362 := n0_; have BK368 := n1_; have HB := n2_; clear n0_ n1_ n2_; (try clear hb); (try clear hb2); (try clear hk); (try clear hi)))
        go_ret
        exact ⟨by first | rfl | (simp [errW_none, errW_some] <;> rfl) | (simp [*, errW_none, errW_some] <;> rfl), by repeat (first | (with_reducible first | exact HB.out | apply below_alloc | apply pw_below_drewN | apply below_drew1 | refine below_set ?_ GE362.out | refine below_set ?_ GE368.out) | exact HB.out)⟩
    · replace c6 := Bool.eq_false_iff.mpr c6
      subst c6
      have H1 : (some false) = some r := by rw [if_neg (show ¬ (false = true) by decide)] at H; exact H
      clear H
      have H := H1
      clear H1
      exact absurd (Option.some.inj H) (by rw [HR_.out]; decide)
end Go.Proofs.YtghnljoaklmakaaDoor.X


namespace Go.Proofs.YtghnljoaklmakaaDoorZ
open Go.ChangeShapes Go.WideShapes Go.ChangeAt Go.RowKit
open Go.Proofs.YtghnljoaklmakaaDoorW.PrintWords
set_option linter.unusedVariables false
set_option linter.unusedSimpArgs false
section
variable {P : Program}

end
end Go.Proofs.YtghnljoaklmakaaDoorZ


-- written by a program of this session (wip/ext.py): what the law says, without Go and memory.
namespace Go.Proofs.YtghnljoaklmakaaDoor.X
open Go.RowKit Go.Proofs.YtghnljoaklmakaaDoorW.PrintWords Go.Proofs.YtghnljoaklmakaaDoorW.PrintLast Go.Proofs.YtghnljoaklmakaaDoorW.PrintMore
open Go.Proofs.YtghnljoaklmakaaDoorZ
namespace OFnExactParseNote
def Pure : Prop := ∀ (a0 : ByteArray), a0.size ≤ 140737488351232 → ∃ k, laws_FnExactParseNote.f k a0 = some true
end OFnExactParseNote
end Go.Proofs.YtghnljoaklmakaaDoor.X


namespace Go.Proofs.YtghnljoaklmakaaDoorL
open Go.RowKit Go.Proofs.YtghnljoaklmakaaDoorW.PrintWords
set_option linter.unusedVariables false
set_option linter.unusedSimpArgs false

theorem ev_eq {α : Type} {g : Nat → Option α} {r : α} (h : ∀ k, g k = some r) : Ev g r := ⟨0, fun k _ => h k⟩
theorem ev_rounds {α : Type} {g : Nat → Option α} {r : α} (h : Ev g r) : ∃ k, g k = some r := h.rounds
theorem wrap_id {x : Int} (h0 : -9223372036854775808 ≤ x) (h1 : x ≤ 9223372036854775807) : wrap64 x = x := by unfold wrap64; omega
theorem wrap_succ {n : Nat} (h : n < 9223372036854775807) : wrap64 ((n : Int) + 1) = ((n + 1 : Nat) : Int) := by rw [wrap_id (by omega) (by omega)]; rfl
end Go.Proofs.YtghnljoaklmakaaDoorL


namespace Go.Proofs.YtghnljoaklmakaaDoorL
open Go.RowKit Go.Proofs.YtghnljoaklmakaaDoorW.PrintWords
set_option linter.unusedVariables false
set_option linter.unusedSimpArgs false
/-- A text's bytes. -/
def B (s : ByteArray) : List UInt8 := s.data.toList
theorem B_length (s : ByteArray) : (B s).length = s.size := by simp [B]
theorem bt_B (s : ByteArray) (n : Nat) (h : n < (B s).length) : bt s n = ((B s)[n].toNat : Int) := by
  have h2 : n < s.size := by rw [B_length] at h; exact h
  unfold bt
  rw [Int.toNat_natCast, dif_pos h2]
  rfl
theorem B_toList (s : ByteArray) : s.toList = B s := by
  unfold B
  have key : ∀ (d i : Nat) (r : List UInt8), i + d = s.size → ByteArray.toList.loop s i r = r.reverse ++ (s.data.toList.drop i) := by
    intro d
    induction d with
    | zero =>
      intro i r h
      unfold ByteArray.toList.loop
      rw [if_neg (by omega), List.drop_of_length_le (by simp; omega)]; simp
    | succ d ih =>
      intro i r h
      unfold ByteArray.toList.loop
      have hi : i < s.size := by omega
      rw [if_pos hi, ih (i + 1) _ (by omega), List.drop_eq_getElem_cons (show i < s.data.toList.length by simp; omega)]
      have e : s.get! i = s.data.toList[i]'(by simp; omega) := by
        show s.data[i]! = _
        rw [getElem!_pos s.data i hi]; simp
      rw [e, List.reverse_cons]
      simp
  have := key s.size 0 [] (by omega)
  simpa [ByteArray.toList] using this
theorem B_inj {s t : ByteArray} (h : B s = B t) : s = t := by
  have : s.data = t.data := Array.toList_inj.1 h
  cases s; cases t; simp_all
end Go.Proofs.YtghnljoaklmakaaDoorL


namespace Go.Proofs.YtghnljoaklmakaaDoor.X
open Go.RowKit Go.Proofs.YtghnljoaklmakaaDoorW.PrintWords Go.Proofs.YtghnljoaklmakaaDoorL
set_option linter.unusedVariables false
set_option linter.unusedSimpArgs false
theorem B_append (s t : ByteArray) : B (s ++ t) = B s ++ B t := by unfold B; simp
theorem B_mk (l : List UInt8) : B ⟨l.toArray⟩ = l := by simp [B]
theorem size_B (s : ByteArray) : s.size = (B s).length := (B_length s).symm
theorem mk_append (a b : List UInt8) : (⟨a.toArray⟩ : ByteArray) ++ ⟨b.toArray⟩ = ⟨(a ++ b).toArray⟩ := B_inj (by rw [B_append, B_mk, B_mk, B_mk])
def dec (n : Int) : ByteArray := ⟨(Lib.itoa n).toArray⟩
theorem B_dec (n : Int) : B (dec n) = Lib.itoa n := B_mk _
theorem dec_size (n : Int) (h0 : -9223372036854775808 ≤ n) (h1 : n ≤ 9223372036854775807) : (dec n).size ≤ 21 := by
  rw [size_B, B_dec]; exact Lib.itoa_length_le n h0 h1
theorem implDec (n : Int) (h0 : -9223372036854775808 ≤ n) (h1 : n ≤ 9223372036854775807) : impl_decimal.f n = some (dec n) := by
  unfold impl_decimal.f strconv_Itoa_59.f
  rw [if_pos ⟨h0, h1⟩]
  rfl
theorem digit_cut (d : Nat) (h : d < 10) : (⟨#[48, 49, 50, 51, 52, 53, 54, 55, 56, 57]⟩ : ByteArray).extract d (d + 1) = ⟨[UInt8.ofNat (48 + d)].toArray⟩ := by
  have : d = 0 ∨ d = 1 ∨ d = 2 ∨ d = 3 ∨ d = 4 ∨ d = 5 ∨ d = 6 ∨ d = 7 ∨ d = 8 ∨ d = 9 := by omega
  rcases this with rfl | rfl | rfl | rfl | rfl | rfl | rfl | rfl | rfl | rfl <;> rfl
theorem decDigits_le (u : Nat) (h : u ≤ 9223372036854775807) : (Lib.decDigits u).length ≤ 21 := by
  have := Lib.itoa_length_le (u : Int) (by omega) (by omega)
  unfold Lib.itoa at this
  rw [if_neg (by omega), Int.toNat_natCast] at this
  exact this
theorem specNum_nat : ∀ (m u : Nat), u ≤ m → u ≤ 9223372036854775807 → Ev (fun k => spec_l1Num.f k (u : Int)) ⟨(Lib.decDigits u).toArray⟩ := by
  intro m
  induction m with
  | zero =>
    intro u hu hb
    obtain rfl : u = 0 := by omega
    refine Ev.step (f := fun _ => some _) (fun k => ?_) (Ev.now _)
    simp only [spec_l1Num.f]
    rw [if_neg (by omega), if_pos (by omega), if_pos (by omega), wrap_id (by omega) (by omega), if_pos (by omega), if_pos (by omega), Lib.decDigits, dif_pos (by omega)]
    rfl
  | succ m ih =>
    intro u hu hb
    by_cases h : u < 10
    · refine Ev.step (f := fun _ => some _) (fun k => ?_) (Ev.now _)
      simp only [spec_l1Num.f]
      rw [if_neg (by omega), if_pos (by omega), if_pos (by omega), wrap_id (by omega) (by omega), if_pos (by omega), if_pos (by omega), Lib.decDigits, dif_pos h, ← digit_cut u h]
      rfl
    · have hd : wrap64 (Int.tdiv (u : Int) 10) = ((u / 10 : Nat) : Int) := by
        rw [Int.tdiv_eq_ediv_of_nonneg (by omega), wrap_id (by omega) (by omega)]; omega
      have hm : Int.tmod (u : Int) 10 = ((u % 10 : Nat) : Int) := by rw [Int.tmod_eq_emod_of_nonneg (by omega)]; omega
      refine Ev.step (f := fun k => (spec_l1Num.f k ((u / 10 : Nat) : Int)).bind fun t => if t.size + (⟨[UInt8.ofNat (48 + u % 10)].toArray⟩ : ByteArray).size ≤ 9223372036854775807 then some (t ++ ⟨[UInt8.ofNat (48 + u % 10)].toArray⟩) else none) (fun k => ?_) ?_
      · simp only [spec_l1Num.f]
        rw [if_neg (by omega), if_neg (by omega), hd, hm]
        congr 1
        funext t
        rw [if_pos (by omega), wrap_id (x := ((u % 10 : Nat) : Int) + 1) (by omega) (by omega), if_pos (by omega), if_pos (by omega)]
        have e : (((u % 10 : Nat) : Int) + 1).toNat = u % 10 + 1 := by omega
        rw [Int.toNat_natCast, e, digit_cut (u % 10) (by omega)]
      · have i1 := ih (u / 10) (by omega) (by omega)
        have hs := decDigits_le (u / 10) (by omega)
        refine Ev.bind i1 (Ev.congr (fun k => if_pos ?_) ?_)
        · rw [size_B, size_B, B_mk, B_mk]; simp only [List.length_cons, List.length_nil]; omega
        · rw [mk_append, Lib.decDigits.eq_1 u, dif_neg h]; exact Ev.now _
theorem specNum_ev (n : Int) (h0 : -9223372036854775807 ≤ n) (h1 : n ≤ 9223372036854775807) : Ev (fun k => spec_l1Num.f k n) (dec n) := by
  by_cases h : n < 0
  · have e : wrap64 (-n) = ((n.natAbs : Nat) : Int) := by rw [wrap_id (by omega) (by omega)]; omega
    have hs := decDigits_le n.natAbs (by omega)
    refine Ev.step (f := fun k => (spec_l1Num.f k ((n.natAbs : Nat) : Int)).bind fun t => if 1 + t.size ≤ 9223372036854775807 then some ((⟨#[45]⟩ : ByteArray) ++ t) else none) (fun k => ?_) (Ev.bind (specNum_nat n.natAbs n.natAbs (Nat.le_refl _) (by omega)) (Ev.congr (fun k => if_pos ?_) ?_))
    · simp only [spec_l1Num.f]
      rw [if_pos h, e]
    · rw [size_B, B_mk]; omega
    · have : dec n = (⟨#[45]⟩ : ByteArray) ++ ⟨(Lib.decDigits n.natAbs).toArray⟩ := B_inj (by rw [B_append, B_dec, B_mk]; unfold Lib.itoa; rw [if_pos h]; rfl)
      rw [this]; exact Ev.now _
  · obtain ⟨u, rfl⟩ : ∃ u : Nat, n = (u : Int) := ⟨n.toNat, by omega⟩
    have : dec (u : Int) = ⟨(Lib.decDigits u).toArray⟩ := by unfold dec Lib.itoa; rw [if_neg h, Int.toNat_natCast]
    rw [this]
    exact specNum_nat u u (Nat.le_refl _) (by omega)
end Go.Proofs.YtghnljoaklmakaaDoor.X


namespace Go.Proofs.YtghnljoaklmakaaDoor.X
open Go.RowKit Go.Proofs.YtghnljoaklmakaaDoorW.PrintWords Go.Proofs.YtghnljoaklmakaaDoorL
set_option linter.unusedVariables false
set_option linter.unusedSimpArgs false
def mk (l : List UInt8) : ByteArray := ⟨l.toArray⟩
theorem B_of_mk (l : List UInt8) : B (mk l) = l := B_mk l
theorem mk_of_B (s : ByteArray) : mk (B s) = s := B_inj (B_mk _)
theorem mk_size (l : List UInt8) : (mk l).size = l.length := by rw [size_B, B_of_mk]
theorem B_extract (s : ByteArray) (i j : Nat) : B (s.extract i j) = ((B s).drop i).take (j - i) := by
  unfold B; simp [List.extract_eq_take_drop]
end Go.Proofs.YtghnljoaklmakaaDoor.X


namespace Go.Proofs.YtghnljoaklmakaaDoor.X
open Go.RowKit Go.Proofs.YtghnljoaklmakaaDoorW.PrintWords Go.Proofs.YtghnljoaklmakaaDoorL
set_option linter.unusedVariables false
set_option linter.unusedSimpArgs false
def okB (n : Nat) (c : Int) : Bool := if n < 3 then decide (65 ≤ c) && decide (c ≤ 90) else decide (48 ≤ c) && decide (c ≤ 57)
def trm (n : Nat) (c : Int) : Int := if n < 3 then ((n : Int) + 2) * (c - 64) else ((n : Int) + 2) * (c - 48)
/-- The sum over the bytes from n on, if all are as they should be. -/
def chk (t : ByteArray) : Nat → Nat → Int → Option Int
  | 0, _, acc => some acc
  | d + 1, n, acc => if okB n (bt t n) = true then chk t d (n + 1) (acc + trm n (bt t n)) else none
theorem seven (n : Nat) (h : n < 7) : n = 0 ∨ n = 1 ∨ n = 2 ∨ n = 3 ∨ n = 4 ∨ n = 5 ∨ n = 6 := by omega
theorem trm_bound (n : Nat) (h : n < 7) (c : Int) (hc : okB n c = true) : 0 ≤ trm n c ∧ trm n c ≤ 234 := by
  rcases seven n h with rfl | rfl | rfl | rfl | rfl | rfl | rfl <;> simp [okB] at hc <;> simp [trm] <;> omega
theorem implChk_loop (t : ByteArray) (ht : t.size = 7) : ∀ (d n : Nat) (acc : Int), n + d = 7 → 0 ≤ acc → acc ≤ 234 * n →
    Ev (fun k => impl_checkLetter.l0 k t acc 7 n) (match chk t d n acc with | some s => (65 + s % 23, true) | none => (0, false)) := by
  intro d
  induction d with
  | zero =>
    intro n acc hn h0 h1
    refine Ev.step (f := fun _ => some _) (fun k => ?_) (Ev.now _)
    simp only [impl_checkLetter.l0]
    rw [if_neg (by omega), Int.tmod_eq_emod_of_nonneg h0, wrap_id (by omega) (by omega)]
    simp only [chk]
    congr 2
    omega
  | succ d ih =>
    intro n acc hn h0 h1
    have hr := bt_range t n
    have hcast : ((n : Int) + 1) = ((n + 1 : Nat) : Int) := rfl
    by_cases hok : okB n (bt t n) = true
    · have hb := trm_bound n (by omega) _ hok
      have h2 := ih (n + 1) (acc + trm n (bt t n)) (by omega) (by omega) (by omega)
      simp only [chk, if_pos hok]
      refine Ev.step (f := fun k => impl_checkLetter.j1 k t acc n (bt t n) 7 n (decide (n < 3))) (fun k => ?_) ?_
      · simp only [impl_checkLetter.l0]
        rw [if_pos (by omega), if_pos (by omega), if_pos (by omega)]
        by_cases h3 : n < 3
        · simp only [okB, if_pos h3, Bool.and_eq_true, decide_eq_true_eq] at hok
          rw [if_pos (by omega), if_pos (by omega)]
          simp [h3, hok.2]
        · rw [if_neg (by omega)]; simp [h3]
      · refine Ev.step (f := fun k => impl_checkLetter.l0 k t (acc + trm n (bt t n)) 7 ((n + 1 : Nat) : Int)) (fun k => ?_) h2
        simp only [impl_checkLetter.j1]
        rw [wrap_succ (by omega)]
        by_cases h3 : n < 3
        · have e : wrap64 (acc + wrap64 (wrap64 ((n : Int) + 2) * ((bt t n - 65) % 256 + 1))) = acc + trm n (bt t n) := by
            have ho : 65 ≤ bt t n ∧ bt t n ≤ 90 := by simpa [okB, h3] using hok
            have ht2 : trm n (bt t n) = ((n : Int) + 2) * (bt t n - 64) := by simp [trm, h3]
            rw [show (bt t n - 65) % 256 + 1 = bt t n - 64 by omega, wrap_id (x := (n : Int) + 2) (by omega) (by omega), ← ht2, wrap_id (x := trm n (bt t n)) (by omega) (by omega), wrap_id (by omega) (by omega)]
          rw [if_pos (by simp [h3]), e]
        · have e : wrap64 (acc + wrap64 (wrap64 ((n : Int) + 2) * ((bt t n - 48) % 256))) = acc + trm n (bt t n) := by
            have ho : 48 ≤ bt t n ∧ bt t n ≤ 57 := by simpa [okB, h3] using hok
            have ht2 : trm n (bt t n) = ((n : Int) + 2) * (bt t n - 48) := by simp [trm, h3]
            rw [show (bt t n - 48) % 256 = bt t n - 48 by omega, wrap_id (x := (n : Int) + 2) (by omega) (by omega), ← ht2, wrap_id (x := trm n (bt t n)) (by omega) (by omega), wrap_id (by omega) (by omega)]
          simp only [okB, if_neg h3, Bool.and_eq_true, decide_eq_true_eq] at hok
          rw [if_neg (by simp [h3]), if_pos (by omega), if_pos (by omega), if_pos (by omega), e]
    · simp only [chk, if_neg hok]
      by_cases h3 : n < 3
      · simp only [okB, if_pos h3, Bool.and_eq_true, decide_eq_true_eq] at hok
        refine Ev.step (f := fun k => impl_checkLetter.j1 k t acc n (bt t n) 7 n false) (fun k => ?_) (Ev.step (f := fun _ => some (0, false)) (fun k => ?_) (Ev.now _))
        · simp only [impl_checkLetter.l0]
          rw [if_pos (by omega), if_pos (by omega), if_pos (by omega), if_pos (by omega)]
          by_cases h4 : bt t n ≥ 65
          · rw [if_pos h4]; simp [show ¬ bt t n ≤ 90 by omega]
          · rw [if_neg h4]
        · simp only [impl_checkLetter.j1]
          rw [if_neg (by decide), if_neg (by omega)]
      · simp only [okB, if_neg h3, Bool.and_eq_true, decide_eq_true_eq] at hok
        refine Ev.step (f := fun k => impl_checkLetter.j1 k t acc n (bt t n) 7 n false) (fun k => ?_) (Ev.step (f := fun _ => some (0, false)) (fun k => ?_) (Ev.now _))
        · simp only [impl_checkLetter.l0]
          rw [if_pos (by omega), if_pos (by omega), if_pos (by omega), if_neg (by omega)]
        · simp only [impl_checkLetter.j1]
          rw [if_neg (by decide), if_pos (by omega)]
          by_cases h4 : bt t n ≥ 48
          · rw [if_pos h4, if_neg (by omega)]
          · rw [if_neg h4]
theorem specSeven_loop (t : ByteArray) (ht : t.size = 7) : ∀ (d n : Nat) (acc : Int), n + d = 7 → Ev (fun k => spec_l2Seven.l0 k t n) (chk t d n acc).isSome := by
  intro d
  induction d with
  | zero => intro n acc hn; exact Ev.step (f := fun _ => some _) (fun k => by simp only [spec_l2Seven.l0]; rw [if_neg (by omega)]; rfl) (Ev.now _)
  | succ d ih =>
    intro n acc hn
    by_cases hok : okB n (bt t n) = true
    · simp only [chk, if_pos hok]
      refine Ev.step (f := fun k => spec_l2Seven.l0 k t ((n + 1 : Nat) : Int)) (fun k => ?_) (ih (n + 1) _ (by omega))
      simp only [spec_l2Seven.l0]
      rw [if_pos (by omega), wrap_succ (by omega)]
      by_cases h3 : n < 3
      · simp only [okB, if_pos h3, Bool.and_eq_true, decide_eq_true_eq] at hok
        rw [if_pos (by omega), if_pos (by omega), if_pos (by omega), if_neg (by omega), if_neg (by omega), if_neg (by omega)]
      · simp only [okB, if_neg h3, Bool.and_eq_true, decide_eq_true_eq] at hok
        rw [if_neg (by omega), if_pos (by omega), if_pos (by omega), if_pos (by omega), if_neg (by omega), if_neg (by omega)]
    · simp only [chk, if_neg hok]
      refine Ev.step (f := fun _ => some false) (fun k => ?_) (Ev.now _)
      simp only [spec_l2Seven.l0]
      rw [if_pos (by omega)]
      by_cases h3 : n < 3
      · simp only [okB, if_pos h3, Bool.and_eq_true, decide_eq_true_eq] at hok
        rw [if_pos (by omega), if_pos (by omega), if_pos (by omega)]
        by_cases h4 : bt t n < 65
        · rw [if_pos h4]
        · rw [if_neg h4, if_pos (by omega)]
      · simp only [okB, if_neg h3, Bool.and_eq_true, decide_eq_true_eq] at hok
        rw [if_neg (by omega), if_pos (by omega), if_pos (by omega), if_pos (by omega)]
        by_cases h4 : bt t n < 48
        · rw [if_pos h4]
        · rw [if_neg h4, if_pos (by omega)]
theorem specCheck_loop (t : ByteArray) (ht : t.size = 7) : ∀ (d n : Nat) (acc s : Int), n + d = 7 → 0 ≤ acc → acc ≤ 234 * n → chk t d n acc = some s → Ev (fun k => spec_l2Check.l0 k t acc n) (65 + s % 23) := by
  intro d
  induction d with
  | zero =>
    intro n acc s hn h0 h1 hs
    simp only [chk, Option.some.injEq] at hs
    subst hs
    refine Ev.step (f := fun _ => some _) (fun k => ?_) (Ev.now _)
    simp only [spec_l2Check.l0]
    rw [if_neg (by omega), Int.tmod_eq_emod_of_nonneg h0]
    congr 1
    omega
  | succ d ih =>
    intro n acc s hn h0 h1 hs
    have hr := bt_range t n
    by_cases hok : okB n (bt t n) = true
    · have hb := trm_bound n (by omega) _ hok
      simp only [chk, if_pos hok] at hs
      refine Ev.step (f := fun k => spec_l2Check.l0 k t (acc + trm n (bt t n)) ((n + 1 : Nat) : Int)) (fun k => ?_) (ih (n + 1) _ s (by omega) (by omega) (by omega) hs)
      simp only [spec_l2Check.l0]
      rw [if_pos (by omega), if_pos (by omega), if_pos (by omega), wrap_succ (by omega)]
      by_cases h3 : n < 3
      · have e : wrap64 (acc + wrap64 (wrap64 (wrap64 (wrap64 (bt t n) - 65) + 1) * wrap64 ((n : Int) + 2))) = acc + trm n (bt t n) := by
          have ho : 65 ≤ bt t n ∧ bt t n ≤ 90 := by simpa [okB, h3] using hok
          have ht2 : trm n (bt t n) = (bt t n - 64) * ((n : Int) + 2) := by simp [trm, h3, Int.mul_comm]
          rw [wrap_id (x := bt t n) (by omega) (by omega), wrap_id (x := bt t n - 65) (by omega) (by omega), show bt t n - 65 + 1 = bt t n - 64 by omega, wrap_id (x := bt t n - 64) (by omega) (by omega), wrap_id (x := (n : Int) + 2) (by omega) (by omega), ← ht2, wrap_id (x := trm n (bt t n)) (by omega) (by omega), wrap_id (by omega) (by omega)]
        rw [if_pos (by omega), e]
      · have e : wrap64 (acc + wrap64 (wrap64 (wrap64 (bt t n) - 48) * wrap64 ((n : Int) + 2))) = acc + trm n (bt t n) := by
          have ho : 48 ≤ bt t n ∧ bt t n ≤ 57 := by simpa [okB, h3] using hok
          have ht2 : trm n (bt t n) = (bt t n - 48) * ((n : Int) + 2) := by simp [trm, h3, Int.mul_comm]
          rw [wrap_id (x := bt t n) (by omega) (by omega), wrap_id (x := bt t n - 48) (by omega) (by omega), wrap_id (x := (n : Int) + 2) (by omega) (by omega), ← ht2, wrap_id (x := trm n (bt t n)) (by omega) (by omega), wrap_id (by omega) (by omega)]
        rw [if_neg (by omega), e]
    · simp only [chk, if_neg hok] at hs; cases hs
/-- Is it an identifier? -/
def idOk (s : ByteArray) : Bool := decide (s.size = 8) && (match chk (s.extract 0 7) 7 0 0 with | some m => bt s 7 == 65 + m % 23 | none => false)
theorem extract7 (s : ByteArray) (h : s.size = 8) : (s.extract 0 7).size = 7 := by simp [ByteArray.size_extract, h]
theorem implId_ev (s : ByteArray) : Ev (fun k => impl_IsValidId.f k s) (idOk s) := by
  unfold impl_IsValidId.f idOk
  by_cases h : s.size = 8
  · have h7 := extract7 s h
    simp only [h, show ((8 : Nat) : Int) = 8 from rfl, if_true, decide_true, Bool.true_and, show (0 : Int) ≤ 7 by omega, show (7 : Int) ≤ 8 by omega, show (7 : Int) < 8 by omega]
    refine Ev.bind (a := match chk (s.extract 0 7) 7 0 0 with | some s => (65 + s % 23, true) | none => (0, false)) ?_ ?_
    · unfold impl_checkLetter.f
      simp only [h7, show ((7 : Nat) : Int) = 7 from rfl, if_true]
      exact implChk_loop _ h7 7 0 0 (by omega) (by omega) (by omega)
    · cases chk (s.extract 0 7) 7 0 0 <;> simp <;> exact Ev.now _
  · have : ¬ (s.size : Int) = 8 := by omega
    simp only [this, if_false, h, decide_false, Bool.false_and]
    exact Ev.now _
theorem specId_ev (s : ByteArray) : Ev (fun k => spec_l2Id.f k s) (idOk s) := by
  unfold spec_l2Id.f idOk
  by_cases h : s.size = 8
  · have h7 := extract7 s h
    simp only [h, show ((8 : Nat) : Int) = 8 from rfl, if_true, decide_true, Bool.true_and, show (0 : Int) ≤ 7 by omega, show (7 : Int) ≤ 8 by omega, show (7 : Int) < 8 by omega]
    refine Ev.bind (a := (chk (s.extract 0 7) 7 0 0).isSome) ?_ ?_
    · unfold spec_l2Seven.f
      simp only [h7, show ((7 : Nat) : Int) = 7 from rfl, if_true]
      exact specSeven_loop _ h7 7 0 0 (by omega)
    · cases hc : chk (s.extract 0 7) 7 0 0 with
      | none => simp; exact Ev.now _
      | some m =>
        simp only [Option.isSome_some, if_true]
        refine Ev.bind (a := 65 + m % 23) ?_ (Ev.now _)
        unfold spec_l2Check.f
        exact specCheck_loop _ h7 7 0 0 m (by omega) (by omega) (by omega) hc
  · have : ¬ (s.size : Int) = 8 := by omega
    simp only [this, if_false, h, decide_false, Bool.false_and]
    exact Ev.now _
end Go.Proofs.YtghnljoaklmakaaDoor.X


namespace Go.Proofs.YtghnljoaklmakaaDoor.X
open Go.RowKit Go.Proofs.YtghnljoaklmakaaDoorW.PrintWords Go.Proofs.YtghnljoaklmakaaDoorL
set_option linter.unusedVariables false
set_option linter.unusedSimpArgs false
/-- Is it a note? -/
def noteOk (kind : Int) (id : ByteArray) (a b : Int) : Bool :=
  idOk id && (if kind = 1 then decide (0 ≤ a) && decide (a ≤ 5) && b == 0 else if kind = 2 then decide (0 ≤ a) && decide (a ≤ 5) && decide (0 ≤ b) && decide (b ≤ 5) && a != b else
    if kind = 3 then decide (1 ≤ a) && decide (a ≤ 15) && b == 0 else if kind = 4 then decide (0 ≤ a) && decide (a ≤ 11) && b == 0 else
    if kind = 5 then decide (1 ≤ a) && decide (a ≤ 999999) && decide (1 ≤ b) && decide (b ≤ 400) else false)
theorem within_eq (a b c : Int) : impl_within.f a b c = some (decide (b ≤ a) && decide (a ≤ c)) := by
  unfold impl_within.f
  by_cases h : a ≥ b
  · rw [if_pos h]; simp [show b ≤ a from h]
  · rw [if_neg h]; simp [show ¬ b ≤ a from h]
theorem l1In_eq (a b c : Int) : spec_l1In.f a b c = some (decide (b ≤ a) && decide (a ≤ c)) := by
  unfold spec_l1In.f
  by_cases h : a ≥ b
  · rw [if_pos h]; simp [show b ≤ a from h]
  · rw [if_neg h]; simp [show ¬ b ≤ a from h]
theorem implNote_ev (kind : Int) (id : ByteArray) (a b : Int) : Ev (fun k => impl_IsValidNote.f k kind id a b) (noteOk kind id a b) := by
  unfold impl_IsValidNote.f
  refine Ev.bind (implId_ev id) ?_
  refine ev_eq (fun _ => ?_)
  unfold noteOk
  simp only [within_eq, Option.bind_some]
  cases idOk id
  · simp
  · simp only [if_true, Bool.true_and]
    repeat' split
    all_goals (simp_all <;> omega)
theorem specNote_ev (kind : Int) (id : ByteArray) (a b : Int) : Ev (fun k => spec_l26Good.f k kind id a b) (noteOk kind id a b) := by
  unfold spec_l26Good.f
  refine Ev.bind (specId_ev id) ?_
  refine ev_eq (fun _ => ?_)
  unfold noteOk
  simp only [l1In_eq, Option.bind_some]
  cases idOk id
  · simp
  · simp only [if_true, Bool.true_and]
    repeat' split
    all_goals (simp_all <;> omega)
end Go.Proofs.YtghnljoaklmakaaDoor.X


namespace Go.Proofs.YtghnljoaklmakaaDoor.X
open Go.RowKit Go.Proofs.YtghnljoaklmakaaDoorW.PrintWords Go.Proofs.YtghnljoaklmakaaDoorL
set_option linter.unusedVariables false
set_option linter.unusedSimpArgs false
def isD (b : UInt8) : Prop := 48 ≤ b.toNat ∧ b.toNat ≤ 57
theorem digit_ofNat (d : Nat) (h : d < 10) : (UInt8.ofNat (48 + d)).toNat = 48 + d := by simp; omega
theorem dd_range : ∀ (m u : Nat), u ≤ m → ∀ b ∈ Lib.decDigits u, isD b := by
  intro m
  have one : ∀ d : Nat, d < 10 → isD (UInt8.ofNat (48 + d)) := by
    intro d hd
    have := digit_ofNat d hd
    unfold isD; omega
  induction m with
  | zero =>
    intro u hu b hb
    rw [Lib.decDigits, dif_pos (by omega)] at hb
    simp only [List.mem_singleton] at hb
    subst hb; exact one u (by omega)
  | succ m ih =>
    intro u hu b hb
    by_cases c : u < 10
    · rw [Lib.decDigits, dif_pos c] at hb
      simp only [List.mem_singleton] at hb
      subst hb; exact one u c
    · rw [Lib.decDigits.eq_1 u, dif_neg c] at hb
      rcases List.mem_append.1 hb with hb | hb
      · exact ih (u / 10) (by omega) b hb
      · simp only [List.mem_singleton] at hb
        subst hb; exact one _ (by omega)
@[irreducible] def push (a : Nat) (b : UInt8) : Nat := a * 10 + (b.toNat - 48)
theorem push_eq (a : Nat) (b : UInt8) : push a b = a * 10 + (b.toNat - 48) := by unfold push; rfl
def val (a : Nat) (l : List UInt8) : Nat := l.foldl push a
theorem val_nil (a : Nat) : val a [] = a := rfl
theorem val_cons (a : Nat) (b : UInt8) (l : List UInt8) : val a (b :: l) = val (a * 10 + (b.toNat - 48)) l := by rw [← push_eq]; rfl
theorem val_snoc (b : UInt8) (l : List UInt8) (a : Nat) : val a (l ++ [b]) = val a l * 10 + (b.toNat - 48) := by rw [← push_eq]; unfold val; rw [List.foldl_append]; rfl
theorem val_ge : ∀ (l : List UInt8) (a : Nat), a ≤ val a l
  | [], a => by rw [val_nil]; exact Nat.le_refl _
  | b :: l, a => by have := val_ge l (a * 10 + (b.toNat - 48)); rw [val_cons]; omega
theorem val_dd : ∀ (m u : Nat), u ≤ m → val 0 (Lib.decDigits u) = u := by
  intro m
  induction m with
  | zero =>
    intro u hu
    obtain rfl : u = 0 := by omega
    rw [Lib.decDigits, dif_pos (by omega)]
    rw [val_cons, val_nil, digit_ofNat 0 (by omega)]
  | succ m ih =>
    intro u hu
    by_cases c : u < 10
    · rw [Lib.decDigits, dif_pos c]; rw [val_cons, val_nil, digit_ofNat u c]; omega
    · rw [Lib.decDigits.eq_1 u, dif_neg c, val_snoc, ih (u / 10) (by omega), digit_ofNat _ (by omega)]; omega
theorem val_lt : ∀ (l : List UInt8) (a n : Nat), (∀ b ∈ l, isD b) → a < 10 ^ n → val a l < 10 ^ (n + l.length)
  | [], a, n, _, h => by rw [val_nil]; exact h
  | b :: l, a, n, hl, h => by
    have hb := hl b (by simp)
    unfold isD at hb
    rw [val_cons, List.length_cons, show n + (l.length + 1) = (n + 1) + l.length from by omega]
    exact val_lt l _ (n + 1) (fun x hx => hl x (by simp [hx])) (by rw [Nat.pow_succ]; omega)
theorem dd_ne (u : Nat) : Lib.decDigits u ≠ [] := by
  rw [Lib.decDigits]; split <;> simp
theorem dd_len : ∀ (n u : Nat), 1 ≤ n → u < 10 ^ n → (Lib.decDigits u).length ≤ n := by
  intro n
  induction n with
  | zero => intro u h; omega
  | succ n ih =>
    intro u _ h
    rw [Lib.decDigits]
    by_cases c : u < 10
    · rw [dif_pos c]; simp
    · rw [dif_neg c, List.length_append]
      have : 1 ≤ n := by
        rcases Nat.eq_zero_or_pos n with rfl | h2
        · simp at h; omega
        · exact h2
      have := ih (u / 10) this (by rw [Nat.pow_succ] at h; omega)
      simp; omega
theorem parse10 : ∀ (l : List UInt8) (a : Nat), (∀ b ∈ l, isD b) → val a l < 1000000000 → Lib.parseUint10 a l = .ok (val a l)
  | [], a, _, _ => by rw [val_nil]; rfl
  | b :: l, a, hl, h => by
    have hb := hl b (by simp)
    unfold isD at hb
    rw [val_cons] at h ⊢
    have := val_ge l (a * 10 + (b.toNat - 48))
    rw [Lib.parseUint10, if_pos hb, if_neg (by omega), if_neg (by omega)]
    exact parse10 l _ (fun x hx => hl x (by simp [hx])) h
theorem B_decN (u : Nat) : B (dec (u : Int)) = Lib.decDigits u := by rw [B_dec]; unfold Lib.itoa; rw [if_neg (by omega)]; simp
theorem atoi_dd (u : Nat) (h : u ≤ 999999) : Lib.atoiAll (Lib.decDigits u) = .ok (u : Int) := by
  have hr := dd_range u u (Nat.le_refl _)
  have hv := val_dd u u (Nat.le_refl _)
  cases e : Lib.decDigits u with
  | nil => exact absurd e (dd_ne u)
  | cons c r =>
    rw [e] at hr hv
    have hc := hr c (by simp)
    unfold isD at hc
    have hp := parse10 (c :: r) 0 hr (by omega)
    unfold Lib.atoiAll
    simp only [if_neg (show ¬ (c.toNat = 43 ∨ c.toNat = 45) by omega)]
    unfold Lib.parseMag
    rw [if_neg (by simp), hp, hv]
    simp only [show ¬ c.toNat = 45 from by omega, false_and, not_false_eq_true, true_and, if_false]
    rw [if_neg (by omega)]
theorem parseInt_dd (u : Nat) (h : u ≤ 999999) : impl_ParseInt.f (mk (Lib.decDigits u)) = some ((u : Int), true) := by
  have hl := dd_len 6 u (by omega) (by omega)
  unfold impl_ParseInt.f
  rw [if_pos (by rw [mk_size]; omega), show (mk (Lib.decDigits u)).data.toList = Lib.decDigits u from B_of_mk _, atoi_dd u h]
  simp only [implDec (u : Int) (by omega) (by omega), Option.bind_some]
  rw [if_pos (by omega), if_pos (by rw [B_toList, B_toList, B_decN, B_of_mk])]
/-- ParseInt comes to an end. -/
theorem parseInt_total (w : ByteArray) (h : w.size ≤ 281474976710656) : ∃ v o, impl_ParseInt.f w = some (v, o) := by
  unfold impl_ParseInt.f
  rw [if_pos h]
  rcases Lib.atoiAll w.data.toList with v | _ | _
  · dsimp only
    by_cases c : -999999 ≤ v ∧ v ≤ 999999
    · rw [if_pos c, implDec v (by omega) (by omega), Option.bind_some]
      by_cases d : (dec v).toList = w.toList
      · rw [if_pos d]; exact ⟨_, _, rfl⟩
      · rw [if_neg d]; exact ⟨_, _, rfl⟩
    · rw [if_neg c]; exact ⟨_, _, rfl⟩
  · exact ⟨_, _, rfl⟩
  · exact ⟨_, _, rfl⟩
theorem begins_eq (T K : ByteArray) : spec_l26Begins.f T K = some (if (B K).isPrefixOf (B T) = true then (mk ((B T).drop (B K).length), true) else ((⟨#[]⟩ : ByteArray), false)) := by
  have ht := B_length T
  have hk := B_length K
  unfold spec_l26Begins.f
  by_cases c : (T.size : Int) < (K.size : Int)
  · rw [if_pos c, if_neg]
    intro hp
    have := (List.isPrefixOf_iff_prefix.1 hp).length_le
    omega
  · rw [if_neg c, if_pos (by omega), if_pos (by omega)]
    have e1 : (T.extract 0 ((K.size : Int) : Int).toNat).toList = (B T).take (B K).length := by rw [B_toList, B_extract, hk]; simp
    have e2 : T.extract ((K.size : Int) : Int).toNat T.size = mk ((B T).drop (B K).length) := B_inj (by rw [B_extract, B_of_mk, hk, Int.toNat_natCast, List.take_of_length_le (by simp; omega)])
    rw [e1, e2, B_toList]
    by_cases hp : (B T).take (B K).length = B K
    · rw [if_pos hp, if_pos (List.isPrefixOf_iff_prefix.2 (List.prefix_iff_eq_take.2 hp.symm))]
    · rw [if_neg hp, if_neg (fun h => hp (List.prefix_iff_eq_take.1 (List.isPrefixOf_iff_prefix.1 h)).symm)]
end Go.Proofs.YtghnljoaklmakaaDoor.X


namespace Go.Proofs.YtghnljoaklmakaaDoor.X
open Go.RowKit Go.Proofs.YtghnljoaklmakaaDoorW.PrintWords Go.Proofs.YtghnljoaklmakaaDoorL
set_option linter.unusedVariables false
set_option linter.unusedSimpArgs false
theorem read_ev (x : ByteArray) (hd : ∀ b ∈ B x, isD b) (hl : (B x).length ≤ 6) : ∃ v o, Ev (fun k => spec_l1Read.f k x) (v, o) ∧ (0 ≤ v ∧ v ≤ 999999) ∧ ∀ u : Nat, u ≤ 999999 → B x = Lib.decDigits u → v = (u : Int) := by
  have hs := B_length x
  have start : ∀ r, Ev (fun k => spec_l1Read.j0 k x x false) r → Ev (fun k => spec_l1Read.f k x) r := by
    intro r h
    refine Ev.congr (fun k => ?_) h
    unfold spec_l1Read.f
    by_cases c : (x.size : Int) > 1
    · rw [if_pos c, if_pos (by omega)]
      have hb := bt_B x 0 (by omega)
      have hh := hd _ (List.getElem_mem (show 0 < (B x).length by omega))
      unfold isD at hh
      have : (bt x 0 == 45) = false := by
        rw [beq_eq_false_iff_ne]
        have h2 : bt x ((0 : Nat) : Int) = ((B x)[0].toNat : Int) := hb
        have h3 : bt x 0 = ((B x)[0].toNat : Int) := h2
        omega
      rw [this]
    · rw [if_neg c]
  have j0 : ∀ r, Ev (fun k => spec_l1Read.j1 k x x) r → Ev (fun k => spec_l1Read.j0 k x x false) r := fun r h => Ev.step (fun k => by simp only [spec_l1Read.j0, Bool.false_eq_true, if_false]) h
  by_cases hz : (B x).length = 0
  · refine ⟨0, false, start _ (j0 _ (Ev.step (f := fun _ => some (0, false)) (fun k => ?_) (Ev.now _))), by omega, fun u _ e => absurd (List.eq_nil_of_length_eq_zero hz) (by rw [e]; exact dd_ne u)⟩
    simp only [spec_l1Read.j1, l1In_eq, Option.bind_some]
    rw [show (decide ((1 : Int) ≤ (x.size : Int)) && decide ((x.size : Int) ≤ 6)) = false from by simp; omega]
    rfl
  · have key : ∀ (d n : Nat), n + d = (B x).length → ∃ v o, Ev (fun k => spec_l1Read.l0 k x x (val 0 ((B x).take n) : Int) (n : Int)) (v, o) ∧ (0 ≤ v ∧ v ≤ 999999) ∧ ∀ u : Nat, u ≤ 999999 → B x = Lib.decDigits u → v = (u : Int) := by
      intro d
      induction d with
      | zero =>
        intro n hn
        obtain rfl : n = (B x).length := by omega
        rw [List.take_length]
        have hv := val_lt (B x) 0 0 hd (by simp)
        have hv2 : val 0 (B x) < 10 ^ 6 := Nat.lt_of_lt_of_le hv (Nat.pow_le_pow_right (by omega) (by omega))
        have hv3 : val 0 (B x) < 1000000 := hv2
        have fin : ∀ r, Ev (fun k => (spec_l1Num.f k (val 0 (B x) : Int)).bind fun t => if t.toList = x.toList then some ((val 0 (B x) : Int), true) else some (0, false)) r → Ev (fun k => spec_l1Read.l0 k x x (val 0 (B x) : Int) ((B x).length : Int)) r := by
          intro r h
          refine Ev.step (fun k => ?_) h
          simp only [spec_l1Read.l0]
          rw [if_neg (by omega), if_neg (by omega)]
        by_cases c : (dec (val 0 (B x) : Int)).toList = x.toList
        · refine ⟨_, true, fin _ (Ev.bind (specNum_ev _ (by omega) (by omega)) (Ev.congr (fun k => if_pos c) (Ev.now _))), by omega, fun u hu e => ?_⟩
          rw [e, val_dd u u (Nat.le_refl _)]
        · refine ⟨0, false, fin _ (Ev.bind (specNum_ev _ (by omega) (by omega)) (Ev.congr (fun k => if_neg c) (Ev.now _))), by omega, fun u hu e => absurd ?_ c⟩
          rw [B_toList, B_toList, e, val_dd u u (Nat.le_refl _), B_decN]
      | succ d ih =>
        intro n hn
        have hl2 : n < (B x).length := by omega
        obtain ⟨v, o, he, hr⟩ := ih (n + 1) (by omega)
        refine ⟨v, o, Ev.step (fun k => ?_) he, hr⟩
        have hb := bt_B x n hl2
        have hh := hd _ (List.getElem_mem hl2)
        unfold isD at hh
        have hv := val_lt ((B x).take n) 0 0 (fun b hb => hd b (List.mem_of_mem_take hb)) (by simp)
        have hv2 : val 0 ((B x).take n) < 10 ^ 5 := Nat.lt_of_lt_of_le hv (Nat.pow_le_pow_right (by omega) (by rw [List.length_take]; omega))
        have hv3 : val 0 ((B x).take n) < 100000 := hv2
        simp only [spec_l1Read.l0]
        rw [if_pos (by omega), if_pos (by omega), if_neg (by omega), if_neg (by omega), wrap_succ (by omega), List.take_succ_eq_append_getElem hl2, val_snoc]
        have e1 : wrap64 (10 * (val 0 ((B x).take n) : Int)) = 10 * (val 0 ((B x).take n) : Int) := wrap_id (by omega) (by omega)
        have e2 : (bt x (n : Int) - 48) % 256 = ((B x)[n].toNat - 48 : Nat) := by omega
        have e3 : wrap64 (10 * (val 0 ((B x).take n) : Int) + (((B x)[n].toNat - 48 : Nat) : Int)) = ((val 0 ((B x).take n) * 10 + ((B x)[n].toNat - 48) : Nat) : Int) := by rw [wrap_id (by omega) (by omega)]; omega
        rw [e1, e2, e3]
    obtain ⟨v, o, he, hr⟩ := key (B x).length 0 (by omega)
    refine ⟨v, o, start _ (j0 _ (Ev.step (fun k => ?_) he)), hr⟩
    simp only [spec_l1Read.j1, l1In_eq, Option.bind_some]
    rw [show (decide ((1 : Int) ≤ (x.size : Int)) && decide ((x.size : Int) ≤ 6)) = true from by simp; omega, if_pos rfl]
    rfl
theorem digits_ev (T : ByteArray) (hs : T.size ≤ 1000000000) : ∃ v R, Ev (fun k => spec_l26Digits.f k T) (v, R) ∧ (0 ≤ v ∧ v ≤ 999999) ∧ R.size ≤ T.size ∧
    ∀ (u : Nat) (r : List UInt8), u ≤ 999999 → B T = Lib.decDigits u ++ r → (∀ b, r.head? = some b → ¬ isD b) → v = (u : Int) ∧ R = mk r := by
  have hl := B_length T
  have stop : ∀ n : Nat, n ≤ (B T).length → n ≤ 6 → (∀ b ∈ (B T).take n, isD b) → (n = (B T).length ∨ n = 6 ∨ ∃ h : n < (B T).length, ¬ isD (B T)[n]) →
      (∀ k, spec_l26Digits.l0 (k + 1) T (n : Int) = (spec_l1Read.f k (T.extract 0 n)).bind fun bt => some (bt.1, T.extract n T.size)) →
      ∃ v R, Ev (fun k => spec_l26Digits.l0 k T (n : Int)) (v, R) ∧ (0 ≤ v ∧ v ≤ 999999) ∧ R.size ≤ T.size ∧ ∀ (u : Nat) (r : List UInt8), u ≤ 999999 → B T = Lib.decDigits u ++ r → (∀ b, r.head? = some b → ¬ isD b) → v = (u : Int) ∧ R = mk r := by
    intro n hn h6 hd hstop hstep
    have hB : B (T.extract 0 n) = (B T).take n := by rw [B_extract]; simp
    obtain ⟨v, o, he, hr, hu⟩ := read_ev (T.extract 0 n) (by rw [hB]; exact hd) (by rw [hB, List.length_take]; omega)
    refine ⟨v, T.extract n T.size, Ev.step (f := fun k => (spec_l1Read.f k (T.extract 0 n)).bind fun bt => some (bt.1, T.extract n T.size)) hstep (Ev.bind he (Ev.now _)), hr, by rw [ByteArray.size_extract]; omega, fun u r hu6 e hh => ?_⟩
    have hlen := dd_len 6 u (by omega) (by omega)
    have hrg := dd_range u u (Nat.le_refl _)
    have hn2 : n = (Lib.decDigits u).length := by
      have ht : (B T).length = (Lib.decDigits u).length + r.length := by rw [e, List.length_append]
      rcases Nat.lt_trichotomy n (Lib.decDigits u).length with h | h | h
      · exfalso
        rcases hstop with h1 | h1 | ⟨h1, h2⟩
        · omega
        · omega
        · refine h2 ?_
          have : (B T)[n] = (Lib.decDigits u)[n] := by simp only [e]; exact List.getElem_append_left h
          rw [this]; exact hrg _ (List.getElem_mem h)
      · exact h
      · exfalso
        cases r with
        | nil => simp at ht; omega
        | cons b r' =>
          refine hh b rfl (hd b ?_)
          have hi : (Lib.decDigits u).length < ((B T).take n).length := by rw [List.length_take]; omega
          have : ((B T).take n)[(Lib.decDigits u).length] = b := by rw [List.getElem_take]; simp only [e]; simp
          rw [← this]; exact List.getElem_mem hi
    refine ⟨hu u hu6 (by rw [hB, e, hn2, List.take_left']; rfl), B_inj ?_⟩
    rw [B_extract, B_of_mk, List.take_of_length_le (by simp; omega), e, hn2, List.drop_left']; rfl
  have key : ∀ (d n : Nat), n + d = 6 → n ≤ (B T).length → (∀ b ∈ (B T).take n, isD b) →
      ∃ v R, Ev (fun k => spec_l26Digits.l0 k T (n : Int)) (v, R) ∧ (0 ≤ v ∧ v ≤ 999999) ∧ R.size ≤ T.size ∧ ∀ (u : Nat) (r : List UInt8), u ≤ 999999 → B T = Lib.decDigits u ++ r → (∀ b, r.head? = some b → ¬ isD b) → v = (u : Int) ∧ R = mk r := by
    intro d
    induction d with
    | zero =>
      intro n hn hle hd
      refine stop n hle (by omega) hd (.inr (.inl (by omega))) (fun k => ?_)
      simp only [spec_l26Digits.l0]
      by_cases c : (n : Int) < (T.size : Int)
      · rw [if_pos c, if_neg (by omega), if_pos (by omega), if_pos (by omega)]; rfl
      · rw [if_neg c, if_pos (by omega), if_pos (by omega)]; rfl
    | succ d ih =>
      intro n hn hle hd
      by_cases c : (n : Int) < (T.size : Int)
      · have hl2 : n < (B T).length := by omega
        have hb := bt_B T n hl2
        by_cases hdig : isD (B T)[n]
        · obtain ⟨v, R, he, hr⟩ := ih (n + 1) (by omega) (by omega) (by
            intro b hb2
            rw [List.take_succ_eq_append_getElem hl2, List.mem_append] at hb2
            rcases hb2 with h | h
            · exact hd b h
            · simp only [List.mem_singleton] at h; rw [h]; exact hdig)
          unfold isD at hdig
          refine ⟨v, R, Ev.step (fun k => ?_) he, hr⟩
          simp only [spec_l26Digits.l0]
          rw [if_pos c, if_pos (by omega), if_pos (by omega), if_pos (by omega), if_pos (by omega), wrap_succ (by omega)]
        · refine stop n hle (by omega) hd (.inr (.inr ⟨hl2, hdig⟩)) (fun k => ?_)
          simp only [spec_l26Digits.l0]
          unfold isD at hdig
          rw [if_pos c, if_pos (by omega), if_pos (by omega)]
          by_cases c2 : bt T (n : Int) ≥ 48
          · rw [if_pos c2, if_neg (by omega), if_pos (by omega)]; rfl
          · rw [if_neg c2, if_pos (by omega)]; rfl
      · refine stop n hle (by omega) hd (.inl (by omega)) (fun k => ?_)
        simp only [spec_l26Digits.l0]
        rw [if_neg c, if_pos (by omega), if_pos (by omega)]; rfl
  exact key 6 0 rfl (by omega) (by simp)
end Go.Proofs.YtghnljoaklmakaaDoor.X


-- written by a program of this session (wip/ext.py) out of the translation. Not trusted: Lean checks it.
namespace Go.Proofs.YtghnljoaklmakaaDoor.X
open Go.RowKit Go.Proofs.YtghnljoaklmakaaDoorW.PrintWords Go.Proofs.YtghnljoaklmakaaDoorW.PrintLast Go.Proofs.YtghnljoaklmakaaDoorW.PrintMore
attribute [local go_sem] max2_int min2_int max_two min_two max_three min_three max_four min_four   -- for this text's walks alone
open Go.Proofs.YtghnljoaklmakaaDoorG
set_option linter.unusedVariables false
set_option linter.unusedSimpArgs false

def laws_szNote.f (a0_0 : Int) (a0_1 : ByteArray) (a0_2 : Int) (a0_3 : Int) (a1 : Int) : Option (Int) := if (wrap64 (a1 - (a0_1.size : Int))) < 0 then (some (-1)) else (some (wrap64 (a1 - (a0_1.size : Int))))
set_option maxHeartbeats 8000000 in
set_option maxRecDepth 100000 in
theorem laws_szNote.calls (a0_0 : Int) (a0_1 : ByteArray) (a0_2 : Int) (a0_3 : Int) (a1 : Int) (r : Int) (w : World) (h : laws_szNote.f a0_0 a0_1 a0_2 a0_3 a1 = some r) :
    Calls Tryd.prog 7 #[.agg #[.int .i64 a0_0, .string a0_1, .int .i64 a0_2, .int .i64 a0_3], .int .i64 a1] w fun e w' => e = .returned (.int .i64 r) ∧ Below w.heap.size w w' := by
  have hu23 := Tryd.underlying23
  have HB := Aside0.mk (Below.refl w.heap.size w)
  have H : (if (wrap64 (a1 - (a0_1.size : Int))) < 0 then (some (-1)) else (some (wrap64 (a1 - (a0_1.size : Int))))) = some r := h
  clear h
  by_cases c3 : (wrap64 (a1 - (a0_1.size : Int))) < 0
  · rw [if_pos c3] at H
    have c3b0 : decide ((wrap64 (a1 - (a0_1.size : Int))) < 0) = true := decide_eq_true c3
    clear c3
    obtain rfl := Option.some.inj H
    go_enter Tryd.func7, Tryd.ntmps7
    go_wp2_with (first | ((with_reducible refine gate_dst (N := 2) rfl ?_); refine box_event ?hg (N := 2) ?hd (cs := #[.int .i64 a0_0, .string a0_1, .int .i64 a0_2, .int .i64 a0_3]) (t := 23) ?hr ?_; (case hd => rfl); (case hg => rfl); (case hr => first | (go_simp; done) | (go_simp; rfl)); intro gb101 hg w4 hbox hb; have n0_ := Aside0.mk (below_step (by repeat (first | (with_reducible first | exact HB.out | apply below_alloc | apply pw_below_drewN | apply below_drew1) | exact HB.out)) hb); have n1_ := Aside0.mk (hbox); have n2_ := Aside0.mk ((by rw [hg]; exact (below_size (by repeat (first | (with_reducible first | exact HB.out | apply below_alloc | apply pw_below_drewN | apply below_drew1) | exact HB.out))) : w.heap.size ≤ gb101)); have n3_ := Aside0.mk ((by rw [hg]; exact (below_size (by repeat (first | (with_reducible first | exact HB.out | apply below_alloc | apply pw_below_drewN | apply below_drew1) | exact HB.out))) : w.heap.size ≤ gb101)); clear HB; have HB := n0_; have BK101 := n1_; have GW101 := n2_; have GE101 := n3_; clear n0_ n1_ n2_ n3_; clear hb hbox hg; have hcz5_0 : w4.cell? ⟨gb101, 0, none⟩ = some (.int .i64 a0_0) := (blk_cell BK101.out 0).trans rfl; have hcz5_1 : w4.cell? ⟨gb101, 1, none⟩ = some (.string a0_1) := (blk_cell BK101.out 1).trans rfl; have hcz5_2 : w4.cell? ⟨gb101, 2, none⟩ = some (.int .i64 a0_2) := (blk_cell BK101.out 2).trans rfl; have hcz5_3 : w4.cell? ⟨gb101, 3, none⟩ = some (.int .i64 a0_3) := (blk_cell BK101.out 3).trans rfl; have hfz5_0 := blk_frozen BK101.out 0; have hfz5_1 := blk_frozen BK101.out 1; have hfz5_2 := blk_frozen BK101.out 2; have hfz5_3 := blk_frozen BK101.out 3))
    go_ret
    exact ⟨by first | rfl | (simp [errW_none, errW_some] <;> rfl) | (simp [*, errW_none, errW_some] <;> rfl), by repeat (first | (with_reducible first | exact HB.out | apply below_alloc | apply pw_below_drewN | apply below_drew1 | refine below_set ?_ GE101.out) | exact HB.out)⟩
  · rw [if_neg c3] at H
    have c3b0 : decide ((wrap64 (a1 - (a0_1.size : Int))) < 0) = false := decide_eq_false c3
    clear c3
    obtain rfl := Option.some.inj H
    go_enter Tryd.func7, Tryd.ntmps7
    go_wp2_with (first | ((with_reducible refine gate_dst (N := 2) rfl ?_); refine box_event ?hg (N := 2) ?hd (cs := #[.int .i64 a0_0, .string a0_1, .int .i64 a0_2, .int .i64 a0_3]) (t := 23) ?hr ?_; (case hd => rfl); (case hg => rfl); (case hr => first | (go_simp; done) | (go_simp; rfl)); intro gb101 hg w6 hbox hb; have n0_ := Aside0.mk (below_step (by repeat (first | (with_reducible first | exact HB.out | apply below_alloc | apply pw_below_drewN | apply below_drew1) | exact HB.out)) hb); have n1_ := Aside0.mk (hbox); have n2_ := Aside0.mk ((by rw [hg]; exact (below_size (by repeat (first | (with_reducible first | exact HB.out | apply below_alloc | apply pw_below_drewN | apply below_drew1) | exact HB.out))) : w.heap.size ≤ gb101)); have n3_ := Aside0.mk ((by rw [hg]; exact (below_size (by repeat (first | (with_reducible first | exact HB.out | apply below_alloc | apply pw_below_drewN | apply below_drew1) | exact HB.out))) : w.heap.size ≤ gb101)); clear HB; have HB := n0_; have BK101 := n1_; have GW101 := n2_; have GE101 := n3_; clear n0_ n1_ n2_ n3_; clear hb hbox hg; have hcz7_0 : w6.cell? ⟨gb101, 0, none⟩ = some (.int .i64 a0_0) := (blk_cell BK101.out 0).trans rfl; have hcz7_1 : w6.cell? ⟨gb101, 1, none⟩ = some (.string a0_1) := (blk_cell BK101.out 1).trans rfl; have hcz7_2 : w6.cell? ⟨gb101, 2, none⟩ = some (.int .i64 a0_2) := (blk_cell BK101.out 2).trans rfl; have hcz7_3 : w6.cell? ⟨gb101, 3, none⟩ = some (.int .i64 a0_3) := (blk_cell BK101.out 3).trans rfl; have hfz7_0 := blk_frozen BK101.out 0; have hfz7_1 := blk_frozen BK101.out 1; have hfz7_2 := blk_frozen BK101.out 2; have hfz7_3 := blk_frozen BK101.out 3))
    go_ret
    exact ⟨by first | rfl | (simp [errW_none, errW_some] <;> rfl) | (simp [*, errW_none, errW_some] <;> rfl), by repeat (first | (with_reducible first | exact HB.out | apply below_alloc | apply pw_below_drewN | apply below_drew1 | refine below_set ?_ GE101.out) | exact HB.out)⟩

end Go.Proofs.YtghnljoaklmakaaDoor.X


-- written by a program of this session (wip/ext.py) out of the translation. Not trusted: Lean checks it.
namespace Go.Proofs.YtghnljoaklmakaaDoor.X
open Go.RowKit Go.Proofs.YtghnljoaklmakaaDoorW.PrintWords Go.Proofs.YtghnljoaklmakaaDoorW.PrintLast Go.Proofs.YtghnljoaklmakaaDoorW.PrintMore
attribute [local go_sem] max2_int min2_int max_two min_two max_three min_three max_four min_four   -- for this text's walks alone
open Go.Proofs.YtghnljoaklmakaaDoorG
set_option linter.unusedVariables false
set_option linter.unusedSimpArgs false

def laws_szNoteS.l0 : Nat → List (S23) → Int → Int → Option (Int)
  | 0, _, _, _ => none
  | k + 1, x0, x1, x5 => if x5 < (x0.length : Int) then (if 0 ≤ x5 then ((laws_szNote.f ((rd_T23 x0 x5).f0) ((rd_T23 x0 x5).f1) ((rd_T23 x0 x5).f2) ((rd_T23 x0 x5).f3) x1).bind fun t203 => (if t203 < 0 then (some (-1)) else (laws_szNoteS.l0 k x0 t203 (wrap64 (x5 + 1))))) else (none)) else (some x1)
def laws_szNoteS.f (k : Nat) (l0 : List (S23)) (a1 : Int) : Option (Int) := if (wrap64 (a1 - (l0.length : Int))) < 0 then (some (-1)) else (laws_szNoteS.l0 k l0 (wrap64 (a1 - (l0.length : Int))) 0)
theorem laws_szNoteS.mono_l : ∀ k, (∀ y0 y1 y2, LeO (laws_szNoteS.l0 k y0 y1 y2) (laws_szNoteS.l0 (k + 1) y0 y1 y2))
  | 0 => fun _ _ _ r h => by simp [laws_szNoteS.l0] at h
  | k + 1 => by
    have ih0 := laws_szNoteS.mono_l k
    · intro y0 y1 y2
      unfold laws_szNoteS.l0
      repeat' first
      | (with_reducible exact ih0 _ _ _)
      | (with_reducible exact LeO.refl _)
      | (with_reducible exact LeO.none _)
      | (with_reducible refine LeO.ite ?_ ?_)
      | (with_reducible refine LeO.bind ?_ (fun _ => ?_))
      | exact ih0 _ _ _
      | exact LeO.none _
      | refine LeO.ite ?_ ?_
      | refine LeO.bind ?_ (fun _ => ?_)
theorem laws_szNoteS.mono : ∀ a0 a1 k, LeO (laws_szNoteS.f k a0 a1) (laws_szNoteS.f (k + 1) a0 a1) := by
  intro a0 a1 k
  have ih0 := laws_szNoteS.mono_l k
  unfold laws_szNoteS.f
  repeat' first
      | (with_reducible exact ih0 _ _ _)
      | (with_reducible exact LeO.refl _)
      | (with_reducible exact LeO.none _)
      | (with_reducible refine LeO.ite ?_ ?_)
      | (with_reducible refine LeO.bind ?_ (fun _ => ?_))
      | exact ih0 _ _ _
      | exact LeO.none _
      | refine LeO.ite ?_ ?_
      | refine LeO.bind ?_ (fun _ => ?_)
set_option maxHeartbeats 8000000 in
set_option maxRecDepth 100000 in
theorem laws_szNoteS.calls (k : Nat) (A0 : Option Addr) (c0 : Nat) (l0 : List (S23)) (a1 : Int) (r : Int) (w : World) (hr0 : Kd.C k23 w A0 l0.length l0) (hc0 : l0.length ≤ c0) (h : laws_szNoteS.f k l0 a1 = some r) :
    Calls Tryd.prog 11 #[.slice A0 l0.length c0, .int .i64 a1] w fun e w' => e = .returned (.int .i64 r) ∧ Below w.heap.size w w' := by
  have hu23 := Tryd.underlying23
  have HR0 := Aside0.mk hr0
  have HC0 := Aside0.mk hc0
  clear hr0 hc0
  have HB := Aside0.mk (Below.refl w.heap.size w)
  have H : (if (wrap64 (a1 - (l0.length : Int))) < 0 then (some (-1)) else (laws_szNoteS.l0 k l0 (wrap64 (a1 - (l0.length : Int))) 0)) = some r := h
  clear h
  by_cases c3 : (wrap64 (a1 - (l0.length : Int))) < 0
  · rw [if_pos c3] at H
    have c3b0 : decide ((wrap64 (a1 - (l0.length : Int))) < 0) = true := decide_eq_true c3
    clear c3
    obtain rfl := Option.some.inj H
    go_enter Tryd.func11, Tryd.ntmps11
    go_wp2
    go_ret
    exact ⟨by first | rfl | (simp [errW_none, errW_some] <;> rfl) | (simp [*, errW_none, errW_some] <;> rfl), by repeat (first | (with_reducible first | exact HB.out | apply below_alloc | apply pw_below_drewN | apply below_drew1) | exact HB.out)⟩
  · rw [if_neg c3] at H
    have c3b0 : decide ((wrap64 (a1 - (l0.length : Int))) < 0) = false := decide_eq_false c3
    clear c3
    have H' := Aside0.mk H
    clear H
    go_enter Tryd.func11, Tryd.ntmps11
    go_wp2
    go_loopg [1, 5] k (fun kq v1 v5 w' => ∃ (x1_1 : Int) (x5_1 : Int), v1 = .int .i64 x1_1 ∧ v5 = .int .i64 x5_1 ∧ Aside0 (laws_szNoteS.l0 kq l0 x1_1 x5_1 = some r) ∧ Aside0 (kq ≤ k) ∧ Aside0 (Below w.heap.size w w'))
    case atStart => exact ⟨(wrap64 (a1 - (l0.length : Int))), (0), (by first | rfl | (simp; done) | (simp [*]; done)), (by first | rfl | (simp; done) | (simp [*]; done)), H', ⟨Nat.le_refl _⟩, ⟨by repeat (first | (with_reducible first | exact HB.out | apply below_alloc | apply pw_below_drewN | apply below_drew1) | exact HB.out)⟩⟩
    case round =>
      clear H'
      try clear c1
      try clear p2
      try clear c3
      try clear c3b0
      obtain ⟨x1_1, x5_1, rfl, rfl, HA, HK1, HB⟩ := hrel
      cases gk with
      | zero => exact absurd HA.out (by simp [laws_szNoteS.l0])
      | succ k1 =>
        have H := HA.out
        clear HA
        simp only [laws_szNoteS.l0] at H
        by_cases c4 : x5_1 < (l0.length : Int)
        · rw [if_pos c4] at H
          have c4b0 : decide (x5_1 < (l0.length : Int)) = true := decide_eq_true c4
          clear c4
          by_cases c5 : 0 ≤ x5_1
          · rw [if_pos c5] at H
            have c5b0 : decide (0 ≤ x5_1) = true := decide_eq_true c5
            clear c5
            replace H := Option.bind_eq_some_iff.mp H
            obtain ⟨t203, A60, H⟩ := H
            replace H : (if t203 < 0 then (some (-1)) else (laws_szNoteS.l0 k1 l0 t203 (wrap64 (x5_1 + 1)))) = some r := H
            have A6 := Aside0.mk A60
            clear A60
            by_cases c7 : t203 < 0
            · rw [if_pos c7] at H
              have c7b0 : decide (t203 < 0) = true := decide_eq_true c7
              clear c7
              obtain rfl := Option.some.inj H
              have p202 : 0 ≤ (x5_1 : Int) := of_decide_eq_true (by first | (with_reducible assumption) | assumption)
              have q202 : x5_1 < (l0.length : Int) := of_decide_eq_true (by first | (with_reducible assumption) | assumption)
              obtain ⟨ad202, e202, hx202_0, hx202_1, hx202_2, hx202_3⟩ := at_T23 HR0.out x5_1 p202 q202
              cases e202
              replace hx202_0 := (HB.out.cell (World.block_lt_of_cell? w _ hx202_0)).trans hx202_0
              replace hx202_1 := (HB.out.cell (World.block_lt_of_cell? w _ hx202_1)).trans hx202_1
              replace hx202_2 := (HB.out.cell (World.block_lt_of_cell? w _ hx202_2)).trans hx202_2
              replace hx202_3 := (HB.out.cell (World.block_lt_of_cell? w _ hx202_3)).trans hx202_3
              replace p202 := eq_true p202
              replace q202 := eq_true q202
              go_wp2_with (first | ((with_reducible refine gate_callee (f := 7) rfl ?_); refine goesL_ (some 23) rfl rfl Tryd.func7 (by kernel_rfl) rfl #[.agg #[.int .i64 ((rd_T23 l0 x5_1).f0), .string ((rd_T23 l0 x5_1).f1), .int .i64 ((rd_T23 l0 x5_1).f2), .int .i64 ((rd_T23 l0 x5_1).f3)], .int .i64 x1_1] rfl (by (try simp only [List.map_toArray, List.map_cons, List.map_nil]); first | done | rfl | (simp only [List.length_drop, List.length_take]; rfl)) ?_; (with_reducible refine (laws_szNote.calls ((rd_T23 l0 x5_1).f0) ((rd_T23 l0 x5_1).f1) ((rd_T23 l0 x5_1).f2) ((rd_T23 l0 x5_1).f3) x1_1 t203 _ A6.out).mono ?_); rintro e w8 ⟨rfl, hb⟩; refine ⟨_, rfl, ?_⟩; have n0_ := Aside0.mk (below_step (by repeat (first | (with_reducible first | exact HB.out | apply below_alloc | apply pw_below_drewN | apply below_drew1) | exact HB.out)) hb); clear HB; have HB := n0_; clear n0_; (try clear hb); (try clear hb2); (try clear hk); (try clear hi)))
              go_ret
              exact ⟨by first | rfl | (simp [errW_none, errW_some] <;> rfl) | (simp [*, errW_none, errW_some] <;> rfl), by repeat (first | (with_reducible first | exact HB.out | apply below_alloc | apply pw_below_drewN | apply below_drew1) | exact HB.out)⟩
            · rw [if_neg c7] at H
              have c7b0 : decide (t203 < 0) = false := decide_eq_false c7
              clear c7
              have H' := Aside0.mk H
              clear H
              have p202 : 0 ≤ (x5_1 : Int) := of_decide_eq_true (by first | (with_reducible assumption) | assumption)
              have q202 : x5_1 < (l0.length : Int) := of_decide_eq_true (by first | (with_reducible assumption) | assumption)
              obtain ⟨ad202, e202, hx202_0, hx202_1, hx202_2, hx202_3⟩ := at_T23 HR0.out x5_1 p202 q202
              cases e202
              replace hx202_0 := (HB.out.cell (World.block_lt_of_cell? w _ hx202_0)).trans hx202_0
              replace hx202_1 := (HB.out.cell (World.block_lt_of_cell? w _ hx202_1)).trans hx202_1
              replace hx202_2 := (HB.out.cell (World.block_lt_of_cell? w _ hx202_2)).trans hx202_2
              replace hx202_3 := (HB.out.cell (World.block_lt_of_cell? w _ hx202_3)).trans hx202_3
              replace p202 := eq_true p202
              replace q202 := eq_true q202
              go_wp2_with (first | ((with_reducible refine gate_callee (f := 7) rfl ?_); refine goesL_ (some 23) rfl rfl Tryd.func7 (by kernel_rfl) rfl #[.agg #[.int .i64 ((rd_T23 l0 x5_1).f0), .string ((rd_T23 l0 x5_1).f1), .int .i64 ((rd_T23 l0 x5_1).f2), .int .i64 ((rd_T23 l0 x5_1).f3)], .int .i64 x1_1] rfl (by (try simp only [List.map_toArray, List.map_cons, List.map_nil]); first | done | rfl | (simp only [List.length_drop, List.length_take]; rfl)) ?_; (with_reducible refine (laws_szNote.calls ((rd_T23 l0 x5_1).f0) ((rd_T23 l0 x5_1).f1) ((rd_T23 l0 x5_1).f2) ((rd_T23 l0 x5_1).f3) x1_1 t203 _ A6.out).mono ?_); rintro e w9 ⟨rfl, hb⟩; refine ⟨_, rfl, ?_⟩; have n0_ := Aside0.mk (below_step (by repeat (first | (with_reducible first | exact HB.out | apply below_alloc | apply pw_below_drewN | apply below_drew1) | exact HB.out)) hb); clear HB; have HB := n0_; clear n0_; (try clear hb); (try clear hb2); (try clear hk); (try clear hi)))
              go_roundg k1
              case measure => have := HK1.out; omega
              case rel => exact ⟨(t203), (wrap64 (x5_1 + 1)), (by first | rfl | (simp; done) | (simp [*]; done)), (by first | rfl | (simp; done) | (simp [*]; done)), H', ⟨by have := HK1.out; omega⟩, ⟨by repeat (first | (with_reducible first | exact HB.out | apply below_alloc | apply pw_below_drewN | apply below_drew1) | exact HB.out)⟩⟩
          · rw [if_neg c5] at H
            exact absurd H (by simp)
        · rw [if_neg c4] at H
          have c4b0 : decide (x5_1 < (l0.length : Int)) = false := decide_eq_false c4
          clear c4
          obtain rfl := Option.some.inj H
          go_wp2
          go_ret
          exact ⟨by first | rfl | (simp [errW_none, errW_some] <;> rfl) | (simp [*, errW_none, errW_some] <;> rfl), by repeat (first | (with_reducible first | exact HB.out | apply below_alloc | apply pw_below_drewN | apply below_drew1) | exact HB.out)⟩

end Go.Proofs.YtghnljoaklmakaaDoor.X


-- written by a program of this session (wip/ext.py) out of the translation. Not trusted: Lean checks it.
namespace Go.Proofs.YtghnljoaklmakaaDoor.X
open Go.RowKit Go.Proofs.YtghnljoaklmakaaDoorW.PrintWords Go.Proofs.YtghnljoaklmakaaDoorW.PrintLast Go.Proofs.YtghnljoaklmakaaDoorW.PrintMore
attribute [local go_sem] max2_int min2_int max_two min_two max_three min_three max_four min_four   -- for this text's walks alone
open Go.Proofs.YtghnljoaklmakaaDoorG
set_option linter.unusedVariables false
set_option linter.unusedSimpArgs false

def laws_toNote.f (a0_0 : Int) (a0_1 : ByteArray) (a0_2 : Int) (a0_3 : Int) : Option (Int × ByteArray × Int × Int) := some (a0_0, a0_1, a0_2, a0_3)
set_option maxHeartbeats 8000000 in
set_option maxRecDepth 100000 in
theorem laws_toNote.calls (a0_0 : Int) (a0_1 : ByteArray) (a0_2 : Int) (a0_3 : Int) (r1 : Int) (r2 : ByteArray) (r3 : Int) (r4 : Int) (w : World) (h : laws_toNote.f a0_0 a0_1 a0_2 a0_3 = some (r1, r2, r3, r4)) :
    Calls Tryd.prog 9 #[.agg #[.int .i64 a0_0, .string a0_1, .int .i64 a0_2, .int .i64 a0_3]] w fun e w' => e = .returned (.agg #[.int .i64 r1, .string r2, .int .i64 r3, .int .i64 r4]) ∧ Below w.heap.size w w' := by
  have hu23 := Tryd.underlying23
  have hu27 := Tryd.underlying27
  have HB := Aside0.mk (Below.refl w.heap.size w)
  have H : (some (a0_0, a0_1, a0_2, a0_3)) = some (r1, r2, r3, r4) := h
  clear h
  simp only [Option.some.injEq, Prod.mk.injEq] at H
  obtain ⟨rfl, rfl, rfl, rfl⟩ := H
  go_enter Tryd.func9, Tryd.ntmps9
  go_wp2_with (first | ((with_reducible refine gate_dst (N := 1) rfl ?_); refine box_event ?hg (N := 1) ?hd (cs := #[.int .i64 a0_0, .string a0_1, .int .i64 a0_2, .int .i64 a0_3]) (t := 23) ?hr ?_; (case hd => rfl); (case hg => rfl); (case hr => first | (go_simp; done) | (go_simp; rfl)); intro gb134 hg w2 hbox hb; have n0_ := Aside0.mk (below_step (by repeat (first | (with_reducible first | exact HB.out | apply below_alloc | apply pw_below_drewN | apply below_drew1) | exact HB.out)) hb); have n1_ := Aside0.mk (hbox); have n2_ := Aside0.mk ((by rw [hg]; exact (below_size (by repeat (first | (with_reducible first | exact HB.out | apply below_alloc | apply pw_below_drewN | apply below_drew1) | exact HB.out))) : w.heap.size ≤ gb134)); have n3_ := Aside0.mk ((by rw [hg]; exact (below_size (by repeat (first | (with_reducible first | exact HB.out | apply below_alloc | apply pw_below_drewN | apply below_drew1) | exact HB.out))) : w.heap.size ≤ gb134)); clear HB; have HB := n0_; have BK134 := n1_; have GW134 := n2_; have GE134 := n3_; clear n0_ n1_ n2_ n3_; clear hb hbox hg) | ((with_reducible refine gate_dst (N := 2) rfl ?_); refine box_event ?hg (N := 2) ?hd (cs := #[.int .i64 0, .string (⟨#[]⟩ : ByteArray), .int .i64 0, .int .i64 0]) (t := 27) ?hr ?_; (case hd => rfl); (case hg => rfl); (case hr => first | (go_simp; done) | (go_simp; rfl)); intro gb135 hg w3 hbox hb; have n0_ := Aside0.mk (blk_below (g := gb134) (o := .cells #[.int .i64 a0_0, .string a0_1, .int .i64 a0_2, .int .i64 a0_3] 23 (0, 0)) (by (with_reducible repeat (first | refine blk_drewN ?_ _ | refine blk_drew ?_ | refine blk_alloc ?_ _)); exact BK134.out) hb); have n1_ := Aside0.mk (below_step (by repeat (first | (with_reducible first | exact HB.out | apply below_alloc | apply pw_below_drewN | apply below_drew1 | refine below_set ?_ GE134.out) | exact HB.out)) hb); have n2_ := Aside0.mk (hbox); have n3_ := Aside0.mk ((by rw [hg]; exact (below_size (by repeat (first | (with_reducible first | exact HB.out | apply below_alloc | apply pw_below_drewN | apply below_drew1 | refine below_set ?_ GE134.out) | exact HB.out))) : w.heap.size ≤ gb135)); have n4_ := Aside0.mk ((by rw [hg]; exact (below_size (by repeat (first | (with_reducible first | exact HB.out | apply below_alloc | apply pw_below_drewN | apply below_drew1 | refine below_set ?_ GE134.out) | exact HB.out))) : w.heap.size ≤ gb135)); have n5_ := Aside0.mk ((by rw [hg]; exact Nat.ne_of_lt (blk_lt (g := gb134) (o := .cells #[.int .i64 a0_0, .string a0_1, .int .i64 a0_2, .int .i64 a0_3] 23 (0, 0)) (by (with_reducible repeat (first | refine blk_drewN ?_ _ | refine blk_drew ?_ | refine blk_alloc ?_ _)); exact BK134.out)) : gb134 ≠ gb135)); have n6_ := Aside0.mk ((by rw [hg]; exact Nat.ne_of_gt (blk_lt (g := gb134) (o := .cells #[.int .i64 a0_0, .string a0_1, .int .i64 a0_2, .int .i64 a0_3] 23 (0, 0)) (by (with_reducible repeat (first | refine blk_drewN ?_ _ | refine blk_drew ?_ | refine blk_alloc ?_ _)); exact BK134.out)) : gb135 ≠ gb134)); clear BK134; clear HB; have BK134 := n0_; have HB := n1_; have BK135 := n2_; have GW135 := n3_; have GE135 := n4_; have NB134_135 := n5_; have NB135_134 := n6_; clear n0_ n1_ n2_ n3_ n4_ n5_ n6_; clear hb hbox hg) | ((with_reducible refine gate_dst (N := 3) rfl ?_); refine box_event ?hg (N := 3) ?hd (cs := #[.int .i64 0, .string (⟨#[]⟩ : ByteArray), .int .i64 0, .int .i64 0]) (t := 27) ?hr ?_; (case hd => rfl); (case hg => rfl); (case hr => first | (go_simp; done) | (go_simp; rfl)); intro gb136 hg w4 hbox hb; have n0_ := Aside0.mk (blk_below (g := gb134) (o := .cells #[.int .i64 a0_0, .string a0_1, .int .i64 a0_2, .int .i64 a0_3] 23 (0, 0)) (by (with_reducible repeat (first | refine blk_drewN ?_ _ | refine blk_drew ?_ | refine blk_alloc ?_ _)); exact BK134.out) hb); have n1_ := Aside0.mk (blk_below (g := gb135) (o := .cells #[.int .i64 0, .string (⟨#[]⟩ : ByteArray), .int .i64 0, .int .i64 0] 27 (0, 0)) (by (with_reducible repeat (first | refine blk_drewN ?_ _ | refine blk_drew ?_ | refine blk_alloc ?_ _)); exact BK135.out) hb); have n2_ := Aside0.mk (below_step (by repeat (first | (with_reducible first | exact HB.out | apply below_alloc | apply pw_below_drewN | apply below_drew1 | refine below_set ?_ GE134.out | refine below_set ?_ GE135.out) | exact HB.out)) hb); have n3_ := Aside0.mk (hbox); have n4_ := Aside0.mk ((by rw [hg]; exact (below_size (by repeat (first | (with_reducible first | exact HB.out | apply below_alloc | apply pw_below_drewN | apply below_drew1 | refine below_set ?_ GE134.out | refine below_set ?_ GE135.out) | exact HB.out))) : w.heap.size ≤ gb136)); have n5_ := Aside0.mk ((by rw [hg]; exact (below_size (by repeat (first | (with_reducible first | exact HB.out | apply below_alloc | apply pw_below_drewN | apply below_drew1 | refine below_set ?_ GE134.out | refine below_set ?_ GE135.out) | exact HB.out))) : w.heap.size ≤ gb136)); have n6_ := Aside0.mk ((by rw [hg]; exact Nat.ne_of_lt (blk_lt (g := gb134) (o := .cells #[.int .i64 a0_0, .string a0_1, .int .i64 a0_2, .int .i64 a0_3] 23 (0, 0)) (by (with_reducible repeat (first | refine blk_drewN ?_ _ | refine blk_drew ?_ | refine blk_alloc ?_ _)); exact BK134.out)) : gb134 ≠ gb136)); have n7_ := Aside0.mk ((by rw [hg]; exact Nat.ne_of_gt (blk_lt (g := gb134) (o := .cells #[.int .i64 a0_0, .string a0_1, .int .i64 a0_2, .int .i64 a0_3] 23 (0, 0)) (by (with_reducible repeat (first | refine blk_drewN ?_ _ | refine blk_drew ?_ | refine blk_alloc ?_ _)); exact BK134.out)) : gb136 ≠ gb134)); have n8_ := Aside0.mk ((by rw [hg]; exact Nat.ne_of_lt (blk_lt (g := gb135) (o := .cells #[.int .i64 0, .string (⟨#[]⟩ : ByteArray), .int .i64 0, .int .i64 0] 27 (0, 0)) (by (with_reducible repeat (first | refine blk_drewN ?_ _ | refine blk_drew ?_ | refine blk_alloc ?_ _)); exact BK135.out)) : gb135 ≠ gb136)); have n9_ := Aside0.mk ((by rw [hg]; exact Nat.ne_of_gt (blk_lt (g := gb135) (o := .cells #[.int .i64 0, .string (⟨#[]⟩ : ByteArray), .int .i64 0, .int .i64 0] 27 (0, 0)) (by (with_reducible repeat (first | refine blk_drewN ?_ _ | refine blk_drew ?_ | refine blk_alloc ?_ _)); exact BK135.out)) : gb136 ≠ gb135)); clear BK134; clear BK135; clear HB; have BK134 := n0_; have BK135 := n1_; have HB := n2_; have BK136 := n3_; have GW136 := n4_; have GE136 := n5_; have NB134_136 := n6_; have NB136_134 := n7_; have NB135_136 := n8_; have NB136_135 := n9_; clear n0_ n1_ n2_ n3_ n4_ n5_ n6_ n7_ n8_ n9_; clear hb hbox hg; have hnb5 := NB134_135.out; have hnc5 := NB135_134.out; have hnb6 := NB134_136.out; have hnc6 := NB136_134.out; have hcz7_0 : w4.cell? ⟨gb134, 0, none⟩ = some (.int .i64 a0_0) := (blk_cell BK134.out 0).trans rfl; have hcz7_1 : w4.cell? ⟨gb134, 1, none⟩ = some (.string a0_1) := (blk_cell BK134.out 1).trans rfl; have hcz7_2 : w4.cell? ⟨gb134, 2, none⟩ = some (.int .i64 a0_2) := (blk_cell BK134.out 2).trans rfl; have hcz7_3 : w4.cell? ⟨gb134, 3, none⟩ = some (.int .i64 a0_3) := (blk_cell BK134.out 3).trans rfl; have hfz7_0 := blk_frozen BK134.out 0; have hfz7_1 := blk_frozen BK134.out 1; have hfz7_2 := blk_frozen BK134.out 2; have hfz7_3 := blk_frozen BK134.out 3; have hnb8 := NB136_135.out; have hnc8 := NB135_136.out; have hcz9_0 : w4.cell? ⟨gb136, 0, none⟩ = some (.int .i64 0) := (blk_cell BK136.out 0).trans rfl; have hcz9_1 : w4.cell? ⟨gb136, 1, none⟩ = some (.string (⟨#[]⟩ : ByteArray)) := (blk_cell BK136.out 1).trans rfl; have hcz9_2 : w4.cell? ⟨gb136, 2, none⟩ = some (.int .i64 0) := (blk_cell BK136.out 2).trans rfl; have hcz9_3 : w4.cell? ⟨gb136, 3, none⟩ = some (.int .i64 0) := (blk_cell BK136.out 3).trans rfl; have hfz9_0 := blk_frozen BK136.out 0; have hfz9_1 := blk_frozen BK136.out 1; have hfz9_2 := blk_frozen BK136.out 2; have hfz9_3 := blk_frozen BK136.out 3; have hcz10_0 : w4.cell? ⟨gb135, 0, none⟩ = some (.int .i64 0) := (blk_cell BK135.out 0).trans rfl; have hcz10_1 : w4.cell? ⟨gb135, 1, none⟩ = some (.string (⟨#[]⟩ : ByteArray)) := (blk_cell BK135.out 1).trans rfl; have hcz10_2 : w4.cell? ⟨gb135, 2, none⟩ = some (.int .i64 0) := (blk_cell BK135.out 2).trans rfl; have hcz10_3 : w4.cell? ⟨gb135, 3, none⟩ = some (.int .i64 0) := (blk_cell BK135.out 3).trans rfl; have hfz10_0 := blk_frozen BK135.out 0; have hfz10_1 := blk_frozen BK135.out 1; have hfz10_2 := blk_frozen BK135.out 2; have hfz10_3 := blk_frozen BK135.out 3))
  refine bodyPost_ret (results_cell_row rfl _ _ gb135 27 #[.int .i64 a0_0, .string a0_1, .int .i64 a0_2, .int .i64 a0_3] (0, 0) _ rfl (by (with_reducible repeat (first | refine blk_drewN ?_ _ | refine blk_drew ?_ | refine blk_alloc ?_ _)); refine blk_put (cs := #[.int .i64 a0_0, .string a0_1, .int .i64 a0_2, .int .i64 0]) ?_ 3 _ rfl; (with_reducible repeat (first | refine blk_drewN ?_ _ | refine blk_drew ?_ | refine blk_alloc ?_ _)); refine blk_put (cs := #[.int .i64 a0_0, .string a0_1, .int .i64 0, .int .i64 0]) ?_ 2 _ rfl; (with_reducible repeat (first | refine blk_drewN ?_ _ | refine blk_drew ?_ | refine blk_alloc ?_ _)); refine blk_put (cs := #[.int .i64 a0_0, .string (⟨#[]⟩ : ByteArray), .int .i64 0, .int .i64 0]) ?_ 1 _ rfl; (with_reducible repeat (first | refine blk_drewN ?_ _ | refine blk_drew ?_ | refine blk_alloc ?_ _)); refine blk_put (cs := #[.int .i64 0, .string (⟨#[]⟩ : ByteArray), .int .i64 0, .int .i64 0]) ?_ 0 _ rfl; (with_reducible repeat (first | refine blk_drewN ?_ _ | refine blk_drew ?_ | refine blk_alloc ?_ _)); refine blk_far ?_ NB135_136.out _; (with_reducible repeat (first | refine blk_drewN ?_ _ | refine blk_drew ?_ | refine blk_alloc ?_ _)); refine blk_far ?_ NB135_136.out _; (with_reducible repeat (first | refine blk_drewN ?_ _ | refine blk_drew ?_ | refine blk_alloc ?_ _)); refine blk_far ?_ NB135_136.out _; (with_reducible repeat (first | refine blk_drewN ?_ _ | refine blk_drew ?_ | refine blk_alloc ?_ _)); refine blk_far ?_ NB135_136.out _; (with_reducible repeat (first | refine blk_drewN ?_ _ | refine blk_drew ?_ | refine blk_alloc ?_ _)); exact BK135.out) Tryd.underlying27 rfl (by kernel_rfl)) rfl ?_
  exact ⟨by first | rfl | (simp [errW_none, errW_some] <;> rfl) | (simp [*, errW_none, errW_some] <;> rfl), by repeat (first | (with_reducible first | exact HB.out | apply below_alloc | apply pw_below_drewN | apply below_drew1 | refine below_set ?_ GE134.out | refine below_set ?_ GE135.out | refine below_set ?_ GE136.out) | exact HB.out)⟩

end Go.Proofs.YtghnljoaklmakaaDoor.X


-- written by a program of this session (wip/ext.py) out of the translation. Not trusted: Lean checks it.
namespace Go.Proofs.YtghnljoaklmakaaDoor.X
open Go.RowKit Go.Proofs.YtghnljoaklmakaaDoorW.PrintWords Go.Proofs.YtghnljoaklmakaaDoorW.PrintLast Go.Proofs.YtghnljoaklmakaaDoorW.PrintMore
attribute [local go_sem] max2_int min2_int max_two min_two max_three min_three max_four min_four   -- for this text's walks alone
open Go.Proofs.YtghnljoaklmakaaDoorG
set_option linter.unusedVariables false
set_option linter.unusedSimpArgs false

def laws_toNoteS.l0 : Nat → List (S23) → List (S27) → Int → Option ((List (S27)))
  | 0, _, _, _ => none
  | k + 1, x0, x3, x4 => if x4 < (x0.length : Int) then (if 0 ≤ x4 then ((laws_toNote.f ((rd_T23 x0 x4).f0) ((rd_T23 x0 x4).f1) ((rd_T23 x0 x4).f2) ((rd_T23 x0 x4).f3)).bind fun bt215 => (if x4 < (x3.length : Int) then (laws_toNoteS.l0 k x0 (x3.set (x4 : Int).toNat (⟨bt215.1, bt215.2.1, bt215.2.2.1, bt215.2.2.2⟩ : S27)) (wrap64 (x4 + 1))) else (none))) else (none)) else (some x3)
def laws_toNoteS.f (k : Nat) (l0 : List (S23)) : Option ((List (S27))) := if 0 ≤ (l0.length : Int) then (if ((l0.length : Int) : Int).toNat ≤ 7036874417766 then (laws_toNoteS.l0 k l0 (List.replicate ((l0.length : Int) : Int).toNat z27) 0) else (none)) else (none)
theorem laws_toNoteS.mono_l : ∀ k, (∀ y0 y1 y2, LeO (laws_toNoteS.l0 k y0 y1 y2) (laws_toNoteS.l0 (k + 1) y0 y1 y2))
  | 0 => fun _ _ _ r h => by simp [laws_toNoteS.l0] at h
  | k + 1 => by
    have ih0 := laws_toNoteS.mono_l k
    · intro y0 y1 y2
      unfold laws_toNoteS.l0
      repeat' first
      | (with_reducible exact ih0 _ _ _)
      | (with_reducible exact LeO.refl _)
      | (with_reducible exact LeO.none _)
      | (with_reducible refine LeO.ite ?_ ?_)
      | (with_reducible refine LeO.bind ?_ (fun _ => ?_))
      | exact ih0 _ _ _
      | exact LeO.none _
      | refine LeO.ite ?_ ?_
      | refine LeO.bind ?_ (fun _ => ?_)
theorem laws_toNoteS.mono : ∀ a0 k, LeO (laws_toNoteS.f k a0) (laws_toNoteS.f (k + 1) a0) := by
  intro a0 k
  have ih0 := laws_toNoteS.mono_l k
  unfold laws_toNoteS.f
  repeat' first
      | (with_reducible exact ih0 _ _ _)
      | (with_reducible exact LeO.refl _)
      | (with_reducible exact LeO.none _)
      | (with_reducible refine LeO.ite ?_ ?_)
      | (with_reducible refine LeO.bind ?_ (fun _ => ?_))
      | exact ih0 _ _ _
      | exact LeO.none _
      | refine LeO.ite ?_ ?_
      | refine LeO.bind ?_ (fun _ => ?_)
set_option maxHeartbeats 8000000 in
set_option maxRecDepth 100000 in
theorem laws_toNoteS.calls (k : Nat) (A0 : Option Addr) (c0 : Nat) (l0 : List (S23)) (r : List (S27)) (w : World) (hr0 : Kd.C k23 w A0 l0.length l0) (hc0 : l0.length ≤ c0) (h : laws_toNoteS.f k l0 = some r) :
    Calls Tryd.prog 13 #[.slice A0 l0.length c0] w fun e w' => ∃ v0_ : Value, e = .returned (v0_) ∧ Kd.R k27 27 w' w.heap.size (fun _ => True) v0_ r ∧ Below w.heap.size w w' := by
  have hu23 := Tryd.underlying23
  have hu27 := Tryd.underlying27
  have HR0 := Aside0.mk hr0
  have HC0 := Aside0.mk hc0
  clear hr0 hc0
  have HB := Aside0.mk (Below.refl w.heap.size w)
  have H : (if 0 ≤ (l0.length : Int) then (if ((l0.length : Int) : Int).toNat ≤ 7036874417766 then (laws_toNoteS.l0 k l0 (List.replicate ((l0.length : Int) : Int).toNat z27) 0) else (none)) else (none)) = some r := h
  clear h
  by_cases c2 : 0 ≤ (l0.length : Int)
  · rw [if_pos c2] at H
    have c2b0 := eq_true c2
    have c2b1 : decide (0 ≤ (l0.length : Int)) = true := decide_eq_true c2
    clear c2
    by_cases c3 : ((l0.length : Int) : Int).toNat ≤ 7036874417766
    · rw [if_pos c3] at H
      have c3b0 := eq_true c3
      have c3b1 : decide (((l0.length : Int) : Int).toNat ≤ 7036874417766) = true := decide_eq_true c3
      clear c3
      obtain ⟨y211, hy211⟩ : ∃ y_ : List (S27), y_ = (List.replicate ((l0.length : Int) : Int).toNat z27) := ⟨_, rfl⟩
      replace H : (laws_toNoteS.l0 k l0 y211 0) = some r := by first | (rw [hy211]; with_reducible exact H) | (have H2_ := (Option.bind_some _ _).symm.trans H; rw [hy211]; with_reducible exact H2_) | (have H2_ := (Option.bind_some _ _).symm.trans H; with_reducible exact H2_) | with_reducible exact H | (rw [hy211]; exact H) | exact H
      have Ny211 := Aside0.mk hy211
      clear hy211
      have H' := Aside0.mk H
      clear H
      go_enter Tryd.func13, Tryd.ntmps13
      go_wp2_with (first | ((with_reducible refine gate_dst (N := 7) rfl ?_); refine Kd.R_make k27 _ 27 rfl (N := 7) rfl 33 _ _ rfl (l0.length : Int) rfl rfl Tryd.underlying33 (.agg #[(.int .i64 0), (.string ⟨#[]⟩), (.int .i64 0), (.int .i64 0)]) 40 info27 rfl (by decide) (by omega) z27 (ok := fun _ => True) (okp := fun _ => True) (k27_mkM _ _ _ z27 ) (fun _ hk => hk) trivial (of_decide_eq_true (by first | (with_reducible assumption) | assumption)) (Nat.le_trans (Nat.mul_le_mul_right _ (of_decide_eq_true (by first | (with_reducible assumption) | assumption) : (l0.length : Int).toNat ≤ 7036874417766)) (by omega)) (Below.refl _ _) (Nat.le_refl _) ?_; intro v212 w4 ho5 hb hg_ hnew_; clear hg_ hnew_; (first | rw [← Ny211.out] at ho5 | (simp only [Int.reduceToNat] at ho5; rw [← Ny211.out] at ho5)); have n0_ := Aside0.mk (Kd.R_lower ho5 (below_size (by repeat (first | (with_reducible first | exact HB.out | apply below_alloc | apply pw_below_drewN | apply below_drew1) | exact HB.out)))); have n1_ := Aside0.mk (below_step (by repeat (first | (with_reducible first | exact HB.out | apply below_alloc | apply pw_below_drewN | apply below_drew1) | exact HB.out)) hb); clear HB; have HO213 := n0_; have HB := n1_; clear n0_ n1_; clear hb ho5))
      go_loopg [4] k (fun kq v4 w' => ∃ (x3_1 : List (S27)) (x4_1 : Int), v4 = .int .i64 x4_1 ∧ Aside0 (laws_toNoteS.l0 kq l0 x3_1 x4_1 = some r) ∧ Aside0 (kq ≤ k) ∧ Aside0 (Kd.R k27 27 w' w.heap.size (fun _ => True) v212 x3_1) ∧ Aside0 (Below w.heap.size w w'))
      case atStart => exact ⟨(y211), (0), (by first | rfl | (simp; done) | (simp [*]; done)), H', ⟨Nat.le_refl _⟩, ⟨by (with_reducible repeat (first | apply Kd.R_alloc | apply Kd.R_drewN | apply Kd.R_drew)); exact HO213.out⟩, ⟨by repeat (first | (with_reducible first | exact HB.out | apply below_alloc | apply pw_below_drewN | apply below_drew1) | exact HB.out)⟩⟩
      case round =>
        clear H'
        try clear c1
        try clear c2
        try clear c2b0
        try clear c2b1
        try clear p2
        try clear c3
        try clear c3b0
        try clear c3b1
        obtain ⟨x3_1, x4_1, rfl, HA, HK1, HO_3, HB⟩ := hrel
        cases gk with
        | zero => exact absurd HA.out (by simp [laws_toNoteS.l0])
        | succ k1 =>
          have H := HA.out
          clear HA
          simp only [laws_toNoteS.l0] at H
          by_cases c6 : x4_1 < (l0.length : Int)
          · rw [if_pos c6] at H
            have c6b0 : decide (x4_1 < (l0.length : Int)) = true := decide_eq_true c6
            clear c6
            by_cases c7 : 0 ≤ x4_1
            · rw [if_pos c7] at H
              have c7b0 : decide (0 ≤ x4_1) = true := decide_eq_true c7
              clear c7
              replace H := Option.bind_eq_some_iff.mp H
              obtain ⟨⟨t215, t216, t217, t218⟩, A80, H⟩ := H
              replace H : (if x4_1 < (x3_1.length : Int) then (laws_toNoteS.l0 k1 l0 (x3_1.set (x4_1 : Int).toNat (⟨t215, t216, t217, t218⟩ : S27)) (wrap64 (x4_1 + 1))) else (none)) = some r := H
              have A8 := Aside0.mk A80
              clear A80
              by_cases c9 : x4_1 < (x3_1.length : Int)
              · rw [if_pos c9] at H
                have c9b0 : decide (x4_1 < (x3_1.length : Int)) = true := decide_eq_true c9
                clear c9
                obtain ⟨y219, hy219⟩ : ∃ y_ : List (S27), y_ = (x3_1.set (x4_1 : Int).toNat (⟨t215, t216, t217, t218⟩ : S27)) := ⟨_, rfl⟩
                replace H : (laws_toNoteS.l0 k1 l0 y219 (wrap64 (x4_1 + 1))) = some r := by first | (rw [hy219]; with_reducible exact H) | (have H2_ := (Option.bind_some _ _).symm.trans H; rw [hy219]; with_reducible exact H2_) | (have H2_ := (Option.bind_some _ _).symm.trans H; with_reducible exact H2_) | with_reducible exact H | (rw [hy219]; exact H) | exact H
                have Ny219 := Aside0.mk hy219
                clear hy219
                have H' := Aside0.mk H
                clear H
                have p214 : 0 ≤ (x4_1 : Int) := of_decide_eq_true (by first | (with_reducible assumption) | assumption)
                have q214 : x4_1 < (l0.length : Int) := of_decide_eq_true (by first | (with_reducible assumption) | assumption)
                obtain ⟨ad214, e214, hx214_0, hx214_1, hx214_2, hx214_3⟩ := at_T23 HR0.out x4_1 p214 q214
                cases e214
                replace hx214_0 := (HB.out.cell (World.block_lt_of_cell? w _ hx214_0)).trans hx214_0
                replace hx214_1 := (HB.out.cell (World.block_lt_of_cell? w _ hx214_1)).trans hx214_1
                replace hx214_2 := (HB.out.cell (World.block_lt_of_cell? w _ hx214_2)).trans hx214_2
                replace hx214_3 := (HB.out.cell (World.block_lt_of_cell? w _ hx214_3)).trans hx214_3
                replace p214 := eq_true p214
                replace q214 := eq_true q214
                go_wp2_with (first | ((with_reducible refine gate_callee (f := 9) rfl ?_); refine goesL_ (some 20) rfl rfl Tryd.func9 (by kernel_rfl) rfl #[.agg #[.int .i64 ((rd_T23 l0 x4_1).f0), .string ((rd_T23 l0 x4_1).f1), .int .i64 ((rd_T23 l0 x4_1).f2), .int .i64 ((rd_T23 l0 x4_1).f3)]] rfl (by (try simp only [List.map_toArray, List.map_cons, List.map_nil]); first | done | rfl | (simp only [List.length_drop, List.length_take]; rfl)) ?_; (with_reducible refine (laws_toNote.calls ((rd_T23 l0 x4_1).f0) ((rd_T23 l0 x4_1).f1) ((rd_T23 l0 x4_1).f2) ((rd_T23 l0 x4_1).f3) t215 t216 t217 t218 _ A8.out).mono ?_); rintro e w11 ⟨rfl, hb⟩; refine ⟨_, rfl, ?_⟩; have n0_ := Aside0.mk (Kd.R_below (by (with_reducible repeat (first | apply Kd.R_alloc | apply Kd.R_drewN | apply Kd.R_drew)); exact HO_3.out) hb); have n1_ := Aside0.mk (below_step (by repeat (first | (with_reducible first | exact HB.out | apply below_alloc | apply pw_below_drewN | apply below_drew1) | exact HB.out)) hb); clear HO_3; clear HB; have HO_3 := n0_; have HB := n1_; clear n0_ n1_; (try clear hb); (try clear hb2); (try clear hk); (try clear hi); have p10 : 0 ≤ (x4_1 : Int) := of_decide_eq_true (by first | (with_reducible assumption) | assumption); have q10 : (x4_1 : Int) < ((x3_1.length : Int) : Int) := of_decide_eq_true (by first | (with_reducible assumption) | assumption); obtain ⟨go10, co10, eo10, gb10, gl10, cl10, HG10⟩ := Kd.R_form HO_3.out (by omega); (first | cases eo10 | (injection eo10 with ea_ en_ ec_; (first | subst ea_ | (injection ea_ with ea_; subst ea_)); subst ec_; clear en_)); have GB10 := Aside0.mk gb10; have GG10 := Aside0.mk HG10; clear gb10 gl10 HG10; obtain ⟨ce10, hcl10, hM10, hcc10, hfr10⟩ := Kd.R_elem HO_3.out z27 (x4_1 : Int) p10 q10; obtain rfl := k27_openM hM10; have hx10_0 : w11.cell? ⟨go10, (x4_1 : Int).toNat * 4, none⟩ = some (.int .i64 ((rd_T27 x3_1 x4_1).f0)) := hcc10 0 _ rfl; have hx10_1 : w11.cell? ⟨go10, (x4_1 : Int).toNat * 4 + 1, none⟩ = some (.string ((rd_T27 x3_1 x4_1).f1)) := hcc10 1 _ rfl; have hx10_2 : w11.cell? ⟨go10, (x4_1 : Int).toNat * 4 + 2, none⟩ = some (.int .i64 ((rd_T27 x3_1 x4_1).f2)) := hcc10 2 _ rfl; have hx10_3 : w11.cell? ⟨go10, (x4_1 : Int).toNat * 4 + 3, none⟩ = some (.int .i64 ((rd_T27 x3_1 x4_1).f3)) := hcc10 3 _ rfl; have hf10_0 : w11.frozen? ⟨go10, (x4_1 : Int).toNat * 4, none⟩ = false := hfr10 0; have hf10_1 : w11.frozen? ⟨go10, (x4_1 : Int).toNat * 4 + 1, none⟩ = false := hfr10 1; have hf10_2 : w11.frozen? ⟨go10, (x4_1 : Int).toNat * 4 + 2, none⟩ = false := hfr10 2; have hf10_3 : w11.frozen? ⟨go10, (x4_1 : Int).toNat * 4 + 3, none⟩ = false := hfr10 3; (try clear hcl10); (try clear hcc10); (try clear hfr10); (try clear hM10); replace p10 := eq_true p10; replace q10 := eq_true q10; have HX12 := Aside0.mk (show Kd.R k27 27 w11 w.heap.size (fun _ => True) (.slice (some ⟨go10, 0, none⟩) x3_1.length co10) x3_1 from (by (with_reducible repeat (first | apply Kd.R_alloc | apply Kd.R_drewN | apply Kd.R_drew)); exact HO_3.out)); obtain ⟨ce12, hcl12, hM12, hcc12, hfr12⟩ := Kd.R_elem HX12.out z27 (x4_1 : Int) (of_decide_eq_true (by first | (with_reducible assumption) | assumption)) (by have h_ : (x4_1 : Int) < ((x3_1.length : Int) : Int) := of_decide_eq_true (by first | (with_reducible assumption) | assumption); first | exact h_ | (have e_ := (Kd.R_reads' HO_3.out).1; omega) | simpa using h_); obtain rfl := k27_openM hM12; have HP12 := Kd.R_seg HX12.out (x4_1 : Int) (of_decide_eq_true (by first | (with_reducible assumption) | assumption)) (by have h_ : (x4_1 : Int) < ((x3_1.length : Int) : Int) := of_decide_eq_true (by first | (with_reducible assumption) | assumption); first | exact h_ | (have e_ := (Kd.R_reads' HO_3.out).1; omega) | simpa using h_) (seg := [.int .i64 t215, .string t216, .int .i64 t217, .int .i64 t218]) (j := 0) hcl12 hcc12 (show 4 ≤ 4 from by decide) (x' := (⟨t215, t216, t217, t218⟩ : S27)) (k27_mkM _ _ _ (⟨t215, t216, t217, t218⟩ : S27) ) (fun _ hk => hk); have hx12_0 := hcc12 0 _ rfl; (try simp only [show (k27).sz = 4 from rfl, Nat.mul_one, Nat.add_zero] at hx12_0); have hf12_0 := hfr12 0; (try simp only [show (k27).sz = 4 from rfl, Nat.mul_one, Nat.add_zero] at hf12_0); have hx12_1 := hcc12 1 _ rfl; (try simp only [show (k27).sz = 4 from rfl, Nat.mul_one, Nat.add_zero] at hx12_1); have hf12_1 := hfr12 1; (try simp only [show (k27).sz = 4 from rfl, Nat.mul_one, Nat.add_zero] at hf12_1); have hx12_2 := hcc12 2 _ rfl; (try simp only [show (k27).sz = 4 from rfl, Nat.mul_one, Nat.add_zero] at hx12_2); have hf12_2 := hfr12 2; (try simp only [show (k27).sz = 4 from rfl, Nat.mul_one, Nat.add_zero] at hf12_2); have hx12_3 := hcc12 3 _ rfl; (try simp only [show (k27).sz = 4 from rfl, Nat.mul_one, Nat.add_zero] at hx12_3); have hf12_3 := hfr12 3; (try simp only [show (k27).sz = 4 from rfl, Nat.mul_one, Nat.add_zero] at hf12_3); clear hcl12 hcc12 hfr12 hM12) | ((with_reducible refine gate_store (t := 27) (p := 21) rfl ?_); refine store_event (t := 27) (p := 21) (v := ?vo_w13) (w1 := ((((w11.setCell ⟨go10, (x4_1 : Int).toNat * 4, none⟩ (.int .i64 t215)).setCell ⟨go10, (x4_1 : Int).toNat * 4 + 1, none⟩ (.string t216)).setCell ⟨go10, (x4_1 : Int).toNat * 4 + 2, none⟩ (.int .i64 t217)).setCell ⟨go10, (x4_1 : Int).toNat * 4 + 3, none⟩ (.int .i64 t218))) ?hg ?ho ?hn ?hr ?_; (case ho => rfl); (case hg => rfl); (case hn => rfl); (case hr => first | (go_simp; done) | (go_simp; rfl)); intro w13 hw; have hg : w11.grownBy w13 (some go10) := (by rw [hw]; exact HP12.2); have hp_ : Kd.R k27 27 w13 w.heap.size (fun _ => True) (.slice (some ⟨go10, 0, none⟩) x3_1.length co10) y219 := (by rw [hw, Ny219.out]; exact HP12.1); clear HP12; have n0_ := Aside0.mk (hp_); have n1_ := Aside0.mk ((by rw [hw]; exact below_set (below_set (below_set (below_set (HB.out) GB10.out) GB10.out) GB10.out) GB10.out : Below w.heap.size w w13)); clear HO_3; clear HB; have HO_3 := n0_; have HB := n1_; clear n0_ n1_; clear hg hw hp_))
                go_roundg k1
                case measure => have := HK1.out; omega
                case rel => exact ⟨(y219), (wrap64 (x4_1 + 1)), (by first | rfl | (simp; done) | (simp [*]; done)), H', ⟨by have := HK1.out; omega⟩, ⟨by (with_reducible repeat (first | apply Kd.R_alloc | apply Kd.R_drewN | apply Kd.R_drew)); exact HO_3.out⟩, ⟨by repeat (first | (with_reducible first | exact HB.out | apply below_alloc | apply pw_below_drewN | apply below_drew1) | exact HB.out)⟩⟩
              · rw [if_neg c9] at H
                exact absurd H (by simp)
            · rw [if_neg c7] at H
              exact absurd H (by simp)
          · rw [if_neg c6] at H
            have c6b0 : decide (x4_1 < (l0.length : Int)) = false := decide_eq_false c6
            clear c6
            obtain rfl := Option.some.inj H
            go_wp2
            go_ret
            exact ⟨_, by first | rfl | (simp [errW_none, errW_some] <;> rfl) | (simp [*, errW_none, errW_some] <;> rfl), by (with_reducible repeat (first | apply Kd.R_alloc | apply Kd.R_drewN | apply Kd.R_drew)); exact HO_3.out, by repeat (first | (with_reducible first | exact HB.out | apply below_alloc | apply pw_below_drewN | apply below_drew1) | exact HB.out)⟩
    · rw [if_neg c3] at H
      exact absurd H (by simp)
  · rw [if_neg c2] at H
    exact absurd H (by simp)

end Go.Proofs.YtghnljoaklmakaaDoor.X


-- written by a program of this session (wip/ext.py) out of the translation. Not trusted: Lean checks it.
namespace Go.Proofs.YtghnljoaklmakaaDoor.X
open Go.RowKit Go.Proofs.YtghnljoaklmakaaDoorW.PrintWords Go.Proofs.YtghnljoaklmakaaDoorW.PrintLast Go.Proofs.YtghnljoaklmakaaDoorW.PrintMore
attribute [local go_sem] max2_int min2_int max_two min_two max_three min_three max_four min_four   -- for this text's walks alone
open Go.Proofs.YtghnljoaklmakaaDoorG
set_option linter.unusedVariables false
set_option linter.unusedSimpArgs false

def laws_eqNoteS.l0 : Nat → List (S27) → List (S27) → Int → Option (Bool)
  | 0, _, _, _ => none
  | k + 1, x0, x1, x5 => if x5 < (x0.length : Int) then (if 0 ≤ x5 then (if x5 < (x1.length : Int) then ((laws_eqNote.f ((rd_T27 x0 x5).f0) ((rd_T27 x0 x5).f1) ((rd_T27 x0 x5).f2) ((rd_T27 x0 x5).f3) ((rd_T27 x1 x5).f0) ((rd_T27 x1 x5).f1) ((rd_T27 x1 x5).f2) ((rd_T27 x1 x5).f3)).bind fun t237 => (if t237 = true then (laws_eqNoteS.l0 k x0 x1 (wrap64 (x5 + 1))) else (some false))) else (none)) else (none)) else (some true)
def laws_eqNoteS.f (k : Nat) (l0 : List (S27)) (l1 : List (S27)) : Option (Bool) := if (l0.length : Int) = (l1.length : Int) then (laws_eqNoteS.l0 k l0 l1 0) else (some false)
theorem laws_eqNoteS.mono_l : ∀ k, (∀ y0 y1 y2, LeO (laws_eqNoteS.l0 k y0 y1 y2) (laws_eqNoteS.l0 (k + 1) y0 y1 y2))
  | 0 => fun _ _ _ r h => by simp [laws_eqNoteS.l0] at h
  | k + 1 => by
    have ih0 := laws_eqNoteS.mono_l k
    · intro y0 y1 y2
      unfold laws_eqNoteS.l0
      repeat' first
      | (with_reducible exact ih0 _ _ _)
      | (with_reducible exact LeO.refl _)
      | (with_reducible exact LeO.none _)
      | (with_reducible refine LeO.ite ?_ ?_)
      | (with_reducible refine LeO.bind ?_ (fun _ => ?_))
      | exact ih0 _ _ _
      | exact LeO.none _
      | refine LeO.ite ?_ ?_
      | refine LeO.bind ?_ (fun _ => ?_)
theorem laws_eqNoteS.mono : ∀ a0 a1 k, LeO (laws_eqNoteS.f k a0 a1) (laws_eqNoteS.f (k + 1) a0 a1) := by
  intro a0 a1 k
  have ih0 := laws_eqNoteS.mono_l k
  unfold laws_eqNoteS.f
  repeat' first
      | (with_reducible exact ih0 _ _ _)
      | (with_reducible exact LeO.refl _)
      | (with_reducible exact LeO.none _)
      | (with_reducible refine LeO.ite ?_ ?_)
      | (with_reducible refine LeO.bind ?_ (fun _ => ?_))
      | exact ih0 _ _ _
      | exact LeO.none _
      | refine LeO.ite ?_ ?_
      | refine LeO.bind ?_ (fun _ => ?_)
def laws_eqNoteS.T6 : Bool × List (List Nat × List Nat) := (true, [([], []), ([], []), ([0, 1], [0, 1]), ([2], [2]), ([], []), ([], []), ([4, 5], [4, 5]), ([6], [6]), ([3, 7], [3, 7]), ([8], [8])])
def laws_eqNoteS.B6 : List Nat := [0, 0, 3, 7, 0, 0, 48, 112, 255, 511]
theorem laws_eqNoteS.tab6 : rtab .any (opsOf Tryd.f15 6) = laws_eqNoteS.T6 := by kernel_rfl
theorem laws_eqNoteS.bits6 : waitsOk laws_eqNoteS.T6.2 laws_eqNoteS.B6 = true := by kernel_rfl
set_option maxHeartbeats 8000000 in
set_option maxRecDepth 100000 in
theorem laws_eqNoteS.calls (k : Nat) (A0 : Option Addr) (c0 : Nat) (l0 : List (S27)) (A1 : Option Addr) (c1 : Nat) (l1 : List (S27)) (r : Bool) (w : World) (hr0 : Kd.C k27 w A0 l0.length l0) (hc0 : l0.length ≤ c0) (hr1 : Kd.C k27 w A1 l1.length l1) (hc1 : l1.length ≤ c1) (h : laws_eqNoteS.f k l0 l1 = some r) :
    Calls Tryd.prog 15 #[.slice A0 l0.length c0, .slice A1 l1.length c1] w fun e w' => e = .returned (.bool r) ∧ Below w.heap.size w w' := by
  have hu27 := Tryd.underlying27
  have HR0 := Aside0.mk hr0
  have HC0 := Aside0.mk hc0
  clear hr0 hc0
  have HR1 := Aside0.mk hr1
  have HC1 := Aside0.mk hc1
  clear hr1 hc1
  have HB := Aside0.mk (Below.refl w.heap.size w)
  have H : (if (l0.length : Int) = (l1.length : Int) then (laws_eqNoteS.l0 k l0 l1 0) else (some false)) = some r := h
  clear h
  by_cases c3 : (l0.length : Int) = (l1.length : Int)
  · rw [if_pos c3] at H
    have c3b0 : ((l0.length : Int) == (l1.length : Int)) = true := beq_iff_eq.mpr c3
    have c3b1 : ((l0.length : Int) != (l1.length : Int)) = false := bne_eq_false_iff_eq.mpr c3
    have c3b2 : (l0.length == l1.length) = true := by first | simpa using c3 | (simp at c3 ⊢; omega)
    clear c3
    have H' := Aside0.mk H
    clear H
    go_enter Tryd.func15, Tryd.ntmps15
    go_wp2
    go_loopg [5] k (fun kq v5 w' => ∃ (x5_1 : Int), v5 = .int .i64 x5_1 ∧ Aside0 (laws_eqNoteS.l0 kq l0 l1 x5_1 = some r) ∧ Aside0 (kq ≤ k) ∧ Aside0 (Below w.heap.size w w'))
    case atStart => exact ⟨(0), (by first | rfl | (simp; done) | (simp [*]; done)), H', ⟨Nat.le_refl _⟩, ⟨by repeat (first | (with_reducible first | exact HB.out | apply below_alloc | apply pw_below_drewN | apply below_drew1) | exact HB.out)⟩⟩
    case round =>
      clear H'
      try clear c1
      try clear p2
      try clear c3
      try clear c3b0
      try clear c3b1
      try clear c3b2
      obtain ⟨x5_1, rfl, HA, HK1, HB⟩ := hrel
      cases gk with
      | zero => exact absurd HA.out (by simp [laws_eqNoteS.l0])
      | succ k1 =>
        have H := HA.out
        clear HA
        simp only [laws_eqNoteS.l0] at H
        by_cases c4 : x5_1 < (l0.length : Int)
        · rw [if_pos c4] at H
          have c4b0 : decide (x5_1 < (l0.length : Int)) = true := decide_eq_true c4
          clear c4
          by_cases c5 : 0 ≤ x5_1
          · rw [if_pos c5] at H
            have c5b0 : decide (0 ≤ x5_1) = true := decide_eq_true c5
            clear c5
            by_cases c6 : x5_1 < (l1.length : Int)
            · rw [if_pos c6] at H
              have c6b0 : decide (x5_1 < (l1.length : Int)) = true := decide_eq_true c6
              clear c6
              replace H := Option.bind_eq_some_iff.mp H
              obtain ⟨t237, A70, H⟩ := H
              replace H : (if t237 = true then (laws_eqNoteS.l0 k1 l0 l1 (wrap64 (x5_1 + 1))) else (some false)) = some r := H
              have A7 := Aside0.mk A70
              clear A70
              by_cases c8 : t237 = true
              · subst c8
                have H1 : (laws_eqNoteS.l0 k1 l0 l1 (wrap64 (x5_1 + 1))) = some r := by rw [if_pos rfl] at H; exact H
                clear H
                have H := H1
                clear H1
                have H' := Aside0.mk H
                clear H
                try go_wp2
                have n0_ := Aside0.mk (below_drew1 HB.out)
                clear HB
                have HB := n0_
                clear n0_
                have p235 : 0 ≤ (x5_1 : Int) := of_decide_eq_true (by first | (with_reducible assumption) | assumption)
                have q235 : x5_1 < (l0.length : Int) := of_decide_eq_true (by first | (with_reducible assumption) | assumption)
                obtain ⟨ad235, e235, hx235_0, hx235_1, hx235_2, hx235_3⟩ := at_T27 HR0.out x5_1 p235 q235
                have hw235_3 := hx235_3
                have hw235_2 := hx235_2
                have hw235_1 := hx235_1
                have hw235_0 := hx235_0
                cases e235
                replace hx235_0 := (HB.out.cell (World.block_lt_of_cell? w _ hx235_0)).trans hx235_0
                replace hx235_1 := (HB.out.cell (World.block_lt_of_cell? w _ hx235_1)).trans hx235_1
                replace hx235_2 := (HB.out.cell (World.block_lt_of_cell? w _ hx235_2)).trans hx235_2
                replace hx235_3 := (HB.out.cell (World.block_lt_of_cell? w _ hx235_3)).trans hx235_3
                replace p235 := eq_true p235
                replace q235 := eq_true q235
                have p236 : 0 ≤ (x5_1 : Int) := of_decide_eq_true (by first | (with_reducible assumption) | assumption)
                have q236 : x5_1 < (l1.length : Int) := of_decide_eq_true (by first | (with_reducible assumption) | assumption)
                obtain ⟨ad236, e236, hx236_0, hx236_1, hx236_2, hx236_3⟩ := at_T27 HR1.out x5_1 p236 q236
                have hw236_3 := hx236_3
                have hw236_2 := hx236_2
                have hw236_1 := hx236_1
                have hw236_0 := hx236_0
                cases e236
                replace hx236_0 := (HB.out.cell (World.block_lt_of_cell? w _ hx236_0)).trans hx236_0
                replace hx236_1 := (HB.out.cell (World.block_lt_of_cell? w _ hx236_1)).trans hx236_1
                replace hx236_2 := (HB.out.cell (World.block_lt_of_cell? w _ hx236_2)).trans hx236_2
                replace hx236_3 := (HB.out.cell (World.block_lt_of_cell? w _ hx236_3)).trans hx236_3
                replace p236 := eq_true p236
                replace q236 := eq_true q236
                refine start_ (n := 10) (S := fun w' => w'.cell? (ad235.add ((x5_1).toNat * 4)) = some (.int .i64 ((rd_T27 l0 x5_1).f0)) ∧ w'.cell? ⟨(ad235.add ((x5_1).toNat * 4)).block, (ad235.add ((x5_1).toNat * 4)).off + 1, none⟩ = some (.string ((rd_T27 l0 x5_1).f1)) ∧ w'.cell? ⟨(ad235.add ((x5_1).toNat * 4)).block, (ad235.add ((x5_1).toNat * 4)).off + 2, none⟩ = some (.int .i64 ((rd_T27 l0 x5_1).f2)) ∧ w'.cell? ⟨(ad235.add ((x5_1).toNat * 4)).block, (ad235.add ((x5_1).toNat * 4)).off + 3, none⟩ = some (.int .i64 ((rd_T27 l0 x5_1).f3)) ∧ w'.cell? (ad236.add ((x5_1).toNat * 4)) = some (.int .i64 ((rd_T27 l1 x5_1).f0)) ∧ w'.cell? ⟨(ad236.add ((x5_1).toNat * 4)).block, (ad236.add ((x5_1).toNat * 4)).off + 1, none⟩ = some (.string ((rd_T27 l1 x5_1).f1)) ∧ w'.cell? ⟨(ad236.add ((x5_1).toNat * 4)).block, (ad236.add ((x5_1).toNat * 4)).off + 2, none⟩ = some (.int .i64 ((rd_T27 l1 x5_1).f2)) ∧ w'.cell? ⟨(ad236.add ((x5_1).toNat * 4)).block, (ad236.add ((x5_1).toNat * 4)).off + 3, none⟩ = some (.int .i64 ((rd_T27 l1 x5_1).f3))) (ds := []) #[false, false, false, false, false, false, false, false, false, false] (by kernel_rfl) rfl rfl ⟨((HB.out.cell (World.block_lt_of_cell? w _ hw235_0)).trans hw235_0), ((HB.out.cell (World.block_lt_of_cell? w _ hw235_1)).trans hw235_1), ((HB.out.cell (World.block_lt_of_cell? w _ hw235_2)).trans hw235_2), ((HB.out.cell (World.block_lt_of_cell? w _ hw235_3)).trans hw235_3), ((HB.out.cell (World.block_lt_of_cell? w _ hw236_0)).trans hw236_0), ((HB.out.cell (World.block_lt_of_cell? w _ hw236_1)).trans hw236_1), ((HB.out.cell (World.block_lt_of_cell? w _ hw236_2)).trans hw236_2), ((HB.out.cell (World.block_lt_of_cell? w _ hw236_3)).trans hw236_3)⟩ (fun hHeld => ?_); refine with_tabW laws_eqNoteS.tab6 laws_eqNoteS.bits6 (fun HT_ HW_ => ?_)
                generalize wr.drew = w9 at HB hx235_0 hx235_1 hx235_2 hx235_3 hx236_0 hx236_1 hx236_2 hx236_3 hHeld ⊢
                refine pure_ (i := 0) (N := some 17) (v := ?_) (a' := ?_) #[true, false, false, false, false, false, false, false, false, false] rfl rfl (any_of HT_.out (by kernel_rfl)) (fun _ _ _ h => h) (Or.inl ⟨by rfl, ?_⟩) ?_ ?_
                rotate_left
                · intro w'
                  go_simp
                  with_reducible rfl
                rotate_left
                · simp only [Act.put, List.setIfInBounds_toArray, List.set_cons_zero, List.set_cons_succ, i64_w, i32_w]
                  rfl
                refine pure_ (i := 1) (N := some 18) (v := ?_) (a' := ?_) #[true, true, false, false, false, false, false, false, false, false] rfl rfl (any_of HT_.out (by kernel_rfl)) (fun _ _ _ h => h) (Or.inl ⟨by rfl, ?_⟩) ?_ ?_
                rotate_left
                · intro w'
                  go_simp
                  with_reducible rfl
                rotate_left
                · simp only [Act.put, List.setIfInBounds_toArray, List.set_cons_zero, List.set_cons_succ, i64_w, i32_w]
                  rfl
                refine pure_ (i := 2) (N := some 19) (v := ?_) (a' := ?_) #[true, true, true, false, false, false, false, false, false, false] rfl rfl (any_of HT_.out (by kernel_rfl)) (fun _ _ _ h => h) (Or.inl ⟨by rfl, ?_⟩) ?_ ?_
                rotate_left
                · intro w'
                  go_simp
                  with_reducible rfl
                rotate_left
                · simp only [Act.put, List.setIfInBounds_toArray, List.set_cons_zero, List.set_cons_succ, i64_w, i32_w]
                  rfl
                refine pure_ (i := 4) (N := some 21) (v := ?_) (a' := ?_) #[true, true, true, false, true, false, false, false, false, false] rfl rfl (any_of HT_.out (by kernel_rfl)) (fun _ _ _ h => h) (Or.inl ⟨by rfl, ?_⟩) ?_ ?_
                rotate_left
                · intro w'
                  go_simp
                  with_reducible rfl
                rotate_left
                · simp only [Act.put, List.setIfInBounds_toArray, List.set_cons_zero, List.set_cons_succ, i64_w, i32_w]
                  rfl
                refine pure_ (i := 5) (N := some 22) (v := ?_) (a' := ?_) #[true, true, true, false, true, true, false, false, false, false] rfl rfl (any_of HT_.out (by kernel_rfl)) (fun _ _ _ h => h) (Or.inl ⟨by rfl, ?_⟩) ?_ ?_
                rotate_left
                · intro w'
                  go_simp
                  with_reducible rfl
                rotate_left
                · simp only [Act.put, List.setIfInBounds_toArray, List.set_cons_zero, List.set_cons_succ, i64_w, i32_w]
                  rfl
                refine pure_ (i := 6) (N := some 23) (v := ?_) (a' := ?_) #[true, true, true, false, true, true, true, false, false, false] rfl rfl (any_of HT_.out (by kernel_rfl)) (fun _ _ _ h => h) (Or.inl ⟨by rfl, ?_⟩) ?_ ?_
                rotate_left
                · intro w'
                  go_simp
                  with_reducible rfl
                rotate_left
                · simp only [Act.put, List.setIfInBounds_toArray, List.set_cons_zero, List.set_cons_succ, i64_w, i32_w]
                  rfl
                refine take_ (i := 3) (N := some 20) (v := ?_) (a' := ?_) #[true, true, true, true, true, true, true, false, false, false] rfl rfl (take_ofW HT_.out HW_.out (by kernel_rfl)) (fun _ _ _ h => h) (Or.inl ⟨by rfl, ?_⟩) hHeld ?_ ?_
                rotate_left
                · rintro w' ⟨s0, s1, s2, s3, s4, s5, s6, s7⟩
                  go_simp
                  with_reducible rfl
                rotate_left
                · simp only [Act.put, List.setIfInBounds_toArray, List.set_cons_zero, List.set_cons_succ, i64_w, i32_w]
                  rfl
                refine take_ (i := 7) (N := some 24) (v := ?_) (a' := ?_) #[true, true, true, true, true, true, true, true, false, false] rfl rfl (take_ofW HT_.out HW_.out (by kernel_rfl)) (fun _ _ _ h => h) (Or.inl ⟨by rfl, ?_⟩) hHeld ?_ ?_
                rotate_left
                · rintro w' ⟨s0, s1, s2, s3, s4, s5, s6, s7⟩
                  go_simp
                  with_reducible rfl
                rotate_left
                · simp only [Act.put, List.setIfInBounds_toArray, List.set_cons_zero, List.set_cons_succ, i64_w, i32_w]
                  rfl
                refine one_ (i := 8) (N := some 25) #[true, true, true, true, true, true, true, true, true, false] rfl rfl (one_of HT_.out (by kernel_rfl)) (by decide) (fun K hK => ?_)
                refine goes_ Tryd.func18 (by kernel_rfl) rfl #[.agg #[.int .i64 ((rd_T27 l0 x5_1).f0), .string ((rd_T27 l0 x5_1).f1), .int .i64 ((rd_T27 l0 x5_1).f2), .int .i64 ((rd_T27 l0 x5_1).f3)], .agg #[.int .i64 ((rd_T27 l1 x5_1).f0), .string ((rd_T27 l1 x5_1).f1), .int .i64 ((rd_T27 l1 x5_1).f2), .int .i64 ((rd_T27 l1 x5_1).f3)]] (by rfl) rfl rfl (by (try simp only [List.map_toArray, List.map_cons, List.map_nil]); first | done | rfl | (simp only [List.length_drop, List.length_take]; rfl)) ?_
                with_reducible refine (laws_eqNote.calls ((rd_T27 l0 x5_1).f0) ((rd_T27 l0 x5_1).f1) ((rd_T27 l0 x5_1).f2) ((rd_T27 l0 x5_1).f3) ((rd_T27 l1 x5_1).f0) ((rd_T27 l1 x5_1).f1) ((rd_T27 l1 x5_1).f2) ((rd_T27 l1 x5_1).f3) true _ A7.out).mono ?_
                rintro e w10 ⟨rfl, hb⟩
                refine ⟨_, rfl, ?_⟩
                have n0_ := Aside0.mk (below_step (by repeat (first | (with_reducible first | exact HB.out | apply below_alloc | apply pw_below_drewN | apply below_drew1) | exact HB.out)) hb)
                clear HB
                have HB := n0_
                clear n0_
                (try clear hb)
                (try clear hb2)
                (try clear hk)
                (try clear hi)
                refine hK.out _ _ ⟨((HB.out.cell (World.block_lt_of_cell? w _ hw235_0)).trans hw235_0), ((HB.out.cell (World.block_lt_of_cell? w _ hw235_1)).trans hw235_1), ((HB.out.cell (World.block_lt_of_cell? w _ hw235_2)).trans hw235_2), ((HB.out.cell (World.block_lt_of_cell? w _ hw235_3)).trans hw235_3), ((HB.out.cell (World.block_lt_of_cell? w _ hw236_0)).trans hw236_0), ((HB.out.cell (World.block_lt_of_cell? w _ hw236_1)).trans hw236_1), ((HB.out.cell (World.block_lt_of_cell? w _ hw236_2)).trans hw236_2), ((HB.out.cell (World.block_lt_of_cell? w _ hw236_3)).trans hw236_3)⟩ (fun hHeld => ?_)
                clear hK K
                refine norm_ (a' := ?_) ?_ ?_
                rotate_left
                · show Act.put _ (some 25) _ = _
                  simp only [Act.put, List.setIfInBounds_toArray, List.set_cons_zero, List.set_cons_succ, i64_w, i32_w]
                  rfl
                refine pure_ (i := 9) (N := some 26) (v := ?_) (a' := ?_) #[true, true, true, true, true, true, true, true, true, true] rfl rfl (any_of HT_.out (by kernel_rfl)) (fun _ _ _ h => h) (Or.inl ⟨by rfl, ?_⟩) ?_ ?_
                rotate_left
                · intro w'
                  go_simp
                  with_reducible rfl
                rotate_left
                · simp only [Act.put, List.setIfInBounds_toArray, List.set_cons_zero, List.set_cons_succ, i64_w, i32_w]
                  rfl
                refine done_ (done_of HT_.out (by kernel_rfl)) ?_
                try go_wp2
                go_roundg k1
                case measure => have := HK1.out; omega
                case rel => exact ⟨(wrap64 (x5_1 + 1)), (by first | rfl | (simp; done) | (simp [*]; done)), H', ⟨by have := HK1.out; omega⟩, ⟨by repeat (first | (with_reducible first | exact HB.out | apply below_alloc | apply pw_below_drewN | apply below_drew1) | exact HB.out)⟩⟩
              · replace c8 := Bool.eq_false_iff.mpr c8
                subst c8
                have H1 : (some false) = some r := by rw [if_neg (show ¬ (false = true) by decide)] at H; exact H
                clear H
                have H := H1
                clear H1
                obtain rfl := Option.some.inj H
                try go_wp2
                have n0_ := Aside0.mk (below_drew1 HB.out)
                clear HB
                have HB := n0_
                clear n0_
                have p235 : 0 ≤ (x5_1 : Int) := of_decide_eq_true (by first | (with_reducible assumption) | assumption)
                have q235 : x5_1 < (l0.length : Int) := of_decide_eq_true (by first | (with_reducible assumption) | assumption)
                obtain ⟨ad235, e235, hx235_0, hx235_1, hx235_2, hx235_3⟩ := at_T27 HR0.out x5_1 p235 q235
                have hw235_3 := hx235_3
                have hw235_2 := hx235_2
                have hw235_1 := hx235_1
                have hw235_0 := hx235_0
                cases e235
                replace hx235_0 := (HB.out.cell (World.block_lt_of_cell? w _ hx235_0)).trans hx235_0
                replace hx235_1 := (HB.out.cell (World.block_lt_of_cell? w _ hx235_1)).trans hx235_1
                replace hx235_2 := (HB.out.cell (World.block_lt_of_cell? w _ hx235_2)).trans hx235_2
                replace hx235_3 := (HB.out.cell (World.block_lt_of_cell? w _ hx235_3)).trans hx235_3
                replace p235 := eq_true p235
                replace q235 := eq_true q235
                have p236 : 0 ≤ (x5_1 : Int) := of_decide_eq_true (by first | (with_reducible assumption) | assumption)
                have q236 : x5_1 < (l1.length : Int) := of_decide_eq_true (by first | (with_reducible assumption) | assumption)
                obtain ⟨ad236, e236, hx236_0, hx236_1, hx236_2, hx236_3⟩ := at_T27 HR1.out x5_1 p236 q236
                have hw236_3 := hx236_3
                have hw236_2 := hx236_2
                have hw236_1 := hx236_1
                have hw236_0 := hx236_0
                cases e236
                replace hx236_0 := (HB.out.cell (World.block_lt_of_cell? w _ hx236_0)).trans hx236_0
                replace hx236_1 := (HB.out.cell (World.block_lt_of_cell? w _ hx236_1)).trans hx236_1
                replace hx236_2 := (HB.out.cell (World.block_lt_of_cell? w _ hx236_2)).trans hx236_2
                replace hx236_3 := (HB.out.cell (World.block_lt_of_cell? w _ hx236_3)).trans hx236_3
                replace p236 := eq_true p236
                replace q236 := eq_true q236
                refine start_ (n := 10) (S := fun w' => w'.cell? (ad235.add ((x5_1).toNat * 4)) = some (.int .i64 ((rd_T27 l0 x5_1).f0)) ∧ w'.cell? ⟨(ad235.add ((x5_1).toNat * 4)).block, (ad235.add ((x5_1).toNat * 4)).off + 1, none⟩ = some (.string ((rd_T27 l0 x5_1).f1)) ∧ w'.cell? ⟨(ad235.add ((x5_1).toNat * 4)).block, (ad235.add ((x5_1).toNat * 4)).off + 2, none⟩ = some (.int .i64 ((rd_T27 l0 x5_1).f2)) ∧ w'.cell? ⟨(ad235.add ((x5_1).toNat * 4)).block, (ad235.add ((x5_1).toNat * 4)).off + 3, none⟩ = some (.int .i64 ((rd_T27 l0 x5_1).f3)) ∧ w'.cell? (ad236.add ((x5_1).toNat * 4)) = some (.int .i64 ((rd_T27 l1 x5_1).f0)) ∧ w'.cell? ⟨(ad236.add ((x5_1).toNat * 4)).block, (ad236.add ((x5_1).toNat * 4)).off + 1, none⟩ = some (.string ((rd_T27 l1 x5_1).f1)) ∧ w'.cell? ⟨(ad236.add ((x5_1).toNat * 4)).block, (ad236.add ((x5_1).toNat * 4)).off + 2, none⟩ = some (.int .i64 ((rd_T27 l1 x5_1).f2)) ∧ w'.cell? ⟨(ad236.add ((x5_1).toNat * 4)).block, (ad236.add ((x5_1).toNat * 4)).off + 3, none⟩ = some (.int .i64 ((rd_T27 l1 x5_1).f3))) (ds := []) #[false, false, false, false, false, false, false, false, false, false] (by kernel_rfl) rfl rfl ⟨((HB.out.cell (World.block_lt_of_cell? w _ hw235_0)).trans hw235_0), ((HB.out.cell (World.block_lt_of_cell? w _ hw235_1)).trans hw235_1), ((HB.out.cell (World.block_lt_of_cell? w _ hw235_2)).trans hw235_2), ((HB.out.cell (World.block_lt_of_cell? w _ hw235_3)).trans hw235_3), ((HB.out.cell (World.block_lt_of_cell? w _ hw236_0)).trans hw236_0), ((HB.out.cell (World.block_lt_of_cell? w _ hw236_1)).trans hw236_1), ((HB.out.cell (World.block_lt_of_cell? w _ hw236_2)).trans hw236_2), ((HB.out.cell (World.block_lt_of_cell? w _ hw236_3)).trans hw236_3)⟩ (fun hHeld => ?_); refine with_tabW laws_eqNoteS.tab6 laws_eqNoteS.bits6 (fun HT_ HW_ => ?_)
                generalize wr.drew = w11 at HB hx235_0 hx235_1 hx235_2 hx235_3 hx236_0 hx236_1 hx236_2 hx236_3 hHeld ⊢
                refine pure_ (i := 0) (N := some 17) (v := ?_) (a' := ?_) #[true, false, false, false, false, false, false, false, false, false] rfl rfl (any_of HT_.out (by kernel_rfl)) (fun _ _ _ h => h) (Or.inl ⟨by rfl, ?_⟩) ?_ ?_
                rotate_left
                · intro w'
                  go_simp
                  with_reducible rfl
                rotate_left
                · simp only [Act.put, List.setIfInBounds_toArray, List.set_cons_zero, List.set_cons_succ, i64_w, i32_w]
                  rfl
                refine pure_ (i := 1) (N := some 18) (v := ?_) (a' := ?_) #[true, true, false, false, false, false, false, false, false, false] rfl rfl (any_of HT_.out (by kernel_rfl)) (fun _ _ _ h => h) (Or.inl ⟨by rfl, ?_⟩) ?_ ?_
                rotate_left
                · intro w'
                  go_simp
                  with_reducible rfl
                rotate_left
                · simp only [Act.put, List.setIfInBounds_toArray, List.set_cons_zero, List.set_cons_succ, i64_w, i32_w]
                  rfl
                refine pure_ (i := 2) (N := some 19) (v := ?_) (a' := ?_) #[true, true, true, false, false, false, false, false, false, false] rfl rfl (any_of HT_.out (by kernel_rfl)) (fun _ _ _ h => h) (Or.inl ⟨by rfl, ?_⟩) ?_ ?_
                rotate_left
                · intro w'
                  go_simp
                  with_reducible rfl
                rotate_left
                · simp only [Act.put, List.setIfInBounds_toArray, List.set_cons_zero, List.set_cons_succ, i64_w, i32_w]
                  rfl
                refine pure_ (i := 4) (N := some 21) (v := ?_) (a' := ?_) #[true, true, true, false, true, false, false, false, false, false] rfl rfl (any_of HT_.out (by kernel_rfl)) (fun _ _ _ h => h) (Or.inl ⟨by rfl, ?_⟩) ?_ ?_
                rotate_left
                · intro w'
                  go_simp
                  with_reducible rfl
                rotate_left
                · simp only [Act.put, List.setIfInBounds_toArray, List.set_cons_zero, List.set_cons_succ, i64_w, i32_w]
                  rfl
                refine pure_ (i := 5) (N := some 22) (v := ?_) (a' := ?_) #[true, true, true, false, true, true, false, false, false, false] rfl rfl (any_of HT_.out (by kernel_rfl)) (fun _ _ _ h => h) (Or.inl ⟨by rfl, ?_⟩) ?_ ?_
                rotate_left
                · intro w'
                  go_simp
                  with_reducible rfl
                rotate_left
                · simp only [Act.put, List.setIfInBounds_toArray, List.set_cons_zero, List.set_cons_succ, i64_w, i32_w]
                  rfl
                refine pure_ (i := 6) (N := some 23) (v := ?_) (a' := ?_) #[true, true, true, false, true, true, true, false, false, false] rfl rfl (any_of HT_.out (by kernel_rfl)) (fun _ _ _ h => h) (Or.inl ⟨by rfl, ?_⟩) ?_ ?_
                rotate_left
                · intro w'
                  go_simp
                  with_reducible rfl
                rotate_left
                · simp only [Act.put, List.setIfInBounds_toArray, List.set_cons_zero, List.set_cons_succ, i64_w, i32_w]
                  rfl
                refine take_ (i := 3) (N := some 20) (v := ?_) (a' := ?_) #[true, true, true, true, true, true, true, false, false, false] rfl rfl (take_ofW HT_.out HW_.out (by kernel_rfl)) (fun _ _ _ h => h) (Or.inl ⟨by rfl, ?_⟩) hHeld ?_ ?_
                rotate_left
                · rintro w' ⟨s0, s1, s2, s3, s4, s5, s6, s7⟩
                  go_simp
                  with_reducible rfl
                rotate_left
                · simp only [Act.put, List.setIfInBounds_toArray, List.set_cons_zero, List.set_cons_succ, i64_w, i32_w]
                  rfl
                refine take_ (i := 7) (N := some 24) (v := ?_) (a' := ?_) #[true, true, true, true, true, true, true, true, false, false] rfl rfl (take_ofW HT_.out HW_.out (by kernel_rfl)) (fun _ _ _ h => h) (Or.inl ⟨by rfl, ?_⟩) hHeld ?_ ?_
                rotate_left
                · rintro w' ⟨s0, s1, s2, s3, s4, s5, s6, s7⟩
                  go_simp
                  with_reducible rfl
                rotate_left
                · simp only [Act.put, List.setIfInBounds_toArray, List.set_cons_zero, List.set_cons_succ, i64_w, i32_w]
                  rfl
                refine one_ (i := 8) (N := some 25) #[true, true, true, true, true, true, true, true, true, false] rfl rfl (one_of HT_.out (by kernel_rfl)) (by decide) (fun K hK => ?_)
                refine goes_ Tryd.func18 (by kernel_rfl) rfl #[.agg #[.int .i64 ((rd_T27 l0 x5_1).f0), .string ((rd_T27 l0 x5_1).f1), .int .i64 ((rd_T27 l0 x5_1).f2), .int .i64 ((rd_T27 l0 x5_1).f3)], .agg #[.int .i64 ((rd_T27 l1 x5_1).f0), .string ((rd_T27 l1 x5_1).f1), .int .i64 ((rd_T27 l1 x5_1).f2), .int .i64 ((rd_T27 l1 x5_1).f3)]] (by rfl) rfl rfl (by (try simp only [List.map_toArray, List.map_cons, List.map_nil]); first | done | rfl | (simp only [List.length_drop, List.length_take]; rfl)) ?_
                with_reducible refine (laws_eqNote.calls ((rd_T27 l0 x5_1).f0) ((rd_T27 l0 x5_1).f1) ((rd_T27 l0 x5_1).f2) ((rd_T27 l0 x5_1).f3) ((rd_T27 l1 x5_1).f0) ((rd_T27 l1 x5_1).f1) ((rd_T27 l1 x5_1).f2) ((rd_T27 l1 x5_1).f3) false _ A7.out).mono ?_
                rintro e w12 ⟨rfl, hb⟩
                refine ⟨_, rfl, ?_⟩
                have n0_ := Aside0.mk (below_step (by repeat (first | (with_reducible first | exact HB.out | apply below_alloc | apply pw_below_drewN | apply below_drew1) | exact HB.out)) hb)
                clear HB
                have HB := n0_
                clear n0_
                (try clear hb)
                (try clear hb2)
                (try clear hk)
                (try clear hi)
                refine hK.out _ _ ⟨((HB.out.cell (World.block_lt_of_cell? w _ hw235_0)).trans hw235_0), ((HB.out.cell (World.block_lt_of_cell? w _ hw235_1)).trans hw235_1), ((HB.out.cell (World.block_lt_of_cell? w _ hw235_2)).trans hw235_2), ((HB.out.cell (World.block_lt_of_cell? w _ hw235_3)).trans hw235_3), ((HB.out.cell (World.block_lt_of_cell? w _ hw236_0)).trans hw236_0), ((HB.out.cell (World.block_lt_of_cell? w _ hw236_1)).trans hw236_1), ((HB.out.cell (World.block_lt_of_cell? w _ hw236_2)).trans hw236_2), ((HB.out.cell (World.block_lt_of_cell? w _ hw236_3)).trans hw236_3)⟩ (fun hHeld => ?_)
                clear hK K
                refine norm_ (a' := ?_) ?_ ?_
                rotate_left
                · show Act.put _ (some 25) _ = _
                  simp only [Act.put, List.setIfInBounds_toArray, List.set_cons_zero, List.set_cons_succ, i64_w, i32_w]
                  rfl
                refine pure_ (i := 9) (N := some 26) (v := ?_) (a' := ?_) #[true, true, true, true, true, true, true, true, true, true] rfl rfl (any_of HT_.out (by kernel_rfl)) (fun _ _ _ h => h) (Or.inl ⟨by rfl, ?_⟩) ?_ ?_
                rotate_left
                · intro w'
                  go_simp
                  with_reducible rfl
                rotate_left
                · simp only [Act.put, List.setIfInBounds_toArray, List.set_cons_zero, List.set_cons_succ, i64_w, i32_w]
                  rfl
                refine done_ (done_of HT_.out (by kernel_rfl)) ?_
                try go_wp2
                go_ret
                exact ⟨by first | rfl | (simp [errW_none, errW_some] <;> rfl) | (simp [*, errW_none, errW_some] <;> rfl), by repeat (first | (with_reducible first | exact HB.out | apply below_alloc | apply pw_below_drewN | apply below_drew1) | exact HB.out)⟩
            · rw [if_neg c6] at H
              exact absurd H (by simp)
          · rw [if_neg c5] at H
            exact absurd H (by simp)
        · rw [if_neg c4] at H
          have c4b0 : decide (x5_1 < (l0.length : Int)) = false := decide_eq_false c4
          clear c4
          obtain rfl := Option.some.inj H
          go_wp2
          go_ret
          exact ⟨by first | rfl | (simp [errW_none, errW_some] <;> rfl) | (simp [*, errW_none, errW_some] <;> rfl), by repeat (first | (with_reducible first | exact HB.out | apply below_alloc | apply pw_below_drewN | apply below_drew1) | exact HB.out)⟩
  · rw [if_neg c3] at H
    have c3b0 : ((l0.length : Int) == (l1.length : Int)) = false := beq_eq_false_iff_ne.mpr c3
    have c3b1 : ((l0.length : Int) != (l1.length : Int)) = true := bne_iff_ne.mpr c3
    have c3b2 : (l0.length == l1.length) = false := by first | simpa using c3 | (simp at c3 ⊢; omega)
    obtain rfl := Option.some.inj H
    go_enter Tryd.func15, Tryd.ntmps15
    go_wp2
    go_ret
    exact ⟨by first | rfl | (simp [errW_none, errW_some] <;> rfl) | (simp [*, errW_none, errW_some] <;> rfl), by repeat (first | (with_reducible first | exact HB.out | apply below_alloc | apply pw_below_drewN | apply below_drew1) | exact HB.out)⟩

end Go.Proofs.YtghnljoaklmakaaDoor.X


-- written by a program of this session (wip/ext.py) out of the translation. Not trusted: Lean checks it.
namespace Go.Proofs.YtghnljoaklmakaaDoor.X
open Go.RowKit Go.Proofs.YtghnljoaklmakaaDoorW.PrintWords Go.Proofs.YtghnljoaklmakaaDoorW.PrintLast Go.Proofs.YtghnljoaklmakaaDoorW.PrintMore
attribute [local go_sem] max2_int min2_int max_two min_two max_three min_three max_four min_four   -- for this text's walks alone
open Go.Proofs.YtghnljoaklmakaaDoorG
set_option linter.unusedVariables false
set_option linter.unusedSimpArgs false

def spec_l26Report.l0 : Nat → List (S27) → Int → Option (Bool)
  | 0, _, _ => none
  | k + 1, x0, x3 => if x3 < (x0.length : Int) then (if 0 ≤ x3 then ((spec_l26Good.f k ((rd_T27 x0 x3).f0) ((rd_T27 x0 x3).f1) ((rd_T27 x0 x3).f2) ((rd_T27 x0 x3).f3)).bind fun t205 => (if t205 = true then (spec_l26Report.l0 k x0 (wrap64 (x3 + 1))) else (some false))) else (none)) else (some (decide ((x0.length : Int) ≤ 10)))
def spec_l26Report.f (k : Nat) (l0 : List (S27)) : Option (Bool) := spec_l26Report.l0 k l0 0
theorem spec_l26Report.mono_l : ∀ k, (∀ y0 y1, LeO (spec_l26Report.l0 k y0 y1) (spec_l26Report.l0 (k + 1) y0 y1))
  | 0 => fun _ _ r h => by simp [spec_l26Report.l0] at h
  | k + 1 => by
    have ih0 := spec_l26Report.mono_l k
    · intro y0 y1
      unfold spec_l26Report.l0
      repeat' first
      | (with_reducible exact ih0 _ _)
      | (with_reducible exact spec_l26Good.mono _ _ _ _ _)
      | (with_reducible exact LeO.refl _)
      | (with_reducible exact LeO.none _)
      | (with_reducible refine LeO.ite ?_ ?_)
      | (with_reducible refine LeO.bind ?_ (fun _ => ?_))
      | exact ih0 _ _
      | exact spec_l26Good.mono _ _ _ _ _
      | exact LeO.none _
      | refine LeO.ite ?_ ?_
      | refine LeO.bind ?_ (fun _ => ?_)
theorem spec_l26Report.mono : ∀ a0 k, LeO (spec_l26Report.f k a0) (spec_l26Report.f (k + 1) a0) := by
  intro a0 k
  have ih0 := spec_l26Report.mono_l k
  unfold spec_l26Report.f
  repeat' first
      | (with_reducible exact ih0 _ _)
      | (with_reducible exact spec_l26Good.mono _ _ _ _ _)
      | (with_reducible exact LeO.refl _)
      | (with_reducible exact LeO.none _)
      | (with_reducible refine LeO.ite ?_ ?_)
      | (with_reducible refine LeO.bind ?_ (fun _ => ?_))
      | exact ih0 _ _
      | exact spec_l26Good.mono _ _ _ _ _
      | exact LeO.none _
      | refine LeO.ite ?_ ?_
      | refine LeO.bind ?_ (fun _ => ?_)
set_option maxHeartbeats 8000000 in
set_option maxRecDepth 100000 in
theorem spec_l26Report.calls (k : Nat) (A0 : Option Addr) (c0 : Nat) (l0 : List (S27)) (r : Bool) (w : World) (hr0 : Kd.C k27 w A0 l0.length l0) (hc0 : l0.length ≤ c0) (h : spec_l26Report.f k l0 = some r) :
    Calls Tryd.prog 27 #[.slice A0 l0.length c0] w fun e w' => e = .returned (.bool r) ∧ Below w.heap.size w w' := by
  have hu27 := Tryd.underlying27
  have HR0 := Aside0.mk hr0
  have HC0 := Aside0.mk hc0
  clear hr0 hc0
  have HB := Aside0.mk (Below.refl w.heap.size w)
  have H : (spec_l26Report.l0 k l0 0) = some r := h
  clear h
  have H' := Aside0.mk H
  clear H
  go_enter Tryd.func27, Tryd.ntmps27
  go_wp2
  go_loopg [3] k (fun kq v3 w' => ∃ (x3_1 : Int), v3 = .int .i64 x3_1 ∧ Aside0 (spec_l26Report.l0 kq l0 x3_1 = some r) ∧ Aside0 (kq ≤ k) ∧ Aside0 (Below w.heap.size w w'))
  case atStart => exact ⟨(0), (by first | rfl | (simp; done) | (simp [*]; done)), H', ⟨Nat.le_refl _⟩, ⟨by repeat (first | (with_reducible first | exact HB.out | apply below_alloc | apply pw_below_drewN | apply below_drew1) | exact HB.out)⟩⟩
  case round =>
    clear H'
    obtain ⟨x3_1, rfl, HA, HK1, HB⟩ := hrel
    cases gk with
    | zero => exact absurd HA.out (by simp [spec_l26Report.l0])
    | succ k1 =>
      have H := HA.out
      clear HA
      simp only [spec_l26Report.l0] at H
      by_cases c2 : x3_1 < (l0.length : Int)
      · rw [if_pos c2] at H
        have c2b0 : decide (x3_1 < (l0.length : Int)) = true := decide_eq_true c2
        clear c2
        by_cases c3 : 0 ≤ x3_1
        · rw [if_pos c3] at H
          have c3b0 : decide (0 ≤ x3_1) = true := decide_eq_true c3
          clear c3
          replace H := Option.bind_eq_some_iff.mp H
          obtain ⟨t205, A40, H⟩ := H
          replace H : (if t205 = true then (spec_l26Report.l0 k1 l0 (wrap64 (x3_1 + 1))) else (some false)) = some r := H
          have A4 := Aside0.mk A40
          clear A40
          by_cases c5 : t205 = true
          · subst c5
            have H1 : (spec_l26Report.l0 k1 l0 (wrap64 (x3_1 + 1))) = some r := by rw [if_pos rfl] at H; exact H
            clear H
            have H := H1
            clear H1
            have H' := Aside0.mk H
            clear H
            have p204 : 0 ≤ (x3_1 : Int) := of_decide_eq_true (by first | (with_reducible assumption) | assumption)
            have q204 : x3_1 < (l0.length : Int) := of_decide_eq_true (by first | (with_reducible assumption) | assumption)
            obtain ⟨ad204, e204, hx204_0, hx204_1, hx204_2, hx204_3⟩ := at_T27 HR0.out x3_1 p204 q204
            cases e204
            replace hx204_0 := (HB.out.cell (World.block_lt_of_cell? w _ hx204_0)).trans hx204_0
            replace hx204_1 := (HB.out.cell (World.block_lt_of_cell? w _ hx204_1)).trans hx204_1
            replace hx204_2 := (HB.out.cell (World.block_lt_of_cell? w _ hx204_2)).trans hx204_2
            replace hx204_3 := (HB.out.cell (World.block_lt_of_cell? w _ hx204_3)).trans hx204_3
            replace p204 := eq_true p204
            replace q204 := eq_true q204
            go_wp2_with (first | ((with_reducible refine gate_callee (f := 23) rfl ?_); refine goesL_ (some 14) rfl rfl Tryd.func23 (by kernel_rfl) rfl #[.agg #[.int .i64 ((rd_T27 l0 x3_1).f0), .string ((rd_T27 l0 x3_1).f1), .int .i64 ((rd_T27 l0 x3_1).f2), .int .i64 ((rd_T27 l0 x3_1).f3)]] rfl (by (try simp only [List.map_toArray, List.map_cons, List.map_nil]); first | done | rfl | (simp only [List.length_drop, List.length_take]; rfl)) ?_; (with_reducible refine (spec_l26Good.calls k1 ((rd_T27 l0 x3_1).f0) ((rd_T27 l0 x3_1).f1) ((rd_T27 l0 x3_1).f2) ((rd_T27 l0 x3_1).f3) true _ A4.out).mono ?_); rintro e w6 ⟨rfl, hb⟩; refine ⟨_, rfl, ?_⟩; have n0_ := Aside0.mk (below_step (by repeat (first | (with_reducible first | exact HB.out | apply below_alloc | apply pw_below_drewN | apply below_drew1) | exact HB.out)) hb); clear HB; have HB := n0_; clear n0_; (try clear hb); (try clear hb2); (try clear hk); (try clear hi)))
            go_roundg k1
            case measure => have := HK1.out; omega
            case rel => exact ⟨(wrap64 (x3_1 + 1)), (by first | rfl | (simp; done) | (simp [*]; done)), H', ⟨by have := HK1.out; omega⟩, ⟨by repeat (first | (with_reducible first | exact HB.out | apply below_alloc | apply pw_below_drewN | apply below_drew1) | exact HB.out)⟩⟩
          · replace c5 := Bool.eq_false_iff.mpr c5
            subst c5
            have H1 : (some false) = some r := by rw [if_neg (show ¬ (false = true) by decide)] at H; exact H
            clear H
            have H := H1
            clear H1
            obtain rfl := Option.some.inj H
            have p204 : 0 ≤ (x3_1 : Int) := of_decide_eq_true (by first | (with_reducible assumption) | assumption)
            have q204 : x3_1 < (l0.length : Int) := of_decide_eq_true (by first | (with_reducible assumption) | assumption)
            obtain ⟨ad204, e204, hx204_0, hx204_1, hx204_2, hx204_3⟩ := at_T27 HR0.out x3_1 p204 q204
            cases e204
            replace hx204_0 := (HB.out.cell (World.block_lt_of_cell? w _ hx204_0)).trans hx204_0
            replace hx204_1 := (HB.out.cell (World.block_lt_of_cell? w _ hx204_1)).trans hx204_1
            replace hx204_2 := (HB.out.cell (World.block_lt_of_cell? w _ hx204_2)).trans hx204_2
            replace hx204_3 := (HB.out.cell (World.block_lt_of_cell? w _ hx204_3)).trans hx204_3
            replace p204 := eq_true p204
            replace q204 := eq_true q204
            go_wp2_with (first | ((with_reducible refine gate_callee (f := 23) rfl ?_); refine goesL_ (some 14) rfl rfl Tryd.func23 (by kernel_rfl) rfl #[.agg #[.int .i64 ((rd_T27 l0 x3_1).f0), .string ((rd_T27 l0 x3_1).f1), .int .i64 ((rd_T27 l0 x3_1).f2), .int .i64 ((rd_T27 l0 x3_1).f3)]] rfl (by (try simp only [List.map_toArray, List.map_cons, List.map_nil]); first | done | rfl | (simp only [List.length_drop, List.length_take]; rfl)) ?_; (with_reducible refine (spec_l26Good.calls k1 ((rd_T27 l0 x3_1).f0) ((rd_T27 l0 x3_1).f1) ((rd_T27 l0 x3_1).f2) ((rd_T27 l0 x3_1).f3) false _ A4.out).mono ?_); rintro e w7 ⟨rfl, hb⟩; refine ⟨_, rfl, ?_⟩; have n0_ := Aside0.mk (below_step (by repeat (first | (with_reducible first | exact HB.out | apply below_alloc | apply pw_below_drewN | apply below_drew1) | exact HB.out)) hb); clear HB; have HB := n0_; clear n0_; (try clear hb); (try clear hb2); (try clear hk); (try clear hi)))
            go_ret
            exact ⟨by first | rfl | (simp [errW_none, errW_some] <;> rfl) | (simp [*, errW_none, errW_some] <;> rfl), by repeat (first | (with_reducible first | exact HB.out | apply below_alloc | apply pw_below_drewN | apply below_drew1) | exact HB.out)⟩
        · rw [if_neg c3] at H
          exact absurd H (by simp)
      · rw [if_neg c2] at H
        have c2b0 : decide (x3_1 < (l0.length : Int)) = false := decide_eq_false c2
        clear c2
        obtain rfl := Option.some.inj H
        go_wp2
        go_ret
        exact ⟨by first | rfl | (simp [errW_none, errW_some] <;> rfl) | (simp [*, errW_none, errW_some] <;> rfl), by repeat (first | (with_reducible first | exact HB.out | apply below_alloc | apply pw_below_drewN | apply below_drew1) | exact HB.out)⟩

end Go.Proofs.YtghnljoaklmakaaDoor.X


