/- The law FnExactNextKinds answers true for every input that the row lets in, and leaves its arguments as they were. Conditions: none beyond the row's own. -/
import Derived.Deep.Slices
import Derived.ChangeSame
import Derived.ChangeArms
import Derived.DataReads
import Derived.SizedLaws
import Derived.ProofKit
import Derived.Lib.SmallJoins
import Derived.ChangeOld
import Derived.Below
import Derived.Test.YtpalafegcndccaaRows
import Derived.WalkKit
import Derived.OpenShut
import Derived.ShutString
import Derived.Test.YtpalafegcndccaaKFnExactNextKinds0
import Derived.Test.YtpalafegcndccaaKFnExactNextKinds2
-- written by a program of this session (wip/ext.py) out of the translation. Not trusted: Lean checks it.
namespace Go.Proofs.Ytpalafegcndccaa.X
open Go.RowKit Go.Proofs.YtpalafegcndccaaW.PrintWords Go.Proofs.YtpalafegcndccaaW.PrintLast Go.Proofs.YtpalafegcndccaaW.PrintMore
attribute [local go_sem] max2_int min2_int max_two min_two max_three min_three max_four min_four   -- for this text's walks alone
set_option linter.unusedVariables false
set_option linter.unusedSimpArgs false

/-! ### spec_NextKinds: function 9 -/
mutual
def spec_NextKinds.l0 : Nat → List (S61) → List Int → Int → Int → Option (List Int × Bool)
  | 0, _, _, _, _ => none
  | k + 1, x0, x4, x5, x6 => if x6 ≤ 6 then (spec_NextKinds.j1 k x0 x4 x5 x6 (decide ((x0.length : Int) < 20))) else (spec_NextKinds.j1 k x0 x4 x5 x6 false)
def spec_NextKinds.j1 : Nat → List (S61) → List Int → Int → Int → Bool → Option (List Int × Bool)
  | 0, _, _, _, _, _ => none
  | k + 1, x0, x4, x5, x6, x19 => if x19 = true then ((spec_l23Next.f k x5 x6).bind fun t111 => (if t111 ≥ 0 then (if x4.length < 17592186044416 then (spec_NextKinds.l0 k x0 (x4 ++ [x6]) x5 (wrap64 (x6 + 1))) else (none)) else (spec_NextKinds.l0 k x0 x4 x5 (wrap64 (x6 + 1))))) else (some (x4, true))
end
def spec_NextKinds.f (k : Nat) (l0 : List (S61)) : Option (List Int × Bool) := (some (([] : List Int) : List Int)).bind fun y107 => ((spec_l23State.f k l0).bind fun t110 => (if t110 < 0 then (some (y107, false)) else (spec_NextKinds.l0 k l0 y107 t110 1)))
theorem spec_NextKinds.mono_l : ∀ k, (∀ y0 y1 y2 y3, LeO (spec_NextKinds.l0 k y0 y1 y2 y3) (spec_NextKinds.l0 (k + 1) y0 y1 y2 y3)) ∧ (∀ y0 y1 y2 y3 y4, LeO (spec_NextKinds.j1 k y0 y1 y2 y3 y4) (spec_NextKinds.j1 (k + 1) y0 y1 y2 y3 y4))
  | 0 => ⟨fun _ _ _ _ r h => by simp [spec_NextKinds.l0] at h, fun _ _ _ _ _ r h => by simp [spec_NextKinds.j1] at h⟩
  | k + 1 => by
    obtain ⟨ih0, ih1⟩ := spec_NextKinds.mono_l k
    refine ⟨?_, ?_⟩
    · intro y0 y1 y2 y3
      unfold spec_NextKinds.l0
      repeat' first
      | (with_reducible exact ih0 _ _ _ _)
      | (with_reducible exact ih1 _ _ _ _ _)
      | (with_reducible exact spec_l23Next.mono _ _ _)
      | (with_reducible exact spec_l23State.mono _ _)
      | (with_reducible exact LeO.refl _)
      | (with_reducible exact LeO.none _)
      | (with_reducible refine LeO.ite ?_ ?_)
      | (with_reducible refine LeO.bind ?_ (fun _ => ?_))
      | exact ih0 _ _ _ _
      | exact ih1 _ _ _ _ _
      | exact spec_l23Next.mono _ _ _
      | exact spec_l23State.mono _ _
      | exact LeO.none _
      | refine LeO.ite ?_ ?_
      | refine LeO.bind ?_ (fun _ => ?_)
    · intro y0 y1 y2 y3 y4
      unfold spec_NextKinds.j1
      repeat' first
      | (with_reducible exact ih0 _ _ _ _)
      | (with_reducible exact ih1 _ _ _ _ _)
      | (with_reducible exact spec_l23Next.mono _ _ _)
      | (with_reducible exact spec_l23State.mono _ _)
      | (with_reducible exact LeO.refl _)
      | (with_reducible exact LeO.none _)
      | (with_reducible refine LeO.ite ?_ ?_)
      | (with_reducible refine LeO.bind ?_ (fun _ => ?_))
      | exact ih0 _ _ _ _
      | exact ih1 _ _ _ _ _
      | exact spec_l23Next.mono _ _ _
      | exact spec_l23State.mono _ _
      | exact LeO.none _
      | refine LeO.ite ?_ ?_
      | refine LeO.bind ?_ (fun _ => ?_)
theorem spec_NextKinds.mono : ∀ a0 k, LeO (spec_NextKinds.f k a0) (spec_NextKinds.f (k + 1) a0) := by
  intro a0 k
  obtain ⟨ih0, ih1⟩ := spec_NextKinds.mono_l k
  unfold spec_NextKinds.f
  repeat' first
      | (with_reducible exact ih0 _ _ _ _)
      | (with_reducible exact ih1 _ _ _ _ _)
      | (with_reducible exact spec_l23Next.mono _ _ _)
      | (with_reducible exact spec_l23State.mono _ _)
      | (with_reducible exact LeO.refl _)
      | (with_reducible exact LeO.none _)
      | (with_reducible refine LeO.ite ?_ ?_)
      | (with_reducible refine LeO.bind ?_ (fun _ => ?_))
      | exact ih0 _ _ _ _
      | exact ih1 _ _ _ _ _
      | exact spec_l23Next.mono _ _ _
      | exact spec_l23State.mono _ _
      | exact LeO.none _
      | refine LeO.ite ?_ ?_
      | refine LeO.bind ?_ (fun _ => ?_)
set_option maxHeartbeats 8000000 in
set_option maxRecDepth 100000 in
theorem spec_NextKinds.calls (k : Nat) (A0 : Option Addr) (c0 : Nat) (l0 : List (S61)) (r1 : List Int) (r2 : Bool) (w : World) (hr0 : Kd.C k61 w A0 l0.length l0) (hc0 : l0.length ≤ c0) (h : spec_NextKinds.f k l0 = some (r1, r2)) :
    Calls Try.prog 9 #[.slice A0 l0.length c0] w fun e w' => ∃ v0_ : Value, e = .returned (.tuple #[v0_, .bool r2]) ∧ Kd.R (Kd.int .i64) 3 w' w.heap.size (fun _ => True) v0_ r1 ∧ Below w.heap.size w w' := by
  have HR0 := Aside0.mk hr0
  have HC0 := Aside0.mk hc0
  clear hr0 hc0
  have HB := Aside0.mk (Below.refl w.heap.size w)
  have H : ((some (([] : List Int) : List Int)).bind fun y107 => ((spec_l23State.f k l0).bind fun t110 => (if t110 < 0 then (some (y107, false)) else (spec_NextKinds.l0 k l0 y107 t110 1)))) = some (r1, r2) := h
  clear h
  obtain ⟨y107, hy107⟩ : ∃ y_ : List Int, y_ = (([] : List Int)) := ⟨_, rfl⟩
  replace H : ((spec_l23State.f k l0).bind fun t110 => (if t110 < 0 then (some (y107, false)) else (spec_NextKinds.l0 k l0 y107 t110 1))) = some (r1, r2) := by first | (rw [hy107]; with_reducible exact H) | (have H2_ := (Option.bind_some _ _).symm.trans H; rw [hy107]; with_reducible exact H2_) | (have H2_ := (Option.bind_some _ _).symm.trans H; with_reducible exact H2_) | with_reducible exact H | (rw [hy107]; exact H) | exact H
  have Ny107 := Aside0.mk hy107
  clear hy107
  replace H := Option.bind_eq_some_iff.mp H
  obtain ⟨t110, A20, H⟩ := H
  replace H : (if t110 < 0 then (some (y107, false)) else (spec_NextKinds.l0 k l0 y107 t110 1)) = some (r1, r2) := H
  have A2 := Aside0.mk A20
  clear A20
  by_cases c3 : t110 < 0
  · rw [if_pos c3] at H
    have c3b0 : decide (t110 < 0) = true := decide_eq_true c3
    clear c3
    simp only [Option.some.injEq, Prod.mk.injEq] at H
    obtain ⟨rfl, rfl⟩ := H
    go_enter Try.func9, Try.ntmps9
    go_wp2_with (first | ((with_reducible refine gate_dst (N := 7) rfl ?_); (try (refine gate_guard (by rfl) ?_; dsimp only)); refine Kd.R_lit (Kd.int .i64) _ 3 ?hg (N := 7) ?hd (xs := ([] : List Int)) (inner := []) (ok := fun _ => True) (okp := fun _ => True) ?hr ?hp (fun _ hk => hk) trivial (Below.refl _ _) (Nat.le_refl _) (by simp) ?_; (case hd => rfl); (case hg => rfl); (case hr => first | (go_simp; done) | (go_simp; rfl)); (case hp => exact (Reps.none _ _)); intro v108 w4 ho5 hb hg_ hnew_; clear hg_ hnew_; (first | rw [← Ny107.out] at ho5 | (simp only [Int.reduceToNat] at ho5; rw [← Ny107.out] at ho5)); have n0_ := Aside0.mk (Kd.R_lower ho5 (below_size (by repeat (first | (with_reducible first | exact HB.out | apply below_alloc | apply pw_below_drewN | apply below_drew1) | exact HB.out)))); have n1_ := Aside0.mk (below_step (by repeat (first | (with_reducible first | exact HB.out | apply below_alloc | apply pw_below_drewN | apply below_drew1) | exact HB.out)) hb); clear HB; have HO109 := n0_; have HB := n1_; clear n0_ n1_; clear hb ho5) | ((with_reducible refine gate_callee (f := 34) rfl ?_); refine goesL_ (some 9) rfl rfl Try.func34 (by kernel_rfl) rfl #[.slice A0 l0.length c0] rfl (by (try simp only [List.map_toArray, List.map_cons, List.map_nil]); first | done | rfl | (simp only [List.length_drop, List.length_take]; rfl)) ?_; (with_reducible refine (spec_l23State.calls k _ _ l0 t110 _ ?side1 ?side2 A2.out).mono ?_); (case side1 => repeat (first | exact (Kd.C_below HR0.out HB.out) | (with_reducible refine Kd.C_alloc ?_ _) | (with_reducible refine Kd.C_drewN ?_ _) | (with_reducible refine Kd.C_drew ?_))); (case side2 => exact HC0.out); rintro e w' ⟨rfl, ⟨nd, rfl⟩⟩; refine ⟨_, rfl, ?_⟩))
    go_ret2
    exact ⟨_, by first | rfl | (simp [errW_none, errW_some] <;> rfl) | (simp [*, errW_none, errW_some] <;> rfl), by (with_reducible repeat (first | apply Kd.R_alloc | apply Kd.R_drewN | apply Kd.R_drew)); exact HO109.out, by repeat (first | (with_reducible first | exact HB.out | apply below_alloc | apply pw_below_drewN | apply below_drew1) | exact HB.out)⟩
  · rw [if_neg c3] at H
    have c3b0 : decide (t110 < 0) = false := decide_eq_false c3
    clear c3
    have H' := Aside0.mk H
    clear H
    go_enter Try.func9, Try.ntmps9
    go_wp2_with (first | ((with_reducible refine gate_dst (N := 7) rfl ?_); (try (refine gate_guard (by rfl) ?_; dsimp only)); refine Kd.R_lit (Kd.int .i64) _ 3 ?hg (N := 7) ?hd (xs := ([] : List Int)) (inner := []) (ok := fun _ => True) (okp := fun _ => True) ?hr ?hp (fun _ hk => hk) trivial (Below.refl _ _) (Nat.le_refl _) (by simp) ?_; (case hd => rfl); (case hg => rfl); (case hr => first | (go_simp; done) | (go_simp; rfl)); (case hp => exact (Reps.none _ _)); intro v108 w6 ho7 hb hg_ hnew_; clear hg_ hnew_; (first | rw [← Ny107.out] at ho7 | (simp only [Int.reduceToNat] at ho7; rw [← Ny107.out] at ho7)); have n0_ := Aside0.mk (Kd.R_lower ho7 (below_size (by repeat (first | (with_reducible first | exact HB.out | apply below_alloc | apply pw_below_drewN | apply below_drew1) | exact HB.out)))); have n1_ := Aside0.mk (below_step (by repeat (first | (with_reducible first | exact HB.out | apply below_alloc | apply pw_below_drewN | apply below_drew1) | exact HB.out)) hb); clear HB; have HO109 := n0_; have HB := n1_; clear n0_ n1_; clear hb ho7) | ((with_reducible refine gate_callee (f := 34) rfl ?_); refine goesL_ (some 9) rfl rfl Try.func34 (by kernel_rfl) rfl #[.slice A0 l0.length c0] rfl (by (try simp only [List.map_toArray, List.map_cons, List.map_nil]); first | done | rfl | (simp only [List.length_drop, List.length_take]; rfl)) ?_; (with_reducible refine (spec_l23State.calls k _ _ l0 t110 _ ?side1 ?side2 A2.out).mono ?_); (case side1 => repeat (first | exact (Kd.C_below HR0.out HB.out) | (with_reducible refine Kd.C_alloc ?_ _) | (with_reducible refine Kd.C_drewN ?_ _) | (with_reducible refine Kd.C_drew ?_))); (case side2 => exact HC0.out); rintro e w' ⟨rfl, ⟨nd, rfl⟩⟩; refine ⟨_, rfl, ?_⟩))
    go_loopg [4, 6] k (fun kq v4 v6 w' => ∃ (x4_1 : List Int) (x6_1 : Int), v6 = .int .i64 x6_1 ∧ Aside0 (spec_NextKinds.l0 kq l0 x4_1 t110 x6_1 = some (r1, r2)) ∧ Aside0 (kq ≤ k) ∧ Aside0 (Kd.R (Kd.int .i64) 3 w' w.heap.size (fun _ => True) v4 x4_1) ∧ Aside0 (Below w.heap.size w w'))
    case atStart => exact ⟨(y107), (1), (by first | rfl | (simp; done) | (simp [*]; done)), H', ⟨Nat.le_refl _⟩, ⟨by (with_reducible repeat (first | apply Kd.R_alloc | apply Kd.R_drewN | apply Kd.R_drew)); exact HO109.out⟩, ⟨by repeat (first | (with_reducible first | exact HB.out | apply below_alloc | apply pw_below_drewN | apply below_drew1) | exact HB.out)⟩⟩
    case round =>
      clear H'
      try clear p2
      try clear c3
      try clear c3b0
      obtain ⟨x4_1, x6_1, rfl, HA, HK1, HO_4, HB⟩ := hrel
      cases gk with
      | zero => exact absurd HA.out (by simp [spec_NextKinds.l0])
      | succ k1 =>
        have H := HA.out
        clear HA
        simp only [spec_NextKinds.l0] at H
        have HC8 := Aside0.mk H
        clear H
        go_upto_region 6 with (fail)
        go_cut [19] (fun v19 wc => ∃ (kq : Nat) (x19_7 : Bool), v19 = .bool x19_7 ∧ Aside0 (spec_NextKinds.j1 kq l0 x4_1 t110 x6_1 x19_7 = some (r1, r2)) ∧ Aside0 (kq ≤ k1) ∧ Aside0 (Kd.R (Kd.int .i64) 3 wc w.heap.size (fun _ => True) u4 x4_1) ∧ Aside0 (Below w.heap.size w wc))
        case first =>
          have H := HC8.out
          clear HC8
          by_cases c9 : x6_1 ≤ 6
          · rw [if_pos c9] at H
            have c9b0 : decide (x6_1 ≤ 6) = true := decide_eq_true c9
            clear c9
            (first | rw [c9b0] | (simp only [i64_w, i32_w]; rw [c9b0]) | skip)
            have H' := Aside0.mk H
            clear H
            go_wp2
            go_meet
            case rel => exact ⟨_, (decide ((l0.length : Int) < 20)), (by first | rfl | (simp; done) | (simp [*]; done)), H', ⟨by have := HK1.out; first | omega | exact Nat.le_refl _⟩, ⟨by (with_reducible repeat (first | apply Kd.R_alloc | apply Kd.R_drewN | apply Kd.R_drew)); exact HO_4.out⟩, ⟨by repeat (first | (with_reducible first | exact HB.out | apply below_alloc | apply pw_below_drewN | apply below_drew1) | exact HB.out)⟩⟩
          · rw [if_neg c9] at H
            have c9b0 : decide (x6_1 ≤ 6) = false := decide_eq_false c9
            clear c9
            (first | rw [c9b0] | (simp only [i64_w, i32_w]; rw [c9b0]) | skip)
            have H' := Aside0.mk H
            clear H
            go_wp2
            go_meet
            case rel => exact ⟨_, (false), (by first | rfl | (simp; done) | (simp [*]; done)), H', ⟨by have := HK1.out; first | omega | exact Nat.le_refl _⟩, ⟨by (with_reducible repeat (first | apply Kd.R_alloc | apply Kd.R_drewN | apply Kd.R_drew)); exact HO_4.out⟩, ⟨by repeat (first | (with_reducible first | exact HB.out | apply below_alloc | apply pw_below_drewN | apply below_drew1) | exact HB.out)⟩⟩
        case rest =>
          clear HC8
          try clear p2
          try clear c3
          try clear c3b0
          try clear c9
          try clear c9b0
          try clear p2
          obtain ⟨kq, x19_7, rfl, HA, HJ7, HO_4, HB⟩ := hcut
          cases kq with
          | zero => exact absurd HA.out (by simp [spec_NextKinds.j1])
          | succ kj7 =>
            have H := HA.out
            clear HA
            simp only [spec_NextKinds.j1] at H
            by_cases c10 : x19_7 = true
            · subst c10
              have H1 : ((spec_l23Next.f kj7 t110 x6_1).bind fun t111 => (if t111 ≥ 0 then (if x4_1.length < 17592186044416 then (spec_NextKinds.l0 kj7 l0 (x4_1 ++ [x6_1]) t110 (wrap64 (x6_1 + 1))) else (none)) else (spec_NextKinds.l0 kj7 l0 x4_1 t110 (wrap64 (x6_1 + 1))))) = some (r1, r2) := by rw [if_pos rfl] at H; exact H
              clear H
              have H := H1
              clear H1
              replace H := Option.bind_eq_some_iff.mp H
              obtain ⟨t111, A110, H⟩ := H
              replace H : (if t111 ≥ 0 then (if x4_1.length < 17592186044416 then (spec_NextKinds.l0 kj7 l0 (x4_1 ++ [x6_1]) t110 (wrap64 (x6_1 + 1))) else (none)) else (spec_NextKinds.l0 kj7 l0 x4_1 t110 (wrap64 (x6_1 + 1)))) = some (r1, r2) := H
              have A11 := Aside0.mk A110
              clear A110
              by_cases c12 : t111 ≥ 0
              · rw [if_pos c12] at H
                have c12b0 : decide (0 ≤ t111) = true := decide_eq_true c12
                clear c12
                by_cases c13 : x4_1.length < 17592186044416
                · rw [if_pos c13] at H
                  have LMc13 := Aside0.mk c13
                  clear c13
                  obtain ⟨y112, hy112⟩ : ∃ y_ : List Int, y_ = (x4_1 ++ [x6_1]) := ⟨_, rfl⟩
                  replace H : (spec_NextKinds.l0 kj7 l0 y112 t110 (wrap64 (x6_1 + 1))) = some (r1, r2) := by first | (rw [hy112]; with_reducible exact H) | (have H2_ := (Option.bind_some _ _).symm.trans H; rw [hy112]; with_reducible exact H2_) | (have H2_ := (Option.bind_some _ _).symm.trans H; with_reducible exact H2_) | with_reducible exact H | (rw [hy112]; exact H) | exact H
                  have Ny112 := Aside0.mk hy112
                  clear hy112
                  have H' := Aside0.mk H
                  clear H
                  go_wp2_with (first | ((with_reducible refine gate_callee (f := 35) rfl ?_); refine goesL_ (some 24) rfl rfl Try.func35 (by kernel_rfl) rfl #[.int .i64 t110, .int .i64 x6_1] rfl (by (try simp only [List.map_toArray, List.map_cons, List.map_nil]); first | done | rfl | (simp only [List.length_drop, List.length_take]; rfl)) ?_; (with_reducible refine (spec_l23Next.calls kj7 t110 x6_1 t111 _ A11.out).mono ?_); rintro e w' ⟨rfl, ⟨nd, rfl⟩⟩; refine ⟨_, rfl, ?_⟩) | ((with_reducible refine gate_builtin (b := .append) (xs := #[.tmp 26, .tmp 28]) rfl ?_); (try (refine gate_guard (by rfl) ?_; dsimp only)); at_builtin; refine Kd.R_append (Kd.int .i64) (w0 := w) w.heap.size rfl (.tmp 26) (.tmp 28) 24 3 (.int .i64 0) 8 rfl Try.underlying24 info3 rfl (by decide) (by omega) u4 x4_1 x6_1 [.int .i64 x6_1] (fun _ => True) (fun _ => False) rfl rfl ?aP (fun _ hk => hk.elim) ?aF ?aO ?aB ?aS ?aL ?_; (case aP => exact rfl); (case aB => exact (by repeat (first | (with_reducible first | exact HB.out | apply below_alloc | apply pw_below_drewN | apply below_drew1) | exact HB.out))); (case aF => exact (fun _ _ => trivial)); (case aO => exact (by (with_reducible repeat (first | apply Kd.R_alloc | apply Kd.R_drewN | apply Kd.R_drew)); exact HO_4.out)); (case aS => exact (below_size (by repeat (first | (with_reducible first | exact HB.out | apply below_alloc | apply pw_below_drewN | apply below_drew1) | exact HB.out)))); (case aL => have := LMc13.out; omega); intro v113 w14 ho hb hg hat; rw [← Ny112.out] at ho; have n0_ := Aside0.mk (hb); have n1_ := Aside0.mk (ho); clear HB; clear HO_4; have HB := n0_; have HO114 := n1_; clear n0_ n1_; clear ho hb hg hat))
                  go_roundg kj7
                  case measure => have := HK1.out; have := HJ7.out; omega
                  case rel => exact ⟨(y112), (wrap64 (x6_1 + 1)), (by first | rfl | (simp; done) | (simp [*]; done)), H', ⟨by have := HK1.out; have := HJ7.out; omega⟩, ⟨by (with_reducible repeat (first | apply Kd.R_alloc | apply Kd.R_drewN | apply Kd.R_drew)); exact HO114.out⟩, ⟨by repeat (first | (with_reducible first | exact HB.out | apply below_alloc | apply pw_below_drewN | apply below_drew1) | exact HB.out)⟩⟩
                · rw [if_neg c13] at H
                  exact absurd H (by simp)
              · rw [if_neg c12] at H
                have c12b0 : decide (0 ≤ t111) = false := decide_eq_false c12
                clear c12
                have H' := Aside0.mk H
                clear H
                go_wp2_with (first | ((with_reducible refine gate_callee (f := 35) rfl ?_); refine goesL_ (some 24) rfl rfl Try.func35 (by kernel_rfl) rfl #[.int .i64 t110, .int .i64 x6_1] rfl (by (try simp only [List.map_toArray, List.map_cons, List.map_nil]); first | done | rfl | (simp only [List.length_drop, List.length_take]; rfl)) ?_; (with_reducible refine (spec_l23Next.calls kj7 t110 x6_1 t111 _ A11.out).mono ?_); rintro e w' ⟨rfl, ⟨nd, rfl⟩⟩; refine ⟨_, rfl, ?_⟩))
                go_roundg kj7
                case measure => have := HK1.out; have := HJ7.out; omega
                case rel => exact ⟨(x4_1), (wrap64 (x6_1 + 1)), (by first | rfl | (simp; done) | (simp [*]; done)), H', ⟨by have := HK1.out; have := HJ7.out; omega⟩, ⟨by (with_reducible repeat (first | apply Kd.R_alloc | apply Kd.R_drewN | apply Kd.R_drew)); exact HO_4.out⟩, ⟨by repeat (first | (with_reducible first | exact HB.out | apply below_alloc | apply pw_below_drewN | apply below_drew1) | exact HB.out)⟩⟩
            · replace c10 := Bool.eq_false_iff.mpr c10
              subst c10
              have H1 : (some (x4_1, true)) = some (r1, r2) := by rw [if_neg (show ¬ (false = true) by decide)] at H; exact H
              clear H
              have H := H1
              clear H1
              simp only [Option.some.injEq, Prod.mk.injEq] at H
              obtain ⟨rfl, rfl⟩ := H
              go_wp2
              go_ret2
              exact ⟨_, by first | rfl | (simp [errW_none, errW_some] <;> rfl) | (simp [*, errW_none, errW_some] <;> rfl), by (with_reducible repeat (first | apply Kd.R_alloc | apply Kd.R_drewN | apply Kd.R_drew)); exact HO_4.out, by repeat (first | (with_reducible first | exact HB.out | apply below_alloc | apply pw_below_drewN | apply below_drew1) | exact HB.out)⟩

end Go.Proofs.Ytpalafegcndccaa.X

-- written by a program of this session (wip/ext.py) out of the translation. Not trusted: Lean checks it.
namespace Go.Proofs.Ytpalafegcndccaa.X
open Go.RowKit Go.Proofs.YtpalafegcndccaaW.PrintWords Go.Proofs.YtpalafegcndccaaW.PrintLast Go.Proofs.YtpalafegcndccaaW.PrintMore
attribute [local go_sem] max2_int min2_int max_two min_two max_three min_three max_four min_four   -- for this text's walks alone
set_option linter.unusedVariables false
set_option linter.unusedSimpArgs false

/-! ### laws_FnExactNextKinds: function 3 -/
mutual
def laws_FnExactNextKinds.j0 : Nat → List (S63) → List Int → Bool → List (S61) → List Int → Bool → Bool → Option (Bool)
  | 0, _, _, _, _, _, _, _ => none
  | k + 1, x0, x4, x5, x6, x7, x8, x40 => if x40 = true then (some false) else ((laws_toEventS.f k x0).bind fun t168 => ((laws_eqEventS.f k x6 t168).bind fun t171 => (if t171 = true then ((laws_markEventS.f k x6 1).bind fun bt172 => (if bt172.1 < 0 then (laws_FnExactNextKinds.j1 k x0 x4 x5 x7 true) else ((laws_eqIntS.f k x7 x4).bind fun t174 => (if t174 = true then (laws_FnExactNextKinds.j1 k x0 x4 x5 x7 (x8 != x5)) else (laws_FnExactNextKinds.j1 k x0 x4 x5 x7 true))))) else (some false))))
def laws_FnExactNextKinds.j1 : Nat → List (S63) → List Int → Bool → List Int → Bool → Option (Bool)
  | 0, _, _, _, _, _ => none
  | k + 1, x0, x4, x5, x7, x61 => if x61 = true then (some false) else ((laws_markIntS.f k x7 1).bind fun bt175 => ((laws_heldIntS.f k bt175.2 1).bind fun t177 => (if t177 < 0 then (some false) else (if t177 = bt175.1 then ((laws_toEventS.f k x0).bind fun t178 => ((impl_NextKinds.f k t178).bind fun bt181 => ((laws_eqIntS.f k bt181.1 x4).bind fun t185 => (if t185 = true then (laws_FnExactNextKinds.j2 k bt175.2 bt175.1 (bt181.2 != x5)) else (laws_FnExactNextKinds.j2 k bt175.2 bt175.1 true))))) else (some false)))))
def laws_FnExactNextKinds.j2 : Nat → List Int → Int → Bool → Option (Bool)
  | 0, _, _, _ => none
  | k + 1, x7, x10, x87 => if x87 = true then (some false) else ((laws_heldIntS.f k x7 1).bind fun t186 => (if t186 < 0 then (some false) else (if t186 = x10 then (some true) else (some false))))
end
def laws_FnExactNextKinds.f (k : Nat) (l0 : List (S63)) : Option (Bool) := (laws_szEventS.f l0 1048576).bind fun t152 => (if t152 < 0 then (some true) else ((laws_toEventS.f k l0).bind fun t153 => ((spec_NextKinds.f k t153).bind fun bt156 => ((laws_toEventS.f k l0).bind fun t160 => ((impl_NextKinds.f k t160).bind fun bt163 => ((laws_eqIntS.f k bt163.1 bt156.1).bind fun t167 => (if t167 = true then (laws_FnExactNextKinds.j0 k l0 bt156.1 bt156.2 t160 bt163.1 bt163.2 (bt163.2 != bt156.2)) else (laws_FnExactNextKinds.j0 k l0 bt156.1 bt156.2 t160 bt163.1 bt163.2 true))))))))
theorem laws_FnExactNextKinds.mono_l : ∀ k, (∀ y0 y1 y2 y3 y4 y5 y6, LeO (laws_FnExactNextKinds.j0 k y0 y1 y2 y3 y4 y5 y6) (laws_FnExactNextKinds.j0 (k + 1) y0 y1 y2 y3 y4 y5 y6)) ∧ (∀ y0 y1 y2 y3 y4, LeO (laws_FnExactNextKinds.j1 k y0 y1 y2 y3 y4) (laws_FnExactNextKinds.j1 (k + 1) y0 y1 y2 y3 y4)) ∧ (∀ y0 y1 y2, LeO (laws_FnExactNextKinds.j2 k y0 y1 y2) (laws_FnExactNextKinds.j2 (k + 1) y0 y1 y2))
  | 0 => ⟨fun _ _ _ _ _ _ _ r h => by simp [laws_FnExactNextKinds.j0] at h, fun _ _ _ _ _ r h => by simp [laws_FnExactNextKinds.j1] at h, fun _ _ _ r h => by simp [laws_FnExactNextKinds.j2] at h⟩
  | k + 1 => by
    obtain ⟨ih0, ih1, ih2⟩ := laws_FnExactNextKinds.mono_l k
    refine ⟨?_, ?_, ?_⟩
    · intro y0 y1 y2 y3 y4 y5 y6
      unfold laws_FnExactNextKinds.j0
      repeat' first
      | (with_reducible exact ih0 _ _ _ _ _ _ _)
      | (with_reducible exact ih1 _ _ _ _ _)
      | (with_reducible exact ih2 _ _ _)
      | (with_reducible exact impl_NextKinds.mono _ _)
      | (with_reducible exact laws_eqEventS.mono _ _ _)
      | (with_reducible exact laws_eqIntS.mono _ _ _)
      | (with_reducible exact laws_heldIntS.mono _ _ _)
      | (with_reducible exact laws_markEventS.mono _ _ _)
      | (with_reducible exact laws_markIntS.mono _ _ _)
      | (with_reducible exact laws_toEventS.mono _ _)
      | (with_reducible exact spec_NextKinds.mono _ _)
      | (with_reducible exact LeO.refl _)
      | (with_reducible exact LeO.none _)
      | (with_reducible refine LeO.ite ?_ ?_)
      | (with_reducible refine LeO.bind ?_ (fun _ => ?_))
      | exact ih0 _ _ _ _ _ _ _
      | exact ih1 _ _ _ _ _
      | exact ih2 _ _ _
      | exact impl_NextKinds.mono _ _
      | exact laws_eqEventS.mono _ _ _
      | exact laws_eqIntS.mono _ _ _
      | exact laws_heldIntS.mono _ _ _
      | exact laws_markEventS.mono _ _ _
      | exact laws_markIntS.mono _ _ _
      | exact laws_toEventS.mono _ _
      | exact spec_NextKinds.mono _ _
      | exact LeO.none _
      | refine LeO.ite ?_ ?_
      | refine LeO.bind ?_ (fun _ => ?_)
    · intro y0 y1 y2 y3 y4
      unfold laws_FnExactNextKinds.j1
      repeat' first
      | (with_reducible exact ih0 _ _ _ _ _ _ _)
      | (with_reducible exact ih1 _ _ _ _ _)
      | (with_reducible exact ih2 _ _ _)
      | (with_reducible exact impl_NextKinds.mono _ _)
      | (with_reducible exact laws_eqEventS.mono _ _ _)
      | (with_reducible exact laws_eqIntS.mono _ _ _)
      | (with_reducible exact laws_heldIntS.mono _ _ _)
      | (with_reducible exact laws_markEventS.mono _ _ _)
      | (with_reducible exact laws_markIntS.mono _ _ _)
      | (with_reducible exact laws_toEventS.mono _ _)
      | (with_reducible exact spec_NextKinds.mono _ _)
      | (with_reducible exact LeO.refl _)
      | (with_reducible exact LeO.none _)
      | (with_reducible refine LeO.ite ?_ ?_)
      | (with_reducible refine LeO.bind ?_ (fun _ => ?_))
      | exact ih0 _ _ _ _ _ _ _
      | exact ih1 _ _ _ _ _
      | exact ih2 _ _ _
      | exact impl_NextKinds.mono _ _
      | exact laws_eqEventS.mono _ _ _
      | exact laws_eqIntS.mono _ _ _
      | exact laws_heldIntS.mono _ _ _
      | exact laws_markEventS.mono _ _ _
      | exact laws_markIntS.mono _ _ _
      | exact laws_toEventS.mono _ _
      | exact spec_NextKinds.mono _ _
      | exact LeO.none _
      | refine LeO.ite ?_ ?_
      | refine LeO.bind ?_ (fun _ => ?_)
    · intro y0 y1 y2
      unfold laws_FnExactNextKinds.j2
      repeat' first
      | (with_reducible exact ih0 _ _ _ _ _ _ _)
      | (with_reducible exact ih1 _ _ _ _ _)
      | (with_reducible exact ih2 _ _ _)
      | (with_reducible exact impl_NextKinds.mono _ _)
      | (with_reducible exact laws_eqEventS.mono _ _ _)
      | (with_reducible exact laws_eqIntS.mono _ _ _)
      | (with_reducible exact laws_heldIntS.mono _ _ _)
      | (with_reducible exact laws_markEventS.mono _ _ _)
      | (with_reducible exact laws_markIntS.mono _ _ _)
      | (with_reducible exact laws_toEventS.mono _ _)
      | (with_reducible exact spec_NextKinds.mono _ _)
      | (with_reducible exact LeO.refl _)
      | (with_reducible exact LeO.none _)
      | (with_reducible refine LeO.ite ?_ ?_)
      | (with_reducible refine LeO.bind ?_ (fun _ => ?_))
      | exact ih0 _ _ _ _ _ _ _
      | exact ih1 _ _ _ _ _
      | exact ih2 _ _ _
      | exact impl_NextKinds.mono _ _
      | exact laws_eqEventS.mono _ _ _
      | exact laws_eqIntS.mono _ _ _
      | exact laws_heldIntS.mono _ _ _
      | exact laws_markEventS.mono _ _ _
      | exact laws_markIntS.mono _ _ _
      | exact laws_toEventS.mono _ _
      | exact spec_NextKinds.mono _ _
      | exact LeO.none _
      | refine LeO.ite ?_ ?_
      | refine LeO.bind ?_ (fun _ => ?_)
theorem laws_FnExactNextKinds.mono : ∀ a0 k, LeO (laws_FnExactNextKinds.f k a0) (laws_FnExactNextKinds.f (k + 1) a0) := by
  intro a0 k
  obtain ⟨ih0, ih1, ih2⟩ := laws_FnExactNextKinds.mono_l k
  unfold laws_FnExactNextKinds.f
  repeat' first
      | (with_reducible exact ih0 _ _ _ _ _ _ _)
      | (with_reducible exact ih1 _ _ _ _ _)
      | (with_reducible exact ih2 _ _ _)
      | (with_reducible exact impl_NextKinds.mono _ _)
      | (with_reducible exact laws_eqEventS.mono _ _ _)
      | (with_reducible exact laws_eqIntS.mono _ _ _)
      | (with_reducible exact laws_heldIntS.mono _ _ _)
      | (with_reducible exact laws_markEventS.mono _ _ _)
      | (with_reducible exact laws_markIntS.mono _ _ _)
      | (with_reducible exact laws_toEventS.mono _ _)
      | (with_reducible exact spec_NextKinds.mono _ _)
      | (with_reducible exact LeO.refl _)
      | (with_reducible exact LeO.none _)
      | (with_reducible refine LeO.ite ?_ ?_)
      | (with_reducible refine LeO.bind ?_ (fun _ => ?_))
      | exact ih0 _ _ _ _ _ _ _
      | exact ih1 _ _ _ _ _
      | exact ih2 _ _ _
      | exact impl_NextKinds.mono _ _
      | exact laws_eqEventS.mono _ _ _
      | exact laws_eqIntS.mono _ _ _
      | exact laws_heldIntS.mono _ _ _
      | exact laws_markEventS.mono _ _ _
      | exact laws_markIntS.mono _ _ _
      | exact laws_toEventS.mono _ _
      | exact spec_NextKinds.mono _ _
      | exact LeO.none _
      | refine LeO.ite ?_ ?_
      | refine LeO.bind ?_ (fun _ => ?_)
set_option maxHeartbeats 8000000 in
set_option maxRecDepth 100000 in
theorem laws_FnExactNextKinds.calls (k : Nat) (A0 : Option Addr) (c0 : Nat) (l0 : List (S63)) (r : Bool) (w : World) (hr0 : Kd.C k63 w A0 l0.length l0) (hc0 : l0.length ≤ c0) (h : laws_FnExactNextKinds.f k l0 = some r) :
    Calls Try.prog 3 #[.slice A0 l0.length c0] w fun e w' => e = .returned (.bool r) ∧ Below w.heap.size w w' := by
  have HR0 := Aside0.mk hr0
  have HC0 := Aside0.mk hc0
  clear hr0 hc0
  have HB := Aside0.mk (Below.refl w.heap.size w)
  have H : ((laws_szEventS.f l0 1048576).bind fun t152 => (if t152 < 0 then (some true) else ((laws_toEventS.f k l0).bind fun t153 => ((spec_NextKinds.f k t153).bind fun bt156 => ((laws_toEventS.f k l0).bind fun t160 => ((impl_NextKinds.f k t160).bind fun bt163 => ((laws_eqIntS.f k bt163.1 bt156.1).bind fun t167 => (if t167 = true then (laws_FnExactNextKinds.j0 k l0 bt156.1 bt156.2 t160 bt163.1 bt163.2 (bt163.2 != bt156.2)) else (laws_FnExactNextKinds.j0 k l0 bt156.1 bt156.2 t160 bt163.1 bt163.2 true))))))))) = some r := h
  clear h
  replace H := Option.bind_eq_some_iff.mp H
  obtain ⟨t152, A20, H⟩ := H
  replace H : (if t152 < 0 then (some true) else ((laws_toEventS.f k l0).bind fun t153 => ((spec_NextKinds.f k t153).bind fun bt156 => ((laws_toEventS.f k l0).bind fun t160 => ((impl_NextKinds.f k t160).bind fun bt163 => ((laws_eqIntS.f k bt163.1 bt156.1).bind fun t167 => (if t167 = true then (laws_FnExactNextKinds.j0 k l0 bt156.1 bt156.2 t160 bt163.1 bt163.2 (bt163.2 != bt156.2)) else (laws_FnExactNextKinds.j0 k l0 bt156.1 bt156.2 t160 bt163.1 bt163.2 true)))))))) = some r := H
  have A2 := Aside0.mk A20
  clear A20
  by_cases c3 : t152 < 0
  · rw [if_pos c3] at H
    have c3b0 : decide (t152 < 0) = true := decide_eq_true c3
    clear c3
    obtain rfl := Option.some.inj H
    go_enter Try.func3, Try.ntmps3
    go_wp2_with (first | ((with_reducible refine gate_callee (f := 8) rfl ?_); refine goesL_ (some 16) rfl rfl Try.func8 (by kernel_rfl) rfl #[.slice A0 l0.length c0, .int .i64 1048576] rfl (by (try simp only [List.map_toArray, List.map_cons, List.map_nil]); first | done | rfl | (simp only [List.length_drop, List.length_take]; rfl)) ?_; (with_reducible refine (laws_szEventS.calls _ _ l0 1048576 t152 _ ?side1 ?side2 A2.out).mono ?_); (case side1 => repeat (first | exact HR0.out | (with_reducible refine Kd.C_alloc ?_ _) | (with_reducible refine Kd.C_drewN ?_ _) | (with_reducible refine Kd.C_drew ?_))); (case side2 => exact HC0.out); rintro e w' ⟨rfl, ⟨nd, rfl⟩⟩; refine ⟨_, rfl, ?_⟩))
    go_ret
    exact ⟨by first | rfl | (simp [errW_none, errW_some] <;> rfl) | (simp [*, errW_none, errW_some] <;> rfl), by repeat (first | (with_reducible first | exact HB.out | apply below_alloc | apply pw_below_drewN | apply below_drew1) | exact HB.out)⟩
  · rw [if_neg c3] at H
    have c3b0 : decide (t152 < 0) = false := decide_eq_false c3
    clear c3
    replace H := Option.bind_eq_some_iff.mp H
    obtain ⟨t153, A40, H⟩ := H
    replace H : ((spec_NextKinds.f k t153).bind fun bt156 => ((laws_toEventS.f k l0).bind fun t160 => ((impl_NextKinds.f k t160).bind fun bt163 => ((laws_eqIntS.f k bt163.1 bt156.1).bind fun t167 => (if t167 = true then (laws_FnExactNextKinds.j0 k l0 bt156.1 bt156.2 t160 bt163.1 bt163.2 (bt163.2 != bt156.2)) else (laws_FnExactNextKinds.j0 k l0 bt156.1 bt156.2 t160 bt163.1 bt163.2 true)))))) = some r := H
    have A4 := Aside0.mk A40
    clear A40
    replace H := Option.bind_eq_some_iff.mp H
    obtain ⟨⟨t156, t157⟩, A50, H⟩ := H
    replace H : ((laws_toEventS.f k l0).bind fun t160 => ((impl_NextKinds.f k t160).bind fun bt163 => ((laws_eqIntS.f k bt163.1 t156).bind fun t167 => (if t167 = true then (laws_FnExactNextKinds.j0 k l0 t156 t157 t160 bt163.1 bt163.2 (bt163.2 != t157)) else (laws_FnExactNextKinds.j0 k l0 t156 t157 t160 bt163.1 bt163.2 true))))) = some r := H
    have A5 := Aside0.mk A50
    clear A50
    replace H := Option.bind_eq_some_iff.mp H
    obtain ⟨t160, A60, H⟩ := H
    replace H : ((impl_NextKinds.f k t160).bind fun bt163 => ((laws_eqIntS.f k bt163.1 t156).bind fun t167 => (if t167 = true then (laws_FnExactNextKinds.j0 k l0 t156 t157 t160 bt163.1 bt163.2 (bt163.2 != t157)) else (laws_FnExactNextKinds.j0 k l0 t156 t157 t160 bt163.1 bt163.2 true)))) = some r := H
    have A6 := Aside0.mk A60
    clear A60
    replace H := Option.bind_eq_some_iff.mp H
    obtain ⟨⟨t163, t164⟩, A70, H⟩ := H
    replace H : ((laws_eqIntS.f k t163 t156).bind fun t167 => (if t167 = true then (laws_FnExactNextKinds.j0 k l0 t156 t157 t160 t163 t164 (t164 != t157)) else (laws_FnExactNextKinds.j0 k l0 t156 t157 t160 t163 t164 true))) = some r := H
    have A7 := Aside0.mk A70
    clear A70
    have HC8 := Aside0.mk H
    clear H
    go_enter Try.func3, Try.ntmps3
    go_upto_region 8 with (first | ((with_reducible refine gate_callee (f := 8) rfl ?_); refine goesL_ (some 16) rfl rfl Try.func8 (by kernel_rfl) rfl #[.slice A0 l0.length c0, .int .i64 1048576] rfl (by (try simp only [List.map_toArray, List.map_cons, List.map_nil]); first | done | rfl | (simp only [List.length_drop, List.length_take]; rfl)) ?_; (with_reducible refine (laws_szEventS.calls _ _ l0 1048576 t152 _ ?side1 ?side2 A2.out).mono ?_); (case side1 => repeat (first | exact HR0.out | (with_reducible refine Kd.C_alloc ?_ _) | (with_reducible refine Kd.C_drewN ?_ _) | (with_reducible refine Kd.C_drew ?_))); (case side2 => exact HC0.out); rintro e w' ⟨rfl, ⟨nd, rfl⟩⟩; refine ⟨_, rfl, ?_⟩) | ((with_reducible refine gate_callee (f := 10) rfl ?_); refine goesL_ (some 21) rfl rfl Try.func10 (by kernel_rfl) rfl #[.slice A0 l0.length c0] rfl (by (try simp only [List.map_toArray, List.map_cons, List.map_nil]); first | done | rfl | (simp only [List.length_drop, List.length_take]; rfl)) ?_; (with_reducible refine (laws_toEventS.calls k _ _ l0 t153 _ ?side1 ?side2 A4.out).mono ?_); (case side1 => repeat (first | exact HR0.out | (with_reducible refine Kd.C_alloc ?_ _) | (with_reducible refine Kd.C_drewN ?_ _) | (with_reducible refine Kd.C_drew ?_))); (case side2 => exact HC0.out); rintro e w9 ⟨v154, rfl, ho0, hb⟩; refine ⟨_, rfl, ?_⟩; have n0_ := Aside0.mk (Kd.R_lower ho0 (below_size (by repeat (first | (with_reducible first | exact HB.out | apply below_alloc | apply pw_below_drewN | apply below_drew1) | exact HB.out)))); have n1_ := Aside0.mk (below_step (by repeat (first | (with_reducible first | exact HB.out | apply below_alloc | apply pw_below_drewN | apply below_drew1) | exact HB.out)) hb); clear HB; have HO155 := n0_; have HB := n1_; clear n0_ n1_; (try clear hb); (try clear hb2); (try clear hk); (try clear hi); (try clear ho0); obtain ⟨Ao10, co10, eo10⟩ := Kd.R_slice HO155.out; subst eo10) | ((with_reducible refine gate_callee (f := 9) rfl ?_); refine goesL_ (some 22) rfl rfl Try.func9 (by kernel_rfl) rfl #[.slice Ao10 t153.length co10] rfl (by (try simp only [List.map_toArray, List.map_cons, List.map_nil]); first | done | rfl | (simp only [List.length_drop, List.length_take]; rfl)) ?_; (with_reducible refine (spec_NextKinds.calls k _ _ t153 t156 t157 _ ?side1 ?side2 A5.out).mono ?_); (case side1 => repeat (first | exact (Kd.R_reads' HO155.out).2.2 | (with_reducible refine Kd.C_alloc ?_ _) | (with_reducible refine Kd.C_drewN ?_ _) | (with_reducible refine Kd.C_drew ?_))); (case side2 => exact (Kd.R_reads' HO155.out).2.1); rintro e w11 ⟨v158, rfl, ho0, hb⟩; refine ⟨_, rfl, ?_⟩; have n0_ := Aside0.mk (Kd.R_below (by (with_reducible repeat (first | apply Kd.R_alloc | apply Kd.R_drewN | apply Kd.R_drew)); exact HO155.out) hb); have n1_ := Aside0.mk (Kd.R_lower ho0 (below_size (by repeat (first | (with_reducible first | exact HB.out | apply below_alloc | apply pw_below_drewN | apply below_drew1) | exact HB.out)))); have n2_ := Aside0.mk (below_step (by repeat (first | (with_reducible first | exact HB.out | apply below_alloc | apply pw_below_drewN | apply below_drew1) | exact HB.out)) hb); clear HO155; clear HB; have HO155 := n0_; have HO159 := n1_; have HB := n2_; clear n0_ n1_ n2_; (try clear hb); (try clear hb2); (try clear hk); (try clear hi); (try clear ho0)) | ((with_reducible refine gate_callee (f := 10) rfl ?_); refine goesL_ (some 26) rfl rfl Try.func10 (by kernel_rfl) rfl #[.slice A0 l0.length c0] rfl (by (try simp only [List.map_toArray, List.map_cons, List.map_nil]); first | done | rfl | (simp only [List.length_drop, List.length_take]; rfl)) ?_; (with_reducible refine (laws_toEventS.calls k _ _ l0 t160 _ ?side1 ?side2 A6.out).mono ?_); (case side1 => repeat (first | exact (Kd.C_below HR0.out HB.out) | (with_reducible refine Kd.C_alloc ?_ _) | (with_reducible refine Kd.C_drewN ?_ _) | (with_reducible refine Kd.C_drew ?_))); (case side2 => exact HC0.out); rintro e w12 ⟨v161, rfl, ho0, hb⟩; refine ⟨_, rfl, ?_⟩; have n0_ := Aside0.mk (Kd.R_elder' (by (with_reducible repeat (first | apply Kd.R_alloc | apply Kd.R_drewN | apply Kd.R_drew)); exact HO155.out) (Kd.R_base ho0) hb); have n1_ := Aside0.mk (Kd.R_below (by (with_reducible repeat (first | apply Kd.R_alloc | apply Kd.R_drewN | apply Kd.R_drew)); exact HO159.out) hb); have n2_ := Aside0.mk (Kd.R_lower (Kd.R_new' ho0 (Kd.R_lt (by (with_reducible repeat (first | apply Kd.R_alloc | apply Kd.R_drewN | apply Kd.R_drew)); exact HO155.out))) (below_size (by repeat (first | (with_reducible first | exact HB.out | apply below_alloc | apply pw_below_drewN | apply below_drew1) | exact HB.out)))); have n3_ := Aside0.mk (below_step (by repeat (first | (with_reducible first | exact HB.out | apply below_alloc | apply pw_below_drewN | apply below_drew1) | exact HB.out)) hb); clear HO155; clear HO159; clear HB; have HO155 := n0_; have HO159 := n1_; have HO162 := n2_; have HB := n3_; clear n0_ n1_ n2_ n3_; (try clear hb); (try clear hb2); (try clear hk); (try clear hi); (try clear ho0); obtain ⟨Ao13, co13, eo13⟩ := Kd.R_slice HO162.out; subst eo13) | ((with_reducible refine gate_callee (f := 11) rfl ?_); refine goesL_ (some 29) rfl rfl Try.func11 (by kernel_rfl) rfl #[.slice Ao13 t160.length co13] rfl (by (try simp only [List.map_toArray, List.map_cons, List.map_nil]); first | done | rfl | (simp only [List.length_drop, List.length_take]; rfl)) ?_; (with_reducible refine (impl_NextKinds.calls k _ _ t160 t163 t164 _ ?side1 ?side2 A7.out).mono ?_); (case side1 => repeat (first | exact (Kd.R_reads' HO162.out).2.2 | (with_reducible refine Kd.C_alloc ?_ _) | (with_reducible refine Kd.C_drewN ?_ _) | (with_reducible refine Kd.C_drew ?_))); (case side2 => exact (Kd.R_reads' HO162.out).2.1); rintro e w14 ⟨v165, rfl, ho0, hb⟩; refine ⟨_, rfl, ?_⟩; have n0_ := Aside0.mk (Kd.R_below (by (with_reducible repeat (first | apply Kd.R_alloc | apply Kd.R_drewN | apply Kd.R_drew)); exact HO155.out) hb); have n1_ := Aside0.mk (Kd.R_elder' (by (with_reducible repeat (first | apply Kd.R_alloc | apply Kd.R_drewN | apply Kd.R_drew)); exact HO159.out) (Kd.R_base ho0) hb); have n2_ := Aside0.mk (Kd.R_below (by (with_reducible repeat (first | apply Kd.R_alloc | apply Kd.R_drewN | apply Kd.R_drew)); exact HO162.out) hb); have n3_ := Aside0.mk (Kd.R_lower (Kd.R_new' ho0 (Kd.R_lt (by (with_reducible repeat (first | apply Kd.R_alloc | apply Kd.R_drewN | apply Kd.R_drew)); exact HO159.out))) (below_size (by repeat (first | (with_reducible first | exact HB.out | apply below_alloc | apply pw_below_drewN | apply below_drew1) | exact HB.out)))); have n4_ := Aside0.mk (below_step (by repeat (first | (with_reducible first | exact HB.out | apply below_alloc | apply pw_below_drewN | apply below_drew1) | exact HB.out)) hb); clear HO155; clear HO159; clear HO162; clear HB; have HO155 := n0_; have HO159 := n1_; have HO162 := n2_; have HO166 := n3_; have HB := n4_; clear n0_ n1_ n2_ n3_ n4_; (try clear hb); (try clear hb2); (try clear hk); (try clear hi); (try clear ho0)))
    (try simp only [Act.put, List.setIfInBounds_toArray, List.set_cons_zero, List.set_cons_succ])
    go_cut [40] (fun v40 wc => ∃ (kq : Nat) (x40_7 : Bool), v40 = .bool x40_7 ∧ Aside0 (laws_FnExactNextKinds.j0 kq l0 t156 t157 t160 t163 t164 x40_7 = some r) ∧ Aside0 (kq ≤ k) ∧ Aside0 (Kd.R (Kd.int .i64) 3 wc w.heap.size (fun k_ => some k_ ≠ (v165 : Value).ownBlock) v158 t156) ∧ Aside0 (Kd.R k61 61 wc w.heap.size (fun _ => True) (.slice Ao13 t160.length co13) t160) ∧ Aside0 (Kd.R (Kd.int .i64) 3 wc w.heap.size (fun k_ => some k_ ≠ (v158 : Value).ownBlock) v165 t163) ∧ Aside0 (Below w.heap.size w wc))
    case first =>
      have H := HC8.out
      clear HC8
      replace H := Option.bind_eq_some_iff.mp H
      obtain ⟨t167, A150, H⟩ := H
      replace H : (if t167 = true then (laws_FnExactNextKinds.j0 k l0 t156 t157 t160 t163 t164 (t164 != t157)) else (laws_FnExactNextKinds.j0 k l0 t156 t157 t160 t163 t164 true)) = some r := H
      have A15 := Aside0.mk A150
      clear A150
      by_cases c16 : t167 = true
      · subst c16
        have H1 : (laws_FnExactNextKinds.j0 k l0 t156 t157 t160 t163 t164 (t164 != t157)) = some r := by rw [if_pos rfl] at H; exact H
        clear H
        have H := H1
        clear H1
        have H' := Aside0.mk H
        clear H
        obtain ⟨Ao17, co17, eo17⟩ := Kd.R_slice HO166.out
        subst eo17
        obtain ⟨Ao18, co18, eo18⟩ := Kd.R_slice HO159.out
        subst eo18
        go_wp2_with (first | ((with_reducible refine gate_callee (f := 12) rfl ?_); refine goesL_ (some 34) rfl rfl Try.func12 (by kernel_rfl) rfl #[.slice Ao17 t163.length co17, .slice Ao18 t156.length co18] rfl (by (try simp only [List.map_toArray, List.map_cons, List.map_nil]); first | done | rfl | (simp only [List.length_drop, List.length_take]; rfl)) ?_; (with_reducible refine (laws_eqIntS.calls k _ _ t163 _ _ t156 true _ ?side1 ?side2 ?side3 ?side4 A15.out).mono ?_); (case side1 => repeat (first | exact (Kd.R_reads' HO166.out).2.2 | (with_reducible refine Kd.C_alloc ?_ _) | (with_reducible refine Kd.C_drewN ?_ _) | (with_reducible refine Kd.C_drew ?_))); (case side2 => exact (Kd.R_reads' HO166.out).2.1); (case side3 => repeat (first | exact (Kd.R_reads' HO159.out).2.2 | (with_reducible refine Kd.C_alloc ?_ _) | (with_reducible refine Kd.C_drewN ?_ _) | (with_reducible refine Kd.C_drew ?_))); (case side4 => exact (Kd.R_reads' HO159.out).2.1); rintro e w' ⟨rfl, ⟨nd, rfl⟩⟩; refine ⟨_, rfl, ?_⟩))
        go_meet
        case rel => exact ⟨_, ((t164 != t157)), (by first | rfl | (simp; done) | (simp [*]; done)), H', ⟨by first | omega | exact Nat.le_refl _⟩, ⟨by (with_reducible repeat (first | apply Kd.R_alloc | apply Kd.R_drewN | apply Kd.R_drew)); exact Kd.R_mono HO159.out (fun _ hk => hk.2)⟩, ⟨by (with_reducible repeat (first | apply Kd.R_alloc | apply Kd.R_drewN | apply Kd.R_drew)); exact Kd.R_mono HO162.out (fun _ hk => trivial)⟩, ⟨by (with_reducible repeat (first | apply Kd.R_alloc | apply Kd.R_drewN | apply Kd.R_drew)); exact Kd.R_mono HO166.out (fun _ hk => hk.2)⟩, ⟨by repeat (first | (with_reducible first | exact HB.out | apply below_alloc | apply pw_below_drewN | apply below_drew1) | exact HB.out)⟩⟩
      · replace c16 := Bool.eq_false_iff.mpr c16
        subst c16
        have H1 : (laws_FnExactNextKinds.j0 k l0 t156 t157 t160 t163 t164 true) = some r := by rw [if_neg (show ¬ (false = true) by decide)] at H; exact H
        clear H
        have H := H1
        clear H1
        have H' := Aside0.mk H
        clear H
        obtain ⟨Ao19, co19, eo19⟩ := Kd.R_slice HO166.out
        subst eo19
        obtain ⟨Ao20, co20, eo20⟩ := Kd.R_slice HO159.out
        subst eo20
        go_wp2_with (first | ((with_reducible refine gate_callee (f := 12) rfl ?_); refine goesL_ (some 34) rfl rfl Try.func12 (by kernel_rfl) rfl #[.slice Ao19 t163.length co19, .slice Ao20 t156.length co20] rfl (by (try simp only [List.map_toArray, List.map_cons, List.map_nil]); first | done | rfl | (simp only [List.length_drop, List.length_take]; rfl)) ?_; (with_reducible refine (laws_eqIntS.calls k _ _ t163 _ _ t156 false _ ?side1 ?side2 ?side3 ?side4 A15.out).mono ?_); (case side1 => repeat (first | exact (Kd.R_reads' HO166.out).2.2 | (with_reducible refine Kd.C_alloc ?_ _) | (with_reducible refine Kd.C_drewN ?_ _) | (with_reducible refine Kd.C_drew ?_))); (case side2 => exact (Kd.R_reads' HO166.out).2.1); (case side3 => repeat (first | exact (Kd.R_reads' HO159.out).2.2 | (with_reducible refine Kd.C_alloc ?_ _) | (with_reducible refine Kd.C_drewN ?_ _) | (with_reducible refine Kd.C_drew ?_))); (case side4 => exact (Kd.R_reads' HO159.out).2.1); rintro e w' ⟨rfl, ⟨nd, rfl⟩⟩; refine ⟨_, rfl, ?_⟩))
        go_meet
        case rel => exact ⟨_, (true), (by first | rfl | (simp; done) | (simp [*]; done)), H', ⟨by first | omega | exact Nat.le_refl _⟩, ⟨by (with_reducible repeat (first | apply Kd.R_alloc | apply Kd.R_drewN | apply Kd.R_drew)); exact Kd.R_mono HO159.out (fun _ hk => hk.2)⟩, ⟨by (with_reducible repeat (first | apply Kd.R_alloc | apply Kd.R_drewN | apply Kd.R_drew)); exact Kd.R_mono HO162.out (fun _ hk => trivial)⟩, ⟨by (with_reducible repeat (first | apply Kd.R_alloc | apply Kd.R_drewN | apply Kd.R_drew)); exact Kd.R_mono HO166.out (fun _ hk => hk.2)⟩, ⟨by repeat (first | (with_reducible first | exact HB.out | apply below_alloc | apply pw_below_drewN | apply below_drew1) | exact HB.out)⟩⟩
    case rest =>
      clear HC8
      try clear c1
      try clear p2
      try clear c3
      try clear c3b0
      try clear c8
      try clear c9
      try clear c10
      try clear c11
      try clear c12
      try clear c16
      obtain ⟨kq, x40_7, rfl, HA, HJ7, HO_4, HO_6, HO_7, HB⟩ := hcut
      cases kq with
      | zero => exact absurd HA.out (by simp [laws_FnExactNextKinds.j0])
      | succ kj7 =>
        have H := HA.out
        clear HA
        simp only [laws_FnExactNextKinds.j0] at H
        by_cases c21 : x40_7 = true
        · subst c21
          have H1 : (some false) = some r := by rw [if_pos rfl] at H; exact H
          clear H
          have H := H1
          clear H1
          obtain rfl := Option.some.inj H
          go_wp2
          go_ret
          exact ⟨by first | rfl | (simp [errW_none, errW_some] <;> rfl) | (simp [*, errW_none, errW_some] <;> rfl), by repeat (first | (with_reducible first | exact HB.out | apply below_alloc | apply pw_below_drewN | apply below_drew1) | exact HB.out)⟩
        · replace c21 := Bool.eq_false_iff.mpr c21
          subst c21
          have H1 : ((laws_toEventS.f kj7 l0).bind fun t168 => ((laws_eqEventS.f kj7 t160 t168).bind fun t171 => (if t171 = true then ((laws_markEventS.f kj7 t160 1).bind fun bt172 => (if bt172.1 < 0 then (laws_FnExactNextKinds.j1 kj7 l0 t156 t157 t163 true) else ((laws_eqIntS.f kj7 t163 t156).bind fun t174 => (if t174 = true then (laws_FnExactNextKinds.j1 kj7 l0 t156 t157 t163 (t164 != t157)) else (laws_FnExactNextKinds.j1 kj7 l0 t156 t157 t163 true))))) else (some false)))) = some r := by rw [if_neg (show ¬ (false = true) by decide)] at H; exact H
          clear H
          have H := H1
          clear H1
          replace H := Option.bind_eq_some_iff.mp H
          obtain ⟨t168, A220, H⟩ := H
          replace H : ((laws_eqEventS.f kj7 t160 t168).bind fun t171 => (if t171 = true then ((laws_markEventS.f kj7 t160 1).bind fun bt172 => (if bt172.1 < 0 then (laws_FnExactNextKinds.j1 kj7 l0 t156 t157 t163 true) else ((laws_eqIntS.f kj7 t163 t156).bind fun t174 => (if t174 = true then (laws_FnExactNextKinds.j1 kj7 l0 t156 t157 t163 (t164 != t157)) else (laws_FnExactNextKinds.j1 kj7 l0 t156 t157 t163 true))))) else (some false))) = some r := H
          have A22 := Aside0.mk A220
          clear A220
          replace H := Option.bind_eq_some_iff.mp H
          obtain ⟨t171, A230, H⟩ := H
          replace H : (if t171 = true then ((laws_markEventS.f kj7 t160 1).bind fun bt172 => (if bt172.1 < 0 then (laws_FnExactNextKinds.j1 kj7 l0 t156 t157 t163 true) else ((laws_eqIntS.f kj7 t163 t156).bind fun t174 => (if t174 = true then (laws_FnExactNextKinds.j1 kj7 l0 t156 t157 t163 (t164 != t157)) else (laws_FnExactNextKinds.j1 kj7 l0 t156 t157 t163 true))))) else (some false)) = some r := H
          have A23 := Aside0.mk A230
          clear A230
          by_cases c24 : t171 = true
          · subst c24
            have H1 : ((laws_markEventS.f kj7 t160 1).bind fun bt172 => (if bt172.1 < 0 then (laws_FnExactNextKinds.j1 kj7 l0 t156 t157 t163 true) else ((laws_eqIntS.f kj7 t163 t156).bind fun t174 => (if t174 = true then (laws_FnExactNextKinds.j1 kj7 l0 t156 t157 t163 (t164 != t157)) else (laws_FnExactNextKinds.j1 kj7 l0 t156 t157 t163 true))))) = some r := by rw [if_pos rfl] at H; exact H
            clear H
            have H := H1
            clear H1
            replace H := Option.bind_eq_some_iff.mp H
            obtain ⟨⟨t172, t173⟩, A250, H⟩ := H
            replace H : (if t172 < 0 then (laws_FnExactNextKinds.j1 kj7 l0 t156 t157 t163 true) else ((laws_eqIntS.f kj7 t163 t156).bind fun t174 => (if t174 = true then (laws_FnExactNextKinds.j1 kj7 l0 t156 t157 t163 (t164 != t157)) else (laws_FnExactNextKinds.j1 kj7 l0 t156 t157 t163 true)))) = some r := H
            have A25 := Aside0.mk A250
            clear A250
            have HC26 := Aside0.mk H
            clear H
            go_upto_region 14 with (first | ((with_reducible refine gate_callee (f := 10) rfl ?_); refine goesL_ (some 43) rfl rfl Try.func10 (by kernel_rfl) rfl #[.slice A0 l0.length c0] rfl (by (try simp only [List.map_toArray, List.map_cons, List.map_nil]); first | done | rfl | (simp only [List.length_drop, List.length_take]; rfl)) ?_; (with_reducible refine (laws_toEventS.calls kj7 _ _ l0 t168 _ ?side1 ?side2 A22.out).mono ?_); (case side1 => repeat (first | exact (Kd.C_below HR0.out HB.out) | (with_reducible refine Kd.C_alloc ?_ _) | (with_reducible refine Kd.C_drewN ?_ _) | (with_reducible refine Kd.C_drew ?_))); (case side2 => exact HC0.out); rintro e w27 ⟨v169, rfl, ho0, hb⟩; refine ⟨_, rfl, ?_⟩; have n0_ := Aside0.mk (Kd.R_below (by (with_reducible repeat (first | apply Kd.R_alloc | apply Kd.R_drewN | apply Kd.R_drew)); exact HO_4.out) hb); have n1_ := Aside0.mk (Kd.R_elder' (by (with_reducible repeat (first | apply Kd.R_alloc | apply Kd.R_drewN | apply Kd.R_drew)); exact HO_6.out) (Kd.R_base ho0) hb); have n2_ := Aside0.mk (Kd.R_below (by (with_reducible repeat (first | apply Kd.R_alloc | apply Kd.R_drewN | apply Kd.R_drew)); exact HO_7.out) hb); have n3_ := Aside0.mk (Kd.R_lower (Kd.R_new' ho0 (Kd.R_lt (by (with_reducible repeat (first | apply Kd.R_alloc | apply Kd.R_drewN | apply Kd.R_drew)); exact HO_6.out))) (below_size (by repeat (first | (with_reducible first | exact HB.out | apply below_alloc | apply pw_below_drewN | apply below_drew1) | exact HB.out)))); have n4_ := Aside0.mk (below_step (by repeat (first | (with_reducible first | exact HB.out | apply below_alloc | apply pw_below_drewN | apply below_drew1) | exact HB.out)) hb); clear HO_4; clear HO_6; clear HO_7; clear HB; have HO_4 := n0_; have HO_6 := n1_; have HO_7 := n2_; have HO170 := n3_; have HB := n4_; clear n0_ n1_ n2_ n3_ n4_; (try clear hb); (try clear hb2); (try clear hk); (try clear hi); (try clear ho0); obtain ⟨Ao28, co28, eo28⟩ := Kd.R_slice HO170.out; subst eo28) | ((with_reducible refine gate_callee (f := 13) rfl ?_); refine goesL_ (some 44) rfl rfl Try.func13 (by kernel_rfl) rfl #[.slice Ao13 t160.length co13, .slice Ao28 t168.length co28] rfl (by (try simp only [List.map_toArray, List.map_cons, List.map_nil]); first | done | rfl | (simp only [List.length_drop, List.length_take]; rfl)) ?_; (with_reducible refine (laws_eqEventS.calls kj7 _ _ t160 _ _ t168 true _ ?side1 ?side2 ?side3 ?side4 A23.out).mono ?_); (case side1 => repeat (first | exact (Kd.R_reads' HO_6.out).2.2 | (with_reducible refine Kd.C_alloc ?_ _) | (with_reducible refine Kd.C_drewN ?_ _) | (with_reducible refine Kd.C_drew ?_))); (case side2 => exact (Kd.R_reads' HO_6.out).2.1); (case side3 => repeat (first | exact (Kd.R_reads' HO170.out).2.2 | (with_reducible refine Kd.C_alloc ?_ _) | (with_reducible refine Kd.C_drewN ?_ _) | (with_reducible refine Kd.C_drew ?_))); (case side4 => exact (Kd.R_reads' HO170.out).2.1); rintro e w29 ⟨rfl, hb⟩; refine ⟨_, rfl, ?_⟩; have n0_ := Aside0.mk (Kd.R_below (by (with_reducible repeat (first | apply Kd.R_alloc | apply Kd.R_drewN | apply Kd.R_drew)); exact HO_4.out) hb); have n1_ := Aside0.mk (Kd.R_below (by (with_reducible repeat (first | apply Kd.R_alloc | apply Kd.R_drewN | apply Kd.R_drew)); exact HO_6.out) hb); have n2_ := Aside0.mk (Kd.R_below (by (with_reducible repeat (first | apply Kd.R_alloc | apply Kd.R_drewN | apply Kd.R_drew)); exact HO_7.out) hb); have n3_ := Aside0.mk (Kd.R_below (by (with_reducible repeat (first | apply Kd.R_alloc | apply Kd.R_drewN | apply Kd.R_drew)); exact HO170.out) hb); have n4_ := Aside0.mk (below_step (by repeat (first | (with_reducible first | exact HB.out | apply below_alloc | apply pw_below_drewN | apply below_drew1) | exact HB.out)) hb); clear HO_4; clear HO_6; clear HO_7; clear HO170; clear HB; have HO_4 := n0_; have HO_6 := n1_; have HO_7 := n2_; have HO170 := n3_; have HB := n4_; clear n0_ n1_ n2_ n3_ n4_; (try clear hb); (try clear hb2); (try clear hk); (try clear hi)) | ((with_reducible refine gate_callee (f := 14) rfl ?_); refine goesL_ (some 48) rfl rfl Try.func14 (by kernel_rfl) rfl #[.slice Ao13 t160.length co13, .int .i64 1] rfl (by (try simp only [List.map_toArray, List.map_cons, List.map_nil]); first | done | rfl | (simp only [List.length_drop, List.length_take]; rfl)) ?_; (with_reducible refine (laws_markEventS.calls kj7 (fun k_ => some k_ = (.slice Ao13 t160.length co13 : Value).ownBlock) (.slice Ao13 t160.length co13) t160 1 t172 t173 w _ ?side1 ?side2 A25.out).mono ?_); (case side1 => repeat (first | (with_reducible first | exact HB.out | apply below_alloc | apply pw_below_drewN | apply below_drew1) | exact HB.out)); (case side2 => exact Kd.R_tight rfl HO_6.out); rintro e w30 ⟨rfl, hy0, hb, hkp⟩; refine ⟨_, rfl, ?_⟩; have n0_ := Aside0.mk (Kd.R_mono (ok' := fun k_ => some k_ ≠ (v165 : Value).ownBlock) (Kd.R_keptB ((Kd.R_apart' HO_4.out (Kd.R_typed HO_6.out) (by decide))) hkp (fun k_ hk_ hs_ => (hk_.2) hs_)) (fun k_ hk_ => hk_.1.1)); have n1_ := Aside0.mk (Kd.R_reok rfl hy0 (fun k_ e_ => HO_6.out.1 k_ e_)); have n2_ := Aside0.mk (Kd.R_mono (ok' := fun k_ => some k_ ≠ (v158 : Value).ownBlock) (Kd.R_keptB ((Kd.R_apart' HO_7.out (Kd.R_typed HO_6.out) (by decide))) hkp (fun k_ hk_ hs_ => (hk_.2) hs_)) (fun k_ hk_ => hk_.1.1)); have n3_ := Aside0.mk (Kd.R_mono (ok' := fun k_ => some k_ ≠ (.slice Ao13 t160.length co13 : Value).ownBlock) (Kd.R_keptB (HO170.out) hkp (fun k_ hk_ hs_ => (hk_.2) hs_)) (fun k_ hk_ => hk_.1.2)); have n4_ := Aside0.mk (hb); clear HO_4; clear HO_6; clear HO_7; clear HO170; clear HB; have HO_4 := n0_; have HO_6 := n1_; have HO_7 := n2_; have HO170 := n3_; have HB := n4_; clear n0_ n1_ n2_ n3_ n4_; (try clear hb); (try clear hkp); (try clear hy0)))
            (try simp only [Act.put, List.setIfInBounds_toArray, List.set_cons_zero, List.set_cons_succ])
            go_cut [61] (fun v61 wc => ∃ (kq : Nat) (x61_25 : Bool), v61 = .bool x61_25 ∧ Aside0 (laws_FnExactNextKinds.j1 kq l0 t156 t157 t163 x61_25 = some r) ∧ Aside0 (kq ≤ kj7) ∧ Aside0 (Kd.R (Kd.int .i64) 3 wc w.heap.size (fun k_ => some k_ ≠ (v165 : Value).ownBlock) v158 t156) ∧ Aside0 (Kd.R (Kd.int .i64) 3 wc w.heap.size (fun k_ => some k_ ≠ (v158 : Value).ownBlock) v165 t163) ∧ Aside0 (Below w.heap.size w wc))
            case first =>
              have H := HC26.out
              clear HC26
              by_cases c31 : t172 < 0
              · rw [if_pos c31] at H
                have c31b0 : decide (t172 < 0) = true := decide_eq_true c31
                clear c31
                (first | rw [c31b0] | (simp only [i64_w, i32_w]; rw [c31b0]) | skip)
                have H' := Aside0.mk H
                clear H
                go_wp2
                go_meet
                case rel => exact ⟨_, (true), (by first | rfl | (simp; done) | (simp [*]; done)), H', ⟨by have := HJ7.out; first | omega | exact Nat.le_refl _⟩, ⟨by (with_reducible repeat (first | apply Kd.R_alloc | apply Kd.R_drewN | apply Kd.R_drew)); exact HO_4.out⟩, ⟨by (with_reducible repeat (first | apply Kd.R_alloc | apply Kd.R_drewN | apply Kd.R_drew)); exact HO_7.out⟩, ⟨by repeat (first | (with_reducible first | exact HB.out | apply below_alloc | apply pw_below_drewN | apply below_drew1) | exact HB.out)⟩⟩
              · rw [if_neg c31] at H
                have c31b0 : decide (t172 < 0) = false := decide_eq_false c31
                clear c31
                (first | rw [c31b0] | (simp only [i64_w, i32_w]; rw [c31b0]) | skip)
                replace H := Option.bind_eq_some_iff.mp H
                obtain ⟨t174, A320, H⟩ := H
                replace H : (if t174 = true then (laws_FnExactNextKinds.j1 kj7 l0 t156 t157 t163 (t164 != t157)) else (laws_FnExactNextKinds.j1 kj7 l0 t156 t157 t163 true)) = some r := H
                have A32 := Aside0.mk A320
                clear A320
                by_cases c33 : t174 = true
                · subst c33
                  have H1 : (laws_FnExactNextKinds.j1 kj7 l0 t156 t157 t163 (t164 != t157)) = some r := by rw [if_pos rfl] at H; exact H
                  clear H
                  have H := H1
                  clear H1
                  have H' := Aside0.mk H
                  clear H
                  obtain ⟨Ao34, co34, eo34⟩ := Kd.R_slice HO_7.out
                  subst eo34
                  obtain ⟨Ao35, co35, eo35⟩ := Kd.R_slice HO_4.out
                  subst eo35
                  go_wp2_with (first | (go_at_call 12; (with_reducible refine (laws_eqIntS.calls kj7 _ _ t163 _ _ t156 true _ ?side1 ?side2 ?side3 ?side4 A32.out).mono ?_); (case side1 => repeat (first | exact (Kd.R_reads' HO_7.out).2.2 | (with_reducible refine Kd.C_alloc ?_ _) | (with_reducible refine Kd.C_drewN ?_ _) | (with_reducible refine Kd.C_drew ?_))); (case side2 => exact (Kd.R_reads' HO_7.out).2.1); (case side3 => repeat (first | exact (Kd.R_reads' HO_4.out).2.2 | (with_reducible refine Kd.C_alloc ?_ _) | (with_reducible refine Kd.C_drewN ?_ _) | (with_reducible refine Kd.C_drew ?_))); (case side4 => exact (Kd.R_reads' HO_4.out).2.1); rintro e w' ⟨rfl, ⟨nd, rfl⟩⟩))
                  go_meet
                  case rel => exact ⟨_, ((t164 != t157)), (by first | rfl | (simp; done) | (simp [*]; done)), H', ⟨by have := HJ7.out; first | omega | exact Nat.le_refl _⟩, ⟨by (with_reducible repeat (first | apply Kd.R_alloc | apply Kd.R_drewN | apply Kd.R_drew)); exact HO_4.out⟩, ⟨by (with_reducible repeat (first | apply Kd.R_alloc | apply Kd.R_drewN | apply Kd.R_drew)); exact HO_7.out⟩, ⟨by repeat (first | (with_reducible first | exact HB.out | apply below_alloc | apply pw_below_drewN | apply below_drew1) | exact HB.out)⟩⟩
                · replace c33 := Bool.eq_false_iff.mpr c33
                  subst c33
                  have H1 : (laws_FnExactNextKinds.j1 kj7 l0 t156 t157 t163 true) = some r := by rw [if_neg (show ¬ (false = true) by decide)] at H; exact H
                  clear H
                  have H := H1
                  clear H1
                  have H' := Aside0.mk H
                  clear H
                  obtain ⟨Ao36, co36, eo36⟩ := Kd.R_slice HO_7.out
                  subst eo36
                  obtain ⟨Ao37, co37, eo37⟩ := Kd.R_slice HO_4.out
                  subst eo37
                  go_wp2_with (first | (go_at_call 12; (with_reducible refine (laws_eqIntS.calls kj7 _ _ t163 _ _ t156 false _ ?side1 ?side2 ?side3 ?side4 A32.out).mono ?_); (case side1 => repeat (first | exact (Kd.R_reads' HO_7.out).2.2 | (with_reducible refine Kd.C_alloc ?_ _) | (with_reducible refine Kd.C_drewN ?_ _) | (with_reducible refine Kd.C_drew ?_))); (case side2 => exact (Kd.R_reads' HO_7.out).2.1); (case side3 => repeat (first | exact (Kd.R_reads' HO_4.out).2.2 | (with_reducible refine Kd.C_alloc ?_ _) | (with_reducible refine Kd.C_drewN ?_ _) | (with_reducible refine Kd.C_drew ?_))); (case side4 => exact (Kd.R_reads' HO_4.out).2.1); rintro e w' ⟨rfl, ⟨nd, rfl⟩⟩))
                  go_meet
                  case rel => exact ⟨_, (true), (by first | rfl | (simp; done) | (simp [*]; done)), H', ⟨by have := HJ7.out; first | omega | exact Nat.le_refl _⟩, ⟨by (with_reducible repeat (first | apply Kd.R_alloc | apply Kd.R_drewN | apply Kd.R_drew)); exact HO_4.out⟩, ⟨by (with_reducible repeat (first | apply Kd.R_alloc | apply Kd.R_drewN | apply Kd.R_drew)); exact HO_7.out⟩, ⟨by repeat (first | (with_reducible first | exact HB.out | apply below_alloc | apply pw_below_drewN | apply below_drew1) | exact HB.out)⟩⟩
            case rest =>
              clear HC26
              try clear c1
              try clear c2
              try clear p2
              try clear c3
              try clear c3b0
              try clear c8
              try clear c9
              try clear c10
              try clear c11
              try clear c12
              try clear c13
              try clear c14
              try clear c16
              try clear c21
              try clear c24
              try clear c31
              try clear c31b0
              try clear c33
              try clear p2
              obtain ⟨kq, x61_25, rfl, HA, HJ25, HO_4, HO_7, HB⟩ := hcut
              cases kq with
              | zero => exact absurd HA.out (by simp [laws_FnExactNextKinds.j1])
              | succ kj25 =>
                have H := HA.out
                clear HA
                simp only [laws_FnExactNextKinds.j1] at H
                by_cases c38 : x61_25 = true
                · subst c38
                  have H1 : (some false) = some r := by rw [if_pos rfl] at H; exact H
                  clear H
                  have H := H1
                  clear H1
                  obtain rfl := Option.some.inj H
                  go_wp2
                  go_ret
                  exact ⟨by first | rfl | (simp [errW_none, errW_some] <;> rfl) | (simp [*, errW_none, errW_some] <;> rfl), by repeat (first | (with_reducible first | exact HB.out | apply below_alloc | apply pw_below_drewN | apply below_drew1) | exact HB.out)⟩
                · replace c38 := Bool.eq_false_iff.mpr c38
                  subst c38
                  have H1 : ((laws_markIntS.f kj25 t163 1).bind fun bt175 => ((laws_heldIntS.f kj25 bt175.2 1).bind fun t177 => (if t177 < 0 then (some false) else (if t177 = bt175.1 then ((laws_toEventS.f kj25 l0).bind fun t178 => ((impl_NextKinds.f kj25 t178).bind fun bt181 => ((laws_eqIntS.f kj25 bt181.1 t156).bind fun t185 => (if t185 = true then (laws_FnExactNextKinds.j2 kj25 bt175.2 bt175.1 (bt181.2 != t157)) else (laws_FnExactNextKinds.j2 kj25 bt175.2 bt175.1 true))))) else (some false))))) = some r := by rw [if_neg (show ¬ (false = true) by decide)] at H; exact H
                  clear H
                  have H := H1
                  clear H1
                  replace H := Option.bind_eq_some_iff.mp H
                  obtain ⟨⟨t175, t176⟩, A390, H⟩ := H
                  replace H : ((laws_heldIntS.f kj25 t176 1).bind fun t177 => (if t177 < 0 then (some false) else (if t177 = t175 then ((laws_toEventS.f kj25 l0).bind fun t178 => ((impl_NextKinds.f kj25 t178).bind fun bt181 => ((laws_eqIntS.f kj25 bt181.1 t156).bind fun t185 => (if t185 = true then (laws_FnExactNextKinds.j2 kj25 t176 t175 (bt181.2 != t157)) else (laws_FnExactNextKinds.j2 kj25 t176 t175 true))))) else (some false)))) = some r := H
                  have A39 := Aside0.mk A390
                  clear A390
                  replace H := Option.bind_eq_some_iff.mp H
                  obtain ⟨t177, A400, H⟩ := H
                  replace H : (if t177 < 0 then (some false) else (if t177 = t175 then ((laws_toEventS.f kj25 l0).bind fun t178 => ((impl_NextKinds.f kj25 t178).bind fun bt181 => ((laws_eqIntS.f kj25 bt181.1 t156).bind fun t185 => (if t185 = true then (laws_FnExactNextKinds.j2 kj25 t176 t175 (bt181.2 != t157)) else (laws_FnExactNextKinds.j2 kj25 t176 t175 true))))) else (some false))) = some r := H
                  have A40 := Aside0.mk A400
                  clear A400
                  by_cases c41 : t177 < 0
                  · rw [if_pos c41] at H
                    have c41b0 : decide (t177 < 0) = true := decide_eq_true c41
                    clear c41
                    obtain rfl := Option.some.inj H
                    obtain ⟨Ao42, co42, eo42⟩ := Kd.R_slice HO_7.out
                    subst eo42
                    go_wp2_with (first | ((with_reducible refine gate_callee (f := 15) rfl ?_); refine goesL_ (some 64) rfl rfl Try.func15 (by kernel_rfl) rfl #[.slice Ao42 t163.length co42, .int .i64 1] rfl (by (try simp only [List.map_toArray, List.map_cons, List.map_nil]); first | done | rfl | (simp only [List.length_drop, List.length_take]; rfl)) ?_; (with_reducible refine (laws_markIntS.calls kj25 (fun k_ => some k_ = (.slice Ao42 t163.length co42 : Value).ownBlock) (.slice Ao42 t163.length co42) t163 1 t175 t176 w _ ?side1 ?side2 A39.out).mono ?_); (case side1 => repeat (first | (with_reducible first | exact HB.out | apply below_alloc | apply pw_below_drewN | apply below_drew1) | exact HB.out)); (case side2 => exact Kd.R_tight rfl HO_7.out); rintro e w43 ⟨rfl, hy0, hb, hkp⟩; refine ⟨_, rfl, ?_⟩; have n0_ := Aside0.mk (Kd.R_mono (ok' := fun k_ => some k_ ≠ (.slice Ao42 t163.length co42 : Value).ownBlock) (Kd.R_keptB (HO_4.out) hkp (fun k_ hk_ hs_ => (hk_) hs_)) (fun k_ hk_ => hk_.1)); have n1_ := Aside0.mk (Kd.R_reok rfl hy0 (fun k_ e_ => HO_7.out.1 k_ e_)); have n2_ := Aside0.mk (hb); clear HO_4; clear HO_7; clear HB; have HO_4 := n0_; have HO_7 := n1_; have HB := n2_; clear n0_ n1_ n2_; (try clear hb); (try clear hkp); (try clear hy0)) | ((with_reducible refine gate_callee (f := 16) rfl ?_); refine goesL_ (some 67) rfl rfl Try.func16 (by kernel_rfl) rfl #[.slice Ao42 t176.length co42, .int .i64 1] rfl (by (try simp only [List.map_toArray, List.map_cons, List.map_nil]); first | done | (rw [show t176.length = t163.length from (Kd.R_reads' HO_7.out).1.symm] <;> rfl) | rfl | (simp only [List.length_drop, List.length_take]; rfl)) ?_; (with_reducible refine (laws_heldIntS.calls kj25 _ _ t176 1 t177 _ ?side1 ?side2 A40.out).mono ?_); (case side1 => repeat (first | exact (Kd.R_reads' HO_7.out).2.2 | (with_reducible refine Kd.C_alloc ?_ _) | (with_reducible refine Kd.C_drewN ?_ _) | (with_reducible refine Kd.C_drew ?_))); (case side2 => rw [show t176.length = t163.length from (Kd.R_reads' HO_7.out).1.symm]; exact (Kd.R_reads' HO_7.out).2.1); rintro e w' ⟨rfl, ⟨nd, rfl⟩⟩; refine ⟨_, rfl, ?_⟩))
                    go_ret
                    exact ⟨by first | rfl | (simp [errW_none, errW_some] <;> rfl) | (simp [*, errW_none, errW_some] <;> rfl), by repeat (first | (with_reducible first | exact HB.out | apply below_alloc | apply pw_below_drewN | apply below_drew1) | exact HB.out)⟩
                  · rw [if_neg c41] at H
                    have c41b0 : decide (t177 < 0) = false := decide_eq_false c41
                    clear c41
                    by_cases c44 : t177 = t175
                    · rw [if_pos c44] at H
                      have c44b0 : (t177 == t175) = true := beq_iff_eq.mpr c44
                      have c44b1 : (t177 != t175) = false := bne_eq_false_iff_eq.mpr c44
                      clear c44
                      replace H := Option.bind_eq_some_iff.mp H
                      obtain ⟨t178, A450, H⟩ := H
                      replace H : ((impl_NextKinds.f kj25 t178).bind fun bt181 => ((laws_eqIntS.f kj25 bt181.1 t156).bind fun t185 => (if t185 = true then (laws_FnExactNextKinds.j2 kj25 t176 t175 (bt181.2 != t157)) else (laws_FnExactNextKinds.j2 kj25 t176 t175 true)))) = some r := H
                      have A45 := Aside0.mk A450
                      clear A450
                      replace H := Option.bind_eq_some_iff.mp H
                      obtain ⟨⟨t181, t182⟩, A460, H⟩ := H
                      replace H : ((laws_eqIntS.f kj25 t181 t156).bind fun t185 => (if t185 = true then (laws_FnExactNextKinds.j2 kj25 t176 t175 (t182 != t157)) else (laws_FnExactNextKinds.j2 kj25 t176 t175 true))) = some r := H
                      have A46 := Aside0.mk A460
                      clear A460
                      have HC47 := Aside0.mk H
                      clear H
                      obtain ⟨Ao48, co48, eo48⟩ := Kd.R_slice HO_7.out
                      subst eo48
                      go_upto_region 25 with (first | ((with_reducible refine gate_callee (f := 15) rfl ?_); refine goesL_ (some 64) rfl rfl Try.func15 (by kernel_rfl) rfl #[.slice Ao48 t163.length co48, .int .i64 1] rfl (by (try simp only [List.map_toArray, List.map_cons, List.map_nil]); first | done | rfl | (simp only [List.length_drop, List.length_take]; rfl)) ?_; (with_reducible refine (laws_markIntS.calls kj25 (fun k_ => some k_ = (.slice Ao48 t163.length co48 : Value).ownBlock) (.slice Ao48 t163.length co48) t163 1 t175 t176 w _ ?side1 ?side2 A39.out).mono ?_); (case side1 => repeat (first | (with_reducible first | exact HB.out | apply below_alloc | apply pw_below_drewN | apply below_drew1) | exact HB.out)); (case side2 => exact Kd.R_tight rfl HO_7.out); rintro e w49 ⟨rfl, hy0, hb, hkp⟩; refine ⟨_, rfl, ?_⟩; have n0_ := Aside0.mk (Kd.R_mono (ok' := fun k_ => some k_ ≠ (.slice Ao48 t163.length co48 : Value).ownBlock) (Kd.R_keptB (HO_4.out) hkp (fun k_ hk_ hs_ => (hk_) hs_)) (fun k_ hk_ => hk_.1)); have n1_ := Aside0.mk (Kd.R_reok rfl hy0 (fun k_ e_ => HO_7.out.1 k_ e_)); have n2_ := Aside0.mk (hb); clear HO_4; clear HO_7; clear HB; have HO_4 := n0_; have HO_7 := n1_; have HB := n2_; clear n0_ n1_ n2_; (try clear hb); (try clear hkp); (try clear hy0)) | ((with_reducible refine gate_callee (f := 16) rfl ?_); refine goesL_ (some 67) rfl rfl Try.func16 (by kernel_rfl) rfl #[.slice Ao48 t176.length co48, .int .i64 1] rfl (by (try simp only [List.map_toArray, List.map_cons, List.map_nil]); first | done | (rw [show t176.length = t163.length from (Kd.R_reads' HO_7.out).1.symm] <;> rfl) | rfl | (simp only [List.length_drop, List.length_take]; rfl)) ?_; (with_reducible refine (laws_heldIntS.calls kj25 _ _ t176 1 t177 _ ?side1 ?side2 A40.out).mono ?_); (case side1 => repeat (first | exact (Kd.R_reads' HO_7.out).2.2 | (with_reducible refine Kd.C_alloc ?_ _) | (with_reducible refine Kd.C_drewN ?_ _) | (with_reducible refine Kd.C_drew ?_))); (case side2 => rw [show t176.length = t163.length from (Kd.R_reads' HO_7.out).1.symm]; exact (Kd.R_reads' HO_7.out).2.1); rintro e w' ⟨rfl, ⟨nd, rfl⟩⟩; refine ⟨_, rfl, ?_⟩) | ((with_reducible refine gate_callee (f := 10) rfl ?_); refine goesL_ (some 75) rfl rfl Try.func10 (by kernel_rfl) rfl #[.slice A0 l0.length c0] rfl (by (try simp only [List.map_toArray, List.map_cons, List.map_nil]); first | done | rfl | (simp only [List.length_drop, List.length_take]; rfl)) ?_; (with_reducible refine (laws_toEventS.calls kj25 _ _ l0 t178 _ ?side1 ?side2 A45.out).mono ?_); (case side1 => repeat (first | exact (Kd.C_below HR0.out (by repeat (first | (with_reducible first | exact HB.out | apply below_alloc | apply pw_below_drewN | apply below_drew1) | exact HB.out))) | (with_reducible refine Kd.C_alloc ?_ _) | (with_reducible refine Kd.C_drewN ?_ _) | (with_reducible refine Kd.C_drew ?_))); (case side2 => exact HC0.out); rintro e w50 ⟨v179, rfl, ho0, hb⟩; refine ⟨_, rfl, ?_⟩; have n0_ := Aside0.mk (Kd.R_below (by (with_reducible repeat (first | apply Kd.R_alloc | apply Kd.R_drewN | apply Kd.R_drew)); exact HO_4.out) hb); have n1_ := Aside0.mk (Kd.R_below (by (with_reducible repeat (first | apply Kd.R_alloc | apply Kd.R_drewN | apply Kd.R_drew)); exact HO_7.out) hb); have n2_ := Aside0.mk (Kd.R_lower ho0 (below_size (by repeat (first | (with_reducible first | exact HB.out | apply below_alloc | apply pw_below_drewN | apply below_drew1) | exact HB.out)))); have n3_ := Aside0.mk (below_step (by repeat (first | (with_reducible first | exact HB.out | apply below_alloc | apply pw_below_drewN | apply below_drew1) | exact HB.out)) hb); clear HO_4; clear HO_7; clear HB; have HO_4 := n0_; have HO_7 := n1_; have HO180 := n2_; have HB := n3_; clear n0_ n1_ n2_ n3_; (try clear hb); (try clear hb2); (try clear hk); (try clear hi); (try clear ho0); obtain ⟨Ao51, co51, eo51⟩ := Kd.R_slice HO180.out; subst eo51) | ((with_reducible refine gate_callee (f := 11) rfl ?_); refine goesL_ (some 76) rfl rfl Try.func11 (by kernel_rfl) rfl #[.slice Ao51 t178.length co51] rfl (by (try simp only [List.map_toArray, List.map_cons, List.map_nil]); first | done | rfl | (simp only [List.length_drop, List.length_take]; rfl)) ?_; (with_reducible refine (impl_NextKinds.calls kj25 _ _ t178 t181 t182 _ ?side1 ?side2 A46.out).mono ?_); (case side1 => repeat (first | exact (Kd.R_reads' HO180.out).2.2 | (with_reducible refine Kd.C_alloc ?_ _) | (with_reducible refine Kd.C_drewN ?_ _) | (with_reducible refine Kd.C_drew ?_))); (case side2 => exact (Kd.R_reads' HO180.out).2.1); rintro e w52 ⟨v183, rfl, ho0, hb⟩; refine ⟨_, rfl, ?_⟩; have n0_ := Aside0.mk (Kd.R_elder' (by (with_reducible repeat (first | apply Kd.R_alloc | apply Kd.R_drewN | apply Kd.R_drew)); exact HO_4.out) (Kd.R_base ho0) hb); have n1_ := Aside0.mk (Kd.R_elder' (by (with_reducible repeat (first | apply Kd.R_alloc | apply Kd.R_drewN | apply Kd.R_drew)); exact HO_7.out) (Kd.R_base ho0) hb); have n2_ := Aside0.mk (Kd.R_below (by (with_reducible repeat (first | apply Kd.R_alloc | apply Kd.R_drewN | apply Kd.R_drew)); exact HO180.out) hb); have n3_ := Aside0.mk (Kd.R_lower (Kd.R_new' (Kd.R_new' ho0 (Kd.R_lt (by (with_reducible repeat (first | apply Kd.R_alloc | apply Kd.R_drewN | apply Kd.R_drew)); exact HO_4.out))) (Kd.R_lt (by (with_reducible repeat (first | apply Kd.R_alloc | apply Kd.R_drewN | apply Kd.R_drew)); exact HO_7.out))) (below_size (by repeat (first | (with_reducible first | exact HB.out | apply below_alloc | apply pw_below_drewN | apply below_drew1) | exact HB.out)))); have n4_ := Aside0.mk (below_step (by repeat (first | (with_reducible first | exact HB.out | apply below_alloc | apply pw_below_drewN | apply below_drew1) | exact HB.out)) hb); clear HO_4; clear HO_7; clear HO180; clear HB; have HO_4 := n0_; have HO_7 := n1_; have HO180 := n2_; have HO184 := n3_; have HB := n4_; clear n0_ n1_ n2_ n3_ n4_; (try clear hb); (try clear hb2); (try clear hk); (try clear hi); (try clear ho0)))
                      (try simp only [Act.put, List.setIfInBounds_toArray, List.set_cons_zero, List.set_cons_succ])
                      go_cut [87] (fun v87 wc => ∃ (kq : Nat) (x87_46 : Bool), v87 = .bool x87_46 ∧ Aside0 (laws_FnExactNextKinds.j2 kq t176 t175 x87_46 = some r) ∧ Aside0 (kq ≤ kj25) ∧ Aside0 (Kd.R (Kd.int .i64) 3 wc w.heap.size (fun _ => True) (.slice Ao48 t163.length co48) t176) ∧ Aside0 (Below w.heap.size w wc))
                      case first =>
                        have H := HC47.out
                        clear HC47
                        replace H := Option.bind_eq_some_iff.mp H
                        obtain ⟨t185, A530, H⟩ := H
                        replace H : (if t185 = true then (laws_FnExactNextKinds.j2 kj25 t176 t175 (t182 != t157)) else (laws_FnExactNextKinds.j2 kj25 t176 t175 true)) = some r := H
                        have A53 := Aside0.mk A530
                        clear A530
                        by_cases c54 : t185 = true
                        · subst c54
                          have H1 : (laws_FnExactNextKinds.j2 kj25 t176 t175 (t182 != t157)) = some r := by rw [if_pos rfl] at H; exact H
                          clear H
                          have H := H1
                          clear H1
                          have H' := Aside0.mk H
                          clear H
                          obtain ⟨Ao55, co55, eo55⟩ := Kd.R_slice HO184.out
                          subst eo55
                          obtain ⟨Ao56, co56, eo56⟩ := Kd.R_slice HO_4.out
                          subst eo56
                          go_wp2_with (first | ((with_reducible refine gate_callee (f := 12) rfl ?_); refine goesL_ (some 81) rfl rfl Try.func12 (by kernel_rfl) rfl #[.slice Ao55 t181.length co55, .slice Ao56 t156.length co56] rfl (by (try simp only [List.map_toArray, List.map_cons, List.map_nil]); first | done | rfl | (simp only [List.length_drop, List.length_take]; rfl)) ?_; (with_reducible refine (laws_eqIntS.calls kj25 _ _ t181 _ _ t156 true _ ?side1 ?side2 ?side3 ?side4 A53.out).mono ?_); (case side1 => repeat (first | exact (Kd.R_reads' HO184.out).2.2 | (with_reducible refine Kd.C_alloc ?_ _) | (with_reducible refine Kd.C_drewN ?_ _) | (with_reducible refine Kd.C_drew ?_))); (case side2 => exact (Kd.R_reads' HO184.out).2.1); (case side3 => repeat (first | exact (Kd.R_reads' HO_4.out).2.2 | (with_reducible refine Kd.C_alloc ?_ _) | (with_reducible refine Kd.C_drewN ?_ _) | (with_reducible refine Kd.C_drew ?_))); (case side4 => exact (Kd.R_reads' HO_4.out).2.1); rintro e w' ⟨rfl, ⟨nd, rfl⟩⟩; refine ⟨_, rfl, ?_⟩))
                          go_meet
                          case rel => exact ⟨_, ((t182 != t157)), (by first | rfl | (simp; done) | (simp [*]; done)), H', ⟨by have := HJ7.out; have := HJ25.out; first | omega | exact Nat.le_refl _⟩, ⟨by (with_reducible repeat (first | apply Kd.R_alloc | apply Kd.R_drewN | apply Kd.R_drew)); exact Kd.R_mono HO_7.out (fun _ hk => trivial)⟩, ⟨by repeat (first | (with_reducible first | exact HB.out | apply below_alloc | apply pw_below_drewN | apply below_drew1) | exact HB.out)⟩⟩
                        · replace c54 := Bool.eq_false_iff.mpr c54
                          subst c54
                          have H1 : (laws_FnExactNextKinds.j2 kj25 t176 t175 true) = some r := by rw [if_neg (show ¬ (false = true) by decide)] at H; exact H
                          clear H
                          have H := H1
                          clear H1
                          have H' := Aside0.mk H
                          clear H
                          obtain ⟨Ao57, co57, eo57⟩ := Kd.R_slice HO184.out
                          subst eo57
                          obtain ⟨Ao58, co58, eo58⟩ := Kd.R_slice HO_4.out
                          subst eo58
                          go_wp2_with (first | ((with_reducible refine gate_callee (f := 12) rfl ?_); refine goesL_ (some 81) rfl rfl Try.func12 (by kernel_rfl) rfl #[.slice Ao57 t181.length co57, .slice Ao58 t156.length co58] rfl (by (try simp only [List.map_toArray, List.map_cons, List.map_nil]); first | done | rfl | (simp only [List.length_drop, List.length_take]; rfl)) ?_; (with_reducible refine (laws_eqIntS.calls kj25 _ _ t181 _ _ t156 false _ ?side1 ?side2 ?side3 ?side4 A53.out).mono ?_); (case side1 => repeat (first | exact (Kd.R_reads' HO184.out).2.2 | (with_reducible refine Kd.C_alloc ?_ _) | (with_reducible refine Kd.C_drewN ?_ _) | (with_reducible refine Kd.C_drew ?_))); (case side2 => exact (Kd.R_reads' HO184.out).2.1); (case side3 => repeat (first | exact (Kd.R_reads' HO_4.out).2.2 | (with_reducible refine Kd.C_alloc ?_ _) | (with_reducible refine Kd.C_drewN ?_ _) | (with_reducible refine Kd.C_drew ?_))); (case side4 => exact (Kd.R_reads' HO_4.out).2.1); rintro e w' ⟨rfl, ⟨nd, rfl⟩⟩; refine ⟨_, rfl, ?_⟩))
                          go_meet
                          case rel => exact ⟨_, (true), (by first | rfl | (simp; done) | (simp [*]; done)), H', ⟨by have := HJ7.out; have := HJ25.out; first | omega | exact Nat.le_refl _⟩, ⟨by (with_reducible repeat (first | apply Kd.R_alloc | apply Kd.R_drewN | apply Kd.R_drew)); exact Kd.R_mono HO_7.out (fun _ hk => trivial)⟩, ⟨by repeat (first | (with_reducible first | exact HB.out | apply below_alloc | apply pw_below_drewN | apply below_drew1) | exact HB.out)⟩⟩
                      case rest =>
                        clear HC47
                        try clear c1
                        try clear c2
                        try clear p2
                        try clear c3
                        try clear c3b0
                        try clear c4
                        try clear c5
                        try clear c8
                        try clear c9
                        try clear c10
                        try clear c11
                        try clear c12
                        try clear c13
                        try clear c14
                        try clear c15
                        try clear c16
                        try clear c21
                        try clear c24
                        try clear c31
                        try clear c31b0
                        try clear c33
                        try clear c38
                        try clear c41
                        try clear c41b0
                        try clear c44
                        try clear c44b0
                        try clear c44b1
                        try clear c54
                        try clear p2
                        obtain ⟨kq, x87_46, rfl, HA, HJ46, HO_7, HB⟩ := hcut
                        have hl7_46 := (Kd.R_reads' HO_7.out).1
                        rw [hl7_46] at HO_7
                        (try simp only [hl7_46])
                        cases kq with
                        | zero => exact absurd HA.out (by simp [laws_FnExactNextKinds.j2])
                        | succ kj46 =>
                          have H := HA.out
                          clear HA
                          simp only [laws_FnExactNextKinds.j2] at H
                          by_cases c59 : x87_46 = true
                          · subst c59
                            have H1 : (some false) = some r := by rw [if_pos rfl] at H; exact H
                            clear H
                            have H := H1
                            clear H1
                            obtain rfl := Option.some.inj H
                            go_wp2
                            go_ret
                            exact ⟨by first | rfl | (simp [errW_none, errW_some] <;> rfl) | (simp [*, errW_none, errW_some] <;> rfl), by repeat (first | (with_reducible first | exact HB.out | apply below_alloc | apply pw_below_drewN | apply below_drew1) | exact HB.out)⟩
                          · replace c59 := Bool.eq_false_iff.mpr c59
                            subst c59
                            have H1 : ((laws_heldIntS.f kj46 t176 1).bind fun t186 => (if t186 < 0 then (some false) else (if t186 = t175 then (some true) else (some false)))) = some r := by rw [if_neg (show ¬ (false = true) by decide)] at H; exact H
                            clear H
                            have H := H1
                            clear H1
                            replace H := Option.bind_eq_some_iff.mp H
                            obtain ⟨t186, A600, H⟩ := H
                            replace H : (if t186 < 0 then (some false) else (if t186 = t175 then (some true) else (some false))) = some r := H
                            have A60 := Aside0.mk A600
                            clear A600
                            by_cases c61 : t186 < 0
                            · rw [if_pos c61] at H
                              have c61b0 : decide (t186 < 0) = true := decide_eq_true c61
                              clear c61
                              obtain rfl := Option.some.inj H
                              go_wp2_with (first | ((with_reducible refine gate_callee (f := 16) rfl ?_); refine goesL_ (some 90) rfl rfl Try.func16 (by kernel_rfl) rfl #[.slice Ao48 t176.length co48, .int .i64 1] rfl (by (try simp only [List.map_toArray, List.map_cons, List.map_nil]); first | done | rfl | (simp only [List.length_drop, List.length_take]; rfl)) ?_; (with_reducible refine (laws_heldIntS.calls kj46 _ _ t176 1 t186 _ ?side1 ?side2 A60.out).mono ?_); (case side1 => repeat (first | exact (Kd.R_reads' HO_7.out).2.2 | (with_reducible refine Kd.C_alloc ?_ _) | (with_reducible refine Kd.C_drewN ?_ _) | (with_reducible refine Kd.C_drew ?_))); (case side2 => exact (Kd.R_reads' HO_7.out).2.1); rintro e w' ⟨rfl, ⟨nd, rfl⟩⟩; refine ⟨_, rfl, ?_⟩))
                              go_ret
                              exact ⟨by first | rfl | (simp [errW_none, errW_some] <;> rfl) | (simp [*, errW_none, errW_some] <;> rfl), by repeat (first | (with_reducible first | exact HB.out | apply below_alloc | apply pw_below_drewN | apply below_drew1) | exact HB.out)⟩
                            · rw [if_neg c61] at H
                              have c61b0 : decide (t186 < 0) = false := decide_eq_false c61
                              clear c61
                              by_cases c62 : t186 = t175
                              · rw [if_pos c62] at H
                                have c62b0 : (t186 == t175) = true := beq_iff_eq.mpr c62
                                have c62b1 : (t186 != t175) = false := bne_eq_false_iff_eq.mpr c62
                                clear c62
                                obtain rfl := Option.some.inj H
                                go_wp2_with (first | ((with_reducible refine gate_callee (f := 16) rfl ?_); refine goesL_ (some 90) rfl rfl Try.func16 (by kernel_rfl) rfl #[.slice Ao48 t176.length co48, .int .i64 1] rfl (by (try simp only [List.map_toArray, List.map_cons, List.map_nil]); first | done | rfl | (simp only [List.length_drop, List.length_take]; rfl)) ?_; (with_reducible refine (laws_heldIntS.calls kj46 _ _ t176 1 t186 _ ?side1 ?side2 A60.out).mono ?_); (case side1 => repeat (first | exact (Kd.R_reads' HO_7.out).2.2 | (with_reducible refine Kd.C_alloc ?_ _) | (with_reducible refine Kd.C_drewN ?_ _) | (with_reducible refine Kd.C_drew ?_))); (case side2 => exact (Kd.R_reads' HO_7.out).2.1); rintro e w' ⟨rfl, ⟨nd, rfl⟩⟩; refine ⟨_, rfl, ?_⟩))
                                go_ret
                                exact ⟨by first | rfl | (simp [errW_none, errW_some] <;> rfl) | (simp [*, errW_none, errW_some] <;> rfl), by repeat (first | (with_reducible first | exact HB.out | apply below_alloc | apply pw_below_drewN | apply below_drew1) | exact HB.out)⟩
                              · rw [if_neg c62] at H
                                have c62b0 : (t186 == t175) = false := beq_eq_false_iff_ne.mpr c62
                                have c62b1 : (t186 != t175) = true := bne_iff_ne.mpr c62
                                obtain rfl := Option.some.inj H
                                go_wp2_with (first | ((with_reducible refine gate_callee (f := 16) rfl ?_); refine goesL_ (some 90) rfl rfl Try.func16 (by kernel_rfl) rfl #[.slice Ao48 t176.length co48, .int .i64 1] rfl (by (try simp only [List.map_toArray, List.map_cons, List.map_nil]); first | done | rfl | (simp only [List.length_drop, List.length_take]; rfl)) ?_; (with_reducible refine (laws_heldIntS.calls kj46 _ _ t176 1 t186 _ ?side1 ?side2 A60.out).mono ?_); (case side1 => repeat (first | exact (Kd.R_reads' HO_7.out).2.2 | (with_reducible refine Kd.C_alloc ?_ _) | (with_reducible refine Kd.C_drewN ?_ _) | (with_reducible refine Kd.C_drew ?_))); (case side2 => exact (Kd.R_reads' HO_7.out).2.1); rintro e w' ⟨rfl, ⟨nd, rfl⟩⟩; refine ⟨_, rfl, ?_⟩))
                                go_ret
                                exact ⟨by first | rfl | (simp [errW_none, errW_some] <;> rfl) | (simp [*, errW_none, errW_some] <;> rfl), by repeat (first | (with_reducible first | exact HB.out | apply below_alloc | apply pw_below_drewN | apply below_drew1) | exact HB.out)⟩
                    · rw [if_neg c44] at H
                      have c44b0 : (t177 == t175) = false := beq_eq_false_iff_ne.mpr c44
                      have c44b1 : (t177 != t175) = true := bne_iff_ne.mpr c44
                      obtain rfl := Option.some.inj H
                      obtain ⟨Ao63, co63, eo63⟩ := Kd.R_slice HO_7.out
                      subst eo63
                      go_wp2_with (first | ((with_reducible refine gate_callee (f := 15) rfl ?_); refine goesL_ (some 64) rfl rfl Try.func15 (by kernel_rfl) rfl #[.slice Ao63 t163.length co63, .int .i64 1] rfl (by (try simp only [List.map_toArray, List.map_cons, List.map_nil]); first | done | rfl | (simp only [List.length_drop, List.length_take]; rfl)) ?_; (with_reducible refine (laws_markIntS.calls kj25 (fun k_ => some k_ = (.slice Ao63 t163.length co63 : Value).ownBlock) (.slice Ao63 t163.length co63) t163 1 t175 t176 w _ ?side1 ?side2 A39.out).mono ?_); (case side1 => repeat (first | (with_reducible first | exact HB.out | apply below_alloc | apply pw_below_drewN | apply below_drew1) | exact HB.out)); (case side2 => exact Kd.R_tight rfl HO_7.out); rintro e w64 ⟨rfl, hy0, hb, hkp⟩; refine ⟨_, rfl, ?_⟩; have n0_ := Aside0.mk (Kd.R_mono (ok' := fun k_ => some k_ ≠ (.slice Ao63 t163.length co63 : Value).ownBlock) (Kd.R_keptB (HO_4.out) hkp (fun k_ hk_ hs_ => (hk_) hs_)) (fun k_ hk_ => hk_.1)); have n1_ := Aside0.mk (Kd.R_reok rfl hy0 (fun k_ e_ => HO_7.out.1 k_ e_)); have n2_ := Aside0.mk (hb); clear HO_4; clear HO_7; clear HB; have HO_4 := n0_; have HO_7 := n1_; have HB := n2_; clear n0_ n1_ n2_; (try clear hb); (try clear hkp); (try clear hy0)) | ((with_reducible refine gate_callee (f := 16) rfl ?_); refine goesL_ (some 67) rfl rfl Try.func16 (by kernel_rfl) rfl #[.slice Ao63 t176.length co63, .int .i64 1] rfl (by (try simp only [List.map_toArray, List.map_cons, List.map_nil]); first | done | (rw [show t176.length = t163.length from (Kd.R_reads' HO_7.out).1.symm] <;> rfl) | rfl | (simp only [List.length_drop, List.length_take]; rfl)) ?_; (with_reducible refine (laws_heldIntS.calls kj25 _ _ t176 1 t177 _ ?side1 ?side2 A40.out).mono ?_); (case side1 => repeat (first | exact (Kd.R_reads' HO_7.out).2.2 | (with_reducible refine Kd.C_alloc ?_ _) | (with_reducible refine Kd.C_drewN ?_ _) | (with_reducible refine Kd.C_drew ?_))); (case side2 => rw [show t176.length = t163.length from (Kd.R_reads' HO_7.out).1.symm]; exact (Kd.R_reads' HO_7.out).2.1); rintro e w' ⟨rfl, ⟨nd, rfl⟩⟩; refine ⟨_, rfl, ?_⟩))
                      go_ret
                      exact ⟨by first | rfl | (simp [errW_none, errW_some] <;> rfl) | (simp [*, errW_none, errW_some] <;> rfl), by repeat (first | (with_reducible first | exact HB.out | apply below_alloc | apply pw_below_drewN | apply below_drew1) | exact HB.out)⟩
          · replace c24 := Bool.eq_false_iff.mpr c24
            subst c24
            have H1 : (some false) = some r := by rw [if_neg (show ¬ (false = true) by decide)] at H; exact H
            clear H
            have H := H1
            clear H1
            obtain rfl := Option.some.inj H
            go_wp2_with (first | ((with_reducible refine gate_callee (f := 10) rfl ?_); refine goesL_ (some 43) rfl rfl Try.func10 (by kernel_rfl) rfl #[.slice A0 l0.length c0] rfl (by (try simp only [List.map_toArray, List.map_cons, List.map_nil]); first | done | rfl | (simp only [List.length_drop, List.length_take]; rfl)) ?_; (with_reducible refine (laws_toEventS.calls kj7 _ _ l0 t168 _ ?side1 ?side2 A22.out).mono ?_); (case side1 => repeat (first | exact (Kd.C_below HR0.out HB.out) | (with_reducible refine Kd.C_alloc ?_ _) | (with_reducible refine Kd.C_drewN ?_ _) | (with_reducible refine Kd.C_drew ?_))); (case side2 => exact HC0.out); rintro e w65 ⟨v169, rfl, ho0, hb⟩; refine ⟨_, rfl, ?_⟩; have n0_ := Aside0.mk (Kd.R_below (by (with_reducible repeat (first | apply Kd.R_alloc | apply Kd.R_drewN | apply Kd.R_drew)); exact HO_4.out) hb); have n1_ := Aside0.mk (Kd.R_elder' (by (with_reducible repeat (first | apply Kd.R_alloc | apply Kd.R_drewN | apply Kd.R_drew)); exact HO_6.out) (Kd.R_base ho0) hb); have n2_ := Aside0.mk (Kd.R_below (by (with_reducible repeat (first | apply Kd.R_alloc | apply Kd.R_drewN | apply Kd.R_drew)); exact HO_7.out) hb); have n3_ := Aside0.mk (Kd.R_lower (Kd.R_new' ho0 (Kd.R_lt (by (with_reducible repeat (first | apply Kd.R_alloc | apply Kd.R_drewN | apply Kd.R_drew)); exact HO_6.out))) (below_size (by repeat (first | (with_reducible first | exact HB.out | apply below_alloc | apply pw_below_drewN | apply below_drew1) | exact HB.out)))); have n4_ := Aside0.mk (below_step (by repeat (first | (with_reducible first | exact HB.out | apply below_alloc | apply pw_below_drewN | apply below_drew1) | exact HB.out)) hb); clear HO_4; clear HO_6; clear HO_7; clear HB; have HO_4 := n0_; have HO_6 := n1_; have HO_7 := n2_; have HO170 := n3_; have HB := n4_; clear n0_ n1_ n2_ n3_ n4_; (try clear hb); (try clear hb2); (try clear hk); (try clear hi); (try clear ho0); obtain ⟨Ao66, co66, eo66⟩ := Kd.R_slice HO170.out; subst eo66) | ((with_reducible refine gate_callee (f := 13) rfl ?_); refine goesL_ (some 44) rfl rfl Try.func13 (by kernel_rfl) rfl #[.slice Ao13 t160.length co13, .slice Ao66 t168.length co66] rfl (by (try simp only [List.map_toArray, List.map_cons, List.map_nil]); first | done | rfl | (simp only [List.length_drop, List.length_take]; rfl)) ?_; (with_reducible refine (laws_eqEventS.calls kj7 _ _ t160 _ _ t168 false _ ?side1 ?side2 ?side3 ?side4 A23.out).mono ?_); (case side1 => repeat (first | exact (Kd.R_reads' HO_6.out).2.2 | (with_reducible refine Kd.C_alloc ?_ _) | (with_reducible refine Kd.C_drewN ?_ _) | (with_reducible refine Kd.C_drew ?_))); (case side2 => exact (Kd.R_reads' HO_6.out).2.1); (case side3 => repeat (first | exact (Kd.R_reads' HO170.out).2.2 | (with_reducible refine Kd.C_alloc ?_ _) | (with_reducible refine Kd.C_drewN ?_ _) | (with_reducible refine Kd.C_drew ?_))); (case side4 => exact (Kd.R_reads' HO170.out).2.1); rintro e w67 ⟨rfl, hb⟩; refine ⟨_, rfl, ?_⟩; have n0_ := Aside0.mk (Kd.R_below (by (with_reducible repeat (first | apply Kd.R_alloc | apply Kd.R_drewN | apply Kd.R_drew)); exact HO_4.out) hb); have n1_ := Aside0.mk (Kd.R_below (by (with_reducible repeat (first | apply Kd.R_alloc | apply Kd.R_drewN | apply Kd.R_drew)); exact HO_6.out) hb); have n2_ := Aside0.mk (Kd.R_below (by (with_reducible repeat (first | apply Kd.R_alloc | apply Kd.R_drewN | apply Kd.R_drew)); exact HO_7.out) hb); have n3_ := Aside0.mk (Kd.R_below (by (with_reducible repeat (first | apply Kd.R_alloc | apply Kd.R_drewN | apply Kd.R_drew)); exact HO170.out) hb); have n4_ := Aside0.mk (below_step (by repeat (first | (with_reducible first | exact HB.out | apply below_alloc | apply pw_below_drewN | apply below_drew1) | exact HB.out)) hb); clear HO_4; clear HO_6; clear HO_7; clear HO170; clear HB; have HO_4 := n0_; have HO_6 := n1_; have HO_7 := n2_; have HO170 := n3_; have HB := n4_; clear n0_ n1_ n2_ n3_ n4_; (try clear hb); (try clear hb2); (try clear hk); (try clear hi)))
            go_ret
            exact ⟨by first | rfl | (simp [errW_none, errW_some] <;> rfl) | (simp [*, errW_none, errW_some] <;> rfl), by repeat (first | (with_reducible first | exact HB.out | apply below_alloc | apply pw_below_drewN | apply below_drew1) | exact HB.out)⟩

end Go.Proofs.Ytpalafegcndccaa.X

/- How an argument that was read as data reads as a value of a kind (Kd): integers, bools, strings, slices, structs. -/
namespace Go.Proofs.YtpalafegcndccaaZ
open Go.ChangeShapes Go.WideShapes Go.ChangeAt Go.RowKit
open Go.Proofs.YtpalafegcndccaaW.PrintWords
set_option linter.unusedVariables false
set_option linter.unusedSimpArgs false
section
variable {P : Program}

/-- A reading of type t is a value of kind d, and the value fits. -/
def Opens (P : Program) {α : Type} (d : Kd α) (t : TypeId) (fits : α → Prop) : Prop :=
  ∀ {H : Type} {enc : TypeId × Value → H} {w : World} {base : Nat} {spare : Nat → Bool} {held : Bool} {fuel : Nat} {cs : List Value} {x : DataW H × List MemPlace},
    DataW.trod enc P w base spare held fuel t cs = some x → (∀ n ∈ x.1.weights P t, n ≤ reachBytes) → ∃ v, d.K w v cs ∧ fits v

theorem opens_int {k : IntKind} {t : TypeId} (ht : P.underlying t = some (.int k)) : Opens P (Kd.int k) t (fun n => (Lit.int k n).wf = true) := by
  intro H enc w base spare held fuel cs x h _
  obtain ⟨n, rfl, _, hw⟩ := DataW.trod_int ht h
  exact ⟨n, rfl, hw⟩
theorem opens_bool {t : TypeId} (ht : P.underlying t = some .bool) : Opens P Kd.bool t (fun _ => True) := by
  intro H enc w base spare held fuel cs x h _
  obtain ⟨b, rfl, _⟩ := DataW.trod_bool ht h
  exact ⟨b, rfl, trivial⟩
theorem opens_string {t : TypeId} (ht : P.underlying t = some .string) : Opens P Kd.string t (fun s => s.size ≤ 140737488351232) := by
  intro H enc w base spare held fuel cs x h hw
  obtain ⟨s, rfl, rfl, _⟩ := DataW.trod_string ht h
  refine ⟨s, rfl, ?_⟩
  have := hw s.data.toList.length (by simp [DataW.weights])
  rw [Array.length_toList] at this
  exact this
theorem weightsAll_mem {H : Type} {e : TypeId} {d : DataW H} {n : Nat} : ∀ {l : List (DataW H)}, d ∈ l → n ∈ d.weights P e → n ∈ DataW.weightsAll P e l
  | [], h, _ => by cases h
  | x :: r, h, hn => by
    simp only [DataW.weightsAll, List.mem_append]
    rcases List.mem_cons.1 h with rfl | h
    · exact .inl hn
    · exact .inr (weightsAll_mem h hn)
theorem weightsEach_mem {H : Type} {n : Nat} : ∀ {ts : List TypeId} {l : List (DataW H)} {i : Nat} {t : TypeId} {d : DataW H}, ts[i]? = some t → l[i]? = some d → n ∈ d.weights P t → n ∈ DataW.weightsEach P ts l
  | [], l, i, t, d, h, _, _ => by simp at h
  | t :: ts, [], i, _, _, _, h, _ => by simp at h
  | t :: ts, d :: l, 0, _, _, h, k, hn => by
    simp at h k; subst h k
    simp only [DataW.weightsEach, List.mem_append]; exact .inl hn
  | t :: ts, d :: l, i + 1, _, _, h, k, hn => by
    simp at h k
    simp only [DataW.weightsEach, List.mem_append]; exact .inr (weightsEach_mem h k hn)
theorem opens_slice {α : Type} (z : α) {d : Kd α} {t e : TypeId} {fits : α → Prop} (ht : P.underlying t = some (.slice e)) (hsz : P.cellsOf e = d.sz) (he : Opens P d e fits) {B : Nat} (hB : P.bytesOf e = B) :
    Opens P (Kd.slice e d) t (fun l => l.length * B ≤ 140737488351232 ∧ l.length ≤ 9223372036854775807 ∧ ∀ x ∈ l, fits x) := by
  intro H enc w base spare held fuel cs x h hw
  rcases Deep.open_slice ht h with ⟨rfl, rfl⟩ | ⟨a, len, cap, m, n, D, Pl, rfl, hb, hl, hm, hmm, rfl, hc⟩
  · exact ⟨[], ⟨none, 0, rfl, Nat.le_refl _, Kd.C_nil d w⟩, by simp, by simp, fun x hx => by cases hx⟩
  · have hlm : len ≤ m := by rw [hmm]; split <;> omega
    have hbnd : len * B ≤ 140737488351232 := by
      have := hw ((((List.range len).map D).length + ((List.range (m - len)).map fun j => D (len + j)).length) * P.bytesOf e) (by simp [DataW.weights, ht])
      simp only [List.length_map, List.length_range, hB] at this
      have h2 : len * B ≤ (len + (m - len)) * B := Nat.mul_le_mul_right _ (by omega)
      exact Nat.le_trans h2 this
    have hel : ∀ i, i < len → ∃ v : α, (∃ c, c.length = d.sz ∧ d.K w v c ∧ ∀ j u, c[j]? = some u → w.cell? (a.add (i * d.sz + j)) = some u) ∧ fits v := by
      intro i hi
      obtain ⟨c, h1, h2⟩ := hc i (by omega)
      obtain ⟨v, hv, hf⟩ := he h2 (fun k hk => hw k (by
        simp only [DataW.weights, ht, List.mem_cons, List.mem_append]
        exact .inr (.inl (weightsAll_mem (d := D i) (List.mem_map.2 ⟨i, List.mem_range.2 hi, rfl⟩) hk))))
      rw [hsz] at h1
      obtain ⟨_, hlen, hcell⟩ := World.cells?_some h1
      refine ⟨v, ⟨c, hlen, hv, fun j u hj => ?_⟩, hf⟩
      have hjl : j < d.sz := by rw [← hlen]; exact (List.getElem?_eq_some_iff.1 hj).1
      rw [← Deep.add_add, hcell j hjl]
      exact hj
    haveI : Inhabited α := ⟨z⟩
    obtain ⟨f, hf⟩ := Deep.choose_lt hel
    refine ⟨(List.range len).map f, ⟨some a, cap, by simp, by simpa using hl, ⟨by simp, ?_, fun _ => ⟨a, rfl, ?_⟩⟩⟩, by simpa using hbnd, by simp; unfold maxLen at hm; omega, ?_⟩
    · simp; unfold maxLen at hm; omega
    · intro j p hj
      have hjl : j < len := by
        have := (List.getElem?_eq_some_iff.1 hj).1
        simpa using this
      rw [List.getElem?_map, List.getElem?_range hjl] at hj
      simp only [Option.map_some, Option.some.injEq] at hj
      subst hj
      exact (hf j hjl).1
    · intro x hx
      obtain ⟨j, hj, rfl⟩ := List.mem_map.1 hx
      exact (hf j (List.mem_range.1 hj)).2

/-- Fields from offset o on to the struct's end L, as a value of kind d. -/
def OpensF (P : Program) {α : Type} (d : Kd α) (fs : List Field) (o L : Nat) (fits : α → Prop) : Prop :=
  ∀ {H : Type} {enc : TypeId × Value → H} {w : World} {base : Nat} {spare : Nat → Bool} {held : Bool} {fuel : Nat} {cs : List Value} {xs : List (DataW H × List MemPlace)},
    cs.length = L → xs.length = fs.length → (∀ (i : Nat) (f : Field), fs[i]? = some f → DataW.trod enc P w base spare held fuel f.type ((cs.drop f.offset).take (P.cellsOf f.type)) = xs[i]?) →
    (∀ n ∈ DataW.weightsEach P (fs.map (·.type)) (xs.map (·.1)), n ≤ reachBytes) → ∃ v, d.K w v (cs.drop o) ∧ fits v
theorem opensF_one {α : Type} {d : Kd α} {f : Field} {o L : Nat} {fits : α → Prop} (t : TypeId) (hft : f.type = t) (ho : f.offset = o) (hL : o + P.cellsOf t = L) (h : Opens P d t fits) : OpensF P d [f] o L fits := by
  intro H enc w base spare held fuel cs xs hlen hxs hf hw
  match xs, hxs with
  | [x], _ =>
    have h0 := hf 0 f rfl
    rw [hft, ho, List.take_of_length_le (by rw [List.length_drop]; omega)] at h0
    exact h h0 (fun n hn => hw n (by rw [hft.symm] at hn; simp [DataW.weightsEach]; exact hn))
theorem opensF_cons {α β : Type} {d : Kd α} {d' : Kd β} {f : Field} {rest : List Field} {o o' L : Nat} {fits : α → Prop} {fits' : β → Prop} (t : TypeId) (hft : f.type = t) (ho : f.offset = o) (hn : o + P.cellsOf t = o') (h : Opens P d t fits) (hr : OpensF P d' rest o' L fits') :
    OpensF P (Kd.pair d d') (f :: rest) o L (fun p => fits p.1 ∧ fits' p.2) := by
  intro H enc w base spare held fuel cs xs hlen hxs hf hw
  match xs, hxs with
  | x :: xs, hxs =>
    have h0 := hf 0 f rfl
    rw [hft, ho] at h0
    obtain ⟨v, hv, fv⟩ := h h0 (fun n hn => hw n (by rw [hft.symm] at hn; simp [DataW.weightsEach]; exact .inl hn))
    obtain ⟨v', hv', fv'⟩ := hr (cs := cs) (xs := xs) hlen (by simpa using hxs) (fun i g hg => by simpa using hf (i + 1) g (by simpa using hg)) (fun n hn => hw n (by simp only [List.map_cons, DataW.weightsEach, List.mem_append]; exact .inr hn))
    exact ⟨(v, v'), ⟨(cs.drop o).take (P.cellsOf t), cs.drop o', by rw [← hn, ← List.drop_drop]; exact (List.take_append_drop _ _).symm, hv, hv'⟩, fv, fv'⟩
theorem opens_struct {α β : Type} {d : Kd α} {t : TypeId} {fs : Array Field} {L : Nat} {fits : α → Prop} {fits' : β → Prop} (ht : P.underlying t = some (.struct fs)) (hL : P.cellsOf t = L) (h : OpensF P d fs.toList 0 L fits) (g : β → α) (inv : α → β) (hinv : ∀ a, g (inv a) = a) (hf : ∀ a, fits a → fits' (inv a)) :
    Opens P (Kd.iso d g) t fits' := by
  intro H enc w base spare held fuel cs x hx hw
  obtain ⟨xs, n, rfl, rfl, hl, hlen, hff⟩ := DataW.trod_struct ht hx
  obtain ⟨v, hv, fv⟩ := h (cs := cs) (xs := xs) (by rw [hl, hL]) (by simpa using hlen) (fun i f hi => hff i f (by simpa using hi)) (fun k hk => hw k (by simp only [DataW.weights, ht]; exact hk))
  refine ⟨inv v, ?_, hf v fv⟩
  show d.K w (g (inv v)) cs
  rw [hinv]
  simpa using hv
/-- A parameter's weights are among all. -/
theorem weights_param {H : Type} {ts : List TypeId} {ds : List (DataW H)} {j : Nat} {t : TypeId} {d : DataW H} (hsz : (DataW.weightsEach P ts ds).all (· ≤ reachBytes) = true) (ht : ts[j]? = some t) (hd : ds[j]? = some d) : ∀ n ∈ d.weights P t, n ≤ reachBytes := fun n hn => by
  have := List.all_eq_true.1 hsz n (weightsEach_mem ht hd hn)
  simpa using this
end
end Go.Proofs.YtpalafegcndccaaZ

-- written by a program of this session (wip/ext.py): what the law says, without Go and memory.
namespace Go.Proofs.Ytpalafegcndccaa.X
open Go.RowKit Go.Proofs.YtpalafegcndccaaW.PrintWords Go.Proofs.YtpalafegcndccaaW.PrintLast Go.Proofs.YtpalafegcndccaaW.PrintMore
open Go.Proofs.YtpalafegcndccaaZ
namespace OFnExactNextKinds
def fitsT63 (x : S63) : Prop := (Lit.int .i64 x.f0).wf = true ∧ (Lit.int .i64 x.f1).wf = true
theorem opensT63 : Opens Try.prog k63 63 fitsT63 :=
  opens_struct (L := 2) Try.underlying63 (by kernel_rfl) (opensF_cons (o' := 1) 3 rfl rfl (by kernel_rfl) (opens_int Try.underlying3) (opensF_one 3 rfl rfl (by kernel_rfl) (opens_int Try.underlying3))) (fun x : S63 => (x.f0, x.f1)) (fun p => ⟨p.1, p.2⟩) (fun _ => rfl) (fun _ h => h)
def Pure : Prop := ∀ (l0 : List (S63)), (l0.length * 16 ≤ 140737488351232 ∧ l0.length ≤ 9223372036854775807 ∧ ∀ y2 ∈ l0, fitsT63 y2) → ∃ k, laws_FnExactNextKinds.f k l0 = some true
end OFnExactNextKinds
end Go.Proofs.Ytpalafegcndccaa.X

/- Small plain lemmas on rounds, lists and numbers for the pure statements. -/
namespace Go.Proofs.YtpalafegcndccaaL
open Go.RowKit Go.Proofs.YtpalafegcndccaaW.PrintWords
set_option linter.unusedVariables false
set_option linter.unusedSimpArgs false

theorem ev_eq {α : Type} {g : Nat → Option α} {r : α} (h : ∀ k, g k = some r) : Ev g r := ⟨0, fun k _ => h k⟩
theorem ev_rounds {α : Type} {g : Nat → Option α} {r : α} (h : Ev g r) : ∃ k, g k = some r := h.rounds
theorem wrap_id {x : Int} (h0 : -9223372036854775808 ≤ x) (h1 : x ≤ 9223372036854775807) : wrap64 x = x := by unfold wrap64; omega
theorem wrap_succ {n : Nat} (h : n < 9223372036854775807) : wrap64 ((n : Int) + 1) = ((n + 1 : Nat) : Int) := by rw [wrap_id (by omega) (by omega)]; rfl
theorem wrap_nat (n : Nat) (h : n ≤ 9223372036854775807) : wrap64 (n : Int) = (n : Int) := wrap_id (by omega) (by omega)
theorem rd_at (l : List Int) (n : Nat) (h : n < l.length) : rd l (n : Int) = l[n] := by simp [rd, List.getD_eq_getElem?_getD, List.getElem?_eq_getElem h]
/-- A list that is filled from the front. -/
def fill {α β : Type} (f : α → β) (z : β) (l : List α) (n : Nat) : List β := (l.take n).map f ++ List.replicate (l.length - n) z
theorem fill_zero {α β : Type} (f : α → β) (z : β) (l : List α) : fill f z l 0 = List.replicate l.length z := by simp [fill]
theorem fill_length {α β : Type} (f : α → β) (z : β) (l : List α) (n : Nat) (h : n ≤ l.length) : (fill f z l n).length = l.length := by simp only [fill, List.length_append, List.length_map, List.length_take, List.length_replicate]; omega
theorem fill_set {α β : Type} (f : α → β) (z : β) (l : List α) (n : Nat) (h : n < l.length) : (fill f z l n).set n (f l[n]) = fill f z l (n + 1) := by
  have e : l.length - n = (l.length - (n + 1)) + 1 := by omega
  have ht : l.take (n + 1) = l.take n ++ [l[n]] := by rw [List.take_succ_eq_append_getElem h]
  unfold fill
  rw [e, List.replicate_succ, ht, List.set_append_right _ _ (by simp; omega)]
  have : n - ((l.take n).map f).length = 0 := by simp; omega
  rw [this, List.map_append, List.append_assoc]
  rfl
theorem fill_all {α β : Type} (f : α → β) (z : β) (l : List α) : fill f z l l.length = l.map f := by simp [fill]
/-- A loop over i, i + 1, .., d times. -/
def loopN {σ : Type} (step : Int → σ → σ) : Nat → Int → σ → σ
  | 0, _, s => s
  | d + 1, i, s => loopN step d (i + 1) (step i s)
end Go.Proofs.YtpalafegcndccaaL

/- Events and histories: the program's check and the reference's come to the same. -/
namespace Go.Proofs.Ytpalafegcndccaa.X
open Go.RowKit Go.Proofs.YtpalafegcndccaaW.PrintWords Go.Proofs.YtpalafegcndccaaL
set_option linter.unusedVariables false
set_option linter.unusedSimpArgs false
abbrev Event := S61
abbrev LEvent := S63
def convE (s : LEvent) : Event := ⟨s.f0, s.f1⟩
theorem rdE (l : List Event) (n : Nat) (h : n < l.length) : rd_T61 l (n : Int) = l[n] := by simp [rd_T61, List.getD_eq_getElem?_getD, List.getElem?_eq_getElem h]
theorem rdLE (l : List LEvent) (n : Nat) (h : n < l.length) : rd_T63 l (n : Int) = l[n] := by simp [rd_T63, List.getD_eq_getElem?_getD, List.getElem?_eq_getElem h]
theorem szEventS_ok (l : List LEvent) (h : l.length ≤ 1048576) : laws_szEventS.f l 1048576 = some (1048576 - (l.length : Int)) := by
  unfold laws_szEventS.f; rw [wrap_id (by omega) (by omega), if_neg (by omega)]
theorem szEventS_big (l : List LEvent) (h : 1048576 < l.length) (h2 : l.length ≤ 9223372036854775807) : laws_szEventS.f l 1048576 = some (-1) := by
  unfold laws_szEventS.f; rw [wrap_id (by omega) (by omega), if_pos (by omega)]
theorem toEventS_ev (l : List LEvent) (h : l.length ≤ 1048576) : Ev (fun k => laws_toEventS.f k l) (l.map convE) := by
  have key : ∀ (d n : Nat), n + d = l.length → Ev (fun k => laws_toEventS.l0 k l (fill convE z61 l n) n) (l.map convE) := by
    intro d
    induction d with
    | zero =>
      intro n hn
      obtain rfl : n = l.length := by omega
      rw [← fill_all convE z61 l]
      exact Ev.step (f := fun _ => some _) (fun k => by simp only [laws_toEventS.l0]; rw [if_neg (by omega)]) (Ev.now _)
    | succ d ih =>
      intro n hn
      refine Ev.step (f := fun k => laws_toEventS.l0 k l (fill convE z61 l (n + 1)) ((n + 1 : Nat) : Int)) (fun k => ?_) (ih (n + 1) (by omega))
      simp only [laws_toEventS.l0]
      rw [if_pos (by omega), if_pos (by omega), rdLE l n (by omega), wrap_succ (by omega)]
      simp only [laws_toEvent.f, Option.bind_some, fill_length convE _ l n (by omega)]
      rw [if_pos (by omega), Int.toNat_natCast, ← fill_set convE _ l n (by omega)]
      rfl
  refine Ev.congr (f := fun k => laws_toEventS.l0 k l (fill convE z61 l 0) ((0 : Nat) : Int)) (fun k => ?_) (key l.length 0 (by omega))
  unfold laws_toEventS.f
  rw [if_pos (by omega), if_pos (by omega), fill_zero, Int.toNat_natCast]
  rfl
theorem eqEventS_ev (l : List Event) (h : l.length ≤ 1048576) : Ev (fun k => laws_eqEventS.f k l l) true := by
  have key : ∀ (d n : Nat), n + d = l.length → Ev (fun k => laws_eqEventS.l0 k l l n) true := by
    intro d
    induction d with
    | zero => intro n hn; exact Ev.step (f := fun _ => some _) (fun k => by simp only [laws_eqEventS.l0]; rw [if_neg (by omega)]) (Ev.now _)
    | succ d ih =>
      intro n hn
      refine Ev.step (f := fun k => laws_eqEventS.l0 k l l ((n + 1 : Nat) : Int)) (fun k => ?_) (ih (n + 1) (by omega))
      simp only [laws_eqEventS.l0]
      rw [if_pos (by omega), if_pos (by omega), if_pos (by omega), wrap_succ (by omega)]
      simp [laws_eqEvent.f]
  exact Ev.congr (f := fun k => laws_eqEventS.l0 k l l ((0 : Nat) : Int)) (fun k => by unfold laws_eqEventS.f; rw [if_pos rfl]; rfl) (key l.length 0 (by omega))
theorem tailE_ev (l : List LEvent) (h : l.length ≤ 1048576) : Ev (fun k => (laws_toEventS.f k l).bind fun t => (laws_eqEventS.f k (l.map convE) t).bind fun t2 => if t2 = true then some true else some false) true :=
  Ev.bind (toEventS_ev l h) (Ev.bind (eqEventS_ev _ (by simpa using h)) (Ev.now _))
/-- The state after an event in a state; -1. -/
def nxt (s k : Int) : Int := if s = 0 ∧ (k = 1 ∨ k = 2) then 1 else if s = 1 ∧ k = 3 then 2 else if s = 2 ∧ k = 4 then 1 else if s = 1 ∧ (k = 5 ∨ k = 6) then 0 else -1
theorem nxt_or (s k : Int) : nxt s k = -1 ∨ nxt s k = 0 ∨ nxt s k = 1 ∨ nxt s k = 2 := by unfold nxt; (repeat' split) <;> simp
theorem specNext_ev (s e : Int) : Ev (fun k => spec_l23Next.f k s e) (nxt s e) := by
  refine ⟨4, fun k hk => ?_⟩
  obtain ⟨m, rfl⟩ : ∃ m, k = m + 4 := ⟨k - 4, by omega⟩
  simp only [spec_l23Next.f, spec_l23Next.j0, spec_l23Next.j1, spec_l23Next.j2, nxt]
  by_cases s0 : s = 0
  · subst s0; by_cases e1 : e = 1
    · subst e1; simp
    · by_cases e2 : e = 2
      · subst e2; simp
      · simp [e1, e2]
  · by_cases s1 : s = 1
    · subst s1; by_cases e3 : e = 3
      · subst e3; simp
      · by_cases e5 : e = 5
        · subst e5; simp
        · by_cases e6 : e = 6
          · subst e6; simp
          · simp [e3, e5, e6]
    · by_cases s2 : s = 2
      · subst s2; by_cases e4 : e = 4
        · subst e4; simp
        · simp [e4]
      · simp [s0, s1, s2]
theorem implNext_ev (s e : Int) : Ev (fun k => impl_nextState.f k s e) (if 0 ≤ nxt s e then (nxt s e, true) else (0, false)) := by
  refine ⟨4, fun k hk => ?_⟩
  obtain ⟨m, rfl⟩ : ∃ m, k = m + 4 := ⟨k - 4, by omega⟩
  simp only [impl_nextState.f, impl_nextState.j0, impl_nextState.j1, impl_nextState.j2, nxt]
  by_cases s0 : s = 0
  · subst s0; by_cases e1 : e = 1
    · subst e1; simp
    · by_cases e2 : e = 2
      · subst e2; simp
      · simp [e1, e2]
  · by_cases s1 : s = 1
    · subst s1; by_cases e3 : e = 3
      · subst e3; simp
      · by_cases e5 : e = 5
        · subst e5; simp
        · by_cases e6 : e = 6
          · subst e6; simp
          · simp [e3, e5, e6]
    · by_cases s2 : s = 2
      · subst s2; by_cases e4 : e = 4
        · subst e4; simp
        · simp [e4]
      · simp [s0, s1, s2]
/-- May event n follow in state s? -/
def okE (l : List Event) (n : Nat) (s : Int) (h : n < l.length) : Prop := 0 ≤ l[n].f0 ∧ l[n].f0 ≤ 9999 ∧ (∀ h0 : 0 < n, l[n - 1].f0 ≤ l[n].f0) ∧ 0 ≤ nxt s l[n].f1
open Classical in
/-- The state after the events from n on. -/
noncomputable def runE (l : List Event) : Nat → Nat → Int → Option Int
  | 0, _, s => some s
  | d + 1, n, s => if h : n < l.length then (if okE l n s h then runE l d (n + 1) (nxt s l[n].f1) else none) else none
theorem runE_nonneg (l : List Event) : ∀ (d n : Nat) (s r : Int), 0 ≤ s → runE l d n s = some r → 0 ≤ r := by
  intro d
  induction d with
  | zero => intro n s r hs h; simp only [runE, Option.some.injEq] at h; omega
  | succ d ih =>
    intro n s r hs h
    simp only [runE] at h
    split at h
    · split at h
      · rename_i h1 h2; exact ih _ _ _ h2.2.2.2 h
      · cases h
    · cases h
theorem specState_loop (l : List Event) (hl : l.length ≤ 20) : ∀ (d n : Nat) (s : Int), n + d = l.length → 0 ≤ s → Ev (fun k => spec_l23State.l0 k l s n) ((runE l d n s).getD (-1)) := by
  intro d
  induction d with
  | zero => intro n s hn hs; exact Ev.step (f := fun _ => some _) (fun k => by simp only [spec_l23State.l0]; rw [if_neg (by omega)]; rfl) (Ev.now _)
  | succ d ih =>
    intro n s hn hs
    have hln : n < l.length := by omega
    have hw : 0 < n → wrap64 ((n : Int) - 1) = ((n - 1 : Nat) : Int) := fun h0 => by rw [wrap_id (by omega) (by omega)]; omega
    have bad : ∀ (c : Bool), c = true → Ev (fun k => spec_l23State.j1 k l s n c) (-1) := fun c hc => by subst hc; exact Ev.step (f := fun _ => some (-1)) (fun k => by simp [spec_l23State.j1]) (Ev.now _)
    have good : Ev (fun k => spec_l23State.j1 k l s n false) (if 0 ≤ nxt s l[n].f1 then (runE l d (n + 1) (nxt s l[n].f1)).getD (-1) else -1) := by
      refine Ev.step (f := fun k => (spec_l23Next.f k s l[n].f1).bind fun t => if t < 0 then some (-1) else spec_l23State.l0 k l t ((n + 1 : Nat) : Int)) (fun k => ?_) ?_
      · simp only [spec_l23State.j1]
        rw [if_neg (by decide), if_pos (by omega), if_pos (by omega), rdE l n hln, wrap_succ (by omega)]
      · refine Ev.bind (specNext_ev _ _) ?_
        by_cases c : 0 ≤ nxt s l[n].f1
        · simp only [if_pos c, if_neg (show ¬ nxt s l[n].f1 < 0 by omega)]; exact ih (n + 1) _ (by omega) c
        · simp only [if_neg c, if_pos (show nxt s l[n].f1 < 0 by omega)]; exact Ev.now _
    simp only [runE, dif_pos hln]
    refine Ev.step (f := fun k => if 0 ≤ l[n].f0 ∧ l[n].f0 ≤ 9999 then (if h0 : 0 < n then spec_l23State.j1 k l s n (decide (l[n - 1].f0 > l[n].f0)) else spec_l23State.j1 k l s n false) else spec_l23State.j1 k l s n true) (fun k => ?_) ?_
    · simp only [spec_l23State.l0]
      rw [if_pos (by omega), if_pos (by omega), rdE l n hln]
      unfold spec_l1In.f
      by_cases a1 : l[n].f0 ≥ 0
      · by_cases a2 : l[n].f0 ≤ 9999
        · simp only [if_pos a1, a2, decide_true, Option.bind_some, if_true, if_pos (show 0 ≤ l[n].f0 ∧ True from ⟨a1, trivial⟩)]
          by_cases h0 : 0 < n
          · rw [if_pos (by omega), if_pos (by rw [hw h0]; omega), if_pos (by rw [hw h0]; omega), hw h0, rdE l (n - 1) (by omega), dif_pos h0]
          · rw [if_neg (by omega), dif_neg h0]
        · simp only [if_pos a1, a2, decide_false, Option.bind_some, Bool.false_eq_true, if_false, and_false]
      · simp only [if_neg a1, Option.bind_some, Bool.false_eq_true, if_false, if_neg (show ¬ (0 ≤ l[n].f0 ∧ l[n].f0 ≤ 9999) from fun z => a1 z.1)]
    · by_cases a : 0 ≤ l[n].f0 ∧ l[n].f0 ≤ 9999
      · simp only [if_pos a]
        by_cases h0 : 0 < n
        · simp only [dif_pos h0]
          by_cases b : l[n - 1].f0 ≤ l[n].f0
          · rw [decide_eq_false (by omega)]
            by_cases c : 0 ≤ nxt s l[n].f1
            · rw [if_pos (show okE l n s hln from ⟨a.1, a.2, fun _ => b, c⟩)]; rw [if_pos c] at good; exact good
            · rw [if_neg (show ¬ okE l n s hln from fun z => c z.2.2.2)]; rw [if_neg c] at good; exact good
          · rw [if_neg (show ¬ okE l n s hln from fun z => b (z.2.2.1 h0))]; exact bad _ (decide_eq_true (by omega))
        · simp only [dif_neg h0]
          by_cases c : 0 ≤ nxt s l[n].f1
          · rw [if_pos (show okE l n s hln from ⟨a.1, a.2, fun z => absurd z h0, c⟩)]; rw [if_pos c] at good; exact good
          · rw [if_neg (show ¬ okE l n s hln from fun z => c z.2.2.2)]; rw [if_neg c] at good; exact good
      · simp only [if_neg a]
        rw [if_neg (show ¬ okE l n s hln from fun z => a ⟨z.1, z.2.1⟩)]; exact bad _ rfl
theorem implState_loop (l : List Event) (hl : l.length ≤ 1048576) : ∀ (d n : Nat) (s : Int), n + d = l.length → Ev (fun k => impl_stateAfter.l0 k l s l (l.length : Int) n) (match runE l d n s with | some r => (r, decide (l.length ≤ 20)) | none => (0, false)) := by
  intro d
  induction d with
  | zero => intro n s hn; exact Ev.step (f := fun _ => some _) (fun k => by simp only [impl_stateAfter.l0]; rw [if_neg (by omega)]; simp [runE] <;> omega) (Ev.now _)
  | succ d ih =>
    intro n s hn
    have hln : n < l.length := by omega
    have hw : 0 < n → wrap64 ((n : Int) - 1) = ((n - 1 : Nat) : Int) := fun h0 => by rw [wrap_id (by omega) (by omega)]; omega
    simp only [runE, dif_pos hln]
    refine Ev.step (f := fun k => (impl_nextState.f k s l[n].f1).bind fun b => if b.2 = true then (if 0 ≤ l[n].f0 ∧ l[n].f0 ≤ 9999 then (if h0 : 0 < n then (if l[n].f0 < l[n - 1].f0 then some (0, false) else impl_stateAfter.l0 k l b.1 l (l.length : Int) ((n + 1 : Nat) : Int)) else impl_stateAfter.l0 k l b.1 l (l.length : Int) ((n + 1 : Nat) : Int)) else some (0, false)) else some (0, false)) (fun k => ?_) ?_
    · simp only [impl_stateAfter.l0]
      rw [if_pos (by omega), if_pos (by omega), if_pos (by omega), rdE l n hln, wrap_succ (by omega)]
      congr 1
      funext b
      unfold impl_within.f
      by_cases a1 : l[n].f0 ≥ 0
      · by_cases a2 : l[n].f0 ≤ 9999
        · simp only [if_pos a1, a2, decide_true, Option.bind_some, if_true, if_pos (show 0 ≤ l[n].f0 ∧ True from ⟨a1, trivial⟩)]
          by_cases h0 : 0 < n
          · rw [if_pos (show (n : Int) > 0 by omega), if_pos (show 0 ≤ wrap64 ((n : Int) - 1) by rw [hw h0]; omega), if_pos (show wrap64 ((n : Int) - 1) < (l.length : Int) by rw [hw h0]; omega), hw h0, rdE l (n - 1) (by omega), dif_pos h0]
          · rw [if_neg (show ¬ (n : Int) > 0 by omega), dif_neg h0]
        · simp only [if_pos a1, a2, decide_false, Option.bind_some, Bool.false_eq_true, if_false, and_false]
      · simp only [if_neg a1, Option.bind_some, Bool.false_eq_true, if_false, if_neg (show ¬ (0 ≤ l[n].f0 ∧ l[n].f0 ≤ 9999) from fun z => a1 z.1)]
    · refine Ev.bind (implNext_ev _ _) ?_
      by_cases c : 0 ≤ nxt s l[n].f1
      · simp only [if_pos c, if_true]
        by_cases a : 0 ≤ l[n].f0 ∧ l[n].f0 ≤ 9999
        · simp only [if_pos a]
          by_cases h0 : 0 < n
          · simp only [dif_pos h0]
            by_cases b : l[n].f0 < l[n - 1].f0
            · simp only [if_pos b]
              rw [if_neg (show ¬ okE l n s hln from fun z => by have := z.2.2.1 h0; omega)]; exact Ev.now _
            · simp only [if_neg b]
              rw [if_pos (show okE l n s hln from ⟨a.1, a.2, fun _ => by omega, c⟩)]; exact ih (n + 1) _ (by omega)
          · simp only [dif_neg h0]
            rw [if_pos (show okE l n s hln from ⟨a.1, a.2, fun z => absurd z h0, c⟩)]; exact ih (n + 1) _ (by omega)
        · simp only [if_neg a]
          rw [if_neg (show ¬ okE l n s hln from fun z => a ⟨z.1, z.2.1⟩)]; exact Ev.now _
      · simp only [if_neg c, Bool.false_eq_true, if_false]
        rw [if_neg (show ¬ okE l n s hln from fun z => c z.2.2.2)]; exact Ev.now _
/-- The state after a history; none if it is none. -/
noncomputable def hist (l : List Event) : Option Int := if l.length ≤ 20 then runE l l.length 0 0 else none
theorem hist_nonneg {l : List Event} {s : Int} (h : hist l = some s) : 0 ≤ s := by
  unfold hist at h
  split at h
  · exact runE_nonneg l _ _ _ _ (by omega) h
  · cases h
theorem specState_ev (l : List Event) : Ev (fun k => spec_l23State.f k l) ((hist l).getD (-1)) := by
  unfold spec_l23State.f hist
  by_cases h : l.length ≤ 20
  · simp only [if_neg (show ¬ (l.length : Int) > 20 by omega), if_pos h]; exact specState_loop l h l.length 0 0 (by omega) (by omega)
  · simp only [if_pos (show (l.length : Int) > 20 by omega), if_neg h]; exact Ev.now _
theorem implState_ev (l : List Event) (hl : l.length ≤ 1048576) : ∃ r, Ev (fun k => impl_stateAfter.f k l) r ∧ r.2 = (hist l).isSome ∧ ∀ s, hist l = some s → r.1 = s := by
  refine ⟨_, implState_loop l hl l.length 0 0 (by omega), ?_⟩
  unfold hist
  by_cases h : l.length ≤ 20
  · rw [if_pos h]; cases runE l l.length 0 0 <;> simp [h]
  · rw [if_neg h]; cases runE l l.length 0 0 <;> simp [h]
end Go.Proofs.Ytpalafegcndccaa.X

/- Lists of integers: equality, marks, and what is held of them. -/
namespace Go.Proofs.Ytpalafegcndccaa.X
open Go.RowKit Go.Proofs.YtpalafegcndccaaW.PrintWords Go.Proofs.YtpalafegcndccaaL
set_option linter.unusedVariables false
set_option linter.unusedSimpArgs false
theorem eqIntS_ev (l : List Int) (h : l.length ≤ 4611686018427387904) : Ev (fun k => laws_eqIntS.f k l l) true := by
  have key : ∀ (d n : Nat), n + d = l.length → Ev (fun k => laws_eqIntS.l0 k l l n) true := by
    intro d
    induction d with
    | zero => intro n hn; exact Ev.step (f := fun _ => some _) (fun k => by simp only [laws_eqIntS.l0]; rw [if_neg (by omega)]) (Ev.now _)
    | succ d ih =>
      intro n hn
      refine Ev.step (f := fun k => laws_eqIntS.l0 k l l ((n + 1 : Nat) : Int)) (fun k => ?_) (ih (n + 1) (by omega))
      simp only [laws_eqIntS.l0]
      rw [if_pos (by omega), if_pos (by omega), if_pos (by omega), wrap_succ (by omega)]
      simp
  exact Ev.congr (f := fun k => laws_eqIntS.l0 k l l ((0 : Nat) : Int)) (fun k => by unfold laws_eqIntS.f; rw [if_pos rfl]; rfl) (key l.length 0 (by omega))
def cnt (n : Nat) : List Int := (List.range n).map fun (i : Nat) => (i : Int) + 1
theorem cnt_length (n : Nat) : (cnt n).length = n := by simp [cnt]
theorem cnt_succ (n : Nat) : cnt (n + 1) = cnt n ++ [(n : Int) + 1] := by simp [cnt, List.range_succ]
theorem cnt_get (n i : Nat) (h : i < (cnt n).length) : (cnt n)[i] = (i : Int) + 1 := by simp [cnt]
theorem markIntS_ev (l : List Int) (h : l.length ≤ 4611686018427387904) : Ev (fun k => laws_markIntS.f k l 1) ((l.length : Int) + 1, cnt l.length) := by
  have key : ∀ (d n : Nat), n + d = l.length → Ev (fun k => laws_markIntS.l0 k (cnt n ++ l.drop n) ((n : Int) + 1) n) ((l.length : Int) + 1, cnt l.length) := by
    intro d
    induction d with
    | zero =>
      intro n hn
      obtain rfl : n = l.length := by omega
      refine Ev.step (f := fun _ => some _) (fun k => ?_) (Ev.now _)
      have : (cnt l.length ++ l.drop l.length) = cnt l.length := by simp
      rw [this]
      simp only [laws_markIntS.l0, cnt_length]; rw [if_neg (by omega)]
    | succ d ih =>
      intro n hn
      refine Ev.step (f := fun k => laws_markIntS.l0 k (cnt (n + 1) ++ l.drop (n + 1)) (((n + 1 : Nat) : Int) + 1) ((n + 1 : Nat) : Int)) (fun k => ?_) (ih (n + 1) (by omega))
      have hlen : (cnt n ++ l.drop n).length = l.length := by rw [List.length_append, cnt_length, List.length_drop]; omega
      have hset : (cnt n ++ l.drop n).set n ((n : Int) + 1) = cnt (n + 1) ++ l.drop (n + 1) := by
        rw [List.set_append_right _ _ (by rw [cnt_length]; omega), cnt_length, Nat.sub_self, List.drop_eq_getElem_cons (show n < l.length by omega), cnt_succ, List.set_cons_zero, List.append_assoc]
        rfl
      simp only [laws_markIntS.l0, hlen, Int.toNat_natCast, hset]
      rw [if_pos (by omega), if_pos (by omega), wrap_id (x := (n : Int) + 1 + 1) (by omega) (by omega), wrap_succ (by omega)]
      rfl
  exact Ev.congr (f := fun k => laws_markIntS.l0 k (cnt 0 ++ l.drop 0) (((0 : Nat) : Int) + 1) ((0 : Nat) : Int)) (fun k => rfl) (key l.length 0 (by omega))
theorem heldIntS_ev (m : Nat) (h : m ≤ 4611686018427387904) : Ev (fun k => laws_heldIntS.f k (cnt m) 1) ((m : Int) + 1) := by
  have key : ∀ (d n : Nat), n + d = m → Ev (fun k => laws_heldIntS.l0 k (cnt m) ((n : Int) + 1) n) ((m : Int) + 1) := by
    intro d
    induction d with
    | zero =>
      intro n hn
      obtain rfl : n = m := by omega
      exact Ev.step (f := fun _ => some _) (fun k => by simp only [laws_heldIntS.l0, cnt_length]; rw [if_neg (by omega)]) (Ev.now _)
    | succ d ih =>
      intro n hn
      refine Ev.step (f := fun k => laws_heldIntS.l0 k (cnt m) (((n + 1 : Nat) : Int) + 1) ((n + 1 : Nat) : Int)) (fun k => ?_) (ih (n + 1) (by omega))
      simp only [laws_heldIntS.l0, cnt_length]
      rw [if_pos (by omega), if_pos (by omega), rd_at _ n (by rw [cnt_length]; omega), cnt_get, if_pos rfl, wrap_id (x := (n : Int) + 1 + 1) (by omega) (by omega), wrap_succ (by omega)]
      rfl
  exact Ev.congr (f := fun k => laws_heldIntS.l0 k (cnt m) (((0 : Nat) : Int) + 1) ((0 : Nat) : Int)) (fun k => rfl) (key m 0 (by omega))
end Go.Proofs.Ytpalafegcndccaa.X

/- The next kinds of a history; marks of events. -/
namespace Go.Proofs.Ytpalafegcndccaa.X
open Go.RowKit Go.Proofs.YtpalafegcndccaaW.PrintWords Go.Proofs.YtpalafegcndccaaL
set_option linter.unusedVariables false
set_option linter.unusedSimpArgs false
theorem markEventS_ev (l : List Event) (h : l.length ≤ 1048576) : ∃ r, Ev (fun k => laws_markEventS.f k l 1) r ∧ 0 ≤ r.1 := by
  have key : ∀ (d n : Nat) (x : List Event), x.length = l.length → n + d = l.length → ∃ r, Ev (fun k => laws_markEventS.l0 k x (2 * (n : Int) + 1) n) r ∧ 0 ≤ r.1 := by
    intro d
    induction d with
    | zero => intro n x hx hn; exact ⟨(2 * (n : Int) + 1, x), Ev.step (f := fun _ => some _) (fun k => by simp only [laws_markEventS.l0]; rw [if_neg (by omega)]) (Ev.now _), by show (0 : Int) ≤ 2 * (n : Int) + 1; omega⟩
    | succ d ih =>
      intro n x hx hn
      obtain ⟨r, hr, h0⟩ := ih (n + 1) ((x.set (n : Int).toNat ⟨2 * (n : Int) + 1, (rd_T61 x n).f1⟩).set (n : Int).toNat ⟨(rd_T61 (x.set (n : Int).toNat ⟨2 * (n : Int) + 1, (rd_T61 x n).f1⟩) n).f0, 2 * (n : Int) + 1 + 1⟩) (by rw [List.length_set, List.length_set]; exact hx) (by omega)
      refine ⟨r, Ev.step (fun k => ?_) hr, h0⟩
      simp only [laws_markEventS.l0]
      rw [if_pos (by omega), if_pos (by omega)]
      simp only [Option.bind_some]
      rw [wrap_id (x := 2 * (n : Int) + 1 + 1) (by omega) (by omega), wrap_id (x := 2 * (n : Int) + 1 + 1 + 1) (by omega) (by omega), wrap_succ (by omega), show 2 * (n : Int) + 1 + 1 + 1 = 2 * ((n + 1 : Nat) : Int) + 1 by omega]
  obtain ⟨r, hr, h0⟩ := key l.length 0 l rfl (by omega)
  exact ⟨r, hr, h0⟩
def kindStep (s x : Int) (out : List Int) : List Int := if 0 ≤ nxt s x then out ++ [x] else out
def kindsOf (s : Int) (n : Nat) : List Int := if n < 20 then loopN (kindStep s) 6 1 [] else []
theorem loopKinds_length (s : Int) : ∀ (d : Nat) (x : Int) (out : List Int), (loopN (kindStep s) d x out).length ≤ out.length + d := by
  intro d
  induction d with
  | zero => intro x out; simp [loopN]
  | succ d ih =>
    intro x out
    show (loopN (kindStep s) d (x + 1) (kindStep s x out)).length ≤ _
    have := ih (x + 1) (kindStep s x out)
    have h2 : (kindStep s x out).length ≤ out.length + 1 := by unfold kindStep; split <;> simp
    omega
theorem kindsOf_length (s : Int) (n : Nat) : (kindsOf s n).length ≤ 6 := by
  unfold kindsOf
  split
  · have := loopKinds_length s 6 1 []; simpa using this
  · simp
theorem specKinds_loop (l : List Event) (s : Int) (hl : l.length < 20) : ∀ (d : Nat) (x : Int) (out : List Int), x + d = 7 → 1 ≤ x → out.length ≤ 100 - d → d ≤ 6 → Ev (fun k => spec_NextKinds.l0 k l out s x) (loopN (kindStep s) d x out, true) := by
  intro d
  induction d with
  | zero => intro x out hx h1 hb hd; exact Ev.step (f := fun k => spec_NextKinds.j1 k l out s x false) (fun k => by simp only [spec_NextKinds.l0]; rw [if_neg (by omega)]) (Ev.step (f := fun _ => some _) (fun k => by simp only [spec_NextKinds.j1]; rw [if_neg (by decide)]; rfl) (Ev.now _))
  | succ d ih =>
    intro x out hx h1 hb hd
    refine Ev.step (f := fun k => spec_NextKinds.j1 k l out s x true) (fun k => by simp only [spec_NextKinds.l0]; rw [if_pos (by omega), decide_eq_true (by omega)]) ?_
    refine Ev.step (f := fun k => (spec_l23Next.f k s x).bind fun t => if t ≥ 0 then spec_NextKinds.l0 k l (out ++ [x]) s (x + 1) else spec_NextKinds.l0 k l out s (x + 1)) (fun k => by simp only [spec_NextKinds.j1, if_true]; rw [wrap_id (x := x + 1) (by omega) (by omega), if_pos (show out.length < 17592186044416 by omega)]) ?_
    refine Ev.bind (specNext_ev _ _) ?_
    show Ev _ (loopN (kindStep s) d (x + 1) (kindStep s x out), true)
    unfold kindStep
    by_cases c : 0 ≤ nxt s x
    · simp only [if_pos c, if_pos (show nxt s x ≥ 0 from c)]; exact ih (x + 1) _ (by omega) (by omega) (by simp; omega) (by omega)
    · simp only [if_neg c, if_neg (show ¬ nxt s x ≥ 0 from c)]; exact ih (x + 1) _ (by omega) (by omega) (by omega) (by omega)
theorem implKinds_loop (l : List Event) (s : Int) (hl : l.length < 20) : ∀ (d : Nat) (x : Int) (out : List Int), x + d = 7 → 1 ≤ x → out.length ≤ 100 - d → d ≤ 6 → Ev (fun k => impl_NextKinds.l0 k l s out x) (loopN (kindStep s) d x out, true) := by
  intro d
  induction d with
  | zero => intro x out hx h1 hb hd; exact Ev.step (f := fun k => impl_NextKinds.j1 k l s out x false) (fun k => by simp only [impl_NextKinds.l0]; rw [if_neg (by omega)]) (Ev.step (f := fun _ => some _) (fun k => by simp only [impl_NextKinds.j1]; rw [if_neg (by decide)]; rfl) (Ev.now _))
  | succ d ih =>
    intro x out hx h1 hb hd
    refine Ev.step (f := fun k => impl_NextKinds.j1 k l s out x true) (fun k => by simp only [impl_NextKinds.l0]; rw [if_pos (by omega), decide_eq_true (by omega)]) ?_
    refine Ev.step (f := fun k => (impl_nextState.f k s x).bind fun t => if t.2 = true then impl_NextKinds.l0 k l s (out ++ [x]) (x + 1) else impl_NextKinds.l0 k l s out (x + 1)) (fun k => by simp only [impl_NextKinds.j1, if_true]; rw [wrap_id (x := x + 1) (by omega) (by omega), if_pos (show out.length < 17592186044416 by omega)]) ?_
    refine Ev.bind (implNext_ev _ _) ?_
    show Ev _ (loopN (kindStep s) d (x + 1) (kindStep s x out), true)
    unfold kindStep
    by_cases c : 0 ≤ nxt s x
    · simp only [if_pos c, if_true]; exact ih (x + 1) _ (by omega) (by omega) (by simp; omega) (by omega)
    · simp only [if_neg c, Bool.false_eq_true, if_false]; exact ih (x + 1) _ (by omega) (by omega) (by omega) (by omega)
noncomputable def nextKinds (l : List Event) : List Int × Bool := match hist l with | some s => (kindsOf s l.length, true) | none => ([], false)
theorem nextKinds_length (l : List Event) : (nextKinds l).1.length ≤ 6 := by
  unfold nextKinds
  cases hist l with
  | none => simp
  | some s => exact kindsOf_length s _
theorem specKinds_ev (l : List Event) : Ev (fun k => spec_NextKinds.f k l) (nextKinds l) := by
  unfold spec_NextKinds.f nextKinds
  simp only [Option.bind_some]
  refine Ev.bind (specState_ev l) ?_
  cases h : hist l with
  | none => simp only [Option.getD_none, if_pos (show (-1 : Int) < 0 by omega)]; exact Ev.now _
  | some s =>
    have hs := hist_nonneg h
    simp only [Option.getD_some, if_neg (show ¬ s < 0 by omega)]
    unfold kindsOf
    by_cases hl : l.length < 20
    · rw [if_pos hl]; exact specKinds_loop l s hl 6 1 [] (by omega) (by omega) (by simp) (by omega)
    · rw [if_neg hl]
      exact Ev.step (f := fun k => spec_NextKinds.j1 k l [] s 1 false) (fun k => by simp only [spec_NextKinds.l0]; rw [if_pos (by omega), decide_eq_false (by omega)]) (Ev.step (f := fun _ => some _) (fun k => by simp only [spec_NextKinds.j1]; rw [if_neg (by decide)]) (Ev.now _))
theorem implKinds_ev (l : List Event) (hb : l.length ≤ 1048576) : Ev (fun k => impl_NextKinds.f k l) (nextKinds l) := by
  unfold impl_NextKinds.f nextKinds
  obtain ⟨r, hr, h2, h1⟩ := implState_ev l hb
  refine Ev.bind hr ?_
  cases h : hist l with
  | none =>
    rw [h] at h2
    simp only [h2, Option.isSome_none, Bool.false_eq_true, if_false]; exact Ev.now _
  | some s =>
    rw [h] at h2
    simp only [h2, Option.isSome_some, if_true, h1 s h]
    unfold kindsOf
    by_cases hl : l.length < 20
    · rw [if_pos hl]; exact implKinds_loop l s hl 6 1 [] (by omega) (by omega) (by simp) (by omega)
    · rw [if_neg hl]
      exact Ev.step (f := fun k => impl_NextKinds.j1 k l s [] 1 false) (fun k => by simp only [impl_NextKinds.l0]; rw [if_pos (by omega), decide_eq_false (by omega)]) (Ev.step (f := fun _ => some _) (fun k => by simp only [impl_NextKinds.j1]; rw [if_neg (by decide)]) (Ev.now _))
end Go.Proofs.Ytpalafegcndccaa.X

/- NextKinds of the program and of the reference answer alike, whatever the list; the result lies in memory of its own. -/
namespace Go.Proofs.Ytpalafegcndccaa.Pure
open Go.RowKit Go.Proofs.YtpalafegcndccaaW.PrintWords Go.Proofs.YtpalafegcndccaaL Go.Proofs.Ytpalafegcndccaa.X
theorem FnExactNextKinds : OFnExactNextKinds.Pure := by
  intro l hl
  refine ev_rounds ?_
  by_cases hb : l.length ≤ 1048576
  · unfold laws_FnExactNextKinds.f
    simp only [szEventS_ok l hb, Option.bind_some, if_neg (show ¬ (1048576 - (l.length : Int)) < 0 by omega)]
    have hm : (l.map convE).length ≤ 1048576 := by simpa using hb
    have h6 := nextKinds_length (l.map convE)
    refine Ev.bind (toEventS_ev l hb) ?_
    refine Ev.bind (specKinds_ev _) ?_
    refine Ev.bind (toEventS_ev l hb) ?_
    refine Ev.bind (implKinds_ev _ hm) ?_
    generalize hr : nextKinds (l.map convE) = r at h6
    refine Ev.bind (eqIntS_ev _ (by omega)) ?_
    simp only [bne_self_eq_false, if_true]
    obtain ⟨q, hq, hq0⟩ := markEventS_ev (l.map convE) hm
    refine Ev.step (f := fun k => (laws_toEventS.f k l).bind fun t => (laws_eqEventS.f k (l.map convE) t).bind fun t2 => if t2 = true then (laws_markEventS.f k (l.map convE) 1).bind fun b => if b.1 < 0 then laws_FnExactNextKinds.j1 k l r.1 r.2 r.1 true else (laws_eqIntS.f k r.1 r.1).bind fun t3 => if t3 = true then laws_FnExactNextKinds.j1 k l r.1 r.2 r.1 (r.2 != r.2) else laws_FnExactNextKinds.j1 k l r.1 r.2 r.1 true else some false) (fun k => ?_) ?_
    · simp only [laws_FnExactNextKinds.j0]
      rw [if_neg (by decide)]
    refine Ev.bind (toEventS_ev l hb) (Ev.bind (eqEventS_ev _ hm) ?_)
    simp only [if_true]
    refine Ev.bind hq ?_
    simp only [if_neg (show ¬ q.1 < 0 by omega)]
    refine Ev.bind (eqIntS_ev _ (by omega)) ?_
    simp only [if_true, bne_self_eq_false]
    refine Ev.step (f := fun k => (laws_markIntS.f k r.1 1).bind fun b => (laws_heldIntS.f k b.2 1).bind fun t => if t < 0 then some false else if t = b.1 then (laws_toEventS.f k l).bind fun t2 => (impl_NextKinds.f k t2).bind fun c => (laws_eqIntS.f k c.1 r.1).bind fun t3 => if t3 = true then laws_FnExactNextKinds.j2 k b.2 b.1 (c.2 != r.2) else laws_FnExactNextKinds.j2 k b.2 b.1 true else some false) (fun k => ?_) ?_
    · simp only [laws_FnExactNextKinds.j1]
      rw [if_neg (by decide)]
    refine Ev.bind (markIntS_ev _ (by omega)) ?_
    refine Ev.bind (heldIntS_ev _ (by omega)) ?_
    simp only [if_neg (show ¬ ((r.1.length : Int) + 1) < 0 by omega), if_true]
    refine Ev.bind (toEventS_ev l hb) ?_
    refine Ev.bind (implKinds_ev _ hm) ?_
    rw [hr]
    refine Ev.bind (eqIntS_ev _ (by omega)) ?_
    simp only [if_true, bne_self_eq_false]
    refine Ev.step (f := fun k => (laws_heldIntS.f k (cnt r.1.length) 1).bind fun t => if t < 0 then some false else if t = (r.1.length : Int) + 1 then some true else some false) (fun k => ?_) ?_
    · simp only [laws_FnExactNextKinds.j2]
      rw [if_neg (by decide)]
    refine Ev.bind (heldIntS_ev _ (by omega)) ?_
    simp only [if_neg (show ¬ ((r.1.length : Int) + 1) < 0 by omega), if_true]
    exact Ev.now _
  · refine ev_eq (fun k => ?_)
    unfold laws_FnExactNextKinds.f
    rw [szEventS_big l (by omega) hl.2.1]
    rfl
end Go.Proofs.Ytpalafegcndccaa.Pure


namespace Go.Proofs.Ytpalafegcndccaa.fnExactNextKinds
open Go.ChangeShapes Go.WideShapes Go.ChangeAt Go.RowKit
open Go.ChangeMaps (open_string shut_string)
open Go.Joins
open Go.Proofs.YtpalafegcndccaaW.PrintWords Go.Proofs.YtpalafegcndccaaW.PrintLast Go.Proofs.YtpalafegcndccaaW.PrintMore
open Go.Proofs.YtpalafegcndccaaZ Go.Proofs.Ytpalafegcndccaa.X Go.Proofs.Ytpalafegcndccaa.X.OFnExactNextKinds
set_option linter.unusedVariables false
set_option linter.unusedSimpArgs false
theorem own : ownKnob Try.prog.godebug = none := by kernel_rfl
theorem laidOut : laidOutB Try.prog = true := by kernel_rfl
set_option maxRecDepth 100000 in
set_option maxHeartbeats 2000000 in
theorem lifted (os : Os) (started : os.Started) (H : Type) (enc : TypeId × Value → H) :
    ReturnsInHanded {} Try.checked os 3 .any (Rows.fnExactNextKindsSpec.pre6 enc Try.prog Try.f3 Rows.fnExactNextKindsRow.domain false) (Rows.fnExactNextKindsSpec.post enc Try.prog Try.f3 false true false false) := by
  refine returnsInHanded_of_change_sized (C := Try.checked) own started (by kernel_rfl) Try.func3
    (ChangeSpec.witness6 (enc := enc) (C := Try.checked) false ⟨#[], #[.slice none 0 0], []⟩ 8 (by kernel_rfl) (by kernel_rfl) (by kernel_rfl) (by kernel_rfl)) ?_
  intro W base args ds gs before hval0 hW hcnd hsz0 _
  have hsz : (DataW.weightsEach Try.prog (Try.f3.params.toList ++ Rows.fnExactNextKindsSpec.plain.varTypes Try.prog) (ds ++ gs)).all (· ≤ reachBytes) = true := hsz0
  have hval : ∀ (j : Nat) t v, Try.f3.params[j]? = some t → args[j]? = some v → Value.okWide Try.prog W .any base t v := hval0
  have hW' := hW
  obtain ⟨p, q, hA0, hV, rfl, hfz, hnd⟩ := hW
  have hA : DataW.TrodAll enc Try.prog W 0 (fun _ => true) true Try.f3.params.toList args.toList ds p := hA0
  rw [Try.params3] at hA hval hsz
  obtain ⟨v0, vs0, d0, ds0, p0, q0, hargs, rfl, rfl, h0, r0⟩ := trodAll_cons hA
  obtain ⟨rfl, rfl, rfl⟩ := trodAll_nil r0
  obtain rfl : args = #[v0] := by cases args; simp_all
  obtain ⟨rfl, rfl⟩ := trodVars_none hV
  obtain ⟨a0, len0, cap0, rfl⟩ := okWide_slice Try.underlying22 (hval 0 22 v0 rfl rfl)
  have k0 := h0
  have lt0 : ∀ x ∈ p0, x.block < W.heap.size := by obtain ⟨m, hm⟩ := k0; exact DataW.trod_lt m _ _ _ hm
  obtain ⟨l0, rfl, hc0, hr0, w0⟩ : ∃ l : List (S63), len0 = l.length ∧ l.length ≤ cap0 ∧ Kd.C k63 W a0 l.length l ∧ (l.length * 16 ≤ 140737488351232 ∧ l.length ≤ 9223372036854775807 ∧ ∀ y1 ∈ l, fitsT63 y1) := by
    obtain ⟨fuel, hf⟩ := h0
    obtain ⟨l, ⟨A_, c_, e_, hl_, hC_⟩, hfit_⟩ := (opens_slice z63 Try.underlying22 (by kernel_rfl) opensT63 (by kernel_rfl)) hf (weights_param hsz (j := 0) rfl rfl)
    simp [Value.cells] at e_
    obtain ⟨rfl, rfl, rfl⟩ := e_
    exact ⟨l, rfl, hl_, hC_, hfit_⟩
  clear hA0 hval0 hsz0 hsz
  obtain ⟨k, h⟩ := Go.Proofs.Ytpalafegcndccaa.Pure.FnExactNextKinds l0 w0
  refine (laws_FnExactNextKinds.calls k a0 cap0 l0 true W hr0 hc0 h).mono fun e W' ⟨he, bel0⟩ => ?_
  have bel : Below W.heap.size W W' := bel0
  subst he
  exact ⟨_, rfl, _, _, _, [], _, [], hW', trodAll_mk1 (shut_bool Try.underlying4 _), (trodAll_cons_mk (Below.trod laidOut (by kernel_rfl) (of_decide_eq_true (by kernel_rfl)) k0 bel lt0) trodAll_mk0), rfl, bel.frame _, fun h => by cases h⟩
theorem over : Rows.fnExactNextKindsRow.holds Try.pinned (OpenSpec.ofChange Rows.fnExactNextKindsSpec) :=
  OpenClaim.holds_of_wide 3 Try.f3 rfl rfl rfl rfl rfl rfl rfl ⟨rfl, rfl, rfl, rfl, rfl⟩ rfl rfl rfl rfl rfl (by kernel_rfl) Try.func3 (by kernel_rfl)
    (of_decide_eq_true (by kernel_rfl)) (by unfold Func.isWrapper; first | (rw [if_pos (by decide +kernel)]; kernel_rfl) | (rw [if_neg (by decide +kernel)]; exact ⟨rfl, rfl⟩))
    (fun os started H enc _ => lifted os started H enc)
theorem proved : Rows.FnExactNextKindsSaid := over
#print axioms proved
end Go.Proofs.Ytpalafegcndccaa.fnExactNextKinds
namespace Go.Proofs.Ytpalafegcndccaa
/-- The row, under a short name, for the claim. -/
theorem fnExactNextKinds_holds : Rows.FnExactNextKindsSaid := fnExactNextKinds.proved
end Go.Proofs.Ytpalafegcndccaa

