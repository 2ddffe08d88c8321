/- Texts that the proof of the law FnExactMakeOrder leans on, part 6 of 7. -/
import Derived.Deep.Slices
import Derived.ChangeSame
import Derived.ChangeArms
import Derived.DataReads
import Derived.SizedLaws
import Derived.ProofKit
import Derived.Lib.SmallJoins
import Derived.ChangeOld
import Derived.Below
import Derived.Test.YtnggfglmjdiaaaaKFnExactMakeOrder0
import Derived.Test.YtnggfglmjdiaaaaKFnExactMakeOrder1
import Derived.Test.YtnggfglmjdiaaaaKFnExactMakeOrder2
import Derived.Test.YtnggfglmjdiaaaaKFnExactMakeOrder3
import Derived.Test.YtnggfglmjdiaaaaKFnExactMakeOrder4
set_option linter.unusedVariables false
set_option linter.unusedSimpArgs false
namespace Go.Proofs.Ytnggfglmjdiaaaa.X
open Go.RowKit Go.Proofs.YtnggfglmjdiaaaaW.PrintWords Go.Proofs.YtnggfglmjdiaaaaW.PrintLast Go.Proofs.YtnggfglmjdiaaaaW.PrintMore
attribute [local go_sem] max2_int min2_int max_two min_two max_three min_three max_four min_four
def D6.f (k : Nat) (l0_0 : List (List Int)) (a0_1 : Int) (l0_2 : List (List Int)) (a1_0 : Int) (a1_1 : Int) (a1_2 : Int) : Option (Bool) := ((C9.f k l0_0 a0_1 l0_2 1048576).bind fun t6 => (if t6 < 0 then some true else ((Bi.f k l0_0 a0_1 l0_2).bind fun t17 => ((laws_toOrder.f a1_0 a1_1 a1_2).bind fun t22 => ((Dj.f k t17.1 t17.2.1 t17.2.2 t22.1 t22.2.1 t22.2.2).bind fun t34 => ((Bi.f k l0_0 a0_1 l0_2).bind fun t47 => ((laws_toOrder.f a1_0 a1_1 a1_2).bind fun t54 => ((Bq.f k t47.1 t47.2.1 t47.2.2 t54.1 t54.2.1 t54.2.2).bind fun t66 => ((Bv.f k t66.1 t66.2.1 t66.2.2.1 t34.1 t34.2.1 t34.2.2.1).bind fun t71 => (if t71 = true then (if t66.2.2.2 = t34.2.2.2 then ((Bi.f k l0_0 a0_1 l0_2).bind fun t82 => ((Bv.f k t47.1 t47.2.1 t47.2.2 t82.1 t82.2.1 t82.2.2).bind fun t85 => (if t85 = true then ((Cj.f k t47.1 t47.2.1 t47.2.2 1).bind fun t90 => ((Bv.f k t66.1 t66.2.1 t66.2.2.1 t34.1 t34.2.1 t34.2.2.1).bind fun t93 => (if t93 = true then (if ¬ t90.1 < 0 then (if t66.2.2.2 = t34.2.2.2 then ((Cj.f k t66.1 t66.2.1 t66.2.2.1 1).bind fun t98 => ((Ci.f k t98.2.1 t66.2.1 t98.2.2 1).bind fun t101 => (if ¬ t101 < 0 then (if t101 = t98.1 then ((Bi.f k l0_0 a0_1 l0_2).bind fun t112 => ((laws_toOrder.f a1_0 a1_1 a1_2).bind fun t117 => ((Bq.f k t112.1 t112.2.1 t112.2.2 t117.1 t117.2.1 t117.2.2).bind fun t129 => ((Bv.f k t129.1 t129.2.1 t129.2.2.1 t34.1 t34.2.1 t34.2.2.1).bind fun t134 => (if t134 = true then (if t129.2.2.2 = t34.2.2.2 then ((Ci.f k t98.2.1 t66.2.1 t98.2.2 1).bind fun t137 => (if ¬ t137 < 0 then (if t137 = t98.1 then some true else none) else none)) else none) else none))))) else none) else none))) else none) else none) else none))) else none))) else none) else none))))))))))
set_option maxHeartbeats 8000000 in
set_option maxRecDepth 100000 in
theorem D6.calls (k : Nat) (A0_0 : Option Addr) (c0_0 : Nat) (l0_0 : List (List Int)) (a0_1 : Int) (A0_2 : Option Addr) (c0_2 : Nat) (l0_2 : List (List Int)) (a1_0 : Int) (a1_1 : Int) (a1_2 : Int) (r : Bool) (w : World) (hr0_0 : Kd.C (Kd.slice 3 (Kd.int .i64)) w A0_0 l0_0.length l0_0) (hc0_0 : l0_0.length ≤ c0_0) (hr0_2 : Kd.C (Kd.slice 3 (Kd.int .i64)) w A0_2 l0_2.length l0_2) (hc0_2 : l0_2.length ≤ c0_2) (h : D6.f k l0_0 a0_1 l0_2 a1_0 a1_1 a1_2 = some r) (_hr : r = true) :
  Calls Try.prog 6 #[.agg #[.slice A0_0 l0_0.length c0_0, .int .i64 a0_1, .slice A0_2 l0_2.length c0_2], .agg #[.int .i64 a1_0, .int .i64 a1_1, .int .i64 a1_2]] w fun e w' => e = .returned (.bool r) ∧ Below w.heap.size w w' := by
 have hu28 := Try.underlying28
 have hu34 := Try.underlying34
 have hu42 := Try.underlying42
 have HR0_0 := Aside0.mk hr0_0
 have HC0_0 := Aside0.mk hc0_0
 clear hr0_0 hc0_0
 have HR0_2 := Aside0.mk hr0_2
 have HC0_2 := Aside0.mk hc0_2
 clear hr0_2 hc0_2
 have HB := Aside0.mk (Below.refl w.heap.size w)
 unfold D6.f at h
 replace h := Option.bind_eq_some_iff.mp h
 obtain ⟨r5, a_, h⟩ := h
 have A7 := Aside0.mk a_
 clear a_
 by_cases c_ : r5 < 0
 ·rw [if_pos c_] at h
  obtain rfl := Option.some.inj h
  have cb1 : decide (r5 < 0) = true := decide_eq_true c_
  clear c_
  go_enter Try.func6, Try.ntmps6
  go_wp2_with (first | ((with_reducible refine gate_dst (N := 2) rfl ?_); refine box_event ?hg (N := 2) ?hd (cs := #[.slice A0_0 l0_0.length c0_0, .int .i64 a0_1, .slice A0_2 l0_2.length c0_2]) (t := 28) ?hr ?_; (case hd => rfl); (case hg => rfl); (case hr => first | (go_simp; done) | (go_simp; rfl)); intro gb2 hg w139 hbox hb; (try clear hzgb2_0 hzgb2_1 hzgb2_2); have GEgb2 := Aside0.mk (show w.heap.size ≤ gb2 by rw [hg]; exact below_size Yb_); have BK140 := Aside0.mk hbox; have HSw139 := Aside0.mk (show w.heap.size ≤ w139.heap.size from hb.size); have m_ := Aside0.mk (below_step HB.out hb); clear HB; have HB := m_; clear m_; clear hb hbox hg; have hzgb2_0 : w139.cell? ⟨gb2, 0, none⟩ = some (.slice A0_0 l0_0.length c0_0) := (blk_cell BK140.out 0).trans rfl; have hzgb2_1 : w139.cell? ⟨gb2, 1, none⟩ = some (.int .i64 a0_1) := (blk_cell BK140.out 1).trans rfl; have hzgb2_2 : w139.cell? ⟨gb2, 2, none⟩ = some (.slice A0_2 l0_2.length c0_2) := (blk_cell BK140.out 2).trans rfl) | ((with_reducible refine gate_dst (N := 3) rfl ?_); refine box_event ?hg (N := 3) ?hd (cs := #[.int .i64 a1_0, .int .i64 a1_1, .int .i64 a1_2]) (t := 42) ?hr ?_; (case hd => rfl); (case hg => rfl); (case hr => first | (go_simp; done) | (go_simp; rfl)); intro gb4 hg w141 hbox hb; (try clear hzgb2_0 hzgb2_1 hzgb2_2); (try clear hzgb4_0 hzgb4_1 hzgb4_2); have NBgb2_gb4 := Aside0.mk (show gb2 ≠ gb4 by rw [hg]; exact Nat.ne_of_lt (blk_lt BK140.out)); have GEgb4 := Aside0.mk (show w.heap.size ≤ gb4 by rw [hg]; exact below_size Yb_); have BK142 := Aside0.mk hbox; have m_ := Aside0.mk (blk_below BK140.out hb); clear BK140; have BK140 := m_; clear m_; have HSw141 := Aside0.mk (show w139.heap.size ≤ w141.heap.size from hb.size); have m_ := Aside0.mk (below_step HB.out hb); clear HB; have HB := m_; clear m_; clear hb hbox hg; have hzgb2_0 : w141.cell? ⟨gb2, 0, none⟩ = some (.slice A0_0 l0_0.length c0_0) := (blk_cell BK140.out 0).trans rfl; have hzgb2_1 : w141.cell? ⟨gb2, 1, none⟩ = some (.int .i64 a0_1) := (blk_cell BK140.out 1).trans rfl; have hzgb2_2 : w141.cell? ⟨gb2, 2, none⟩ = some (.slice A0_2 l0_2.length c0_2) := (blk_cell BK140.out 2).trans rfl; have hzgb4_0 : w141.cell? ⟨gb4, 0, none⟩ = some (.int .i64 a1_0) := (blk_cell BK142.out 0).trans rfl; have hzgb4_1 : w141.cell? ⟨gb4, 1, none⟩ = some (.int .i64 a1_1) := (blk_cell BK142.out 1).trans rfl; have hzgb4_2 : w141.cell? ⟨gb4, 2, none⟩ = some (.int .i64 a1_2) := (blk_cell BK142.out 2).trans rfl) | ((with_reducible refine gate_callee (f := 10) rfl ?_); (try (refine gate_guard (by rfl) ?_; dsimp only)); refine goesL_ (some 18) rfl rfl Try.func10 Yj_ rfl #[.agg #[.slice A0_0 l0_0.length c0_0, .int .i64 a0_1, .slice A0_2 l0_2.length c0_2], .int .i64 1048576] rfl Yd_ ?_; (with_reducible refine (C9.calls k _ _ l0_0 a0_1 _ _ l0_2 1048576 r5 w141 (Kd.C_below HR0_0.out Yb_) HC0_0.out (Kd.C_below HR0_2.out Yb_) HC0_2.out A7.out).mono ?_); rintro e w143 ⟨rfl, hb⟩; (try clear hzgb2_0 hzgb2_1 hzgb2_2); (try clear hzgb4_0 hzgb4_1 hzgb4_2); refine ⟨_, rfl, ?_⟩; have m_ := Aside0.mk (blk_below BK140.out hb); clear BK140; have BK140 := m_; clear m_; have m_ := Aside0.mk (blk_below BK142.out hb); clear BK142; have BK142 := m_; clear m_; have HSw143 := Aside0.mk (show w141.heap.size ≤ w143.heap.size from hb.size); have m_ := Aside0.mk (below_step HB.out hb); clear HB; have HB := m_; clear m_; clear hb; have hzgb2_0 : w143.cell? ⟨gb2, 0, none⟩ = some (.slice A0_0 l0_0.length c0_0) := (blk_cell BK140.out 0).trans rfl; have hzgb2_1 : w143.cell? ⟨gb2, 1, none⟩ = some (.int .i64 a0_1) := (blk_cell BK140.out 1).trans rfl; have hzgb2_2 : w143.cell? ⟨gb2, 2, none⟩ = some (.slice A0_2 l0_2.length c0_2) := (blk_cell BK140.out 2).trans rfl; have hzgb4_0 : w143.cell? ⟨gb4, 0, none⟩ = some (.int .i64 a1_0) := (blk_cell BK142.out 0).trans rfl; have hzgb4_1 : w143.cell? ⟨gb4, 1, none⟩ = some (.int .i64 a1_1) := (blk_cell BK142.out 1).trans rfl; have hzgb4_2 : w143.cell? ⟨gb4, 2, none⟩ = some (.int .i64 a1_2) := (blk_cell BK142.out 2).trans rfl))
  repeat (go_quiet (fail); try go_wp2)
  go_ret
  exact ⟨rfl, by repeat (first | (with_reducible first | exact HB.out | apply below_alloc | apply pw_below_drewN | apply below_drew1) | exact HB.out)⟩
 ·rw [if_neg c_] at h
  have cb1 : decide (r5 < 0) = false := decide_eq_false c_
  clear c_
  replace h := Option.bind_eq_some_iff.mp h
  obtain ⟨⟨r8, r12, r13⟩, a_, h⟩ := h
  have A18 := Aside0.mk a_
  clear a_
  dsimp only at h
  replace h := Option.bind_eq_some_iff.mp h
  obtain ⟨⟨r19, r20, r21⟩, a_, h⟩ := h
  have A23 := Aside0.mk a_
  clear a_
  dsimp only at h
  replace h := Option.bind_eq_some_iff.mp h
  obtain ⟨⟨r24, r28, r29, r33⟩, a_, h⟩ := h
  have A35 := Aside0.mk a_
  clear a_
  dsimp only at h
  replace h := Option.bind_eq_some_iff.mp h
  obtain ⟨⟨r38, r42, r43⟩, a_, h⟩ := h
  have A48 := Aside0.mk a_
  clear a_
  dsimp only at h
  replace h := Option.bind_eq_some_iff.mp h
  obtain ⟨⟨r51, r52, r53⟩, a_, h⟩ := h
  have A55 := Aside0.mk a_
  clear a_
  dsimp only at h
  replace h := Option.bind_eq_some_iff.mp h
  obtain ⟨⟨r56, r60, r61, r65⟩, a_, h⟩ := h
  have A67 := Aside0.mk a_
  clear a_
  dsimp only at h
  replace h := Option.bind_eq_some_iff.mp h
  obtain ⟨r70, a_, h⟩ := h
  have A72 := Aside0.mk a_
  clear a_
  replace h := Go.Proofs.YtnggfglmjdiaaaaOwn.Eh h
  have c_ := h.1
  replace h := h.2
  subst c_
  replace h := Go.Proofs.YtnggfglmjdiaaaaOwn.Eh h
  have c_ := h.1
  replace h := h.2
  subst c_
  replace h := Option.bind_eq_some_iff.mp h
  obtain ⟨⟨r73, r77, r78⟩, a_, h⟩ := h
  have A83 := Aside0.mk a_
  clear a_
  dsimp only at h
  replace h := Option.bind_eq_some_iff.mp h
  obtain ⟨r84, a_, h⟩ := h
  have A86 := Aside0.mk a_
  clear a_
  replace h := Go.Proofs.YtnggfglmjdiaaaaOwn.Eh h
  have c_ := h.1
  replace h := h.2
  subst c_
  replace h := Option.bind_eq_some_iff.mp h
  obtain ⟨⟨r87, r88, r89⟩, a_, h⟩ := h
  have A91 := Aside0.mk a_
  clear a_
  dsimp only at h
  replace h := Option.bind_eq_some_iff.mp h
  obtain ⟨r92, a_, h⟩ := h
  have A94 := Aside0.mk a_
  clear a_
  replace h := Go.Proofs.YtnggfglmjdiaaaaOwn.Eh h
  have c_ := h.1
  replace h := h.2
  subst c_
  replace h := Go.Proofs.YtnggfglmjdiaaaaOwn.Eh h
  have c_ := h.1
  replace h := h.2
  have cb2 : decide (r87 < 0) = false := decide_eq_false c_
  clear c_
  replace h := Go.Proofs.YtnggfglmjdiaaaaOwn.Eh h
  have c_ := h.1
  replace h := h.2
  clear c_
  replace h := Option.bind_eq_some_iff.mp h
  obtain ⟨⟨r95, r96, r97⟩, a_, h⟩ := h
  have A99 := Aside0.mk a_
  clear a_
  dsimp only at h
  replace h := Option.bind_eq_some_iff.mp h
  obtain ⟨r100, a_, h⟩ := h
  have A102 := Aside0.mk a_
  clear a_
  replace h := Go.Proofs.YtnggfglmjdiaaaaOwn.Eh h
  have c_ := h.1
  replace h := h.2
  have cb3 : decide (r100 < 0) = false := decide_eq_false c_
  clear c_
  replace h := Go.Proofs.YtnggfglmjdiaaaaOwn.Eh h
  have c_ := h.1
  replace h := h.2
  subst c_
  replace h := Option.bind_eq_some_iff.mp h
  obtain ⟨⟨r103, r107, r108⟩, a_, h⟩ := h
  have A113 := Aside0.mk a_
  clear a_
  dsimp only at h
  replace h := Option.bind_eq_some_iff.mp h
  obtain ⟨⟨r114, r115, r116⟩, a_, h⟩ := h
  have A118 := Aside0.mk a_
  clear a_
  dsimp only at h
  replace h := Option.bind_eq_some_iff.mp h
  obtain ⟨⟨r119, r123, r124, r128⟩, a_, h⟩ := h
  have A130 := Aside0.mk a_
  clear a_
  dsimp only at h
  replace h := Option.bind_eq_some_iff.mp h
  obtain ⟨r133, a_, h⟩ := h
  have A135 := Aside0.mk a_
  clear a_
  replace h := Go.Proofs.YtnggfglmjdiaaaaOwn.Eh h
  have c_ := h.1
  replace h := h.2
  subst c_
  replace h := Go.Proofs.YtnggfglmjdiaaaaOwn.Eh h
  have c_ := h.1
  replace h := h.2
  subst c_
  replace h := Option.bind_eq_some_iff.mp h
  obtain ⟨r136, a_, h⟩ := h
  have A138 := Aside0.mk a_
  clear a_
  replace h := Go.Proofs.YtnggfglmjdiaaaaOwn.Eh h
  have c_ := h.1
  replace h := h.2
  have cb4 : decide (r136 < 0) = false := decide_eq_false c_
  clear c_
  replace h := Go.Proofs.YtnggfglmjdiaaaaOwn.Eh h
  have c_ := h.1
  replace h := h.2
  subst c_
  obtain rfl := Option.some.inj h
  go_enter Try.func6, Try.ntmps6
  go_upto_region 5 with (first | ((with_reducible refine gate_dst (N := 2) rfl ?_); refine box_event ?hg (N := 2) ?hd (cs := #[.slice A0_0 l0_0.length c0_0, .int .i64 a0_1, .slice A0_2 l0_2.length c0_2]) (t := 28) ?hr ?_; (case hd => rfl); (case hg => rfl); (case hr => first | (go_simp; done) | (go_simp; rfl)); intro gb2 hg w139 hbox hb; (try clear hzgb2_0 hzgb2_1 hzgb2_2); have GEgb2 := Aside0.mk (show w.heap.size ≤ gb2 by rw [hg]; exact below_size Yb_); have BK140 := Aside0.mk hbox; have HSw139 := Aside0.mk (show w.heap.size ≤ w139.heap.size from hb.size); have m_ := Aside0.mk (below_step HB.out hb); clear HB; have HB := m_; clear m_; clear hb hbox hg; have hzgb2_0 : w139.cell? ⟨gb2, 0, none⟩ = some (.slice A0_0 l0_0.length c0_0) := (blk_cell BK140.out 0).trans rfl; have hzgb2_1 : w139.cell? ⟨gb2, 1, none⟩ = some (.int .i64 a0_1) := (blk_cell BK140.out 1).trans rfl; have hzgb2_2 : w139.cell? ⟨gb2, 2, none⟩ = some (.slice A0_2 l0_2.length c0_2) := (blk_cell BK140.out 2).trans rfl) | ((with_reducible refine gate_dst (N := 3) rfl ?_); refine box_event ?hg (N := 3) ?hd (cs := #[.int .i64 a1_0, .int .i64 a1_1, .int .i64 a1_2]) (t := 42) ?hr ?_; (case hd => rfl); (case hg => rfl); (case hr => first | (go_simp; done) | (go_simp; rfl)); intro gb4 hg w141 hbox hb; (try clear hzgb2_0 hzgb2_1 hzgb2_2); (try clear hzgb4_0 hzgb4_1 hzgb4_2); have NBgb2_gb4 := Aside0.mk (show gb2 ≠ gb4 by rw [hg]; exact Nat.ne_of_lt (blk_lt BK140.out)); have GEgb4 := Aside0.mk (show w.heap.size ≤ gb4 by rw [hg]; exact below_size Yb_); have BK142 := Aside0.mk hbox; have m_ := Aside0.mk (blk_below BK140.out hb); clear BK140; have BK140 := m_; clear m_; have HSw141 := Aside0.mk (show w139.heap.size ≤ w141.heap.size from hb.size); have m_ := Aside0.mk (below_step HB.out hb); clear HB; have HB := m_; clear m_; clear hb hbox hg; have hzgb2_0 : w141.cell? ⟨gb2, 0, none⟩ = some (.slice A0_0 l0_0.length c0_0) := (blk_cell BK140.out 0).trans rfl; have hzgb2_1 : w141.cell? ⟨gb2, 1, none⟩ = some (.int .i64 a0_1) := (blk_cell BK140.out 1).trans rfl; have hzgb2_2 : w141.cell? ⟨gb2, 2, none⟩ = some (.slice A0_2 l0_2.length c0_2) := (blk_cell BK140.out 2).trans rfl; have hzgb4_0 : w141.cell? ⟨gb4, 0, none⟩ = some (.int .i64 a1_0) := (blk_cell BK142.out 0).trans rfl; have hzgb4_1 : w141.cell? ⟨gb4, 1, none⟩ = some (.int .i64 a1_1) := (blk_cell BK142.out 1).trans rfl; have hzgb4_2 : w141.cell? ⟨gb4, 2, none⟩ = some (.int .i64 a1_2) := (blk_cell BK142.out 2).trans rfl) | ((with_reducible refine gate_callee (f := 10) rfl ?_); (try (refine gate_guard (by rfl) ?_; dsimp only)); refine goesL_ (some 18) rfl rfl Try.func10 Yj_ rfl #[.agg #[.slice A0_0 l0_0.length c0_0, .int .i64 a0_1, .slice A0_2 l0_2.length c0_2], .int .i64 1048576] rfl Yd_ ?_; (with_reducible refine (C9.calls k _ _ l0_0 a0_1 _ _ l0_2 1048576 r5 w141 (Kd.C_below HR0_0.out Yb_) HC0_0.out (Kd.C_below HR0_2.out Yb_) HC0_2.out A7.out).mono ?_); rintro e w143 ⟨rfl, hb⟩; (try clear hzgb2_0 hzgb2_1 hzgb2_2); (try clear hzgb4_0 hzgb4_1 hzgb4_2); refine ⟨_, rfl, ?_⟩; have m_ := Aside0.mk (blk_below BK140.out hb); clear BK140; have BK140 := m_; clear m_; have m_ := Aside0.mk (blk_below BK142.out hb); clear BK142; have BK142 := m_; clear m_; have HSw143 := Aside0.mk (show w141.heap.size ≤ w143.heap.size from hb.size); have m_ := Aside0.mk (below_step HB.out hb); clear HB; have HB := m_; clear m_; clear hb; have hzgb2_0 : w143.cell? ⟨gb2, 0, none⟩ = some (.slice A0_0 l0_0.length c0_0) := (blk_cell BK140.out 0).trans rfl; have hzgb2_1 : w143.cell? ⟨gb2, 1, none⟩ = some (.int .i64 a0_1) := (blk_cell BK140.out 1).trans rfl; have hzgb2_2 : w143.cell? ⟨gb2, 2, none⟩ = some (.slice A0_2 l0_2.length c0_2) := (blk_cell BK140.out 2).trans rfl; have hzgb4_0 : w143.cell? ⟨gb4, 0, none⟩ = some (.int .i64 a1_0) := (blk_cell BK142.out 0).trans rfl; have hzgb4_1 : w143.cell? ⟨gb4, 1, none⟩ = some (.int .i64 a1_1) := (blk_cell BK142.out 1).trans rfl; have hzgb4_2 : w143.cell? ⟨gb4, 2, none⟩ = some (.int .i64 a1_2) := (blk_cell BK142.out 2).trans rfl))
  (try clear hzgb2_0 hzgb2_1 hzgb2_2 hzgb4_0 hzgb4_1 hzgb4_2)
  have m_ := Aside0.mk (blk_drew BK140.out)
  clear BK140
  have BK140 := m_
  clear m_
  have m_ := Aside0.mk (blk_drew BK142.out)
  clear BK142
  have BK142 := m_
  clear m_
  have m_ := Aside0.mk (below_drew1 HB.out)
  clear HB
  have HB := m_
  clear m_
  have HSw144 := Aside0.mk (show w143.heap.size ≤ w143.drew.heap.size from Nat.le_refl _)
  refine start_ (n := 11) (S := fun w' => w'.cell? ⟨gb2, 0, none⟩ = some (.slice A0_0 l0_0.length c0_0) ∧ w'.cell? ⟨gb2, 1, none⟩ = some (.int .i64 a0_1) ∧ w'.cell? ⟨gb2, 2, none⟩ = some (.slice A0_2 l0_2.length c0_2) ∧ w'.cell? ⟨gb4, 0, none⟩ = some (.int .i64 a1_0) ∧ w'.cell? ⟨gb4, 1, none⟩ = some (.int .i64 a1_1) ∧ w'.cell? ⟨gb4, 2, none⟩ = some (.int .i64 a1_2)) (ds := []) #[false, false, false, false, false, false, false, false, false, false, false] Yj_ rfl rfl ⟨(blk_cell BK140.out 0).trans rfl, (blk_cell BK140.out 1).trans rfl, (blk_cell BK140.out 2).trans rfl, (blk_cell BK142.out 0).trans rfl, (blk_cell BK142.out 1).trans rfl, (blk_cell BK142.out 2).trans rfl⟩ (fun hHeld => ?_)
  generalize w143.drew = w144 at BK140 BK142 HB HSw144 hHeld ⊢
  refine take_ (i := 0) (N := some 22) #[true, false, false, false, false, false, false, false, false, false, false] rfl rfl Yj_ (fun _ _ _ h => h) (Or.inl ⟨by rfl, Ycc_⟩) hHeld Ya_ ?_
  refine take_ (i := 2) (N := some 24) #[true, false, true, false, false, false, false, false, false, false, false] rfl rfl Yj_ (fun _ _ _ h => h) (Or.inl ⟨by rfl, Ycc_⟩) hHeld Ya_ ?_
  refine join_ (σ := (Nat) × (Nat) × (Nat) × (Nat) × (Option Addr) × (Nat) × (Option Addr) × (Nat) × (Option Addr) × (Nat) × (Option Addr) × (Nat) × (Nat → Prop) × (Nat)) 2 #[true, true, true, true, true, true, true, true, true, false, false] (fun s => match s with | ⟨lo1_w145, hi1_w145, lo4_w145, hi4_w145, A9, c10, A14, c15, A25, c26, A30, c31, PJ1_w145, gb37⟩ => [(23, .agg #[.slice A9 r8.length c10, .int .i64 r12, .slice A14 r13.length c15]), (25, .agg #[.int .i64 r19, .int .i64 r20, .int .i64 r21]), (26, .tuple #[.agg #[.slice A25 r24.length c26, .int .i64 r28, .slice A30 r29.length c31], .bool r128]), (21, .tuple #[.agg #[.slice A25 r24.length c26, .int .i64 r28, .slice A30 r29.length c31], .bool r128]), (27, .agg #[.slice A25 r24.length c26, .int .i64 r28, .slice A30 r29.length c31]), (28, .bool r128), (6, .pointer (some ⟨gb37, 0, none⟩))]) (fun s w' => match s with | ⟨lo1_w145, hi1_w145, lo4_w145, hi4_w145, A9, c10, A14, c15, A25, c26, A30, c31, PJ1_w145, gb37⟩ => Aside0 (Below w.heap.size w w') ∧ Aside0 (Kd.S (Kd.slice 3 (Kd.int .i64)) 73 w' w.heap.size (fun k_ => (lo1_w145 ≤ k_ ∧ k_ < hi1_w145) ∧ PJ1_w145 k_) (.slice A9 r8.length c10) r8) ∧ Aside0 (Kd.S (Kd.slice 3 (Kd.int .i64)) 73 w' w.heap.size (fun k_ => (lo1_w145 ≤ k_ ∧ k_ < hi1_w145) ∧ ¬ PJ1_w145 k_) (.slice A14 r13.length c15) r13) ∧ Aside0 (Kd.S (Kd.slice 3 (Kd.int .i64)) 73 w' w.heap.size (fun k_ => (lo4_w145 ≤ k_ ∧ k_ < hi4_w145) ∧ True) (.slice A25 r24.length c26) r24) ∧ Aside0 (Kd.S (Kd.slice 3 (Kd.int .i64)) 73 w' w.heap.size (fun k_ => (lo4_w145 ≤ k_ ∧ k_ < hi4_w145) ∧ True) (.slice A30 r29.length c31) r29) ∧ Aside0 (w'.heap[gb2]? = some (.cells #[.slice A0_0 l0_0.length c0_0, .int .i64 a0_1, .slice A0_2 l0_2.length c0_2] 28 (0, 0))) ∧ Aside0 (w'.heap[gb4]? = some (.cells #[.int .i64 a1_0, .int .i64 a1_1, .int .i64 a1_2] 42 (0, 0))) ∧ Aside0 (w'.heap[gb37]? = some (.cells #[.slice none 0 0, .int .i64 0, .slice none 0 0] 34 (0, 0))) ∧ Aside0 (w.heap.size ≤ gb37) ∧ Aside0 (gb2 ≠ gb37) ∧ Aside0 (gb4 ≠ gb37) ∧ Aside0 (w144.heap.size ≤ lo1_w145 ∧ lo1_w145 ≤ hi1_w145 ∧ hi1_w145 ≤ lo4_w145 ∧ lo4_w145 ≤ hi4_w145 ∧ hi4_w145 ≤ w'.heap.size ∧ w144.heap.size ≤ w'.heap.size)) ?_ ?_
  rotate_left
  ·intro hCont
   refine two_ (i := 1) (j := 8) (Ni := some 23) (Nj := some 6) #[true, true, true, false, false, false, false, false, false, false, false] #[true, false, true, false, false, false, false, false, true, false, false] rfl rfl rfl rfl Yj_ (by decide) (by decide) (fun K hK => ?_) (fun K hK => ?_)
   ·skip
    refine goes_ Try.func12 Yj_ rfl #[.agg #[.slice A0_0 l0_0.length c0_0, .int .i64 a0_1, .slice A0_2 l0_2.length c0_2]] (by rfl) rfl rfl Yd_ ?_
    (with_reducible refine (Bi.calls2 k _ _ l0_0 a0_1 _ _ l0_2 r8 r12 r13 w144 (Kd.C_below HR0_0.out Yb_) HC0_0.out (Kd.C_below HR0_2.out Yb_) HC0_2.out A18.out).mono ?_)
    rintro e w146 ⟨Pw146, v149, v150, rfl, ho147, ho148, hb⟩
    refine ⟨_, rfl, ?_⟩
    have m_ := Aside0.mk (blk_below BK140.out hb)
    clear BK140
    have BK140 := m_
    clear m_
    have m_ := Aside0.mk (blk_below BK142.out hb)
    clear BK142
    have BK142 := m_
    clear m_
    have HSw146 := Aside0.mk (show w144.heap.size ≤ w146.heap.size from hb.size)
    have m_ := (show Kd.S (Kd.slice 3 (Kd.int .i64)) 73 w146 w.heap.size (fun k_ => (w144.heap.size ≤ k_ ∧ k_ < w146.heap.size) ∧ Pw146 k_) v149 r8 from Kd.S_mono (Kd.S_lower (Kd.Bl ho147) (below_size Yb_)) (fun k_ hk_ => ⟨⟨hk_.2.1, hk_.2.2.1⟩, hk_.1⟩))
    obtain ⟨A9, c10, e_⟩ := Kd.S_slice m_
    subst e_
    have HO11 := Aside0.mk m_
    clear m_ ho147
    have m_ := (show Kd.S (Kd.slice 3 (Kd.int .i64)) 73 w146 w.heap.size (fun k_ => (w144.heap.size ≤ k_ ∧ k_ < w146.heap.size) ∧ ¬ Pw146 k_) v150 r13 from Kd.S_mono (Kd.S_lower (Kd.Bl ho148) (below_size Yb_)) (fun k_ hk_ => ⟨⟨hk_.2.1, hk_.2.2.1⟩, hk_.1⟩))
    obtain ⟨A14, c15, e_⟩ := Kd.S_slice m_
    subst e_
    have HO16 := Aside0.mk m_
    clear m_ ho148
    have m_ := Aside0.mk (below_step HB.out hb)
    clear HB
    have HB := m_
    clear m_
    clear hb
    refine hK.out _ _ ⟨(blk_cell BK140.out 0).trans rfl, (blk_cell BK140.out 1).trans rfl, (blk_cell BK140.out 2).trans rfl, (blk_cell BK142.out 0).trans rfl, (blk_cell BK142.out 1).trans rfl, (blk_cell BK142.out 2).trans rfl⟩ (fun hHeld => ?_)
    clear hK K
    refine norm_ (show Act.put _ (some 23) _ = _ from Ya_) ?_
    refine two_ (i := 3) (j := 8) (Ni := some 25) (Nj := some 6) #[true, true, true, true, false, false, false, false, false, false, false] #[true, true, true, false, false, false, false, false, true, false, false] rfl rfl rfl rfl Yj_ (by decide) (by decide) (fun K hK => ?_) (fun K hK => ?_)
    ·skip
     refine goes_ Try.func18 Yj_ rfl #[.agg #[.int .i64 a1_0, .int .i64 a1_1, .int .i64 a1_2]] (by rfl) rfl rfl Yd_ ?_
     (with_reducible refine (laws_toOrder.calls a1_0 a1_1 a1_2 r19 r20 r21 w146  A23.out).mono ?_)
     rintro e w151 ⟨rfl, hb⟩
     refine ⟨_, rfl, ?_⟩
     have m_ := Aside0.mk (Kd.Aa HO11.out hb)
     clear HO11
     have HO11 := m_
     clear m_
     have m_ := Aside0.mk (Kd.Aa HO16.out hb)
     clear HO16
     have HO16 := m_
     clear m_
     have m_ := Aside0.mk (blk_below BK140.out hb)
     clear BK140
     have BK140 := m_
     clear m_
     have m_ := Aside0.mk (blk_below BK142.out hb)
     clear BK142
     have BK142 := m_
     clear m_
     have HSw151 := Aside0.mk (show w146.heap.size ≤ w151.heap.size from hb.size)
     have m_ := Aside0.mk (below_step HB.out hb)
     clear HB
     have HB := m_
     clear m_
     clear hb
     refine hK.out _ _ ⟨(blk_cell BK140.out 0).trans rfl, (blk_cell BK140.out 1).trans rfl, (blk_cell BK140.out 2).trans rfl, (blk_cell BK142.out 0).trans rfl, (blk_cell BK142.out 1).trans rfl, (blk_cell BK142.out 2).trans rfl⟩ (fun hHeld => ?_)
     clear hK K
     refine norm_ (show Act.put _ (some 25) _ = _ from Ya_) ?_
     refine two_ (i := 4) (j := 8) (Ni := some 26) (Nj := some 6) #[true, true, true, true, true, false, false, false, false, false, false] #[true, true, true, true, false, false, false, false, true, false, false] rfl rfl rfl rfl Yj_ (by decide) (by decide) (fun K hK => ?_) (fun K hK => ?_)
     ·skip
      refine goes_ Try.func21 Yj_ rfl #[.agg #[.slice A9 r8.length c10, .int .i64 r12, .slice A14 r13.length c15], .agg #[.int .i64 r19, .int .i64 r20, .int .i64 r21]] (by rfl) rfl rfl Yd_ ?_
      (with_reducible refine (Dj.calls k _ _ r8 r12 _ _ r13 r19 r20 r21 r24 r28 r29 r128 w151 (Kd.Ac HO11.out).2.2 (Nat.le_trans (Nat.le_of_eq (Kd.Ac HO11.out).1.symm) (Kd.Ac HO11.out).2.1) (Kd.Ac HO16.out).2.2 (Nat.le_trans (Nat.le_of_eq (Kd.Ac HO16.out).1.symm) (Kd.Ac HO16.out).2.1) A35.out).mono ?_)
      rintro e w152 ⟨v155, v156, rfl, ho153, ho154, hb⟩
      refine ⟨_, rfl, ?_⟩
      have m_ := Aside0.mk (Kd.Aa HO11.out hb)
      clear HO11
      have HO11 := m_
      clear m_
      have m_ := Aside0.mk (Kd.Aa HO16.out hb)
      clear HO16
      have HO16 := m_
      clear m_
      have m_ := Aside0.mk (blk_below BK140.out hb)
      clear BK140
      have BK140 := m_
      clear m_
      have m_ := Aside0.mk (blk_below BK142.out hb)
      clear BK142
      have BK142 := m_
      clear m_
      have HSw152 := Aside0.mk (show w151.heap.size ≤ w152.heap.size from hb.size)
      have m_ := (show Kd.S (Kd.slice 3 (Kd.int .i64)) 73 w152 w.heap.size (fun k_ => (w151.heap.size ≤ k_ ∧ k_ < w152.heap.size) ∧ True) v155 r24 from Kd.S_mono (Kd.S_lower (Kd.Bl ho153) (below_size Yb_)) (fun k_ hk_ => ⟨⟨hk_.2.1, hk_.2.2.1⟩, trivial⟩))
      obtain ⟨A25, c26, e_⟩ := Kd.S_slice m_
      subst e_
      have HO27 := Aside0.mk m_
      clear m_ ho153
      have m_ := (show Kd.S (Kd.slice 3 (Kd.int .i64)) 73 w152 w.heap.size (fun k_ => (w151.heap.size ≤ k_ ∧ k_ < w152.heap.size) ∧ True) v156 r29 from Kd.S_mono (Kd.S_lower (Kd.Bl ho154) (below_size Yb_)) (fun k_ hk_ => ⟨⟨hk_.2.1, hk_.2.2.1⟩, trivial⟩))
      obtain ⟨A30, c31, e_⟩ := Kd.S_slice m_
      subst e_
      have HO32 := Aside0.mk m_
      clear m_ ho154
      have m_ := Aside0.mk (below_step HB.out hb)
      clear HB
      have HB := m_
      clear m_
      clear hb
      refine hK.out _ _ ⟨(blk_cell BK140.out 0).trans rfl, (blk_cell BK140.out 1).trans rfl, (blk_cell BK140.out 2).trans rfl, (blk_cell BK142.out 0).trans rfl, (blk_cell BK142.out 1).trans rfl, (blk_cell BK142.out 2).trans rfl⟩ (fun hHeld => ?_)
      clear hK K
      refine norm_ (show Act.put _ (some 26) _ = _ from Ya_) ?_
      refine pure_ (i := 5) (N := some 21) #[true, true, true, true, true, true, false, false, false, false, false] rfl rfl Yj_ (fun _ _ _ h => h) (Or.inl ⟨by rfl, Ybb_⟩) Ya_ ?_
      refine pure_ (i := 6) (N := some 27) #[true, true, true, true, true, true, true, false, false, false, false] rfl rfl Yj_ (fun _ _ _ h => h) (Or.inl ⟨by rfl, Ybb_⟩) Ya_ ?_
      refine pure_ (i := 7) (N := some 28) #[true, true, true, true, true, true, true, true, false, false, false] rfl rfl Yj_ (fun _ _ _ h => h) (Or.inl ⟨by rfl, Ybb_⟩) Ya_ ?_
      refine one_ (i := 8) (N := some 6) #[true, true, true, true, true, true, true, true, true, false, false] rfl rfl Yj_ (by decide) (fun K hK => ?_)
      refine Ep (N := 6) (by rfl) rfl (cs := #[.slice none 0 0, .int .i64 0, .slice none 0 0]) (t := 34) ?_ ?_
      ·first | (go_simp; done) | (go_simp; rfl)
      intro gb37 hg w157 hbox hb
      have NBgb2_gb37 := Aside0.mk (show gb2 ≠ gb37 by rw [hg]; exact Nat.ne_of_lt (blk_lt BK140.out))
      have NBgb4_gb37 := Aside0.mk (show gb4 ≠ gb37 by rw [hg]; exact Nat.ne_of_lt (blk_lt BK142.out))
      have GEgb37 := Aside0.mk (show w.heap.size ≤ gb37 by rw [hg]; exact below_size Yb_)
      have BK158 := Aside0.mk hbox
      have m_ := Aside0.mk (Kd.Aa HO11.out hb)
      clear HO11
      have HO11 := m_
      clear m_
      have m_ := Aside0.mk (Kd.Aa HO16.out hb)
      clear HO16
      have HO16 := m_
      clear m_
      have m_ := Aside0.mk (Kd.Aa HO27.out hb)
      clear HO27
      have HO27 := m_
      clear m_
      have m_ := Aside0.mk (Kd.Aa HO32.out hb)
      clear HO32
      have HO32 := m_
      clear m_
      have m_ := Aside0.mk (blk_below BK140.out hb)
      clear BK140
      have BK140 := m_
      clear m_
      have m_ := Aside0.mk (blk_below BK142.out hb)
      clear BK142
      have BK142 := m_
      clear m_
      have HSw157 := Aside0.mk (show w152.heap.size ≤ w157.heap.size from hb.size)
      have m_ := Aside0.mk (below_step HB.out hb)
      clear HB
      have HB := m_
      clear m_
      clear hb hbox hg
      refine hK.out _ _ ⟨(blk_cell BK140.out 0).trans rfl, (blk_cell BK140.out 1).trans rfl, (blk_cell BK140.out 2).trans rfl, (blk_cell BK142.out 0).trans rfl, (blk_cell BK142.out 1).trans rfl, (blk_cell BK142.out 2).trans rfl⟩ (fun hHeld => ?_)
      clear hK K
      refine norm_ (show Act.put _ (some 6) _ = _ from Ya_) ?_
      exact norm_ Ybe_ (hCont (w144.heap.size, w146.heap.size, w151.heap.size, w152.heap.size, A9, c10, A14, c15, A25, c26, A30, c31, Pw146, gb37) _ ⟨HB, HO11, HO16, HO27, HO32, BK140, BK142, BK158, GEgb37, NBgb2_gb37, NBgb4_gb37, ⟨by have := HSw139.out; have := HSw141.out; have := HSw143.out; have := HSw144.out; have := HSw146.out; have := HSw151.out; have := HSw152.out; have := HSw157.out; omega⟩⟩)
     ·skip
      refine Ep (N := 6) (by rfl) rfl (cs := #[.slice none 0 0, .int .i64 0, .slice none 0 0]) (t := 34) ?_ ?_
      ·first | (go_simp; done) | (go_simp; rfl)
      intro gb37 hg w159 hbox hb
      have NBgb2_gb37 := Aside0.mk (show gb2 ≠ gb37 by rw [hg]; exact Nat.ne_of_lt (blk_lt BK140.out))
      have NBgb4_gb37 := Aside0.mk (show gb4 ≠ gb37 by rw [hg]; exact Nat.ne_of_lt (blk_lt BK142.out))
      have GEgb37 := Aside0.mk (show w.heap.size ≤ gb37 by rw [hg]; exact below_size Yb_)
      have BK160 := Aside0.mk hbox
      have m_ := Aside0.mk (Kd.Aa HO11.out hb)
      clear HO11
      have HO11 := m_
      clear m_
      have m_ := Aside0.mk (Kd.Aa HO16.out hb)
      clear HO16
      have HO16 := m_
      clear m_
      have m_ := Aside0.mk (blk_below BK140.out hb)
      clear BK140
      have BK140 := m_
      clear m_
      have m_ := Aside0.mk (blk_below BK142.out hb)
      clear BK142
      have BK142 := m_
      clear m_
      have HSw159 := Aside0.mk (show w151.heap.size ≤ w159.heap.size from hb.size)
      have m_ := Aside0.mk (below_step HB.out hb)
      clear HB
      have HB := m_
      clear m_
      clear hb hbox hg
      refine hK.out _ _ ⟨(blk_cell BK140.out 0).trans rfl, (blk_cell BK140.out 1).trans rfl, (blk_cell BK140.out 2).trans rfl, (blk_cell BK142.out 0).trans rfl, (blk_cell BK142.out 1).trans rfl, (blk_cell BK142.out 2).trans rfl⟩ (fun hHeld => ?_)
      clear hK K
      refine norm_ (show Act.put _ (some 6) _ = _ from Ya_) ?_
      refine one_ (i := 4) (N := some 26) #[true, true, true, true, true, false, false, false, true, false, false] rfl rfl Yj_ (by decide) (fun K hK => ?_)
      refine goes_ Try.func21 Yj_ rfl #[.agg #[.slice A9 r8.length c10, .int .i64 r12, .slice A14 r13.length c15], .agg #[.int .i64 r19, .int .i64 r20, .int .i64 r21]] (by rfl) rfl rfl Yd_ ?_
      (with_reducible refine (Dj.calls k _ _ r8 r12 _ _ r13 r19 r20 r21 r24 r28 r29 r128 w159 (Kd.Ac HO11.out).2.2 (Nat.le_trans (Nat.le_of_eq (Kd.Ac HO11.out).1.symm) (Kd.Ac HO11.out).2.1) (Kd.Ac HO16.out).2.2 (Nat.le_trans (Nat.le_of_eq (Kd.Ac HO16.out).1.symm) (Kd.Ac HO16.out).2.1) A35.out).mono ?_)
      rintro e w161 ⟨v164, v165, rfl, ho162, ho163, hb⟩
      refine ⟨_, rfl, ?_⟩
      have m_ := Aside0.mk (Kd.Aa HO11.out hb)
      clear HO11
      have HO11 := m_
      clear m_
      have m_ := Aside0.mk (Kd.Aa HO16.out hb)
      clear HO16
      have HO16 := m_
      clear m_
      have m_ := Aside0.mk (blk_below BK140.out hb)
      clear BK140
      have BK140 := m_
      clear m_
      have m_ := Aside0.mk (blk_below BK142.out hb)
      clear BK142
      have BK142 := m_
      clear m_
      have m_ := Aside0.mk (blk_below BK160.out hb)
      clear BK160
      have BK160 := m_
      clear m_
      have HSw161 := Aside0.mk (show w159.heap.size ≤ w161.heap.size from hb.size)
      have m_ := (show Kd.S (Kd.slice 3 (Kd.int .i64)) 73 w161 w.heap.size (fun k_ => (w159.heap.size ≤ k_ ∧ k_ < w161.heap.size) ∧ True) v164 r24 from Kd.S_mono (Kd.S_lower (Kd.Bl ho162) (below_size Yb_)) (fun k_ hk_ => ⟨⟨hk_.2.1, hk_.2.2.1⟩, trivial⟩))
      obtain ⟨A25, c26, e_⟩ := Kd.S_slice m_
      subst e_
      have HO27 := Aside0.mk m_
      clear m_ ho162
      have m_ := (show Kd.S (Kd.slice 3 (Kd.int .i64)) 73 w161 w.heap.size (fun k_ => (w159.heap.size ≤ k_ ∧ k_ < w161.heap.size) ∧ True) v165 r29 from Kd.S_mono (Kd.S_lower (Kd.Bl ho163) (below_size Yb_)) (fun k_ hk_ => ⟨⟨hk_.2.1, hk_.2.2.1⟩, trivial⟩))
      obtain ⟨A30, c31, e_⟩ := Kd.S_slice m_
      subst e_
      have HO32 := Aside0.mk m_
      clear m_ ho163
      have m_ := Aside0.mk (below_step HB.out hb)
      clear HB
      have HB := m_
      clear m_
      clear hb
      refine hK.out _ _ ⟨(blk_cell BK140.out 0).trans rfl, (blk_cell BK140.out 1).trans rfl, (blk_cell BK140.out 2).trans rfl, (blk_cell BK142.out 0).trans rfl, (blk_cell BK142.out 1).trans rfl, (blk_cell BK142.out 2).trans rfl⟩ (fun hHeld => ?_)
      clear hK K
      refine norm_ (show Act.put _ (some 26) _ = _ from Ya_) ?_
      refine pure_ (i := 5) (N := some 21) #[true, true, true, true, true, true, false, false, true, false, false] rfl rfl Yj_ (fun _ _ _ h => h) (Or.inl ⟨by rfl, Ybb_⟩) Ya_ ?_
      refine pure_ (i := 6) (N := some 27) #[true, true, true, true, true, true, true, false, true, false, false] rfl rfl Yj_ (fun _ _ _ h => h) (Or.inl ⟨by rfl, Ybb_⟩) Ya_ ?_
      refine pure_ (i := 7) (N := some 28) #[true, true, true, true, true, true, true, true, true, false, false] rfl rfl Yj_ (fun _ _ _ h => h) (Or.inl ⟨by rfl, Ybb_⟩) Ya_ ?_
      exact norm_ Ybe_ (hCont (w144.heap.size, w146.heap.size, w159.heap.size, w161.heap.size, A9, c10, A14, c15, A25, c26, A30, c31, Pw146, gb37) _ ⟨HB, HO11, HO16, HO27, HO32, BK140, BK142, BK160, GEgb37, NBgb2_gb37, NBgb4_gb37, ⟨by have := HSw139.out; have := HSw141.out; have := HSw143.out; have := HSw144.out; have := HSw146.out; have := HSw151.out; have := HSw159.out; have := HSw161.out; omega⟩⟩)
    ·skip
     refine Ep (N := 6) (by rfl) rfl (cs := #[.slice none 0 0, .int .i64 0, .slice none 0 0]) (t := 34) ?_ ?_
     ·first | (go_simp; done) | (go_simp; rfl)
     intro gb37 hg w166 hbox hb
     have NBgb2_gb37 := Aside0.mk (show gb2 ≠ gb37 by rw [hg]; exact Nat.ne_of_lt (blk_lt BK140.out))
     have NBgb4_gb37 := Aside0.mk (show gb4 ≠ gb37 by rw [hg]; exact Nat.ne_of_lt (blk_lt BK142.out))
     have GEgb37 := Aside0.mk (show w.heap.size ≤ gb37 by rw [hg]; exact below_size Yb_)
     have BK167 := Aside0.mk hbox
     have m_ := Aside0.mk (Kd.Aa HO11.out hb)
     clear HO11
     have HO11 := m_
     clear m_
     have m_ := Aside0.mk (Kd.Aa HO16.out hb)
     clear HO16
     have HO16 := m_
     clear m_
     have m_ := Aside0.mk (blk_below BK140.out hb)
     clear BK140
     have BK140 := m_
     clear m_
     have m_ := Aside0.mk (blk_below BK142.out hb)
     clear BK142
     have BK142 := m_
     clear m_
     have HSw166 := Aside0.mk (show w146.heap.size ≤ w166.heap.size from hb.size)
     have m_ := Aside0.mk (below_step HB.out hb)
     clear HB
     have HB := m_
     clear m_
     clear hb hbox hg
     refine hK.out _ _ ⟨(blk_cell BK140.out 0).trans rfl, (blk_cell BK140.out 1).trans rfl, (blk_cell BK140.out 2).trans rfl, (blk_cell BK142.out 0).trans rfl, (blk_cell BK142.out 1).trans rfl, (blk_cell BK142.out 2).trans rfl⟩ (fun hHeld => ?_)
     clear hK K
     refine norm_ (show Act.put _ (some 6) _ = _ from Ya_) ?_
     refine one_ (i := 3) (N := some 25) #[true, true, true, true, false, false, false, false, true, false, false] rfl rfl Yj_ (by decide) (fun K hK => ?_)
     refine goes_ Try.func18 Yj_ rfl #[.agg #[.int .i64 a1_0, .int .i64 a1_1, .int .i64 a1_2]] (by rfl) rfl rfl Yd_ ?_
     (with_reducible refine (laws_toOrder.calls a1_0 a1_1 a1_2 r19 r20 r21 w166  A23.out).mono ?_)
     rintro e w168 ⟨rfl, hb⟩
     refine ⟨_, rfl, ?_⟩
     have m_ := Aside0.mk (Kd.Aa HO11.out hb)
     clear HO11
     have HO11 := m_
     clear m_
     have m_ := Aside0.mk (Kd.Aa HO16.out hb)
     clear HO16
     have HO16 := m_
     clear m_
     have m_ := Aside0.mk (blk_below BK140.out hb)
     clear BK140
     have BK140 := m_
     clear m_
     have m_ := Aside0.mk (blk_below BK142.out hb)
     clear BK142
     have BK142 := m_
     clear m_
     have m_ := Aside0.mk (blk_below BK167.out hb)
     clear BK167
     have BK167 := m_
     clear m_
     have HSw168 := Aside0.mk (show w166.heap.size ≤ w168.heap.size from hb.size)
     have m_ := Aside0.mk (below_step HB.out hb)
     clear HB
     have HB := m_
     clear m_
     clear hb
     refine hK.out _ _ ⟨(blk_cell BK140.out 0).trans rfl, (blk_cell BK140.out 1).trans rfl, (blk_cell BK140.out 2).trans rfl, (blk_cell BK142.out 0).trans rfl, (blk_cell BK142.out 1).trans rfl, (blk_cell BK142.out 2).trans rfl⟩ (fun hHeld => ?_)
     clear hK K
     refine norm_ (show Act.put _ (some 25) _ = _ from Ya_) ?_
     refine one_ (i := 4) (N := some 26) #[true, true, true, true, true, false, false, false, true, false, false] rfl rfl Yj_ (by decide) (fun K hK => ?_)
     refine goes_ Try.func21 Yj_ rfl #[.agg #[.slice A9 r8.length c10, .int .i64 r12, .slice A14 r13.length c15], .agg #[.int .i64 r19, .int .i64 r20, .int .i64 r21]] (by rfl) rfl rfl Yd_ ?_
     (with_reducible refine (Dj.calls k _ _ r8 r12 _ _ r13 r19 r20 r21 r24 r28 r29 r128 w168 (Kd.Ac HO11.out).2.2 (Nat.le_trans (Nat.le_of_eq (Kd.Ac HO11.out).1.symm) (Kd.Ac HO11.out).2.1) (Kd.Ac HO16.out).2.2 (Nat.le_trans (Nat.le_of_eq (Kd.Ac HO16.out).1.symm) (Kd.Ac HO16.out).2.1) A35.out).mono ?_)
     rintro e w169 ⟨v172, v173, rfl, ho170, ho171, hb⟩
     refine ⟨_, rfl, ?_⟩
     have m_ := Aside0.mk (Kd.Aa HO11.out hb)
     clear HO11
     have HO11 := m_
     clear m_
     have m_ := Aside0.mk (Kd.Aa HO16.out hb)
     clear HO16
     have HO16 := m_
     clear m_
     have m_ := Aside0.mk (blk_below BK140.out hb)
     clear BK140
     have BK140 := m_
     clear m_
     have m_ := Aside0.mk (blk_below BK142.out hb)
     clear BK142
     have BK142 := m_
     clear m_
     have m_ := Aside0.mk (blk_below BK167.out hb)
     clear BK167
     have BK167 := m_
     clear m_
     have HSw169 := Aside0.mk (show w168.heap.size ≤ w169.heap.size from hb.size)
     have m_ := (show Kd.S (Kd.slice 3 (Kd.int .i64)) 73 w169 w.heap.size (fun k_ => (w168.heap.size ≤ k_ ∧ k_ < w169.heap.size) ∧ True) v172 r24 from Kd.S_mono (Kd.S_lower (Kd.Bl ho170) (below_size Yb_)) (fun k_ hk_ => ⟨⟨hk_.2.1, hk_.2.2.1⟩, trivial⟩))
     obtain ⟨A25, c26, e_⟩ := Kd.S_slice m_
     subst e_
     have HO27 := Aside0.mk m_
     clear m_ ho170
     have m_ := (show Kd.S (Kd.slice 3 (Kd.int .i64)) 73 w169 w.heap.size (fun k_ => (w168.heap.size ≤ k_ ∧ k_ < w169.heap.size) ∧ True) v173 r29 from Kd.S_mono (Kd.S_lower (Kd.Bl ho171) (below_size Yb_)) (fun k_ hk_ => ⟨⟨hk_.2.1, hk_.2.2.1⟩, trivial⟩))
     obtain ⟨A30, c31, e_⟩ := Kd.S_slice m_
     subst e_
     have HO32 := Aside0.mk m_
     clear m_ ho171
     have m_ := Aside0.mk (below_step HB.out hb)
     clear HB
     have HB := m_
     clear m_
     clear hb
     refine hK.out _ _ ⟨(blk_cell BK140.out 0).trans rfl, (blk_cell BK140.out 1).trans rfl, (blk_cell BK140.out 2).trans rfl, (blk_cell BK142.out 0).trans rfl, (blk_cell BK142.out 1).trans rfl, (blk_cell BK142.out 2).trans rfl⟩ (fun hHeld => ?_)
     clear hK K
     refine norm_ (show Act.put _ (some 26) _ = _ from Ya_) ?_
     refine pure_ (i := 5) (N := some 21) #[true, true, true, true, true, true, false, false, true, false, false] rfl rfl Yj_ (fun _ _ _ h => h) (Or.inl ⟨by rfl, Ybb_⟩) Ya_ ?_
     refine pure_ (i := 6) (N := some 27) #[true, true, true, true, true, true, true, false, true, false, false] rfl rfl Yj_ (fun _ _ _ h => h) (Or.inl ⟨by rfl, Ybb_⟩) Ya_ ?_
     refine pure_ (i := 7) (N := some 28) #[true, true, true, true, true, true, true, true, true, false, false] rfl rfl Yj_ (fun _ _ _ h => h) (Or.inl ⟨by rfl, Ybb_⟩) Ya_ ?_
     exact norm_ Ybe_ (hCont (w144.heap.size, w146.heap.size, w168.heap.size, w169.heap.size, A9, c10, A14, c15, A25, c26, A30, c31, Pw146, gb37) _ ⟨HB, HO11, HO16, HO27, HO32, BK140, BK142, BK167, GEgb37, NBgb2_gb37, NBgb4_gb37, ⟨by have := HSw139.out; have := HSw141.out; have := HSw143.out; have := HSw144.out; have := HSw146.out; have := HSw166.out; have := HSw168.out; have := HSw169.out; omega⟩⟩)
   ·skip
    refine Ep (N := 6) (by rfl) rfl (cs := #[.slice none 0 0, .int .i64 0, .slice none 0 0]) (t := 34) ?_ ?_
    ·first | (go_simp; done) | (go_simp; rfl)
    intro gb37 hg w174 hbox hb
    have NBgb2_gb37 := Aside0.mk (show gb2 ≠ gb37 by rw [hg]; exact Nat.ne_of_lt (blk_lt BK140.out))
    have NBgb4_gb37 := Aside0.mk (show gb4 ≠ gb37 by rw [hg]; exact Nat.ne_of_lt (blk_lt BK142.out))
    have GEgb37 := Aside0.mk (show w.heap.size ≤ gb37 by rw [hg]; exact below_size Yb_)
    have BK175 := Aside0.mk hbox
    have m_ := Aside0.mk (blk_below BK140.out hb)
    clear BK140
    have BK140 := m_
    clear m_
    have m_ := Aside0.mk (blk_below BK142.out hb)
    clear BK142
    have BK142 := m_
    clear m_
    have HSw174 := Aside0.mk (show w144.heap.size ≤ w174.heap.size from hb.size)
    have m_ := Aside0.mk (below_step HB.out hb)
    clear HB
    have HB := m_
    clear m_
    clear hb hbox hg
    refine hK.out _ _ ⟨(blk_cell BK140.out 0).trans rfl, (blk_cell BK140.out 1).trans rfl, (blk_cell BK140.out 2).trans rfl, (blk_cell BK142.out 0).trans rfl, (blk_cell BK142.out 1).trans rfl, (blk_cell BK142.out 2).trans rfl⟩ (fun hHeld => ?_)
    clear hK K
    refine norm_ (show Act.put _ (some 6) _ = _ from Ya_) ?_
    refine one_ (i := 1) (N := some 23) #[true, true, true, false, false, false, false, false, true, false, false] rfl rfl Yj_ (by decide) (fun K hK => ?_)
    refine goes_ Try.func12 Yj_ rfl #[.agg #[.slice A0_0 l0_0.length c0_0, .int .i64 a0_1, .slice A0_2 l0_2.length c0_2]] (by rfl) rfl rfl Yd_ ?_
    (with_reducible refine (Bi.calls2 k _ _ l0_0 a0_1 _ _ l0_2 r8 r12 r13 w174 (Kd.C_below HR0_0.out Yb_) HC0_0.out (Kd.C_below HR0_2.out Yb_) HC0_2.out A18.out).mono ?_)
    rintro e w176 ⟨Pw176, v179, v180, rfl, ho177, ho178, hb⟩
    refine ⟨_, rfl, ?_⟩
    have m_ := Aside0.mk (blk_below BK140.out hb)
    clear BK140
    have BK140 := m_
    clear m_
    have m_ := Aside0.mk (blk_below BK142.out hb)
    clear BK142
    have BK142 := m_
    clear m_
    have m_ := Aside0.mk (blk_below BK175.out hb)
    clear BK175
    have BK175 := m_
    clear m_
    have HSw176 := Aside0.mk (show w174.heap.size ≤ w176.heap.size from hb.size)
    have m_ := (show Kd.S (Kd.slice 3 (Kd.int .i64)) 73 w176 w.heap.size (fun k_ => (w174.heap.size ≤ k_ ∧ k_ < w176.heap.size) ∧ Pw176 k_) v179 r8 from Kd.S_mono (Kd.S_lower (Kd.Bl ho177) (below_size Yb_)) (fun k_ hk_ => ⟨⟨hk_.2.1, hk_.2.2.1⟩, hk_.1⟩))
    obtain ⟨A9, c10, e_⟩ := Kd.S_slice m_
    subst e_
    have HO11 := Aside0.mk m_
    clear m_ ho177
    have m_ := (show Kd.S (Kd.slice 3 (Kd.int .i64)) 73 w176 w.heap.size (fun k_ => (w174.heap.size ≤ k_ ∧ k_ < w176.heap.size) ∧ ¬ Pw176 k_) v180 r13 from Kd.S_mono (Kd.S_lower (Kd.Bl ho178) (below_size Yb_)) (fun k_ hk_ => ⟨⟨hk_.2.1, hk_.2.2.1⟩, hk_.1⟩))
    obtain ⟨A14, c15, e_⟩ := Kd.S_slice m_
    subst e_
    have HO16 := Aside0.mk m_
    clear m_ ho178
    have m_ := Aside0.mk (below_step HB.out hb)
    clear HB
    have HB := m_
    clear m_
    clear hb
    refine hK.out _ _ ⟨(blk_cell BK140.out 0).trans rfl, (blk_cell BK140.out 1).trans rfl, (blk_cell BK140.out 2).trans rfl, (blk_cell BK142.out 0).trans rfl, (blk_cell BK142.out 1).trans rfl, (blk_cell BK142.out 2).trans rfl⟩ (fun hHeld => ?_)
    clear hK K
    refine norm_ (show Act.put _ (some 23) _ = _ from Ya_) ?_
    refine one_ (i := 3) (N := some 25) #[true, true, true, true, false, false, false, false, true, false, false] rfl rfl Yj_ (by decide) (fun K hK => ?_)
    refine goes_ Try.func18 Yj_ rfl #[.agg #[.int .i64 a1_0, .int .i64 a1_1, .int .i64 a1_2]] (by rfl) rfl rfl Yd_ ?_
    (with_reducible refine (laws_toOrder.calls a1_0 a1_1 a1_2 r19 r20 r21 w176  A23.out).mono ?_)
    rintro e w181 ⟨rfl, hb⟩
    refine ⟨_, rfl, ?_⟩
    have m_ := Aside0.mk (Kd.Aa HO11.out hb)
    clear HO11
    have HO11 := m_
    clear m_
    have m_ := Aside0.mk (Kd.Aa HO16.out hb)
    clear HO16
    have HO16 := m_
    clear m_
    have m_ := Aside0.mk (blk_below BK140.out hb)
    clear BK140
    have BK140 := m_
    clear m_
    have m_ := Aside0.mk (blk_below BK142.out hb)
    clear BK142
    have BK142 := m_
    clear m_
    have m_ := Aside0.mk (blk_below BK175.out hb)
    clear BK175
    have BK175 := m_
    clear m_
    have HSw181 := Aside0.mk (show w176.heap.size ≤ w181.heap.size from hb.size)
    have m_ := Aside0.mk (below_step HB.out hb)
    clear HB
    have HB := m_
    clear m_
    clear hb
    refine hK.out _ _ ⟨(blk_cell BK140.out 0).trans rfl, (blk_cell BK140.out 1).trans rfl, (blk_cell BK140.out 2).trans rfl, (blk_cell BK142.out 0).trans rfl, (blk_cell BK142.out 1).trans rfl, (blk_cell BK142.out 2).trans rfl⟩ (fun hHeld => ?_)
    clear hK K
    refine norm_ (show Act.put _ (some 25) _ = _ from Ya_) ?_
    refine one_ (i := 4) (N := some 26) #[true, true, true, true, true, false, false, false, true, false, false] rfl rfl Yj_ (by decide) (fun K hK => ?_)
    refine goes_ Try.func21 Yj_ rfl #[.agg #[.slice A9 r8.length c10, .int .i64 r12, .slice A14 r13.length c15], .agg #[.int .i64 r19, .int .i64 r20, .int .i64 r21]] (by rfl) rfl rfl Yd_ ?_
    (with_reducible refine (Dj.calls k _ _ r8 r12 _ _ r13 r19 r20 r21 r24 r28 r29 r128 w181 (Kd.Ac HO11.out).2.2 (Nat.le_trans (Nat.le_of_eq (Kd.Ac HO11.out).1.symm) (Kd.Ac HO11.out).2.1) (Kd.Ac HO16.out).2.2 (Nat.le_trans (Nat.le_of_eq (Kd.Ac HO16.out).1.symm) (Kd.Ac HO16.out).2.1) A35.out).mono ?_)
    rintro e w182 ⟨v185, v186, rfl, ho183, ho184, hb⟩
    refine ⟨_, rfl, ?_⟩
    have m_ := Aside0.mk (Kd.Aa HO11.out hb)
    clear HO11
    have HO11 := m_
    clear m_
    have m_ := Aside0.mk (Kd.Aa HO16.out hb)
    clear HO16
    have HO16 := m_
    clear m_
    have m_ := Aside0.mk (blk_below BK140.out hb)
    clear BK140
    have BK140 := m_
    clear m_
    have m_ := Aside0.mk (blk_below BK142.out hb)
    clear BK142
    have BK142 := m_
    clear m_
    have m_ := Aside0.mk (blk_below BK175.out hb)
    clear BK175
    have BK175 := m_
    clear m_
    have HSw182 := Aside0.mk (show w181.heap.size ≤ w182.heap.size from hb.size)
    have m_ := (show Kd.S (Kd.slice 3 (Kd.int .i64)) 73 w182 w.heap.size (fun k_ => (w181.heap.size ≤ k_ ∧ k_ < w182.heap.size) ∧ True) v185 r24 from Kd.S_mono (Kd.S_lower (Kd.Bl ho183) (below_size Yb_)) (fun k_ hk_ => ⟨⟨hk_.2.1, hk_.2.2.1⟩, trivial⟩))
    obtain ⟨A25, c26, e_⟩ := Kd.S_slice m_
    subst e_
    have HO27 := Aside0.mk m_
    clear m_ ho183
    have m_ := (show Kd.S (Kd.slice 3 (Kd.int .i64)) 73 w182 w.heap.size (fun k_ => (w181.heap.size ≤ k_ ∧ k_ < w182.heap.size) ∧ True) v186 r29 from Kd.S_mono (Kd.S_lower (Kd.Bl ho184) (below_size Yb_)) (fun k_ hk_ => ⟨⟨hk_.2.1, hk_.2.2.1⟩, trivial⟩))
    obtain ⟨A30, c31, e_⟩ := Kd.S_slice m_
    subst e_
    have HO32 := Aside0.mk m_
    clear m_ ho184
    have m_ := Aside0.mk (below_step HB.out hb)
    clear HB
    have HB := m_
    clear m_
    clear hb
    refine hK.out _ _ ⟨(blk_cell BK140.out 0).trans rfl, (blk_cell BK140.out 1).trans rfl, (blk_cell BK140.out 2).trans rfl, (blk_cell BK142.out 0).trans rfl, (blk_cell BK142.out 1).trans rfl, (blk_cell BK142.out 2).trans rfl⟩ (fun hHeld => ?_)
    clear hK K
    refine norm_ (show Act.put _ (some 26) _ = _ from Ya_) ?_
    refine pure_ (i := 5) (N := some 21) #[true, true, true, true, true, true, false, false, true, false, false] rfl rfl Yj_ (fun _ _ _ h => h) (Or.inl ⟨by rfl, Ybb_⟩) Ya_ ?_
    refine pure_ (i := 6) (N := some 27) #[true, true, true, true, true, true, true, false, true, false, false] rfl rfl Yj_ (fun _ _ _ h => h) (Or.inl ⟨by rfl, Ybb_⟩) Ya_ ?_
    refine pure_ (i := 7) (N := some 28) #[true, true, true, true, true, true, true, true, true, false, false] rfl rfl Yj_ (fun _ _ _ h => h) (Or.inl ⟨by rfl, Ybb_⟩) Ya_ ?_
    exact norm_ Ybe_ (hCont (w174.heap.size, w176.heap.size, w181.heap.size, w182.heap.size, A9, c10, A14, c15, A25, c26, A30, c31, Pw176, gb37) _ ⟨HB, HO11, HO16, HO27, HO32, BK140, BK142, BK175, GEgb37, NBgb2_gb37, NBgb4_gb37, ⟨by have := HSw139.out; have := HSw141.out; have := HSw143.out; have := HSw144.out; have := HSw174.out; have := HSw176.out; have := HSw181.out; have := HSw182.out; omega⟩⟩)
  clear HB BK140 BK142
  rintro ⟨lo1_w145, hi1_w145, lo4_w145, hi4_w145, A9, c10, A14, c15, A25, c26, A30, c31, PJ1_w145, gb37⟩ w145 ⟨HB, HO11, HO16, HO27, HO32, BK140, BK142, BJ8_w145, GEgb37, NBgb2_gb37, NBgb4_gb37, HSw145⟩
  have hHeld : (fun w' => w'.cell? ⟨gb2, 0, none⟩ = some (.slice A0_0 l0_0.length c0_0) ∧ w'.cell? ⟨gb2, 1, none⟩ = some (.int .i64 a0_1) ∧ w'.cell? ⟨gb2, 2, none⟩ = some (.slice A0_2 l0_2.length c0_2) ∧ w'.cell? ⟨gb4, 0, none⟩ = some (.int .i64 a1_0) ∧ w'.cell? ⟨gb4, 1, none⟩ = some (.int .i64 a1_1) ∧ w'.cell? ⟨gb4, 2, none⟩ = some (.int .i64 a1_2)) w145 := ⟨(blk_cell BK140.out 0).trans rfl, (blk_cell BK140.out 1).trans rfl, (blk_cell BK140.out 2).trans rfl, (blk_cell BK142.out 0).trans rfl, (blk_cell BK142.out 1).trans rfl, (blk_cell BK142.out 2).trans rfl⟩
  refine norm_ (a' := ?_) ?_ ?_
  rotate_left
  ·simp only [Dv, Act.put, List.setIfInBounds_toArray, List.set_cons_zero, List.set_cons_succ]
   rfl
  refine one_ (i := 9) (N := none) #[true, true, true, true, true, true, true, true, true, true, false] rfl rfl Yj_ (by decide) (fun K hK => ?_)
  have hs0_ : w145.cell? ⟨gb37, 0, none⟩ = some (.slice none 0 0) := (blk_cell BJ8_w145.out 0).trans rfl
  have hfs0_ := blk_frozen BJ8_w145.out 0
  have hs1_ : w145.cell? ⟨gb37, 1, none⟩ = some (.int .i64 0) := (blk_cell BJ8_w145.out 1).trans rfl
  have hfs1_ := blk_frozen BJ8_w145.out 1
  have hs2_ : w145.cell? ⟨gb37, 2, none⟩ = some (.slice none 0 0) := (blk_cell BJ8_w145.out 2).trans rfl
  have hfs2_ := blk_frozen BJ8_w145.out 2
  refine Go.Proofs.YtnggfglmjdiaaaaOwn.Ej (w1 := (((w145.setCell ⟨gb37, 0, none⟩ (.slice A25 r24.length c26)).setCell ⟨gb37, 1, none⟩ (.int .i64 r28)).setCell ⟨gb37, 2, none⟩ (.slice A30 r29.length c31))) (by rfl) rfl ?_ ?_
  ·first | (go_simp; done) | (go_simp; rfl)
  intro w187 hw
  have hO_ : Go.Proofs.YtnggfglmjdiaaaaOwn.Only w145 w187 gb37 := Ydc_
  have hbx_ : w187.heap[gb37]? = some (.cells #[.slice A25 r24.length c26, .int .i64 r28, .slice A30 r29.length c31] 34 (0, 0)) := (by rw [hw]; refine blk_put (cs := #[.slice A25 r24.length c26, .int .i64 r28, .slice none 0 0]) ?_ 2 _ rfl; refine blk_put (cs := #[.slice A25 r24.length c26, .int .i64 0, .slice none 0 0]) ?_ 1 _ rfl; refine blk_put (cs := #[.slice none 0 0, .int .i64 0, .slice none 0 0]) ?_ 0 _ rfl; exact BJ8_w145.out)
  (try clear hs0_ hfs0_ hs1_ hfs1_ hs2_ hfs2_)
  clear hw
  have m_ := Aside0.mk (Go.Proofs.YtnggfglmjdiaaaaOwn.Dt HO11.out BJ8_w145.out (by decide) hO_)
  clear HO11
  have HO11 := m_
  clear m_
  have m_ := Aside0.mk (Go.Proofs.YtnggfglmjdiaaaaOwn.Dt HO16.out BJ8_w145.out (by decide) hO_)
  clear HO16
  have HO16 := m_
  clear m_
  have m_ := Aside0.mk (Go.Proofs.YtnggfglmjdiaaaaOwn.Dt HO27.out BJ8_w145.out (by decide) hO_)
  clear HO27
  have HO27 := m_
  clear m_
  have m_ := Aside0.mk (Go.Proofs.YtnggfglmjdiaaaaOwn.Dt HO32.out BJ8_w145.out (by decide) hO_)
  clear HO32
  have HO32 := m_
  clear m_
  have m_ := Aside0.mk ((hO_.others _ NBgb2_gb37.out).trans BK140.out)
  clear BK140
  have BK140 := m_
  clear m_
  have m_ := Aside0.mk ((hO_.others _ NBgb4_gb37.out).trans BK142.out)
  clear BK142
  have BK142 := m_
  clear m_
  have m_ := Aside0.mk (hO_.below HB.out GEgb37.out)
  clear HB
  have HB := m_
  clear m_
  have HSw187 := Aside0.mk (Nat.le_of_eq hO_.size.symm : w145.heap.size ≤ w187.heap.size)
  clear BJ8_w145
  have BK188 := Aside0.mk hbx_
  clear hbx_ hO_
  refine hK.out _ _ ⟨(blk_cell BK140.out 0).trans rfl, (blk_cell BK140.out 1).trans rfl, (blk_cell BK140.out 2).trans rfl, (blk_cell BK142.out 0).trans rfl, (blk_cell BK142.out 1).trans rfl, (blk_cell BK142.out 2).trans rfl⟩ (fun hHeld => ?_)
  clear hK K
  refine pure_ (i := 10) (N := some 7) #[true, true, true, true, true, true, true, true, true, true, true] rfl rfl Yj_ (fun _ _ _ h => h) (Or.inl ⟨by rfl, Ybb_⟩) Ya_ ?_
  refine done_ Yj_ ?_
  have hzgb2_0 : w187.cell? ⟨gb2, 0, none⟩ = some (.slice A0_0 l0_0.length c0_0) := (blk_cell BK140.out 0).trans rfl
  have hzgb2_1 : w187.cell? ⟨gb2, 1, none⟩ = some (.int .i64 a0_1) := (blk_cell BK140.out 1).trans rfl
  have hzgb2_2 : w187.cell? ⟨gb2, 2, none⟩ = some (.slice A0_2 l0_2.length c0_2) := (blk_cell BK140.out 2).trans rfl
  have hzgb4_0 : w187.cell? ⟨gb4, 0, none⟩ = some (.int .i64 a1_0) := (blk_cell BK142.out 0).trans rfl
  have hzgb4_1 : w187.cell? ⟨gb4, 1, none⟩ = some (.int .i64 a1_1) := (blk_cell BK142.out 1).trans rfl
  have hzgb4_2 : w187.cell? ⟨gb4, 2, none⟩ = some (.int .i64 a1_2) := (blk_cell BK142.out 2).trans rfl
  have hzgb37_0 : w187.cell? ⟨gb37, 0, none⟩ = some (.slice A25 r24.length c26) := (blk_cell BK188.out 0).trans rfl
  have hzgb37_1 : w187.cell? ⟨gb37, 1, none⟩ = some (.int .i64 r28) := (blk_cell BK188.out 1).trans rfl
  have hzgb37_2 : w187.cell? ⟨gb37, 2, none⟩ = some (.slice A30 r29.length c31) := (blk_cell BK188.out 2).trans rfl
  go_upto_region 7 with (first | ((with_reducible refine gate_callee (f := 12) rfl ?_); (try (refine gate_guard (by rfl) ?_; dsimp only)); refine goesL_ (some 30) rfl rfl Try.func12 Yj_ rfl #[.agg #[.slice A0_0 l0_0.length c0_0, .int .i64 a0_1, .slice A0_2 l0_2.length c0_2]] rfl Yd_ ?_; (with_reducible refine (Bi.calls2 k _ _ l0_0 a0_1 _ _ l0_2 r38 r42 r43 w187 (Kd.C_below HR0_0.out Yb_) HC0_0.out (Kd.C_below HR0_2.out Yb_) HC0_2.out A48.out).mono ?_); rintro e w189 ⟨Pw189, v192, v193, rfl, ho190, ho191, hb⟩; (try clear hzgb2_0 hzgb2_1 hzgb2_2); (try clear hzgb4_0 hzgb4_1 hzgb4_2); (try clear hzgb37_0 hzgb37_1 hzgb37_2); refine ⟨_, rfl, ?_⟩; have m_ := Aside0.mk (Kd.Aa HO11.out hb); clear HO11; have HO11 := m_; clear m_; have m_ := Aside0.mk (Kd.Aa HO16.out hb); clear HO16; have HO16 := m_; clear m_; have m_ := Aside0.mk (Kd.Aa HO27.out hb); clear HO27; have HO27 := m_; clear m_; have m_ := Aside0.mk (Kd.Aa HO32.out hb); clear HO32; have HO32 := m_; clear m_; have m_ := Aside0.mk (blk_below BK140.out hb); clear BK140; have BK140 := m_; clear m_; have m_ := Aside0.mk (blk_below BK142.out hb); clear BK142; have BK142 := m_; clear m_; have m_ := Aside0.mk (blk_below BK188.out hb); clear BK188; have BK188 := m_; clear m_; have HSw189 := Aside0.mk (show w187.heap.size ≤ w189.heap.size from hb.size); have m_ := (show Kd.S (Kd.slice 3 (Kd.int .i64)) 73 w189 w.heap.size (fun k_ => (w187.heap.size ≤ k_ ∧ k_ < w189.heap.size) ∧ Pw189 k_) v192 r38 from Kd.S_mono (Kd.S_lower (Kd.Bl ho190) (below_size Yb_)) (fun k_ hk_ => ⟨⟨hk_.2.1, hk_.2.2.1⟩, hk_.1⟩)); obtain ⟨A39, c40, e_⟩ := Kd.S_slice m_; subst e_; have HO41 := Aside0.mk m_; clear m_ ho190; have m_ := (show Kd.S (Kd.slice 3 (Kd.int .i64)) 73 w189 w.heap.size (fun k_ => (w187.heap.size ≤ k_ ∧ k_ < w189.heap.size) ∧ ¬ Pw189 k_) v193 r43 from Kd.S_mono (Kd.S_lower (Kd.Bl ho191) (below_size Yb_)) (fun k_ hk_ => ⟨⟨hk_.2.1, hk_.2.2.1⟩, hk_.1⟩)); obtain ⟨A44, c45, e_⟩ := Kd.S_slice m_; subst e_; have HO46 := Aside0.mk m_; clear m_ ho191; have m_ := Aside0.mk (below_step HB.out hb); clear HB; have HB := m_; clear m_; clear hb; have hzgb2_0 : w189.cell? ⟨gb2, 0, none⟩ = some (.slice A0_0 l0_0.length c0_0) := (blk_cell BK140.out 0).trans rfl; have hzgb2_1 : w189.cell? ⟨gb2, 1, none⟩ = some (.int .i64 a0_1) := (blk_cell BK140.out 1).trans rfl; have hzgb2_2 : w189.cell? ⟨gb2, 2, none⟩ = some (.slice A0_2 l0_2.length c0_2) := (blk_cell BK140.out 2).trans rfl; have hzgb4_0 : w189.cell? ⟨gb4, 0, none⟩ = some (.int .i64 a1_0) := (blk_cell BK142.out 0).trans rfl; have hzgb4_1 : w189.cell? ⟨gb4, 1, none⟩ = some (.int .i64 a1_1) := (blk_cell BK142.out 1).trans rfl; have hzgb4_2 : w189.cell? ⟨gb4, 2, none⟩ = some (.int .i64 a1_2) := (blk_cell BK142.out 2).trans rfl; have hzgb37_0 : w189.cell? ⟨gb37, 0, none⟩ = some (.slice A25 r24.length c26) := (blk_cell BK188.out 0).trans rfl; have hzgb37_1 : w189.cell? ⟨gb37, 1, none⟩ = some (.int .i64 r28) := (blk_cell BK188.out 1).trans rfl; have hzgb37_2 : w189.cell? ⟨gb37, 2, none⟩ = some (.slice A30 r29.length c31) := (blk_cell BK188.out 2).trans rfl) | ((with_reducible refine gate_dst (N := 8) rfl ?_); refine box_event ?hg (N := 8) ?hd (cs := #[.slice none 0 0, .int .i64 0, .slice none 0 0]) (t := 34) ?hr ?_; (case hd => rfl); (case hg => rfl); (case hr => first | (go_simp; done) | (go_simp; rfl)); intro gb50 hg w194 hbox hb; (try clear hzgb2_0 hzgb2_1 hzgb2_2); (try clear hzgb4_0 hzgb4_1 hzgb4_2); (try clear hzgb37_0 hzgb37_1 hzgb37_2); (try clear hzgb50_0 hzgb50_1 hzgb50_2); have NBgb2_gb50 := Aside0.mk (show gb2 ≠ gb50 by rw [hg]; exact Nat.ne_of_lt (blk_lt BK140.out)); have NBgb4_gb50 := Aside0.mk (show gb4 ≠ gb50 by rw [hg]; exact Nat.ne_of_lt (blk_lt BK142.out)); have NBgb37_gb50 := Aside0.mk (show gb37 ≠ gb50 by rw [hg]; exact Nat.ne_of_lt (blk_lt BK188.out)); have GEgb50 := Aside0.mk (show w.heap.size ≤ gb50 by rw [hg]; exact below_size Yb_); have BK195 := Aside0.mk hbox; have m_ := Aside0.mk (Kd.Aa HO11.out hb); clear HO11; have HO11 := m_; clear m_; have m_ := Aside0.mk (Kd.Aa HO16.out hb); clear HO16; have HO16 := m_; clear m_; have m_ := Aside0.mk (Kd.Aa HO27.out hb); clear HO27; have HO27 := m_; clear m_; have m_ := Aside0.mk (Kd.Aa HO32.out hb); clear HO32; have HO32 := m_; clear m_; have m_ := Aside0.mk (Kd.Aa HO41.out hb); clear HO41; have HO41 := m_; clear m_; have m_ := Aside0.mk (Kd.Aa HO46.out hb); clear HO46; have HO46 := m_; clear m_; have m_ := Aside0.mk (blk_below BK140.out hb); clear BK140; have BK140 := m_; clear m_; have m_ := Aside0.mk (blk_below BK142.out hb); clear BK142; have BK142 := m_; clear m_; have m_ := Aside0.mk (blk_below BK188.out hb); clear BK188; have BK188 := m_; clear m_; have HSw194 := Aside0.mk (show w189.heap.size ≤ w194.heap.size from hb.size); have m_ := Aside0.mk (below_step HB.out hb); clear HB; have HB := m_; clear m_; clear hb hbox hg; have hzgb2_0 : w194.cell? ⟨gb2, 0, none⟩ = some (.slice A0_0 l0_0.length c0_0) := (blk_cell BK140.out 0).trans rfl; have hzgb2_1 : w194.cell? ⟨gb2, 1, none⟩ = some (.int .i64 a0_1) := (blk_cell BK140.out 1).trans rfl; have hzgb2_2 : w194.cell? ⟨gb2, 2, none⟩ = some (.slice A0_2 l0_2.length c0_2) := (blk_cell BK140.out 2).trans rfl; have hzgb4_0 : w194.cell? ⟨gb4, 0, none⟩ = some (.int .i64 a1_0) := (blk_cell BK142.out 0).trans rfl; have hzgb4_1 : w194.cell? ⟨gb4, 1, none⟩ = some (.int .i64 a1_1) := (blk_cell BK142.out 1).trans rfl; have hzgb4_2 : w194.cell? ⟨gb4, 2, none⟩ = some (.int .i64 a1_2) := (blk_cell BK142.out 2).trans rfl; have hzgb37_0 : w194.cell? ⟨gb37, 0, none⟩ = some (.slice A25 r24.length c26) := (blk_cell BK188.out 0).trans rfl; have hzgb37_1 : w194.cell? ⟨gb37, 1, none⟩ = some (.int .i64 r28) := (blk_cell BK188.out 1).trans rfl; have hzgb37_2 : w194.cell? ⟨gb37, 2, none⟩ = some (.slice A30 r29.length c31) := (blk_cell BK188.out 2).trans rfl; have hzgb50_0 : w194.cell? ⟨gb50, 0, none⟩ = some (.slice none 0 0) := (blk_cell BK195.out 0).trans rfl; have hzgb50_1 : w194.cell? ⟨gb50, 1, none⟩ = some (.int .i64 0) := (blk_cell BK195.out 1).trans rfl; have hzgb50_2 : w194.cell? ⟨gb50, 2, none⟩ = some (.slice none 0 0) := (blk_cell BK195.out 2).trans rfl) | ((with_reducible refine gate_store (t := 34) (p := 8) rfl ?_); have hs0_ : w194.cell? ⟨gb50, 0, none⟩ = some (.slice none 0 0) := (blk_cell BK195.out 0).trans rfl; have hfs0_ := blk_frozen BK195.out 0; have hs1_ : w194.cell? ⟨gb50, 1, none⟩ = some (.int .i64 0) := (blk_cell BK195.out 1).trans rfl; have hfs1_ := blk_frozen BK195.out 1; have hs2_ : w194.cell? ⟨gb50, 2, none⟩ = some (.slice none 0 0) := (blk_cell BK195.out 2).trans rfl; have hfs2_ := blk_frozen BK195.out 2; refine Ff (t := 34) (p := 8) (v := ?vo_w196) (w1 := (((w194.setCell ⟨gb50, 0, none⟩ (.slice A39 r38.length c40)).setCell ⟨gb50, 1, none⟩ (.int .i64 r42)).setCell ⟨gb50, 2, none⟩ (.slice A44 r43.length c45))) ?hg ?ho ?hn ?hr ?_; (case ho => rfl); (case hg => rfl); (case hn => rfl); (case hr => first | (go_simp; done) | (go_simp; rfl)); intro w196 hw; (try clear hzgb2_0 hzgb2_1 hzgb2_2); (try clear hzgb4_0 hzgb4_1 hzgb4_2); (try clear hzgb37_0 hzgb37_1 hzgb37_2); (try clear hzgb50_0 hzgb50_1 hzgb50_2); have hO_ : Go.Proofs.YtnggfglmjdiaaaaOwn.Only w194 w196 gb50 := Ydc_; have hbx_ : w196.heap[gb50]? = some (.cells #[.slice A39 r38.length c40, .int .i64 r42, .slice A44 r43.length c45] 34 (0, 0)) := (by rw [hw]; refine blk_put (cs := #[.slice A39 r38.length c40, .int .i64 r42, .slice none 0 0]) ?_ 2 _ rfl; refine blk_put (cs := #[.slice A39 r38.length c40, .int .i64 0, .slice none 0 0]) ?_ 1 _ rfl; refine blk_put (cs := #[.slice none 0 0, .int .i64 0, .slice none 0 0]) ?_ 0 _ rfl; exact BK195.out); (try clear hs0_ hfs0_ hs1_ hfs1_ hs2_ hfs2_); clear hw; have m_ := Aside0.mk (Go.Proofs.YtnggfglmjdiaaaaOwn.Dt HO11.out BK195.out (by decide) hO_); clear HO11; have HO11 := m_; clear m_; have m_ := Aside0.mk (Go.Proofs.YtnggfglmjdiaaaaOwn.Dt HO16.out BK195.out (by decide) hO_); clear HO16; have HO16 := m_; clear m_; have m_ := Aside0.mk (Go.Proofs.YtnggfglmjdiaaaaOwn.Dt HO27.out BK195.out (by decide) hO_); clear HO27; have HO27 := m_; clear m_; have m_ := Aside0.mk (Go.Proofs.YtnggfglmjdiaaaaOwn.Dt HO32.out BK195.out (by decide) hO_); clear HO32; have HO32 := m_; clear m_; have m_ := Aside0.mk (Go.Proofs.YtnggfglmjdiaaaaOwn.Dt HO41.out BK195.out (by decide) hO_); clear HO41; have HO41 := m_; clear m_; have m_ := Aside0.mk (Go.Proofs.YtnggfglmjdiaaaaOwn.Dt HO46.out BK195.out (by decide) hO_); clear HO46; have HO46 := m_; clear m_; have m_ := Aside0.mk ((hO_.others _ NBgb2_gb50.out).trans BK140.out); clear BK140; have BK140 := m_; clear m_; have m_ := Aside0.mk ((hO_.others _ NBgb4_gb50.out).trans BK142.out); clear BK142; have BK142 := m_; clear m_; have m_ := Aside0.mk ((hO_.others _ NBgb37_gb50.out).trans BK188.out); clear BK188; have BK188 := m_; clear m_; have m_ := Aside0.mk (hO_.below HB.out GEgb50.out); clear HB; have HB := m_; clear m_; have HSw196 := Aside0.mk (Nat.le_of_eq hO_.size.symm : w194.heap.size ≤ w196.heap.size); clear BK195; have BK197 := Aside0.mk hbx_; clear hbx_ hO_; have hzgb2_0 : w196.cell? ⟨gb2, 0, none⟩ = some (.slice A0_0 l0_0.length c0_0) := (blk_cell BK140.out 0).trans rfl; have hzgb2_1 : w196.cell? ⟨gb2, 1, none⟩ = some (.int .i64 a0_1) := (blk_cell BK140.out 1).trans rfl; have hzgb2_2 : w196.cell? ⟨gb2, 2, none⟩ = some (.slice A0_2 l0_2.length c0_2) := (blk_cell BK140.out 2).trans rfl; have hzgb4_0 : w196.cell? ⟨gb4, 0, none⟩ = some (.int .i64 a1_0) := (blk_cell BK142.out 0).trans rfl; have hzgb4_1 : w196.cell? ⟨gb4, 1, none⟩ = some (.int .i64 a1_1) := (blk_cell BK142.out 1).trans rfl; have hzgb4_2 : w196.cell? ⟨gb4, 2, none⟩ = some (.int .i64 a1_2) := (blk_cell BK142.out 2).trans rfl; have hzgb37_0 : w196.cell? ⟨gb37, 0, none⟩ = some (.slice A25 r24.length c26) := (blk_cell BK188.out 0).trans rfl; have hzgb37_1 : w196.cell? ⟨gb37, 1, none⟩ = some (.int .i64 r28) := (blk_cell BK188.out 1).trans rfl; have hzgb37_2 : w196.cell? ⟨gb37, 2, none⟩ = some (.slice A30 r29.length c31) := (blk_cell BK188.out 2).trans rfl; have hzgb50_0 : w196.cell? ⟨gb50, 0, none⟩ = some (.slice A39 r38.length c40) := (blk_cell BK197.out 0).trans rfl; have hzgb50_1 : w196.cell? ⟨gb50, 1, none⟩ = some (.int .i64 r42) := (blk_cell BK197.out 1).trans rfl; have hzgb50_2 : w196.cell? ⟨gb50, 2, none⟩ = some (.slice A44 r43.length c45) := (blk_cell BK197.out 2).trans rfl))
  (try clear hzgb2_0 hzgb2_1 hzgb2_2 hzgb37_0 hzgb37_1 hzgb37_2 hzgb4_0 hzgb4_1 hzgb4_2 hzgb50_0 hzgb50_1 hzgb50_2)
  have m_ := Aside0.mk (Kd.S_drew HO11.out)
  clear HO11
  have HO11 := m_
  clear m_
  have m_ := Aside0.mk (Kd.S_drew HO16.out)
  clear HO16
  have HO16 := m_
  clear m_
  have m_ := Aside0.mk (Kd.S_drew HO27.out)
  clear HO27
  have HO27 := m_
  clear m_
  have m_ := Aside0.mk (Kd.S_drew HO32.out)
  clear HO32
  have HO32 := m_
  clear m_
  have m_ := Aside0.mk (Kd.S_drew HO41.out)
  clear HO41
  have HO41 := m_
  clear m_
  have m_ := Aside0.mk (Kd.S_drew HO46.out)
  clear HO46
  have HO46 := m_
  clear m_
  have m_ := Aside0.mk (blk_drew BK140.out)
  clear BK140
  have BK140 := m_
  clear m_
  have m_ := Aside0.mk (blk_drew BK142.out)
  clear BK142
  have BK142 := m_
  clear m_
  have m_ := Aside0.mk (blk_drew BK188.out)
  clear BK188
  have BK188 := m_
  clear m_
  have m_ := Aside0.mk (blk_drew BK197.out)
  clear BK197
  have BK197 := m_
  clear m_
  have m_ := Aside0.mk (below_drew1 HB.out)
  clear HB
  have HB := m_
  clear m_
  have HSw198 := Aside0.mk (show w196.heap.size ≤ w196.drew.heap.size from Nat.le_refl _)
  refine start_ (n := 10) (S := fun w' => w'.cell? ⟨gb50, 0, none⟩ = some (.slice A39 r38.length c40) ∧ w'.cell? ⟨gb50, 1, none⟩ = some (.int .i64 r42) ∧ w'.cell? ⟨gb50, 2, none⟩ = some (.slice A44 r43.length c45) ∧ w'.cell? ⟨gb4, 0, none⟩ = some (.int .i64 a1_0) ∧ w'.cell? ⟨gb4, 1, none⟩ = some (.int .i64 a1_1) ∧ w'.cell? ⟨gb4, 2, none⟩ = some (.int .i64 a1_2)) (ds := []) #[false, false, false, false, false, false, false, false, false, false] Yj_ rfl rfl ⟨(blk_cell BK197.out 0).trans rfl, (blk_cell BK197.out 1).trans rfl, (blk_cell BK197.out 2).trans rfl, (blk_cell BK142.out 0).trans rfl, (blk_cell BK142.out 1).trans rfl, (blk_cell BK142.out 2).trans rfl⟩ (fun hHeld => ?_)
  generalize w196.drew = w198 at HO11 HO16 HO27 HO32 HO41 HO46 BK140 BK142 BK188 BK197 HB HSw198 hHeld ⊢
  refine take_ (i := 0) (N := some 32) #[true, false, false, false, false, false, false, false, false, false] rfl rfl Yj_ (fun _ _ _ h => h) (Or.inl ⟨by rfl, Ycc_⟩) hHeld Ya_ ?_
  refine take_ (i := 1) (N := some 33) #[true, true, false, false, false, false, false, false, false, false] rfl rfl Yj_ (fun _ _ _ h => h) (Or.inl ⟨by rfl, Ycc_⟩) hHeld Ya_ ?_
  refine join_ (σ := (Nat) × (Nat) × (Option Addr) × (Nat) × (Option Addr) × (Nat) × (Nat → Prop) × (Nat)) 2 #[true, true, true, true, true, true, true, true, false, false] (fun s => match s with | ⟨lo3_w199, hi3_w199, A57, c58, A62, c63, PJ3_w199, gb69⟩ => [(34, .agg #[.int .i64 r51, .int .i64 r52, .int .i64 r53]), (35, .tuple #[.agg #[.slice A57 r56.length c58, .int .i64 r60, .slice A62 r61.length c63], .bool r128]), (31, .tuple #[.agg #[.slice A57 r56.length c58, .int .i64 r60, .slice A62 r61.length c63], .bool r128]), (36, .agg #[.slice A57 r56.length c58, .int .i64 r60, .slice A62 r61.length c63]), (37, .bool r128), (9, .pointer (some ⟨gb69, 0, none⟩))]) (fun s w' => match s with | ⟨lo3_w199, hi3_w199, A57, c58, A62, c63, PJ3_w199, gb69⟩ => Aside0 (Below w.heap.size w w') ∧ Aside0 (Kd.S (Kd.slice 3 (Kd.int .i64)) 73 w' w.heap.size (fun k_ => (lo1_w145 ≤ k_ ∧ k_ < hi1_w145) ∧ PJ1_w145 k_) (.slice A9 r8.length c10) r8) ∧ Aside0 (Kd.S (Kd.slice 3 (Kd.int .i64)) 73 w' w.heap.size (fun k_ => (lo1_w145 ≤ k_ ∧ k_ < hi1_w145) ∧ ¬ PJ1_w145 k_) (.slice A14 r13.length c15) r13) ∧ Aside0 (Kd.S (Kd.slice 3 (Kd.int .i64)) 73 w' w.heap.size (fun k_ => (lo4_w145 ≤ k_ ∧ k_ < hi4_w145) ∧ True) (.slice A25 r24.length c26) r24) ∧ Aside0 (Kd.S (Kd.slice 3 (Kd.int .i64)) 73 w' w.heap.size (fun k_ => (lo4_w145 ≤ k_ ∧ k_ < hi4_w145) ∧ True) (.slice A30 r29.length c31) r29) ∧ Aside0 (Kd.S (Kd.slice 3 (Kd.int .i64)) 73 w' w.heap.size (fun k_ => (w187.heap.size ≤ k_ ∧ k_ < w189.heap.size) ∧ Pw189 k_) (.slice A39 r38.length c40) r38) ∧ Aside0 (Kd.S (Kd.slice 3 (Kd.int .i64)) 73 w' w.heap.size (fun k_ => (w187.heap.size ≤ k_ ∧ k_ < w189.heap.size) ∧ ¬ Pw189 k_) (.slice A44 r43.length c45) r43) ∧ Aside0 (Kd.S (Kd.slice 3 (Kd.int .i64)) 73 w' w.heap.size (fun k_ => (lo3_w199 ≤ k_ ∧ k_ < hi3_w199) ∧ PJ3_w199 k_) (.slice A57 r56.length c58) r56) ∧ Aside0 (Kd.S (Kd.slice 3 (Kd.int .i64)) 73 w' w.heap.size (fun k_ => (lo3_w199 ≤ k_ ∧ k_ < hi3_w199) ∧ ¬ PJ3_w199 k_) (.slice A62 r61.length c63) r61) ∧ Aside0 (w'.heap[gb2]? = some (.cells #[.slice A0_0 l0_0.length c0_0, .int .i64 a0_1, .slice A0_2 l0_2.length c0_2] 28 (0, 0))) ∧ Aside0 (w'.heap[gb4]? = some (.cells #[.int .i64 a1_0, .int .i64 a1_1, .int .i64 a1_2] 42 (0, 0))) ∧ Aside0 (w'.heap[gb37]? = some (.cells #[.slice A25 r24.length c26, .int .i64 r28, .slice A30 r29.length c31] 34 (0, 0))) ∧ Aside0 (w'.heap[gb50]? = some (.cells #[.slice A39 r38.length c40, .int .i64 r42, .slice A44 r43.length c45] 34 (0, 0))) ∧ Aside0 (w'.heap[gb69]? = some (.cells #[.slice none 0 0, .int .i64 0, .slice none 0 0] 34 (0, 0))) ∧ Aside0 (w.heap.size ≤ gb69) ∧ Aside0 (gb2 ≠ gb69) ∧ Aside0 (gb4 ≠ gb69) ∧ Aside0 (gb37 ≠ gb69) ∧ Aside0 (gb50 ≠ gb69) ∧ Aside0 (w198.heap.size ≤ lo3_w199 ∧ lo3_w199 ≤ hi3_w199 ∧ hi3_w199 ≤ w'.heap.size ∧ w198.heap.size ≤ w'.heap.size)) ?_ ?_
  rotate_left
  ·intro hCont
   refine two_ (i := 2) (j := 7) (Ni := some 34) (Nj := some 9) #[true, true, true, false, false, false, false, false, false, false] #[true, true, false, false, false, false, false, true, false, false] rfl rfl rfl rfl Yj_ (by decide) (by decide) (fun K hK => ?_) (fun K hK => ?_)
   ·skip
    refine goes_ Try.func18 Yj_ rfl #[.agg #[.int .i64 a1_0, .int .i64 a1_1, .int .i64 a1_2]] (by rfl) rfl rfl Yd_ ?_
    (with_reducible refine (laws_toOrder.calls a1_0 a1_1 a1_2 r51 r52 r53 w198  A55.out).mono ?_)
    rintro e w200 ⟨rfl, hb⟩
    refine ⟨_, rfl, ?_⟩
    have m_ := Aside0.mk (Kd.Aa HO11.out hb)
    clear HO11
    have HO11 := m_
    clear m_
    have m_ := Aside0.mk (Kd.Aa HO16.out hb)
    clear HO16
    have HO16 := m_
    clear m_
    have m_ := Aside0.mk (Kd.Aa HO27.out hb)
    clear HO27
    have HO27 := m_
    clear m_
    have m_ := Aside0.mk (Kd.Aa HO32.out hb)
    clear HO32
    have HO32 := m_
    clear m_
    have m_ := Aside0.mk (Kd.Aa HO41.out hb)
    clear HO41
    have HO41 := m_
    clear m_
    have m_ := Aside0.mk (Kd.Aa HO46.out hb)
    clear HO46
    have HO46 := m_
    clear m_
    have m_ := Aside0.mk (blk_below BK140.out hb)
    clear BK140
    have BK140 := m_
    clear m_
    have m_ := Aside0.mk (blk_below BK142.out hb)
    clear BK142
    have BK142 := m_
    clear m_
    have m_ := Aside0.mk (blk_below BK188.out hb)
    clear BK188
    have BK188 := m_
    clear m_
    have m_ := Aside0.mk (blk_below BK197.out hb)
    clear BK197
    have BK197 := m_
    clear m_
    have HSw200 := Aside0.mk (show w198.heap.size ≤ w200.heap.size from hb.size)
    have m_ := Aside0.mk (below_step HB.out hb)
    clear HB
    have HB := m_
    clear m_
    clear hb
    refine hK.out _ _ ⟨(blk_cell BK197.out 0).trans rfl, (blk_cell BK197.out 1).trans rfl, (blk_cell BK197.out 2).trans rfl, (blk_cell BK142.out 0).trans rfl, (blk_cell BK142.out 1).trans rfl, (blk_cell BK142.out 2).trans rfl⟩ (fun hHeld => ?_)
    clear hK K
    refine norm_ (show Act.put _ (some 34) _ = _ from Ya_) ?_
    refine two_ (i := 3) (j := 7) (Ni := some 35) (Nj := some 9) #[true, true, true, true, false, false, false, false, false, false] #[true, true, true, false, false, false, false, true, false, false] rfl rfl rfl rfl Yj_ (by decide) (by decide) (fun K hK => ?_) (fun K hK => ?_)
    ·skip
     refine goes_ Try.func22 Yj_ rfl #[.agg #[.slice A39 r38.length c40, .int .i64 r42, .slice A44 r43.length c45], .agg #[.int .i64 r51, .int .i64 r52, .int .i64 r53]] (by rfl) rfl rfl Yd_ ?_
     (with_reducible refine (Bq.calls2 k _ _ r38 r42 _ _ r43 r51 r52 r53 r56 r60 r61 r128 w200 (Kd.Ac HO41.out).2.2 (Nat.le_trans (Nat.le_of_eq (Kd.Ac HO41.out).1.symm) (Kd.Ac HO41.out).2.1) (Kd.Ac HO46.out).2.2 (Nat.le_trans (Nat.le_of_eq (Kd.Ac HO46.out).1.symm) (Kd.Ac HO46.out).2.1) A67.out).mono ?_)
     rintro e w201 ⟨Pw201, v204, v205, rfl, ho202, ho203, hb⟩
     refine ⟨_, rfl, ?_⟩
     have m_ := Aside0.mk (Kd.Aa HO11.out hb)
     clear HO11
     have HO11 := m_
     clear m_
     have m_ := Aside0.mk (Kd.Aa HO16.out hb)
     clear HO16
     have HO16 := m_
     clear m_
     have m_ := Aside0.mk (Kd.Aa HO27.out hb)
     clear HO27
     have HO27 := m_
     clear m_
     have m_ := Aside0.mk (Kd.Aa HO32.out hb)
     clear HO32
     have HO32 := m_
     clear m_
     have m_ := Aside0.mk (Kd.Aa HO41.out hb)
     clear HO41
     have HO41 := m_
     clear m_
     have m_ := Aside0.mk (Kd.Aa HO46.out hb)
     clear HO46
     have HO46 := m_
     clear m_
     have m_ := Aside0.mk (blk_below BK140.out hb)
     clear BK140
     have BK140 := m_
     clear m_
     have m_ := Aside0.mk (blk_below BK142.out hb)
     clear BK142
     have BK142 := m_
     clear m_
     have m_ := Aside0.mk (blk_below BK188.out hb)
     clear BK188
     have BK188 := m_
     clear m_
     have m_ := Aside0.mk (blk_below BK197.out hb)
     clear BK197
     have BK197 := m_
     clear m_
     have HSw201 := Aside0.mk (show w200.heap.size ≤ w201.heap.size from hb.size)
     have m_ := (show Kd.S (Kd.slice 3 (Kd.int .i64)) 73 w201 w.heap.size (fun k_ => (w200.heap.size ≤ k_ ∧ k_ < w201.heap.size) ∧ Pw201 k_) v204 r56 from Kd.S_mono (Kd.S_lower (Kd.Bl ho202) (below_size Yb_)) (fun k_ hk_ => ⟨⟨hk_.2.1, hk_.2.2.1⟩, hk_.1⟩))
     obtain ⟨A57, c58, e_⟩ := Kd.S_slice m_
     subst e_
     have HO59 := Aside0.mk m_
     clear m_ ho202
     have m_ := (show Kd.S (Kd.slice 3 (Kd.int .i64)) 73 w201 w.heap.size (fun k_ => (w200.heap.size ≤ k_ ∧ k_ < w201.heap.size) ∧ ¬ Pw201 k_) v205 r61 from Kd.S_mono (Kd.S_lower (Kd.Bl ho203) (below_size Yb_)) (fun k_ hk_ => ⟨⟨hk_.2.1, hk_.2.2.1⟩, hk_.1⟩))
     obtain ⟨A62, c63, e_⟩ := Kd.S_slice m_
     subst e_
     have HO64 := Aside0.mk m_
     clear m_ ho203
     have m_ := Aside0.mk (below_step HB.out hb)
     clear HB
     have HB := m_
     clear m_
     clear hb
     refine hK.out _ _ ⟨(blk_cell BK197.out 0).trans rfl, (blk_cell BK197.out 1).trans rfl, (blk_cell BK197.out 2).trans rfl, (blk_cell BK142.out 0).trans rfl, (blk_cell BK142.out 1).trans rfl, (blk_cell BK142.out 2).trans rfl⟩ (fun hHeld => ?_)
     clear hK K
     refine norm_ (show Act.put _ (some 35) _ = _ from Ya_) ?_
     refine pure_ (i := 4) (N := some 31) #[true, true, true, true, true, false, false, false, false, false] rfl rfl Yj_ (fun _ _ _ h => h) (Or.inl ⟨by rfl, Ybb_⟩) Ya_ ?_
     refine pure_ (i := 5) (N := some 36) #[true, true, true, true, true, true, false, false, false, false] rfl rfl Yj_ (fun _ _ _ h => h) (Or.inl ⟨by rfl, Ybb_⟩) Ya_ ?_
     refine pure_ (i := 6) (N := some 37) #[true, true, true, true, true, true, true, false, false, false] rfl rfl Yj_ (fun _ _ _ h => h) (Or.inl ⟨by rfl, Ybb_⟩) Ya_ ?_
     refine one_ (i := 7) (N := some 9) #[true, true, true, true, true, true, true, true, false, false] rfl rfl Yj_ (by decide) (fun K hK => ?_)
     refine Ep (N := 9) (by rfl) rfl (cs := #[.slice none 0 0, .int .i64 0, .slice none 0 0]) (t := 34) ?_ ?_
     ·first | (go_simp; done) | (go_simp; rfl)
     intro gb69 hg w206 hbox hb
     have NBgb2_gb69 := Aside0.mk (show gb2 ≠ gb69 by rw [hg]; exact Nat.ne_of_lt (blk_lt BK140.out))
     have NBgb4_gb69 := Aside0.mk (show gb4 ≠ gb69 by rw [hg]; exact Nat.ne_of_lt (blk_lt BK142.out))
     have NBgb37_gb69 := Aside0.mk (show gb37 ≠ gb69 by rw [hg]; exact Nat.ne_of_lt (blk_lt BK188.out))
     have NBgb50_gb69 := Aside0.mk (show gb50 ≠ gb69 by rw [hg]; exact Nat.ne_of_lt (blk_lt BK197.out))
     have GEgb69 := Aside0.mk (show w.heap.size ≤ gb69 by rw [hg]; exact below_size Yb_)
     have BK207 := Aside0.mk hbox
     have m_ := Aside0.mk (Kd.Aa HO11.out hb)
     clear HO11
     have HO11 := m_
     clear m_
     have m_ := Aside0.mk (Kd.Aa HO16.out hb)
     clear HO16
     have HO16 := m_
     clear m_
     have m_ := Aside0.mk (Kd.Aa HO27.out hb)
     clear HO27
     have HO27 := m_
     clear m_
     have m_ := Aside0.mk (Kd.Aa HO32.out hb)
     clear HO32
     have HO32 := m_
     clear m_
     have m_ := Aside0.mk (Kd.Aa HO41.out hb)
     clear HO41
     have HO41 := m_
     clear m_
     have m_ := Aside0.mk (Kd.Aa HO46.out hb)
     clear HO46
     have HO46 := m_
     clear m_
     have m_ := Aside0.mk (Kd.Aa HO59.out hb)
     clear HO59
     have HO59 := m_
     clear m_
     have m_ := Aside0.mk (Kd.Aa HO64.out hb)
     clear HO64
     have HO64 := m_
     clear m_
     have m_ := Aside0.mk (blk_below BK140.out hb)
     clear BK140
     have BK140 := m_
     clear m_
     have m_ := Aside0.mk (blk_below BK142.out hb)
     clear BK142
     have BK142 := m_
     clear m_
     have m_ := Aside0.mk (blk_below BK188.out hb)
     clear BK188
     have BK188 := m_
     clear m_
     have m_ := Aside0.mk (blk_below BK197.out hb)
     clear BK197
     have BK197 := m_
     clear m_
     have HSw206 := Aside0.mk (show w201.heap.size ≤ w206.heap.size from hb.size)
     have m_ := Aside0.mk (below_step HB.out hb)
     clear HB
     have HB := m_
     clear m_
     clear hb hbox hg
     refine hK.out _ _ ⟨(blk_cell BK197.out 0).trans rfl, (blk_cell BK197.out 1).trans rfl, (blk_cell BK197.out 2).trans rfl, (blk_cell BK142.out 0).trans rfl, (blk_cell BK142.out 1).trans rfl, (blk_cell BK142.out 2).trans rfl⟩ (fun hHeld => ?_)
     clear hK K
     refine norm_ (show Act.put _ (some 9) _ = _ from Ya_) ?_
     exact norm_ Ybe_ (hCont (w200.heap.size, w201.heap.size, A57, c58, A62, c63, Pw201, gb69) _ ⟨HB, HO11, HO16, HO27, HO32, HO41, HO46, HO59, HO64, BK140, BK142, BK188, BK197, BK207, GEgb69, NBgb2_gb69, NBgb4_gb69, NBgb37_gb69, NBgb50_gb69, ⟨by have := HSw139.out; have := HSw141.out; have := HSw143.out; have := HSw144.out; have := HSw145.out; have := HSw187.out; have := HSw189.out; have := HSw194.out; have := HSw196.out; have := HSw198.out; have := HSw200.out; have := HSw201.out; have := HSw206.out; omega⟩⟩)
    ·skip
     refine Ep (N := 9) (by rfl) rfl (cs := #[.slice none 0 0, .int .i64 0, .slice none 0 0]) (t := 34) ?_ ?_
     ·first | (go_simp; done) | (go_simp; rfl)
     intro gb69 hg w208 hbox hb
     have NBgb2_gb69 := Aside0.mk (show gb2 ≠ gb69 by rw [hg]; exact Nat.ne_of_lt (blk_lt BK140.out))
     have NBgb4_gb69 := Aside0.mk (show gb4 ≠ gb69 by rw [hg]; exact Nat.ne_of_lt (blk_lt BK142.out))
     have NBgb37_gb69 := Aside0.mk (show gb37 ≠ gb69 by rw [hg]; exact Nat.ne_of_lt (blk_lt BK188.out))
     have NBgb50_gb69 := Aside0.mk (show gb50 ≠ gb69 by rw [hg]; exact Nat.ne_of_lt (blk_lt BK197.out))
     have GEgb69 := Aside0.mk (show w.heap.size ≤ gb69 by rw [hg]; exact below_size Yb_)
     have BK209 := Aside0.mk hbox
     have m_ := Aside0.mk (Kd.Aa HO11.out hb)
     clear HO11
     have HO11 := m_
     clear m_
     have m_ := Aside0.mk (Kd.Aa HO16.out hb)
     clear HO16
     have HO16 := m_
     clear m_
     have m_ := Aside0.mk (Kd.Aa HO27.out hb)
     clear HO27
     have HO27 := m_
     clear m_
     have m_ := Aside0.mk (Kd.Aa HO32.out hb)
     clear HO32
     have HO32 := m_
     clear m_
     have m_ := Aside0.mk (Kd.Aa HO41.out hb)
     clear HO41
     have HO41 := m_
     clear m_
     have m_ := Aside0.mk (Kd.Aa HO46.out hb)
     clear HO46
     have HO46 := m_
     clear m_
     have m_ := Aside0.mk (blk_below BK140.out hb)
     clear BK140
     have BK140 := m_
     clear m_
     have m_ := Aside0.mk (blk_below BK142.out hb)
     clear BK142
     have BK142 := m_
     clear m_
     have m_ := Aside0.mk (blk_below BK188.out hb)
     clear BK188
     have BK188 := m_
     clear m_
     have m_ := Aside0.mk (blk_below BK197.out hb)
     clear BK197
     have BK197 := m_
     clear m_
     have HSw208 := Aside0.mk (show w200.heap.size ≤ w208.heap.size from hb.size)
     have m_ := Aside0.mk (below_step HB.out hb)
     clear HB
     have HB := m_
     clear m_
     clear hb hbox hg
     refine hK.out _ _ ⟨(blk_cell BK197.out 0).trans rfl, (blk_cell BK197.out 1).trans rfl, (blk_cell BK197.out 2).trans rfl, (blk_cell BK142.out 0).trans rfl, (blk_cell BK142.out 1).trans rfl, (blk_cell BK142.out 2).trans rfl⟩ (fun hHeld => ?_)
     clear hK K
     refine norm_ (show Act.put _ (some 9) _ = _ from Ya_) ?_
     refine one_ (i := 3) (N := some 35) #[true, true, true, true, false, false, false, true, false, false] rfl rfl Yj_ (by decide) (fun K hK => ?_)
     refine goes_ Try.func22 Yj_ rfl #[.agg #[.slice A39 r38.length c40, .int .i64 r42, .slice A44 r43.length c45], .agg #[.int .i64 r51, .int .i64 r52, .int .i64 r53]] (by rfl) rfl rfl Yd_ ?_
     (with_reducible refine (Bq.calls2 k _ _ r38 r42 _ _ r43 r51 r52 r53 r56 r60 r61 r128 w208 (Kd.Ac HO41.out).2.2 (Nat.le_trans (Nat.le_of_eq (Kd.Ac HO41.out).1.symm) (Kd.Ac HO41.out).2.1) (Kd.Ac HO46.out).2.2 (Nat.le_trans (Nat.le_of_eq (Kd.Ac HO46.out).1.symm) (Kd.Ac HO46.out).2.1) A67.out).mono ?_)
     rintro e w210 ⟨Pw210, v213, v214, rfl, ho211, ho212, hb⟩
     refine ⟨_, rfl, ?_⟩
     have m_ := Aside0.mk (Kd.Aa HO11.out hb)
     clear HO11
     have HO11 := m_
     clear m_
     have m_ := Aside0.mk (Kd.Aa HO16.out hb)
     clear HO16
     have HO16 := m_
     clear m_
     have m_ := Aside0.mk (Kd.Aa HO27.out hb)
     clear HO27
     have HO27 := m_
     clear m_
     have m_ := Aside0.mk (Kd.Aa HO32.out hb)
     clear HO32
     have HO32 := m_
     clear m_
     have m_ := Aside0.mk (Kd.Aa HO41.out hb)
     clear HO41
     have HO41 := m_
     clear m_
     have m_ := Aside0.mk (Kd.Aa HO46.out hb)
     clear HO46
     have HO46 := m_
     clear m_
     have m_ := Aside0.mk (blk_below BK140.out hb)
     clear BK140
     have BK140 := m_
     clear m_
     have m_ := Aside0.mk (blk_below BK142.out hb)
     clear BK142
     have BK142 := m_
     clear m_
     have m_ := Aside0.mk (blk_below BK188.out hb)
     clear BK188
     have BK188 := m_
     clear m_
     have m_ := Aside0.mk (blk_below BK197.out hb)
     clear BK197
     have BK197 := m_
     clear m_
     have m_ := Aside0.mk (blk_below BK209.out hb)
     clear BK209
     have BK209 := m_
     clear m_
     have HSw210 := Aside0.mk (show w208.heap.size ≤ w210.heap.size from hb.size)
     have m_ := (show Kd.S (Kd.slice 3 (Kd.int .i64)) 73 w210 w.heap.size (fun k_ => (w208.heap.size ≤ k_ ∧ k_ < w210.heap.size) ∧ Pw210 k_) v213 r56 from Kd.S_mono (Kd.S_lower (Kd.Bl ho211) (below_size Yb_)) (fun k_ hk_ => ⟨⟨hk_.2.1, hk_.2.2.1⟩, hk_.1⟩))
     obtain ⟨A57, c58, e_⟩ := Kd.S_slice m_
     subst e_
     have HO59 := Aside0.mk m_
     clear m_ ho211
     have m_ := (show Kd.S (Kd.slice 3 (Kd.int .i64)) 73 w210 w.heap.size (fun k_ => (w208.heap.size ≤ k_ ∧ k_ < w210.heap.size) ∧ ¬ Pw210 k_) v214 r61 from Kd.S_mono (Kd.S_lower (Kd.Bl ho212) (below_size Yb_)) (fun k_ hk_ => ⟨⟨hk_.2.1, hk_.2.2.1⟩, hk_.1⟩))
     obtain ⟨A62, c63, e_⟩ := Kd.S_slice m_
     subst e_
     have HO64 := Aside0.mk m_
     clear m_ ho212
     have m_ := Aside0.mk (below_step HB.out hb)
     clear HB
     have HB := m_
     clear m_
     clear hb
     refine hK.out _ _ ⟨(blk_cell BK197.out 0).trans rfl, (blk_cell BK197.out 1).trans rfl, (blk_cell BK197.out 2).trans rfl, (blk_cell BK142.out 0).trans rfl, (blk_cell BK142.out 1).trans rfl, (blk_cell BK142.out 2).trans rfl⟩ (fun hHeld => ?_)
     clear hK K
     refine norm_ (show Act.put _ (some 35) _ = _ from Ya_) ?_
     refine pure_ (i := 4) (N := some 31) #[true, true, true, true, true, false, false, true, false, false] rfl rfl Yj_ (fun _ _ _ h => h) (Or.inl ⟨by rfl, Ybb_⟩) Ya_ ?_
     refine pure_ (i := 5) (N := some 36) #[true, true, true, true, true, true, false, true, false, false] rfl rfl Yj_ (fun _ _ _ h => h) (Or.inl ⟨by rfl, Ybb_⟩) Ya_ ?_
     refine pure_ (i := 6) (N := some 37) #[true, true, true, true, true, true, true, true, false, false] rfl rfl Yj_ (fun _ _ _ h => h) (Or.inl ⟨by rfl, Ybb_⟩) Ya_ ?_
     exact norm_ Ybe_ (hCont (w208.heap.size, w210.heap.size, A57, c58, A62, c63, Pw210, gb69) _ ⟨HB, HO11, HO16, HO27, HO32, HO41, HO46, HO59, HO64, BK140, BK142, BK188, BK197, BK209, GEgb69, NBgb2_gb69, NBgb4_gb69, NBgb37_gb69, NBgb50_gb69, ⟨by have := HSw139.out; have := HSw141.out; have := HSw143.out; have := HSw144.out; have := HSw145.out; have := HSw187.out; have := HSw189.out; have := HSw194.out; have := HSw196.out; have := HSw198.out; have := HSw200.out; have := HSw208.out; have := HSw210.out; omega⟩⟩)
   ·skip
    refine Ep (N := 9) (by rfl) rfl (cs := #[.slice none 0 0, .int .i64 0, .slice none 0 0]) (t := 34) ?_ ?_
    ·first | (go_simp; done) | (go_simp; rfl)
    intro gb69 hg w215 hbox hb
    have NBgb2_gb69 := Aside0.mk (show gb2 ≠ gb69 by rw [hg]; exact Nat.ne_of_lt (blk_lt BK140.out))
    have NBgb4_gb69 := Aside0.mk (show gb4 ≠ gb69 by rw [hg]; exact Nat.ne_of_lt (blk_lt BK142.out))
    have NBgb37_gb69 := Aside0.mk (show gb37 ≠ gb69 by rw [hg]; exact Nat.ne_of_lt (blk_lt BK188.out))
    have NBgb50_gb69 := Aside0.mk (show gb50 ≠ gb69 by rw [hg]; exact Nat.ne_of_lt (blk_lt BK197.out))
    have GEgb69 := Aside0.mk (show w.heap.size ≤ gb69 by rw [hg]; exact below_size Yb_)
    have BK216 := Aside0.mk hbox
    have m_ := Aside0.mk (Kd.Aa HO11.out hb)
    clear HO11
    have HO11 := m_
    clear m_
    have m_ := Aside0.mk (Kd.Aa HO16.out hb)
    clear HO16
    have HO16 := m_
    clear m_
    have m_ := Aside0.mk (Kd.Aa HO27.out hb)
    clear HO27
    have HO27 := m_
    clear m_
    have m_ := Aside0.mk (Kd.Aa HO32.out hb)
    clear HO32
    have HO32 := m_
    clear m_
    have m_ := Aside0.mk (Kd.Aa HO41.out hb)
    clear HO41
    have HO41 := m_
    clear m_
    have m_ := Aside0.mk (Kd.Aa HO46.out hb)
    clear HO46
    have HO46 := m_
    clear m_
    have m_ := Aside0.mk (blk_below BK140.out hb)
    clear BK140
    have BK140 := m_
    clear m_
    have m_ := Aside0.mk (blk_below BK142.out hb)
    clear BK142
    have BK142 := m_
    clear m_
    have m_ := Aside0.mk (blk_below BK188.out hb)
    clear BK188
    have BK188 := m_
    clear m_
    have m_ := Aside0.mk (blk_below BK197.out hb)
    clear BK197
    have BK197 := m_
    clear m_
    have HSw215 := Aside0.mk (show w198.heap.size ≤ w215.heap.size from hb.size)
    have m_ := Aside0.mk (below_step HB.out hb)
    clear HB
    have HB := m_
    clear m_
    clear hb hbox hg
    refine hK.out _ _ ⟨(blk_cell BK197.out 0).trans rfl, (blk_cell BK197.out 1).trans rfl, (blk_cell BK197.out 2).trans rfl, (blk_cell BK142.out 0).trans rfl, (blk_cell BK142.out 1).trans rfl, (blk_cell BK142.out 2).trans rfl⟩ (fun hHeld => ?_)
    clear hK K
    refine norm_ (show Act.put _ (some 9) _ = _ from Ya_) ?_
    refine one_ (i := 2) (N := some 34) #[true, true, true, false, false, false, false, true, false, false] rfl rfl Yj_ (by decide) (fun K hK => ?_)
    refine goes_ Try.func18 Yj_ rfl #[.agg #[.int .i64 a1_0, .int .i64 a1_1, .int .i64 a1_2]] (by rfl) rfl rfl Yd_ ?_
    (with_reducible refine (laws_toOrder.calls a1_0 a1_1 a1_2 r51 r52 r53 w215  A55.out).mono ?_)
    rintro e w217 ⟨rfl, hb⟩
    refine ⟨_, rfl, ?_⟩
    have m_ := Aside0.mk (Kd.Aa HO11.out hb)
    clear HO11
    have HO11 := m_
    clear m_
    have m_ := Aside0.mk (Kd.Aa HO16.out hb)
    clear HO16
    have HO16 := m_
    clear m_
    have m_ := Aside0.mk (Kd.Aa HO27.out hb)
    clear HO27
    have HO27 := m_
    clear m_
    have m_ := Aside0.mk (Kd.Aa HO32.out hb)
    clear HO32
    have HO32 := m_
    clear m_
    have m_ := Aside0.mk (Kd.Aa HO41.out hb)
    clear HO41
    have HO41 := m_
    clear m_
    have m_ := Aside0.mk (Kd.Aa HO46.out hb)
    clear HO46
    have HO46 := m_
    clear m_
    have m_ := Aside0.mk (blk_below BK140.out hb)
    clear BK140
    have BK140 := m_
    clear m_
    have m_ := Aside0.mk (blk_below BK142.out hb)
    clear BK142
    have BK142 := m_
    clear m_
    have m_ := Aside0.mk (blk_below BK188.out hb)
    clear BK188
    have BK188 := m_
    clear m_
    have m_ := Aside0.mk (blk_below BK197.out hb)
    clear BK197
    have BK197 := m_
    clear m_
    have m_ := Aside0.mk (blk_below BK216.out hb)
    clear BK216
    have BK216 := m_
    clear m_
    have HSw217 := Aside0.mk (show w215.heap.size ≤ w217.heap.size from hb.size)
    have m_ := Aside0.mk (below_step HB.out hb)
    clear HB
    have HB := m_
    clear m_
    clear hb
    refine hK.out _ _ ⟨(blk_cell BK197.out 0).trans rfl, (blk_cell BK197.out 1).trans rfl, (blk_cell BK197.out 2).trans rfl, (blk_cell BK142.out 0).trans rfl, (blk_cell BK142.out 1).trans rfl, (blk_cell BK142.out 2).trans rfl⟩ (fun hHeld => ?_)
    clear hK K
    refine norm_ (show Act.put _ (some 34) _ = _ from Ya_) ?_
    refine one_ (i := 3) (N := some 35) #[true, true, true, true, false, false, false, true, false, false] rfl rfl Yj_ (by decide) (fun K hK => ?_)
    refine goes_ Try.func22 Yj_ rfl #[.agg #[.slice A39 r38.length c40, .int .i64 r42, .slice A44 r43.length c45], .agg #[.int .i64 r51, .int .i64 r52, .int .i64 r53]] (by rfl) rfl rfl Yd_ ?_
    (with_reducible refine (Bq.calls2 k _ _ r38 r42 _ _ r43 r51 r52 r53 r56 r60 r61 r128 w217 (Kd.Ac HO41.out).2.2 (Nat.le_trans (Nat.le_of_eq (Kd.Ac HO41.out).1.symm) (Kd.Ac HO41.out).2.1) (Kd.Ac HO46.out).2.2 (Nat.le_trans (Nat.le_of_eq (Kd.Ac HO46.out).1.symm) (Kd.Ac HO46.out).2.1) A67.out).mono ?_)
    rintro e w218 ⟨Pw218, v221, v222, rfl, ho219, ho220, hb⟩
    refine ⟨_, rfl, ?_⟩
    have m_ := Aside0.mk (Kd.Aa HO11.out hb)
    clear HO11
    have HO11 := m_
    clear m_
    have m_ := Aside0.mk (Kd.Aa HO16.out hb)
    clear HO16
    have HO16 := m_
    clear m_
    have m_ := Aside0.mk (Kd.Aa HO27.out hb)
    clear HO27
    have HO27 := m_
    clear m_
    have m_ := Aside0.mk (Kd.Aa HO32.out hb)
    clear HO32
    have HO32 := m_
    clear m_
    have m_ := Aside0.mk (Kd.Aa HO41.out hb)
    clear HO41
    have HO41 := m_
    clear m_
    have m_ := Aside0.mk (Kd.Aa HO46.out hb)
    clear HO46
    have HO46 := m_
    clear m_
    have m_ := Aside0.mk (blk_below BK140.out hb)
    clear BK140
    have BK140 := m_
    clear m_
    have m_ := Aside0.mk (blk_below BK142.out hb)
    clear BK142
    have BK142 := m_
    clear m_
    have m_ := Aside0.mk (blk_below BK188.out hb)
    clear BK188
    have BK188 := m_
    clear m_
    have m_ := Aside0.mk (blk_below BK197.out hb)
    clear BK197
    have BK197 := m_
    clear m_
    have m_ := Aside0.mk (blk_below BK216.out hb)
    clear BK216
    have BK216 := m_
    clear m_
    have HSw218 := Aside0.mk (show w217.heap.size ≤ w218.heap.size from hb.size)
    have m_ := (show Kd.S (Kd.slice 3 (Kd.int .i64)) 73 w218 w.heap.size (fun k_ => (w217.heap.size ≤ k_ ∧ k_ < w218.heap.size) ∧ Pw218 k_) v221 r56 from Kd.S_mono (Kd.S_lower (Kd.Bl ho219) (below_size Yb_)) (fun k_ hk_ => ⟨⟨hk_.2.1, hk_.2.2.1⟩, hk_.1⟩))
    obtain ⟨A57, c58, e_⟩ := Kd.S_slice m_
    subst e_
    have HO59 := Aside0.mk m_
    clear m_ ho219
    have m_ := (show Kd.S (Kd.slice 3 (Kd.int .i64)) 73 w218 w.heap.size (fun k_ => (w217.heap.size ≤ k_ ∧ k_ < w218.heap.size) ∧ ¬ Pw218 k_) v222 r61 from Kd.S_mono (Kd.S_lower (Kd.Bl ho220) (below_size Yb_)) (fun k_ hk_ => ⟨⟨hk_.2.1, hk_.2.2.1⟩, hk_.1⟩))
    obtain ⟨A62, c63, e_⟩ := Kd.S_slice m_
    subst e_
    have HO64 := Aside0.mk m_
    clear m_ ho220
    have m_ := Aside0.mk (below_step HB.out hb)
    clear HB
    have HB := m_
    clear m_
    clear hb
    refine hK.out _ _ ⟨(blk_cell BK197.out 0).trans rfl, (blk_cell BK197.out 1).trans rfl, (blk_cell BK197.out 2).trans rfl, (blk_cell BK142.out 0).trans rfl, (blk_cell BK142.out 1).trans rfl, (blk_cell BK142.out 2).trans rfl⟩ (fun hHeld => ?_)
    clear hK K
    refine norm_ (show Act.put _ (some 35) _ = _ from Ya_) ?_
    refine pure_ (i := 4) (N := some 31) #[true, true, true, true, true, false, false, true, false, false] rfl rfl Yj_ (fun _ _ _ h => h) (Or.inl ⟨by rfl, Ybb_⟩) Ya_ ?_
    refine pure_ (i := 5) (N := some 36) #[true, true, true, true, true, true, false, true, false, false] rfl rfl Yj_ (fun _ _ _ h => h) (Or.inl ⟨by rfl, Ybb_⟩) Ya_ ?_
    refine pure_ (i := 6) (N := some 37) #[true, true, true, true, true, true, true, true, false, false] rfl rfl Yj_ (fun _ _ _ h => h) (Or.inl ⟨by rfl, Ybb_⟩) Ya_ ?_
    exact norm_ Ybe_ (hCont (w217.heap.size, w218.heap.size, A57, c58, A62, c63, Pw218, gb69) _ ⟨HB, HO11, HO16, HO27, HO32, HO41, HO46, HO59, HO64, BK140, BK142, BK188, BK197, BK216, GEgb69, NBgb2_gb69, NBgb4_gb69, NBgb37_gb69, NBgb50_gb69, ⟨by have := HSw139.out; have := HSw141.out; have := HSw143.out; have := HSw144.out; have := HSw145.out; have := HSw187.out; have := HSw189.out; have := HSw194.out; have := HSw196.out; have := HSw198.out; have := HSw215.out; have := HSw217.out; have := HSw218.out; omega⟩⟩)
  clear HB HO11 HO16 HO27 HO32 HO41 HO46 BK140 BK142 BK188 BK197
  rintro ⟨lo3_w199, hi3_w199, A57, c58, A62, c63, PJ3_w199, gb69⟩ w199 ⟨HB, HO11, HO16, HO27, HO32, HO41, HO46, HO59, HO64, BK140, BK142, BK188, BK197, BJ7_w199, GEgb69, NBgb2_gb69, NBgb4_gb69, NBgb37_gb69, NBgb50_gb69, HSw199⟩
  have hHeld : (fun w' => w'.cell? ⟨gb50, 0, none⟩ = some (.slice A39 r38.length c40) ∧ w'.cell? ⟨gb50, 1, none⟩ = some (.int .i64 r42) ∧ w'.cell? ⟨gb50, 2, none⟩ = some (.slice A44 r43.length c45) ∧ w'.cell? ⟨gb4, 0, none⟩ = some (.int .i64 a1_0) ∧ w'.cell? ⟨gb4, 1, none⟩ = some (.int .i64 a1_1) ∧ w'.cell? ⟨gb4, 2, none⟩ = some (.int .i64 a1_2)) w199 := ⟨(blk_cell BK197.out 0).trans rfl, (blk_cell BK197.out 1).trans rfl, (blk_cell BK197.out 2).trans rfl, (blk_cell BK142.out 0).trans rfl, (blk_cell BK142.out 1).trans rfl, (blk_cell BK142.out 2).trans rfl⟩
  refine norm_ (a' := ?_) ?_ ?_
  rotate_left
  ·simp only [Dv, Act.put, List.setIfInBounds_toArray, List.set_cons_zero, List.set_cons_succ]
   rfl
  refine one_ (i := 8) (N := none) #[true, true, true, true, true, true, true, true, true, false] rfl rfl Yj_ (by decide) (fun K hK => ?_)
  have hs0_ : w199.cell? ⟨gb69, 0, none⟩ = some (.slice none 0 0) := (blk_cell BJ7_w199.out 0).trans rfl
  have hfs0_ := blk_frozen BJ7_w199.out 0
  have hs1_ : w199.cell? ⟨gb69, 1, none⟩ = some (.int .i64 0) := (blk_cell BJ7_w199.out 1).trans rfl
  have hfs1_ := blk_frozen BJ7_w199.out 1
  have hs2_ : w199.cell? ⟨gb69, 2, none⟩ = some (.slice none 0 0) := (blk_cell BJ7_w199.out 2).trans rfl
  have hfs2_ := blk_frozen BJ7_w199.out 2
  refine Go.Proofs.YtnggfglmjdiaaaaOwn.Ej (w1 := (((w199.setCell ⟨gb69, 0, none⟩ (.slice A57 r56.length c58)).setCell ⟨gb69, 1, none⟩ (.int .i64 r60)).setCell ⟨gb69, 2, none⟩ (.slice A62 r61.length c63))) (by rfl) rfl ?_ ?_
  ·first | (go_simp; done) | (go_simp; rfl)
  intro w223 hw
  have hO_ : Go.Proofs.YtnggfglmjdiaaaaOwn.Only w199 w223 gb69 := Ydc_
  have hbx_ : w223.heap[gb69]? = some (.cells #[.slice A57 r56.length c58, .int .i64 r60, .slice A62 r61.length c63] 34 (0, 0)) := (by rw [hw]; refine blk_put (cs := #[.slice A57 r56.length c58, .int .i64 r60, .slice none 0 0]) ?_ 2 _ rfl; refine blk_put (cs := #[.slice A57 r56.length c58, .int .i64 0, .slice none 0 0]) ?_ 1 _ rfl; refine blk_put (cs := #[.slice none 0 0, .int .i64 0, .slice none 0 0]) ?_ 0 _ rfl; exact BJ7_w199.out)
  (try clear hs0_ hfs0_ hs1_ hfs1_ hs2_ hfs2_)
  clear hw
  have m_ := Aside0.mk (Go.Proofs.YtnggfglmjdiaaaaOwn.Dt HO11.out BJ7_w199.out (by decide) hO_)
  clear HO11
  have HO11 := m_
  clear m_
  have m_ := Aside0.mk (Go.Proofs.YtnggfglmjdiaaaaOwn.Dt HO16.out BJ7_w199.out (by decide) hO_)
  clear HO16
  have HO16 := m_
  clear m_
  have m_ := Aside0.mk (Go.Proofs.YtnggfglmjdiaaaaOwn.Dt HO27.out BJ7_w199.out (by decide) hO_)
  clear HO27
  have HO27 := m_
  clear m_
  have m_ := Aside0.mk (Go.Proofs.YtnggfglmjdiaaaaOwn.Dt HO32.out BJ7_w199.out (by decide) hO_)
  clear HO32
  have HO32 := m_
  clear m_
  have m_ := Aside0.mk (Go.Proofs.YtnggfglmjdiaaaaOwn.Dt HO41.out BJ7_w199.out (by decide) hO_)
  clear HO41
  have HO41 := m_
  clear m_
  have m_ := Aside0.mk (Go.Proofs.YtnggfglmjdiaaaaOwn.Dt HO46.out BJ7_w199.out (by decide) hO_)
  clear HO46
  have HO46 := m_
  clear m_
  have m_ := Aside0.mk (Go.Proofs.YtnggfglmjdiaaaaOwn.Dt HO59.out BJ7_w199.out (by decide) hO_)
  clear HO59
  have HO59 := m_
  clear m_
  have m_ := Aside0.mk (Go.Proofs.YtnggfglmjdiaaaaOwn.Dt HO64.out BJ7_w199.out (by decide) hO_)
  clear HO64
  have HO64 := m_
  clear m_
  have m_ := Aside0.mk ((hO_.others _ NBgb2_gb69.out).trans BK140.out)
  clear BK140
  have BK140 := m_
  clear m_
  have m_ := Aside0.mk ((hO_.others _ NBgb4_gb69.out).trans BK142.out)
  clear BK142
  have BK142 := m_
  clear m_
  have m_ := Aside0.mk ((hO_.others _ NBgb37_gb69.out).trans BK188.out)
  clear BK188
  have BK188 := m_
  clear m_
  have m_ := Aside0.mk ((hO_.others _ NBgb50_gb69.out).trans BK197.out)
  clear BK197
  have BK197 := m_
  clear m_
  have m_ := Aside0.mk (hO_.below HB.out GEgb69.out)
  clear HB
  have HB := m_
  clear m_
  have HSw223 := Aside0.mk (Nat.le_of_eq hO_.size.symm : w199.heap.size ≤ w223.heap.size)
  clear BJ7_w199
  have BK224 := Aside0.mk hbx_
  clear hbx_ hO_
  refine hK.out _ _ ⟨(blk_cell BK197.out 0).trans rfl, (blk_cell BK197.out 1).trans rfl, (blk_cell BK197.out 2).trans rfl, (blk_cell BK142.out 0).trans rfl, (blk_cell BK142.out 1).trans rfl, (blk_cell BK142.out 2).trans rfl⟩ (fun hHeld => ?_)
  clear hK K
  refine pure_ (i := 9) (N := some 10) #[true, true, true, true, true, true, true, true, true, true] rfl rfl Yj_ (fun _ _ _ h => h) (Or.inl ⟨by rfl, Ybb_⟩) Ya_ ?_
  refine done_ Yj_ ?_
  have hzgb2_0 : w223.cell? ⟨gb2, 0, none⟩ = some (.slice A0_0 l0_0.length c0_0) := (blk_cell BK140.out 0).trans rfl
  have hzgb2_1 : w223.cell? ⟨gb2, 1, none⟩ = some (.int .i64 a0_1) := (blk_cell BK140.out 1).trans rfl
  have hzgb2_2 : w223.cell? ⟨gb2, 2, none⟩ = some (.slice A0_2 l0_2.length c0_2) := (blk_cell BK140.out 2).trans rfl
  have hzgb4_0 : w223.cell? ⟨gb4, 0, none⟩ = some (.int .i64 a1_0) := (blk_cell BK142.out 0).trans rfl
  have hzgb4_1 : w223.cell? ⟨gb4, 1, none⟩ = some (.int .i64 a1_1) := (blk_cell BK142.out 1).trans rfl
  have hzgb4_2 : w223.cell? ⟨gb4, 2, none⟩ = some (.int .i64 a1_2) := (blk_cell BK142.out 2).trans rfl
  have hzgb37_0 : w223.cell? ⟨gb37, 0, none⟩ = some (.slice A25 r24.length c26) := (blk_cell BK188.out 0).trans rfl
  have hzgb37_1 : w223.cell? ⟨gb37, 1, none⟩ = some (.int .i64 r28) := (blk_cell BK188.out 1).trans rfl
  have hzgb37_2 : w223.cell? ⟨gb37, 2, none⟩ = some (.slice A30 r29.length c31) := (blk_cell BK188.out 2).trans rfl
  have hzgb50_0 : w223.cell? ⟨gb50, 0, none⟩ = some (.slice A39 r38.length c40) := (blk_cell BK197.out 0).trans rfl
  have hzgb50_1 : w223.cell? ⟨gb50, 1, none⟩ = some (.int .i64 r42) := (blk_cell BK197.out 1).trans rfl
  have hzgb50_2 : w223.cell? ⟨gb50, 2, none⟩ = some (.slice A44 r43.length c45) := (blk_cell BK197.out 2).trans rfl
  have hzgb69_0 : w223.cell? ⟨gb69, 0, none⟩ = some (.slice A57 r56.length c58) := (blk_cell BK224.out 0).trans rfl
  have hzgb69_1 : w223.cell? ⟨gb69, 1, none⟩ = some (.int .i64 r60) := (blk_cell BK224.out 1).trans rfl
  have hzgb69_2 : w223.cell? ⟨gb69, 2, none⟩ = some (.slice A62 r61.length c63) := (blk_cell BK224.out 2).trans rfl
  go_upto_region 10 with (first | ((with_reducible refine gate_callee (f := 14) rfl ?_); (try (refine gate_guard (by rfl) ?_; dsimp only)); refine goesL_ (some 40) rfl rfl Try.func14 Yj_ rfl #[.agg #[.slice A57 r56.length c58, .int .i64 r60, .slice A62 r61.length c63], .agg #[.slice A25 r24.length c26, .int .i64 r28, .slice A30 r29.length c31]] rfl Yd_ ?_; (with_reducible refine (Bv.calls k _ _ r56 r60 _ _ r61 _ _ r24 r28 _ _ r29 true w223 (Kd.Ac HO59.out).2.2 (Nat.le_trans (Nat.le_of_eq (Kd.Ac HO59.out).1.symm) (Kd.Ac HO59.out).2.1) (Kd.Ac HO64.out).2.2 (Nat.le_trans (Nat.le_of_eq (Kd.Ac HO64.out).1.symm) (Kd.Ac HO64.out).2.1) (Kd.Ac HO27.out).2.2 (Nat.le_trans (Nat.le_of_eq (Kd.Ac HO27.out).1.symm) (Kd.Ac HO27.out).2.1) (Kd.Ac HO32.out).2.2 (Nat.le_trans (Nat.le_of_eq (Kd.Ac HO32.out).1.symm) (Kd.Ac HO32.out).2.1) A72.out).mono ?_); rintro e w225 ⟨rfl, hb⟩; (try clear hzgb2_0 hzgb2_1 hzgb2_2); (try clear hzgb4_0 hzgb4_1 hzgb4_2); (try clear hzgb37_0 hzgb37_1 hzgb37_2); (try clear hzgb50_0 hzgb50_1 hzgb50_2); (try clear hzgb69_0 hzgb69_1 hzgb69_2); refine ⟨_, rfl, ?_⟩; have m_ := Aside0.mk (Kd.Aa HO11.out hb); clear HO11; have HO11 := m_; clear m_; have m_ := Aside0.mk (Kd.Aa HO16.out hb); clear HO16; have HO16 := m_; clear m_; have m_ := Aside0.mk (Kd.Aa HO27.out hb); clear HO27; have HO27 := m_; clear m_; have m_ := Aside0.mk (Kd.Aa HO32.out hb); clear HO32; have HO32 := m_; clear m_; have m_ := Aside0.mk (Kd.Aa HO41.out hb); clear HO41; have HO41 := m_; clear m_; have m_ := Aside0.mk (Kd.Aa HO46.out hb); clear HO46; have HO46 := m_; clear m_; have m_ := Aside0.mk (Kd.Aa HO59.out hb); clear HO59; have HO59 := m_; clear m_; have m_ := Aside0.mk (Kd.Aa HO64.out hb); clear HO64; have HO64 := m_; clear m_; have m_ := Aside0.mk (blk_below BK140.out hb); clear BK140; have BK140 := m_; clear m_; have m_ := Aside0.mk (blk_below BK142.out hb); clear BK142; have BK142 := m_; clear m_; have m_ := Aside0.mk (blk_below BK188.out hb); clear BK188; have BK188 := m_; clear m_; have m_ := Aside0.mk (blk_below BK197.out hb); clear BK197; have BK197 := m_; clear m_; have m_ := Aside0.mk (blk_below BK224.out hb); clear BK224; have BK224 := m_; clear m_; have HSw225 := Aside0.mk (show w223.heap.size ≤ w225.heap.size from hb.size); have m_ := Aside0.mk (below_step HB.out hb); clear HB; have HB := m_; clear m_; clear hb; have hzgb2_0 : w225.cell? ⟨gb2, 0, none⟩ = some (.slice A0_0 l0_0.length c0_0) := (blk_cell BK140.out 0).trans rfl; have hzgb2_1 : w225.cell? ⟨gb2, 1, none⟩ = some (.int .i64 a0_1) := (blk_cell BK140.out 1).trans rfl; have hzgb2_2 : w225.cell? ⟨gb2, 2, none⟩ = some (.slice A0_2 l0_2.length c0_2) := (blk_cell BK140.out 2).trans rfl; have hzgb4_0 : w225.cell? ⟨gb4, 0, none⟩ = some (.int .i64 a1_0) := (blk_cell BK142.out 0).trans rfl; have hzgb4_1 : w225.cell? ⟨gb4, 1, none⟩ = some (.int .i64 a1_1) := (blk_cell BK142.out 1).trans rfl; have hzgb4_2 : w225.cell? ⟨gb4, 2, none⟩ = some (.int .i64 a1_2) := (blk_cell BK142.out 2).trans rfl; have hzgb37_0 : w225.cell? ⟨gb37, 0, none⟩ = some (.slice A25 r24.length c26) := (blk_cell BK188.out 0).trans rfl; have hzgb37_1 : w225.cell? ⟨gb37, 1, none⟩ = some (.int .i64 r28) := (blk_cell BK188.out 1).trans rfl; have hzgb37_2 : w225.cell? ⟨gb37, 2, none⟩ = some (.slice A30 r29.length c31) := (blk_cell BK188.out 2).trans rfl; have hzgb50_0 : w225.cell? ⟨gb50, 0, none⟩ = some (.slice A39 r38.length c40) := (blk_cell BK197.out 0).trans rfl; have hzgb50_1 : w225.cell? ⟨gb50, 1, none⟩ = some (.int .i64 r42) := (blk_cell BK197.out 1).trans rfl; have hzgb50_2 : w225.cell? ⟨gb50, 2, none⟩ = some (.slice A44 r43.length c45) := (blk_cell BK197.out 2).trans rfl; have hzgb69_0 : w225.cell? ⟨gb69, 0, none⟩ = some (.slice A57 r56.length c58) := (blk_cell BK224.out 0).trans rfl; have hzgb69_1 : w225.cell? ⟨gb69, 1, none⟩ = some (.int .i64 r60) := (blk_cell BK224.out 1).trans rfl; have hzgb69_2 : w225.cell? ⟨gb69, 2, none⟩ = some (.slice A62 r61.length c63) := (blk_cell BK224.out 2).trans rfl))
  (try clear hzgb2_0 hzgb2_1 hzgb2_2 hzgb37_0 hzgb37_1 hzgb37_2 hzgb4_0 hzgb4_1 hzgb4_2 hzgb50_0 hzgb50_1 hzgb50_2 hzgb69_0 hzgb69_1 hzgb69_2)
  have m_ := Aside0.mk (Kd.S_drew HO11.out)
  clear HO11
  have HO11 := m_
  clear m_
  have m_ := Aside0.mk (Kd.S_drew HO16.out)
  clear HO16
  have HO16 := m_
  clear m_
  have m_ := Aside0.mk (Kd.S_drew HO27.out)
  clear HO27
  have HO27 := m_
  clear m_
  have m_ := Aside0.mk (Kd.S_drew HO32.out)
  clear HO32
  have HO32 := m_
  clear m_
  have m_ := Aside0.mk (Kd.S_drew HO41.out)
  clear HO41
  have HO41 := m_
  clear m_
  have m_ := Aside0.mk (Kd.S_drew HO46.out)
  clear HO46
  have HO46 := m_
  clear m_
  have m_ := Aside0.mk (Kd.S_drew HO59.out)
  clear HO59
  have HO59 := m_
  clear m_
  have m_ := Aside0.mk (Kd.S_drew HO64.out)
  clear HO64
  have HO64 := m_
  clear m_
  have m_ := Aside0.mk (blk_drew BK140.out)
  clear BK140
  have BK140 := m_
  clear m_
  have m_ := Aside0.mk (blk_drew BK142.out)
  clear BK142
  have BK142 := m_
  clear m_
  have m_ := Aside0.mk (blk_drew BK188.out)
  clear BK188
  have BK188 := m_
  clear m_
  have m_ := Aside0.mk (blk_drew BK197.out)
  clear BK197
  have BK197 := m_
  clear m_
  have m_ := Aside0.mk (blk_drew BK224.out)
  clear BK224
  have BK224 := m_
  clear m_
  have m_ := Aside0.mk (below_drew1 HB.out)
  clear HB
  have HB := m_
  clear m_
  have HSw226 := Aside0.mk (show w225.heap.size ≤ w225.drew.heap.size from Nat.le_refl _)
  refine start_ (n := 5) (S := fun w' => w'.cell? ⟨gb50, 0, none⟩ = some (.slice A39 r38.length c40) ∧ w'.cell? ⟨gb50, 1, none⟩ = some (.int .i64 r42) ∧ w'.cell? ⟨gb50, 2, none⟩ = some (.slice A44 r43.length c45) ∧ w'.cell? ⟨gb2, 0, none⟩ = some (.slice A0_0 l0_0.length c0_0) ∧ w'.cell? ⟨gb2, 1, none⟩ = some (.int .i64 a0_1) ∧ w'.cell? ⟨gb2, 2, none⟩ = some (.slice A0_2 l0_2.length c0_2)) (ds := []) #[false, false, false, false, false] Yj_ rfl rfl ⟨(blk_cell BK197.out 0).trans rfl, (blk_cell BK197.out 1).trans rfl, (blk_cell BK197.out 2).trans rfl, (blk_cell BK140.out 0).trans rfl, (blk_cell BK140.out 1).trans rfl, (blk_cell BK140.out 2).trans rfl⟩ (fun hHeld => ?_)
  generalize w225.drew = w226 at HO11 HO16 HO27 HO32 HO41 HO46 HO59 HO64 BK140 BK142 BK188 BK197 BK224 HB HSw226 hHeld ⊢
  refine take_ (i := 0) (N := some 47) #[true, false, false, false, false] rfl rfl Yj_ (fun _ _ _ h => h) (Or.inl ⟨by rfl, Ycc_⟩) hHeld Ya_ ?_
  refine take_ (i := 1) (N := some 48) #[true, true, false, false, false] rfl rfl Yj_ (fun _ _ _ h => h) (Or.inl ⟨by rfl, Ycc_⟩) hHeld Ya_ ?_
  refine one_ (i := 2) (N := some 49) #[true, true, true, false, false] rfl rfl Yj_ (by decide) (fun K hK => ?_)
  refine goes_ Try.func12 Yj_ rfl #[.agg #[.slice A0_0 l0_0.length c0_0, .int .i64 a0_1, .slice A0_2 l0_2.length c0_2]] (by rfl) rfl rfl Yd_ ?_
  (with_reducible refine (Bi.calls2 k _ _ l0_0 a0_1 _ _ l0_2 r73 r77 r78 w226 (Kd.C_below HR0_0.out Yb_) HC0_0.out (Kd.C_below HR0_2.out Yb_) HC0_2.out A83.out).mono ?_)
  rintro e w227 ⟨Pw227, v230, v231, rfl, ho228, ho229, hb⟩
  refine ⟨_, rfl, ?_⟩
  have m_ := Aside0.mk (Kd.Aa HO11.out hb)
  clear HO11
  have HO11 := m_
  clear m_
  have m_ := Aside0.mk (Kd.Aa HO16.out hb)
  clear HO16
  have HO16 := m_
  clear m_
  have m_ := Aside0.mk (Kd.Aa HO27.out hb)
  clear HO27
  have HO27 := m_
  clear m_
  have m_ := Aside0.mk (Kd.Aa HO32.out hb)
  clear HO32
  have HO32 := m_
  clear m_
  have m_ := Aside0.mk (Kd.Aa HO41.out hb)
  clear HO41
  have HO41 := m_
  clear m_
  have m_ := Aside0.mk (Kd.Aa HO46.out hb)
  clear HO46
  have HO46 := m_
  clear m_
  have m_ := Aside0.mk (Kd.Aa HO59.out hb)
  clear HO59
  have HO59 := m_
  clear m_
  have m_ := Aside0.mk (Kd.Aa HO64.out hb)
  clear HO64
  have HO64 := m_
  clear m_
  have m_ := Aside0.mk (blk_below BK140.out hb)
  clear BK140
  have BK140 := m_
  clear m_
  have m_ := Aside0.mk (blk_below BK142.out hb)
  clear BK142
  have BK142 := m_
  clear m_
  have m_ := Aside0.mk (blk_below BK188.out hb)
  clear BK188
  have BK188 := m_
  clear m_
  have m_ := Aside0.mk (blk_below BK197.out hb)
  clear BK197
  have BK197 := m_
  clear m_
  have m_ := Aside0.mk (blk_below BK224.out hb)
  clear BK224
  have BK224 := m_
  clear m_
  have HSw227 := Aside0.mk (show w226.heap.size ≤ w227.heap.size from hb.size)
  have m_ := (show Kd.S (Kd.slice 3 (Kd.int .i64)) 73 w227 w.heap.size (fun k_ => (w226.heap.size ≤ k_ ∧ k_ < w227.heap.size) ∧ Pw227 k_) v230 r73 from Kd.S_mono (Kd.S_lower (Kd.Bl ho228) (below_size Yb_)) (fun k_ hk_ => ⟨⟨hk_.2.1, hk_.2.2.1⟩, hk_.1⟩))
  obtain ⟨A74, c75, e_⟩ := Kd.S_slice m_
  subst e_
  have HO76 := Aside0.mk m_
  clear m_ ho228
  have m_ := (show Kd.S (Kd.slice 3 (Kd.int .i64)) 73 w227 w.heap.size (fun k_ => (w226.heap.size ≤ k_ ∧ k_ < w227.heap.size) ∧ ¬ Pw227 k_) v231 r78 from Kd.S_mono (Kd.S_lower (Kd.Bl ho229) (below_size Yb_)) (fun k_ hk_ => ⟨⟨hk_.2.1, hk_.2.2.1⟩, hk_.1⟩))
  obtain ⟨A79, c80, e_⟩ := Kd.S_slice m_
  subst e_
  have HO81 := Aside0.mk m_
  clear m_ ho229
  have m_ := Aside0.mk (below_step HB.out hb)
  clear HB
  have HB := m_
  clear m_
  clear hb
  refine hK.out _ _ ⟨(blk_cell BK197.out 0).trans rfl, (blk_cell BK197.out 1).trans rfl, (blk_cell BK197.out 2).trans rfl, (blk_cell BK140.out 0).trans rfl, (blk_cell BK140.out 1).trans rfl, (blk_cell BK140.out 2).trans rfl⟩ (fun hHeld => ?_)
  clear hK K
  refine norm_ (show Act.put _ (some 49) _ = _ from Ya_) ?_
  refine one_ (i := 3) (N := some 50) #[true, true, true, true, false] rfl rfl Yj_ (by decide) (fun K hK => ?_)
  refine goes_ Try.func14 Yj_ rfl #[.agg #[.slice A39 r38.length c40, .int .i64 r42, .slice A44 r43.length c45], .agg #[.slice A74 r73.length c75, .int .i64 r77, .slice A79 r78.length c80]] (by rfl) rfl rfl Yd_ ?_
  (with_reducible refine (Bv.calls k _ _ r38 r42 _ _ r43 _ _ r73 r77 _ _ r78 true w227 (Kd.Ac HO41.out).2.2 (Nat.le_trans (Nat.le_of_eq (Kd.Ac HO41.out).1.symm) (Kd.Ac HO41.out).2.1) (Kd.Ac HO46.out).2.2 (Nat.le_trans (Nat.le_of_eq (Kd.Ac HO46.out).1.symm) (Kd.Ac HO46.out).2.1) (Kd.Ac HO76.out).2.2 (Nat.le_trans (Nat.le_of_eq (Kd.Ac HO76.out).1.symm) (Kd.Ac HO76.out).2.1) (Kd.Ac HO81.out).2.2 (Nat.le_trans (Nat.le_of_eq (Kd.Ac HO81.out).1.symm) (Kd.Ac HO81.out).2.1) A86.out).mono ?_)
  rintro e w232 ⟨rfl, hb⟩
  refine ⟨_, rfl, ?_⟩
  have m_ := Aside0.mk (Kd.Aa HO11.out hb)
  clear HO11
  have HO11 := m_
  clear m_
  have m_ := Aside0.mk (Kd.Aa HO16.out hb)
  clear HO16
  have HO16 := m_
  clear m_
  have m_ := Aside0.mk (Kd.Aa HO27.out hb)
  clear HO27
  have HO27 := m_
  clear m_
  have m_ := Aside0.mk (Kd.Aa HO32.out hb)
  clear HO32
  have HO32 := m_
  clear m_
  have m_ := Aside0.mk (Kd.Aa HO41.out hb)
  clear HO41
  have HO41 := m_
  clear m_
  have m_ := Aside0.mk (Kd.Aa HO46.out hb)
  clear HO46
  have HO46 := m_
  clear m_
  have m_ := Aside0.mk (Kd.Aa HO59.out hb)
  clear HO59
  have HO59 := m_
  clear m_
  have m_ := Aside0.mk (Kd.Aa HO64.out hb)
  clear HO64
  have HO64 := m_
  clear m_
  have m_ := Aside0.mk (Kd.Aa HO76.out hb)
  clear HO76
  have HO76 := m_
  clear m_
  have m_ := Aside0.mk (Kd.Aa HO81.out hb)
  clear HO81
  have HO81 := m_
  clear m_
  have m_ := Aside0.mk (blk_below BK140.out hb)
  clear BK140
  have BK140 := m_
  clear m_
  have m_ := Aside0.mk (blk_below BK142.out hb)
  clear BK142
  have BK142 := m_
  clear m_
  have m_ := Aside0.mk (blk_below BK188.out hb)
  clear BK188
  have BK188 := m_
  clear m_
  have m_ := Aside0.mk (blk_below BK197.out hb)
  clear BK197
  have BK197 := m_
  clear m_
  have m_ := Aside0.mk (blk_below BK224.out hb)
  clear BK224
  have BK224 := m_
  clear m_
  have HSw232 := Aside0.mk (show w227.heap.size ≤ w232.heap.size from hb.size)
  have m_ := Aside0.mk (below_step HB.out hb)
  clear HB
  have HB := m_
  clear m_
  clear hb
  refine hK.out _ _ ⟨(blk_cell BK197.out 0).trans rfl, (blk_cell BK197.out 1).trans rfl, (blk_cell BK197.out 2).trans rfl, (blk_cell BK140.out 0).trans rfl, (blk_cell BK140.out 1).trans rfl, (blk_cell BK140.out 2).trans rfl⟩ (fun hHeld => ?_)
  clear hK K
  refine norm_ (show Act.put _ (some 50) _ = _ from Ya_) ?_
  refine pure_ (i := 4) (N := some 51) #[true, true, true, true, true] rfl rfl Yj_ (fun _ _ _ h => h) (Or.inl ⟨by rfl, Ybb_⟩) Ya_ ?_
  refine done_ Yj_ ?_
  have hzgb2_0 : w232.cell? ⟨gb2, 0, none⟩ = some (.slice A0_0 l0_0.length c0_0) := (blk_cell BK140.out 0).trans rfl
  have hzgb2_1 : w232.cell? ⟨gb2, 1, none⟩ = some (.int .i64 a0_1) := (blk_cell BK140.out 1).trans rfl
  have hzgb2_2 : w232.cell? ⟨gb2, 2, none⟩ = some (.slice A0_2 l0_2.length c0_2) := (blk_cell BK140.out 2).trans rfl
  have hzgb4_0 : w232.cell? ⟨gb4, 0, none⟩ = some (.int .i64 a1_0) := (blk_cell BK142.out 0).trans rfl
  have hzgb4_1 : w232.cell? ⟨gb4, 1, none⟩ = some (.int .i64 a1_1) := (blk_cell BK142.out 1).trans rfl
  have hzgb4_2 : w232.cell? ⟨gb4, 2, none⟩ = some (.int .i64 a1_2) := (blk_cell BK142.out 2).trans rfl
  have hzgb37_0 : w232.cell? ⟨gb37, 0, none⟩ = some (.slice A25 r24.length c26) := (blk_cell BK188.out 0).trans rfl
  have hzgb37_1 : w232.cell? ⟨gb37, 1, none⟩ = some (.int .i64 r28) := (blk_cell BK188.out 1).trans rfl
  have hzgb37_2 : w232.cell? ⟨gb37, 2, none⟩ = some (.slice A30 r29.length c31) := (blk_cell BK188.out 2).trans rfl
  have hzgb50_0 : w232.cell? ⟨gb50, 0, none⟩ = some (.slice A39 r38.length c40) := (blk_cell BK197.out 0).trans rfl
  have hzgb50_1 : w232.cell? ⟨gb50, 1, none⟩ = some (.int .i64 r42) := (blk_cell BK197.out 1).trans rfl
  have hzgb50_2 : w232.cell? ⟨gb50, 2, none⟩ = some (.slice A44 r43.length c45) := (blk_cell BK197.out 2).trans rfl
  have hzgb69_0 : w232.cell? ⟨gb69, 0, none⟩ = some (.slice A57 r56.length c58) := (blk_cell BK224.out 0).trans rfl
  have hzgb69_1 : w232.cell? ⟨gb69, 1, none⟩ = some (.int .i64 r60) := (blk_cell BK224.out 1).trans rfl
  have hzgb69_2 : w232.cell? ⟨gb69, 2, none⟩ = some (.slice A62 r61.length c63) := (blk_cell BK224.out 2).trans rfl
  go_upto_region 24 with (first | ((with_reducible refine gate_callee (f := 23) rfl ?_); (try (refine gate_guard (by rfl) ?_; dsimp only)); refine goesL_ (some 54) rfl rfl Try.func23 Yj_ rfl #[.agg #[.slice A39 r38.length c40, .int .i64 r42, .slice A44 r43.length c45], .int .i64 1] rfl Yd_ ?_; (with_reducible refine (Cj.calls k (fun k_ => ((((((w187.heap.size ≤ k_ ∧ k_ < w189.heap.size) ∧ Pw189 k_) ∧ k_ ≠ gb2) ∧ k_ ≠ gb4) ∧ k_ ≠ gb37) ∧ k_ ≠ gb50) ∧ k_ ≠ gb69) (.slice A39 r38.length c40) r38 r42 (fun k_ => ((((((w187.heap.size ≤ k_ ∧ k_ < w189.heap.size) ∧ ¬ Pw189 k_) ∧ k_ ≠ gb2) ∧ k_ ≠ gb4) ∧ k_ ≠ gb37) ∧ k_ ≠ gb50) ∧ k_ ≠ gb69) (.slice A44 r43.length c45) r43 1 r87 r88 r89 w w232 HB.out (Kd.S_types (Kd.S_types (Kd.S_types (Kd.S_types (Kd.S_types HO41.out BK140.out (by decide)) BK142.out (by decide)) BK188.out (by decide)) BK197.out (by decide)) BK224.out (by decide)) (fun k_ h1_ h2_ => absurd h1_.1.1.1.1.1.2 h2_.1.1.1.1.1.2) (Kd.S_types (Kd.S_types (Kd.S_types (Kd.S_types (Kd.S_types HO46.out BK140.out (by decide)) BK142.out (by decide)) BK188.out (by decide)) BK197.out (by decide)) BK224.out (by decide)) (fun k_ h1_ h2_ => absurd h2_.1.1.1.1.1.2 h1_.1.1.1.1.1.2) A91.out).mono ?_); rintro e w233 ⟨rfl, ho234, ho235, hb, hk⟩; (try clear hzgb2_0 hzgb2_1 hzgb2_2); (try clear hzgb4_0 hzgb4_1 hzgb4_2); (try clear hzgb37_0 hzgb37_1 hzgb37_2); (try clear hzgb50_0 hzgb50_1 hzgb50_2); (try clear hzgb69_0 hzgb69_1 hzgb69_2); refine ⟨_, rfl, ?_⟩; have m_ := Aside0.mk (show Kd.S (Kd.slice 3 (Kd.int .i64)) 73 w233 w.heap.size (fun k_ => (lo1_w145 ≤ k_ ∧ k_ < hi1_w145) ∧ PJ1_w145 k_) (.slice A9 r8.length c10) r8 from Kd.Ei HO11.out hk (fun k_ hk_ hs_ => by rcases hs_ with hs_ | hs_ <;> first | (have := HSw139.out; have := HSw141.out; have := HSw143.out; have := HSw144.out; have := HSw145.out; have := HSw187.out; have := HSw189.out; have := HSw194.out; have := HSw196.out; have := HSw198.out; have := HSw199.out; have := HSw223.out; have := HSw225.out; have := HSw226.out; have := HSw227.out; have := HSw232.out; have h1_ : lo1_w145 ≤ k_ ∧ k_ < hi1_w145 := hk_.1; have h2_ : w187.heap.size ≤ k_ ∧ k_ < w189.heap.size := hs_.1.1.1.1.1.1; omega) | (have := HSw139.out; have := HSw141.out; have := HSw143.out; have := HSw144.out; have := HSw145.out; have := HSw187.out; have := HSw189.out; have := HSw194.out; have := HSw196.out; have := HSw198.out; have := HSw199.out; have := HSw223.out; have := HSw225.out; have := HSw226.out; have := HSw227.out; have := HSw232.out; have h1_ : lo1_w145 ≤ k_ ∧ k_ < hi1_w145 := hk_.1; have h2_ : w187.heap.size ≤ k_ ∧ k_ < w189.heap.size := hs_.1.1.1.1.1.1; omega))); clear HO11; have HO11 := m_; clear m_; have m_ := Aside0.mk (show Kd.S (Kd.slice 3 (Kd.int .i64)) 73 w233 w.heap.size (fun k_ => (lo1_w145 ≤ k_ ∧ k_ < hi1_w145) ∧ ¬ PJ1_w145 k_) (.slice A14 r13.length c15) r13 from Kd.Ei HO16.out hk (fun k_ hk_ hs_ => by rcases hs_ with hs_ | hs_ <;> first | (have := HSw139.out; have := HSw141.out; have := HSw143.out; have := HSw144.out; have := HSw145.out; have := HSw187.out; have := HSw189.out; have := HSw194.out; have := HSw196.out; have := HSw198.out; have := HSw199.out; have := HSw223.out; have := HSw225.out; have := HSw226.out; have := HSw227.out; have := HSw232.out; have h1_ : lo1_w145 ≤ k_ ∧ k_ < hi1_w145 := hk_.1; have h2_ : w187.heap.size ≤ k_ ∧ k_ < w189.heap.size := hs_.1.1.1.1.1.1; omega) | (have := HSw139.out; have := HSw141.out; have := HSw143.out; have := HSw144.out; have := HSw145.out; have := HSw187.out; have := HSw189.out; have := HSw194.out; have := HSw196.out; have := HSw198.out; have := HSw199.out; have := HSw223.out; have := HSw225.out; have := HSw226.out; have := HSw227.out; have := HSw232.out; have h1_ : lo1_w145 ≤ k_ ∧ k_ < hi1_w145 := hk_.1; have h2_ : w187.heap.size ≤ k_ ∧ k_ < w189.heap.size := hs_.1.1.1.1.1.1; omega))); clear HO16; have HO16 := m_; clear m_; have m_ := Aside0.mk (show Kd.S (Kd.slice 3 (Kd.int .i64)) 73 w233 w.heap.size (fun k_ => (lo4_w145 ≤ k_ ∧ k_ < hi4_w145) ∧ True) (.slice A25 r24.length c26) r24 from Kd.Ei HO27.out hk (fun k_ hk_ hs_ => by rcases hs_ with hs_ | hs_ <;> first | (have := HSw139.out; have := HSw141.out; have := HSw143.out; have := HSw144.out; have := HSw145.out; have := HSw187.out; have := HSw189.out; have := HSw194.out; have := HSw196.out; have := HSw198.out; have := HSw199.out; have := HSw223.out; have := HSw225.out; have := HSw226.out; have := HSw227.out; have := HSw232.out; have h1_ : lo4_w145 ≤ k_ ∧ k_ < hi4_w145 := hk_.1; have h2_ : w187.heap.size ≤ k_ ∧ k_ < w189.heap.size := hs_.1.1.1.1.1.1; omega) | (have := HSw139.out; have := HSw141.out; have := HSw143.out; have := HSw144.out; have := HSw145.out; have := HSw187.out; have := HSw189.out; have := HSw194.out; have := HSw196.out; have := HSw198.out; have := HSw199.out; have := HSw223.out; have := HSw225.out; have := HSw226.out; have := HSw227.out; have := HSw232.out; have h1_ : lo4_w145 ≤ k_ ∧ k_ < hi4_w145 := hk_.1; have h2_ : w187.heap.size ≤ k_ ∧ k_ < w189.heap.size := hs_.1.1.1.1.1.1; omega))); clear HO27; have HO27 := m_; clear m_; have m_ := Aside0.mk (show Kd.S (Kd.slice 3 (Kd.int .i64)) 73 w233 w.heap.size (fun k_ => (lo4_w145 ≤ k_ ∧ k_ < hi4_w145) ∧ True) (.slice A30 r29.length c31) r29 from Kd.Ei HO32.out hk (fun k_ hk_ hs_ => by rcases hs_ with hs_ | hs_ <;> first | (have := HSw139.out; have := HSw141.out; have := HSw143.out; have := HSw144.out; have := HSw145.out; have := HSw187.out; have := HSw189.out; have := HSw194.out; have := HSw196.out; have := HSw198.out; have := HSw199.out; have := HSw223.out; have := HSw225.out; have := HSw226.out; have := HSw227.out; have := HSw232.out; have h1_ : lo4_w145 ≤ k_ ∧ k_ < hi4_w145 := hk_.1; have h2_ : w187.heap.size ≤ k_ ∧ k_ < w189.heap.size := hs_.1.1.1.1.1.1; omega) | (have := HSw139.out; have := HSw141.out; have := HSw143.out; have := HSw144.out; have := HSw145.out; have := HSw187.out; have := HSw189.out; have := HSw194.out; have := HSw196.out; have := HSw198.out; have := HSw199.out; have := HSw223.out; have := HSw225.out; have := HSw226.out; have := HSw227.out; have := HSw232.out; have h1_ : lo4_w145 ≤ k_ ∧ k_ < hi4_w145 := hk_.1; have h2_ : w187.heap.size ≤ k_ ∧ k_ < w189.heap.size := hs_.1.1.1.1.1.1; omega))); clear HO32; have HO32 := m_; clear m_; have m_ := Aside0.mk (show Kd.S (Kd.slice 3 (Kd.int .i64)) 73 w233 w.heap.size (fun k_ => (lo3_w199 ≤ k_ ∧ k_ < hi3_w199) ∧ PJ3_w199 k_) (.slice A57 r56.length c58) r56 from Kd.Ei HO59.out hk (fun k_ hk_ hs_ => by rcases hs_ with hs_ | hs_ <;> first | (have := HSw139.out; have := HSw141.out; have := HSw143.out; have := HSw144.out; have := HSw145.out; have := HSw187.out; have := HSw189.out; have := HSw194.out; have := HSw196.out; have := HSw198.out; have := HSw199.out; have := HSw223.out; have := HSw225.out; have := HSw226.out; have := HSw227.out; have := HSw232.out; have h1_ : lo3_w199 ≤ k_ ∧ k_ < hi3_w199 := hk_.1; have h2_ : w187.heap.size ≤ k_ ∧ k_ < w189.heap.size := hs_.1.1.1.1.1.1; omega) | (have := HSw139.out; have := HSw141.out; have := HSw143.out; have := HSw144.out; have := HSw145.out; have := HSw187.out; have := HSw189.out; have := HSw194.out; have := HSw196.out; have := HSw198.out; have := HSw199.out; have := HSw223.out; have := HSw225.out; have := HSw226.out; have := HSw227.out; have := HSw232.out; have h1_ : lo3_w199 ≤ k_ ∧ k_ < hi3_w199 := hk_.1; have h2_ : w187.heap.size ≤ k_ ∧ k_ < w189.heap.size := hs_.1.1.1.1.1.1; omega))); clear HO59; have HO59 := m_; clear m_; have m_ := Aside0.mk (show Kd.S (Kd.slice 3 (Kd.int .i64)) 73 w233 w.heap.size (fun k_ => (lo3_w199 ≤ k_ ∧ k_ < hi3_w199) ∧ ¬ PJ3_w199 k_) (.slice A62 r61.length c63) r61 from Kd.Ei HO64.out hk (fun k_ hk_ hs_ => by rcases hs_ with hs_ | hs_ <;> first | (have := HSw139.out; have := HSw141.out; have := HSw143.out; have := HSw144.out; have := HSw145.out; have := HSw187.out; have := HSw189.out; have := HSw194.out; have := HSw196.out; have := HSw198.out; have := HSw199.out; have := HSw223.out; have := HSw225.out; have := HSw226.out; have := HSw227.out; have := HSw232.out; have h1_ : lo3_w199 ≤ k_ ∧ k_ < hi3_w199 := hk_.1; have h2_ : w187.heap.size ≤ k_ ∧ k_ < w189.heap.size := hs_.1.1.1.1.1.1; omega) | (have := HSw139.out; have := HSw141.out; have := HSw143.out; have := HSw144.out; have := HSw145.out; have := HSw187.out; have := HSw189.out; have := HSw194.out; have := HSw196.out; have := HSw198.out; have := HSw199.out; have := HSw223.out; have := HSw225.out; have := HSw226.out; have := HSw227.out; have := HSw232.out; have h1_ : lo3_w199 ≤ k_ ∧ k_ < hi3_w199 := hk_.1; have h2_ : w187.heap.size ≤ k_ ∧ k_ < w189.heap.size := hs_.1.1.1.1.1.1; omega))); clear HO64; have HO64 := m_; clear m_; have m_ := Aside0.mk (show Kd.S (Kd.slice 3 (Kd.int .i64)) 73 w233 w.heap.size (fun k_ => (w226.heap.size ≤ k_ ∧ k_ < w227.heap.size) ∧ Pw227 k_) (.slice A74 r73.length c75) r73 from Kd.Ei HO76.out hk (fun k_ hk_ hs_ => by rcases hs_ with hs_ | hs_ <;> first | (have := HSw139.out; have := HSw141.out; have := HSw143.out; have := HSw144.out; have := HSw145.out; have := HSw187.out; have := HSw189.out; have := HSw194.out; have := HSw196.out; have := HSw198.out; have := HSw199.out; have := HSw223.out; have := HSw225.out; have := HSw226.out; have := HSw227.out; have := HSw232.out; have h1_ : w226.heap.size ≤ k_ ∧ k_ < w227.heap.size := hk_.1; have h2_ : w187.heap.size ≤ k_ ∧ k_ < w189.heap.size := hs_.1.1.1.1.1.1; omega) | (have := HSw139.out; have := HSw141.out; have := HSw143.out; have := HSw144.out; have := HSw145.out; have := HSw187.out; have := HSw189.out; have := HSw194.out; have := HSw196.out; have := HSw198.out; have := HSw199.out; have := HSw223.out; have := HSw225.out; have := HSw226.out; have := HSw227.out; have := HSw232.out; have h1_ : w226.heap.size ≤ k_ ∧ k_ < w227.heap.size := hk_.1; have h2_ : w187.heap.size ≤ k_ ∧ k_ < w189.heap.size := hs_.1.1.1.1.1.1; omega))); clear HO76; have HO76 := m_; clear m_; have m_ := Aside0.mk (show Kd.S (Kd.slice 3 (Kd.int .i64)) 73 w233 w.heap.size (fun k_ => (w226.heap.size ≤ k_ ∧ k_ < w227.heap.size) ∧ ¬ Pw227 k_) (.slice A79 r78.length c80) r78 from Kd.Ei HO81.out hk (fun k_ hk_ hs_ => by rcases hs_ with hs_ | hs_ <;> first | (have := HSw139.out; have := HSw141.out; have := HSw143.out; have := HSw144.out; have := HSw145.out; have := HSw187.out; have := HSw189.out; have := HSw194.out; have := HSw196.out; have := HSw198.out; have := HSw199.out; have := HSw223.out; have := HSw225.out; have := HSw226.out; have := HSw227.out; have := HSw232.out; have h1_ : w226.heap.size ≤ k_ ∧ k_ < w227.heap.size := hk_.1; have h2_ : w187.heap.size ≤ k_ ∧ k_ < w189.heap.size := hs_.1.1.1.1.1.1; omega) | (have := HSw139.out; have := HSw141.out; have := HSw143.out; have := HSw144.out; have := HSw145.out; have := HSw187.out; have := HSw189.out; have := HSw194.out; have := HSw196.out; have := HSw198.out; have := HSw199.out; have := HSw223.out; have := HSw225.out; have := HSw226.out; have := HSw227.out; have := HSw232.out; have h1_ : w226.heap.size ≤ k_ ∧ k_ < w227.heap.size := hk_.1; have h2_ : w187.heap.size ≤ k_ ∧ k_ < w189.heap.size := hs_.1.1.1.1.1.1; omega))); clear HO81; have HO81 := m_; clear m_; have m_ := Aside0.mk (Es BK140.out hk (fun hs_ => by rcases hs_ with hs_ | hs_ <;> exact hs_.1.1.1.1.2 rfl)); clear BK140; have BK140 := m_; clear m_; have m_ := Aside0.mk (Es BK142.out hk (fun hs_ => by rcases hs_ with hs_ | hs_ <;> exact hs_.1.1.1.2 rfl)); clear BK142; have BK142 := m_; clear m_; have m_ := Aside0.mk (Es BK188.out hk (fun hs_ => by rcases hs_ with hs_ | hs_ <;> exact hs_.1.1.2 rfl)); clear BK188; have BK188 := m_; clear m_; have m_ := Aside0.mk (Es BK197.out hk (fun hs_ => by rcases hs_ with hs_ | hs_ <;> exact hs_.1.2 rfl)); clear BK197; have BK197 := m_; clear m_; have m_ := Aside0.mk (Es BK224.out hk (fun hs_ => by rcases hs_ with hs_ | hs_ <;> exact hs_.2 rfl)); clear BK224; have BK224 := m_; clear m_; clear HB; have HB := Aside0.mk hb; have HSw233 := Aside0.mk hk.1; clear HO41; have HO236 := Aside0.mk ho234; clear ho234; clear HO46; have HO237 := Aside0.mk ho235; clear ho235; (try clear hb hk); have hzgb2_0 : w233.cell? ⟨gb2, 0, none⟩ = some (.slice A0_0 l0_0.length c0_0) := (blk_cell BK140.out 0).trans rfl; have hzgb2_1 : w233.cell? ⟨gb2, 1, none⟩ = some (.int .i64 a0_1) := (blk_cell BK140.out 1).trans rfl; have hzgb2_2 : w233.cell? ⟨gb2, 2, none⟩ = some (.slice A0_2 l0_2.length c0_2) := (blk_cell BK140.out 2).trans rfl; have hzgb4_0 : w233.cell? ⟨gb4, 0, none⟩ = some (.int .i64 a1_0) := (blk_cell BK142.out 0).trans rfl; have hzgb4_1 : w233.cell? ⟨gb4, 1, none⟩ = some (.int .i64 a1_1) := (blk_cell BK142.out 1).trans rfl; have hzgb4_2 : w233.cell? ⟨gb4, 2, none⟩ = some (.int .i64 a1_2) := (blk_cell BK142.out 2).trans rfl; have hzgb37_0 : w233.cell? ⟨gb37, 0, none⟩ = some (.slice A25 r24.length c26) := (blk_cell BK188.out 0).trans rfl; have hzgb37_1 : w233.cell? ⟨gb37, 1, none⟩ = some (.int .i64 r28) := (blk_cell BK188.out 1).trans rfl; have hzgb37_2 : w233.cell? ⟨gb37, 2, none⟩ = some (.slice A30 r29.length c31) := (blk_cell BK188.out 2).trans rfl; have hzgb50_0 : w233.cell? ⟨gb50, 0, none⟩ = some (.slice A39 r38.length c40) := (blk_cell BK197.out 0).trans rfl; have hzgb50_1 : w233.cell? ⟨gb50, 1, none⟩ = some (.int .i64 r42) := (blk_cell BK197.out 1).trans rfl; have hzgb50_2 : w233.cell? ⟨gb50, 2, none⟩ = some (.slice A44 r43.length c45) := (blk_cell BK197.out 2).trans rfl; have hzgb69_0 : w233.cell? ⟨gb69, 0, none⟩ = some (.slice A57 r56.length c58) := (blk_cell BK224.out 0).trans rfl; have hzgb69_1 : w233.cell? ⟨gb69, 1, none⟩ = some (.int .i64 r60) := (blk_cell BK224.out 1).trans rfl; have hzgb69_2 : w233.cell? ⟨gb69, 2, none⟩ = some (.slice A62 r61.length c63) := (blk_cell BK224.out 2).trans rfl) | ((with_reducible refine gate_callee (f := 14) rfl ?_); (try (refine gate_guard (by rfl) ?_; dsimp only)); refine goesL_ (some 60) rfl rfl Try.func14 Yj_ rfl #[.agg #[.slice A57 r56.length c58, .int .i64 r60, .slice A62 r61.length c63], .agg #[.slice A25 r24.length c26, .int .i64 r28, .slice A30 r29.length c31]] rfl Yd_ ?_; (with_reducible refine (Bv.calls k _ _ r56 r60 _ _ r61 _ _ r24 r28 _ _ r29 true w233 (Kd.Ac HO59.out).2.2 (Nat.le_trans (Nat.le_of_eq (Kd.Ac HO59.out).1.symm) (Kd.Ac HO59.out).2.1) (Kd.Ac HO64.out).2.2 (Nat.le_trans (Nat.le_of_eq (Kd.Ac HO64.out).1.symm) (Kd.Ac HO64.out).2.1) (Kd.Ac HO27.out).2.2 (Nat.le_trans (Nat.le_of_eq (Kd.Ac HO27.out).1.symm) (Kd.Ac HO27.out).2.1) (Kd.Ac HO32.out).2.2 (Nat.le_trans (Nat.le_of_eq (Kd.Ac HO32.out).1.symm) (Kd.Ac HO32.out).2.1) A94.out).mono ?_); rintro e w238 ⟨rfl, hb⟩; (try clear hzgb2_0 hzgb2_1 hzgb2_2); (try clear hzgb4_0 hzgb4_1 hzgb4_2); (try clear hzgb37_0 hzgb37_1 hzgb37_2); (try clear hzgb50_0 hzgb50_1 hzgb50_2); (try clear hzgb69_0 hzgb69_1 hzgb69_2); refine ⟨_, rfl, ?_⟩; have m_ := Aside0.mk (Kd.Aa HO11.out hb); clear HO11; have HO11 := m_; clear m_; have m_ := Aside0.mk (Kd.Aa HO16.out hb); clear HO16; have HO16 := m_; clear m_; have m_ := Aside0.mk (Kd.Aa HO27.out hb); clear HO27; have HO27 := m_; clear m_; have m_ := Aside0.mk (Kd.Aa HO32.out hb); clear HO32; have HO32 := m_; clear m_; have m_ := Aside0.mk (Kd.Aa HO59.out hb); clear HO59; have HO59 := m_; clear m_; have m_ := Aside0.mk (Kd.Aa HO64.out hb); clear HO64; have HO64 := m_; clear m_; have m_ := Aside0.mk (Kd.Aa HO76.out hb); clear HO76; have HO76 := m_; clear m_; have m_ := Aside0.mk (Kd.Aa HO81.out hb); clear HO81; have HO81 := m_; clear m_; have m_ := Aside0.mk (Kd.Aa HO236.out hb); clear HO236; have HO236 := m_; clear m_; have m_ := Aside0.mk (Kd.Aa HO237.out hb); clear HO237; have HO237 := m_; clear m_; have m_ := Aside0.mk (blk_below BK140.out hb); clear BK140; have BK140 := m_; clear m_; have m_ := Aside0.mk (blk_below BK142.out hb); clear BK142; have BK142 := m_; clear m_; have m_ := Aside0.mk (blk_below BK188.out hb); clear BK188; have BK188 := m_; clear m_; have m_ := Aside0.mk (blk_below BK197.out hb); clear BK197; have BK197 := m_; clear m_; have m_ := Aside0.mk (blk_below BK224.out hb); clear BK224; have BK224 := m_; clear m_; have HSw238 := Aside0.mk (show w233.heap.size ≤ w238.heap.size from hb.size); have m_ := Aside0.mk (below_step HB.out hb); clear HB; have HB := m_; clear m_; clear hb; have hzgb2_0 : w238.cell? ⟨gb2, 0, none⟩ = some (.slice A0_0 l0_0.length c0_0) := (blk_cell BK140.out 0).trans rfl; have hzgb2_1 : w238.cell? ⟨gb2, 1, none⟩ = some (.int .i64 a0_1) := (blk_cell BK140.out 1).trans rfl; have hzgb2_2 : w238.cell? ⟨gb2, 2, none⟩ = some (.slice A0_2 l0_2.length c0_2) := (blk_cell BK140.out 2).trans rfl; have hzgb4_0 : w238.cell? ⟨gb4, 0, none⟩ = some (.int .i64 a1_0) := (blk_cell BK142.out 0).trans rfl; have hzgb4_1 : w238.cell? ⟨gb4, 1, none⟩ = some (.int .i64 a1_1) := (blk_cell BK142.out 1).trans rfl; have hzgb4_2 : w238.cell? ⟨gb4, 2, none⟩ = some (.int .i64 a1_2) := (blk_cell BK142.out 2).trans rfl; have hzgb37_0 : w238.cell? ⟨gb37, 0, none⟩ = some (.slice A25 r24.length c26) := (blk_cell BK188.out 0).trans rfl; have hzgb37_1 : w238.cell? ⟨gb37, 1, none⟩ = some (.int .i64 r28) := (blk_cell BK188.out 1).trans rfl; have hzgb37_2 : w238.cell? ⟨gb37, 2, none⟩ = some (.slice A30 r29.length c31) := (blk_cell BK188.out 2).trans rfl; have hzgb50_0 : w238.cell? ⟨gb50, 0, none⟩ = some (.slice A39 r38.length c40) := (blk_cell BK197.out 0).trans rfl; have hzgb50_1 : w238.cell? ⟨gb50, 1, none⟩ = some (.int .i64 r42) := (blk_cell BK197.out 1).trans rfl; have hzgb50_2 : w238.cell? ⟨gb50, 2, none⟩ = some (.slice A44 r43.length c45) := (blk_cell BK197.out 2).trans rfl; have hzgb69_0 : w238.cell? ⟨gb69, 0, none⟩ = some (.slice A57 r56.length c58) := (blk_cell BK224.out 0).trans rfl; have hzgb69_1 : w238.cell? ⟨gb69, 1, none⟩ = some (.int .i64 r60) := (blk_cell BK224.out 1).trans rfl; have hzgb69_2 : w238.cell? ⟨gb69, 2, none⟩ = some (.slice A62 r61.length c63) := (blk_cell BK224.out 2).trans rfl) | ((with_reducible refine gate_callee (f := 23) rfl ?_); (try (refine gate_guard (by rfl) ?_; dsimp only)); refine goesL_ (some 70) rfl rfl Try.func23 Yj_ rfl #[.agg #[.slice A57 r56.length c58, .int .i64 r60, .slice A62 r61.length c63], .int .i64 1] rfl Yd_ ?_; (with_reducible refine (Cj.calls k (fun k_ => ((((((lo3_w199 ≤ k_ ∧ k_ < hi3_w199) ∧ PJ3_w199 k_) ∧ k_ ≠ gb2) ∧ k_ ≠ gb4) ∧ k_ ≠ gb37) ∧ k_ ≠ gb50) ∧ k_ ≠ gb69) (.slice A57 r56.length c58) r56 r60 (fun k_ => ((((((lo3_w199 ≤ k_ ∧ k_ < hi3_w199) ∧ ¬ PJ3_w199 k_) ∧ k_ ≠ gb2) ∧ k_ ≠ gb4) ∧ k_ ≠ gb37) ∧ k_ ≠ gb50) ∧ k_ ≠ gb69) (.slice A62 r61.length c63) r61 1 r136 r96 r97 w w238 HB.out (Kd.S_types (Kd.S_types (Kd.S_types (Kd.S_types (Kd.S_types HO59.out BK140.out (by decide)) BK142.out (by decide)) BK188.out (by decide)) BK197.out (by decide)) BK224.out (by decide)) (fun k_ h1_ h2_ => absurd h1_.1.1.1.1.1.2 h2_.1.1.1.1.1.2) (Kd.S_types (Kd.S_types (Kd.S_types (Kd.S_types (Kd.S_types HO64.out BK140.out (by decide)) BK142.out (by decide)) BK188.out (by decide)) BK197.out (by decide)) BK224.out (by decide)) (fun k_ h1_ h2_ => absurd h2_.1.1.1.1.1.2 h1_.1.1.1.1.1.2) A99.out).mono ?_); rintro e w239 ⟨rfl, ho240, ho241, hb, hk⟩; (try clear hzgb2_0 hzgb2_1 hzgb2_2); (try clear hzgb4_0 hzgb4_1 hzgb4_2); (try clear hzgb37_0 hzgb37_1 hzgb37_2); (try clear hzgb50_0 hzgb50_1 hzgb50_2); (try clear hzgb69_0 hzgb69_1 hzgb69_2); refine ⟨_, rfl, ?_⟩; clear HO236; clear HO237; have m_ := Aside0.mk (show Kd.S (Kd.slice 3 (Kd.int .i64)) 73 w239 w.heap.size (fun k_ => (lo1_w145 ≤ k_ ∧ k_ < hi1_w145) ∧ PJ1_w145 k_) (.slice A9 r8.length c10) r8 from Kd.Ei HO11.out hk (fun k_ hk_ hs_ => by rcases hs_ with hs_ | hs_ <;> first | (have := HSw139.out; have := HSw141.out; have := HSw143.out; have := HSw144.out; have := HSw145.out; have := HSw187.out; have := HSw189.out; have := HSw194.out; have := HSw196.out; have := HSw198.out; have := HSw199.out; have := HSw223.out; have := HSw225.out; have := HSw226.out; have := HSw227.out; have := HSw232.out; have := HSw233.out; have := HSw238.out; have h1_ : lo1_w145 ≤ k_ ∧ k_ < hi1_w145 := hk_.1; have h2_ : lo3_w199 ≤ k_ ∧ k_ < hi3_w199 := hs_.1.1.1.1.1.1; omega) | (have := HSw139.out; have := HSw141.out; have := HSw143.out; have := HSw144.out; have := HSw145.out; have := HSw187.out; have := HSw189.out; have := HSw194.out; have := HSw196.out; have := HSw198.out; have := HSw199.out; have := HSw223.out; have := HSw225.out; have := HSw226.out; have := HSw227.out; have := HSw232.out; have := HSw233.out; have := HSw238.out; have h1_ : lo1_w145 ≤ k_ ∧ k_ < hi1_w145 := hk_.1; have h2_ : lo3_w199 ≤ k_ ∧ k_ < hi3_w199 := hs_.1.1.1.1.1.1; omega))); clear HO11; have HO11 := m_; clear m_; have m_ := Aside0.mk (show Kd.S (Kd.slice 3 (Kd.int .i64)) 73 w239 w.heap.size (fun k_ => (lo1_w145 ≤ k_ ∧ k_ < hi1_w145) ∧ ¬ PJ1_w145 k_) (.slice A14 r13.length c15) r13 from Kd.Ei HO16.out hk (fun k_ hk_ hs_ => by rcases hs_ with hs_ | hs_ <;> first | (have := HSw139.out; have := HSw141.out; have := HSw143.out; have := HSw144.out; have := HSw145.out; have := HSw187.out; have := HSw189.out; have := HSw194.out; have := HSw196.out; have := HSw198.out; have := HSw199.out; have := HSw223.out; have := HSw225.out; have := HSw226.out; have := HSw227.out; have := HSw232.out; have := HSw233.out; have := HSw238.out; have h1_ : lo1_w145 ≤ k_ ∧ k_ < hi1_w145 := hk_.1; have h2_ : lo3_w199 ≤ k_ ∧ k_ < hi3_w199 := hs_.1.1.1.1.1.1; omega) | (have := HSw139.out; have := HSw141.out; have := HSw143.out; have := HSw144.out; have := HSw145.out; have := HSw187.out; have := HSw189.out; have := HSw194.out; have := HSw196.out; have := HSw198.out; have := HSw199.out; have := HSw223.out; have := HSw225.out; have := HSw226.out; have := HSw227.out; have := HSw232.out; have := HSw233.out; have := HSw238.out; have h1_ : lo1_w145 ≤ k_ ∧ k_ < hi1_w145 := hk_.1; have h2_ : lo3_w199 ≤ k_ ∧ k_ < hi3_w199 := hs_.1.1.1.1.1.1; omega))); clear HO16; have HO16 := m_; clear m_; have m_ := Aside0.mk (show Kd.S (Kd.slice 3 (Kd.int .i64)) 73 w239 w.heap.size (fun k_ => (lo4_w145 ≤ k_ ∧ k_ < hi4_w145) ∧ True) (.slice A25 r24.length c26) r24 from Kd.Ei HO27.out hk (fun k_ hk_ hs_ => by rcases hs_ with hs_ | hs_ <;> first | (have := HSw139.out; have := HSw141.out; have := HSw143.out; have := HSw144.out; have := HSw145.out; have := HSw187.out; have := HSw189.out; have := HSw194.out; have := HSw196.out; have := HSw198.out; have := HSw199.out; have := HSw223.out; have := HSw225.out; have := HSw226.out; have := HSw227.out; have := HSw232.out; have := HSw233.out; have := HSw238.out; have h1_ : lo4_w145 ≤ k_ ∧ k_ < hi4_w145 := hk_.1; have h2_ : lo3_w199 ≤ k_ ∧ k_ < hi3_w199 := hs_.1.1.1.1.1.1; omega) | (have := HSw139.out; have := HSw141.out; have := HSw143.out; have := HSw144.out; have := HSw145.out; have := HSw187.out; have := HSw189.out; have := HSw194.out; have := HSw196.out; have := HSw198.out; have := HSw199.out; have := HSw223.out; have := HSw225.out; have := HSw226.out; have := HSw227.out; have := HSw232.out; have := HSw233.out; have := HSw238.out; have h1_ : lo4_w145 ≤ k_ ∧ k_ < hi4_w145 := hk_.1; have h2_ : lo3_w199 ≤ k_ ∧ k_ < hi3_w199 := hs_.1.1.1.1.1.1; omega))); clear HO27; have HO27 := m_; clear m_; have m_ := Aside0.mk (show Kd.S (Kd.slice 3 (Kd.int .i64)) 73 w239 w.heap.size (fun k_ => (lo4_w145 ≤ k_ ∧ k_ < hi4_w145) ∧ True) (.slice A30 r29.length c31) r29 from Kd.Ei HO32.out hk (fun k_ hk_ hs_ => by rcases hs_ with hs_ | hs_ <;> first | (have := HSw139.out; have := HSw141.out; have := HSw143.out; have := HSw144.out; have := HSw145.out; have := HSw187.out; have := HSw189.out; have := HSw194.out; have := HSw196.out; have := HSw198.out; have := HSw199.out; have := HSw223.out; have := HSw225.out; have := HSw226.out; have := HSw227.out; have := HSw232.out; have := HSw233.out; have := HSw238.out; have h1_ : lo4_w145 ≤ k_ ∧ k_ < hi4_w145 := hk_.1; have h2_ : lo3_w199 ≤ k_ ∧ k_ < hi3_w199 := hs_.1.1.1.1.1.1; omega) | (have := HSw139.out; have := HSw141.out; have := HSw143.out; have := HSw144.out; have := HSw145.out; have := HSw187.out; have := HSw189.out; have := HSw194.out; have := HSw196.out; have := HSw198.out; have := HSw199.out; have := HSw223.out; have := HSw225.out; have := HSw226.out; have := HSw227.out; have := HSw232.out; have := HSw233.out; have := HSw238.out; have h1_ : lo4_w145 ≤ k_ ∧ k_ < hi4_w145 := hk_.1; have h2_ : lo3_w199 ≤ k_ ∧ k_ < hi3_w199 := hs_.1.1.1.1.1.1; omega))); clear HO32; have HO32 := m_; clear m_; have m_ := Aside0.mk (show Kd.S (Kd.slice 3 (Kd.int .i64)) 73 w239 w.heap.size (fun k_ => (w226.heap.size ≤ k_ ∧ k_ < w227.heap.size) ∧ Pw227 k_) (.slice A74 r73.length c75) r73 from Kd.Ei HO76.out hk (fun k_ hk_ hs_ => by rcases hs_ with hs_ | hs_ <;> first | (have := HSw139.out; have := HSw141.out; have := HSw143.out; have := HSw144.out; have := HSw145.out; have := HSw187.out; have := HSw189.out; have := HSw194.out; have := HSw196.out; have := HSw198.out; have := HSw199.out; have := HSw223.out; have := HSw225.out; have := HSw226.out; have := HSw227.out; have := HSw232.out; have := HSw233.out; have := HSw238.out; have h1_ : w226.heap.size ≤ k_ ∧ k_ < w227.heap.size := hk_.1; have h2_ : lo3_w199 ≤ k_ ∧ k_ < hi3_w199 := hs_.1.1.1.1.1.1; omega) | (have := HSw139.out; have := HSw141.out; have := HSw143.out; have := HSw144.out; have := HSw145.out; have := HSw187.out; have := HSw189.out; have := HSw194.out; have := HSw196.out; have := HSw198.out; have := HSw199.out; have := HSw223.out; have := HSw225.out; have := HSw226.out; have := HSw227.out; have := HSw232.out; have := HSw233.out; have := HSw238.out; have h1_ : w226.heap.size ≤ k_ ∧ k_ < w227.heap.size := hk_.1; have h2_ : lo3_w199 ≤ k_ ∧ k_ < hi3_w199 := hs_.1.1.1.1.1.1; omega))); clear HO76; have HO76 := m_; clear m_; have m_ := Aside0.mk (show Kd.S (Kd.slice 3 (Kd.int .i64)) 73 w239 w.heap.size (fun k_ => (w226.heap.size ≤ k_ ∧ k_ < w227.heap.size) ∧ ¬ Pw227 k_) (.slice A79 r78.length c80) r78 from Kd.Ei HO81.out hk (fun k_ hk_ hs_ => by rcases hs_ with hs_ | hs_ <;> first | (have := HSw139.out; have := HSw141.out; have := HSw143.out; have := HSw144.out; have := HSw145.out; have := HSw187.out; have := HSw189.out; have := HSw194.out; have := HSw196.out; have := HSw198.out; have := HSw199.out; have := HSw223.out; have := HSw225.out; have := HSw226.out; have := HSw227.out; have := HSw232.out; have := HSw233.out; have := HSw238.out; have h1_ : w226.heap.size ≤ k_ ∧ k_ < w227.heap.size := hk_.1; have h2_ : lo3_w199 ≤ k_ ∧ k_ < hi3_w199 := hs_.1.1.1.1.1.1; omega) | (have := HSw139.out; have := HSw141.out; have := HSw143.out; have := HSw144.out; have := HSw145.out; have := HSw187.out; have := HSw189.out; have := HSw194.out; have := HSw196.out; have := HSw198.out; have := HSw199.out; have := HSw223.out; have := HSw225.out; have := HSw226.out; have := HSw227.out; have := HSw232.out; have := HSw233.out; have := HSw238.out; have h1_ : w226.heap.size ≤ k_ ∧ k_ < w227.heap.size := hk_.1; have h2_ : lo3_w199 ≤ k_ ∧ k_ < hi3_w199 := hs_.1.1.1.1.1.1; omega))); clear HO81; have HO81 := m_; clear m_; have m_ := Aside0.mk (Es BK140.out hk (fun hs_ => by rcases hs_ with hs_ | hs_ <;> exact hs_.1.1.1.1.2 rfl)); clear BK140; have BK140 := m_; clear m_; have m_ := Aside0.mk (Es BK142.out hk (fun hs_ => by rcases hs_ with hs_ | hs_ <;> exact hs_.1.1.1.2 rfl)); clear BK142; have BK142 := m_; clear m_; have m_ := Aside0.mk (Es BK188.out hk (fun hs_ => by rcases hs_ with hs_ | hs_ <;> exact hs_.1.1.2 rfl)); clear BK188; have BK188 := m_; clear m_; have m_ := Aside0.mk (Es BK197.out hk (fun hs_ => by rcases hs_ with hs_ | hs_ <;> exact hs_.1.2 rfl)); clear BK197; have BK197 := m_; clear m_; have m_ := Aside0.mk (Es BK224.out hk (fun hs_ => by rcases hs_ with hs_ | hs_ <;> exact hs_.2 rfl)); clear BK224; have BK224 := m_; clear m_; clear HB; have HB := Aside0.mk hb; have HSw239 := Aside0.mk hk.1; clear HO59; have HO242 := Aside0.mk ho240; clear ho240; clear HO64; have HO243 := Aside0.mk ho241; clear ho241; (try clear hb hk); have hzgb2_0 : w239.cell? ⟨gb2, 0, none⟩ = some (.slice A0_0 l0_0.length c0_0) := (blk_cell BK140.out 0).trans rfl; have hzgb2_1 : w239.cell? ⟨gb2, 1, none⟩ = some (.int .i64 a0_1) := (blk_cell BK140.out 1).trans rfl; have hzgb2_2 : w239.cell? ⟨gb2, 2, none⟩ = some (.slice A0_2 l0_2.length c0_2) := (blk_cell BK140.out 2).trans rfl; have hzgb4_0 : w239.cell? ⟨gb4, 0, none⟩ = some (.int .i64 a1_0) := (blk_cell BK142.out 0).trans rfl; have hzgb4_1 : w239.cell? ⟨gb4, 1, none⟩ = some (.int .i64 a1_1) := (blk_cell BK142.out 1).trans rfl; have hzgb4_2 : w239.cell? ⟨gb4, 2, none⟩ = some (.int .i64 a1_2) := (blk_cell BK142.out 2).trans rfl; have hzgb37_0 : w239.cell? ⟨gb37, 0, none⟩ = some (.slice A25 r24.length c26) := (blk_cell BK188.out 0).trans rfl; have hzgb37_1 : w239.cell? ⟨gb37, 1, none⟩ = some (.int .i64 r28) := (blk_cell BK188.out 1).trans rfl; have hzgb37_2 : w239.cell? ⟨gb37, 2, none⟩ = some (.slice A30 r29.length c31) := (blk_cell BK188.out 2).trans rfl; have hzgb50_0 : w239.cell? ⟨gb50, 0, none⟩ = some (.slice A39 r38.length c40) := (blk_cell BK197.out 0).trans rfl; have hzgb50_1 : w239.cell? ⟨gb50, 1, none⟩ = some (.int .i64 r42) := (blk_cell BK197.out 1).trans rfl; have hzgb50_2 : w239.cell? ⟨gb50, 2, none⟩ = some (.slice A44 r43.length c45) := (blk_cell BK197.out 2).trans rfl; have hzgb69_0 : w239.cell? ⟨gb69, 0, none⟩ = some (.slice A57 r56.length c58) := (blk_cell BK224.out 0).trans rfl; have hzgb69_1 : w239.cell? ⟨gb69, 1, none⟩ = some (.int .i64 r60) := (blk_cell BK224.out 1).trans rfl; have hzgb69_2 : w239.cell? ⟨gb69, 2, none⟩ = some (.slice A62 r61.length c63) := (blk_cell BK224.out 2).trans rfl) | ((with_reducible refine gate_callee (f := 24) rfl ?_); (try (refine gate_guard (by rfl) ?_; dsimp only)); refine goesL_ (some 73) rfl rfl Try.func24 Yj_ rfl #[.agg #[.slice A57 r56.length c58, .int .i64 r60, .slice A62 r61.length c63], .int .i64 1] rfl Yd_ ?_; have hcall_ := Ci.calls k _ _ r96 r60 _ _ r97 1 r136 w239 (Kd.Ac HO242.out).2.2 (Nat.le_trans (Nat.le_of_eq (Kd.Ac HO242.out).1.symm) (Kd.Ac HO242.out).2.1) (Kd.Ac HO243.out).2.2 (Nat.le_trans (Nat.le_of_eq (Kd.Ac HO243.out).1.symm) (Kd.Ac HO243.out).2.1) A102.out; rw [← (show r56.length = r96.length from (Kd.Ac HO242.out).1)] at hcall_; rw [← (show r61.length = r97.length from (Kd.Ac HO243.out).1)] at hcall_; refine hcall_.mono ?_; (try clear hcall_); rintro e w244 ⟨rfl, hb⟩; (try clear hzgb2_0 hzgb2_1 hzgb2_2); (try clear hzgb4_0 hzgb4_1 hzgb4_2); (try clear hzgb37_0 hzgb37_1 hzgb37_2); (try clear hzgb50_0 hzgb50_1 hzgb50_2); (try clear hzgb69_0 hzgb69_1 hzgb69_2); refine ⟨_, rfl, ?_⟩; have m_ := Aside0.mk (Kd.Aa HO11.out hb); clear HO11; have HO11 := m_; clear m_; have m_ := Aside0.mk (Kd.Aa HO16.out hb); clear HO16; have HO16 := m_; clear m_; have m_ := Aside0.mk (Kd.Aa HO27.out hb); clear HO27; have HO27 := m_; clear m_; have m_ := Aside0.mk (Kd.Aa HO32.out hb); clear HO32; have HO32 := m_; clear m_; have m_ := Aside0.mk (Kd.Aa HO76.out hb); clear HO76; have HO76 := m_; clear m_; have m_ := Aside0.mk (Kd.Aa HO81.out hb); clear HO81; have HO81 := m_; clear m_; have m_ := Aside0.mk (Kd.Aa HO242.out hb); clear HO242; have HO242 := m_; clear m_; have m_ := Aside0.mk (Kd.Aa HO243.out hb); clear HO243; have HO243 := m_; clear m_; have m_ := Aside0.mk (blk_below BK140.out hb); clear BK140; have BK140 := m_; clear m_; have m_ := Aside0.mk (blk_below BK142.out hb); clear BK142; have BK142 := m_; clear m_; have m_ := Aside0.mk (blk_below BK188.out hb); clear BK188; have BK188 := m_; clear m_; have m_ := Aside0.mk (blk_below BK197.out hb); clear BK197; have BK197 := m_; clear m_; have m_ := Aside0.mk (blk_below BK224.out hb); clear BK224; have BK224 := m_; clear m_; have HSw244 := Aside0.mk (show w239.heap.size ≤ w244.heap.size from hb.size); have m_ := Aside0.mk (below_step HB.out hb); clear HB; have HB := m_; clear m_; clear hb; have hzgb2_0 : w244.cell? ⟨gb2, 0, none⟩ = some (.slice A0_0 l0_0.length c0_0) := (blk_cell BK140.out 0).trans rfl; have hzgb2_1 : w244.cell? ⟨gb2, 1, none⟩ = some (.int .i64 a0_1) := (blk_cell BK140.out 1).trans rfl; have hzgb2_2 : w244.cell? ⟨gb2, 2, none⟩ = some (.slice A0_2 l0_2.length c0_2) := (blk_cell BK140.out 2).trans rfl; have hzgb4_0 : w244.cell? ⟨gb4, 0, none⟩ = some (.int .i64 a1_0) := (blk_cell BK142.out 0).trans rfl; have hzgb4_1 : w244.cell? ⟨gb4, 1, none⟩ = some (.int .i64 a1_1) := (blk_cell BK142.out 1).trans rfl; have hzgb4_2 : w244.cell? ⟨gb4, 2, none⟩ = some (.int .i64 a1_2) := (blk_cell BK142.out 2).trans rfl; have hzgb37_0 : w244.cell? ⟨gb37, 0, none⟩ = some (.slice A25 r24.length c26) := (blk_cell BK188.out 0).trans rfl; have hzgb37_1 : w244.cell? ⟨gb37, 1, none⟩ = some (.int .i64 r28) := (blk_cell BK188.out 1).trans rfl; have hzgb37_2 : w244.cell? ⟨gb37, 2, none⟩ = some (.slice A30 r29.length c31) := (blk_cell BK188.out 2).trans rfl; have hzgb50_0 : w244.cell? ⟨gb50, 0, none⟩ = some (.slice A39 r38.length c40) := (blk_cell BK197.out 0).trans rfl; have hzgb50_1 : w244.cell? ⟨gb50, 1, none⟩ = some (.int .i64 r42) := (blk_cell BK197.out 1).trans rfl; have hzgb50_2 : w244.cell? ⟨gb50, 2, none⟩ = some (.slice A44 r43.length c45) := (blk_cell BK197.out 2).trans rfl; have hzgb69_0 : w244.cell? ⟨gb69, 0, none⟩ = some (.slice A57 r56.length c58) := (blk_cell BK224.out 0).trans rfl; have hzgb69_1 : w244.cell? ⟨gb69, 1, none⟩ = some (.int .i64 r60) := (blk_cell BK224.out 1).trans rfl; have hzgb69_2 : w244.cell? ⟨gb69, 2, none⟩ = some (.slice A62 r61.length c63) := (blk_cell BK224.out 2).trans rfl))
  (try clear hzgb2_0 hzgb2_1 hzgb2_2 hzgb37_0 hzgb37_1 hzgb37_2 hzgb4_0 hzgb4_1 hzgb4_2 hzgb50_0 hzgb50_1 hzgb50_2 hzgb69_0 hzgb69_1 hzgb69_2)
  have m_ := Aside0.mk (Kd.S_drew HO11.out)
  clear HO11
  have HO11 := m_
  clear m_
  have m_ := Aside0.mk (Kd.S_drew HO16.out)
  clear HO16
  have HO16 := m_
  clear m_
  have m_ := Aside0.mk (Kd.S_drew HO27.out)
  clear HO27
  have HO27 := m_
  clear m_
  have m_ := Aside0.mk (Kd.S_drew HO32.out)
  clear HO32
  have HO32 := m_
  clear m_
  have m_ := Aside0.mk (Kd.S_drew HO76.out)
  clear HO76
  have HO76 := m_
  clear m_
  have m_ := Aside0.mk (Kd.S_drew HO81.out)
  clear HO81
  have HO81 := m_
  clear m_
  have m_ := Aside0.mk (Kd.S_drew HO242.out)
  clear HO242
  have HO242 := m_
  clear m_
  have m_ := Aside0.mk (Kd.S_drew HO243.out)
  clear HO243
  have HO243 := m_
  clear m_
  have m_ := Aside0.mk (blk_drew BK140.out)
  clear BK140
  have BK140 := m_
  clear m_
  have m_ := Aside0.mk (blk_drew BK142.out)
  clear BK142
  have BK142 := m_
  clear m_
  have m_ := Aside0.mk (blk_drew BK188.out)
  clear BK188
  have BK188 := m_
  clear m_
  have m_ := Aside0.mk (blk_drew BK197.out)
  clear BK197
  have BK197 := m_
  clear m_
  have m_ := Aside0.mk (blk_drew BK224.out)
  clear BK224
  have BK224 := m_
  clear m_
  have m_ := Aside0.mk (below_drew1 HB.out)
  clear HB
  have HB := m_
  clear m_
  have HSw245 := Aside0.mk (show w244.heap.size ≤ w244.drew.heap.size from Nat.le_refl _)
  refine start_ (n := 11) (S := fun w' => w'.cell? ⟨gb2, 0, none⟩ = some (.slice A0_0 l0_0.length c0_0) ∧ w'.cell? ⟨gb2, 1, none⟩ = some (.int .i64 a0_1) ∧ w'.cell? ⟨gb2, 2, none⟩ = some (.slice A0_2 l0_2.length c0_2) ∧ w'.cell? ⟨gb4, 0, none⟩ = some (.int .i64 a1_0) ∧ w'.cell? ⟨gb4, 1, none⟩ = some (.int .i64 a1_1) ∧ w'.cell? ⟨gb4, 2, none⟩ = some (.int .i64 a1_2)) (ds := []) #[false, false, false, false, false, false, false, false, false, false, false] Yj_ rfl rfl ⟨(blk_cell BK140.out 0).trans rfl, (blk_cell BK140.out 1).trans rfl, (blk_cell BK140.out 2).trans rfl, (blk_cell BK142.out 0).trans rfl, (blk_cell BK142.out 1).trans rfl, (blk_cell BK142.out 2).trans rfl⟩ (fun hHeld => ?_)
  generalize w244.drew = w245 at HO11 HO16 HO27 HO32 HO76 HO81 HO242 HO243 BK140 BK142 BK188 BK197 BK224 HB HSw245 hHeld ⊢
  refine take_ (i := 0) (N := some 80) #[true, false, false, false, false, false, false, false, false, false, false] rfl rfl Yj_ (fun _ _ _ h => h) (Or.inl ⟨by rfl, Ycc_⟩) hHeld Ya_ ?_
  refine take_ (i := 2) (N := some 82) #[true, false, true, false, false, false, false, false, false, false, false] rfl rfl Yj_ (fun _ _ _ h => h) (Or.inl ⟨by rfl, Ycc_⟩) hHeld Ya_ ?_
  refine join_ (σ := (Nat) × (Nat) × (Nat) × (Nat) × (Option Addr) × (Nat) × (Option Addr) × (Nat) × (Option Addr) × (Nat) × (Option Addr) × (Nat) × (Nat → Prop) × (Nat → Prop) × (Nat)) 2 #[true, true, true, true, true, true, true, true, true, false, false] (fun s => match s with | ⟨lo1_w246, hi1_w246, lo4_w246, hi4_w246, A104, c105, A109, c110, A120, c121, A125, c126, PJ1_w246, PJ4_w246, gb132⟩ => [(81, .agg #[.slice A104 r103.length c105, .int .i64 r107, .slice A109 r108.length c110]), (83, .agg #[.int .i64 r114, .int .i64 r115, .int .i64 r116]), (84, .tuple #[.agg #[.slice A120 r119.length c121, .int .i64 r123, .slice A125 r124.length c126], .bool r128]), (79, .tuple #[.agg #[.slice A120 r119.length c121, .int .i64 r123, .slice A125 r124.length c126], .bool r128]), (85, .agg #[.slice A120 r119.length c121, .int .i64 r123, .slice A125 r124.length c126]), (86, .bool r128), (14, .pointer (some ⟨gb132, 0, none⟩))]) (fun s w' => match s with | ⟨lo1_w246, hi1_w246, lo4_w246, hi4_w246, A104, c105, A109, c110, A120, c121, A125, c126, PJ1_w246, PJ4_w246, gb132⟩ => Aside0 (Below w.heap.size w w') ∧ Aside0 (Kd.S (Kd.slice 3 (Kd.int .i64)) 73 w' w.heap.size (fun k_ => (lo1_w145 ≤ k_ ∧ k_ < hi1_w145) ∧ PJ1_w145 k_) (.slice A9 r8.length c10) r8) ∧ Aside0 (Kd.S (Kd.slice 3 (Kd.int .i64)) 73 w' w.heap.size (fun k_ => (lo1_w145 ≤ k_ ∧ k_ < hi1_w145) ∧ ¬ PJ1_w145 k_) (.slice A14 r13.length c15) r13) ∧ Aside0 (Kd.S (Kd.slice 3 (Kd.int .i64)) 73 w' w.heap.size (fun k_ => (lo4_w145 ≤ k_ ∧ k_ < hi4_w145) ∧ True) (.slice A25 r24.length c26) r24) ∧ Aside0 (Kd.S (Kd.slice 3 (Kd.int .i64)) 73 w' w.heap.size (fun k_ => (lo4_w145 ≤ k_ ∧ k_ < hi4_w145) ∧ True) (.slice A30 r29.length c31) r29) ∧ Aside0 (Kd.S (Kd.slice 3 (Kd.int .i64)) 73 w' w.heap.size (fun k_ => (w226.heap.size ≤ k_ ∧ k_ < w227.heap.size) ∧ Pw227 k_) (.slice A74 r73.length c75) r73) ∧ Aside0 (Kd.S (Kd.slice 3 (Kd.int .i64)) 73 w' w.heap.size (fun k_ => (w226.heap.size ≤ k_ ∧ k_ < w227.heap.size) ∧ ¬ Pw227 k_) (.slice A79 r78.length c80) r78) ∧ Aside0 (Kd.S (Kd.slice 3 (Kd.int .i64)) 73 w' w.heap.size (fun k_ => (lo1_w246 ≤ k_ ∧ k_ < hi1_w246) ∧ PJ1_w246 k_) (.slice A104 r103.length c105) r103) ∧ Aside0 (Kd.S (Kd.slice 3 (Kd.int .i64)) 73 w' w.heap.size (fun k_ => (lo1_w246 ≤ k_ ∧ k_ < hi1_w246) ∧ ¬ PJ1_w246 k_) (.slice A109 r108.length c110) r108) ∧ Aside0 (Kd.S (Kd.slice 3 (Kd.int .i64)) 73 w' w.heap.size (fun k_ => (lo4_w246 ≤ k_ ∧ k_ < hi4_w246) ∧ PJ4_w246 k_) (.slice A120 r119.length c121) r119) ∧ Aside0 (Kd.S (Kd.slice 3 (Kd.int .i64)) 73 w' w.heap.size (fun k_ => (lo4_w246 ≤ k_ ∧ k_ < hi4_w246) ∧ ¬ PJ4_w246 k_) (.slice A125 r124.length c126) r124) ∧ Aside0 (Kd.S (Kd.slice 3 (Kd.int .i64)) 73 w' w.heap.size (fun k_ => ((((((lo3_w199 ≤ k_ ∧ k_ < hi3_w199) ∧ PJ3_w199 k_) ∧ k_ ≠ gb2) ∧ k_ ≠ gb4) ∧ k_ ≠ gb37) ∧ k_ ≠ gb50) ∧ k_ ≠ gb69) (.slice A57 r56.length c58) r96) ∧ Aside0 (Kd.S (Kd.slice 3 (Kd.int .i64)) 73 w' w.heap.size (fun k_ => ((((((lo3_w199 ≤ k_ ∧ k_ < hi3_w199) ∧ ¬ PJ3_w199 k_) ∧ k_ ≠ gb2) ∧ k_ ≠ gb4) ∧ k_ ≠ gb37) ∧ k_ ≠ gb50) ∧ k_ ≠ gb69) (.slice A62 r61.length c63) r97) ∧ Aside0 (w'.heap[gb2]? = some (.cells #[.slice A0_0 l0_0.length c0_0, .int .i64 a0_1, .slice A0_2 l0_2.length c0_2] 28 (0, 0))) ∧ Aside0 (w'.heap[gb4]? = some (.cells #[.int .i64 a1_0, .int .i64 a1_1, .int .i64 a1_2] 42 (0, 0))) ∧ Aside0 (w'.heap[gb37]? = some (.cells #[.slice A25 r24.length c26, .int .i64 r28, .slice A30 r29.length c31] 34 (0, 0))) ∧ Aside0 (w'.heap[gb50]? = some (.cells #[.slice A39 r38.length c40, .int .i64 r42, .slice A44 r43.length c45] 34 (0, 0))) ∧ Aside0 (w'.heap[gb69]? = some (.cells #[.slice A57 r56.length c58, .int .i64 r60, .slice A62 r61.length c63] 34 (0, 0))) ∧ Aside0 (w'.heap[gb132]? = some (.cells #[.slice none 0 0, .int .i64 0, .slice none 0 0] 34 (0, 0))) ∧ Aside0 (w.heap.size ≤ gb132) ∧ Aside0 (gb2 ≠ gb132) ∧ Aside0 (gb4 ≠ gb132) ∧ Aside0 (gb37 ≠ gb132) ∧ Aside0 (gb50 ≠ gb132) ∧ Aside0 (gb69 ≠ gb132) ∧ Aside0 (w245.heap.size ≤ lo1_w246 ∧ lo1_w246 ≤ hi1_w246 ∧ hi1_w246 ≤ lo4_w246 ∧ lo4_w246 ≤ hi4_w246 ∧ hi4_w246 ≤ w'.heap.size ∧ w245.heap.size ≤ w'.heap.size)) ?_ ?_
  rotate_left
  ·intro hCont
   refine two_ (i := 1) (j := 8) (Ni := some 81) (Nj := some 14) #[true, true, true, false, false, false, false, false, false, false, false] #[true, false, true, false, false, false, false, false, true, false, false] rfl rfl rfl rfl Yj_ (by decide) (by decide) (fun K hK => ?_) (fun K hK => ?_)
   ·skip
    refine goes_ Try.func12 Yj_ rfl #[.agg #[.slice A0_0 l0_0.length c0_0, .int .i64 a0_1, .slice A0_2 l0_2.length c0_2]] (by rfl) rfl rfl Yd_ ?_
    (with_reducible refine (Bi.calls2 k _ _ l0_0 a0_1 _ _ l0_2 r103 r107 r108 w245 (Kd.C_below HR0_0.out Yb_) HC0_0.out (Kd.C_below HR0_2.out Yb_) HC0_2.out A113.out).mono ?_)
    rintro e w247 ⟨Pw247, v250, v251, rfl, ho248, ho249, hb⟩
    refine ⟨_, rfl, ?_⟩
    have m_ := Aside0.mk (Kd.Aa HO11.out hb)
    clear HO11
    have HO11 := m_
    clear m_
    have m_ := Aside0.mk (Kd.Aa HO16.out hb)
    clear HO16
    have HO16 := m_
    clear m_
    have m_ := Aside0.mk (Kd.Aa HO27.out hb)
    clear HO27
    have HO27 := m_
    clear m_
    have m_ := Aside0.mk (Kd.Aa HO32.out hb)
    clear HO32
    have HO32 := m_
    clear m_
    have m_ := Aside0.mk (Kd.Aa HO76.out hb)
    clear HO76
    have HO76 := m_
    clear m_
    have m_ := Aside0.mk (Kd.Aa HO81.out hb)
    clear HO81
    have HO81 := m_
    clear m_
    have m_ := Aside0.mk (Kd.Aa HO242.out hb)
    clear HO242
    have HO242 := m_
    clear m_
    have m_ := Aside0.mk (Kd.Aa HO243.out hb)
    clear HO243
    have HO243 := m_
    clear m_
    have m_ := Aside0.mk (blk_below BK140.out hb)
    clear BK140
    have BK140 := m_
    clear m_
    have m_ := Aside0.mk (blk_below BK142.out hb)
    clear BK142
    have BK142 := m_
    clear m_
    have m_ := Aside0.mk (blk_below BK188.out hb)
    clear BK188
    have BK188 := m_
    clear m_
    have m_ := Aside0.mk (blk_below BK197.out hb)
    clear BK197
    have BK197 := m_
    clear m_
    have m_ := Aside0.mk (blk_below BK224.out hb)
    clear BK224
    have BK224 := m_
    clear m_
    have HSw247 := Aside0.mk (show w245.heap.size ≤ w247.heap.size from hb.size)
    have m_ := (show Kd.S (Kd.slice 3 (Kd.int .i64)) 73 w247 w.heap.size (fun k_ => (w245.heap.size ≤ k_ ∧ k_ < w247.heap.size) ∧ Pw247 k_) v250 r103 from Kd.S_mono (Kd.S_lower (Kd.Bl ho248) (below_size Yb_)) (fun k_ hk_ => ⟨⟨hk_.2.1, hk_.2.2.1⟩, hk_.1⟩))
    obtain ⟨A104, c105, e_⟩ := Kd.S_slice m_
    subst e_
    have HO106 := Aside0.mk m_
    clear m_ ho248
    have m_ := (show Kd.S (Kd.slice 3 (Kd.int .i64)) 73 w247 w.heap.size (fun k_ => (w245.heap.size ≤ k_ ∧ k_ < w247.heap.size) ∧ ¬ Pw247 k_) v251 r108 from Kd.S_mono (Kd.S_lower (Kd.Bl ho249) (below_size Yb_)) (fun k_ hk_ => ⟨⟨hk_.2.1, hk_.2.2.1⟩, hk_.1⟩))
    obtain ⟨A109, c110, e_⟩ := Kd.S_slice m_
    subst e_
    have HO111 := Aside0.mk m_
    clear m_ ho249
    have m_ := Aside0.mk (below_step HB.out hb)
    clear HB
    have HB := m_
    clear m_
    clear hb
    refine hK.out _ _ ⟨(blk_cell BK140.out 0).trans rfl, (blk_cell BK140.out 1).trans rfl, (blk_cell BK140.out 2).trans rfl, (blk_cell BK142.out 0).trans rfl, (blk_cell BK142.out 1).trans rfl, (blk_cell BK142.out 2).trans rfl⟩ (fun hHeld => ?_)
    clear hK K
    refine norm_ (show Act.put _ (some 81) _ = _ from Ya_) ?_
    refine two_ (i := 3) (j := 8) (Ni := some 83) (Nj := some 14) #[true, true, true, true, false, false, false, false, false, false, false] #[true, true, true, false, false, false, false, false, true, false, false] rfl rfl rfl rfl Yj_ (by decide) (by decide) (fun K hK => ?_) (fun K hK => ?_)
    ·skip
     refine goes_ Try.func18 Yj_ rfl #[.agg #[.int .i64 a1_0, .int .i64 a1_1, .int .i64 a1_2]] (by rfl) rfl rfl Yd_ ?_
     (with_reducible refine (laws_toOrder.calls a1_0 a1_1 a1_2 r114 r115 r116 w247  A118.out).mono ?_)
     rintro e w252 ⟨rfl, hb⟩
     refine ⟨_, rfl, ?_⟩
     have m_ := Aside0.mk (Kd.Aa HO11.out hb)
     clear HO11
     have HO11 := m_
     clear m_
     have m_ := Aside0.mk (Kd.Aa HO16.out hb)
     clear HO16
     have HO16 := m_
     clear m_
     have m_ := Aside0.mk (Kd.Aa HO27.out hb)
     clear HO27
     have HO27 := m_
     clear m_
     have m_ := Aside0.mk (Kd.Aa HO32.out hb)
     clear HO32
     have HO32 := m_
     clear m_
     have m_ := Aside0.mk (Kd.Aa HO76.out hb)
     clear HO76
     have HO76 := m_
     clear m_
     have m_ := Aside0.mk (Kd.Aa HO81.out hb)
     clear HO81
     have HO81 := m_
     clear m_
     have m_ := Aside0.mk (Kd.Aa HO106.out hb)
     clear HO106
     have HO106 := m_
     clear m_
     have m_ := Aside0.mk (Kd.Aa HO111.out hb)
     clear HO111
     have HO111 := m_
     clear m_
     have m_ := Aside0.mk (Kd.Aa HO242.out hb)
     clear HO242
     have HO242 := m_
     clear m_
     have m_ := Aside0.mk (Kd.Aa HO243.out hb)
     clear HO243
     have HO243 := m_
     clear m_
     have m_ := Aside0.mk (blk_below BK140.out hb)
     clear BK140
     have BK140 := m_
     clear m_
     have m_ := Aside0.mk (blk_below BK142.out hb)
     clear BK142
     have BK142 := m_
     clear m_
     have m_ := Aside0.mk (blk_below BK188.out hb)
     clear BK188
     have BK188 := m_
     clear m_
     have m_ := Aside0.mk (blk_below BK197.out hb)
     clear BK197
     have BK197 := m_
     clear m_
     have m_ := Aside0.mk (blk_below BK224.out hb)
     clear BK224
     have BK224 := m_
     clear m_
     have HSw252 := Aside0.mk (show w247.heap.size ≤ w252.heap.size from hb.size)
     have m_ := Aside0.mk (below_step HB.out hb)
     clear HB
     have HB := m_
     clear m_
     clear hb
     refine hK.out _ _ ⟨(blk_cell BK140.out 0).trans rfl, (blk_cell BK140.out 1).trans rfl, (blk_cell BK140.out 2).trans rfl, (blk_cell BK142.out 0).trans rfl, (blk_cell BK142.out 1).trans rfl, (blk_cell BK142.out 2).trans rfl⟩ (fun hHeld => ?_)
     clear hK K
     refine norm_ (show Act.put _ (some 83) _ = _ from Ya_) ?_
     refine two_ (i := 4) (j := 8) (Ni := some 84) (Nj := some 14) #[true, true, true, true, true, false, false, false, false, false, false] #[true, true, true, true, false, false, false, false, true, false, false] rfl rfl rfl rfl Yj_ (by decide) (by decide) (fun K hK => ?_) (fun K hK => ?_)
     ·skip
      refine goes_ Try.func22 Yj_ rfl #[.agg #[.slice A104 r103.length c105, .int .i64 r107, .slice A109 r108.length c110], .agg #[.int .i64 r114, .int .i64 r115, .int .i64 r116]] (by rfl) rfl rfl Yd_ ?_
      (with_reducible refine (Bq.calls2 k _ _ r103 r107 _ _ r108 r114 r115 r116 r119 r123 r124 r128 w252 (Kd.Ac HO106.out).2.2 (Nat.le_trans (Nat.le_of_eq (Kd.Ac HO106.out).1.symm) (Kd.Ac HO106.out).2.1) (Kd.Ac HO111.out).2.2 (Nat.le_trans (Nat.le_of_eq (Kd.Ac HO111.out).1.symm) (Kd.Ac HO111.out).2.1) A130.out).mono ?_)
      rintro e w253 ⟨Pw253, v256, v257, rfl, ho254, ho255, hb⟩
      refine ⟨_, rfl, ?_⟩
      have m_ := Aside0.mk (Kd.Aa HO11.out hb)
      clear HO11
      have HO11 := m_
      clear m_
      have m_ := Aside0.mk (Kd.Aa HO16.out hb)
      clear HO16
      have HO16 := m_
      clear m_
      have m_ := Aside0.mk (Kd.Aa HO27.out hb)
      clear HO27
      have HO27 := m_
      clear m_
      have m_ := Aside0.mk (Kd.Aa HO32.out hb)
      clear HO32
      have HO32 := m_
      clear m_
      have m_ := Aside0.mk (Kd.Aa HO76.out hb)
      clear HO76
      have HO76 := m_
      clear m_
      have m_ := Aside0.mk (Kd.Aa HO81.out hb)
      clear HO81
      have HO81 := m_
      clear m_
      have m_ := Aside0.mk (Kd.Aa HO106.out hb)
      clear HO106
      have HO106 := m_
      clear m_
      have m_ := Aside0.mk (Kd.Aa HO111.out hb)
      clear HO111
      have HO111 := m_
      clear m_
      have m_ := Aside0.mk (Kd.Aa HO242.out hb)
      clear HO242
      have HO242 := m_
      clear m_
      have m_ := Aside0.mk (Kd.Aa HO243.out hb)
      clear HO243
      have HO243 := m_
      clear m_
      have m_ := Aside0.mk (blk_below BK140.out hb)
      clear BK140
      have BK140 := m_
      clear m_
      have m_ := Aside0.mk (blk_below BK142.out hb)
      clear BK142
      have BK142 := m_
      clear m_
      have m_ := Aside0.mk (blk_below BK188.out hb)
      clear BK188
      have BK188 := m_
      clear m_
      have m_ := Aside0.mk (blk_below BK197.out hb)
      clear BK197
      have BK197 := m_
      clear m_
      have m_ := Aside0.mk (blk_below BK224.out hb)
      clear BK224
      have BK224 := m_
      clear m_
      have HSw253 := Aside0.mk (show w252.heap.size ≤ w253.heap.size from hb.size)
      have m_ := (show Kd.S (Kd.slice 3 (Kd.int .i64)) 73 w253 w.heap.size (fun k_ => (w252.heap.size ≤ k_ ∧ k_ < w253.heap.size) ∧ Pw253 k_) v256 r119 from Kd.S_mono (Kd.S_lower (Kd.Bl ho254) (below_size Yb_)) (fun k_ hk_ => ⟨⟨hk_.2.1, hk_.2.2.1⟩, hk_.1⟩))
      obtain ⟨A120, c121, e_⟩ := Kd.S_slice m_
      subst e_
      have HO122 := Aside0.mk m_
      clear m_ ho254
      have m_ := (show Kd.S (Kd.slice 3 (Kd.int .i64)) 73 w253 w.heap.size (fun k_ => (w252.heap.size ≤ k_ ∧ k_ < w253.heap.size) ∧ ¬ Pw253 k_) v257 r124 from Kd.S_mono (Kd.S_lower (Kd.Bl ho255) (below_size Yb_)) (fun k_ hk_ => ⟨⟨hk_.2.1, hk_.2.2.1⟩, hk_.1⟩))
      obtain ⟨A125, c126, e_⟩ := Kd.S_slice m_
      subst e_
      have HO127 := Aside0.mk m_
      clear m_ ho255
      have m_ := Aside0.mk (below_step HB.out hb)
      clear HB
      have HB := m_
      clear m_
      clear hb
      refine hK.out _ _ ⟨(blk_cell BK140.out 0).trans rfl, (blk_cell BK140.out 1).trans rfl, (blk_cell BK140.out 2).trans rfl, (blk_cell BK142.out 0).trans rfl, (blk_cell BK142.out 1).trans rfl, (blk_cell BK142.out 2).trans rfl⟩ (fun hHeld => ?_)
      clear hK K
      refine norm_ (show Act.put _ (some 84) _ = _ from Ya_) ?_
      refine pure_ (i := 5) (N := some 79) #[true, true, true, true, true, true, false, false, false, false, false] rfl rfl Yj_ (fun _ _ _ h => h) (Or.inl ⟨by rfl, Ybb_⟩) Ya_ ?_
      refine pure_ (i := 6) (N := some 85) #[true, true, true, true, true, true, true, false, false, false, false] rfl rfl Yj_ (fun _ _ _ h => h) (Or.inl ⟨by rfl, Ybb_⟩) Ya_ ?_
      refine pure_ (i := 7) (N := some 86) #[true, true, true, true, true, true, true, true, false, false, false] rfl rfl Yj_ (fun _ _ _ h => h) (Or.inl ⟨by rfl, Ybb_⟩) Ya_ ?_
      refine one_ (i := 8) (N := some 14) #[true, true, true, true, true, true, true, true, true, false, false] rfl rfl Yj_ (by decide) (fun K hK => ?_)
      refine Ep (N := 14) (by rfl) rfl (cs := #[.slice none 0 0, .int .i64 0, .slice none 0 0]) (t := 34) ?_ ?_
      ·first | (go_simp; done) | (go_simp; rfl)
      intro gb132 hg w258 hbox hb
      have NBgb2_gb132 := Aside0.mk (show gb2 ≠ gb132 by rw [hg]; exact Nat.ne_of_lt (blk_lt BK140.out))
      have NBgb4_gb132 := Aside0.mk (show gb4 ≠ gb132 by rw [hg]; exact Nat.ne_of_lt (blk_lt BK142.out))
      have NBgb37_gb132 := Aside0.mk (show gb37 ≠ gb132 by rw [hg]; exact Nat.ne_of_lt (blk_lt BK188.out))
      have NBgb50_gb132 := Aside0.mk (show gb50 ≠ gb132 by rw [hg]; exact Nat.ne_of_lt (blk_lt BK197.out))
      have NBgb69_gb132 := Aside0.mk (show gb69 ≠ gb132 by rw [hg]; exact Nat.ne_of_lt (blk_lt BK224.out))
      have GEgb132 := Aside0.mk (show w.heap.size ≤ gb132 by rw [hg]; exact below_size Yb_)
      have BK259 := Aside0.mk hbox
      have m_ := Aside0.mk (Kd.Aa HO11.out hb)
      clear HO11
      have HO11 := m_
      clear m_
      have m_ := Aside0.mk (Kd.Aa HO16.out hb)
      clear HO16
      have HO16 := m_
      clear m_
      have m_ := Aside0.mk (Kd.Aa HO27.out hb)
      clear HO27
      have HO27 := m_
      clear m_
      have m_ := Aside0.mk (Kd.Aa HO32.out hb)
      clear HO32
      have HO32 := m_
      clear m_
      have m_ := Aside0.mk (Kd.Aa HO76.out hb)
      clear HO76
      have HO76 := m_
      clear m_
      have m_ := Aside0.mk (Kd.Aa HO81.out hb)
      clear HO81
      have HO81 := m_
      clear m_
      have m_ := Aside0.mk (Kd.Aa HO106.out hb)
      clear HO106
      have HO106 := m_
      clear m_
      have m_ := Aside0.mk (Kd.Aa HO111.out hb)
      clear HO111
      have HO111 := m_
      clear m_
      have m_ := Aside0.mk (Kd.Aa HO122.out hb)
      clear HO122
      have HO122 := m_
      clear m_
      have m_ := Aside0.mk (Kd.Aa HO127.out hb)
      clear HO127
      have HO127 := m_
      clear m_
      have m_ := Aside0.mk (Kd.Aa HO242.out hb)
      clear HO242
      have HO242 := m_
      clear m_
      have m_ := Aside0.mk (Kd.Aa HO243.out hb)
      clear HO243
      have HO243 := m_
      clear m_
      have m_ := Aside0.mk (blk_below BK140.out hb)
      clear BK140
      have BK140 := m_
      clear m_
      have m_ := Aside0.mk (blk_below BK142.out hb)
      clear BK142
      have BK142 := m_
      clear m_
      have m_ := Aside0.mk (blk_below BK188.out hb)
      clear BK188
      have BK188 := m_
      clear m_
      have m_ := Aside0.mk (blk_below BK197.out hb)
      clear BK197
      have BK197 := m_
      clear m_
      have m_ := Aside0.mk (blk_below BK224.out hb)
      clear BK224
      have BK224 := m_
      clear m_
      have HSw258 := Aside0.mk (show w253.heap.size ≤ w258.heap.size from hb.size)
      have m_ := Aside0.mk (below_step HB.out hb)
      clear HB
      have HB := m_
      clear m_
      clear hb hbox hg
      refine hK.out _ _ ⟨(blk_cell BK140.out 0).trans rfl, (blk_cell BK140.out 1).trans rfl, (blk_cell BK140.out 2).trans rfl, (blk_cell BK142.out 0).trans rfl, (blk_cell BK142.out 1).trans rfl, (blk_cell BK142.out 2).trans rfl⟩ (fun hHeld => ?_)
      clear hK K
      refine norm_ (show Act.put _ (some 14) _ = _ from Ya_) ?_
      exact norm_ Ybe_ (hCont (w245.heap.size, w247.heap.size, w252.heap.size, w253.heap.size, A104, c105, A109, c110, A120, c121, A125, c126, Pw247, Pw253, gb132) _ ⟨HB, HO11, HO16, HO27, HO32, HO76, HO81, HO106, HO111, HO122, HO127, HO242, HO243, BK140, BK142, BK188, BK197, BK224, BK259, GEgb132, NBgb2_gb132, NBgb4_gb132, NBgb37_gb132, NBgb50_gb132, NBgb69_gb132, ⟨by have := HSw139.out; have := HSw141.out; have := HSw143.out; have := HSw144.out; have := HSw145.out; have := HSw187.out; have := HSw189.out; have := HSw194.out; have := HSw196.out; have := HSw198.out; have := HSw199.out; have := HSw223.out; have := HSw225.out; have := HSw226.out; have := HSw227.out; have := HSw232.out; have := HSw233.out; have := HSw238.out; have := HSw239.out; have := HSw244.out; have := HSw245.out; have := HSw247.out; have := HSw252.out; have := HSw253.out; have := HSw258.out; omega⟩⟩)
     ·skip
      refine Ep (N := 14) (by rfl) rfl (cs := #[.slice none 0 0, .int .i64 0, .slice none 0 0]) (t := 34) ?_ ?_
      ·first | (go_simp; done) | (go_simp; rfl)
      intro gb132 hg w260 hbox hb
      have NBgb2_gb132 := Aside0.mk (show gb2 ≠ gb132 by rw [hg]; exact Nat.ne_of_lt (blk_lt BK140.out))
      have NBgb4_gb132 := Aside0.mk (show gb4 ≠ gb132 by rw [hg]; exact Nat.ne_of_lt (blk_lt BK142.out))
      have NBgb37_gb132 := Aside0.mk (show gb37 ≠ gb132 by rw [hg]; exact Nat.ne_of_lt (blk_lt BK188.out))
      have NBgb50_gb132 := Aside0.mk (show gb50 ≠ gb132 by rw [hg]; exact Nat.ne_of_lt (blk_lt BK197.out))
      have NBgb69_gb132 := Aside0.mk (show gb69 ≠ gb132 by rw [hg]; exact Nat.ne_of_lt (blk_lt BK224.out))
      have GEgb132 := Aside0.mk (show w.heap.size ≤ gb132 by rw [hg]; exact below_size Yb_)
      have BK261 := Aside0.mk hbox
      have m_ := Aside0.mk (Kd.Aa HO11.out hb)
      clear HO11
      have HO11 := m_
      clear m_
      have m_ := Aside0.mk (Kd.Aa HO16.out hb)
      clear HO16
      have HO16 := m_
      clear m_
      have m_ := Aside0.mk (Kd.Aa HO27.out hb)
      clear HO27
      have HO27 := m_
      clear m_
      have m_ := Aside0.mk (Kd.Aa HO32.out hb)
      clear HO32
      have HO32 := m_
      clear m_
      have m_ := Aside0.mk (Kd.Aa HO76.out hb)
      clear HO76
      have HO76 := m_
      clear m_
      have m_ := Aside0.mk (Kd.Aa HO81.out hb)
      clear HO81
      have HO81 := m_
      clear m_
      have m_ := Aside0.mk (Kd.Aa HO106.out hb)
      clear HO106
      have HO106 := m_
      clear m_
      have m_ := Aside0.mk (Kd.Aa HO111.out hb)
      clear HO111
      have HO111 := m_
      clear m_
      have m_ := Aside0.mk (Kd.Aa HO242.out hb)
      clear HO242
      have HO242 := m_
      clear m_
      have m_ := Aside0.mk (Kd.Aa HO243.out hb)
      clear HO243
      have HO243 := m_
      clear m_
      have m_ := Aside0.mk (blk_below BK140.out hb)
      clear BK140
      have BK140 := m_
      clear m_
      have m_ := Aside0.mk (blk_below BK142.out hb)
      clear BK142
      have BK142 := m_
      clear m_
      have m_ := Aside0.mk (blk_below BK188.out hb)
      clear BK188
      have BK188 := m_
      clear m_
      have m_ := Aside0.mk (blk_below BK197.out hb)
      clear BK197
      have BK197 := m_
      clear m_
      have m_ := Aside0.mk (blk_below BK224.out hb)
      clear BK224
      have BK224 := m_
      clear m_
      have HSw260 := Aside0.mk (show w252.heap.size ≤ w260.heap.size from hb.size)
      have m_ := Aside0.mk (below_step HB.out hb)
      clear HB
      have HB := m_
      clear m_
      clear hb hbox hg
      refine hK.out _ _ ⟨(blk_cell BK140.out 0).trans rfl, (blk_cell BK140.out 1).trans rfl, (blk_cell BK140.out 2).trans rfl, (blk_cell BK142.out 0).trans rfl, (blk_cell BK142.out 1).trans rfl, (blk_cell BK142.out 2).trans rfl⟩ (fun hHeld => ?_)
      clear hK K
      refine norm_ (show Act.put _ (some 14) _ = _ from Ya_) ?_
      refine one_ (i := 4) (N := some 84) #[true, true, true, true, true, false, false, false, true, false, false] rfl rfl Yj_ (by decide) (fun K hK => ?_)
      refine goes_ Try.func22 Yj_ rfl #[.agg #[.slice A104 r103.length c105, .int .i64 r107, .slice A109 r108.length c110], .agg #[.int .i64 r114, .int .i64 r115, .int .i64 r116]] (by rfl) rfl rfl Yd_ ?_
      (with_reducible refine (Bq.calls2 k _ _ r103 r107 _ _ r108 r114 r115 r116 r119 r123 r124 r128 w260 (Kd.Ac HO106.out).2.2 (Nat.le_trans (Nat.le_of_eq (Kd.Ac HO106.out).1.symm) (Kd.Ac HO106.out).2.1) (Kd.Ac HO111.out).2.2 (Nat.le_trans (Nat.le_of_eq (Kd.Ac HO111.out).1.symm) (Kd.Ac HO111.out).2.1) A130.out).mono ?_)
      rintro e w262 ⟨Pw262, v265, v266, rfl, ho263, ho264, hb⟩
      refine ⟨_, rfl, ?_⟩
      have m_ := Aside0.mk (Kd.Aa HO11.out hb)
      clear HO11
      have HO11 := m_
      clear m_
      have m_ := Aside0.mk (Kd.Aa HO16.out hb)
      clear HO16
      have HO16 := m_
      clear m_
      have m_ := Aside0.mk (Kd.Aa HO27.out hb)
      clear HO27
      have HO27 := m_
      clear m_
      have m_ := Aside0.mk (Kd.Aa HO32.out hb)
      clear HO32
      have HO32 := m_
      clear m_
      have m_ := Aside0.mk (Kd.Aa HO76.out hb)
      clear HO76
      have HO76 := m_
      clear m_
      have m_ := Aside0.mk (Kd.Aa HO81.out hb)
      clear HO81
      have HO81 := m_
      clear m_
      have m_ := Aside0.mk (Kd.Aa HO106.out hb)
      clear HO106
      have HO106 := m_
      clear m_
      have m_ := Aside0.mk (Kd.Aa HO111.out hb)
      clear HO111
      have HO111 := m_
      clear m_
      have m_ := Aside0.mk (Kd.Aa HO242.out hb)
      clear HO242
      have HO242 := m_
      clear m_
      have m_ := Aside0.mk (Kd.Aa HO243.out hb)
      clear HO243
      have HO243 := m_
      clear m_
      have m_ := Aside0.mk (blk_below BK140.out hb)
      clear BK140
      have BK140 := m_
      clear m_
      have m_ := Aside0.mk (blk_below BK142.out hb)
      clear BK142
      have BK142 := m_
      clear m_
      have m_ := Aside0.mk (blk_below BK188.out hb)
      clear BK188
      have BK188 := m_
      clear m_
      have m_ := Aside0.mk (blk_below BK197.out hb)
      clear BK197
      have BK197 := m_
      clear m_
      have m_ := Aside0.mk (blk_below BK224.out hb)
      clear BK224
      have BK224 := m_
      clear m_
      have m_ := Aside0.mk (blk_below BK261.out hb)
      clear BK261
      have BK261 := m_
      clear m_
      have HSw262 := Aside0.mk (show w260.heap.size ≤ w262.heap.size from hb.size)
      have m_ := (show Kd.S (Kd.slice 3 (Kd.int .i64)) 73 w262 w.heap.size (fun k_ => (w260.heap.size ≤ k_ ∧ k_ < w262.heap.size) ∧ Pw262 k_) v265 r119 from Kd.S_mono (Kd.S_lower (Kd.Bl ho263) (below_size Yb_)) (fun k_ hk_ => ⟨⟨hk_.2.1, hk_.2.2.1⟩, hk_.1⟩))
      obtain ⟨A120, c121, e_⟩ := Kd.S_slice m_
      subst e_
      have HO122 := Aside0.mk m_
      clear m_ ho263
      have m_ := (show Kd.S (Kd.slice 3 (Kd.int .i64)) 73 w262 w.heap.size (fun k_ => (w260.heap.size ≤ k_ ∧ k_ < w262.heap.size) ∧ ¬ Pw262 k_) v266 r124 from Kd.S_mono (Kd.S_lower (Kd.Bl ho264) (below_size Yb_)) (fun k_ hk_ => ⟨⟨hk_.2.1, hk_.2.2.1⟩, hk_.1⟩))
      obtain ⟨A125, c126, e_⟩ := Kd.S_slice m_
      subst e_
      have HO127 := Aside0.mk m_
      clear m_ ho264
      have m_ := Aside0.mk (below_step HB.out hb)
      clear HB
      have HB := m_
      clear m_
      clear hb
      refine hK.out _ _ ⟨(blk_cell BK140.out 0).trans rfl, (blk_cell BK140.out 1).trans rfl, (blk_cell BK140.out 2).trans rfl, (blk_cell BK142.out 0).trans rfl, (blk_cell BK142.out 1).trans rfl, (blk_cell BK142.out 2).trans rfl⟩ (fun hHeld => ?_)
      clear hK K
      refine norm_ (show Act.put _ (some 84) _ = _ from Ya_) ?_
      refine pure_ (i := 5) (N := some 79) #[true, true, true, true, true, true, false, false, true, false, false] rfl rfl Yj_ (fun _ _ _ h => h) (Or.inl ⟨by rfl, Ybb_⟩) Ya_ ?_
      refine pure_ (i := 6) (N := some 85) #[true, true, true, true, true, true, true, false, true, false, false] rfl rfl Yj_ (fun _ _ _ h => h) (Or.inl ⟨by rfl, Ybb_⟩) Ya_ ?_
      refine pure_ (i := 7) (N := some 86) #[true, true, true, true, true, true, true, true, true, false, false] rfl rfl Yj_ (fun _ _ _ h => h) (Or.inl ⟨by rfl, Ybb_⟩) Ya_ ?_
      exact norm_ Ybe_ (hCont (w245.heap.size, w247.heap.size, w260.heap.size, w262.heap.size, A104, c105, A109, c110, A120, c121, A125, c126, Pw247, Pw262, gb132) _ ⟨HB, HO11, HO16, HO27, HO32, HO76, HO81, HO106, HO111, HO122, HO127, HO242, HO243, BK140, BK142, BK188, BK197, BK224, BK261, GEgb132, NBgb2_gb132, NBgb4_gb132, NBgb37_gb132, NBgb50_gb132, NBgb69_gb132, ⟨by have := HSw139.out; have := HSw141.out; have := HSw143.out; have := HSw144.out; have := HSw145.out; have := HSw187.out; have := HSw189.out; have := HSw194.out; have := HSw196.out; have := HSw198.out; have := HSw199.out; have := HSw223.out; have := HSw225.out; have := HSw226.out; have := HSw227.out; have := HSw232.out; have := HSw233.out; have := HSw238.out; have := HSw239.out; have := HSw244.out; have := HSw245.out; have := HSw247.out; have := HSw252.out; have := HSw260.out; have := HSw262.out; omega⟩⟩)
    ·skip
     refine Ep (N := 14) (by rfl) rfl (cs := #[.slice none 0 0, .int .i64 0, .slice none 0 0]) (t := 34) ?_ ?_
     ·first | (go_simp; done) | (go_simp; rfl)
     intro gb132 hg w267 hbox hb
     have NBgb2_gb132 := Aside0.mk (show gb2 ≠ gb132 by rw [hg]; exact Nat.ne_of_lt (blk_lt BK140.out))
     have NBgb4_gb132 := Aside0.mk (show gb4 ≠ gb132 by rw [hg]; exact Nat.ne_of_lt (blk_lt BK142.out))
     have NBgb37_gb132 := Aside0.mk (show gb37 ≠ gb132 by rw [hg]; exact Nat.ne_of_lt (blk_lt BK188.out))
     have NBgb50_gb132 := Aside0.mk (show gb50 ≠ gb132 by rw [hg]; exact Nat.ne_of_lt (blk_lt BK197.out))
     have NBgb69_gb132 := Aside0.mk (show gb69 ≠ gb132 by rw [hg]; exact Nat.ne_of_lt (blk_lt BK224.out))
     have GEgb132 := Aside0.mk (show w.heap.size ≤ gb132 by rw [hg]; exact below_size Yb_)
     have BK268 := Aside0.mk hbox
     have m_ := Aside0.mk (Kd.Aa HO11.out hb)
     clear HO11
     have HO11 := m_
     clear m_
     have m_ := Aside0.mk (Kd.Aa HO16.out hb)
     clear HO16
     have HO16 := m_
     clear m_
     have m_ := Aside0.mk (Kd.Aa HO27.out hb)
     clear HO27
     have HO27 := m_
     clear m_
     have m_ := Aside0.mk (Kd.Aa HO32.out hb)
     clear HO32
     have HO32 := m_
     clear m_
     have m_ := Aside0.mk (Kd.Aa HO76.out hb)
     clear HO76
     have HO76 := m_
     clear m_
     have m_ := Aside0.mk (Kd.Aa HO81.out hb)
     clear HO81
     have HO81 := m_
     clear m_
     have m_ := Aside0.mk (Kd.Aa HO106.out hb)
     clear HO106
     have HO106 := m_
     clear m_
     have m_ := Aside0.mk (Kd.Aa HO111.out hb)
     clear HO111
     have HO111 := m_
     clear m_
     have m_ := Aside0.mk (Kd.Aa HO242.out hb)
     clear HO242
     have HO242 := m_
     clear m_
     have m_ := Aside0.mk (Kd.Aa HO243.out hb)
     clear HO243
     have HO243 := m_
     clear m_
     have m_ := Aside0.mk (blk_below BK140.out hb)
     clear BK140
     have BK140 := m_
     clear m_
     have m_ := Aside0.mk (blk_below BK142.out hb)
     clear BK142
     have BK142 := m_
     clear m_
     have m_ := Aside0.mk (blk_below BK188.out hb)
     clear BK188
     have BK188 := m_
     clear m_
     have m_ := Aside0.mk (blk_below BK197.out hb)
     clear BK197
     have BK197 := m_
     clear m_
     have m_ := Aside0.mk (blk_below BK224.out hb)
     clear BK224
     have BK224 := m_
     clear m_
     have HSw267 := Aside0.mk (show w247.heap.size ≤ w267.heap.size from hb.size)
     have m_ := Aside0.mk (below_step HB.out hb)
     clear HB
     have HB := m_
     clear m_
     clear hb hbox hg
     refine hK.out _ _ ⟨(blk_cell BK140.out 0).trans rfl, (blk_cell BK140.out 1).trans rfl, (blk_cell BK140.out 2).trans rfl, (blk_cell BK142.out 0).trans rfl, (blk_cell BK142.out 1).trans rfl, (blk_cell BK142.out 2).trans rfl⟩ (fun hHeld => ?_)
     clear hK K
     refine norm_ (show Act.put _ (some 14) _ = _ from Ya_) ?_
     refine one_ (i := 3) (N := some 83) #[true, true, true, true, false, false, false, false, true, false, false] rfl rfl Yj_ (by decide) (fun K hK => ?_)
     refine goes_ Try.func18 Yj_ rfl #[.agg #[.int .i64 a1_0, .int .i64 a1_1, .int .i64 a1_2]] (by rfl) rfl rfl Yd_ ?_
     (with_reducible refine (laws_toOrder.calls a1_0 a1_1 a1_2 r114 r115 r116 w267  A118.out).mono ?_)
     rintro e w269 ⟨rfl, hb⟩
     refine ⟨_, rfl, ?_⟩
     have m_ := Aside0.mk (Kd.Aa HO11.out hb)
     clear HO11
     have HO11 := m_
     clear m_
     have m_ := Aside0.mk (Kd.Aa HO16.out hb)
     clear HO16
     have HO16 := m_
     clear m_
     have m_ := Aside0.mk (Kd.Aa HO27.out hb)
     clear HO27
     have HO27 := m_
     clear m_
     have m_ := Aside0.mk (Kd.Aa HO32.out hb)
     clear HO32
     have HO32 := m_
     clear m_
     have m_ := Aside0.mk (Kd.Aa HO76.out hb)
     clear HO76
     have HO76 := m_
     clear m_
     have m_ := Aside0.mk (Kd.Aa HO81.out hb)
     clear HO81
     have HO81 := m_
     clear m_
     have m_ := Aside0.mk (Kd.Aa HO106.out hb)
     clear HO106
     have HO106 := m_
     clear m_
     have m_ := Aside0.mk (Kd.Aa HO111.out hb)
     clear HO111
     have HO111 := m_
     clear m_
     have m_ := Aside0.mk (Kd.Aa HO242.out hb)
     clear HO242
     have HO242 := m_
     clear m_
     have m_ := Aside0.mk (Kd.Aa HO243.out hb)
     clear HO243
     have HO243 := m_
     clear m_
     have m_ := Aside0.mk (blk_below BK140.out hb)
     clear BK140
     have BK140 := m_
     clear m_
     have m_ := Aside0.mk (blk_below BK142.out hb)
     clear BK142
     have BK142 := m_
     clear m_
     have m_ := Aside0.mk (blk_below BK188.out hb)
     clear BK188
     have BK188 := m_
     clear m_
     have m_ := Aside0.mk (blk_below BK197.out hb)
     clear BK197
     have BK197 := m_
     clear m_
     have m_ := Aside0.mk (blk_below BK224.out hb)
     clear BK224
     have BK224 := m_
     clear m_
     have m_ := Aside0.mk (blk_below BK268.out hb)
     clear BK268
     have BK268 := m_
     clear m_
     have HSw269 := Aside0.mk (show w267.heap.size ≤ w269.heap.size from hb.size)
     have m_ := Aside0.mk (below_step HB.out hb)
     clear HB
     have HB := m_
     clear m_
     clear hb
     refine hK.out _ _ ⟨(blk_cell BK140.out 0).trans rfl, (blk_cell BK140.out 1).trans rfl, (blk_cell BK140.out 2).trans rfl, (blk_cell BK142.out 0).trans rfl, (blk_cell BK142.out 1).trans rfl, (blk_cell BK142.out 2).trans rfl⟩ (fun hHeld => ?_)
     clear hK K
     refine norm_ (show Act.put _ (some 83) _ = _ from Ya_) ?_
     refine one_ (i := 4) (N := some 84) #[true, true, true, true, true, false, false, false, true, false, false] rfl rfl Yj_ (by decide) (fun K hK => ?_)
     refine goes_ Try.func22 Yj_ rfl #[.agg #[.slice A104 r103.length c105, .int .i64 r107, .slice A109 r108.length c110], .agg #[.int .i64 r114, .int .i64 r115, .int .i64 r116]] (by rfl) rfl rfl Yd_ ?_
     (with_reducible refine (Bq.calls2 k _ _ r103 r107 _ _ r108 r114 r115 r116 r119 r123 r124 r128 w269 (Kd.Ac HO106.out).2.2 (Nat.le_trans (Nat.le_of_eq (Kd.Ac HO106.out).1.symm) (Kd.Ac HO106.out).2.1) (Kd.Ac HO111.out).2.2 (Nat.le_trans (Nat.le_of_eq (Kd.Ac HO111.out).1.symm) (Kd.Ac HO111.out).2.1) A130.out).mono ?_)
     rintro e w270 ⟨Pw270, v273, v274, rfl, ho271, ho272, hb⟩
     refine ⟨_, rfl, ?_⟩
     have m_ := Aside0.mk (Kd.Aa HO11.out hb)
     clear HO11
     have HO11 := m_
     clear m_
     have m_ := Aside0.mk (Kd.Aa HO16.out hb)
     clear HO16
     have HO16 := m_
     clear m_
     have m_ := Aside0.mk (Kd.Aa HO27.out hb)
     clear HO27
     have HO27 := m_
     clear m_
     have m_ := Aside0.mk (Kd.Aa HO32.out hb)
     clear HO32
     have HO32 := m_
     clear m_
     have m_ := Aside0.mk (Kd.Aa HO76.out hb)
     clear HO76
     have HO76 := m_
     clear m_
     have m_ := Aside0.mk (Kd.Aa HO81.out hb)
     clear HO81
     have HO81 := m_
     clear m_
     have m_ := Aside0.mk (Kd.Aa HO106.out hb)
     clear HO106
     have HO106 := m_
     clear m_
     have m_ := Aside0.mk (Kd.Aa HO111.out hb)
     clear HO111
     have HO111 := m_
     clear m_
     have m_ := Aside0.mk (Kd.Aa HO242.out hb)
     clear HO242
     have HO242 := m_
     clear m_
     have m_ := Aside0.mk (Kd.Aa HO243.out hb)
     clear HO243
     have HO243 := m_
     clear m_
     have m_ := Aside0.mk (blk_below BK140.out hb)
     clear BK140
     have BK140 := m_
     clear m_
     have m_ := Aside0.mk (blk_below BK142.out hb)
     clear BK142
     have BK142 := m_
     clear m_
     have m_ := Aside0.mk (blk_below BK188.out hb)
     clear BK188
     have BK188 := m_
     clear m_
     have m_ := Aside0.mk (blk_below BK197.out hb)
     clear BK197
     have BK197 := m_
     clear m_
     have m_ := Aside0.mk (blk_below BK224.out hb)
     clear BK224
     have BK224 := m_
     clear m_
     have m_ := Aside0.mk (blk_below BK268.out hb)
     clear BK268
     have BK268 := m_
     clear m_
     have HSw270 := Aside0.mk (show w269.heap.size ≤ w270.heap.size from hb.size)
     have m_ := (show Kd.S (Kd.slice 3 (Kd.int .i64)) 73 w270 w.heap.size (fun k_ => (w269.heap.size ≤ k_ ∧ k_ < w270.heap.size) ∧ Pw270 k_) v273 r119 from Kd.S_mono (Kd.S_lower (Kd.Bl ho271) (below_size Yb_)) (fun k_ hk_ => ⟨⟨hk_.2.1, hk_.2.2.1⟩, hk_.1⟩))
     obtain ⟨A120, c121, e_⟩ := Kd.S_slice m_
     subst e_
     have HO122 := Aside0.mk m_
     clear m_ ho271
     have m_ := (show Kd.S (Kd.slice 3 (Kd.int .i64)) 73 w270 w.heap.size (fun k_ => (w269.heap.size ≤ k_ ∧ k_ < w270.heap.size) ∧ ¬ Pw270 k_) v274 r124 from Kd.S_mono (Kd.S_lower (Kd.Bl ho272) (below_size Yb_)) (fun k_ hk_ => ⟨⟨hk_.2.1, hk_.2.2.1⟩, hk_.1⟩))
     obtain ⟨A125, c126, e_⟩ := Kd.S_slice m_
     subst e_
     have HO127 := Aside0.mk m_
     clear m_ ho272
     have m_ := Aside0.mk (below_step HB.out hb)
     clear HB
     have HB := m_
     clear m_
     clear hb
     refine hK.out _ _ ⟨(blk_cell BK140.out 0).trans rfl, (blk_cell BK140.out 1).trans rfl, (blk_cell BK140.out 2).trans rfl, (blk_cell BK142.out 0).trans rfl, (blk_cell BK142.out 1).trans rfl, (blk_cell BK142.out 2).trans rfl⟩ (fun hHeld => ?_)
     clear hK K
     refine norm_ (show Act.put _ (some 84) _ = _ from Ya_) ?_
     refine pure_ (i := 5) (N := some 79) #[true, true, true, true, true, true, false, false, true, false, false] rfl rfl Yj_ (fun _ _ _ h => h) (Or.inl ⟨by rfl, Ybb_⟩) Ya_ ?_
     refine pure_ (i := 6) (N := some 85) #[true, true, true, true, true, true, true, false, true, false, false] rfl rfl Yj_ (fun _ _ _ h => h) (Or.inl ⟨by rfl, Ybb_⟩) Ya_ ?_
     refine pure_ (i := 7) (N := some 86) #[true, true, true, true, true, true, true, true, true, false, false] rfl rfl Yj_ (fun _ _ _ h => h) (Or.inl ⟨by rfl, Ybb_⟩) Ya_ ?_
     exact norm_ Ybe_ (hCont (w245.heap.size, w247.heap.size, w269.heap.size, w270.heap.size, A104, c105, A109, c110, A120, c121, A125, c126, Pw247, Pw270, gb132) _ ⟨HB, HO11, HO16, HO27, HO32, HO76, HO81, HO106, HO111, HO122, HO127, HO242, HO243, BK140, BK142, BK188, BK197, BK224, BK268, GEgb132, NBgb2_gb132, NBgb4_gb132, NBgb37_gb132, NBgb50_gb132, NBgb69_gb132, ⟨by have := HSw139.out; have := HSw141.out; have := HSw143.out; have := HSw144.out; have := HSw145.out; have := HSw187.out; have := HSw189.out; have := HSw194.out; have := HSw196.out; have := HSw198.out; have := HSw199.out; have := HSw223.out; have := HSw225.out; have := HSw226.out; have := HSw227.out; have := HSw232.out; have := HSw233.out; have := HSw238.out; have := HSw239.out; have := HSw244.out; have := HSw245.out; have := HSw247.out; have := HSw267.out; have := HSw269.out; have := HSw270.out; omega⟩⟩)
   ·skip
    refine Ep (N := 14) (by rfl) rfl (cs := #[.slice none 0 0, .int .i64 0, .slice none 0 0]) (t := 34) ?_ ?_
    ·first | (go_simp; done) | (go_simp; rfl)
    intro gb132 hg w275 hbox hb
    have NBgb2_gb132 := Aside0.mk (show gb2 ≠ gb132 by rw [hg]; exact Nat.ne_of_lt (blk_lt BK140.out))
    have NBgb4_gb132 := Aside0.mk (show gb4 ≠ gb132 by rw [hg]; exact Nat.ne_of_lt (blk_lt BK142.out))
    have NBgb37_gb132 := Aside0.mk (show gb37 ≠ gb132 by rw [hg]; exact Nat.ne_of_lt (blk_lt BK188.out))
    have NBgb50_gb132 := Aside0.mk (show gb50 ≠ gb132 by rw [hg]; exact Nat.ne_of_lt (blk_lt BK197.out))
    have NBgb69_gb132 := Aside0.mk (show gb69 ≠ gb132 by rw [hg]; exact Nat.ne_of_lt (blk_lt BK224.out))
    have GEgb132 := Aside0.mk (show w.heap.size ≤ gb132 by rw [hg]; exact below_size Yb_)
    have BK276 := Aside0.mk hbox
    have m_ := Aside0.mk (Kd.Aa HO11.out hb)
    clear HO11
    have HO11 := m_
    clear m_
    have m_ := Aside0.mk (Kd.Aa HO16.out hb)
    clear HO16
    have HO16 := m_
    clear m_
    have m_ := Aside0.mk (Kd.Aa HO27.out hb)
    clear HO27
    have HO27 := m_
    clear m_
    have m_ := Aside0.mk (Kd.Aa HO32.out hb)
    clear HO32
    have HO32 := m_
    clear m_
    have m_ := Aside0.mk (Kd.Aa HO76.out hb)
    clear HO76
    have HO76 := m_
    clear m_
    have m_ := Aside0.mk (Kd.Aa HO81.out hb)
    clear HO81
    have HO81 := m_
    clear m_
    have m_ := Aside0.mk (Kd.Aa HO242.out hb)
    clear HO242
    have HO242 := m_
    clear m_
    have m_ := Aside0.mk (Kd.Aa HO243.out hb)
    clear HO243
    have HO243 := m_
    clear m_
    have m_ := Aside0.mk (blk_below BK140.out hb)
    clear BK140
    have BK140 := m_
    clear m_
    have m_ := Aside0.mk (blk_below BK142.out hb)
    clear BK142
    have BK142 := m_
    clear m_
    have m_ := Aside0.mk (blk_below BK188.out hb)
    clear BK188
    have BK188 := m_
    clear m_
    have m_ := Aside0.mk (blk_below BK197.out hb)
    clear BK197
    have BK197 := m_
    clear m_
    have m_ := Aside0.mk (blk_below BK224.out hb)
    clear BK224
    have BK224 := m_
    clear m_
    have HSw275 := Aside0.mk (show w245.heap.size ≤ w275.heap.size from hb.size)
    have m_ := Aside0.mk (below_step HB.out hb)
    clear HB
    have HB := m_
    clear m_
    clear hb hbox hg
    refine hK.out _ _ ⟨(blk_cell BK140.out 0).trans rfl, (blk_cell BK140.out 1).trans rfl, (blk_cell BK140.out 2).trans rfl, (blk_cell BK142.out 0).trans rfl, (blk_cell BK142.out 1).trans rfl, (blk_cell BK142.out 2).trans rfl⟩ (fun hHeld => ?_)
    clear hK K
    refine norm_ (show Act.put _ (some 14) _ = _ from Ya_) ?_
    refine one_ (i := 1) (N := some 81) #[true, true, true, false, false, false, false, false, true, false, false] rfl rfl Yj_ (by decide) (fun K hK => ?_)
    refine goes_ Try.func12 Yj_ rfl #[.agg #[.slice A0_0 l0_0.length c0_0, .int .i64 a0_1, .slice A0_2 l0_2.length c0_2]] (by rfl) rfl rfl Yd_ ?_
    (with_reducible refine (Bi.calls2 k _ _ l0_0 a0_1 _ _ l0_2 r103 r107 r108 w275 (Kd.C_below HR0_0.out Yb_) HC0_0.out (Kd.C_below HR0_2.out Yb_) HC0_2.out A113.out).mono ?_)
    rintro e w277 ⟨Pw277, v280, v281, rfl, ho278, ho279, hb⟩
    refine ⟨_, rfl, ?_⟩
    have m_ := Aside0.mk (Kd.Aa HO11.out hb)
    clear HO11
    have HO11 := m_
    clear m_
    have m_ := Aside0.mk (Kd.Aa HO16.out hb)
    clear HO16
    have HO16 := m_
    clear m_
    have m_ := Aside0.mk (Kd.Aa HO27.out hb)
    clear HO27
    have HO27 := m_
    clear m_
    have m_ := Aside0.mk (Kd.Aa HO32.out hb)
    clear HO32
    have HO32 := m_
    clear m_
    have m_ := Aside0.mk (Kd.Aa HO76.out hb)
    clear HO76
    have HO76 := m_
    clear m_
    have m_ := Aside0.mk (Kd.Aa HO81.out hb)
    clear HO81
    have HO81 := m_
    clear m_
    have m_ := Aside0.mk (Kd.Aa HO242.out hb)
    clear HO242
    have HO242 := m_
    clear m_
    have m_ := Aside0.mk (Kd.Aa HO243.out hb)
    clear HO243
    have HO243 := m_
    clear m_
    have m_ := Aside0.mk (blk_below BK140.out hb)
    clear BK140
    have BK140 := m_
    clear m_
    have m_ := Aside0.mk (blk_below BK142.out hb)
    clear BK142
    have BK142 := m_
    clear m_
    have m_ := Aside0.mk (blk_below BK188.out hb)
    clear BK188
    have BK188 := m_
    clear m_
    have m_ := Aside0.mk (blk_below BK197.out hb)
    clear BK197
    have BK197 := m_
    clear m_
    have m_ := Aside0.mk (blk_below BK224.out hb)
    clear BK224
    have BK224 := m_
    clear m_
    have m_ := Aside0.mk (blk_below BK276.out hb)
    clear BK276
    have BK276 := m_
    clear m_
    have HSw277 := Aside0.mk (show w275.heap.size ≤ w277.heap.size from hb.size)
    have m_ := (show Kd.S (Kd.slice 3 (Kd.int .i64)) 73 w277 w.heap.size (fun k_ => (w275.heap.size ≤ k_ ∧ k_ < w277.heap.size) ∧ Pw277 k_) v280 r103 from Kd.S_mono (Kd.S_lower (Kd.Bl ho278) (below_size Yb_)) (fun k_ hk_ => ⟨⟨hk_.2.1, hk_.2.2.1⟩, hk_.1⟩))
    obtain ⟨A104, c105, e_⟩ := Kd.S_slice m_
    subst e_
    have HO106 := Aside0.mk m_
    clear m_ ho278
    have m_ := (show Kd.S (Kd.slice 3 (Kd.int .i64)) 73 w277 w.heap.size (fun k_ => (w275.heap.size ≤ k_ ∧ k_ < w277.heap.size) ∧ ¬ Pw277 k_) v281 r108 from Kd.S_mono (Kd.S_lower (Kd.Bl ho279) (below_size Yb_)) (fun k_ hk_ => ⟨⟨hk_.2.1, hk_.2.2.1⟩, hk_.1⟩))
    obtain ⟨A109, c110, e_⟩ := Kd.S_slice m_
    subst e_
    have HO111 := Aside0.mk m_
    clear m_ ho279
    have m_ := Aside0.mk (below_step HB.out hb)
    clear HB
    have HB := m_
    clear m_
    clear hb
    refine hK.out _ _ ⟨(blk_cell BK140.out 0).trans rfl, (blk_cell BK140.out 1).trans rfl, (blk_cell BK140.out 2).trans rfl, (blk_cell BK142.out 0).trans rfl, (blk_cell BK142.out 1).trans rfl, (blk_cell BK142.out 2).trans rfl⟩ (fun hHeld => ?_)
    clear hK K
    refine norm_ (show Act.put _ (some 81) _ = _ from Ya_) ?_
    refine one_ (i := 3) (N := some 83) #[true, true, true, true, false, false, false, false, true, false, false] rfl rfl Yj_ (by decide) (fun K hK => ?_)
    refine goes_ Try.func18 Yj_ rfl #[.agg #[.int .i64 a1_0, .int .i64 a1_1, .int .i64 a1_2]] (by rfl) rfl rfl Yd_ ?_
    (with_reducible refine (laws_toOrder.calls a1_0 a1_1 a1_2 r114 r115 r116 w277  A118.out).mono ?_)
    rintro e w282 ⟨rfl, hb⟩
    refine ⟨_, rfl, ?_⟩
    have m_ := Aside0.mk (Kd.Aa HO11.out hb)
    clear HO11
    have HO11 := m_
    clear m_
    have m_ := Aside0.mk (Kd.Aa HO16.out hb)
    clear HO16
    have HO16 := m_
    clear m_
    have m_ := Aside0.mk (Kd.Aa HO27.out hb)
    clear HO27
    have HO27 := m_
    clear m_
    have m_ := Aside0.mk (Kd.Aa HO32.out hb)
    clear HO32
    have HO32 := m_
    clear m_
    have m_ := Aside0.mk (Kd.Aa HO76.out hb)
    clear HO76
    have HO76 := m_
    clear m_
    have m_ := Aside0.mk (Kd.Aa HO81.out hb)
    clear HO81
    have HO81 := m_
    clear m_
    have m_ := Aside0.mk (Kd.Aa HO106.out hb)
    clear HO106
    have HO106 := m_
    clear m_
    have m_ := Aside0.mk (Kd.Aa HO111.out hb)
    clear HO111
    have HO111 := m_
    clear m_
    have m_ := Aside0.mk (Kd.Aa HO242.out hb)
    clear HO242
    have HO242 := m_
    clear m_
    have m_ := Aside0.mk (Kd.Aa HO243.out hb)
    clear HO243
    have HO243 := m_
    clear m_
    have m_ := Aside0.mk (blk_below BK140.out hb)
    clear BK140
    have BK140 := m_
    clear m_
    have m_ := Aside0.mk (blk_below BK142.out hb)
    clear BK142
    have BK142 := m_
    clear m_
    have m_ := Aside0.mk (blk_below BK188.out hb)
    clear BK188
    have BK188 := m_
    clear m_
    have m_ := Aside0.mk (blk_below BK197.out hb)
    clear BK197
    have BK197 := m_
    clear m_
    have m_ := Aside0.mk (blk_below BK224.out hb)
    clear BK224
    have BK224 := m_
    clear m_
    have m_ := Aside0.mk (blk_below BK276.out hb)
    clear BK276
    have BK276 := m_
    clear m_
    have HSw282 := Aside0.mk (show w277.heap.size ≤ w282.heap.size from hb.size)
    have m_ := Aside0.mk (below_step HB.out hb)
    clear HB
    have HB := m_
    clear m_
    clear hb
    refine hK.out _ _ ⟨(blk_cell BK140.out 0).trans rfl, (blk_cell BK140.out 1).trans rfl, (blk_cell BK140.out 2).trans rfl, (blk_cell BK142.out 0).trans rfl, (blk_cell BK142.out 1).trans rfl, (blk_cell BK142.out 2).trans rfl⟩ (fun hHeld => ?_)
    clear hK K
    refine norm_ (show Act.put _ (some 83) _ = _ from Ya_) ?_
    refine one_ (i := 4) (N := some 84) #[true, true, true, true, true, false, false, false, true, false, false] rfl rfl Yj_ (by decide) (fun K hK => ?_)
    refine goes_ Try.func22 Yj_ rfl #[.agg #[.slice A104 r103.length c105, .int .i64 r107, .slice A109 r108.length c110], .agg #[.int .i64 r114, .int .i64 r115, .int .i64 r116]] (by rfl) rfl rfl Yd_ ?_
    (with_reducible refine (Bq.calls2 k _ _ r103 r107 _ _ r108 r114 r115 r116 r119 r123 r124 r128 w282 (Kd.Ac HO106.out).2.2 (Nat.le_trans (Nat.le_of_eq (Kd.Ac HO106.out).1.symm) (Kd.Ac HO106.out).2.1) (Kd.Ac HO111.out).2.2 (Nat.le_trans (Nat.le_of_eq (Kd.Ac HO111.out).1.symm) (Kd.Ac HO111.out).2.1) A130.out).mono ?_)
    rintro e w283 ⟨Pw283, v286, v287, rfl, ho284, ho285, hb⟩
    refine ⟨_, rfl, ?_⟩
    have m_ := Aside0.mk (Kd.Aa HO11.out hb)
    clear HO11
    have HO11 := m_
    clear m_
    have m_ := Aside0.mk (Kd.Aa HO16.out hb)
    clear HO16
    have HO16 := m_
    clear m_
    have m_ := Aside0.mk (Kd.Aa HO27.out hb)
    clear HO27
    have HO27 := m_
    clear m_
    have m_ := Aside0.mk (Kd.Aa HO32.out hb)
    clear HO32
    have HO32 := m_
    clear m_
    have m_ := Aside0.mk (Kd.Aa HO76.out hb)
    clear HO76
    have HO76 := m_
    clear m_
    have m_ := Aside0.mk (Kd.Aa HO81.out hb)
    clear HO81
    have HO81 := m_
    clear m_
    have m_ := Aside0.mk (Kd.Aa HO106.out hb)
    clear HO106
    have HO106 := m_
    clear m_
    have m_ := Aside0.mk (Kd.Aa HO111.out hb)
    clear HO111
    have HO111 := m_
    clear m_
    have m_ := Aside0.mk (Kd.Aa HO242.out hb)
    clear HO242
    have HO242 := m_
    clear m_
    have m_ := Aside0.mk (Kd.Aa HO243.out hb)
    clear HO243
    have HO243 := m_
    clear m_
    have m_ := Aside0.mk (blk_below BK140.out hb)
    clear BK140
    have BK140 := m_
    clear m_
    have m_ := Aside0.mk (blk_below BK142.out hb)
    clear BK142
    have BK142 := m_
    clear m_
    have m_ := Aside0.mk (blk_below BK188.out hb)
    clear BK188
    have BK188 := m_
    clear m_
    have m_ := Aside0.mk (blk_below BK197.out hb)
    clear BK197
    have BK197 := m_
    clear m_
    have m_ := Aside0.mk (blk_below BK224.out hb)
    clear BK224
    have BK224 := m_
    clear m_
    have m_ := Aside0.mk (blk_below BK276.out hb)
    clear BK276
    have BK276 := m_
    clear m_
    have HSw283 := Aside0.mk (show w282.heap.size ≤ w283.heap.size from hb.size)
    have m_ := (show Kd.S (Kd.slice 3 (Kd.int .i64)) 73 w283 w.heap.size (fun k_ => (w282.heap.size ≤ k_ ∧ k_ < w283.heap.size) ∧ Pw283 k_) v286 r119 from Kd.S_mono (Kd.S_lower (Kd.Bl ho284) (below_size Yb_)) (fun k_ hk_ => ⟨⟨hk_.2.1, hk_.2.2.1⟩, hk_.1⟩))
    obtain ⟨A120, c121, e_⟩ := Kd.S_slice m_
    subst e_
    have HO122 := Aside0.mk m_
    clear m_ ho284
    have m_ := (show Kd.S (Kd.slice 3 (Kd.int .i64)) 73 w283 w.heap.size (fun k_ => (w282.heap.size ≤ k_ ∧ k_ < w283.heap.size) ∧ ¬ Pw283 k_) v287 r124 from Kd.S_mono (Kd.S_lower (Kd.Bl ho285) (below_size Yb_)) (fun k_ hk_ => ⟨⟨hk_.2.1, hk_.2.2.1⟩, hk_.1⟩))
    obtain ⟨A125, c126, e_⟩ := Kd.S_slice m_
    subst e_
    have HO127 := Aside0.mk m_
    clear m_ ho285
    have m_ := Aside0.mk (below_step HB.out hb)
    clear HB
    have HB := m_
    clear m_
    clear hb
    refine hK.out _ _ ⟨(blk_cell BK140.out 0).trans rfl, (blk_cell BK140.out 1).trans rfl, (blk_cell BK140.out 2).trans rfl, (blk_cell BK142.out 0).trans rfl, (blk_cell BK142.out 1).trans rfl, (blk_cell BK142.out 2).trans rfl⟩ (fun hHeld => ?_)
    clear hK K
    refine norm_ (show Act.put _ (some 84) _ = _ from Ya_) ?_
    refine pure_ (i := 5) (N := some 79) #[true, true, true, true, true, true, false, false, true, false, false] rfl rfl Yj_ (fun _ _ _ h => h) (Or.inl ⟨by rfl, Ybb_⟩) Ya_ ?_
    refine pure_ (i := 6) (N := some 85) #[true, true, true, true, true, true, true, false, true, false, false] rfl rfl Yj_ (fun _ _ _ h => h) (Or.inl ⟨by rfl, Ybb_⟩) Ya_ ?_
    refine pure_ (i := 7) (N := some 86) #[true, true, true, true, true, true, true, true, true, false, false] rfl rfl Yj_ (fun _ _ _ h => h) (Or.inl ⟨by rfl, Ybb_⟩) Ya_ ?_
    exact norm_ Ybe_ (hCont (w275.heap.size, w277.heap.size, w282.heap.size, w283.heap.size, A104, c105, A109, c110, A120, c121, A125, c126, Pw277, Pw283, gb132) _ ⟨HB, HO11, HO16, HO27, HO32, HO76, HO81, HO106, HO111, HO122, HO127, HO242, HO243, BK140, BK142, BK188, BK197, BK224, BK276, GEgb132, NBgb2_gb132, NBgb4_gb132, NBgb37_gb132, NBgb50_gb132, NBgb69_gb132, ⟨by have := HSw139.out; have := HSw141.out; have := HSw143.out; have := HSw144.out; have := HSw145.out; have := HSw187.out; have := HSw189.out; have := HSw194.out; have := HSw196.out; have := HSw198.out; have := HSw199.out; have := HSw223.out; have := HSw225.out; have := HSw226.out; have := HSw227.out; have := HSw232.out; have := HSw233.out; have := HSw238.out; have := HSw239.out; have := HSw244.out; have := HSw245.out; have := HSw275.out; have := HSw277.out; have := HSw282.out; have := HSw283.out; omega⟩⟩)
  clear HB HO11 HO16 HO27 HO32 HO76 HO81 HO242 HO243 BK140 BK142 BK188 BK197 BK224
  rintro ⟨lo1_w246, hi1_w246, lo4_w246, hi4_w246, A104, c105, A109, c110, A120, c121, A125, c126, PJ1_w246, PJ4_w246, gb132⟩ w246 ⟨HB, HO11, HO16, HO27, HO32, HO76, HO81, HO106, HO111, HO122, HO127, HO242, HO243, BK140, BK142, BK188, BK197, BK224, BJ8_w246, GEgb132, NBgb2_gb132, NBgb4_gb132, NBgb37_gb132, NBgb50_gb132, NBgb69_gb132, HSw246⟩
  have hHeld : (fun w' => w'.cell? ⟨gb2, 0, none⟩ = some (.slice A0_0 l0_0.length c0_0) ∧ w'.cell? ⟨gb2, 1, none⟩ = some (.int .i64 a0_1) ∧ w'.cell? ⟨gb2, 2, none⟩ = some (.slice A0_2 l0_2.length c0_2) ∧ w'.cell? ⟨gb4, 0, none⟩ = some (.int .i64 a1_0) ∧ w'.cell? ⟨gb4, 1, none⟩ = some (.int .i64 a1_1) ∧ w'.cell? ⟨gb4, 2, none⟩ = some (.int .i64 a1_2)) w246 := ⟨(blk_cell BK140.out 0).trans rfl, (blk_cell BK140.out 1).trans rfl, (blk_cell BK140.out 2).trans rfl, (blk_cell BK142.out 0).trans rfl, (blk_cell BK142.out 1).trans rfl, (blk_cell BK142.out 2).trans rfl⟩
  refine norm_ (a' := ?_) ?_ ?_
  rotate_left
  ·simp only [Dv, Act.put, List.setIfInBounds_toArray, List.set_cons_zero, List.set_cons_succ]
   rfl
  refine one_ (i := 9) (N := none) #[true, true, true, true, true, true, true, true, true, true, false] rfl rfl Yj_ (by decide) (fun K hK => ?_)
  have hs0_ : w246.cell? ⟨gb132, 0, none⟩ = some (.slice none 0 0) := (blk_cell BJ8_w246.out 0).trans rfl
  have hfs0_ := blk_frozen BJ8_w246.out 0
  have hs1_ : w246.cell? ⟨gb132, 1, none⟩ = some (.int .i64 0) := (blk_cell BJ8_w246.out 1).trans rfl
  have hfs1_ := blk_frozen BJ8_w246.out 1
  have hs2_ : w246.cell? ⟨gb132, 2, none⟩ = some (.slice none 0 0) := (blk_cell BJ8_w246.out 2).trans rfl
  have hfs2_ := blk_frozen BJ8_w246.out 2
  refine Go.Proofs.YtnggfglmjdiaaaaOwn.Ej (w1 := (((w246.setCell ⟨gb132, 0, none⟩ (.slice A120 r119.length c121)).setCell ⟨gb132, 1, none⟩ (.int .i64 r123)).setCell ⟨gb132, 2, none⟩ (.slice A125 r124.length c126))) (by rfl) rfl ?_ ?_
  ·first | (go_simp; done) | (go_simp; rfl)
  intro w288 hw
  have hO_ : Go.Proofs.YtnggfglmjdiaaaaOwn.Only w246 w288 gb132 := Ydc_
  have hbx_ : w288.heap[gb132]? = some (.cells #[.slice A120 r119.length c121, .int .i64 r123, .slice A125 r124.length c126] 34 (0, 0)) := (by rw [hw]; refine blk_put (cs := #[.slice A120 r119.length c121, .int .i64 r123, .slice none 0 0]) ?_ 2 _ rfl; refine blk_put (cs := #[.slice A120 r119.length c121, .int .i64 0, .slice none 0 0]) ?_ 1 _ rfl; refine blk_put (cs := #[.slice none 0 0, .int .i64 0, .slice none 0 0]) ?_ 0 _ rfl; exact BJ8_w246.out)
  (try clear hs0_ hfs0_ hs1_ hfs1_ hs2_ hfs2_)
  clear hw
  have m_ := Aside0.mk (Go.Proofs.YtnggfglmjdiaaaaOwn.Dt HO11.out BJ8_w246.out (by decide) hO_)
  clear HO11
  have HO11 := m_
  clear m_
  have m_ := Aside0.mk (Go.Proofs.YtnggfglmjdiaaaaOwn.Dt HO16.out BJ8_w246.out (by decide) hO_)
  clear HO16
  have HO16 := m_
  clear m_
  have m_ := Aside0.mk (Go.Proofs.YtnggfglmjdiaaaaOwn.Dt HO27.out BJ8_w246.out (by decide) hO_)
  clear HO27
  have HO27 := m_
  clear m_
  have m_ := Aside0.mk (Go.Proofs.YtnggfglmjdiaaaaOwn.Dt HO32.out BJ8_w246.out (by decide) hO_)
  clear HO32
  have HO32 := m_
  clear m_
  have m_ := Aside0.mk (Go.Proofs.YtnggfglmjdiaaaaOwn.Dt HO76.out BJ8_w246.out (by decide) hO_)
  clear HO76
  have HO76 := m_
  clear m_
  have m_ := Aside0.mk (Go.Proofs.YtnggfglmjdiaaaaOwn.Dt HO81.out BJ8_w246.out (by decide) hO_)
  clear HO81
  have HO81 := m_
  clear m_
  have m_ := Aside0.mk (Go.Proofs.YtnggfglmjdiaaaaOwn.Dt HO106.out BJ8_w246.out (by decide) hO_)
  clear HO106
  have HO106 := m_
  clear m_
  have m_ := Aside0.mk (Go.Proofs.YtnggfglmjdiaaaaOwn.Dt HO111.out BJ8_w246.out (by decide) hO_)
  clear HO111
  have HO111 := m_
  clear m_
  have m_ := Aside0.mk (Go.Proofs.YtnggfglmjdiaaaaOwn.Dt HO122.out BJ8_w246.out (by decide) hO_)
  clear HO122
  have HO122 := m_
  clear m_
  have m_ := Aside0.mk (Go.Proofs.YtnggfglmjdiaaaaOwn.Dt HO127.out BJ8_w246.out (by decide) hO_)
  clear HO127
  have HO127 := m_
  clear m_
  have m_ := Aside0.mk (Go.Proofs.YtnggfglmjdiaaaaOwn.Dt HO242.out BJ8_w246.out (by decide) hO_)
  clear HO242
  have HO242 := m_
  clear m_
  have m_ := Aside0.mk (Go.Proofs.YtnggfglmjdiaaaaOwn.Dt HO243.out BJ8_w246.out (by decide) hO_)
  clear HO243
  have HO243 := m_
  clear m_
  have m_ := Aside0.mk ((hO_.others _ NBgb2_gb132.out).trans BK140.out)
  clear BK140
  have BK140 := m_
  clear m_
  have m_ := Aside0.mk ((hO_.others _ NBgb4_gb132.out).trans BK142.out)
  clear BK142
  have BK142 := m_
  clear m_
  have m_ := Aside0.mk ((hO_.others _ NBgb37_gb132.out).trans BK188.out)
  clear BK188
  have BK188 := m_
  clear m_
  have m_ := Aside0.mk ((hO_.others _ NBgb50_gb132.out).trans BK197.out)
  clear BK197
  have BK197 := m_
  clear m_
  have m_ := Aside0.mk ((hO_.others _ NBgb69_gb132.out).trans BK224.out)
  clear BK224
  have BK224 := m_
  clear m_
  have m_ := Aside0.mk (hO_.below HB.out GEgb132.out)
  clear HB
  have HB := m_
  clear m_
  have HSw288 := Aside0.mk (Nat.le_of_eq hO_.size.symm : w246.heap.size ≤ w288.heap.size)
  clear BJ8_w246
  have BK289 := Aside0.mk hbx_
  clear hbx_ hO_
  refine hK.out _ _ ⟨(blk_cell BK140.out 0).trans rfl, (blk_cell BK140.out 1).trans rfl, (blk_cell BK140.out 2).trans rfl, (blk_cell BK142.out 0).trans rfl, (blk_cell BK142.out 1).trans rfl, (blk_cell BK142.out 2).trans rfl⟩ (fun hHeld => ?_)
  clear hK K
  refine pure_ (i := 10) (N := some 15) #[true, true, true, true, true, true, true, true, true, true, true] rfl rfl Yj_ (fun _ _ _ h => h) (Or.inl ⟨by rfl, Ybb_⟩) Ya_ ?_
  refine done_ Yj_ ?_
  have hzgb2_0 : w288.cell? ⟨gb2, 0, none⟩ = some (.slice A0_0 l0_0.length c0_0) := (blk_cell BK140.out 0).trans rfl
  have hzgb2_1 : w288.cell? ⟨gb2, 1, none⟩ = some (.int .i64 a0_1) := (blk_cell BK140.out 1).trans rfl
  have hzgb2_2 : w288.cell? ⟨gb2, 2, none⟩ = some (.slice A0_2 l0_2.length c0_2) := (blk_cell BK140.out 2).trans rfl
  have hzgb4_0 : w288.cell? ⟨gb4, 0, none⟩ = some (.int .i64 a1_0) := (blk_cell BK142.out 0).trans rfl
  have hzgb4_1 : w288.cell? ⟨gb4, 1, none⟩ = some (.int .i64 a1_1) := (blk_cell BK142.out 1).trans rfl
  have hzgb4_2 : w288.cell? ⟨gb4, 2, none⟩ = some (.int .i64 a1_2) := (blk_cell BK142.out 2).trans rfl
  have hzgb37_0 : w288.cell? ⟨gb37, 0, none⟩ = some (.slice A25 r24.length c26) := (blk_cell BK188.out 0).trans rfl
  have hzgb37_1 : w288.cell? ⟨gb37, 1, none⟩ = some (.int .i64 r28) := (blk_cell BK188.out 1).trans rfl
  have hzgb37_2 : w288.cell? ⟨gb37, 2, none⟩ = some (.slice A30 r29.length c31) := (blk_cell BK188.out 2).trans rfl
  have hzgb50_0 : w288.cell? ⟨gb50, 0, none⟩ = some (.slice A39 r38.length c40) := (blk_cell BK197.out 0).trans rfl
  have hzgb50_1 : w288.cell? ⟨gb50, 1, none⟩ = some (.int .i64 r42) := (blk_cell BK197.out 1).trans rfl
  have hzgb50_2 : w288.cell? ⟨gb50, 2, none⟩ = some (.slice A44 r43.length c45) := (blk_cell BK197.out 2).trans rfl
  have hzgb69_0 : w288.cell? ⟨gb69, 0, none⟩ = some (.slice A57 r56.length c58) := (blk_cell BK224.out 0).trans rfl
  have hzgb69_1 : w288.cell? ⟨gb69, 1, none⟩ = some (.int .i64 r60) := (blk_cell BK224.out 1).trans rfl
  have hzgb69_2 : w288.cell? ⟨gb69, 2, none⟩ = some (.slice A62 r61.length c63) := (blk_cell BK224.out 2).trans rfl
  have hzgb132_0 : w288.cell? ⟨gb132, 0, none⟩ = some (.slice A120 r119.length c121) := (blk_cell BK289.out 0).trans rfl
  have hzgb132_1 : w288.cell? ⟨gb132, 1, none⟩ = some (.int .i64 r123) := (blk_cell BK289.out 1).trans rfl
  have hzgb132_2 : w288.cell? ⟨gb132, 2, none⟩ = some (.slice A125 r124.length c126) := (blk_cell BK289.out 2).trans rfl
  go_wp2_with (first | ((with_reducible refine gate_callee (f := 14) rfl ?_); (try (refine gate_guard (by rfl) ?_; dsimp only)); refine goesL_ (some 89) rfl rfl Try.func14 Yj_ rfl #[.agg #[.slice A120 r119.length c121, .int .i64 r123, .slice A125 r124.length c126], .agg #[.slice A25 r24.length c26, .int .i64 r28, .slice A30 r29.length c31]] rfl Yd_ ?_; (with_reducible refine (Bv.calls k _ _ r119 r123 _ _ r124 _ _ r24 r28 _ _ r29 true w288 (Kd.Ac HO122.out).2.2 (Nat.le_trans (Nat.le_of_eq (Kd.Ac HO122.out).1.symm) (Kd.Ac HO122.out).2.1) (Kd.Ac HO127.out).2.2 (Nat.le_trans (Nat.le_of_eq (Kd.Ac HO127.out).1.symm) (Kd.Ac HO127.out).2.1) (Kd.Ac HO27.out).2.2 (Nat.le_trans (Nat.le_of_eq (Kd.Ac HO27.out).1.symm) (Kd.Ac HO27.out).2.1) (Kd.Ac HO32.out).2.2 (Nat.le_trans (Nat.le_of_eq (Kd.Ac HO32.out).1.symm) (Kd.Ac HO32.out).2.1) A135.out).mono ?_); rintro e w290 ⟨rfl, hb⟩; (try clear hzgb2_0 hzgb2_1 hzgb2_2); (try clear hzgb4_0 hzgb4_1 hzgb4_2); (try clear hzgb37_0 hzgb37_1 hzgb37_2); (try clear hzgb50_0 hzgb50_1 hzgb50_2); (try clear hzgb69_0 hzgb69_1 hzgb69_2); (try clear hzgb132_0 hzgb132_1 hzgb132_2); refine ⟨_, rfl, ?_⟩; have m_ := Aside0.mk (Kd.Aa HO11.out hb); clear HO11; have HO11 := m_; clear m_; have m_ := Aside0.mk (Kd.Aa HO16.out hb); clear HO16; have HO16 := m_; clear m_; have m_ := Aside0.mk (Kd.Aa HO27.out hb); clear HO27; have HO27 := m_; clear m_; have m_ := Aside0.mk (Kd.Aa HO32.out hb); clear HO32; have HO32 := m_; clear m_; have m_ := Aside0.mk (Kd.Aa HO76.out hb); clear HO76; have HO76 := m_; clear m_; have m_ := Aside0.mk (Kd.Aa HO81.out hb); clear HO81; have HO81 := m_; clear m_; have m_ := Aside0.mk (Kd.Aa HO106.out hb); clear HO106; have HO106 := m_; clear m_; have m_ := Aside0.mk (Kd.Aa HO111.out hb); clear HO111; have HO111 := m_; clear m_; have m_ := Aside0.mk (Kd.Aa HO122.out hb); clear HO122; have HO122 := m_; clear m_; have m_ := Aside0.mk (Kd.Aa HO127.out hb); clear HO127; have HO127 := m_; clear m_; have m_ := Aside0.mk (Kd.Aa HO242.out hb); clear HO242; have HO242 := m_; clear m_; have m_ := Aside0.mk (Kd.Aa HO243.out hb); clear HO243; have HO243 := m_; clear m_; have m_ := Aside0.mk (blk_below BK140.out hb); clear BK140; have BK140 := m_; clear m_; have m_ := Aside0.mk (blk_below BK142.out hb); clear BK142; have BK142 := m_; clear m_; have m_ := Aside0.mk (blk_below BK188.out hb); clear BK188; have BK188 := m_; clear m_; have m_ := Aside0.mk (blk_below BK197.out hb); clear BK197; have BK197 := m_; clear m_; have m_ := Aside0.mk (blk_below BK224.out hb); clear BK224; have BK224 := m_; clear m_; have m_ := Aside0.mk (blk_below BK289.out hb); clear BK289; have BK289 := m_; clear m_; have HSw290 := Aside0.mk (show w288.heap.size ≤ w290.heap.size from hb.size); have m_ := Aside0.mk (below_step HB.out hb); clear HB; have HB := m_; clear m_; clear hb; have hzgb2_0 : w290.cell? ⟨gb2, 0, none⟩ = some (.slice A0_0 l0_0.length c0_0) := (blk_cell BK140.out 0).trans rfl; have hzgb2_1 : w290.cell? ⟨gb2, 1, none⟩ = some (.int .i64 a0_1) := (blk_cell BK140.out 1).trans rfl; have hzgb2_2 : w290.cell? ⟨gb2, 2, none⟩ = some (.slice A0_2 l0_2.length c0_2) := (blk_cell BK140.out 2).trans rfl; have hzgb4_0 : w290.cell? ⟨gb4, 0, none⟩ = some (.int .i64 a1_0) := (blk_cell BK142.out 0).trans rfl; have hzgb4_1 : w290.cell? ⟨gb4, 1, none⟩ = some (.int .i64 a1_1) := (blk_cell BK142.out 1).trans rfl; have hzgb4_2 : w290.cell? ⟨gb4, 2, none⟩ = some (.int .i64 a1_2) := (blk_cell BK142.out 2).trans rfl; have hzgb37_0 : w290.cell? ⟨gb37, 0, none⟩ = some (.slice A25 r24.length c26) := (blk_cell BK188.out 0).trans rfl; have hzgb37_1 : w290.cell? ⟨gb37, 1, none⟩ = some (.int .i64 r28) := (blk_cell BK188.out 1).trans rfl; have hzgb37_2 : w290.cell? ⟨gb37, 2, none⟩ = some (.slice A30 r29.length c31) := (blk_cell BK188.out 2).trans rfl; have hzgb50_0 : w290.cell? ⟨gb50, 0, none⟩ = some (.slice A39 r38.length c40) := (blk_cell BK197.out 0).trans rfl; have hzgb50_1 : w290.cell? ⟨gb50, 1, none⟩ = some (.int .i64 r42) := (blk_cell BK197.out 1).trans rfl; have hzgb50_2 : w290.cell? ⟨gb50, 2, none⟩ = some (.slice A44 r43.length c45) := (blk_cell BK197.out 2).trans rfl; have hzgb69_0 : w290.cell? ⟨gb69, 0, none⟩ = some (.slice A57 r56.length c58) := (blk_cell BK224.out 0).trans rfl; have hzgb69_1 : w290.cell? ⟨gb69, 1, none⟩ = some (.int .i64 r60) := (blk_cell BK224.out 1).trans rfl; have hzgb69_2 : w290.cell? ⟨gb69, 2, none⟩ = some (.slice A62 r61.length c63) := (blk_cell BK224.out 2).trans rfl; have hzgb132_0 : w290.cell? ⟨gb132, 0, none⟩ = some (.slice A120 r119.length c121) := (blk_cell BK289.out 0).trans rfl; have hzgb132_1 : w290.cell? ⟨gb132, 1, none⟩ = some (.int .i64 r123) := (blk_cell BK289.out 1).trans rfl; have hzgb132_2 : w290.cell? ⟨gb132, 2, none⟩ = some (.slice A125 r124.length c126) := (blk_cell BK289.out 2).trans rfl) | ((with_reducible refine gate_callee (f := 24) rfl ?_); (try (refine gate_guard (by rfl) ?_; dsimp only)); refine goesL_ (some 98) rfl rfl Try.func24 Yj_ rfl #[.agg #[.slice A57 r56.length c58, .int .i64 r60, .slice A62 r61.length c63], .int .i64 1] rfl Yd_ ?_; have hcall_ := Ci.calls k _ _ r96 r60 _ _ r97 1 r136 w290 (Kd.Ac HO242.out).2.2 (Nat.le_trans (Nat.le_of_eq (Kd.Ac HO242.out).1.symm) (Kd.Ac HO242.out).2.1) (Kd.Ac HO243.out).2.2 (Nat.le_trans (Nat.le_of_eq (Kd.Ac HO243.out).1.symm) (Kd.Ac HO243.out).2.1) A138.out; rw [← (show r56.length = r96.length from (Kd.Ac HO242.out).1)] at hcall_; rw [← (show r61.length = r97.length from (Kd.Ac HO243.out).1)] at hcall_; refine hcall_.mono ?_; (try clear hcall_); rintro e w291 ⟨rfl, hb⟩; (try clear hzgb2_0 hzgb2_1 hzgb2_2); (try clear hzgb4_0 hzgb4_1 hzgb4_2); (try clear hzgb37_0 hzgb37_1 hzgb37_2); (try clear hzgb50_0 hzgb50_1 hzgb50_2); (try clear hzgb69_0 hzgb69_1 hzgb69_2); (try clear hzgb132_0 hzgb132_1 hzgb132_2); refine ⟨_, rfl, ?_⟩; have m_ := Aside0.mk (Kd.Aa HO11.out hb); clear HO11; have HO11 := m_; clear m_; have m_ := Aside0.mk (Kd.Aa HO16.out hb); clear HO16; have HO16 := m_; clear m_; have m_ := Aside0.mk (Kd.Aa HO27.out hb); clear HO27; have HO27 := m_; clear m_; have m_ := Aside0.mk (Kd.Aa HO32.out hb); clear HO32; have HO32 := m_; clear m_; have m_ := Aside0.mk (Kd.Aa HO76.out hb); clear HO76; have HO76 := m_; clear m_; have m_ := Aside0.mk (Kd.Aa HO81.out hb); clear HO81; have HO81 := m_; clear m_; have m_ := Aside0.mk (Kd.Aa HO106.out hb); clear HO106; have HO106 := m_; clear m_; have m_ := Aside0.mk (Kd.Aa HO111.out hb); clear HO111; have HO111 := m_; clear m_; have m_ := Aside0.mk (Kd.Aa HO122.out hb); clear HO122; have HO122 := m_; clear m_; have m_ := Aside0.mk (Kd.Aa HO127.out hb); clear HO127; have HO127 := m_; clear m_; have m_ := Aside0.mk (Kd.Aa HO242.out hb); clear HO242; have HO242 := m_; clear m_; have m_ := Aside0.mk (Kd.Aa HO243.out hb); clear HO243; have HO243 := m_; clear m_; have m_ := Aside0.mk (blk_below BK140.out hb); clear BK140; have BK140 := m_; clear m_; have m_ := Aside0.mk (blk_below BK142.out hb); clear BK142; have BK142 := m_; clear m_; have m_ := Aside0.mk (blk_below BK188.out hb); clear BK188; have BK188 := m_; clear m_; have m_ := Aside0.mk (blk_below BK197.out hb); clear BK197; have BK197 := m_; clear m_; have m_ := Aside0.mk (blk_below BK224.out hb); clear BK224; have BK224 := m_; clear m_; have m_ := Aside0.mk (blk_below BK289.out hb); clear BK289; have BK289 := m_; clear m_; have HSw291 := Aside0.mk (show w290.heap.size ≤ w291.heap.size from hb.size); have m_ := Aside0.mk (below_step HB.out hb); clear HB; have HB := m_; clear m_; clear hb; have hzgb2_0 : w291.cell? ⟨gb2, 0, none⟩ = some (.slice A0_0 l0_0.length c0_0) := (blk_cell BK140.out 0).trans rfl; have hzgb2_1 : w291.cell? ⟨gb2, 1, none⟩ = some (.int .i64 a0_1) := (blk_cell BK140.out 1).trans rfl; have hzgb2_2 : w291.cell? ⟨gb2, 2, none⟩ = some (.slice A0_2 l0_2.length c0_2) := (blk_cell BK140.out 2).trans rfl; have hzgb4_0 : w291.cell? ⟨gb4, 0, none⟩ = some (.int .i64 a1_0) := (blk_cell BK142.out 0).trans rfl; have hzgb4_1 : w291.cell? ⟨gb4, 1, none⟩ = some (.int .i64 a1_1) := (blk_cell BK142.out 1).trans rfl; have hzgb4_2 : w291.cell? ⟨gb4, 2, none⟩ = some (.int .i64 a1_2) := (blk_cell BK142.out 2).trans rfl; have hzgb37_0 : w291.cell? ⟨gb37, 0, none⟩ = some (.slice A25 r24.length c26) := (blk_cell BK188.out 0).trans rfl; have hzgb37_1 : w291.cell? ⟨gb37, 1, none⟩ = some (.int .i64 r28) := (blk_cell BK188.out 1).trans rfl; have hzgb37_2 : w291.cell? ⟨gb37, 2, none⟩ = some (.slice A30 r29.length c31) := (blk_cell BK188.out 2).trans rfl; have hzgb50_0 : w291.cell? ⟨gb50, 0, none⟩ = some (.slice A39 r38.length c40) := (blk_cell BK197.out 0).trans rfl; have hzgb50_1 : w291.cell? ⟨gb50, 1, none⟩ = some (.int .i64 r42) := (blk_cell BK197.out 1).trans rfl; have hzgb50_2 : w291.cell? ⟨gb50, 2, none⟩ = some (.slice A44 r43.length c45) := (blk_cell BK197.out 2).trans rfl; have hzgb69_0 : w291.cell? ⟨gb69, 0, none⟩ = some (.slice A57 r56.length c58) := (blk_cell BK224.out 0).trans rfl; have hzgb69_1 : w291.cell? ⟨gb69, 1, none⟩ = some (.int .i64 r60) := (blk_cell BK224.out 1).trans rfl; have hzgb69_2 : w291.cell? ⟨gb69, 2, none⟩ = some (.slice A62 r61.length c63) := (blk_cell BK224.out 2).trans rfl; have hzgb132_0 : w291.cell? ⟨gb132, 0, none⟩ = some (.slice A120 r119.length c121) := (blk_cell BK289.out 0).trans rfl; have hzgb132_1 : w291.cell? ⟨gb132, 1, none⟩ = some (.int .i64 r123) := (blk_cell BK289.out 1).trans rfl; have hzgb132_2 : w291.cell? ⟨gb132, 2, none⟩ = some (.slice A125 r124.length c126) := (blk_cell BK289.out 2).trans rfl))
  repeat (go_quiet (fail); try go_wp2)
  go_ret
  exact ⟨rfl, by repeat (first | (with_reducible first | exact HB.out | apply below_alloc | apply pw_below_drewN | apply below_drew1) | exact HB.out)⟩
end Go.Proofs.Ytnggfglmjdiaaaa.X

namespace Go.Proofs.YtnggfglmjdiaaaaZ
open Go.ChangeShapes Go.WideShapes Go.ChangeAt Go.RowKit
open Go.Proofs.YtnggfglmjdiaaaaW.PrintWords
section
variable {P : Program}
/-- A reading of type t is a value of kind d, and the value fits. -/
def Opens (P : Program) {α : Type} (d : Kd α) (t : TypeId) (fits : α → Prop) : Prop :=
 ∀ {H : Type} {enc : TypeId × Value → H} {w : World} {base : Nat} {spare : Nat → Bool} {held : Bool} {fuel : Nat} {cs : List Value} {x : DataW H × List MemPlace},
  DataW.trod enc P w base spare held fuel t cs = some x → (∀ n ∈ x.1.weights P t, n ≤ reachBytes) → ∃ v, d.K w v cs ∧ fits v
theorem Fp {k : IntKind} {t : TypeId} (ht : P.underlying t = some (.int k)) : Opens P (Kd.int k) t (fun n => (Lit.int k n).wf = true) := by
 intro H enc w base spare held fuel cs x h _
 obtain ⟨n, rfl, _, hw⟩ := DataW.trod_int ht h
 exact ⟨n, rfl, hw⟩
theorem weightsAll_mem {H : Type} {e : TypeId} {d : DataW H} {n : Nat} : ∀ {l : List (DataW H)}, d ∈ l → n ∈ d.weights P e → n ∈ DataW.weightsAll P e l
 | [], h, _ => by cases h
 | x :: r, h, hn => by
  simp only [DataW.weightsAll, List.mem_append]
  rcases List.mem_cons.1 h with rfl | h
  ·exact .inl hn
  ·exact .inr (weightsAll_mem h hn)
theorem weightsEach_mem {H : Type} {n : Nat} : ∀ {ts : List TypeId} {l : List (DataW H)} {i : Nat} {t : TypeId} {d : DataW H}, ts[i]? = some t → l[i]? = some d → n ∈ d.weights P t → n ∈ DataW.weightsEach P ts l
 | [], l, i, t, d, h, _, _ => by simp at h
 | t :: ts, [], i, _, _, _, h, _ => by simp at h
 | t :: ts, d :: l, 0, _, _, h, k, hn => by
  simp at h k; subst h k
  simp only [DataW.weightsEach, List.mem_append]; exact .inl hn
 | t :: ts, d :: l, i + 1, _, _, h, k, hn => by
  simp at h k
  simp only [DataW.weightsEach, List.mem_append]; exact .inr (weightsEach_mem h k hn)
theorem opens_slice {α : Type} (z : α) {d : Kd α} {t e : TypeId} {fits : α → Prop} (ht : P.underlying t = some (.slice e)) (hsz : P.cellsOf e = d.sz) (he : Opens P d e fits) {B : Nat} (hB : P.bytesOf e = B) :
  Opens P (Kd.slice e d) t (fun l => l.length * B ≤ 140737488351232 ∧ l.length ≤ 9223372036854775807 ∧ ∀ x ∈ l, fits x) := by
 intro H enc w base spare held fuel cs x h hw
 rcases Deep.open_slice ht h with ⟨rfl, rfl⟩ | ⟨a, len, cap, m, n, D, Pl, rfl, hb, hl, hm, hmm, rfl, hc⟩
 ·exact ⟨[], ⟨none, 0, rfl, Nat.le_refl _, Kd.C_nil d w⟩, by simp, by simp, fun x hx => by cases hx⟩
 ·have hlm : len ≤ m := by rw [hmm]; split <;> omega
  have hbnd : len * B ≤ 140737488351232 := by
   have := hw ((((List.range len).map D).length + ((List.range (m - len)).map fun j => D (len + j)).length) * P.bytesOf e) (by simp [DataW.weights, ht])
   simp only [List.length_map, List.length_range, hB] at this
   have h2 : len * B ≤ (len + (m - len)) * B := Nat.mul_le_mul_right _ (by omega)
   exact Nat.le_trans h2 this
  have hel : ∀ i, i < len → ∃ v : α, (∃ c, c.length = d.sz ∧ d.K w v c ∧ ∀ j u, c[j]? = some u → w.cell? (a.add (i * d.sz + j)) = some u) ∧ fits v := by
   intro i hi
   obtain ⟨c, h1, h2⟩ := hc i (by omega)
   obtain ⟨v, hv, hf⟩ := he h2 (fun k hk => hw k (by
    simp only [DataW.weights, ht, List.mem_cons, List.mem_append]
    exact .inr (.inl (weightsAll_mem (d := D i) (List.mem_map.2 ⟨i, List.mem_range.2 hi, rfl⟩) hk))))
   rw [hsz] at h1
   obtain ⟨_, hlen, hcell⟩ := World.cells?_some h1
   refine ⟨v, ⟨c, hlen, hv, fun j u hj => ?_⟩, hf⟩
   have hjl : j < d.sz := by rw [← hlen]; exact (List.getElem?_eq_some_iff.1 hj).1
   rw [← Deep.add_add, hcell j hjl]
   exact hj
  haveI : Inhabited α := ⟨z⟩
  obtain ⟨f, hf⟩ := Deep.choose_lt hel
  refine ⟨(List.range len).map f, ⟨some a, cap, by simp, by simpa using hl, ⟨by simp, ?_, fun _ => ⟨a, rfl, ?_⟩⟩⟩, by simpa using hbnd, by simp; unfold maxLen at hm; omega, ?_⟩
  ·simp; unfold maxLen at hm; omega
  ·intro j p hj
   have hjl : j < len := by
    have := (List.getElem?_eq_some_iff.1 hj).1
    simpa using this
   rw [List.getElem?_map, List.getElem?_range hjl] at hj
   simp only [Option.map_some, Option.some.injEq] at hj
   subst hj
   exact (hf j hjl).1
  ·intro x hx
   obtain ⟨j, hj, rfl⟩ := List.mem_map.1 hx
   exact (hf j (List.mem_range.1 hj)).2
/-- Fields from offset o on to the struct's end L, as a value of kind d. -/
def OpensF (P : Program) {α : Type} (d : Kd α) (fs : List Field) (o L : Nat) (fits : α → Prop) : Prop :=
 ∀ {H : Type} {enc : TypeId × Value → H} {w : World} {base : Nat} {spare : Nat → Bool} {held : Bool} {fuel : Nat} {cs : List Value} {xs : List (DataW H × List MemPlace)},
  cs.length = L → xs.length = fs.length → (∀ (i : Nat) (f : Field), fs[i]? = some f → DataW.trod enc P w base spare held fuel f.type ((cs.drop f.offset).take (P.cellsOf f.type)) = xs[i]?) →
  (∀ n ∈ DataW.weightsEach P (fs.map (·.type)) (xs.map (·.1)), n ≤ reachBytes) → ∃ v, d.K w v (cs.drop o) ∧ fits v
theorem opensF_one {α : Type} {d : Kd α} {f : Field} {o L : Nat} {fits : α → Prop} (t : TypeId) (hft : f.type = t) (ho : f.offset = o) (hL : o + P.cellsOf t = L) (h : Opens P d t fits) : OpensF P d [f] o L fits := by
 intro H enc w base spare held fuel cs xs hlen hxs hf hw
 match xs, hxs with
 | [x], _ =>
  have h0 := hf 0 f rfl
  rw [hft, ho, List.take_of_length_le (by rw [List.length_drop]; omega)] at h0
  exact h h0 (fun n hn => hw n (by rw [hft.symm] at hn; simp [DataW.weightsEach]; exact hn))
theorem opensF_cons {α β : Type} {d : Kd α} {d' : Kd β} {f : Field} {rest : List Field} {o o' L : Nat} {fits : α → Prop} {fits' : β → Prop} (t : TypeId) (hft : f.type = t) (ho : f.offset = o) (hn : o + P.cellsOf t = o') (h : Opens P d t fits) (hr : OpensF P d' rest o' L fits') :
  OpensF P (Kd.pair d d') (f :: rest) o L (fun p => fits p.1 ∧ fits' p.2) := by
 intro H enc w base spare held fuel cs xs hlen hxs hf hw
 match xs, hxs with
 | x :: xs, hxs =>
  have h0 := hf 0 f rfl
  rw [hft, ho] at h0
  obtain ⟨v, hv, fv⟩ := h h0 (fun n hn => hw n (by rw [hft.symm] at hn; simp [DataW.weightsEach]; exact .inl hn))
  obtain ⟨v', hv', fv'⟩ := hr (cs := cs) (xs := xs) hlen (by simpa using hxs) (fun i g hg => by simpa using hf (i + 1) g (by simpa using hg)) (fun n hn => hw n (by simp only [List.map_cons, DataW.weightsEach, List.mem_append]; exact .inr hn))
  exact ⟨(v, v'), ⟨(cs.drop o).take (P.cellsOf t), cs.drop o', by rw [← hn, ← List.drop_drop]; exact (List.take_append_drop _ _).symm, hv, hv'⟩, fv, fv'⟩
theorem Fv {α β : Type} {d : Kd α} {t : TypeId} {fs : Array Field} {L : Nat} {fits : α → Prop} {fits' : β → Prop} (ht : P.underlying t = some (.struct fs)) (hL : P.cellsOf t = L) (h : OpensF P d fs.toList 0 L fits) (g : β → α) (inv : α → β) (hinv : ∀ a, g (inv a) = a) (hf : ∀ a, fits a → fits' (inv a)) :
  Opens P (Kd.iso d g) t fits' := by
 intro H enc w base spare held fuel cs x hx hw
 obtain ⟨xs, n, rfl, rfl, hl, hlen, hff⟩ := DataW.trod_struct ht hx
 obtain ⟨v, hv, fv⟩ := h (cs := cs) (xs := xs) (by rw [hl, hL]) (by simpa using hlen) (fun i f hi => hff i f (by simpa using hi)) (fun k hk => hw k (by simp only [DataW.weights, ht]; exact hk))
 refine ⟨inv v, ?_, hf v fv⟩
 show d.K w (g (inv v)) cs
 rw [hinv]
 simpa using hv
/-- A parameter's weights are among all. -/
theorem weights_param {H : Type} {ts : List TypeId} {ds : List (DataW H)} {j : Nat} {t : TypeId} {d : DataW H} (hsz : (DataW.weightsEach P ts ds).all (· ≤ reachBytes) = true) (ht : ts[j]? = some t) (hd : ds[j]? = some d) : ∀ n ∈ d.weights P t, n ≤ reachBytes := fun n hn => by
 have := List.all_eq_true.1 hsz n (weightsEach_mem ht hd hn)
 simpa using this
end
end Go.Proofs.YtnggfglmjdiaaaaZ

namespace Go.Proofs.Ytnggfglmjdiaaaa.X
open Go.RowKit Go.Proofs.YtnggfglmjdiaaaaW.PrintWords Go.Proofs.YtnggfglmjdiaaaaW.PrintLast Go.Proofs.YtnggfglmjdiaaaaW.PrintMore
open Go.Proofs.YtnggfglmjdiaaaaZ
namespace OFnExactMakeOrder
def fitsT24 (x : S24) : Prop := (x.f0.length * 24 ≤ 140737488351232 ∧ x.f0.length ≤ 9223372036854775807 ∧ ∀ y4 ∈ x.f0, (y4.length * 8 ≤ 140737488351232 ∧ y4.length ≤ 9223372036854775807 ∧ ∀ y2 ∈ y4, (Lit.int .i64 y2).wf = true))
theorem opensT24 : Opens Try.prog k24 24 fitsT24 :=
 Fv (L := 1) Try.underlying24 (by kernel_rfl) (opensF_one 22 rfl rfl (by kernel_rfl) (opens_slice [] Try.underlying22 (by kernel_rfl) (opens_slice 0 Try.underlying73 (by kernel_rfl) (Fp Try.underlying3) (by kernel_rfl)) (by kernel_rfl))) (fun x : S24 => x.f0) (fun p => ⟨p⟩) (fun _ => rfl) (fun _ h => h)
def fitsT26 (x : S26) : Prop := (Lit.int .i64 x.f0).wf = true ∧ (x.f1.length * 24 ≤ 140737488351232 ∧ x.f1.length ≤ 9223372036854775807 ∧ ∀ y4 ∈ x.f1, (y4.length * 8 ≤ 140737488351232 ∧ y4.length ≤ 9223372036854775807 ∧ ∀ y2 ∈ y4, (Lit.int .i64 y2).wf = true))
theorem opensT26 : Opens Try.prog k26 26 fitsT26 :=
 Fv (L := 2) Try.underlying26 (by kernel_rfl) (opensF_cons (o' := 1) 3 rfl rfl (by kernel_rfl) (Fp Try.underlying3) (opensF_one 22 rfl rfl (by kernel_rfl) (opens_slice [] Try.underlying22 (by kernel_rfl) (opens_slice 0 Try.underlying73 (by kernel_rfl) (Fp Try.underlying3) (by kernel_rfl)) (by kernel_rfl)))) (fun x : S26 => (x.f0, x.f1)) (fun p => ⟨p.1, p.2⟩) (fun _ => rfl) (fun _ h => h)
def fitsT28 (x : S28) : Prop := fitsT24 x.f0 ∧ fitsT26 x.f1
theorem opensT28 : Opens Try.prog k28 28 fitsT28 :=
 Fv (L := 3) Try.underlying28 (by kernel_rfl) (opensF_cons (o' := 1) 24 rfl rfl (by kernel_rfl) opensT24 (opensF_one 26 rfl rfl (by kernel_rfl) opensT26)) (fun x : S28 => (x.f0, x.f1)) (fun p => ⟨p.1, p.2⟩) (fun _ => rfl) (fun _ h => h)
def fitsT42 (x : S42) : Prop := (Lit.int .i64 x.f0).wf = true ∧ (Lit.int .i64 x.f1).wf = true ∧ (Lit.int .i64 x.f2).wf = true
theorem opensT42 : Opens Try.prog k42 42 fitsT42 :=
 Fv (L := 3) Try.underlying42 (by kernel_rfl) (opensF_cons (o' := 1) 3 rfl rfl (by kernel_rfl) (Fp Try.underlying3) (opensF_cons (o' := 2) 3 rfl rfl (by kernel_rfl) (Fp Try.underlying3) (opensF_one 3 rfl rfl (by kernel_rfl) (Fp Try.underlying3)))) (fun x : S42 => (x.f0, x.f1, x.f2)) (fun p => ⟨p.1, p.2.1, p.2.2⟩) (fun _ => rfl) (fun _ h => h)
def Pure : Prop := ∀ (x0 : S28) (x1 : S42), fitsT28 x0 → fitsT42 x1 → ∃ k, D6.f k x0.f0.f0 x0.f1.f0 x0.f1.f1 x1.f0 x1.f1 x1.f2 = some true
end OFnExactMakeOrder
end Go.Proofs.Ytnggfglmjdiaaaa.X

namespace Go.Proofs.YtnggfglmjdiaaaaL
open Go.RowKit Go.Proofs.YtnggfglmjdiaaaaW.PrintWords
theorem ev_eq {α : Type} {g : Nat → Option α} {r : α} (h : ∀ k, g k = some r) : Ev g r := ⟨0, fun k _ => h k⟩
theorem ev_rounds {α : Type} {g : Nat → Option α} {r : α} (h : Ev g r) : ∃ k, g k = some r := h.rounds
theorem wrap_id {x : Int} (h0 : -9223372036854775808 ≤ x) (h1 : x ≤ 9223372036854775807) : wrap64 x = x := by unfold wrap64; omega
theorem wrap_succ {n : Nat} (h : n < 9223372036854775807) : wrap64 ((n : Int) + 1) = ((n + 1 : Nat) : Int) := by rw [wrap_id (by omega) (by omega)]; rfl
theorem rd_at (l : List Int) (n : Nat) (h : n < l.length) : rd l (n : Int) = l[n] := by simp [rd, List.getD_eq_getElem?_getD, List.getElem?_eq_getElem h]
/-- A list that is filled from the front. -/
def fill {α β : Type} (f : α → β) (z : β) (l : List α) (n : Nat) : List β := (l.take n).map f ++ List.replicate (l.length - n) z
theorem fill_zero {α β : Type} (f : α → β) (z : β) (l : List α) : fill f z l 0 = List.replicate l.length z := by simp [fill]
theorem fill_length {α β : Type} (f : α → β) (z : β) (l : List α) (n : Nat) (h : n ≤ l.length) : (fill f z l n).length = l.length := by simp only [fill, List.length_append, List.length_map, List.length_take, List.length_replicate]; omega
theorem fill_set {α β : Type} (f : α → β) (z : β) (l : List α) (n : Nat) (h : n < l.length) : (fill f z l n).set n (f l[n]) = fill f z l (n + 1) := by
 have e : l.length - n = (l.length - (n + 1)) + 1 := by omega
 have ht : l.take (n + 1) = l.take n ++ [l[n]] := by rw [List.take_succ_eq_append_getElem h]
 unfold fill
 rw [e, List.replicate_succ, ht, List.set_append_right _ _ (by simp; omega)]
 have : n - ((l.take n).map f).length = 0 := by simp; omega
 rw [this, List.map_append, List.append_assoc]
 rfl
theorem fill_all {α β : Type} (f : α → β) (z : β) (l : List α) : fill f z l l.length = l.map f := by simp [fill]
end Go.Proofs.YtnggfglmjdiaaaaL

namespace Go.Proofs.Ytnggfglmjdiaaaa.X
open Go.RowKit Go.Proofs.YtnggfglmjdiaaaaW.PrintWords Go.Proofs.YtnggfglmjdiaaaaL
theorem eqIntS_ev (l : List Int) (h : l.length ≤ 4611686018427387904) : Ev (fun k => Bc.f k l l) true := by
 have key : ∀ (d n : Nat), n + d = l.length → Ev (fun k => Bc.l0 k l l n) true := by
  intro d
  induction d with
  | zero => intro n hn; exact Ev.step (f := fun _ => some _) (fun k => by simp only [Bc.l0]; rw [if_neg (by omega)]) (Ev.now _)
  | succ d ih =>
   intro n hn
   refine Ev.step (f := fun k => Bc.l0 k l l ((n + 1 : Nat) : Int)) (fun k => ?_) (ih (n + 1) (by omega))
   simp only [Bc.l0]
   rw [if_pos (by omega), if_pos (by omega), if_pos (by omega), wrap_succ (by omega)]
   simp
 exact Ev.congr (f := fun k => Bc.l0 k l l ((0 : Nat) : Int)) (fun k => by unfold Bc.f; rw [if_pos rfl]; rfl) (key l.length 0 (by omega))
theorem rdR (l : List (List Int)) (n : Nat) (h : n < l.length) : rd_L1 l (n : Int) = l[n] := by simp [rd_L1, List.getD_eq_getElem?_getD, List.getElem?_eq_getElem h]
theorem eqIntSS_ev (l : List (List Int)) (h : l.length ≤ 1048576) (hr : ∀ s ∈ l, s.length ≤ 1048576) : Ev (fun k => Ak.f k l l) true := by
 have key : ∀ (d n : Nat), n + d = l.length → Ev (fun k => Ak.l0 k l l n) true := by
  intro d
  induction d with
  | zero => intro n hn; exact Ev.step (f := fun _ => some _) (fun k => by simp only [Ak.l0]; rw [if_neg (by omega)]) (Ev.now _)
  | succ d ih =>
   intro n hn
   have hnl : n < l.length := by omega
   have hm := hr _ (List.getElem_mem hnl)
   refine Ev.step (f := fun k => (Bc.f k l[n] l[n]).bind fun t => if t = true then Ak.l0 k l l ((n + 1 : Nat) : Int) else some false) (fun k => ?_) (Ev.bind (eqIntS_ev l[n] (by have : l[n].length ≤ 1048576 := hm; omega)) ?_)
   ·simp only [Ak.l0]
    rw [if_pos (by omega), if_pos (by omega), if_pos (by omega), rdR l n hnl, wrap_succ (by omega)]
   ·simp only [if_true]; exact ih (n + 1) (by omega)
 exact Ev.congr (f := fun k => Ak.l0 k l l ((0 : Nat) : Int)) (fun k => by unfold Ak.f; rw [if_pos rfl]; rfl) (key l.length 0 (by omega))
theorem szIntS_eq (l : List Int) (a : Int) (h0 : 0 ≤ a) (h1 : a ≤ 1048576) (hl : l.length ≤ 4611686018427387904) : Eu.f l a = some (if a - (l.length : Int) < 0 then -1 else a - (l.length : Int)) := by
 unfold Eu.f
 rw [wrap_id (by omega) (by omega)]
 split <;> rfl
theorem szIntSS_ev (l : List (List Int)) (a : Int) (h0 : 0 ≤ a) (h1 : a ≤ 1048576) (hl : l.length ≤ 4611686018427387904) (hr : ∀ s ∈ l, s.length ≤ 4611686018427387904) :
  ∃ r, Ev (fun k => Am.f k l a) r ∧ (r < 0 ∨ (0 ≤ r ∧ r ≤ a ∧ (l.length : Int) ≤ a ∧ ∀ s ∈ l, (s.length : Int) ≤ a)) := by
 have key : ∀ (d n : Nat) (x : Int), n + d = l.length → 0 ≤ x → x ≤ a → ∃ r, Ev (fun k => Am.l0 k l x n) r ∧ (r < 0 ∨ (0 ≤ r ∧ r ≤ x ∧ ∀ s ∈ l.drop n, (s.length : Int) ≤ a)) := by
  intro d
  induction d with
  | zero =>
   intro n x hn hx0 hxa
   exact ⟨x, Ev.step (f := fun _ => some _) (fun k => by simp only [Am.l0]; rw [if_neg (by omega)]) (Ev.now _), .inr ⟨hx0, Int.le_refl _, by rw [List.drop_of_length_le (by omega)]; simp⟩⟩
  | succ d ih =>
   intro n x hn hx0 hxa
   have hnl : n < l.length := by omega
   have hm := hr _ (List.getElem_mem hnl)
   by_cases c : x - (l[n].length : Int) < 0
   ·refine ⟨-1, Ev.step (f := fun _ => some (-1)) (fun k => ?_) (Ev.now _), .inl (by decide)⟩
    simp only [Am.l0]
    rw [if_pos (by omega), if_pos (by omega), rdR l n hnl, szIntS_eq _ _ hx0 (by omega) hm, if_pos c]
    rfl
   ·obtain ⟨r, hev, hq⟩ := ih (n + 1) (x - (l[n].length : Int)) (by omega) (by omega) (by omega)
    refine ⟨r, Ev.step (fun k => ?_) hev, hq.imp id (fun z => ⟨z.1, by omega, ?_⟩)⟩
    ·simp only [Am.l0]
     rw [if_pos (by omega), if_pos (by omega), rdR l n hnl, szIntS_eq _ _ hx0 (by omega) hm, if_neg c]
     simp only [Option.bind_some]
     rw [if_neg c, wrap_succ (by omega)]
    ·rw [List.drop_eq_getElem_cons hnl]
     intro s hs
     rcases List.mem_cons.1 hs with rfl | hs
     ·omega
     ·exact z.2.2 s hs
 by_cases c : a - (l.length : Int) < 0
 ·exact ⟨-1, ev_eq (fun k => by unfold Am.f; rw [wrap_id (by omega) (by omega), if_pos c]), .inl (by decide)⟩
 ·obtain ⟨r, hev, hq⟩ := key l.length 0 (a - (l.length : Int)) (by omega) (by omega) (by omega)
  refine ⟨r, Ev.congr (fun k => by unfold Am.f; rw [wrap_id (by omega) (by omega), if_neg c]; rfl) hev, hq.imp id (fun z => ⟨z.1, by omega, by omega, by simpa using z.2.2⟩)⟩
theorem toIntS_ev (l : List Int) (h : l.length ≤ 1048576) : Ev (fun k => Bf.f k l) l := by
 have key : ∀ (d n : Nat), n + d = l.length → Ev (fun k => Bf.l0 k l (fill id (0 : Int) l n) n) l := by
  intro d
  induction d with
  | zero =>
   intro n hn
   obtain rfl : n = l.length := by omega
   have e : fill id (0 : Int) l l.length = l := by rw [fill_all]; simp
   rw [e]
   exact Ev.step (f := fun _ => some _) (fun k => by simp only [Bf.l0]; rw [if_neg (by omega)]) (Ev.now _)
  | succ d ih =>
   intro n hn
   have hnl : n < l.length := by omega
   refine Ev.step (fun k => ?_) (ih (n + 1) (by omega))
   simp only [Bf.l0]
   rw [if_pos (by omega), if_pos (by omega), fill_length id _ l n (by omega), if_pos (by omega), rd_at l n hnl, wrap_succ (by omega), Int.toNat_natCast, ← fill_set id _ l n hnl]
   rfl
 refine Ev.congr (fun k => ?_) (key l.length 0 (by omega))
 unfold Bf.f
 rw [if_pos (by omega), if_pos (by omega), fill_zero, Int.toNat_natCast]
 rfl
theorem toIntSS_ev (l : List (List Int)) (h : l.length ≤ 1048576) (hr : ∀ s ∈ l, s.length ≤ 1048576) : Ev (fun k => Au.f k l) l := by
 have key : ∀ (d n : Nat), n + d = l.length → Ev (fun k => Au.l0 k l (fill id ([] : List Int) l n) n) l := by
  intro d
  induction d with
  | zero =>
   intro n hn
   obtain rfl : n = l.length := by omega
   have e : fill id ([] : List Int) l l.length = l := by rw [fill_all]; simp
   rw [e]
   exact Ev.step (f := fun _ => some _) (fun k => by simp only [Au.l0]; rw [if_neg (by omega)]) (Ev.now _)
  | succ d ih =>
   intro n hn
   have hnl : n < l.length := by omega
   refine Ev.step (f := fun k => (Bf.f k l[n]).bind fun t => Au.l0 k l ((fill id ([] : List Int) l n).set n t) ((n + 1 : Nat) : Int)) (fun k => ?_) (Ev.bind (toIntS_ev _ (hr _ (List.getElem_mem hnl))) ?_)
   ·simp only [Au.l0, fill_length id _ l n (show n ≤ l.length by omega)]
    rw [if_pos (by omega), if_pos (by omega), rdR l n hnl]
    simp only [if_pos (show (n : Int) < (l.length : Int) by omega), wrap_succ (show n < 9223372036854775807 by omega), Int.toNat_natCast]
   ·have e : (fill id ([] : List Int) l n).set n l[n] = fill id ([] : List Int) l (n + 1) := by rw [← fill_set id _ l n hnl]; rfl
    rw [e]
    exact ih (n + 1) (by omega)
 refine Ev.congr (fun k => ?_) (key l.length 0 (by omega))
 unfold Au.f
 rw [if_pos (by omega), if_pos (by omega), fill_zero, Int.toNat_natCast]
 rfl
theorem l1In_eq2 (a b c : Int) : Ba.f a b c = some (decide (b ≤ a) && decide (a ≤ c)) := by
 unfold Ba.f
 by_cases h : a ≥ b
 ·rw [if_pos h]; simp [show b ≤ a from h]
 ·rw [if_neg h]; simp [show ¬ b ≤ a from h]
theorem has_ev (S : List Int) (n : Int) (hS : S.length ≤ 1048576) : Ev (fun k => Ah.f k S n) (decide (n ∈ S)) := by
 have key : ∀ (d i : Nat), i + d = S.length → Ev (fun k => Ah.l0 k S n i) (decide (n ∈ S.drop i)) := by
  intro d
  induction d with
  | zero =>
   intro i hi
   rw [List.drop_of_length_le (by omega)]
   exact Ev.step (f := fun _ => some _) (fun k => by simp only [Ah.l0]; rw [if_neg (by omega)]; simp) (Ev.now _)
  | succ d ih =>
   intro i hi
   have hil : i < S.length := by omega
   rw [List.drop_eq_getElem_cons hil]
   by_cases c : S[i] = n
   ·have e : decide (n ∈ S[i] :: S.drop (i + 1)) = true := decide_eq_true (by rw [c]; exact List.mem_cons_self)
    rw [e]
    exact Ev.step (f := fun _ => some _) (fun k => by simp only [Ah.l0]; rw [if_pos (by omega), if_pos (by omega), rd_at S i hil, if_pos c]) (Ev.now _)
   ·have e : decide (n ∈ S[i] :: S.drop (i + 1)) = decide (n ∈ S.drop (i + 1)) := by
     rw [decide_eq_decide, List.mem_cons]
     exact ⟨fun z => z.elim (fun y => absurd y.symm c) id, .inr⟩
    rw [e]
    refine Ev.step (fun k => ?_) (ih (i + 1) (by omega))
    simp only [Ah.l0]
    rw [if_pos (by omega), if_pos (by omega), rd_at S i hil, if_neg c, wrap_succ (by omega)]
 exact Ev.congr (f := fun k => Ah.l0 k S n ((0 : Nat) : Int)) (fun k => rfl) (by simpa using key S.length 0 (by omega))
theorem spec_l5Good_loop (l : List (List Int)) (hl : l.length ≤ 6) : ∀ (d i : Nat) (S : List Int), i + d = l.length → S.length ≤ 4 * i → Ev (fun k => Ag.l0 k S i l) (Di 4 S (l.drop i)) := by
 intro d
 induction d with
 | zero =>
  intro i S hi hS
  rw [List.drop_of_length_le (by omega)]
  exact Ev.step (f := fun _ => some _) (fun k => by simp only [Ag.l0]; rw [if_neg (by omega)]; rfl) (Ev.now _)
 | succ d ih =>
  intro i S hi hS
  have hil : i < l.length := by omega
  rw [List.drop_eq_getElem_cons hil]
  by_cases c : (l[i].length : Int) > 4
  ·rw [Fj 4 _ _ _ c]
   refine Ev.step (f := fun _ => some false) (fun k => ?_) (Ev.now _)
   simp only [Ag.l0]
   rw [if_pos (by omega), if_pos (by omega), rdR l i hil, if_pos c]
  ·rw [goodRows_in 4 _ _ _ c]
   have inner : ∀ (e j : Nat) (S2 : List Int), j + e = l[i].length → S2.length ≤ 4 * i + j → Ev (fun k => Ag.l1 k S2 i j l) (En 4 S2 (l[i].drop j) (l.drop (i + 1))) := by
    intro e
    induction e with
    | zero =>
     intro j S2 hj hS2
     rw [List.drop_of_length_le (by omega), F5]
     refine Ev.step (fun k => ?_) (ih (i + 1) S2 (by omega) (by omega))
     simp only [Ag.l1]
     rw [if_pos (by omega), if_pos (by omega), rdR l i hil, if_neg (by omega), wrap_succ (by omega)]
    | succ e ih2 =>
     intro j S2 hj hS2
     have hjl : j < l[i].length := by omega
     rw [List.drop_eq_getElem_cons hjl]
     have hn := rd_at l[i] j hjl
     refine Ev.step (f := fun k => if (decide ((1 : Int) ≤ l[i][j]) && decide (l[i][j] ≤ 99)) = true then ((Ah.f k S2 l[i][j]).bind fun t => if t = true then some false else Ag.l1 k (S2 ++ [l[i][j]]) i ((j + 1 : Nat) : Int) l) else some false) (fun k => ?_) ?_
     ·simp only [Ag.l1]
      rw [if_pos (by omega), if_pos (by omega), rdR l i hil, if_pos (by omega), if_pos (by omega), hn, l1In_eq2]
      simp only [Option.bind_some, if_pos (show S2.length < 17592186044416 by omega), wrap_succ (show j < 9223372036854775807 by omega)]
     ·generalize hnn : l[i][j] = n
      rw [hnn] at *
      cases c4 : (decide (1 ≤ n) && decide (n ≤ 99)) with
      | false =>
       rw [Em 4 S2 n _ _ (.inl (fun z => by simp [z.1, z.2] at c4))]
       exact ev_eq (fun k => if_neg (by simp))
      | true =>
       have hn1 : 1 ≤ n ∧ n ≤ 99 := by simpa using c4
       simp only [if_true]
       refine Ev.bind (has_ev S2 n (by omega)) ?_
       cases c5 : decide (n ∈ S2) with
       | true =>
        rw [Em 4 S2 n _ _ (.inr c5)]
        simp only [if_true]; exact Ev.now _
       | false =>
        rw [Fq 4 S2 n _ _ hn1.1 hn1.2 c5]
        simp only [Bool.false_eq_true, if_false]
        exact ih2 (j + 1) (S2 ++ [n]) (by omega) (by simp; omega)
   refine Ev.step (fun k => ?_) (inner l[i].length 0 S (by omega) (by omega))
   simp only [Ag.l0]
   rw [if_pos (by omega), if_pos (by omega), rdR l i hil, if_neg c]
   rfl
theorem spec_l9Good_loop (m : Int) (l : List (List Int)) (hl : l.length ≤ 6) (hm : m ≤ 4) : ∀ (d i : Nat) (S : List Int), i + d = l.length → S.length ≤ 4 * i → Ev (fun k => Ae.l0 k S i m l) (Di m S (l.drop i)) := by
 intro d
 induction d with
 | zero =>
  intro i S hi hS
  rw [List.drop_of_length_le (by omega)]
  exact Ev.step (f := fun _ => some _) (fun k => by simp only [Ae.l0]; rw [if_neg (by omega)]; rfl) (Ev.now _)
 | succ d ih =>
  intro i S hi hS
  have hil : i < l.length := by omega
  rw [List.drop_eq_getElem_cons hil]
  by_cases c : (l[i].length : Int) > m
  ·rw [Fj m _ _ _ c]
   refine Ev.step (f := fun _ => some false) (fun k => ?_) (Ev.now _)
   simp only [Ae.l0]
   rw [if_pos (by omega), if_pos (by omega), rdR l i hil, if_pos c]
  ·rw [goodRows_in m _ _ _ c]
   have inner : ∀ (e j : Nat) (S2 : List Int), j + e = l[i].length → S2.length ≤ 4 * i + j → Ev (fun k => Ae.l1 k S2 i j m l) (En m S2 (l[i].drop j) (l.drop (i + 1))) := by
    intro e
    induction e with
    | zero =>
     intro j S2 hj hS2
     rw [List.drop_of_length_le (by omega), F5]
     refine Ev.step (fun k => ?_) (ih (i + 1) S2 (by omega) (by omega))
     simp only [Ae.l1]
     rw [if_pos (by omega), if_pos (by omega), rdR l i hil, if_neg (by omega), wrap_succ (by omega)]
    | succ e ih2 =>
     intro j S2 hj hS2
     have hjl : j < l[i].length := by omega
     rw [List.drop_eq_getElem_cons hjl]
     have hn := rd_at l[i] j hjl
     refine Ev.step (f := fun k => if (decide ((1 : Int) ≤ l[i][j]) && decide (l[i][j] ≤ 99)) = true then ((Ah.f k S2 l[i][j]).bind fun t => if t = true then some false else Ae.l1 k (S2 ++ [l[i][j]]) i ((j + 1 : Nat) : Int) m l) else some false) (fun k => ?_) ?_
     ·simp only [Ae.l1]
      rw [if_pos (by omega), if_pos (by omega), rdR l i hil, if_pos (by omega), if_pos (by omega), hn, l1In_eq2]
      simp only [Option.bind_some, if_pos (show S2.length < 17592186044416 by omega), wrap_succ (show j < 9223372036854775807 by omega)]
     ·generalize hnn : l[i][j] = n
      rw [hnn] at *
      cases c4 : (decide (1 ≤ n) && decide (n ≤ 99)) with
      | false =>
       rw [Em m S2 n _ _ (.inl (fun z => by simp [z.1, z.2] at c4))]
       exact ev_eq (fun k => if_neg (by simp))
      | true =>
       have hn1 : 1 ≤ n ∧ n ≤ 99 := by simpa using c4
       simp only [if_true]
       refine Ev.bind (has_ev S2 n (by omega)) ?_
       cases c5 : decide (n ∈ S2) with
       | true =>
        rw [Em m S2 n _ _ (.inr c5)]
        simp only [if_true]; exact Ev.now _
       | false =>
        rw [Fq m S2 n _ _ hn1.1 hn1.2 c5]
        simp only [Bool.false_eq_true, if_false]
        exact ih2 (j + 1) (S2 ++ [n]) (by omega) (by simp; omega)
   refine Ev.step (fun k => ?_) (inner l[i].length 0 S (by omega) (by omega))
   simp only [Ae.l0]
   rw [if_pos (by omega), if_pos (by omega), rdR l i hil, if_neg c]
   rfl
def yardOk (l : List (List Int)) : Bool := (decide ((1 : Int) ≤ (l.length : Int)) && decide ((l.length : Int) ≤ 6)) && Di 4 [] l
def bayOk (h : Int) (l : List (List Int)) : Bool := (decide ((1 : Int) ≤ h) && decide (h ≤ 4)) && (decide ((1 : Int) ≤ (l.length : Int)) && decide ((l.length : Int) ≤ 5)) && Di h [] l
theorem implYard_eq (l : List (List Int)) : D7.f l = some (yardOk l) := rfl
theorem implBay_eq (h : Int) (l : List (List Int)) : D5.f h l = some (bayOk h l) := rfl
theorem specYard_ev (l : List (List Int)) : Ev (fun k => Ag.f k l) (yardOk l) := by
 unfold Ag.f yardOk
 rw [l1In_eq2]
 simp only [Option.bind_some]
 cases c : (decide ((1 : Int) ≤ (l.length : Int)) && decide ((l.length : Int) ≤ 6)) with
 | false => simp only [Bool.false_eq_true, if_false, Bool.false_and]; exact Ev.now _
 | true =>
  have h6 : l.length ≤ 6 := by simp at c; omega
  simp only [if_true, Bool.true_and]
  exact spec_l5Good_loop l h6 l.length 0 [] (by omega) (by simp)
theorem specBay_ev (h : Int) (l : List (List Int)) : Ev (fun k => Ae.f k h l) (bayOk h l) := by
 unfold Ae.f bayOk
 simp only [l1In_eq2, Option.bind_some]
 cases c : (decide ((1 : Int) ≤ h) && decide (h ≤ 4)) with
 | false =>
  simp only [Bool.false_eq_true, if_false, Bool.false_and]
  exact Ev.step (f := fun _ => some _) (fun k => by simp only [Ae.j0]; rw [if_pos trivial]) (Ev.now _)
 | true =>
  have h4 : h ≤ 4 := by simp at c; omega
  simp only [if_true, Bool.true_and]
  cases c2 : (decide ((1 : Int) ≤ (l.length : Int)) && decide ((l.length : Int) ≤ 5)) with
  | false =>
   simp only [Bool.not_false, Bool.false_and]
   exact Ev.step (f := fun _ => some _) (fun k => by simp only [Ae.j0]; rw [if_pos trivial]) (Ev.now _)
  | true =>
   have h5 : l.length ≤ 5 := by simp at c2; omega
   simp only [Bool.not_true, Bool.true_and]
   refine Ev.step (f := fun k => Ae.l0 k [] ((0 : Nat) : Int) h l) (fun k => ?_) (by simpa using spec_l9Good_loop h l (by omega) h4 l.length 0 [] (by omega) (by simp))
   simp only [Ae.j0]
   rw [if_neg (by decide)]
   rfl
-- where a number stands
def idxFrom : Nat → List Int → Int → Int
 | _, [], _ => -1
 | k, x :: r, n => if x = n then (k : Int) else idxFrom (k + 1) r n
def findFrom : Nat → List (List Int) → Int → Int × Int
 | _, [], _ => (-1, -1)
 | i, s :: r, n => if idxFrom 0 s n ≥ 0 then ((i : Int), idxFrom 0 s n) else findFrom (i + 1) r n
theorem index_ev (s : List Int) (n : Int) (hs : s.length ≤ 1048576) : Ev (fun k => Af.f k s n) (idxFrom 0 s n) := by
 have key : ∀ (d i : Nat), i + d = s.length → Ev (fun k => Af.l0 k s n (s.length : Int) i) (idxFrom i (s.drop i) n) := by
  intro d
  induction d with
  | zero =>
   intro i hi
   rw [List.drop_of_length_le (by omega)]
   exact Ev.step (f := fun _ => some _) (fun k => by simp only [Af.l0]; rw [if_neg (by omega)]; rfl) (Ev.now _)
  | succ d ih =>
   intro i hi
   have hil : i < s.length := by omega
   rw [List.drop_eq_getElem_cons hil]
   unfold idxFrom
   by_cases c : s[i] = n
   ·rw [if_pos c]
    exact Ev.step (f := fun _ => some _) (fun k => by simp only [Af.l0]; rw [if_pos (by omega), if_pos (by omega), if_pos (by omega), rd_at s i hil, if_pos c.symm]) (Ev.now _)
   ·rw [if_neg c]
    refine Ev.step (fun k => ?_) (ih (i + 1) (by omega))
    simp only [Af.l0]
    rw [if_pos (by omega), if_pos (by omega), if_pos (by omega), rd_at s i hil, if_neg (fun z => c z.symm), wrap_succ (by omega)]
 exact Ev.congr (f := fun k => Af.l0 k s n (s.length : Int) ((0 : Nat) : Int)) (fun k => rfl) (by simpa using key s.length 0 (by omega))
def rowsOk (l : List (List Int)) : Prop := l.length ≤ 1048576 ∧ ∀ s ∈ l, s.length ≤ 1048576
theorem place_ev (l : List (List Int)) (n : Int) (hl : rowsOk l) : Ev (fun k => Aq.f k l n) (findFrom 0 l n) := by
 have key : ∀ (d i : Nat), i + d = l.length → Ev (fun k => Aq.l0 k n l (l.length : Int) i) (findFrom i (l.drop i) n) := by
  intro d
  induction d with
  | zero =>
   intro i hi
   rw [List.drop_of_length_le (by omega)]
   exact Ev.step (f := fun _ => some _) (fun k => by simp only [Aq.l0]; rw [if_neg (by omega)]; rfl) (Ev.now _)
  | succ d ih =>
   intro i hi
   have hil : i < l.length := by omega
   rw [List.drop_eq_getElem_cons hil]
   unfold findFrom
   refine Ev.step (f := fun k => (Af.f k l[i] n).bind fun t => if t ≥ 0 then some ((i : Int), t) else Aq.l0 k n l (l.length : Int) ((i + 1 : Nat) : Int)) (fun k => ?_) (Ev.bind (index_ev _ n (hl.2 _ (List.getElem_mem hil))) ?_)
   ·have := hl.1
    simp only [Aq.l0]
    rw [if_pos (by omega), if_pos (by omega), if_pos (by omega), rdR l i hil, wrap_succ (by omega)]
   ·by_cases c : idxFrom 0 l[i] n ≥ 0
    ·simp only [if_pos c]; exact Ev.now _
    ·simp only [if_neg c]; exact ih (i + 1) (by omega)
 exact Ev.congr (f := fun k => Aq.l0 k n l (l.length : Int) ((0 : Nat) : Int)) (fun k => rfl) (by simpa using key l.length 0 (by omega))
theorem spec_l5Find_ev (l : List (List Int)) (n : Int) (hl : rowsOk l) : Ev (fun k => spec_l5Find.f k l n) (findFrom 0 l n) := by
 have key : ∀ (d i : Nat), i + d = l.length → Ev (fun k => spec_l5Find.l0 k n i l) (findFrom i (l.drop i) n) := by
  intro d
  induction d with
  | zero =>
   intro i hi
   rw [List.drop_of_length_le (by omega)]
   exact Ev.step (f := fun _ => some _) (fun k => by simp only [spec_l5Find.l0]; rw [if_neg (by omega)]; rfl) (Ev.now _)
  | succ d ih =>
   intro i hi
   have hil : i < l.length := by omega
   have hs := hl.2 _ (List.getElem_mem hil)
   have hl1 := hl.1
   rw [List.drop_eq_getElem_cons hil]
   unfold findFrom
   have inner : ∀ (e j : Nat), j + e = l[i].length → Ev (fun k => spec_l5Find.l1 k n i j l) (if idxFrom j (l[i].drop j) n ≥ 0 then ((i : Int), idxFrom j (l[i].drop j) n) else findFrom (i + 1) (l.drop (i + 1)) n) := by
    intro e
    induction e with
    | zero =>
     intro j hj
     rw [List.drop_of_length_le (by omega)]
     refine Ev.step (fun k => ?_) (ih (i + 1) (by omega))
     simp only [spec_l5Find.l1]
     rw [if_pos (by omega), if_pos (by omega), rdR l i hil, if_neg (by omega), wrap_succ (by omega)]
    | succ e ih2 =>
     intro j hj
     have hjl : j < l[i].length := by omega
     rw [List.drop_eq_getElem_cons hjl]
     unfold idxFrom
     by_cases c : l[i][j] = n
     ·simp only [if_pos c, if_pos (show (j : Int) ≥ 0 by omega)]
      refine Ev.step (f := fun _ => some _) (fun k => ?_) (Ev.now _)
      simp only [spec_l5Find.l1]
      rw [if_pos (by omega), if_pos (by omega), rdR l i hil, if_pos (by omega), if_pos (by omega), rd_at l[i] j hjl, if_pos c]
     ·simp only [if_neg c]
      refine Ev.step (fun k => ?_) (ih2 (j + 1) (by omega))
      simp only [spec_l5Find.l1]
      rw [if_pos (by omega), if_pos (by omega), rdR l i hil, if_pos (by omega), if_pos (by omega), rd_at l[i] j hjl, if_neg c, wrap_succ (by omega)]
   refine Ev.step (fun k => ?_) (inner l[i].length 0 (by omega))
   simp only [spec_l5Find.l0]
   rw [if_pos (by omega)]
   rfl
 exact Ev.congr (f := fun k => spec_l5Find.l0 k n ((0 : Nat) : Int) l) (fun k => rfl) (by simpa using key l.length 0 (by omega))
/-- None of a row's numbers stands in a yard. -/
def apart (Y : List (List Int)) (s : List Int) : Bool := s.all fun n => decide ((findFrom 0 Y n).1 < 0)
def termOk (Y : List (List Int)) (h : Int) (S : List (List Int)) : Bool := yardOk Y && bayOk h S && S.all (apart Y)
theorem spec_l24Good_loop (Y : List (List Int)) (h : Int) (S : List (List Int)) (hY : rowsOk Y) (hS : rowsOk S) : ∀ (d i : Nat), i + d = S.length → Ev (fun k => Ad.l0 k i Y h S) ((S.drop i).all (apart Y)) := by
 have hS1 := hS.1
 intro d
 induction d with
 | zero =>
  intro i hi
  rw [List.drop_of_length_le (by omega)]
  exact Ev.step (f := fun _ => some _) (fun k => by simp only [Ad.l0]; rw [if_neg (by omega)]; rfl) (Ev.now _)
 | succ d ih =>
  intro i hi
  have hil : i < S.length := by omega
  have hs := hS.2 _ (List.getElem_mem hil)
  rw [List.drop_eq_getElem_cons hil, List.all_cons]
  have inner : ∀ (e j : Nat), j + e = S[i].length → Ev (fun k => Ad.l1 k i j Y h S) (apart Y (S[i].drop j) && (S.drop (i + 1)).all (apart Y)) := by
   intro e
   induction e with
   | zero =>
    intro j hj
    rw [List.drop_of_length_le (by omega)]
    refine Ev.step (fun k => ?_) (by simpa [apart] using ih (i + 1) (by omega))
    simp only [Ad.l1]
    rw [if_pos (by omega), if_pos (by omega), rdR S i hil, if_neg (by omega), wrap_succ (by omega)]
    rfl
   | succ e ih2 =>
    intro j hj
    have hjl : j < S[i].length := by omega
    rw [List.drop_eq_getElem_cons hjl]
    refine Ev.step (f := fun k => (spec_l5Find.f k Y S[i][j]).bind fun t => if t.1 ≥ 0 then some false else Ad.l1 k i ((j + 1 : Nat) : Int) Y h S) (fun k => ?_) (Ev.bind (spec_l5Find_ev Y _ hY) ?_)
    ·simp only [Ad.l1]
     rw [if_pos (by omega), if_pos (by omega), rdR S i hil, if_pos (by omega), if_pos (by omega), rd_at S[i] j hjl, wrap_succ (by omega)]
    ·by_cases c : (findFrom 0 Y S[i][j]).1 ≥ 0
     ·have e1 : apart Y (S[i][j] :: S[i].drop (j + 1)) = false := by simp only [apart, List.all_cons, decide_eq_false (show ¬ (findFrom 0 Y S[i][j]).1 < 0 by omega), Bool.false_and]
      simp only [if_pos c, e1, Bool.false_and]; exact Ev.now _
     ·have e1 : apart Y (S[i][j] :: S[i].drop (j + 1)) = apart Y (S[i].drop (j + 1)) := by simp only [apart, List.all_cons, decide_eq_true (show (findFrom 0 Y S[i][j]).1 < 0 by omega), Bool.true_and]
      simp only [if_neg c, e1]; exact ih2 (j + 1) (by omega)
  refine Ev.step (fun k => ?_) (inner S[i].length 0 (by omega))
  simp only [Ad.l0]
  rw [if_pos (by omega)]
  rfl
theorem F8 (Y : List (List Int)) (h : Int) (S : List (List Int)) (hY : rowsOk Y) (hS : rowsOk S) : ∀ (d i : Nat), i + d = S.length → Ev (fun k => impl_IsValidTerminal.l0 k S (S.length : Int) i Y h S) ((S.drop i).all (apart Y)) := by
 have hS1 := hS.1
 intro d
 induction d with
 | zero =>
  intro i hi
  rw [List.drop_of_length_le (by omega)]
  exact Ev.step (f := fun _ => some _) (fun k => by simp only [impl_IsValidTerminal.l0]; rw [if_neg (by omega)]; rfl) (Ev.now _)
 | succ d ih =>
  intro i hi
  have hil : i < S.length := by omega
  have hs := hS.2 _ (List.getElem_mem hil)
  rw [List.drop_eq_getElem_cons hil, List.all_cons]
  have inner : ∀ (e j : Nat), j + e = S[i].length → Ev (fun k => impl_IsValidTerminal.l1 k S (S.length : Int) i S[i] (S[i].length : Int) j Y h S) (apart Y (S[i].drop j) && (S.drop (i + 1)).all (apart Y)) := by
   intro e
   induction e with
   | zero =>
    intro j hj
    rw [List.drop_of_length_le (by omega)]
    refine Ev.step (fun k => ?_) (by simpa [apart] using ih (i + 1) (by omega))
    simp only [impl_IsValidTerminal.l1]
    rw [if_neg (by omega), wrap_succ (by omega)]
    rfl
   | succ e ih2 =>
    intro j hj
    have hjl : j < S[i].length := by omega
    rw [List.drop_eq_getElem_cons hjl]
    refine Ev.step (f := fun k => (Aq.f k Y S[i][j]).bind fun t => if t.1 ≥ 0 then some false else impl_IsValidTerminal.l1 k S (S.length : Int) i S[i] (S[i].length : Int) ((j + 1 : Nat) : Int) Y h S) (fun k => ?_) (Ev.bind (place_ev Y _ hY) ?_)
    ·simp only [impl_IsValidTerminal.l1]
     rw [if_pos (by omega), if_pos (by omega), if_pos (by omega), rd_at S[i] j hjl, wrap_succ (by omega)]
    ·by_cases c : (findFrom 0 Y S[i][j]).1 ≥ 0
     ·have e1 : apart Y (S[i][j] :: S[i].drop (j + 1)) = false := by simp only [apart, List.all_cons, decide_eq_false (show ¬ (findFrom 0 Y S[i][j]).1 < 0 by omega), Bool.false_and]
      simp only [if_pos c, e1, Bool.false_and]; exact Ev.now _
     ·have e1 : apart Y (S[i][j] :: S[i].drop (j + 1)) = apart Y (S[i].drop (j + 1)) := by simp only [apart, List.all_cons, decide_eq_true (show (findFrom 0 Y S[i][j]).1 < 0 by omega), Bool.true_and]
      simp only [if_neg c, e1]; exact ih2 (j + 1) (by omega)
  refine Ev.step (fun k => ?_) (inner S[i].length 0 (by omega))
  simp only [impl_IsValidTerminal.l0]
  rw [if_pos (by omega), if_pos (by omega), if_pos (by omega), rdR S i hil]
  rfl
theorem specTerm_ev (Y : List (List Int)) (h : Int) (S : List (List Int)) (hY : rowsOk Y) (hS : rowsOk S) : Ev (fun k => Ad.f k Y h S) (termOk Y h S) := by
 have stop : Ev (fun k => Ad.j0 k true Y h S) false := Ev.step (f := fun _ => some _) (fun k => by simp only [Ad.j0]; rw [if_pos trivial]) (Ev.now _)
 unfold Ad.f termOk
 refine Ev.bind (specYard_ev Y) ?_
 cases c : yardOk Y with
 | false => simp only [Bool.false_eq_true, if_false, Bool.false_and]; exact stop
 | true =>
  simp only [if_true, Bool.true_and]
  refine Ev.bind (specBay_ev h S) ?_
  cases c2 : bayOk h S with
  | false => simp only [Bool.not_false, Bool.false_and]; exact stop
  | true =>
   simp only [Bool.not_true, Bool.true_and]
   refine Ev.step (fun k => ?_) (by simpa using spec_l24Good_loop Y h S hY hS S.length 0 (by omega))
   simp only [Ad.j0]
   rw [if_neg (by decide)]
theorem implTerm_ev (Y : List (List Int)) (h : Int) (S : List (List Int)) (hY : rowsOk Y) (hS : rowsOk S) : Ev (fun k => impl_IsValidTerminal.f k Y h S) (termOk Y h S) := by
 have stop : Ev (fun k => impl_IsValidTerminal.j0 k true Y h S) false := Ev.step (f := fun _ => some _) (fun k => by simp only [impl_IsValidTerminal.j0]; rw [if_pos trivial]) (Ev.now _)
 unfold impl_IsValidTerminal.f termOk
 rw [implYard_eq]
 simp only [Option.bind_some]
 cases c : yardOk Y with
 | false => simp only [Bool.false_eq_true, if_false, Bool.false_and]; exact stop
 | true =>
  simp only [if_true, Bool.true_and]
  rw [implBay_eq]
  simp only [Option.bind_some]
  cases c2 : bayOk h S with
  | false => simp only [Bool.not_false, Bool.false_and]; exact stop
  | true =>
   simp only [Bool.not_true, Bool.true_and]
   refine Ev.step (fun k => ?_) (by simpa using F8 Y h S hY hS S.length 0 (by omega))
   simp only [impl_IsValidTerminal.j0]
   rw [if_neg (by decide)]
theorem szTerm_le (Y : List (List Int)) (h : Int) (S : List (List Int)) (hY : Y.length ≤ 4611686018427387904) (hYr : ∀ s ∈ Y, s.length ≤ 4611686018427387904) (hS : S.length ≤ 4611686018427387904) (hSr : ∀ s ∈ S, s.length ≤ 4611686018427387904) :
  ∃ r, Ev (fun k => C9.f k Y h S 1048576) r ∧ (¬ r < 0 → r ≤ 1048576 ∧ rowsOk Y ∧ rowsOk S) := by
 unfold C9.f Du.f Dz.f
 obtain ⟨r, hr, hq⟩ := szIntSS_ev Y 1048576 (by omega) (by omega) hY hYr
 by_cases c : r < 0
 ·refine ⟨-1, Ev.bind (Ev.bind hr (r := -1) ?_) ?_, fun z => absurd (by decide) z⟩
  ·simp only [if_pos c]; exact Ev.now _
  ·simp only [if_pos (show (-1 : Int) < 0 by decide)]; exact Ev.now _
 ·rcases hq with q | ⟨q1, q2, q3, q4⟩
  ·exact absurd q c
  obtain ⟨r2, hr2, hq2⟩ := szIntSS_ev S r q1 q2 hS hSr
  have hYo : rowsOk Y := ⟨by omega, fun s hs => by have := q4 s hs; omega⟩
  by_cases c2 : r2 < 0
  ·refine ⟨-1, Ev.bind (Ev.bind hr (r := r) ?_) ?_, fun z => absurd (by decide) z⟩
   ·simp only [if_neg c]; exact Ev.now _
   ·simp only [if_neg c]
    refine Ev.bind (Ev.bind hr2 (r := -1) ?_) ?_
    ·simp only [if_pos c2]; exact Ev.now _
    ·simp only [if_pos (show (-1 : Int) < 0 by decide)]; exact Ev.now _
  ·rcases hq2 with p | ⟨p1, p2, p3, p4⟩
   ·exact absurd p c2
   refine ⟨r2, Ev.bind (Ev.bind hr (r := r) ?_) ?_, fun _ => ⟨by omega, hYo, by omega, fun s hs => by have := p4 s hs; omega⟩⟩
   ·simp only [if_neg c]; exact Ev.now _
   ·simp only [if_neg c]
    refine Ev.bind (Ev.bind hr2 (r := r2) ?_) ?_
    ·simp only [if_neg c2]; exact Ev.now _
    ·simp only [if_neg c2]; exact Ev.now _
theorem szTerm_ev (Y : List (List Int)) (h : Int) (S : List (List Int)) (hY : Y.length ≤ 4611686018427387904) (hYr : ∀ s ∈ Y, s.length ≤ 4611686018427387904) (hS : S.length ≤ 4611686018427387904) (hSr : ∀ s ∈ S, s.length ≤ 4611686018427387904) :
  ∃ r, Ev (fun k => C9.f k Y h S 1048576) r ∧ (¬ r < 0 → rowsOk Y ∧ rowsOk S) := by
 obtain ⟨r, h1, h2⟩ := szTerm_le Y h S hY hYr hS hSr
 exact ⟨r, h1, fun c => (h2 c).2⟩
theorem toTerm_ev (Y : List (List Int)) (h : Int) (S : List (List Int)) (hY : rowsOk Y) (hS : rowsOk S) : Ev (fun k => Bi.f k Y h S) (Y, h, S) := by
 unfold Bi.f D8.f D9.f
 exact Ev.bind (Ev.bind (toIntSS_ev Y hY.1 hY.2) (Ev.now _)) (Ev.bind (Ev.bind (toIntSS_ev S hS.1 hS.2) (Ev.now _)) (Ev.now _))
theorem eqTerm_ev (Y : List (List Int)) (h : Int) (S : List (List Int)) (hY : rowsOk Y) (hS : rowsOk S) : Ev (fun k => Bv.f k Y h S Y h S) true := by
 unfold Bv.f Dp.f Dx.f
 refine Ev.bind (Ev.bind (eqIntSS_ev Y hY.1 hY.2) (r := true) (by simp only [if_true]; exact Ev.now _)) ?_
 simp only [if_true]
 refine Ev.bind (Ev.bind (eqIntSS_ev S hS.1 hS.2) (r := true) (by simp only [if_true]; exact Ev.now _)) ?_
 simp only [if_true]
 exact Ev.now _
end Go.Proofs.Ytnggfglmjdiaaaa.X

namespace Go.Proofs.Ytnggfglmjdiaaaa.X
open Go.RowKit Go.Proofs.YtnggfglmjdiaaaaW.PrintWords Go.Proofs.YtnggfglmjdiaaaaL
def cntF : Nat → Nat → List Int
 | _, 0 => []
 | a, n + 1 => (a : Int) :: cntF (a + 1) n
theorem rd_mid (p : List Int) (x : Int) (r : List Int) : rd (p ++ x :: r) (p.length : Int) = x := by simp [rd]
theorem set_mid {α : Type} (p : List α) (x y : α) (r : List α) : (p ++ x :: r).set p.length y = (p ++ [y]) ++ r := by
 rw [List.set_append_right _ _ (Nat.le_refl _), Nat.sub_self, List.set_cons_zero, List.append_assoc]; rfl
theorem rdL_mid (p : List (List Int)) (x : List Int) (r : List (List Int)) : rd_L1 (p ++ x :: r) (p.length : Int) = x := by simp [rd_L1]
theorem markIntS_loop : ∀ (r p : List Int) (a : Nat), a + r.length ≤ 4611686018427387904 → p.length + r.length ≤ 4611686018427387904 →
  Ev (fun k => Be.l0 k (p ++ r) (a : Int) (p.length : Int)) (((a + r.length : Nat) : Int), p ++ cntF a r.length)
 | [], p, a, _, _ => Ev.step (f := fun _ => some _) (fun k => by simp only [Be.l0]; rw [if_neg (by simp)]; simp [cntF]) (Ev.now _)
 | x :: r, p, a, h, h2 => by
  rw [List.length_cons] at h h2
  have ih := markIntS_loop r (p ++ [(a : Int)]) (a + 1) (by omega) (by rw [List.length_append]; simp; omega)
  rw [List.length_cons, cntF, show a + (r.length + 1) = a + 1 + r.length by omega, show p ++ (a : Int) :: cntF (a + 1) r.length = p ++ [(a : Int)] ++ cntF (a + 1) r.length by simp]
  refine Ev.step (fun k => ?_) ih
  simp only [Be.l0]
  rw [if_pos (by simp; omega), if_pos (by omega), Int.toNat_natCast, set_mid, wrap_id (x := (a : Int) + 1) (by omega) (by omega), wrap_succ (by omega), List.length_append]
  rfl
theorem markIntS_at (l : List Int) (a : Nat) (h : a + l.length ≤ 4611686018427387904) : Ev (fun k => Be.f k l (a : Int)) (((a + l.length : Nat) : Int), cntF a l.length) :=
 Ev.congr (fun k => rfl) (markIntS_loop l [] a h (by simp; omega))
theorem heldIntS_loop : ∀ (n : Nat) (p : List Int) (a : Nat), a + n ≤ 4611686018427387904 → p.length + n ≤ 4611686018427387904 →
  Ev (fun k => Bd.l0 k (p ++ cntF a n) (a : Int) (p.length : Int)) ((a + n : Nat) : Int)
 | 0, p, a, _, _ => Ev.step (f := fun _ => some _) (fun k => by simp only [Bd.l0]; rw [if_neg (by simp [cntF])]; simp) (Ev.now _)
 | n + 1, p, a, h, h2 => by
  have ih := heldIntS_loop n (p ++ [(a : Int)]) (a + 1) (by omega) (by rw [List.length_append]; simp; omega)
  rw [show a + (n + 1) = a + 1 + n by omega]
  refine Ev.step (fun k => ?_) ih
  have e : p ++ cntF a (n + 1) = p ++ (a : Int) :: cntF (a + 1) n := rfl
  simp only [Bd.l0]
  rw [e, if_pos (by simp; omega), if_pos (by omega), rd_mid, if_pos rfl, wrap_id (x := (a : Int) + 1) (by omega) (by omega), wrap_succ (by omega), List.length_append, List.append_assoc]
  rfl
theorem heldIntS_at (n a : Nat) (h : a + n ≤ 4611686018427387904) : Ev (fun k => Bd.f k (cntF a n) (a : Int)) ((a + n : Nat) : Int) :=
 Ev.congr (fun k => rfl) (heldIntS_loop n [] a h (by simp; omega))
def total : List (List Int) → Nat
 | [] => 0
 | r :: l => r.length + total l
def Dh : List (List Int) → Nat → List (List Int)
 | [], _ => []
 | r :: l, a => cntF a r.length :: Dh l (a + r.length)
theorem markIntSS_loop : ∀ (r p : List (List Int)) (a : Nat), a + total r ≤ 4611686018427387904 → p.length + r.length ≤ 4611686018427387904 →
  Ev (fun k => Aw.l0 k (p ++ r) (a : Int) (p.length : Int)) (((a + total r : Nat) : Int), p ++ Dh r a)
 | [], p, a, _, _ => Ev.step (f := fun _ => some _) (fun k => by simp only [Aw.l0]; rw [if_neg (by simp)]; simp [total, Dh]) (Ev.now _)
 | x :: r, p, a, h, h2 => by
  rw [List.length_cons] at h2
  rw [total] at h
  have ih := markIntSS_loop r (p ++ [cntF a x.length]) (a + x.length) (by omega) (by rw [List.length_append]; simp; omega)
  rw [total, Dh, show a + (x.length + total r) = a + x.length + total r by omega, show p ++ cntF a x.length :: Dh r (a + x.length) = p ++ [cntF a x.length] ++ Dh r (a + x.length) by simp]
  refine Ev.step (f := fun k => (Be.f k x (a : Int)).bind fun t => Aw.l0 k ((p ++ x :: r).set p.length t.2) t.1 ((p.length + 1 : Nat) : Int)) (fun k => ?_) (Ev.bind (markIntS_at x a (by omega)) ?_)
  ·simp only [Aw.l0]
   rw [if_pos (by simp; omega), if_pos (by omega), rdL_mid, Int.toNat_natCast, wrap_succ (by omega)]
  ·simp only [set_mid]
   rw [List.length_append] at ih
   exact ih
theorem markIntSS_at (l : List (List Int)) (a : Nat) (h : a + total l ≤ 4611686018427387904) (h2 : l.length ≤ 4611686018427387904) : Ev (fun k => Aw.f k l (a : Int)) (((a + total l : Nat) : Int), Dh l a) :=
 Ev.congr (fun k => rfl) (markIntSS_loop l [] a h (by simp; omega))
theorem heldIntSS_loop : ∀ (r p : List (List Int)) (a : Nat), a + total r ≤ 4611686018427387904 → p.length + r.length ≤ 4611686018427387904 →
  Ev (fun k => Ai.l0 k (p ++ Dh r a) (a : Int) (p.length : Int)) ((a + total r : Nat) : Int)
 | [], p, a, _, _ => Ev.step (f := fun _ => some _) (fun k => by simp only [Ai.l0]; rw [if_neg (by simp [Dh])]; simp [total]) (Ev.now _)
 | x :: r, p, a, h, h2 => by
  rw [List.length_cons] at h2
  rw [total] at h
  have ih := heldIntSS_loop r (p ++ [cntF a x.length]) (a + x.length) (by omega) (by rw [List.length_append]; simp; omega)
  rw [total, show a + (x.length + total r) = a + x.length + total r by omega]
  have e : p ++ Dh (x :: r) a = p ++ cntF a x.length :: Dh r (a + x.length) := rfl
  refine Ev.step (f := fun k => (Bd.f k (cntF a x.length) (a : Int)).bind fun t => if t < 0 then some (-1) else Ai.l0 k (p ++ cntF a x.length :: Dh r (a + x.length)) t ((p.length + 1 : Nat) : Int)) (fun k => ?_) (Ev.bind (heldIntS_at x.length a (by omega)) ?_)
  ·simp only [Ai.l0]
   rw [e, if_pos (by simp; omega), if_pos (by omega), rdL_mid, wrap_succ (by omega)]
  ·rw [List.length_append, List.append_assoc] at ih
   exact Ev.congr (fun k => if_neg (by omega)) ih
theorem heldIntSS_at (l : List (List Int)) (a : Nat) (h : a + total l ≤ 4611686018427387904) (h2 : l.length ≤ 4611686018427387904) : Ev (fun k => Ai.f k (Dh l a) (a : Int)) ((a + total l : Nat) : Int) :=
 Ev.congr (fun k => rfl) (heldIntSS_loop l [] a h (by simp; omega))
theorem clone_eq (s : List Int) (h : s.length ≤ 1048576) : Dk.f s = some s := if_pos (by omega)
theorem l1Own_eq (s : List Int) (h : s.length ≤ 1048576) : Ce.f s = some s := by
 unfold Ce.f
 simp only [Option.bind_some, List.length_nil, List.nil_append]
 exact if_pos (by omega)
theorem implOwnYard_ev (l : List (List Int)) (hl : rowsOk l) : Ev (fun k => Aj.f k l) l := by
 have key : ∀ (d i : Nat), i + d = l.length → Ev (fun k => Aj.l0 k l (l.length : Int) i (l.take i)) l := by
  intro d
  induction d with
  | zero =>
   intro i hi
   refine Ev.step (f := fun _ => some l) (fun k => ?_) (Ev.now _)
   simp only [Aj.l0]; rw [if_neg (by omega), List.take_of_length_le (by omega)]
  | succ d ih =>
   intro i hi
   have hil : i < l.length := by omega
   have hl1 := hl.1
   refine Ev.step (fun k => ?_) (ih (i + 1) (by omega))
   simp only [Aj.l0]
   rw [if_pos (by omega), if_pos (by omega), if_pos (by omega), rdR l i hil, clone_eq _ (hl.2 _ (List.getElem_mem hil)), wrap_succ (by omega), List.take_succ_eq_append_getElem hil]
   simp only [Option.bind_some]
   rw [if_pos (by rw [List.length_take]; omega)]
 exact Ev.congr (fun k => rfl) (key l.length 0 (by omega))
theorem implOwnBay_ev (h : Int) (l : List (List Int)) (hl : rowsOk l) : Ev (fun k => Az.f k h l) (h, l) := by
 have key : ∀ (d i : Nat), i + d = l.length → Ev (fun k => Az.l0 k l (l.length : Int) i h (l.take i)) (h, l) := by
  intro d
  induction d with
  | zero =>
   intro i hi
   refine Ev.step (f := fun _ => some (h, l)) (fun k => ?_) (Ev.now _)
   simp only [Az.l0]; rw [if_neg (by omega), List.take_of_length_le (by omega)]
  | succ d ih =>
   intro i hi
   have hil : i < l.length := by omega
   have hl1 := hl.1
   refine Ev.step (fun k => ?_) (ih (i + 1) (by omega))
   simp only [Az.l0]
   rw [if_pos (by omega), if_pos (by omega), if_pos (by omega), rdR l i hil, clone_eq _ (hl.2 _ (List.getElem_mem hil)), wrap_succ (by omega), List.take_succ_eq_append_getElem hil]
   simp only [Option.bind_some]
   rw [if_pos (by rw [List.length_take]; omega)]
 exact Ev.congr (fun k => rfl) (key l.length 0 (by omega))
theorem specOwnYard_ev (l : List (List Int)) (hl : rowsOk l) : Ev (fun k => spec_l5Own.f k l) l := by
 have key : ∀ (d i : Nat), i + d = l.length → Ev (fun k => spec_l5Own.l0 k i l (l.take i)) l := by
  intro d
  induction d with
  | zero =>
   intro i hi
   refine Ev.step (f := fun _ => some l) (fun k => ?_) (Ev.now _)
   simp only [spec_l5Own.l0]; rw [if_neg (by omega), List.take_of_length_le (by omega)]
  | succ d ih =>
   intro i hi
   have hil : i < l.length := by omega
   have hl1 := hl.1
   refine Ev.step (fun k => ?_) (ih (i + 1) (by omega))
   simp only [spec_l5Own.l0]
   rw [if_pos (by omega), if_pos (by omega), rdR l i hil, l1Own_eq _ (hl.2 _ (List.getElem_mem hil)), wrap_succ (by omega), List.take_succ_eq_append_getElem hil]
   simp only [Option.bind_some]
   rw [if_pos (by rw [List.length_take]; omega)]
 exact Ev.congr (fun k => rfl) (key l.length 0 (by omega))
theorem specOwnBay_ev (h : Int) (l : List (List Int)) (hl : rowsOk l) : Ev (fun k => spec_l9Own.f k h l) (h, l) := by
 have key : ∀ (d i : Nat), i + d = l.length → Ev (fun k => spec_l9Own.l0 k i h l h (l.take i)) (h, l) := by
  intro d
  induction d with
  | zero =>
   intro i hi
   refine Ev.step (f := fun _ => some (h, l)) (fun k => ?_) (Ev.now _)
   simp only [spec_l9Own.l0]; rw [if_neg (by omega), List.take_of_length_le (by omega)]
  | succ d ih =>
   intro i hi
   have hil : i < l.length := by omega
   have hl1 := hl.1
   refine Ev.step (fun k => ?_) (ih (i + 1) (by omega))
   simp only [spec_l9Own.l0]
   rw [if_pos (by omega), if_pos (by omega), rdR l i hil, l1Own_eq _ (hl.2 _ (List.getElem_mem hil)), wrap_succ (by omega), List.take_succ_eq_append_getElem hil]
   simp only [Option.bind_some]
   rw [if_pos (by rw [List.length_take]; omega)]
 exact Ev.congr (fun k => rfl) (key l.length 0 (by omega))
theorem implOwnTerm_ev (Y : List (List Int)) (h : Int) (S : List (List Int)) (hY : rowsOk Y) (hS : rowsOk S) : Ev (fun k => impl_ownTerminal.f k Y h S) (Y, h, S) :=
 Ev.bind (implOwnYard_ev Y hY) (Ev.bind (implOwnBay_ev h S hS) (Ev.now _))
theorem specOwnTerm_ev (Y : List (List Int)) (h : Int) (S : List (List Int)) (hY : rowsOk Y) (hS : rowsOk S) : Ev (fun k => spec_l24Own.f k Y h S) (Y, h, S) :=
 Ev.bind (specOwnYard_ev Y hY) (Ev.bind (specOwnBay_ev h S hS) (Ev.now _))
def termN (Y S : List (List Int)) : Nat := total Y + total S
theorem markTerm_at (Y : List (List Int)) (h : Int) (S : List (List Int)) (a : Nat) (ht : a + termN Y S ≤ 4611686018427387904) (hY : Y.length ≤ 4611686018427387904) (hS : S.length ≤ 4611686018427387904) :
  Ev (fun k => Cj.f k Y h S (a : Int)) (((a + termN Y S : Nat) : Int), Dh Y a, Dh S (a + total Y)) := by
 unfold termN at *
 rw [show a + (total Y + total S) = a + total Y + total S by omega]
 refine Ev.bind (markIntSS_at Y a (by omega) hY) ?_
 refine Ev.bind (markIntSS_at S (a + total Y) (by omega) hS) ?_
 exact Ev.now _
theorem heldTerm_at (Y : List (List Int)) (h : Int) (S : List (List Int)) (a : Nat) (ht : a + termN Y S ≤ 4611686018427387904) (hY : Y.length ≤ 4611686018427387904) (hS : S.length ≤ 4611686018427387904) :
  Ev (fun k => Ci.f k (Dh Y a) h (Dh S (a + total Y)) (a : Int)) ((a + termN Y S : Nat) : Int) := by
 unfold termN at *
 have hy : Ev (fun k => Dc.f k (Dh Y a) (a : Int)) ((a + total Y : Nat) : Int) := by
  refine Ev.bind (heldIntSS_at Y a (by omega) hY) ?_
  exact ev_eq (fun k => if_neg (by omega))
 have hb : Ev (fun k => Df.f k h (Dh S (a + total Y)) ((a + total Y : Nat) : Int)) ((a + total Y + total S : Nat) : Int) := by
  refine Ev.bind (heldIntSS_at S (a + total Y) (by omega) hS) ?_
  exact ev_eq (fun k => if_neg (by omega))
 rw [show a + (total Y + total S) = a + total Y + total S by omega]
 refine Ev.bind hy (Ev.congr (f := fun k => (Df.f k h (Dh S (a + total Y)) ((a + total Y : Nat) : Int)).bind fun t => if t < 0 then some (-1) else some t) (fun k => if_neg (by omega)) (Ev.bind hb ?_))
 exact ev_eq (fun k => if_neg (by omega))
theorem F6 (m : Int) : ∀ (l : List (List Int)) (S : List Int), Di m S l = true → ∀ s ∈ l, (s.length : Int) ≤ m
 | [], _, _ => by simp
 | s :: r, S, h => by
  unfold Di at h
  by_cases c : (s.length : Int) > m
  ·rw [if_pos c] at h; cases h
  ·rw [if_neg c] at h
   cases g : E5 S s with
   | none => rw [g] at h; cases h
   | some S2 =>
    rw [g] at h
    intro x hx
    rcases List.mem_cons.1 hx with rfl | hx
    ·omega
    ·exact F6 m r S2 h x hx
theorem total_le (m : Nat) : ∀ (l : List (List Int)), (∀ s ∈ l, s.length ≤ m) → total l ≤ m * l.length
 | [], _ => by simp [total]
 | r :: l, h => by
  have := total_le m l (fun s hs => h s (by simp [hs])); have h1 := h r (by simp)
  rw [total, List.length_cons, Nat.mul_succ]; omega
theorem term_small (Y : List (List Int)) (h : Int) (S : List (List Int)) (ht : termOk Y h S = true) : Y.length ≤ 6 ∧ S.length ≤ 5 ∧ h ≤ 4 ∧ (∀ s ∈ Y, s.length ≤ 4) ∧ (∀ s ∈ S, s.length ≤ 4) ∧ termN Y S ≤ 44 := by
 unfold termOk yardOk bayOk at ht
 simp only [Bool.and_eq_true, decide_eq_true_eq] at ht
 obtain ⟨⟨⟨⟨a1, a2⟩, a3⟩, ⟨⟨⟨b0, b1⟩, b2, b3⟩, b4⟩⟩, _⟩ := ht
 have h1 : ∀ s ∈ Y, s.length ≤ 4 := fun s hs => by have := F6 4 Y [] a3 s hs; omega
 have h2 : ∀ s ∈ S, s.length ≤ 4 := fun s hs => by have := F6 h S [] b4 s hs; omega
 have t1 := total_le 4 Y h1
 have t2 := total_le 4 S h2
 exact ⟨by omega, by omega, by omega, h1, h2, by unfold termN; omega⟩
end Go.Proofs.Ytnggfglmjdiaaaa.X

