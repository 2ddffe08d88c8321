/- The law FnExactNewConsole answers true for every input that the row lets in, and leaves its arguments as they were. Conditions: none beyond the row's own. -/
import Derived.Deep.Slices
import Derived.ChangeSame
import Derived.ChangeArms
import Derived.DataReads
import Derived.SizedLaws
import Derived.ProofKit
import Derived.Lib.SmallJoins
import Derived.ChangeOld
import Derived.Below
import Derived.Test.YtcnmngiaebgjkaaRows
import Derived.WalkKit
import Derived.OpenShut
import Derived.ShutString
import Derived.Test.YtcnmngiaebgjkaaKFnExactNewConsole0
import Derived.Test.YtcnmngiaebgjkaaKFnExactNewConsole1
import Derived.Test.YtcnmngiaebgjkaaKFnExactNewConsole2
import Derived.Test.YtcnmngiaebgjkaaKFnExactNewConsole3
import Derived.Test.YtcnmngiaebgjkaaKFnExactNewConsole4
-- written by a program of this session (wip/ext.py) out of the translation. Not trusted: Lean checks it.
namespace Go.Proofs.Ytcnmngiaebgjkaa.X
open Go.RowKit Go.Proofs.YtcnmngiaebgjkaaW.PrintWords Go.Proofs.YtcnmngiaebgjkaaW.PrintLast Go.Proofs.YtcnmngiaebgjkaaW.PrintMore
attribute [local go_sem] max2_int min2_int max_two min_two max_three min_three max_four min_four   -- for this text's walks alone
set_option linter.unusedVariables false
set_option linter.unusedSimpArgs false

def laws_FnExactNewConsole.f (k : Nat) (l0_0 : List (List Int)) (a0_1 : Int) (l0_2 : List (List Int)) : Option (Bool) := ((laws_szTerminal.f k l0_0 a0_1 l0_2 1048576).bind fun t4 => (if t4 < 0 then some true else ((laws_toTerminal.f k l0_0 a0_1 l0_2).bind fun t15 => ((spec_NewConsole.f k t15.1 t15.2.1 t15.2.2).bind fun t30 => ((laws_toTerminal.f k l0_0 a0_1 l0_2).bind fun t43 => ((impl_NewConsole.f k t43.1 t43.2.1 t43.2.2).bind fun t60 => ((laws_eqConsole.f k t60.1 t60.2.1 t60.2.2.1 t60.2.2.2.1 t60.2.2.2.2.1 t60.2.2.2.2.2.1 t30.1 t30.2.1 t30.2.2.1 t30.2.2.2.1 t30.2.2.2.2.1 t30.2.2.2.2.2.1).bind fun t65 => (if t65 = true then (if t60.2.2.2.2.2.2 = t30.2.2.2.2.2.2 then ((laws_toTerminal.f k l0_0 a0_1 l0_2).bind fun t76 => ((laws_eqTerminal.f k t43.1 t43.2.1 t43.2.2 t76.1 t76.2.1 t76.2.2).bind fun t79 => (if t79 = true then ((laws_markTerminal.f k t43.1 t43.2.1 t43.2.2 1).bind fun t84 => ((laws_eqConsole.f k t60.1 t60.2.1 t60.2.2.1 t60.2.2.2.1 t60.2.2.2.2.1 t60.2.2.2.2.2.1 t30.1 t30.2.1 t30.2.2.1 t30.2.2.2.1 t30.2.2.2.2.1 t30.2.2.2.2.2.1).bind fun t87 => (if t87 = true then (if ¬ t84.1 < 0 then (if t60.2.2.2.2.2.2 = t30.2.2.2.2.2.2 then ((laws_markConsole.f k t60.1 t60.2.1 t60.2.2.1 t60.2.2.2.1 t60.2.2.2.2.1 t60.2.2.2.2.2.1 1).bind fun t92 => ((laws_heldConsole.f k t92.2.1 t60.2.1 t92.2.2 t60.2.2.2.1 t60.2.2.2.2.1 t60.2.2.2.2.2.1 1).bind fun t95 => (if ¬ t95 < 0 then (if t95 = t92.1 then ((laws_toTerminal.f k l0_0 a0_1 l0_2).bind fun t106 => ((impl_NewConsole.f k t106.1 t106.2.1 t106.2.2).bind fun t121 => ((laws_eqConsole.f k t121.1 t121.2.1 t121.2.2.1 t121.2.2.2.1 t121.2.2.2.2.1 t121.2.2.2.2.2.1 t30.1 t30.2.1 t30.2.2.1 t30.2.2.2.1 t30.2.2.2.2.1 t30.2.2.2.2.2.1).bind fun t126 => (if t126 = true then (if t121.2.2.2.2.2.2 = t30.2.2.2.2.2.2 then ((laws_heldConsole.f k t92.2.1 t60.2.1 t92.2.2 t60.2.2.2.1 t60.2.2.2.2.1 t60.2.2.2.2.2.1 1).bind fun t129 => (if ¬ t129 < 0 then (if t129 = t92.1 then some true else none) else none)) else none) else none)))) else none) else none))) else none) else none) else none))) else none))) else none) else none))))))))
set_option maxHeartbeats 8000000 in
set_option maxRecDepth 100000 in
theorem laws_FnExactNewConsole.calls (k : Nat) (A0_0 : Option Addr) (c0_0 : Nat) (l0_0 : List (List Int)) (a0_1 : Int) (A0_2 : Option Addr) (c0_2 : Nat) (l0_2 : List (List Int)) (r : Bool) (w : World) (hr0_0 : Kd.C (Kd.slice 3 (Kd.int .i64)) w A0_0 l0_0.length l0_0) (hc0_0 : l0_0.length ≤ c0_0) (hr0_2 : Kd.C (Kd.slice 3 (Kd.int .i64)) w A0_2 l0_2.length l0_2) (hc0_2 : l0_2.length ≤ c0_2) (h : laws_FnExactNewConsole.f k l0_0 a0_1 l0_2 = some r) (_hr : r = true) :
    Calls Try.prog 3 #[.agg #[.slice A0_0 l0_0.length c0_0, .int .i64 a0_1, .slice A0_2 l0_2.length c0_2]] w fun e w' => e = .returned (.bool r) ∧ Below w.heap.size w w' := by
  have hu28 := Try.underlying28
  have hu33 := Try.underlying33
  have hu37 := Try.underlying37
  have HR0_0 := Aside0.mk hr0_0
  have HC0_0 := Aside0.mk hc0_0
  clear hr0_0 hc0_0
  have HR0_2 := Aside0.mk hr0_2
  have HC0_2 := Aside0.mk hc0_2
  clear hr0_2 hc0_2
  have HB := Aside0.mk (Below.refl w.heap.size w)
  unfold laws_FnExactNewConsole.f at h
  replace h := Option.bind_eq_some_iff.mp h
  obtain ⟨r3, a_, h⟩ := h
  have A5 := Aside0.mk a_
  clear a_
  by_cases c_ : r3 < 0
  · rw [if_pos c_] at h
    obtain rfl := Option.some.inj h
    have cb1 : decide (r3 < 0) = true := decide_eq_true c_
    clear c_
    go_enter Try.func3, Try.ntmps3
    go_wp2_with (first | ((with_reducible refine gate_dst (N := 1) rfl ?_); refine box_event ?hg (N := 1) ?hd (cs := #[.slice A0_0 l0_0.length c0_0, .int .i64 a0_1, .slice A0_2 l0_2.length c0_2]) (t := 28) ?hr ?_; (case hd => rfl); (case hg => rfl); (case hr => first | (go_simp; done) | (go_simp; rfl)); intro gb2 hg w131 hbox hb; (try clear hzgb2_0 hzgb2_1 hzgb2_2); have GEgb2 := Aside0.mk (show w.heap.size ≤ gb2 by rw [hg]; exact below_size (by repeat (first | (with_reducible first | exact HB.out | apply below_alloc | apply pw_below_drewN | apply below_drew1) | exact HB.out))); have BK132 := Aside0.mk hbox; have HSw131 := Aside0.mk (show w.heap.size ≤ w131.heap.size from hb.size); have m_ := Aside0.mk (below_step HB.out hb); clear HB; have HB := m_; clear m_; clear hb hbox hg; have hzgb2_0 : w131.cell? ⟨gb2, 0, none⟩ = some (.slice A0_0 l0_0.length c0_0) := (blk_cell BK132.out 0).trans rfl; have hzgb2_1 : w131.cell? ⟨gb2, 1, none⟩ = some (.int .i64 a0_1) := (blk_cell BK132.out 1).trans rfl; have hzgb2_2 : w131.cell? ⟨gb2, 2, none⟩ = some (.slice A0_2 l0_2.length c0_2) := (blk_cell BK132.out 2).trans rfl) | ((with_reducible refine gate_callee (f := 4) rfl ?_); (try (refine gate_guard (by rfl) ?_; dsimp only)); refine goesL_ (some 16) rfl rfl Try.func4 (by kernel_rfl) rfl #[.agg #[.slice A0_0 l0_0.length c0_0, .int .i64 a0_1, .slice A0_2 l0_2.length c0_2], .int .i64 1048576] rfl (by (try simp only [List.map_toArray, List.map_cons, List.map_nil]); first | done | rfl | (simp only [List.length_drop, List.length_take]; rfl)) ?_; (with_reducible refine (laws_szTerminal.calls k _ _ l0_0 a0_1 _ _ l0_2 1048576 r3 w131 (Kd.C_below HR0_0.out (by repeat (first | (with_reducible first | exact HB.out | apply below_alloc | apply pw_below_drewN | apply below_drew1) | exact HB.out))) HC0_0.out (Kd.C_below HR0_2.out (by repeat (first | (with_reducible first | exact HB.out | apply below_alloc | apply pw_below_drewN | apply below_drew1) | exact HB.out))) HC0_2.out A5.out).mono ?_); rintro e w133 ⟨rfl, hb⟩; (try clear hzgb2_0 hzgb2_1 hzgb2_2); refine ⟨_, rfl, ?_⟩; have m_ := Aside0.mk (blk_below BK132.out hb); clear BK132; have BK132 := m_; clear m_; have HSw133 := Aside0.mk (show w131.heap.size ≤ w133.heap.size from hb.size); have m_ := Aside0.mk (below_step HB.out hb); clear HB; have HB := m_; clear m_; clear hb; have hzgb2_0 : w133.cell? ⟨gb2, 0, none⟩ = some (.slice A0_0 l0_0.length c0_0) := (blk_cell BK132.out 0).trans rfl; have hzgb2_1 : w133.cell? ⟨gb2, 1, none⟩ = some (.int .i64 a0_1) := (blk_cell BK132.out 1).trans rfl; have hzgb2_2 : w133.cell? ⟨gb2, 2, none⟩ = some (.slice A0_2 l0_2.length c0_2) := (blk_cell BK132.out 2).trans rfl))
    repeat (go_quiet (fail); try go_wp2)
    go_ret
    exact ⟨rfl, by repeat (first | (with_reducible first | exact HB.out | apply below_alloc | apply pw_below_drewN | apply below_drew1) | exact HB.out)⟩
  · rw [if_neg c_] at h
    have cb1 : decide (r3 < 0) = false := decide_eq_false c_
    clear c_
    replace h := Option.bind_eq_some_iff.mp h
    obtain ⟨⟨r6, r10, r11⟩, a_, h⟩ := h
    have A16 := Aside0.mk a_
    clear a_
    dsimp only at h
    replace h := Option.bind_eq_some_iff.mp h
    obtain ⟨⟨r17, r21, r22, r26, r27, r28, r29⟩, a_, h⟩ := h
    have A31 := Aside0.mk a_
    clear a_
    dsimp only at h
    replace h := Option.bind_eq_some_iff.mp h
    obtain ⟨⟨r34, r38, r39⟩, a_, h⟩ := h
    have A44 := Aside0.mk a_
    clear a_
    dsimp only at h
    replace h := Option.bind_eq_some_iff.mp h
    obtain ⟨⟨r47, r51, r52, r56, r57, r58, r59⟩, a_, h⟩ := h
    have A61 := Aside0.mk a_
    clear a_
    dsimp only at h
    replace h := Option.bind_eq_some_iff.mp h
    obtain ⟨r64, a_, h⟩ := h
    have A66 := Aside0.mk a_
    clear a_
    replace h := Go.Proofs.YtcnmngiaebgjkaaOwn.ite_some h
    have c_ := h.1
    replace h := h.2
    subst c_
    replace h := Go.Proofs.YtcnmngiaebgjkaaOwn.ite_some h
    have c_ := h.1
    replace h := h.2
    subst c_
    replace h := Option.bind_eq_some_iff.mp h
    obtain ⟨⟨r67, r71, r72⟩, a_, h⟩ := h
    have A77 := Aside0.mk a_
    clear a_
    dsimp only at h
    replace h := Option.bind_eq_some_iff.mp h
    obtain ⟨r78, a_, h⟩ := h
    have A80 := Aside0.mk a_
    clear a_
    replace h := Go.Proofs.YtcnmngiaebgjkaaOwn.ite_some h
    have c_ := h.1
    replace h := h.2
    subst c_
    replace h := Option.bind_eq_some_iff.mp h
    obtain ⟨⟨r81, r82, r83⟩, a_, h⟩ := h
    have A85 := Aside0.mk a_
    clear a_
    dsimp only at h
    replace h := Option.bind_eq_some_iff.mp h
    obtain ⟨r86, a_, h⟩ := h
    have A88 := Aside0.mk a_
    clear a_
    replace h := Go.Proofs.YtcnmngiaebgjkaaOwn.ite_some h
    have c_ := h.1
    replace h := h.2
    subst c_
    replace h := Go.Proofs.YtcnmngiaebgjkaaOwn.ite_some h
    have c_ := h.1
    replace h := h.2
    have cb2 : decide (r81 < 0) = false := decide_eq_false c_
    clear c_
    replace h := Go.Proofs.YtcnmngiaebgjkaaOwn.ite_some h
    have c_ := h.1
    replace h := h.2
    clear c_
    replace h := Option.bind_eq_some_iff.mp h
    obtain ⟨⟨r89, r90, r91⟩, a_, h⟩ := h
    have A93 := Aside0.mk a_
    clear a_
    dsimp only at h
    replace h := Option.bind_eq_some_iff.mp h
    obtain ⟨r94, a_, h⟩ := h
    have A96 := Aside0.mk a_
    clear a_
    replace h := Go.Proofs.YtcnmngiaebgjkaaOwn.ite_some h
    have c_ := h.1
    replace h := h.2
    have cb3 : decide (r94 < 0) = false := decide_eq_false c_
    clear c_
    replace h := Go.Proofs.YtcnmngiaebgjkaaOwn.ite_some h
    have c_ := h.1
    replace h := h.2
    subst c_
    replace h := Option.bind_eq_some_iff.mp h
    obtain ⟨⟨r97, r101, r102⟩, a_, h⟩ := h
    have A107 := Aside0.mk a_
    clear a_
    dsimp only at h
    replace h := Option.bind_eq_some_iff.mp h
    obtain ⟨⟨r108, r112, r113, r117, r118, r119, r120⟩, a_, h⟩ := h
    have A122 := Aside0.mk a_
    clear a_
    dsimp only at h
    replace h := Option.bind_eq_some_iff.mp h
    obtain ⟨r125, a_, h⟩ := h
    have A127 := Aside0.mk a_
    clear a_
    replace h := Go.Proofs.YtcnmngiaebgjkaaOwn.ite_some h
    have c_ := h.1
    replace h := h.2
    subst c_
    replace h := Go.Proofs.YtcnmngiaebgjkaaOwn.ite_some h
    have c_ := h.1
    replace h := h.2
    subst c_
    replace h := Option.bind_eq_some_iff.mp h
    obtain ⟨r128, a_, h⟩ := h
    have A130 := Aside0.mk a_
    clear a_
    replace h := Go.Proofs.YtcnmngiaebgjkaaOwn.ite_some h
    have c_ := h.1
    replace h := h.2
    have cb4 : decide (r128 < 0) = false := decide_eq_false c_
    clear c_
    replace h := Go.Proofs.YtcnmngiaebgjkaaOwn.ite_some h
    have c_ := h.1
    replace h := h.2
    subst c_
    obtain rfl := Option.some.inj h
    go_enter Try.func3, Try.ntmps3
    go_upto_region 10 with (first | ((with_reducible refine gate_dst (N := 1) rfl ?_); refine box_event ?hg (N := 1) ?hd (cs := #[.slice A0_0 l0_0.length c0_0, .int .i64 a0_1, .slice A0_2 l0_2.length c0_2]) (t := 28) ?hr ?_; (case hd => rfl); (case hg => rfl); (case hr => first | (go_simp; done) | (go_simp; rfl)); intro gb2 hg w131 hbox hb; (try clear hzgb2_0 hzgb2_1 hzgb2_2); have GEgb2 := Aside0.mk (show w.heap.size ≤ gb2 by rw [hg]; exact below_size (by repeat (first | (with_reducible first | exact HB.out | apply below_alloc | apply pw_below_drewN | apply below_drew1) | exact HB.out))); have BK132 := Aside0.mk hbox; have HSw131 := Aside0.mk (show w.heap.size ≤ w131.heap.size from hb.size); have m_ := Aside0.mk (below_step HB.out hb); clear HB; have HB := m_; clear m_; clear hb hbox hg; have hzgb2_0 : w131.cell? ⟨gb2, 0, none⟩ = some (.slice A0_0 l0_0.length c0_0) := (blk_cell BK132.out 0).trans rfl; have hzgb2_1 : w131.cell? ⟨gb2, 1, none⟩ = some (.int .i64 a0_1) := (blk_cell BK132.out 1).trans rfl; have hzgb2_2 : w131.cell? ⟨gb2, 2, none⟩ = some (.slice A0_2 l0_2.length c0_2) := (blk_cell BK132.out 2).trans rfl) | ((with_reducible refine gate_callee (f := 4) rfl ?_); (try (refine gate_guard (by rfl) ?_; dsimp only)); refine goesL_ (some 16) rfl rfl Try.func4 (by kernel_rfl) rfl #[.agg #[.slice A0_0 l0_0.length c0_0, .int .i64 a0_1, .slice A0_2 l0_2.length c0_2], .int .i64 1048576] rfl (by (try simp only [List.map_toArray, List.map_cons, List.map_nil]); first | done | rfl | (simp only [List.length_drop, List.length_take]; rfl)) ?_; (with_reducible refine (laws_szTerminal.calls k _ _ l0_0 a0_1 _ _ l0_2 1048576 r3 w131 (Kd.C_below HR0_0.out (by repeat (first | (with_reducible first | exact HB.out | apply below_alloc | apply pw_below_drewN | apply below_drew1) | exact HB.out))) HC0_0.out (Kd.C_below HR0_2.out (by repeat (first | (with_reducible first | exact HB.out | apply below_alloc | apply pw_below_drewN | apply below_drew1) | exact HB.out))) HC0_2.out A5.out).mono ?_); rintro e w133 ⟨rfl, hb⟩; (try clear hzgb2_0 hzgb2_1 hzgb2_2); refine ⟨_, rfl, ?_⟩; have m_ := Aside0.mk (blk_below BK132.out hb); clear BK132; have BK132 := m_; clear m_; have HSw133 := Aside0.mk (show w131.heap.size ≤ w133.heap.size from hb.size); have m_ := Aside0.mk (below_step HB.out hb); clear HB; have HB := m_; clear m_; clear hb; have hzgb2_0 : w133.cell? ⟨gb2, 0, none⟩ = some (.slice A0_0 l0_0.length c0_0) := (blk_cell BK132.out 0).trans rfl; have hzgb2_1 : w133.cell? ⟨gb2, 1, none⟩ = some (.int .i64 a0_1) := (blk_cell BK132.out 1).trans rfl; have hzgb2_2 : w133.cell? ⟨gb2, 2, none⟩ = some (.slice A0_2 l0_2.length c0_2) := (blk_cell BK132.out 2).trans rfl) | ((with_reducible refine gate_callee (f := 6) rfl ?_); (try (refine gate_guard (by rfl) ?_; dsimp only)); refine goesL_ (some 21) rfl rfl Try.func6 (by kernel_rfl) rfl #[.agg #[.slice A0_0 l0_0.length c0_0, .int .i64 a0_1, .slice A0_2 l0_2.length c0_2]] rfl (by (try simp only [List.map_toArray, List.map_cons, List.map_nil]); first | done | rfl | (simp only [List.length_drop, List.length_take]; rfl)) ?_; (with_reducible refine (laws_toTerminal.calls2 k _ _ l0_0 a0_1 _ _ l0_2 r6 r10 r11 w133 (Kd.C_below HR0_0.out (by repeat (first | (with_reducible first | exact HB.out | apply below_alloc | apply pw_below_drewN | apply below_drew1) | exact HB.out))) HC0_0.out (Kd.C_below HR0_2.out (by repeat (first | (with_reducible first | exact HB.out | apply below_alloc | apply pw_below_drewN | apply below_drew1) | exact HB.out))) HC0_2.out A16.out).mono ?_); rintro e w134 ⟨Pw134, v137, v138, rfl, ho135, ho136, hb⟩; (try clear hzgb2_0 hzgb2_1 hzgb2_2); refine ⟨_, rfl, ?_⟩; have m_ := Aside0.mk (blk_below BK132.out hb); clear BK132; have BK132 := m_; clear m_; have HSw134 := Aside0.mk (show w133.heap.size ≤ w134.heap.size from hb.size); have m_ := (show Kd.S (Kd.slice 3 (Kd.int .i64)) 60 w134 w.heap.size (fun k_ => (w133.heap.size ≤ k_ ∧ k_ < w134.heap.size) ∧ Pw134 k_) v137 r6 from Kd.S_mono (Kd.S_lower (Kd.S_bound ho135) (below_size (by repeat (first | (with_reducible first | exact HB.out | apply below_alloc | apply pw_below_drewN | apply below_drew1) | exact HB.out)))) (fun k_ hk_ => ⟨⟨hk_.2.1, hk_.2.2.1⟩, hk_.1⟩)); obtain ⟨A7, c8, e_⟩ := Kd.S_slice m_; subst e_; have HO9 := Aside0.mk m_; clear m_ ho135; have m_ := (show Kd.S (Kd.slice 3 (Kd.int .i64)) 60 w134 w.heap.size (fun k_ => (w133.heap.size ≤ k_ ∧ k_ < w134.heap.size) ∧ ¬ Pw134 k_) v138 r11 from Kd.S_mono (Kd.S_lower (Kd.S_bound ho136) (below_size (by repeat (first | (with_reducible first | exact HB.out | apply below_alloc | apply pw_below_drewN | apply below_drew1) | exact HB.out)))) (fun k_ hk_ => ⟨⟨hk_.2.1, hk_.2.2.1⟩, hk_.1⟩)); obtain ⟨A12, c13, e_⟩ := Kd.S_slice m_; subst e_; have HO14 := Aside0.mk m_; clear m_ ho136; have m_ := Aside0.mk (below_step HB.out hb); clear HB; have HB := m_; clear m_; clear hb; have hzgb2_0 : w134.cell? ⟨gb2, 0, none⟩ = some (.slice A0_0 l0_0.length c0_0) := (blk_cell BK132.out 0).trans rfl; have hzgb2_1 : w134.cell? ⟨gb2, 1, none⟩ = some (.int .i64 a0_1) := (blk_cell BK132.out 1).trans rfl; have hzgb2_2 : w134.cell? ⟨gb2, 2, none⟩ = some (.slice A0_2 l0_2.length c0_2) := (blk_cell BK132.out 2).trans rfl) | ((with_reducible refine gate_callee (f := 5) rfl ?_); (try (refine gate_guard (by rfl) ?_; dsimp only)); refine goesL_ (some 22) rfl rfl Try.func5 (by kernel_rfl) rfl #[.agg #[.slice A7 r6.length c8, .int .i64 r10, .slice A12 r11.length c13]] rfl (by (try simp only [List.map_toArray, List.map_cons, List.map_nil]); first | done | rfl | (simp only [List.length_drop, List.length_take]; rfl)) ?_; (with_reducible refine (spec_NewConsole.calls k _ _ r6 r10 _ _ r11 r17 r21 r22 r26 r27 r28 r120 w134 (Kd.S_reads' HO9.out).2.2 (Nat.le_trans (Nat.le_of_eq (Kd.S_reads' HO9.out).1.symm) (Kd.S_reads' HO9.out).2.1) (Kd.S_reads' HO14.out).2.2 (Nat.le_trans (Nat.le_of_eq (Kd.S_reads' HO14.out).1.symm) (Kd.S_reads' HO14.out).2.1) A31.out).mono ?_); rintro e w139 ⟨v142, v143, rfl, ho140, ho141, hb⟩; (try clear hzgb2_0 hzgb2_1 hzgb2_2); refine ⟨_, rfl, ?_⟩; have m_ := Aside0.mk (Kd.S_below HO9.out hb); clear HO9; have HO9 := m_; clear m_; have m_ := Aside0.mk (Kd.S_below HO14.out hb); clear HO14; have HO14 := m_; clear m_; have m_ := Aside0.mk (blk_below BK132.out hb); clear BK132; have BK132 := m_; clear m_; have HSw139 := Aside0.mk (show w134.heap.size ≤ w139.heap.size from hb.size); have m_ := (show Kd.S (Kd.slice 3 (Kd.int .i64)) 60 w139 w.heap.size (fun k_ => (w134.heap.size ≤ k_ ∧ k_ < w139.heap.size) ∧ True) v142 r17 from Kd.S_mono (Kd.S_lower (Kd.S_bound ho140) (below_size (by repeat (first | (with_reducible first | exact HB.out | apply below_alloc | apply pw_below_drewN | apply below_drew1) | exact HB.out)))) (fun k_ hk_ => ⟨⟨hk_.2.1, hk_.2.2.1⟩, trivial⟩)); obtain ⟨A18, c19, e_⟩ := Kd.S_slice m_; subst e_; have HO20 := Aside0.mk m_; clear m_ ho140; have m_ := (show Kd.S (Kd.slice 3 (Kd.int .i64)) 60 w139 w.heap.size (fun k_ => (w134.heap.size ≤ k_ ∧ k_ < w139.heap.size) ∧ True) v143 r22 from Kd.S_mono (Kd.S_lower (Kd.S_bound ho141) (below_size (by repeat (first | (with_reducible first | exact HB.out | apply below_alloc | apply pw_below_drewN | apply below_drew1) | exact HB.out)))) (fun k_ hk_ => ⟨⟨hk_.2.1, hk_.2.2.1⟩, trivial⟩)); obtain ⟨A23, c24, e_⟩ := Kd.S_slice m_; subst e_; have HO25 := Aside0.mk m_; clear m_ ho141; have m_ := Aside0.mk (below_step HB.out hb); clear HB; have HB := m_; clear m_; clear hb; have hzgb2_0 : w139.cell? ⟨gb2, 0, none⟩ = some (.slice A0_0 l0_0.length c0_0) := (blk_cell BK132.out 0).trans rfl; have hzgb2_1 : w139.cell? ⟨gb2, 1, none⟩ = some (.int .i64 a0_1) := (blk_cell BK132.out 1).trans rfl; have hzgb2_2 : w139.cell? ⟨gb2, 2, none⟩ = some (.slice A0_2 l0_2.length c0_2) := (blk_cell BK132.out 2).trans rfl) | ((with_reducible refine gate_dst (N := 4) rfl ?_); refine box_event ?hg (N := 4) ?hd (cs := #[.slice none 0 0, .int .i64 0, .slice none 0 0, .string (⟨#[]⟩ : ByteArray), .string (⟨#[]⟩ : ByteArray), .int .i64 0]) (t := 37) ?hr ?_; (case hd => rfl); (case hg => rfl); (case hr => first | (go_simp; done) | (go_simp; rfl)); intro gb33 hg w144 hbox hb; (try clear hzgb2_0 hzgb2_1 hzgb2_2); (try clear hzgb33_0 hzgb33_1 hzgb33_2 hzgb33_3 hzgb33_4 hzgb33_5); have NBgb2_gb33 := Aside0.mk (show gb2 ≠ gb33 by rw [hg]; exact Nat.ne_of_lt (blk_lt BK132.out)); have GEgb33 := Aside0.mk (show w.heap.size ≤ gb33 by rw [hg]; exact below_size (by repeat (first | (with_reducible first | exact HB.out | apply below_alloc | apply pw_below_drewN | apply below_drew1) | exact HB.out))); have BK145 := Aside0.mk hbox; have m_ := Aside0.mk (Kd.S_below HO9.out hb); clear HO9; have HO9 := m_; clear m_; have m_ := Aside0.mk (Kd.S_below HO14.out hb); clear HO14; have HO14 := m_; clear m_; have m_ := Aside0.mk (Kd.S_below HO20.out hb); clear HO20; have HO20 := m_; clear m_; have m_ := Aside0.mk (Kd.S_below HO25.out hb); clear HO25; have HO25 := m_; clear m_; have m_ := Aside0.mk (blk_below BK132.out hb); clear BK132; have BK132 := m_; clear m_; have HSw144 := Aside0.mk (show w139.heap.size ≤ w144.heap.size from hb.size); have m_ := Aside0.mk (below_step HB.out hb); clear HB; have HB := m_; clear m_; clear hb hbox hg; have hzgb2_0 : w144.cell? ⟨gb2, 0, none⟩ = some (.slice A0_0 l0_0.length c0_0) := (blk_cell BK132.out 0).trans rfl; have hzgb2_1 : w144.cell? ⟨gb2, 1, none⟩ = some (.int .i64 a0_1) := (blk_cell BK132.out 1).trans rfl; have hzgb2_2 : w144.cell? ⟨gb2, 2, none⟩ = some (.slice A0_2 l0_2.length c0_2) := (blk_cell BK132.out 2).trans rfl; have hzgb33_0 : w144.cell? ⟨gb33, 0, none⟩ = some (.slice none 0 0) := (blk_cell BK145.out 0).trans rfl; have hzgb33_1 : w144.cell? ⟨gb33, 1, none⟩ = some (.int .i64 0) := (blk_cell BK145.out 1).trans rfl; have hzgb33_2 : w144.cell? ⟨gb33, 2, none⟩ = some (.slice none 0 0) := (blk_cell BK145.out 2).trans rfl; have hzgb33_3 : w144.cell? ⟨gb33, 3, none⟩ = some (.string (⟨#[]⟩ : ByteArray)) := (blk_cell BK145.out 3).trans rfl; have hzgb33_4 : w144.cell? ⟨gb33, 4, none⟩ = some (.string (⟨#[]⟩ : ByteArray)) := (blk_cell BK145.out 4).trans rfl; have hzgb33_5 : w144.cell? ⟨gb33, 5, none⟩ = some (.int .i64 0) := (blk_cell BK145.out 5).trans rfl) | ((with_reducible refine gate_store (t := 37) (p := 4) rfl ?_); have hs0_ : w144.cell? ⟨gb33, 0, none⟩ = some (.slice none 0 0) := (blk_cell BK145.out 0).trans rfl; have hfs0_ := blk_frozen BK145.out 0; have hs1_ : w144.cell? ⟨gb33, 1, none⟩ = some (.int .i64 0) := (blk_cell BK145.out 1).trans rfl; have hfs1_ := blk_frozen BK145.out 1; have hs2_ : w144.cell? ⟨gb33, 2, none⟩ = some (.slice none 0 0) := (blk_cell BK145.out 2).trans rfl; have hfs2_ := blk_frozen BK145.out 2; have hs3_ : w144.cell? ⟨gb33, 3, none⟩ = some (.string (⟨#[]⟩ : ByteArray)) := (blk_cell BK145.out 3).trans rfl; have hfs3_ := blk_frozen BK145.out 3; have hs4_ : w144.cell? ⟨gb33, 4, none⟩ = some (.string (⟨#[]⟩ : ByteArray)) := (blk_cell BK145.out 4).trans rfl; have hfs4_ := blk_frozen BK145.out 4; have hs5_ : w144.cell? ⟨gb33, 5, none⟩ = some (.int .i64 0) := (blk_cell BK145.out 5).trans rfl; have hfs5_ := blk_frozen BK145.out 5; refine store_event (t := 37) (p := 4) (v := ?vo_w146) (w1 := ((((((w144.setCell ⟨gb33, 0, none⟩ (.slice A18 r17.length c19)).setCell ⟨gb33, 1, none⟩ (.int .i64 r21)).setCell ⟨gb33, 2, none⟩ (.slice A23 r22.length c24)).setCell ⟨gb33, 3, none⟩ (.string r26)).setCell ⟨gb33, 4, none⟩ (.string r27)).setCell ⟨gb33, 5, none⟩ (.int .i64 r28))) ?hg ?ho ?hn ?hr ?_; (case ho => rfl); (case hg => rfl); (case hn => rfl); (case hr => first | (go_simp; done) | (go_simp; rfl)); intro w146 hw; (try clear hzgb2_0 hzgb2_1 hzgb2_2); (try clear hzgb33_0 hzgb33_1 hzgb33_2 hzgb33_3 hzgb33_4 hzgb33_5); have hO_ : Go.Proofs.YtcnmngiaebgjkaaOwn.Only w144 w146 gb33 := (by rw [hw]; exact ((((((Go.Proofs.YtcnmngiaebgjkaaOwn.Only.refl _ _).set 0 _).set 1 _).set 2 _).set 3 _).set 4 _).set 5 _); have hbx_ : w146.heap[gb33]? = some (.cells #[.slice A18 r17.length c19, .int .i64 r21, .slice A23 r22.length c24, .string r26, .string r27, .int .i64 r28] 37 (0, 0)) := (by rw [hw]; refine blk_put (cs := #[.slice A18 r17.length c19, .int .i64 r21, .slice A23 r22.length c24, .string r26, .string r27, .int .i64 0]) ?_ 5 _ rfl; refine blk_put (cs := #[.slice A18 r17.length c19, .int .i64 r21, .slice A23 r22.length c24, .string r26, .string (⟨#[]⟩ : ByteArray), .int .i64 0]) ?_ 4 _ rfl; refine blk_put (cs := #[.slice A18 r17.length c19, .int .i64 r21, .slice A23 r22.length c24, .string (⟨#[]⟩ : ByteArray), .string (⟨#[]⟩ : ByteArray), .int .i64 0]) ?_ 3 _ rfl; refine blk_put (cs := #[.slice A18 r17.length c19, .int .i64 r21, .slice none 0 0, .string (⟨#[]⟩ : ByteArray), .string (⟨#[]⟩ : ByteArray), .int .i64 0]) ?_ 2 _ rfl; refine blk_put (cs := #[.slice A18 r17.length c19, .int .i64 0, .slice none 0 0, .string (⟨#[]⟩ : ByteArray), .string (⟨#[]⟩ : ByteArray), .int .i64 0]) ?_ 1 _ rfl; refine blk_put (cs := #[.slice none 0 0, .int .i64 0, .slice none 0 0, .string (⟨#[]⟩ : ByteArray), .string (⟨#[]⟩ : ByteArray), .int .i64 0]) ?_ 0 _ rfl; exact BK145.out); (try clear hs0_ hfs0_ hs1_ hfs1_ hs2_ hfs2_ hs3_ hfs3_ hs4_ hfs4_ hs5_ hfs5_); clear hw; have m_ := Aside0.mk (Go.Proofs.YtcnmngiaebgjkaaOwn.onlyS HO9.out BK145.out (by decide) hO_); clear HO9; have HO9 := m_; clear m_; have m_ := Aside0.mk (Go.Proofs.YtcnmngiaebgjkaaOwn.onlyS HO14.out BK145.out (by decide) hO_); clear HO14; have HO14 := m_; clear m_; have m_ := Aside0.mk (Go.Proofs.YtcnmngiaebgjkaaOwn.onlyS HO20.out BK145.out (by decide) hO_); clear HO20; have HO20 := m_; clear m_; have m_ := Aside0.mk (Go.Proofs.YtcnmngiaebgjkaaOwn.onlyS HO25.out BK145.out (by decide) hO_); clear HO25; have HO25 := m_; clear m_; have m_ := Aside0.mk ((hO_.others _ NBgb2_gb33.out).trans BK132.out); clear BK132; have BK132 := m_; clear m_; have m_ := Aside0.mk (hO_.below HB.out GEgb33.out); clear HB; have HB := m_; clear m_; have HSw146 := Aside0.mk (Nat.le_of_eq hO_.size.symm : w144.heap.size ≤ w146.heap.size); clear BK145; have BK147 := Aside0.mk hbx_; clear hbx_ hO_; have hzgb2_0 : w146.cell? ⟨gb2, 0, none⟩ = some (.slice A0_0 l0_0.length c0_0) := (blk_cell BK132.out 0).trans rfl; have hzgb2_1 : w146.cell? ⟨gb2, 1, none⟩ = some (.int .i64 a0_1) := (blk_cell BK132.out 1).trans rfl; have hzgb2_2 : w146.cell? ⟨gb2, 2, none⟩ = some (.slice A0_2 l0_2.length c0_2) := (blk_cell BK132.out 2).trans rfl; have hzgb33_0 : w146.cell? ⟨gb33, 0, none⟩ = some (.slice A18 r17.length c19) := (blk_cell BK147.out 0).trans rfl; have hzgb33_1 : w146.cell? ⟨gb33, 1, none⟩ = some (.int .i64 r21) := (blk_cell BK147.out 1).trans rfl; have hzgb33_2 : w146.cell? ⟨gb33, 2, none⟩ = some (.slice A23 r22.length c24) := (blk_cell BK147.out 2).trans rfl; have hzgb33_3 : w146.cell? ⟨gb33, 3, none⟩ = some (.string r26) := (blk_cell BK147.out 3).trans rfl; have hzgb33_4 : w146.cell? ⟨gb33, 4, none⟩ = some (.string r27) := (blk_cell BK147.out 4).trans rfl; have hzgb33_5 : w146.cell? ⟨gb33, 5, none⟩ = some (.int .i64 r28) := (blk_cell BK147.out 5).trans rfl) | ((with_reducible refine gate_callee (f := 6) rfl ?_); (try (refine gate_guard (by rfl) ?_; dsimp only)); refine goesL_ (some 26) rfl rfl Try.func6 (by kernel_rfl) rfl #[.agg #[.slice A0_0 l0_0.length c0_0, .int .i64 a0_1, .slice A0_2 l0_2.length c0_2]] rfl (by (try simp only [List.map_toArray, List.map_cons, List.map_nil]); first | done | rfl | (simp only [List.length_drop, List.length_take]; rfl)) ?_; (with_reducible refine (laws_toTerminal.calls2 k _ _ l0_0 a0_1 _ _ l0_2 r34 r38 r39 w146 (Kd.C_below HR0_0.out (by repeat (first | (with_reducible first | exact HB.out | apply below_alloc | apply pw_below_drewN | apply below_drew1) | exact HB.out))) HC0_0.out (Kd.C_below HR0_2.out (by repeat (first | (with_reducible first | exact HB.out | apply below_alloc | apply pw_below_drewN | apply below_drew1) | exact HB.out))) HC0_2.out A44.out).mono ?_); rintro e w148 ⟨Pw148, v151, v152, rfl, ho149, ho150, hb⟩; (try clear hzgb2_0 hzgb2_1 hzgb2_2); (try clear hzgb33_0 hzgb33_1 hzgb33_2 hzgb33_3 hzgb33_4 hzgb33_5); refine ⟨_, rfl, ?_⟩; have m_ := Aside0.mk (Kd.S_below HO9.out hb); clear HO9; have HO9 := m_; clear m_; have m_ := Aside0.mk (Kd.S_below HO14.out hb); clear HO14; have HO14 := m_; clear m_; have m_ := Aside0.mk (Kd.S_below HO20.out hb); clear HO20; have HO20 := m_; clear m_; have m_ := Aside0.mk (Kd.S_below HO25.out hb); clear HO25; have HO25 := m_; clear m_; have m_ := Aside0.mk (blk_below BK132.out hb); clear BK132; have BK132 := m_; clear m_; have m_ := Aside0.mk (blk_below BK147.out hb); clear BK147; have BK147 := m_; clear m_; have HSw148 := Aside0.mk (show w146.heap.size ≤ w148.heap.size from hb.size); have m_ := (show Kd.S (Kd.slice 3 (Kd.int .i64)) 60 w148 w.heap.size (fun k_ => (w146.heap.size ≤ k_ ∧ k_ < w148.heap.size) ∧ Pw148 k_) v151 r34 from Kd.S_mono (Kd.S_lower (Kd.S_bound ho149) (below_size (by repeat (first | (with_reducible first | exact HB.out | apply below_alloc | apply pw_below_drewN | apply below_drew1) | exact HB.out)))) (fun k_ hk_ => ⟨⟨hk_.2.1, hk_.2.2.1⟩, hk_.1⟩)); obtain ⟨A35, c36, e_⟩ := Kd.S_slice m_; subst e_; have HO37 := Aside0.mk m_; clear m_ ho149; have m_ := (show Kd.S (Kd.slice 3 (Kd.int .i64)) 60 w148 w.heap.size (fun k_ => (w146.heap.size ≤ k_ ∧ k_ < w148.heap.size) ∧ ¬ Pw148 k_) v152 r39 from Kd.S_mono (Kd.S_lower (Kd.S_bound ho150) (below_size (by repeat (first | (with_reducible first | exact HB.out | apply below_alloc | apply pw_below_drewN | apply below_drew1) | exact HB.out)))) (fun k_ hk_ => ⟨⟨hk_.2.1, hk_.2.2.1⟩, hk_.1⟩)); obtain ⟨A40, c41, e_⟩ := Kd.S_slice m_; subst e_; have HO42 := Aside0.mk m_; clear m_ ho150; have m_ := Aside0.mk (below_step HB.out hb); clear HB; have HB := m_; clear m_; clear hb; have hzgb2_0 : w148.cell? ⟨gb2, 0, none⟩ = some (.slice A0_0 l0_0.length c0_0) := (blk_cell BK132.out 0).trans rfl; have hzgb2_1 : w148.cell? ⟨gb2, 1, none⟩ = some (.int .i64 a0_1) := (blk_cell BK132.out 1).trans rfl; have hzgb2_2 : w148.cell? ⟨gb2, 2, none⟩ = some (.slice A0_2 l0_2.length c0_2) := (blk_cell BK132.out 2).trans rfl; have hzgb33_0 : w148.cell? ⟨gb33, 0, none⟩ = some (.slice A18 r17.length c19) := (blk_cell BK147.out 0).trans rfl; have hzgb33_1 : w148.cell? ⟨gb33, 1, none⟩ = some (.int .i64 r21) := (blk_cell BK147.out 1).trans rfl; have hzgb33_2 : w148.cell? ⟨gb33, 2, none⟩ = some (.slice A23 r22.length c24) := (blk_cell BK147.out 2).trans rfl; have hzgb33_3 : w148.cell? ⟨gb33, 3, none⟩ = some (.string r26) := (blk_cell BK147.out 3).trans rfl; have hzgb33_4 : w148.cell? ⟨gb33, 4, none⟩ = some (.string r27) := (blk_cell BK147.out 4).trans rfl; have hzgb33_5 : w148.cell? ⟨gb33, 5, none⟩ = some (.int .i64 r28) := (blk_cell BK147.out 5).trans rfl) | ((with_reducible refine gate_dst (N := 6) rfl ?_); refine box_event ?hg (N := 6) ?hd (cs := #[.slice none 0 0, .int .i64 0, .slice none 0 0]) (t := 33) ?hr ?_; (case hd => rfl); (case hg => rfl); (case hr => first | (go_simp; done) | (go_simp; rfl)); intro gb46 hg w153 hbox hb; (try clear hzgb2_0 hzgb2_1 hzgb2_2); (try clear hzgb33_0 hzgb33_1 hzgb33_2 hzgb33_3 hzgb33_4 hzgb33_5); (try clear hzgb46_0 hzgb46_1 hzgb46_2); have NBgb2_gb46 := Aside0.mk (show gb2 ≠ gb46 by rw [hg]; exact Nat.ne_of_lt (blk_lt BK132.out)); have NBgb33_gb46 := Aside0.mk (show gb33 ≠ gb46 by rw [hg]; exact Nat.ne_of_lt (blk_lt BK147.out)); have GEgb46 := Aside0.mk (show w.heap.size ≤ gb46 by rw [hg]; exact below_size (by repeat (first | (with_reducible first | exact HB.out | apply below_alloc | apply pw_below_drewN | apply below_drew1) | exact HB.out))); have BK154 := Aside0.mk hbox; have m_ := Aside0.mk (Kd.S_below HO9.out hb); clear HO9; have HO9 := m_; clear m_; have m_ := Aside0.mk (Kd.S_below HO14.out hb); clear HO14; have HO14 := m_; clear m_; have m_ := Aside0.mk (Kd.S_below HO20.out hb); clear HO20; have HO20 := m_; clear m_; have m_ := Aside0.mk (Kd.S_below HO25.out hb); clear HO25; have HO25 := m_; clear m_; have m_ := Aside0.mk (Kd.S_below HO37.out hb); clear HO37; have HO37 := m_; clear m_; have m_ := Aside0.mk (Kd.S_below HO42.out hb); clear HO42; have HO42 := m_; clear m_; have m_ := Aside0.mk (blk_below BK132.out hb); clear BK132; have BK132 := m_; clear m_; have m_ := Aside0.mk (blk_below BK147.out hb); clear BK147; have BK147 := m_; clear m_; have HSw153 := Aside0.mk (show w148.heap.size ≤ w153.heap.size from hb.size); have m_ := Aside0.mk (below_step HB.out hb); clear HB; have HB := m_; clear m_; clear hb hbox hg; have hzgb2_0 : w153.cell? ⟨gb2, 0, none⟩ = some (.slice A0_0 l0_0.length c0_0) := (blk_cell BK132.out 0).trans rfl; have hzgb2_1 : w153.cell? ⟨gb2, 1, none⟩ = some (.int .i64 a0_1) := (blk_cell BK132.out 1).trans rfl; have hzgb2_2 : w153.cell? ⟨gb2, 2, none⟩ = some (.slice A0_2 l0_2.length c0_2) := (blk_cell BK132.out 2).trans rfl; have hzgb33_0 : w153.cell? ⟨gb33, 0, none⟩ = some (.slice A18 r17.length c19) := (blk_cell BK147.out 0).trans rfl; have hzgb33_1 : w153.cell? ⟨gb33, 1, none⟩ = some (.int .i64 r21) := (blk_cell BK147.out 1).trans rfl; have hzgb33_2 : w153.cell? ⟨gb33, 2, none⟩ = some (.slice A23 r22.length c24) := (blk_cell BK147.out 2).trans rfl; have hzgb33_3 : w153.cell? ⟨gb33, 3, none⟩ = some (.string r26) := (blk_cell BK147.out 3).trans rfl; have hzgb33_4 : w153.cell? ⟨gb33, 4, none⟩ = some (.string r27) := (blk_cell BK147.out 4).trans rfl; have hzgb33_5 : w153.cell? ⟨gb33, 5, none⟩ = some (.int .i64 r28) := (blk_cell BK147.out 5).trans rfl; have hzgb46_0 : w153.cell? ⟨gb46, 0, none⟩ = some (.slice none 0 0) := (blk_cell BK154.out 0).trans rfl; have hzgb46_1 : w153.cell? ⟨gb46, 1, none⟩ = some (.int .i64 0) := (blk_cell BK154.out 1).trans rfl; have hzgb46_2 : w153.cell? ⟨gb46, 2, none⟩ = some (.slice none 0 0) := (blk_cell BK154.out 2).trans rfl) | ((with_reducible refine gate_store (t := 33) (p := 6) rfl ?_); have hs0_ : w153.cell? ⟨gb46, 0, none⟩ = some (.slice none 0 0) := (blk_cell BK154.out 0).trans rfl; have hfs0_ := blk_frozen BK154.out 0; have hs1_ : w153.cell? ⟨gb46, 1, none⟩ = some (.int .i64 0) := (blk_cell BK154.out 1).trans rfl; have hfs1_ := blk_frozen BK154.out 1; have hs2_ : w153.cell? ⟨gb46, 2, none⟩ = some (.slice none 0 0) := (blk_cell BK154.out 2).trans rfl; have hfs2_ := blk_frozen BK154.out 2; refine store_event (t := 33) (p := 6) (v := ?vo_w155) (w1 := (((w153.setCell ⟨gb46, 0, none⟩ (.slice A35 r34.length c36)).setCell ⟨gb46, 1, none⟩ (.int .i64 r38)).setCell ⟨gb46, 2, none⟩ (.slice A40 r39.length c41))) ?hg ?ho ?hn ?hr ?_; (case ho => rfl); (case hg => rfl); (case hn => rfl); (case hr => first | (go_simp; done) | (go_simp; rfl)); intro w155 hw; (try clear hzgb2_0 hzgb2_1 hzgb2_2); (try clear hzgb33_0 hzgb33_1 hzgb33_2 hzgb33_3 hzgb33_4 hzgb33_5); (try clear hzgb46_0 hzgb46_1 hzgb46_2); have hO_ : Go.Proofs.YtcnmngiaebgjkaaOwn.Only w153 w155 gb46 := (by rw [hw]; exact (((Go.Proofs.YtcnmngiaebgjkaaOwn.Only.refl _ _).set 0 _).set 1 _).set 2 _); have hbx_ : w155.heap[gb46]? = some (.cells #[.slice A35 r34.length c36, .int .i64 r38, .slice A40 r39.length c41] 33 (0, 0)) := (by rw [hw]; refine blk_put (cs := #[.slice A35 r34.length c36, .int .i64 r38, .slice none 0 0]) ?_ 2 _ rfl; refine blk_put (cs := #[.slice A35 r34.length c36, .int .i64 0, .slice none 0 0]) ?_ 1 _ rfl; refine blk_put (cs := #[.slice none 0 0, .int .i64 0, .slice none 0 0]) ?_ 0 _ rfl; exact BK154.out); (try clear hs0_ hfs0_ hs1_ hfs1_ hs2_ hfs2_); clear hw; have m_ := Aside0.mk (Go.Proofs.YtcnmngiaebgjkaaOwn.onlyS HO9.out BK154.out (by decide) hO_); clear HO9; have HO9 := m_; clear m_; have m_ := Aside0.mk (Go.Proofs.YtcnmngiaebgjkaaOwn.onlyS HO14.out BK154.out (by decide) hO_); clear HO14; have HO14 := m_; clear m_; have m_ := Aside0.mk (Go.Proofs.YtcnmngiaebgjkaaOwn.onlyS HO20.out BK154.out (by decide) hO_); clear HO20; have HO20 := m_; clear m_; have m_ := Aside0.mk (Go.Proofs.YtcnmngiaebgjkaaOwn.onlyS HO25.out BK154.out (by decide) hO_); clear HO25; have HO25 := m_; clear m_; have m_ := Aside0.mk (Go.Proofs.YtcnmngiaebgjkaaOwn.onlyS HO37.out BK154.out (by decide) hO_); clear HO37; have HO37 := m_; clear m_; have m_ := Aside0.mk (Go.Proofs.YtcnmngiaebgjkaaOwn.onlyS HO42.out BK154.out (by decide) hO_); clear HO42; have HO42 := m_; clear m_; have m_ := Aside0.mk ((hO_.others _ NBgb2_gb46.out).trans BK132.out); clear BK132; have BK132 := m_; clear m_; have m_ := Aside0.mk ((hO_.others _ NBgb33_gb46.out).trans BK147.out); clear BK147; have BK147 := m_; clear m_; have m_ := Aside0.mk (hO_.below HB.out GEgb46.out); clear HB; have HB := m_; clear m_; have HSw155 := Aside0.mk (Nat.le_of_eq hO_.size.symm : w153.heap.size ≤ w155.heap.size); clear BK154; have BK156 := Aside0.mk hbx_; clear hbx_ hO_; have hzgb2_0 : w155.cell? ⟨gb2, 0, none⟩ = some (.slice A0_0 l0_0.length c0_0) := (blk_cell BK132.out 0).trans rfl; have hzgb2_1 : w155.cell? ⟨gb2, 1, none⟩ = some (.int .i64 a0_1) := (blk_cell BK132.out 1).trans rfl; have hzgb2_2 : w155.cell? ⟨gb2, 2, none⟩ = some (.slice A0_2 l0_2.length c0_2) := (blk_cell BK132.out 2).trans rfl; have hzgb33_0 : w155.cell? ⟨gb33, 0, none⟩ = some (.slice A18 r17.length c19) := (blk_cell BK147.out 0).trans rfl; have hzgb33_1 : w155.cell? ⟨gb33, 1, none⟩ = some (.int .i64 r21) := (blk_cell BK147.out 1).trans rfl; have hzgb33_2 : w155.cell? ⟨gb33, 2, none⟩ = some (.slice A23 r22.length c24) := (blk_cell BK147.out 2).trans rfl; have hzgb33_3 : w155.cell? ⟨gb33, 3, none⟩ = some (.string r26) := (blk_cell BK147.out 3).trans rfl; have hzgb33_4 : w155.cell? ⟨gb33, 4, none⟩ = some (.string r27) := (blk_cell BK147.out 4).trans rfl; have hzgb33_5 : w155.cell? ⟨gb33, 5, none⟩ = some (.int .i64 r28) := (blk_cell BK147.out 5).trans rfl; have hzgb46_0 : w155.cell? ⟨gb46, 0, none⟩ = some (.slice A35 r34.length c36) := (blk_cell BK156.out 0).trans rfl; have hzgb46_1 : w155.cell? ⟨gb46, 1, none⟩ = some (.int .i64 r38) := (blk_cell BK156.out 1).trans rfl; have hzgb46_2 : w155.cell? ⟨gb46, 2, none⟩ = some (.slice A40 r39.length c41) := (blk_cell BK156.out 2).trans rfl) | ((with_reducible refine gate_callee (f := 7) rfl ?_); (try (refine gate_guard (by rfl) ?_; dsimp only)); refine goesL_ (some 29) rfl rfl Try.func7 (by kernel_rfl) rfl #[.agg #[.slice A35 r34.length c36, .int .i64 r38, .slice A40 r39.length c41]] rfl (by (try simp only [List.map_toArray, List.map_cons, List.map_nil]); first | done | rfl | (simp only [List.length_drop, List.length_take]; rfl)) ?_; (with_reducible refine (impl_NewConsole.calls2 k _ _ r34 r38 _ _ r39 r47 r51 r52 r56 r57 r58 r120 w155 (Kd.S_reads' HO37.out).2.2 (Nat.le_trans (Nat.le_of_eq (Kd.S_reads' HO37.out).1.symm) (Kd.S_reads' HO37.out).2.1) (Kd.S_reads' HO42.out).2.2 (Nat.le_trans (Nat.le_of_eq (Kd.S_reads' HO42.out).1.symm) (Kd.S_reads' HO42.out).2.1) A61.out).mono ?_); rintro e w157 ⟨Pw157, v160, v161, rfl, ho158, ho159, hb⟩; (try clear hzgb2_0 hzgb2_1 hzgb2_2); (try clear hzgb33_0 hzgb33_1 hzgb33_2 hzgb33_3 hzgb33_4 hzgb33_5); (try clear hzgb46_0 hzgb46_1 hzgb46_2); refine ⟨_, rfl, ?_⟩; have m_ := Aside0.mk (Kd.S_below HO9.out hb); clear HO9; have HO9 := m_; clear m_; have m_ := Aside0.mk (Kd.S_below HO14.out hb); clear HO14; have HO14 := m_; clear m_; have m_ := Aside0.mk (Kd.S_below HO20.out hb); clear HO20; have HO20 := m_; clear m_; have m_ := Aside0.mk (Kd.S_below HO25.out hb); clear HO25; have HO25 := m_; clear m_; have m_ := Aside0.mk (Kd.S_below HO37.out hb); clear HO37; have HO37 := m_; clear m_; have m_ := Aside0.mk (Kd.S_below HO42.out hb); clear HO42; have HO42 := m_; clear m_; have m_ := Aside0.mk (blk_below BK132.out hb); clear BK132; have BK132 := m_; clear m_; have m_ := Aside0.mk (blk_below BK147.out hb); clear BK147; have BK147 := m_; clear m_; have m_ := Aside0.mk (blk_below BK156.out hb); clear BK156; have BK156 := m_; clear m_; have HSw157 := Aside0.mk (show w155.heap.size ≤ w157.heap.size from hb.size); have m_ := (show Kd.S (Kd.slice 3 (Kd.int .i64)) 60 w157 w.heap.size (fun k_ => (w155.heap.size ≤ k_ ∧ k_ < w157.heap.size) ∧ Pw157 k_) v160 r47 from Kd.S_mono (Kd.S_lower (Kd.S_bound ho158) (below_size (by repeat (first | (with_reducible first | exact HB.out | apply below_alloc | apply pw_below_drewN | apply below_drew1) | exact HB.out)))) (fun k_ hk_ => ⟨⟨hk_.2.1, hk_.2.2.1⟩, hk_.1⟩)); obtain ⟨A48, c49, e_⟩ := Kd.S_slice m_; subst e_; have HO50 := Aside0.mk m_; clear m_ ho158; have m_ := (show Kd.S (Kd.slice 3 (Kd.int .i64)) 60 w157 w.heap.size (fun k_ => (w155.heap.size ≤ k_ ∧ k_ < w157.heap.size) ∧ ¬ Pw157 k_) v161 r52 from Kd.S_mono (Kd.S_lower (Kd.S_bound ho159) (below_size (by repeat (first | (with_reducible first | exact HB.out | apply below_alloc | apply pw_below_drewN | apply below_drew1) | exact HB.out)))) (fun k_ hk_ => ⟨⟨hk_.2.1, hk_.2.2.1⟩, hk_.1⟩)); obtain ⟨A53, c54, e_⟩ := Kd.S_slice m_; subst e_; have HO55 := Aside0.mk m_; clear m_ ho159; have m_ := Aside0.mk (below_step HB.out hb); clear HB; have HB := m_; clear m_; clear hb; have hzgb2_0 : w157.cell? ⟨gb2, 0, none⟩ = some (.slice A0_0 l0_0.length c0_0) := (blk_cell BK132.out 0).trans rfl; have hzgb2_1 : w157.cell? ⟨gb2, 1, none⟩ = some (.int .i64 a0_1) := (blk_cell BK132.out 1).trans rfl; have hzgb2_2 : w157.cell? ⟨gb2, 2, none⟩ = some (.slice A0_2 l0_2.length c0_2) := (blk_cell BK132.out 2).trans rfl; have hzgb33_0 : w157.cell? ⟨gb33, 0, none⟩ = some (.slice A18 r17.length c19) := (blk_cell BK147.out 0).trans rfl; have hzgb33_1 : w157.cell? ⟨gb33, 1, none⟩ = some (.int .i64 r21) := (blk_cell BK147.out 1).trans rfl; have hzgb33_2 : w157.cell? ⟨gb33, 2, none⟩ = some (.slice A23 r22.length c24) := (blk_cell BK147.out 2).trans rfl; have hzgb33_3 : w157.cell? ⟨gb33, 3, none⟩ = some (.string r26) := (blk_cell BK147.out 3).trans rfl; have hzgb33_4 : w157.cell? ⟨gb33, 4, none⟩ = some (.string r27) := (blk_cell BK147.out 4).trans rfl; have hzgb33_5 : w157.cell? ⟨gb33, 5, none⟩ = some (.int .i64 r28) := (blk_cell BK147.out 5).trans rfl; have hzgb46_0 : w157.cell? ⟨gb46, 0, none⟩ = some (.slice A35 r34.length c36) := (blk_cell BK156.out 0).trans rfl; have hzgb46_1 : w157.cell? ⟨gb46, 1, none⟩ = some (.int .i64 r38) := (blk_cell BK156.out 1).trans rfl; have hzgb46_2 : w157.cell? ⟨gb46, 2, none⟩ = some (.slice A40 r39.length c41) := (blk_cell BK156.out 2).trans rfl) | ((with_reducible refine gate_dst (N := 7) rfl ?_); refine box_event ?hg (N := 7) ?hd (cs := #[.slice none 0 0, .int .i64 0, .slice none 0 0, .string (⟨#[]⟩ : ByteArray), .string (⟨#[]⟩ : ByteArray), .int .i64 0]) (t := 37) ?hr ?_; (case hd => rfl); (case hg => rfl); (case hr => first | (go_simp; done) | (go_simp; rfl)); intro gb63 hg w162 hbox hb; (try clear hzgb2_0 hzgb2_1 hzgb2_2); (try clear hzgb33_0 hzgb33_1 hzgb33_2 hzgb33_3 hzgb33_4 hzgb33_5); (try clear hzgb46_0 hzgb46_1 hzgb46_2); (try clear hzgb63_0 hzgb63_1 hzgb63_2 hzgb63_3 hzgb63_4 hzgb63_5); have NBgb2_gb63 := Aside0.mk (show gb2 ≠ gb63 by rw [hg]; exact Nat.ne_of_lt (blk_lt BK132.out)); have NBgb33_gb63 := Aside0.mk (show gb33 ≠ gb63 by rw [hg]; exact Nat.ne_of_lt (blk_lt BK147.out)); have NBgb46_gb63 := Aside0.mk (show gb46 ≠ gb63 by rw [hg]; exact Nat.ne_of_lt (blk_lt BK156.out)); have GEgb63 := Aside0.mk (show w.heap.size ≤ gb63 by rw [hg]; exact below_size (by repeat (first | (with_reducible first | exact HB.out | apply below_alloc | apply pw_below_drewN | apply below_drew1) | exact HB.out))); have BK163 := Aside0.mk hbox; have m_ := Aside0.mk (Kd.S_below HO9.out hb); clear HO9; have HO9 := m_; clear m_; have m_ := Aside0.mk (Kd.S_below HO14.out hb); clear HO14; have HO14 := m_; clear m_; have m_ := Aside0.mk (Kd.S_below HO20.out hb); clear HO20; have HO20 := m_; clear m_; have m_ := Aside0.mk (Kd.S_below HO25.out hb); clear HO25; have HO25 := m_; clear m_; have m_ := Aside0.mk (Kd.S_below HO37.out hb); clear HO37; have HO37 := m_; clear m_; have m_ := Aside0.mk (Kd.S_below HO42.out hb); clear HO42; have HO42 := m_; clear m_; have m_ := Aside0.mk (Kd.S_below HO50.out hb); clear HO50; have HO50 := m_; clear m_; have m_ := Aside0.mk (Kd.S_below HO55.out hb); clear HO55; have HO55 := m_; clear m_; have m_ := Aside0.mk (blk_below BK132.out hb); clear BK132; have BK132 := m_; clear m_; have m_ := Aside0.mk (blk_below BK147.out hb); clear BK147; have BK147 := m_; clear m_; have m_ := Aside0.mk (blk_below BK156.out hb); clear BK156; have BK156 := m_; clear m_; have HSw162 := Aside0.mk (show w157.heap.size ≤ w162.heap.size from hb.size); have m_ := Aside0.mk (below_step HB.out hb); clear HB; have HB := m_; clear m_; clear hb hbox hg; have hzgb2_0 : w162.cell? ⟨gb2, 0, none⟩ = some (.slice A0_0 l0_0.length c0_0) := (blk_cell BK132.out 0).trans rfl; have hzgb2_1 : w162.cell? ⟨gb2, 1, none⟩ = some (.int .i64 a0_1) := (blk_cell BK132.out 1).trans rfl; have hzgb2_2 : w162.cell? ⟨gb2, 2, none⟩ = some (.slice A0_2 l0_2.length c0_2) := (blk_cell BK132.out 2).trans rfl; have hzgb33_0 : w162.cell? ⟨gb33, 0, none⟩ = some (.slice A18 r17.length c19) := (blk_cell BK147.out 0).trans rfl; have hzgb33_1 : w162.cell? ⟨gb33, 1, none⟩ = some (.int .i64 r21) := (blk_cell BK147.out 1).trans rfl; have hzgb33_2 : w162.cell? ⟨gb33, 2, none⟩ = some (.slice A23 r22.length c24) := (blk_cell BK147.out 2).trans rfl; have hzgb33_3 : w162.cell? ⟨gb33, 3, none⟩ = some (.string r26) := (blk_cell BK147.out 3).trans rfl; have hzgb33_4 : w162.cell? ⟨gb33, 4, none⟩ = some (.string r27) := (blk_cell BK147.out 4).trans rfl; have hzgb33_5 : w162.cell? ⟨gb33, 5, none⟩ = some (.int .i64 r28) := (blk_cell BK147.out 5).trans rfl; have hzgb46_0 : w162.cell? ⟨gb46, 0, none⟩ = some (.slice A35 r34.length c36) := (blk_cell BK156.out 0).trans rfl; have hzgb46_1 : w162.cell? ⟨gb46, 1, none⟩ = some (.int .i64 r38) := (blk_cell BK156.out 1).trans rfl; have hzgb46_2 : w162.cell? ⟨gb46, 2, none⟩ = some (.slice A40 r39.length c41) := (blk_cell BK156.out 2).trans rfl; have hzgb63_0 : w162.cell? ⟨gb63, 0, none⟩ = some (.slice none 0 0) := (blk_cell BK163.out 0).trans rfl; have hzgb63_1 : w162.cell? ⟨gb63, 1, none⟩ = some (.int .i64 0) := (blk_cell BK163.out 1).trans rfl; have hzgb63_2 : w162.cell? ⟨gb63, 2, none⟩ = some (.slice none 0 0) := (blk_cell BK163.out 2).trans rfl; have hzgb63_3 : w162.cell? ⟨gb63, 3, none⟩ = some (.string (⟨#[]⟩ : ByteArray)) := (blk_cell BK163.out 3).trans rfl; have hzgb63_4 : w162.cell? ⟨gb63, 4, none⟩ = some (.string (⟨#[]⟩ : ByteArray)) := (blk_cell BK163.out 4).trans rfl; have hzgb63_5 : w162.cell? ⟨gb63, 5, none⟩ = some (.int .i64 0) := (blk_cell BK163.out 5).trans rfl) | ((with_reducible refine gate_store (t := 37) (p := 7) rfl ?_); have hs0_ : w162.cell? ⟨gb63, 0, none⟩ = some (.slice none 0 0) := (blk_cell BK163.out 0).trans rfl; have hfs0_ := blk_frozen BK163.out 0; have hs1_ : w162.cell? ⟨gb63, 1, none⟩ = some (.int .i64 0) := (blk_cell BK163.out 1).trans rfl; have hfs1_ := blk_frozen BK163.out 1; have hs2_ : w162.cell? ⟨gb63, 2, none⟩ = some (.slice none 0 0) := (blk_cell BK163.out 2).trans rfl; have hfs2_ := blk_frozen BK163.out 2; have hs3_ : w162.cell? ⟨gb63, 3, none⟩ = some (.string (⟨#[]⟩ : ByteArray)) := (blk_cell BK163.out 3).trans rfl; have hfs3_ := blk_frozen BK163.out 3; have hs4_ : w162.cell? ⟨gb63, 4, none⟩ = some (.string (⟨#[]⟩ : ByteArray)) := (blk_cell BK163.out 4).trans rfl; have hfs4_ := blk_frozen BK163.out 4; have hs5_ : w162.cell? ⟨gb63, 5, none⟩ = some (.int .i64 0) := (blk_cell BK163.out 5).trans rfl; have hfs5_ := blk_frozen BK163.out 5; refine store_event (t := 37) (p := 7) (v := ?vo_w164) (w1 := ((((((w162.setCell ⟨gb63, 0, none⟩ (.slice A48 r47.length c49)).setCell ⟨gb63, 1, none⟩ (.int .i64 r51)).setCell ⟨gb63, 2, none⟩ (.slice A53 r52.length c54)).setCell ⟨gb63, 3, none⟩ (.string r56)).setCell ⟨gb63, 4, none⟩ (.string r57)).setCell ⟨gb63, 5, none⟩ (.int .i64 r58))) ?hg ?ho ?hn ?hr ?_; (case ho => rfl); (case hg => rfl); (case hn => rfl); (case hr => first | (go_simp; done) | (go_simp; rfl)); intro w164 hw; (try clear hzgb2_0 hzgb2_1 hzgb2_2); (try clear hzgb33_0 hzgb33_1 hzgb33_2 hzgb33_3 hzgb33_4 hzgb33_5); (try clear hzgb46_0 hzgb46_1 hzgb46_2); (try clear hzgb63_0 hzgb63_1 hzgb63_2 hzgb63_3 hzgb63_4 hzgb63_5); have hO_ : Go.Proofs.YtcnmngiaebgjkaaOwn.Only w162 w164 gb63 := (by rw [hw]; exact ((((((Go.Proofs.YtcnmngiaebgjkaaOwn.Only.refl _ _).set 0 _).set 1 _).set 2 _).set 3 _).set 4 _).set 5 _); have hbx_ : w164.heap[gb63]? = some (.cells #[.slice A48 r47.length c49, .int .i64 r51, .slice A53 r52.length c54, .string r56, .string r57, .int .i64 r58] 37 (0, 0)) := (by rw [hw]; refine blk_put (cs := #[.slice A48 r47.length c49, .int .i64 r51, .slice A53 r52.length c54, .string r56, .string r57, .int .i64 0]) ?_ 5 _ rfl; refine blk_put (cs := #[.slice A48 r47.length c49, .int .i64 r51, .slice A53 r52.length c54, .string r56, .string (⟨#[]⟩ : ByteArray), .int .i64 0]) ?_ 4 _ rfl; refine blk_put (cs := #[.slice A48 r47.length c49, .int .i64 r51, .slice A53 r52.length c54, .string (⟨#[]⟩ : ByteArray), .string (⟨#[]⟩ : ByteArray), .int .i64 0]) ?_ 3 _ rfl; refine blk_put (cs := #[.slice A48 r47.length c49, .int .i64 r51, .slice none 0 0, .string (⟨#[]⟩ : ByteArray), .string (⟨#[]⟩ : ByteArray), .int .i64 0]) ?_ 2 _ rfl; refine blk_put (cs := #[.slice A48 r47.length c49, .int .i64 0, .slice none 0 0, .string (⟨#[]⟩ : ByteArray), .string (⟨#[]⟩ : ByteArray), .int .i64 0]) ?_ 1 _ rfl; refine blk_put (cs := #[.slice none 0 0, .int .i64 0, .slice none 0 0, .string (⟨#[]⟩ : ByteArray), .string (⟨#[]⟩ : ByteArray), .int .i64 0]) ?_ 0 _ rfl; exact BK163.out); (try clear hs0_ hfs0_ hs1_ hfs1_ hs2_ hfs2_ hs3_ hfs3_ hs4_ hfs4_ hs5_ hfs5_); clear hw; have m_ := Aside0.mk (Go.Proofs.YtcnmngiaebgjkaaOwn.onlyS HO9.out BK163.out (by decide) hO_); clear HO9; have HO9 := m_; clear m_; have m_ := Aside0.mk (Go.Proofs.YtcnmngiaebgjkaaOwn.onlyS HO14.out BK163.out (by decide) hO_); clear HO14; have HO14 := m_; clear m_; have m_ := Aside0.mk (Go.Proofs.YtcnmngiaebgjkaaOwn.onlyS HO20.out BK163.out (by decide) hO_); clear HO20; have HO20 := m_; clear m_; have m_ := Aside0.mk (Go.Proofs.YtcnmngiaebgjkaaOwn.onlyS HO25.out BK163.out (by decide) hO_); clear HO25; have HO25 := m_; clear m_; have m_ := Aside0.mk (Go.Proofs.YtcnmngiaebgjkaaOwn.onlyS HO37.out BK163.out (by decide) hO_); clear HO37; have HO37 := m_; clear m_; have m_ := Aside0.mk (Go.Proofs.YtcnmngiaebgjkaaOwn.onlyS HO42.out BK163.out (by decide) hO_); clear HO42; have HO42 := m_; clear m_; have m_ := Aside0.mk (Go.Proofs.YtcnmngiaebgjkaaOwn.onlyS HO50.out BK163.out (by decide) hO_); clear HO50; have HO50 := m_; clear m_; have m_ := Aside0.mk (Go.Proofs.YtcnmngiaebgjkaaOwn.onlyS HO55.out BK163.out (by decide) hO_); clear HO55; have HO55 := m_; clear m_; have m_ := Aside0.mk ((hO_.others _ NBgb2_gb63.out).trans BK132.out); clear BK132; have BK132 := m_; clear m_; have m_ := Aside0.mk ((hO_.others _ NBgb33_gb63.out).trans BK147.out); clear BK147; have BK147 := m_; clear m_; have m_ := Aside0.mk ((hO_.others _ NBgb46_gb63.out).trans BK156.out); clear BK156; have BK156 := m_; clear m_; have m_ := Aside0.mk (hO_.below HB.out GEgb63.out); clear HB; have HB := m_; clear m_; have HSw164 := Aside0.mk (Nat.le_of_eq hO_.size.symm : w162.heap.size ≤ w164.heap.size); clear BK163; have BK165 := Aside0.mk hbx_; clear hbx_ hO_; have hzgb2_0 : w164.cell? ⟨gb2, 0, none⟩ = some (.slice A0_0 l0_0.length c0_0) := (blk_cell BK132.out 0).trans rfl; have hzgb2_1 : w164.cell? ⟨gb2, 1, none⟩ = some (.int .i64 a0_1) := (blk_cell BK132.out 1).trans rfl; have hzgb2_2 : w164.cell? ⟨gb2, 2, none⟩ = some (.slice A0_2 l0_2.length c0_2) := (blk_cell BK132.out 2).trans rfl; have hzgb33_0 : w164.cell? ⟨gb33, 0, none⟩ = some (.slice A18 r17.length c19) := (blk_cell BK147.out 0).trans rfl; have hzgb33_1 : w164.cell? ⟨gb33, 1, none⟩ = some (.int .i64 r21) := (blk_cell BK147.out 1).trans rfl; have hzgb33_2 : w164.cell? ⟨gb33, 2, none⟩ = some (.slice A23 r22.length c24) := (blk_cell BK147.out 2).trans rfl; have hzgb33_3 : w164.cell? ⟨gb33, 3, none⟩ = some (.string r26) := (blk_cell BK147.out 3).trans rfl; have hzgb33_4 : w164.cell? ⟨gb33, 4, none⟩ = some (.string r27) := (blk_cell BK147.out 4).trans rfl; have hzgb33_5 : w164.cell? ⟨gb33, 5, none⟩ = some (.int .i64 r28) := (blk_cell BK147.out 5).trans rfl; have hzgb46_0 : w164.cell? ⟨gb46, 0, none⟩ = some (.slice A35 r34.length c36) := (blk_cell BK156.out 0).trans rfl; have hzgb46_1 : w164.cell? ⟨gb46, 1, none⟩ = some (.int .i64 r38) := (blk_cell BK156.out 1).trans rfl; have hzgb46_2 : w164.cell? ⟨gb46, 2, none⟩ = some (.slice A40 r39.length c41) := (blk_cell BK156.out 2).trans rfl; have hzgb63_0 : w164.cell? ⟨gb63, 0, none⟩ = some (.slice A48 r47.length c49) := (blk_cell BK165.out 0).trans rfl; have hzgb63_1 : w164.cell? ⟨gb63, 1, none⟩ = some (.int .i64 r51) := (blk_cell BK165.out 1).trans rfl; have hzgb63_2 : w164.cell? ⟨gb63, 2, none⟩ = some (.slice A53 r52.length c54) := (blk_cell BK165.out 2).trans rfl; have hzgb63_3 : w164.cell? ⟨gb63, 3, none⟩ = some (.string r56) := (blk_cell BK165.out 3).trans rfl; have hzgb63_4 : w164.cell? ⟨gb63, 4, none⟩ = some (.string r57) := (blk_cell BK165.out 4).trans rfl; have hzgb63_5 : w164.cell? ⟨gb63, 5, none⟩ = some (.int .i64 r58) := (blk_cell BK165.out 5).trans rfl) | ((with_reducible refine gate_callee (f := 8) rfl ?_); (try (refine gate_guard (by rfl) ?_; dsimp only)); refine goesL_ (some 34) rfl rfl Try.func8 (by kernel_rfl) rfl #[.agg #[.slice A48 r47.length c49, .int .i64 r51, .slice A53 r52.length c54, .string r56, .string r57, .int .i64 r58], .agg #[.slice A18 r17.length c19, .int .i64 r21, .slice A23 r22.length c24, .string r26, .string r27, .int .i64 r28]] rfl (by (try simp only [List.map_toArray, List.map_cons, List.map_nil]); first | done | rfl | (simp only [List.length_drop, List.length_take]; rfl)) ?_; (with_reducible refine (laws_eqConsole.calls k _ _ r47 r51 _ _ r52 r56 r57 r58 _ _ r17 r21 _ _ r22 r26 r27 r28 true w164 (Kd.S_reads' HO50.out).2.2 (Nat.le_trans (Nat.le_of_eq (Kd.S_reads' HO50.out).1.symm) (Kd.S_reads' HO50.out).2.1) (Kd.S_reads' HO55.out).2.2 (Nat.le_trans (Nat.le_of_eq (Kd.S_reads' HO55.out).1.symm) (Kd.S_reads' HO55.out).2.1) (Kd.S_reads' HO20.out).2.2 (Nat.le_trans (Nat.le_of_eq (Kd.S_reads' HO20.out).1.symm) (Kd.S_reads' HO20.out).2.1) (Kd.S_reads' HO25.out).2.2 (Nat.le_trans (Nat.le_of_eq (Kd.S_reads' HO25.out).1.symm) (Kd.S_reads' HO25.out).2.1) A66.out).mono ?_); rintro e w166 ⟨rfl, hb⟩; (try clear hzgb2_0 hzgb2_1 hzgb2_2); (try clear hzgb33_0 hzgb33_1 hzgb33_2 hzgb33_3 hzgb33_4 hzgb33_5); (try clear hzgb46_0 hzgb46_1 hzgb46_2); (try clear hzgb63_0 hzgb63_1 hzgb63_2 hzgb63_3 hzgb63_4 hzgb63_5); refine ⟨_, rfl, ?_⟩; have m_ := Aside0.mk (Kd.S_below HO9.out hb); clear HO9; have HO9 := m_; clear m_; have m_ := Aside0.mk (Kd.S_below HO14.out hb); clear HO14; have HO14 := m_; clear m_; have m_ := Aside0.mk (Kd.S_below HO20.out hb); clear HO20; have HO20 := m_; clear m_; have m_ := Aside0.mk (Kd.S_below HO25.out hb); clear HO25; have HO25 := m_; clear m_; have m_ := Aside0.mk (Kd.S_below HO37.out hb); clear HO37; have HO37 := m_; clear m_; have m_ := Aside0.mk (Kd.S_below HO42.out hb); clear HO42; have HO42 := m_; clear m_; have m_ := Aside0.mk (Kd.S_below HO50.out hb); clear HO50; have HO50 := m_; clear m_; have m_ := Aside0.mk (Kd.S_below HO55.out hb); clear HO55; have HO55 := m_; clear m_; have m_ := Aside0.mk (blk_below BK132.out hb); clear BK132; have BK132 := m_; clear m_; have m_ := Aside0.mk (blk_below BK147.out hb); clear BK147; have BK147 := m_; clear m_; have m_ := Aside0.mk (blk_below BK156.out hb); clear BK156; have BK156 := m_; clear m_; have m_ := Aside0.mk (blk_below BK165.out hb); clear BK165; have BK165 := m_; clear m_; have HSw166 := Aside0.mk (show w164.heap.size ≤ w166.heap.size from hb.size); have m_ := Aside0.mk (below_step HB.out hb); clear HB; have HB := m_; clear m_; clear hb; have hzgb2_0 : w166.cell? ⟨gb2, 0, none⟩ = some (.slice A0_0 l0_0.length c0_0) := (blk_cell BK132.out 0).trans rfl; have hzgb2_1 : w166.cell? ⟨gb2, 1, none⟩ = some (.int .i64 a0_1) := (blk_cell BK132.out 1).trans rfl; have hzgb2_2 : w166.cell? ⟨gb2, 2, none⟩ = some (.slice A0_2 l0_2.length c0_2) := (blk_cell BK132.out 2).trans rfl; have hzgb33_0 : w166.cell? ⟨gb33, 0, none⟩ = some (.slice A18 r17.length c19) := (blk_cell BK147.out 0).trans rfl; have hzgb33_1 : w166.cell? ⟨gb33, 1, none⟩ = some (.int .i64 r21) := (blk_cell BK147.out 1).trans rfl; have hzgb33_2 : w166.cell? ⟨gb33, 2, none⟩ = some (.slice A23 r22.length c24) := (blk_cell BK147.out 2).trans rfl; have hzgb33_3 : w166.cell? ⟨gb33, 3, none⟩ = some (.string r26) := (blk_cell BK147.out 3).trans rfl; have hzgb33_4 : w166.cell? ⟨gb33, 4, none⟩ = some (.string r27) := (blk_cell BK147.out 4).trans rfl; have hzgb33_5 : w166.cell? ⟨gb33, 5, none⟩ = some (.int .i64 r28) := (blk_cell BK147.out 5).trans rfl; have hzgb46_0 : w166.cell? ⟨gb46, 0, none⟩ = some (.slice A35 r34.length c36) := (blk_cell BK156.out 0).trans rfl; have hzgb46_1 : w166.cell? ⟨gb46, 1, none⟩ = some (.int .i64 r38) := (blk_cell BK156.out 1).trans rfl; have hzgb46_2 : w166.cell? ⟨gb46, 2, none⟩ = some (.slice A40 r39.length c41) := (blk_cell BK156.out 2).trans rfl; have hzgb63_0 : w166.cell? ⟨gb63, 0, none⟩ = some (.slice A48 r47.length c49) := (blk_cell BK165.out 0).trans rfl; have hzgb63_1 : w166.cell? ⟨gb63, 1, none⟩ = some (.int .i64 r51) := (blk_cell BK165.out 1).trans rfl; have hzgb63_2 : w166.cell? ⟨gb63, 2, none⟩ = some (.slice A53 r52.length c54) := (blk_cell BK165.out 2).trans rfl; have hzgb63_3 : w166.cell? ⟨gb63, 3, none⟩ = some (.string r56) := (blk_cell BK165.out 3).trans rfl; have hzgb63_4 : w166.cell? ⟨gb63, 4, none⟩ = some (.string r57) := (blk_cell BK165.out 4).trans rfl; have hzgb63_5 : w166.cell? ⟨gb63, 5, none⟩ = some (.int .i64 r58) := (blk_cell BK165.out 5).trans rfl))
    (try clear hzgb2_0 hzgb2_1 hzgb2_2 hzgb33_0 hzgb33_1 hzgb33_2 hzgb33_3 hzgb33_4 hzgb33_5 hzgb46_0 hzgb46_1 hzgb46_2 hzgb63_0 hzgb63_1 hzgb63_2 hzgb63_3 hzgb63_4 hzgb63_5)
    have m_ := Aside0.mk (Kd.S_drew HO9.out)
    clear HO9
    have HO9 := m_
    clear m_
    have m_ := Aside0.mk (Kd.S_drew HO14.out)
    clear HO14
    have HO14 := m_
    clear m_
    have m_ := Aside0.mk (Kd.S_drew HO20.out)
    clear HO20
    have HO20 := m_
    clear m_
    have m_ := Aside0.mk (Kd.S_drew HO25.out)
    clear HO25
    have HO25 := m_
    clear m_
    have m_ := Aside0.mk (Kd.S_drew HO37.out)
    clear HO37
    have HO37 := m_
    clear m_
    have m_ := Aside0.mk (Kd.S_drew HO42.out)
    clear HO42
    have HO42 := m_
    clear m_
    have m_ := Aside0.mk (Kd.S_drew HO50.out)
    clear HO50
    have HO50 := m_
    clear m_
    have m_ := Aside0.mk (Kd.S_drew HO55.out)
    clear HO55
    have HO55 := m_
    clear m_
    have m_ := Aside0.mk (blk_drew BK132.out)
    clear BK132
    have BK132 := m_
    clear m_
    have m_ := Aside0.mk (blk_drew BK147.out)
    clear BK147
    have BK147 := m_
    clear m_
    have m_ := Aside0.mk (blk_drew BK156.out)
    clear BK156
    have BK156 := m_
    clear m_
    have m_ := Aside0.mk (blk_drew BK165.out)
    clear BK165
    have BK165 := m_
    clear m_
    have m_ := Aside0.mk (below_drew1 HB.out)
    clear HB
    have HB := m_
    clear m_
    have HSw167 := Aside0.mk (show w166.heap.size ≤ w166.drew.heap.size from Nat.le_refl _)
    refine start_ (n := 5) (S := fun w' => w'.cell? ⟨gb46, 0, none⟩ = some (.slice A35 r34.length c36) ∧ w'.cell? ⟨gb46, 1, none⟩ = some (.int .i64 r38) ∧ w'.cell? ⟨gb46, 2, none⟩ = some (.slice A40 r39.length c41) ∧ w'.cell? ⟨gb2, 0, none⟩ = some (.slice A0_0 l0_0.length c0_0) ∧ w'.cell? ⟨gb2, 1, none⟩ = some (.int .i64 a0_1) ∧ w'.cell? ⟨gb2, 2, none⟩ = some (.slice A0_2 l0_2.length c0_2)) (ds := []) #[false, false, false, false, false] (by kernel_rfl) rfl rfl ⟨(blk_cell BK156.out 0).trans rfl, (blk_cell BK156.out 1).trans rfl, (blk_cell BK156.out 2).trans rfl, (blk_cell BK132.out 0).trans rfl, (blk_cell BK132.out 1).trans rfl, (blk_cell BK132.out 2).trans rfl⟩ (fun hHeld => ?_)
    generalize w166.drew = w167 at HO9 HO14 HO20 HO25 HO37 HO42 HO50 HO55 BK132 BK147 BK156 BK165 HB HSw167 hHeld ⊢
    refine take_ (i := 0) (N := some 41) (v := ?_) (a' := ?_) #[true, false, false, false, false] rfl rfl (by kernel_rfl) (fun _ _ _ h => h) (Or.inl ⟨by rfl, ?_⟩) hHeld ?_ ?_
    rotate_left
    · rintro w' ⟨s0, s1, s2, s3, s4, s5⟩
      go_simp
      with_reducible rfl
    rotate_left
    · simp only [Act.put, List.setIfInBounds_toArray, List.set_cons_zero, List.set_cons_succ, i64_w, i32_w]
      rfl
    refine take_ (i := 1) (N := some 42) (v := ?_) (a' := ?_) #[true, true, false, false, false] rfl rfl (by kernel_rfl) (fun _ _ _ h => h) (Or.inl ⟨by rfl, ?_⟩) hHeld ?_ ?_
    rotate_left
    · rintro w' ⟨s0, s1, s2, s3, s4, s5⟩
      go_simp
      with_reducible rfl
    rotate_left
    · simp only [Act.put, List.setIfInBounds_toArray, List.set_cons_zero, List.set_cons_succ, i64_w, i32_w]
      rfl
    refine one_ (i := 2) (N := some 43) #[true, true, true, false, false] rfl rfl (by kernel_rfl) (by decide) (fun K hK => ?_)
    refine goes_ Try.func6 (by kernel_rfl) rfl #[.agg #[.slice A0_0 l0_0.length c0_0, .int .i64 a0_1, .slice A0_2 l0_2.length c0_2]] (by rfl) rfl rfl (by (try simp only [List.map_toArray, List.map_cons, List.map_nil]); first | done | rfl | (simp only [List.length_drop, List.length_take]; rfl)) ?_
    (with_reducible refine (laws_toTerminal.calls2 k _ _ l0_0 a0_1 _ _ l0_2 r67 r71 r72 w167 (Kd.C_below HR0_0.out (by repeat (first | (with_reducible first | exact HB.out | apply below_alloc | apply pw_below_drewN | apply below_drew1) | exact HB.out))) HC0_0.out (Kd.C_below HR0_2.out (by repeat (first | (with_reducible first | exact HB.out | apply below_alloc | apply pw_below_drewN | apply below_drew1) | exact HB.out))) HC0_2.out A77.out).mono ?_)
    rintro e w168 ⟨Pw168, v171, v172, rfl, ho169, ho170, hb⟩
    refine ⟨_, rfl, ?_⟩
    have m_ := Aside0.mk (Kd.S_below HO9.out hb)
    clear HO9
    have HO9 := m_
    clear m_
    have m_ := Aside0.mk (Kd.S_below HO14.out hb)
    clear HO14
    have HO14 := m_
    clear m_
    have m_ := Aside0.mk (Kd.S_below HO20.out hb)
    clear HO20
    have HO20 := m_
    clear m_
    have m_ := Aside0.mk (Kd.S_below HO25.out hb)
    clear HO25
    have HO25 := m_
    clear m_
    have m_ := Aside0.mk (Kd.S_below HO37.out hb)
    clear HO37
    have HO37 := m_
    clear m_
    have m_ := Aside0.mk (Kd.S_below HO42.out hb)
    clear HO42
    have HO42 := m_
    clear m_
    have m_ := Aside0.mk (Kd.S_below HO50.out hb)
    clear HO50
    have HO50 := m_
    clear m_
    have m_ := Aside0.mk (Kd.S_below HO55.out hb)
    clear HO55
    have HO55 := m_
    clear m_
    have m_ := Aside0.mk (blk_below BK132.out hb)
    clear BK132
    have BK132 := m_
    clear m_
    have m_ := Aside0.mk (blk_below BK147.out hb)
    clear BK147
    have BK147 := m_
    clear m_
    have m_ := Aside0.mk (blk_below BK156.out hb)
    clear BK156
    have BK156 := m_
    clear m_
    have m_ := Aside0.mk (blk_below BK165.out hb)
    clear BK165
    have BK165 := m_
    clear m_
    have HSw168 := Aside0.mk (show w167.heap.size ≤ w168.heap.size from hb.size)
    have m_ := (show Kd.S (Kd.slice 3 (Kd.int .i64)) 60 w168 w.heap.size (fun k_ => (w167.heap.size ≤ k_ ∧ k_ < w168.heap.size) ∧ Pw168 k_) v171 r67 from Kd.S_mono (Kd.S_lower (Kd.S_bound ho169) (below_size (by repeat (first | (with_reducible first | exact HB.out | apply below_alloc | apply pw_below_drewN | apply below_drew1) | exact HB.out)))) (fun k_ hk_ => ⟨⟨hk_.2.1, hk_.2.2.1⟩, hk_.1⟩))
    obtain ⟨A68, c69, e_⟩ := Kd.S_slice m_
    subst e_
    have HO70 := Aside0.mk m_
    clear m_ ho169
    have m_ := (show Kd.S (Kd.slice 3 (Kd.int .i64)) 60 w168 w.heap.size (fun k_ => (w167.heap.size ≤ k_ ∧ k_ < w168.heap.size) ∧ ¬ Pw168 k_) v172 r72 from Kd.S_mono (Kd.S_lower (Kd.S_bound ho170) (below_size (by repeat (first | (with_reducible first | exact HB.out | apply below_alloc | apply pw_below_drewN | apply below_drew1) | exact HB.out)))) (fun k_ hk_ => ⟨⟨hk_.2.1, hk_.2.2.1⟩, hk_.1⟩))
    obtain ⟨A73, c74, e_⟩ := Kd.S_slice m_
    subst e_
    have HO75 := Aside0.mk m_
    clear m_ ho170
    have m_ := Aside0.mk (below_step HB.out hb)
    clear HB
    have HB := m_
    clear m_
    clear hb
    refine hK.out _ _ ⟨(blk_cell BK156.out 0).trans rfl, (blk_cell BK156.out 1).trans rfl, (blk_cell BK156.out 2).trans rfl, (blk_cell BK132.out 0).trans rfl, (blk_cell BK132.out 1).trans rfl, (blk_cell BK132.out 2).trans rfl⟩ (fun hHeld => ?_)
    clear hK K
    refine norm_ (a' := ?_) ?_ ?_
    rotate_left
    · show Act.put _ (some 43) _ = _
      simp only [Act.put, List.setIfInBounds_toArray, List.set_cons_zero, List.set_cons_succ, i64_w, i32_w]
      rfl
    refine one_ (i := 3) (N := some 44) #[true, true, true, true, false] rfl rfl (by kernel_rfl) (by decide) (fun K hK => ?_)
    refine goes_ Try.func9 (by kernel_rfl) rfl #[.agg #[.slice A35 r34.length c36, .int .i64 r38, .slice A40 r39.length c41], .agg #[.slice A68 r67.length c69, .int .i64 r71, .slice A73 r72.length c74]] (by rfl) rfl rfl (by (try simp only [List.map_toArray, List.map_cons, List.map_nil]); first | done | rfl | (simp only [List.length_drop, List.length_take]; rfl)) ?_
    (with_reducible refine (laws_eqTerminal.calls k _ _ r34 r38 _ _ r39 _ _ r67 r71 _ _ r72 true w168 (Kd.S_reads' HO37.out).2.2 (Nat.le_trans (Nat.le_of_eq (Kd.S_reads' HO37.out).1.symm) (Kd.S_reads' HO37.out).2.1) (Kd.S_reads' HO42.out).2.2 (Nat.le_trans (Nat.le_of_eq (Kd.S_reads' HO42.out).1.symm) (Kd.S_reads' HO42.out).2.1) (Kd.S_reads' HO70.out).2.2 (Nat.le_trans (Nat.le_of_eq (Kd.S_reads' HO70.out).1.symm) (Kd.S_reads' HO70.out).2.1) (Kd.S_reads' HO75.out).2.2 (Nat.le_trans (Nat.le_of_eq (Kd.S_reads' HO75.out).1.symm) (Kd.S_reads' HO75.out).2.1) A80.out).mono ?_)
    rintro e w173 ⟨rfl, hb⟩
    refine ⟨_, rfl, ?_⟩
    have m_ := Aside0.mk (Kd.S_below HO9.out hb)
    clear HO9
    have HO9 := m_
    clear m_
    have m_ := Aside0.mk (Kd.S_below HO14.out hb)
    clear HO14
    have HO14 := m_
    clear m_
    have m_ := Aside0.mk (Kd.S_below HO20.out hb)
    clear HO20
    have HO20 := m_
    clear m_
    have m_ := Aside0.mk (Kd.S_below HO25.out hb)
    clear HO25
    have HO25 := m_
    clear m_
    have m_ := Aside0.mk (Kd.S_below HO37.out hb)
    clear HO37
    have HO37 := m_
    clear m_
    have m_ := Aside0.mk (Kd.S_below HO42.out hb)
    clear HO42
    have HO42 := m_
    clear m_
    have m_ := Aside0.mk (Kd.S_below HO50.out hb)
    clear HO50
    have HO50 := m_
    clear m_
    have m_ := Aside0.mk (Kd.S_below HO55.out hb)
    clear HO55
    have HO55 := m_
    clear m_
    have m_ := Aside0.mk (Kd.S_below HO70.out hb)
    clear HO70
    have HO70 := m_
    clear m_
    have m_ := Aside0.mk (Kd.S_below HO75.out hb)
    clear HO75
    have HO75 := m_
    clear m_
    have m_ := Aside0.mk (blk_below BK132.out hb)
    clear BK132
    have BK132 := m_
    clear m_
    have m_ := Aside0.mk (blk_below BK147.out hb)
    clear BK147
    have BK147 := m_
    clear m_
    have m_ := Aside0.mk (blk_below BK156.out hb)
    clear BK156
    have BK156 := m_
    clear m_
    have m_ := Aside0.mk (blk_below BK165.out hb)
    clear BK165
    have BK165 := m_
    clear m_
    have HSw173 := Aside0.mk (show w168.heap.size ≤ w173.heap.size from hb.size)
    have m_ := Aside0.mk (below_step HB.out hb)
    clear HB
    have HB := m_
    clear m_
    clear hb
    refine hK.out _ _ ⟨(blk_cell BK156.out 0).trans rfl, (blk_cell BK156.out 1).trans rfl, (blk_cell BK156.out 2).trans rfl, (blk_cell BK132.out 0).trans rfl, (blk_cell BK132.out 1).trans rfl, (blk_cell BK132.out 2).trans rfl⟩ (fun hHeld => ?_)
    clear hK K
    refine norm_ (a' := ?_) ?_ ?_
    rotate_left
    · show Act.put _ (some 44) _ = _
      simp only [Act.put, List.setIfInBounds_toArray, List.set_cons_zero, List.set_cons_succ, i64_w, i32_w]
      rfl
    refine pure_ (i := 4) (N := some 45) (v := ?_) (a' := ?_) #[true, true, true, true, true] rfl rfl (by kernel_rfl) (fun _ _ _ h => h) (Or.inl ⟨by rfl, ?_⟩) ?_ ?_
    rotate_left
    · intro w'
      go_simp
      with_reducible rfl
    rotate_left
    · simp only [Act.put, List.setIfInBounds_toArray, List.set_cons_zero, List.set_cons_succ, i64_w, i32_w]
      rfl
    refine done_ (by kernel_rfl) ?_
    have hzgb2_0 : w173.cell? ⟨gb2, 0, none⟩ = some (.slice A0_0 l0_0.length c0_0) := (blk_cell BK132.out 0).trans rfl
    have hzgb2_1 : w173.cell? ⟨gb2, 1, none⟩ = some (.int .i64 a0_1) := (blk_cell BK132.out 1).trans rfl
    have hzgb2_2 : w173.cell? ⟨gb2, 2, none⟩ = some (.slice A0_2 l0_2.length c0_2) := (blk_cell BK132.out 2).trans rfl
    have hzgb33_0 : w173.cell? ⟨gb33, 0, none⟩ = some (.slice A18 r17.length c19) := (blk_cell BK147.out 0).trans rfl
    have hzgb33_1 : w173.cell? ⟨gb33, 1, none⟩ = some (.int .i64 r21) := (blk_cell BK147.out 1).trans rfl
    have hzgb33_2 : w173.cell? ⟨gb33, 2, none⟩ = some (.slice A23 r22.length c24) := (blk_cell BK147.out 2).trans rfl
    have hzgb33_3 : w173.cell? ⟨gb33, 3, none⟩ = some (.string r26) := (blk_cell BK147.out 3).trans rfl
    have hzgb33_4 : w173.cell? ⟨gb33, 4, none⟩ = some (.string r27) := (blk_cell BK147.out 4).trans rfl
    have hzgb33_5 : w173.cell? ⟨gb33, 5, none⟩ = some (.int .i64 r28) := (blk_cell BK147.out 5).trans rfl
    have hzgb46_0 : w173.cell? ⟨gb46, 0, none⟩ = some (.slice A35 r34.length c36) := (blk_cell BK156.out 0).trans rfl
    have hzgb46_1 : w173.cell? ⟨gb46, 1, none⟩ = some (.int .i64 r38) := (blk_cell BK156.out 1).trans rfl
    have hzgb46_2 : w173.cell? ⟨gb46, 2, none⟩ = some (.slice A40 r39.length c41) := (blk_cell BK156.out 2).trans rfl
    have hzgb63_0 : w173.cell? ⟨gb63, 0, none⟩ = some (.slice A48 r47.length c49) := (blk_cell BK165.out 0).trans rfl
    have hzgb63_1 : w173.cell? ⟨gb63, 1, none⟩ = some (.int .i64 r51) := (blk_cell BK165.out 1).trans rfl
    have hzgb63_2 : w173.cell? ⟨gb63, 2, none⟩ = some (.slice A53 r52.length c54) := (blk_cell BK165.out 2).trans rfl
    have hzgb63_3 : w173.cell? ⟨gb63, 3, none⟩ = some (.string r56) := (blk_cell BK165.out 3).trans rfl
    have hzgb63_4 : w173.cell? ⟨gb63, 4, none⟩ = some (.string r57) := (blk_cell BK165.out 4).trans rfl
    have hzgb63_5 : w173.cell? ⟨gb63, 5, none⟩ = some (.int .i64 r58) := (blk_cell BK165.out 5).trans rfl
    go_wp2_with (first | ((with_reducible refine gate_callee (f := 10) rfl ?_); (try (refine gate_guard (by rfl) ?_; dsimp only)); refine goesL_ (some 48) rfl rfl Try.func10 (by kernel_rfl) rfl #[.agg #[.slice A35 r34.length c36, .int .i64 r38, .slice A40 r39.length c41], .int .i64 1] rfl (by (try simp only [List.map_toArray, List.map_cons, List.map_nil]); first | done | rfl | (simp only [List.length_drop, List.length_take]; rfl)) ?_; (with_reducible refine (laws_markTerminal.calls k (fun k_ => (((((w146.heap.size ≤ k_ ∧ k_ < w148.heap.size) ∧ Pw148 k_) ∧ k_ ≠ gb2) ∧ k_ ≠ gb33) ∧ k_ ≠ gb46) ∧ k_ ≠ gb63) (.slice A35 r34.length c36) r34 r38 (fun k_ => (((((w146.heap.size ≤ k_ ∧ k_ < w148.heap.size) ∧ ¬ Pw148 k_) ∧ k_ ≠ gb2) ∧ k_ ≠ gb33) ∧ k_ ≠ gb46) ∧ k_ ≠ gb63) (.slice A40 r39.length c41) r39 1 r81 r82 r83 w w173 HB.out (Kd.S_types (Kd.S_types (Kd.S_types (Kd.S_types HO37.out BK132.out (by decide)) BK147.out (by decide)) BK156.out (by decide)) BK165.out (by decide)) (fun k_ h1_ h2_ => absurd h1_.1.1.1.1.2 h2_.1.1.1.1.2) (Kd.S_types (Kd.S_types (Kd.S_types (Kd.S_types HO42.out BK132.out (by decide)) BK147.out (by decide)) BK156.out (by decide)) BK165.out (by decide)) (fun k_ h1_ h2_ => absurd h2_.1.1.1.1.2 h1_.1.1.1.1.2) A85.out).mono ?_); rintro e w174 ⟨rfl, ho175, ho176, hb, hk⟩; (try clear hzgb2_0 hzgb2_1 hzgb2_2); (try clear hzgb33_0 hzgb33_1 hzgb33_2 hzgb33_3 hzgb33_4 hzgb33_5); (try clear hzgb46_0 hzgb46_1 hzgb46_2); (try clear hzgb63_0 hzgb63_1 hzgb63_2 hzgb63_3 hzgb63_4 hzgb63_5); refine ⟨_, rfl, ?_⟩; have m_ := Aside0.mk (show Kd.S (Kd.slice 3 (Kd.int .i64)) 60 w174 w.heap.size (fun k_ => (w133.heap.size ≤ k_ ∧ k_ < w134.heap.size) ∧ Pw134 k_) (.slice A7 r6.length c8) r6 from Kd.S_kept HO9.out hk (fun k_ hk_ hs_ => by rcases hs_ with hs_ | hs_ <;> first | (have := HSw131.out; have := HSw133.out; have := HSw134.out; have := HSw139.out; have := HSw144.out; have := HSw146.out; have := HSw148.out; have := HSw153.out; have := HSw155.out; have := HSw157.out; have := HSw162.out; have := HSw164.out; have := HSw166.out; have := HSw167.out; have := HSw168.out; have := HSw173.out; have h1_ : w133.heap.size ≤ k_ ∧ k_ < w134.heap.size := hk_.1; have h2_ : w146.heap.size ≤ k_ ∧ k_ < w148.heap.size := hs_.1.1.1.1.1; omega) | (have := HSw131.out; have := HSw133.out; have := HSw134.out; have := HSw139.out; have := HSw144.out; have := HSw146.out; have := HSw148.out; have := HSw153.out; have := HSw155.out; have := HSw157.out; have := HSw162.out; have := HSw164.out; have := HSw166.out; have := HSw167.out; have := HSw168.out; have := HSw173.out; have h1_ : w133.heap.size ≤ k_ ∧ k_ < w134.heap.size := hk_.1; have h2_ : w146.heap.size ≤ k_ ∧ k_ < w148.heap.size := hs_.1.1.1.1.1; omega))); clear HO9; have HO9 := m_; clear m_; have m_ := Aside0.mk (show Kd.S (Kd.slice 3 (Kd.int .i64)) 60 w174 w.heap.size (fun k_ => (w133.heap.size ≤ k_ ∧ k_ < w134.heap.size) ∧ ¬ Pw134 k_) (.slice A12 r11.length c13) r11 from Kd.S_kept HO14.out hk (fun k_ hk_ hs_ => by rcases hs_ with hs_ | hs_ <;> first | (have := HSw131.out; have := HSw133.out; have := HSw134.out; have := HSw139.out; have := HSw144.out; have := HSw146.out; have := HSw148.out; have := HSw153.out; have := HSw155.out; have := HSw157.out; have := HSw162.out; have := HSw164.out; have := HSw166.out; have := HSw167.out; have := HSw168.out; have := HSw173.out; have h1_ : w133.heap.size ≤ k_ ∧ k_ < w134.heap.size := hk_.1; have h2_ : w146.heap.size ≤ k_ ∧ k_ < w148.heap.size := hs_.1.1.1.1.1; omega) | (have := HSw131.out; have := HSw133.out; have := HSw134.out; have := HSw139.out; have := HSw144.out; have := HSw146.out; have := HSw148.out; have := HSw153.out; have := HSw155.out; have := HSw157.out; have := HSw162.out; have := HSw164.out; have := HSw166.out; have := HSw167.out; have := HSw168.out; have := HSw173.out; have h1_ : w133.heap.size ≤ k_ ∧ k_ < w134.heap.size := hk_.1; have h2_ : w146.heap.size ≤ k_ ∧ k_ < w148.heap.size := hs_.1.1.1.1.1; omega))); clear HO14; have HO14 := m_; clear m_; have m_ := Aside0.mk (show Kd.S (Kd.slice 3 (Kd.int .i64)) 60 w174 w.heap.size (fun k_ => (w134.heap.size ≤ k_ ∧ k_ < w139.heap.size) ∧ True) (.slice A18 r17.length c19) r17 from Kd.S_kept HO20.out hk (fun k_ hk_ hs_ => by rcases hs_ with hs_ | hs_ <;> first | (have := HSw131.out; have := HSw133.out; have := HSw134.out; have := HSw139.out; have := HSw144.out; have := HSw146.out; have := HSw148.out; have := HSw153.out; have := HSw155.out; have := HSw157.out; have := HSw162.out; have := HSw164.out; have := HSw166.out; have := HSw167.out; have := HSw168.out; have := HSw173.out; have h1_ : w134.heap.size ≤ k_ ∧ k_ < w139.heap.size := hk_.1; have h2_ : w146.heap.size ≤ k_ ∧ k_ < w148.heap.size := hs_.1.1.1.1.1; omega) | (have := HSw131.out; have := HSw133.out; have := HSw134.out; have := HSw139.out; have := HSw144.out; have := HSw146.out; have := HSw148.out; have := HSw153.out; have := HSw155.out; have := HSw157.out; have := HSw162.out; have := HSw164.out; have := HSw166.out; have := HSw167.out; have := HSw168.out; have := HSw173.out; have h1_ : w134.heap.size ≤ k_ ∧ k_ < w139.heap.size := hk_.1; have h2_ : w146.heap.size ≤ k_ ∧ k_ < w148.heap.size := hs_.1.1.1.1.1; omega))); clear HO20; have HO20 := m_; clear m_; have m_ := Aside0.mk (show Kd.S (Kd.slice 3 (Kd.int .i64)) 60 w174 w.heap.size (fun k_ => (w134.heap.size ≤ k_ ∧ k_ < w139.heap.size) ∧ True) (.slice A23 r22.length c24) r22 from Kd.S_kept HO25.out hk (fun k_ hk_ hs_ => by rcases hs_ with hs_ | hs_ <;> first | (have := HSw131.out; have := HSw133.out; have := HSw134.out; have := HSw139.out; have := HSw144.out; have := HSw146.out; have := HSw148.out; have := HSw153.out; have := HSw155.out; have := HSw157.out; have := HSw162.out; have := HSw164.out; have := HSw166.out; have := HSw167.out; have := HSw168.out; have := HSw173.out; have h1_ : w134.heap.size ≤ k_ ∧ k_ < w139.heap.size := hk_.1; have h2_ : w146.heap.size ≤ k_ ∧ k_ < w148.heap.size := hs_.1.1.1.1.1; omega) | (have := HSw131.out; have := HSw133.out; have := HSw134.out; have := HSw139.out; have := HSw144.out; have := HSw146.out; have := HSw148.out; have := HSw153.out; have := HSw155.out; have := HSw157.out; have := HSw162.out; have := HSw164.out; have := HSw166.out; have := HSw167.out; have := HSw168.out; have := HSw173.out; have h1_ : w134.heap.size ≤ k_ ∧ k_ < w139.heap.size := hk_.1; have h2_ : w146.heap.size ≤ k_ ∧ k_ < w148.heap.size := hs_.1.1.1.1.1; omega))); clear HO25; have HO25 := m_; clear m_; have m_ := Aside0.mk (show Kd.S (Kd.slice 3 (Kd.int .i64)) 60 w174 w.heap.size (fun k_ => (w155.heap.size ≤ k_ ∧ k_ < w157.heap.size) ∧ Pw157 k_) (.slice A48 r47.length c49) r47 from Kd.S_kept HO50.out hk (fun k_ hk_ hs_ => by rcases hs_ with hs_ | hs_ <;> first | (have := HSw131.out; have := HSw133.out; have := HSw134.out; have := HSw139.out; have := HSw144.out; have := HSw146.out; have := HSw148.out; have := HSw153.out; have := HSw155.out; have := HSw157.out; have := HSw162.out; have := HSw164.out; have := HSw166.out; have := HSw167.out; have := HSw168.out; have := HSw173.out; have h1_ : w155.heap.size ≤ k_ ∧ k_ < w157.heap.size := hk_.1; have h2_ : w146.heap.size ≤ k_ ∧ k_ < w148.heap.size := hs_.1.1.1.1.1; omega) | (have := HSw131.out; have := HSw133.out; have := HSw134.out; have := HSw139.out; have := HSw144.out; have := HSw146.out; have := HSw148.out; have := HSw153.out; have := HSw155.out; have := HSw157.out; have := HSw162.out; have := HSw164.out; have := HSw166.out; have := HSw167.out; have := HSw168.out; have := HSw173.out; have h1_ : w155.heap.size ≤ k_ ∧ k_ < w157.heap.size := hk_.1; have h2_ : w146.heap.size ≤ k_ ∧ k_ < w148.heap.size := hs_.1.1.1.1.1; omega))); clear HO50; have HO50 := m_; clear m_; have m_ := Aside0.mk (show Kd.S (Kd.slice 3 (Kd.int .i64)) 60 w174 w.heap.size (fun k_ => (w155.heap.size ≤ k_ ∧ k_ < w157.heap.size) ∧ ¬ Pw157 k_) (.slice A53 r52.length c54) r52 from Kd.S_kept HO55.out hk (fun k_ hk_ hs_ => by rcases hs_ with hs_ | hs_ <;> first | (have := HSw131.out; have := HSw133.out; have := HSw134.out; have := HSw139.out; have := HSw144.out; have := HSw146.out; have := HSw148.out; have := HSw153.out; have := HSw155.out; have := HSw157.out; have := HSw162.out; have := HSw164.out; have := HSw166.out; have := HSw167.out; have := HSw168.out; have := HSw173.out; have h1_ : w155.heap.size ≤ k_ ∧ k_ < w157.heap.size := hk_.1; have h2_ : w146.heap.size ≤ k_ ∧ k_ < w148.heap.size := hs_.1.1.1.1.1; omega) | (have := HSw131.out; have := HSw133.out; have := HSw134.out; have := HSw139.out; have := HSw144.out; have := HSw146.out; have := HSw148.out; have := HSw153.out; have := HSw155.out; have := HSw157.out; have := HSw162.out; have := HSw164.out; have := HSw166.out; have := HSw167.out; have := HSw168.out; have := HSw173.out; have h1_ : w155.heap.size ≤ k_ ∧ k_ < w157.heap.size := hk_.1; have h2_ : w146.heap.size ≤ k_ ∧ k_ < w148.heap.size := hs_.1.1.1.1.1; omega))); clear HO55; have HO55 := m_; clear m_; have m_ := Aside0.mk (show Kd.S (Kd.slice 3 (Kd.int .i64)) 60 w174 w.heap.size (fun k_ => (w167.heap.size ≤ k_ ∧ k_ < w168.heap.size) ∧ Pw168 k_) (.slice A68 r67.length c69) r67 from Kd.S_kept HO70.out hk (fun k_ hk_ hs_ => by rcases hs_ with hs_ | hs_ <;> first | (have := HSw131.out; have := HSw133.out; have := HSw134.out; have := HSw139.out; have := HSw144.out; have := HSw146.out; have := HSw148.out; have := HSw153.out; have := HSw155.out; have := HSw157.out; have := HSw162.out; have := HSw164.out; have := HSw166.out; have := HSw167.out; have := HSw168.out; have := HSw173.out; have h1_ : w167.heap.size ≤ k_ ∧ k_ < w168.heap.size := hk_.1; have h2_ : w146.heap.size ≤ k_ ∧ k_ < w148.heap.size := hs_.1.1.1.1.1; omega) | (have := HSw131.out; have := HSw133.out; have := HSw134.out; have := HSw139.out; have := HSw144.out; have := HSw146.out; have := HSw148.out; have := HSw153.out; have := HSw155.out; have := HSw157.out; have := HSw162.out; have := HSw164.out; have := HSw166.out; have := HSw167.out; have := HSw168.out; have := HSw173.out; have h1_ : w167.heap.size ≤ k_ ∧ k_ < w168.heap.size := hk_.1; have h2_ : w146.heap.size ≤ k_ ∧ k_ < w148.heap.size := hs_.1.1.1.1.1; omega))); clear HO70; have HO70 := m_; clear m_; have m_ := Aside0.mk (show Kd.S (Kd.slice 3 (Kd.int .i64)) 60 w174 w.heap.size (fun k_ => (w167.heap.size ≤ k_ ∧ k_ < w168.heap.size) ∧ ¬ Pw168 k_) (.slice A73 r72.length c74) r72 from Kd.S_kept HO75.out hk (fun k_ hk_ hs_ => by rcases hs_ with hs_ | hs_ <;> first | (have := HSw131.out; have := HSw133.out; have := HSw134.out; have := HSw139.out; have := HSw144.out; have := HSw146.out; have := HSw148.out; have := HSw153.out; have := HSw155.out; have := HSw157.out; have := HSw162.out; have := HSw164.out; have := HSw166.out; have := HSw167.out; have := HSw168.out; have := HSw173.out; have h1_ : w167.heap.size ≤ k_ ∧ k_ < w168.heap.size := hk_.1; have h2_ : w146.heap.size ≤ k_ ∧ k_ < w148.heap.size := hs_.1.1.1.1.1; omega) | (have := HSw131.out; have := HSw133.out; have := HSw134.out; have := HSw139.out; have := HSw144.out; have := HSw146.out; have := HSw148.out; have := HSw153.out; have := HSw155.out; have := HSw157.out; have := HSw162.out; have := HSw164.out; have := HSw166.out; have := HSw167.out; have := HSw168.out; have := HSw173.out; have h1_ : w167.heap.size ≤ k_ ∧ k_ < w168.heap.size := hk_.1; have h2_ : w146.heap.size ≤ k_ ∧ k_ < w148.heap.size := hs_.1.1.1.1.1; omega))); clear HO75; have HO75 := m_; clear m_; have m_ := Aside0.mk (blk_kept BK132.out hk (fun hs_ => by rcases hs_ with hs_ | hs_ <;> exact hs_.1.1.1.2 rfl)); clear BK132; have BK132 := m_; clear m_; have m_ := Aside0.mk (blk_kept BK147.out hk (fun hs_ => by rcases hs_ with hs_ | hs_ <;> exact hs_.1.1.2 rfl)); clear BK147; have BK147 := m_; clear m_; have m_ := Aside0.mk (blk_kept BK156.out hk (fun hs_ => by rcases hs_ with hs_ | hs_ <;> exact hs_.1.2 rfl)); clear BK156; have BK156 := m_; clear m_; have m_ := Aside0.mk (blk_kept BK165.out hk (fun hs_ => by rcases hs_ with hs_ | hs_ <;> exact hs_.2 rfl)); clear BK165; have BK165 := m_; clear m_; clear HB; have HB := Aside0.mk hb; have HSw174 := Aside0.mk hk.1; clear HO37; have HO177 := Aside0.mk ho175; clear ho175; clear HO42; have HO178 := Aside0.mk ho176; clear ho176; (try clear hb hk); have hzgb2_0 : w174.cell? ⟨gb2, 0, none⟩ = some (.slice A0_0 l0_0.length c0_0) := (blk_cell BK132.out 0).trans rfl; have hzgb2_1 : w174.cell? ⟨gb2, 1, none⟩ = some (.int .i64 a0_1) := (blk_cell BK132.out 1).trans rfl; have hzgb2_2 : w174.cell? ⟨gb2, 2, none⟩ = some (.slice A0_2 l0_2.length c0_2) := (blk_cell BK132.out 2).trans rfl; have hzgb33_0 : w174.cell? ⟨gb33, 0, none⟩ = some (.slice A18 r17.length c19) := (blk_cell BK147.out 0).trans rfl; have hzgb33_1 : w174.cell? ⟨gb33, 1, none⟩ = some (.int .i64 r21) := (blk_cell BK147.out 1).trans rfl; have hzgb33_2 : w174.cell? ⟨gb33, 2, none⟩ = some (.slice A23 r22.length c24) := (blk_cell BK147.out 2).trans rfl; have hzgb33_3 : w174.cell? ⟨gb33, 3, none⟩ = some (.string r26) := (blk_cell BK147.out 3).trans rfl; have hzgb33_4 : w174.cell? ⟨gb33, 4, none⟩ = some (.string r27) := (blk_cell BK147.out 4).trans rfl; have hzgb33_5 : w174.cell? ⟨gb33, 5, none⟩ = some (.int .i64 r28) := (blk_cell BK147.out 5).trans rfl; have hzgb46_0 : w174.cell? ⟨gb46, 0, none⟩ = some (.slice A35 r34.length c36) := (blk_cell BK156.out 0).trans rfl; have hzgb46_1 : w174.cell? ⟨gb46, 1, none⟩ = some (.int .i64 r38) := (blk_cell BK156.out 1).trans rfl; have hzgb46_2 : w174.cell? ⟨gb46, 2, none⟩ = some (.slice A40 r39.length c41) := (blk_cell BK156.out 2).trans rfl; have hzgb63_0 : w174.cell? ⟨gb63, 0, none⟩ = some (.slice A48 r47.length c49) := (blk_cell BK165.out 0).trans rfl; have hzgb63_1 : w174.cell? ⟨gb63, 1, none⟩ = some (.int .i64 r51) := (blk_cell BK165.out 1).trans rfl; have hzgb63_2 : w174.cell? ⟨gb63, 2, none⟩ = some (.slice A53 r52.length c54) := (blk_cell BK165.out 2).trans rfl; have hzgb63_3 : w174.cell? ⟨gb63, 3, none⟩ = some (.string r56) := (blk_cell BK165.out 3).trans rfl; have hzgb63_4 : w174.cell? ⟨gb63, 4, none⟩ = some (.string r57) := (blk_cell BK165.out 4).trans rfl; have hzgb63_5 : w174.cell? ⟨gb63, 5, none⟩ = some (.int .i64 r58) := (blk_cell BK165.out 5).trans rfl) | ((with_reducible refine gate_callee (f := 8) rfl ?_); (try (refine gate_guard (by rfl) ?_; dsimp only)); refine goesL_ (some 54) rfl rfl Try.func8 (by kernel_rfl) rfl #[.agg #[.slice A48 r47.length c49, .int .i64 r51, .slice A53 r52.length c54, .string r56, .string r57, .int .i64 r58], .agg #[.slice A18 r17.length c19, .int .i64 r21, .slice A23 r22.length c24, .string r26, .string r27, .int .i64 r28]] rfl (by (try simp only [List.map_toArray, List.map_cons, List.map_nil]); first | done | rfl | (simp only [List.length_drop, List.length_take]; rfl)) ?_; (with_reducible refine (laws_eqConsole.calls k _ _ r47 r51 _ _ r52 r56 r57 r58 _ _ r17 r21 _ _ r22 r26 r27 r28 true w174 (Kd.S_reads' HO50.out).2.2 (Nat.le_trans (Nat.le_of_eq (Kd.S_reads' HO50.out).1.symm) (Kd.S_reads' HO50.out).2.1) (Kd.S_reads' HO55.out).2.2 (Nat.le_trans (Nat.le_of_eq (Kd.S_reads' HO55.out).1.symm) (Kd.S_reads' HO55.out).2.1) (Kd.S_reads' HO20.out).2.2 (Nat.le_trans (Nat.le_of_eq (Kd.S_reads' HO20.out).1.symm) (Kd.S_reads' HO20.out).2.1) (Kd.S_reads' HO25.out).2.2 (Nat.le_trans (Nat.le_of_eq (Kd.S_reads' HO25.out).1.symm) (Kd.S_reads' HO25.out).2.1) A88.out).mono ?_); rintro e w179 ⟨rfl, hb⟩; (try clear hzgb2_0 hzgb2_1 hzgb2_2); (try clear hzgb33_0 hzgb33_1 hzgb33_2 hzgb33_3 hzgb33_4 hzgb33_5); (try clear hzgb46_0 hzgb46_1 hzgb46_2); (try clear hzgb63_0 hzgb63_1 hzgb63_2 hzgb63_3 hzgb63_4 hzgb63_5); refine ⟨_, rfl, ?_⟩; have m_ := Aside0.mk (Kd.S_below HO9.out hb); clear HO9; have HO9 := m_; clear m_; have m_ := Aside0.mk (Kd.S_below HO14.out hb); clear HO14; have HO14 := m_; clear m_; have m_ := Aside0.mk (Kd.S_below HO20.out hb); clear HO20; have HO20 := m_; clear m_; have m_ := Aside0.mk (Kd.S_below HO25.out hb); clear HO25; have HO25 := m_; clear m_; have m_ := Aside0.mk (Kd.S_below HO50.out hb); clear HO50; have HO50 := m_; clear m_; have m_ := Aside0.mk (Kd.S_below HO55.out hb); clear HO55; have HO55 := m_; clear m_; have m_ := Aside0.mk (Kd.S_below HO70.out hb); clear HO70; have HO70 := m_; clear m_; have m_ := Aside0.mk (Kd.S_below HO75.out hb); clear HO75; have HO75 := m_; clear m_; have m_ := Aside0.mk (Kd.S_below HO177.out hb); clear HO177; have HO177 := m_; clear m_; have m_ := Aside0.mk (Kd.S_below HO178.out hb); clear HO178; have HO178 := m_; clear m_; have m_ := Aside0.mk (blk_below BK132.out hb); clear BK132; have BK132 := m_; clear m_; have m_ := Aside0.mk (blk_below BK147.out hb); clear BK147; have BK147 := m_; clear m_; have m_ := Aside0.mk (blk_below BK156.out hb); clear BK156; have BK156 := m_; clear m_; have m_ := Aside0.mk (blk_below BK165.out hb); clear BK165; have BK165 := m_; clear m_; have HSw179 := Aside0.mk (show w174.heap.size ≤ w179.heap.size from hb.size); have m_ := Aside0.mk (below_step HB.out hb); clear HB; have HB := m_; clear m_; clear hb; have hzgb2_0 : w179.cell? ⟨gb2, 0, none⟩ = some (.slice A0_0 l0_0.length c0_0) := (blk_cell BK132.out 0).trans rfl; have hzgb2_1 : w179.cell? ⟨gb2, 1, none⟩ = some (.int .i64 a0_1) := (blk_cell BK132.out 1).trans rfl; have hzgb2_2 : w179.cell? ⟨gb2, 2, none⟩ = some (.slice A0_2 l0_2.length c0_2) := (blk_cell BK132.out 2).trans rfl; have hzgb33_0 : w179.cell? ⟨gb33, 0, none⟩ = some (.slice A18 r17.length c19) := (blk_cell BK147.out 0).trans rfl; have hzgb33_1 : w179.cell? ⟨gb33, 1, none⟩ = some (.int .i64 r21) := (blk_cell BK147.out 1).trans rfl; have hzgb33_2 : w179.cell? ⟨gb33, 2, none⟩ = some (.slice A23 r22.length c24) := (blk_cell BK147.out 2).trans rfl; have hzgb33_3 : w179.cell? ⟨gb33, 3, none⟩ = some (.string r26) := (blk_cell BK147.out 3).trans rfl; have hzgb33_4 : w179.cell? ⟨gb33, 4, none⟩ = some (.string r27) := (blk_cell BK147.out 4).trans rfl; have hzgb33_5 : w179.cell? ⟨gb33, 5, none⟩ = some (.int .i64 r28) := (blk_cell BK147.out 5).trans rfl; have hzgb46_0 : w179.cell? ⟨gb46, 0, none⟩ = some (.slice A35 r34.length c36) := (blk_cell BK156.out 0).trans rfl; have hzgb46_1 : w179.cell? ⟨gb46, 1, none⟩ = some (.int .i64 r38) := (blk_cell BK156.out 1).trans rfl; have hzgb46_2 : w179.cell? ⟨gb46, 2, none⟩ = some (.slice A40 r39.length c41) := (blk_cell BK156.out 2).trans rfl; have hzgb63_0 : w179.cell? ⟨gb63, 0, none⟩ = some (.slice A48 r47.length c49) := (blk_cell BK165.out 0).trans rfl; have hzgb63_1 : w179.cell? ⟨gb63, 1, none⟩ = some (.int .i64 r51) := (blk_cell BK165.out 1).trans rfl; have hzgb63_2 : w179.cell? ⟨gb63, 2, none⟩ = some (.slice A53 r52.length c54) := (blk_cell BK165.out 2).trans rfl; have hzgb63_3 : w179.cell? ⟨gb63, 3, none⟩ = some (.string r56) := (blk_cell BK165.out 3).trans rfl; have hzgb63_4 : w179.cell? ⟨gb63, 4, none⟩ = some (.string r57) := (blk_cell BK165.out 4).trans rfl; have hzgb63_5 : w179.cell? ⟨gb63, 5, none⟩ = some (.int .i64 r58) := (blk_cell BK165.out 5).trans rfl) | ((with_reducible refine gate_callee (f := 11) rfl ?_); (try (refine gate_guard (by rfl) ?_; dsimp only)); refine goesL_ (some 64) rfl rfl Try.func11 (by kernel_rfl) rfl #[.agg #[.slice A48 r47.length c49, .int .i64 r51, .slice A53 r52.length c54, .string r56, .string r57, .int .i64 r58], .int .i64 1] rfl (by (try simp only [List.map_toArray, List.map_cons, List.map_nil]); first | done | rfl | (simp only [List.length_drop, List.length_take]; rfl)) ?_; (with_reducible refine (laws_markConsole.calls k (fun k_ => (((((w155.heap.size ≤ k_ ∧ k_ < w157.heap.size) ∧ Pw157 k_) ∧ k_ ≠ gb2) ∧ k_ ≠ gb33) ∧ k_ ≠ gb46) ∧ k_ ≠ gb63) (.slice A48 r47.length c49) r47 r51 (fun k_ => (((((w155.heap.size ≤ k_ ∧ k_ < w157.heap.size) ∧ ¬ Pw157 k_) ∧ k_ ≠ gb2) ∧ k_ ≠ gb33) ∧ k_ ≠ gb46) ∧ k_ ≠ gb63) (.slice A53 r52.length c54) r52 r56 r57 r58 1 r128 r90 r91 w w179 HB.out (Kd.S_types (Kd.S_types (Kd.S_types (Kd.S_types HO50.out BK132.out (by decide)) BK147.out (by decide)) BK156.out (by decide)) BK165.out (by decide)) (fun k_ h1_ h2_ => absurd h1_.1.1.1.1.2 h2_.1.1.1.1.2) (Kd.S_types (Kd.S_types (Kd.S_types (Kd.S_types HO55.out BK132.out (by decide)) BK147.out (by decide)) BK156.out (by decide)) BK165.out (by decide)) (fun k_ h1_ h2_ => absurd h2_.1.1.1.1.2 h1_.1.1.1.1.2) A93.out).mono ?_); rintro e w180 ⟨rfl, ho181, ho182, hb, hk⟩; (try clear hzgb2_0 hzgb2_1 hzgb2_2); (try clear hzgb33_0 hzgb33_1 hzgb33_2 hzgb33_3 hzgb33_4 hzgb33_5); (try clear hzgb46_0 hzgb46_1 hzgb46_2); (try clear hzgb63_0 hzgb63_1 hzgb63_2 hzgb63_3 hzgb63_4 hzgb63_5); refine ⟨_, rfl, ?_⟩; clear HO177; clear HO178; have m_ := Aside0.mk (show Kd.S (Kd.slice 3 (Kd.int .i64)) 60 w180 w.heap.size (fun k_ => (w133.heap.size ≤ k_ ∧ k_ < w134.heap.size) ∧ Pw134 k_) (.slice A7 r6.length c8) r6 from Kd.S_kept HO9.out hk (fun k_ hk_ hs_ => by rcases hs_ with hs_ | hs_ <;> first | (have := HSw131.out; have := HSw133.out; have := HSw134.out; have := HSw139.out; have := HSw144.out; have := HSw146.out; have := HSw148.out; have := HSw153.out; have := HSw155.out; have := HSw157.out; have := HSw162.out; have := HSw164.out; have := HSw166.out; have := HSw167.out; have := HSw168.out; have := HSw173.out; have := HSw174.out; have := HSw179.out; have h1_ : w133.heap.size ≤ k_ ∧ k_ < w134.heap.size := hk_.1; have h2_ : w155.heap.size ≤ k_ ∧ k_ < w157.heap.size := hs_.1.1.1.1.1; omega) | (have := HSw131.out; have := HSw133.out; have := HSw134.out; have := HSw139.out; have := HSw144.out; have := HSw146.out; have := HSw148.out; have := HSw153.out; have := HSw155.out; have := HSw157.out; have := HSw162.out; have := HSw164.out; have := HSw166.out; have := HSw167.out; have := HSw168.out; have := HSw173.out; have := HSw174.out; have := HSw179.out; have h1_ : w133.heap.size ≤ k_ ∧ k_ < w134.heap.size := hk_.1; have h2_ : w155.heap.size ≤ k_ ∧ k_ < w157.heap.size := hs_.1.1.1.1.1; omega))); clear HO9; have HO9 := m_; clear m_; have m_ := Aside0.mk (show Kd.S (Kd.slice 3 (Kd.int .i64)) 60 w180 w.heap.size (fun k_ => (w133.heap.size ≤ k_ ∧ k_ < w134.heap.size) ∧ ¬ Pw134 k_) (.slice A12 r11.length c13) r11 from Kd.S_kept HO14.out hk (fun k_ hk_ hs_ => by rcases hs_ with hs_ | hs_ <;> first | (have := HSw131.out; have := HSw133.out; have := HSw134.out; have := HSw139.out; have := HSw144.out; have := HSw146.out; have := HSw148.out; have := HSw153.out; have := HSw155.out; have := HSw157.out; have := HSw162.out; have := HSw164.out; have := HSw166.out; have := HSw167.out; have := HSw168.out; have := HSw173.out; have := HSw174.out; have := HSw179.out; have h1_ : w133.heap.size ≤ k_ ∧ k_ < w134.heap.size := hk_.1; have h2_ : w155.heap.size ≤ k_ ∧ k_ < w157.heap.size := hs_.1.1.1.1.1; omega) | (have := HSw131.out; have := HSw133.out; have := HSw134.out; have := HSw139.out; have := HSw144.out; have := HSw146.out; have := HSw148.out; have := HSw153.out; have := HSw155.out; have := HSw157.out; have := HSw162.out; have := HSw164.out; have := HSw166.out; have := HSw167.out; have := HSw168.out; have := HSw173.out; have := HSw174.out; have := HSw179.out; have h1_ : w133.heap.size ≤ k_ ∧ k_ < w134.heap.size := hk_.1; have h2_ : w155.heap.size ≤ k_ ∧ k_ < w157.heap.size := hs_.1.1.1.1.1; omega))); clear HO14; have HO14 := m_; clear m_; have m_ := Aside0.mk (show Kd.S (Kd.slice 3 (Kd.int .i64)) 60 w180 w.heap.size (fun k_ => (w134.heap.size ≤ k_ ∧ k_ < w139.heap.size) ∧ True) (.slice A18 r17.length c19) r17 from Kd.S_kept HO20.out hk (fun k_ hk_ hs_ => by rcases hs_ with hs_ | hs_ <;> first | (have := HSw131.out; have := HSw133.out; have := HSw134.out; have := HSw139.out; have := HSw144.out; have := HSw146.out; have := HSw148.out; have := HSw153.out; have := HSw155.out; have := HSw157.out; have := HSw162.out; have := HSw164.out; have := HSw166.out; have := HSw167.out; have := HSw168.out; have := HSw173.out; have := HSw174.out; have := HSw179.out; have h1_ : w134.heap.size ≤ k_ ∧ k_ < w139.heap.size := hk_.1; have h2_ : w155.heap.size ≤ k_ ∧ k_ < w157.heap.size := hs_.1.1.1.1.1; omega) | (have := HSw131.out; have := HSw133.out; have := HSw134.out; have := HSw139.out; have := HSw144.out; have := HSw146.out; have := HSw148.out; have := HSw153.out; have := HSw155.out; have := HSw157.out; have := HSw162.out; have := HSw164.out; have := HSw166.out; have := HSw167.out; have := HSw168.out; have := HSw173.out; have := HSw174.out; have := HSw179.out; have h1_ : w134.heap.size ≤ k_ ∧ k_ < w139.heap.size := hk_.1; have h2_ : w155.heap.size ≤ k_ ∧ k_ < w157.heap.size := hs_.1.1.1.1.1; omega))); clear HO20; have HO20 := m_; clear m_; have m_ := Aside0.mk (show Kd.S (Kd.slice 3 (Kd.int .i64)) 60 w180 w.heap.size (fun k_ => (w134.heap.size ≤ k_ ∧ k_ < w139.heap.size) ∧ True) (.slice A23 r22.length c24) r22 from Kd.S_kept HO25.out hk (fun k_ hk_ hs_ => by rcases hs_ with hs_ | hs_ <;> first | (have := HSw131.out; have := HSw133.out; have := HSw134.out; have := HSw139.out; have := HSw144.out; have := HSw146.out; have := HSw148.out; have := HSw153.out; have := HSw155.out; have := HSw157.out; have := HSw162.out; have := HSw164.out; have := HSw166.out; have := HSw167.out; have := HSw168.out; have := HSw173.out; have := HSw174.out; have := HSw179.out; have h1_ : w134.heap.size ≤ k_ ∧ k_ < w139.heap.size := hk_.1; have h2_ : w155.heap.size ≤ k_ ∧ k_ < w157.heap.size := hs_.1.1.1.1.1; omega) | (have := HSw131.out; have := HSw133.out; have := HSw134.out; have := HSw139.out; have := HSw144.out; have := HSw146.out; have := HSw148.out; have := HSw153.out; have := HSw155.out; have := HSw157.out; have := HSw162.out; have := HSw164.out; have := HSw166.out; have := HSw167.out; have := HSw168.out; have := HSw173.out; have := HSw174.out; have := HSw179.out; have h1_ : w134.heap.size ≤ k_ ∧ k_ < w139.heap.size := hk_.1; have h2_ : w155.heap.size ≤ k_ ∧ k_ < w157.heap.size := hs_.1.1.1.1.1; omega))); clear HO25; have HO25 := m_; clear m_; have m_ := Aside0.mk (show Kd.S (Kd.slice 3 (Kd.int .i64)) 60 w180 w.heap.size (fun k_ => (w167.heap.size ≤ k_ ∧ k_ < w168.heap.size) ∧ Pw168 k_) (.slice A68 r67.length c69) r67 from Kd.S_kept HO70.out hk (fun k_ hk_ hs_ => by rcases hs_ with hs_ | hs_ <;> first | (have := HSw131.out; have := HSw133.out; have := HSw134.out; have := HSw139.out; have := HSw144.out; have := HSw146.out; have := HSw148.out; have := HSw153.out; have := HSw155.out; have := HSw157.out; have := HSw162.out; have := HSw164.out; have := HSw166.out; have := HSw167.out; have := HSw168.out; have := HSw173.out; have := HSw174.out; have := HSw179.out; have h1_ : w167.heap.size ≤ k_ ∧ k_ < w168.heap.size := hk_.1; have h2_ : w155.heap.size ≤ k_ ∧ k_ < w157.heap.size := hs_.1.1.1.1.1; omega) | (have := HSw131.out; have := HSw133.out; have := HSw134.out; have := HSw139.out; have := HSw144.out; have := HSw146.out; have := HSw148.out; have := HSw153.out; have := HSw155.out; have := HSw157.out; have := HSw162.out; have := HSw164.out; have := HSw166.out; have := HSw167.out; have := HSw168.out; have := HSw173.out; have := HSw174.out; have := HSw179.out; have h1_ : w167.heap.size ≤ k_ ∧ k_ < w168.heap.size := hk_.1; have h2_ : w155.heap.size ≤ k_ ∧ k_ < w157.heap.size := hs_.1.1.1.1.1; omega))); clear HO70; have HO70 := m_; clear m_; have m_ := Aside0.mk (show Kd.S (Kd.slice 3 (Kd.int .i64)) 60 w180 w.heap.size (fun k_ => (w167.heap.size ≤ k_ ∧ k_ < w168.heap.size) ∧ ¬ Pw168 k_) (.slice A73 r72.length c74) r72 from Kd.S_kept HO75.out hk (fun k_ hk_ hs_ => by rcases hs_ with hs_ | hs_ <;> first | (have := HSw131.out; have := HSw133.out; have := HSw134.out; have := HSw139.out; have := HSw144.out; have := HSw146.out; have := HSw148.out; have := HSw153.out; have := HSw155.out; have := HSw157.out; have := HSw162.out; have := HSw164.out; have := HSw166.out; have := HSw167.out; have := HSw168.out; have := HSw173.out; have := HSw174.out; have := HSw179.out; have h1_ : w167.heap.size ≤ k_ ∧ k_ < w168.heap.size := hk_.1; have h2_ : w155.heap.size ≤ k_ ∧ k_ < w157.heap.size := hs_.1.1.1.1.1; omega) | (have := HSw131.out; have := HSw133.out; have := HSw134.out; have := HSw139.out; have := HSw144.out; have := HSw146.out; have := HSw148.out; have := HSw153.out; have := HSw155.out; have := HSw157.out; have := HSw162.out; have := HSw164.out; have := HSw166.out; have := HSw167.out; have := HSw168.out; have := HSw173.out; have := HSw174.out; have := HSw179.out; have h1_ : w167.heap.size ≤ k_ ∧ k_ < w168.heap.size := hk_.1; have h2_ : w155.heap.size ≤ k_ ∧ k_ < w157.heap.size := hs_.1.1.1.1.1; omega))); clear HO75; have HO75 := m_; clear m_; have m_ := Aside0.mk (blk_kept BK132.out hk (fun hs_ => by rcases hs_ with hs_ | hs_ <;> exact hs_.1.1.1.2 rfl)); clear BK132; have BK132 := m_; clear m_; have m_ := Aside0.mk (blk_kept BK147.out hk (fun hs_ => by rcases hs_ with hs_ | hs_ <;> exact hs_.1.1.2 rfl)); clear BK147; have BK147 := m_; clear m_; have m_ := Aside0.mk (blk_kept BK156.out hk (fun hs_ => by rcases hs_ with hs_ | hs_ <;> exact hs_.1.2 rfl)); clear BK156; have BK156 := m_; clear m_; have m_ := Aside0.mk (blk_kept BK165.out hk (fun hs_ => by rcases hs_ with hs_ | hs_ <;> exact hs_.2 rfl)); clear BK165; have BK165 := m_; clear m_; clear HB; have HB := Aside0.mk hb; have HSw180 := Aside0.mk hk.1; clear HO50; have HO183 := Aside0.mk ho181; clear ho181; clear HO55; have HO184 := Aside0.mk ho182; clear ho182; (try clear hb hk); have hzgb2_0 : w180.cell? ⟨gb2, 0, none⟩ = some (.slice A0_0 l0_0.length c0_0) := (blk_cell BK132.out 0).trans rfl; have hzgb2_1 : w180.cell? ⟨gb2, 1, none⟩ = some (.int .i64 a0_1) := (blk_cell BK132.out 1).trans rfl; have hzgb2_2 : w180.cell? ⟨gb2, 2, none⟩ = some (.slice A0_2 l0_2.length c0_2) := (blk_cell BK132.out 2).trans rfl; have hzgb33_0 : w180.cell? ⟨gb33, 0, none⟩ = some (.slice A18 r17.length c19) := (blk_cell BK147.out 0).trans rfl; have hzgb33_1 : w180.cell? ⟨gb33, 1, none⟩ = some (.int .i64 r21) := (blk_cell BK147.out 1).trans rfl; have hzgb33_2 : w180.cell? ⟨gb33, 2, none⟩ = some (.slice A23 r22.length c24) := (blk_cell BK147.out 2).trans rfl; have hzgb33_3 : w180.cell? ⟨gb33, 3, none⟩ = some (.string r26) := (blk_cell BK147.out 3).trans rfl; have hzgb33_4 : w180.cell? ⟨gb33, 4, none⟩ = some (.string r27) := (blk_cell BK147.out 4).trans rfl; have hzgb33_5 : w180.cell? ⟨gb33, 5, none⟩ = some (.int .i64 r28) := (blk_cell BK147.out 5).trans rfl; have hzgb46_0 : w180.cell? ⟨gb46, 0, none⟩ = some (.slice A35 r34.length c36) := (blk_cell BK156.out 0).trans rfl; have hzgb46_1 : w180.cell? ⟨gb46, 1, none⟩ = some (.int .i64 r38) := (blk_cell BK156.out 1).trans rfl; have hzgb46_2 : w180.cell? ⟨gb46, 2, none⟩ = some (.slice A40 r39.length c41) := (blk_cell BK156.out 2).trans rfl; have hzgb63_0 : w180.cell? ⟨gb63, 0, none⟩ = some (.slice A48 r47.length c49) := (blk_cell BK165.out 0).trans rfl; have hzgb63_1 : w180.cell? ⟨gb63, 1, none⟩ = some (.int .i64 r51) := (blk_cell BK165.out 1).trans rfl; have hzgb63_2 : w180.cell? ⟨gb63, 2, none⟩ = some (.slice A53 r52.length c54) := (blk_cell BK165.out 2).trans rfl; have hzgb63_3 : w180.cell? ⟨gb63, 3, none⟩ = some (.string r56) := (blk_cell BK165.out 3).trans rfl; have hzgb63_4 : w180.cell? ⟨gb63, 4, none⟩ = some (.string r57) := (blk_cell BK165.out 4).trans rfl; have hzgb63_5 : w180.cell? ⟨gb63, 5, none⟩ = some (.int .i64 r58) := (blk_cell BK165.out 5).trans rfl) | ((with_reducible refine gate_callee (f := 12) rfl ?_); (try (refine gate_guard (by rfl) ?_; dsimp only)); refine goesL_ (some 67) rfl rfl Try.func12 (by kernel_rfl) rfl #[.agg #[.slice A48 r47.length c49, .int .i64 r51, .slice A53 r52.length c54, .string r56, .string r57, .int .i64 r58], .int .i64 1] rfl (by (try simp only [List.map_toArray, List.map_cons, List.map_nil]); first | done | rfl | (simp only [List.length_drop, List.length_take]; rfl)) ?_; have hcall_ := laws_heldConsole.calls k _ _ r90 r51 _ _ r91 r56 r57 r58 1 r128 w180 (Kd.S_reads' HO183.out).2.2 (Nat.le_trans (Nat.le_of_eq (Kd.S_reads' HO183.out).1.symm) (Kd.S_reads' HO183.out).2.1) (Kd.S_reads' HO184.out).2.2 (Nat.le_trans (Nat.le_of_eq (Kd.S_reads' HO184.out).1.symm) (Kd.S_reads' HO184.out).2.1) A96.out; rw [← (show r47.length = r90.length from (Kd.S_reads' HO183.out).1)] at hcall_; rw [← (show r52.length = r91.length from (Kd.S_reads' HO184.out).1)] at hcall_; refine hcall_.mono ?_; (try clear hcall_); rintro e w185 ⟨rfl, hb⟩; (try clear hzgb2_0 hzgb2_1 hzgb2_2); (try clear hzgb33_0 hzgb33_1 hzgb33_2 hzgb33_3 hzgb33_4 hzgb33_5); (try clear hzgb46_0 hzgb46_1 hzgb46_2); (try clear hzgb63_0 hzgb63_1 hzgb63_2 hzgb63_3 hzgb63_4 hzgb63_5); refine ⟨_, rfl, ?_⟩; have m_ := Aside0.mk (Kd.S_below HO9.out hb); clear HO9; have HO9 := m_; clear m_; have m_ := Aside0.mk (Kd.S_below HO14.out hb); clear HO14; have HO14 := m_; clear m_; have m_ := Aside0.mk (Kd.S_below HO20.out hb); clear HO20; have HO20 := m_; clear m_; have m_ := Aside0.mk (Kd.S_below HO25.out hb); clear HO25; have HO25 := m_; clear m_; have m_ := Aside0.mk (Kd.S_below HO70.out hb); clear HO70; have HO70 := m_; clear m_; have m_ := Aside0.mk (Kd.S_below HO75.out hb); clear HO75; have HO75 := m_; clear m_; have m_ := Aside0.mk (Kd.S_below HO183.out hb); clear HO183; have HO183 := m_; clear m_; have m_ := Aside0.mk (Kd.S_below HO184.out hb); clear HO184; have HO184 := m_; clear m_; have m_ := Aside0.mk (blk_below BK132.out hb); clear BK132; have BK132 := m_; clear m_; have m_ := Aside0.mk (blk_below BK147.out hb); clear BK147; have BK147 := m_; clear m_; have m_ := Aside0.mk (blk_below BK156.out hb); clear BK156; have BK156 := m_; clear m_; have m_ := Aside0.mk (blk_below BK165.out hb); clear BK165; have BK165 := m_; clear m_; have HSw185 := Aside0.mk (show w180.heap.size ≤ w185.heap.size from hb.size); have m_ := Aside0.mk (below_step HB.out hb); clear HB; have HB := m_; clear m_; clear hb; have hzgb2_0 : w185.cell? ⟨gb2, 0, none⟩ = some (.slice A0_0 l0_0.length c0_0) := (blk_cell BK132.out 0).trans rfl; have hzgb2_1 : w185.cell? ⟨gb2, 1, none⟩ = some (.int .i64 a0_1) := (blk_cell BK132.out 1).trans rfl; have hzgb2_2 : w185.cell? ⟨gb2, 2, none⟩ = some (.slice A0_2 l0_2.length c0_2) := (blk_cell BK132.out 2).trans rfl; have hzgb33_0 : w185.cell? ⟨gb33, 0, none⟩ = some (.slice A18 r17.length c19) := (blk_cell BK147.out 0).trans rfl; have hzgb33_1 : w185.cell? ⟨gb33, 1, none⟩ = some (.int .i64 r21) := (blk_cell BK147.out 1).trans rfl; have hzgb33_2 : w185.cell? ⟨gb33, 2, none⟩ = some (.slice A23 r22.length c24) := (blk_cell BK147.out 2).trans rfl; have hzgb33_3 : w185.cell? ⟨gb33, 3, none⟩ = some (.string r26) := (blk_cell BK147.out 3).trans rfl; have hzgb33_4 : w185.cell? ⟨gb33, 4, none⟩ = some (.string r27) := (blk_cell BK147.out 4).trans rfl; have hzgb33_5 : w185.cell? ⟨gb33, 5, none⟩ = some (.int .i64 r28) := (blk_cell BK147.out 5).trans rfl; have hzgb46_0 : w185.cell? ⟨gb46, 0, none⟩ = some (.slice A35 r34.length c36) := (blk_cell BK156.out 0).trans rfl; have hzgb46_1 : w185.cell? ⟨gb46, 1, none⟩ = some (.int .i64 r38) := (blk_cell BK156.out 1).trans rfl; have hzgb46_2 : w185.cell? ⟨gb46, 2, none⟩ = some (.slice A40 r39.length c41) := (blk_cell BK156.out 2).trans rfl; have hzgb63_0 : w185.cell? ⟨gb63, 0, none⟩ = some (.slice A48 r47.length c49) := (blk_cell BK165.out 0).trans rfl; have hzgb63_1 : w185.cell? ⟨gb63, 1, none⟩ = some (.int .i64 r51) := (blk_cell BK165.out 1).trans rfl; have hzgb63_2 : w185.cell? ⟨gb63, 2, none⟩ = some (.slice A53 r52.length c54) := (blk_cell BK165.out 2).trans rfl; have hzgb63_3 : w185.cell? ⟨gb63, 3, none⟩ = some (.string r56) := (blk_cell BK165.out 3).trans rfl; have hzgb63_4 : w185.cell? ⟨gb63, 4, none⟩ = some (.string r57) := (blk_cell BK165.out 4).trans rfl; have hzgb63_5 : w185.cell? ⟨gb63, 5, none⟩ = some (.int .i64 r58) := (blk_cell BK165.out 5).trans rfl) | ((with_reducible refine gate_callee (f := 6) rfl ?_); (try (refine gate_guard (by rfl) ?_; dsimp only)); refine goesL_ (some 75) rfl rfl Try.func6 (by kernel_rfl) rfl #[.agg #[.slice A0_0 l0_0.length c0_0, .int .i64 a0_1, .slice A0_2 l0_2.length c0_2]] rfl (by (try simp only [List.map_toArray, List.map_cons, List.map_nil]); first | done | rfl | (simp only [List.length_drop, List.length_take]; rfl)) ?_; (with_reducible refine (laws_toTerminal.calls2 k _ _ l0_0 a0_1 _ _ l0_2 r97 r101 r102 w185 (Kd.C_below HR0_0.out (by repeat (first | (with_reducible first | exact HB.out | apply below_alloc | apply pw_below_drewN | apply below_drew1) | exact HB.out))) HC0_0.out (Kd.C_below HR0_2.out (by repeat (first | (with_reducible first | exact HB.out | apply below_alloc | apply pw_below_drewN | apply below_drew1) | exact HB.out))) HC0_2.out A107.out).mono ?_); rintro e w186 ⟨Pw186, v189, v190, rfl, ho187, ho188, hb⟩; (try clear hzgb2_0 hzgb2_1 hzgb2_2); (try clear hzgb33_0 hzgb33_1 hzgb33_2 hzgb33_3 hzgb33_4 hzgb33_5); (try clear hzgb46_0 hzgb46_1 hzgb46_2); (try clear hzgb63_0 hzgb63_1 hzgb63_2 hzgb63_3 hzgb63_4 hzgb63_5); refine ⟨_, rfl, ?_⟩; have m_ := Aside0.mk (Kd.S_below HO9.out hb); clear HO9; have HO9 := m_; clear m_; have m_ := Aside0.mk (Kd.S_below HO14.out hb); clear HO14; have HO14 := m_; clear m_; have m_ := Aside0.mk (Kd.S_below HO20.out hb); clear HO20; have HO20 := m_; clear m_; have m_ := Aside0.mk (Kd.S_below HO25.out hb); clear HO25; have HO25 := m_; clear m_; have m_ := Aside0.mk (Kd.S_below HO70.out hb); clear HO70; have HO70 := m_; clear m_; have m_ := Aside0.mk (Kd.S_below HO75.out hb); clear HO75; have HO75 := m_; clear m_; have m_ := Aside0.mk (Kd.S_below HO183.out hb); clear HO183; have HO183 := m_; clear m_; have m_ := Aside0.mk (Kd.S_below HO184.out hb); clear HO184; have HO184 := m_; clear m_; have m_ := Aside0.mk (blk_below BK132.out hb); clear BK132; have BK132 := m_; clear m_; have m_ := Aside0.mk (blk_below BK147.out hb); clear BK147; have BK147 := m_; clear m_; have m_ := Aside0.mk (blk_below BK156.out hb); clear BK156; have BK156 := m_; clear m_; have m_ := Aside0.mk (blk_below BK165.out hb); clear BK165; have BK165 := m_; clear m_; have HSw186 := Aside0.mk (show w185.heap.size ≤ w186.heap.size from hb.size); have m_ := (show Kd.S (Kd.slice 3 (Kd.int .i64)) 60 w186 w.heap.size (fun k_ => (w185.heap.size ≤ k_ ∧ k_ < w186.heap.size) ∧ Pw186 k_) v189 r97 from Kd.S_mono (Kd.S_lower (Kd.S_bound ho187) (below_size (by repeat (first | (with_reducible first | exact HB.out | apply below_alloc | apply pw_below_drewN | apply below_drew1) | exact HB.out)))) (fun k_ hk_ => ⟨⟨hk_.2.1, hk_.2.2.1⟩, hk_.1⟩)); obtain ⟨A98, c99, e_⟩ := Kd.S_slice m_; subst e_; have HO100 := Aside0.mk m_; clear m_ ho187; have m_ := (show Kd.S (Kd.slice 3 (Kd.int .i64)) 60 w186 w.heap.size (fun k_ => (w185.heap.size ≤ k_ ∧ k_ < w186.heap.size) ∧ ¬ Pw186 k_) v190 r102 from Kd.S_mono (Kd.S_lower (Kd.S_bound ho188) (below_size (by repeat (first | (with_reducible first | exact HB.out | apply below_alloc | apply pw_below_drewN | apply below_drew1) | exact HB.out)))) (fun k_ hk_ => ⟨⟨hk_.2.1, hk_.2.2.1⟩, hk_.1⟩)); obtain ⟨A103, c104, e_⟩ := Kd.S_slice m_; subst e_; have HO105 := Aside0.mk m_; clear m_ ho188; have m_ := Aside0.mk (below_step HB.out hb); clear HB; have HB := m_; clear m_; clear hb; have hzgb2_0 : w186.cell? ⟨gb2, 0, none⟩ = some (.slice A0_0 l0_0.length c0_0) := (blk_cell BK132.out 0).trans rfl; have hzgb2_1 : w186.cell? ⟨gb2, 1, none⟩ = some (.int .i64 a0_1) := (blk_cell BK132.out 1).trans rfl; have hzgb2_2 : w186.cell? ⟨gb2, 2, none⟩ = some (.slice A0_2 l0_2.length c0_2) := (blk_cell BK132.out 2).trans rfl; have hzgb33_0 : w186.cell? ⟨gb33, 0, none⟩ = some (.slice A18 r17.length c19) := (blk_cell BK147.out 0).trans rfl; have hzgb33_1 : w186.cell? ⟨gb33, 1, none⟩ = some (.int .i64 r21) := (blk_cell BK147.out 1).trans rfl; have hzgb33_2 : w186.cell? ⟨gb33, 2, none⟩ = some (.slice A23 r22.length c24) := (blk_cell BK147.out 2).trans rfl; have hzgb33_3 : w186.cell? ⟨gb33, 3, none⟩ = some (.string r26) := (blk_cell BK147.out 3).trans rfl; have hzgb33_4 : w186.cell? ⟨gb33, 4, none⟩ = some (.string r27) := (blk_cell BK147.out 4).trans rfl; have hzgb33_5 : w186.cell? ⟨gb33, 5, none⟩ = some (.int .i64 r28) := (blk_cell BK147.out 5).trans rfl; have hzgb46_0 : w186.cell? ⟨gb46, 0, none⟩ = some (.slice A35 r34.length c36) := (blk_cell BK156.out 0).trans rfl; have hzgb46_1 : w186.cell? ⟨gb46, 1, none⟩ = some (.int .i64 r38) := (blk_cell BK156.out 1).trans rfl; have hzgb46_2 : w186.cell? ⟨gb46, 2, none⟩ = some (.slice A40 r39.length c41) := (blk_cell BK156.out 2).trans rfl; have hzgb63_0 : w186.cell? ⟨gb63, 0, none⟩ = some (.slice A48 r47.length c49) := (blk_cell BK165.out 0).trans rfl; have hzgb63_1 : w186.cell? ⟨gb63, 1, none⟩ = some (.int .i64 r51) := (blk_cell BK165.out 1).trans rfl; have hzgb63_2 : w186.cell? ⟨gb63, 2, none⟩ = some (.slice A53 r52.length c54) := (blk_cell BK165.out 2).trans rfl; have hzgb63_3 : w186.cell? ⟨gb63, 3, none⟩ = some (.string r56) := (blk_cell BK165.out 3).trans rfl; have hzgb63_4 : w186.cell? ⟨gb63, 4, none⟩ = some (.string r57) := (blk_cell BK165.out 4).trans rfl; have hzgb63_5 : w186.cell? ⟨gb63, 5, none⟩ = some (.int .i64 r58) := (blk_cell BK165.out 5).trans rfl) | ((with_reducible refine gate_callee (f := 7) rfl ?_); (try (refine gate_guard (by rfl) ?_; dsimp only)); refine goesL_ (some 76) rfl rfl Try.func7 (by kernel_rfl) rfl #[.agg #[.slice A98 r97.length c99, .int .i64 r101, .slice A103 r102.length c104]] rfl (by (try simp only [List.map_toArray, List.map_cons, List.map_nil]); first | done | rfl | (simp only [List.length_drop, List.length_take]; rfl)) ?_; (with_reducible refine (impl_NewConsole.calls2 k _ _ r97 r101 _ _ r102 r108 r112 r113 r117 r118 r119 r120 w186 (Kd.S_reads' HO100.out).2.2 (Nat.le_trans (Nat.le_of_eq (Kd.S_reads' HO100.out).1.symm) (Kd.S_reads' HO100.out).2.1) (Kd.S_reads' HO105.out).2.2 (Nat.le_trans (Nat.le_of_eq (Kd.S_reads' HO105.out).1.symm) (Kd.S_reads' HO105.out).2.1) A122.out).mono ?_); rintro e w191 ⟨Pw191, v194, v195, rfl, ho192, ho193, hb⟩; (try clear hzgb2_0 hzgb2_1 hzgb2_2); (try clear hzgb33_0 hzgb33_1 hzgb33_2 hzgb33_3 hzgb33_4 hzgb33_5); (try clear hzgb46_0 hzgb46_1 hzgb46_2); (try clear hzgb63_0 hzgb63_1 hzgb63_2 hzgb63_3 hzgb63_4 hzgb63_5); refine ⟨_, rfl, ?_⟩; have m_ := Aside0.mk (Kd.S_below HO9.out hb); clear HO9; have HO9 := m_; clear m_; have m_ := Aside0.mk (Kd.S_below HO14.out hb); clear HO14; have HO14 := m_; clear m_; have m_ := Aside0.mk (Kd.S_below HO20.out hb); clear HO20; have HO20 := m_; clear m_; have m_ := Aside0.mk (Kd.S_below HO25.out hb); clear HO25; have HO25 := m_; clear m_; have m_ := Aside0.mk (Kd.S_below HO70.out hb); clear HO70; have HO70 := m_; clear m_; have m_ := Aside0.mk (Kd.S_below HO75.out hb); clear HO75; have HO75 := m_; clear m_; have m_ := Aside0.mk (Kd.S_below HO100.out hb); clear HO100; have HO100 := m_; clear m_; have m_ := Aside0.mk (Kd.S_below HO105.out hb); clear HO105; have HO105 := m_; clear m_; have m_ := Aside0.mk (Kd.S_below HO183.out hb); clear HO183; have HO183 := m_; clear m_; have m_ := Aside0.mk (Kd.S_below HO184.out hb); clear HO184; have HO184 := m_; clear m_; have m_ := Aside0.mk (blk_below BK132.out hb); clear BK132; have BK132 := m_; clear m_; have m_ := Aside0.mk (blk_below BK147.out hb); clear BK147; have BK147 := m_; clear m_; have m_ := Aside0.mk (blk_below BK156.out hb); clear BK156; have BK156 := m_; clear m_; have m_ := Aside0.mk (blk_below BK165.out hb); clear BK165; have BK165 := m_; clear m_; have HSw191 := Aside0.mk (show w186.heap.size ≤ w191.heap.size from hb.size); have m_ := (show Kd.S (Kd.slice 3 (Kd.int .i64)) 60 w191 w.heap.size (fun k_ => (w186.heap.size ≤ k_ ∧ k_ < w191.heap.size) ∧ Pw191 k_) v194 r108 from Kd.S_mono (Kd.S_lower (Kd.S_bound ho192) (below_size (by repeat (first | (with_reducible first | exact HB.out | apply below_alloc | apply pw_below_drewN | apply below_drew1) | exact HB.out)))) (fun k_ hk_ => ⟨⟨hk_.2.1, hk_.2.2.1⟩, hk_.1⟩)); obtain ⟨A109, c110, e_⟩ := Kd.S_slice m_; subst e_; have HO111 := Aside0.mk m_; clear m_ ho192; have m_ := (show Kd.S (Kd.slice 3 (Kd.int .i64)) 60 w191 w.heap.size (fun k_ => (w186.heap.size ≤ k_ ∧ k_ < w191.heap.size) ∧ ¬ Pw191 k_) v195 r113 from Kd.S_mono (Kd.S_lower (Kd.S_bound ho193) (below_size (by repeat (first | (with_reducible first | exact HB.out | apply below_alloc | apply pw_below_drewN | apply below_drew1) | exact HB.out)))) (fun k_ hk_ => ⟨⟨hk_.2.1, hk_.2.2.1⟩, hk_.1⟩)); obtain ⟨A114, c115, e_⟩ := Kd.S_slice m_; subst e_; have HO116 := Aside0.mk m_; clear m_ ho193; have m_ := Aside0.mk (below_step HB.out hb); clear HB; have HB := m_; clear m_; clear hb; have hzgb2_0 : w191.cell? ⟨gb2, 0, none⟩ = some (.slice A0_0 l0_0.length c0_0) := (blk_cell BK132.out 0).trans rfl; have hzgb2_1 : w191.cell? ⟨gb2, 1, none⟩ = some (.int .i64 a0_1) := (blk_cell BK132.out 1).trans rfl; have hzgb2_2 : w191.cell? ⟨gb2, 2, none⟩ = some (.slice A0_2 l0_2.length c0_2) := (blk_cell BK132.out 2).trans rfl; have hzgb33_0 : w191.cell? ⟨gb33, 0, none⟩ = some (.slice A18 r17.length c19) := (blk_cell BK147.out 0).trans rfl; have hzgb33_1 : w191.cell? ⟨gb33, 1, none⟩ = some (.int .i64 r21) := (blk_cell BK147.out 1).trans rfl; have hzgb33_2 : w191.cell? ⟨gb33, 2, none⟩ = some (.slice A23 r22.length c24) := (blk_cell BK147.out 2).trans rfl; have hzgb33_3 : w191.cell? ⟨gb33, 3, none⟩ = some (.string r26) := (blk_cell BK147.out 3).trans rfl; have hzgb33_4 : w191.cell? ⟨gb33, 4, none⟩ = some (.string r27) := (blk_cell BK147.out 4).trans rfl; have hzgb33_5 : w191.cell? ⟨gb33, 5, none⟩ = some (.int .i64 r28) := (blk_cell BK147.out 5).trans rfl; have hzgb46_0 : w191.cell? ⟨gb46, 0, none⟩ = some (.slice A35 r34.length c36) := (blk_cell BK156.out 0).trans rfl; have hzgb46_1 : w191.cell? ⟨gb46, 1, none⟩ = some (.int .i64 r38) := (blk_cell BK156.out 1).trans rfl; have hzgb46_2 : w191.cell? ⟨gb46, 2, none⟩ = some (.slice A40 r39.length c41) := (blk_cell BK156.out 2).trans rfl; have hzgb63_0 : w191.cell? ⟨gb63, 0, none⟩ = some (.slice A48 r47.length c49) := (blk_cell BK165.out 0).trans rfl; have hzgb63_1 : w191.cell? ⟨gb63, 1, none⟩ = some (.int .i64 r51) := (blk_cell BK165.out 1).trans rfl; have hzgb63_2 : w191.cell? ⟨gb63, 2, none⟩ = some (.slice A53 r52.length c54) := (blk_cell BK165.out 2).trans rfl; have hzgb63_3 : w191.cell? ⟨gb63, 3, none⟩ = some (.string r56) := (blk_cell BK165.out 3).trans rfl; have hzgb63_4 : w191.cell? ⟨gb63, 4, none⟩ = some (.string r57) := (blk_cell BK165.out 4).trans rfl; have hzgb63_5 : w191.cell? ⟨gb63, 5, none⟩ = some (.int .i64 r58) := (blk_cell BK165.out 5).trans rfl) | ((with_reducible refine gate_dst (N := 12) rfl ?_); refine box_event ?hg (N := 12) ?hd (cs := #[.slice none 0 0, .int .i64 0, .slice none 0 0, .string (⟨#[]⟩ : ByteArray), .string (⟨#[]⟩ : ByteArray), .int .i64 0]) (t := 37) ?hr ?_; (case hd => rfl); (case hg => rfl); (case hr => first | (go_simp; done) | (go_simp; rfl)); intro gb124 hg w196 hbox hb; (try clear hzgb2_0 hzgb2_1 hzgb2_2); (try clear hzgb33_0 hzgb33_1 hzgb33_2 hzgb33_3 hzgb33_4 hzgb33_5); (try clear hzgb46_0 hzgb46_1 hzgb46_2); (try clear hzgb63_0 hzgb63_1 hzgb63_2 hzgb63_3 hzgb63_4 hzgb63_5); (try clear hzgb124_0 hzgb124_1 hzgb124_2 hzgb124_3 hzgb124_4 hzgb124_5); have NBgb2_gb124 := Aside0.mk (show gb2 ≠ gb124 by rw [hg]; exact Nat.ne_of_lt (blk_lt BK132.out)); have NBgb33_gb124 := Aside0.mk (show gb33 ≠ gb124 by rw [hg]; exact Nat.ne_of_lt (blk_lt BK147.out)); have NBgb46_gb124 := Aside0.mk (show gb46 ≠ gb124 by rw [hg]; exact Nat.ne_of_lt (blk_lt BK156.out)); have NBgb63_gb124 := Aside0.mk (show gb63 ≠ gb124 by rw [hg]; exact Nat.ne_of_lt (blk_lt BK165.out)); have GEgb124 := Aside0.mk (show w.heap.size ≤ gb124 by rw [hg]; exact below_size (by repeat (first | (with_reducible first | exact HB.out | apply below_alloc | apply pw_below_drewN | apply below_drew1) | exact HB.out))); have BK197 := Aside0.mk hbox; have m_ := Aside0.mk (Kd.S_below HO9.out hb); clear HO9; have HO9 := m_; clear m_; have m_ := Aside0.mk (Kd.S_below HO14.out hb); clear HO14; have HO14 := m_; clear m_; have m_ := Aside0.mk (Kd.S_below HO20.out hb); clear HO20; have HO20 := m_; clear m_; have m_ := Aside0.mk (Kd.S_below HO25.out hb); clear HO25; have HO25 := m_; clear m_; have m_ := Aside0.mk (Kd.S_below HO70.out hb); clear HO70; have HO70 := m_; clear m_; have m_ := Aside0.mk (Kd.S_below HO75.out hb); clear HO75; have HO75 := m_; clear m_; have m_ := Aside0.mk (Kd.S_below HO100.out hb); clear HO100; have HO100 := m_; clear m_; have m_ := Aside0.mk (Kd.S_below HO105.out hb); clear HO105; have HO105 := m_; clear m_; have m_ := Aside0.mk (Kd.S_below HO111.out hb); clear HO111; have HO111 := m_; clear m_; have m_ := Aside0.mk (Kd.S_below HO116.out hb); clear HO116; have HO116 := m_; clear m_; have m_ := Aside0.mk (Kd.S_below HO183.out hb); clear HO183; have HO183 := m_; clear m_; have m_ := Aside0.mk (Kd.S_below HO184.out hb); clear HO184; have HO184 := m_; clear m_; have m_ := Aside0.mk (blk_below BK132.out hb); clear BK132; have BK132 := m_; clear m_; have m_ := Aside0.mk (blk_below BK147.out hb); clear BK147; have BK147 := m_; clear m_; have m_ := Aside0.mk (blk_below BK156.out hb); clear BK156; have BK156 := m_; clear m_; have m_ := Aside0.mk (blk_below BK165.out hb); clear BK165; have BK165 := m_; clear m_; have HSw196 := Aside0.mk (show w191.heap.size ≤ w196.heap.size from hb.size); have m_ := Aside0.mk (below_step HB.out hb); clear HB; have HB := m_; clear m_; clear hb hbox hg; have hzgb2_0 : w196.cell? ⟨gb2, 0, none⟩ = some (.slice A0_0 l0_0.length c0_0) := (blk_cell BK132.out 0).trans rfl; have hzgb2_1 : w196.cell? ⟨gb2, 1, none⟩ = some (.int .i64 a0_1) := (blk_cell BK132.out 1).trans rfl; have hzgb2_2 : w196.cell? ⟨gb2, 2, none⟩ = some (.slice A0_2 l0_2.length c0_2) := (blk_cell BK132.out 2).trans rfl; have hzgb33_0 : w196.cell? ⟨gb33, 0, none⟩ = some (.slice A18 r17.length c19) := (blk_cell BK147.out 0).trans rfl; have hzgb33_1 : w196.cell? ⟨gb33, 1, none⟩ = some (.int .i64 r21) := (blk_cell BK147.out 1).trans rfl; have hzgb33_2 : w196.cell? ⟨gb33, 2, none⟩ = some (.slice A23 r22.length c24) := (blk_cell BK147.out 2).trans rfl; have hzgb33_3 : w196.cell? ⟨gb33, 3, none⟩ = some (.string r26) := (blk_cell BK147.out 3).trans rfl; have hzgb33_4 : w196.cell? ⟨gb33, 4, none⟩ = some (.string r27) := (blk_cell BK147.out 4).trans rfl; have hzgb33_5 : w196.cell? ⟨gb33, 5, none⟩ = some (.int .i64 r28) := (blk_cell BK147.out 5).trans rfl; have hzgb46_0 : w196.cell? ⟨gb46, 0, none⟩ = some (.slice A35 r34.length c36) := (blk_cell BK156.out 0).trans rfl; have hzgb46_1 : w196.cell? ⟨gb46, 1, none⟩ = some (.int .i64 r38) := (blk_cell BK156.out 1).trans rfl; have hzgb46_2 : w196.cell? ⟨gb46, 2, none⟩ = some (.slice A40 r39.length c41) := (blk_cell BK156.out 2).trans rfl; have hzgb63_0 : w196.cell? ⟨gb63, 0, none⟩ = some (.slice A48 r47.length c49) := (blk_cell BK165.out 0).trans rfl; have hzgb63_1 : w196.cell? ⟨gb63, 1, none⟩ = some (.int .i64 r51) := (blk_cell BK165.out 1).trans rfl; have hzgb63_2 : w196.cell? ⟨gb63, 2, none⟩ = some (.slice A53 r52.length c54) := (blk_cell BK165.out 2).trans rfl; have hzgb63_3 : w196.cell? ⟨gb63, 3, none⟩ = some (.string r56) := (blk_cell BK165.out 3).trans rfl; have hzgb63_4 : w196.cell? ⟨gb63, 4, none⟩ = some (.string r57) := (blk_cell BK165.out 4).trans rfl; have hzgb63_5 : w196.cell? ⟨gb63, 5, none⟩ = some (.int .i64 r58) := (blk_cell BK165.out 5).trans rfl; have hzgb124_0 : w196.cell? ⟨gb124, 0, none⟩ = some (.slice none 0 0) := (blk_cell BK197.out 0).trans rfl; have hzgb124_1 : w196.cell? ⟨gb124, 1, none⟩ = some (.int .i64 0) := (blk_cell BK197.out 1).trans rfl; have hzgb124_2 : w196.cell? ⟨gb124, 2, none⟩ = some (.slice none 0 0) := (blk_cell BK197.out 2).trans rfl; have hzgb124_3 : w196.cell? ⟨gb124, 3, none⟩ = some (.string (⟨#[]⟩ : ByteArray)) := (blk_cell BK197.out 3).trans rfl; have hzgb124_4 : w196.cell? ⟨gb124, 4, none⟩ = some (.string (⟨#[]⟩ : ByteArray)) := (blk_cell BK197.out 4).trans rfl; have hzgb124_5 : w196.cell? ⟨gb124, 5, none⟩ = some (.int .i64 0) := (blk_cell BK197.out 5).trans rfl) | ((with_reducible refine gate_store (t := 37) (p := 12) rfl ?_); have hs0_ : w196.cell? ⟨gb124, 0, none⟩ = some (.slice none 0 0) := (blk_cell BK197.out 0).trans rfl; have hfs0_ := blk_frozen BK197.out 0; have hs1_ : w196.cell? ⟨gb124, 1, none⟩ = some (.int .i64 0) := (blk_cell BK197.out 1).trans rfl; have hfs1_ := blk_frozen BK197.out 1; have hs2_ : w196.cell? ⟨gb124, 2, none⟩ = some (.slice none 0 0) := (blk_cell BK197.out 2).trans rfl; have hfs2_ := blk_frozen BK197.out 2; have hs3_ : w196.cell? ⟨gb124, 3, none⟩ = some (.string (⟨#[]⟩ : ByteArray)) := (blk_cell BK197.out 3).trans rfl; have hfs3_ := blk_frozen BK197.out 3; have hs4_ : w196.cell? ⟨gb124, 4, none⟩ = some (.string (⟨#[]⟩ : ByteArray)) := (blk_cell BK197.out 4).trans rfl; have hfs4_ := blk_frozen BK197.out 4; have hs5_ : w196.cell? ⟨gb124, 5, none⟩ = some (.int .i64 0) := (blk_cell BK197.out 5).trans rfl; have hfs5_ := blk_frozen BK197.out 5; refine store_event (t := 37) (p := 12) (v := ?vo_w198) (w1 := ((((((w196.setCell ⟨gb124, 0, none⟩ (.slice A109 r108.length c110)).setCell ⟨gb124, 1, none⟩ (.int .i64 r112)).setCell ⟨gb124, 2, none⟩ (.slice A114 r113.length c115)).setCell ⟨gb124, 3, none⟩ (.string r117)).setCell ⟨gb124, 4, none⟩ (.string r118)).setCell ⟨gb124, 5, none⟩ (.int .i64 r119))) ?hg ?ho ?hn ?hr ?_; (case ho => rfl); (case hg => rfl); (case hn => rfl); (case hr => first | (go_simp; done) | (go_simp; rfl)); intro w198 hw; (try clear hzgb2_0 hzgb2_1 hzgb2_2); (try clear hzgb33_0 hzgb33_1 hzgb33_2 hzgb33_3 hzgb33_4 hzgb33_5); (try clear hzgb46_0 hzgb46_1 hzgb46_2); (try clear hzgb63_0 hzgb63_1 hzgb63_2 hzgb63_3 hzgb63_4 hzgb63_5); (try clear hzgb124_0 hzgb124_1 hzgb124_2 hzgb124_3 hzgb124_4 hzgb124_5); have hO_ : Go.Proofs.YtcnmngiaebgjkaaOwn.Only w196 w198 gb124 := (by rw [hw]; exact ((((((Go.Proofs.YtcnmngiaebgjkaaOwn.Only.refl _ _).set 0 _).set 1 _).set 2 _).set 3 _).set 4 _).set 5 _); have hbx_ : w198.heap[gb124]? = some (.cells #[.slice A109 r108.length c110, .int .i64 r112, .slice A114 r113.length c115, .string r117, .string r118, .int .i64 r119] 37 (0, 0)) := (by rw [hw]; refine blk_put (cs := #[.slice A109 r108.length c110, .int .i64 r112, .slice A114 r113.length c115, .string r117, .string r118, .int .i64 0]) ?_ 5 _ rfl; refine blk_put (cs := #[.slice A109 r108.length c110, .int .i64 r112, .slice A114 r113.length c115, .string r117, .string (⟨#[]⟩ : ByteArray), .int .i64 0]) ?_ 4 _ rfl; refine blk_put (cs := #[.slice A109 r108.length c110, .int .i64 r112, .slice A114 r113.length c115, .string (⟨#[]⟩ : ByteArray), .string (⟨#[]⟩ : ByteArray), .int .i64 0]) ?_ 3 _ rfl; refine blk_put (cs := #[.slice A109 r108.length c110, .int .i64 r112, .slice none 0 0, .string (⟨#[]⟩ : ByteArray), .string (⟨#[]⟩ : ByteArray), .int .i64 0]) ?_ 2 _ rfl; refine blk_put (cs := #[.slice A109 r108.length c110, .int .i64 0, .slice none 0 0, .string (⟨#[]⟩ : ByteArray), .string (⟨#[]⟩ : ByteArray), .int .i64 0]) ?_ 1 _ rfl; refine blk_put (cs := #[.slice none 0 0, .int .i64 0, .slice none 0 0, .string (⟨#[]⟩ : ByteArray), .string (⟨#[]⟩ : ByteArray), .int .i64 0]) ?_ 0 _ rfl; exact BK197.out); (try clear hs0_ hfs0_ hs1_ hfs1_ hs2_ hfs2_ hs3_ hfs3_ hs4_ hfs4_ hs5_ hfs5_); clear hw; have m_ := Aside0.mk (Go.Proofs.YtcnmngiaebgjkaaOwn.onlyS HO9.out BK197.out (by decide) hO_); clear HO9; have HO9 := m_; clear m_; have m_ := Aside0.mk (Go.Proofs.YtcnmngiaebgjkaaOwn.onlyS HO14.out BK197.out (by decide) hO_); clear HO14; have HO14 := m_; clear m_; have m_ := Aside0.mk (Go.Proofs.YtcnmngiaebgjkaaOwn.onlyS HO20.out BK197.out (by decide) hO_); clear HO20; have HO20 := m_; clear m_; have m_ := Aside0.mk (Go.Proofs.YtcnmngiaebgjkaaOwn.onlyS HO25.out BK197.out (by decide) hO_); clear HO25; have HO25 := m_; clear m_; have m_ := Aside0.mk (Go.Proofs.YtcnmngiaebgjkaaOwn.onlyS HO70.out BK197.out (by decide) hO_); clear HO70; have HO70 := m_; clear m_; have m_ := Aside0.mk (Go.Proofs.YtcnmngiaebgjkaaOwn.onlyS HO75.out BK197.out (by decide) hO_); clear HO75; have HO75 := m_; clear m_; have m_ := Aside0.mk (Go.Proofs.YtcnmngiaebgjkaaOwn.onlyS HO100.out BK197.out (by decide) hO_); clear HO100; have HO100 := m_; clear m_; have m_ := Aside0.mk (Go.Proofs.YtcnmngiaebgjkaaOwn.onlyS HO105.out BK197.out (by decide) hO_); clear HO105; have HO105 := m_; clear m_; have m_ := Aside0.mk (Go.Proofs.YtcnmngiaebgjkaaOwn.onlyS HO111.out BK197.out (by decide) hO_); clear HO111; have HO111 := m_; clear m_; have m_ := Aside0.mk (Go.Proofs.YtcnmngiaebgjkaaOwn.onlyS HO116.out BK197.out (by decide) hO_); clear HO116; have HO116 := m_; clear m_; have m_ := Aside0.mk (Go.Proofs.YtcnmngiaebgjkaaOwn.onlyS HO183.out BK197.out (by decide) hO_); clear HO183; have HO183 := m_; clear m_; have m_ := Aside0.mk (Go.Proofs.YtcnmngiaebgjkaaOwn.onlyS HO184.out BK197.out (by decide) hO_); clear HO184; have HO184 := m_; clear m_; have m_ := Aside0.mk ((hO_.others _ NBgb2_gb124.out).trans BK132.out); clear BK132; have BK132 := m_; clear m_; have m_ := Aside0.mk ((hO_.others _ NBgb33_gb124.out).trans BK147.out); clear BK147; have BK147 := m_; clear m_; have m_ := Aside0.mk ((hO_.others _ NBgb46_gb124.out).trans BK156.out); clear BK156; have BK156 := m_; clear m_; have m_ := Aside0.mk ((hO_.others _ NBgb63_gb124.out).trans BK165.out); clear BK165; have BK165 := m_; clear m_; have m_ := Aside0.mk (hO_.below HB.out GEgb124.out); clear HB; have HB := m_; clear m_; have HSw198 := Aside0.mk (Nat.le_of_eq hO_.size.symm : w196.heap.size ≤ w198.heap.size); clear BK197; have BK199 := Aside0.mk hbx_; clear hbx_ hO_; have hzgb2_0 : w198.cell? ⟨gb2, 0, none⟩ = some (.slice A0_0 l0_0.length c0_0) := (blk_cell BK132.out 0).trans rfl; have hzgb2_1 : w198.cell? ⟨gb2, 1, none⟩ = some (.int .i64 a0_1) := (blk_cell BK132.out 1).trans rfl; have hzgb2_2 : w198.cell? ⟨gb2, 2, none⟩ = some (.slice A0_2 l0_2.length c0_2) := (blk_cell BK132.out 2).trans rfl; have hzgb33_0 : w198.cell? ⟨gb33, 0, none⟩ = some (.slice A18 r17.length c19) := (blk_cell BK147.out 0).trans rfl; have hzgb33_1 : w198.cell? ⟨gb33, 1, none⟩ = some (.int .i64 r21) := (blk_cell BK147.out 1).trans rfl; have hzgb33_2 : w198.cell? ⟨gb33, 2, none⟩ = some (.slice A23 r22.length c24) := (blk_cell BK147.out 2).trans rfl; have hzgb33_3 : w198.cell? ⟨gb33, 3, none⟩ = some (.string r26) := (blk_cell BK147.out 3).trans rfl; have hzgb33_4 : w198.cell? ⟨gb33, 4, none⟩ = some (.string r27) := (blk_cell BK147.out 4).trans rfl; have hzgb33_5 : w198.cell? ⟨gb33, 5, none⟩ = some (.int .i64 r28) := (blk_cell BK147.out 5).trans rfl; have hzgb46_0 : w198.cell? ⟨gb46, 0, none⟩ = some (.slice A35 r34.length c36) := (blk_cell BK156.out 0).trans rfl; have hzgb46_1 : w198.cell? ⟨gb46, 1, none⟩ = some (.int .i64 r38) := (blk_cell BK156.out 1).trans rfl; have hzgb46_2 : w198.cell? ⟨gb46, 2, none⟩ = some (.slice A40 r39.length c41) := (blk_cell BK156.out 2).trans rfl; have hzgb63_0 : w198.cell? ⟨gb63, 0, none⟩ = some (.slice A48 r47.length c49) := (blk_cell BK165.out 0).trans rfl; have hzgb63_1 : w198.cell? ⟨gb63, 1, none⟩ = some (.int .i64 r51) := (blk_cell BK165.out 1).trans rfl; have hzgb63_2 : w198.cell? ⟨gb63, 2, none⟩ = some (.slice A53 r52.length c54) := (blk_cell BK165.out 2).trans rfl; have hzgb63_3 : w198.cell? ⟨gb63, 3, none⟩ = some (.string r56) := (blk_cell BK165.out 3).trans rfl; have hzgb63_4 : w198.cell? ⟨gb63, 4, none⟩ = some (.string r57) := (blk_cell BK165.out 4).trans rfl; have hzgb63_5 : w198.cell? ⟨gb63, 5, none⟩ = some (.int .i64 r58) := (blk_cell BK165.out 5).trans rfl; have hzgb124_0 : w198.cell? ⟨gb124, 0, none⟩ = some (.slice A109 r108.length c110) := (blk_cell BK199.out 0).trans rfl; have hzgb124_1 : w198.cell? ⟨gb124, 1, none⟩ = some (.int .i64 r112) := (blk_cell BK199.out 1).trans rfl; have hzgb124_2 : w198.cell? ⟨gb124, 2, none⟩ = some (.slice A114 r113.length c115) := (blk_cell BK199.out 2).trans rfl; have hzgb124_3 : w198.cell? ⟨gb124, 3, none⟩ = some (.string r117) := (blk_cell BK199.out 3).trans rfl; have hzgb124_4 : w198.cell? ⟨gb124, 4, none⟩ = some (.string r118) := (blk_cell BK199.out 4).trans rfl; have hzgb124_5 : w198.cell? ⟨gb124, 5, none⟩ = some (.int .i64 r119) := (blk_cell BK199.out 5).trans rfl) | ((with_reducible refine gate_callee (f := 8) rfl ?_); (try (refine gate_guard (by rfl) ?_; dsimp only)); refine goesL_ (some 81) rfl rfl Try.func8 (by kernel_rfl) rfl #[.agg #[.slice A109 r108.length c110, .int .i64 r112, .slice A114 r113.length c115, .string r117, .string r118, .int .i64 r119], .agg #[.slice A18 r17.length c19, .int .i64 r21, .slice A23 r22.length c24, .string r26, .string r27, .int .i64 r28]] rfl (by (try simp only [List.map_toArray, List.map_cons, List.map_nil]); first | done | rfl | (simp only [List.length_drop, List.length_take]; rfl)) ?_; (with_reducible refine (laws_eqConsole.calls k _ _ r108 r112 _ _ r113 r117 r118 r119 _ _ r17 r21 _ _ r22 r26 r27 r28 true w198 (Kd.S_reads' HO111.out).2.2 (Nat.le_trans (Nat.le_of_eq (Kd.S_reads' HO111.out).1.symm) (Kd.S_reads' HO111.out).2.1) (Kd.S_reads' HO116.out).2.2 (Nat.le_trans (Nat.le_of_eq (Kd.S_reads' HO116.out).1.symm) (Kd.S_reads' HO116.out).2.1) (Kd.S_reads' HO20.out).2.2 (Nat.le_trans (Nat.le_of_eq (Kd.S_reads' HO20.out).1.symm) (Kd.S_reads' HO20.out).2.1) (Kd.S_reads' HO25.out).2.2 (Nat.le_trans (Nat.le_of_eq (Kd.S_reads' HO25.out).1.symm) (Kd.S_reads' HO25.out).2.1) A127.out).mono ?_); rintro e w200 ⟨rfl, hb⟩; (try clear hzgb2_0 hzgb2_1 hzgb2_2); (try clear hzgb33_0 hzgb33_1 hzgb33_2 hzgb33_3 hzgb33_4 hzgb33_5); (try clear hzgb46_0 hzgb46_1 hzgb46_2); (try clear hzgb63_0 hzgb63_1 hzgb63_2 hzgb63_3 hzgb63_4 hzgb63_5); (try clear hzgb124_0 hzgb124_1 hzgb124_2 hzgb124_3 hzgb124_4 hzgb124_5); refine ⟨_, rfl, ?_⟩; have m_ := Aside0.mk (Kd.S_below HO9.out hb); clear HO9; have HO9 := m_; clear m_; have m_ := Aside0.mk (Kd.S_below HO14.out hb); clear HO14; have HO14 := m_; clear m_; have m_ := Aside0.mk (Kd.S_below HO20.out hb); clear HO20; have HO20 := m_; clear m_; have m_ := Aside0.mk (Kd.S_below HO25.out hb); clear HO25; have HO25 := m_; clear m_; have m_ := Aside0.mk (Kd.S_below HO70.out hb); clear HO70; have HO70 := m_; clear m_; have m_ := Aside0.mk (Kd.S_below HO75.out hb); clear HO75; have HO75 := m_; clear m_; have m_ := Aside0.mk (Kd.S_below HO100.out hb); clear HO100; have HO100 := m_; clear m_; have m_ := Aside0.mk (Kd.S_below HO105.out hb); clear HO105; have HO105 := m_; clear m_; have m_ := Aside0.mk (Kd.S_below HO111.out hb); clear HO111; have HO111 := m_; clear m_; have m_ := Aside0.mk (Kd.S_below HO116.out hb); clear HO116; have HO116 := m_; clear m_; have m_ := Aside0.mk (Kd.S_below HO183.out hb); clear HO183; have HO183 := m_; clear m_; have m_ := Aside0.mk (Kd.S_below HO184.out hb); clear HO184; have HO184 := m_; clear m_; have m_ := Aside0.mk (blk_below BK132.out hb); clear BK132; have BK132 := m_; clear m_; have m_ := Aside0.mk (blk_below BK147.out hb); clear BK147; have BK147 := m_; clear m_; have m_ := Aside0.mk (blk_below BK156.out hb); clear BK156; have BK156 := m_; clear m_; have m_ := Aside0.mk (blk_below BK165.out hb); clear BK165; have BK165 := m_; clear m_; have m_ := Aside0.mk (blk_below BK199.out hb); clear BK199; have BK199 := m_; clear m_; have HSw200 := Aside0.mk (show w198.heap.size ≤ w200.heap.size from hb.size); have m_ := Aside0.mk (below_step HB.out hb); clear HB; have HB := m_; clear m_; clear hb; have hzgb2_0 : w200.cell? ⟨gb2, 0, none⟩ = some (.slice A0_0 l0_0.length c0_0) := (blk_cell BK132.out 0).trans rfl; have hzgb2_1 : w200.cell? ⟨gb2, 1, none⟩ = some (.int .i64 a0_1) := (blk_cell BK132.out 1).trans rfl; have hzgb2_2 : w200.cell? ⟨gb2, 2, none⟩ = some (.slice A0_2 l0_2.length c0_2) := (blk_cell BK132.out 2).trans rfl; have hzgb33_0 : w200.cell? ⟨gb33, 0, none⟩ = some (.slice A18 r17.length c19) := (blk_cell BK147.out 0).trans rfl; have hzgb33_1 : w200.cell? ⟨gb33, 1, none⟩ = some (.int .i64 r21) := (blk_cell BK147.out 1).trans rfl; have hzgb33_2 : w200.cell? ⟨gb33, 2, none⟩ = some (.slice A23 r22.length c24) := (blk_cell BK147.out 2).trans rfl; have hzgb33_3 : w200.cell? ⟨gb33, 3, none⟩ = some (.string r26) := (blk_cell BK147.out 3).trans rfl; have hzgb33_4 : w200.cell? ⟨gb33, 4, none⟩ = some (.string r27) := (blk_cell BK147.out 4).trans rfl; have hzgb33_5 : w200.cell? ⟨gb33, 5, none⟩ = some (.int .i64 r28) := (blk_cell BK147.out 5).trans rfl; have hzgb46_0 : w200.cell? ⟨gb46, 0, none⟩ = some (.slice A35 r34.length c36) := (blk_cell BK156.out 0).trans rfl; have hzgb46_1 : w200.cell? ⟨gb46, 1, none⟩ = some (.int .i64 r38) := (blk_cell BK156.out 1).trans rfl; have hzgb46_2 : w200.cell? ⟨gb46, 2, none⟩ = some (.slice A40 r39.length c41) := (blk_cell BK156.out 2).trans rfl; have hzgb63_0 : w200.cell? ⟨gb63, 0, none⟩ = some (.slice A48 r47.length c49) := (blk_cell BK165.out 0).trans rfl; have hzgb63_1 : w200.cell? ⟨gb63, 1, none⟩ = some (.int .i64 r51) := (blk_cell BK165.out 1).trans rfl; have hzgb63_2 : w200.cell? ⟨gb63, 2, none⟩ = some (.slice A53 r52.length c54) := (blk_cell BK165.out 2).trans rfl; have hzgb63_3 : w200.cell? ⟨gb63, 3, none⟩ = some (.string r56) := (blk_cell BK165.out 3).trans rfl; have hzgb63_4 : w200.cell? ⟨gb63, 4, none⟩ = some (.string r57) := (blk_cell BK165.out 4).trans rfl; have hzgb63_5 : w200.cell? ⟨gb63, 5, none⟩ = some (.int .i64 r58) := (blk_cell BK165.out 5).trans rfl; have hzgb124_0 : w200.cell? ⟨gb124, 0, none⟩ = some (.slice A109 r108.length c110) := (blk_cell BK199.out 0).trans rfl; have hzgb124_1 : w200.cell? ⟨gb124, 1, none⟩ = some (.int .i64 r112) := (blk_cell BK199.out 1).trans rfl; have hzgb124_2 : w200.cell? ⟨gb124, 2, none⟩ = some (.slice A114 r113.length c115) := (blk_cell BK199.out 2).trans rfl; have hzgb124_3 : w200.cell? ⟨gb124, 3, none⟩ = some (.string r117) := (blk_cell BK199.out 3).trans rfl; have hzgb124_4 : w200.cell? ⟨gb124, 4, none⟩ = some (.string r118) := (blk_cell BK199.out 4).trans rfl; have hzgb124_5 : w200.cell? ⟨gb124, 5, none⟩ = some (.int .i64 r119) := (blk_cell BK199.out 5).trans rfl) | ((with_reducible refine gate_callee (f := 12) rfl ?_); (try (refine gate_guard (by rfl) ?_; dsimp only)); refine goesL_ (some 90) rfl rfl Try.func12 (by kernel_rfl) rfl #[.agg #[.slice A48 r47.length c49, .int .i64 r51, .slice A53 r52.length c54, .string r56, .string r57, .int .i64 r58], .int .i64 1] rfl (by (try simp only [List.map_toArray, List.map_cons, List.map_nil]); first | done | rfl | (simp only [List.length_drop, List.length_take]; rfl)) ?_; have hcall_ := laws_heldConsole.calls k _ _ r90 r51 _ _ r91 r56 r57 r58 1 r128 w200 (Kd.S_reads' HO183.out).2.2 (Nat.le_trans (Nat.le_of_eq (Kd.S_reads' HO183.out).1.symm) (Kd.S_reads' HO183.out).2.1) (Kd.S_reads' HO184.out).2.2 (Nat.le_trans (Nat.le_of_eq (Kd.S_reads' HO184.out).1.symm) (Kd.S_reads' HO184.out).2.1) A130.out; rw [← (show r47.length = r90.length from (Kd.S_reads' HO183.out).1)] at hcall_; rw [← (show r52.length = r91.length from (Kd.S_reads' HO184.out).1)] at hcall_; refine hcall_.mono ?_; (try clear hcall_); rintro e w201 ⟨rfl, hb⟩; (try clear hzgb2_0 hzgb2_1 hzgb2_2); (try clear hzgb33_0 hzgb33_1 hzgb33_2 hzgb33_3 hzgb33_4 hzgb33_5); (try clear hzgb46_0 hzgb46_1 hzgb46_2); (try clear hzgb63_0 hzgb63_1 hzgb63_2 hzgb63_3 hzgb63_4 hzgb63_5); (try clear hzgb124_0 hzgb124_1 hzgb124_2 hzgb124_3 hzgb124_4 hzgb124_5); refine ⟨_, rfl, ?_⟩; have m_ := Aside0.mk (Kd.S_below HO9.out hb); clear HO9; have HO9 := m_; clear m_; have m_ := Aside0.mk (Kd.S_below HO14.out hb); clear HO14; have HO14 := m_; clear m_; have m_ := Aside0.mk (Kd.S_below HO20.out hb); clear HO20; have HO20 := m_; clear m_; have m_ := Aside0.mk (Kd.S_below HO25.out hb); clear HO25; have HO25 := m_; clear m_; have m_ := Aside0.mk (Kd.S_below HO70.out hb); clear HO70; have HO70 := m_; clear m_; have m_ := Aside0.mk (Kd.S_below HO75.out hb); clear HO75; have HO75 := m_; clear m_; have m_ := Aside0.mk (Kd.S_below HO100.out hb); clear HO100; have HO100 := m_; clear m_; have m_ := Aside0.mk (Kd.S_below HO105.out hb); clear HO105; have HO105 := m_; clear m_; have m_ := Aside0.mk (Kd.S_below HO111.out hb); clear HO111; have HO111 := m_; clear m_; have m_ := Aside0.mk (Kd.S_below HO116.out hb); clear HO116; have HO116 := m_; clear m_; have m_ := Aside0.mk (Kd.S_below HO183.out hb); clear HO183; have HO183 := m_; clear m_; have m_ := Aside0.mk (Kd.S_below HO184.out hb); clear HO184; have HO184 := m_; clear m_; have m_ := Aside0.mk (blk_below BK132.out hb); clear BK132; have BK132 := m_; clear m_; have m_ := Aside0.mk (blk_below BK147.out hb); clear BK147; have BK147 := m_; clear m_; have m_ := Aside0.mk (blk_below BK156.out hb); clear BK156; have BK156 := m_; clear m_; have m_ := Aside0.mk (blk_below BK165.out hb); clear BK165; have BK165 := m_; clear m_; have m_ := Aside0.mk (blk_below BK199.out hb); clear BK199; have BK199 := m_; clear m_; have HSw201 := Aside0.mk (show w200.heap.size ≤ w201.heap.size from hb.size); have m_ := Aside0.mk (below_step HB.out hb); clear HB; have HB := m_; clear m_; clear hb; have hzgb2_0 : w201.cell? ⟨gb2, 0, none⟩ = some (.slice A0_0 l0_0.length c0_0) := (blk_cell BK132.out 0).trans rfl; have hzgb2_1 : w201.cell? ⟨gb2, 1, none⟩ = some (.int .i64 a0_1) := (blk_cell BK132.out 1).trans rfl; have hzgb2_2 : w201.cell? ⟨gb2, 2, none⟩ = some (.slice A0_2 l0_2.length c0_2) := (blk_cell BK132.out 2).trans rfl; have hzgb33_0 : w201.cell? ⟨gb33, 0, none⟩ = some (.slice A18 r17.length c19) := (blk_cell BK147.out 0).trans rfl; have hzgb33_1 : w201.cell? ⟨gb33, 1, none⟩ = some (.int .i64 r21) := (blk_cell BK147.out 1).trans rfl; have hzgb33_2 : w201.cell? ⟨gb33, 2, none⟩ = some (.slice A23 r22.length c24) := (blk_cell BK147.out 2).trans rfl; have hzgb33_3 : w201.cell? ⟨gb33, 3, none⟩ = some (.string r26) := (blk_cell BK147.out 3).trans rfl; have hzgb33_4 : w201.cell? ⟨gb33, 4, none⟩ = some (.string r27) := (blk_cell BK147.out 4).trans rfl; have hzgb33_5 : w201.cell? ⟨gb33, 5, none⟩ = some (.int .i64 r28) := (blk_cell BK147.out 5).trans rfl; have hzgb46_0 : w201.cell? ⟨gb46, 0, none⟩ = some (.slice A35 r34.length c36) := (blk_cell BK156.out 0).trans rfl; have hzgb46_1 : w201.cell? ⟨gb46, 1, none⟩ = some (.int .i64 r38) := (blk_cell BK156.out 1).trans rfl; have hzgb46_2 : w201.cell? ⟨gb46, 2, none⟩ = some (.slice A40 r39.length c41) := (blk_cell BK156.out 2).trans rfl; have hzgb63_0 : w201.cell? ⟨gb63, 0, none⟩ = some (.slice A48 r47.length c49) := (blk_cell BK165.out 0).trans rfl; have hzgb63_1 : w201.cell? ⟨gb63, 1, none⟩ = some (.int .i64 r51) := (blk_cell BK165.out 1).trans rfl; have hzgb63_2 : w201.cell? ⟨gb63, 2, none⟩ = some (.slice A53 r52.length c54) := (blk_cell BK165.out 2).trans rfl; have hzgb63_3 : w201.cell? ⟨gb63, 3, none⟩ = some (.string r56) := (blk_cell BK165.out 3).trans rfl; have hzgb63_4 : w201.cell? ⟨gb63, 4, none⟩ = some (.string r57) := (blk_cell BK165.out 4).trans rfl; have hzgb63_5 : w201.cell? ⟨gb63, 5, none⟩ = some (.int .i64 r58) := (blk_cell BK165.out 5).trans rfl; have hzgb124_0 : w201.cell? ⟨gb124, 0, none⟩ = some (.slice A109 r108.length c110) := (blk_cell BK199.out 0).trans rfl; have hzgb124_1 : w201.cell? ⟨gb124, 1, none⟩ = some (.int .i64 r112) := (blk_cell BK199.out 1).trans rfl; have hzgb124_2 : w201.cell? ⟨gb124, 2, none⟩ = some (.slice A114 r113.length c115) := (blk_cell BK199.out 2).trans rfl; have hzgb124_3 : w201.cell? ⟨gb124, 3, none⟩ = some (.string r117) := (blk_cell BK199.out 3).trans rfl; have hzgb124_4 : w201.cell? ⟨gb124, 4, none⟩ = some (.string r118) := (blk_cell BK199.out 4).trans rfl; have hzgb124_5 : w201.cell? ⟨gb124, 5, none⟩ = some (.int .i64 r119) := (blk_cell BK199.out 5).trans rfl))
    repeat (go_quiet (fail); try go_wp2)
    go_ret
    exact ⟨rfl, by repeat (first | (with_reducible first | exact HB.out | apply below_alloc | apply pw_below_drewN | apply below_drew1) | exact HB.out)⟩
end Go.Proofs.Ytcnmngiaebgjkaa.X


namespace Go.Proofs.YtcnmngiaebgjkaaZ
open Go.ChangeShapes Go.WideShapes Go.ChangeAt Go.RowKit
open Go.Proofs.YtcnmngiaebgjkaaW.PrintWords
set_option linter.unusedVariables false
set_option linter.unusedSimpArgs false
section
variable {P : Program}

/-- A reading of type t is a value of kind d, and the value fits. -/
def Opens (P : Program) {α : Type} (d : Kd α) (t : TypeId) (fits : α → Prop) : Prop :=
  ∀ {H : Type} {enc : TypeId × Value → H} {w : World} {base : Nat} {spare : Nat → Bool} {held : Bool} {fuel : Nat} {cs : List Value} {x : DataW H × List MemPlace},
    DataW.trod enc P w base spare held fuel t cs = some x → (∀ n ∈ x.1.weights P t, n ≤ reachBytes) → ∃ v, d.K w v cs ∧ fits v

theorem opens_int {k : IntKind} {t : TypeId} (ht : P.underlying t = some (.int k)) : Opens P (Kd.int k) t (fun n => (Lit.int k n).wf = true) := by
  intro H enc w base spare held fuel cs x h _
  obtain ⟨n, rfl, _, hw⟩ := DataW.trod_int ht h
  exact ⟨n, rfl, hw⟩
theorem weightsAll_mem {H : Type} {e : TypeId} {d : DataW H} {n : Nat} : ∀ {l : List (DataW H)}, d ∈ l → n ∈ d.weights P e → n ∈ DataW.weightsAll P e l
  | [], h, _ => by cases h
  | x :: r, h, hn => by
    simp only [DataW.weightsAll, List.mem_append]
    rcases List.mem_cons.1 h with rfl | h
    · exact .inl hn
    · exact .inr (weightsAll_mem h hn)
theorem weightsEach_mem {H : Type} {n : Nat} : ∀ {ts : List TypeId} {l : List (DataW H)} {i : Nat} {t : TypeId} {d : DataW H}, ts[i]? = some t → l[i]? = some d → n ∈ d.weights P t → n ∈ DataW.weightsEach P ts l
  | [], l, i, t, d, h, _, _ => by simp at h
  | t :: ts, [], i, _, _, _, h, _ => by simp at h
  | t :: ts, d :: l, 0, _, _, h, k, hn => by
    simp at h k; subst h k
    simp only [DataW.weightsEach, List.mem_append]; exact .inl hn
  | t :: ts, d :: l, i + 1, _, _, h, k, hn => by
    simp at h k
    simp only [DataW.weightsEach, List.mem_append]; exact .inr (weightsEach_mem h k hn)
theorem opens_slice {α : Type} (z : α) {d : Kd α} {t e : TypeId} {fits : α → Prop} (ht : P.underlying t = some (.slice e)) (hsz : P.cellsOf e = d.sz) (he : Opens P d e fits) {B : Nat} (hB : P.bytesOf e = B) :
    Opens P (Kd.slice e d) t (fun l => l.length * B ≤ 140737488351232 ∧ l.length ≤ 9223372036854775807 ∧ ∀ x ∈ l, fits x) := by
  intro H enc w base spare held fuel cs x h hw
  rcases Deep.open_slice ht h with ⟨rfl, rfl⟩ | ⟨a, len, cap, m, n, D, Pl, rfl, hb, hl, hm, hmm, rfl, hc⟩
  · exact ⟨[], ⟨none, 0, rfl, Nat.le_refl _, Kd.C_nil d w⟩, by simp, by simp, fun x hx => by cases hx⟩
  · have hlm : len ≤ m := by rw [hmm]; split <;> omega
    have hbnd : len * B ≤ 140737488351232 := by
      have := hw ((((List.range len).map D).length + ((List.range (m - len)).map fun j => D (len + j)).length) * P.bytesOf e) (by simp [DataW.weights, ht])
      simp only [List.length_map, List.length_range, hB] at this
      have h2 : len * B ≤ (len + (m - len)) * B := Nat.mul_le_mul_right _ (by omega)
      exact Nat.le_trans h2 this
    have hel : ∀ i, i < len → ∃ v : α, (∃ c, c.length = d.sz ∧ d.K w v c ∧ ∀ j u, c[j]? = some u → w.cell? (a.add (i * d.sz + j)) = some u) ∧ fits v := by
      intro i hi
      obtain ⟨c, h1, h2⟩ := hc i (by omega)
      obtain ⟨v, hv, hf⟩ := he h2 (fun k hk => hw k (by
        simp only [DataW.weights, ht, List.mem_cons, List.mem_append]
        exact .inr (.inl (weightsAll_mem (d := D i) (List.mem_map.2 ⟨i, List.mem_range.2 hi, rfl⟩) hk))))
      rw [hsz] at h1
      obtain ⟨_, hlen, hcell⟩ := World.cells?_some h1
      refine ⟨v, ⟨c, hlen, hv, fun j u hj => ?_⟩, hf⟩
      have hjl : j < d.sz := by rw [← hlen]; exact (List.getElem?_eq_some_iff.1 hj).1
      rw [← Deep.add_add, hcell j hjl]
      exact hj
    haveI : Inhabited α := ⟨z⟩
    obtain ⟨f, hf⟩ := Deep.choose_lt hel
    refine ⟨(List.range len).map f, ⟨some a, cap, by simp, by simpa using hl, ⟨by simp, ?_, fun _ => ⟨a, rfl, ?_⟩⟩⟩, by simpa using hbnd, by simp; unfold maxLen at hm; omega, ?_⟩
    · simp; unfold maxLen at hm; omega
    · intro j p hj
      have hjl : j < len := by
        have := (List.getElem?_eq_some_iff.1 hj).1
        simpa using this
      rw [List.getElem?_map, List.getElem?_range hjl] at hj
      simp only [Option.map_some, Option.some.injEq] at hj
      subst hj
      exact (hf j hjl).1
    · intro x hx
      obtain ⟨j, hj, rfl⟩ := List.mem_map.1 hx
      exact (hf j (List.mem_range.1 hj)).2

/-- Fields from offset o on to the struct's end L, as a value of kind d. -/
def OpensF (P : Program) {α : Type} (d : Kd α) (fs : List Field) (o L : Nat) (fits : α → Prop) : Prop :=
  ∀ {H : Type} {enc : TypeId × Value → H} {w : World} {base : Nat} {spare : Nat → Bool} {held : Bool} {fuel : Nat} {cs : List Value} {xs : List (DataW H × List MemPlace)},
    cs.length = L → xs.length = fs.length → (∀ (i : Nat) (f : Field), fs[i]? = some f → DataW.trod enc P w base spare held fuel f.type ((cs.drop f.offset).take (P.cellsOf f.type)) = xs[i]?) →
    (∀ n ∈ DataW.weightsEach P (fs.map (·.type)) (xs.map (·.1)), n ≤ reachBytes) → ∃ v, d.K w v (cs.drop o) ∧ fits v
theorem opensF_one {α : Type} {d : Kd α} {f : Field} {o L : Nat} {fits : α → Prop} (t : TypeId) (hft : f.type = t) (ho : f.offset = o) (hL : o + P.cellsOf t = L) (h : Opens P d t fits) : OpensF P d [f] o L fits := by
  intro H enc w base spare held fuel cs xs hlen hxs hf hw
  match xs, hxs with
  | [x], _ =>
    have h0 := hf 0 f rfl
    rw [hft, ho, List.take_of_length_le (by rw [List.length_drop]; omega)] at h0
    exact h h0 (fun n hn => hw n (by rw [hft.symm] at hn; simp [DataW.weightsEach]; exact hn))
theorem opensF_cons {α β : Type} {d : Kd α} {d' : Kd β} {f : Field} {rest : List Field} {o o' L : Nat} {fits : α → Prop} {fits' : β → Prop} (t : TypeId) (hft : f.type = t) (ho : f.offset = o) (hn : o + P.cellsOf t = o') (h : Opens P d t fits) (hr : OpensF P d' rest o' L fits') :
    OpensF P (Kd.pair d d') (f :: rest) o L (fun p => fits p.1 ∧ fits' p.2) := by
  intro H enc w base spare held fuel cs xs hlen hxs hf hw
  match xs, hxs with
  | x :: xs, hxs =>
    have h0 := hf 0 f rfl
    rw [hft, ho] at h0
    obtain ⟨v, hv, fv⟩ := h h0 (fun n hn => hw n (by rw [hft.symm] at hn; simp [DataW.weightsEach]; exact .inl hn))
    obtain ⟨v', hv', fv'⟩ := hr (cs := cs) (xs := xs) hlen (by simpa using hxs) (fun i g hg => by simpa using hf (i + 1) g (by simpa using hg)) (fun n hn => hw n (by simp only [List.map_cons, DataW.weightsEach, List.mem_append]; exact .inr hn))
    exact ⟨(v, v'), ⟨(cs.drop o).take (P.cellsOf t), cs.drop o', by rw [← hn, ← List.drop_drop]; exact (List.take_append_drop _ _).symm, hv, hv'⟩, fv, fv'⟩
theorem opens_struct {α β : Type} {d : Kd α} {t : TypeId} {fs : Array Field} {L : Nat} {fits : α → Prop} {fits' : β → Prop} (ht : P.underlying t = some (.struct fs)) (hL : P.cellsOf t = L) (h : OpensF P d fs.toList 0 L fits) (g : β → α) (inv : α → β) (hinv : ∀ a, g (inv a) = a) (hf : ∀ a, fits a → fits' (inv a)) :
    Opens P (Kd.iso d g) t fits' := by
  intro H enc w base spare held fuel cs x hx hw
  obtain ⟨xs, n, rfl, rfl, hl, hlen, hff⟩ := DataW.trod_struct ht hx
  obtain ⟨v, hv, fv⟩ := h (cs := cs) (xs := xs) (by rw [hl, hL]) (by simpa using hlen) (fun i f hi => hff i f (by simpa using hi)) (fun k hk => hw k (by simp only [DataW.weights, ht]; exact hk))
  refine ⟨inv v, ?_, hf v fv⟩
  show d.K w (g (inv v)) cs
  rw [hinv]
  simpa using hv
/-- A parameter's weights are among all. -/
theorem weights_param {H : Type} {ts : List TypeId} {ds : List (DataW H)} {j : Nat} {t : TypeId} {d : DataW H} (hsz : (DataW.weightsEach P ts ds).all (· ≤ reachBytes) = true) (ht : ts[j]? = some t) (hd : ds[j]? = some d) : ∀ n ∈ d.weights P t, n ≤ reachBytes := fun n hn => by
  have := List.all_eq_true.1 hsz n (weightsEach_mem ht hd hn)
  simpa using this
end
end Go.Proofs.YtcnmngiaebgjkaaZ


-- written by a program of this session (wip/ext.py): what the law says, without Go and memory.
namespace Go.Proofs.Ytcnmngiaebgjkaa.X
open Go.RowKit Go.Proofs.YtcnmngiaebgjkaaW.PrintWords Go.Proofs.YtcnmngiaebgjkaaW.PrintLast Go.Proofs.YtcnmngiaebgjkaaW.PrintMore
open Go.Proofs.YtcnmngiaebgjkaaZ
namespace OFnExactNewConsole
def fitsT24 (x : S24) : Prop := (x.f0.length * 24 ≤ 140737488351232 ∧ x.f0.length ≤ 9223372036854775807 ∧ ∀ y4 ∈ x.f0, (y4.length * 8 ≤ 140737488351232 ∧ y4.length ≤ 9223372036854775807 ∧ ∀ y2 ∈ y4, (Lit.int .i64 y2).wf = true))
theorem opensT24 : Opens Try.prog k24 24 fitsT24 :=
  opens_struct (L := 1) Try.underlying24 (by kernel_rfl) (opensF_one 22 rfl rfl (by kernel_rfl) (opens_slice [] Try.underlying22 (by kernel_rfl) (opens_slice 0 Try.underlying60 (by kernel_rfl) (opens_int Try.underlying3) (by kernel_rfl)) (by kernel_rfl))) (fun x : S24 => x.f0) (fun p => ⟨p⟩) (fun _ => rfl) (fun _ h => h)
def fitsT26 (x : S26) : Prop := (Lit.int .i64 x.f0).wf = true ∧ (x.f1.length * 24 ≤ 140737488351232 ∧ x.f1.length ≤ 9223372036854775807 ∧ ∀ y4 ∈ x.f1, (y4.length * 8 ≤ 140737488351232 ∧ y4.length ≤ 9223372036854775807 ∧ ∀ y2 ∈ y4, (Lit.int .i64 y2).wf = true))
theorem opensT26 : Opens Try.prog k26 26 fitsT26 :=
  opens_struct (L := 2) Try.underlying26 (by kernel_rfl) (opensF_cons (o' := 1) 3 rfl rfl (by kernel_rfl) (opens_int Try.underlying3) (opensF_one 22 rfl rfl (by kernel_rfl) (opens_slice [] Try.underlying22 (by kernel_rfl) (opens_slice 0 Try.underlying60 (by kernel_rfl) (opens_int Try.underlying3) (by kernel_rfl)) (by kernel_rfl)))) (fun x : S26 => (x.f0, x.f1)) (fun p => ⟨p.1, p.2⟩) (fun _ => rfl) (fun _ h => h)
def fitsT28 (x : S28) : Prop := fitsT24 x.f0 ∧ fitsT26 x.f1
theorem opensT28 : Opens Try.prog k28 28 fitsT28 :=
  opens_struct (L := 3) Try.underlying28 (by kernel_rfl) (opensF_cons (o' := 1) 24 rfl rfl (by kernel_rfl) opensT24 (opensF_one 26 rfl rfl (by kernel_rfl) opensT26)) (fun x : S28 => (x.f0, x.f1)) (fun p => ⟨p.1, p.2⟩) (fun _ => rfl) (fun _ h => h)
def Pure : Prop := ∀ (x0 : S28), fitsT28 x0 → ∃ k, laws_FnExactNewConsole.f k x0.f0.f0 x0.f1.f0 x0.f1.f1 = some true
end OFnExactNewConsole
end Go.Proofs.Ytcnmngiaebgjkaa.X


namespace Go.Proofs.YtcnmngiaebgjkaaL
open Go.RowKit Go.Proofs.YtcnmngiaebgjkaaW.PrintWords
set_option linter.unusedVariables false
set_option linter.unusedSimpArgs false

theorem ev_eq {α : Type} {g : Nat → Option α} {r : α} (h : ∀ k, g k = some r) : Ev g r := ⟨0, fun k _ => h k⟩
theorem ev_rounds {α : Type} {g : Nat → Option α} {r : α} (h : Ev g r) : ∃ k, g k = some r := h.rounds
theorem wrap_id {x : Int} (h0 : -9223372036854775808 ≤ x) (h1 : x ≤ 9223372036854775807) : wrap64 x = x := by unfold wrap64; omega
theorem wrap_succ {n : Nat} (h : n < 9223372036854775807) : wrap64 ((n : Int) + 1) = ((n + 1 : Nat) : Int) := by rw [wrap_id (by omega) (by omega)]; rfl
theorem rd_at (l : List Int) (n : Nat) (h : n < l.length) : rd l (n : Int) = l[n] := by simp [rd, List.getD_eq_getElem?_getD, List.getElem?_eq_getElem h]
/-- A list that is filled from the front. -/
def fill {α β : Type} (f : α → β) (z : β) (l : List α) (n : Nat) : List β := (l.take n).map f ++ List.replicate (l.length - n) z
theorem fill_zero {α β : Type} (f : α → β) (z : β) (l : List α) : fill f z l 0 = List.replicate l.length z := by simp [fill]
theorem fill_length {α β : Type} (f : α → β) (z : β) (l : List α) (n : Nat) (h : n ≤ l.length) : (fill f z l n).length = l.length := by simp only [fill, List.length_append, List.length_map, List.length_take, List.length_replicate]; omega
theorem fill_set {α β : Type} (f : α → β) (z : β) (l : List α) (n : Nat) (h : n < l.length) : (fill f z l n).set n (f l[n]) = fill f z l (n + 1) := by
  have e : l.length - n = (l.length - (n + 1)) + 1 := by omega
  have ht : l.take (n + 1) = l.take n ++ [l[n]] := by rw [List.take_succ_eq_append_getElem h]
  unfold fill
  rw [e, List.replicate_succ, ht, List.set_append_right _ _ (by simp; omega)]
  have : n - ((l.take n).map f).length = 0 := by simp; omega
  rw [this, List.map_append, List.append_assoc]
  rfl
theorem fill_all {α β : Type} (f : α → β) (z : β) (l : List α) : fill f z l l.length = l.map f := by simp [fill]
end Go.Proofs.YtcnmngiaebgjkaaL


namespace Go.Proofs.Ytcnmngiaebgjkaa.X
open Go.RowKit Go.Proofs.YtcnmngiaebgjkaaW.PrintWords Go.Proofs.YtcnmngiaebgjkaaL
set_option linter.unusedVariables false
set_option linter.unusedSimpArgs false
theorem eqIntS_ev (l : List Int) (h : l.length ≤ 4611686018427387904) : Ev (fun k => laws_eqIntS.f k l l) true := by
  have key : ∀ (d n : Nat), n + d = l.length → Ev (fun k => laws_eqIntS.l0 k l l n) true := by
    intro d
    induction d with
    | zero => intro n hn; exact Ev.step (f := fun _ => some _) (fun k => by simp only [laws_eqIntS.l0]; rw [if_neg (by omega)]) (Ev.now _)
    | succ d ih =>
      intro n hn
      refine Ev.step (f := fun k => laws_eqIntS.l0 k l l ((n + 1 : Nat) : Int)) (fun k => ?_) (ih (n + 1) (by omega))
      simp only [laws_eqIntS.l0]
      rw [if_pos (by omega), if_pos (by omega), if_pos (by omega), wrap_succ (by omega)]
      simp
  exact Ev.congr (f := fun k => laws_eqIntS.l0 k l l ((0 : Nat) : Int)) (fun k => by unfold laws_eqIntS.f; rw [if_pos rfl]; rfl) (key l.length 0 (by omega))
end Go.Proofs.Ytcnmngiaebgjkaa.X


namespace Go.Proofs.Ytcnmngiaebgjkaa.X
open Go.RowKit Go.Proofs.YtcnmngiaebgjkaaW.PrintWords Go.Proofs.YtcnmngiaebgjkaaL
set_option linter.unusedVariables false
set_option linter.unusedSimpArgs false
theorem rdR (l : List (List Int)) (n : Nat) (h : n < l.length) : rd_L1 l (n : Int) = l[n] := by simp [rd_L1, List.getD_eq_getElem?_getD, List.getElem?_eq_getElem h]
theorem eqIntSS_ev (l : List (List Int)) (h : l.length ≤ 1048576) (hr : ∀ s ∈ l, s.length ≤ 1048576) : Ev (fun k => laws_eqIntSS.f k l l) true := by
  have key : ∀ (d n : Nat), n + d = l.length → Ev (fun k => laws_eqIntSS.l0 k l l n) true := by
    intro d
    induction d with
    | zero => intro n hn; exact Ev.step (f := fun _ => some _) (fun k => by simp only [laws_eqIntSS.l0]; rw [if_neg (by omega)]) (Ev.now _)
    | succ d ih =>
      intro n hn
      have hnl : n < l.length := by omega
      have hm := hr _ (List.getElem_mem hnl)
      refine Ev.step (f := fun k => (laws_eqIntS.f k l[n] l[n]).bind fun t => if t = true then laws_eqIntSS.l0 k l l ((n + 1 : Nat) : Int) else some false) (fun k => ?_) (Ev.bind (eqIntS_ev l[n] (by have : l[n].length ≤ 1048576 := hm; omega)) ?_)
      · simp only [laws_eqIntSS.l0]
        rw [if_pos (by omega), if_pos (by omega), if_pos (by omega), rdR l n hnl, wrap_succ (by omega)]
      · simp only [if_true]; exact ih (n + 1) (by omega)
  exact Ev.congr (f := fun k => laws_eqIntSS.l0 k l l ((0 : Nat) : Int)) (fun k => by unfold laws_eqIntSS.f; rw [if_pos rfl]; rfl) (key l.length 0 (by omega))
end Go.Proofs.Ytcnmngiaebgjkaa.X


namespace Go.Proofs.Ytcnmngiaebgjkaa.X
open Go.RowKit Go.Proofs.YtcnmngiaebgjkaaW.PrintWords Go.Proofs.YtcnmngiaebgjkaaL
set_option linter.unusedVariables false
set_option linter.unusedSimpArgs false
theorem szIntS_eq (l : List Int) (a : Int) (h0 : 0 ≤ a) (h1 : a ≤ 1048576) (hl : l.length ≤ 4611686018427387904) : laws_szIntS.f l a = some (if a - (l.length : Int) < 0 then -1 else a - (l.length : Int)) := by
  unfold laws_szIntS.f
  rw [wrap_id (by omega) (by omega)]
  split <;> rfl
theorem szIntSS_ev (l : List (List Int)) (a : Int) (h0 : 0 ≤ a) (h1 : a ≤ 1048576) (hl : l.length ≤ 4611686018427387904) (hr : ∀ s ∈ l, s.length ≤ 4611686018427387904) :
    ∃ r, Ev (fun k => laws_szIntSS.f k l a) r ∧ (r < 0 ∨ (0 ≤ r ∧ r ≤ a ∧ (l.length : Int) ≤ a ∧ ∀ s ∈ l, (s.length : Int) ≤ a)) := by
  have key : ∀ (d n : Nat) (x : Int), n + d = l.length → 0 ≤ x → x ≤ a → ∃ r, Ev (fun k => laws_szIntSS.l0 k l x n) r ∧ (r < 0 ∨ (0 ≤ r ∧ r ≤ x ∧ ∀ s ∈ l.drop n, (s.length : Int) ≤ a)) := by
    intro d
    induction d with
    | zero =>
      intro n x hn hx0 hxa
      exact ⟨x, Ev.step (f := fun _ => some _) (fun k => by simp only [laws_szIntSS.l0]; rw [if_neg (by omega)]) (Ev.now _), .inr ⟨hx0, Int.le_refl _, by rw [List.drop_of_length_le (by omega)]; simp⟩⟩
    | succ d ih =>
      intro n x hn hx0 hxa
      have hnl : n < l.length := by omega
      have hm := hr _ (List.getElem_mem hnl)
      by_cases c : x - (l[n].length : Int) < 0
      · refine ⟨-1, Ev.step (f := fun _ => some (-1)) (fun k => ?_) (Ev.now _), .inl (by decide)⟩
        simp only [laws_szIntSS.l0]
        rw [if_pos (by omega), if_pos (by omega), rdR l n hnl, szIntS_eq _ _ hx0 (by omega) hm, if_pos c]
        rfl
      · obtain ⟨r, hev, hq⟩ := ih (n + 1) (x - (l[n].length : Int)) (by omega) (by omega) (by omega)
        refine ⟨r, Ev.step (fun k => ?_) hev, hq.imp id (fun z => ⟨z.1, by omega, ?_⟩)⟩
        · simp only [laws_szIntSS.l0]
          rw [if_pos (by omega), if_pos (by omega), rdR l n hnl, szIntS_eq _ _ hx0 (by omega) hm, if_neg c]
          simp only [Option.bind_some]
          rw [if_neg c, wrap_succ (by omega)]
        · rw [List.drop_eq_getElem_cons hnl]
          intro s hs
          rcases List.mem_cons.1 hs with rfl | hs
          · omega
          · exact z.2.2 s hs
  by_cases c : a - (l.length : Int) < 0
  · exact ⟨-1, ev_eq (fun k => by unfold laws_szIntSS.f; rw [wrap_id (by omega) (by omega), if_pos c]), .inl (by decide)⟩
  · obtain ⟨r, hev, hq⟩ := key l.length 0 (a - (l.length : Int)) (by omega) (by omega) (by omega)
    refine ⟨r, Ev.congr (fun k => by unfold laws_szIntSS.f; rw [wrap_id (by omega) (by omega), if_neg c]; rfl) hev, hq.imp id (fun z => ⟨z.1, by omega, by omega, by simpa using z.2.2⟩)⟩
theorem toIntS_ev (l : List Int) (h : l.length ≤ 1048576) : Ev (fun k => laws_toIntS.f k l) l := by
  have key : ∀ (d n : Nat), n + d = l.length → Ev (fun k => laws_toIntS.l0 k l (fill id (0 : Int) l n) n) l := by
    intro d
    induction d with
    | zero =>
      intro n hn
      obtain rfl : n = l.length := by omega
      have e : fill id (0 : Int) l l.length = l := by rw [fill_all]; simp
      rw [e]
      exact Ev.step (f := fun _ => some _) (fun k => by simp only [laws_toIntS.l0]; rw [if_neg (by omega)]) (Ev.now _)
    | succ d ih =>
      intro n hn
      have hnl : n < l.length := by omega
      refine Ev.step (fun k => ?_) (ih (n + 1) (by omega))
      simp only [laws_toIntS.l0]
      rw [if_pos (by omega), if_pos (by omega), fill_length id _ l n (by omega), if_pos (by omega), rd_at l n hnl, wrap_succ (by omega), Int.toNat_natCast, ← fill_set id _ l n hnl]
      rfl
  refine Ev.congr (fun k => ?_) (key l.length 0 (by omega))
  unfold laws_toIntS.f
  rw [if_pos (by omega), if_pos (by omega), fill_zero, Int.toNat_natCast]
  rfl
theorem toIntSS_ev (l : List (List Int)) (h : l.length ≤ 1048576) (hr : ∀ s ∈ l, s.length ≤ 1048576) : Ev (fun k => laws_toIntSS.f k l) l := by
  have key : ∀ (d n : Nat), n + d = l.length → Ev (fun k => laws_toIntSS.l0 k l (fill id ([] : List Int) l n) n) l := by
    intro d
    induction d with
    | zero =>
      intro n hn
      obtain rfl : n = l.length := by omega
      have e : fill id ([] : List Int) l l.length = l := by rw [fill_all]; simp
      rw [e]
      exact Ev.step (f := fun _ => some _) (fun k => by simp only [laws_toIntSS.l0]; rw [if_neg (by omega)]) (Ev.now _)
    | succ d ih =>
      intro n hn
      have hnl : n < l.length := by omega
      refine Ev.step (f := fun k => (laws_toIntS.f k l[n]).bind fun t => laws_toIntSS.l0 k l ((fill id ([] : List Int) l n).set n t) ((n + 1 : Nat) : Int)) (fun k => ?_) (Ev.bind (toIntS_ev _ (hr _ (List.getElem_mem hnl))) ?_)
      · simp only [laws_toIntSS.l0, fill_length id _ l n (show n ≤ l.length by omega)]
        rw [if_pos (by omega), if_pos (by omega), rdR l n hnl]
        simp only [if_pos (show (n : Int) < (l.length : Int) by omega), wrap_succ (show n < 9223372036854775807 by omega), Int.toNat_natCast]
      · have e : (fill id ([] : List Int) l n).set n l[n] = fill id ([] : List Int) l (n + 1) := by rw [← fill_set id _ l n hnl]; rfl
        rw [e]
        exact ih (n + 1) (by omega)
  refine Ev.congr (fun k => ?_) (key l.length 0 (by omega))
  unfold laws_toIntSS.f
  rw [if_pos (by omega), if_pos (by omega), fill_zero, Int.toNat_natCast]
  rfl
end Go.Proofs.Ytcnmngiaebgjkaa.X


namespace Go.Proofs.Ytcnmngiaebgjkaa.X
open Go.RowKit Go.Proofs.YtcnmngiaebgjkaaW.PrintWords Go.Proofs.YtcnmngiaebgjkaaL
set_option linter.unusedVariables false
set_option linter.unusedSimpArgs false
theorem l1In_eq2 (a b c : Int) : spec_l1In.f a b c = some (decide (b ≤ a) && decide (a ≤ c)) := by
  unfold spec_l1In.f
  by_cases h : a ≥ b
  · rw [if_pos h]; simp [show b ≤ a from h]
  · rw [if_neg h]; simp [show ¬ b ≤ a from h]
theorem has_ev (S : List Int) (n : Int) (hS : S.length ≤ 1048576) : Ev (fun k => spec_l1Has.f k S n) (decide (n ∈ S)) := by
  have key : ∀ (d i : Nat), i + d = S.length → Ev (fun k => spec_l1Has.l0 k S n i) (decide (n ∈ S.drop i)) := by
    intro d
    induction d with
    | zero =>
      intro i hi
      rw [List.drop_of_length_le (by omega)]
      exact Ev.step (f := fun _ => some _) (fun k => by simp only [spec_l1Has.l0]; rw [if_neg (by omega)]; simp) (Ev.now _)
    | succ d ih =>
      intro i hi
      have hil : i < S.length := by omega
      rw [List.drop_eq_getElem_cons hil]
      by_cases c : S[i] = n
      · have e : decide (n ∈ S[i] :: S.drop (i + 1)) = true := decide_eq_true (by rw [c]; exact List.mem_cons_self)
        rw [e]
        exact Ev.step (f := fun _ => some _) (fun k => by simp only [spec_l1Has.l0]; rw [if_pos (by omega), if_pos (by omega), rd_at S i hil, if_pos c]) (Ev.now _)
      · have e : decide (n ∈ S[i] :: S.drop (i + 1)) = decide (n ∈ S.drop (i + 1)) := by
          rw [decide_eq_decide, List.mem_cons]
          exact ⟨fun z => z.elim (fun y => absurd y.symm c) id, .inr⟩
        rw [e]
        refine Ev.step (fun k => ?_) (ih (i + 1) (by omega))
        simp only [spec_l1Has.l0]
        rw [if_pos (by omega), if_pos (by omega), rd_at S i hil, if_neg c, wrap_succ (by omega)]
  exact Ev.congr (f := fun k => spec_l1Has.l0 k S n ((0 : Nat) : Int)) (fun k => rfl) (by simpa using key S.length 0 (by omega))
theorem spec_l5Good_loop (l : List (List Int)) (hl : l.length ≤ 6) : ∀ (d i : Nat) (S : List Int), i + d = l.length → S.length ≤ 4 * i → Ev (fun k => spec_l5Good.l0 k S i l) (goodRows 4 S (l.drop i)) := by
  intro d
  induction d with
  | zero =>
    intro i S hi hS
    rw [List.drop_of_length_le (by omega)]
    exact Ev.step (f := fun _ => some _) (fun k => by simp only [spec_l5Good.l0]; rw [if_neg (by omega)]; rfl) (Ev.now _)
  | succ d ih =>
    intro i S hi hS
    have hil : i < l.length := by omega
    rw [List.drop_eq_getElem_cons hil]
    by_cases c : (l[i].length : Int) > 4
    · rw [goodRows_over 4 _ _ _ c]
      refine Ev.step (f := fun _ => some false) (fun k => ?_) (Ev.now _)
      simp only [spec_l5Good.l0]
      rw [if_pos (by omega), if_pos (by omega), rdR l i hil, if_pos c]
    · rw [goodRows_in 4 _ _ _ c]
      have inner : ∀ (e j : Nat) (S2 : List Int), j + e = l[i].length → S2.length ≤ 4 * i + j → Ev (fun k => spec_l5Good.l1 k S2 i j l) (goodRest 4 S2 (l[i].drop j) (l.drop (i + 1))) := by
        intro e
        induction e with
        | zero =>
          intro j S2 hj hS2
          rw [List.drop_of_length_le (by omega), goodRest_nil]
          refine Ev.step (fun k => ?_) (ih (i + 1) S2 (by omega) (by omega))
          simp only [spec_l5Good.l1]
          rw [if_pos (by omega), if_pos (by omega), rdR l i hil, if_neg (by omega), wrap_succ (by omega)]
        | succ e ih2 =>
          intro j S2 hj hS2
          have hjl : j < l[i].length := by omega
          rw [List.drop_eq_getElem_cons hjl]
          have hn := rd_at l[i] j hjl
          refine Ev.step (f := fun k => if (decide ((1 : Int) ≤ l[i][j]) && decide (l[i][j] ≤ 99)) = true then ((spec_l1Has.f k S2 l[i][j]).bind fun t => if t = true then some false else spec_l5Good.l1 k (S2 ++ [l[i][j]]) i ((j + 1 : Nat) : Int) l) else some false) (fun k => ?_) ?_
          · simp only [spec_l5Good.l1]
            rw [if_pos (by omega), if_pos (by omega), rdR l i hil, if_pos (by omega), if_pos (by omega), hn, l1In_eq2]
            simp only [Option.bind_some, if_pos (show S2.length < 17592186044416 by omega), wrap_succ (show j < 9223372036854775807 by omega)]
          · generalize hnn : l[i][j] = n
            rw [hnn] at *
            cases c4 : (decide (1 ≤ n) && decide (n ≤ 99)) with
            | false =>
              rw [goodRest_no 4 S2 n _ _ (.inl (fun z => by simp [z.1, z.2] at c4))]
              exact ev_eq (fun k => if_neg (by simp))
            | true =>
              have hn1 : 1 ≤ n ∧ n ≤ 99 := by simpa using c4
              simp only [if_true]
              refine Ev.bind (has_ev S2 n (by omega)) ?_
              cases c5 : decide (n ∈ S2) with
              | true =>
                rw [goodRest_no 4 S2 n _ _ (.inr c5)]
                simp only [if_true]; exact Ev.now _
              | false =>
                rw [goodRest_yes 4 S2 n _ _ hn1.1 hn1.2 c5]
                simp only [Bool.false_eq_true, if_false]
                exact ih2 (j + 1) (S2 ++ [n]) (by omega) (by simp; omega)
      refine Ev.step (fun k => ?_) (inner l[i].length 0 S (by omega) (by omega))
      simp only [spec_l5Good.l0]
      rw [if_pos (by omega), if_pos (by omega), rdR l i hil, if_neg c]
      rfl
theorem spec_l9Good_loop (m : Int) (l : List (List Int)) (hl : l.length ≤ 6) (hm : m ≤ 4) : ∀ (d i : Nat) (S : List Int), i + d = l.length → S.length ≤ 4 * i → Ev (fun k => spec_l9Good.l0 k S i m l) (goodRows m S (l.drop i)) := by
  intro d
  induction d with
  | zero =>
    intro i S hi hS
    rw [List.drop_of_length_le (by omega)]
    exact Ev.step (f := fun _ => some _) (fun k => by simp only [spec_l9Good.l0]; rw [if_neg (by omega)]; rfl) (Ev.now _)
  | succ d ih =>
    intro i S hi hS
    have hil : i < l.length := by omega
    rw [List.drop_eq_getElem_cons hil]
    by_cases c : (l[i].length : Int) > m
    · rw [goodRows_over m _ _ _ c]
      refine Ev.step (f := fun _ => some false) (fun k => ?_) (Ev.now _)
      simp only [spec_l9Good.l0]
      rw [if_pos (by omega), if_pos (by omega), rdR l i hil, if_pos c]
    · rw [goodRows_in m _ _ _ c]
      have inner : ∀ (e j : Nat) (S2 : List Int), j + e = l[i].length → S2.length ≤ 4 * i + j → Ev (fun k => spec_l9Good.l1 k S2 i j m l) (goodRest m S2 (l[i].drop j) (l.drop (i + 1))) := by
        intro e
        induction e with
        | zero =>
          intro j S2 hj hS2
          rw [List.drop_of_length_le (by omega), goodRest_nil]
          refine Ev.step (fun k => ?_) (ih (i + 1) S2 (by omega) (by omega))
          simp only [spec_l9Good.l1]
          rw [if_pos (by omega), if_pos (by omega), rdR l i hil, if_neg (by omega), wrap_succ (by omega)]
        | succ e ih2 =>
          intro j S2 hj hS2
          have hjl : j < l[i].length := by omega
          rw [List.drop_eq_getElem_cons hjl]
          have hn := rd_at l[i] j hjl
          refine Ev.step (f := fun k => if (decide ((1 : Int) ≤ l[i][j]) && decide (l[i][j] ≤ 99)) = true then ((spec_l1Has.f k S2 l[i][j]).bind fun t => if t = true then some false else spec_l9Good.l1 k (S2 ++ [l[i][j]]) i ((j + 1 : Nat) : Int) m l) else some false) (fun k => ?_) ?_
          · simp only [spec_l9Good.l1]
            rw [if_pos (by omega), if_pos (by omega), rdR l i hil, if_pos (by omega), if_pos (by omega), hn, l1In_eq2]
            simp only [Option.bind_some, if_pos (show S2.length < 17592186044416 by omega), wrap_succ (show j < 9223372036854775807 by omega)]
          · generalize hnn : l[i][j] = n
            rw [hnn] at *
            cases c4 : (decide (1 ≤ n) && decide (n ≤ 99)) with
            | false =>
              rw [goodRest_no m S2 n _ _ (.inl (fun z => by simp [z.1, z.2] at c4))]
              exact ev_eq (fun k => if_neg (by simp))
            | true =>
              have hn1 : 1 ≤ n ∧ n ≤ 99 := by simpa using c4
              simp only [if_true]
              refine Ev.bind (has_ev S2 n (by omega)) ?_
              cases c5 : decide (n ∈ S2) with
              | true =>
                rw [goodRest_no m S2 n _ _ (.inr c5)]
                simp only [if_true]; exact Ev.now _
              | false =>
                rw [goodRest_yes m S2 n _ _ hn1.1 hn1.2 c5]
                simp only [Bool.false_eq_true, if_false]
                exact ih2 (j + 1) (S2 ++ [n]) (by omega) (by simp; omega)
      refine Ev.step (fun k => ?_) (inner l[i].length 0 S (by omega) (by omega))
      simp only [spec_l9Good.l0]
      rw [if_pos (by omega), if_pos (by omega), rdR l i hil, if_neg c]
      rfl
def yardOk (l : List (List Int)) : Bool := (decide ((1 : Int) ≤ (l.length : Int)) && decide ((l.length : Int) ≤ 6)) && goodRows 4 [] l
def bayOk (h : Int) (l : List (List Int)) : Bool := (decide ((1 : Int) ≤ h) && decide (h ≤ 4)) && (decide ((1 : Int) ≤ (l.length : Int)) && decide ((l.length : Int) ≤ 5)) && goodRows h [] l
theorem implYard_eq (l : List (List Int)) : impl_IsValidYard.f l = some (yardOk l) := rfl
theorem implBay_eq (h : Int) (l : List (List Int)) : impl_IsValidBay.f h l = some (bayOk h l) := rfl
theorem specYard_ev (l : List (List Int)) : Ev (fun k => spec_l5Good.f k l) (yardOk l) := by
  unfold spec_l5Good.f yardOk
  rw [l1In_eq2]
  simp only [Option.bind_some]
  cases c : (decide ((1 : Int) ≤ (l.length : Int)) && decide ((l.length : Int) ≤ 6)) with
  | false => simp only [Bool.false_eq_true, if_false, Bool.false_and]; exact Ev.now _
  | true =>
    have h6 : l.length ≤ 6 := by simp at c; omega
    simp only [if_true, Bool.true_and]
    exact spec_l5Good_loop l h6 l.length 0 [] (by omega) (by simp)
theorem specBay_ev (h : Int) (l : List (List Int)) : Ev (fun k => spec_l9Good.f k h l) (bayOk h l) := by
  unfold spec_l9Good.f bayOk
  simp only [l1In_eq2, Option.bind_some]
  cases c : (decide ((1 : Int) ≤ h) && decide (h ≤ 4)) with
  | false =>
    simp only [Bool.false_eq_true, if_false, Bool.false_and]
    exact Ev.step (f := fun _ => some _) (fun k => by simp only [spec_l9Good.j0]; rw [if_pos trivial]) (Ev.now _)
  | true =>
    have h4 : h ≤ 4 := by simp at c; omega
    simp only [if_true, Bool.true_and]
    cases c2 : (decide ((1 : Int) ≤ (l.length : Int)) && decide ((l.length : Int) ≤ 5)) with
    | false =>
      simp only [Bool.not_false, Bool.false_and]
      exact Ev.step (f := fun _ => some _) (fun k => by simp only [spec_l9Good.j0]; rw [if_pos trivial]) (Ev.now _)
    | true =>
      have h5 : l.length ≤ 5 := by simp at c2; omega
      simp only [Bool.not_true, Bool.true_and]
      refine Ev.step (f := fun k => spec_l9Good.l0 k [] ((0 : Nat) : Int) h l) (fun k => ?_) (by simpa using spec_l9Good_loop h l (by omega) h4 l.length 0 [] (by omega) (by simp))
      simp only [spec_l9Good.j0]
      rw [if_neg (by decide)]
      rfl
-- where a number stands
def idxFrom : Nat → List Int → Int → Int
  | _, [], _ => -1
  | k, x :: r, n => if x = n then (k : Int) else idxFrom (k + 1) r n
def findFrom : Nat → List (List Int) → Int → Int × Int
  | _, [], _ => (-1, -1)
  | i, s :: r, n => if idxFrom 0 s n ≥ 0 then ((i : Int), idxFrom 0 s n) else findFrom (i + 1) r n
theorem index_ev (s : List Int) (n : Int) (hs : s.length ≤ 1048576) : Ev (fun k => slices_Index_int_int.f k s n) (idxFrom 0 s n) := by
  have key : ∀ (d i : Nat), i + d = s.length → Ev (fun k => slices_Index_int_int.l0 k s n (s.length : Int) i) (idxFrom i (s.drop i) n) := by
    intro d
    induction d with
    | zero =>
      intro i hi
      rw [List.drop_of_length_le (by omega)]
      exact Ev.step (f := fun _ => some _) (fun k => by simp only [slices_Index_int_int.l0]; rw [if_neg (by omega)]; rfl) (Ev.now _)
    | succ d ih =>
      intro i hi
      have hil : i < s.length := by omega
      rw [List.drop_eq_getElem_cons hil]
      unfold idxFrom
      by_cases c : s[i] = n
      · rw [if_pos c]
        exact Ev.step (f := fun _ => some _) (fun k => by simp only [slices_Index_int_int.l0]; rw [if_pos (by omega), if_pos (by omega), if_pos (by omega), rd_at s i hil, if_pos c.symm]) (Ev.now _)
      · rw [if_neg c]
        refine Ev.step (fun k => ?_) (ih (i + 1) (by omega))
        simp only [slices_Index_int_int.l0]
        rw [if_pos (by omega), if_pos (by omega), if_pos (by omega), rd_at s i hil, if_neg (fun z => c z.symm), wrap_succ (by omega)]
  exact Ev.congr (f := fun k => slices_Index_int_int.l0 k s n (s.length : Int) ((0 : Nat) : Int)) (fun k => rfl) (by simpa using key s.length 0 (by omega))
def rowsOk (l : List (List Int)) : Prop := l.length ≤ 1048576 ∧ ∀ s ∈ l, s.length ≤ 1048576
theorem place_ev (l : List (List Int)) (n : Int) (hl : rowsOk l) : Ev (fun k => impl_placeOf.f k l n) (findFrom 0 l n) := by
  have key : ∀ (d i : Nat), i + d = l.length → Ev (fun k => impl_placeOf.l0 k n l (l.length : Int) i) (findFrom i (l.drop i) n) := by
    intro d
    induction d with
    | zero =>
      intro i hi
      rw [List.drop_of_length_le (by omega)]
      exact Ev.step (f := fun _ => some _) (fun k => by simp only [impl_placeOf.l0]; rw [if_neg (by omega)]; rfl) (Ev.now _)
    | succ d ih =>
      intro i hi
      have hil : i < l.length := by omega
      rw [List.drop_eq_getElem_cons hil]
      unfold findFrom
      refine Ev.step (f := fun k => (slices_Index_int_int.f k l[i] n).bind fun t => if t ≥ 0 then some ((i : Int), t) else impl_placeOf.l0 k n l (l.length : Int) ((i + 1 : Nat) : Int)) (fun k => ?_) (Ev.bind (index_ev _ n (hl.2 _ (List.getElem_mem hil))) ?_)
      · have := hl.1
        simp only [impl_placeOf.l0]
        rw [if_pos (by omega), if_pos (by omega), if_pos (by omega), rdR l i hil, wrap_succ (by omega)]
      · by_cases c : idxFrom 0 l[i] n ≥ 0
        · simp only [if_pos c]; exact Ev.now _
        · simp only [if_neg c]; exact ih (i + 1) (by omega)
  exact Ev.congr (f := fun k => impl_placeOf.l0 k n l (l.length : Int) ((0 : Nat) : Int)) (fun k => rfl) (by simpa using key l.length 0 (by omega))
theorem spec_l5Find_ev (l : List (List Int)) (n : Int) (hl : rowsOk l) : Ev (fun k => spec_l5Find.f k l n) (findFrom 0 l n) := by
  have key : ∀ (d i : Nat), i + d = l.length → Ev (fun k => spec_l5Find.l0 k n i l) (findFrom i (l.drop i) n) := by
    intro d
    induction d with
    | zero =>
      intro i hi
      rw [List.drop_of_length_le (by omega)]
      exact Ev.step (f := fun _ => some _) (fun k => by simp only [spec_l5Find.l0]; rw [if_neg (by omega)]; rfl) (Ev.now _)
    | succ d ih =>
      intro i hi
      have hil : i < l.length := by omega
      have hs := hl.2 _ (List.getElem_mem hil)
      have hl1 := hl.1
      rw [List.drop_eq_getElem_cons hil]
      unfold findFrom
      have inner : ∀ (e j : Nat), j + e = l[i].length → Ev (fun k => spec_l5Find.l1 k n i j l) (if idxFrom j (l[i].drop j) n ≥ 0 then ((i : Int), idxFrom j (l[i].drop j) n) else findFrom (i + 1) (l.drop (i + 1)) n) := by
        intro e
        induction e with
        | zero =>
          intro j hj
          rw [List.drop_of_length_le (by omega)]
          refine Ev.step (fun k => ?_) (ih (i + 1) (by omega))
          simp only [spec_l5Find.l1]
          rw [if_pos (by omega), if_pos (by omega), rdR l i hil, if_neg (by omega), wrap_succ (by omega)]
        | succ e ih2 =>
          intro j hj
          have hjl : j < l[i].length := by omega
          rw [List.drop_eq_getElem_cons hjl]
          unfold idxFrom
          by_cases c : l[i][j] = n
          · simp only [if_pos c, if_pos (show (j : Int) ≥ 0 by omega)]
            refine Ev.step (f := fun _ => some _) (fun k => ?_) (Ev.now _)
            simp only [spec_l5Find.l1]
            rw [if_pos (by omega), if_pos (by omega), rdR l i hil, if_pos (by omega), if_pos (by omega), rd_at l[i] j hjl, if_pos c]
          · simp only [if_neg c]
            refine Ev.step (fun k => ?_) (ih2 (j + 1) (by omega))
            simp only [spec_l5Find.l1]
            rw [if_pos (by omega), if_pos (by omega), rdR l i hil, if_pos (by omega), if_pos (by omega), rd_at l[i] j hjl, if_neg c, wrap_succ (by omega)]
      refine Ev.step (fun k => ?_) (inner l[i].length 0 (by omega))
      simp only [spec_l5Find.l0]
      rw [if_pos (by omega)]
      rfl
  exact Ev.congr (f := fun k => spec_l5Find.l0 k n ((0 : Nat) : Int) l) (fun k => rfl) (by simpa using key l.length 0 (by omega))
/-- None of a row's numbers stands in a yard. -/
def apart (Y : List (List Int)) (s : List Int) : Bool := s.all fun n => decide ((findFrom 0 Y n).1 < 0)
def termOk (Y : List (List Int)) (h : Int) (S : List (List Int)) : Bool := yardOk Y && bayOk h S && S.all (apart Y)
theorem spec_l24Good_loop (Y : List (List Int)) (h : Int) (S : List (List Int)) (hY : rowsOk Y) (hS : rowsOk S) : ∀ (d i : Nat), i + d = S.length → Ev (fun k => spec_l24Good.l0 k i Y h S) ((S.drop i).all (apart Y)) := by
  have hS1 := hS.1
  intro d
  induction d with
  | zero =>
    intro i hi
    rw [List.drop_of_length_le (by omega)]
    exact Ev.step (f := fun _ => some _) (fun k => by simp only [spec_l24Good.l0]; rw [if_neg (by omega)]; rfl) (Ev.now _)
  | succ d ih =>
    intro i hi
    have hil : i < S.length := by omega
    have hs := hS.2 _ (List.getElem_mem hil)
    rw [List.drop_eq_getElem_cons hil, List.all_cons]
    have inner : ∀ (e j : Nat), j + e = S[i].length → Ev (fun k => spec_l24Good.l1 k i j Y h S) (apart Y (S[i].drop j) && (S.drop (i + 1)).all (apart Y)) := by
      intro e
      induction e with
      | zero =>
        intro j hj
        rw [List.drop_of_length_le (by omega)]
        refine Ev.step (fun k => ?_) (by simpa [apart] using ih (i + 1) (by omega))
        simp only [spec_l24Good.l1]
        rw [if_pos (by omega), if_pos (by omega), rdR S i hil, if_neg (by omega), wrap_succ (by omega)]
        rfl
      | succ e ih2 =>
        intro j hj
        have hjl : j < S[i].length := by omega
        rw [List.drop_eq_getElem_cons hjl]
        refine Ev.step (f := fun k => (spec_l5Find.f k Y S[i][j]).bind fun t => if t.1 ≥ 0 then some false else spec_l24Good.l1 k i ((j + 1 : Nat) : Int) Y h S) (fun k => ?_) (Ev.bind (spec_l5Find_ev Y _ hY) ?_)
        · simp only [spec_l24Good.l1]
          rw [if_pos (by omega), if_pos (by omega), rdR S i hil, if_pos (by omega), if_pos (by omega), rd_at S[i] j hjl, wrap_succ (by omega)]
        · by_cases c : (findFrom 0 Y S[i][j]).1 ≥ 0
          · have e1 : apart Y (S[i][j] :: S[i].drop (j + 1)) = false := by simp only [apart, List.all_cons, decide_eq_false (show ¬ (findFrom 0 Y S[i][j]).1 < 0 by omega), Bool.false_and]
            simp only [if_pos c, e1, Bool.false_and]; exact Ev.now _
          · have e1 : apart Y (S[i][j] :: S[i].drop (j + 1)) = apart Y (S[i].drop (j + 1)) := by simp only [apart, List.all_cons, decide_eq_true (show (findFrom 0 Y S[i][j]).1 < 0 by omega), Bool.true_and]
            simp only [if_neg c, e1]; exact ih2 (j + 1) (by omega)
    refine Ev.step (fun k => ?_) (inner S[i].length 0 (by omega))
    simp only [spec_l24Good.l0]
    rw [if_pos (by omega)]
    rfl
theorem impl_IsValidTerminal_loop (Y : List (List Int)) (h : Int) (S : List (List Int)) (hY : rowsOk Y) (hS : rowsOk S) : ∀ (d i : Nat), i + d = S.length → Ev (fun k => impl_IsValidTerminal.l0 k S (S.length : Int) i Y h S) ((S.drop i).all (apart Y)) := by
  have hS1 := hS.1
  intro d
  induction d with
  | zero =>
    intro i hi
    rw [List.drop_of_length_le (by omega)]
    exact Ev.step (f := fun _ => some _) (fun k => by simp only [impl_IsValidTerminal.l0]; rw [if_neg (by omega)]; rfl) (Ev.now _)
  | succ d ih =>
    intro i hi
    have hil : i < S.length := by omega
    have hs := hS.2 _ (List.getElem_mem hil)
    rw [List.drop_eq_getElem_cons hil, List.all_cons]
    have inner : ∀ (e j : Nat), j + e = S[i].length → Ev (fun k => impl_IsValidTerminal.l1 k S (S.length : Int) i S[i] (S[i].length : Int) j Y h S) (apart Y (S[i].drop j) && (S.drop (i + 1)).all (apart Y)) := by
      intro e
      induction e with
      | zero =>
        intro j hj
        rw [List.drop_of_length_le (by omega)]
        refine Ev.step (fun k => ?_) (by simpa [apart] using ih (i + 1) (by omega))
        simp only [impl_IsValidTerminal.l1]
        rw [if_neg (by omega), wrap_succ (by omega)]
        rfl
      | succ e ih2 =>
        intro j hj
        have hjl : j < S[i].length := by omega
        rw [List.drop_eq_getElem_cons hjl]
        refine Ev.step (f := fun k => (impl_placeOf.f k Y S[i][j]).bind fun t => if t.1 ≥ 0 then some false else impl_IsValidTerminal.l1 k S (S.length : Int) i S[i] (S[i].length : Int) ((j + 1 : Nat) : Int) Y h S) (fun k => ?_) (Ev.bind (place_ev Y _ hY) ?_)
        · simp only [impl_IsValidTerminal.l1]
          rw [if_pos (by omega), if_pos (by omega), if_pos (by omega), rd_at S[i] j hjl, wrap_succ (by omega)]
        · by_cases c : (findFrom 0 Y S[i][j]).1 ≥ 0
          · have e1 : apart Y (S[i][j] :: S[i].drop (j + 1)) = false := by simp only [apart, List.all_cons, decide_eq_false (show ¬ (findFrom 0 Y S[i][j]).1 < 0 by omega), Bool.false_and]
            simp only [if_pos c, e1, Bool.false_and]; exact Ev.now _
          · have e1 : apart Y (S[i][j] :: S[i].drop (j + 1)) = apart Y (S[i].drop (j + 1)) := by simp only [apart, List.all_cons, decide_eq_true (show (findFrom 0 Y S[i][j]).1 < 0 by omega), Bool.true_and]
            simp only [if_neg c, e1]; exact ih2 (j + 1) (by omega)
    refine Ev.step (fun k => ?_) (inner S[i].length 0 (by omega))
    simp only [impl_IsValidTerminal.l0]
    rw [if_pos (by omega), if_pos (by omega), if_pos (by omega), rdR S i hil]
    rfl
theorem specTerm_ev (Y : List (List Int)) (h : Int) (S : List (List Int)) (hY : rowsOk Y) (hS : rowsOk S) : Ev (fun k => spec_l24Good.f k Y h S) (termOk Y h S) := by
  have stop : Ev (fun k => spec_l24Good.j0 k true Y h S) false := Ev.step (f := fun _ => some _) (fun k => by simp only [spec_l24Good.j0]; rw [if_pos trivial]) (Ev.now _)
  unfold spec_l24Good.f termOk
  refine Ev.bind (specYard_ev Y) ?_
  cases c : yardOk Y with
  | false => simp only [Bool.false_eq_true, if_false, Bool.false_and]; exact stop
  | true =>
    simp only [if_true, Bool.true_and]
    refine Ev.bind (specBay_ev h S) ?_
    cases c2 : bayOk h S with
    | false => simp only [Bool.not_false, Bool.false_and]; exact stop
    | true =>
      simp only [Bool.not_true, Bool.true_and]
      refine Ev.step (fun k => ?_) (by simpa using spec_l24Good_loop Y h S hY hS S.length 0 (by omega))
      simp only [spec_l24Good.j0]
      rw [if_neg (by decide)]
theorem implTerm_ev (Y : List (List Int)) (h : Int) (S : List (List Int)) (hY : rowsOk Y) (hS : rowsOk S) : Ev (fun k => impl_IsValidTerminal.f k Y h S) (termOk Y h S) := by
  have stop : Ev (fun k => impl_IsValidTerminal.j0 k true Y h S) false := Ev.step (f := fun _ => some _) (fun k => by simp only [impl_IsValidTerminal.j0]; rw [if_pos trivial]) (Ev.now _)
  unfold impl_IsValidTerminal.f termOk
  rw [implYard_eq]
  simp only [Option.bind_some]
  cases c : yardOk Y with
  | false => simp only [Bool.false_eq_true, if_false, Bool.false_and]; exact stop
  | true =>
    simp only [if_true, Bool.true_and]
    rw [implBay_eq]
    simp only [Option.bind_some]
    cases c2 : bayOk h S with
    | false => simp only [Bool.not_false, Bool.false_and]; exact stop
    | true =>
      simp only [Bool.not_true, Bool.true_and]
      refine Ev.step (fun k => ?_) (by simpa using impl_IsValidTerminal_loop Y h S hY hS S.length 0 (by omega))
      simp only [impl_IsValidTerminal.j0]
      rw [if_neg (by decide)]
theorem szTerm_ev (Y : List (List Int)) (h : Int) (S : List (List Int)) (hY : Y.length ≤ 4611686018427387904) (hYr : ∀ s ∈ Y, s.length ≤ 4611686018427387904) (hS : S.length ≤ 4611686018427387904) (hSr : ∀ s ∈ S, s.length ≤ 4611686018427387904) :
    ∃ r, Ev (fun k => laws_szTerminal.f k Y h S 1048576) r ∧ (¬ r < 0 → rowsOk Y ∧ rowsOk S) := by
  unfold laws_szTerminal.f laws_szYard.f laws_szBay.f
  obtain ⟨r, hr, hq⟩ := szIntSS_ev Y 1048576 (by omega) (by omega) hY hYr
  by_cases c : r < 0
  · refine ⟨-1, Ev.bind (Ev.bind hr (r := -1) ?_) ?_, fun z => absurd (by decide) z⟩
    · simp only [if_pos c]; exact Ev.now _
    · simp only [if_pos (show (-1 : Int) < 0 by decide)]; exact Ev.now _
  · rcases hq with q | ⟨q1, q2, q3, q4⟩
    · exact absurd q c
    obtain ⟨r2, hr2, hq2⟩ := szIntSS_ev S r q1 q2 hS hSr
    have hYo : rowsOk Y := ⟨by omega, fun s hs => by have := q4 s hs; omega⟩
    by_cases c2 : r2 < 0
    · refine ⟨-1, Ev.bind (Ev.bind hr (r := r) ?_) ?_, fun z => absurd (by decide) z⟩
      · simp only [if_neg c]; exact Ev.now _
      · simp only [if_neg c]
        refine Ev.bind (Ev.bind hr2 (r := -1) ?_) ?_
        · simp only [if_pos c2]; exact Ev.now _
        · simp only [if_pos (show (-1 : Int) < 0 by decide)]; exact Ev.now _
    · rcases hq2 with p | ⟨p1, p2, p3, p4⟩
      · exact absurd p c2
      refine ⟨r2, Ev.bind (Ev.bind hr (r := r) ?_) ?_, fun _ => ⟨hYo, by omega, fun s hs => by have := p4 s hs; omega⟩⟩
      · simp only [if_neg c]; exact Ev.now _
      · simp only [if_neg c]
        refine Ev.bind (Ev.bind hr2 (r := r2) ?_) ?_
        · simp only [if_neg c2]; exact Ev.now _
        · simp only [if_neg c2]; exact Ev.now _
theorem toTerm_ev (Y : List (List Int)) (h : Int) (S : List (List Int)) (hY : rowsOk Y) (hS : rowsOk S) : Ev (fun k => laws_toTerminal.f k Y h S) (Y, h, S) := by
  unfold laws_toTerminal.f laws_toYard.f laws_toBay.f
  exact Ev.bind (Ev.bind (toIntSS_ev Y hY.1 hY.2) (Ev.now _)) (Ev.bind (Ev.bind (toIntSS_ev S hS.1 hS.2) (Ev.now _)) (Ev.now _))
theorem eqTerm_ev (Y : List (List Int)) (h : Int) (S : List (List Int)) (hY : rowsOk Y) (hS : rowsOk S) : Ev (fun k => laws_eqTerminal.f k Y h S Y h S) true := by
  unfold laws_eqTerminal.f laws_eqYard.f laws_eqBay.f
  refine Ev.bind (Ev.bind (eqIntSS_ev Y hY.1 hY.2) (r := true) (by simp only [if_true]; exact Ev.now _)) ?_
  simp only [if_true]
  refine Ev.bind (Ev.bind (eqIntSS_ev S hS.1 hS.2) (r := true) (by simp only [if_true]; exact Ev.now _)) ?_
  simp only [if_true]
  exact Ev.now _
end Go.Proofs.Ytcnmngiaebgjkaa.X


namespace Go.Proofs.Ytcnmngiaebgjkaa.X
open Go.RowKit Go.Proofs.YtcnmngiaebgjkaaW.PrintWords Go.Proofs.YtcnmngiaebgjkaaL
set_option linter.unusedVariables false
set_option linter.unusedSimpArgs false
def cntF : Nat → Nat → List Int
  | _, 0 => []
  | a, n + 1 => (a : Int) :: cntF (a + 1) n
theorem rd_mid (p : List Int) (x : Int) (r : List Int) : rd (p ++ x :: r) (p.length : Int) = x := by simp [rd]
theorem set_mid {α : Type} (p : List α) (x y : α) (r : List α) : (p ++ x :: r).set p.length y = (p ++ [y]) ++ r := by
  rw [List.set_append_right _ _ (Nat.le_refl _), Nat.sub_self, List.set_cons_zero, List.append_assoc]; rfl
theorem rdL_mid (p : List (List Int)) (x : List Int) (r : List (List Int)) : rd_L1 (p ++ x :: r) (p.length : Int) = x := by simp [rd_L1]
theorem markIntS_loop : ∀ (r p : List Int) (a : Nat), a + r.length ≤ 4611686018427387904 → p.length + r.length ≤ 4611686018427387904 →
    Ev (fun k => laws_markIntS.l0 k (p ++ r) (a : Int) (p.length : Int)) (((a + r.length : Nat) : Int), p ++ cntF a r.length)
  | [], p, a, _, _ => Ev.step (f := fun _ => some _) (fun k => by simp only [laws_markIntS.l0]; rw [if_neg (by simp)]; simp [cntF]) (Ev.now _)
  | x :: r, p, a, h, h2 => by
    rw [List.length_cons] at h h2
    have ih := markIntS_loop r (p ++ [(a : Int)]) (a + 1) (by omega) (by rw [List.length_append]; simp; omega)
    rw [List.length_cons, cntF, show a + (r.length + 1) = a + 1 + r.length by omega, show p ++ (a : Int) :: cntF (a + 1) r.length = p ++ [(a : Int)] ++ cntF (a + 1) r.length by simp]
    refine Ev.step (fun k => ?_) ih
    simp only [laws_markIntS.l0]
    rw [if_pos (by simp; omega), if_pos (by omega), Int.toNat_natCast, set_mid, wrap_id (x := (a : Int) + 1) (by omega) (by omega), wrap_succ (by omega), List.length_append]
    rfl
theorem markIntS_at (l : List Int) (a : Nat) (h : a + l.length ≤ 4611686018427387904) : Ev (fun k => laws_markIntS.f k l (a : Int)) (((a + l.length : Nat) : Int), cntF a l.length) :=
  Ev.congr (fun k => rfl) (markIntS_loop l [] a h (by simp; omega))
theorem heldIntS_loop : ∀ (n : Nat) (p : List Int) (a : Nat), a + n ≤ 4611686018427387904 → p.length + n ≤ 4611686018427387904 →
    Ev (fun k => laws_heldIntS.l0 k (p ++ cntF a n) (a : Int) (p.length : Int)) ((a + n : Nat) : Int)
  | 0, p, a, _, _ => Ev.step (f := fun _ => some _) (fun k => by simp only [laws_heldIntS.l0]; rw [if_neg (by simp [cntF])]; simp) (Ev.now _)
  | n + 1, p, a, h, h2 => by
    have ih := heldIntS_loop n (p ++ [(a : Int)]) (a + 1) (by omega) (by rw [List.length_append]; simp; omega)
    rw [show a + (n + 1) = a + 1 + n by omega]
    refine Ev.step (fun k => ?_) ih
    have e : p ++ cntF a (n + 1) = p ++ (a : Int) :: cntF (a + 1) n := rfl
    simp only [laws_heldIntS.l0]
    rw [e, if_pos (by simp; omega), if_pos (by omega), rd_mid, if_pos rfl, wrap_id (x := (a : Int) + 1) (by omega) (by omega), wrap_succ (by omega), List.length_append, List.append_assoc]
    rfl
theorem heldIntS_at (n a : Nat) (h : a + n ≤ 4611686018427387904) : Ev (fun k => laws_heldIntS.f k (cntF a n) (a : Int)) ((a + n : Nat) : Int) :=
  Ev.congr (fun k => rfl) (heldIntS_loop n [] a h (by simp; omega))
def total : List (List Int) → Nat
  | [] => 0
  | r :: l => r.length + total l
def marksFrom : List (List Int) → Nat → List (List Int)
  | [], _ => []
  | r :: l, a => cntF a r.length :: marksFrom l (a + r.length)
theorem markIntSS_loop : ∀ (r p : List (List Int)) (a : Nat), a + total r ≤ 4611686018427387904 → p.length + r.length ≤ 4611686018427387904 →
    Ev (fun k => laws_markIntSS.l0 k (p ++ r) (a : Int) (p.length : Int)) (((a + total r : Nat) : Int), p ++ marksFrom r a)
  | [], p, a, _, _ => Ev.step (f := fun _ => some _) (fun k => by simp only [laws_markIntSS.l0]; rw [if_neg (by simp)]; simp [total, marksFrom]) (Ev.now _)
  | x :: r, p, a, h, h2 => by
    rw [List.length_cons] at h2
    rw [total] at h
    have ih := markIntSS_loop r (p ++ [cntF a x.length]) (a + x.length) (by omega) (by rw [List.length_append]; simp; omega)
    rw [total, marksFrom, show a + (x.length + total r) = a + x.length + total r by omega, show p ++ cntF a x.length :: marksFrom r (a + x.length) = p ++ [cntF a x.length] ++ marksFrom r (a + x.length) by simp]
    refine Ev.step (f := fun k => (laws_markIntS.f k x (a : Int)).bind fun t => laws_markIntSS.l0 k ((p ++ x :: r).set p.length t.2) t.1 ((p.length + 1 : Nat) : Int)) (fun k => ?_) (Ev.bind (markIntS_at x a (by omega)) ?_)
    · simp only [laws_markIntSS.l0]
      rw [if_pos (by simp; omega), if_pos (by omega), rdL_mid, Int.toNat_natCast, wrap_succ (by omega)]
    · simp only [set_mid]
      rw [List.length_append] at ih
      exact ih
theorem markIntSS_at (l : List (List Int)) (a : Nat) (h : a + total l ≤ 4611686018427387904) (h2 : l.length ≤ 4611686018427387904) : Ev (fun k => laws_markIntSS.f k l (a : Int)) (((a + total l : Nat) : Int), marksFrom l a) :=
  Ev.congr (fun k => rfl) (markIntSS_loop l [] a h (by simp; omega))
theorem heldIntSS_loop : ∀ (r p : List (List Int)) (a : Nat), a + total r ≤ 4611686018427387904 → p.length + r.length ≤ 4611686018427387904 →
    Ev (fun k => laws_heldIntSS.l0 k (p ++ marksFrom r a) (a : Int) (p.length : Int)) ((a + total r : Nat) : Int)
  | [], p, a, _, _ => Ev.step (f := fun _ => some _) (fun k => by simp only [laws_heldIntSS.l0]; rw [if_neg (by simp [marksFrom])]; simp [total]) (Ev.now _)
  | x :: r, p, a, h, h2 => by
    rw [List.length_cons] at h2
    rw [total] at h
    have ih := heldIntSS_loop r (p ++ [cntF a x.length]) (a + x.length) (by omega) (by rw [List.length_append]; simp; omega)
    rw [total, show a + (x.length + total r) = a + x.length + total r by omega]
    have e : p ++ marksFrom (x :: r) a = p ++ cntF a x.length :: marksFrom r (a + x.length) := rfl
    refine Ev.step (f := fun k => (laws_heldIntS.f k (cntF a x.length) (a : Int)).bind fun t => if t < 0 then some (-1) else laws_heldIntSS.l0 k (p ++ cntF a x.length :: marksFrom r (a + x.length)) t ((p.length + 1 : Nat) : Int)) (fun k => ?_) (Ev.bind (heldIntS_at x.length a (by omega)) ?_)
    · simp only [laws_heldIntSS.l0]
      rw [e, if_pos (by simp; omega), if_pos (by omega), rdL_mid, wrap_succ (by omega)]
    · rw [List.length_append, List.append_assoc] at ih
      exact Ev.congr (fun k => if_neg (by omega)) ih
theorem heldIntSS_at (l : List (List Int)) (a : Nat) (h : a + total l ≤ 4611686018427387904) (h2 : l.length ≤ 4611686018427387904) : Ev (fun k => laws_heldIntSS.f k (marksFrom l a) (a : Int)) ((a + total l : Nat) : Int) :=
  Ev.congr (fun k => rfl) (heldIntSS_loop l [] a h (by simp; omega))
end Go.Proofs.Ytcnmngiaebgjkaa.X


namespace Go.Proofs.Ytcnmngiaebgjkaa.X
open Go.RowKit Go.Proofs.YtcnmngiaebgjkaaW.PrintWords Go.Proofs.YtcnmngiaebgjkaaL
set_option linter.unusedVariables false
set_option linter.unusedSimpArgs false
theorem clone_eq (s : List Int) (h : s.length ≤ 1048576) : slices_Clone_int_int.f s = some s := if_pos (by omega)
theorem l1Own_eq (s : List Int) (h : s.length ≤ 1048576) : spec_l1Own.f s = some s := by
  unfold spec_l1Own.f
  simp only [Option.bind_some, List.length_nil, List.nil_append]
  exact if_pos (by omega)
theorem implOwnYard_ev (l : List (List Int)) (hl : rowsOk l) : Ev (fun k => impl_ownYard.f k l) l := by
  have key : ∀ (d i : Nat), i + d = l.length → Ev (fun k => impl_ownYard.l0 k l (l.length : Int) i (l.take i)) l := by
    intro d
    induction d with
    | zero =>
      intro i hi
      refine Ev.step (f := fun _ => some l) (fun k => ?_) (Ev.now _)
      simp only [impl_ownYard.l0]; rw [if_neg (by omega), List.take_of_length_le (by omega)]
    | succ d ih =>
      intro i hi
      have hil : i < l.length := by omega
      have hl1 := hl.1
      refine Ev.step (fun k => ?_) (ih (i + 1) (by omega))
      simp only [impl_ownYard.l0]
      rw [if_pos (by omega), if_pos (by omega), if_pos (by omega), rdR l i hil, clone_eq _ (hl.2 _ (List.getElem_mem hil)), wrap_succ (by omega), List.take_succ_eq_append_getElem hil]
      simp only [Option.bind_some]
      rw [if_pos (by rw [List.length_take]; omega)]
  exact Ev.congr (fun k => rfl) (key l.length 0 (by omega))
theorem implOwnBay_ev (h : Int) (l : List (List Int)) (hl : rowsOk l) : Ev (fun k => impl_ownBay.f k h l) (h, l) := by
  have key : ∀ (d i : Nat), i + d = l.length → Ev (fun k => impl_ownBay.l0 k l (l.length : Int) i h (l.take i)) (h, l) := by
    intro d
    induction d with
    | zero =>
      intro i hi
      refine Ev.step (f := fun _ => some (h, l)) (fun k => ?_) (Ev.now _)
      simp only [impl_ownBay.l0]; rw [if_neg (by omega), List.take_of_length_le (by omega)]
    | succ d ih =>
      intro i hi
      have hil : i < l.length := by omega
      have hl1 := hl.1
      refine Ev.step (fun k => ?_) (ih (i + 1) (by omega))
      simp only [impl_ownBay.l0]
      rw [if_pos (by omega), if_pos (by omega), if_pos (by omega), rdR l i hil, clone_eq _ (hl.2 _ (List.getElem_mem hil)), wrap_succ (by omega), List.take_succ_eq_append_getElem hil]
      simp only [Option.bind_some]
      rw [if_pos (by rw [List.length_take]; omega)]
  exact Ev.congr (fun k => rfl) (key l.length 0 (by omega))
theorem specOwnYard_ev (l : List (List Int)) (hl : rowsOk l) : Ev (fun k => spec_l5Own.f k l) l := by
  have key : ∀ (d i : Nat), i + d = l.length → Ev (fun k => spec_l5Own.l0 k i l (l.take i)) l := by
    intro d
    induction d with
    | zero =>
      intro i hi
      refine Ev.step (f := fun _ => some l) (fun k => ?_) (Ev.now _)
      simp only [spec_l5Own.l0]; rw [if_neg (by omega), List.take_of_length_le (by omega)]
    | succ d ih =>
      intro i hi
      have hil : i < l.length := by omega
      have hl1 := hl.1
      refine Ev.step (fun k => ?_) (ih (i + 1) (by omega))
      simp only [spec_l5Own.l0]
      rw [if_pos (by omega), if_pos (by omega), rdR l i hil, l1Own_eq _ (hl.2 _ (List.getElem_mem hil)), wrap_succ (by omega), List.take_succ_eq_append_getElem hil]
      simp only [Option.bind_some]
      rw [if_pos (by rw [List.length_take]; omega)]
  exact Ev.congr (fun k => rfl) (key l.length 0 (by omega))
theorem specOwnBay_ev (h : Int) (l : List (List Int)) (hl : rowsOk l) : Ev (fun k => spec_l9Own.f k h l) (h, l) := by
  have key : ∀ (d i : Nat), i + d = l.length → Ev (fun k => spec_l9Own.l0 k i h l h (l.take i)) (h, l) := by
    intro d
    induction d with
    | zero =>
      intro i hi
      refine Ev.step (f := fun _ => some (h, l)) (fun k => ?_) (Ev.now _)
      simp only [spec_l9Own.l0]; rw [if_neg (by omega), List.take_of_length_le (by omega)]
    | succ d ih =>
      intro i hi
      have hil : i < l.length := by omega
      have hl1 := hl.1
      refine Ev.step (fun k => ?_) (ih (i + 1) (by omega))
      simp only [spec_l9Own.l0]
      rw [if_pos (by omega), if_pos (by omega), rdR l i hil, l1Own_eq _ (hl.2 _ (List.getElem_mem hil)), wrap_succ (by omega), List.take_succ_eq_append_getElem hil]
      simp only [Option.bind_some]
      rw [if_pos (by rw [List.length_take]; omega)]
  exact Ev.congr (fun k => rfl) (key l.length 0 (by omega))
theorem implOwnTerm_ev (Y : List (List Int)) (h : Int) (S : List (List Int)) (hY : rowsOk Y) (hS : rowsOk S) : Ev (fun k => impl_ownTerminal.f k Y h S) (Y, h, S) :=
  Ev.bind (implOwnYard_ev Y hY) (Ev.bind (implOwnBay_ev h S hS) (Ev.now _))
theorem specOwnTerm_ev (Y : List (List Int)) (h : Int) (S : List (List Int)) (hY : rowsOk Y) (hS : rowsOk S) : Ev (fun k => spec_l24Own.f k Y h S) (Y, h, S) :=
  Ev.bind (specOwnYard_ev Y hY) (Ev.bind (specOwnBay_ev h S hS) (Ev.now _))
def termN (Y S : List (List Int)) : Nat := total Y + total S
theorem markTerm_at (Y : List (List Int)) (h : Int) (S : List (List Int)) (a : Nat) (ht : a + termN Y S ≤ 4611686018427387904) (hY : Y.length ≤ 4611686018427387904) (hS : S.length ≤ 4611686018427387904) :
    Ev (fun k => laws_markTerminal.f k Y h S (a : Int)) (((a + termN Y S : Nat) : Int), marksFrom Y a, marksFrom S (a + total Y)) := by
  unfold termN at *
  rw [show a + (total Y + total S) = a + total Y + total S by omega]
  refine Ev.bind (markIntSS_at Y a (by omega) hY) ?_
  refine Ev.bind (markIntSS_at S (a + total Y) (by omega) hS) ?_
  exact Ev.now _
theorem heldTerm_at (Y : List (List Int)) (h : Int) (S : List (List Int)) (a : Nat) (ht : a + termN Y S ≤ 4611686018427387904) (hY : Y.length ≤ 4611686018427387904) (hS : S.length ≤ 4611686018427387904) :
    Ev (fun k => laws_heldTerminal.f k (marksFrom Y a) h (marksFrom S (a + total Y)) (a : Int)) ((a + termN Y S : Nat) : Int) := by
  unfold termN at *
  have hy : Ev (fun k => laws_heldYard.f k (marksFrom Y a) (a : Int)) ((a + total Y : Nat) : Int) := by
    refine Ev.bind (heldIntSS_at Y a (by omega) hY) ?_
    exact ev_eq (fun k => if_neg (by omega))
  have hb : Ev (fun k => laws_heldBay.f k h (marksFrom S (a + total Y)) ((a + total Y : Nat) : Int)) ((a + total Y + total S : Nat) : Int) := by
    refine Ev.bind (heldIntSS_at S (a + total Y) (by omega) hS) ?_
    exact ev_eq (fun k => if_neg (by omega))
  rw [show a + (total Y + total S) = a + total Y + total S by omega]
  refine Ev.bind hy (Ev.congr (f := fun k => (laws_heldBay.f k h (marksFrom S (a + total Y)) ((a + total Y : Nat) : Int)).bind fun t => if t < 0 then some (-1) else some t) (fun k => if_neg (by omega)) (Ev.bind hb ?_))
  exact ev_eq (fun k => if_neg (by omega))
theorem goodRows_small (m : Int) : ∀ (l : List (List Int)) (S : List Int), goodRows m S l = true → ∀ s ∈ l, (s.length : Int) ≤ m
  | [], _, _ => by simp
  | s :: r, S, h => by
    unfold goodRows at h
    by_cases c : (s.length : Int) > m
    · rw [if_pos c] at h; cases h
    · rw [if_neg c] at h
      cases g : goodRow S s with
      | none => rw [g] at h; cases h
      | some S2 =>
        rw [g] at h
        intro x hx
        rcases List.mem_cons.1 hx with rfl | hx
        · omega
        · exact goodRows_small m r S2 h x hx
theorem total_le (m : Nat) : ∀ (l : List (List Int)), (∀ s ∈ l, s.length ≤ m) → total l ≤ m * l.length
  | [], _ => by simp [total]
  | r :: l, h => by
    have := total_le m l (fun s hs => h s (by simp [hs])); have h1 := h r (by simp)
    rw [total, List.length_cons, Nat.mul_succ]; omega
theorem term_small (Y : List (List Int)) (h : Int) (S : List (List Int)) (ht : termOk Y h S = true) : Y.length ≤ 6 ∧ S.length ≤ 5 ∧ h ≤ 4 ∧ (∀ s ∈ Y, s.length ≤ 4) ∧ (∀ s ∈ S, s.length ≤ 4) ∧ termN Y S ≤ 44 := by
  unfold termOk yardOk bayOk at ht
  simp only [Bool.and_eq_true, decide_eq_true_eq] at ht
  obtain ⟨⟨⟨⟨a1, a2⟩, a3⟩, ⟨⟨⟨b0, b1⟩, b2, b3⟩, b4⟩⟩, _⟩ := ht
  have h1 : ∀ s ∈ Y, s.length ≤ 4 := fun s hs => by have := goodRows_small 4 Y [] a3 s hs; omega
  have h2 : ∀ s ∈ S, s.length ≤ 4 := fun s hs => by have := goodRows_small h S [] b4 s hs; omega
  have t1 := total_le 4 Y h1
  have t2 := total_le 4 S h2
  exact ⟨by omega, by omega, by omega, h1, h2, by unfold termN; omega⟩
end Go.Proofs.Ytcnmngiaebgjkaa.X


namespace Go.Proofs.Ytcnmngiaebgjkaa.Pure
open Go.RowKit Go.Proofs.YtcnmngiaebgjkaaW.PrintWords Go.Proofs.YtcnmngiaebgjkaaL Go.Proofs.Ytcnmngiaebgjkaa.X Go.Proofs.YtcnmngiaebgjkaaOwn
set_option linter.unusedVariables false
set_option linter.unusedSimpArgs false
def conOf (Y : List (List Int)) (h : Int) (S : List (List Int)) : List (List Int) × Int × List (List Int) × ByteArray × ByteArray × Int × Bool := if termOk Y h S = true then (Y, h, S, ⟨#[]⟩, ⟨#[]⟩, 0, true) else ([], 0, [], ⟨#[]⟩, ⟨#[]⟩, 0, false)
theorem implCon_ev (Y : List (List Int)) (h : Int) (S : List (List Int)) (hY : rowsOk Y) (hS : rowsOk S) : Ev (fun k => impl_NewConsole.f k Y h S) (conOf Y h S) := by
  refine Ev.bind (implTerm_ev Y h S hY hS) ?_
  unfold conOf
  by_cases c : termOk Y h S = true
  · rw [if_pos c]
    exact Ev.congr (fun k => if_pos c) (Ev.bind (implOwnTerm_ev Y h S hY hS) (Ev.now _))
  · rw [if_neg c]
    exact ev_eq (fun k => if_neg c)
theorem specCon_ev (Y : List (List Int)) (h : Int) (S : List (List Int)) (hY : rowsOk Y) (hS : rowsOk S) : Ev (fun k => spec_NewConsole.f k Y h S) (conOf Y h S) := by
  refine Ev.bind (specTerm_ev Y h S hY hS) ?_
  unfold conOf
  by_cases c : termOk Y h S = true
  · rw [if_pos c]
    exact Ev.congr (fun k => if_pos c) (Ev.bind (specOwnTerm_ev Y h S hY hS) (Ev.now _))
  · rw [if_neg c]
    exact ev_eq (fun k => if_neg c)
theorem eqCon_ev (Y : List (List Int)) (h : Int) (S : List (List Int)) (a b : ByteArray) (n : Int) (hY : rowsOk Y) (hS : rowsOk S) : Ev (fun k => laws_eqConsole.f k Y h S a b n Y h S a b n) true := by
  refine Ev.bind (eqTerm_ev Y h S hY hS) ?_
  simp only [laws_eqLog.f, if_true, Option.bind_some]
  exact Ev.now _
theorem conOf_ok (Y : List (List Int)) (h : Int) (S : List (List Int)) : rowsOk (conOf Y h S).1 ∧ rowsOk (conOf Y h S).2.2.1 ∧ termN (conOf Y h S).1 (conOf Y h S).2.2.1 ≤ 44 := by
  unfold conOf
  by_cases c : termOk Y h S = true
  · rw [if_pos c]
    obtain ⟨h1, h2, h3, h4, h5, h6⟩ := term_small Y h S c
    exact ⟨⟨by show Y.length ≤ _; omega, fun s hs => by have := h4 s hs; omega⟩, ⟨by show S.length ≤ _; omega, fun s hs => by have := h5 s hs; omega⟩, h6⟩
  · rw [if_neg c]
    exact ⟨⟨by simp, by simp⟩, ⟨by simp, by simp⟩, by simp [termN, total]⟩
theorem heldCon_at (Y : List (List Int)) (h : Int) (S : List (List Int)) (a b : ByteArray) (n : Int) (m : Nat) (ht : m + termN Y S ≤ 4611686018427387904) (hY : Y.length ≤ 4611686018427387904) (hS : S.length ≤ 4611686018427387904) :
    Ev (fun k => laws_heldConsole.f k (marksFrom Y m) h (marksFrom S (m + total Y)) a b n (m : Int)) ((m + termN Y S : Nat) : Int) := by
  refine Ev.bind (heldTerm_at Y h S m ht hY hS) ?_
  exact ev_eq (fun k => if_neg (by omega))
theorem FnExactNewConsole : OFnExactNewConsole.Pure := by
  intro x hx
  refine ev_rounds ?_
  obtain ⟨h1, h0, h2⟩ := hx
  obtain ⟨r, hr, hb⟩ := szTerm_ev x.f0.f0 x.f1.f0 x.f1.f1 (by have := h1.1; omega) (fun s hs => by have := (h1.2.2 s hs).1; omega) (by have := h2.1; omega) (fun s hs => by have := (h2.2.2 s hs).1; omega)
  unfold laws_FnExactNewConsole.f
  refine Ev.bind hr ?_
  by_cases c : r < 0
  · simp only [if_pos c]; exact Ev.now _
  · obtain ⟨hY, hS⟩ := hb c
    generalize x.f0.f0 = Y at *
    generalize x.f1.f0 = hh at *
    generalize x.f1.f1 = S at *
    have hT := toTerm_ev Y hh S hY hS
    obtain ⟨g1, g2, g3⟩ := conOf_ok Y hh S
    have hc := eqCon_ev (conOf Y hh S).1 (conOf Y hh S).2.1 (conOf Y hh S).2.2.1 (conOf Y hh S).2.2.2.1 (conOf Y hh S).2.2.2.2.1 (conOf Y hh S).2.2.2.2.2.1 g1 g2
    refine ev_past c ?_
    refine Ev.bind hT ?_
    refine Ev.bind (specCon_ev Y hh S hY hS) ?_
    refine Ev.bind hT ?_
    refine Ev.bind (implCon_ev Y hh S hY hS) ?_
    refine Ev.bind hc (ev_if rfl (ev_if rfl ?_))
    refine Ev.bind hT ?_
    refine Ev.bind (eqTerm_ev Y hh S hY hS) (ev_if rfl ?_)
    have tY := total_le 1048576 Y hY.2
    have tS := total_le 1048576 S hS.2
    have lY := Nat.mul_le_mul_left 1048576 hY.1
    have lS := Nat.mul_le_mul_left 1048576 hS.1
    refine Ev.bind (markTerm_at Y hh S 1 (by unfold termN; omega) (by have := hY.1; omega) (by have := hS.1; omega)) ?_
    refine Ev.bind hc (ev_if rfl (ev_if (by show ¬ ((1 + termN Y S : Nat) : Int) < 0; omega) (ev_if rfl ?_)))
    refine Ev.bind (markTerm_at (conOf Y hh S).1 (conOf Y hh S).2.1 (conOf Y hh S).2.2.1 1 (by omega) (by have := g1.1; omega) (by have := g2.1; omega)) ?_
    have hd := heldCon_at (conOf Y hh S).1 (conOf Y hh S).2.1 (conOf Y hh S).2.2.1 (conOf Y hh S).2.2.2.1 (conOf Y hh S).2.2.2.2.1 (conOf Y hh S).2.2.2.2.2.1 1 (by omega) (by have := g1.1; omega) (by have := g2.1; omega)
    refine Ev.bind hd (ev_if (by omega) (ev_if rfl ?_))
    refine Ev.bind hT ?_
    refine Ev.bind (implCon_ev Y hh S hY hS) ?_
    refine Ev.bind hc (ev_if rfl (ev_if rfl ?_))
    refine Ev.bind hd (ev_if (by omega) (ev_if rfl ?_))
    exact Ev.now _
end Go.Proofs.Ytcnmngiaebgjkaa.Pure



namespace Go.Proofs.Ytcnmngiaebgjkaa.fnExactNewConsole
open Go.ChangeShapes Go.WideShapes Go.ChangeAt Go.RowKit
open Go.ChangeMaps (open_string shut_string)
open Go.Joins
open Go.Proofs.YtcnmngiaebgjkaaW.PrintWords Go.Proofs.YtcnmngiaebgjkaaW.PrintLast Go.Proofs.YtcnmngiaebgjkaaW.PrintMore
open Go.Proofs.YtcnmngiaebgjkaaZ Go.Proofs.Ytcnmngiaebgjkaa.X Go.Proofs.Ytcnmngiaebgjkaa.X.OFnExactNewConsole
set_option linter.unusedVariables false
set_option linter.unusedSimpArgs false
theorem own : ownKnob Try.prog.godebug = none := by kernel_rfl
theorem laidOut : laidOutB Try.prog = true := by kernel_rfl
set_option maxRecDepth 100000 in
set_option maxHeartbeats 2000000 in
theorem lifted (os : Os) (started : os.Started) (H : Type) (enc : TypeId × Value → H) :
    ReturnsInHanded {} Try.checked os 3 .any (Rows.fnExactNewConsoleSpec.pre6 enc Try.prog Try.f3 Rows.fnExactNewConsoleRow.domain false) (Rows.fnExactNewConsoleSpec.post enc Try.prog Try.f3 false true false false) := by
  refine returnsInHanded_of_change_sized (C := Try.checked) own started (by kernel_rfl) Try.func3
    (ChangeSpec.witness6 (enc := enc) (C := Try.checked) false ⟨#[], #[.agg #[.slice none 0 0, .int .i64 0, .slice none 0 0]], []⟩ 8 (by kernel_rfl) (by kernel_rfl) (by kernel_rfl) (by kernel_rfl)) ?_
  intro W base args ds gs before hval0 hW hcnd hsz0 _
  have hsz : (DataW.weightsEach Try.prog (Try.f3.params.toList ++ Rows.fnExactNewConsoleSpec.plain.varTypes Try.prog) (ds ++ gs)).all (· ≤ reachBytes) = true := hsz0
  have hval : ∀ (j : Nat) t v, Try.f3.params[j]? = some t → args[j]? = some v → Value.okWide Try.prog W .any base t v := hval0
  have hW' := hW
  obtain ⟨p, q, hA0, hV, rfl, hfz, hnd⟩ := hW
  have hA : DataW.TrodAll enc Try.prog W 0 (fun _ => true) true Try.f3.params.toList args.toList ds p := hA0
  rw [Try.params3] at hA hval hsz
  obtain ⟨v0, vs0, d0, ds0, p0, q0, hargs, rfl, rfl, h0, r0⟩ := trodAll_cons hA
  obtain ⟨rfl, rfl, rfl⟩ := trodAll_nil r0
  obtain rfl : args = #[v0] := by cases args; simp_all
  obtain ⟨rfl, rfl⟩ := trodVars_none hV
  obtain ⟨cs0, rfl, hs0⟩ := okWide_struct Try.underlying28 (hval 0 28 v0 rfl rfl)
  have k0 := h0
  have lt0 : ∀ x ∈ p0, x.block < W.heap.size := by obtain ⟨m, hm⟩ := k0; exact DataW.trod_lt m _ _ _ hm
  obtain ⟨x0, hK0, w0⟩ : ∃ x : S28, k28.K W x cs0.toList ∧ fitsT28 x := by
    obtain ⟨fuel, hf⟩ := h0
    exact opensT28 hf (weights_param hsz (j := 0) rfl rfl)
  obtain ⟨A0_0, c0_0, A0_2, c0_2, e0, hc0_0, hr0_0, hc0_2, hr0_2⟩ := k28_open hK0
  obtain rfl : cs0 = #[.slice A0_0 x0.f0.f0.length c0_0, .int .i64 x0.f1.f0, .slice A0_2 x0.f1.f1.length c0_2] := by cases cs0; simpa using e0
  clear hA0 hval0 hsz0 hsz
  obtain ⟨k, h⟩ := Go.Proofs.Ytcnmngiaebgjkaa.Pure.FnExactNewConsole x0 w0
  refine (laws_FnExactNewConsole.calls k A0_0 c0_0 x0.f0.f0 x0.f1.f0 A0_2 c0_2 x0.f1.f1 true W hr0_0 hc0_0 hr0_2 hc0_2 h rfl).mono fun e W' ⟨he, bel0⟩ => ?_
  have bel : Below W.heap.size W W' := bel0
  subst he
  exact ⟨_, rfl, _, _, _, [], _, [], hW', trodAll_mk1 (shut_bool Try.underlying4 _), (trodAll_cons_mk (Below.trod laidOut (by kernel_rfl) (of_decide_eq_true (by kernel_rfl)) k0 bel lt0) trodAll_mk0), rfl, bel.frame _, fun h => by cases h⟩
theorem over : Rows.fnExactNewConsoleRow.holds Try.pinned (OpenSpec.ofChange Rows.fnExactNewConsoleSpec) :=
  OpenClaim.holds_of_wide 3 Try.f3 rfl rfl rfl rfl rfl rfl rfl ⟨rfl, rfl, rfl, rfl, rfl⟩ rfl rfl rfl rfl rfl (by kernel_rfl) Try.func3 (by kernel_rfl)
    (of_decide_eq_true (by kernel_rfl)) (by unfold Func.isWrapper; first | (rw [if_pos (by decide +kernel)]; kernel_rfl) | (rw [if_neg (by decide +kernel)]; exact ⟨rfl, rfl⟩))
    (fun os started H enc _ => lifted os started H enc)
theorem proved : Rows.FnExactNewConsoleSaid := over
#print axioms proved
end Go.Proofs.Ytcnmngiaebgjkaa.fnExactNewConsole
namespace Go.Proofs.Ytcnmngiaebgjkaa
/-- The row, under a short name, for the claim. -/
theorem fnExactNewConsole_holds : Rows.FnExactNewConsoleSaid := fnExactNewConsole.proved
end Go.Proofs.Ytcnmngiaebgjkaa

