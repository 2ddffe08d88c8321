/- The law FnStays answers true for every input that the row lets in, and leaves its arguments as they were. Conditions: none beyond the row's own. -/
import Derived.Test.YtolaplcjbmjlmaaRows
import Derived.WalkKit
import Derived.ProofKit
import Derived.OpenShut
import Derived.ShutString
import Derived.ChangeOld
import Derived.Below
import Derived.SizedLaws
import Derived.Lib.SmallJoins
import Derived.Test.YtolaplcjbmjlmaaKFnStays1
import Derived.Test.YtolaplcjbmjlmaaKFnStays2
import Derived.Test.YtolaplcjbmjlmaaKFnStays3
import Derived.Test.YtolaplcjbmjlmaaKFnStays4
set_option linter.unusedVariables false
set_option linter.unusedSimpArgs false
namespace Go.Proofs.Ytolaplcjbmjlmaa.X
open Go.RowKit Go.Proofs.YtolaplcjbmjlmaaW.PrintWords Go.Proofs.YtolaplcjbmjlmaaW.PrintLast Go.Proofs.YtolaplcjbmjlmaaW.PrintMore
attribute [local go_sem] max2_int min2_int max_two min_two max_three min_three max_four min_four
def Cm.j0 : Nat → List (S62) → List (S59) → Bool → Option (Bool)
 | 0, _, _, _ => none
 | k + 1, x0, x7, x43 => if x43 = true then (some false) else ((Bd.f k x0).bind fun t195 => ((Bq.f k x7 t195).bind fun t198 => (if t198 = true then (some true) else (some false))))
def Cm.f (k : Nat) (l0 : List (S62)) : Option (Bool) := (Fb.f l0 1048576).bind fun t182 => (if t182 < 0 then (some true) else ((Bd.f k l0).bind fun t183 => ((Ee.f k t183).bind fun bt186 => ((Bd.f k l0).bind fun t189 => ((Ed.f k t189).bind fun bt192 => (if bt192.1 = bt186.1 then (if bt192.2.1 = bt186.2.1 then (Cm.j0 k l0 t189 (bt192.2.2 != bt186.2.2)) else (Cm.j0 k l0 t189 true)) else (Cm.j0 k l0 t189 true)))))))
theorem Cm.Dq : ∀ k, (∀ y0 y1 y2, LeO (Cm.j0 k y0 y1 y2) (Cm.j0 (k + 1) y0 y1 y2))
 | 0 => fun _ _ _ r h => by simp [Cm.j0] at h
 | k + 1 => by
  have ih0 := Cm.Dq k
  ·intro y0 y1 y2
   unfold Cm.j0
   repeat' first
   | (with_reducible exact ih0 _ _ _)
   | (with_reducible exact Ed.mono _ _)
   | (with_reducible exact Bq.mono _ _ _)
   | (with_reducible exact Bd.mono _ _)
   | (with_reducible exact Ee.mono _ _)
   | (with_reducible exact LeO.refl _)
   | (with_reducible exact LeO.none _)
   | (with_reducible refine LeO.ite ?_ ?_)
   | (with_reducible refine LeO.bind ?_ (fun _ => ?_))
   | exact ih0 _ _ _
   | exact Ed.mono _ _
   | exact Bq.mono _ _ _
   | exact Bd.mono _ _
   | exact Ee.mono _ _
   | exact LeO.none _
   | refine LeO.ite ?_ ?_
   | refine LeO.bind ?_ (fun _ => ?_)
theorem Cm.mono : ∀ a0 k, LeO (Cm.f k a0) (Cm.f (k + 1) a0) := by
 intro a0 k
 have ih0 := Cm.Dq k
 unfold Cm.f
 repeat' first
   | (with_reducible exact ih0 _ _ _)
   | (with_reducible exact Ed.mono _ _)
   | (with_reducible exact Bq.mono _ _ _)
   | (with_reducible exact Bd.mono _ _)
   | (with_reducible exact Ee.mono _ _)
   | (with_reducible exact LeO.refl _)
   | (with_reducible exact LeO.none _)
   | (with_reducible refine LeO.ite ?_ ?_)
   | (with_reducible refine LeO.bind ?_ (fun _ => ?_))
   | exact ih0 _ _ _
   | exact Ed.mono _ _
   | exact Bq.mono _ _ _
   | exact Bd.mono _ _
   | exact Ee.mono _ _
   | exact LeO.none _
   | refine LeO.ite ?_ ?_
   | refine LeO.bind ?_ (fun _ => ?_)
set_option maxHeartbeats 8000000 in
set_option maxRecDepth 100000 in
theorem Cm.calls (k : Nat) (A0 : Option Addr) (c0 : Nat) (l0 : List (S62)) (r : Bool) (w : World) (hr0 : Kd.C k62 w A0 l0.length l0) (hc0 : l0.length ≤ c0) (h : Cm.f k l0 = some r) (hr_ : r = true) :
  Calls Try.prog 6 #[.slice A0 l0.length c0] w fun e w' => e = .returned (.bool r) ∧ Below w.heap.size w w' := by
 have HR_ := Aside0.mk hr_
 clear hr_
 have HR0 := Aside0.mk hr0
 have HC0 := Aside0.mk hc0
 clear hr0 hc0
 have HB := Aside0.mk (Below.refl w.heap.size w)
 have H : ((Fb.f l0 1048576).bind fun t182 => (if t182 < 0 then (some true) else ((Bd.f k l0).bind fun t183 => ((Ee.f k t183).bind fun bt186 => ((Bd.f k l0).bind fun t189 => ((Ed.f k t189).bind fun bt192 => (if bt192.1 = bt186.1 then (if bt192.2.1 = bt186.2.1 then (Cm.j0 k l0 t189 (bt192.2.2 != bt186.2.2)) else (Cm.j0 k l0 t189 true)) else (Cm.j0 k l0 t189 true)))))))) = some r := h
 clear h
 replace H := Option.bind_eq_some_iff.mp H
 obtain ⟨t182, A20, H⟩ := H
 replace H : (if t182 < 0 then (some true) else ((Bd.f k l0).bind fun t183 => ((Ee.f k t183).bind fun bt186 => ((Bd.f k l0).bind fun t189 => ((Ed.f k t189).bind fun bt192 => (if bt192.1 = bt186.1 then (if bt192.2.1 = bt186.2.1 then (Cm.j0 k l0 t189 (bt192.2.2 != bt186.2.2)) else (Cm.j0 k l0 t189 true)) else (Cm.j0 k l0 t189 true))))))) = some r := H
 have A2 := Aside0.mk A20
 clear A20
 by_cases c3 : t182 < 0
 ·rw [if_pos c3] at H
  have c3b0 : decide (t182 < 0) = true := decide_eq_true c3
  clear c3
  obtain rfl := Option.some.inj H
  go_enter Try.func6, Try.ntmps6
  go_wp2_with (first | ((with_reducible refine gate_callee (f := 16) rfl ?_); refine goesL_ (some 13) rfl rfl Try.func16 (by kernel_rfl) rfl #[.slice A0 l0.length c0, .int .i64 1048576] rfl Yb_ ?_; (with_reducible refine (Fb.calls _ _ l0 1048576 t182 _ ?side1 ?side2 A2.out).mono ?_); (case side1 => repeat (first | exact HR0.out | (with_reducible refine Kd.Be ?_ _) | (with_reducible refine Kd.Bf ?_ _) | (with_reducible refine Kd.Bh ?_))); (case side2 => exact HC0.out); rintro e w' ⟨rfl, ⟨nd, rfl⟩⟩; refine ⟨_, rfl, ?_⟩))
  go_ret
  exact ⟨by first | rfl | (simp [Aw, Az] <;> rfl) | (simp [*, Aw, Az] <;> rfl), by repeat (first | (with_reducible first | exact HB.out | apply Af | apply Ad | apply Ae) | exact HB.out)⟩
 ·rw [if_neg c3] at H
  have c3b0 : decide (t182 < 0) = false := decide_eq_false c3
  clear c3
  replace H := Option.bind_eq_some_iff.mp H
  obtain ⟨t183, A40, H⟩ := H
  replace H : ((Ee.f k t183).bind fun bt186 => ((Bd.f k l0).bind fun t189 => ((Ed.f k t189).bind fun bt192 => (if bt192.1 = bt186.1 then (if bt192.2.1 = bt186.2.1 then (Cm.j0 k l0 t189 (bt192.2.2 != bt186.2.2)) else (Cm.j0 k l0 t189 true)) else (Cm.j0 k l0 t189 true))))) = some r := H
  have A4 := Aside0.mk A40
  clear A40
  replace H := Option.bind_eq_some_iff.mp H
  obtain ⟨⟨t186, t187, t188⟩, A50, H⟩ := H
  replace H : ((Bd.f k l0).bind fun t189 => ((Ed.f k t189).bind fun bt192 => (if bt192.1 = t186 then (if bt192.2.1 = t187 then (Cm.j0 k l0 t189 (bt192.2.2 != t188)) else (Cm.j0 k l0 t189 true)) else (Cm.j0 k l0 t189 true)))) = some r := H
  have A5 := Aside0.mk A50
  clear A50
  replace H := Option.bind_eq_some_iff.mp H
  obtain ⟨t189, A60, H⟩ := H
  replace H : ((Ed.f k t189).bind fun bt192 => (if bt192.1 = t186 then (if bt192.2.1 = t187 then (Cm.j0 k l0 t189 (bt192.2.2 != t188)) else (Cm.j0 k l0 t189 true)) else (Cm.j0 k l0 t189 true))) = some r := H
  have A6 := Aside0.mk A60
  clear A60
  replace H := Option.bind_eq_some_iff.mp H
  obtain ⟨⟨t192, t193, t194⟩, A70, H⟩ := H
  replace H : (if t192 = t186 then (if t193 = t187 then (Cm.j0 k l0 t189 (t194 != t188)) else (Cm.j0 k l0 t189 true)) else (Cm.j0 k l0 t189 true)) = some r := H
  have A7 := Aside0.mk A70
  clear A70
  have HC8 := Aside0.mk H
  clear H
  go_enter Try.func6, Try.ntmps6
  go_upto_region 8 with (first | ((with_reducible refine gate_callee (f := 16) rfl ?_); refine goesL_ (some 13) rfl rfl Try.func16 (by kernel_rfl) rfl #[.slice A0 l0.length c0, .int .i64 1048576] rfl Yb_ ?_; (with_reducible refine (Fb.calls _ _ l0 1048576 t182 _ ?side1 ?side2 A2.out).mono ?_); (case side1 => repeat (first | exact HR0.out | (with_reducible refine Kd.Be ?_ _) | (with_reducible refine Kd.Bf ?_ _) | (with_reducible refine Kd.Bh ?_))); (case side2 => exact HC0.out); rintro e w' ⟨rfl, ⟨nd, rfl⟩⟩; refine ⟨_, rfl, ?_⟩) | ((with_reducible refine gate_callee (f := 18) rfl ?_); refine goesL_ (some 18) rfl rfl Try.func18 (by kernel_rfl) rfl #[.slice A0 l0.length c0] rfl Yb_ ?_; (with_reducible refine (Bd.calls k _ _ l0 t183 _ ?side1 ?side2 A4.out).mono ?_); (case side1 => repeat (first | exact HR0.out | (with_reducible refine Kd.Be ?_ _) | (with_reducible refine Kd.Bf ?_ _) | (with_reducible refine Kd.Bh ?_))); (case side2 => exact HC0.out); rintro e w9 ⟨v184, rfl, ho0, hb⟩; refine ⟨_, rfl, ?_⟩; have n0_ := Aside0.mk (Kd.R_lower ho0 (below_size Ya_)); have n1_ := Aside0.mk (below_step Ya_ hb); clear HB; have HO185 := n0_; have HB := n1_; clear n0_ n1_; (try clear hb); (try clear hb2); (try clear hk); (try clear hi); (try clear ho0); obtain ⟨Ao10, co10, eo10⟩ := Kd.R_slice HO185.out; subst eo10) | ((with_reducible refine gate_callee (f := 23) rfl ?_); refine goesL_ (some 19) rfl rfl Try.func23 (by kernel_rfl) rfl #[.slice Ao10 t183.length co10] rfl Yb_ ?_; (with_reducible refine (Ee.calls k _ _ t183 t186 t187 t188 _ ?side1 ?side2 A5.out).mono ?_); (case side1 => repeat (first | exact (Kd.R_reads' HO185.out).2.2 | (with_reducible refine Kd.Be ?_ _) | (with_reducible refine Kd.Bf ?_ _) | (with_reducible refine Kd.Bh ?_))); (case side2 => exact (Kd.R_reads' HO185.out).2.1); rintro e w11 ⟨rfl, hb⟩; refine ⟨_, rfl, ?_⟩; have n0_ := Aside0.mk (Kd.R_below Yde_ hb); have n1_ := Aside0.mk (below_step Ya_ hb); clear HO185; clear HB; have HO185 := n0_; have HB := n1_; clear n0_ n1_; (try clear hb); (try clear hb2); (try clear hk); (try clear hi)) | ((with_reducible refine gate_callee (f := 18) rfl ?_); refine goesL_ (some 24) rfl rfl Try.func18 (by kernel_rfl) rfl #[.slice A0 l0.length c0] rfl Yb_ ?_; (with_reducible refine (Bd.calls k _ _ l0 t189 _ ?side1 ?side2 A6.out).mono ?_); (case side1 => repeat (first | exact (Kd.C_below HR0.out HB.out) | (with_reducible refine Kd.Be ?_ _) | (with_reducible refine Kd.Bf ?_ _) | (with_reducible refine Kd.Bh ?_))); (case side2 => exact HC0.out); rintro e w12 ⟨v190, rfl, ho0, hb⟩; refine ⟨_, rfl, ?_⟩; have n0_ := Aside0.mk (Kd.Gs Yde_ (Kd.Gv ho0) hb); have n1_ := Aside0.mk (Kd.R_lower (Kd.G7 ho0 (Kd.R_lt Yde_)) (below_size Ya_)); have n2_ := Aside0.mk (below_step Ya_ hb); clear HO185; clear HB; have HO185 := n0_; have HO191 := n1_; have HB := n2_; clear n0_ n1_ n2_; (try clear hb); (try clear hb2); (try clear hk); (try clear hi); (try clear ho0); obtain ⟨Ao13, co13, eo13⟩ := Kd.R_slice HO191.out; subst eo13) | ((with_reducible refine gate_callee (f := 24) rfl ?_); refine goesL_ (some 27) rfl rfl Try.func24 (by kernel_rfl) rfl #[.slice Ao13 t189.length co13] rfl Yb_ ?_; (with_reducible refine (Ed.calls k _ _ t189 t192 t193 t194 _ ?side1 ?side2 A7.out).mono ?_); (case side1 => repeat (first | exact (Kd.R_reads' HO191.out).2.2 | (with_reducible refine Kd.Be ?_ _) | (with_reducible refine Kd.Bf ?_ _) | (with_reducible refine Kd.Bh ?_))); (case side2 => exact (Kd.R_reads' HO191.out).2.1); rintro e w14 ⟨rfl, hb⟩; refine ⟨_, rfl, ?_⟩; have n0_ := Aside0.mk (Kd.R_below Yde_ hb); have n1_ := Aside0.mk (Kd.R_below (by (with_reducible repeat (first | apply Kd.Ap | apply Kd.Am | apply Kd.Ba)); exact HO191.out) hb); have n2_ := Aside0.mk (below_step Ya_ hb); clear HO185; clear HO191; clear HB; have HO185 := n0_; have HO191 := n1_; have HB := n2_; clear n0_ n1_ n2_; (try clear hb); (try clear hb2); (try clear hk); (try clear hi)))
  (try simp only [Act.put, List.setIfInBounds_toArray, List.set_cons_zero, List.set_cons_succ])
  go_cut [43] (fun v43 wc => ∃ (kq : Nat) (x43_7 : Bool), v43 = .bool x43_7 ∧ Aside0 (Cm.j0 kq l0 t189 x43_7 = some r) ∧ Aside0 (kq ≤ k) ∧ Aside0 (Kd.R k59 59 wc w.heap.size (fun _ => True) (.slice Ao13 t189.length co13) t189) ∧ Aside0 (Below w.heap.size w wc))
  case first =>
   have H := HC8.out
   clear HC8
   by_cases c15 : t192 = t186
   ·rw [if_pos c15] at H
    have c15b0 : (t192 == t186) = true := beq_iff_eq.mpr c15
    have c15b1 : (t192 != t186) = false := bne_eq_false_iff_eq.mpr c15
    clear c15
    (first | rw [c15b0] | (simp only [Aj, Ak]; rw [c15b0]) | skip)
    by_cases c16 : t193 = t187
    ·rw [if_pos c16] at H
     have c16b0 : (t193 == t187) = true := beq_iff_eq.mpr c16
     have c16b1 : (t193 != t187) = false := bne_eq_false_iff_eq.mpr c16
     clear c16
     have H' := Aside0.mk H
     clear H
     go_wp2
     go_meet
     case rel => exact ⟨_, ((t194 != t188)), Yd_, H', ⟨by first | omega | exact Nat.le_refl _⟩, ⟨by (with_reducible repeat (first | apply Kd.Ap | apply Kd.Am | apply Kd.Ba)); exact Kd.R_mono HO191.out (fun _ hk => trivial)⟩, ⟨by repeat (first | (with_reducible first | exact HB.out | apply Af | apply Ad | apply Ae) | exact HB.out)⟩⟩
    ·rw [if_neg c16] at H
     have c16b0 : (t193 == t187) = false := beq_eq_false_iff_ne.mpr c16
     have c16b1 : (t193 != t187) = true := bne_iff_ne.mpr c16
     have H' := Aside0.mk H
     clear H
     go_wp2
     go_meet
     case rel => exact ⟨_, (true), Yd_, H', ⟨by first | omega | exact Nat.le_refl _⟩, ⟨by (with_reducible repeat (first | apply Kd.Ap | apply Kd.Am | apply Kd.Ba)); exact Kd.R_mono HO191.out (fun _ hk => trivial)⟩, ⟨by repeat (first | (with_reducible first | exact HB.out | apply Af | apply Ad | apply Ae) | exact HB.out)⟩⟩
   ·rw [if_neg c15] at H
    have c15b0 : (t192 == t186) = false := beq_eq_false_iff_ne.mpr c15
    have c15b1 : (t192 != t186) = true := bne_iff_ne.mpr c15
    (first | rw [c15b0] | (simp only [Aj, Ak]; rw [c15b0]) | skip)
    have H' := Aside0.mk H
    clear H
    go_wp2
    go_meet
    case rel => exact ⟨_, (true), Yd_, H', ⟨by first | omega | exact Nat.le_refl _⟩, ⟨by (with_reducible repeat (first | apply Kd.Ap | apply Kd.Am | apply Kd.Ba)); exact Kd.R_mono HO191.out (fun _ hk => trivial)⟩, ⟨by repeat (first | (with_reducible first | exact HB.out | apply Af | apply Ad | apply Ae) | exact HB.out)⟩⟩
  case rest =>
   clear HC8
   try clear c1
   try clear c2
   try clear p2
   try clear c3
   try clear c3b0
   try clear c6
   try clear c15
   try clear c15b0
   try clear c15b1
   try clear c16
   try clear c16b0
   try clear c16b1
   obtain ⟨kq, x43_7, rfl, HA, HJ7, HO_7, HB⟩ := hcut
   cases kq with
   | zero => exact absurd HA.out (by simp [Cm.j0])
   | succ kj7 =>
    have H := HA.out
    clear HA
    simp only [Cm.j0] at H
    by_cases c17 : x43_7 = true
    ·subst c17
     have H1 : (some false) = some r := by rw [if_pos rfl] at H; exact H
     clear H
     have H := H1
     clear H1
     exact absurd (Option.some.inj H) (by rw [HR_.out]; decide)
    ·replace c17 := Bool.eq_false_iff.mpr c17
     subst c17
     have H1 : ((Bd.f kj7 l0).bind fun t195 => ((Bq.f kj7 t189 t195).bind fun t198 => (if t198 = true then (some true) else (some false)))) = some r := by rw [if_neg (show ¬ (false = true) by decide)] at H; exact H
     clear H
     have H := H1
     clear H1
     replace H := Option.bind_eq_some_iff.mp H
     obtain ⟨t195, A180, H⟩ := H
     replace H : ((Bq.f kj7 t189 t195).bind fun t198 => (if t198 = true then (some true) else (some false))) = some r := H
     have A18 := Aside0.mk A180
     clear A180
     replace H := Option.bind_eq_some_iff.mp H
     obtain ⟨t198, A190, H⟩ := H
     replace H : (if t198 = true then (some true) else (some false)) = some r := H
     have A19 := Aside0.mk A190
     clear A190
     by_cases c20 : t198 = true
     ·subst c20
      have H1 : (some true) = some r := by rw [if_pos rfl] at H; exact H
      clear H
      have H := H1
      clear H1
      obtain rfl := Option.some.inj H
      go_wp2_with (first | ((with_reducible refine gate_callee (f := 18) rfl ?_); refine goesL_ (some 46) rfl rfl Try.func18 (by kernel_rfl) rfl #[.slice A0 l0.length c0] rfl Yb_ ?_; (with_reducible refine (Bd.calls kj7 _ _ l0 t195 _ ?side1 ?side2 A18.out).mono ?_); (case side1 => repeat (first | exact (Kd.C_below HR0.out HB.out) | (with_reducible refine Kd.Be ?_ _) | (with_reducible refine Kd.Bf ?_ _) | (with_reducible refine Kd.Bh ?_))); (case side2 => exact HC0.out); rintro e w21 ⟨v196, rfl, ho0, hb⟩; refine ⟨_, rfl, ?_⟩; have n0_ := Aside0.mk (Kd.Gs Yci_ (Kd.Gv ho0) hb); have n1_ := Aside0.mk (Kd.R_lower (Kd.G7 ho0 (Kd.R_lt Yci_)) (below_size Ya_)); have n2_ := Aside0.mk (below_step Ya_ hb); clear HO_7; clear HB; have HO_7 := n0_; have HO197 := n1_; have HB := n2_; clear n0_ n1_ n2_; (try clear hb); (try clear hb2); (try clear hk); (try clear hi); (try clear ho0); obtain ⟨Ao22, co22, eo22⟩ := Kd.R_slice HO197.out; subst eo22) | ((with_reducible refine gate_callee (f := 20) rfl ?_); refine goesL_ (some 47) rfl rfl Try.func20 (by kernel_rfl) rfl #[.slice Ao13 t189.length co13, .slice Ao22 t195.length co22] rfl Yb_ ?_; (with_reducible refine (Bq.calls kj7 _ _ t189 _ _ t195 true _ ?side1 ?side2 ?side3 ?side4 A19.out).mono ?_); (case side1 => repeat (first | exact (Kd.R_reads' HO_7.out).2.2 | (with_reducible refine Kd.Be ?_ _) | (with_reducible refine Kd.Bf ?_ _) | (with_reducible refine Kd.Bh ?_))); (case side2 => exact (Kd.R_reads' HO_7.out).2.1); (case side3 => repeat (first | exact (Kd.R_reads' HO197.out).2.2 | (with_reducible refine Kd.Be ?_ _) | (with_reducible refine Kd.Bf ?_ _) | (with_reducible refine Kd.Bh ?_))); (case side4 => exact (Kd.R_reads' HO197.out).2.1); rintro e w23 ⟨rfl, hb⟩; refine ⟨_, rfl, ?_⟩; have n0_ := Aside0.mk (Kd.R_below Yci_ hb); have n1_ := Aside0.mk (Kd.R_below (by (with_reducible repeat (first | apply Kd.Ap | apply Kd.Am | apply Kd.Ba)); exact HO197.out) hb); have n2_ := Aside0.mk (below_step Ya_ hb); clear HO_7; clear HO197; clear HB; have HO_7 := n0_; have HO197 := n1_; have HB := n2_; clear n0_ n1_ n2_; (try clear hb); (try clear hb2); (try clear hk); (try clear hi)))
      go_ret
      exact ⟨by first | rfl | (simp [Aw, Az] <;> rfl) | (simp [*, Aw, Az] <;> rfl), by repeat (first | (with_reducible first | exact HB.out | apply Af | apply Ad | apply Ae) | exact HB.out)⟩
     ·replace c20 := Bool.eq_false_iff.mpr c20
      subst c20
      have H1 : (some false) = some r := by rw [if_neg (show ¬ (false = true) by decide)] at H; exact H
      clear H
      have H := H1
      clear H1
      exact absurd (Option.some.inj H) (by rw [HR_.out]; decide)
end Go.Proofs.Ytolaplcjbmjlmaa.X

namespace Go.Proofs.Ytolaplcjbmjlmaa.X
open Go.RowKit Go.Proofs.YtolaplcjbmjlmaaW.PrintWords Go.Proofs.YtolaplcjbmjlmaaW.PrintLast Go.Proofs.YtolaplcjbmjlmaaW.PrintMore
attribute [local go_sem] max2_int min2_int max_two min_two max_three min_three max_four min_four
mutual
def Cb.j0 : Nat → List (S59) → Int → Int → Int → Bool → Option (Int × Int × Bool)
 | 0, _, _, _, _, _ => none
 | k + 1, x0, x1, x2, x3, x35 => if x35 = true then (some (0, 0, false)) else (Cb.l0 k x0 x1 x2 x3 0 x1)
def Cb.l0 : Nat → List (S59) → Int → Int → Int → Int → Int → Option (Int × Int × Bool)
 | 0, _, _, _, _, _, _ => none
 | k + 1, x0, x1, x2, x3, x11, x12 => if x12 < x2 then ((Eb.f k x0 x12).bind fun t204 => (Cb.l0 k x0 x1 x2 x3 (wrap64 (x11 + t204)) (wrap64 (x12 + 1)))) else ((Dk.f k x11 (wrap64 (x3 * (wrap64 (x2 - x1))))).bind fun bt205 => (some (bt205.1, bt205.2, true)))
end
def Cb.f (k : Nat) (l0 : List (S59)) (a1 : Int) (a2 : Int) (a3 : Int) : Option (Int × Int × Bool) := (Aq.f k l0).bind fun t202 => (if t202 = true then (if a1 < 0 then (Cb.j0 k l0 a1 a2 a3 true) else (if a1 ≥ a2 then (Cb.j0 k l0 a1 a2 a3 true) else (if a2 > 240 then (Cb.j0 k l0 a1 a2 a3 true) else ((Eg.f a3 1 1000).bind fun t203 => (Cb.j0 k l0 a1 a2 a3 (!t203)))))) else (Cb.j0 k l0 a1 a2 a3 true))
theorem Cb.Dq : ∀ k, (∀ y0 y1 y2 y3 y4, LeO (Cb.j0 k y0 y1 y2 y3 y4) (Cb.j0 (k + 1) y0 y1 y2 y3 y4)) ∧ (∀ y0 y1 y2 y3 y4 y5, LeO (Cb.l0 k y0 y1 y2 y3 y4 y5) (Cb.l0 (k + 1) y0 y1 y2 y3 y4 y5))
 | 0 => ⟨fun _ _ _ _ _ r h => by simp [Cb.j0] at h, fun _ _ _ _ _ _ r h => by simp [Cb.l0] at h⟩
 | k + 1 => by
  obtain ⟨ih0, ih1⟩ := Cb.Dq k
  refine ⟨?_, ?_⟩
  ·intro y0 y1 y2 y3 y4
   unfold Cb.j0
   repeat' first
   | (with_reducible exact ih0 _ _ _ _ _)
   | (with_reducible exact ih1 _ _ _ _ _ _)
   | (with_reducible exact Dk.mono _ _ _)
   | (with_reducible exact Eb.mono _ _ _)
   | (with_reducible exact Aq.mono _ _)
   | (with_reducible exact LeO.refl _)
   | (with_reducible exact LeO.none _)
   | (with_reducible refine LeO.ite ?_ ?_)
   | (with_reducible refine LeO.bind ?_ (fun _ => ?_))
   | exact ih0 _ _ _ _ _
   | exact ih1 _ _ _ _ _ _
   | exact Dk.mono _ _ _
   | exact Eb.mono _ _ _
   | exact Aq.mono _ _
   | exact LeO.none _
   | refine LeO.ite ?_ ?_
   | refine LeO.bind ?_ (fun _ => ?_)
  ·intro y0 y1 y2 y3 y4 y5
   unfold Cb.l0
   repeat' first
   | (with_reducible exact ih0 _ _ _ _ _)
   | (with_reducible exact ih1 _ _ _ _ _ _)
   | (with_reducible exact Dk.mono _ _ _)
   | (with_reducible exact Eb.mono _ _ _)
   | (with_reducible exact Aq.mono _ _)
   | (with_reducible exact LeO.refl _)
   | (with_reducible exact LeO.none _)
   | (with_reducible refine LeO.ite ?_ ?_)
   | (with_reducible refine LeO.bind ?_ (fun _ => ?_))
   | exact ih0 _ _ _ _ _
   | exact ih1 _ _ _ _ _ _
   | exact Dk.mono _ _ _
   | exact Eb.mono _ _ _
   | exact Aq.mono _ _
   | exact LeO.none _
   | refine LeO.ite ?_ ?_
   | refine LeO.bind ?_ (fun _ => ?_)
theorem Cb.mono : ∀ a0 a1 a2 a3 k, LeO (Cb.f k a0 a1 a2 a3) (Cb.f (k + 1) a0 a1 a2 a3) := by
 intro a0 a1 a2 a3 k
 obtain ⟨ih0, ih1⟩ := Cb.Dq k
 unfold Cb.f
 repeat' first
   | (with_reducible exact ih0 _ _ _ _ _)
   | (with_reducible exact ih1 _ _ _ _ _ _)
   | (with_reducible exact Dk.mono _ _ _)
   | (with_reducible exact Eb.mono _ _ _)
   | (with_reducible exact Aq.mono _ _)
   | (with_reducible exact LeO.refl _)
   | (with_reducible exact LeO.none _)
   | (with_reducible refine LeO.ite ?_ ?_)
   | (with_reducible refine LeO.bind ?_ (fun _ => ?_))
   | exact ih0 _ _ _ _ _
   | exact ih1 _ _ _ _ _ _
   | exact Dk.mono _ _ _
   | exact Eb.mono _ _ _
   | exact Aq.mono _ _
   | exact LeO.none _
   | refine LeO.ite ?_ ?_
   | refine LeO.bind ?_ (fun _ => ?_)
set_option maxHeartbeats 8000000 in
set_option maxRecDepth 100000 in
theorem Cb.calls (k : Nat) (A0 : Option Addr) (c0 : Nat) (l0 : List (S59)) (a1 : Int) (a2 : Int) (a3 : Int) (r1 : Int) (r2 : Int) (r3 : Bool) (w : World) (hr0 : Kd.C k59 w A0 l0.length l0) (hc0 : l0.length ≤ c0) (h : Cb.f k l0 a1 a2 a3 = some (r1, r2, r3)) :
  Calls Try.prog 25 #[.slice A0 l0.length c0, .int .i64 a1, .int .i64 a2, .int .i64 a3] w fun e w' => e = .returned (.tuple #[.int .i64 r1, .int .i64 r2, .bool r3]) ∧ Below w.heap.size w w' := by
 have HR0 := Aside0.mk hr0
 have HC0 := Aside0.mk hc0
 clear hr0 hc0
 have HB := Aside0.mk (Below.refl w.heap.size w)
 have H : ((Aq.f k l0).bind fun t202 => (if t202 = true then (if a1 < 0 then (Cb.j0 k l0 a1 a2 a3 true) else (if a1 ≥ a2 then (Cb.j0 k l0 a1 a2 a3 true) else (if a2 > 240 then (Cb.j0 k l0 a1 a2 a3 true) else ((Eg.f a3 1 1000).bind fun t203 => (Cb.j0 k l0 a1 a2 a3 (!t203)))))) else (Cb.j0 k l0 a1 a2 a3 true))) = some (r1, r2, r3) := h
 clear h
 have HC5 := Aside0.mk H
 clear H
 go_enter Try.func25, Try.ntmps25
 go_upto_region 1 with (fail)
 go_cut [35] (fun v35 wc => ∃ (kq : Nat) (x35_4 : Bool), v35 = .bool x35_4 ∧ Aside0 (Cb.j0 kq l0 a1 a2 a3 x35_4 = some (r1, r2, r3)) ∧ Aside0 (kq ≤ k) ∧ Aside0 (Below w.heap.size w wc))
 case first =>
  have H := HC5.out
  clear HC5
  replace H := Option.bind_eq_some_iff.mp H
  obtain ⟨t202, A60, H⟩ := H
  replace H : (if t202 = true then (if a1 < 0 then (Cb.j0 k l0 a1 a2 a3 true) else (if a1 ≥ a2 then (Cb.j0 k l0 a1 a2 a3 true) else (if a2 > 240 then (Cb.j0 k l0 a1 a2 a3 true) else ((Eg.f a3 1 1000).bind fun t203 => (Cb.j0 k l0 a1 a2 a3 (!t203)))))) else (Cb.j0 k l0 a1 a2 a3 true)) = some (r1, r2, r3) := H
  have A6 := Aside0.mk A60
  clear A60
  by_cases c7 : t202 = true
  ·subst c7
   have H1 : (if a1 < 0 then (Cb.j0 k l0 a1 a2 a3 true) else (if a1 ≥ a2 then (Cb.j0 k l0 a1 a2 a3 true) else (if a2 > 240 then (Cb.j0 k l0 a1 a2 a3 true) else ((Eg.f a3 1 1000).bind fun t203 => (Cb.j0 k l0 a1 a2 a3 (!t203)))))) = some (r1, r2, r3) := by rw [if_pos rfl] at H; exact H
   clear H
   have H := H1
   clear H1
   by_cases c8 : a1 < 0
   ·rw [if_pos c8] at H
    have c8b0 : decide (a1 < 0) = true := decide_eq_true c8
    clear c8
    (first | rw [c8b0] | (simp only [Aj, Ak]; rw [c8b0]) | skip)
    have H' := Aside0.mk H
    clear H
    go_wp2_with (first | ((with_reducible refine gate_callee (f := 54) rfl ?_); refine goesL_ (some 16) rfl rfl Try.func54 (by kernel_rfl) rfl #[.slice A0 l0.length c0] rfl Yb_ ?_; (with_reducible refine (Aq.calls k _ _ l0 true _ ?side1 ?side2 A6.out).mono ?_); (case side1 => repeat (first | exact (Kd.C_below HR0.out HB.out) | (with_reducible refine Kd.Be ?_ _) | (with_reducible refine Kd.Bf ?_ _) | (with_reducible refine Kd.Bh ?_))); (case side2 => exact HC0.out); rintro e w9 ⟨rfl, hb⟩; refine ⟨_, rfl, ?_⟩; have n0_ := Aside0.mk (below_step Ya_ hb); clear HB; have HB := n0_; clear n0_; (try clear hb); (try clear hb2); (try clear hk); (try clear hi)))
    go_meet
    case rel => exact ⟨_, (true), Yd_, H', ⟨by first | omega | exact Nat.le_refl _⟩, ⟨by repeat (first | (with_reducible first | exact HB.out | apply Af | apply Ad | apply Ae) | exact HB.out)⟩⟩
   ·rw [if_neg c8] at H
    have c8b0 : decide (a1 < 0) = false := decide_eq_false c8
    clear c8
    (first | rw [c8b0] | (simp only [Aj, Ak]; rw [c8b0]) | skip)
    by_cases c10 : a1 ≥ a2
    ·rw [if_pos c10] at H
     have c10b0 : decide (a2 ≤ a1) = true := decide_eq_true c10
     clear c10
     have H' := Aside0.mk H
     clear H
     go_wp2_with (first | ((with_reducible refine gate_callee (f := 54) rfl ?_); refine goesL_ (some 16) rfl rfl Try.func54 (by kernel_rfl) rfl #[.slice A0 l0.length c0] rfl Yb_ ?_; (with_reducible refine (Aq.calls k _ _ l0 true _ ?side1 ?side2 A6.out).mono ?_); (case side1 => repeat (first | exact (Kd.C_below HR0.out HB.out) | (with_reducible refine Kd.Be ?_ _) | (with_reducible refine Kd.Bf ?_ _) | (with_reducible refine Kd.Bh ?_))); (case side2 => exact HC0.out); rintro e w11 ⟨rfl, hb⟩; refine ⟨_, rfl, ?_⟩; have n0_ := Aside0.mk (below_step Ya_ hb); clear HB; have HB := n0_; clear n0_; (try clear hb); (try clear hb2); (try clear hk); (try clear hi)))
     go_meet
     case rel => exact ⟨_, (true), Yd_, H', ⟨by first | omega | exact Nat.le_refl _⟩, ⟨by repeat (first | (with_reducible first | exact HB.out | apply Af | apply Ad | apply Ae) | exact HB.out)⟩⟩
    ·rw [if_neg c10] at H
     have c10b0 : decide (a2 ≤ a1) = false := decide_eq_false c10
     clear c10
     by_cases c12 : a2 > 240
     ·rw [if_pos c12] at H
      have c12b0 : decide (240 < a2) = true := decide_eq_true c12
      clear c12
      have H' := Aside0.mk H
      clear H
      go_wp2_with (first | ((with_reducible refine gate_callee (f := 54) rfl ?_); refine goesL_ (some 16) rfl rfl Try.func54 (by kernel_rfl) rfl #[.slice A0 l0.length c0] rfl Yb_ ?_; (with_reducible refine (Aq.calls k _ _ l0 true _ ?side1 ?side2 A6.out).mono ?_); (case side1 => repeat (first | exact (Kd.C_below HR0.out HB.out) | (with_reducible refine Kd.Be ?_ _) | (with_reducible refine Kd.Bf ?_ _) | (with_reducible refine Kd.Bh ?_))); (case side2 => exact HC0.out); rintro e w13 ⟨rfl, hb⟩; refine ⟨_, rfl, ?_⟩; have n0_ := Aside0.mk (below_step Ya_ hb); clear HB; have HB := n0_; clear n0_; (try clear hb); (try clear hb2); (try clear hk); (try clear hi)))
      go_meet
      case rel => exact ⟨_, (true), Yd_, H', ⟨by first | omega | exact Nat.le_refl _⟩, ⟨by repeat (first | (with_reducible first | exact HB.out | apply Af | apply Ad | apply Ae) | exact HB.out)⟩⟩
     ·rw [if_neg c12] at H
      have c12b0 : decide (240 < a2) = false := decide_eq_false c12
      clear c12
      replace H := Option.bind_eq_some_iff.mp H
      obtain ⟨t203, A140, H⟩ := H
      replace H : (Cb.j0 k l0 a1 a2 a3 (!t203)) = some (r1, r2, r3) := H
      have A14 := Aside0.mk A140
      clear A140
      have H' := Aside0.mk H
      clear H
      go_wp2_with (first | ((with_reducible refine gate_callee (f := 54) rfl ?_); refine goesL_ (some 16) rfl rfl Try.func54 (by kernel_rfl) rfl #[.slice A0 l0.length c0] rfl Yb_ ?_; (with_reducible refine (Aq.calls k _ _ l0 true _ ?side1 ?side2 A6.out).mono ?_); (case side1 => repeat (first | exact (Kd.C_below HR0.out HB.out) | (with_reducible refine Kd.Be ?_ _) | (with_reducible refine Kd.Bf ?_ _) | (with_reducible refine Kd.Bh ?_))); (case side2 => exact HC0.out); rintro e w15 ⟨rfl, hb⟩; refine ⟨_, rfl, ?_⟩; have n0_ := Aside0.mk (below_step Ya_ hb); clear HB; have HB := n0_; clear n0_; (try clear hb); (try clear hb2); (try clear hk); (try clear hi)) | (go_at_call 52; (with_reducible refine (Eg.calls a3 1 1000 t203 _ A14.out).mono ?_); rintro e w' ⟨rfl, ⟨nd, rfl⟩⟩))
      go_meet
      case rel => exact ⟨_, (!t203), Yd_, H', ⟨by first | omega | exact Nat.le_refl _⟩, ⟨by repeat (first | (with_reducible first | exact HB.out | apply Af | apply Ad | apply Ae) | exact HB.out)⟩⟩
  ·replace c7 := Bool.eq_false_iff.mpr c7
   subst c7
   have H1 : (Cb.j0 k l0 a1 a2 a3 true) = some (r1, r2, r3) := by rw [if_neg (show ¬ (false = true) by decide)] at H; exact H
   clear H
   have H := H1
   clear H1
   have H' := Aside0.mk H
   clear H
   go_wp2_with (first | ((with_reducible refine gate_callee (f := 54) rfl ?_); refine goesL_ (some 16) rfl rfl Try.func54 (by kernel_rfl) rfl #[.slice A0 l0.length c0] rfl Yb_ ?_; (with_reducible refine (Aq.calls k _ _ l0 false _ ?side1 ?side2 A6.out).mono ?_); (case side1 => repeat (first | exact (Kd.C_below HR0.out HB.out) | (with_reducible refine Kd.Be ?_ _) | (with_reducible refine Kd.Bf ?_ _) | (with_reducible refine Kd.Bh ?_))); (case side2 => exact HC0.out); rintro e w16 ⟨rfl, hb⟩; refine ⟨_, rfl, ?_⟩; have n0_ := Aside0.mk (below_step Ya_ hb); clear HB; have HB := n0_; clear n0_; (try clear hb); (try clear hb2); (try clear hk); (try clear hi)))
   go_meet
   case rel => exact ⟨_, (true), Yd_, H', ⟨by first | omega | exact Nat.le_refl _⟩, ⟨by repeat (first | (with_reducible first | exact HB.out | apply Af | apply Ad | apply Ae) | exact HB.out)⟩⟩
 case rest =>
  clear HC5
  try clear c1
  try clear c2
  try clear p2
  try clear c5
  try clear c7
  try clear c8
  try clear c8b0
  try clear c10
  try clear c10b0
  try clear c12
  try clear c12b0
  obtain ⟨kq, x35_4, rfl, HA, HJ4, HB⟩ := hcut
  cases kq with
  | zero => exact absurd HA.out (by simp [Cb.j0])
  | succ kj4 =>
   have H := HA.out
   clear HA
   simp only [Cb.j0] at H
   by_cases c17 : x35_4 = true
   ·subst c17
    have H1 : (some (0, 0, false)) = some (r1, r2, r3) := by rw [if_pos rfl] at H; exact H
    clear H
    have H := H1
    clear H1
    simp only [Option.some.injEq, Prod.mk.injEq] at H
    obtain ⟨rfl, rfl, rfl⟩ := H
    go_wp2
    go_ret3
    exact ⟨by first | rfl | (simp [Aw, Az] <;> rfl) | (simp [*, Aw, Az] <;> rfl), by repeat (first | (with_reducible first | exact HB.out | apply Af | apply Ad | apply Ae) | exact HB.out)⟩
   ·replace c17 := Bool.eq_false_iff.mpr c17
    subst c17
    have H1 : (Cb.l0 kj4 l0 a1 a2 a3 0 a1) = some (r1, r2, r3) := by rw [if_neg (show ¬ (false = true) by decide)] at H; exact H
    clear H
    have H := H1
    clear H1
    have H' := Aside0.mk H
    clear H
    go_wp2
    go_loopg [11, 12] kj4 (fun kq v11 v12 w' => ∃ (x11_2 : Int) (x12_2 : Int), v11 = .int .i64 x11_2 ∧ v12 = .int .i64 x12_2 ∧ Aside0 (Cb.l0 kq l0 a1 a2 a3 x11_2 x12_2 = some (r1, r2, r3)) ∧ Aside0 (kq ≤ kj4) ∧ Aside0 (Below w.heap.size w w'))
    case atStart => exact ⟨(0), (a1), Yd_, Yd_, H', ⟨Nat.le_refl _⟩, ⟨by repeat (first | (with_reducible first | exact HB.out | apply Af | apply Ad | apply Ae) | exact HB.out)⟩⟩
    case round =>
     clear H'
     try clear c1
     try clear c2
     try clear p2
     try clear c5
     try clear c7
     try clear c8
     try clear c8b0
     try clear c10
     try clear c10b0
     try clear c12
     try clear c12b0
     try clear c17
     try clear p2
     obtain ⟨x11_2, x12_2, rfl, rfl, HA, HK2, HB⟩ := hrel
     cases gk with
     | zero => exact absurd HA.out (by simp [Cb.l0])
     | succ k2 =>
      have H := HA.out
      clear HA
      simp only [Cb.l0] at H
      by_cases c18 : x12_2 < a2
      ·rw [if_pos c18] at H
       have c18b0 : decide (x12_2 < a2) = true := decide_eq_true c18
       clear c18
       replace H := Option.bind_eq_some_iff.mp H
       obtain ⟨t204, A190, H⟩ := H
       replace H : (Cb.l0 k2 l0 a1 a2 a3 (wrap64 (x11_2 + t204)) (wrap64 (x12_2 + 1))) = some (r1, r2, r3) := H
       have A19 := Aside0.mk A190
       clear A190
       have H' := Aside0.mk H
       clear H
       go_wp2_with (first | ((with_reducible refine gate_callee (f := 59) rfl ?_); refine goesL_ (some 45) rfl rfl Try.func59 (by kernel_rfl) rfl #[.slice A0 l0.length c0, .int .i64 x12_2] rfl Yb_ ?_; (with_reducible refine (Eb.calls k2 _ _ l0 x12_2 t204 _ ?side1 ?side2 A19.out).mono ?_); (case side1 => repeat (first | exact (Kd.C_below HR0.out HB.out) | (with_reducible refine Kd.Be ?_ _) | (with_reducible refine Kd.Bf ?_ _) | (with_reducible refine Kd.Bh ?_))); (case side2 => exact HC0.out); rintro e w' ⟨rfl, ⟨nd, rfl⟩⟩; refine ⟨_, rfl, ?_⟩))
       go_roundg k2
       case measure => have := HJ4.out; have := HK2.out; omega
       case rel => exact ⟨(wrap64 (x11_2 + t204)), (wrap64 (x12_2 + 1)), Yd_, Yd_, H', ⟨by have := HJ4.out; have := HK2.out; omega⟩, ⟨by repeat (first | (with_reducible first | exact HB.out | apply Af | apply Ad | apply Ae) | exact HB.out)⟩⟩
      ·rw [if_neg c18] at H
       have c18b0 : decide (x12_2 < a2) = false := decide_eq_false c18
       clear c18
       replace H := Option.bind_eq_some_iff.mp H
       obtain ⟨⟨t205, t206⟩, A200, H⟩ := H
       replace H : (some (t205, t206, true)) = some (r1, r2, r3) := H
       have A20 := Aside0.mk A200
       clear A200
       simp only [Option.some.injEq, Prod.mk.injEq] at H
       obtain ⟨rfl, rfl, rfl⟩ := H
       go_wp2_with (first | ((with_reducible refine gate_callee (f := 61) rfl ?_); refine goesL_ (some 54) rfl rfl Try.func61 (by kernel_rfl) rfl #[.int .i64 x11_2, .int .i64 (wrap64 (a3 * (wrap64 (a2 - a1))))] rfl Yb_ ?_; (with_reducible refine (Dk.calls k2 x11_2 (wrap64 (a3 * (wrap64 (a2 - a1)))) t205 t206 _ A20.out).mono ?_); rintro e w' ⟨rfl, ⟨nd, rfl⟩⟩; refine ⟨_, rfl, ?_⟩))
       go_ret3
       exact ⟨by first | rfl | (simp [Aw, Az] <;> rfl) | (simp [*, Aw, Az] <;> rfl), by repeat (first | (with_reducible first | exact HB.out | apply Af | apply Ad | apply Ae) | exact HB.out)⟩
end Go.Proofs.Ytolaplcjbmjlmaa.X

namespace Go.Proofs.Ytolaplcjbmjlmaa.X
open Go.RowKit Go.Proofs.YtolaplcjbmjlmaaW.PrintWords Go.Proofs.YtolaplcjbmjlmaaW.PrintLast Go.Proofs.YtolaplcjbmjlmaaW.PrintMore
attribute [local go_sem] max2_int min2_int max_two min_two max_three min_three max_four min_four
mutual
def Bv.j0 : Nat → List (S59) → Int → Int → Int → Bool → Option (Int × Int × Bool)
 | 0, _, _, _, _, _ => none
 | k + 1, x0, x1, x2, x3, x36 => if x36 = true then (some (0, 0, false)) else (Bv.l0 k x1 x2 x3 0 x0 (x0.length : Int) 0)
def Bv.l0 : Nat → Int → Int → Int → Int → List (S59) → Int → Int → Option (Int × Int × Bool)
 | 0, _, _, _, _, _, _, _ => none
 | k + 1, x1, x2, x3, x11, x37, x38, x39 => if x39 < x38 then (if 0 ≤ x39 then (if x39 < (x37.length : Int) then (Bv.l0 k x1 x2 x3 (wrap64 (x11 + (mx 0 (wrap64 ((mn ((Ah x37 x39).f1) x2) - (mx ((Ah x37 x39).f0) x1)))))) x37 x38 (wrap64 (x39 + 1))) else (none)) else (none)) else ((Df.f k x11 (wrap64 (x3 * (wrap64 (x2 - x1))))).bind fun bt211 => (some (bt211.1, bt211.2, true)))
end
def Bv.f (k : Nat) (l0 : List (S59)) (a1 : Int) (a2 : Int) (a3 : Int) : Option (Int × Int × Bool) := (impl_IsValidStays.f l0).bind fun t207 => (if t207 = true then (if a1 < 0 then (Bv.j0 k l0 a1 a2 a3 true) else (if a1 ≥ a2 then (Bv.j0 k l0 a1 a2 a3 true) else (if a2 > 240 then (Bv.j0 k l0 a1 a2 a3 true) else ((impl_within.f a3 1 1000).bind fun t208 => (Bv.j0 k l0 a1 a2 a3 (!t208)))))) else (Bv.j0 k l0 a1 a2 a3 true))
theorem Bv.Dq : ∀ k, (∀ y0 y1 y2 y3 y4, LeO (Bv.j0 k y0 y1 y2 y3 y4) (Bv.j0 (k + 1) y0 y1 y2 y3 y4)) ∧ (∀ y0 y1 y2 y3 y4 y5 y6, LeO (Bv.l0 k y0 y1 y2 y3 y4 y5 y6) (Bv.l0 (k + 1) y0 y1 y2 y3 y4 y5 y6))
 | 0 => ⟨fun _ _ _ _ _ r h => by simp [Bv.j0] at h, fun _ _ _ _ _ _ _ r h => by simp [Bv.l0] at h⟩
 | k + 1 => by
  obtain ⟨ih0, ih1⟩ := Bv.Dq k
  refine ⟨?_, ?_⟩
  ·intro y0 y1 y2 y3 y4
   unfold Bv.j0
   repeat' first
   | (with_reducible exact ih0 _ _ _ _ _)
   | (with_reducible exact ih1 _ _ _ _ _ _ _)
   | (with_reducible exact Df.mono _ _ _)
   | (with_reducible exact LeO.refl _)
   | (with_reducible exact LeO.none _)
   | (with_reducible refine LeO.ite ?_ ?_)
   | (with_reducible refine LeO.bind ?_ (fun _ => ?_))
   | exact ih0 _ _ _ _ _
   | exact ih1 _ _ _ _ _ _ _
   | exact Df.mono _ _ _
   | exact LeO.none _
   | refine LeO.ite ?_ ?_
   | refine LeO.bind ?_ (fun _ => ?_)
  ·intro y0 y1 y2 y3 y4 y5 y6
   unfold Bv.l0
   repeat' first
   | (with_reducible exact ih0 _ _ _ _ _)
   | (with_reducible exact ih1 _ _ _ _ _ _ _)
   | (with_reducible exact Df.mono _ _ _)
   | (with_reducible exact LeO.refl _)
   | (with_reducible exact LeO.none _)
   | (with_reducible refine LeO.ite ?_ ?_)
   | (with_reducible refine LeO.bind ?_ (fun _ => ?_))
   | exact ih0 _ _ _ _ _
   | exact ih1 _ _ _ _ _ _ _
   | exact Df.mono _ _ _
   | exact LeO.none _
   | refine LeO.ite ?_ ?_
   | refine LeO.bind ?_ (fun _ => ?_)
theorem Bv.mono : ∀ a0 a1 a2 a3 k, LeO (Bv.f k a0 a1 a2 a3) (Bv.f (k + 1) a0 a1 a2 a3) := by
 intro a0 a1 a2 a3 k
 obtain ⟨ih0, ih1⟩ := Bv.Dq k
 unfold Bv.f
 repeat' first
   | (with_reducible exact ih0 _ _ _ _ _)
   | (with_reducible exact ih1 _ _ _ _ _ _ _)
   | (with_reducible exact Df.mono _ _ _)
   | (with_reducible exact LeO.refl _)
   | (with_reducible exact LeO.none _)
   | (with_reducible refine LeO.ite ?_ ?_)
   | (with_reducible refine LeO.bind ?_ (fun _ => ?_))
   | exact ih0 _ _ _ _ _
   | exact ih1 _ _ _ _ _ _ _
   | exact Df.mono _ _ _
   | exact LeO.none _
   | refine LeO.ite ?_ ?_
   | refine LeO.bind ?_ (fun _ => ?_)
set_option maxHeartbeats 8000000 in
set_option maxRecDepth 100000 in
theorem Bv.calls (k : Nat) (A0 : Option Addr) (c0 : Nat) (l0 : List (S59)) (a1 : Int) (a2 : Int) (a3 : Int) (r1 : Int) (r2 : Int) (r3 : Bool) (w : World) (hr0 : Kd.C k59 w A0 l0.length l0) (hc0 : l0.length ≤ c0) (h : Bv.f k l0 a1 a2 a3 = some (r1, r2, r3)) :
  Calls Try.prog 26 #[.slice A0 l0.length c0, .int .i64 a1, .int .i64 a2, .int .i64 a3] w fun e w' => e = .returned (.tuple #[.int .i64 r1, .int .i64 r2, .bool r3]) ∧ Below w.heap.size w w' := by
 have hu59 := Try.underlying59
 have HR0 := Aside0.mk hr0
 have HC0 := Aside0.mk hc0
 clear hr0 hc0
 have HB := Aside0.mk (Below.refl w.heap.size w)
 have H : ((impl_IsValidStays.f l0).bind fun t207 => (if t207 = true then (if a1 < 0 then (Bv.j0 k l0 a1 a2 a3 true) else (if a1 ≥ a2 then (Bv.j0 k l0 a1 a2 a3 true) else (if a2 > 240 then (Bv.j0 k l0 a1 a2 a3 true) else ((impl_within.f a3 1 1000).bind fun t208 => (Bv.j0 k l0 a1 a2 a3 (!t208)))))) else (Bv.j0 k l0 a1 a2 a3 true))) = some (r1, r2, r3) := h
 clear h
 have HC5 := Aside0.mk H
 clear H
 go_enter Try.func26, Try.ntmps26
 go_upto_region 1 with (fail)
 go_cut [36] (fun v36 wc => ∃ (kq : Nat) (x36_4 : Bool), v36 = .bool x36_4 ∧ Aside0 (Bv.j0 kq l0 a1 a2 a3 x36_4 = some (r1, r2, r3)) ∧ Aside0 (kq ≤ k) ∧ Aside0 (Below w.heap.size w wc))
 case first =>
  have H := HC5.out
  clear HC5
  replace H := Option.bind_eq_some_iff.mp H
  obtain ⟨t207, A60, H⟩ := H
  replace H : (if t207 = true then (if a1 < 0 then (Bv.j0 k l0 a1 a2 a3 true) else (if a1 ≥ a2 then (Bv.j0 k l0 a1 a2 a3 true) else (if a2 > 240 then (Bv.j0 k l0 a1 a2 a3 true) else ((impl_within.f a3 1 1000).bind fun t208 => (Bv.j0 k l0 a1 a2 a3 (!t208)))))) else (Bv.j0 k l0 a1 a2 a3 true)) = some (r1, r2, r3) := H
  have A6 := Aside0.mk A60
  clear A60
  by_cases c7 : t207 = true
  ·subst c7
   have H1 : (if a1 < 0 then (Bv.j0 k l0 a1 a2 a3 true) else (if a1 ≥ a2 then (Bv.j0 k l0 a1 a2 a3 true) else (if a2 > 240 then (Bv.j0 k l0 a1 a2 a3 true) else ((impl_within.f a3 1 1000).bind fun t208 => (Bv.j0 k l0 a1 a2 a3 (!t208)))))) = some (r1, r2, r3) := by rw [if_pos rfl] at H; exact H
   clear H
   have H := H1
   clear H1
   by_cases c8 : a1 < 0
   ·rw [if_pos c8] at H
    have c8b0 : decide (a1 < 0) = true := decide_eq_true c8
    clear c8
    (first | rw [c8b0] | (simp only [Aj, Ak]; rw [c8b0]) | skip)
    have H' := Aside0.mk H
    clear H
    go_wp2_with (first | ((with_reducible refine gate_callee (f := 19) rfl ?_); refine goesL_ (some 17) rfl rfl Try.func19 (by kernel_rfl) rfl #[.slice A0 l0.length c0] rfl Yb_ ?_; (with_reducible refine (impl_IsValidStays.calls _ _ l0 true _ ?side1 ?side2 A6.out).mono ?_); (case side1 => repeat (first | exact (Kd.C_below HR0.out HB.out) | (with_reducible refine Kd.Be ?_ _) | (with_reducible refine Kd.Bf ?_ _) | (with_reducible refine Kd.Bh ?_))); (case side2 => exact HC0.out); rintro e w9 ⟨rfl, hb⟩; refine ⟨_, rfl, ?_⟩; have n0_ := Aside0.mk (below_step Ya_ hb); clear HB; have HB := n0_; clear n0_; (try clear hb); (try clear hb2); (try clear hk); (try clear hi)))
    go_meet
    case rel => exact ⟨_, (true), Yd_, H', ⟨by first | omega | exact Nat.le_refl _⟩, ⟨by repeat (first | (with_reducible first | exact HB.out | apply Af | apply Ad | apply Ae) | exact HB.out)⟩⟩
   ·rw [if_neg c8] at H
    have c8b0 : decide (a1 < 0) = false := decide_eq_false c8
    clear c8
    (first | rw [c8b0] | (simp only [Aj, Ak]; rw [c8b0]) | skip)
    by_cases c10 : a1 ≥ a2
    ·rw [if_pos c10] at H
     have c10b0 : decide (a2 ≤ a1) = true := decide_eq_true c10
     clear c10
     have H' := Aside0.mk H
     clear H
     go_wp2_with (first | ((with_reducible refine gate_callee (f := 19) rfl ?_); refine goesL_ (some 17) rfl rfl Try.func19 (by kernel_rfl) rfl #[.slice A0 l0.length c0] rfl Yb_ ?_; (with_reducible refine (impl_IsValidStays.calls _ _ l0 true _ ?side1 ?side2 A6.out).mono ?_); (case side1 => repeat (first | exact (Kd.C_below HR0.out HB.out) | (with_reducible refine Kd.Be ?_ _) | (with_reducible refine Kd.Bf ?_ _) | (with_reducible refine Kd.Bh ?_))); (case side2 => exact HC0.out); rintro e w11 ⟨rfl, hb⟩; refine ⟨_, rfl, ?_⟩; have n0_ := Aside0.mk (below_step Ya_ hb); clear HB; have HB := n0_; clear n0_; (try clear hb); (try clear hb2); (try clear hk); (try clear hi)))
     go_meet
     case rel => exact ⟨_, (true), Yd_, H', ⟨by first | omega | exact Nat.le_refl _⟩, ⟨by repeat (first | (with_reducible first | exact HB.out | apply Af | apply Ad | apply Ae) | exact HB.out)⟩⟩
    ·rw [if_neg c10] at H
     have c10b0 : decide (a2 ≤ a1) = false := decide_eq_false c10
     clear c10
     by_cases c12 : a2 > 240
     ·rw [if_pos c12] at H
      have c12b0 : decide (240 < a2) = true := decide_eq_true c12
      clear c12
      have H' := Aside0.mk H
      clear H
      go_wp2_with (first | ((with_reducible refine gate_callee (f := 19) rfl ?_); refine goesL_ (some 17) rfl rfl Try.func19 (by kernel_rfl) rfl #[.slice A0 l0.length c0] rfl Yb_ ?_; (with_reducible refine (impl_IsValidStays.calls _ _ l0 true _ ?side1 ?side2 A6.out).mono ?_); (case side1 => repeat (first | exact (Kd.C_below HR0.out HB.out) | (with_reducible refine Kd.Be ?_ _) | (with_reducible refine Kd.Bf ?_ _) | (with_reducible refine Kd.Bh ?_))); (case side2 => exact HC0.out); rintro e w13 ⟨rfl, hb⟩; refine ⟨_, rfl, ?_⟩; have n0_ := Aside0.mk (below_step Ya_ hb); clear HB; have HB := n0_; clear n0_; (try clear hb); (try clear hb2); (try clear hk); (try clear hi)))
      go_meet
      case rel => exact ⟨_, (true), Yd_, H', ⟨by first | omega | exact Nat.le_refl _⟩, ⟨by repeat (first | (with_reducible first | exact HB.out | apply Af | apply Ad | apply Ae) | exact HB.out)⟩⟩
     ·rw [if_neg c12] at H
      have c12b0 : decide (240 < a2) = false := decide_eq_false c12
      clear c12
      replace H := Option.bind_eq_some_iff.mp H
      obtain ⟨t208, A140, H⟩ := H
      replace H : (Bv.j0 k l0 a1 a2 a3 (!t208)) = some (r1, r2, r3) := H
      have A14 := Aside0.mk A140
      clear A140
      have H' := Aside0.mk H
      clear H
      go_wp2_with (first | ((with_reducible refine gate_callee (f := 19) rfl ?_); refine goesL_ (some 17) rfl rfl Try.func19 (by kernel_rfl) rfl #[.slice A0 l0.length c0] rfl Yb_ ?_; (with_reducible refine (impl_IsValidStays.calls _ _ l0 true _ ?side1 ?side2 A6.out).mono ?_); (case side1 => repeat (first | exact (Kd.C_below HR0.out HB.out) | (with_reducible refine Kd.Be ?_ _) | (with_reducible refine Kd.Bf ?_ _) | (with_reducible refine Kd.Bh ?_))); (case side2 => exact HC0.out); rintro e w15 ⟨rfl, hb⟩; refine ⟨_, rfl, ?_⟩; have n0_ := Aside0.mk (below_step Ya_ hb); clear HB; have HB := n0_; clear n0_; (try clear hb); (try clear hb2); (try clear hk); (try clear hi)) | (go_at_call 53; (with_reducible refine (impl_within.calls a3 1 1000 t208 _ A14.out).mono ?_); rintro e w' ⟨rfl, ⟨nd, rfl⟩⟩))
      go_meet
      case rel => exact ⟨_, (!t208), Yd_, H', ⟨by first | omega | exact Nat.le_refl _⟩, ⟨by repeat (first | (with_reducible first | exact HB.out | apply Af | apply Ad | apply Ae) | exact HB.out)⟩⟩
  ·replace c7 := Bool.eq_false_iff.mpr c7
   subst c7
   have H1 : (Bv.j0 k l0 a1 a2 a3 true) = some (r1, r2, r3) := by rw [if_neg (show ¬ (false = true) by decide)] at H; exact H
   clear H
   have H := H1
   clear H1
   have H' := Aside0.mk H
   clear H
   go_wp2_with (first | ((with_reducible refine gate_callee (f := 19) rfl ?_); refine goesL_ (some 17) rfl rfl Try.func19 (by kernel_rfl) rfl #[.slice A0 l0.length c0] rfl Yb_ ?_; (with_reducible refine (impl_IsValidStays.calls _ _ l0 false _ ?side1 ?side2 A6.out).mono ?_); (case side1 => repeat (first | exact (Kd.C_below HR0.out HB.out) | (with_reducible refine Kd.Be ?_ _) | (with_reducible refine Kd.Bf ?_ _) | (with_reducible refine Kd.Bh ?_))); (case side2 => exact HC0.out); rintro e w16 ⟨rfl, hb⟩; refine ⟨_, rfl, ?_⟩; have n0_ := Aside0.mk (below_step Ya_ hb); clear HB; have HB := n0_; clear n0_; (try clear hb); (try clear hb2); (try clear hk); (try clear hi)))
   go_meet
   case rel => exact ⟨_, (true), Yd_, H', ⟨by first | omega | exact Nat.le_refl _⟩, ⟨by repeat (first | (with_reducible first | exact HB.out | apply Af | apply Ad | apply Ae) | exact HB.out)⟩⟩
 case rest =>
  clear HC5
  try clear c1
  try clear c2
  try clear p2
  try clear c7
  try clear c8
  try clear c8b0
  try clear c10
  try clear c10b0
  try clear c12
  try clear c12b0
  obtain ⟨kq, x36_4, rfl, HA, HJ4, HB⟩ := hcut
  cases kq with
  | zero => exact absurd HA.out (by simp [Bv.j0])
  | succ kj4 =>
   have H := HA.out
   clear HA
   simp only [Bv.j0] at H
   by_cases c17 : x36_4 = true
   ·subst c17
    have H1 : (some (0, 0, false)) = some (r1, r2, r3) := by rw [if_pos rfl] at H; exact H
    clear H
    have H := H1
    clear H1
    simp only [Option.some.injEq, Prod.mk.injEq] at H
    obtain ⟨rfl, rfl, rfl⟩ := H
    go_wp2
    go_ret3
    exact ⟨by first | rfl | (simp [Aw, Az] <;> rfl) | (simp [*, Aw, Az] <;> rfl), by repeat (first | (with_reducible first | exact HB.out | apply Af | apply Ad | apply Ae) | exact HB.out)⟩
   ·replace c17 := Bool.eq_false_iff.mpr c17
    subst c17
    have H1 : (Bv.l0 kj4 a1 a2 a3 0 l0 (l0.length : Int) 0) = some (r1, r2, r3) := by rw [if_neg (show ¬ (false = true) by decide)] at H; exact H
    clear H
    have H := H1
    clear H1
    have H' := Aside0.mk H
    clear H
    go_wp2
    go_loopg [11, 39] kj4 (fun kq v11 v39 w' => ∃ (x11_2 : Int) (x39_2 : Int), v11 = .int .i64 x11_2 ∧ v39 = .int .i64 x39_2 ∧ Aside0 (Bv.l0 kq a1 a2 a3 x11_2 l0 (l0.length : Int) x39_2 = some (r1, r2, r3)) ∧ Aside0 (kq ≤ kj4) ∧ Aside0 (Below w.heap.size w w'))
    case atStart => exact ⟨(0), (0), Yd_, Yd_, H', ⟨Nat.le_refl _⟩, ⟨by repeat (first | (with_reducible first | exact HB.out | apply Af | apply Ad | apply Ae) | exact HB.out)⟩⟩
    case round =>
     clear H'
     try clear c1
     try clear c2
     try clear p2
     try clear c7
     try clear c8
     try clear c8b0
     try clear c10
     try clear c10b0
     try clear c12
     try clear c12b0
     try clear c17
     try clear p2
     obtain ⟨x11_2, x39_2, rfl, rfl, HA, HK2, HB⟩ := hrel
     cases gk with
     | zero => exact absurd HA.out (by simp [Bv.l0])
     | succ k2 =>
      have H := HA.out
      clear HA
      simp only [Bv.l0] at H
      by_cases c18 : x39_2 < (l0.length : Int)
      ·rw [if_pos c18] at H
       have c18b0 : decide (x39_2 < (l0.length : Int)) = true := decide_eq_true c18
       clear c18
       by_cases c19 : 0 ≤ x39_2
       ·rw [if_pos c19] at H
        have c19b0 : decide (0 ≤ x39_2) = true := decide_eq_true c19
        clear c19
        by_cases c20 : x39_2 < (l0.length : Int)
        ·rw [if_pos c20] at H
         have c20b0 : decide (x39_2 < (l0.length : Int)) = true := decide_eq_true c20
         clear c20
         obtain ⟨ji21, hji21⟩ : ∃ j_ : Int, (mn ((Ah l0 x39_2).f1) a2) = j_ := ⟨_, rfl⟩
         replace H : (Bv.l0 k2 a1 a2 a3 (wrap64 (x11_2 + (mx 0 (wrap64 ((ji21) - (mx ((Ah l0 x39_2).f0) a1)))))) l0 (l0.length : Int) (wrap64 (x39_2 + 1))) = some (r1, r2, r3) := by first | (rw [hji21] at H; exact H) | (simp only [hji21] at H ⊢; exact H)
         have hji21_ : (if a2 < ((Ah l0 x39_2).f1) then a2 else ((Ah l0 x39_2).f1)) = ji21 := hji21
         obtain ⟨ji22, hji22⟩ : ∃ j_ : Int, (mx ((Ah l0 x39_2).f0) a1) = j_ := ⟨_, rfl⟩
         replace H : (Bv.l0 k2 a1 a2 a3 (wrap64 (x11_2 + (mx 0 (wrap64 ((ji21) - (ji22)))))) l0 (l0.length : Int) (wrap64 (x39_2 + 1))) = some (r1, r2, r3) := by first | (rw [hji22] at H; exact H) | (simp only [hji22] at H ⊢; exact H)
         have hji22_ : (if ((Ah l0 x39_2).f0) < a1 then a1 else ((Ah l0 x39_2).f0)) = ji22 := hji22
         obtain ⟨ji23, hji23⟩ : ∃ j_ : Int, (mx 0 (wrap64 ((ji21) - (ji22)))) = j_ := ⟨_, rfl⟩
         replace H : (Bv.l0 k2 a1 a2 a3 (wrap64 (x11_2 + (ji23))) l0 (l0.length : Int) (wrap64 (x39_2 + 1))) = some (r1, r2, r3) := by first | (rw [hji23] at H; exact H) | (simp only [hji23] at H ⊢; exact H)
         have hji23_ : (if 0 < (wrap64 ((ji21) - (ji22))) then (wrap64 ((ji21) - (ji22))) else 0) = ji23 := hji23
         have H' := Aside0.mk H
         clear H
         have p209 : 0 ≤ (x39_2 : Int) := of_decide_eq_true Yc_
         have q209 : x39_2 < (l0.length : Int) := of_decide_eq_true Yc_
         obtain ⟨ad209, e209, hx209_0, hx209_1, hx209_2⟩ := Ez HR0.out x39_2 p209 q209
         cases e209
         replace hx209_0 := (HB.out.cell (World.block_lt_of_cell? w _ hx209_0)).trans hx209_0
         replace hx209_1 := (HB.out.cell (World.block_lt_of_cell? w _ hx209_1)).trans hx209_1
         replace hx209_2 := (HB.out.cell (World.block_lt_of_cell? w _ hx209_2)).trans hx209_2
         replace p209 := eq_true p209
         replace q209 := eq_true q209
         go_wp2_with (first | ((with_reducible refine gate_dst (N := 13) rfl ?_); refine box_event ?hg (N := 13) ?hd (cs := #[.int .i64 0, .int .i64 0, .int .i64 0]) (t := 59) ?hr ?_; (case hd => rfl); (case hg => rfl); (case hr => first | (go_simp; done) | (go_simp; rfl)); intro gb0 hg w24 hbox hb; have n0_ := Aside0.mk (below_step Ya_ hb); have n1_ := Aside0.mk (hbox); have n2_ := Aside0.mk ((by rw [hg]; exact (below_size Ya_) : w.heap.size ≤ gb0)); have n3_ := Aside0.mk ((by rw [hg]; exact (below_size Ya_) : w.heap.size ≤ gb0)); clear HB; have HB := n0_; have BK0 := n1_; have GW0 := n2_; have GE0 := n3_; clear n0_ n1_ n2_ n3_; clear hb hbox hg; have hcz25_0 : w24.cell? ⟨gb0, 0, none⟩ = some (.int .i64 0) := (blk_cell BK0.out 0).trans rfl; have hcz25_1 : w24.cell? ⟨gb0, 1, none⟩ = some (.int .i64 0) := (blk_cell BK0.out 1).trans rfl; have hcz25_2 : w24.cell? ⟨gb0, 2, none⟩ = some (.int .i64 0) := (blk_cell BK0.out 2).trans rfl; have hfz25_0 := blk_frozen BK0.out 0; have hfz25_1 := blk_frozen BK0.out 1; have hfz25_2 := blk_frozen BK0.out 2))
         go_roundg k2
         case measure => have := HJ4.out; have := HK2.out; omega
         case rel => exact ⟨(wrap64 (x11_2 + (ji23))), (wrap64 (x39_2 + 1)), (by first | rfl | (simp; done) | (simp only [← hji23] <;> (first | rfl | simp)) | (simp [*]; done)), Yd_, H', ⟨by have := HJ4.out; have := HK2.out; omega⟩, ⟨by repeat (first | (with_reducible first | exact HB.out | apply Af | apply Ad | apply Ae | refine Ar ?_ GE0.out) | exact HB.out)⟩⟩
        ·rw [if_neg c20] at H
         exact absurd H (by simp)
       ·rw [if_neg c19] at H
        exact absurd H (by simp)
      ·rw [if_neg c18] at H
       have c18b0 : decide (x39_2 < (l0.length : Int)) = false := decide_eq_false c18
       clear c18
       replace H := Option.bind_eq_some_iff.mp H
       obtain ⟨⟨t211, t212⟩, A260, H⟩ := H
       replace H : (some (t211, t212, true)) = some (r1, r2, r3) := H
       have A26 := Aside0.mk A260
       clear A260
       simp only [Option.some.injEq, Prod.mk.injEq] at H
       obtain ⟨rfl, rfl, rfl⟩ := H
       go_wp2_with (first | ((with_reducible refine gate_callee (f := 62) rfl ?_); refine goesL_ (some 63) rfl rfl Try.func62 (by kernel_rfl) rfl #[.int .i64 x11_2, .int .i64 (wrap64 (a3 * (wrap64 (a2 - a1))))] rfl Yb_ ?_; (with_reducible refine (Df.calls k2 x11_2 (wrap64 (a3 * (wrap64 (a2 - a1)))) t211 t212 _ A26.out).mono ?_); rintro e w' ⟨rfl, ⟨nd, rfl⟩⟩; refine ⟨_, rfl, ?_⟩))
       go_ret3
       exact ⟨by first | rfl | (simp [Aw, Az] <;> rfl) | (simp [*, Aw, Az] <;> rfl), by repeat (first | (with_reducible first | exact HB.out | apply Af | apply Ad | apply Ae) | exact HB.out)⟩
end Go.Proofs.Ytolaplcjbmjlmaa.X

namespace Go.Proofs.Ytolaplcjbmjlmaa.X
open Go.RowKit Go.Proofs.YtolaplcjbmjlmaaW.PrintWords Go.Proofs.YtolaplcjbmjlmaaW.PrintLast Go.Proofs.YtolaplcjbmjlmaaW.PrintMore
attribute [local go_sem] max2_int min2_int max_two min_two max_three min_three max_four min_four
def Ce.j0 : Nat → List (S62) → List (S59) → Bool → Option (Bool)
 | 0, _, _, _ => none
 | k + 1, x0, x13, x55 => if x55 = true then (some false) else ((Bd.f k x0).bind fun t226 => ((Bq.f k x13 t226).bind fun t229 => (if t229 = true then (some true) else (some false))))
def Ce.f (k : Nat) (l0 : List (S62)) (a1 : Int) (a2 : Int) (a3 : Int) : Option (Bool) := (Fb.f l0 1048576).bind fun t213 => (if t213 < 0 then (some true) else ((Bd.f k l0).bind fun t214 => ((Cb.f k t214 a1 a2 a3).bind fun bt217 => ((Bd.f k l0).bind fun t220 => ((Bv.f k t220 a1 a2 a3).bind fun bt223 => (if bt223.1 = bt217.1 then (if bt223.2.1 = bt217.2.1 then (Ce.j0 k l0 t220 (bt223.2.2 != bt217.2.2)) else (Ce.j0 k l0 t220 true)) else (Ce.j0 k l0 t220 true)))))))
theorem Ce.Dq : ∀ k, (∀ y0 y1 y2, LeO (Ce.j0 k y0 y1 y2) (Ce.j0 (k + 1) y0 y1 y2))
 | 0 => fun _ _ _ r h => by simp [Ce.j0] at h
 | k + 1 => by
  have ih0 := Ce.Dq k
  ·intro y0 y1 y2
   unfold Ce.j0
   repeat' first
   | (with_reducible exact ih0 _ _ _)
   | (with_reducible exact Bv.mono _ _ _ _ _)
   | (with_reducible exact Bq.mono _ _ _)
   | (with_reducible exact Bd.mono _ _)
   | (with_reducible exact Cb.mono _ _ _ _ _)
   | (with_reducible exact LeO.refl _)
   | (with_reducible exact LeO.none _)
   | (with_reducible refine LeO.ite ?_ ?_)
   | (with_reducible refine LeO.bind ?_ (fun _ => ?_))
   | exact ih0 _ _ _
   | exact Bv.mono _ _ _ _ _
   | exact Bq.mono _ _ _
   | exact Bd.mono _ _
   | exact Cb.mono _ _ _ _ _
   | exact LeO.none _
   | refine LeO.ite ?_ ?_
   | refine LeO.bind ?_ (fun _ => ?_)
theorem Ce.mono : ∀ a0 a1 a2 a3 k, LeO (Ce.f k a0 a1 a2 a3) (Ce.f (k + 1) a0 a1 a2 a3) := by
 intro a0 a1 a2 a3 k
 have ih0 := Ce.Dq k
 unfold Ce.f
 repeat' first
   | (with_reducible exact ih0 _ _ _)
   | (with_reducible exact Bv.mono _ _ _ _ _)
   | (with_reducible exact Bq.mono _ _ _)
   | (with_reducible exact Bd.mono _ _)
   | (with_reducible exact Cb.mono _ _ _ _ _)
   | (with_reducible exact LeO.refl _)
   | (with_reducible exact LeO.none _)
   | (with_reducible refine LeO.ite ?_ ?_)
   | (with_reducible refine LeO.bind ?_ (fun _ => ?_))
   | exact ih0 _ _ _
   | exact Bv.mono _ _ _ _ _
   | exact Bq.mono _ _ _
   | exact Bd.mono _ _
   | exact Cb.mono _ _ _ _ _
   | exact LeO.none _
   | refine LeO.ite ?_ ?_
   | refine LeO.bind ?_ (fun _ => ?_)
set_option maxHeartbeats 8000000 in
set_option maxRecDepth 100000 in
theorem Ce.calls (k : Nat) (A0 : Option Addr) (c0 : Nat) (l0 : List (S62)) (a1 : Int) (a2 : Int) (a3 : Int) (r : Bool) (w : World) (hr0 : Kd.C k62 w A0 l0.length l0) (hc0 : l0.length ≤ c0) (h : Ce.f k l0 a1 a2 a3 = some r) (hr_ : r = true) :
  Calls Try.prog 7 #[.slice A0 l0.length c0, .int .i64 a1, .int .i64 a2, .int .i64 a3] w fun e w' => e = .returned (.bool r) ∧ Below w.heap.size w w' := by
 have HR_ := Aside0.mk hr_
 clear hr_
 have HR0 := Aside0.mk hr0
 have HC0 := Aside0.mk hc0
 clear hr0 hc0
 have HB := Aside0.mk (Below.refl w.heap.size w)
 have H : ((Fb.f l0 1048576).bind fun t213 => (if t213 < 0 then (some true) else ((Bd.f k l0).bind fun t214 => ((Cb.f k t214 a1 a2 a3).bind fun bt217 => ((Bd.f k l0).bind fun t220 => ((Bv.f k t220 a1 a2 a3).bind fun bt223 => (if bt223.1 = bt217.1 then (if bt223.2.1 = bt217.2.1 then (Ce.j0 k l0 t220 (bt223.2.2 != bt217.2.2)) else (Ce.j0 k l0 t220 true)) else (Ce.j0 k l0 t220 true)))))))) = some r := h
 clear h
 replace H := Option.bind_eq_some_iff.mp H
 obtain ⟨t213, A50, H⟩ := H
 replace H : (if t213 < 0 then (some true) else ((Bd.f k l0).bind fun t214 => ((Cb.f k t214 a1 a2 a3).bind fun bt217 => ((Bd.f k l0).bind fun t220 => ((Bv.f k t220 a1 a2 a3).bind fun bt223 => (if bt223.1 = bt217.1 then (if bt223.2.1 = bt217.2.1 then (Ce.j0 k l0 t220 (bt223.2.2 != bt217.2.2)) else (Ce.j0 k l0 t220 true)) else (Ce.j0 k l0 t220 true))))))) = some r := H
 have A5 := Aside0.mk A50
 clear A50
 by_cases c6 : t213 < 0
 ·rw [if_pos c6] at H
  have c6b0 : decide (t213 < 0) = true := decide_eq_true c6
  clear c6
  obtain rfl := Option.some.inj H
  go_enter Try.func7, Try.ntmps7
  go_wp2_with (first | ((with_reducible refine gate_callee (f := 16) rfl ?_); refine goesL_ (some 19) rfl rfl Try.func16 (by kernel_rfl) rfl #[.slice A0 l0.length c0, .int .i64 1048576] rfl Yb_ ?_; (with_reducible refine (Fb.calls _ _ l0 1048576 t213 _ ?side1 ?side2 A5.out).mono ?_); (case side1 => repeat (first | exact HR0.out | (with_reducible refine Kd.Be ?_ _) | (with_reducible refine Kd.Bf ?_ _) | (with_reducible refine Kd.Bh ?_))); (case side2 => exact HC0.out); rintro e w' ⟨rfl, ⟨nd, rfl⟩⟩; refine ⟨_, rfl, ?_⟩))
  go_ret
  exact ⟨by first | rfl | (simp [Aw, Az] <;> rfl) | (simp [*, Aw, Az] <;> rfl), by repeat (first | (with_reducible first | exact HB.out | apply Af | apply Ad | apply Ae) | exact HB.out)⟩
 ·rw [if_neg c6] at H
  have c6b0 : decide (t213 < 0) = false := decide_eq_false c6
  clear c6
  replace H := Option.bind_eq_some_iff.mp H
  obtain ⟨t214, A70, H⟩ := H
  replace H : ((Cb.f k t214 a1 a2 a3).bind fun bt217 => ((Bd.f k l0).bind fun t220 => ((Bv.f k t220 a1 a2 a3).bind fun bt223 => (if bt223.1 = bt217.1 then (if bt223.2.1 = bt217.2.1 then (Ce.j0 k l0 t220 (bt223.2.2 != bt217.2.2)) else (Ce.j0 k l0 t220 true)) else (Ce.j0 k l0 t220 true))))) = some r := H
  have A7 := Aside0.mk A70
  clear A70
  replace H := Option.bind_eq_some_iff.mp H
  obtain ⟨⟨t217, t218, t219⟩, A80, H⟩ := H
  replace H : ((Bd.f k l0).bind fun t220 => ((Bv.f k t220 a1 a2 a3).bind fun bt223 => (if bt223.1 = t217 then (if bt223.2.1 = t218 then (Ce.j0 k l0 t220 (bt223.2.2 != t219)) else (Ce.j0 k l0 t220 true)) else (Ce.j0 k l0 t220 true)))) = some r := H
  have A8 := Aside0.mk A80
  clear A80
  replace H := Option.bind_eq_some_iff.mp H
  obtain ⟨t220, A90, H⟩ := H
  replace H : ((Bv.f k t220 a1 a2 a3).bind fun bt223 => (if bt223.1 = t217 then (if bt223.2.1 = t218 then (Ce.j0 k l0 t220 (bt223.2.2 != t219)) else (Ce.j0 k l0 t220 true)) else (Ce.j0 k l0 t220 true))) = some r := H
  have A9 := Aside0.mk A90
  clear A90
  replace H := Option.bind_eq_some_iff.mp H
  obtain ⟨⟨t223, t224, t225⟩, A100, H⟩ := H
  replace H : (if t223 = t217 then (if t224 = t218 then (Ce.j0 k l0 t220 (t225 != t219)) else (Ce.j0 k l0 t220 true)) else (Ce.j0 k l0 t220 true)) = some r := H
  have A10 := Aside0.mk A100
  clear A100
  have HC11 := Aside0.mk H
  clear H
  go_enter Try.func7, Try.ntmps7
  go_upto_region 8 with (first | ((with_reducible refine gate_callee (f := 16) rfl ?_); refine goesL_ (some 19) rfl rfl Try.func16 (by kernel_rfl) rfl #[.slice A0 l0.length c0, .int .i64 1048576] rfl Yb_ ?_; (with_reducible refine (Fb.calls _ _ l0 1048576 t213 _ ?side1 ?side2 A5.out).mono ?_); (case side1 => repeat (first | exact HR0.out | (with_reducible refine Kd.Be ?_ _) | (with_reducible refine Kd.Bf ?_ _) | (with_reducible refine Kd.Bh ?_))); (case side2 => exact HC0.out); rintro e w' ⟨rfl, ⟨nd, rfl⟩⟩; refine ⟨_, rfl, ?_⟩) | ((with_reducible refine gate_callee (f := 18) rfl ?_); refine goesL_ (some 24) rfl rfl Try.func18 (by kernel_rfl) rfl #[.slice A0 l0.length c0] rfl Yb_ ?_; (with_reducible refine (Bd.calls k _ _ l0 t214 _ ?side1 ?side2 A7.out).mono ?_); (case side1 => repeat (first | exact HR0.out | (with_reducible refine Kd.Be ?_ _) | (with_reducible refine Kd.Bf ?_ _) | (with_reducible refine Kd.Bh ?_))); (case side2 => exact HC0.out); rintro e w12 ⟨v215, rfl, ho0, hb⟩; refine ⟨_, rfl, ?_⟩; have n0_ := Aside0.mk (Kd.R_lower ho0 (below_size Ya_)); have n1_ := Aside0.mk (below_step Ya_ hb); clear HB; have HO216 := n0_; have HB := n1_; clear n0_ n1_; (try clear hb); (try clear hb2); (try clear hk); (try clear hi); (try clear ho0); obtain ⟨Ao13, co13, eo13⟩ := Kd.R_slice HO216.out; subst eo13) | ((with_reducible refine gate_callee (f := 25) rfl ?_); refine goesL_ (some 28) rfl rfl Try.func25 (by kernel_rfl) rfl #[.slice Ao13 t214.length co13, .int .i64 a1, .int .i64 a2, .int .i64 a3] rfl Yb_ ?_; (with_reducible refine (Cb.calls k _ _ t214 a1 a2 a3 t217 t218 t219 _ ?side1 ?side2 A8.out).mono ?_); (case side1 => repeat (first | exact (Kd.R_reads' HO216.out).2.2 | (with_reducible refine Kd.Be ?_ _) | (with_reducible refine Kd.Bf ?_ _) | (with_reducible refine Kd.Bh ?_))); (case side2 => exact (Kd.R_reads' HO216.out).2.1); rintro e w14 ⟨rfl, hb⟩; refine ⟨_, rfl, ?_⟩; have n0_ := Aside0.mk (Kd.R_below Ydf_ hb); have n1_ := Aside0.mk (below_step Ya_ hb); clear HO216; clear HB; have HO216 := n0_; have HB := n1_; clear n0_ n1_; (try clear hb); (try clear hb2); (try clear hk); (try clear hi)) | ((with_reducible refine gate_callee (f := 18) rfl ?_); refine goesL_ (some 33) rfl rfl Try.func18 (by kernel_rfl) rfl #[.slice A0 l0.length c0] rfl Yb_ ?_; (with_reducible refine (Bd.calls k _ _ l0 t220 _ ?side1 ?side2 A9.out).mono ?_); (case side1 => repeat (first | exact (Kd.C_below HR0.out HB.out) | (with_reducible refine Kd.Be ?_ _) | (with_reducible refine Kd.Bf ?_ _) | (with_reducible refine Kd.Bh ?_))); (case side2 => exact HC0.out); rintro e w15 ⟨v221, rfl, ho0, hb⟩; refine ⟨_, rfl, ?_⟩; have n0_ := Aside0.mk (Kd.Gs Ydf_ (Kd.Gv ho0) hb); have n1_ := Aside0.mk (Kd.R_lower (Kd.G7 ho0 (Kd.R_lt Ydf_)) (below_size Ya_)); have n2_ := Aside0.mk (below_step Ya_ hb); clear HO216; clear HB; have HO216 := n0_; have HO222 := n1_; have HB := n2_; clear n0_ n1_ n2_; (try clear hb); (try clear hb2); (try clear hk); (try clear hi); (try clear ho0); obtain ⟨Ao16, co16, eo16⟩ := Kd.R_slice HO222.out; subst eo16) | ((with_reducible refine gate_callee (f := 26) rfl ?_); refine goesL_ (some 39) rfl rfl Try.func26 (by kernel_rfl) rfl #[.slice Ao16 t220.length co16, .int .i64 a1, .int .i64 a2, .int .i64 a3] rfl Yb_ ?_; (with_reducible refine (Bv.calls k _ _ t220 a1 a2 a3 t223 t224 t225 _ ?side1 ?side2 A10.out).mono ?_); (case side1 => repeat (first | exact (Kd.R_reads' HO222.out).2.2 | (with_reducible refine Kd.Be ?_ _) | (with_reducible refine Kd.Bf ?_ _) | (with_reducible refine Kd.Bh ?_))); (case side2 => exact (Kd.R_reads' HO222.out).2.1); rintro e w17 ⟨rfl, hb⟩; refine ⟨_, rfl, ?_⟩; have n0_ := Aside0.mk (Kd.R_below Ydf_ hb); have n1_ := Aside0.mk (Kd.R_below (by (with_reducible repeat (first | apply Kd.Ap | apply Kd.Am | apply Kd.Ba)); exact HO222.out) hb); have n2_ := Aside0.mk (below_step Ya_ hb); clear HO216; clear HO222; clear HB; have HO216 := n0_; have HO222 := n1_; have HB := n2_; clear n0_ n1_ n2_; (try clear hb); (try clear hb2); (try clear hk); (try clear hi)))
  (try simp only [Act.put, List.setIfInBounds_toArray, List.set_cons_zero, List.set_cons_succ])
  go_cut [55] (fun v55 wc => ∃ (kq : Nat) (x55_10 : Bool), v55 = .bool x55_10 ∧ Aside0 (Ce.j0 kq l0 t220 x55_10 = some r) ∧ Aside0 (kq ≤ k) ∧ Aside0 (Kd.R k59 59 wc w.heap.size (fun _ => True) (.slice Ao16 t220.length co16) t220) ∧ Aside0 (Below w.heap.size w wc))
  case first =>
   have H := HC11.out
   clear HC11
   by_cases c18 : t223 = t217
   ·rw [if_pos c18] at H
    have c18b0 : (t223 == t217) = true := beq_iff_eq.mpr c18
    have c18b1 : (t223 != t217) = false := bne_eq_false_iff_eq.mpr c18
    clear c18
    (first | rw [c18b0] | (simp only [Aj, Ak]; rw [c18b0]) | skip)
    by_cases c19 : t224 = t218
    ·rw [if_pos c19] at H
     have c19b0 : (t224 == t218) = true := beq_iff_eq.mpr c19
     have c19b1 : (t224 != t218) = false := bne_eq_false_iff_eq.mpr c19
     clear c19
     have H' := Aside0.mk H
     clear H
     go_wp2
     go_meet
     case rel => exact ⟨_, ((t225 != t219)), Yd_, H', ⟨by first | omega | exact Nat.le_refl _⟩, ⟨by (with_reducible repeat (first | apply Kd.Ap | apply Kd.Am | apply Kd.Ba)); exact Kd.R_mono HO222.out (fun _ hk => trivial)⟩, ⟨by repeat (first | (with_reducible first | exact HB.out | apply Af | apply Ad | apply Ae) | exact HB.out)⟩⟩
    ·rw [if_neg c19] at H
     have c19b0 : (t224 == t218) = false := beq_eq_false_iff_ne.mpr c19
     have c19b1 : (t224 != t218) = true := bne_iff_ne.mpr c19
     have H' := Aside0.mk H
     clear H
     go_wp2
     go_meet
     case rel => exact ⟨_, (true), Yd_, H', ⟨by first | omega | exact Nat.le_refl _⟩, ⟨by (with_reducible repeat (first | apply Kd.Ap | apply Kd.Am | apply Kd.Ba)); exact Kd.R_mono HO222.out (fun _ hk => trivial)⟩, ⟨by repeat (first | (with_reducible first | exact HB.out | apply Af | apply Ad | apply Ae) | exact HB.out)⟩⟩
   ·rw [if_neg c18] at H
    have c18b0 : (t223 == t217) = false := beq_eq_false_iff_ne.mpr c18
    have c18b1 : (t223 != t217) = true := bne_iff_ne.mpr c18
    (first | rw [c18b0] | (simp only [Aj, Ak]; rw [c18b0]) | skip)
    have H' := Aside0.mk H
    clear H
    go_wp2
    go_meet
    case rel => exact ⟨_, (true), Yd_, H', ⟨by first | omega | exact Nat.le_refl _⟩, ⟨by (with_reducible repeat (first | apply Kd.Ap | apply Kd.Am | apply Kd.Ba)); exact Kd.R_mono HO222.out (fun _ hk => trivial)⟩, ⟨by repeat (first | (with_reducible first | exact HB.out | apply Af | apply Ad | apply Ae) | exact HB.out)⟩⟩
  case rest =>
   clear HC11
   try clear c1
   try clear c2
   try clear p2
   try clear c6
   try clear c6b0
   try clear c7
   try clear c16
   try clear c18
   try clear c18b0
   try clear c18b1
   try clear c19
   try clear c19b0
   try clear c19b1
   obtain ⟨kq, x55_10, rfl, HA, HJ10, HO_13, HB⟩ := hcut
   cases kq with
   | zero => exact absurd HA.out (by simp [Ce.j0])
   | succ kj10 =>
    have H := HA.out
    clear HA
    simp only [Ce.j0] at H
    by_cases c20 : x55_10 = true
    ·subst c20
     have H1 : (some false) = some r := by rw [if_pos rfl] at H; exact H
     clear H
     have H := H1
     clear H1
     exact absurd (Option.some.inj H) (by rw [HR_.out]; decide)
    ·replace c20 := Bool.eq_false_iff.mpr c20
     subst c20
     have H1 : ((Bd.f kj10 l0).bind fun t226 => ((Bq.f kj10 t220 t226).bind fun t229 => (if t229 = true then (some true) else (some false)))) = some r := by rw [if_neg (show ¬ (false = true) by decide)] at H; exact H
     clear H
     have H := H1
     clear H1
     replace H := Option.bind_eq_some_iff.mp H
     obtain ⟨t226, A210, H⟩ := H
     replace H : ((Bq.f kj10 t220 t226).bind fun t229 => (if t229 = true then (some true) else (some false))) = some r := H
     have A21 := Aside0.mk A210
     clear A210
     replace H := Option.bind_eq_some_iff.mp H
     obtain ⟨t229, A220, H⟩ := H
     replace H : (if t229 = true then (some true) else (some false)) = some r := H
     have A22 := Aside0.mk A220
     clear A220
     by_cases c23 : t229 = true
     ·subst c23
      have H1 : (some true) = some r := by rw [if_pos rfl] at H; exact H
      clear H
      have H := H1
      clear H1
      obtain rfl := Option.some.inj H
      go_wp2_with (first | ((with_reducible refine gate_callee (f := 18) rfl ?_); refine goesL_ (some 58) rfl rfl Try.func18 (by kernel_rfl) rfl #[.slice A0 l0.length c0] rfl Yb_ ?_; (with_reducible refine (Bd.calls kj10 _ _ l0 t226 _ ?side1 ?side2 A21.out).mono ?_); (case side1 => repeat (first | exact (Kd.C_below HR0.out HB.out) | (with_reducible refine Kd.Be ?_ _) | (with_reducible refine Kd.Bf ?_ _) | (with_reducible refine Kd.Bh ?_))); (case side2 => exact HC0.out); rintro e w24 ⟨v227, rfl, ho0, hb⟩; refine ⟨_, rfl, ?_⟩; have n0_ := Aside0.mk (Kd.Gs Yed_ (Kd.Gv ho0) hb); have n1_ := Aside0.mk (Kd.R_lower (Kd.G7 ho0 (Kd.R_lt Yed_)) (below_size Ya_)); have n2_ := Aside0.mk (below_step Ya_ hb); clear HO_13; clear HB; have HO_13 := n0_; have HO228 := n1_; have HB := n2_; clear n0_ n1_ n2_; (try clear hb); (try clear hb2); (try clear hk); (try clear hi); (try clear ho0); obtain ⟨Ao25, co25, eo25⟩ := Kd.R_slice HO228.out; subst eo25) | ((with_reducible refine gate_callee (f := 20) rfl ?_); refine goesL_ (some 59) rfl rfl Try.func20 (by kernel_rfl) rfl #[.slice Ao16 t220.length co16, .slice Ao25 t226.length co25] rfl Yb_ ?_; (with_reducible refine (Bq.calls kj10 _ _ t220 _ _ t226 true _ ?side1 ?side2 ?side3 ?side4 A22.out).mono ?_); (case side1 => repeat (first | exact (Kd.R_reads' HO_13.out).2.2 | (with_reducible refine Kd.Be ?_ _) | (with_reducible refine Kd.Bf ?_ _) | (with_reducible refine Kd.Bh ?_))); (case side2 => exact (Kd.R_reads' HO_13.out).2.1); (case side3 => repeat (first | exact (Kd.R_reads' HO228.out).2.2 | (with_reducible refine Kd.Be ?_ _) | (with_reducible refine Kd.Bf ?_ _) | (with_reducible refine Kd.Bh ?_))); (case side4 => exact (Kd.R_reads' HO228.out).2.1); rintro e w26 ⟨rfl, hb⟩; refine ⟨_, rfl, ?_⟩; have n0_ := Aside0.mk (Kd.R_below Yed_ hb); have n1_ := Aside0.mk (Kd.R_below (by (with_reducible repeat (first | apply Kd.Ap | apply Kd.Am | apply Kd.Ba)); exact HO228.out) hb); have n2_ := Aside0.mk (below_step Ya_ hb); clear HO_13; clear HO228; clear HB; have HO_13 := n0_; have HO228 := n1_; have HB := n2_; clear n0_ n1_ n2_; (try clear hb); (try clear hb2); (try clear hk); (try clear hi)))
      go_ret
      exact ⟨by first | rfl | (simp [Aw, Az] <;> rfl) | (simp [*, Aw, Az] <;> rfl), by repeat (first | (with_reducible first | exact HB.out | apply Af | apply Ad | apply Ae) | exact HB.out)⟩
     ·replace c23 := Bool.eq_false_iff.mpr c23
      subst c23
      have H1 : (some false) = some r := by rw [if_neg (show ¬ (false = true) by decide)] at H; exact H
      clear H
      have H := H1
      clear H1
      exact absurd (Option.some.inj H) (by rw [HR_.out]; decide)
end Go.Proofs.Ytolaplcjbmjlmaa.X

namespace Go.Proofs.Ytolaplcjbmjlmaa.X
open Go.RowKit Go.Proofs.YtolaplcjbmjlmaaW.PrintWords Go.Proofs.YtolaplcjbmjlmaaW.PrintLast Go.Proofs.YtolaplcjbmjlmaaW.PrintMore
attribute [local go_sem] max2_int min2_int max_two min_two max_three min_three max_four min_four
def C9.j0 : Nat → List (S62) → List (S59) → Bool → Option (Bool)
 | 0, _, _, _ => none
 | k + 1, x0, x7, x43 => if x43 = true then (some false) else ((Bd.f k x0).bind fun t274 => ((Bq.f k x7 t274).bind fun t277 => (if t277 = true then (some true) else (some false))))
def C9.f (k : Nat) (l0 : List (S62)) : Option (Bool) := (Fb.f l0 1048576).bind fun t261 => (if t261 < 0 then (some true) else ((Bd.f k l0).bind fun t262 => ((Bl.f k t262).bind fun bt265 => ((Bd.f k l0).bind fun t268 => ((Cc.f k t268).bind fun bt271 => (if bt271.1 = bt265.1 then (if bt271.2.1 = bt265.2.1 then (C9.j0 k l0 t268 (bt271.2.2 != bt265.2.2)) else (C9.j0 k l0 t268 true)) else (C9.j0 k l0 t268 true)))))))
theorem C9.Dq : ∀ k, (∀ y0 y1 y2, LeO (C9.j0 k y0 y1 y2) (C9.j0 (k + 1) y0 y1 y2))
 | 0 => fun _ _ _ r h => by simp [C9.j0] at h
 | k + 1 => by
  have ih0 := C9.Dq k
  ·intro y0 y1 y2
   unfold C9.j0
   repeat' first
   | (with_reducible exact ih0 _ _ _)
   | (with_reducible exact Cc.mono _ _)
   | (with_reducible exact Bq.mono _ _ _)
   | (with_reducible exact Bd.mono _ _)
   | (with_reducible exact Bl.mono _ _)
   | (with_reducible exact LeO.refl _)
   | (with_reducible exact LeO.none _)
   | (with_reducible refine LeO.ite ?_ ?_)
   | (with_reducible refine LeO.bind ?_ (fun _ => ?_))
   | exact ih0 _ _ _
   | exact Cc.mono _ _
   | exact Bq.mono _ _ _
   | exact Bd.mono _ _
   | exact Bl.mono _ _
   | exact LeO.none _
   | refine LeO.ite ?_ ?_
   | refine LeO.bind ?_ (fun _ => ?_)
theorem C9.mono : ∀ a0 k, LeO (C9.f k a0) (C9.f (k + 1) a0) := by
 intro a0 k
 have ih0 := C9.Dq k
 unfold C9.f
 repeat' first
   | (with_reducible exact ih0 _ _ _)
   | (with_reducible exact Cc.mono _ _)
   | (with_reducible exact Bq.mono _ _ _)
   | (with_reducible exact Bd.mono _ _)
   | (with_reducible exact Bl.mono _ _)
   | (with_reducible exact LeO.refl _)
   | (with_reducible exact LeO.none _)
   | (with_reducible refine LeO.ite ?_ ?_)
   | (with_reducible refine LeO.bind ?_ (fun _ => ?_))
   | exact ih0 _ _ _
   | exact Cc.mono _ _
   | exact Bq.mono _ _ _
   | exact Bd.mono _ _
   | exact Bl.mono _ _
   | exact LeO.none _
   | refine LeO.ite ?_ ?_
   | refine LeO.bind ?_ (fun _ => ?_)
set_option maxHeartbeats 8000000 in
set_option maxRecDepth 100000 in
theorem C9.calls (k : Nat) (A0 : Option Addr) (c0 : Nat) (l0 : List (S62)) (r : Bool) (w : World) (hr0 : Kd.C k62 w A0 l0.length l0) (hc0 : l0.length ≤ c0) (h : C9.f k l0 = some r) (hr_ : r = true) :
  Calls Try.prog 8 #[.slice A0 l0.length c0] w fun e w' => e = .returned (.bool r) ∧ Below w.heap.size w w' := by
 have HR_ := Aside0.mk hr_
 clear hr_
 have HR0 := Aside0.mk hr0
 have HC0 := Aside0.mk hc0
 clear hr0 hc0
 have HB := Aside0.mk (Below.refl w.heap.size w)
 have H : ((Fb.f l0 1048576).bind fun t261 => (if t261 < 0 then (some true) else ((Bd.f k l0).bind fun t262 => ((Bl.f k t262).bind fun bt265 => ((Bd.f k l0).bind fun t268 => ((Cc.f k t268).bind fun bt271 => (if bt271.1 = bt265.1 then (if bt271.2.1 = bt265.2.1 then (C9.j0 k l0 t268 (bt271.2.2 != bt265.2.2)) else (C9.j0 k l0 t268 true)) else (C9.j0 k l0 t268 true)))))))) = some r := h
 clear h
 replace H := Option.bind_eq_some_iff.mp H
 obtain ⟨t261, A20, H⟩ := H
 replace H : (if t261 < 0 then (some true) else ((Bd.f k l0).bind fun t262 => ((Bl.f k t262).bind fun bt265 => ((Bd.f k l0).bind fun t268 => ((Cc.f k t268).bind fun bt271 => (if bt271.1 = bt265.1 then (if bt271.2.1 = bt265.2.1 then (C9.j0 k l0 t268 (bt271.2.2 != bt265.2.2)) else (C9.j0 k l0 t268 true)) else (C9.j0 k l0 t268 true))))))) = some r := H
 have A2 := Aside0.mk A20
 clear A20
 by_cases c3 : t261 < 0
 ·rw [if_pos c3] at H
  have c3b0 : decide (t261 < 0) = true := decide_eq_true c3
  clear c3
  obtain rfl := Option.some.inj H
  go_enter Try.func8, Try.ntmps8
  go_wp2_with (first | ((with_reducible refine gate_callee (f := 16) rfl ?_); refine goesL_ (some 13) rfl rfl Try.func16 (by kernel_rfl) rfl #[.slice A0 l0.length c0, .int .i64 1048576] rfl Yb_ ?_; (with_reducible refine (Fb.calls _ _ l0 1048576 t261 _ ?side1 ?side2 A2.out).mono ?_); (case side1 => repeat (first | exact HR0.out | (with_reducible refine Kd.Be ?_ _) | (with_reducible refine Kd.Bf ?_ _) | (with_reducible refine Kd.Bh ?_))); (case side2 => exact HC0.out); rintro e w' ⟨rfl, ⟨nd, rfl⟩⟩; refine ⟨_, rfl, ?_⟩))
  go_ret
  exact ⟨by first | rfl | (simp [Aw, Az] <;> rfl) | (simp [*, Aw, Az] <;> rfl), by repeat (first | (with_reducible first | exact HB.out | apply Af | apply Ad | apply Ae) | exact HB.out)⟩
 ·rw [if_neg c3] at H
  have c3b0 : decide (t261 < 0) = false := decide_eq_false c3
  clear c3
  replace H := Option.bind_eq_some_iff.mp H
  obtain ⟨t262, A40, H⟩ := H
  replace H : ((Bl.f k t262).bind fun bt265 => ((Bd.f k l0).bind fun t268 => ((Cc.f k t268).bind fun bt271 => (if bt271.1 = bt265.1 then (if bt271.2.1 = bt265.2.1 then (C9.j0 k l0 t268 (bt271.2.2 != bt265.2.2)) else (C9.j0 k l0 t268 true)) else (C9.j0 k l0 t268 true))))) = some r := H
  have A4 := Aside0.mk A40
  clear A40
  replace H := Option.bind_eq_some_iff.mp H
  obtain ⟨⟨t265, t266, t267⟩, A50, H⟩ := H
  replace H : ((Bd.f k l0).bind fun t268 => ((Cc.f k t268).bind fun bt271 => (if bt271.1 = t265 then (if bt271.2.1 = t266 then (C9.j0 k l0 t268 (bt271.2.2 != t267)) else (C9.j0 k l0 t268 true)) else (C9.j0 k l0 t268 true)))) = some r := H
  have A5 := Aside0.mk A50
  clear A50
  replace H := Option.bind_eq_some_iff.mp H
  obtain ⟨t268, A60, H⟩ := H
  replace H : ((Cc.f k t268).bind fun bt271 => (if bt271.1 = t265 then (if bt271.2.1 = t266 then (C9.j0 k l0 t268 (bt271.2.2 != t267)) else (C9.j0 k l0 t268 true)) else (C9.j0 k l0 t268 true))) = some r := H
  have A6 := Aside0.mk A60
  clear A60
  replace H := Option.bind_eq_some_iff.mp H
  obtain ⟨⟨t271, t272, t273⟩, A70, H⟩ := H
  replace H : (if t271 = t265 then (if t272 = t266 then (C9.j0 k l0 t268 (t273 != t267)) else (C9.j0 k l0 t268 true)) else (C9.j0 k l0 t268 true)) = some r := H
  have A7 := Aside0.mk A70
  clear A70
  have HC8 := Aside0.mk H
  clear H
  go_enter Try.func8, Try.ntmps8
  go_upto_region 8 with (first | ((with_reducible refine gate_callee (f := 16) rfl ?_); refine goesL_ (some 13) rfl rfl Try.func16 (by kernel_rfl) rfl #[.slice A0 l0.length c0, .int .i64 1048576] rfl Yb_ ?_; (with_reducible refine (Fb.calls _ _ l0 1048576 t261 _ ?side1 ?side2 A2.out).mono ?_); (case side1 => repeat (first | exact HR0.out | (with_reducible refine Kd.Be ?_ _) | (with_reducible refine Kd.Bf ?_ _) | (with_reducible refine Kd.Bh ?_))); (case side2 => exact HC0.out); rintro e w' ⟨rfl, ⟨nd, rfl⟩⟩; refine ⟨_, rfl, ?_⟩) | ((with_reducible refine gate_callee (f := 18) rfl ?_); refine goesL_ (some 18) rfl rfl Try.func18 (by kernel_rfl) rfl #[.slice A0 l0.length c0] rfl Yb_ ?_; (with_reducible refine (Bd.calls k _ _ l0 t262 _ ?side1 ?side2 A4.out).mono ?_); (case side1 => repeat (first | exact HR0.out | (with_reducible refine Kd.Be ?_ _) | (with_reducible refine Kd.Bf ?_ _) | (with_reducible refine Kd.Bh ?_))); (case side2 => exact HC0.out); rintro e w9 ⟨v263, rfl, ho0, hb⟩; refine ⟨_, rfl, ?_⟩; have n0_ := Aside0.mk (Kd.R_lower ho0 (below_size Ya_)); have n1_ := Aside0.mk (below_step Ya_ hb); clear HB; have HO264 := n0_; have HB := n1_; clear n0_ n1_; (try clear hb); (try clear hb2); (try clear hk); (try clear hi); (try clear ho0); obtain ⟨Ao10, co10, eo10⟩ := Kd.R_slice HO264.out; subst eo10) | ((with_reducible refine gate_callee (f := 27) rfl ?_); refine goesL_ (some 19) rfl rfl Try.func27 (by kernel_rfl) rfl #[.slice Ao10 t262.length co10] rfl Yb_ ?_; (with_reducible refine (Bl.calls k _ _ t262 t265 t266 t267 _ ?side1 ?side2 A5.out).mono ?_); (case side1 => repeat (first | exact (Kd.R_reads' HO264.out).2.2 | (with_reducible refine Kd.Be ?_ _) | (with_reducible refine Kd.Bf ?_ _) | (with_reducible refine Kd.Bh ?_))); (case side2 => exact (Kd.R_reads' HO264.out).2.1); rintro e w11 ⟨rfl, hb⟩; refine ⟨_, rfl, ?_⟩; have n0_ := Aside0.mk (Kd.R_below Ydg_ hb); have n1_ := Aside0.mk (below_step Ya_ hb); clear HO264; clear HB; have HO264 := n0_; have HB := n1_; clear n0_ n1_; (try clear hb); (try clear hb2); (try clear hk); (try clear hi)) | ((with_reducible refine gate_callee (f := 18) rfl ?_); refine goesL_ (some 24) rfl rfl Try.func18 (by kernel_rfl) rfl #[.slice A0 l0.length c0] rfl Yb_ ?_; (with_reducible refine (Bd.calls k _ _ l0 t268 _ ?side1 ?side2 A6.out).mono ?_); (case side1 => repeat (first | exact (Kd.C_below HR0.out HB.out) | (with_reducible refine Kd.Be ?_ _) | (with_reducible refine Kd.Bf ?_ _) | (with_reducible refine Kd.Bh ?_))); (case side2 => exact HC0.out); rintro e w12 ⟨v269, rfl, ho0, hb⟩; refine ⟨_, rfl, ?_⟩; have n0_ := Aside0.mk (Kd.Gs Ydg_ (Kd.Gv ho0) hb); have n1_ := Aside0.mk (Kd.R_lower (Kd.G7 ho0 (Kd.R_lt Ydg_)) (below_size Ya_)); have n2_ := Aside0.mk (below_step Ya_ hb); clear HO264; clear HB; have HO264 := n0_; have HO270 := n1_; have HB := n2_; clear n0_ n1_ n2_; (try clear hb); (try clear hb2); (try clear hk); (try clear hi); (try clear ho0); obtain ⟨Ao13, co13, eo13⟩ := Kd.R_slice HO270.out; subst eo13) | ((with_reducible refine gate_callee (f := 28) rfl ?_); refine goesL_ (some 27) rfl rfl Try.func28 (by kernel_rfl) rfl #[.slice Ao13 t268.length co13] rfl Yb_ ?_; (with_reducible refine (Cc.calls k _ _ t268 t271 t272 t273 _ ?side1 ?side2 A7.out).mono ?_); (case side1 => repeat (first | exact (Kd.R_reads' HO270.out).2.2 | (with_reducible refine Kd.Be ?_ _) | (with_reducible refine Kd.Bf ?_ _) | (with_reducible refine Kd.Bh ?_))); (case side2 => exact (Kd.R_reads' HO270.out).2.1); rintro e w14 ⟨rfl, hb⟩; refine ⟨_, rfl, ?_⟩; have n0_ := Aside0.mk (Kd.R_below Ydg_ hb); have n1_ := Aside0.mk (Kd.R_below (by (with_reducible repeat (first | apply Kd.Ap | apply Kd.Am | apply Kd.Ba)); exact HO270.out) hb); have n2_ := Aside0.mk (below_step Ya_ hb); clear HO264; clear HO270; clear HB; have HO264 := n0_; have HO270 := n1_; have HB := n2_; clear n0_ n1_ n2_; (try clear hb); (try clear hb2); (try clear hk); (try clear hi)))
  (try simp only [Act.put, List.setIfInBounds_toArray, List.set_cons_zero, List.set_cons_succ])
  go_cut [43] (fun v43 wc => ∃ (kq : Nat) (x43_7 : Bool), v43 = .bool x43_7 ∧ Aside0 (C9.j0 kq l0 t268 x43_7 = some r) ∧ Aside0 (kq ≤ k) ∧ Aside0 (Kd.R k59 59 wc w.heap.size (fun _ => True) (.slice Ao13 t268.length co13) t268) ∧ Aside0 (Below w.heap.size w wc))
  case first =>
   have H := HC8.out
   clear HC8
   by_cases c15 : t271 = t265
   ·rw [if_pos c15] at H
    have c15b0 : (t271 == t265) = true := beq_iff_eq.mpr c15
    have c15b1 : (t271 != t265) = false := bne_eq_false_iff_eq.mpr c15
    clear c15
    (first | rw [c15b0] | (simp only [Aj, Ak]; rw [c15b0]) | skip)
    by_cases c16 : t272 = t266
    ·rw [if_pos c16] at H
     have c16b0 : (t272 == t266) = true := beq_iff_eq.mpr c16
     have c16b1 : (t272 != t266) = false := bne_eq_false_iff_eq.mpr c16
     clear c16
     have H' := Aside0.mk H
     clear H
     go_wp2
     go_meet
     case rel => exact ⟨_, ((t273 != t267)), Yd_, H', ⟨by first | omega | exact Nat.le_refl _⟩, ⟨by (with_reducible repeat (first | apply Kd.Ap | apply Kd.Am | apply Kd.Ba)); exact Kd.R_mono HO270.out (fun _ hk => trivial)⟩, ⟨by repeat (first | (with_reducible first | exact HB.out | apply Af | apply Ad | apply Ae) | exact HB.out)⟩⟩
    ·rw [if_neg c16] at H
     have c16b0 : (t272 == t266) = false := beq_eq_false_iff_ne.mpr c16
     have c16b1 : (t272 != t266) = true := bne_iff_ne.mpr c16
     have H' := Aside0.mk H
     clear H
     go_wp2
     go_meet
     case rel => exact ⟨_, (true), Yd_, H', ⟨by first | omega | exact Nat.le_refl _⟩, ⟨by (with_reducible repeat (first | apply Kd.Ap | apply Kd.Am | apply Kd.Ba)); exact Kd.R_mono HO270.out (fun _ hk => trivial)⟩, ⟨by repeat (first | (with_reducible first | exact HB.out | apply Af | apply Ad | apply Ae) | exact HB.out)⟩⟩
   ·rw [if_neg c15] at H
    have c15b0 : (t271 == t265) = false := beq_eq_false_iff_ne.mpr c15
    have c15b1 : (t271 != t265) = true := bne_iff_ne.mpr c15
    (first | rw [c15b0] | (simp only [Aj, Ak]; rw [c15b0]) | skip)
    have H' := Aside0.mk H
    clear H
    go_wp2
    go_meet
    case rel => exact ⟨_, (true), Yd_, H', ⟨by first | omega | exact Nat.le_refl _⟩, ⟨by (with_reducible repeat (first | apply Kd.Ap | apply Kd.Am | apply Kd.Ba)); exact Kd.R_mono HO270.out (fun _ hk => trivial)⟩, ⟨by repeat (first | (with_reducible first | exact HB.out | apply Af | apply Ad | apply Ae) | exact HB.out)⟩⟩
  case rest =>
   clear HC8
   try clear c1
   try clear c2
   try clear p2
   try clear c3
   try clear c3b0
   try clear c8
   try clear c15
   try clear c15b0
   try clear c15b1
   try clear c16
   try clear c16b0
   try clear c16b1
   obtain ⟨kq, x43_7, rfl, HA, HJ7, HO_7, HB⟩ := hcut
   cases kq with
   | zero => exact absurd HA.out (by simp [C9.j0])
   | succ kj7 =>
    have H := HA.out
    clear HA
    simp only [C9.j0] at H
    by_cases c17 : x43_7 = true
    ·subst c17
     have H1 : (some false) = some r := by rw [if_pos rfl] at H; exact H
     clear H
     have H := H1
     clear H1
     exact absurd (Option.some.inj H) (by rw [HR_.out]; decide)
    ·replace c17 := Bool.eq_false_iff.mpr c17
     subst c17
     have H1 : ((Bd.f kj7 l0).bind fun t274 => ((Bq.f kj7 t268 t274).bind fun t277 => (if t277 = true then (some true) else (some false)))) = some r := by rw [if_neg (show ¬ (false = true) by decide)] at H; exact H
     clear H
     have H := H1
     clear H1
     replace H := Option.bind_eq_some_iff.mp H
     obtain ⟨t274, A180, H⟩ := H
     replace H : ((Bq.f kj7 t268 t274).bind fun t277 => (if t277 = true then (some true) else (some false))) = some r := H
     have A18 := Aside0.mk A180
     clear A180
     replace H := Option.bind_eq_some_iff.mp H
     obtain ⟨t277, A190, H⟩ := H
     replace H : (if t277 = true then (some true) else (some false)) = some r := H
     have A19 := Aside0.mk A190
     clear A190
     by_cases c20 : t277 = true
     ·subst c20
      have H1 : (some true) = some r := by rw [if_pos rfl] at H; exact H
      clear H
      have H := H1
      clear H1
      obtain rfl := Option.some.inj H
      go_wp2_with (first | ((with_reducible refine gate_callee (f := 18) rfl ?_); refine goesL_ (some 46) rfl rfl Try.func18 (by kernel_rfl) rfl #[.slice A0 l0.length c0] rfl Yb_ ?_; (with_reducible refine (Bd.calls kj7 _ _ l0 t274 _ ?side1 ?side2 A18.out).mono ?_); (case side1 => repeat (first | exact (Kd.C_below HR0.out HB.out) | (with_reducible refine Kd.Be ?_ _) | (with_reducible refine Kd.Bf ?_ _) | (with_reducible refine Kd.Bh ?_))); (case side2 => exact HC0.out); rintro e w21 ⟨v275, rfl, ho0, hb⟩; refine ⟨_, rfl, ?_⟩; have n0_ := Aside0.mk (Kd.Gs Yci_ (Kd.Gv ho0) hb); have n1_ := Aside0.mk (Kd.R_lower (Kd.G7 ho0 (Kd.R_lt Yci_)) (below_size Ya_)); have n2_ := Aside0.mk (below_step Ya_ hb); clear HO_7; clear HB; have HO_7 := n0_; have HO276 := n1_; have HB := n2_; clear n0_ n1_ n2_; (try clear hb); (try clear hb2); (try clear hk); (try clear hi); (try clear ho0); obtain ⟨Ao22, co22, eo22⟩ := Kd.R_slice HO276.out; subst eo22) | ((with_reducible refine gate_callee (f := 20) rfl ?_); refine goesL_ (some 47) rfl rfl Try.func20 (by kernel_rfl) rfl #[.slice Ao13 t268.length co13, .slice Ao22 t274.length co22] rfl Yb_ ?_; (with_reducible refine (Bq.calls kj7 _ _ t268 _ _ t274 true _ ?side1 ?side2 ?side3 ?side4 A19.out).mono ?_); (case side1 => repeat (first | exact (Kd.R_reads' HO_7.out).2.2 | (with_reducible refine Kd.Be ?_ _) | (with_reducible refine Kd.Bf ?_ _) | (with_reducible refine Kd.Bh ?_))); (case side2 => exact (Kd.R_reads' HO_7.out).2.1); (case side3 => repeat (first | exact (Kd.R_reads' HO276.out).2.2 | (with_reducible refine Kd.Be ?_ _) | (with_reducible refine Kd.Bf ?_ _) | (with_reducible refine Kd.Bh ?_))); (case side4 => exact (Kd.R_reads' HO276.out).2.1); rintro e w23 ⟨rfl, hb⟩; refine ⟨_, rfl, ?_⟩; have n0_ := Aside0.mk (Kd.R_below Yci_ hb); have n1_ := Aside0.mk (Kd.R_below (by (with_reducible repeat (first | apply Kd.Ap | apply Kd.Am | apply Kd.Ba)); exact HO276.out) hb); have n2_ := Aside0.mk (below_step Ya_ hb); clear HO_7; clear HO276; clear HB; have HO_7 := n0_; have HO276 := n1_; have HB := n2_; clear n0_ n1_ n2_; (try clear hb); (try clear hb2); (try clear hk); (try clear hi)))
      go_ret
      exact ⟨by first | rfl | (simp [Aw, Az] <;> rfl) | (simp [*, Aw, Az] <;> rfl), by repeat (first | (with_reducible first | exact HB.out | apply Af | apply Ad | apply Ae) | exact HB.out)⟩
     ·replace c20 := Bool.eq_false_iff.mpr c20
      subst c20
      have H1 : (some false) = some r := by rw [if_neg (show ¬ (false = true) by decide)] at H; exact H
      clear H
      have H := H1
      clear H1
      exact absurd (Option.some.inj H) (by rw [HR_.out]; decide)
end Go.Proofs.Ytolaplcjbmjlmaa.X

namespace Go.Proofs.Ytolaplcjbmjlmaa.X
open Go.RowKit Go.Proofs.YtolaplcjbmjlmaaW.PrintWords Go.Proofs.YtolaplcjbmjlmaaL
theorem He {l : List Ff} (h : valid l = true) : (∀ x ∈ l, Hm x = true) ∧ l.length ≤ 20 := by
 unfold valid at h
 simp only [Bool.and_eq_true, List.all_eq_true, decide_eq_true_eq] at h
 exact h
theorem okStay_iff (x : Ff) : Hm x = true ↔ 0 ≤ x.f0 ∧ x.f0 ≤ x.f1 ∧ x.f1 ≤ 240 ∧ 1 ≤ x.f2 ∧ x.f2 ≤ 9 := by
 simp [Hm, and_assoc]
theorem valid_at {l : List Ff} (h : valid l = true) (n : Nat) (hn : n < l.length) : 0 ≤ l[n].f0 ∧ l[n].f0 ≤ l[n].f1 ∧ l[n].f1 ≤ 240 ∧ 1 ≤ l[n].f2 ∧ l[n].f2 ≤ 9 :=
 (okStay_iff _).1 ((He h).1 _ (List.getElem_mem hn))
/-- How many are inside at an hour. -/
def inside (l : List Ff) (h : Int) : Int := (l.countP fun s => decide (s.f0 ≤ h) && decide (h < s.f1) : Nat)
/-- A fraction of natural numbers in lowest terms. -/
def F6 (a b : Nat) : Int × Int := (((a / Nat.gcd a b : Nat) : Int), ((b / Nat.gcd a b : Nat) : Int))
theorem gcd_turn (x y : Nat) : Nat.gcd x y = Nat.gcd y (x % y) := by rw [Nat.gcd_comm x y, Nat.gcd_rec y x, Nat.gcd_comm]
theorem specCommon_loop : ∀ (m y x : Nat), y ≤ m → Ev (fun k => Ea.l0 k (x : Int) (y : Int)) (Nat.gcd x y : Int) := by
 intro m
 induction m with
 | zero =>
  intro y x hy
  obtain rfl : y = 0 := by omega
  exact Ev.step (f := fun _ => some _) (fun k => by simp only [Ea.l0]; rw [if_pos (show ((0 : Nat) : Int) = 0 from rfl), Nat.gcd_zero_right]) (Ev.now _)
 | succ m ih =>
  intro y x hy
  by_cases e : y = 0
  ·subst e
   exact Ev.step (f := fun _ => some _) (fun k => by simp only [Ea.l0]; rw [if_pos (show ((0 : Nat) : Int) = 0 from rfl), Nat.gcd_zero_right]) (Ev.now _)
  ·rw [gcd_turn]
   exact Ev.step (f := fun k => Ea.l0 k (y : Int) ((x % y : Nat) : Int)) (fun k => by simp only [Ea.l0]; rw [if_neg (by omega)]; rfl) (ih (x % y) y (by have := Nat.mod_lt x (show 0 < y by omega); omega))
theorem specReduce_ev (a b : Nat) (ha : a ≤ 9223372036854775807) (hb : b ≤ 9223372036854775807) (h0 : 0 < b) : Ev (fun k => Dk.f k (a : Int) (b : Int)) (F6 a b) := by
 unfold Dk.f
 have hg : 0 < Nat.gcd a b := Nat.gcd_pos_of_pos_right a h0
 refine Ev.bind (a := (Nat.gcd a b : Int)) ?_ ?_
 ·unfold Ea.f Gx.f
  have e1 : (if (a : Int) > wrap64 (-(a : Int)) then some (a : Int) else some (wrap64 (-(a : Int)))) = some (a : Int) := by
   rw [Fg (by omega) (by omega)]
   by_cases z : a = 0
   ·subst z; simp
   ·rw [if_pos (by omega)]
  have e2 : (if (b : Int) > wrap64 (-(b : Int)) then some (b : Int) else some (wrap64 (-(b : Int)))) = some (b : Int) := by
   rw [Fg (by omega) (by omega), if_pos (by omega)]
  rw [e1, e2]
  simp only [Option.bind_some]
  exact specCommon_loop b b a (Nat.le_refl _)
 ·simp only [if_neg (show ¬ (Nat.gcd a b : Int) = 0 by omega)]
  have d1 : Int.tdiv (a : Int) (Nat.gcd a b : Int) = ((a / Nat.gcd a b : Nat) : Int) := rfl
  have d2 : Int.tdiv (b : Int) (Nat.gcd a b : Int) = ((b / Nat.gcd a b : Nat) : Int) := rfl
  have l1 : a / Nat.gcd a b ≤ a := Nat.div_le_self _ _
  have l2 : b / Nat.gcd a b ≤ b := Nat.div_le_self _ _
  rw [d1, d2, wrap_nat _ (Nat.le_trans l1 ha), wrap_nat _ (Nat.le_trans l2 hb)]
  exact Ev.now _
theorem Io (a b : Nat) (ha : a ≤ 9223372036854775807) (hb : b ≤ 9223372036854775807) (h0 : 0 < b) : Ev (fun k => Df.f k (a : Int) (b : Int)) (F6 a b) := by
 have key : ∀ (m y x : Nat), y ≤ m → Nat.gcd x y = Nat.gcd a b → Ev (fun k => Df.l0 k (a : Int) (b : Int) (x : Int) (y : Int)) (F6 a b) := by
  intro m
  have hg : 0 < Nat.gcd a b := Nat.gcd_pos_of_pos_right a h0
  have stop : ∀ x : Nat, Nat.gcd x 0 = Nat.gcd a b → Ev (fun k => Df.l0 k (a : Int) (b : Int) (x : Int) (0 : Nat)) (F6 a b) := by
   intro x hx
   rw [Nat.gcd_zero_right] at hx
   subst hx
   refine Ev.step (f := fun _ => some (F6 a b)) (fun k => ?_) (Ev.now _)
   simp only [Df.l0]
   rw [if_pos (show ((0 : Nat) : Int) = 0 from rfl)]
   have n1 : ¬ ((Nat.gcd a b : Nat) : Int) < 0 := by omega
   have n2 : ¬ (b : Int) < 0 := by omega
   have n3 : ¬ ((Nat.gcd a b : Nat) : Int) = 0 := by omega
   simp only [n1, n2, n3, decide_false, bne_self_eq_false, Bool.false_eq_true, if_false]
   have d1 : Int.tdiv (a : Int) (Nat.gcd a b : Int) = ((a / Nat.gcd a b : Nat) : Int) := rfl
   have d2 : Int.tdiv (b : Int) (Nat.gcd a b : Int) = ((b / Nat.gcd a b : Nat) : Int) := rfl
   have l1 : a / Nat.gcd a b ≤ a := Nat.div_le_self _ _
   have l2 : b / Nat.gcd a b ≤ b := Nat.div_le_self _ _
   rw [d1, d2, wrap_nat _ (Nat.le_trans l1 ha), wrap_nat _ (Nat.le_trans l2 hb)]
   rfl
  induction m with
  | zero =>
   intro y x hy hx
   obtain rfl : y = 0 := by omega
   exact stop x hx
  | succ m ih =>
   intro y x hy hx
   by_cases e : y = 0
   ·subst e; exact stop x hx
   ·exact Ev.step (f := fun k => Df.l0 k (a : Int) (b : Int) (y : Int) ((x % y : Nat) : Int)) (fun k => by simp only [Df.l0]; rw [if_neg (by omega)]; rfl) (ih (x % y) y (by have := Nat.mod_lt x (show 0 < y by omega); omega) (by rw [← gcd_turn]; exact hx))
 exact Ev.congr (fun k => rfl) (key b b a (Nat.le_refl _) rfl)
end Go.Proofs.Ytolaplcjbmjlmaa.X

namespace Go.Proofs.Ytolaplcjbmjlmaa.X
open Go.RowKit Go.Proofs.YtolaplcjbmjlmaaW.PrintWords Go.Proofs.YtolaplcjbmjlmaaW.PrintMore Go.Proofs.YtolaplcjbmjlmaaL
theorem sum_bound {l : List Int} {b : Int} (hb : ∀ x ∈ l, 0 ≤ x ∧ x ≤ b) : 0 ≤ l.sum ∧ l.sum ≤ b * l.length := by
 induction l with
 | nil => simp
 | cons x l ih =>
  have h1 := hb x (by simp)
  have h2 := ih (fun y hy => hb y (by simp [hy]))
  rw [List.sum_cons, List.length_cons]
  have e : b * ((l.length + 1 : Nat) : Int) = b * (l.length : Int) + b := by rw [Int.natCast_add, Int.mul_add]; simp
  omega
theorem Ij (l : List Int) (n : Nat) (h : n < l.length) : (l.take (n + 1)).sum = (l.take n).sum + l[n] := by
 rw [List.take_succ_eq_append_getElem h, List.sum_append]; simp
theorem take_bound {l : List Int} {b : Int} (n : Nat) (hl : l.length ≤ 20) (hb : ∀ x ∈ l, 0 ≤ x ∧ x ≤ b) (h0 : 0 ≤ b) : 0 ≤ (l.take n).sum ∧ (l.take n).sum ≤ b * 20 := by
 have h := sum_bound (l := l.take n) (b := b) (fun x hx => hb x (List.mem_of_mem_take hx))
 have hle : ((l.take n).length : Int) ≤ 20 := by rw [List.length_take]; omega
 have := Int.mul_le_mul_of_nonneg_left hle h0
 omega
def hours (l : List Ff) : List Int := l.map fun s => s.f1 - s.f0
theorem Hz {l : List Ff} (hv : valid l = true) : ∀ x ∈ hours l, 0 ≤ x ∧ x ≤ 240 := by
 intro x hx
 obtain ⟨s, hs, rfl⟩ := List.mem_map.1 hx
 have := (okStay_iff s).1 ((He hv).1 s hs)
 omega
theorem Fh (l : List Ff) : (hours l).length = l.length := by simp [hours]
theorem hours_take_succ (l : List Ff) (n : Nat) (h : n < l.length) : (hours l).take n ++ [l[n].f1 - l[n].f0] = (hours l).take (n + 1) := by
 rw [List.take_succ_eq_append_getElem (by rw [Fh]; exact h)]; simp [hours]
theorem specHours_ev (l : List Ff) (hv : valid l = true) : Ev (fun k => Cj.f k l) (hours l) := by
 have h20 := (He hv).2
 have key : ∀ (d n : Nat), n + d = l.length → Ev (fun k => Cj.l0 k l ((hours l).take n) n) (hours l) := by
  intro d
  induction d with
  | zero =>
   intro n hn
   obtain rfl : n = l.length := by omega
   exact Ev.step (f := fun _ => some _) (fun k => by simp only [Cj.l0]; rw [if_neg (by omega), List.take_of_length_le (by rw [Fh]; omega)]) (Ev.now _)
  | succ d ih =>
   intro n hn
   have hl : n < l.length := by omega
   obtain ⟨a1, a2, a3, _, _⟩ := valid_at hv n hl
   refine Ev.step (f := fun k => Cj.l0 k l ((hours l).take (n + 1)) ((n + 1 : Nat) : Int)) (fun k => ?_) (ih (n + 1) (by omega))
   simp only [Cj.l0]
   rw [if_pos (by omega), if_pos (by omega), rdS l n hl, wrap_succ (by omega), Fg (x := l[n].f1 - l[n].f0) (by omega) (by omega), hours_take_succ l n hl, if_pos (by rw [List.length_take, Fh]; omega)]
 exact Ev.congr (f := fun k => Cj.l0 k l ((hours l).take 0) ((0 : Nat) : Int)) (fun k => rfl) (key l.length 0 (by omega))
theorem implHours_ev (l : List Ff) (hv : valid l = true) : Ev (fun k => impl_lengthsOf.f k l) (hours l) := by
 have h20 := (He hv).2
 have key : ∀ (d n : Nat), n + d = l.length → Ev (fun k => impl_lengthsOf.l0 k ((hours l).take n) l (l.length : Int) n) (hours l) := by
  intro d
  induction d with
  | zero =>
   intro n hn
   obtain rfl : n = l.length := by omega
   exact Ev.step (f := fun _ => some _) (fun k => by simp only [impl_lengthsOf.l0]; rw [if_neg (by omega), List.take_of_length_le (by rw [Fh]; omega)]) (Ev.now _)
  | succ d ih =>
   intro n hn
   have hl : n < l.length := by omega
   obtain ⟨a1, a2, a3, _, _⟩ := valid_at hv n hl
   refine Ev.step (f := fun k => impl_lengthsOf.l0 k ((hours l).take (n + 1)) l (l.length : Int) ((n + 1 : Nat) : Int)) (fun k => ?_) (ih (n + 1) (by omega))
   simp only [impl_lengthsOf.l0]
   rw [if_pos (by omega), if_pos (by omega), if_pos (by omega), rdS l n hl, wrap_succ (by omega), Fg (x := l[n].f1 - l[n].f0) (by omega) (by omega), hours_take_succ l n hl, if_pos (by rw [List.length_take, Fh]; omega)]
 exact Ev.congr (f := fun k => impl_lengthsOf.l0 k ((hours l).take 0) l (l.length : Int) ((0 : Nat) : Int)) (fun k => rfl) (key l.length 0 (by omega))
theorem implSum_ev (l : List Int) (h20 : l.length ≤ 20) (hb : ∀ x ∈ l, 0 ≤ x ∧ x ≤ 240) : Ev (fun k => Em.f k l) l.sum := by
 have key : ∀ (d n : Nat), n + d = l.length → Ev (fun k => Em.l0 k (l.take n).sum l (l.length : Int) n) l.sum := by
  intro d
  induction d with
  | zero =>
   intro n hn
   obtain rfl : n = l.length := by omega
   exact Ev.step (f := fun _ => some _) (fun k => by simp only [Em.l0]; rw [if_neg (by omega), List.take_length]) (Ev.now _)
  | succ d ih =>
   intro n hn
   have hl : n < l.length := by omega
   have h1 := take_bound (n + 1) h20 hb (by omega)
   rw [Ij l n hl] at h1
   refine Ev.step (f := fun k => Em.l0 k (l.take (n + 1)).sum l (l.length : Int) ((n + 1 : Nat) : Int)) (fun k => ?_) (ih (n + 1) (by omega))
   simp only [Em.l0]
   rw [if_pos (by omega), if_pos (by omega), if_pos (by omega), rd_at l n hl, wrap_succ (by omega), Ij l n hl, Fg (by omega) (by omega)]
 exact Ev.congr (f := fun k => Em.l0 k (l.take 0).sum l (l.length : Int) ((0 : Nat) : Int)) (fun k => rfl) (key l.length 0 (by omega))
def mean (l : List Ff) : Int × Int × Bool := if valid l = true ∧ l.length ≠ 0 then ((F6 (hours l).sum.toNat l.length).1, (F6 (hours l).sum.toNat l.length).2, true) else (0, 0, false)
theorem hours_sum {l : List Ff} (hv : valid l = true) : 0 ≤ (hours l).sum ∧ (hours l).sum ≤ 4800 := by
 have h := take_bound (l := hours l) (hours l).length (by rw [Fh]; exact (He hv).2) (Hz hv) (by omega)
 rw [List.take_length] at h; omega
theorem specMean_ev (l : List Ff) (h : l.length ≤ 1048576) : Ev (fun k => Bl.f k l) (mean l) := by
 unfold Bl.f
 refine Ev.bind (specGood_ev l h) ?_
 unfold mean
 by_cases hv : valid l = true
 ·by_cases h0 : l.length = 0
  ·simp only [hv, if_true, h0, ne_eq, not_true, and_false, if_false]
   exact Ev.step (f := fun _ => some (0, 0, false)) (fun k => by simp [Bl.j0]) (Ev.now _)
  ·have hn : ((l.length : Int) == 0) = false := by simp; exact fun z => h0 (by simp [z])
   simp only [hv, if_true, hn, ne_eq, h0, not_false_eq_true, and_self]
   refine Ev.step (f := fun k => (Cj.f k l).bind fun t => Bl.l0 k 0 t 0) (fun k => by simp [Bl.j0]) ?_
   refine Ev.bind (specHours_ev l hv) ?_
   have h20 := (He hv).2
   have hl := Fh l
   have hs := hours_sum hv
   have key : ∀ (d n : Nat), n + d = l.length → Ev (fun k => Bl.l0 k ((hours l).take n).sum (hours l) n) ((F6 (hours l).sum.toNat l.length).1, (F6 (hours l).sum.toNat l.length).2, true) := by
    intro d
    induction d with
    | zero =>
     intro n hn
     obtain rfl : n = l.length := by omega
     refine Ev.step (f := fun k => (Dk.f k (((hours l).sum.toNat : Nat) : Int) (l.length : Int)).bind fun b => some (b.1, b.2, true)) (fun k => ?_) (Ev.bind (specReduce_ev _ _ (by omega) (by omega) (by omega)) (Ev.now _))
     simp only [Bl.l0]
     rw [if_neg (by omega), List.take_of_length_le (by omega), hl, Int.toNat_of_nonneg hs.1]
    | succ d ih =>
     intro n hn
     have hl2 : n < (hours l).length := by omega
     have h1 := take_bound (l := hours l) (n + 1) (by omega) (Hz hv) (by omega)
     rw [Ij _ n hl2] at h1
     refine Ev.step (f := fun k => Bl.l0 k ((hours l).take (n + 1)).sum (hours l) ((n + 1 : Nat) : Int)) (fun k => ?_) (ih (n + 1) (by omega))
     simp only [Bl.l0]
     rw [if_pos (by omega), if_pos (by omega), rd_at _ n hl2, wrap_succ (by omega), Ij _ n hl2, Fg (by omega) (by omega)]
   exact Ev.congr (fun k => rfl) (key l.length 0 (by omega))
 ·simp only [hv, false_and, if_false]
  exact Ev.step (f := fun _ => some (0, 0, false)) (fun k => by simp [Bl.j0]) (Ev.now _)
theorem implMean_ev (l : List Ff) : Ev (fun k => Cc.f k l) (mean l) := by
 unfold Cc.f
 simp only [Il, Option.bind_some]
 unfold mean
 by_cases hv : valid l = true
 ·by_cases h0 : l.length = 0
  ·simp only [hv, if_true, h0, ne_eq, not_true, and_false, if_false]
   exact Ev.step (f := fun _ => some (0, 0, false)) (fun k => by simp [Cc.j0]) (Ev.now _)
  ·have hn : ((l.length : Int) == 0) = false := by simp; exact fun z => h0 (by simp [z])
   simp only [hv, if_true, hn, ne_eq, h0, not_false_eq_true, and_self]
   refine Ev.step (f := fun k => (impl_lengthsOf.f k l).bind fun t => (Em.f k t).bind fun s => (Df.f k s (l.length : Int)).bind fun b => some (b.1, b.2, true)) (fun k => by simp [Cc.j0]) ?_
   refine Ev.bind (implHours_ev l hv) ?_
   have h20 := (He hv).2
   have hs := hours_sum hv
   refine Ev.bind (implSum_ev _ (by rw [Fh]; exact h20) (Hz hv)) ?_
   have e : (hours l).sum = ((hours l).sum.toNat : Nat) := (Int.toNat_of_nonneg hs.1).symm
   generalize (hours l).sum.toNat = m at e ⊢
   rw [e] at hs ⊢
   exact Ev.bind (Io _ _ (by omega) (by omega) (by omega)) (Ev.now _)
 ·simp only [hv, false_and, if_false]
  exact Ev.step (f := fun _ => some (0, 0, false)) (fun k => by simp [Cc.j0]) (Ev.now _)
def occOk (l : List Ff) (f t p : Int) : Prop := valid l = true ∧ 0 ≤ f ∧ f < t ∧ t ≤ 240 ∧ 1 ≤ p ∧ p ≤ 1000
instance (l : List Ff) (f t p : Int) : Decidable (occOk l f t p) := inferInstanceAs (Decidable (_ ∧ _))
end Go.Proofs.Ytolaplcjbmjlmaa.X

namespace Go.Proofs.Ytolaplcjbmjlmaa.X
open Go.RowKit Go.Proofs.YtolaplcjbmjlmaaW.PrintWords Go.Proofs.YtolaplcjbmjlmaaL
theorem rd_get (l : List Int) (n : Nat) (h : n < l.length) : rd l (n : Int) = l[n] := by simp [rd, List.getD_eq_getElem?_getD, List.getElem?_eq_getElem h]
theorem posIn_hi (f : Int → Bool) (out : List Int) : ∀ (x j : Nat), F5 f out x ≤ j → j < x → f (rd out (j : Int)) = true
 | 0, j, _, h => by omega
 | x + 1, j, h0, h1 => by
  unfold F5 at h0
  split at h0
  ·rename_i hx
   by_cases e : j = x
   ·subst e; exact hx
   ·exact posIn_hi f out x j h0 (by omega)
  ·omega
theorem posIn_lo (f : Int → Bool) (out : List Int) : ∀ (x : Nat), 0 < F5 f out x → f (rd out ((F5 f out x - 1 : Nat) : Int)) = false
 | 0, h => by unfold F5 at h; omega
 | x + 1, h => by
  unfold F5 at h ⊢
  split
  ·rename_i hx
   rw [if_pos hx] at h
   exact posIn_lo f out x h
  ·rename_i hx
   simpa using hx
theorem putIn_perm (f : Int → Bool) (v : Int) (out : List Int) : (Gj f v out).Perm (v :: out) := by
 unfold Gj
 rw [List.append_assoc, List.singleton_append]
 have := List.perm_middle (a := v) (l₁ := out.take (F5 f out out.length)) (l₂ := out.drop (F5 f out out.length))
 rwa [List.take_append_drop] at this
theorem putIn_sorted (v : Int) (out : List Int) (h : out.Pairwise (fun a b => a ≤ b)) : (Gj (over v) v out).Pairwise (fun a b => a ≤ b) := by
 unfold Gj
 have hp := posIn_le (over v) out out.length
 have hhi := posIn_hi (over v) out out.length
 have hlo := posIn_lo (over v) out out.length
 generalize F5 (over v) out out.length = p at hp hhi hlo ⊢
 have hdrop : ∀ b ∈ out.drop p, v < b := by
  intro b hb
  obtain ⟨j, hj, rfl⟩ := List.getElem_of_mem hb
  rw [List.length_drop] at hj
  rw [List.getElem_drop]
  have := hhi (p + j) (by omega) (by omega)
  rw [rd_get out (p + j) (by omega)] at this
  exact of_decide_eq_true this
 have htake : ∀ a ∈ out.take p, a ≤ v := by
  intro a ha
  obtain ⟨j, hj, rfl⟩ := List.getElem_of_mem ha
  rw [List.length_take] at hj
  rw [List.getElem_take]
  have h1 := hlo (by omega)
  rw [rd_get out (p - 1) (by omega)] at h1
  have h2 : out[p - 1] ≤ v := by have := of_decide_eq_false h1; omega
  by_cases e : j = p - 1
  ·subst e; exact h2
  ·have := List.pairwise_iff_getElem.1 h j (p - 1) (by omega) (by omega) (by omega)
   omega
 rw [List.append_assoc, List.singleton_append, List.pairwise_append]
 refine ⟨h.sublist (List.take_sublist p out), List.pairwise_cons.2 ⟨fun b hb => Int.le_of_lt (hdrop b hb), h.sublist (List.drop_sublist p out)⟩, fun a ha b hb => ?_⟩
 rcases List.mem_cons.1 hb with rfl | hb
 ·exact htake a ha
 ·have h1 := htake a ha
  have h2 := hdrop b hb
  omega
theorem sortedL_take (l : List Int) : ∀ i, i ≤ l.length → (G5 (l.take i)).Perm (l.take i) ∧ (G5 (l.take i)).Pairwise (fun a b => a ≤ b)
 | 0, _ => ⟨List.Perm.refl _, List.Pairwise.nil⟩
 | i + 1, h => by
  obtain ⟨h1, h2⟩ := sortedL_take l i (by omega)
  rw [sortedL_next l i (by omega), rd_get l i (by omega)]
  refine ⟨(putIn_perm _ _ _).trans ?_, putIn_sorted _ _ h2⟩
  rw [List.take_succ_eq_append_getElem (by omega : i < l.length)]
  exact (List.Perm.cons _ h1).trans (List.perm_append_singleton _ _).symm
theorem sortedL_eq (l : List Int) : G5 l = Gl l := by
 have h := sortedL_take l l.length (Nat.le_refl _)
 rw [List.take_length] at h
 have hs : (Gl l).Pairwise (fun a b => a ≤ b) := by
  have := List.pairwise_mergeSort (le := fun x y : Int => decide (x ≤ y)) (fun a b c h1 h2 => by simp at h1 h2 ⊢; omega) (fun a b => by simp; omega) l
  exact this.imp (fun h => of_decide_eq_true h)
 exact List.Perm.eq_of_pairwise (le := fun a b => a ≤ b) (fun a b _ _ h1 h2 => Int.le_antisymm h1 h2) h.2 hs (h.1.trans (List.mergeSort_perm l _).symm)
theorem sortI_length (l : List Int) : (Gl l).length = l.length := List.length_mergeSort _
theorem sortI_at {l : List Int} {b : Int} (hb : ∀ x ∈ l, 0 ≤ x ∧ x ≤ b) (n : Nat) (h : n < l.length) : 0 ≤ rd (Gl l) (n : Int) ∧ rd (Gl l) (n : Int) ≤ b := by
 have hn : n < (Gl l).length := by rw [sortI_length]; exact h
 rw [rd_get _ n hn]
 exact hb _ (List.mem_mergeSort.1 (List.getElem_mem hn))
/-- Twice the median of the hours. -/
def mid (l : List Ff) : Int := rd (Gl (hours l)) (((l.length - 1) / 2 : Nat) : Int) + rd (Gl (hours l)) ((l.length / 2 : Nat) : Int)
def median (l : List Ff) : Int × Int × Bool := if valid l = true ∧ l.length ≠ 0 then ((F6 (mid l).toNat 2).1, (F6 (mid l).toNat 2).2, true) else (0, 0, false)
theorem mid_bound {l : List Ff} (hv : valid l = true) (h : l.length ≠ 0) : 0 ≤ mid l ∧ mid l ≤ 480 := by
 have h1 := sortI_at (Hz hv) ((l.length - 1) / 2) (by rw [Fh]; omega)
 have h2 := sortI_at (Hz hv) (l.length / 2) (by rw [Fh]; omega)
 unfold mid
 omega
theorem specMedian_ev (l : List Ff) (h : l.length ≤ 1048576) : Ev (fun k => Bz.f k l) (median l) := by
 unfold Bz.f median
 refine Ev.bind (specGood_ev l h) ?_
 have bad : Ev (fun k => Bz.j0 k l true) ((0, 0, false) : Int × Int × Bool) := Ev.step (f := fun _ => some _) (fun k => by simp only [Bz.j0, if_true]) (Ev.now _)
 cases hv : valid l with
 | false =>
  simp only [Bool.false_eq_true, if_false, false_and]
  exact bad
 | true =>
  simp only [if_true]
  by_cases h0 : l.length = 0
  ·rw [show (((l.length : Nat) : Int) == 0) = true by simp [h0]]
   simp only [h0, ne_eq, not_true_eq_false, and_false, if_false]
   exact bad
  ·rw [show (((l.length : Nat) : Int) == 0) = false from beq_eq_false_iff_ne.mpr (by omega), if_pos ⟨trivial, h0⟩]
   have h20 := (He hv).2
   have hm := mid_bound hv h0
   refine Ev.step (f := fun k => (Cj.f k l).bind fun hs => (F9.f hs).bind fun s => if 0 ≤ (wrap64 (Int.tdiv (wrap64 ((s.length : Int) - 1)) 2)) then (if (wrap64 (Int.tdiv (wrap64 ((s.length : Int) - 1)) 2)) < (s.length : Int) then (if 0 ≤ (wrap64 ((s.length : Int) / 2)) then (if (wrap64 ((s.length : Int) / 2)) < (s.length : Int) then ((Dk.f k (wrap64 ((rd s (wrap64 (Int.tdiv (wrap64 ((s.length : Int) - 1)) 2))) + (rd s (wrap64 ((s.length : Int) / 2))))) 2).bind fun t => (some (t.1, t.2, true))) else (none)) else (none)) else (none)) else (none)) (fun k => by simp only [Bz.j0, Bool.false_eq_true, if_false]) ?_
   refine Ev.bind (specHours_ev l hv) ?_
   have hs : F9.f (hours l) = some (Gl (hours l)) := by
    unfold F9.f
    rw [if_pos (by rw [Fh]; exact h), sortedL_eq]
   simp only [hs, Option.bind_some]
   have hl : (Gl (hours l)).length = l.length := by rw [sortI_length, Fh]
   have e1 : wrap64 (Int.tdiv (wrap64 ((l.length : Int) - 1)) 2) = (((l.length - 1) / 2 : Nat) : Int) := by
    rw [Fg (x := (l.length : Int) - 1) (by omega) (by omega), Int.tdiv_eq_ediv_of_nonneg (by omega), Fg (by omega) (by omega)]; omega
   have e2 : wrap64 ((l.length : Int) / 2) = ((l.length / 2 : Nat) : Int) := by
    rw [Fg (by omega) (by omega)]; omega
   simp only [e1, e2, hl]
   refine Ev.congr (fun k => by rw [if_pos (by omega), if_pos (by omega), if_pos (by omega), if_pos (by omega)]) ?_
   rw [show rd (Gl (hours l)) (((l.length - 1) / 2 : Nat) : Int) + rd (Gl (hours l)) ((l.length / 2 : Nat) : Int) = mid l from rfl, Fg (by omega) (by omega), show mid l = (((mid l).toNat : Nat) : Int) by omega]
   exact Ev.bind (specReduce_ev (mid l).toNat 2 (by omega) (by omega) (by omega)) (Ev.now _)
theorem implMedian_ev (l : List Ff) : Ev (fun k => Ec.f k l) (median l) := by
 unfold Ec.f median
 simp only [Il, Option.bind_some]
 cases hv : valid l with
 | false =>
  simp only [Bool.false_eq_true, if_false, false_and]
  exact Ev.now _
 | true =>
  simp only [if_true]
  by_cases h0 : l.length = 0
  ·simp only [h0, ne_eq, not_true_eq_false, and_false, if_false, if_true]
   exact Ev.now _
  ·rw [if_pos ⟨trivial, h0⟩]
   have h20 := (He hv).2
   have hm := mid_bound hv h0
   refine Ev.congr (fun k => if_neg h0) (Ev.bind (implHours_ev l hv) ?_)
   simp only [Fh]
   refine Ev.congr (fun k => if_pos ⟨by omega, by omega⟩) ?_
   rw [show rd (Gl (hours l)) (((l.length - 1) / 2 : Nat) : Int) + rd (Gl (hours l)) ((l.length / 2 : Nat) : Int) = mid l from rfl, Fg (by omega) (by omega), show mid l = (((mid l).toNat : Nat) : Int) by omega]
   exact Ev.bind (Io (mid l).toNat 2 (by omega) (by omega) (by omega)) (Ev.now _)
end Go.Proofs.Ytolaplcjbmjlmaa.X

namespace Go.Proofs.Ytolaplcjbmjlmaa.X
open Go.RowKit Go.Proofs.YtolaplcjbmjlmaaW.PrintWords Go.Proofs.YtolaplcjbmjlmaaW.PrintLast Go.Proofs.YtolaplcjbmjlmaaW.PrintMore
attribute [local go_sem] max2_int min2_int max_two min_two max_three min_three max_four min_four
def Eo.l0 : Nat → List Int → List Int → Int → Option (Bool)
 | 0, _, _, _ => none
 | k + 1, x0, x1, x5 => if x5 < (x0.length : Int) then (if 0 ≤ x5 then (if x5 < (x1.length : Int) then (if (rd x0 x5) = (rd x1 x5) then (Eo.l0 k x0 x1 (wrap64 (x5 + 1))) else (some false)) else (none)) else (none)) else (some true)
def Eo.f (k : Nat) (l0 : List Int) (l1 : List Int) : Option (Bool) := if (l0.length : Int) = (l1.length : Int) then (Eo.l0 k l0 l1 0) else (some false)
theorem Eo.Dq : ∀ k, (∀ y0 y1 y2, LeO (Eo.l0 k y0 y1 y2) (Eo.l0 (k + 1) y0 y1 y2))
 | 0 => fun _ _ _ r h => by simp [Eo.l0] at h
 | k + 1 => by
  have ih0 := Eo.Dq k
  ·intro y0 y1 y2
   unfold Eo.l0
   repeat' first
   | (with_reducible exact ih0 _ _ _)
   | (with_reducible exact LeO.refl _)
   | (with_reducible exact LeO.none _)
   | (with_reducible refine LeO.ite ?_ ?_)
   | (with_reducible refine LeO.bind ?_ (fun _ => ?_))
   | exact ih0 _ _ _
   | exact LeO.none _
   | refine LeO.ite ?_ ?_
   | refine LeO.bind ?_ (fun _ => ?_)
theorem Eo.mono : ∀ a0 a1 k, LeO (Eo.f k a0 a1) (Eo.f (k + 1) a0 a1) := by
 intro a0 a1 k
 have ih0 := Eo.Dq k
 unfold Eo.f
 repeat' first
   | (with_reducible exact ih0 _ _ _)
   | (with_reducible exact LeO.refl _)
   | (with_reducible exact LeO.none _)
   | (with_reducible refine LeO.ite ?_ ?_)
   | (with_reducible refine LeO.bind ?_ (fun _ => ?_))
   | exact ih0 _ _ _
   | exact LeO.none _
   | refine LeO.ite ?_ ?_
   | refine LeO.bind ?_ (fun _ => ?_)
set_option maxHeartbeats 8000000 in
set_option maxRecDepth 100000 in
theorem Eo.calls (k : Nat) (A0 : Option Addr) (c0 : Nat) (l0 : List Int) (A1 : Option Addr) (c1 : Nat) (l1 : List Int) (r : Bool) (w : World) (hr0 : Kd.C (Kd.int .i64) w A0 l0.length l0) (hc0 : l0.length ≤ c0) (hr1 : Kd.C (Kd.int .i64) w A1 l1.length l1) (hc1 : l1.length ≤ c1) (h : Eo.f k l0 l1 = some r) :
  Calls Try.prog 42 #[.slice A0 l0.length c0, .slice A1 l1.length c1] w fun e w' => e = .returned (.bool r) ∧ Drawn0 w w' := by
 have HR0 := Aside0.mk hr0
 have HC0 := Aside0.mk hc0
 clear hr0 hc0
 have HR1 := Aside0.mk hr1
 have HC1 := Aside0.mk hc1
 clear hr1 hc1
 have H : (if (l0.length : Int) = (l1.length : Int) then (Eo.l0 k l0 l1 0) else (some false)) = some r := h
 clear h
 by_cases c3 : (l0.length : Int) = (l1.length : Int)
 ·rw [if_pos c3] at H
  have c3b0 : ((l0.length : Int) == (l1.length : Int)) = true := beq_iff_eq.mpr c3
  have c3b1 : ((l0.length : Int) != (l1.length : Int)) = false := bne_eq_false_iff_eq.mpr c3
  have c3b2 : (l0.length == l1.length) = true := by first | simpa using c3 | (simp at c3 ⊢; omega)
  clear c3
  have H' := Aside0.mk H
  clear H
  go_enter Try.func42, Try.ntmps42
  go_wp2
  repeat (go_quiet (fail); try go_wp2)
  go_loopg [5] k (fun kq v5 w' => ∃ (x5_1 : Int), v5 = .int .i64 x5_1 ∧ Aside0 (Eo.l0 kq l0 l1 x5_1 = some r) ∧ Aside0 (kq ≤ k) ∧ Drawn0 w w')
  case atStart => exact ⟨(0), Yd_, H', ⟨Nat.le_refl _⟩, by repeat (first | exact Drawn0.refl _ | apply Drawn0.step)⟩
  case round =>
   clear H'
   try clear c1
   try clear p2
   try clear c3
   try clear c3b0
   try clear c3b1
   try clear c3b2
   obtain ⟨x5_1, rfl, HA, HK1, ⟨m1, rfl⟩⟩ := hrel
   cases gk with
   | zero => exact absurd HA.out (by simp [Eo.l0])
   | succ k1 =>
    have H := HA.out
    clear HA
    simp only [Eo.l0] at H
    by_cases c4 : x5_1 < (l0.length : Int)
    ·rw [if_pos c4] at H
     have c4b0 : decide (x5_1 < (l0.length : Int)) = true := decide_eq_true c4
     clear c4
     by_cases c5 : 0 ≤ x5_1
     ·rw [if_pos c5] at H
      have c5b0 : decide (0 ≤ x5_1) = true := decide_eq_true c5
      clear c5
      by_cases c6 : x5_1 < (l1.length : Int)
      ·rw [if_pos c6] at H
       have c6b0 : decide (x5_1 < (l1.length : Int)) = true := decide_eq_true c6
       clear c6
       by_cases c7 : (rd l0 x5_1) = (rd l1 x5_1)
       ·rw [if_pos c7] at H
        have c7b0 : ((rd l0 x5_1) == (rd l1 x5_1)) = true := beq_iff_eq.mpr c7
        have c7b1 : ((rd l0 x5_1) != (rd l1 x5_1)) = false := bne_eq_false_iff_eq.mpr c7
        clear c7
        have H' := Aside0.mk H
        clear H
        have p305 : 0 ≤ (x5_1 : Int) := of_decide_eq_true Yc_
        have q305 : x5_1 < (l0.length : Int) := of_decide_eq_true Yc_
        obtain ⟨ad305, e305, hx305_0⟩ := Kd.Fv HR0.out x5_1 p305 q305
        cases e305
        replace p305 := eq_true p305
        replace q305 := eq_true q305
        have p306 : 0 ≤ (x5_1 : Int) := of_decide_eq_true Yc_
        have q306 : x5_1 < (l1.length : Int) := of_decide_eq_true Yc_
        obtain ⟨ad306, e306, hx306_0⟩ := Kd.Fv HR1.out x5_1 p306 q306
        cases e306
        replace p306 := eq_true p306
        replace q306 := eq_true q306
        go_wp2
        repeat (go_quiet (fail); try go_wp2)
        go_roundg k1
        case measure => have := HK1.out; omega
        case rel => exact ⟨(wrap64 (x5_1 + 1)), Yd_, H', ⟨by have := HK1.out; omega⟩, by repeat (first | exact Drawn0.refl _ | apply Drawn0.step)⟩
       ·rw [if_neg c7] at H
        have c7b0 : ((rd l0 x5_1) == (rd l1 x5_1)) = false := beq_eq_false_iff_ne.mpr c7
        have c7b1 : ((rd l0 x5_1) != (rd l1 x5_1)) = true := bne_iff_ne.mpr c7
        obtain rfl := Option.some.inj H
        have p305 : 0 ≤ (x5_1 : Int) := of_decide_eq_true Yc_
        have q305 : x5_1 < (l0.length : Int) := of_decide_eq_true Yc_
        obtain ⟨ad305, e305, hx305_0⟩ := Kd.Fv HR0.out x5_1 p305 q305
        cases e305
        replace p305 := eq_true p305
        replace q305 := eq_true q305
        have p306 : 0 ≤ (x5_1 : Int) := of_decide_eq_true Yc_
        have q306 : x5_1 < (l1.length : Int) := of_decide_eq_true Yc_
        obtain ⟨ad306, e306, hx306_0⟩ := Kd.Fv HR1.out x5_1 p306 q306
        cases e306
        replace p306 := eq_true p306
        replace q306 := eq_true q306
        go_wp2
        repeat (go_quiet (fail); try go_wp2)
        go_ret
        exact ⟨by first | rfl | (simp; done) | (simp [*]; done), by repeat (first | exact Drawn0.refl _ | apply Drawn0.step)⟩
      ·rw [if_neg c6] at H
       exact absurd H (by simp)
     ·rw [if_neg c5] at H
      exact absurd H (by simp)
    ·rw [if_neg c4] at H
     have c4b0 : decide (x5_1 < (l0.length : Int)) = false := decide_eq_false c4
     clear c4
     obtain rfl := Option.some.inj H
     go_wp2
     repeat (go_quiet (fail); try go_wp2)
     go_ret
     exact ⟨by first | rfl | (simp; done) | (simp [*]; done), by repeat (first | exact Drawn0.refl _ | apply Drawn0.step)⟩
 ·rw [if_neg c3] at H
  have c3b0 : ((l0.length : Int) == (l1.length : Int)) = false := beq_eq_false_iff_ne.mpr c3
  have c3b1 : ((l0.length : Int) != (l1.length : Int)) = true := bne_iff_ne.mpr c3
  have c3b2 : (l0.length == l1.length) = false := by first | simpa using c3 | (simp at c3 ⊢; omega)
  obtain rfl := Option.some.inj H
  go_enter Try.func42, Try.ntmps42
  go_wp2
  repeat (go_quiet (fail); try go_wp2)
  go_ret
  exact ⟨by first | rfl | (simp; done) | (simp [*]; done), by repeat (first | exact Drawn0.refl _ | apply Drawn0.step)⟩
end Go.Proofs.Ytolaplcjbmjlmaa.X

namespace Go.Proofs.Ytolaplcjbmjlmaa.X
open Go.RowKit Go.Proofs.YtolaplcjbmjlmaaW.PrintWords Go.Proofs.YtolaplcjbmjlmaaL
end Go.Proofs.Ytolaplcjbmjlmaa.X

namespace Go.Proofs.Ytolaplcjbmjlmaa.X
open Go.RowKit Go.Proofs.YtolaplcjbmjlmaaW.PrintWords Go.Proofs.YtolaplcjbmjlmaaW.PrintLast Go.Proofs.YtolaplcjbmjlmaaW.PrintMore
attribute [local go_sem] max2_int min2_int max_two min_two max_three min_three max_four min_four
def Fa.l0 : Nat → List (List Int) → List (List Int) → Int → Option (Bool)
 | 0, _, _, _ => none
 | k + 1, x0, x1, x5 => if x5 < (x0.length : Int) then (if 0 ≤ x5 then (if x5 < (x1.length : Int) then ((Eo.f k (Es x0 x5) (Es x1 x5)).bind fun t309 => (if t309 = true then (Fa.l0 k x0 x1 (wrap64 (x5 + 1))) else (some false))) else (none)) else (none)) else (some true)
def Fa.f (k : Nat) (l0 : List (List Int)) (l1 : List (List Int)) : Option (Bool) := if (l0.length : Int) = (l1.length : Int) then (Fa.l0 k l0 l1 0) else (some false)
theorem Fa.Dq : ∀ k, (∀ y0 y1 y2, LeO (Fa.l0 k y0 y1 y2) (Fa.l0 (k + 1) y0 y1 y2))
 | 0 => fun _ _ _ r h => by simp [Fa.l0] at h
 | k + 1 => by
  have ih0 := Fa.Dq k
  ·intro y0 y1 y2
   unfold Fa.l0
   repeat' first
   | (with_reducible exact ih0 _ _ _)
   | (with_reducible exact Eo.mono _ _ _)
   | (with_reducible exact LeO.refl _)
   | (with_reducible exact LeO.none _)
   | (with_reducible refine LeO.ite ?_ ?_)
   | (with_reducible refine LeO.bind ?_ (fun _ => ?_))
   | exact ih0 _ _ _
   | exact Eo.mono _ _ _
   | exact LeO.none _
   | refine LeO.ite ?_ ?_
   | refine LeO.bind ?_ (fun _ => ?_)
theorem Fa.mono : ∀ a0 a1 k, LeO (Fa.f k a0 a1) (Fa.f (k + 1) a0 a1) := by
 intro a0 a1 k
 have ih0 := Fa.Dq k
 unfold Fa.f
 repeat' first
   | (with_reducible exact ih0 _ _ _)
   | (with_reducible exact Eo.mono _ _ _)
   | (with_reducible exact LeO.refl _)
   | (with_reducible exact LeO.none _)
   | (with_reducible refine LeO.ite ?_ ?_)
   | (with_reducible refine LeO.bind ?_ (fun _ => ?_))
   | exact ih0 _ _ _
   | exact Eo.mono _ _ _
   | exact LeO.none _
   | refine LeO.ite ?_ ?_
   | refine LeO.bind ?_ (fun _ => ?_)
set_option maxHeartbeats 8000000 in
set_option maxRecDepth 100000 in
theorem Fa.calls (k : Nat) (A0 : Option Addr) (c0 : Nat) (l0 : List (List Int)) (A1 : Option Addr) (c1 : Nat) (l1 : List (List Int)) (r : Bool) (w : World) (hr0 : Kd.C (Kd.slice 3 (Kd.int .i64)) w A0 l0.length l0) (hc0 : l0.length ≤ c0) (hr1 : Kd.C (Kd.slice 3 (Kd.int .i64)) w A1 l1.length l1) (hc1 : l1.length ≤ c1) (h : Fa.f k l0 l1 = some r) :
  Calls Try.prog 31 #[.slice A0 l0.length c0, .slice A1 l1.length c1] w fun e w' => e = .returned (.bool r) ∧ Drawn0 w w' := by
 have HR0 := Aside0.mk hr0
 have HC0 := Aside0.mk hc0
 clear hr0 hc0
 have HR1 := Aside0.mk hr1
 have HC1 := Aside0.mk hc1
 clear hr1 hc1
 have H : (if (l0.length : Int) = (l1.length : Int) then (Fa.l0 k l0 l1 0) else (some false)) = some r := h
 clear h
 by_cases c3 : (l0.length : Int) = (l1.length : Int)
 ·rw [if_pos c3] at H
  have c3b0 : ((l0.length : Int) == (l1.length : Int)) = true := beq_iff_eq.mpr c3
  have c3b1 : ((l0.length : Int) != (l1.length : Int)) = false := bne_eq_false_iff_eq.mpr c3
  have c3b2 : (l0.length == l1.length) = true := by first | simpa using c3 | (simp at c3 ⊢; omega)
  clear c3
  have H' := Aside0.mk H
  clear H
  go_enter Try.func31, Try.ntmps31
  go_wp2
  repeat (go_quiet (fail); try go_wp2)
  go_loopg [5] k (fun kq v5 w' => ∃ (x5_1 : Int), v5 = .int .i64 x5_1 ∧ Aside0 (Fa.l0 kq l0 l1 x5_1 = some r) ∧ Aside0 (kq ≤ k) ∧ Drawn0 w w')
  case atStart => exact ⟨(0), Yd_, H', ⟨Nat.le_refl _⟩, by repeat (first | exact Drawn0.refl _ | apply Drawn0.step)⟩
  case round =>
   clear H'
   try clear c1
   try clear p2
   try clear c3
   try clear c3b0
   try clear c3b1
   try clear c3b2
   obtain ⟨x5_1, rfl, HA, HK1, ⟨m1, rfl⟩⟩ := hrel
   cases gk with
   | zero => exact absurd HA.out (by simp [Fa.l0])
   | succ k1 =>
    have H := HA.out
    clear HA
    simp only [Fa.l0] at H
    by_cases c4 : x5_1 < (l0.length : Int)
    ·rw [if_pos c4] at H
     have c4b0 : decide (x5_1 < (l0.length : Int)) = true := decide_eq_true c4
     clear c4
     by_cases c5 : 0 ≤ x5_1
     ·rw [if_pos c5] at H
      have c5b0 : decide (0 ≤ x5_1) = true := decide_eq_true c5
      clear c5
      by_cases c6 : x5_1 < (l1.length : Int)
      ·rw [if_pos c6] at H
       have c6b0 : decide (x5_1 < (l1.length : Int)) = true := decide_eq_true c6
       clear c6
       replace H := Option.bind_eq_some_iff.mp H
       obtain ⟨t309, A70, H⟩ := H
       replace H : (if t309 = true then (Fa.l0 k1 l0 l1 (wrap64 (x5_1 + 1))) else (some false)) = some r := H
       have A7 := Aside0.mk A70
       clear A70
       by_cases c8 : t309 = true
       ·subst c8
        have H1 : (Fa.l0 k1 l0 l1 (wrap64 (x5_1 + 1))) = some r := by rw [if_pos rfl] at H; exact H
        clear H
        have H := H1
        clear H1
        have H' := Aside0.mk H
        clear H
        have p307 : 0 ≤ (x5_1 : Int) := of_decide_eq_true Yc_
        have q307 : x5_1 < (l0.length : Int) := of_decide_eq_true Yc_
        obtain ⟨ad307, A307_0, c307_0, e307, hx307_0, hl307_0, hi307_0⟩ := at_L6 HR0.out x5_1 p307 q307
        cases e307
        have HR307_0 := Aside0.mk hi307_0
        have HC307_0 := Aside0.mk hl307_0
        clear hi307_0 hl307_0
        replace p307 := eq_true p307
        replace q307 := eq_true q307
        have p308 : 0 ≤ (x5_1 : Int) := of_decide_eq_true Yc_
        have q308 : x5_1 < (l1.length : Int) := of_decide_eq_true Yc_
        obtain ⟨ad308, A308_0, c308_0, e308, hx308_0, hl308_0, hi308_0⟩ := at_L6 HR1.out x5_1 p308 q308
        cases e308
        have HR308_0 := Aside0.mk hi308_0
        have HC308_0 := Aside0.mk hl308_0
        clear hi308_0 hl308_0
        replace p308 := eq_true p308
        replace q308 := eq_true q308
        go_wp2_with (first | (go_at_call 42; (with_reducible refine (Eo.calls k1 _ _ (Es l0 x5_1) _ _ (Es l1 x5_1) true _ ?side1 ?side2 ?side3 ?side4 A7.out).mono ?_); (case side1 => repeat (first | exact HR307_0.out | (with_reducible refine Kd.Be ?_ _) | (with_reducible refine Kd.Bf ?_ _) | (with_reducible refine Kd.Bh ?_))); (case side2 => exact HC307_0.out); (case side3 => repeat (first | exact HR308_0.out | (with_reducible refine Kd.Be ?_ _) | (with_reducible refine Kd.Bf ?_ _) | (with_reducible refine Kd.Bh ?_))); (case side4 => exact HC308_0.out); rintro e w' ⟨rfl, ⟨nd, rfl⟩⟩; (try first | exact ⟨rfl, _, World.drewN_drewN _ _ _⟩ | exact ⟨rfl, _, Eq.trans (World.drewN_drewN _ _ _) (congrArg (World.drewN _) (Nat.add_assoc _ _ _))⟩)))
        repeat (go_quiet (first | (go_at_call 42; (with_reducible refine (Eo.calls k1 _ _ (Es l0 x5_1) _ _ (Es l1 x5_1) true _ ?side1 ?side2 ?side3 ?side4 A7.out).mono ?_); (case side1 => repeat (first | exact HR307_0.out | (with_reducible refine Kd.Be ?_ _) | (with_reducible refine Kd.Bf ?_ _) | (with_reducible refine Kd.Bh ?_))); (case side2 => exact HC307_0.out); (case side3 => repeat (first | exact HR308_0.out | (with_reducible refine Kd.Be ?_ _) | (with_reducible refine Kd.Bf ?_ _) | (with_reducible refine Kd.Bh ?_))); (case side4 => exact HC308_0.out); rintro e w' ⟨rfl, ⟨nd, rfl⟩⟩; (try first | exact ⟨rfl, _, World.drewN_drewN _ _ _⟩ | exact ⟨rfl, _, Eq.trans (World.drewN_drewN _ _ _) (congrArg (World.drewN _) (Nat.add_assoc _ _ _))⟩))); try go_wp2_with (first | (go_at_call 42; (with_reducible refine (Eo.calls k1 _ _ (Es l0 x5_1) _ _ (Es l1 x5_1) true _ ?side1 ?side2 ?side3 ?side4 A7.out).mono ?_); (case side1 => repeat (first | exact HR307_0.out | (with_reducible refine Kd.Be ?_ _) | (with_reducible refine Kd.Bf ?_ _) | (with_reducible refine Kd.Bh ?_))); (case side2 => exact HC307_0.out); (case side3 => repeat (first | exact HR308_0.out | (with_reducible refine Kd.Be ?_ _) | (with_reducible refine Kd.Bf ?_ _) | (with_reducible refine Kd.Bh ?_))); (case side4 => exact HC308_0.out); rintro e w' ⟨rfl, ⟨nd, rfl⟩⟩; (try first | exact ⟨rfl, _, World.drewN_drewN _ _ _⟩ | exact ⟨rfl, _, Eq.trans (World.drewN_drewN _ _ _) (congrArg (World.drewN _) (Nat.add_assoc _ _ _))⟩))))
        go_roundg k1
        case measure => have := HK1.out; omega
        case rel => exact ⟨(wrap64 (x5_1 + 1)), Yd_, H', ⟨by have := HK1.out; omega⟩, by repeat (first | exact Drawn0.refl _ | apply Drawn0.step)⟩
       ·replace c8 := Bool.eq_false_iff.mpr c8
        subst c8
        have H1 : (some false) = some r := by rw [if_neg (show ¬ (false = true) by decide)] at H; exact H
        clear H
        have H := H1
        clear H1
        obtain rfl := Option.some.inj H
        have p307 : 0 ≤ (x5_1 : Int) := of_decide_eq_true Yc_
        have q307 : x5_1 < (l0.length : Int) := of_decide_eq_true Yc_
        obtain ⟨ad307, A307_0, c307_0, e307, hx307_0, hl307_0, hi307_0⟩ := at_L6 HR0.out x5_1 p307 q307
        cases e307
        have HR307_0 := Aside0.mk hi307_0
        have HC307_0 := Aside0.mk hl307_0
        clear hi307_0 hl307_0
        replace p307 := eq_true p307
        replace q307 := eq_true q307
        have p308 : 0 ≤ (x5_1 : Int) := of_decide_eq_true Yc_
        have q308 : x5_1 < (l1.length : Int) := of_decide_eq_true Yc_
        obtain ⟨ad308, A308_0, c308_0, e308, hx308_0, hl308_0, hi308_0⟩ := at_L6 HR1.out x5_1 p308 q308
        cases e308
        have HR308_0 := Aside0.mk hi308_0
        have HC308_0 := Aside0.mk hl308_0
        clear hi308_0 hl308_0
        replace p308 := eq_true p308
        replace q308 := eq_true q308
        go_wp2_with (first | (go_at_call 42; (with_reducible refine (Eo.calls k1 _ _ (Es l0 x5_1) _ _ (Es l1 x5_1) false _ ?side1 ?side2 ?side3 ?side4 A7.out).mono ?_); (case side1 => repeat (first | exact HR307_0.out | (with_reducible refine Kd.Be ?_ _) | (with_reducible refine Kd.Bf ?_ _) | (with_reducible refine Kd.Bh ?_))); (case side2 => exact HC307_0.out); (case side3 => repeat (first | exact HR308_0.out | (with_reducible refine Kd.Be ?_ _) | (with_reducible refine Kd.Bf ?_ _) | (with_reducible refine Kd.Bh ?_))); (case side4 => exact HC308_0.out); rintro e w' ⟨rfl, ⟨nd, rfl⟩⟩; (try first | exact ⟨rfl, _, World.drewN_drewN _ _ _⟩ | exact ⟨rfl, _, Eq.trans (World.drewN_drewN _ _ _) (congrArg (World.drewN _) (Nat.add_assoc _ _ _))⟩)))
        repeat (go_quiet (first | (go_at_call 42; (with_reducible refine (Eo.calls k1 _ _ (Es l0 x5_1) _ _ (Es l1 x5_1) false _ ?side1 ?side2 ?side3 ?side4 A7.out).mono ?_); (case side1 => repeat (first | exact HR307_0.out | (with_reducible refine Kd.Be ?_ _) | (with_reducible refine Kd.Bf ?_ _) | (with_reducible refine Kd.Bh ?_))); (case side2 => exact HC307_0.out); (case side3 => repeat (first | exact HR308_0.out | (with_reducible refine Kd.Be ?_ _) | (with_reducible refine Kd.Bf ?_ _) | (with_reducible refine Kd.Bh ?_))); (case side4 => exact HC308_0.out); rintro e w' ⟨rfl, ⟨nd, rfl⟩⟩; (try first | exact ⟨rfl, _, World.drewN_drewN _ _ _⟩ | exact ⟨rfl, _, Eq.trans (World.drewN_drewN _ _ _) (congrArg (World.drewN _) (Nat.add_assoc _ _ _))⟩))); try go_wp2_with (first | (go_at_call 42; (with_reducible refine (Eo.calls k1 _ _ (Es l0 x5_1) _ _ (Es l1 x5_1) false _ ?side1 ?side2 ?side3 ?side4 A7.out).mono ?_); (case side1 => repeat (first | exact HR307_0.out | (with_reducible refine Kd.Be ?_ _) | (with_reducible refine Kd.Bf ?_ _) | (with_reducible refine Kd.Bh ?_))); (case side2 => exact HC307_0.out); (case side3 => repeat (first | exact HR308_0.out | (with_reducible refine Kd.Be ?_ _) | (with_reducible refine Kd.Bf ?_ _) | (with_reducible refine Kd.Bh ?_))); (case side4 => exact HC308_0.out); rintro e w' ⟨rfl, ⟨nd, rfl⟩⟩; (try first | exact ⟨rfl, _, World.drewN_drewN _ _ _⟩ | exact ⟨rfl, _, Eq.trans (World.drewN_drewN _ _ _) (congrArg (World.drewN _) (Nat.add_assoc _ _ _))⟩))))
        go_ret
        exact ⟨by first | rfl | (simp; done) | (simp [*]; done), by repeat (first | exact Drawn0.refl _ | apply Drawn0.step)⟩
      ·rw [if_neg c6] at H
       exact absurd H (by simp)
     ·rw [if_neg c5] at H
      exact absurd H (by simp)
    ·rw [if_neg c4] at H
     have c4b0 : decide (x5_1 < (l0.length : Int)) = false := decide_eq_false c4
     clear c4
     obtain rfl := Option.some.inj H
     go_wp2
     repeat (go_quiet (fail); try go_wp2)
     go_ret
     exact ⟨by first | rfl | (simp; done) | (simp [*]; done), by repeat (first | exact Drawn0.refl _ | apply Drawn0.step)⟩
 ·rw [if_neg c3] at H
  have c3b0 : ((l0.length : Int) == (l1.length : Int)) = false := beq_eq_false_iff_ne.mpr c3
  have c3b1 : ((l0.length : Int) != (l1.length : Int)) = true := bne_iff_ne.mpr c3
  have c3b2 : (l0.length == l1.length) = false := by first | simpa using c3 | (simp at c3 ⊢; omega)
  obtain rfl := Option.some.inj H
  go_enter Try.func31, Try.ntmps31
  go_wp2
  repeat (go_quiet (fail); try go_wp2)
  go_ret
  exact ⟨by first | rfl | (simp; done) | (simp [*]; done), by repeat (first | exact Drawn0.refl _ | apply Drawn0.step)⟩
end Go.Proofs.Ytolaplcjbmjlmaa.X

namespace Go.Proofs.Ytolaplcjbmjlmaa.X
open Go.RowKit Go.Proofs.YtolaplcjbmjlmaaW.PrintWords Go.Proofs.YtolaplcjbmjlmaaL
theorem rdR (l : List (List Int)) (n : Nat) (h : n < l.length) : Es l (n : Int) = l[n] := by simp [Es, List.getD_eq_getElem?_getD, List.getElem?_eq_getElem h]
end Go.Proofs.Ytolaplcjbmjlmaa.X

namespace Go.Proofs.Ytolaplcjbmjlmaa.X
open Go.RowKit Go.Proofs.YtolaplcjbmjlmaaW.PrintWords Go.Proofs.YtolaplcjbmjlmaaW.PrintLast Go.Proofs.YtolaplcjbmjlmaaW.PrintMore
attribute [local go_sem] max2_int min2_int max_two min_two max_three min_three max_four min_four
def Eu.l0 : Nat → List Int → Int → Int → Option (Int × List Int)
 | 0, _, _, _ => none
 | k + 1, x0, x1, x5 => if x5 < (x0.length : Int) then (if 0 ≤ x5 then (Eu.l0 k (x0.set (x5 : Int).toNat x1) (wrap64 (x1 + 1)) (wrap64 (x5 + 1))) else (none)) else (some (x1, x0))
def Eu.f (k : Nat) (l0 : List Int) (a1 : Int) : Option (Int × List Int) := Eu.l0 k l0 a1 0
theorem Eu.Dq : ∀ k, (∀ y0 y1 y2, LeO (Eu.l0 k y0 y1 y2) (Eu.l0 (k + 1) y0 y1 y2))
 | 0 => fun _ _ _ r h => by simp [Eu.l0] at h
 | k + 1 => by
  have ih0 := Eu.Dq k
  ·intro y0 y1 y2
   unfold Eu.l0
   repeat' first
   | (with_reducible exact ih0 _ _ _)
   | (with_reducible exact LeO.refl _)
   | (with_reducible exact LeO.none _)
   | (with_reducible refine LeO.ite ?_ ?_)
   | (with_reducible refine LeO.bind ?_ (fun _ => ?_))
   | exact ih0 _ _ _
   | exact LeO.none _
   | refine LeO.ite ?_ ?_
   | refine LeO.bind ?_ (fun _ => ?_)
theorem Eu.mono : ∀ a0 a1 k, LeO (Eu.f k a0 a1) (Eu.f (k + 1) a0 a1) := by
 intro a0 a1 k
 have ih0 := Eu.Dq k
 unfold Eu.f
 repeat' first
   | (with_reducible exact ih0 _ _ _)
   | (with_reducible exact LeO.refl _)
   | (with_reducible exact LeO.none _)
   | (with_reducible refine LeO.ite ?_ ?_)
   | (with_reducible refine LeO.bind ?_ (fun _ => ?_))
   | exact ih0 _ _ _
   | exact LeO.none _
   | refine LeO.ite ?_ ?_
   | refine LeO.bind ?_ (fun _ => ?_)
set_option maxHeartbeats 8000000 in
set_option maxRecDepth 100000 in
theorem Eu.calls (k : Nat) (P0_ : Nat → Prop) (u9000_ : Value) (l0 : List Int) (a1 : Int) (r1 : Int) (r2 : List Int) (w0 w : World) (hB : Below w0.heap.size w0 w) (ho0 : Kd.R (Kd.int .i64) 3 w w0.heap.size P0_ u9000_ l0) (h : Eu.f k l0 a1 = some (r1, r2)) :
  Calls Try.prog 43 #[u9000_, .int .i64 a1] w fun e w' => e = .returned (.int .i64 r1) ∧ Kd.R (Kd.int .i64) 3 w' w0.heap.size (fun k_ => (P0_ k_ ∨ w.heap.size ≤ k_)) u9000_ r2 ∧ Below w0.heap.size w0 w' ∧ Kept w w' (fun k_ => P0_ k_) := by
 have HO0 := Aside0.mk (show Kd.R (Kd.int .i64) 3 w w0.heap.size (fun k_ => (P0_ k_ ∨ w.heap.size ≤ k_)) u9000_ l0 from Kd.R_mono ho0 (fun k_ hk => (.inl hk)))
 have HK := Aside0.mk (Kept.refl w (fun k_ => P0_ k_))
 have HW0 := Aside0.mk hB.size
 have HB := Aside0.mk hB
 clear hB
 have H : (Eu.l0 k l0 a1 0) = some (r1, r2) := h
 clear h
 have H' := Aside0.mk H
 clear H
 go_enter Try.func43, Try.ntmps43
 go_wp2
 go_loopg [1, 5] k (fun kq v1 v5 w' => ∃ (x0_1 : List Int) (x1_1 : Int) (x5_1 : Int), v1 = .int .i64 x1_1 ∧ v5 = .int .i64 x5_1 ∧ Aside0 (Eu.l0 kq x0_1 x1_1 x5_1 = some (r1, r2)) ∧ Aside0 (kq ≤ k) ∧ Aside0 (Kd.R (Kd.int .i64) 3 w' w0.heap.size (fun k_ => (P0_ k_ ∨ w.heap.size ≤ k_)) u9000_ x0_1) ∧ Aside0 (Kept w w' (fun k_ => P0_ k_)) ∧ Aside0 (Below w0.heap.size w0 w'))
 case atStart => exact ⟨(l0), (a1), (0), Yd_, Yd_, H', ⟨Nat.le_refl _⟩, ⟨by (with_reducible repeat (first | apply Kd.Ap | apply Kd.Am | apply Kd.Ba)); exact HO0.out⟩, ⟨by repeat (first | (with_reducible first | exact HK.out | apply Kept.alloc | apply Kept.drewN | apply Kept.drew) | exact HK.out)⟩, ⟨by repeat (first | (with_reducible first | exact HB.out | apply Af | apply Ad | apply Ae) | exact HB.out)⟩⟩
 case round =>
  clear H'
  try clear p2
  obtain ⟨x0_1, x1_1, x5_1, rfl, rfl, HA, HK1, HO_0, HK, HB⟩ := hrel
  cases gk with
  | zero => exact absurd HA.out (by simp [Eu.l0])
  | succ k1 =>
   have H := HA.out
   clear HA
   simp only [Eu.l0] at H
   by_cases c3 : x5_1 < (x0_1.length : Int)
   ·rw [if_pos c3] at H
    have c3b0 : decide (x5_1 < (x0_1.length : Int)) = true := decide_eq_true c3
    clear c3
    by_cases c4 : 0 ≤ x5_1
    ·rw [if_pos c4] at H
     have c4b0 : decide (0 ≤ x5_1) = true := decide_eq_true c4
     clear c4
     obtain ⟨y313, hy313⟩ : ∃ y_ : List Int, y_ = (x0_1.set (x5_1 : Int).toNat x1_1) := ⟨_, rfl⟩
     replace H : (Eu.l0 k1 y313 (wrap64 (x1_1 + 1)) (wrap64 (x5_1 + 1))) = some (r1, r2) := by first | (rw [hy313]; with_reducible exact H) | (have H2_ := (Option.bind_some _ _).symm.trans H; rw [hy313]; with_reducible exact H2_) | (have H2_ := (Option.bind_some _ _).symm.trans H; with_reducible exact H2_) | with_reducible exact H | (rw [hy313]; exact H) | exact H
     have Ny313 := Aside0.mk hy313
     clear hy313
     have H' := Aside0.mk H
     clear H
     obtain ⟨Ao6, co6, eo6⟩ := Kd.R_slice HO_0.out
     subst eo6
     have p5 : 0 ≤ (x5_1 : Int) := of_decide_eq_true Yc_
     have q5 : (x5_1 : Int) < ((x0_1.length : Int) : Int) := of_decide_eq_true Yc_
     obtain ⟨go5, co5, eo5, gb5, gl5, cl5, HG5⟩ := Kd.R_form HO_0.out (by omega)
     (first | cases eo5 | (injection eo5 with ea_ en_ ec_; (first | subst ea_ | (injection ea_ with ea_; subst ea_)); subst ec_; clear en_))
     have GB5 := Aside0.mk gb5
     have GG5 := Aside0.mk HG5
     clear gb5 gl5 HG5
     have HMgo5 := Aside0.mk (show (P0_ go5 ∨ w.heap.size ≤ go5) from (HO_0.out.1 _ rfl))
     obtain ⟨hx5_0, hf5_0⟩ := Kd.R_celln 0 HO_0.out (x5_1 : Int) p5 q5
     replace p5 := eq_true p5
     replace q5 := eq_true q5
     have HP7 := Kd.R_putg HO_0.out (x5_1 : Int) x1_1
     go_wp2_with (first | ((with_reducible refine gate_store (t := 3) (p := 15) rfl ?_); refine store_event (t := 3) (p := 15) (v := ?vo_w8) (w1 := (wr.setCell ⟨go5, (x5_1 : Int).toNat, none⟩ (.int .i64 x1_1))) ?hg ?ho ?hn ?hr ?_; (case ho => rfl); (case hg => rfl); (case hn => rfl); (case hr => first | (go_simp; done) | (go_simp; rfl)); intro w8 hw; have hg : wr.grownBy w8 (some go5) := (by rw [hw]; exact HP7.2); have hp_ : Kd.R (Kd.int .i64) 3 w8 w0.heap.size (fun k_ => (P0_ k_ ∨ w.heap.size ≤ k_)) (.slice (some ⟨go5, 0, none⟩) x0_1.length co6) y313 := (by rw [hw, Ny313.out]; exact HP7.1); clear HP7; have n0_ := Aside0.mk (hp_); have n1_ := Aside0.mk ((by rw [hw]; exact Ar (HB.out) GB5.out : Below w0.heap.size w0 w8)); have n2_ := Aside0.mk (Kept.Ha (S := (fun k_ => P0_ k_)) hg Ycj_ (fun k_ e_ => (HO_0.out.1 k_ e_))); clear HO_0; clear HB; clear HK; have HO_0 := n0_; have HB := n1_; have HK := n2_; clear n0_ n1_ n2_; clear hg hw hp_))
     go_roundg k1
     case measure => have := HK1.out; omega
     case rel => exact ⟨(y313), (wrap64 (x1_1 + 1)), (wrap64 (x5_1 + 1)), Yd_, Yd_, H', ⟨by have := HK1.out; omega⟩, ⟨by (with_reducible repeat (first | apply Kd.Ap | apply Kd.Am | apply Kd.Ba)); exact HO_0.out⟩, ⟨by repeat (first | (with_reducible first | exact HK.out | apply Kept.alloc | apply Kept.drewN | apply Kept.drew) | exact HK.out)⟩, ⟨by repeat (first | (with_reducible first | exact HB.out | apply Af | apply Ad | apply Ae) | exact HB.out)⟩⟩
    ·rw [if_neg c4] at H
     exact absurd H (by simp)
   ·rw [if_neg c3] at H
    have c3b0 : decide (x5_1 < (x0_1.length : Int)) = false := decide_eq_false c3
    clear c3
    simp only [Option.some.injEq, Prod.mk.injEq] at H
    obtain ⟨rfl, rfl⟩ := H
    obtain ⟨Ao9, co9, eo9⟩ := Kd.R_slice HO_0.out
    subst eo9
    go_wp2
    go_ret
    exact ⟨by first | rfl | (simp [Aw, Az] <;> rfl) | (simp [*, Aw, Az] <;> rfl), by (with_reducible repeat (first | apply Kd.Ap | apply Kd.Am | apply Kd.Ba)); exact HO_0.out, by repeat (first | (with_reducible first | exact HB.out | apply Af | apply Ad | apply Ae) | exact HB.out), by repeat (first | (with_reducible first | exact HK.out | apply Kept.alloc | apply Kept.drewN | apply Kept.drew) | exact HK.out)⟩
end Go.Proofs.Ytolaplcjbmjlmaa.X

namespace Go.Proofs.Ytolaplcjbmjlmaa.X
open Go.RowKit Go.Proofs.YtolaplcjbmjlmaaW.PrintWords Go.Proofs.YtolaplcjbmjlmaaW.PrintLast Go.Proofs.YtolaplcjbmjlmaaW.PrintMore
attribute [local go_sem] max2_int min2_int max_two min_two max_three min_three max_four min_four
def Ej.l0 : Nat → List Int → Int → Int → Option (Int)
 | 0, _, _, _ => none
 | k + 1, x0, x1, x5 => if x5 < (x0.length : Int) then (if 0 ≤ x5 then (if (rd x0 x5) = x1 then (Ej.l0 k x0 (wrap64 (x1 + 1)) (wrap64 (x5 + 1))) else (some (-1))) else (none)) else (some x1)
def Ej.f (k : Nat) (l0 : List Int) (a1 : Int) : Option (Int) := Ej.l0 k l0 a1 0
theorem Ej.Dq : ∀ k, (∀ y0 y1 y2, LeO (Ej.l0 k y0 y1 y2) (Ej.l0 (k + 1) y0 y1 y2))
 | 0 => fun _ _ _ r h => by simp [Ej.l0] at h
 | k + 1 => by
  have ih0 := Ej.Dq k
  ·intro y0 y1 y2
   unfold Ej.l0
   repeat' first
   | (with_reducible exact ih0 _ _ _)
   | (with_reducible exact LeO.refl _)
   | (with_reducible exact LeO.none _)
   | (with_reducible refine LeO.ite ?_ ?_)
   | (with_reducible refine LeO.bind ?_ (fun _ => ?_))
   | exact ih0 _ _ _
   | exact LeO.none _
   | refine LeO.ite ?_ ?_
   | refine LeO.bind ?_ (fun _ => ?_)
theorem Ej.mono : ∀ a0 a1 k, LeO (Ej.f k a0 a1) (Ej.f (k + 1) a0 a1) := by
 intro a0 a1 k
 have ih0 := Ej.Dq k
 unfold Ej.f
 repeat' first
   | (with_reducible exact ih0 _ _ _)
   | (with_reducible exact LeO.refl _)
   | (with_reducible exact LeO.none _)
   | (with_reducible refine LeO.ite ?_ ?_)
   | (with_reducible refine LeO.bind ?_ (fun _ => ?_))
   | exact ih0 _ _ _
   | exact LeO.none _
   | refine LeO.ite ?_ ?_
   | refine LeO.bind ?_ (fun _ => ?_)
set_option maxHeartbeats 8000000 in
set_option maxRecDepth 100000 in
theorem Ej.calls (k : Nat) (A0 : Option Addr) (c0 : Nat) (l0 : List Int) (a1 : Int) (r : Int) (w : World) (hr0 : Kd.C (Kd.int .i64) w A0 l0.length l0) (hc0 : l0.length ≤ c0) (h : Ej.f k l0 a1 = some r) :
  Calls Try.prog 44 #[.slice A0 l0.length c0, .int .i64 a1] w fun e w' => e = .returned (.int .i64 r) ∧ Drawn0 w w' := by
 have HR0 := Aside0.mk hr0
 have HC0 := Aside0.mk hc0
 clear hr0 hc0
 have H : (Ej.l0 k l0 a1 0) = some r := h
 clear h
 have H' := Aside0.mk H
 clear H
 go_enter Try.func44, Try.ntmps44
 go_wp2
 go_loopg [1, 5] k (fun kq v1 v5 w' => ∃ (x1_1 : Int) (x5_1 : Int), v1 = .int .i64 x1_1 ∧ v5 = .int .i64 x5_1 ∧ Aside0 (Ej.l0 kq l0 x1_1 x5_1 = some r) ∧ Aside0 (kq ≤ k) ∧ Drawn0 w w')
 case atStart => exact ⟨(a1), (0), Yd_, Yd_, H', ⟨Nat.le_refl _⟩, by repeat (first | exact Drawn0.refl _ | apply Drawn0.step)⟩
 case round =>
  clear H'
  try clear p2
  obtain ⟨x1_1, x5_1, rfl, rfl, HA, HK1, ⟨m1, rfl⟩⟩ := hrel
  cases gk with
  | zero => exact absurd HA.out (by simp [Ej.l0])
  | succ k1 =>
   have H := HA.out
   clear HA
   simp only [Ej.l0] at H
   by_cases c3 : x5_1 < (l0.length : Int)
   ·rw [if_pos c3] at H
    have c3b0 : decide (x5_1 < (l0.length : Int)) = true := decide_eq_true c3
    clear c3
    by_cases c4 : 0 ≤ x5_1
    ·rw [if_pos c4] at H
     have c4b0 : decide (0 ≤ x5_1) = true := decide_eq_true c4
     clear c4
     by_cases c5 : (rd l0 x5_1) = x1_1
     ·rw [if_pos c5] at H
      have c5b0 : ((rd l0 x5_1) == x1_1) = true := beq_iff_eq.mpr c5
      have c5b1 : ((rd l0 x5_1) != x1_1) = false := bne_eq_false_iff_eq.mpr c5
      clear c5
      have H' := Aside0.mk H
      clear H
      have p314 : 0 ≤ (x5_1 : Int) := of_decide_eq_true Yc_
      have q314 : x5_1 < (l0.length : Int) := of_decide_eq_true Yc_
      obtain ⟨ad314, e314, hx314_0⟩ := Kd.Fv HR0.out x5_1 p314 q314
      cases e314
      replace p314 := eq_true p314
      replace q314 := eq_true q314
      go_wp2
      go_roundg k1
      case measure => have := HK1.out; omega
      case rel => exact ⟨(wrap64 (x1_1 + 1)), (wrap64 (x5_1 + 1)), Yd_, Yd_, H', ⟨by have := HK1.out; omega⟩, by repeat (first | exact Drawn0.refl _ | apply Drawn0.step)⟩
     ·rw [if_neg c5] at H
      have c5b0 : ((rd l0 x5_1) == x1_1) = false := beq_eq_false_iff_ne.mpr c5
      have c5b1 : ((rd l0 x5_1) != x1_1) = true := bne_iff_ne.mpr c5
      obtain rfl := Option.some.inj H
      have p314 : 0 ≤ (x5_1 : Int) := of_decide_eq_true Yc_
      have q314 : x5_1 < (l0.length : Int) := of_decide_eq_true Yc_
      obtain ⟨ad314, e314, hx314_0⟩ := Kd.Fv HR0.out x5_1 p314 q314
      cases e314
      replace p314 := eq_true p314
      replace q314 := eq_true q314
      go_wp2
      go_ret
      exact ⟨by first | rfl | (simp; done) | (simp [*]; done), by repeat (first | exact Drawn0.refl _ | apply Drawn0.step)⟩
    ·rw [if_neg c4] at H
     exact absurd H (by simp)
   ·rw [if_neg c3] at H
    have c3b0 : decide (x5_1 < (l0.length : Int)) = false := decide_eq_false c3
    clear c3
    obtain rfl := Option.some.inj H
    go_wp2
    go_ret
    exact ⟨by first | rfl | (simp; done) | (simp [*]; done), by repeat (first | exact Drawn0.refl _ | apply Drawn0.step)⟩
end Go.Proofs.Ytolaplcjbmjlmaa.X

namespace Go.Proofs.Ytolaplcjbmjlmaa.X
open Go.RowKit Go.Proofs.YtolaplcjbmjlmaaW.PrintWords Go.Proofs.YtolaplcjbmjlmaaL
end Go.Proofs.Ytolaplcjbmjlmaa.X

namespace Go.Proofs.Ytolaplcjbmjlmaa.X
open Go.RowKit Go.Proofs.YtolaplcjbmjlmaaW.PrintWords Go.Proofs.YtolaplcjbmjlmaaW.PrintLast Go.Proofs.YtolaplcjbmjlmaaW.PrintMore
attribute [local go_sem] max2_int min2_int max_two min_two max_three min_three max_four min_four
def E5.l0 : Nat → List (List Int) → Int → Int → Option (Int × List (List Int))
 | 0, _, _, _ => none
 | k + 1, x0, x1, x5 => if x5 < (x0.length : Int) then (if 0 ≤ x5 then ((Eu.f k (Es x0 x5) x1).bind fun t => E5.l0 k (x0.set (x5 : Int).toNat t.2) t.1 (wrap64 (x5 + 1))) else none) else some (x1, x0)
def E5.f (k : Nat) (l0 : List (List Int)) (a1 : Int) : Option (Int × List (List Int)) := E5.l0 k l0 a1 0
theorem E5.Dq : ∀ k y0 y1 y2, LeO (E5.l0 k y0 y1 y2) (E5.l0 (k + 1) y0 y1 y2)
 | 0 => fun _ _ _ r h => by simp [E5.l0] at h
 | k + 1 => by
  intro y0 y1 y2
  have ih := E5.Dq k
  unfold E5.l0
  refine LeO.ite (LeO.ite ?_ (LeO.refl _)) (LeO.refl _)
  exact LeO.bind (Eu.mono _ _ _) (fun _ => ih _ _ _)
theorem E5.mono (a0 : List (List Int)) (a1 : Int) (k : Nat) : LeO (E5.f k a0 a1) (E5.f (k + 1) a0 a1) := E5.Dq k _ _ _
set_option maxHeartbeats 8000000 in
set_option maxRecDepth 100000 in
theorem E5.calls (k : Nat) (P0_ : Nat → Prop) (u9000_ : Value) (l0 : List (List Int)) (a1 : Int) (r1 : Int) (r2 : List (List Int)) (w0 w : World) (hB : Below w0.heap.size w0 w) (ho0 : Kd.S (Kd.slice 3 (Kd.int .i64)) 53 w w0.heap.size P0_ u9000_ l0) (h : E5.f k l0 a1 = some (r1, r2)) :
  Calls Try.prog 33 #[u9000_, .int .i64 a1] w fun e w' => e = .returned (.int .i64 r1) ∧ Kd.S (Kd.slice 3 (Kd.int .i64)) 53 w' w0.heap.size P0_ u9000_ r2 ∧ Below w0.heap.size w0 w' ∧ Kept w w' (fun k_ => P0_ k_) := by
 have HO := Aside0.mk ho0
 have HK := Aside0.mk (Kept.refl w (fun k_ => P0_ k_))
 have HB := Aside0.mk hB
 clear hB ho0
 have H' := Aside0.mk (show E5.l0 k l0 a1 0 = some (r1, r2) from h)
 clear h
 go_enter Try.func33, Try.ntmps33
 go_wp2
 go_loopg [1, 5] k (fun kq v1 v5 w' => ∃ (xs : List (List Int)) (x1 : Int) (x5 : Int), v1 = .int .i64 x1 ∧ v5 = .int .i64 x5 ∧ Aside0 (E5.l0 kq xs x1 x5 = some (r1, r2)) ∧ Aside0 (kq ≤ k) ∧ Aside0 (Kd.S (Kd.slice 3 (Kd.int .i64)) 53 w' w0.heap.size P0_ u9000_ xs) ∧ Aside0 (Kept w w' (fun k_ => P0_ k_)) ∧ Aside0 (Below w0.heap.size w0 w'))
 case atStart => exact ⟨l0, a1, 0, rfl, rfl, H', ⟨Nat.le_refl _⟩, HO, HK, HB⟩
 case round =>
  clear H' HO HK HB
  obtain ⟨xs, x1, x5, rfl, rfl, HA, HK1, HO, HK, HB⟩ := hrel
  cases gk with
  | zero => exact absurd HA.out (by simp [E5.l0])
  | succ k1 =>
   have H := HA.out
   clear HA
   simp only [E5.l0] at H
   by_cases c3 : x5 < (xs.length : Int)
   ·rw [if_pos c3] at H
    by_cases c4 : 0 ≤ x5
    ·rw [if_pos c4] at H
     replace H := Option.bind_eq_some_iff.mp H
     obtain ⟨⟨t1, t2⟩, A0, H⟩ := H
     have A5 := Aside0.mk A0
     clear A0
     have H' := Aside0.mk (show E5.l0 k1 (xs.set (x5 : Int).toNat t2) t1 (wrap64 (x5 + 1)) = some (r1, r2) from H)
     clear H
     obtain ⟨go5, co5, eo5, gb5, gl5, cl5⟩ := Kd.S_form HO.out (by omega)
     subst eo5
     have c3b0 : decide (x5 < (xs.length : Int)) = true := decide_eq_true c3
     have c4b0 : decide (0 ≤ x5) = true := decide_eq_true c4
     obtain ⟨oki, v, hx, hR, hoki, hback⟩ := Go.Proofs.YtolaplcjbmjlmaaOwn.lend HO.out x5 c4 c3
     have HR := Aside0.mk (show Kd.R (Kd.int .i64) 3 wr w0.heap.size oki v (Es xs x5) from hR)
     have HQ := Aside0.mk hoki
     have HBK := Aside0.mk hback
     clear hR hoki hback gb5 gl5 cl5
     replace c3 := eq_true c3
     replace c4 := eq_true c4
     go_wp2_with (first | ((with_reducible refine gate_callee (f := 43) rfl ?_); (try (refine gate_guard (by rfl) ?_; dsimp only)); refine goesL_ (some 17) rfl rfl Try.func43 (by kernel_rfl) rfl #[v, .int .i64 x1] rfl Yb_ ?_; (with_reducible refine (Eu.calls k1 oki v (Es xs x5) x1 t1 t2 w0 _ HB.out HR.out A5.out).mono ?_); rintro e w5 ⟨rfl, ho, hb, hk⟩; refine ⟨_, rfl, ?_⟩; have n0_ := Aside0.mk (HBK.out _ _ _ hk ho); have n1_ := Aside0.mk hb; have n2_ := Aside0.mk (Kept.then_ (S := fun k_ => P0_ k_) HK.out hk (fun k_ hk_ => .inl (HQ.out k_ hk_).1)); clear HO HB HK; have HO := n0_; have HB := n1_; have HK := n2_; clear n0_ n1_ n2_ ho hb hk))
     go_roundg k1
     case measure => have := HK1.out; omega
     case rel => exact ⟨xs.set (x5 : Int).toNat t2, t1, wrap64 (x5 + 1), by first | rfl | (simp; done) | (simp [*]; done), by first | rfl | (simp; done) | (simp [*]; done), H', ⟨by have := HK1.out; omega⟩, HO, HK, HB⟩
    ·rw [if_neg c4] at H
     cases H
   ·rw [if_neg c3] at H
    have c3b0 : decide (x5 < (xs.length : Int)) = false := decide_eq_false c3
    clear c3
    simp only [Option.some.injEq, Prod.mk.injEq] at H
    obtain ⟨rfl, rfl⟩ := H
    obtain ⟨Ao9, co9, eo9⟩ := Kd.S_slice HO.out
    subst eo9
    go_wp2
    go_ret
    exact ⟨rfl, HO.out, HB.out, HK.out⟩
end Go.Proofs.Ytolaplcjbmjlmaa.X

namespace Go.Proofs.Ytolaplcjbmjlmaa.X
open Go.RowKit Go.Proofs.YtolaplcjbmjlmaaW.PrintWords Go.Proofs.YtolaplcjbmjlmaaW.PrintLast Go.Proofs.YtolaplcjbmjlmaaW.PrintMore
attribute [local go_sem] max2_int min2_int max_two min_two max_three min_three max_four min_four
def Ey.l0 : Nat → List (List Int) → Int → Int → Option (Int)
 | 0, _, _, _ => none
 | k + 1, x0, x1, x5 => if x5 < (x0.length : Int) then (if 0 ≤ x5 then ((Ej.f k (Es x0 x5) x1).bind fun t316 => (if t316 < 0 then (some (-1)) else (Ey.l0 k x0 t316 (wrap64 (x5 + 1))))) else (none)) else (some x1)
def Ey.f (k : Nat) (l0 : List (List Int)) (a1 : Int) : Option (Int) := Ey.l0 k l0 a1 0
theorem Ey.Dq : ∀ k, (∀ y0 y1 y2, LeO (Ey.l0 k y0 y1 y2) (Ey.l0 (k + 1) y0 y1 y2))
 | 0 => fun _ _ _ r h => by simp [Ey.l0] at h
 | k + 1 => by
  have ih0 := Ey.Dq k
  ·intro y0 y1 y2
   unfold Ey.l0
   repeat' first
   | (with_reducible exact ih0 _ _ _)
   | (with_reducible exact Ej.mono _ _ _)
   | (with_reducible exact LeO.refl _)
   | (with_reducible exact LeO.none _)
   | (with_reducible refine LeO.ite ?_ ?_)
   | (with_reducible refine LeO.bind ?_ (fun _ => ?_))
   | exact ih0 _ _ _
   | exact Ej.mono _ _ _
   | exact LeO.none _
   | refine LeO.ite ?_ ?_
   | refine LeO.bind ?_ (fun _ => ?_)
theorem Ey.mono : ∀ a0 a1 k, LeO (Ey.f k a0 a1) (Ey.f (k + 1) a0 a1) := by
 intro a0 a1 k
 have ih0 := Ey.Dq k
 unfold Ey.f
 repeat' first
   | (with_reducible exact ih0 _ _ _)
   | (with_reducible exact Ej.mono _ _ _)
   | (with_reducible exact LeO.refl _)
   | (with_reducible exact LeO.none _)
   | (with_reducible refine LeO.ite ?_ ?_)
   | (with_reducible refine LeO.bind ?_ (fun _ => ?_))
   | exact ih0 _ _ _
   | exact Ej.mono _ _ _
   | exact LeO.none _
   | refine LeO.ite ?_ ?_
   | refine LeO.bind ?_ (fun _ => ?_)
set_option maxHeartbeats 8000000 in
set_option maxRecDepth 100000 in
theorem Ey.calls (k : Nat) (A0 : Option Addr) (c0 : Nat) (l0 : List (List Int)) (a1 : Int) (r : Int) (w : World) (hr0 : Kd.C (Kd.slice 3 (Kd.int .i64)) w A0 l0.length l0) (hc0 : l0.length ≤ c0) (h : Ey.f k l0 a1 = some r) :
  Calls Try.prog 34 #[.slice A0 l0.length c0, .int .i64 a1] w fun e w' => e = .returned (.int .i64 r) ∧ Drawn0 w w' := by
 have HR0 := Aside0.mk hr0
 have HC0 := Aside0.mk hc0
 clear hr0 hc0
 have H : (Ey.l0 k l0 a1 0) = some r := h
 clear h
 have H' := Aside0.mk H
 clear H
 go_enter Try.func34, Try.ntmps34
 go_wp2
 go_loopg [1, 5] k (fun kq v1 v5 w' => ∃ (x1_1 : Int) (x5_1 : Int), v1 = .int .i64 x1_1 ∧ v5 = .int .i64 x5_1 ∧ Aside0 (Ey.l0 kq l0 x1_1 x5_1 = some r) ∧ Aside0 (kq ≤ k) ∧ Drawn0 w w')
 case atStart => exact ⟨(a1), (0), Yd_, Yd_, H', ⟨Nat.le_refl _⟩, by repeat (first | exact Drawn0.refl _ | apply Drawn0.step)⟩
 case round =>
  clear H'
  try clear p2
  obtain ⟨x1_1, x5_1, rfl, rfl, HA, HK1, ⟨m1, rfl⟩⟩ := hrel
  cases gk with
  | zero => exact absurd HA.out (by simp [Ey.l0])
  | succ k1 =>
   have H := HA.out
   clear HA
   simp only [Ey.l0] at H
   by_cases c3 : x5_1 < (l0.length : Int)
   ·rw [if_pos c3] at H
    have c3b0 : decide (x5_1 < (l0.length : Int)) = true := decide_eq_true c3
    clear c3
    by_cases c4 : 0 ≤ x5_1
    ·rw [if_pos c4] at H
     have c4b0 : decide (0 ≤ x5_1) = true := decide_eq_true c4
     clear c4
     replace H := Option.bind_eq_some_iff.mp H
     obtain ⟨t316, A50, H⟩ := H
     replace H : (if t316 < 0 then (some (-1)) else (Ey.l0 k1 l0 t316 (wrap64 (x5_1 + 1)))) = some r := H
     have A5 := Aside0.mk A50
     clear A50
     by_cases c6 : t316 < 0
     ·rw [if_pos c6] at H
      have c6b0 : decide (t316 < 0) = true := decide_eq_true c6
      clear c6
      obtain rfl := Option.some.inj H
      have p315 : 0 ≤ (x5_1 : Int) := of_decide_eq_true Yc_
      have q315 : x5_1 < (l0.length : Int) := of_decide_eq_true Yc_
      obtain ⟨ad315, A315_0, c315_0, e315, hx315_0, hl315_0, hi315_0⟩ := at_L6 HR0.out x5_1 p315 q315
      cases e315
      have HR315_0 := Aside0.mk hi315_0
      have HC315_0 := Aside0.mk hl315_0
      clear hi315_0 hl315_0
      replace p315 := eq_true p315
      replace q315 := eq_true q315
      go_wp2_with (first | ((with_reducible refine gate_callee (f := 44) rfl ?_); refine goesL_ (some 17) rfl rfl Try.func44 (by kernel_rfl) rfl #[.slice A315_0 (Es l0 x5_1).length c315_0, .int .i64 x1_1] rfl Yb_ ?_; (with_reducible refine (Ej.calls k1 _ _ (Es l0 x5_1) x1_1 t316 _ ?side1 ?side2 A5.out).mono ?_); (case side1 => repeat (first | exact HR315_0.out | (with_reducible refine Kd.Be ?_ _) | (with_reducible refine Kd.Bf ?_ _) | (with_reducible refine Kd.Bh ?_))); (case side2 => exact HC315_0.out); rintro e w' ⟨rfl, ⟨nd, rfl⟩⟩; refine ⟨_, rfl, ?_⟩))
      go_ret
      exact ⟨by first | rfl | (simp; done) | (simp [*]; done), by repeat (first | exact Drawn0.refl _ | apply Drawn0.step)⟩
     ·rw [if_neg c6] at H
      have c6b0 : decide (t316 < 0) = false := decide_eq_false c6
      clear c6
      have H' := Aside0.mk H
      clear H
      have p315 : 0 ≤ (x5_1 : Int) := of_decide_eq_true Yc_
      have q315 : x5_1 < (l0.length : Int) := of_decide_eq_true Yc_
      obtain ⟨ad315, A315_0, c315_0, e315, hx315_0, hl315_0, hi315_0⟩ := at_L6 HR0.out x5_1 p315 q315
      cases e315
      have HR315_0 := Aside0.mk hi315_0
      have HC315_0 := Aside0.mk hl315_0
      clear hi315_0 hl315_0
      replace p315 := eq_true p315
      replace q315 := eq_true q315
      go_wp2_with (first | ((with_reducible refine gate_callee (f := 44) rfl ?_); refine goesL_ (some 17) rfl rfl Try.func44 (by kernel_rfl) rfl #[.slice A315_0 (Es l0 x5_1).length c315_0, .int .i64 x1_1] rfl Yb_ ?_; (with_reducible refine (Ej.calls k1 _ _ (Es l0 x5_1) x1_1 t316 _ ?side1 ?side2 A5.out).mono ?_); (case side1 => repeat (first | exact HR315_0.out | (with_reducible refine Kd.Be ?_ _) | (with_reducible refine Kd.Bf ?_ _) | (with_reducible refine Kd.Bh ?_))); (case side2 => exact HC315_0.out); rintro e w' ⟨rfl, ⟨nd, rfl⟩⟩; refine ⟨_, rfl, ?_⟩))
      go_roundg k1
      case measure => have := HK1.out; omega
      case rel => exact ⟨(t316), (wrap64 (x5_1 + 1)), Yd_, Yd_, H', ⟨by have := HK1.out; omega⟩, by repeat (first | exact Drawn0.refl _ | apply Drawn0.step)⟩
    ·rw [if_neg c4] at H
     exact absurd H (by simp)
   ·rw [if_neg c3] at H
    have c3b0 : decide (x5_1 < (l0.length : Int)) = false := decide_eq_false c3
    clear c3
    obtain rfl := Option.some.inj H
    go_wp2
    go_ret
    exact ⟨by first | rfl | (simp; done) | (simp [*]; done), by repeat (first | exact Drawn0.refl _ | apply Drawn0.step)⟩
end Go.Proofs.Ytolaplcjbmjlmaa.X

namespace Go.Proofs.Ytolaplcjbmjlmaa.X
open Go.RowKit Go.Proofs.YtolaplcjbmjlmaaW.PrintWords Go.Proofs.YtolaplcjbmjlmaaL
end Go.Proofs.Ytolaplcjbmjlmaa.X

namespace Go.Proofs.Ytolaplcjbmjlmaa.X
open Go.RowKit Go.Proofs.YtolaplcjbmjlmaaW.PrintWords Go.Proofs.YtolaplcjbmjlmaaW.PrintLast Go.Proofs.YtolaplcjbmjlmaaW.PrintMore
attribute [local go_sem] max2_int min2_int max_two min_two max_three min_three max_four min_four
def Ep.l0 : Nat → List (S59) → Int → Int → Option (Int × (List (S59)))
 | 0, _, _, _ => none
 | k + 1, x0, x1, x5 => if x5 < (x0.length : Int) then (if 0 ≤ x5 then ((some (x0.set (x5 : Int).toNat (⟨x1, (Ah x0 x5).f1, (Ah x0 x5).f2⟩ : S59) : List (S59))).bind fun y310 => ((some (y310.set (x5 : Int).toNat (⟨(Ah y310 x5).f0, wrap64 (x1 + 1), (Ah y310 x5).f2⟩ : S59) : List (S59))).bind fun y311 => (Ep.l0 k (y311.set (x5 : Int).toNat (⟨(Ah y311 x5).f0, (Ah y311 x5).f1, wrap64 ((wrap64 (x1 + 1)) + 1)⟩ : S59)) (wrap64 ((wrap64 ((wrap64 (x1 + 1)) + 1)) + 1)) (wrap64 (x5 + 1))))) else (none)) else (some (x1, x0))
def Ep.f (k : Nat) (l0 : List (S59)) (a1 : Int) : Option (Int × (List (S59))) := Ep.l0 k l0 a1 0
theorem Ep.Dq : ∀ k, (∀ y0 y1 y2, LeO (Ep.l0 k y0 y1 y2) (Ep.l0 (k + 1) y0 y1 y2))
 | 0 => fun _ _ _ r h => by simp [Ep.l0] at h
 | k + 1 => by
  have ih0 := Ep.Dq k
  ·intro y0 y1 y2
   unfold Ep.l0
   repeat' first
   | (with_reducible exact ih0 _ _ _)
   | (with_reducible exact LeO.refl _)
   | (with_reducible exact LeO.none _)
   | (with_reducible refine LeO.ite ?_ ?_)
   | (with_reducible refine LeO.bind ?_ (fun _ => ?_))
   | exact ih0 _ _ _
   | exact LeO.none _
   | refine LeO.ite ?_ ?_
   | refine LeO.bind ?_ (fun _ => ?_)
theorem Ep.mono : ∀ a0 a1 k, LeO (Ep.f k a0 a1) (Ep.f (k + 1) a0 a1) := by
 intro a0 a1 k
 have ih0 := Ep.Dq k
 unfold Ep.f
 repeat' first
   | (with_reducible exact ih0 _ _ _)
   | (with_reducible exact LeO.refl _)
   | (with_reducible exact LeO.none _)
   | (with_reducible refine LeO.ite ?_ ?_)
   | (with_reducible refine LeO.bind ?_ (fun _ => ?_))
   | exact ih0 _ _ _
   | exact LeO.none _
   | refine LeO.ite ?_ ?_
   | refine LeO.bind ?_ (fun _ => ?_)
set_option maxHeartbeats 8000000 in
set_option maxRecDepth 100000 in
theorem Ep.calls (k : Nat) (P0_ : Nat → Prop) (u9000_ : Value) (l0 : List (S59)) (a1 : Int) (r1 : Int) (r2 : List (S59)) (w0 w : World) (hB : Below w0.heap.size w0 w) (ho0 : Kd.R k59 59 w w0.heap.size P0_ u9000_ l0) (h : Ep.f k l0 a1 = some (r1, r2)) :
  Calls Try.prog 32 #[u9000_, .int .i64 a1] w fun e w' => e = .returned (.int .i64 r1) ∧ Kd.R k59 59 w' w0.heap.size (fun k_ => (P0_ k_ ∨ w.heap.size ≤ k_)) u9000_ r2 ∧ Below w0.heap.size w0 w' ∧ Kept w w' (fun k_ => P0_ k_) := by
 have HO0 := Aside0.mk (show Kd.R k59 59 w w0.heap.size (fun k_ => (P0_ k_ ∨ w.heap.size ≤ k_)) u9000_ l0 from Kd.R_mono ho0 (fun k_ hk => (.inl hk)))
 have HK := Aside0.mk (Kept.refl w (fun k_ => P0_ k_))
 have HW0 := Aside0.mk hB.size
 have HB := Aside0.mk hB
 clear hB
 have H : (Ep.l0 k l0 a1 0) = some (r1, r2) := h
 clear h
 have H' := Aside0.mk H
 clear H
 go_enter Try.func32, Try.ntmps32
 go_wp2
 go_loopg [1, 5] k (fun kq v1 v5 w' => ∃ (x0_1 : List (S59)) (x1_1 : Int) (x5_1 : Int), v1 = .int .i64 x1_1 ∧ v5 = .int .i64 x5_1 ∧ Aside0 (Ep.l0 kq x0_1 x1_1 x5_1 = some (r1, r2)) ∧ Aside0 (kq ≤ k) ∧ Aside0 (Kd.R k59 59 w' w0.heap.size (fun k_ => (P0_ k_ ∨ w.heap.size ≤ k_)) u9000_ x0_1) ∧ Aside0 (Kept w w' (fun k_ => P0_ k_)) ∧ Aside0 (Below w0.heap.size w0 w'))
 case atStart => exact ⟨(l0), (a1), (0), Yd_, Yd_, H', ⟨Nat.le_refl _⟩, ⟨by (with_reducible repeat (first | apply Kd.Ap | apply Kd.Am | apply Kd.Ba)); exact HO0.out⟩, ⟨by repeat (first | (with_reducible first | exact HK.out | apply Kept.alloc | apply Kept.drewN | apply Kept.drew) | exact HK.out)⟩, ⟨by repeat (first | (with_reducible first | exact HB.out | apply Af | apply Ad | apply Ae) | exact HB.out)⟩⟩
 case round =>
  clear H'
  try clear p2
  obtain ⟨x0_1, x1_1, x5_1, rfl, rfl, HA, HK1, HO_0, HK, HB⟩ := hrel
  cases gk with
  | zero => exact absurd HA.out (by simp [Ep.l0])
  | succ k1 =>
   have H := HA.out
   clear HA
   simp only [Ep.l0] at H
   by_cases c3 : x5_1 < (x0_1.length : Int)
   ·rw [if_pos c3] at H
    have c3b0 : decide (x5_1 < (x0_1.length : Int)) = true := decide_eq_true c3
    clear c3
    by_cases c4 : 0 ≤ x5_1
    ·rw [if_pos c4] at H
     have c4b0 : decide (0 ≤ x5_1) = true := decide_eq_true c4
     clear c4
     obtain ⟨y310, hy310⟩ : ∃ y_ : List (S59), y_ = (x0_1.set (x5_1 : Int).toNat (⟨x1_1, (Ah x0_1 x5_1).f1, (Ah x0_1 x5_1).f2⟩ : S59)) := ⟨_, rfl⟩
     replace H : ((some (y310.set (x5_1 : Int).toNat (⟨(Ah y310 x5_1).f0, wrap64 (x1_1 + 1), (Ah y310 x5_1).f2⟩ : S59) : List (S59))).bind fun y311 => (Ep.l0 k1 (y311.set (x5_1 : Int).toNat (⟨(Ah y311 x5_1).f0, (Ah y311 x5_1).f1, wrap64 ((wrap64 (x1_1 + 1)) + 1)⟩ : S59)) (wrap64 ((wrap64 ((wrap64 (x1_1 + 1)) + 1)) + 1)) (wrap64 (x5_1 + 1)))) = some (r1, r2) := by first | (rw [hy310]; with_reducible exact H) | (have H2_ := (Option.bind_some _ _).symm.trans H; rw [hy310]; with_reducible exact H2_) | (have H2_ := (Option.bind_some _ _).symm.trans H; with_reducible exact H2_) | with_reducible exact H | (rw [hy310]; exact H) | exact H
     have Ny310 := Aside0.mk hy310
     clear hy310
     obtain ⟨y311, hy311⟩ : ∃ y_ : List (S59), y_ = (y310.set (x5_1 : Int).toNat (⟨(Ah y310 x5_1).f0, wrap64 (x1_1 + 1), (Ah y310 x5_1).f2⟩ : S59)) := ⟨_, rfl⟩
     replace H : (Ep.l0 k1 (y311.set (x5_1 : Int).toNat (⟨(Ah y311 x5_1).f0, (Ah y311 x5_1).f1, wrap64 ((wrap64 (x1_1 + 1)) + 1)⟩ : S59)) (wrap64 ((wrap64 ((wrap64 (x1_1 + 1)) + 1)) + 1)) (wrap64 (x5_1 + 1))) = some (r1, r2) := by first | (rw [hy311]; with_reducible exact H) | (have H2_ := (Option.bind_some _ _).symm.trans H; rw [hy311]; with_reducible exact H2_) | (have H2_ := (Option.bind_some _ _).symm.trans H; with_reducible exact H2_) | with_reducible exact H | (rw [hy311]; exact H) | exact H
     have Ny311 := Aside0.mk hy311
     clear hy311
     obtain ⟨y312, hy312⟩ : ∃ y_ : List (S59), y_ = (y311.set (x5_1 : Int).toNat (⟨(Ah y311 x5_1).f0, (Ah y311 x5_1).f1, wrap64 ((wrap64 (x1_1 + 1)) + 1)⟩ : S59)) := ⟨_, rfl⟩
     replace H : (Ep.l0 k1 y312 (wrap64 ((wrap64 ((wrap64 (x1_1 + 1)) + 1)) + 1)) (wrap64 (x5_1 + 1))) = some (r1, r2) := by first | (rw [hy312]; with_reducible exact H) | (have H2_ := (Option.bind_some _ _).symm.trans H; rw [hy312]; with_reducible exact H2_) | (have H2_ := (Option.bind_some _ _).symm.trans H; with_reducible exact H2_) | with_reducible exact H | (rw [hy312]; exact H) | exact H
     have Ny312 := Aside0.mk hy312
     clear hy312
     have H' := Aside0.mk H
     clear H
     obtain ⟨Ao8, co8, eo8⟩ := Kd.R_slice HO_0.out
     subst eo8
     have p5 : 0 ≤ (x5_1 : Int) := of_decide_eq_true Yc_
     have q5 : (x5_1 : Int) < ((x0_1.length : Int) : Int) := of_decide_eq_true Yc_
     obtain ⟨go5, co5, eo5, gb5, gl5, cl5, HG5⟩ := Kd.R_form HO_0.out (by omega)
     (first | cases eo5 | (injection eo5 with ea_ en_ ec_; (first | subst ea_ | (injection ea_ with ea_; subst ea_)); subst ec_; clear en_))
     have GB5 := Aside0.mk gb5
     have GG5 := Aside0.mk HG5
     clear gb5 gl5 HG5
     have HMgo5 := Aside0.mk (show (P0_ go5 ∨ w.heap.size ≤ go5) from (HO_0.out.1 _ rfl))
     obtain ⟨ce5, hcl5, hM5, hcc5, hfr5⟩ := Kd.Gu HO_0.out z59 (x5_1 : Int) p5 q5
     obtain rfl := Gi hM5
     have hx5_0 : wr.cell? ⟨go5, (x5_1 : Int).toNat * 3, none⟩ = some (.int .i64 ((Ah x0_1 x5_1).f0)) := hcc5 0 _ rfl
     have hx5_1 : wr.cell? ⟨go5, (x5_1 : Int).toNat * 3 + 1, none⟩ = some (.int .i64 ((Ah x0_1 x5_1).f1)) := hcc5 1 _ rfl
     have hx5_2 : wr.cell? ⟨go5, (x5_1 : Int).toNat * 3 + 2, none⟩ = some (.int .i64 ((Ah x0_1 x5_1).f2)) := hcc5 2 _ rfl
     have hf5_0 : wr.frozen? ⟨go5, (x5_1 : Int).toNat * 3, none⟩ = false := hfr5 0
     have hf5_1 : wr.frozen? ⟨go5, (x5_1 : Int).toNat * 3 + 1, none⟩ = false := hfr5 1
     have hf5_2 : wr.frozen? ⟨go5, (x5_1 : Int).toNat * 3 + 2, none⟩ = false := hfr5 2
     clear hcl5 hcc5 hfr5 hM5
     replace p5 := eq_true p5
     replace q5 := eq_true q5
     have HX9 := Aside0.mk (show Kd.R k59 59 wr w0.heap.size (fun k_ => (P0_ k_ ∨ w.heap.size ≤ k_)) (.slice (some ⟨go5, 0, none⟩) x0_1.length co8) x0_1 from Yef_)
     obtain ⟨ce9, hcl9, hM9, hcc9, hfr9⟩ := Kd.Gu HX9.out z59 (x5_1 : Int) (of_decide_eq_true Yc_) (by have h_ : (x5_1 : Int) < ((x0_1.length : Int) : Int) := of_decide_eq_true Yc_; first | exact h_ | (have e_ := (Kd.R_reads' HO_0.out).1; omega) | simpa using h_)
     obtain rfl := Gi hM9
     have HP9 := Kd.R_seg HX9.out (x5_1 : Int) (of_decide_eq_true Yc_) (by have h_ : (x5_1 : Int) < ((x0_1.length : Int) : Int) := of_decide_eq_true Yc_; first | exact h_ | (have e_ := (Kd.R_reads' HO_0.out).1; omega) | simpa using h_) (seg := [.int .i64 x1_1]) (j := 0) hcl9 hcc9 (show 1 ≤ 3 from by decide) (x' := (⟨x1_1, (Ah x0_1 x5_1).f1, (Ah x0_1 x5_1).f2⟩ : S59)) (Hy _ _ _ (⟨x1_1, (Ah x0_1 x5_1).f1, (Ah x0_1 x5_1).f2⟩ : S59) ) (fun _ hk => hk)
     have hx9_0 := hcc9 0 _ rfl
     (try simp only [show (k59).sz = 3 from rfl, Nat.mul_one, Nat.add_zero] at hx9_0)
     have hf9_0 := hfr9 0
     (try simp only [show (k59).sz = 3 from rfl, Nat.mul_one, Nat.add_zero] at hf9_0)
     clear hcl9 hcc9 hfr9 hM9
     go_wp2_with (first | ((with_reducible refine gate_store (t := 3) (p := 16) rfl ?_); refine store_event (t := 3) (p := 16) (v := ?vo_w10) (w1 := (wr.setCell ⟨go5, (x5_1 : Int).toNat * 3, none⟩ (.int .i64 x1_1))) ?hg ?ho ?hn ?hr ?_; (case ho => rfl); (case hg => rfl); (case hn => rfl); (case hr => first | (go_simp; done) | (go_simp; rfl)); intro w10 hw; have hg : wr.grownBy w10 (some go5) := (by rw [hw]; exact HP9.2); have hp_ : Kd.R k59 59 w10 w0.heap.size (fun k_ => (P0_ k_ ∨ w.heap.size ≤ k_)) (.slice (some ⟨go5, 0, none⟩) x0_1.length co8) y310 := (by rw [hw, Ny310.out]; exact HP9.1); clear HP9; have n0_ := Aside0.mk (hp_); have n1_ := Aside0.mk ((by rw [hw]; exact Ar (HB.out) GB5.out : Below w0.heap.size w0 w10)); have n2_ := Aside0.mk (Kept.Ha (S := (fun k_ => P0_ k_)) hg Ycj_ (fun k_ e_ => (HO_0.out.1 k_ e_))); clear HO_0; clear HB; clear HK; have HO_0 := n0_; have HB := n1_; have HK := n2_; clear n0_ n1_ n2_; clear hg hw hp_; have p6 : 0 ≤ (x5_1 : Int) := of_decide_eq_true Yc_; have q6 : (x5_1 : Int) < ((x0_1.length : Int) : Int) := of_decide_eq_true Yc_; obtain ⟨ce6, hcl6, hM6, hcc6, hfr6⟩ := Kd.Gu HO_0.out z59 (x5_1 : Int) p6 q6; obtain rfl := Gi hM6; have hx6_0 : w10.cell? ⟨go5, (x5_1 : Int).toNat * 3, none⟩ = some (.int .i64 ((Ah y310 x5_1).f0)) := hcc6 0 _ rfl; have hx6_1 : w10.cell? ⟨go5, (x5_1 : Int).toNat * 3 + 1, none⟩ = some (.int .i64 ((Ah y310 x5_1).f1)) := hcc6 1 _ rfl; have hx6_2 : w10.cell? ⟨go5, (x5_1 : Int).toNat * 3 + 2, none⟩ = some (.int .i64 ((Ah y310 x5_1).f2)) := hcc6 2 _ rfl; have hf6_0 : w10.frozen? ⟨go5, (x5_1 : Int).toNat * 3, none⟩ = false := hfr6 0; have hf6_1 : w10.frozen? ⟨go5, (x5_1 : Int).toNat * 3 + 1, none⟩ = false := hfr6 1; have hf6_2 : w10.frozen? ⟨go5, (x5_1 : Int).toNat * 3 + 2, none⟩ = false := hfr6 2; (try clear hcl6); (try clear hcc6); (try clear hfr6); (try clear hM6); replace p6 := eq_true p6; replace q6 := eq_true q6; have HX11 := Aside0.mk (show Kd.R k59 59 w10 w0.heap.size (fun k_ => (P0_ k_ ∨ w.heap.size ≤ k_)) (.slice (some ⟨go5, 0, none⟩) x0_1.length co8) y310 from Yef_); obtain ⟨ce11, hcl11, hM11, hcc11, hfr11⟩ := Kd.Gu HX11.out z59 (x5_1 : Int) (of_decide_eq_true Yc_) (by have h_ : (x5_1 : Int) < ((x0_1.length : Int) : Int) := of_decide_eq_true Yc_; first | exact h_ | (have e_ := (Kd.R_reads' HO_0.out).1; omega) | simpa using h_); obtain rfl := Gi hM11; have HP11 := Kd.R_seg HX11.out (x5_1 : Int) (of_decide_eq_true Yc_) (by have h_ : (x5_1 : Int) < ((x0_1.length : Int) : Int) := of_decide_eq_true Yc_; first | exact h_ | (have e_ := (Kd.R_reads' HO_0.out).1; omega) | simpa using h_) (seg := [.int .i64 (wrap64 (x1_1 + 1))]) (j := 1) hcl11 hcc11 (show 2 ≤ 3 from by decide) (x' := (⟨(Ah y310 x5_1).f0, wrap64 (x1_1 + 1), (Ah y310 x5_1).f2⟩ : S59)) (Hy _ _ _ (⟨(Ah y310 x5_1).f0, wrap64 (x1_1 + 1), (Ah y310 x5_1).f2⟩ : S59) ) (fun _ hk => hk); have hx11_1 := hcc11 1 _ rfl; (try simp only [show (k59).sz = 3 from rfl, Nat.mul_one, Nat.add_zero] at hx11_1); have hf11_1 := hfr11 1; (try simp only [show (k59).sz = 3 from rfl, Nat.mul_one, Nat.add_zero] at hf11_1); clear hcl11 hcc11 hfr11 hM11) | ((with_reducible refine gate_store (t := 3) (p := 23) rfl ?_); refine store_event (t := 3) (p := 23) (v := ?vo_w12) (w1 := (w10.setCell ⟨go5, (x5_1 : Int).toNat * 3 + 1, none⟩ (.int .i64 (wrap64 (x1_1 + 1))))) ?hg ?ho ?hn ?hr ?_; (case ho => rfl); (case hg => rfl); (case hn => rfl); (case hr => first | (go_simp; done) | (go_simp; rfl)); intro w12 hw; have hg : w10.grownBy w12 (some go5) := (by rw [hw]; exact HP11.2); have hp_ : Kd.R k59 59 w12 w0.heap.size (fun k_ => (P0_ k_ ∨ w.heap.size ≤ k_)) (.slice (some ⟨go5, 0, none⟩) x0_1.length co8) y311 := (by rw [hw, Ny311.out]; exact HP11.1); clear HP11; have n0_ := Aside0.mk (hp_); have n1_ := Aside0.mk ((by rw [hw]; exact Ar (HB.out) GB5.out : Below w0.heap.size w0 w12)); have n2_ := Aside0.mk (Kept.Ha (S := (fun k_ => P0_ k_)) hg Ycj_ (fun k_ e_ => (HO_0.out.1 k_ e_))); clear HO_0; clear HB; clear HK; have HO_0 := n0_; have HB := n1_; have HK := n2_; clear n0_ n1_ n2_; clear hg hw hp_; have p7 : 0 ≤ (x5_1 : Int) := of_decide_eq_true Yc_; have q7 : (x5_1 : Int) < ((x0_1.length : Int) : Int) := of_decide_eq_true Yc_; obtain ⟨ce7, hcl7, hM7, hcc7, hfr7⟩ := Kd.Gu HO_0.out z59 (x5_1 : Int) p7 q7; obtain rfl := Gi hM7; have hx7_0 : w12.cell? ⟨go5, (x5_1 : Int).toNat * 3, none⟩ = some (.int .i64 ((Ah y311 x5_1).f0)) := hcc7 0 _ rfl; have hx7_1 : w12.cell? ⟨go5, (x5_1 : Int).toNat * 3 + 1, none⟩ = some (.int .i64 ((Ah y311 x5_1).f1)) := hcc7 1 _ rfl; have hx7_2 : w12.cell? ⟨go5, (x5_1 : Int).toNat * 3 + 2, none⟩ = some (.int .i64 ((Ah y311 x5_1).f2)) := hcc7 2 _ rfl; have hf7_0 : w12.frozen? ⟨go5, (x5_1 : Int).toNat * 3, none⟩ = false := hfr7 0; have hf7_1 : w12.frozen? ⟨go5, (x5_1 : Int).toNat * 3 + 1, none⟩ = false := hfr7 1; have hf7_2 : w12.frozen? ⟨go5, (x5_1 : Int).toNat * 3 + 2, none⟩ = false := hfr7 2; (try clear hcl7); (try clear hcc7); (try clear hfr7); (try clear hM7); replace p7 := eq_true p7; replace q7 := eq_true q7; have HX13 := Aside0.mk (show Kd.R k59 59 w12 w0.heap.size (fun k_ => (P0_ k_ ∨ w.heap.size ≤ k_)) (.slice (some ⟨go5, 0, none⟩) x0_1.length co8) y311 from Yef_); obtain ⟨ce13, hcl13, hM13, hcc13, hfr13⟩ := Kd.Gu HX13.out z59 (x5_1 : Int) (of_decide_eq_true Yc_) (by have h_ : (x5_1 : Int) < ((x0_1.length : Int) : Int) := of_decide_eq_true Yc_; first | exact h_ | (have e_ := (Kd.R_reads' HO_0.out).1; omega) | simpa using h_); obtain rfl := Gi hM13; have HP13 := Kd.R_seg HX13.out (x5_1 : Int) (of_decide_eq_true Yc_) (by have h_ : (x5_1 : Int) < ((x0_1.length : Int) : Int) := of_decide_eq_true Yc_; first | exact h_ | (have e_ := (Kd.R_reads' HO_0.out).1; omega) | simpa using h_) (seg := [.int .i64 (wrap64 ((wrap64 (x1_1 + 1)) + 1))]) (j := 2) hcl13 hcc13 (show 3 ≤ 3 from by decide) (x' := (⟨(Ah y311 x5_1).f0, (Ah y311 x5_1).f1, wrap64 ((wrap64 (x1_1 + 1)) + 1)⟩ : S59)) (Hy _ _ _ (⟨(Ah y311 x5_1).f0, (Ah y311 x5_1).f1, wrap64 ((wrap64 (x1_1 + 1)) + 1)⟩ : S59) ) (fun _ hk => hk); have hx13_2 := hcc13 2 _ rfl; (try simp only [show (k59).sz = 3 from rfl, Nat.mul_one, Nat.add_zero] at hx13_2); have hf13_2 := hfr13 2; (try simp only [show (k59).sz = 3 from rfl, Nat.mul_one, Nat.add_zero] at hf13_2); clear hcl13 hcc13 hfr13 hM13) | ((with_reducible refine gate_store (t := 3) (p := 30) rfl ?_); refine store_event (t := 3) (p := 30) (v := ?vo_w14) (w1 := (w12.setCell ⟨go5, (x5_1 : Int).toNat * 3 + 2, none⟩ (.int .i64 (wrap64 ((wrap64 (x1_1 + 1)) + 1))))) ?hg ?ho ?hn ?hr ?_; (case ho => rfl); (case hg => rfl); (case hn => rfl); (case hr => first | (go_simp; done) | (go_simp; rfl)); intro w14 hw; have hg : w12.grownBy w14 (some go5) := (by rw [hw]; exact HP13.2); have hp_ : Kd.R k59 59 w14 w0.heap.size (fun k_ => (P0_ k_ ∨ w.heap.size ≤ k_)) (.slice (some ⟨go5, 0, none⟩) x0_1.length co8) y312 := (by rw [hw, Ny312.out]; exact HP13.1); clear HP13; have n0_ := Aside0.mk (hp_); have n1_ := Aside0.mk ((by rw [hw]; exact Ar (HB.out) GB5.out : Below w0.heap.size w0 w14)); have n2_ := Aside0.mk (Kept.Ha (S := (fun k_ => P0_ k_)) hg Ycj_ (fun k_ e_ => (HO_0.out.1 k_ e_))); clear HO_0; clear HB; clear HK; have HO_0 := n0_; have HB := n1_; have HK := n2_; clear n0_ n1_ n2_; clear hg hw hp_))
     go_roundg k1
     case measure => have := HK1.out; omega
     case rel => exact ⟨(y312), (wrap64 ((wrap64 ((wrap64 (x1_1 + 1)) + 1)) + 1)), (wrap64 (x5_1 + 1)), Yd_, Yd_, H', ⟨by have := HK1.out; omega⟩, ⟨by (with_reducible repeat (first | apply Kd.Ap | apply Kd.Am | apply Kd.Ba)); exact HO_0.out⟩, ⟨by repeat (first | (with_reducible first | exact HK.out | apply Kept.alloc | apply Kept.drewN | apply Kept.drew) | exact HK.out)⟩, ⟨by repeat (first | (with_reducible first | exact HB.out | apply Af | apply Ad | apply Ae) | exact HB.out)⟩⟩
    ·rw [if_neg c4] at H
     exact absurd H (by simp)
   ·rw [if_neg c3] at H
    have c3b0 : decide (x5_1 < (x0_1.length : Int)) = false := decide_eq_false c3
    clear c3
    simp only [Option.some.injEq, Prod.mk.injEq] at H
    obtain ⟨rfl, rfl⟩ := H
    obtain ⟨Ao15, co15, eo15⟩ := Kd.R_slice HO_0.out
    subst eo15
    go_wp2
    go_ret
    exact ⟨by first | rfl | (simp [Aw, Az] <;> rfl) | (simp [*, Aw, Az] <;> rfl), by (with_reducible repeat (first | apply Kd.Ap | apply Kd.Am | apply Kd.Ba)); exact HO_0.out, by repeat (first | (with_reducible first | exact HB.out | apply Af | apply Ad | apply Ae) | exact HB.out), by repeat (first | (with_reducible first | exact HK.out | apply Kept.alloc | apply Kept.drewN | apply Kept.drew) | exact HK.out)⟩
end Go.Proofs.Ytolaplcjbmjlmaa.X

namespace Go.Proofs.Ytolaplcjbmjlmaa.X
open Go.RowKit Go.Proofs.YtolaplcjbmjlmaaW.PrintWords Go.Proofs.YtolaplcjbmjlmaaW.PrintMore Go.Proofs.YtolaplcjbmjlmaaL
def Gf (l : List Ff) (p : Int) : Nat := l.countP fun s => decide (s.f2 = p)
theorem cntP_take (l : List Ff) (p : Int) (n : Nat) (hn : n < l.length) : Gf (l.take (n + 1)) p = Gf (l.take n) p + if l[n].f2 = p then 1 else 0 := by
 unfold Gf
 rw [List.take_succ_eq_append_getElem hn, List.countP_append, List.countP_cons, List.countP_nil]
 simp
theorem cntP_le (l : List Ff) (p : Int) : Gf l p ≤ l.length := List.countP_le_length
def shares (l : List Ff) : Nat → Int → List (List Int)
 | 0, _ => []
 | d + 1, p => if Gf l p > 0 then [p, (F6 (Gf l p) l.length).1, (F6 (Gf l p) l.length).2] :: shares l d (p + 1) else shares l d (p + 1)
theorem implPS_l1 (l : List Ff) (hl : l.length ≤ 1048576) (acc : List (List Int)) (p : Int) (r : List (List Int) × Bool)
  (h : Ev (fun k => if ((Gf l p : Nat) : Int) > 0 then ((Df.f k ((Gf l p : Nat) : Int) (l.length : Int)).bind fun bt => if acc.length < 5864062014805 then Bj.l0 k l (acc ++ [([p, bt.1, bt.2] : List Int)]) (wrap64 (p + 1)) else none) else Bj.l0 k l acc (wrap64 (p + 1))) r) :
  ∀ m n : Nat, n + m = l.length → Ev (fun k => Bj.l1 k l acc p ((Gf (l.take n) p : Nat) : Int) l (l.length : Int) (n : Int)) r := by
 intro m
 induction m with
 | zero =>
  intro n hn
  obtain rfl : n = l.length := by omega
  refine Ev.step (fun k => ?_) h
  simp only [Bj.l1]
  rw [if_neg (by omega), List.take_length]
 | succ m ih =>
  intro n hn
  have hnl : n < l.length := by omega
  refine Ev.step (fun k => ?_) (ih (n + 1) (by omega))
  simp only [Bj.l1]
  have hc : Gf (l.take n) p ≤ l.length := Nat.le_trans (cntP_le _ _) (by rw [List.length_take]; omega)
  rw [if_pos (by omega), if_pos (by omega), if_pos (by omega), rdS l n hnl, cntP_take l p n hnl, wrap_succ (n := n) (by omega)]
  by_cases e : l[n].f2 = p
  ·rw [if_pos e, if_pos e, wrap_succ (by omega)]
  ·rw [if_neg e, if_neg e]; rfl
theorem specPS_l1 (l : List Ff) (hl : l.length ≤ 1048576) (acc : List (List Int)) (p : Int) (r : List (List Int) × Bool)
  (h : Ev (fun k => if ((Gf l p : Nat) : Int) > 0 then ((Dk.f k ((Gf l p : Nat) : Int) (l.length : Int)).bind fun bt => if acc.length < 5864062014805 then Bi.l0 k l (acc ++ [([p, bt.1, bt.2] : List Int)]) (wrap64 (p + 1)) else none) else Bi.l0 k l acc (wrap64 (p + 1))) r) :
  ∀ m n : Nat, n + m = l.length → Ev (fun k => Bi.l1 k l acc p ((Gf (l.take n) p : Nat) : Int) (n : Int)) r := by
 intro m
 induction m with
 | zero =>
  intro n hn
  obtain rfl : n = l.length := by omega
  refine Ev.step (fun k => ?_) h
  simp only [Bi.l1]
  rw [if_neg (by omega), List.take_length]
 | succ m ih =>
  intro n hn
  have hnl : n < l.length := by omega
  refine Ev.step (fun k => ?_) (ih (n + 1) (by omega))
  simp only [Bi.l1]
  have hc : Gf (l.take n) p ≤ l.length := Nat.le_trans (cntP_le _ _) (by rw [List.length_take]; omega)
  rw [if_pos (by omega), if_pos (by omega), rdS l n hnl, cntP_take l p n hnl, wrap_succ (n := n) (by omega)]
  by_cases e : l[n].f2 = p
  ·rw [if_pos e, if_pos e, wrap_succ (by omega)]
  ·rw [if_neg e, if_neg e]; rfl
theorem implPS_loop (l : List Ff) (hl : l.length ≤ 1048576) : ∀ (d : Nat) (p : Int) (acc : List (List Int)), p + d = 10 → 1 ≤ p → acc.length + d ≤ 9 → Ev (fun k => Bj.l0 k l acc p) (acc ++ shares l d p, true)
 | 0, p, acc, h, h1, h2 => by
  refine Ev.step (f := fun _ => some _) (fun k => ?_) (Ev.now _)
  simp only [Bj.l0]
  rw [if_neg (by omega)]; simp [shares]
 | d + 1, p, acc, h, h1, h2 => by
  have hw : wrap64 (p + 1) = p + 1 := Fg (by omega) (by omega)
  refine Ev.step (f := fun k => Bj.l1 k l acc p 0 l (l.length : Int) 0) (fun k => by simp only [Bj.l0]; rw [if_pos (by omega)]) ?_
  refine Ev.congr (fun k => ?_) (implPS_l1 l hl acc p _ ?_ l.length 0 (by omega))
  ·rfl
  ·by_cases c : Gf l p > 0
   ·have hb : 0 < l.length := Nat.lt_of_lt_of_le c (cntP_le l p)
    have ih := implPS_loop l hl d (p + 1) (acc ++ [[p, (F6 (Gf l p) l.length).1, (F6 (Gf l p) l.length).2]]) (by omega) (by omega) (by rw [List.length_append]; simp; omega)
    have e : acc ++ shares l (d + 1) p = acc ++ [[p, (F6 (Gf l p) l.length).1, (F6 (Gf l p) l.length).2]] ++ shares l d (p + 1) := by rw [shares, if_pos c]; simp
    rw [e]
    refine Ev.congr (fun k => if_pos (by omega)) (Ev.bind (Io (Gf l p) l.length (by have := cntP_le l p; omega) (by omega) hb) ?_)
    rw [hw]
    exact Ev.congr (fun k => if_pos (by omega)) ih
   ·have ih := implPS_loop l hl d (p + 1) acc (by omega) (by omega) (by omega)
    have e : shares l (d + 1) p = shares l d (p + 1) := by rw [shares, if_neg c]
    rw [e, hw]
    exact Ev.congr (fun k => if_neg (by omega)) ih
theorem specPS_loop (l : List Ff) (hl : l.length ≤ 1048576) : ∀ (d : Nat) (p : Int) (acc : List (List Int)), p + d = 10 → 1 ≤ p → acc.length + d ≤ 9 → Ev (fun k => Bi.l0 k l acc p) (acc ++ shares l d p, true)
 | 0, p, acc, h, h1, h2 => by
  refine Ev.step (f := fun _ => some _) (fun k => ?_) (Ev.now _)
  simp only [Bi.l0]
  rw [if_neg (by omega)]; simp [shares]
 | d + 1, p, acc, h, h1, h2 => by
  have hw : wrap64 (p + 1) = p + 1 := Fg (by omega) (by omega)
  refine Ev.step (f := fun k => Bi.l1 k l acc p 0 0) (fun k => by simp only [Bi.l0]; rw [if_pos (by omega)]) ?_
  refine Ev.congr (fun k => ?_) (specPS_l1 l hl acc p _ ?_ l.length 0 (by omega))
  ·rfl
  ·by_cases c : Gf l p > 0
   ·have hb : 0 < l.length := Nat.lt_of_lt_of_le c (cntP_le l p)
    have ih := specPS_loop l hl d (p + 1) (acc ++ [[p, (F6 (Gf l p) l.length).1, (F6 (Gf l p) l.length).2]]) (by omega) (by omega) (by rw [List.length_append]; simp; omega)
    have e : acc ++ shares l (d + 1) p = acc ++ [[p, (F6 (Gf l p) l.length).1, (F6 (Gf l p) l.length).2]] ++ shares l d (p + 1) := by rw [shares, if_pos c]; simp
    rw [e]
    refine Ev.congr (fun k => if_pos (by omega)) (Ev.bind (specReduce_ev (Gf l p) l.length (by have := cntP_le l p; omega) (by omega) hb) ?_)
    rw [hw]
    exact Ev.congr (fun k => if_pos (by omega)) ih
   ·have ih := specPS_loop l hl d (p + 1) acc (by omega) (by omega) (by omega)
    have e : shares l (d + 1) p = shares l d (p + 1) := by rw [shares, if_neg c]
    rw [e, hw]
    exact Ev.congr (fun k => if_neg (by omega)) ih
def psOf (l : List Ff) : List (List Int) × Bool := if valid l = true then (shares l 9 1, true) else ([], false)
theorem implPS_ev (l : List Ff) : Ev (fun k => Bj.f k l) (psOf l) := by
 unfold psOf
 by_cases v : valid l = true
 ·rw [if_pos v]
  have hl := (He v).2
  refine Ev.congr (fun k => ?_) (implPS_loop l (by omega) 9 1 [] (by omega) (by omega) (by simp))
  unfold Bj.f
  rw [Il, v]; rfl
 ·rw [if_neg v]
  refine ev_eq (fun k => ?_)
  unfold Bj.f
  rw [Il, Option.bind_some, if_neg v]
theorem specPS_ev (l : List Ff) (h : l.length ≤ 1048576) : Ev (fun k => Bi.f k l) (psOf l) := by
 unfold psOf
 refine Ev.congr (f := fun k => (Aq.f k l).bind fun t => if t = true then Bi.l0 k l [] 1 else some ([], false)) (fun k => rfl) (Ev.bind (specGood_ev l h) ?_)
 by_cases v : valid l = true
 ·rw [if_pos v]
  exact Ev.congr (fun k => if_pos v) (specPS_loop l h 9 1 [] (by omega) (by omega) (by simp))
 ·rw [if_neg v]
  exact ev_eq (fun k => if_neg v)
theorem shares_small (l : List Ff) : ∀ (d : Nat) (p : Int), (shares l d p).length ≤ d ∧ ∀ s ∈ shares l d p, s.length = 3
 | 0, _ => by simp [shares]
 | d + 1, p => by
  have ih := shares_small l d (p + 1)
  unfold shares
  split
  ·refine ⟨by rw [List.length_cons]; omega, fun s hs => ?_⟩
   rcases List.mem_cons.1 hs with rfl | hs
   ·rfl
   ·exact ih.2 s hs
  ·exact ⟨by omega, ih.2⟩
theorem psOf_small (l : List Ff) : (psOf l).1.length ≤ 9 ∧ ∀ s ∈ (psOf l).1, s.length = 3 := by
 unfold psOf; split
 ·exact shares_small l 9 1
 ·simp
end Go.Proofs.Ytolaplcjbmjlmaa.X

namespace Go.Proofs.Ytolaplcjbmjlmaa.X
open Go.RowKit Go.Proofs.YtolaplcjbmjlmaaW.PrintWords Go.Proofs.YtolaplcjbmjlmaaL
def iota (n : Nat) : List Int := (List.range n).map fun (i : Nat) => (i : Int)
theorem iota_succ (n : Nat) : iota (n + 1) = iota n ++ [(n : Int)] := by simp [iota, List.range_succ]
theorem iota_length (n : Nat) : (iota n).length = n := by simp [iota]
theorem mem_iota {n : Nat} {x : Int} : x ∈ iota n ↔ 0 ≤ x ∧ x < n := by
 simp only [iota, List.mem_map, List.mem_range]
 constructor
 ·rintro ⟨i, hi, rfl⟩
  omega
 ·rintro ⟨h0, h1⟩
  exact ⟨x.toNat, by omega, by omega⟩
theorem upTo_ev (n : Nat) (hn : n ≤ 1048576) : Ev (fun k => impl_upTo.f k (n : Int)) (iota n) := by
 unfold impl_upTo.f
 have key : ∀ (d m : Nat), m + d = n → Ev (fun k => impl_upTo.l0 k (iota m) (n : Int) (m : Int)) (iota n) := by
  intro d
  induction d with
  | zero =>
   intro m hm
   obtain rfl : m = n := by omega
   exact Ev.step (f := fun _ => some _) (fun k => by simp only [impl_upTo.l0]; rw [if_neg (by omega)]) (Ev.now _)
  | succ d ih =>
   intro m hm
   refine Ev.step (f := fun k => impl_upTo.l0 k (iota (m + 1)) (n : Int) ((m + 1 : Nat) : Int)) (fun k => ?_) (ih (m + 1) (by omega))
   simp only [impl_upTo.l0]
   rw [if_pos (by omega), if_pos (by rw [iota_length]; omega), iota_succ, wrap_succ (by omega)]
 exact key n 0 (by omega)
theorem less_eq (ls : List Int) (v y : Int) : decide (cmpLong ls v y < 0) = G6 ls v y := by
 unfold cmpLong G6
 by_cases h : rd ls y < rd ls v
 ·simp [h]
 ·simp only [if_neg h]
  split <;> simp [h]
theorem longL_succ (all : List Int) (h : Int) (n : Nat) : Hl all h (n + 1) = if rd all (n : Int) ≤ h then Hl all h n else Gj (G6 all (n : Int)) (n : Int) (Hl all h n) := rfl
theorem longI_eq (ls : List Int) (h : Int) : ∀ n : Nat, longI ls h (iota n) = Hl ls h n
 | 0 => rfl
 | n + 1 => by
  have ih := longI_eq ls h n
  unfold longI at ih ⊢
  rw [iota_succ, List.filter_append]
  unfold stabL at ih ⊢
  rw [List.foldl_append, ih, longL_succ]
  have e2 : (fun y => decide (cmpLong ls (n : Int) y < 0)) = G6 ls (n : Int) := funext (less_eq ls (n : Int))
  by_cases c : rd ls (n : Int) ≤ h
  ·rw [if_pos c, List.filter_cons_of_neg (by simp [clo_long, c]), List.filter_nil]
   rfl
  ·rw [if_neg c, List.filter_cons_of_pos (by simp [clo_long, c]), List.filter_nil]
   show Gj (fun y => decide (cmpLong ls (n : Int) y < 0)) (n : Int) (Hl ls h n) = _
   rw [e2]
def longs (l : List Ff) (h : Int) : List Int × Bool := if valid l = true ∧ 0 ≤ h ∧ h ≤ 240 then (Hl (hours l) h l.length, true) else ([], false)
theorem longs_length (l : List Ff) (h : Int) : (longs l h).1.length ≤ l.length := by
 unfold longs
 split
 ·exact longL_length _ _ _
 ·exact Nat.zero_le _
theorem in240 (h : Int) : Eg.f h 0 240 = some (decide (0 ≤ h ∧ h ≤ 240)) := by
 unfold Eg.f
 by_cases c : h ≥ 0
 ·rw [if_pos c]; congr 1; by_cases z : h ≤ 240 <;> simp [z] <;> omega
 ·rw [if_neg c]; congr 1; simp; omega
theorem within240 (h : Int) : impl_within.f h 0 240 = some (decide (0 ≤ h ∧ h ≤ 240)) := by
 unfold impl_within.f
 by_cases c : h ≥ 0
 ·rw [if_pos c]; congr 1; by_cases z : h ≤ 240 <;> simp [z] <;> omega
 ·rw [if_neg c]; congr 1; simp; omega
theorem specLong_ev (l : List Ff) (hl : l.length ≤ 1048576) (h : Int) : Ev (fun k => Ef.f k l h) (longs l h) := by
 unfold Ef.f longs
 refine Ev.bind (specGood_ev l hl) ?_
 simp only [in240, Option.bind_some]
 cases hv : valid l with
 | false => simp only [Bool.false_eq_true, if_false, false_and]; exact Ev.now _
 | true =>
  by_cases hh : 0 ≤ h ∧ h ≤ 240
  ·simp only [hh, if_true, true_and, decide_true, and_self]
   refine Ev.bind (specHours_ev l hv) ?_
   rw [Fh]
   exact Ev.congr (fun k => if_pos hl) (Ev.now _)
  ·simp only [if_true, true_and, if_neg hh, decide_eq_false hh, Bool.false_eq_true, if_false]
   exact Ev.now _
theorem implLong_ev (l : List Ff) (h : Int) : Ev (fun k => impl_LongStays.f k l h) (longs l h) := by
 unfold impl_LongStays.f longs
 simp only [Il, within240, Option.bind_some]
 cases hv : valid l with
 | false => simp only [Bool.false_eq_true, if_false, false_and]; exact Ev.now _
 | true =>
  have h20 := (He hv).2
  by_cases hh : 0 ≤ h ∧ h ≤ 240
  ·simp only [hh, if_true, true_and, decide_true, and_self]
   refine Ev.bind (implHours_ev l hv) (Ev.bind (upTo_ev l.length (by omega)) ?_)
   by_cases h0 : l.length = 0
   ·rw [h0]
    exact Ev.congr (fun k => if_pos rfl) (Ev.now _)
   ·have hne : iota l.length ≠ [] := fun e => by have := congrArg List.length e; rw [iota_length] at this; exact h0 this
    rw [← longI_eq]
    refine Ev.congr (fun k => ?_) (Ev.now _)
    rw [if_neg hne, if_pos ⟨⟨mem_iota.2 ⟨by omega, by omega⟩, by rw [iota_length]; omega⟩, fun x hx => by rw [Fh]; exact mem_iota.1 hx⟩]
  ·simp only [if_true, true_and, if_neg hh, decide_eq_false hh, Bool.false_eq_true, if_false]
   exact Ev.now _
end Go.Proofs.Ytolaplcjbmjlmaa.X

namespace Go.Proofs.Ytolaplcjbmjlmaa.X
open Go.RowKit Go.Proofs.YtolaplcjbmjlmaaW.PrintWords Go.Proofs.YtolaplcjbmjlmaaW.PrintLast Go.Proofs.YtolaplcjbmjlmaaW.PrintMore
attribute [local go_sem] max2_int min2_int max_two min_two max_three min_three max_four min_four
def spec_l1Cur_one.f (s0_0 : List Int) (s0_1 : Int) (s0_2 : Int) (a1 : Int) : Option (Bool × Int × Int) := (Dt.f s0_0 s0_1 s0_2 a1).bind fun bt459 => (some ((bt459.1 == 0), bt459.2.1, bt459.2.2))
set_option maxHeartbeats 8000000 in
set_option maxRecDepth 100000 in
theorem spec_l1Cur_one.calls (g : Nat) (s0_0 : List Int) (s0_1 : Int) (s0_2 : Int) (a1 : Int) (r1 : Bool) (r2 : Int) (r3 : Int) (w0 w : World) (hI : Ag w0 w g s0_0 s0_1 s0_2) (hB : Below w0.heap.size w0 w) (h : spec_l1Cur_one.f s0_0 s0_1 s0_2 a1 = some (r1, r2, r3)) :
  Calls Try.prog 70 #[.pointer (some ⟨g, 0, none⟩), .int .i64 a1] w fun e w' => e = .returned (.bool r1) ∧ Ag w0 w' g s0_0 r2 r3 ∧ Below w0.heap.size w0 w' ∧ Bc w w' g none := by
 have HI0 := Aside0.mk hI
 have HK := Aside0.mk (Bc.refl w g none)
 have HL := Aside0.mk hB.size
 clear hI
 have HW0 := Aside0.mk hB.size
 have HB := Aside0.mk hB
 clear hB
 have H : ((Dt.f s0_0 s0_1 s0_2 a1).bind fun bt459 => (some ((bt459.1 == 0), bt459.2.1, bt459.2.2))) = some (r1, r2, r3) := h
 clear h
 replace H := Option.bind_eq_some_iff.mp H
 obtain ⟨⟨t459, t460, t461⟩, A30, H⟩ := H
 replace H : (some ((t459 == 0), t460, t461)) = some (r1, r2, r3) := H
 have A3 := Aside0.mk A30
 clear A30
 simp only [Option.some.injEq, Prod.mk.injEq] at H
 obtain ⟨rfl, rfl, rfl⟩ := H
 go_enter Try.func70, Try.ntmps70
 go_wp2_with (first | ((with_reducible refine gate_callee (f := 69) rfl ?_); refine goesL_ (some 7) rfl rfl Try.func69 (by kernel_rfl) rfl #[.pointer (some ⟨g, 0, none⟩), .int .i64 a1] rfl Yb_ ?_; (with_reducible refine (Dt.calls g s0_0 s0_1 s0_2 a1 t459 t460 t461 w0 _ ?side1 ?side2 A3.out).mono ?_); (case side1 => repeat (first | (with_reducible first | exact HI0.out | apply Ag.alloc | apply Ag.drewN | apply Ag.drew | apply Ag.D6 | apply Ag.D5) | exact HI0.out)); (case side2 => repeat (first | (with_reducible first | exact HB.out | apply Af | apply Ad | apply Ae | refine Ar ?_ (Ag.ge HI0.out)) | exact HB.out)); rintro e w4 ⟨rfl, hi, hb, hk⟩; refine ⟨_, rfl, ?_⟩; have n0_ := Aside0.mk (Bc.trans Ye_ hk (.inl rfl)); have n1_ := Aside0.mk (hb); have n2_ := Aside0.mk (hi); clear HK; clear HB; clear HI0; have HK := n0_; have HB := n1_; have HI0 := n2_; clear n0_ n1_ n2_; (try clear hb); (try clear hb2); (try clear hk); (try clear hi)))
 go_ret
 exact ⟨by first | rfl | (simp [Aw, Az] <;> rfl) | (simp [*, Aw, Az] <;> rfl), by repeat (first | (with_reducible first | exact HI0.out | apply Ag.alloc | apply Ag.drewN | apply Ag.drew | apply Ag.D6 | apply Ag.D5) | exact HI0.out), by repeat (first | (with_reducible first | exact HB.out | apply Af | apply Ad | apply Ae | refine Ar ?_ (Ag.ge HI0.out)) | exact HB.out), by repeat (first | (with_reducible first | exact HK.out | apply Bc.Et | apply Cf | apply Dh | apply Ci) | exact HK.out)⟩
end Go.Proofs.Ytolaplcjbmjlmaa.X

namespace Go.Proofs.Ytolaplcjbmjlmaa.X
open Go.RowKit Go.Proofs.YtolaplcjbmjlmaaW.PrintWords Go.Proofs.YtolaplcjbmjlmaaL
def okB (l : List Int) : Prop := ∀ y ∈ l, 0 ≤ y ∧ y ≤ 255
theorem okB_of {l : List Int} (h : ∀ y ∈ l, (Lit.int .u8 y).wf = true) : okB l := fun y hy => by have := h y hy; simpa [Lit.wf, IntKind.min, IntKind.max, IntKind.signed, IntKind.bits] using this
theorem bits255 (x : Int) : 0 ≤ Go.bits .and .u64 x 255 ∧ Go.bits .and .u64 x 255 ≤ 255 := by
 have h : (BitVec.ofInt 64 x &&& BitVec.ofInt 64 255).toNat ≤ 255 := by
  rw [BitVec.toNat_and]; exact Nat.le_trans Nat.and_le_right (by decide)
 have e : Go.bits .and .u64 x 255 = IntKind.u64.wrap ((BitVec.ofInt 64 x &&& BitVec.ofInt 64 255).toNat : Int) := rfl
 rw [e]
 generalize (BitVec.ofInt 64 x &&& BitVec.ofInt 64 255).toNat = n at h
 have : IntKind.u64.wrap (n : Int) = (n : Int) := by
  simp only [IntKind.wrap, IntKind.bits, IntKind.signed]
  simp
  omega
 rw [this]; omega
theorem rd_okB {l : List Int} (h : okB l) (p : Int) : 0 ≤ rd l p ∧ rd l p ≤ 255 := by
 unfold rd
 rw [List.getD_eq_getElem?_getD]
 cases e : l[p.toNat]? with
 | none => simp
 | some y => simpa using h y (List.mem_of_getElem? e)
theorem next_ok {l : List Int} (h : okB l) (p s : Int) (h0 : 0 ≤ p) (h1 : p ≤ 1000000000000) : ∃ v s', F8.f l p s = some (v, p + 1, s') ∧ 0 ≤ v ∧ v ≤ 255 := by
 have hr := rd_okB h p
 have hw : wrap64 (p + 1) = p + 1 := Fg (by omega) (by omega)
 have hr2 : wrap64 (rd l p) = rd l p := Fg (by omega) (by omega)
 unfold F8.f
 rw [hw]
 have hb : ∀ x, 0 ≤ wrap64 (Go.bits .and .u64 x 255) ∧ wrap64 (Go.bits .and .u64 x 255) ≤ 255 := fun x => by have := bits255 x; rw [Fg (by omega) (by omega)]; exact this
 by_cases a : p < (l.length : Int)
 ·rw [if_pos a, if_pos h0]
  by_cases b : p + 1 ≤ (l.length : Int)
  ·rw [if_pos b]; exact ⟨_, _, rfl, by omega, by omega⟩
  ·omega
 ·rw [if_neg a]
  by_cases b : p + 1 ≤ (l.length : Int)
  ·omega
  ·rw [if_neg b]; exact ⟨_, _, rfl, (hb _).1, (hb _).2⟩
/-- What every draw gives: a value with a property, and a cursor moved on by n at most. -/
def Drawn {α : Type} (o : Option (α × Int × Int)) (p : Int) (n : Int) (q : α → Prop) : Prop := ∃ v p' s', o = some (v, p', s') ∧ q v ∧ p ≤ p' ∧ p' ≤ p + n
theorem pick_ok {l : List Int} (h : okB l) (p s a : Int) (h0 : 0 ≤ p) (h1 : p ≤ 900000000000) (ha : a ≤ 9223372036854775807) : Drawn (Dt.f l p s a) p 2 (fun v => 0 ≤ v ∧ (1 ≤ a → v < a) ∧ (a ≤ 1 → v = 0)) := by
 unfold Dt.f
 by_cases c : a ≤ 1
 ·rw [if_pos c]; exact ⟨0, p, s, rfl, ⟨by omega, by omega, fun _ => rfl⟩, by omega, by omega⟩
 ·rw [if_neg c]
  obtain ⟨v, s1, e, v0, v1⟩ := next_ok h p s h0 (by omega)
  rw [e]
  simp only [Option.bind_some]
  by_cases d : a > 200
  ·rw [if_pos d]
   obtain ⟨w, s2, e2, w0, w1⟩ := next_ok h (p + 1) s1 (by omega) (by omega)
   rw [e2]
   simp only [Option.bind_some]
   rw [if_neg (by omega), Fg (x := v * 256) (by omega) (by omega), Fg (x := v * 256 + w) (by omega) (by omega)]
   exact ⟨_, _, _, rfl, ⟨Int.tmod_nonneg _ (by omega), fun _ => Int.tmod_lt_of_pos _ (by omega), fun z => absurd z c⟩, by omega, by omega⟩
  ·rw [if_neg d, if_neg (by omega)]
   exact ⟨_, _, _, rfl, ⟨Int.tmod_nonneg _ v0, fun _ => Int.tmod_lt_of_pos _ (by omega), fun z => absurd z c⟩, by omega, by omega⟩
theorem among_ok {l : List Int} (h : okB l) (p s : Int) (x : List Int) (h0 : 0 ≤ p) (h1 : p ≤ 900000000000) (hx : 1 ≤ x.length) (hx2 : x.length ≤ 9223372036854775807) : Drawn (Dx.f l p s x) p 2 (fun v => v ∈ x) := by
 obtain ⟨v, p', s', e, q, b⟩ := pick_ok h p s x.length h0 h1 (by omega)
 have hlt := q.2.1 (by omega)
 have e3 : v = (v.toNat : Int) := by omega
 refine ⟨rd x v, p', s', ?_, ?_, b⟩
 ·unfold Dx.f; rw [e]; simp only [Option.bind_some]; rw [if_pos q.1, if_pos hlt]
 ·rw [e3, rd_at x v.toNat (by omega)]; exact List.getElem_mem _
/-- A draw among the first so many of a list, where how many is drawn too. -/
theorem cutAmong_ok {α : Type} {l : List Int} (h : okB l) (p s c n : Int) (y : List Int) (g : Int × Int × Int → Option α) (h0 : 0 ≤ p) (h1 : p ≤ 800000000000) (hc : 1 ≤ c) (hn : 2 ≤ n) (hn2 : n ≤ 200) (hy : c + (n - 1) / 11 ≤ y.length) (hy2 : y.length ≤ 100) :
  ∃ v p' s', v ∈ y ∧ p ≤ p' ∧ p' ≤ p + 4 ∧ ((some y).bind fun y => (Dt.f l p s n).bind fun bt => if 0 ≤ (wrap64 (c + (wrap64 (Int.tdiv bt.1 11)))) then (if (wrap64 (c + (wrap64 (Int.tdiv bt.1 11)))) ≤ (y.length : Int) then ((Dx.f l bt.2.1 bt.2.2 (y.take ((wrap64 (c + (wrap64 (Int.tdiv bt.1 11)))) : Int).toNat)).bind g) else none) else none) = g (v, p', s') := by
 obtain ⟨v, pa, sa, ea, qa, ba, ba2⟩ := pick_ok h p s n h0 (by omega) (by omega)
 have v1 := qa.2.1 (by omega)
 have hd : Int.tdiv v 11 = v / 11 := Int.tdiv_eq_ediv_of_nonneg qa.1
 have hw : wrap64 (c + wrap64 (Int.tdiv v 11)) = c + v / 11 := by rw [hd, Fg (x := v / 11) (by omega) (by omega), Fg (by omega) (by omega)]
 obtain ⟨w, pb, sb, eb, qb, bb, bb2⟩ := among_ok h pa sa (y.take (c + v / 11).toNat) (by omega) (by omega) (by rw [List.length_take]; omega) (by rw [List.length_take]; omega)
 refine ⟨w, pb, sb, List.mem_of_mem_take qb, by omega, by omega, ?_⟩
 simp only [Option.bind_some, ea]
 rw [hw, if_pos (by omega), if_pos (by omega), eb]
 rfl
/-- The rounds of a draw. -/
def DrawnE {α : Type} (o : Nat → Option (α × Int × Int)) (p : Int) (n : Int) (q : α → Prop) : Prop := ∃ v p' s', Ev o (v, p', s') ∧ q v ∧ p ≤ p' ∧ p' ≤ p + n
end Go.Proofs.Ytolaplcjbmjlmaa.X

namespace Go.Proofs.Ytolaplcjbmjlmaa.X
open Go.RowKit Go.Proofs.YtolaplcjbmjlmaaW.PrintWords Go.Proofs.YtolaplcjbmjlmaaL
theorem stays_l1 {b : List Int} (hb : okB b) (x6 y0 y1 y2 : Int) : ∀ (d : Nat) (l : List Ff) (p sd : Int), l.length + d = 22 → 0 ≤ x6 → x6 < l.length → 0 ≤ p → p + 2 * d ≤ 800000000000 →
  DrawnE (fun k => Bo.l1 k l x6 b p sd y0 y1 y2) p (2 * d + 2) (fun r => r.length ≤ 22) := by
 intro d
 induction d with
 | zero =>
  intro l p sd hx x0 x1 p0 p1
  obtain ⟨v, pa, sa, ea, qa, ba, ba2⟩ := pick_ok hb p sd 2 p0 (by omega) (by omega)
  have v1 := qa.2.1 (by omega)
  have v0 := qa.1
  refine ⟨_, pa, sa, Ev.step (f := fun _ => some _) (fun k => ?_) (Ev.now _), show (l.set x6.toNat (⟨y0, y1, y2⟩ : Ff)).length ≤ 22 by rw [List.length_set]; omega, by omega, by omega⟩
  simp only [Bo.l1, ea, Option.bind_some]
  rw [Fg (x := 20 + v) (by omega) (by omega), if_neg (by omega), if_pos x0, if_pos x1]
 | succ d ih =>
  intro l p sd hx x0 x1 p0 p1
  obtain ⟨v, pa, sa, ea, qa, ba, ba2⟩ := pick_ok hb p sd 2 p0 (by omega) (by omega)
  have v1 := qa.2.1 (by omega)
  have v0 := qa.1
  by_cases c : (l.length : Int) < 20 + v
  ·obtain ⟨r, pc, sc, ec, qc, bc, bc2⟩ := ih (l ++ [⟨1, 2, 1⟩]) pa sa (by rw [List.length_append]; simp; omega) x0 (by rw [List.length_append]; simp; omega) (by omega) (by omega)
   refine ⟨r, pc, sc, Ev.step (fun k => ?_) ec, qc, by omega, by omega⟩
   simp only [Bo.l1, ea, Option.bind_some]
   rw [Fg (x := 20 + v) (by omega) (by omega), if_pos c, if_pos (by omega)]
  ·refine ⟨_, pa, sa, Ev.step (f := fun _ => some _) (fun k => ?_) (Ev.now _), show (l.set x6.toNat (⟨y0, y1, y2⟩ : Ff)).length ≤ 22 by rw [List.length_set]; omega, by omega, by omega⟩
   simp only [Bo.l1, ea, Option.bind_some]
   rw [Fg (x := 20 + v) (by omega) (by omega), if_neg c, if_pos x0, if_pos x1]
theorem stays_l0 {b : List Int} (hb : okB b) : ∀ (d : Nat) (l : List Ff) (p sd : Int), l.length + d ≤ 7 → 0 ≤ p → p + 6 * d ≤ 700000000000 →
  DrawnE (fun k => Bo.l0 k l (d : Int) b p sd) p (6 * d + 100) (fun r => r.length ≤ 22) := by
 intro d
 induction d with
 | zero =>
  intro l p sd hl p0 p1
  by_cases c : (l.length : Int) = 0
  ·refine ⟨l, p, sd, Ev.step (f := fun _ => some _) (fun k => ?_) (Ev.now _), show l.length ≤ 22 by omega, by omega, by omega⟩
   simp only [Bo.l0]
   rw [if_neg (by omega), if_pos c]
  ·obtain ⟨v, pa, sa, ea, qa, ba, ba2⟩ := pick_ok hb p sd (l.length : Int) p0 (by omega) (by omega)
   have v1 := qa.2.1 (by omega)
   have v0 := qa.1
   obtain ⟨w, pb, sb, eb, qb, bb, bb2⟩ := pick_ok hb pa sa 40 (by omega) (by omega) (by omega)
   have st : ∀ k, Bo.l0 (k + 1) l ((0 : Nat) : Int) b p sd = if w = 0 then ((Dx.f b pb sb (([(-1), wrap64 (((Ah l v).f1) + 1)] : List Int))).bind fun bt384 => (some ((l.set (v : Int).toNat (⟨bt384.1, (Ah l v).f1, (Ah l v).f2⟩ : Ff)), bt384.2.1, bt384.2.2))) else (if w = 1 then ((Dx.f b pb sb (([240, 241] : List Int))).bind fun bt391 => (some ((l.set (v : Int).toNat (⟨(Ah l v).f0, bt391.1, (Ah l v).f2⟩ : Ff)), bt391.2.1, bt391.2.2))) else (if w = 2 then ((Dx.f b pb sb (([0, 9, 10] : List Int))).bind fun bt398 => (some ((l.set (v : Int).toNat (⟨(Ah l v).f0, (Ah l v).f1, bt398.1⟩ : Ff)), bt398.2.1, bt398.2.2))) else (if w = 3 then (Bo.l1 k l v b pb sb ((Ah l v).f0) ((Ah l v).f1) ((Ah l v).f2)) else (some ((l.set (v : Int).toNat (⟨(Ah l v).f0, (Ah l v).f1, (Ah l v).f2⟩ : Ff)), pb, sb))))) := by
    intro k
    simp only [Bo.l0]
    rw [if_neg (by omega), if_neg c, ea]
    simp only [Option.bind_some]
    rw [if_pos v0, if_pos v1, eb]
    rfl
   by_cases w0 : w = 0
   ·obtain ⟨z, pd, sd2, ed, qd, bd, bd2⟩ := among_ok hb pb sb [(-1), wrap64 (((Ah l v).f1) + 1)] (by omega) (by omega) (by simp) (by simp)
    refine ⟨_, pd, sd2, Ev.step (f := fun _ => some _) (fun k => ?_) (Ev.now _), show (l.set v.toNat (⟨z, (Ah l v).f1, (Ah l v).f2⟩ : Ff)).length ≤ 22 by rw [List.length_set]; omega, by omega, by omega⟩
    rw [st, if_pos w0, ed]; rfl
   ·by_cases w1 : w = 1
    ·obtain ⟨z, pd, sd2, ed, qd, bd, bd2⟩ := among_ok hb pb sb [240, 241] (by omega) (by omega) (by simp) (by simp)
     refine ⟨_, pd, sd2, Ev.step (f := fun _ => some _) (fun k => ?_) (Ev.now _), show (l.set v.toNat (⟨(Ah l v).f0, z, (Ah l v).f2⟩ : Ff)).length ≤ 22 by rw [List.length_set]; omega, by omega, by omega⟩
     rw [st, if_neg w0, if_pos w1, ed]; rfl
    ·by_cases w2 : w = 2
     ·obtain ⟨z, pd, sd2, ed, qd, bd, bd2⟩ := among_ok hb pb sb [0, 9, 10] (by omega) (by omega) (by simp) (by simp)
      refine ⟨_, pd, sd2, Ev.step (f := fun _ => some _) (fun k => ?_) (Ev.now _), show (l.set v.toNat (⟨(Ah l v).f0, (Ah l v).f1, z⟩ : Ff)).length ≤ 22 by rw [List.length_set]; omega, by omega, by omega⟩
      rw [st, if_neg w0, if_neg w1, if_pos w2, ed]; rfl
     ·by_cases w3 : w = 3
      ·obtain ⟨r, pc, sc, ec, qc, bc, bc2⟩ := stays_l1 hb v ((Ah l v).f0) ((Ah l v).f1) ((Ah l v).f2) (22 - l.length) l pb sb (by omega) v0 v1 (by omega) (by omega)
       refine ⟨r, pc, sc, Ev.step (fun k => ?_) ec, qc, by omega, by omega⟩
       rw [st, if_neg w0, if_neg w1, if_neg w2, if_pos w3]
      ·refine ⟨_, pb, sb, Ev.step (f := fun _ => some _) (fun k => ?_) (Ev.now _), show (l.set v.toNat (⟨(Ah l v).f0, (Ah l v).f1, (Ah l v).f2⟩ : Ff)).length ≤ 22 by rw [List.length_set]; omega, by omega, by omega⟩
       rw [st, if_neg w0, if_neg w1, if_neg w2, if_neg w3]
 | succ d ih =>
  intro l p sd hl p0 p1
  obtain ⟨v, pa, sa, ea, qa, ba, ba2⟩ := pick_ok hb p sd 40 p0 (by omega) (by omega)
  obtain ⟨w, pb, sb, eb, qb, bb, bb2⟩ := among_ok hb pa sa [0, 1, 5, 12, 24, 60, 200] (by omega) (by omega) (by simp) (by simp)
  obtain ⟨y, pd, sd2, ed, qd, bd, bd2⟩ := pick_ok hb pb sb 4 (by omega) (by omega) (by omega)
  obtain ⟨r, pc, sc, ec, qc, bc, bc2⟩ := ih (l ++ [⟨v, wrap64 (v + w), wrap64 (1 + y)⟩]) pd sd2 (by rw [List.length_append]; simp; omega) (by omega) (by omega)
  refine ⟨r, pc, sc, Ev.step (fun k => ?_) ec, qc, by omega, by omega⟩
  simp only [Bo.l0]
  rw [if_pos (by omega), ea]
  simp only [Option.bind_some, eb, ed]
  rw [if_pos (by omega), Fg (x := ((d + 1 : Nat) : Int) - 1) (by omega) (by omega), show ((d + 1 : Nat) : Int) - 1 = (d : Int) by omega]
theorem stays_ok {b : List Int} (hb : okB b) (p sd : Int) (p0 : 0 ≤ p) (p1 : p ≤ 600000000000) : DrawnE (fun k => Bo.f k b p sd) p 200 (fun r => r.length ≤ 22) := by
 obtain ⟨v, pa, sa, ea, qa, ba, ba2⟩ := pick_ok hb p sd 8 p0 (by omega) (by omega)
 have v1 := qa.2.1 (by omega)
 obtain ⟨r, pc, sc, ec, qc, bc, bc2⟩ := stays_l0 hb v.toNat [] pa sa (by simp; omega) (by omega) (by omega)
 refine ⟨r, pc, sc, Ev.congr (fun k => ?_) ec, qc, by omega, by omega⟩
 unfold Bo.f
 rw [ea]; simp only [Option.bind_some]
 rw [show ((v.toNat : Nat) : Int) = v by omega]
end Go.Proofs.Ytolaplcjbmjlmaa.X

namespace Go.Proofs.Ytolaplcjbmjlmaa.X
open Go.RowKit Go.Proofs.YtolaplcjbmjlmaaW.PrintWords Go.Proofs.YtolaplcjbmjlmaaL
theorem rInts_ev (l : List Int) (h : l.length ≤ 1048576) : Ev (fun k => Du.f k l l) true := by
 have key : ∀ (d n : Nat), n + d = l.length → Ev (fun k => Du.l0 k l l n) true := by
  intro d
  induction d with
  | zero => intro n hn; exact Ev.step (f := fun _ => some _) (fun k => by simp only [Du.l0]; rw [if_neg (by omega)]) (Ev.now _)
  | succ d ih =>
   intro n hn
   refine Ev.step (f := fun k => Du.l0 k l l ((n + 1 : Nat) : Int)) (fun k => ?_) (ih (n + 1) (by omega))
   simp only [Du.l0]
   rw [if_pos (by omega), if_pos (by omega), if_pos (by omega), if_pos trivial, wrap_succ (by omega)]
 exact Ev.congr (f := fun k => Du.l0 k l l ((0 : Nat) : Int)) (fun k => by unfold Du.f; rw [if_pos rfl]; rfl) (key l.length 0 (by omega))
theorem rTable_ev (l : List (List Int)) (h : l.length ≤ 1048576) (hr : ∀ s ∈ l, s.length ≤ 1048576) : Ev (fun k => Dy.f k l l) true := by
 have key : ∀ (d n : Nat), n + d = l.length → Ev (fun k => Dy.l0 k l l n) true := by
  intro d
  induction d with
  | zero => intro n hn; exact Ev.step (f := fun _ => some _) (fun k => by simp only [Dy.l0]; rw [if_neg (by omega)]) (Ev.now _)
  | succ d ih =>
   intro n hn
   have hnl : n < l.length := by omega
   have hm := hr _ (List.getElem_mem hnl)
   refine Ev.step (f := fun k => (Du.f k l[n] l[n]).bind fun t => if t = true then Dy.l0 k l l ((n + 1 : Nat) : Int) else some false) (fun k => ?_) (Ev.bind (rInts_ev l[n] (by have : l[n].length ≤ 1048576 := hm; omega)) ?_)
   ·simp only [Dy.l0]
    rw [if_pos (by omega), if_pos (by omega), if_pos (by omega), rdR l n hnl, wrap_succ (by omega)]
   ·simp only [if_true]; exact ih (n + 1) (by omega)
 exact Ev.congr (f := fun k => Dy.l0 k l l ((0 : Nat) : Int)) (fun k => by unfold Dy.f; rw [if_pos rfl]; rfl) (key l.length 0 (by omega))
/-- A share, reduced, counts what it is of. -/
theorem share_back (c n : Nat) (hn : 0 < n) (hc : c ≤ n) : (F6 c n).1 * ((n : Int) / (F6 c n).2) = (c : Int) ∧ (F6 c n).2 ≠ 0 ∧ 0 ≤ (F6 c n).1 ∧ (F6 c n).1 ≤ (n : Int) ∧ 0 < (F6 c n).2 ∧ (F6 c n).2 ≤ (n : Int) := by
 have hg : 0 < Nat.gcd c n := Nat.gcd_pos_of_pos_right c hn
 obtain ⟨a, ha⟩ := Nat.gcd_dvd_left c n
 obtain ⟨b, hb⟩ := Nat.gcd_dvd_right c n
 have e1 : c / Nat.gcd c n = a := by
  have : (Nat.gcd c n * a) / Nat.gcd c n = a := Nat.mul_div_cancel_left a hg
  rwa [← ha] at this
 have e2 : n / Nat.gcd c n = b := by
  have : (Nat.gcd c n * b) / Nat.gcd c n = b := Nat.mul_div_cancel_left b hg
  rwa [← hb] at this
 unfold F6
 simp only [e1, e2]
 have hb0 : 0 < b := by
  rcases Nat.eq_zero_or_pos b with z | z
  ·rw [z, Nat.mul_zero] at hb; omega
  ·exact z
 have e3 : n / b = Nat.gcd c n := by
  have : (Nat.gcd c n * b) / b = Nat.gcd c n := Nat.mul_div_cancel (Nat.gcd c n) hb0
  rwa [← hb] at this
 have hle1 : a ≤ n := by
  have : a ≤ Nat.gcd c n * a := Nat.le_mul_of_pos_left a hg
  omega
 have hle2 : b ≤ n := by
  have : b ≤ Nat.gcd c n * b := Nat.le_mul_of_pos_left b hg
  omega
 refine ⟨?_, by omega, by omega, by omega, by omega, by omega⟩
 rw [show ((n : Int) / (b : Int)) = ((n / b : Nat) : Int) by rw [Int.natCast_ediv], e3, ← Int.natCast_mul, Nat.mul_comm, ← ha]
def cntSum (l : List Ff) : Nat → Int → Int
 | 0, _ => 0
 | d + 1, p => (Gf l p : Int) + cntSum l d (p + 1)
theorem cntSum_cons (x : Ff) (l : List Ff) : ∀ (d : Nat) (p : Int), cntSum (x :: l) d p = cntSum l d p + (if p ≤ x.f2 ∧ x.f2 < p + d then 1 else 0)
 | 0, p => by
  simp only [cntSum]
  rw [if_neg (by omega)]
  rfl
 | d + 1, p => by
  have hc : (Gf (x :: l) p : Int) = (Gf l p : Int) + (if x.f2 = p then 1 else 0) := by
   unfold Gf
   rw [List.countP_cons]
   by_cases e : x.f2 = p <;> simp [e]
  simp only [cntSum, cntSum_cons x l d (p + 1), hc]
  by_cases e : x.f2 = p
  ·rw [if_pos e, if_neg (by omega), if_pos (by omega)]
   omega
  ·rw [if_neg e]
   by_cases z : p + 1 ≤ x.f2 ∧ x.f2 < p + 1 + d
   ·rw [if_pos z, if_pos (by omega)]
    omega
   ·rw [if_neg z, if_neg (by omega)]
    omega
theorem cntSum_all : ∀ l : List Ff, (∀ x ∈ l, 1 ≤ x.f2 ∧ x.f2 ≤ 9) → cntSum l 9 1 = (l.length : Int)
 | [], _ => by simp [cntSum, Gf]
 | x :: l, h => by
  have := h x (by simp)
  rw [cntSum_cons, cntSum_all l (fun y hy => h y (by simp [hy])), if_pos (by omega), List.length_cons]
  omega
/-- The sum over the shares from n on. -/
theorem shares_loop (b : List Int) (some_ : List Ff) (hl : some_.length ≤ 1048576) (r : Bool) (told : Bool) (S : Int) (hend : Ev (fun k => if told = true then Ai.j5 k b (S != (some_.length : Int)) else Ai.j5 k b false) r) : ∀ (d : Nat) (p : Int) (pre : List (List Int)) (acc : Int),
  0 ≤ acc → acc + d * 1048576 ≤ 100000000 → S = acc + cntSum some_ d p → (∀ s ∈ pre, s.length = 3) → pre.length + d ≤ 9 →
  Ev (fun k => Ai.l1 k b some_ (pre ++ shares some_ d p) told acc (pre.length : Int)) r
 | 0, p, pre, acc, h0, h1, hS, hp, hd => by
  refine Ev.step (f := fun k => if told = true then Ai.j5 k b (acc != (some_.length : Int)) else Ai.j5 k b false) (fun k => ?_) ?_
  ·simp only [Ai.l1, shares, List.append_nil]
   rw [if_neg (by omega)]
  ·have : S = acc := by rw [hS]; simp [cntSum]
   rw [← this]
   exact hend
 | d + 1, p, pre, acc, h0, h1, hS, hp, hd => by
  have hc := cntP_le some_ p
  by_cases c : Gf some_ p > 0
  ·have hn : 0 < some_.length := by omega
   obtain ⟨e, ez, n0, n1, d0, d1⟩ := share_back (Gf some_ p) some_.length hn hc
   have esh : shares some_ (d + 1) p = [p, (F6 (Gf some_ p) some_.length).1, (F6 (Gf some_ p) some_.length).2] :: shares some_ d (p + 1) := by rw [shares, if_pos c]
   generalize hq : F6 (Gf some_ p) some_.length = q at e ez n0 n1 d0 d1 esh
   have eapp : pre ++ shares some_ (d + 1) p = (pre ++ [[p, q.1, q.2]]) ++ shares some_ d (p + 1) := by rw [esh]; simp
   have ih := shares_loop b some_ hl r told S hend d (p + 1) (pre ++ [[p, q.1, q.2]]) (acc + (Gf some_ p : Int)) (by omega) (by omega) (by rw [hS]; show acc + ((Gf some_ p : Int) + cntSum some_ d (p + 1)) = _; omega) (fun s hs => by
    rcases List.mem_append.1 hs with hs | hs
    ·exact hp s hs
    ·rw [List.mem_singleton.1 hs]; rfl) (by simp only [List.length_append, List.length_cons, List.length_nil]; omega)
   refine Ev.step (fun k => ?_) ih
   rw [eapp]
   have hlen : pre.length < ((pre ++ [[p, q.1, q.2]]) ++ shares some_ d (p + 1)).length := by simp only [List.length_append, List.length_cons, List.length_nil]; omega
   have hrd : Es ((pre ++ [[p, q.1, q.2]]) ++ shares some_ d (p + 1)) (pre.length : Int) = [p, q.1, q.2] := by
    rw [rdR _ _ hlen]
    simp
   simp only [Ai.l1]
   rw [if_pos (by omega), if_pos (by omega), hrd]
   rw [if_pos (show (1 : Int) < (([p, q.1, q.2] : List Int).length : Int) by simp), if_pos (show (2 : Int) < (([p, q.1, q.2] : List Int).length : Int) by simp)]
   rw [show rd [p, q.1, q.2] 2 = q.2 from rfl, show rd [p, q.1, q.2] 1 = q.1 from rfl, if_neg ez]
   have hdv : 0 ≤ (some_.length : Int) / q.2 ∧ (some_.length : Int) / q.2 ≤ some_.length := ⟨Int.ediv_nonneg (by omega) (by omega), by
    have := Int.ediv_le_self (a := (some_.length : Int)) q.2 (by omega)
    exact this⟩
   rw [Fg (x := (some_.length : Int) / q.2) (by omega) (by omega), e, Fg (x := (Gf some_ p : Int)) (by omega) (by omega), Fg (x := acc + (Gf some_ p : Int)) (by omega) (by omega), wrap_succ (by omega)]
   rw [List.length_append]
   rfl
  ·have esh : shares some_ (d + 1) p = shares some_ d (p + 1) := by rw [shares, if_neg c]
   rw [esh]
   have hz : (Gf some_ p : Int) = 0 := by omega
   exact shares_loop b some_ hl r told S hend d (p + 1) pre acc h0 (by omega) (by rw [hS]; show acc + ((Gf some_ p : Int) + cntSum some_ d (p + 1)) = _; omega) hp (by omega)
/-- Shortest and longest, from n on. -/
def lowTo (l : List Int) (a : Int) : Int := l.foldl (fun m x => if x < m then x else m) a
def Hq (l : List Int) (a : Int) : Int := l.foldl (fun m x => if x > m then x else m) a
theorem lowTo_le : ∀ (l : List Int) (a : Int), lowTo l a ≤ a ∧ ∀ x ∈ l, lowTo l a ≤ x
 | [], a => ⟨Int.le_refl _, fun x hx => by cases hx⟩
 | y :: l, a => by
  have e : lowTo (y :: l) a = lowTo l (if y < a then y else a) := rfl
  rw [e]
  by_cases hy : y < a
  ·rw [if_pos hy]
   have ih := lowTo_le l y
   refine ⟨by have := ih.1; omega, fun x hx => ?_⟩
   rcases List.mem_cons.1 hx with rfl | hx
   ·exact ih.1
   ·exact ih.2 x hx
  ·rw [if_neg hy]
   have ih := lowTo_le l a
   refine ⟨ih.1, fun x hx => ?_⟩
   rcases List.mem_cons.1 hx with rfl | hx
   ·have := ih.1; omega
   ·exact ih.2 x hx
theorem highTo_ge : ∀ (l : List Int) (a : Int), a ≤ Hq l a ∧ ∀ x ∈ l, x ≤ Hq l a
 | [], a => ⟨Int.le_refl _, fun x hx => by cases hx⟩
 | y :: l, a => by
  have e : Hq (y :: l) a = Hq l (if y > a then y else a) := rfl
  rw [e]
  by_cases hy : y > a
  ·rw [if_pos hy]
   have ih := highTo_ge l y
   refine ⟨by have := ih.1; omega, fun x hx => ?_⟩
   rcases List.mem_cons.1 hx with rfl | hx
   ·exact ih.1
   ·exact ih.2 x hx
  ·rw [if_neg hy]
   have ih := highTo_ge l a
   refine ⟨ih.1, fun x hx => ?_⟩
   rcases List.mem_cons.1 hx with rfl | hx
   ·have := ih.1; omega
   ·exact ih.2 x hx
theorem lowTo_in : ∀ (l : List Int) (a : Int), lowTo l a = a ∨ lowTo l a ∈ l
 | [], a => .inl rfl
 | y :: l, a => by
  show lowTo l (if y < a then y else a) = a ∨ lowTo l (if y < a then y else a) ∈ y :: l
  rcases lowTo_in l (if y < a then y else a) with h | h
  ·rw [h]; split
   ·exact .inr (by simp)
   ·exact .inl rfl
  ·exact .inr (List.mem_cons_of_mem _ h)
theorem highTo_in : ∀ (l : List Int) (a : Int), Hq l a = a ∨ Hq l a ∈ l
 | [], a => .inl rfl
 | y :: l, a => by
  show Hq l (if y > a then y else a) = a ∨ Hq l (if y > a then y else a) ∈ y :: l
  rcases highTo_in l (if y > a then y else a) with h | h
  ·rw [h]; split
   ·exact .inr (by simp)
   ·exact .inl rfl
  ·exact .inr (List.mem_cons_of_mem _ h)
theorem frac_low (s n : Nat) (m : Int) (hn : 0 < n) (h : m * (n : Int) ≤ (s : Int)) : m * (F6 s n).2 ≤ (F6 s n).1 := by
 have hg : 0 < Nat.gcd s n := Nat.gcd_pos_of_pos_right s hn
 obtain ⟨a, ha⟩ := Nat.gcd_dvd_left s n
 obtain ⟨b, hb⟩ := Nat.gcd_dvd_right s n
 have e1 : s / Nat.gcd s n = a := by
  have : (Nat.gcd s n * a) / Nat.gcd s n = a := Nat.mul_div_cancel_left a hg
  rwa [← ha] at this
 have e2 : n / Nat.gcd s n = b := by
  have : (Nat.gcd s n * b) / Nat.gcd s n = b := Nat.mul_div_cancel_left b hg
  rwa [← hb] at this
 unfold F6
 simp only [e1, e2]
 have h2 : (Nat.gcd s n : Int) * (m * (b : Int)) ≤ (Nat.gcd s n : Int) * (a : Int) := by
  have h3 : (n : Int) = (Nat.gcd s n : Int) * (b : Int) := by rw [← Int.natCast_mul, ← hb]
  have h4 : (s : Int) = (Nat.gcd s n : Int) * (a : Int) := by rw [← Int.natCast_mul, ← ha]
  have h5 : m * (n : Int) = (Nat.gcd s n : Int) * (m * (b : Int)) := by rw [h3]; rw [← Int.mul_assoc, Int.mul_comm m, Int.mul_assoc]
  rw [← h5, ← h4]
  exact h
 exact Int.le_of_mul_le_mul_left h2 (by omega)
theorem frac_high (s n : Nat) (m : Int) (hn : 0 < n) (h : (s : Int) ≤ m * (n : Int)) : (F6 s n).1 ≤ m * (F6 s n).2 := by
 have hg : 0 < Nat.gcd s n := Nat.gcd_pos_of_pos_right s hn
 obtain ⟨a, ha⟩ := Nat.gcd_dvd_left s n
 obtain ⟨b, hb⟩ := Nat.gcd_dvd_right s n
 have e1 : s / Nat.gcd s n = a := by
  have : (Nat.gcd s n * a) / Nat.gcd s n = a := Nat.mul_div_cancel_left a hg
  rwa [← ha] at this
 have e2 : n / Nat.gcd s n = b := by
  have : (Nat.gcd s n * b) / Nat.gcd s n = b := Nat.mul_div_cancel_left b hg
  rwa [← hb] at this
 unfold F6
 simp only [e1, e2]
 have h2 : (Nat.gcd s n : Int) * (a : Int) ≤ (Nat.gcd s n : Int) * (m * (b : Int)) := by
  have h3 : (n : Int) = (Nat.gcd s n : Int) * (b : Int) := by rw [← Int.natCast_mul, ← hb]
  have h4 : (s : Int) = (Nat.gcd s n : Int) * (a : Int) := by rw [← Int.natCast_mul, ← ha]
  have h5 : m * (n : Int) = (Nat.gcd s n : Int) * (m * (b : Int)) := by rw [h3]; rw [← Int.mul_assoc, Int.mul_comm m, Int.mul_assoc]
  rw [← h5, ← h4]
  exact h
 exact Int.le_of_mul_le_mul_left h2 (by omega)
theorem sum_low (m : Int) : ∀ l : List Int, (∀ x ∈ l, m ≤ x) → m * (l.length : Int) ≤ l.sum
 | [], _ => by simp
 | y :: l, h => by
  have := sum_low m l (fun x hx => h x (by simp [hx]))
  have hy := h y (by simp)
  rw [List.sum_cons, List.length_cons, Int.natCast_add, Int.mul_add]
  simp
  omega
theorem sum_high (m : Int) : ∀ l : List Int, (∀ x ∈ l, x ≤ m) → l.sum ≤ m * (l.length : Int)
 | [], _ => by simp
 | y :: l, h => by
  have := sum_high m l (fun x hx => h x (by simp [hx]))
  have hy := h y (by simp)
  rw [List.sum_cons, List.length_cons, Int.natCast_add, Int.mul_add]
  simp
  omega
theorem frac_small (s n : Nat) (hs : s ≤ 100000) (hn : n ≤ 100000) : 0 ≤ (F6 s n).1 ∧ (F6 s n).1 ≤ 100000 ∧ 0 ≤ (F6 s n).2 ∧ (F6 s n).2 ≤ 100000 := by
 have h1 : s / Nat.gcd s n ≤ s := Nat.div_le_self _ _
 have h2 : n / Nat.gcd s n ≤ n := Nat.div_le_self _ _
 unfold F6
 simp only
 generalize s / Nat.gcd s n = a at h1 ⊢
 generalize n / Nat.gcd s n = b at h2 ⊢
 omega
end Go.Proofs.Ytolaplcjbmjlmaa.X

namespace Go.Proofs.Ytolaplcjbmjlmaa.X
open Go.RowKit Go.Proofs.YtolaplcjbmjlmaaW.PrintWords Go.Proofs.YtolaplcjbmjlmaaL
theorem drawLong_ok {b : List Int} (hb : okB b) : ∃ l m, Ev (fun k => D7.f k b) (l, m) ∧ l.length ≤ 22 := by
 obtain ⟨l, pa, sa, ea, qa, ba, ba2⟩ := stays_ok hb 0 0 (by omega) (by omega)
 obtain ⟨w, pb, sb, _, _, _, eb⟩ := cutAmong_ok hb pa sa 6 24 [0, 1, 4, 12, 23, 240, (-1), 241] (fun bt480 => (some (l, bt480.1))) (by omega) (by omega) (by omega) (by omega) (by omega) (by simp) (by simp)
 refine ⟨l, w, ?_, qa⟩
 unfold D7.f
 exact Ev.bind ea (ev_eq fun k => eb)
theorem fnStays_j5 {b : List Int} (hb : okB b) : Ev (fun k => Ai.j5 k b false) true := by
 obtain ⟨l, h, hd, hl⟩ := drawLong_ok hb
 have hz := longs_length l h
 refine Ev.step (f := fun k => (D7.f k b).bind fun bt810 => ((impl_LongStays.f k bt810.1 bt810.2).bind fun bt814 => ((Ef.f k bt810.1 bt810.2).bind fun bt818 => (if (bt814.2 == bt818.2) = true then ((Du.f k bt814.1 bt818.1).bind fun t822 => (some t822)) else (some false))))) (fun k => by simp only [Ai.j5, Bool.false_eq_true, if_false]) ?_
 refine Ev.bind hd (Ev.bind (implLong_ev l h) (Ev.bind (specLong_ev l (by omega) h) ?_))
 simp only [beq_self_eq_true, if_true]
 exact Ev.bind (rInts_ev _ (by omega)) (Ev.now _)
theorem fnStays_j2 {b : List Int} (hb : okB b) {l : List Ff} (hl : l.length ≤ 22) (hd : Ev (fun k => Dz.f k b) l) : Ev (fun k => Ai.j2 k b) true := by
 obtain ⟨s1, s2⟩ := psOf_small l
 refine Ev.step (f := fun k => (Dz.f k b).bind fun t794 => ((Bj.f k t794).bind fun bt797 => ((Bi.f k t794).bind fun bt801 => (if (bt797.2 != bt801.2) = true then (Ai.j3 k b t794 bt797.1 bt797.2 true) else ((Dy.f k bt797.1 bt801.1).bind fun t805 => (Ai.j3 k b t794 bt797.1 bt797.2 (!t805))))))) (fun k => by simp only [Ai.j2]) ?_
 refine Ev.bind hd (Ev.bind (implPS_ev l) (Ev.bind (specPS_ev l (by omega)) ?_))
 simp only [bne_self_eq_false, Bool.false_eq_true, if_false]
 refine Ev.bind (rTable_ev _ (by omega) (fun s hs => by rw [s2 s hs]; omega)) ?_
 simp only [Bool.not_true]
 refine Ev.step (f := fun k => Ai.l1 k b l (psOf l).1 (psOf l).2 0 0) (fun k => by simp only [Ai.j3, Bool.false_eq_true, if_false]) ?_
 by_cases v : valid l = true
 ·have e : psOf l = (shares l 9 1, true) := by unfold psOf; rw [if_pos v]
  rw [e]
  have hall := cntSum_all l (fun x hx => by
   have := (okStay_iff x).1 ((He v).1 x hx)
   omega)
  have := shares_loop b l (by omega) true true (cntSum l 9 1) (Ev.congr (fun k => if_pos rfl) (by rw [hall, bne_self_eq_false]; exact fnStays_j5 hb)) 9 1 [] 0 (by omega) (by omega) (by omega) (fun s hs => by cases hs) (by simp)
  exact this
 ·have e : psOf l = ([], false) := by unfold psOf; rw [if_neg v]
  rw [e]
  refine Ev.step (f := fun k => Ai.j5 k b false) (fun k => ?_) (fnStays_j5 hb)
  simp only [Ai.l1, List.length_nil]
  rw [if_neg (by omega), if_neg (by decide)]
theorem hours_at (l : List Ff) (n : Nat) (h : n < l.length) : (hours l)[n]'(by rw [Fh]; exact h) = l[n].f1 - l[n].f0 := by simp [hours]
theorem fnStays_l0 {b : List Int} {l : List Ff} (hv : valid l = true) (h0 : 0 < l.length) (num den p q : Int) (hj : Ev (fun k => Ai.j2 k b) true)
  (hlow : ∀ m, (∀ x ∈ hours l, m ≤ x) → m * den ≤ num ∧ m * q ≤ p) (hhigh : ∀ m, (∀ x ∈ hours l, x ≤ m) → num ≤ m * den ∧ p ≤ m * q) (hd : 0 ≤ den ∧ den ≤ 100000) (hq : 0 ≤ q ∧ q ≤ 100000) :
  ∀ (d n : Nat), n + d = l.length → Ev (fun k => Ai.l0 k b l num den p q (lowTo ((hours l).take n) (l[0].f1 - l[0].f0)) (Hq ((hours l).take n) (l[0].f1 - l[0].f0)) (n : Int)) true := by
 have hb := Hz hv
 have h20 := (He hv).2
 have hm0 : l[0].f1 - l[0].f0 ∈ hours l := by rw [← hours_at l 0 h0]; exact List.getElem_mem _
 intro d
 induction d with
 | zero =>
  intro n hn
  obtain rfl : n = l.length := by omega
  have ht : (hours l).take l.length = hours l := by rw [← Fh]; exact List.take_length
  rw [ht]
  have hL := lowTo_le (hours l) (l[0].f1 - l[0].f0)
  have hH := highTo_ge (hours l) (l[0].f1 - l[0].f0)
  have bL : 0 ≤ lowTo (hours l) (l[0].f1 - l[0].f0) ∧ lowTo (hours l) (l[0].f1 - l[0].f0) ≤ 240 := by
   rcases lowTo_in (hours l) (l[0].f1 - l[0].f0) with e | e
   ·rw [e]; exact hb _ hm0
   ·exact hb _ e
  have bH : 0 ≤ Hq (hours l) (l[0].f1 - l[0].f0) ∧ Hq (hours l) (l[0].f1 - l[0].f0) ≤ 240 := by
   rcases highTo_in (hours l) (l[0].f1 - l[0].f0) with e | e
   ·rw [e]; exact hb _ hm0
   ·exact hb _ e
  have c1 := hlow _ hL.2
  have c2 := hhigh _ hH.2
  generalize lowTo (hours l) (l[0].f1 - l[0].f0) = lo at bL c1 ⊢
  generalize Hq (hours l) (l[0].f1 - l[0].f0) = hi at bH c2 ⊢
  have m1 : 0 ≤ lo * den ∧ lo * den ≤ 240 * 100000 := ⟨Int.mul_nonneg bL.1 hd.1, Int.mul_le_mul bL.2 hd.2 hd.1 (by omega)⟩
  have m2 : 0 ≤ hi * den ∧ hi * den ≤ 240 * 100000 := ⟨Int.mul_nonneg bH.1 hd.1, Int.mul_le_mul bH.2 hd.2 hd.1 (by omega)⟩
  have m3 : 0 ≤ lo * q ∧ lo * q ≤ 240 * 100000 := ⟨Int.mul_nonneg bL.1 hq.1, Int.mul_le_mul bL.2 hq.2 hq.1 (by omega)⟩
  have m4 : 0 ≤ hi * q ∧ hi * q ≤ 240 * 100000 := ⟨Int.mul_nonneg bH.1 hq.1, Int.mul_le_mul bH.2 hq.2 hq.1 (by omega)⟩
  refine Ev.step (f := fun k => Ai.j2 k b) (fun k => ?_) hj
  simp only [Ai.l0]
  rw [if_neg (by omega), Fg (x := lo * den) (by omega) (by omega), Fg (x := hi * den) (by omega) (by omega), Fg (x := lo * q) (by omega) (by omega), Fg (x := hi * q) (by omega) (by omega), if_neg (by omega), if_neg (by omega), if_neg (by omega), if_neg (by omega), Il, Option.bind_some, if_pos hv]
 | succ d ih =>
  intro n hn
  have hn2 : n < l.length := by omega
  have hn3 : n < (hours l).length := by rw [Fh]; exact hn2
  have ih := ih (n + 1) (by omega)
  have hx := hb _ (List.getElem_mem hn3)
  rw [List.take_succ_eq_append_getElem hn3, hours_at l n hn2] at ih
  rw [hours_at l n hn2] at hx
  have eL : lowTo ((hours l).take n ++ [l[n].f1 - l[n].f0]) (l[0].f1 - l[0].f0) = if l[n].f1 - l[n].f0 < lowTo ((hours l).take n) (l[0].f1 - l[0].f0) then l[n].f1 - l[n].f0 else lowTo ((hours l).take n) (l[0].f1 - l[0].f0) := by unfold lowTo; rw [List.foldl_append]; rfl
  have eH : Hq ((hours l).take n ++ [l[n].f1 - l[n].f0]) (l[0].f1 - l[0].f0) = if l[n].f1 - l[n].f0 > Hq ((hours l).take n) (l[0].f1 - l[0].f0) then l[n].f1 - l[n].f0 else Hq ((hours l).take n) (l[0].f1 - l[0].f0) := by unfold Hq; rw [List.foldl_append]; rfl
  rw [eL, eH] at ih
  generalize lowTo ((hours l).take n) (l[0].f1 - l[0].f0) = lo at ih ⊢
  generalize Hq ((hours l).take n) (l[0].f1 - l[0].f0) = hi at ih ⊢
  refine Ev.step (fun k => ?_) ih
  simp only [Ai.l0]
  rw [if_pos (by omega), if_pos (by omega), rdS l n hn2, Fg (x := l[n].f1 - l[n].f0) (by omega) (by omega), wrap_succ (by omega)]
  by_cases c1 : l[n].f1 - l[n].f0 < lo
  ·rw [if_pos c1, if_pos c1]
   by_cases c2 : l[n].f1 - l[n].f0 > hi
   ·rw [if_pos c2, if_pos c2]
   ·rw [if_neg c2, if_neg c2]
  ·rw [if_neg c1, if_neg c1]
   by_cases c2 : l[n].f1 - l[n].f0 > hi
   ·rw [if_pos c2, if_pos c2]
   ·rw [if_neg c2, if_neg c2]
theorem fnStays_j0 {b : List Int} (hb : okB b) {l : List Ff} (hl : l.length ≤ 22) (hd : Ev (fun k => Dz.f k b) l) : Ev (fun k => Ai.j0 k b l (mean l).1 (mean l).2.1 (mean l).2.2 (median l).1 (median l).2.1 ((median l).2.2 != (mean l).2.2)) true := by
 have hj := fnStays_j2 hb hl hd
 by_cases c : valid l = true ∧ l.length ≠ 0
 ·have e1 : mean l = ((F6 (hours l).sum.toNat l.length).1, (F6 (hours l).sum.toNat l.length).2, true) := by unfold mean; rw [if_pos c]
  have e2 : median l = ((F6 (mid l).toNat 2).1, (F6 (mid l).toNat 2).2, true) := by unfold median; rw [if_pos c]
  rw [e1, e2]
  obtain ⟨hv, hne⟩ := c
  have h0 : 0 < l.length := by omega
  have hs := hours_sum hv
  have hm := mid_bound hv hne
  have g1 := frac_small (hours l).sum.toNat l.length (by omega) (by omega)
  have g2 := frac_small (mid l).toNat 2 (by omega) (by omega)
  have hhl := Fh l
  have i1 : ∀ n : Nat, n < l.length → rd (Gl (hours l)) (n : Int) ∈ hours l := fun n hn => by
   have hn2 : n < (Gl (hours l)).length := by rw [sortI_length, hhl]; exact hn
   rw [rd_get _ n hn2]
   exact List.mem_mergeSort.1 (List.getElem_mem hn2)
  have key := fnStays_l0 (b := b) hv h0 (F6 (hours l).sum.toNat l.length).1 (F6 (hours l).sum.toNat l.length).2 (F6 (mid l).toNat 2).1 (F6 (mid l).toNat 2).2 hj
   (fun m hm2 => ⟨frac_low _ _ _ h0 (by have := sum_low m (hours l) hm2; rw [hhl] at this; omega), frac_low _ _ _ (by omega) (by
    have a1 := hm2 _ (i1 ((l.length - 1) / 2) (by omega))
    have a2 := hm2 _ (i1 (l.length / 2) (by omega))
    have : mid l = rd (Gl (hours l)) (((l.length - 1) / 2 : Nat) : Int) + rd (Gl (hours l)) ((l.length / 2 : Nat) : Int) := rfl
    omega)⟩)
   (fun m hm2 => ⟨frac_high _ _ _ h0 (by have := sum_high m (hours l) hm2; rw [hhl] at this; omega), frac_high _ _ _ (by omega) (by
    have a1 := hm2 _ (i1 ((l.length - 1) / 2) (by omega))
    have a2 := hm2 _ (i1 (l.length / 2) (by omega))
    have : mid l = rd (Gl (hours l)) (((l.length - 1) / 2 : Nat) : Int) + rd (Gl (hours l)) ((l.length / 2 : Nat) : Int) := rfl
    omega)⟩) ⟨g1.2.2.1, g1.2.2.2⟩ ⟨g2.2.2.1, g2.2.2.2⟩ l.length 0 (by omega)
  refine Ev.step (fun k => ?_) key
  have hx := Hz hv (l[0].f1 - l[0].f0) (by rw [← hours_at l 0 h0]; exact List.getElem_mem _)
  simp only [Ai.j0, bne_self_eq_false, Bool.false_eq_true, if_false, if_true]
  rw [if_pos (by omega), show Ah l 0 = l[0] from rdS l 0 h0, Fg (x := l[0].f1 - l[0].f0) (by omega) (by omega)]
  rfl
 ·have e1 : mean l = (0, 0, false) := by unfold mean; rw [if_neg c]
  have e2 : median l = (0, 0, false) := by unfold median; rw [if_neg c]
  rw [e1, e2]
  refine Ev.step (f := fun k => Ai.j2 k b) (fun k => ?_) hj
  simp only [Ai.j0, bne_self_eq_false, Bool.false_eq_true, if_false]
end Go.Proofs.Ytolaplcjbmjlmaa.X
namespace Go.Proofs.Ytolaplcjbmjlmaa.Pure
open Go.RowKit Go.Proofs.YtolaplcjbmjlmaaW.PrintWords Go.Proofs.YtolaplcjbmjlmaaL Go.Proofs.Ytolaplcjbmjlmaa.X
theorem FnStays : OFnStays.Pure := by
 intro b hb
 refine ev_rounds ?_
 have hB := okB_of hb.2.2
 unfold Ai.f Ho.f
 simp only [Option.bind_some]
 by_cases big : (b.length : Int) > 65536
 ·simp only [decide_eq_true big, if_true]; exact Ev.now _
 ·simp only [decide_eq_false big, Bool.false_eq_true, if_false]
  obtain ⟨l, pa, sa, ea, qa, _, _⟩ := stays_ok hB 0 0 (by omega) (by omega)
  have hl : l.length ≤ 22 := qa
  have hd : Ev (fun k => D8.f k b) l := by
   unfold D8.f Eh.f
   exact Ev.bind (Ev.bind ea (Ev.now _)) (Ev.now _)
  have hd2 : Ev (fun k => Dz.f k b) l := by
   unfold Dz.f Eh.f
   exact Ev.bind (Ev.bind ea (Ev.now _)) (Ev.now _)
  refine Ev.bind hd (Ev.bind (implMean_ev l) (Ev.bind (implMedian_ev l) (Ev.bind (specMean_ev l (by omega)) (Ev.bind (specMedian_ev l (by omega)) ?_))))
  simp only [if_true, bne_self_eq_false, Bool.false_eq_true, if_false]
  exact fnStays_j0 hB hl hd2
end Go.Proofs.Ytolaplcjbmjlmaa.Pure


namespace Go.Proofs.Ytolaplcjbmjlmaa.fnStays
open Go.ChangeShapes Go.WideShapes Go.ChangeAt Go.RowKit
open Go.ChangeMaps (open_string shut_string)
open Go.Joins
open Go.Proofs.YtolaplcjbmjlmaaW.PrintWords Go.Proofs.YtolaplcjbmjlmaaW.PrintLast Go.Proofs.YtolaplcjbmjlmaaW.PrintMore
open Go.Proofs.YtolaplcjbmjlmaaZ Go.Proofs.Ytolaplcjbmjlmaa.X Go.Proofs.Ytolaplcjbmjlmaa.X.OFnStays
set_option linter.unusedVariables false
set_option linter.unusedSimpArgs false
theorem own : ownKnob Try.prog.godebug = none := by kernel_rfl
theorem laidOut : laidOutB Try.prog = true := by kernel_rfl
set_option maxRecDepth 100000 in
set_option maxHeartbeats 2000000 in
theorem lifted (os : Os) (started : os.Started) (H : Type) (enc : TypeId × Value → H) :
    ReturnsInHanded {} Try.checked os 13 .any (Rows.fnStaysSpec.pre6 enc Try.prog Try.f13 Rows.fnStaysRow.domain false) (Rows.fnStaysSpec.post enc Try.prog Try.f13 false true false false) := by
  refine returnsInHanded_of_change_sized (C := Try.checked) own started (by kernel_rfl) Try.func13
    (ChangeSpec.witness6 (enc := enc) (C := Try.checked) false ⟨#[], #[.slice none 0 0], []⟩ 8 (by kernel_rfl) (by kernel_rfl) (by kernel_rfl) (by kernel_rfl)) ?_
  intro W base args ds gs before hval0 hW hcnd hsz0 _
  have hsz : (DataW.weightsEach Try.prog (Try.f13.params.toList ++ Rows.fnStaysSpec.plain.varTypes Try.prog) (ds ++ gs)).all (· ≤ reachBytes) = true := hsz0
  have hval : ∀ (j : Nat) t v, Try.f13.params[j]? = some t → args[j]? = some v → Value.okWide Try.prog W .any base t v := hval0
  have hW' := hW
  obtain ⟨p, q, hA0, hV, rfl, hfz, hnd⟩ := hW
  have hA : DataW.TrodAll enc Try.prog W 0 (fun _ => true) true Try.f13.params.toList args.toList ds p := hA0
  rw [Try.params13] at hA hval hsz
  obtain ⟨v0, vs0, d0, ds0, p0, q0, hargs, rfl, rfl, h0, r0⟩ := trodAll_cons hA
  obtain ⟨rfl, rfl, rfl⟩ := trodAll_nil r0
  obtain rfl : args = #[v0] := by cases args; simp_all
  obtain ⟨rfl, rfl⟩ := trodVars_none hV
  obtain ⟨a0, len0, cap0, rfl⟩ := okWide_slice Try.underlying44 (hval 0 44 v0 rfl rfl)
  have k0 := h0
  have lt0 : ∀ x ∈ p0, x.block < W.heap.size := by obtain ⟨m, hm⟩ := k0; exact DataW.trod_lt m _ _ _ hm
  obtain ⟨l0, rfl, hc0, hr0, w0⟩ : ∃ l : List Int, len0 = l.length ∧ l.length ≤ cap0 ∧ Kd.C (Kd.int .u8) W a0 l.length l ∧ (l.length * 1 ≤ 140737488351232 ∧ l.length ≤ 9223372036854775807 ∧ ∀ y1 ∈ l, (Lit.int .u8 y1).wf = true) := by
    obtain ⟨fuel, hf⟩ := h0
    obtain ⟨l, ⟨A_, c_, e_, hl_, hC_⟩, hfit_⟩ := (opens_slice 0 Try.underlying44 (by kernel_rfl) (opens_int Try.underlying5) (by kernel_rfl)) hf (weights_param hsz (j := 0) rfl rfl)
    simp [Value.cells] at e_
    obtain ⟨rfl, rfl, rfl⟩ := e_
    exact ⟨l, rfl, hl_, hC_, hfit_⟩
  clear hA0 hval0 hsz0 hsz
  obtain ⟨k, h⟩ := Go.Proofs.Ytolaplcjbmjlmaa.Pure.FnStays l0 w0
  refine (Ai.calls k a0 cap0 l0 true W hr0 hc0 h rfl).mono fun e W' ⟨he, bel0⟩ => ?_
  have bel : Below W.heap.size W W' := bel0
  subst he
  exact ⟨_, rfl, _, _, _, [], _, [], hW', trodAll_mk1 (shut_bool Try.underlying4 _), (trodAll_cons_mk (Below.trod laidOut (by kernel_rfl) (of_decide_eq_true (by kernel_rfl)) k0 bel lt0) trodAll_mk0), rfl, bel.frame _, fun h => by cases h⟩
theorem over : Rows.fnStaysRow.holds Try.pinned (OpenSpec.ofChange Rows.fnStaysSpec) :=
  OpenClaim.holds_of_wide 13 Try.f13 rfl rfl rfl rfl rfl rfl rfl ⟨rfl, rfl, rfl, rfl, rfl⟩ rfl rfl rfl rfl rfl (by kernel_rfl) Try.func13 (by kernel_rfl)
    (of_decide_eq_true (by kernel_rfl)) (by unfold Func.isWrapper; first | (rw [if_pos (by decide +kernel)]; kernel_rfl) | (rw [if_neg (by decide +kernel)]; exact ⟨rfl, rfl⟩))
    (fun os started H enc _ => lifted os started H enc)
theorem proved : Rows.FnStaysSaid := over
#print axioms proved
end Go.Proofs.Ytolaplcjbmjlmaa.fnStays
namespace Go.Proofs.Ytolaplcjbmjlmaa
/-- The row, under a short name, for the claim. -/
theorem fnStays_holds : Rows.FnStaysSaid := fnStays.proved
end Go.Proofs.Ytolaplcjbmjlmaa

