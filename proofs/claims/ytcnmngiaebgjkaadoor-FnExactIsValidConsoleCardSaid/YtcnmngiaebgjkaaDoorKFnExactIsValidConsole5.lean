/- The law FnExactIsValidConsole answers true for every input that the row lets in, and leaves its arguments as they were. Conditions: none beyond the row's own. -/
import Derived.Deep.Slices
import Derived.ChangeSame
import Derived.ChangeArms
import Derived.DataReads
import Derived.SizedLaws
import Derived.ProofKit
import Derived.Lib.SmallJoins
import Derived.ChangeOld
import Derived.Below
import Derived.Lib.IndexAny
import Derived.Lib.ItoaNum
import Derived.Lib.ItoaLen
import Derived.Test.YtcnmngiaebgjkaaDoorRows
import Derived.WalkKit
import Derived.OpenShut
import Derived.ShutString
import Derived.Handy
import Derived.Lay
import Derived.SevenTiedAt
import Derived.LaidSub
import Derived.Lib.LaidTab
import Derived.Test.YtcnmngiaebgjkaaDoorCards
import Derived.Test.YtcnmngiaebgjkaaDoorTie
import Derived.Test.YtcnmngiaebgjkaaDoorKFnExactIsValidConsole0
import Derived.Test.YtcnmngiaebgjkaaDoorKFnExactIsValidConsole1
import Derived.Test.YtcnmngiaebgjkaaDoorKFnExactIsValidConsole2
import Derived.Test.YtcnmngiaebgjkaaDoorKFnExactIsValidConsole3
import Derived.Test.YtcnmngiaebgjkaaDoorKFnExactIsValidConsole4
set_option linter.unusedVariables false
set_option linter.unusedSimpArgs false
namespace Go.Proofs.YtcnmngiaebgjkaaDoor.X
open Go.RowKit Go.Proofs.YtcnmngiaebgjkaaDoorW.PrintWords Go.Proofs.YtcnmngiaebgjkaaDoorW.PrintLast Go.Proofs.YtcnmngiaebgjkaaDoorW.PrintMore
attribute [local go_sem] Dn Dk D5 Dz Cj Cm Dj Dl
open Go.Proofs.YtcnmngiaebgjkaaDoorG
def Fp.f (k : Nat) (l0_0 : List (List Int)) (a0_1 : Int) (l0_2 : List (List Int)) (a0_3 : ByteArray) (a0_4 : ByteArray) (a0_5 : Int) : Option (Bool) := (Gs.f k l0_0 a0_1 l0_2 a0_3 a0_4 a0_5 1048576).bind fun t376 => (if t376 < 0 then (some true) else ((En.f k l0_0 a0_1 l0_2 a0_3 a0_4 a0_5).bind fun bt377 => ((Fg.f k bt377.1 bt377.2.1 bt377.2.2.1 bt377.2.2.2.1 bt377.2.2.2.2.1 bt377.2.2.2.2.2).bind fun t387 => ((En.f k l0_0 a0_1 l0_2 a0_3 a0_4 a0_5).bind fun bt388 => ((E8.f k bt388.1 bt388.2.1 bt388.2.2.1 bt388.2.2.2.1 bt388.2.2.2.2.1 bt388.2.2.2.2.2).bind fun t399 => (if (t399 != t387) = true then (some false) else ((En.f k l0_0 a0_1 l0_2 a0_3 a0_4 a0_5).bind fun bt400 => ((Fz.f k bt388.1 bt388.2.1 bt388.2.2.1 bt388.2.2.2.1 bt388.2.2.2.2.1 bt388.2.2.2.2.2 bt400.1 bt400.2.1 bt400.2.2.1 bt400.2.2.2.1 bt400.2.2.2.2.1 bt400.2.2.2.2.2).bind fun t410 => (if t410 = true then (some true) else (some false))))))))))
theorem Fp.mono : ∀ a0 a1 a2 a3 a4 a5 k, LeO (Fp.f k a0 a1 a2 a3 a4 a5) (Fp.f (k + 1) a0 a1 a2 a3 a4 a5) := by
  intro a0 a1 a2 a3 a4 a5 k
  unfold Fp.f
  repeat' first
      | (with_reducible exact E8.mono _ _ _ _ _ _ _)
      | (with_reducible exact Fz.mono _ _ _ _ _ _ _ _ _ _ _ _ _)
      | (with_reducible exact Gs.mono _ _ _ _ _ _ _ _)
      | (with_reducible exact En.mono _ _ _ _ _ _ _)
      | (with_reducible exact Fg.mono _ _ _ _ _ _ _)
      | (with_reducible exact LeO.refl _)
      | (with_reducible exact LeO.none _)
      | (with_reducible refine LeO.ite ?_ ?_)
      | (with_reducible refine LeO.bind ?_ (fun _ => ?_))
      | exact E8.mono _ _ _ _ _ _ _
      | exact Fz.mono _ _ _ _ _ _ _ _ _ _ _ _ _
      | exact Gs.mono _ _ _ _ _ _ _ _
      | exact En.mono _ _ _ _ _ _ _
      | exact Fg.mono _ _ _ _ _ _ _
      | exact LeO.none _
      | refine LeO.ite ?_ ?_
      | refine LeO.bind ?_ (fun _ => ?_)
set_option maxHeartbeats 8000000 in
set_option maxRecDepth 100000 in
theorem Fp.calls (k : Nat) (A0_0 : Option Addr) (c0_0 : Nat) (l0_0 : List (List Int)) (a0_1 : Int) (A0_2 : Option Addr) (c0_2 : Nat) (l0_2 : List (List Int)) (a0_3 : ByteArray) (a0_4 : ByteArray) (a0_5 : Int) (r : Bool) (w : World) (hr0_0 : Kd.C (Kd.slice 3 (Kd.int .i64)) w A0_0 l0_0.length l0_0) (hc0_0 : l0_0.length ≤ c0_0) (hr0_2 : Kd.C (Kd.slice 3 (Kd.int .i64)) w A0_2 l0_2.length l0_2) (hc0_2 : l0_2.length ≤ c0_2) (hG : Gf w) (h : Fp.f k l0_0 a0_1 l0_2 a0_3 a0_4 a0_5 = some r) (hr_ : r = true) :
    Calls Tryd.prog 3 #[.agg #[.slice A0_0 l0_0.length c0_0, .int .i64 a0_1, .slice A0_2 l0_2.length c0_2, .string a0_3, .string a0_4, .int .i64 a0_5]] w fun e w' => e = .returned (.bool r) ∧ Below w.heap.size w w' := by
  have HR_ := Ac.mk hr_
  clear hr_
  have hu32 := Tryd.underlying32
  have hu41 := Tryd.underlying41
  have HGL := Ac.mk hG
  clear hG
  have HR0_0 := Ac.mk hr0_0
  have HC0_0 := Ac.mk hc0_0
  clear hr0_0 hc0_0
  have HR0_2 := Ac.mk hr0_2
  have HC0_2 := Ac.mk hc0_2
  clear hr0_2 hc0_2
  have HB := Ac.mk (Below.refl w.heap.size w)
  have H : ((Gs.f k l0_0 a0_1 l0_2 a0_3 a0_4 a0_5 1048576).bind fun t376 => (if t376 < 0 then (some true) else ((En.f k l0_0 a0_1 l0_2 a0_3 a0_4 a0_5).bind fun bt377 => ((Fg.f k bt377.1 bt377.2.1 bt377.2.2.1 bt377.2.2.2.1 bt377.2.2.2.2.1 bt377.2.2.2.2.2).bind fun t387 => ((En.f k l0_0 a0_1 l0_2 a0_3 a0_4 a0_5).bind fun bt388 => ((E8.f k bt388.1 bt388.2.1 bt388.2.2.1 bt388.2.2.2.1 bt388.2.2.2.2.1 bt388.2.2.2.2.2).bind fun t399 => (if (t399 != t387) = true then (some false) else ((En.f k l0_0 a0_1 l0_2 a0_3 a0_4 a0_5).bind fun bt400 => ((Fz.f k bt388.1 bt388.2.1 bt388.2.2.1 bt388.2.2.2.1 bt388.2.2.2.2.1 bt388.2.2.2.2.2 bt400.1 bt400.2.1 bt400.2.2.1 bt400.2.2.2.1 bt400.2.2.2.2.1 bt400.2.2.2.2.2).bind fun t410 => (if t410 = true then (some true) else (some false))))))))))) = some r := h
  clear h
  replace H := Option.bind_eq_some_iff.mp H
  obtain ⟨t376, A20, H⟩ := H
  replace H : (if t376 < 0 then (some true) else ((En.f k l0_0 a0_1 l0_2 a0_3 a0_4 a0_5).bind fun bt377 => ((Fg.f k bt377.1 bt377.2.1 bt377.2.2.1 bt377.2.2.2.1 bt377.2.2.2.2.1 bt377.2.2.2.2.2).bind fun t387 => ((En.f k l0_0 a0_1 l0_2 a0_3 a0_4 a0_5).bind fun bt388 => ((E8.f k bt388.1 bt388.2.1 bt388.2.2.1 bt388.2.2.2.1 bt388.2.2.2.2.1 bt388.2.2.2.2.2).bind fun t399 => (if (t399 != t387) = true then (some false) else ((En.f k l0_0 a0_1 l0_2 a0_3 a0_4 a0_5).bind fun bt400 => ((Fz.f k bt388.1 bt388.2.1 bt388.2.2.1 bt388.2.2.2.1 bt388.2.2.2.2.1 bt388.2.2.2.2.2 bt400.1 bt400.2.1 bt400.2.2.1 bt400.2.2.2.1 bt400.2.2.2.2.1 bt400.2.2.2.2.2).bind fun t410 => (if t410 = true then (some true) else (some false)))))))))) = some r := H
  have A2 := Ac.mk A20
  clear A20
  by_cases c3 : t376 < 0
  · rw [if_pos c3] at H
    have c3b0 : decide (t376 < 0) = true := decide_eq_true c3
    clear c3
    obtain rfl := Option.some.inj H
    go_enter Tryd.func3, Tryd.ntmps3
    go_wp2_with (first | ((with_reducible refine Bd (N := 1) rfl ?_); refine Bc ?hg (N := 1) ?hd (cs := #[.slice A0_0 l0_0.length c0_0, .int .i64 a0_1, .slice A0_2 l0_2.length c0_2, .string a0_3, .string a0_4, .int .i64 a0_5]) (t := 32) ?hr ?_; (case hd => rfl); (case hg => rfl); (case hr => first | (go_simp; done) | (go_simp; rfl)); intro gb375 hg w4 hbox hb; have n0_ := Ac.mk (Ap (by repeat (first | (with_reducible first | exact HB.out | apply Ad | apply Aa | apply Ae) | exact HB.out)) hb); have n1_ := Ac.mk (hbox); have n2_ := Ac.mk ((by rw [hg]; exact (Am (by repeat (first | (with_reducible first | exact HB.out | apply Ad | apply Aa | apply Ae) | exact HB.out))) : w.heap.size ≤ gb375)); have n3_ := Ac.mk ((by rw [hg]; exact (Am (by repeat (first | (with_reducible first | exact HB.out | apply Ad | apply Aa | apply Ae) | exact HB.out))) : w.heap.size ≤ gb375)); clear HB; have HB := n0_; have BK375 := n1_; have GW375 := n2_; have GE375 := n3_; clear n0_ n1_ n2_ n3_; clear hb hbox hg; have hcz5_0 : w4.cell? ⟨gb375, 0, none⟩ = some (.slice A0_0 l0_0.length c0_0) := (Ag BK375.out 0).trans rfl; have hcz5_1 : w4.cell? ⟨gb375, 1, none⟩ = some (.int .i64 a0_1) := (Ag BK375.out 1).trans rfl; have hcz5_2 : w4.cell? ⟨gb375, 2, none⟩ = some (.slice A0_2 l0_2.length c0_2) := (Ag BK375.out 2).trans rfl; have hcz5_3 : w4.cell? ⟨gb375, 3, none⟩ = some (.string a0_3) := (Ag BK375.out 3).trans rfl; have hcz5_4 : w4.cell? ⟨gb375, 4, none⟩ = some (.string a0_4) := (Ag BK375.out 4).trans rfl; have hcz5_5 : w4.cell? ⟨gb375, 5, none⟩ = some (.int .i64 a0_5) := (Ag BK375.out 5).trans rfl; have hfz5_0 := Af BK375.out 0; have hfz5_1 := Af BK375.out 1; have hfz5_2 := Af BK375.out 2; have hfz5_3 := Af BK375.out 3; have hfz5_4 := Af BK375.out 4; have hfz5_5 := Af BK375.out 5) | ((with_reducible refine Aw (f := 4) rfl ?_); refine Be (some 9) rfl rfl Tryd.func4 (by kernel_rfl) rfl #[.agg #[.slice A0_0 l0_0.length c0_0, .int .i64 a0_1, .slice A0_2 l0_2.length c0_2, .string a0_3, .string a0_4, .int .i64 a0_5], .int .i64 1048576] rfl (by (try simp only [List.map_toArray, List.map_cons, List.map_nil]); first | done | rfl | (simp only [List.length_drop, List.length_take]; rfl)) ?_; (with_reducible refine (Gs.calls k _ _ l0_0 a0_1 _ _ l0_2 a0_3 a0_4 a0_5 1048576 t376 _ ?side1 ?side2 ?side3 ?side4 A2.out).mono ?_); (case side1 => repeat (first | exact (Kd.C9 HR0_0.out HB.out) | (with_reducible refine Kd.Bl ?_ _) | (with_reducible refine Kd.Bj ?_ _) | (with_reducible refine Kd.Ce ?_))); (case side2 => exact HC0_0.out); (case side3 => repeat (first | exact (Kd.C9 HR0_2.out HB.out) | (with_reducible refine Kd.Bl ?_ _) | (with_reducible refine Kd.Bj ?_ _) | (with_reducible refine Kd.Ce ?_))); (case side4 => exact HC0_2.out); rintro e w6 ⟨rfl, hb⟩; refine ⟨_, rfl, ?_⟩; have n0_ := Ac.mk (Az (g := gb375) (o := .cells #[.slice A0_0 l0_0.length c0_0, .int .i64 a0_1, .slice A0_2 l0_2.length c0_2, .string a0_3, .string a0_4, .int .i64 a0_5] 32 (0, 0)) (by (with_reducible repeat (first | refine Aj ?_ _ | refine Ak ?_ | refine Ai ?_ _)); exact BK375.out) hb); have n1_ := Ac.mk (Ap (by repeat (first | (with_reducible first | exact HB.out | apply Ad | apply Aa | apply Ae | refine Ah ?_ GE375.out) | exact HB.out)) hb); clear BK375; clear HB; have BK375 := n0_; have HB := n1_; clear n0_ n1_; (try clear hb); (try clear hb2); (try clear hk); (try clear hi)))
    go_ret
    exact ⟨by first | rfl | (simp [Aq, Au] <;> rfl) | (simp [*, Aq, Au] <;> rfl), by repeat (first | (with_reducible first | exact HB.out | apply Ad | apply Aa | apply Ae | refine Ah ?_ GE375.out) | exact HB.out)⟩
  · rw [if_neg c3] at H
    have c3b0 : decide (t376 < 0) = false := decide_eq_false c3
    clear c3
    replace H := Option.bind_eq_some_iff.mp H
    obtain ⟨⟨t377, t380, t381, t384, t385, t386⟩, A70, H⟩ := H
    replace H : ((Fg.f k t377 t380 t381 t384 t385 t386).bind fun t387 => ((En.f k l0_0 a0_1 l0_2 a0_3 a0_4 a0_5).bind fun bt388 => ((E8.f k bt388.1 bt388.2.1 bt388.2.2.1 bt388.2.2.2.1 bt388.2.2.2.2.1 bt388.2.2.2.2.2).bind fun t399 => (if (t399 != t387) = true then (some false) else ((En.f k l0_0 a0_1 l0_2 a0_3 a0_4 a0_5).bind fun bt400 => ((Fz.f k bt388.1 bt388.2.1 bt388.2.2.1 bt388.2.2.2.1 bt388.2.2.2.2.1 bt388.2.2.2.2.2 bt400.1 bt400.2.1 bt400.2.2.1 bt400.2.2.2.1 bt400.2.2.2.2.1 bt400.2.2.2.2.2).bind fun t410 => (if t410 = true then (some true) else (some false)))))))) = some r := H
    have A7 := Ac.mk A70
    clear A70
    replace H := Option.bind_eq_some_iff.mp H
    obtain ⟨t387, A80, H⟩ := H
    replace H : ((En.f k l0_0 a0_1 l0_2 a0_3 a0_4 a0_5).bind fun bt388 => ((E8.f k bt388.1 bt388.2.1 bt388.2.2.1 bt388.2.2.2.1 bt388.2.2.2.2.1 bt388.2.2.2.2.2).bind fun t399 => (if (t399 != t387) = true then (some false) else ((En.f k l0_0 a0_1 l0_2 a0_3 a0_4 a0_5).bind fun bt400 => ((Fz.f k bt388.1 bt388.2.1 bt388.2.2.1 bt388.2.2.2.1 bt388.2.2.2.2.1 bt388.2.2.2.2.2 bt400.1 bt400.2.1 bt400.2.2.1 bt400.2.2.2.1 bt400.2.2.2.2.1 bt400.2.2.2.2.2).bind fun t410 => (if t410 = true then (some true) else (some false))))))) = some r := H
    have A8 := Ac.mk A80
    clear A80
    replace H := Option.bind_eq_some_iff.mp H
    obtain ⟨⟨t388, t391, t392, t395, t396, t397⟩, A90, H⟩ := H
    replace H : ((E8.f k t388 t391 t392 t395 t396 t397).bind fun t399 => (if (t399 != t387) = true then (some false) else ((En.f k l0_0 a0_1 l0_2 a0_3 a0_4 a0_5).bind fun bt400 => ((Fz.f k t388 t391 t392 t395 t396 t397 bt400.1 bt400.2.1 bt400.2.2.1 bt400.2.2.2.1 bt400.2.2.2.2.1 bt400.2.2.2.2.2).bind fun t410 => (if t410 = true then (some true) else (some false)))))) = some r := H
    have A9 := Ac.mk A90
    clear A90
    replace H := Option.bind_eq_some_iff.mp H
    obtain ⟨t399, A100, H⟩ := H
    replace H : (if (t399 != t387) = true then (some false) else ((En.f k l0_0 a0_1 l0_2 a0_3 a0_4 a0_5).bind fun bt400 => ((Fz.f k t388 t391 t392 t395 t396 t397 bt400.1 bt400.2.1 bt400.2.2.1 bt400.2.2.2.1 bt400.2.2.2.2.1 bt400.2.2.2.2.2).bind fun t410 => (if t410 = true then (some true) else (some false))))) = some r := H
    have A10 := Ac.mk A100
    clear A100
    by_cases c11 : (t399 != t387) = true
    · rw [if_pos c11] at H
      have c11b0 : (t399 != t387) = true := c11
      (try (have c11b1 : decide (t399 = t387) = false := by simpa using c11))
      (try (have c11b2 : (t399 == t387) = false := by simpa using c11))
      (try (have c11b3 : ¬ (t399 = t387) := by simpa using c11))
      clear c11
      exact absurd (Option.some.inj H) (by rw [HR_.out]; decide)
    · rw [if_neg c11] at H
      have c11b0 : (t399 != t387) = false := by simpa using c11
      (try (have c11b1 : decide (t399 = t387) = true := by simpa using c11))
      (try (have c11b2 : (t399 == t387) = true := by simpa using c11))
      clear c11
      replace H := Option.bind_eq_some_iff.mp H
      obtain ⟨⟨t400, t403, t404, t407, t408, t409⟩, A280, H⟩ := H
      replace H : ((Fz.f k t388 t391 t392 t395 t396 t397 t400 t403 t404 t407 t408 t409).bind fun t410 => (if t410 = true then (some true) else (some false))) = some r := H
      have A28 := Ac.mk A280
      clear A280
      replace H := Option.bind_eq_some_iff.mp H
      obtain ⟨t410, A290, H⟩ := H
      replace H : (if t410 = true then (some true) else (some false)) = some r := H
      have A29 := Ac.mk A290
      clear A290
      by_cases c30 : t410 = true
      · subst c30
        have H1 : (some true) = some r := by rw [if_pos rfl] at H; exact H
        clear H
        have H := H1
        clear H1
        obtain rfl := Option.some.inj H
        go_enter Tryd.func3, Tryd.ntmps3
        try go_wp2_with (first | ((with_reducible refine Bd (N := 1) rfl ?_); refine Bc ?hg (N := 1) ?hd (cs := #[.slice A0_0 l0_0.length c0_0, .int .i64 a0_1, .slice A0_2 l0_2.length c0_2, .string a0_3, .string a0_4, .int .i64 a0_5]) (t := 32) ?hr ?_; (case hd => rfl); (case hg => rfl); (case hr => first | (go_simp; done) | (go_simp; rfl)); intro gb375 hg w31 hbox hb; have n0_ := Ac.mk (Ap (by repeat (first | (with_reducible first | exact HB.out | apply Ad | apply Aa | apply Ae) | exact HB.out)) hb); have n1_ := Ac.mk (hbox); have n2_ := Ac.mk ((by rw [hg]; exact (Am (by repeat (first | (with_reducible first | exact HB.out | apply Ad | apply Aa | apply Ae) | exact HB.out))) : w.heap.size ≤ gb375)); have n3_ := Ac.mk ((by rw [hg]; exact (Am (by repeat (first | (with_reducible first | exact HB.out | apply Ad | apply Aa | apply Ae) | exact HB.out))) : w.heap.size ≤ gb375)); clear HB; have HB := n0_; have BK375 := n1_; have GW375 := n2_; have GE375 := n3_; clear n0_ n1_ n2_ n3_; clear hb hbox hg; have hcz32_0 : w31.cell? ⟨gb375, 0, none⟩ = some (.slice A0_0 l0_0.length c0_0) := (Ag BK375.out 0).trans rfl; have hcz32_1 : w31.cell? ⟨gb375, 1, none⟩ = some (.int .i64 a0_1) := (Ag BK375.out 1).trans rfl; have hcz32_2 : w31.cell? ⟨gb375, 2, none⟩ = some (.slice A0_2 l0_2.length c0_2) := (Ag BK375.out 2).trans rfl; have hcz32_3 : w31.cell? ⟨gb375, 3, none⟩ = some (.string a0_3) := (Ag BK375.out 3).trans rfl; have hcz32_4 : w31.cell? ⟨gb375, 4, none⟩ = some (.string a0_4) := (Ag BK375.out 4).trans rfl; have hcz32_5 : w31.cell? ⟨gb375, 5, none⟩ = some (.int .i64 a0_5) := (Ag BK375.out 5).trans rfl; have hfz32_0 := Af BK375.out 0; have hfz32_1 := Af BK375.out 1; have hfz32_2 := Af BK375.out 2; have hfz32_3 := Af BK375.out 3; have hfz32_4 := Af BK375.out 4; have hfz32_5 := Af BK375.out 5) | ((with_reducible refine Aw (f := 4) rfl ?_); refine Be (some 9) rfl rfl Tryd.func4 (by kernel_rfl) rfl #[.agg #[.slice A0_0 l0_0.length c0_0, .int .i64 a0_1, .slice A0_2 l0_2.length c0_2, .string a0_3, .string a0_4, .int .i64 a0_5], .int .i64 1048576] rfl (by (try simp only [List.map_toArray, List.map_cons, List.map_nil]); first | done | rfl | (simp only [List.length_drop, List.length_take]; rfl)) ?_; (with_reducible refine (Gs.calls k _ _ l0_0 a0_1 _ _ l0_2 a0_3 a0_4 a0_5 1048576 t376 _ ?side1 ?side2 ?side3 ?side4 A2.out).mono ?_); (case side1 => repeat (first | exact (Kd.C9 HR0_0.out HB.out) | (with_reducible refine Kd.Bl ?_ _) | (with_reducible refine Kd.Bj ?_ _) | (with_reducible refine Kd.Ce ?_))); (case side2 => exact HC0_0.out); (case side3 => repeat (first | exact (Kd.C9 HR0_2.out HB.out) | (with_reducible refine Kd.Bl ?_ _) | (with_reducible refine Kd.Bj ?_ _) | (with_reducible refine Kd.Ce ?_))); (case side4 => exact HC0_2.out); rintro e w33 ⟨rfl, hb⟩; refine ⟨_, rfl, ?_⟩; have n0_ := Ac.mk (Az (g := gb375) (o := .cells #[.slice A0_0 l0_0.length c0_0, .int .i64 a0_1, .slice A0_2 l0_2.length c0_2, .string a0_3, .string a0_4, .int .i64 a0_5] 32 (0, 0)) (by (with_reducible repeat (first | refine Aj ?_ _ | refine Ak ?_ | refine Ai ?_ _)); exact BK375.out) hb); have n1_ := Ac.mk (Ap (by repeat (first | (with_reducible first | exact HB.out | apply Ad | apply Aa | apply Ae | refine Ah ?_ GE375.out) | exact HB.out)) hb); clear BK375; clear HB; have BK375 := n0_; have HB := n1_; clear n0_ n1_; (try clear hb); (try clear hb2); (try clear hk); (try clear hi); have hcz34_0 : w33.cell? ⟨gb375, 0, none⟩ = some (.slice A0_0 l0_0.length c0_0) := (Ag BK375.out 0).trans rfl; have hcz34_1 : w33.cell? ⟨gb375, 1, none⟩ = some (.int .i64 a0_1) := (Ag BK375.out 1).trans rfl; have hcz34_2 : w33.cell? ⟨gb375, 2, none⟩ = some (.slice A0_2 l0_2.length c0_2) := (Ag BK375.out 2).trans rfl; have hcz34_3 : w33.cell? ⟨gb375, 3, none⟩ = some (.string a0_3) := (Ag BK375.out 3).trans rfl; have hcz34_4 : w33.cell? ⟨gb375, 4, none⟩ = some (.string a0_4) := (Ag BK375.out 4).trans rfl; have hcz34_5 : w33.cell? ⟨gb375, 5, none⟩ = some (.int .i64 a0_5) := (Ag BK375.out 5).trans rfl; have hfz34_0 := Af BK375.out 0; have hfz34_1 := Af BK375.out 1; have hfz34_2 := Af BK375.out 2; have hfz34_3 := Af BK375.out 3; have hfz34_4 := Af BK375.out 4; have hfz34_5 := Af BK375.out 5) | ((with_reducible refine Aw (f := 6) rfl ?_); refine Be (some 13) rfl rfl Tryd.func6 (by kernel_rfl) rfl #[.agg #[.slice A0_0 l0_0.length c0_0, .int .i64 a0_1, .slice A0_2 l0_2.length c0_2, .string a0_3, .string a0_4, .int .i64 a0_5]] rfl (by (try simp only [List.map_toArray, List.map_cons, List.map_nil]); first | done | rfl | (simp only [List.length_drop, List.length_take]; rfl)) ?_; (with_reducible refine (En.calls k _ _ l0_0 a0_1 _ _ l0_2 a0_3 a0_4 a0_5 t377 t380 t381 t384 t385 t386 _ ?side1 ?side2 ?side3 ?side4 A7.out).mono ?_); (case side1 => repeat (first | exact (Kd.C9 HR0_0.out HB.out) | (with_reducible refine Kd.Bl ?_ _) | (with_reducible refine Kd.Bj ?_ _) | (with_reducible refine Kd.Ce ?_))); (case side2 => exact HC0_0.out); (case side3 => repeat (first | exact (Kd.C9 HR0_2.out HB.out) | (with_reducible refine Kd.Bl ?_ _) | (with_reducible refine Kd.Bj ?_ _) | (with_reducible refine Kd.Ce ?_))); (case side4 => exact HC0_2.out); rintro e w35 ⟨v378, v382, rfl, ho0, ho1, hb⟩; refine ⟨_, rfl, ?_⟩; have n0_ := Ac.mk (Kd.Ik ho0 (Am (by repeat (first | (with_reducible first | exact HB.out | apply Ad | apply Aa | apply Ae | refine Ah ?_ GE375.out) | exact HB.out)))); have n1_ := Ac.mk (Kd.Ik ho1 (Am (by repeat (first | (with_reducible first | exact HB.out | apply Ad | apply Aa | apply Ae | refine Ah ?_ GE375.out) | exact HB.out)))); have n2_ := Ac.mk (Az (g := gb375) (o := .cells #[.slice A0_0 l0_0.length c0_0, .int .i64 a0_1, .slice A0_2 l0_2.length c0_2, .string a0_3, .string a0_4, .int .i64 a0_5] 32 (0, 0)) (by (with_reducible repeat (first | refine Aj ?_ _ | refine Ak ?_ | refine Ai ?_ _)); exact BK375.out) hb); have n3_ := Ac.mk (Ap (by repeat (first | (with_reducible first | exact HB.out | apply Ad | apply Aa | apply Ae | refine Ah ?_ GE375.out) | exact HB.out)) hb); clear BK375; clear HB; have HO379 := n0_; have HO383 := n1_; have BK375 := n2_; have HB := n3_; clear n0_ n1_ n2_ n3_; (try clear hb); (try clear hb2); (try clear hk); (try clear hi); (try clear ho0); (try clear ho1); obtain ⟨Ao36, co36, eo36⟩ := Kd.Iu HO379.out; subst eo36; obtain ⟨Ao37, co37, eo37⟩ := Kd.Iu HO383.out; subst eo37) | ((with_reducible refine Aw (f := 5) rfl ?_); refine Be (some 14) rfl rfl Tryd.func5 (by kernel_rfl) rfl #[.agg #[.slice Ao36 t377.length co36, .int .i64 t380, .slice Ao37 t381.length co37, .string t384, .string t385, .int .i64 t386]] rfl (by (try simp only [List.map_toArray, List.map_cons, List.map_nil]); first | done | rfl | (simp only [List.length_drop, List.length_take]; rfl)) ?_; (with_reducible refine (Fg.calls k _ _ t377 t380 _ _ t381 t384 t385 t386 t387 _ ?side1 ?side2 ?side3 ?side4 A8.out).mono ?_); (case side1 => repeat (first | exact (Kd.Hf HO379.out).2.2 | (with_reducible refine Kd.Bl ?_ _) | (with_reducible refine Kd.Bj ?_ _) | (with_reducible refine Kd.Ce ?_))); (case side2 => exact (Kd.Hf HO379.out).2.1); (case side3 => repeat (first | exact (Kd.Hf HO383.out).2.2 | (with_reducible refine Kd.Bl ?_ _) | (with_reducible refine Kd.Bj ?_ _) | (with_reducible refine Kd.Ce ?_))); (case side4 => exact (Kd.Hf HO383.out).2.1); rintro e w38 ⟨rfl, hb⟩; refine ⟨_, rfl, ?_⟩; have n0_ := Ac.mk (Kd.G9 (by (with_reducible repeat (first | apply Kd.Ey | apply Kd.Ew | apply Kd.Ez)); exact HO379.out) hb); have n1_ := Ac.mk (Kd.G9 (by (with_reducible repeat (first | apply Kd.Ey | apply Kd.Ew | apply Kd.Ez)); exact HO383.out) hb); have n2_ := Ac.mk (Az (g := gb375) (o := .cells #[.slice A0_0 l0_0.length c0_0, .int .i64 a0_1, .slice A0_2 l0_2.length c0_2, .string a0_3, .string a0_4, .int .i64 a0_5] 32 (0, 0)) (by (with_reducible repeat (first | refine Aj ?_ _ | refine Ak ?_ | refine Ai ?_ _)); exact BK375.out) hb); have n3_ := Ac.mk (Ap (by repeat (first | (with_reducible first | exact HB.out | apply Ad | apply Aa | apply Ae | refine Ah ?_ GE375.out) | exact HB.out)) hb); clear HO379; clear HO383; clear BK375; clear HB; have HO379 := n0_; have HO383 := n1_; have BK375 := n2_; have HB := n3_; clear n0_ n1_ n2_ n3_; (try clear hb); (try clear hb2); (try clear hk); (try clear hi); have hcz39_0 : w38.cell? ⟨gb375, 0, none⟩ = some (.slice A0_0 l0_0.length c0_0) := (Ag BK375.out 0).trans rfl; have hcz39_1 : w38.cell? ⟨gb375, 1, none⟩ = some (.int .i64 a0_1) := (Ag BK375.out 1).trans rfl; have hcz39_2 : w38.cell? ⟨gb375, 2, none⟩ = some (.slice A0_2 l0_2.length c0_2) := (Ag BK375.out 2).trans rfl; have hcz39_3 : w38.cell? ⟨gb375, 3, none⟩ = some (.string a0_3) := (Ag BK375.out 3).trans rfl; have hcz39_4 : w38.cell? ⟨gb375, 4, none⟩ = some (.string a0_4) := (Ag BK375.out 4).trans rfl; have hcz39_5 : w38.cell? ⟨gb375, 5, none⟩ = some (.int .i64 a0_5) := (Ag BK375.out 5).trans rfl; have hfz39_0 := Af BK375.out 0; have hfz39_1 := Af BK375.out 1; have hfz39_2 := Af BK375.out 2; have hfz39_3 := Af BK375.out 3; have hfz39_4 := Af BK375.out 4; have hfz39_5 := Af BK375.out 5) | ((with_reducible refine Aw (f := 6) rfl ?_); refine Be (some 16) rfl rfl Tryd.func6 (by kernel_rfl) rfl #[.agg #[.slice A0_0 l0_0.length c0_0, .int .i64 a0_1, .slice A0_2 l0_2.length c0_2, .string a0_3, .string a0_4, .int .i64 a0_5]] rfl (by (try simp only [List.map_toArray, List.map_cons, List.map_nil]); first | done | rfl | (simp only [List.length_drop, List.length_take]; rfl)) ?_; (with_reducible refine (En.calls k _ _ l0_0 a0_1 _ _ l0_2 a0_3 a0_4 a0_5 t388 t391 t392 t395 t396 t397 _ ?side1 ?side2 ?side3 ?side4 A9.out).mono ?_); (case side1 => repeat (first | exact (Kd.C9 HR0_0.out HB.out) | (with_reducible refine Kd.Bl ?_ _) | (with_reducible refine Kd.Bj ?_ _) | (with_reducible refine Kd.Ce ?_))); (case side2 => exact HC0_0.out); (case side3 => repeat (first | exact (Kd.C9 HR0_2.out HB.out) | (with_reducible refine Kd.Bl ?_ _) | (with_reducible refine Kd.Bj ?_ _) | (with_reducible refine Kd.Ce ?_))); (case side4 => exact HC0_2.out); rintro e w40 ⟨v389, v393, rfl, ho0, ho1, hb⟩; refine ⟨_, rfl, ?_⟩; have n0_ := Ac.mk (Kd.Gy (Kd.S_told (Kd.S_told (Kd.S_old (by (with_reducible repeat (first | apply Kd.Ey | apply Kd.Ew | apply Kd.Ez)); exact HO379.out) hb) (Kd.I8 ho0)) (Kd.I8 ho1)) (fun _ h_ => h_.1)); have n1_ := Ac.mk (Kd.Gy (Kd.S_told (Kd.S_told (Kd.S_old (by (with_reducible repeat (first | apply Kd.Ey | apply Kd.Ew | apply Kd.Ez)); exact HO383.out) hb) (Kd.I8 ho0)) (Kd.I8 ho1)) (fun _ h_ => h_.1)); have n2_ := Ac.mk (Kd.Ik (Kd.I7 (Kd.I7 ho0 (Kd.S_lt (by (with_reducible repeat (first | apply Kd.Ey | apply Kd.Ew | apply Kd.Ez)); exact HO379.out))) (Kd.S_lt (by (with_reducible repeat (first | apply Kd.Ey | apply Kd.Ew | apply Kd.Ez)); exact HO383.out))) (Am (by repeat (first | (with_reducible first | exact HB.out | apply Ad | apply Aa | apply Ae | refine Ah ?_ GE375.out) | exact HB.out)))); have n3_ := Ac.mk (Kd.Ik (Kd.I7 (Kd.I7 ho1 (Kd.S_lt (by (with_reducible repeat (first | apply Kd.Ey | apply Kd.Ew | apply Kd.Ez)); exact HO379.out))) (Kd.S_lt (by (with_reducible repeat (first | apply Kd.Ey | apply Kd.Ew | apply Kd.Ez)); exact HO383.out))) (Am (by repeat (first | (with_reducible first | exact HB.out | apply Ad | apply Aa | apply Ae | refine Ah ?_ GE375.out) | exact HB.out)))); have n4_ := Ac.mk (Az (g := gb375) (o := .cells #[.slice A0_0 l0_0.length c0_0, .int .i64 a0_1, .slice A0_2 l0_2.length c0_2, .string a0_3, .string a0_4, .int .i64 a0_5] 32 (0, 0)) (by (with_reducible repeat (first | refine Aj ?_ _ | refine Ak ?_ | refine Ai ?_ _)); exact BK375.out) hb); have n5_ := Ac.mk (Ap (by repeat (first | (with_reducible first | exact HB.out | apply Ad | apply Aa | apply Ae | refine Ah ?_ GE375.out) | exact HB.out)) hb); clear HO379; clear HO383; clear BK375; clear HB; have HO379 := n0_; have HO383 := n1_; have HO390 := n2_; have HO394 := n3_; have BK375 := n4_; have HB := n5_; clear n0_ n1_ n2_ n3_ n4_ n5_; (try clear hb); (try clear hb2); (try clear hk); (try clear hi); (try clear ho0); (try clear ho1)) | ((with_reducible refine Bd (N := 5) rfl ?_); refine Bc ?hg (N := 5) ?hd (cs := #[.slice none 0 0, .int .i64 0, .slice none 0 0, .string (⟨#[]⟩ : ByteArray), .string (⟨#[]⟩ : ByteArray), .int .i64 0]) (t := 41) ?hr ?_; (case hd => rfl); (case hg => rfl); (case hr => first | (go_simp; done) | (go_simp; rfl)); intro gb398 hg w41 hbox hb; have n0_ := Ac.mk (Kd.G9 (by (with_reducible repeat (first | apply Kd.Ey | apply Kd.Ew | apply Kd.Ez)); exact HO379.out) hb); have n1_ := Ac.mk (Kd.G9 (by (with_reducible repeat (first | apply Kd.Ey | apply Kd.Ew | apply Kd.Ez)); exact HO383.out) hb); have n2_ := Ac.mk (Kd.G9 (by (with_reducible repeat (first | apply Kd.Ey | apply Kd.Ew | apply Kd.Ez)); exact HO390.out) hb); have n3_ := Ac.mk (Kd.G9 (by (with_reducible repeat (first | apply Kd.Ey | apply Kd.Ew | apply Kd.Ez)); exact HO394.out) hb); have n4_ := Ac.mk (Az (g := gb375) (o := .cells #[.slice A0_0 l0_0.length c0_0, .int .i64 a0_1, .slice A0_2 l0_2.length c0_2, .string a0_3, .string a0_4, .int .i64 a0_5] 32 (0, 0)) (by (with_reducible repeat (first | refine Aj ?_ _ | refine Ak ?_ | refine Ai ?_ _)); exact BK375.out) hb); have n5_ := Ac.mk (Ap (by repeat (first | (with_reducible first | exact HB.out | apply Ad | apply Aa | apply Ae | refine Ah ?_ GE375.out) | exact HB.out)) hb); have n6_ := Ac.mk (hbox); have n7_ := Ac.mk ((by rw [hg]; exact (Am (by repeat (first | (with_reducible first | exact HB.out | apply Ad | apply Aa | apply Ae | refine Ah ?_ GE375.out) | exact HB.out))) : w.heap.size ≤ gb398)); have n8_ := Ac.mk ((by rw [hg]; exact (Am (by repeat (first | (with_reducible first | exact HB.out | apply Ad | apply Aa | apply Ae | refine Ah ?_ GE375.out) | exact HB.out))) : w.heap.size ≤ gb398)); have n9_ := Ac.mk ((by rw [hg]; exact Nat.ne_of_lt (Dv (g := gb375) (o := .cells #[.slice A0_0 l0_0.length c0_0, .int .i64 a0_1, .slice A0_2 l0_2.length c0_2, .string a0_3, .string a0_4, .int .i64 a0_5] 32 (0, 0)) (by (with_reducible repeat (first | refine Aj ?_ _ | refine Ak ?_ | refine Ai ?_ _)); exact BK375.out)) : gb375 ≠ gb398)); have n10_ := Ac.mk ((by rw [hg]; exact Nat.ne_of_gt (Dv (g := gb375) (o := .cells #[.slice A0_0 l0_0.length c0_0, .int .i64 a0_1, .slice A0_2 l0_2.length c0_2, .string a0_3, .string a0_4, .int .i64 a0_5] 32 (0, 0)) (by (with_reducible repeat (first | refine Aj ?_ _ | refine Ak ?_ | refine Ai ?_ _)); exact BK375.out)) : gb398 ≠ gb375)); clear HO379; clear HO383; clear HO390; clear HO394; clear BK375; clear HB; have HO379 := n0_; have HO383 := n1_; have HO390 := n2_; have HO394 := n3_; have BK375 := n4_; have HB := n5_; have BK398 := n6_; have GW398 := n7_; have GE398 := n8_; have NB375_398 := n9_; have NB398_375 := n10_; clear n0_ n1_ n2_ n3_ n4_ n5_ n6_ n7_ n8_ n9_ n10_; clear hb hbox hg; obtain ⟨Ao42, co42, eo42⟩ := Kd.Iu HO390.out; subst eo42; have hnb43 := NB398_375.out; have hnc43 := NB375_398.out; have hcz44_0 : w41.cell? ⟨gb398, 0, none⟩ = some (.slice none 0 0) := (Ag BK398.out 0).trans rfl; have hcz44_1 : w41.cell? ⟨gb398, 1, none⟩ = some (.int .i64 0) := (Ag BK398.out 1).trans rfl; have hcz44_2 : w41.cell? ⟨gb398, 2, none⟩ = some (.slice none 0 0) := (Ag BK398.out 2).trans rfl; have hcz44_3 : w41.cell? ⟨gb398, 3, none⟩ = some (.string (⟨#[]⟩ : ByteArray)) := (Ag BK398.out 3).trans rfl; have hcz44_4 : w41.cell? ⟨gb398, 4, none⟩ = some (.string (⟨#[]⟩ : ByteArray)) := (Ag BK398.out 4).trans rfl; have hcz44_5 : w41.cell? ⟨gb398, 5, none⟩ = some (.int .i64 0) := (Ag BK398.out 5).trans rfl; have hfz44_0 := Af BK398.out 0; have hfz44_1 := Af BK398.out 1; have hfz44_2 := Af BK398.out 2; have hfz44_3 := Af BK398.out 3; have hfz44_4 := Af BK398.out 4; have hfz44_5 := Af BK398.out 5; obtain ⟨Ao45, co45, eo45⟩ := Kd.Iu HO394.out; subst eo45) | ((with_reducible refine Aw (f := 7) rfl ?_); refine Be (some 18) rfl rfl Tryd.func7 (by kernel_rfl) rfl #[.agg #[.slice Ao42 t388.length co42, .int .i64 t391, .slice Ao45 t392.length co45, .string t395, .string t396, .int .i64 t397]] rfl (by (try simp only [List.map_toArray, List.map_cons, List.map_nil]); first | done | rfl | (simp only [List.length_drop, List.length_take]; rfl)) ?_; (with_reducible refine (E8.calls k _ _ t388 t391 _ _ t392 t395 t396 t397 t399 _ ?side1 ?side2 ?side3 ?side4 ?side5 A10.out).mono ?_); (case side1 => refine (Kd.Hf (e := 59) (base := w.heap.size) (ok := fun k_ => ((some k_ ≠ (.slice Ao45 t392.length co45 : Value).ownBlock ∧ some k_ ≠ (.slice Ao36 t377.length co36 : Value).ownBlock) ∧ some k_ ≠ (.slice Ao37 t381.length co37 : Value).ownBlock)) (n := t388.length) (c := co42) ?_).2.2; exact (by (with_reducible repeat (first | apply Kd.Ey | apply Kd.Ew | apply Kd.Ez)); exact (Kd.Gy (Kd.Eo (p := ⟨gb398, 5, none⟩) (Kd.Eo (p := ⟨gb398, 4, none⟩) (Kd.Eo (p := ⟨gb398, 3, none⟩) (Kd.Eo (p := ⟨gb398, 2, none⟩) (Kd.Eo (p := ⟨gb398, 1, none⟩) (Kd.Eo (p := ⟨gb398, 0, none⟩) (Kd.G8 HO390.out BK398.out (by decide)) (fun _ hk => hk.2) (.slice Ao42 t388.length co42)) (fun _ hk => hk.2) (.int .i64 t391)) (fun _ hk => hk.2) (.slice Ao45 t392.length co45)) (fun _ hk => hk.2) (.string t395)) (fun _ hk => hk.2) (.string t396)) (fun _ hk => hk.2) (.int .i64 t397)) (fun _ h_ => h_.1)))); (case side2 => exact (Kd.Hf HO390.out).2.1); (case side3 => refine (Kd.Hf (e := 59) (base := w.heap.size) (ok := fun k_ => ((some k_ ≠ (.slice Ao42 t388.length co42 : Value).ownBlock ∧ some k_ ≠ (.slice Ao36 t377.length co36 : Value).ownBlock) ∧ some k_ ≠ (.slice Ao37 t381.length co37 : Value).ownBlock)) (n := t392.length) (c := co45) ?_).2.2; exact (by (with_reducible repeat (first | apply Kd.Ey | apply Kd.Ew | apply Kd.Ez)); exact (Kd.Gy (Kd.Eo (p := ⟨gb398, 5, none⟩) (Kd.Eo (p := ⟨gb398, 4, none⟩) (Kd.Eo (p := ⟨gb398, 3, none⟩) (Kd.Eo (p := ⟨gb398, 2, none⟩) (Kd.Eo (p := ⟨gb398, 1, none⟩) (Kd.Eo (p := ⟨gb398, 0, none⟩) (Kd.G8 HO394.out BK398.out (by decide)) (fun _ hk => hk.2) (.slice Ao42 t388.length co42)) (fun _ hk => hk.2) (.int .i64 t391)) (fun _ hk => hk.2) (.slice Ao45 t392.length co45)) (fun _ hk => hk.2) (.string t395)) (fun _ hk => hk.2) (.string t396)) (fun _ hk => hk.2) (.int .i64 t397)) (fun _ h_ => h_.1)))); (case side4 => exact (Kd.Hf HO394.out).2.1); (case side5 => exact Gf.below HGL.out (by repeat (first | (with_reducible first | exact HB.out | apply Ad | apply Aa | apply Ae | refine Ah ?_ GE375.out | refine Ah ?_ GE398.out) | exact HB.out))); rintro e w46 ⟨rfl, hb⟩; refine ⟨_, rfl, ?_⟩; have n0_ := Ac.mk (Kd.G9 (by (with_reducible repeat (first | apply Kd.Ey | apply Kd.Ew | apply Kd.Ez)); exact (Kd.Gy (Kd.Eo (p := ⟨gb398, 5, none⟩) (Kd.Eo (p := ⟨gb398, 4, none⟩) (Kd.Eo (p := ⟨gb398, 3, none⟩) (Kd.Eo (p := ⟨gb398, 2, none⟩) (Kd.Eo (p := ⟨gb398, 1, none⟩) (Kd.Eo (p := ⟨gb398, 0, none⟩) (Kd.G8 HO379.out BK398.out (by decide)) (fun _ hk => hk.2) (.slice Ao42 t388.length co42)) (fun _ hk => hk.2) (.int .i64 t391)) (fun _ hk => hk.2) (.slice Ao45 t392.length co45)) (fun _ hk => hk.2) (.string t395)) (fun _ hk => hk.2) (.string t396)) (fun _ hk => hk.2) (.int .i64 t397)) (fun _ h_ => h_.1))) hb); have n1_ := Ac.mk (Kd.G9 (by (with_reducible repeat (first | apply Kd.Ey | apply Kd.Ew | apply Kd.Ez)); exact (Kd.Gy (Kd.Eo (p := ⟨gb398, 5, none⟩) (Kd.Eo (p := ⟨gb398, 4, none⟩) (Kd.Eo (p := ⟨gb398, 3, none⟩) (Kd.Eo (p := ⟨gb398, 2, none⟩) (Kd.Eo (p := ⟨gb398, 1, none⟩) (Kd.Eo (p := ⟨gb398, 0, none⟩) (Kd.G8 HO383.out BK398.out (by decide)) (fun _ hk => hk.2) (.slice Ao42 t388.length co42)) (fun _ hk => hk.2) (.int .i64 t391)) (fun _ hk => hk.2) (.slice Ao45 t392.length co45)) (fun _ hk => hk.2) (.string t395)) (fun _ hk => hk.2) (.string t396)) (fun _ hk => hk.2) (.int .i64 t397)) (fun _ h_ => h_.1))) hb); have n2_ := Ac.mk (Kd.G9 (by (with_reducible repeat (first | apply Kd.Ey | apply Kd.Ew | apply Kd.Ez)); exact (Kd.Gy (Kd.Eo (p := ⟨gb398, 5, none⟩) (Kd.Eo (p := ⟨gb398, 4, none⟩) (Kd.Eo (p := ⟨gb398, 3, none⟩) (Kd.Eo (p := ⟨gb398, 2, none⟩) (Kd.Eo (p := ⟨gb398, 1, none⟩) (Kd.Eo (p := ⟨gb398, 0, none⟩) (Kd.G8 HO390.out BK398.out (by decide)) (fun _ hk => hk.2) (.slice Ao42 t388.length co42)) (fun _ hk => hk.2) (.int .i64 t391)) (fun _ hk => hk.2) (.slice Ao45 t392.length co45)) (fun _ hk => hk.2) (.string t395)) (fun _ hk => hk.2) (.string t396)) (fun _ hk => hk.2) (.int .i64 t397)) (fun _ h_ => h_.1))) hb); have n3_ := Ac.mk (Kd.G9 (by (with_reducible repeat (first | apply Kd.Ey | apply Kd.Ew | apply Kd.Ez)); exact (Kd.Gy (Kd.Eo (p := ⟨gb398, 5, none⟩) (Kd.Eo (p := ⟨gb398, 4, none⟩) (Kd.Eo (p := ⟨gb398, 3, none⟩) (Kd.Eo (p := ⟨gb398, 2, none⟩) (Kd.Eo (p := ⟨gb398, 1, none⟩) (Kd.Eo (p := ⟨gb398, 0, none⟩) (Kd.G8 HO394.out BK398.out (by decide)) (fun _ hk => hk.2) (.slice Ao42 t388.length co42)) (fun _ hk => hk.2) (.int .i64 t391)) (fun _ hk => hk.2) (.slice Ao45 t392.length co45)) (fun _ hk => hk.2) (.string t395)) (fun _ hk => hk.2) (.string t396)) (fun _ hk => hk.2) (.int .i64 t397)) (fun _ h_ => h_.1))) hb); have n4_ := Ac.mk (Az (g := gb375) (o := .cells #[.slice A0_0 l0_0.length c0_0, .int .i64 a0_1, .slice A0_2 l0_2.length c0_2, .string a0_3, .string a0_4, .int .i64 a0_5] 32 (0, 0)) (by (with_reducible repeat (first | refine Aj ?_ _ | refine Ak ?_ | refine Ai ?_ _)); refine Fa ?_ NB375_398.out _; (with_reducible repeat (first | refine Aj ?_ _ | refine Ak ?_ | refine Ai ?_ _)); refine Fa ?_ NB375_398.out _; (with_reducible repeat (first | refine Aj ?_ _ | refine Ak ?_ | refine Ai ?_ _)); refine Fa ?_ NB375_398.out _; (with_reducible repeat (first | refine Aj ?_ _ | refine Ak ?_ | refine Ai ?_ _)); refine Fa ?_ NB375_398.out _; (with_reducible repeat (first | refine Aj ?_ _ | refine Ak ?_ | refine Ai ?_ _)); refine Fa ?_ NB375_398.out _; (with_reducible repeat (first | refine Aj ?_ _ | refine Ak ?_ | refine Ai ?_ _)); refine Fa ?_ NB375_398.out _; (with_reducible repeat (first | refine Aj ?_ _ | refine Ak ?_ | refine Ai ?_ _)); exact BK375.out) hb); have n5_ := Ac.mk (Az (g := gb398) (o := .cells #[.slice Ao42 t388.length co42, .int .i64 t391, .slice Ao45 t392.length co45, .string t395, .string t396, .int .i64 t397] 41 (0, 0)) (by (with_reducible repeat (first | refine Aj ?_ _ | refine Ak ?_ | refine Ai ?_ _)); refine Ed (cs := #[.slice Ao42 t388.length co42, .int .i64 t391, .slice Ao45 t392.length co45, .string t395, .string t396, .int .i64 0]) ?_ 5 _ rfl; (with_reducible repeat (first | refine Aj ?_ _ | refine Ak ?_ | refine Ai ?_ _)); refine Ed (cs := #[.slice Ao42 t388.length co42, .int .i64 t391, .slice Ao45 t392.length co45, .string t395, .string (⟨#[]⟩ : ByteArray), .int .i64 0]) ?_ 4 _ rfl; (with_reducible repeat (first | refine Aj ?_ _ | refine Ak ?_ | refine Ai ?_ _)); refine Ed (cs := #[.slice Ao42 t388.length co42, .int .i64 t391, .slice Ao45 t392.length co45, .string (⟨#[]⟩ : ByteArray), .string (⟨#[]⟩ : ByteArray), .int .i64 0]) ?_ 3 _ rfl; (with_reducible repeat (first | refine Aj ?_ _ | refine Ak ?_ | refine Ai ?_ _)); refine Ed (cs := #[.slice Ao42 t388.length co42, .int .i64 t391, .slice none 0 0, .string (⟨#[]⟩ : ByteArray), .string (⟨#[]⟩ : ByteArray), .int .i64 0]) ?_ 2 _ rfl; (with_reducible repeat (first | refine Aj ?_ _ | refine Ak ?_ | refine Ai ?_ _)); refine Ed (cs := #[.slice Ao42 t388.length co42, .int .i64 0, .slice none 0 0, .string (⟨#[]⟩ : ByteArray), .string (⟨#[]⟩ : ByteArray), .int .i64 0]) ?_ 1 _ rfl; (with_reducible repeat (first | refine Aj ?_ _ | refine Ak ?_ | refine Ai ?_ _)); refine Ed (cs := #[.slice none 0 0, .int .i64 0, .slice none 0 0, .string (⟨#[]⟩ : ByteArray), .string (⟨#[]⟩ : ByteArray), .int .i64 0]) ?_ 0 _ rfl; (with_reducible repeat (first | refine Aj ?_ _ | refine Ak ?_ | refine Ai ?_ _)); exact BK398.out) hb); have n6_ := Ac.mk (Ap (by repeat (first | (with_reducible first | exact HB.out | apply Ad | apply Aa | apply Ae | refine Ah ?_ GE375.out | refine Ah ?_ GE398.out) | exact HB.out)) hb); clear HO379; clear HO383; clear HO390; clear HO394; clear BK375; clear BK398; clear HB; have HO379 := n0_; have HO383 := n1_; have HO390 := n2_; have HO394 := n3_; have BK375 := n4_; have BK398 := n5_; have HB := n6_; clear n0_ n1_ n2_ n3_ n4_ n5_ n6_; (try clear hb); (try clear hb2); (try clear hk); (try clear hi)))
        have n0_ := Ac.mk (Kd.Ez HO379.out)
        have n1_ := Ac.mk (Kd.Ez HO383.out)
        have n2_ := Ac.mk (Kd.Ez HO390.out)
        have n3_ := Ac.mk (Kd.Ez HO394.out)
        have n4_ := Ac.mk (Ak BK375.out)
        have n5_ := Ac.mk (Ak BK398.out)
        have n6_ := Ac.mk (Ae HB.out)
        clear HO379
        clear HO383
        clear HO390
        clear HO394
        clear BK375
        clear BK398
        clear HB
        have HO379 := n0_
        have HO383 := n1_
        have HO390 := n2_
        have HO394 := n3_
        have BK375 := n4_
        have BK398 := n5_
        have HB := n6_
        clear n0_ n1_ n2_ n3_ n4_ n5_ n6_
        refine start_ (n := 5) (S := fun w' => w'.cell? ⟨gb398, 0, none⟩ = some (.slice Ao42 t388.length co42) ∧ w'.cell? ⟨gb398, 1, none⟩ = some (.int .i64 t391) ∧ w'.cell? ⟨gb398, 2, none⟩ = some (.slice Ao45 t392.length co45) ∧ w'.cell? ⟨gb398, 3, none⟩ = some (.string t395) ∧ w'.cell? ⟨gb398, 4, none⟩ = some (.string t396) ∧ w'.cell? ⟨gb398, 5, none⟩ = some (.int .i64 t397) ∧ w'.cell? ⟨gb375, 0, none⟩ = some (.slice A0_0 l0_0.length c0_0) ∧ w'.cell? ⟨gb375, 1, none⟩ = some (.int .i64 a0_1) ∧ w'.cell? ⟨gb375, 2, none⟩ = some (.slice A0_2 l0_2.length c0_2) ∧ w'.cell? ⟨gb375, 3, none⟩ = some (.string a0_3) ∧ w'.cell? ⟨gb375, 4, none⟩ = some (.string a0_4) ∧ w'.cell? ⟨gb375, 5, none⟩ = some (.int .i64 a0_5)) (ds := []) #[false, false, false, false, false] (by kernel_rfl) rfl rfl ⟨(Ag BK398.out 0).trans rfl, (Ag BK398.out 1).trans rfl, (Ag BK398.out 2).trans rfl, (Ag BK398.out 3).trans rfl, (Ag BK398.out 4).trans rfl, (Ag BK398.out 5).trans rfl, (Ag BK375.out 0).trans rfl, (Ag BK375.out 1).trans rfl, (Ag BK375.out 2).trans rfl, (Ag BK375.out 3).trans rfl, (Ag BK375.out 4).trans rfl, (Ag BK375.out 5).trans rfl⟩ (fun hHeld => ?_)
        generalize w46.drew = w47 at HO379 HO383 HO390 HO394 BK375 BK398 HB hHeld ⊢
        refine Ib (i := 0) (N := some 22) (v := ?_) (a' := ?_) #[true, false, false, false, false] rfl rfl (by kernel_rfl) (fun _ _ _ h => h) (Or.inl ⟨by rfl, ?_⟩) hHeld ?_ ?_
        rotate_left
        · rintro w' ⟨s0, s1, s2, s3, s4, s5, s6, s7, s8, s9, s10, s11⟩
          go_simp
          with_reducible rfl
        rotate_left
        · simp only [Act.put, List.setIfInBounds_toArray, List.set_cons_zero, List.set_cons_succ, Dp, Dt]
          rfl
        refine Ib (i := 1) (N := some 23) (v := ?_) (a' := ?_) #[true, true, false, false, false] rfl rfl (by kernel_rfl) (fun _ _ _ h => h) (Or.inl ⟨by rfl, ?_⟩) hHeld ?_ ?_
        rotate_left
        · rintro w' ⟨s0, s1, s2, s3, s4, s5, s6, s7, s8, s9, s10, s11⟩
          go_simp
          with_reducible rfl
        rotate_left
        · simp only [Act.put, List.setIfInBounds_toArray, List.set_cons_zero, List.set_cons_succ, Dp, Dt]
          rfl
        refine one_ (i := 2) (N := some 24) #[true, true, true, false, false] rfl rfl (by kernel_rfl) (by decide) (fun K hK => ?_)
        refine goes_ Tryd.func6 (by kernel_rfl) rfl #[.agg #[.slice A0_0 l0_0.length c0_0, .int .i64 a0_1, .slice A0_2 l0_2.length c0_2, .string a0_3, .string a0_4, .int .i64 a0_5]] (by rfl) rfl rfl (by (try simp only [List.map_toArray, List.map_cons, List.map_nil]); first | done | rfl | (simp only [List.length_drop, List.length_take]; rfl)) ?_
        with_reducible refine (En.calls k _ _ l0_0 a0_1 _ _ l0_2 a0_3 a0_4 a0_5 t400 t403 t404 t407 t408 t409 _ ?side1 ?side2 ?side3 ?side4 A28.out).mono ?_
        (case side1 => repeat (first | exact (Kd.C9 HR0_0.out HB.out) | (with_reducible refine Kd.Bl ?_ _) | (with_reducible refine Kd.Bj ?_ _) | (with_reducible refine Kd.Ce ?_)))
        (case side2 => exact HC0_0.out)
        (case side3 => repeat (first | exact (Kd.C9 HR0_2.out HB.out) | (with_reducible refine Kd.Bl ?_ _) | (with_reducible refine Kd.Bj ?_ _) | (with_reducible refine Kd.Ce ?_)))
        (case side4 => exact HC0_2.out)
        rintro e w48 ⟨v401, v405, rfl, ho0, ho1, hb⟩
        refine ⟨_, rfl, ?_⟩
        have n0_ := Ac.mk (Kd.Gy (Kd.S_told (Kd.S_told (Kd.S_old (by (with_reducible repeat (first | apply Kd.Ey | apply Kd.Ew | apply Kd.Ez)); exact HO379.out) hb) (Kd.I8 ho0)) (Kd.I8 ho1)) (fun _ h_ => h_.1))
        have n1_ := Ac.mk (Kd.Gy (Kd.S_told (Kd.S_told (Kd.S_old (by (with_reducible repeat (first | apply Kd.Ey | apply Kd.Ew | apply Kd.Ez)); exact HO383.out) hb) (Kd.I8 ho0)) (Kd.I8 ho1)) (fun _ h_ => h_.1))
        have n2_ := Ac.mk (Kd.Gy (Kd.S_told (Kd.S_told (Kd.S_old (by (with_reducible repeat (first | apply Kd.Ey | apply Kd.Ew | apply Kd.Ez)); exact HO390.out) hb) (Kd.I8 ho0)) (Kd.I8 ho1)) (fun _ h_ => h_.1))
        have n3_ := Ac.mk (Kd.Gy (Kd.S_told (Kd.S_told (Kd.S_old (by (with_reducible repeat (first | apply Kd.Ey | apply Kd.Ew | apply Kd.Ez)); exact HO394.out) hb) (Kd.I8 ho0)) (Kd.I8 ho1)) (fun _ h_ => h_.1))
        have n4_ := Ac.mk (Kd.Ik (Kd.I7 (Kd.I7 (Kd.I7 (Kd.I7 ho0 (Kd.S_lt (by (with_reducible repeat (first | apply Kd.Ey | apply Kd.Ew | apply Kd.Ez)); exact HO379.out))) (Kd.S_lt (by (with_reducible repeat (first | apply Kd.Ey | apply Kd.Ew | apply Kd.Ez)); exact HO383.out))) (Kd.S_lt (by (with_reducible repeat (first | apply Kd.Ey | apply Kd.Ew | apply Kd.Ez)); exact HO390.out))) (Kd.S_lt (by (with_reducible repeat (first | apply Kd.Ey | apply Kd.Ew | apply Kd.Ez)); exact HO394.out))) (Am (by repeat (first | (with_reducible first | exact HB.out | apply Ad | apply Aa | apply Ae | refine Ah ?_ GE375.out | refine Ah ?_ GE398.out) | exact HB.out))))
        have n5_ := Ac.mk (Kd.Ik (Kd.I7 (Kd.I7 (Kd.I7 (Kd.I7 ho1 (Kd.S_lt (by (with_reducible repeat (first | apply Kd.Ey | apply Kd.Ew | apply Kd.Ez)); exact HO379.out))) (Kd.S_lt (by (with_reducible repeat (first | apply Kd.Ey | apply Kd.Ew | apply Kd.Ez)); exact HO383.out))) (Kd.S_lt (by (with_reducible repeat (first | apply Kd.Ey | apply Kd.Ew | apply Kd.Ez)); exact HO390.out))) (Kd.S_lt (by (with_reducible repeat (first | apply Kd.Ey | apply Kd.Ew | apply Kd.Ez)); exact HO394.out))) (Am (by repeat (first | (with_reducible first | exact HB.out | apply Ad | apply Aa | apply Ae | refine Ah ?_ GE375.out | refine Ah ?_ GE398.out) | exact HB.out))))
        have n6_ := Ac.mk (Az (g := gb375) (o := .cells #[.slice A0_0 l0_0.length c0_0, .int .i64 a0_1, .slice A0_2 l0_2.length c0_2, .string a0_3, .string a0_4, .int .i64 a0_5] 32 (0, 0)) (by (with_reducible repeat (first | refine Aj ?_ _ | refine Ak ?_ | refine Ai ?_ _)); exact BK375.out) hb)
        have n7_ := Ac.mk (Az (g := gb398) (o := .cells #[.slice Ao42 t388.length co42, .int .i64 t391, .slice Ao45 t392.length co45, .string t395, .string t396, .int .i64 t397] 41 (0, 0)) (by (with_reducible repeat (first | refine Aj ?_ _ | refine Ak ?_ | refine Ai ?_ _)); exact BK398.out) hb)
        have n8_ := Ac.mk (Ap (by repeat (first | (with_reducible first | exact HB.out | apply Ad | apply Aa | apply Ae | refine Ah ?_ GE375.out | refine Ah ?_ GE398.out) | exact HB.out)) hb)
        clear HO379
        clear HO383
        clear HO390
        clear HO394
        clear BK375
        clear BK398
        clear HB
        have HO379 := n0_
        have HO383 := n1_
        have HO390 := n2_
        have HO394 := n3_
        have HO402 := n4_
        have HO406 := n5_
        have BK375 := n6_
        have BK398 := n7_
        have HB := n8_
        clear n0_ n1_ n2_ n3_ n4_ n5_ n6_ n7_ n8_
        (try clear hb)
        (try clear hb2)
        (try clear hk)
        (try clear hi)
        (try clear ho0)
        (try clear ho1)
        obtain ⟨Ao49, co49, eo49⟩ := Kd.Iu HO402.out
        (first | subst eo49 | (injection eo49 with f1_ f2_ f3_; have f4_ := f1_.symm; have f5_ := f3_.symm; clear f1_ f2_ f3_; subst f4_; subst f5_))
        obtain ⟨Ao50, co50, eo50⟩ := Kd.Iu HO406.out
        (first | subst eo50 | (injection eo50 with f1_ f2_ f3_; have f4_ := f1_.symm; have f5_ := f3_.symm; clear f1_ f2_ f3_; subst f4_; subst f5_))
        refine hK.out _ _ ⟨(Ag BK398.out 0).trans rfl, (Ag BK398.out 1).trans rfl, (Ag BK398.out 2).trans rfl, (Ag BK398.out 3).trans rfl, (Ag BK398.out 4).trans rfl, (Ag BK398.out 5).trans rfl, (Ag BK375.out 0).trans rfl, (Ag BK375.out 1).trans rfl, (Ag BK375.out 2).trans rfl, (Ag BK375.out 3).trans rfl, (Ag BK375.out 4).trans rfl, (Ag BK375.out 5).trans rfl⟩ (fun hHeld => ?_)
        clear hK K
        refine norm_ (a' := ?_) ?_ ?_
        rotate_left
        · show Act.put _ (some 24) _ = _
          simp only [Act.put, List.setIfInBounds_toArray, List.set_cons_zero, List.set_cons_succ, Dp, Dt]
          rfl
        refine one_ (i := 3) (N := some 25) #[true, true, true, true, false] rfl rfl (by kernel_rfl) (by decide) (fun K hK => ?_)
        refine goes_ Tryd.func8 (by kernel_rfl) rfl #[.agg #[.slice Ao42 t388.length co42, .int .i64 t391, .slice Ao45 t392.length co45, .string t395, .string t396, .int .i64 t397], .agg #[.slice Ao49 t400.length co49, .int .i64 t403, .slice Ao50 t404.length co50, .string t407, .string t408, .int .i64 t409]] (by rfl) rfl rfl (by (try simp only [List.map_toArray, List.map_cons, List.map_nil]); first | done | rfl | (simp only [List.length_drop, List.length_take]; rfl)) ?_
        with_reducible refine (Fz.calls k _ _ t388 t391 _ _ t392 t395 t396 t397 _ _ t400 t403 _ _ t404 t407 t408 t409 true _ ?side1 ?side2 ?side3 ?side4 ?side5 ?side6 ?side7 ?side8 A29.out).mono ?_
        (case side1 => repeat (first | exact (Kd.Hf HO390.out).2.2 | (with_reducible refine Kd.Bl ?_ _) | (with_reducible refine Kd.Bj ?_ _) | (with_reducible refine Kd.Ce ?_)))
        (case side2 => exact (Kd.Hf HO390.out).2.1)
        (case side3 => repeat (first | exact (Kd.Hf HO394.out).2.2 | (with_reducible refine Kd.Bl ?_ _) | (with_reducible refine Kd.Bj ?_ _) | (with_reducible refine Kd.Ce ?_)))
        (case side4 => exact (Kd.Hf HO394.out).2.1)
        (case side5 => repeat (first | exact (Kd.Hf HO402.out).2.2 | (with_reducible refine Kd.Bl ?_ _) | (with_reducible refine Kd.Bj ?_ _) | (with_reducible refine Kd.Ce ?_)))
        (case side6 => exact (Kd.Hf HO402.out).2.1)
        (case side7 => repeat (first | exact (Kd.Hf HO406.out).2.2 | (with_reducible refine Kd.Bl ?_ _) | (with_reducible refine Kd.Bj ?_ _) | (with_reducible refine Kd.Ce ?_)))
        (case side8 => exact (Kd.Hf HO406.out).2.1)
        rintro e w51 ⟨rfl, hb⟩
        refine ⟨_, rfl, ?_⟩
        have n0_ := Ac.mk (Kd.G9 (by (with_reducible repeat (first | apply Kd.Ey | apply Kd.Ew | apply Kd.Ez)); exact HO379.out) hb)
        have n1_ := Ac.mk (Kd.G9 (by (with_reducible repeat (first | apply Kd.Ey | apply Kd.Ew | apply Kd.Ez)); exact HO383.out) hb)
        have n2_ := Ac.mk (Kd.G9 (by (with_reducible repeat (first | apply Kd.Ey | apply Kd.Ew | apply Kd.Ez)); exact HO390.out) hb)
        have n3_ := Ac.mk (Kd.G9 (by (with_reducible repeat (first | apply Kd.Ey | apply Kd.Ew | apply Kd.Ez)); exact HO394.out) hb)
        have n4_ := Ac.mk (Kd.G9 (by (with_reducible repeat (first | apply Kd.Ey | apply Kd.Ew | apply Kd.Ez)); exact HO402.out) hb)
        have n5_ := Ac.mk (Kd.G9 (by (with_reducible repeat (first | apply Kd.Ey | apply Kd.Ew | apply Kd.Ez)); exact HO406.out) hb)
        have n6_ := Ac.mk (Az (g := gb375) (o := .cells #[.slice A0_0 l0_0.length c0_0, .int .i64 a0_1, .slice A0_2 l0_2.length c0_2, .string a0_3, .string a0_4, .int .i64 a0_5] 32 (0, 0)) (by (with_reducible repeat (first | refine Aj ?_ _ | refine Ak ?_ | refine Ai ?_ _)); exact BK375.out) hb)
        have n7_ := Ac.mk (Az (g := gb398) (o := .cells #[.slice Ao42 t388.length co42, .int .i64 t391, .slice Ao45 t392.length co45, .string t395, .string t396, .int .i64 t397] 41 (0, 0)) (by (with_reducible repeat (first | refine Aj ?_ _ | refine Ak ?_ | refine Ai ?_ _)); exact BK398.out) hb)
        have n8_ := Ac.mk (Ap (by repeat (first | (with_reducible first | exact HB.out | apply Ad | apply Aa | apply Ae | refine Ah ?_ GE375.out | refine Ah ?_ GE398.out) | exact HB.out)) hb)
        clear HO379
        clear HO383
        clear HO390
        clear HO394
        clear HO402
        clear HO406
        clear BK375
        clear BK398
        clear HB
        have HO379 := n0_
        have HO383 := n1_
        have HO390 := n2_
        have HO394 := n3_
        have HO402 := n4_
        have HO406 := n5_
        have BK375 := n6_
        have BK398 := n7_
        have HB := n8_
        clear n0_ n1_ n2_ n3_ n4_ n5_ n6_ n7_ n8_
        (try clear hb)
        (try clear hb2)
        (try clear hk)
        (try clear hi)
        refine hK.out _ _ ⟨(Ag BK398.out 0).trans rfl, (Ag BK398.out 1).trans rfl, (Ag BK398.out 2).trans rfl, (Ag BK398.out 3).trans rfl, (Ag BK398.out 4).trans rfl, (Ag BK398.out 5).trans rfl, (Ag BK375.out 0).trans rfl, (Ag BK375.out 1).trans rfl, (Ag BK375.out 2).trans rfl, (Ag BK375.out 3).trans rfl, (Ag BK375.out 4).trans rfl, (Ag BK375.out 5).trans rfl⟩ (fun hHeld => ?_)
        clear hK K
        refine norm_ (a' := ?_) ?_ ?_
        rotate_left
        · show Act.put _ (some 25) _ = _
          simp only [Act.put, List.setIfInBounds_toArray, List.set_cons_zero, List.set_cons_succ, Dp, Dt]
          rfl
        refine Eu (i := 4) (N := some 26) (v := ?_) (a' := ?_) #[true, true, true, true, true] rfl rfl (by kernel_rfl) (fun _ _ _ h => h) (Or.inl ⟨by rfl, ?_⟩) ?_ ?_
        rotate_left
        · intro w'
          go_simp
          with_reducible rfl
        rotate_left
        · simp only [Act.put, List.setIfInBounds_toArray, List.set_cons_zero, List.set_cons_succ, Dp, Dt]
          rfl
        refine done_ (by kernel_rfl) ?_
        try go_wp2
        go_ret
        exact ⟨by first | rfl | (simp [Aq, Au] <;> rfl) | (simp [*, Aq, Au] <;> rfl), by repeat (first | (with_reducible first | exact HB.out | apply Ad | apply Aa | apply Ae | refine Ah ?_ GE375.out | refine Ah ?_ GE398.out) | exact HB.out)⟩
      · replace c30 := Bool.eq_false_iff.mpr c30
        subst c30
        have H1 : (some false) = some r := by rw [if_neg (show ¬ (false = true) by decide)] at H; exact H
        clear H
        have H := H1
        clear H1
        exact absurd (Option.some.inj H) (by rw [HR_.out]; decide)
end Go.Proofs.YtcnmngiaebgjkaaDoor.X

namespace Go.Proofs.YtcnmngiaebgjkaaDoorZ
open Go.ChangeShapes Go.WideShapes Go.ChangeAt Go.RowKit
open Go.Proofs.YtcnmngiaebgjkaaDoorW.PrintWords
section
variable {P : Program}
/-- A reading of type t is a value of kind d, and the value fits. -/
def Opens (P : Program) {α : Type} (d : Kd α) (t : TypeId) (fits : α → Prop) : Prop :=
  ∀ {H : Type} {enc : TypeId × Value → H} {w : World} {base : Nat} {spare : Nat → Bool} {held : Bool} {fuel : Nat} {cs : List Value} {x : DataW H × List MemPlace},
    DataW.trod enc P w base spare held fuel t cs = some x → (∀ n ∈ x.1.weights P t, n ≤ reachBytes) → ∃ v, d.K w v cs ∧ fits v
theorem opens_int {k : IntKind} {t : TypeId} (ht : P.underlying t = some (.int k)) : Opens P (Kd.int k) t (fun n => (Lit.int k n).wf = true) := by
  intro H enc w base spare held fuel cs x h _
  obtain ⟨n, rfl, _, hw⟩ := DataW.trod_int ht h
  exact ⟨n, rfl, hw⟩
theorem opens_string {t : TypeId} (ht : P.underlying t = some .string) : Opens P Kd.string t (fun s => s.size ≤ 140737488351232) := by
  intro H enc w base spare held fuel cs x h hw
  obtain ⟨s, rfl, rfl, _⟩ := DataW.trod_string ht h
  refine ⟨s, rfl, ?_⟩
  have := hw s.data.toList.length (by simp [DataW.weights])
  rw [Array.length_toList] at this
  exact this
theorem weightsAll_mem {H : Type} {e : TypeId} {d : DataW H} {n : Nat} : ∀ {l : List (DataW H)}, d ∈ l → n ∈ d.weights P e → n ∈ DataW.weightsAll P e l
  | [], h, _ => by cases h
  | x :: r, h, hn => by
    simp only [DataW.weightsAll, List.mem_append]
    rcases List.mem_cons.1 h with rfl | h
    · exact .inl hn
    · exact .inr (weightsAll_mem h hn)
theorem weightsEach_mem {H : Type} {n : Nat} : ∀ {ts : List TypeId} {l : List (DataW H)} {i : Nat} {t : TypeId} {d : DataW H}, ts[i]? = some t → l[i]? = some d → n ∈ d.weights P t → n ∈ DataW.weightsEach P ts l
  | [], l, i, t, d, h, _, _ => by simp at h
  | t :: ts, [], i, _, _, _, h, _ => by simp at h
  | t :: ts, d :: l, 0, _, _, h, k, hn => by
    simp at h k; subst h k
    simp only [DataW.weightsEach, List.mem_append]; exact .inl hn
  | t :: ts, d :: l, i + 1, _, _, h, k, hn => by
    simp at h k
    simp only [DataW.weightsEach, List.mem_append]; exact .inr (weightsEach_mem h k hn)
theorem opens_slice {α : Type} (z : α) {d : Kd α} {t e : TypeId} {fits : α → Prop} (ht : P.underlying t = some (.slice e)) (hsz : P.cellsOf e = d.sz) (he : Opens P d e fits) {B : Nat} (hB : P.bytesOf e = B) :
    Opens P (Kd.slice e d) t (fun l => l.length * B ≤ 140737488351232 ∧ l.length ≤ 9223372036854775807 ∧ ∀ x ∈ l, fits x) := by
  intro H enc w base spare held fuel cs x h hw
  rcases Deep.open_slice ht h with ⟨rfl, rfl⟩ | ⟨a, len, cap, m, n, D, Pl, rfl, hb, hl, hm, hmm, rfl, hc⟩
  · exact ⟨[], ⟨none, 0, rfl, Nat.le_refl _, Kd.C_nil d w⟩, by simp, by simp, fun x hx => by cases hx⟩
  · have hlm : len ≤ m := by rw [hmm]; split <;> omega
    have hbnd : len * B ≤ 140737488351232 := by
      have := hw ((((List.range len).map D).length + ((List.range (m - len)).map fun j => D (len + j)).length) * P.bytesOf e) (by simp [DataW.weights, ht])
      simp only [List.length_map, List.length_range, hB] at this
      have h2 : len * B ≤ (len + (m - len)) * B := Nat.mul_le_mul_right _ (by omega)
      exact Nat.le_trans h2 this
    have hel : ∀ i, i < len → ∃ v : α, (∃ c, c.length = d.sz ∧ d.K w v c ∧ ∀ j u, c[j]? = some u → w.cell? (a.add (i * d.sz + j)) = some u) ∧ fits v := by
      intro i hi
      obtain ⟨c, h1, h2⟩ := hc i (by omega)
      obtain ⟨v, hv, hf⟩ := he h2 (fun k hk => hw k (by
        simp only [DataW.weights, ht, List.mem_cons, List.mem_append]
        exact .inr (.inl (weightsAll_mem (d := D i) (List.mem_map.2 ⟨i, List.mem_range.2 hi, rfl⟩) hk))))
      rw [hsz] at h1
      obtain ⟨_, hlen, hcell⟩ := World.cells?_some h1
      refine ⟨v, ⟨c, hlen, hv, fun j u hj => ?_⟩, hf⟩
      have hjl : j < d.sz := by rw [← hlen]; exact (List.getElem?_eq_some_iff.1 hj).1
      rw [← Deep.add_add, hcell j hjl]
      exact hj
    haveI : Inhabited α := ⟨z⟩
    obtain ⟨f, hf⟩ := Deep.choose_lt hel
    refine ⟨(List.range len).map f, ⟨some a, cap, by simp, by simpa using hl, ⟨by simp, ?_, fun _ => ⟨a, rfl, ?_⟩⟩⟩, by simpa using hbnd, by simp; unfold maxLen at hm; omega, ?_⟩
    · simp; unfold maxLen at hm; omega
    · intro j p hj
      have hjl : j < len := by
        have := (List.getElem?_eq_some_iff.1 hj).1
        simpa using this
      rw [List.getElem?_map, List.getElem?_range hjl] at hj
      simp only [Option.map_some, Option.some.injEq] at hj
      subst hj
      exact (hf j hjl).1
    · intro x hx
      obtain ⟨j, hj, rfl⟩ := List.mem_map.1 hx
      exact (hf j (List.mem_range.1 hj)).2
/-- Fields from offset o on to the struct's end L, as a value of kind d. -/
def OpensF (P : Program) {α : Type} (d : Kd α) (fs : List Field) (o L : Nat) (fits : α → Prop) : Prop :=
  ∀ {H : Type} {enc : TypeId × Value → H} {w : World} {base : Nat} {spare : Nat → Bool} {held : Bool} {fuel : Nat} {cs : List Value} {xs : List (DataW H × List MemPlace)},
    cs.length = L → xs.length = fs.length → (∀ (i : Nat) (f : Field), fs[i]? = some f → DataW.trod enc P w base spare held fuel f.type ((cs.drop f.offset).take (P.cellsOf f.type)) = xs[i]?) →
    (∀ n ∈ DataW.weightsEach P (fs.map (·.type)) (xs.map (·.1)), n ≤ reachBytes) → ∃ v, d.K w v (cs.drop o) ∧ fits v
theorem Jn {α : Type} {d : Kd α} {f : Field} {o L : Nat} {fits : α → Prop} (t : TypeId) (hft : f.type = t) (ho : f.offset = o) (hL : o + P.cellsOf t = L) (h : Opens P d t fits) : OpensF P d [f] o L fits := by
  intro H enc w base spare held fuel cs xs hlen hxs hf hw
  match xs, hxs with
  | [x], _ =>
    have h0 := hf 0 f rfl
    rw [hft, ho, List.take_of_length_le (by rw [List.length_drop]; omega)] at h0
    exact h h0 (fun n hn => hw n (by rw [hft.symm] at hn; simp [DataW.weightsEach]; exact hn))
theorem Ji {α β : Type} {d : Kd α} {d' : Kd β} {f : Field} {rest : List Field} {o o' L : Nat} {fits : α → Prop} {fits' : β → Prop} (t : TypeId) (hft : f.type = t) (ho : f.offset = o) (hn : o + P.cellsOf t = o') (h : Opens P d t fits) (hr : OpensF P d' rest o' L fits') :
    OpensF P (Kd.pair d d') (f :: rest) o L (fun p => fits p.1 ∧ fits' p.2) := by
  intro H enc w base spare held fuel cs xs hlen hxs hf hw
  match xs, hxs with
  | x :: xs, hxs =>
    have h0 := hf 0 f rfl
    rw [hft, ho] at h0
    obtain ⟨v, hv, fv⟩ := h h0 (fun n hn => hw n (by rw [hft.symm] at hn; simp [DataW.weightsEach]; exact .inl hn))
    obtain ⟨v', hv', fv'⟩ := hr (cs := cs) (xs := xs) hlen (by simpa using hxs) (fun i g hg => by simpa using hf (i + 1) g (by simpa using hg)) (fun n hn => hw n (by simp only [List.map_cons, DataW.weightsEach, List.mem_append]; exact .inr hn))
    exact ⟨(v, v'), ⟨(cs.drop o).take (P.cellsOf t), cs.drop o', by rw [← hn, ← List.drop_drop]; exact (List.take_append_drop _ _).symm, hv, hv'⟩, fv, fv'⟩
theorem Jb {α β : Type} {d : Kd α} {t : TypeId} {fs : Array Field} {L : Nat} {fits : α → Prop} {fits' : β → Prop} (ht : P.underlying t = some (.struct fs)) (hL : P.cellsOf t = L) (h : OpensF P d fs.toList 0 L fits) (g : β → α) (inv : α → β) (hinv : ∀ a, g (inv a) = a) (hf : ∀ a, fits a → fits' (inv a)) :
    Opens P (Kd.iso d g) t fits' := by
  intro H enc w base spare held fuel cs x hx hw
  obtain ⟨xs, n, rfl, rfl, hl, hlen, hff⟩ := DataW.trod_struct ht hx
  obtain ⟨v, hv, fv⟩ := h (cs := cs) (xs := xs) (by rw [hl, hL]) (by simpa using hlen) (fun i f hi => hff i f (by simpa using hi)) (fun k hk => hw k (by simp only [DataW.weights, ht]; exact hk))
  refine ⟨inv v, ?_, hf v fv⟩
  show d.K w (g (inv v)) cs
  rw [hinv]
  simpa using hv
/-- A parameter's weights are among all. -/
theorem weights_param {H : Type} {ts : List TypeId} {ds : List (DataW H)} {j : Nat} {t : TypeId} {d : DataW H} (hsz : (DataW.weightsEach P ts ds).all (· ≤ reachBytes) = true) (ht : ts[j]? = some t) (hd : ds[j]? = some d) : ∀ n ∈ d.weights P t, n ≤ reachBytes := fun n hn => by
  have := List.all_eq_true.1 hsz n (weightsEach_mem ht hd hn)
  simpa using this
end
end Go.Proofs.YtcnmngiaebgjkaaDoorZ

namespace Go.Proofs.YtcnmngiaebgjkaaDoor.X
open Go.RowKit Go.Proofs.YtcnmngiaebgjkaaDoorW.PrintWords Go.Proofs.YtcnmngiaebgjkaaDoorW.PrintLast Go.Proofs.YtcnmngiaebgjkaaDoorW.PrintMore
open Go.Proofs.YtcnmngiaebgjkaaDoorZ
namespace OFnExactIsValidConsole
def fitsT24 (x : S24) : Prop := (x.f0.length * 24 ≤ 140737488351232 ∧ x.f0.length ≤ 9223372036854775807 ∧ ∀ y4 ∈ x.f0, (y4.length * 8 ≤ 140737488351232 ∧ y4.length ≤ 9223372036854775807 ∧ ∀ y2 ∈ y4, (Lit.int .i64 y2).wf = true))
theorem opensT24 : Opens Tryd.prog k24 24 fitsT24 :=
  Jb (L := 1) Tryd.underlying24 (by kernel_rfl) (Jn 22 rfl rfl (by kernel_rfl) (opens_slice [] Tryd.underlying22 (by kernel_rfl) (opens_slice 0 Tryd.underlying59 (by kernel_rfl) (opens_int Tryd.underlying3) (by kernel_rfl)) (by kernel_rfl))) (fun x : S24 => x.f0) (fun p => ⟨p⟩) (fun _ => rfl) (fun _ h => h)
def fitsT26 (x : S26) : Prop := (Lit.int .i64 x.f0).wf = true ∧ (x.f1.length * 24 ≤ 140737488351232 ∧ x.f1.length ≤ 9223372036854775807 ∧ ∀ y4 ∈ x.f1, (y4.length * 8 ≤ 140737488351232 ∧ y4.length ≤ 9223372036854775807 ∧ ∀ y2 ∈ y4, (Lit.int .i64 y2).wf = true))
theorem opensT26 : Opens Tryd.prog k26 26 fitsT26 :=
  Jb (L := 2) Tryd.underlying26 (by kernel_rfl) (Ji (o' := 1) 3 rfl rfl (by kernel_rfl) (opens_int Tryd.underlying3) (Jn 22 rfl rfl (by kernel_rfl) (opens_slice [] Tryd.underlying22 (by kernel_rfl) (opens_slice 0 Tryd.underlying59 (by kernel_rfl) (opens_int Tryd.underlying3) (by kernel_rfl)) (by kernel_rfl)))) (fun x : S26 => (x.f0, x.f1)) (fun p => ⟨p.1, p.2⟩) (fun _ => rfl) (fun _ h => h)
def fitsT28 (x : S28) : Prop := fitsT24 x.f0 ∧ fitsT26 x.f1
theorem opensT28 : Opens Tryd.prog k28 28 fitsT28 :=
  Jb (L := 3) Tryd.underlying28 (by kernel_rfl) (Ji (o' := 1) 24 rfl rfl (by kernel_rfl) opensT24 (Jn 26 rfl rfl (by kernel_rfl) opensT26)) (fun x : S28 => (x.f0, x.f1)) (fun p => ⟨p.1, p.2⟩) (fun _ => rfl) (fun _ h => h)
def fitsT30 (x : S30) : Prop := x.f0.size ≤ 140737488351232 ∧ x.f1.size ≤ 140737488351232 ∧ (Lit.int .i64 x.f2).wf = true
theorem opensT30 : Opens Tryd.prog k30 30 fitsT30 :=
  Jb (L := 3) Tryd.underlying30 (by kernel_rfl) (Ji (o' := 1) 9 rfl rfl (by kernel_rfl) (opens_string Tryd.underlying9) (Ji (o' := 2) 9 rfl rfl (by kernel_rfl) (opens_string Tryd.underlying9) (Jn 3 rfl rfl (by kernel_rfl) (opens_int Tryd.underlying3)))) (fun x : S30 => (x.f0, x.f1, x.f2)) (fun p => ⟨p.1, p.2.1, p.2.2⟩) (fun _ => rfl) (fun _ h => h)
def fitsT32 (x : S32) : Prop := fitsT28 x.f0 ∧ fitsT30 x.f1
theorem opensT32 : Opens Tryd.prog k32 32 fitsT32 :=
  Jb (L := 6) Tryd.underlying32 (by kernel_rfl) (Ji (o' := 3) 28 rfl rfl (by kernel_rfl) opensT28 (Jn 30 rfl rfl (by kernel_rfl) opensT30)) (fun x : S32 => (x.f0, x.f1)) (fun p => ⟨p.1, p.2⟩) (fun _ => rfl) (fun _ h => h)
def Pure : Prop := ∀ (x0 : S32), fitsT32 x0 → ∃ k, Fp.f k x0.f0.f0.f0 x0.f0.f1.f0 x0.f0.f1.f1 x0.f1.f0 x0.f1.f1 x0.f1.f2 = some true
end OFnExactIsValidConsole
end Go.Proofs.YtcnmngiaebgjkaaDoor.X

namespace Go.Proofs.YtcnmngiaebgjkaaDoorL
open Go.RowKit Go.Proofs.YtcnmngiaebgjkaaDoorW.PrintWords
theorem ev_eq {α : Type} {g : Nat → Option α} {r : α} (h : ∀ k, g k = some r) : Ev g r := ⟨0, fun k _ => h k⟩
theorem ev_rounds {α : Type} {g : Nat → Option α} {r : α} (h : Ev g r) : ∃ k, g k = some r := h.rounds
theorem Gu {x : Int} (h0 : -9223372036854775808 ≤ x) (h1 : x ≤ 9223372036854775807) : wrap64 x = x := by unfold wrap64; omega
theorem wrap_succ {n : Nat} (h : n < 9223372036854775807) : wrap64 ((n : Int) + 1) = ((n + 1 : Nat) : Int) := by rw [Gu (by omega) (by omega)]; rfl
theorem rd_at (l : List Int) (n : Nat) (h : n < l.length) : rd l (n : Int) = l[n] := by simp [rd, List.getD_eq_getElem?_getD, List.getElem?_eq_getElem h]
/-- A list that is filled from the front. -/
def fill {α β : Type} (f : α → β) (z : β) (l : List α) (n : Nat) : List β := (l.take n).map f ++ List.replicate (l.length - n) z
theorem fill_zero {α β : Type} (f : α → β) (z : β) (l : List α) : fill f z l 0 = List.replicate l.length z := by simp [fill]
theorem fill_length {α β : Type} (f : α → β) (z : β) (l : List α) (n : Nat) (h : n ≤ l.length) : (fill f z l n).length = l.length := by simp only [fill, List.length_append, List.length_map, List.length_take, List.length_replicate]; omega
theorem fill_set {α β : Type} (f : α → β) (z : β) (l : List α) (n : Nat) (h : n < l.length) : (fill f z l n).set n (f l[n]) = fill f z l (n + 1) := by
  have e : l.length - n = (l.length - (n + 1)) + 1 := by omega
  have ht : l.take (n + 1) = l.take n ++ [l[n]] := by rw [List.take_succ_eq_append_getElem h]
  unfold fill
  rw [e, List.replicate_succ, ht, List.set_append_right _ _ (by simp; omega)]
  have : n - ((l.take n).map f).length = 0 := by simp; omega
  rw [this, List.map_append, List.append_assoc]
  rfl
theorem fill_all {α β : Type} (f : α → β) (z : β) (l : List α) : fill f z l l.length = l.map f := by simp [fill]
end Go.Proofs.YtcnmngiaebgjkaaDoorL

namespace Go.Proofs.YtcnmngiaebgjkaaDoor.X
open Go.RowKit Go.Proofs.YtcnmngiaebgjkaaDoorW.PrintWords Go.Proofs.YtcnmngiaebgjkaaDoorL
theorem eqIntS_ev (l : List Int) (h : l.length ≤ 4611686018427387904) : Ev (fun k => Eg.f k l l) true := by
  have key : ∀ (d n : Nat), n + d = l.length → Ev (fun k => Eg.l0 k l l n) true := by
    intro d
    induction d with
    | zero => intro n hn; exact Ev.step (f := fun _ => some _) (fun k => by simp only [Eg.l0]; rw [if_neg (by omega)]) (Ev.now _)
    | succ d ih =>
      intro n hn
      refine Ev.step (f := fun k => Eg.l0 k l l ((n + 1 : Nat) : Int)) (fun k => ?_) (ih (n + 1) (by omega))
      simp only [Eg.l0]
      rw [if_pos (by omega), if_pos (by omega), if_pos (by omega), wrap_succ (by omega)]
      simp
  exact Ev.congr (f := fun k => Eg.l0 k l l ((0 : Nat) : Int)) (fun k => by unfold Eg.f; rw [if_pos rfl]; rfl) (key l.length 0 (by omega))
end Go.Proofs.YtcnmngiaebgjkaaDoor.X

namespace Go.Proofs.YtcnmngiaebgjkaaDoor.X
open Go.RowKit Go.Proofs.YtcnmngiaebgjkaaDoorW.PrintWords Go.Proofs.YtcnmngiaebgjkaaDoorL
theorem rdR (l : List (List Int)) (n : Nat) (h : n < l.length) : Bo l (n : Int) = l[n] := by simp [Bo, List.getD_eq_getElem?_getD, List.getElem?_eq_getElem h]
theorem eqIntSS_ev (l : List (List Int)) (h : l.length ≤ 1048576) (hr : ∀ s ∈ l, s.length ≤ 1048576) : Ev (fun k => Dy.f k l l) true := by
  have key : ∀ (d n : Nat), n + d = l.length → Ev (fun k => Dy.l0 k l l n) true := by
    intro d
    induction d with
    | zero => intro n hn; exact Ev.step (f := fun _ => some _) (fun k => by simp only [Dy.l0]; rw [if_neg (by omega)]) (Ev.now _)
    | succ d ih =>
      intro n hn
      have hnl : n < l.length := by omega
      have hm := hr _ (List.getElem_mem hnl)
      refine Ev.step (f := fun k => (Eg.f k l[n] l[n]).bind fun t => if t = true then Dy.l0 k l l ((n + 1 : Nat) : Int) else some false) (fun k => ?_) (Ev.bind (eqIntS_ev l[n] (by have : l[n].length ≤ 1048576 := hm; omega)) ?_)
      · simp only [Dy.l0]
        rw [if_pos (by omega), if_pos (by omega), if_pos (by omega), rdR l n hnl, wrap_succ (by omega)]
      · simp only [if_true]; exact ih (n + 1) (by omega)
  exact Ev.congr (f := fun k => Dy.l0 k l l ((0 : Nat) : Int)) (fun k => by unfold Dy.f; rw [if_pos rfl]; rfl) (key l.length 0 (by omega))
end Go.Proofs.YtcnmngiaebgjkaaDoor.X

namespace Go.Proofs.YtcnmngiaebgjkaaDoor.X
open Go.RowKit Go.Proofs.YtcnmngiaebgjkaaDoorW.PrintWords Go.Proofs.YtcnmngiaebgjkaaDoorL
theorem szIntS_eq (l : List Int) (a : Int) (h0 : 0 ≤ a) (h1 : a ≤ 1048576) (hl : l.length ≤ 4611686018427387904) : Iz.f l a = some (if a - (l.length : Int) < 0 then -1 else a - (l.length : Int)) := by
  unfold Iz.f
  rw [Gu (by omega) (by omega)]
  split <;> rfl
theorem szIntSS_ev (l : List (List Int)) (a : Int) (h0 : 0 ≤ a) (h1 : a ≤ 1048576) (hl : l.length ≤ 4611686018427387904) (hr : ∀ s ∈ l, s.length ≤ 4611686018427387904) :
    ∃ r, Ev (fun k => D7.f k l a) r ∧ (r < 0 ∨ (0 ≤ r ∧ r ≤ a ∧ (l.length : Int) ≤ a ∧ ∀ s ∈ l, (s.length : Int) ≤ a)) := by
  have key : ∀ (d n : Nat) (x : Int), n + d = l.length → 0 ≤ x → x ≤ a → ∃ r, Ev (fun k => D7.l0 k l x n) r ∧ (r < 0 ∨ (0 ≤ r ∧ r ≤ x ∧ ∀ s ∈ l.drop n, (s.length : Int) ≤ a)) := by
    intro d
    induction d with
    | zero =>
      intro n x hn hx0 hxa
      exact ⟨x, Ev.step (f := fun _ => some _) (fun k => by simp only [D7.l0]; rw [if_neg (by omega)]) (Ev.now _), .inr ⟨hx0, Int.le_refl _, by rw [List.drop_of_length_le (by omega)]; simp⟩⟩
    | succ d ih =>
      intro n x hn hx0 hxa
      have hnl : n < l.length := by omega
      have hm := hr _ (List.getElem_mem hnl)
      by_cases c : x - (l[n].length : Int) < 0
      · refine ⟨-1, Ev.step (f := fun _ => some (-1)) (fun k => ?_) (Ev.now _), .inl (by decide)⟩
        simp only [D7.l0]
        rw [if_pos (by omega), if_pos (by omega), rdR l n hnl, szIntS_eq _ _ hx0 (by omega) hm, if_pos c]
        rfl
      · obtain ⟨r, hev, hq⟩ := ih (n + 1) (x - (l[n].length : Int)) (by omega) (by omega) (by omega)
        refine ⟨r, Ev.step (fun k => ?_) hev, hq.imp id (fun z => ⟨z.1, by omega, ?_⟩)⟩
        · simp only [D7.l0]
          rw [if_pos (by omega), if_pos (by omega), rdR l n hnl, szIntS_eq _ _ hx0 (by omega) hm, if_neg c]
          simp only [Option.bind_some]
          rw [if_neg c, wrap_succ (by omega)]
        · rw [List.drop_eq_getElem_cons hnl]
          intro s hs
          rcases List.mem_cons.1 hs with rfl | hs
          · omega
          · exact z.2.2 s hs
  by_cases c : a - (l.length : Int) < 0
  · exact ⟨-1, ev_eq (fun k => by unfold D7.f; rw [Gu (by omega) (by omega), if_pos c]), .inl (by decide)⟩
  · obtain ⟨r, hev, hq⟩ := key l.length 0 (a - (l.length : Int)) (by omega) (by omega) (by omega)
    refine ⟨r, Ev.congr (fun k => by unfold D7.f; rw [Gu (by omega) (by omega), if_neg c]; rfl) hev, hq.imp id (fun z => ⟨z.1, by omega, by omega, by simpa using z.2.2⟩)⟩
theorem toIntS_ev (l : List Int) (h : l.length ≤ 1048576) : Ev (fun k => Ep.f k l) l := by
  have key : ∀ (d n : Nat), n + d = l.length → Ev (fun k => Ep.l0 k l (fill id (0 : Int) l n) n) l := by
    intro d
    induction d with
    | zero =>
      intro n hn
      obtain rfl : n = l.length := by omega
      have e : fill id (0 : Int) l l.length = l := by rw [fill_all]; simp
      rw [e]
      exact Ev.step (f := fun _ => some _) (fun k => by simp only [Ep.l0]; rw [if_neg (by omega)]) (Ev.now _)
    | succ d ih =>
      intro n hn
      have hnl : n < l.length := by omega
      refine Ev.step (fun k => ?_) (ih (n + 1) (by omega))
      simp only [Ep.l0]
      rw [if_pos (by omega), if_pos (by omega), fill_length id _ l n (by omega), if_pos (by omega), rd_at l n hnl, wrap_succ (by omega), Int.toNat_natCast, ← fill_set id _ l n hnl]
      rfl
  refine Ev.congr (fun k => ?_) (key l.length 0 (by omega))
  unfold Ep.f
  rw [if_pos (by omega), if_pos (by omega), fill_zero, Int.toNat_natCast]
  rfl
theorem toIntSS_ev (l : List (List Int)) (h : l.length ≤ 1048576) (hr : ∀ s ∈ l, s.length ≤ 1048576) : Ev (fun k => D9.f k l) l := by
  have key : ∀ (d n : Nat), n + d = l.length → Ev (fun k => D9.l0 k l (fill id ([] : List Int) l n) n) l := by
    intro d
    induction d with
    | zero =>
      intro n hn
      obtain rfl : n = l.length := by omega
      have e : fill id ([] : List Int) l l.length = l := by rw [fill_all]; simp
      rw [e]
      exact Ev.step (f := fun _ => some _) (fun k => by simp only [D9.l0]; rw [if_neg (by omega)]) (Ev.now _)
    | succ d ih =>
      intro n hn
      have hnl : n < l.length := by omega
      refine Ev.step (f := fun k => (Ep.f k l[n]).bind fun t => D9.l0 k l ((fill id ([] : List Int) l n).set n t) ((n + 1 : Nat) : Int)) (fun k => ?_) (Ev.bind (toIntS_ev _ (hr _ (List.getElem_mem hnl))) ?_)
      · simp only [D9.l0, fill_length id _ l n (show n ≤ l.length by omega)]
        rw [if_pos (by omega), if_pos (by omega), rdR l n hnl]
        simp only [if_pos (show (n : Int) < (l.length : Int) by omega), wrap_succ (show n < 9223372036854775807 by omega), Int.toNat_natCast]
      · have e : (fill id ([] : List Int) l n).set n l[n] = fill id ([] : List Int) l (n + 1) := by rw [← fill_set id _ l n hnl]; rfl
        rw [e]
        exact ih (n + 1) (by omega)
  refine Ev.congr (fun k => ?_) (key l.length 0 (by omega))
  unfold D9.f
  rw [if_pos (by omega), if_pos (by omega), fill_zero, Int.toNat_natCast]
  rfl
end Go.Proofs.YtcnmngiaebgjkaaDoor.X

namespace Go.Proofs.YtcnmngiaebgjkaaDoor.X
open Go.RowKit Go.Proofs.YtcnmngiaebgjkaaDoorW.PrintWords Go.Proofs.YtcnmngiaebgjkaaDoorL
theorem l1In_eq2 (a b c : Int) : Em.f a b c = some (decide (b ≤ a) && decide (a ≤ c)) := by
  unfold Em.f
  by_cases h : a ≥ b
  · rw [if_pos h]; simp [show b ≤ a from h]
  · rw [if_neg h]; simp [show ¬ b ≤ a from h]
theorem has_ev (S : List Int) (n : Int) (hS : S.length ≤ 1048576) : Ev (fun k => Di.f k S n) (decide (n ∈ S)) := by
  have key : ∀ (d i : Nat), i + d = S.length → Ev (fun k => Di.l0 k S n i) (decide (n ∈ S.drop i)) := by
    intro d
    induction d with
    | zero =>
      intro i hi
      rw [List.drop_of_length_le (by omega)]
      exact Ev.step (f := fun _ => some _) (fun k => by simp only [Di.l0]; rw [if_neg (by omega)]; simp) (Ev.now _)
    | succ d ih =>
      intro i hi
      have hil : i < S.length := by omega
      rw [List.drop_eq_getElem_cons hil]
      by_cases c : S[i] = n
      · have e : decide (n ∈ S[i] :: S.drop (i + 1)) = true := decide_eq_true (by rw [c]; exact List.mem_cons_self)
        rw [e]
        exact Ev.step (f := fun _ => some _) (fun k => by simp only [Di.l0]; rw [if_pos (by omega), if_pos (by omega), rd_at S i hil, if_pos c]) (Ev.now _)
      · have e : decide (n ∈ S[i] :: S.drop (i + 1)) = decide (n ∈ S.drop (i + 1)) := by
          rw [decide_eq_decide, List.mem_cons]
          exact ⟨fun z => z.elim (fun y => absurd y.symm c) id, .inr⟩
        rw [e]
        refine Ev.step (fun k => ?_) (ih (i + 1) (by omega))
        simp only [Di.l0]
        rw [if_pos (by omega), if_pos (by omega), rd_at S i hil, if_neg c, wrap_succ (by omega)]
  exact Ev.congr (f := fun k => Di.l0 k S n ((0 : Nat) : Int)) (fun k => rfl) (by simpa using key S.length 0 (by omega))
theorem spec_l5Good_loop (l : List (List Int)) (hl : l.length ≤ 6) : ∀ (d i : Nat) (S : List Int), i + d = l.length → S.length ≤ 4 * i → Ev (fun k => Cc.l0 k S i l) (Hq 4 S (l.drop i)) := by
  intro d
  induction d with
  | zero =>
    intro i S hi hS
    rw [List.drop_of_length_le (by omega)]
    exact Ev.step (f := fun _ => some _) (fun k => by simp only [Cc.l0]; rw [if_neg (by omega)]; rfl) (Ev.now _)
  | succ d ih =>
    intro i S hi hS
    have hil : i < l.length := by omega
    rw [List.drop_eq_getElem_cons hil]
    by_cases c : (l[i].length : Int) > 4
    · rw [Jk 4 _ _ _ c]
      refine Ev.step (f := fun _ => some false) (fun k => ?_) (Ev.now _)
      simp only [Cc.l0]
      rw [if_pos (by omega), if_pos (by omega), rdR l i hil, if_pos c]
    · rw [goodRows_in 4 _ _ _ c]
      have inner : ∀ (e j : Nat) (S2 : List Int), j + e = l[i].length → S2.length ≤ 4 * i + j → Ev (fun k => Cc.l1 k S2 i j l) (Ip 4 S2 (l[i].drop j) (l.drop (i + 1))) := by
        intro e
        induction e with
        | zero =>
          intro j S2 hj hS2
          rw [List.drop_of_length_le (by omega), Jo]
          refine Ev.step (fun k => ?_) (ih (i + 1) S2 (by omega) (by omega))
          simp only [Cc.l1]
          rw [if_pos (by omega), if_pos (by omega), rdR l i hil, if_neg (by omega), wrap_succ (by omega)]
        | succ e ih2 =>
          intro j S2 hj hS2
          have hjl : j < l[i].length := by omega
          rw [List.drop_eq_getElem_cons hjl]
          have hn := rd_at l[i] j hjl
          refine Ev.step (f := fun k => if (decide ((1 : Int) ≤ l[i][j]) && decide (l[i][j] ≤ 99)) = true then ((Di.f k S2 l[i][j]).bind fun t => if t = true then some false else Cc.l1 k (S2 ++ [l[i][j]]) i ((j + 1 : Nat) : Int) l) else some false) (fun k => ?_) ?_
          · simp only [Cc.l1]
            rw [if_pos (by omega), if_pos (by omega), rdR l i hil, if_pos (by omega), if_pos (by omega), hn, l1In_eq2]
            simp only [Option.bind_some, if_pos (show S2.length < 17592186044416 by omega), wrap_succ (show j < 9223372036854775807 by omega)]
          · generalize hnn : l[i][j] = n
            rw [hnn] at *
            cases c4 : (decide (1 ≤ n) && decide (n ≤ 99)) with
            | false =>
              rw [Ii 4 S2 n _ _ (.inl (fun z => by simp [z.1, z.2] at c4))]
              exact ev_eq (fun k => if_neg (by simp))
            | true =>
              have hn1 : 1 ≤ n ∧ n ≤ 99 := by simpa using c4
              simp only [if_true]
              refine Ev.bind (has_ev S2 n (by omega)) ?_
              cases c5 : decide (n ∈ S2) with
              | true =>
                rw [Ii 4 S2 n _ _ (.inr c5)]
                simp only [if_true]; exact Ev.now _
              | false =>
                rw [Jl 4 S2 n _ _ hn1.1 hn1.2 c5]
                simp only [Bool.false_eq_true, if_false]
                exact ih2 (j + 1) (S2 ++ [n]) (by omega) (by simp; omega)
      refine Ev.step (fun k => ?_) (inner l[i].length 0 S (by omega) (by omega))
      simp only [Cc.l0]
      rw [if_pos (by omega), if_pos (by omega), rdR l i hil, if_neg c]
      rfl
theorem spec_l9Good_loop (m : Int) (l : List (List Int)) (hl : l.length ≤ 6) (hm : m ≤ 4) : ∀ (d i : Nat) (S : List Int), i + d = l.length → S.length ≤ 4 * i → Ev (fun k => Bh.l0 k S i m l) (Hq m S (l.drop i)) := by
  intro d
  induction d with
  | zero =>
    intro i S hi hS
    rw [List.drop_of_length_le (by omega)]
    exact Ev.step (f := fun _ => some _) (fun k => by simp only [Bh.l0]; rw [if_neg (by omega)]; rfl) (Ev.now _)
  | succ d ih =>
    intro i S hi hS
    have hil : i < l.length := by omega
    rw [List.drop_eq_getElem_cons hil]
    by_cases c : (l[i].length : Int) > m
    · rw [Jk m _ _ _ c]
      refine Ev.step (f := fun _ => some false) (fun k => ?_) (Ev.now _)
      simp only [Bh.l0]
      rw [if_pos (by omega), if_pos (by omega), rdR l i hil, if_pos c]
    · rw [goodRows_in m _ _ _ c]
      have inner : ∀ (e j : Nat) (S2 : List Int), j + e = l[i].length → S2.length ≤ 4 * i + j → Ev (fun k => Bh.l1 k S2 i j m l) (Ip m S2 (l[i].drop j) (l.drop (i + 1))) := by
        intro e
        induction e with
        | zero =>
          intro j S2 hj hS2
          rw [List.drop_of_length_le (by omega), Jo]
          refine Ev.step (fun k => ?_) (ih (i + 1) S2 (by omega) (by omega))
          simp only [Bh.l1]
          rw [if_pos (by omega), if_pos (by omega), rdR l i hil, if_neg (by omega), wrap_succ (by omega)]
        | succ e ih2 =>
          intro j S2 hj hS2
          have hjl : j < l[i].length := by omega
          rw [List.drop_eq_getElem_cons hjl]
          have hn := rd_at l[i] j hjl
          refine Ev.step (f := fun k => if (decide ((1 : Int) ≤ l[i][j]) && decide (l[i][j] ≤ 99)) = true then ((Di.f k S2 l[i][j]).bind fun t => if t = true then some false else Bh.l1 k (S2 ++ [l[i][j]]) i ((j + 1 : Nat) : Int) m l) else some false) (fun k => ?_) ?_
          · simp only [Bh.l1]
            rw [if_pos (by omega), if_pos (by omega), rdR l i hil, if_pos (by omega), if_pos (by omega), hn, l1In_eq2]
            simp only [Option.bind_some, if_pos (show S2.length < 17592186044416 by omega), wrap_succ (show j < 9223372036854775807 by omega)]
          · generalize hnn : l[i][j] = n
            rw [hnn] at *
            cases c4 : (decide (1 ≤ n) && decide (n ≤ 99)) with
            | false =>
              rw [Ii m S2 n _ _ (.inl (fun z => by simp [z.1, z.2] at c4))]
              exact ev_eq (fun k => if_neg (by simp))
            | true =>
              have hn1 : 1 ≤ n ∧ n ≤ 99 := by simpa using c4
              simp only [if_true]
              refine Ev.bind (has_ev S2 n (by omega)) ?_
              cases c5 : decide (n ∈ S2) with
              | true =>
                rw [Ii m S2 n _ _ (.inr c5)]
                simp only [if_true]; exact Ev.now _
              | false =>
                rw [Jl m S2 n _ _ hn1.1 hn1.2 c5]
                simp only [Bool.false_eq_true, if_false]
                exact ih2 (j + 1) (S2 ++ [n]) (by omega) (by simp; omega)
      refine Ev.step (fun k => ?_) (inner l[i].length 0 S (by omega) (by omega))
      simp only [Bh.l0]
      rw [if_pos (by omega), if_pos (by omega), rdR l i hil, if_neg c]
      rfl
def yardOk (l : List (List Int)) : Bool := (decide ((1 : Int) ≤ (l.length : Int)) && decide ((l.length : Int) ≤ 6)) && Hq 4 [] l
def bayOk (h : Int) (l : List (List Int)) : Bool := (decide ((1 : Int) ≤ h) && decide (h ≤ 4)) && (decide ((1 : Int) ≤ (l.length : Int)) && decide ((l.length : Int) ≤ 5)) && Hq h [] l
theorem implYard_eq (l : List (List Int)) : Hr.f l = some (yardOk l) := rfl
theorem implBay_eq (h : Int) (l : List (List Int)) : Hg.f h l = some (bayOk h l) := rfl
theorem specYard_ev (l : List (List Int)) : Ev (fun k => Cc.f k l) (yardOk l) := by
  unfold Cc.f yardOk
  rw [l1In_eq2]
  simp only [Option.bind_some]
  cases c : (decide ((1 : Int) ≤ (l.length : Int)) && decide ((l.length : Int) ≤ 6)) with
  | false => simp only [Bool.false_eq_true, if_false, Bool.false_and]; exact Ev.now _
  | true =>
    have h6 : l.length ≤ 6 := by simp at c; omega
    simp only [if_true, Bool.true_and]
    exact spec_l5Good_loop l h6 l.length 0 [] (by omega) (by simp)
theorem specBay_ev (h : Int) (l : List (List Int)) : Ev (fun k => Bh.f k h l) (bayOk h l) := by
  unfold Bh.f bayOk
  simp only [l1In_eq2, Option.bind_some]
  cases c : (decide ((1 : Int) ≤ h) && decide (h ≤ 4)) with
  | false =>
    simp only [Bool.false_eq_true, if_false, Bool.false_and]
    exact Ev.step (f := fun _ => some _) (fun k => by simp only [Bh.j0]; rw [if_pos trivial]) (Ev.now _)
  | true =>
    have h4 : h ≤ 4 := by simp at c; omega
    simp only [if_true, Bool.true_and]
    cases c2 : (decide ((1 : Int) ≤ (l.length : Int)) && decide ((l.length : Int) ≤ 5)) with
    | false =>
      simp only [Bool.not_false, Bool.false_and]
      exact Ev.step (f := fun _ => some _) (fun k => by simp only [Bh.j0]; rw [if_pos trivial]) (Ev.now _)
    | true =>
      have h5 : l.length ≤ 5 := by simp at c2; omega
      simp only [Bool.not_true, Bool.true_and]
      refine Ev.step (f := fun k => Bh.l0 k [] ((0 : Nat) : Int) h l) (fun k => ?_) (by simpa using spec_l9Good_loop h l (by omega) h4 l.length 0 [] (by omega) (by simp))
      simp only [Bh.j0]
      rw [if_neg (by decide)]
      rfl
-- where a number stands
def idxFrom : Nat → List Int → Int → Int
  | _, [], _ => -1
  | k, x :: r, n => if x = n then (k : Int) else idxFrom (k + 1) r n
def Hz : Nat → List (List Int) → Int → Int × Int
  | _, [], _ => (-1, -1)
  | i, s :: r, n => if idxFrom 0 s n ≥ 0 then ((i : Int), idxFrom 0 s n) else Hz (i + 1) r n
theorem index_ev (s : List Int) (n : Int) (hs : s.length ≤ 1048576) : Ev (fun k => Bv.f k s n) (idxFrom 0 s n) := by
  have key : ∀ (d i : Nat), i + d = s.length → Ev (fun k => Bv.l0 k s n (s.length : Int) i) (idxFrom i (s.drop i) n) := by
    intro d
    induction d with
    | zero =>
      intro i hi
      rw [List.drop_of_length_le (by omega)]
      exact Ev.step (f := fun _ => some _) (fun k => by simp only [Bv.l0]; rw [if_neg (by omega)]; rfl) (Ev.now _)
    | succ d ih =>
      intro i hi
      have hil : i < s.length := by omega
      rw [List.drop_eq_getElem_cons hil]
      unfold idxFrom
      by_cases c : s[i] = n
      · rw [if_pos c]
        exact Ev.step (f := fun _ => some _) (fun k => by simp only [Bv.l0]; rw [if_pos (by omega), if_pos (by omega), if_pos (by omega), rd_at s i hil, if_pos c.symm]) (Ev.now _)
      · rw [if_neg c]
        refine Ev.step (fun k => ?_) (ih (i + 1) (by omega))
        simp only [Bv.l0]
        rw [if_pos (by omega), if_pos (by omega), if_pos (by omega), rd_at s i hil, if_neg (fun z => c z.symm), wrap_succ (by omega)]
  exact Ev.congr (f := fun k => Bv.l0 k s n (s.length : Int) ((0 : Nat) : Int)) (fun k => rfl) (by simpa using key s.length 0 (by omega))
def Ie (l : List (List Int)) : Prop := l.length ≤ 1048576 ∧ ∀ s ∈ l, s.length ≤ 1048576
theorem place_ev (l : List (List Int)) (n : Int) (hl : Ie l) : Ev (fun k => D8.f k l n) (Hz 0 l n) := by
  have key : ∀ (d i : Nat), i + d = l.length → Ev (fun k => D8.l0 k n l (l.length : Int) i) (Hz i (l.drop i) n) := by
    intro d
    induction d with
    | zero =>
      intro i hi
      rw [List.drop_of_length_le (by omega)]
      exact Ev.step (f := fun _ => some _) (fun k => by simp only [D8.l0]; rw [if_neg (by omega)]; rfl) (Ev.now _)
    | succ d ih =>
      intro i hi
      have hil : i < l.length := by omega
      rw [List.drop_eq_getElem_cons hil]
      unfold Hz
      refine Ev.step (f := fun k => (Bv.f k l[i] n).bind fun t => if t ≥ 0 then some ((i : Int), t) else D8.l0 k n l (l.length : Int) ((i + 1 : Nat) : Int)) (fun k => ?_) (Ev.bind (index_ev _ n (hl.2 _ (List.getElem_mem hil))) ?_)
      · have := hl.1
        simp only [D8.l0]
        rw [if_pos (by omega), if_pos (by omega), if_pos (by omega), rdR l i hil, wrap_succ (by omega)]
      · by_cases c : idxFrom 0 l[i] n ≥ 0
        · simp only [if_pos c]; exact Ev.now _
        · simp only [if_neg c]; exact ih (i + 1) (by omega)
  exact Ev.congr (f := fun k => D8.l0 k n l (l.length : Int) ((0 : Nat) : Int)) (fun k => rfl) (by simpa using key l.length 0 (by omega))
theorem spec_l5Find_ev (l : List (List Int)) (n : Int) (hl : Ie l) : Ev (fun k => Df.f k l n) (Hz 0 l n) := by
  have key : ∀ (d i : Nat), i + d = l.length → Ev (fun k => Df.l0 k n i l) (Hz i (l.drop i) n) := by
    intro d
    induction d with
    | zero =>
      intro i hi
      rw [List.drop_of_length_le (by omega)]
      exact Ev.step (f := fun _ => some _) (fun k => by simp only [Df.l0]; rw [if_neg (by omega)]; rfl) (Ev.now _)
    | succ d ih =>
      intro i hi
      have hil : i < l.length := by omega
      have hs := hl.2 _ (List.getElem_mem hil)
      have hl1 := hl.1
      rw [List.drop_eq_getElem_cons hil]
      unfold Hz
      have inner : ∀ (e j : Nat), j + e = l[i].length → Ev (fun k => Df.l1 k n i j l) (if idxFrom j (l[i].drop j) n ≥ 0 then ((i : Int), idxFrom j (l[i].drop j) n) else Hz (i + 1) (l.drop (i + 1)) n) := by
        intro e
        induction e with
        | zero =>
          intro j hj
          rw [List.drop_of_length_le (by omega)]
          refine Ev.step (fun k => ?_) (ih (i + 1) (by omega))
          simp only [Df.l1]
          rw [if_pos (by omega), if_pos (by omega), rdR l i hil, if_neg (by omega), wrap_succ (by omega)]
        | succ e ih2 =>
          intro j hj
          have hjl : j < l[i].length := by omega
          rw [List.drop_eq_getElem_cons hjl]
          unfold idxFrom
          by_cases c : l[i][j] = n
          · simp only [if_pos c, if_pos (show (j : Int) ≥ 0 by omega)]
            refine Ev.step (f := fun _ => some _) (fun k => ?_) (Ev.now _)
            simp only [Df.l1]
            rw [if_pos (by omega), if_pos (by omega), rdR l i hil, if_pos (by omega), if_pos (by omega), rd_at l[i] j hjl, if_pos c]
          · simp only [if_neg c]
            refine Ev.step (fun k => ?_) (ih2 (j + 1) (by omega))
            simp only [Df.l1]
            rw [if_pos (by omega), if_pos (by omega), rdR l i hil, if_pos (by omega), if_pos (by omega), rd_at l[i] j hjl, if_neg c, wrap_succ (by omega)]
      refine Ev.step (fun k => ?_) (inner l[i].length 0 (by omega))
      simp only [Df.l0]
      rw [if_pos (by omega)]
      rfl
  exact Ev.congr (f := fun k => Df.l0 k n ((0 : Nat) : Int) l) (fun k => rfl) (by simpa using key l.length 0 (by omega))
/-- None of a row's numbers stands in a yard. -/
def apart (Y : List (List Int)) (s : List Int) : Bool := s.all fun n => decide ((Hz 0 Y n).1 < 0)
def termOk (Y : List (List Int)) (h : Int) (S : List (List Int)) : Bool := yardOk Y && bayOk h S && S.all (apart Y)
theorem spec_l24Good_loop (Y : List (List Int)) (h : Int) (S : List (List Int)) (hY : Ie Y) (hS : Ie S) : ∀ (d i : Nat), i + d = S.length → Ev (fun k => Bf.l0 k i Y h S) ((S.drop i).all (apart Y)) := by
  have hS1 := hS.1
  intro d
  induction d with
  | zero =>
    intro i hi
    rw [List.drop_of_length_le (by omega)]
    exact Ev.step (f := fun _ => some _) (fun k => by simp only [Bf.l0]; rw [if_neg (by omega)]; rfl) (Ev.now _)
  | succ d ih =>
    intro i hi
    have hil : i < S.length := by omega
    have hs := hS.2 _ (List.getElem_mem hil)
    rw [List.drop_eq_getElem_cons hil, List.all_cons]
    have inner : ∀ (e j : Nat), j + e = S[i].length → Ev (fun k => Bf.l1 k i j Y h S) (apart Y (S[i].drop j) && (S.drop (i + 1)).all (apart Y)) := by
      intro e
      induction e with
      | zero =>
        intro j hj
        rw [List.drop_of_length_le (by omega)]
        refine Ev.step (fun k => ?_) (by simpa [apart] using ih (i + 1) (by omega))
        simp only [Bf.l1]
        rw [if_pos (by omega), if_pos (by omega), rdR S i hil, if_neg (by omega), wrap_succ (by omega)]
        rfl
      | succ e ih2 =>
        intro j hj
        have hjl : j < S[i].length := by omega
        rw [List.drop_eq_getElem_cons hjl]
        refine Ev.step (f := fun k => (Df.f k Y S[i][j]).bind fun t => if t.1 ≥ 0 then some false else Bf.l1 k i ((j + 1 : Nat) : Int) Y h S) (fun k => ?_) (Ev.bind (spec_l5Find_ev Y _ hY) ?_)
        · simp only [Bf.l1]
          rw [if_pos (by omega), if_pos (by omega), rdR S i hil, if_pos (by omega), if_pos (by omega), rd_at S[i] j hjl, wrap_succ (by omega)]
        · by_cases c : (Hz 0 Y S[i][j]).1 ≥ 0
          · have e1 : apart Y (S[i][j] :: S[i].drop (j + 1)) = false := by simp only [apart, List.all_cons, decide_eq_false (show ¬ (Hz 0 Y S[i][j]).1 < 0 by omega), Bool.false_and]
            simp only [if_pos c, e1, Bool.false_and]; exact Ev.now _
          · have e1 : apart Y (S[i][j] :: S[i].drop (j + 1)) = apart Y (S[i].drop (j + 1)) := by simp only [apart, List.all_cons, decide_eq_true (show (Hz 0 Y S[i][j]).1 < 0 by omega), Bool.true_and]
            simp only [if_neg c, e1]; exact ih2 (j + 1) (by omega)
    refine Ev.step (fun k => ?_) (inner S[i].length 0 (by omega))
    simp only [Bf.l0]
    rw [if_pos (by omega)]
    rfl
theorem Js (Y : List (List Int)) (h : Int) (S : List (List Int)) (hY : Ie Y) (hS : Ie S) : ∀ (d i : Nat), i + d = S.length → Ev (fun k => Ba.l0 k S (S.length : Int) i Y h S) ((S.drop i).all (apart Y)) := by
  have hS1 := hS.1
  intro d
  induction d with
  | zero =>
    intro i hi
    rw [List.drop_of_length_le (by omega)]
    exact Ev.step (f := fun _ => some _) (fun k => by simp only [Ba.l0]; rw [if_neg (by omega)]; rfl) (Ev.now _)
  | succ d ih =>
    intro i hi
    have hil : i < S.length := by omega
    have hs := hS.2 _ (List.getElem_mem hil)
    rw [List.drop_eq_getElem_cons hil, List.all_cons]
    have inner : ∀ (e j : Nat), j + e = S[i].length → Ev (fun k => Ba.l1 k S (S.length : Int) i S[i] (S[i].length : Int) j Y h S) (apart Y (S[i].drop j) && (S.drop (i + 1)).all (apart Y)) := by
      intro e
      induction e with
      | zero =>
        intro j hj
        rw [List.drop_of_length_le (by omega)]
        refine Ev.step (fun k => ?_) (by simpa [apart] using ih (i + 1) (by omega))
        simp only [Ba.l1]
        rw [if_neg (by omega), wrap_succ (by omega)]
        rfl
      | succ e ih2 =>
        intro j hj
        have hjl : j < S[i].length := by omega
        rw [List.drop_eq_getElem_cons hjl]
        refine Ev.step (f := fun k => (D8.f k Y S[i][j]).bind fun t => if t.1 ≥ 0 then some false else Ba.l1 k S (S.length : Int) i S[i] (S[i].length : Int) ((j + 1 : Nat) : Int) Y h S) (fun k => ?_) (Ev.bind (place_ev Y _ hY) ?_)
        · simp only [Ba.l1]
          rw [if_pos (by omega), if_pos (by omega), if_pos (by omega), rd_at S[i] j hjl, wrap_succ (by omega)]
        · by_cases c : (Hz 0 Y S[i][j]).1 ≥ 0
          · have e1 : apart Y (S[i][j] :: S[i].drop (j + 1)) = false := by simp only [apart, List.all_cons, decide_eq_false (show ¬ (Hz 0 Y S[i][j]).1 < 0 by omega), Bool.false_and]
            simp only [if_pos c, e1, Bool.false_and]; exact Ev.now _
          · have e1 : apart Y (S[i][j] :: S[i].drop (j + 1)) = apart Y (S[i].drop (j + 1)) := by simp only [apart, List.all_cons, decide_eq_true (show (Hz 0 Y S[i][j]).1 < 0 by omega), Bool.true_and]
            simp only [if_neg c, e1]; exact ih2 (j + 1) (by omega)
    refine Ev.step (fun k => ?_) (inner S[i].length 0 (by omega))
    simp only [Ba.l0]
    rw [if_pos (by omega), if_pos (by omega), if_pos (by omega), rdR S i hil]
    rfl
theorem specTerm_ev (Y : List (List Int)) (h : Int) (S : List (List Int)) (hY : Ie Y) (hS : Ie S) : Ev (fun k => Bf.f k Y h S) (termOk Y h S) := by
  have stop : Ev (fun k => Bf.j0 k true Y h S) false := Ev.step (f := fun _ => some _) (fun k => by simp only [Bf.j0]; rw [if_pos trivial]) (Ev.now _)
  unfold Bf.f termOk
  refine Ev.bind (specYard_ev Y) ?_
  cases c : yardOk Y with
  | false => simp only [Bool.false_eq_true, if_false, Bool.false_and]; exact stop
  | true =>
    simp only [if_true, Bool.true_and]
    refine Ev.bind (specBay_ev h S) ?_
    cases c2 : bayOk h S with
    | false => simp only [Bool.not_false, Bool.false_and]; exact stop
    | true =>
      simp only [Bool.not_true, Bool.true_and]
      refine Ev.step (fun k => ?_) (by simpa using spec_l24Good_loop Y h S hY hS S.length 0 (by omega))
      simp only [Bf.j0]
      rw [if_neg (by decide)]
theorem implTerm_ev (Y : List (List Int)) (h : Int) (S : List (List Int)) (hY : Ie Y) (hS : Ie S) : Ev (fun k => Ba.f k Y h S) (termOk Y h S) := by
  have stop : Ev (fun k => Ba.j0 k true Y h S) false := Ev.step (f := fun _ => some _) (fun k => by simp only [Ba.j0]; rw [if_pos trivial]) (Ev.now _)
  unfold Ba.f termOk
  rw [implYard_eq]
  simp only [Option.bind_some]
  cases c : yardOk Y with
  | false => simp only [Bool.false_eq_true, if_false, Bool.false_and]; exact stop
  | true =>
    simp only [if_true, Bool.true_and]
    rw [implBay_eq]
    simp only [Option.bind_some]
    cases c2 : bayOk h S with
    | false => simp only [Bool.not_false, Bool.false_and]; exact stop
    | true =>
      simp only [Bool.not_true, Bool.true_and]
      refine Ev.step (fun k => ?_) (by simpa using Js Y h S hY hS S.length 0 (by omega))
      simp only [Ba.j0]
      rw [if_neg (by decide)]
theorem szTerm_le (Y : List (List Int)) (h : Int) (S : List (List Int)) (hY : Y.length ≤ 4611686018427387904) (hYr : ∀ s ∈ Y, s.length ≤ 4611686018427387904) (hS : S.length ≤ 4611686018427387904) (hSr : ∀ s ∈ S, s.length ≤ 4611686018427387904) :
    ∃ r, Ev (fun k => F7.f k Y h S 1048576) r ∧ (¬ r < 0 → r ≤ 1048576 ∧ Ie Y ∧ Ie S) := by
  unfold F7.f G6.f Hl.f
  obtain ⟨r, hr, hq⟩ := szIntSS_ev Y 1048576 (by omega) (by omega) hY hYr
  by_cases c : r < 0
  · refine ⟨-1, Ev.bind (Ev.bind hr (r := -1) ?_) ?_, fun z => absurd (by decide) z⟩
    · simp only [if_pos c]; exact Ev.now _
    · simp only [if_pos (show (-1 : Int) < 0 by decide)]; exact Ev.now _
  · rcases hq with q | ⟨q1, q2, q3, q4⟩
    · exact absurd q c
    obtain ⟨r2, hr2, hq2⟩ := szIntSS_ev S r q1 q2 hS hSr
    have hYo : Ie Y := ⟨by omega, fun s hs => by have := q4 s hs; omega⟩
    by_cases c2 : r2 < 0
    · refine ⟨-1, Ev.bind (Ev.bind hr (r := r) ?_) ?_, fun z => absurd (by decide) z⟩
      · simp only [if_neg c]; exact Ev.now _
      · simp only [if_neg c]
        refine Ev.bind (Ev.bind hr2 (r := -1) ?_) ?_
        · simp only [if_pos c2]; exact Ev.now _
        · simp only [if_pos (show (-1 : Int) < 0 by decide)]; exact Ev.now _
    · rcases hq2 with p | ⟨p1, p2, p3, p4⟩
      · exact absurd p c2
      refine ⟨r2, Ev.bind (Ev.bind hr (r := r) ?_) ?_, fun _ => ⟨by omega, hYo, by omega, fun s hs => by have := p4 s hs; omega⟩⟩
      · simp only [if_neg c]; exact Ev.now _
      · simp only [if_neg c]
        refine Ev.bind (Ev.bind hr2 (r := r2) ?_) ?_
        · simp only [if_neg c2]; exact Ev.now _
        · simp only [if_neg c2]; exact Ev.now _
theorem toTerm_ev (Y : List (List Int)) (h : Int) (S : List (List Int)) (hY : Ie Y) (hS : Ie S) : Ev (fun k => Gi.f k Y h S) (Y, h, S) := by
  unfold Gi.f Hu.f Hw.f
  exact Ev.bind (Ev.bind (toIntSS_ev Y hY.1 hY.2) (Ev.now _)) (Ev.bind (Ev.bind (toIntSS_ev S hS.1 hS.2) (Ev.now _)) (Ev.now _))
theorem eqTerm_ev (Y : List (List Int)) (h : Int) (S : List (List Int)) (hY : Ie Y) (hS : Ie S) : Ev (fun k => F6.f k Y h S Y h S) true := by
  unfold F6.f G5.f Ha.f
  refine Ev.bind (Ev.bind (eqIntSS_ev Y hY.1 hY.2) (r := true) (by simp only [if_true]; exact Ev.now _)) ?_
  simp only [if_true]
  refine Ev.bind (Ev.bind (eqIntSS_ev S hS.1 hS.2) (r := true) (by simp only [if_true]; exact Ev.now _)) ?_
  simp only [if_true]
  exact Ev.now _
end Go.Proofs.YtcnmngiaebgjkaaDoor.X

namespace Go.Proofs.YtcnmngiaebgjkaaDoorL
open Go.RowKit Go.Proofs.YtcnmngiaebgjkaaDoorW.PrintWords
/-- A text's bytes. -/
def B (s : ByteArray) : List UInt8 := s.data.toList
theorem E5 (s : ByteArray) : (B s).length = s.size := by simp [B]
theorem bt_B (s : ByteArray) (n : Nat) (h : n < (B s).length) : bt s n = ((B s)[n].toNat : Int) := by
  have h2 : n < s.size := by rw [E5] at h; exact h
  unfold bt
  rw [Int.toNat_natCast, dif_pos h2]
  rfl
theorem B_toList (s : ByteArray) : s.toList = B s := by
  unfold B
  have key : ∀ (d i : Nat) (r : List UInt8), i + d = s.size → ByteArray.toList.loop s i r = r.reverse ++ (s.data.toList.drop i) := by
    intro d
    induction d with
    | zero =>
      intro i r h
      unfold ByteArray.toList.loop
      rw [if_neg (by omega), List.drop_of_length_le (by simp; omega)]; simp
    | succ d ih =>
      intro i r h
      unfold ByteArray.toList.loop
      have hi : i < s.size := by omega
      rw [if_pos hi, ih (i + 1) _ (by omega), List.drop_eq_getElem_cons (show i < s.data.toList.length by simp; omega)]
      have e : s.get! i = s.data.toList[i]'(by simp; omega) := by
        show s.data[i]! = _
        rw [getElem!_pos s.data i hi]; simp
      rw [e, List.reverse_cons]
      simp
  have := key s.size 0 [] (by omega)
  simpa [ByteArray.toList] using this
theorem B_inj {s t : ByteArray} (h : B s = B t) : s = t := by
  have : s.data = t.data := Array.toList_inj.1 h
  cases s; cases t; simp_all
theorem containsAny_any (c : List UInt8) : ∀ l : List UInt8, Lib.containsAny l c = l.any fun b => c.contains b
  | [] => by simp [Lib.containsAny, Lib.indexAny]
  | b :: l => by
    have ih := containsAny_any c l
    have hg := Lib.indexAny_ge c l
    unfold Lib.containsAny at ih ⊢
    rw [List.any_cons, ← ih]
    have hu : Lib.indexAny (b :: l) c = if c.contains b then 0 else if Lib.indexAny l c == -1 then -1 else Lib.indexAny l c + 1 := by rw [Lib.indexAny]
    rw [hu]
    by_cases h : c.contains b = true
    · rw [if_pos h, h]; simp
    · have h2 : c.contains b = false := by simpa using h
      rw [if_neg h, h2, Bool.false_or]
      by_cases e : Lib.indexAny l c = -1
      · rw [e]; simp
      · rw [if_neg (by simpa using e)]
        by_cases z : 0 ≤ Lib.indexAny l c
        · rw [decide_eq_true z, decide_eq_true (by omega)]
        · omega
end Go.Proofs.YtcnmngiaebgjkaaDoorL

namespace Go.Proofs.YtcnmngiaebgjkaaDoor.X
open Go.RowKit Go.Proofs.YtcnmngiaebgjkaaDoorW.PrintWords Go.Proofs.YtcnmngiaebgjkaaDoorL
theorem within_eq' (a b c : Int) : Fe.f a b c = some (decide (b ≤ a) && decide (a ≤ c)) := by
  unfold Fe.f
  by_cases h : a ≥ b
  · rw [if_pos h]; simp [show b ≤ a from h]
  · rw [if_neg h]; simp [show ¬ b ≤ a from h]
theorem l1In_eq' (a b c : Int) : Em.f a b c = some (decide (b ≤ a) && decide (a ≤ c)) := by
  unfold Em.f
  by_cases h : a ≥ b
  · rw [if_pos h]; simp [show b ≤ a from h]
  · rw [if_neg h]; simp [show ¬ b ≤ a from h]
/-- Bytes that can be printed, none of some. -/
def okP (bad : List UInt8) (b : UInt8) : Bool := decide (32 ≤ b.toNat) && decide (b.toNat ≤ 126) && !bad.contains b
def rngP (b : UInt8) : Bool := decide (32 ≤ b.toNat) && decide (b.toNat ≤ 126)
theorem implPrint_ev (s c : ByteArray) (hs : s.size < 4294967281) (hc : asciiB c = true) : Ev (fun k => Ci.f k s c) ((B s).all (okP (B c))) := by
  have hlen := E5 s
  have hB : ∀ x : ByteArray, x.data.toList = B x := fun _ => rfl
  have key : ∀ (d n : Nat), n + d = s.size → ((B s).take n).all rngP = true → Ev (fun k => Ci.l0 k s c (s.size : Int) n) ((B s).all rngP && !Lib.containsAny (B s) (B c)) := by
    intro d
    induction d with
    | zero =>
      intro n hn hr
      obtain rfl : n = s.size := by omega
      rw [List.take_of_length_le (by omega)] at hr
      refine Ev.step (f := fun _ => some _) (fun k => ?_) (Ev.now _)
      simp only [Ci.l0]
      have ha : asciiB s = true := by
        unfold asciiB
        simp only [Bool.and_eq_true, decide_eq_true_eq, List.all_eq_true]
        refine ⟨hs, fun b hb => ?_⟩
        have := List.all_eq_true.1 hr b hb
        simp [rngP] at this; omega
      rw [if_neg (by omega)]
      unfold strings_ContainsAny.f
      rw [if_pos ⟨ha, hc⟩, hr, hB, hB]
      simp
    | succ d ih =>
      intro n hn hr
      have hl : n < (B s).length := by omega
      have hb := bt_B s n hl
      by_cases e : rngP (B s)[n] = true
      · refine Ev.step (f := fun k => Ci.l0 k s c (s.size : Int) ((n + 1 : Nat) : Int)) (fun k => ?_) (ih (n + 1) (by omega) (by rw [List.take_succ_eq_append_getElem hl, List.all_append, hr]; simp [e]))
        simp only [Ci.l0]
        simp [rngP] at e
        rw [if_pos (by omega), if_pos (by omega), if_pos (by omega), hb, if_neg (by omega), if_neg (by omega), wrap_succ (by omega)]
      · have hf : (B s).all rngP = false := by
          rw [List.all_eq_false]; exact ⟨_, List.getElem_mem hl, by simpa using e⟩
        rw [hf, Bool.false_and]
        refine Ev.step (f := fun _ => some false) (fun k => ?_) (Ev.now _)
        simp only [Ci.l0]
        simp [rngP] at e
        rw [if_pos (by omega), if_pos (by omega), if_pos (by omega), hb]
        by_cases z : ((B s)[n].toNat : Int) < 32
        · rw [if_pos z]
        · rw [if_neg z, if_pos (by have := e (by omega); omega)]
  have e : (B s).all (okP (B c)) = ((B s).all rngP && !Lib.containsAny (B s) (B c)) := by
    rw [containsAny_any]
    generalize B s = l
    induction l with
    | nil => rfl
    | cons b l ih =>
      simp only [List.all_cons, List.any_cons, ih, okP, rngP]
      cases decide (32 ≤ b.toNat) <;> cases decide (b.toNat ≤ 126) <;> cases (B c).contains b <;> cases l.all rngP <;> simp
  rw [e]
  exact Ev.congr (fun k => rfl) (key s.size 0 (by omega) (by simp))
theorem specPlain_ev (s : ByteArray) (m : Int) (hs : s.size < 4294967281) : Ev (fun k => Dh.f k s m) ((B s).all (okP [35]) && decide ((s.size : Int) ≤ m)) := by
  have hlen := E5 s
  have key : ∀ (d n : Nat), n + d = s.size → Ev (fun k => Dh.l0 k s m n) (((B s).drop n).all (okP [35]) && decide ((s.size : Int) ≤ m)) := by
    intro d
    induction d with
    | zero =>
      intro n hn
      obtain rfl : n = s.size := by omega
      refine Ev.step (f := fun _ => some _) (fun k => ?_) (Ev.now _)
      simp only [Dh.l0]
      rw [if_neg (by omega), List.drop_of_length_le (by omega)]
      simp
    | succ d ih =>
      intro n hn
      have hl : n < (B s).length := by omega
      have hb := bt_B s n hl
      rw [List.drop_eq_getElem_cons hl, List.all_cons]
      have h255 := bt_range s n
      have e35 : (([35] : List UInt8).contains (B s)[n]) = decide ((B s)[n].toNat = 35) := by
        by_cases z : (B s)[n] = 35
        · simp [z]
        · have : ¬ (B s)[n].toNat = 35 := fun y => z (UInt8.toNat_inj.1 (by simpa using y))
          simp [z, this]
      by_cases e : okP [35] (B s)[n] = true
      · rw [e, Bool.true_and]
        refine Ev.step (f := fun k => Dh.l0 k s m ((n + 1 : Nat) : Int)) (fun k => ?_) (ih (n + 1) (by omega))
        simp only [Dh.l0, l1In_eq']
        unfold okP at e
        rw [e35] at e
        simp only [Bool.and_eq_true, decide_eq_true_eq, Bool.not_eq_true', decide_eq_false_iff_not] at e
        rw [if_pos (by omega), if_pos (by omega), Gu (x := bt s n) (by omega) (by omega), hb, decide_eq_true (show (32 : Int) ≤ ((B s)[n].toNat : Int) by omega), decide_eq_true (show ((B s)[n].toNat : Int) ≤ 126 by omega)]
        simp only [Option.bind_some, Bool.and_self, if_true]
        rw [if_neg (by omega), wrap_succ (by omega)]
      · have e2 : okP [35] (B s)[n] = false := by simpa using e
        rw [e2, Bool.false_and, Bool.false_and]
        refine Ev.step (f := fun _ => some false) (fun k => ?_) (Ev.now _)
        simp only [Dh.l0, l1In_eq']
        unfold okP at e2
        rw [e35] at e2
        rw [if_pos (by omega), if_pos (by omega), Gu (x := bt s n) (by omega) (by omega), hb]
        by_cases c1 : 32 ≤ (B s)[n].toNat
        · by_cases c2 : (B s)[n].toNat ≤ 126
          · have c3 : (B s)[n].toNat = 35 := by simpa [c1, c2] using e2
            rw [decide_eq_true (show (32 : Int) ≤ ((B s)[n].toNat : Int) by omega), decide_eq_true (show ((B s)[n].toNat : Int) ≤ 126 by omega)]
            simp only [Option.bind_some, Bool.and_self, if_true]
            rw [if_pos (by omega)]
          · rw [decide_eq_false (show ¬ ((B s)[n].toNat : Int) ≤ 126 by omega)]; simp
        · rw [decide_eq_false (show ¬ (32 : Int) ≤ ((B s)[n].toNat : Int) by omega)]; simp
  exact Ev.congr (f := fun k => Dh.l0 k s m ((0 : Nat) : Int)) (fun k => rfl) (by simpa using key s.size 0 (by omega))
theorem specStands_ev (s : ByteArray) (c : UInt8) (hs : s.size < 4294967281) : Ev (fun k => Ea.f k s (c.toNat : Int)) ((B s).any fun b => b == c) := by
  have hlen := E5 s
  have key : ∀ (d n : Nat), n + d = s.size → Ev (fun k => Ea.l0 k s (c.toNat : Int) n) (((B s).drop n).any fun b => b == c) := by
    intro d
    induction d with
    | zero =>
      intro n hn
      obtain rfl : n = s.size := by omega
      refine Ev.step (f := fun _ => some _) (fun k => ?_) (Ev.now _)
      simp only [Ea.l0]
      rw [if_neg (by omega), List.drop_of_length_le (by omega)]
      simp
    | succ d ih =>
      intro n hn
      have hl : n < (B s).length := by omega
      have hb := bt_B s n hl
      rw [List.drop_eq_getElem_cons hl, List.any_cons]
      by_cases e : (B s)[n] = c
      · have : ((B s)[n] == c) = true := by simpa using e
        rw [this, Bool.true_or]
        refine Ev.step (f := fun _ => some true) (fun k => ?_) (Ev.now _)
        simp only [Ea.l0]
        rw [if_pos (by omega), if_pos (by omega), hb, if_pos (by rw [e])]
      · have : ((B s)[n] == c) = false := by simpa using e
        rw [this, Bool.false_or]
        refine Ev.step (f := fun k => Ea.l0 k s (c.toNat : Int) ((n + 1 : Nat) : Int)) (fun k => ?_) (ih (n + 1) (by omega))
        simp only [Ea.l0]
        rw [if_pos (by omega), if_pos (by omega), hb, if_neg (fun z => e (UInt8.toNat_inj.1 (by omega))), wrap_succ (by omega)]
  exact Ev.congr (f := fun k => Ea.l0 k s (c.toNat : Int) ((0 : Nat) : Int)) (fun k => rfl) (by simpa using key s.size 0 (by omega))
/-- Is it a record? -/
def Gh (c r : ByteArray) : Bool := decide (1 ≤ c.size) && decide (c.size ≤ 160) && (B c).all (okP [35, 64]) && decide (r.size ≤ 200) && (B r).all (okP [35])
def cmdOk (c : ByteArray) : Bool := decide (1 ≤ c.size) && decide (c.size ≤ 160) && (B c).all (okP [35, 64])
theorem implCmd_ev (c : ByteArray) : Ev (fun k => F9.f k c) (cmdOk c) := by
  unfold F9.f cmdOk
  simp only [within_eq', Option.bind_some]
  by_cases h : 1 ≤ c.size ∧ c.size ≤ 160
  · have h1 : (decide ((1 : Int) ≤ (c.size : Int)) && decide ((c.size : Int) ≤ 160)) = true := by simp; omega
    simp only [h1, if_true, h.1, h.2, decide_true, Bool.true_and]
    exact Ev.bind (implPrint_ev c _ (by omega) (by decide)) (Ev.now _)
  · have h1 : (decide ((1 : Int) ≤ (c.size : Int)) && decide ((c.size : Int) ≤ 160)) = false := by
      rw [Bool.and_eq_false_iff]; simp only [decide_eq_false_iff_not]; omega
    have h2 : (decide (1 ≤ c.size) && decide (c.size ≤ 160)) = false := by
      rw [Bool.and_eq_false_iff]; simp only [decide_eq_false_iff_not]; omega
    simp only [h1, h2, Bool.false_and, Bool.false_eq_true, if_false]
    exact Ev.now _
theorem implRec_ev (c r : ByteArray) : Ev (fun k => Ee.f k c r) (Gh c r) := by
  unfold Ee.f
  have e : Gh c r = (cmdOk c && (decide (r.size ≤ 200) && (B r).all (okP [35]))) := by simp [Gh, cmdOk, Bool.and_assoc]
  rw [e]
  refine Ev.bind (implCmd_ev c) ?_
  cases hc : cmdOk c with
  | false => simp only [Bool.false_and, Bool.false_eq_true, if_false]; exact Ev.now _
  | true =>
    simp only [Bool.true_and, if_true]
    by_cases h : r.size ≤ 200
    · simp only [if_pos (show (r.size : Int) ≤ 200 by omega), h, decide_true, Bool.true_and]
      exact Ev.bind (implPrint_ev r _ (by omega) (by decide)) (Ev.now _)
    · simp only [if_neg (show ¬ (r.size : Int) ≤ 200 by omega), h, decide_false, Bool.false_and]; exact Ev.now _
theorem okP_both (l : List UInt8) : l.all (okP [35, 64]) = (l.all (okP [35]) && !(l.any fun b => b == 64)) := by
  induction l with
  | nil => rfl
  | cons b l ih =>
    simp only [List.all_cons, List.any_cons, ih, okP, List.contains_cons, List.contains_nil]
    cases decide (32 ≤ b.toNat) <;> cases decide (b.toNat ≤ 126) <;> cases (b == 35) <;> cases (b == 64) <;> simp
theorem specRec_ev (c r : ByteArray) (hc : c.size < 4294967281) (hr : r.size < 4294967281) : Ev (fun k => Fj.f k c r) (Gh c r) := by
  unfold Fj.f
  rw [B_toList]
  by_cases h : B c = []
  · have h0 : c.size = 0 := by rw [← E5, h]; rfl
    simp only [if_pos h]
    have e : Gh c r = false := by simp [Gh, h0]
    rw [e]; exact Ev.now _
  · have h1 : 1 ≤ c.size := by
      rw [← E5]; exact Nat.one_le_iff_ne_zero.2 (fun z => h (List.length_eq_zero_iff.1 z))
    simp only [if_neg h]
    refine Ev.bind (specPlain_ev c 160 hc) ?_
    have e : Gh c r = (((B c).all (okP [35]) && decide ((c.size : Int) ≤ 160)) && (!((B c).any fun b => b == 64) && ((B r).all (okP [35]) && decide ((r.size : Int) ≤ 200)))) := by
      unfold Gh
      rw [okP_both, show decide (1 ≤ c.size) = true from decide_eq_true h1, show decide (c.size ≤ 160) = decide ((c.size : Int) ≤ 160) from by simp <;> omega, show decide (r.size ≤ 200) = decide ((r.size : Int) ≤ 200) from by simp <;> omega]
      cases decide ((c.size : Int) ≤ 160) <;> cases decide ((r.size : Int) ≤ 200) <;> cases (B c).all (okP [35]) <;> cases ((B c).any fun b => b == 64) <;> simp
    rw [e]
    cases hz : ((B c).all (okP [35]) && decide ((c.size : Int) ≤ 160)) with
    | false => simp only [Bool.false_and, Bool.false_eq_true, if_false]; exact Ev.now _
    | true =>
      simp only [Bool.true_and, if_true]
      refine Ev.bind (specStands_ev c 64 hc) ?_
      cases hy : ((B c).any fun b => b == 64) with
      | true => simp only [if_true, Bool.not_true, Bool.false_and]; exact Ev.now _
      | false =>
        simp only [Bool.false_eq_true, if_false, Bool.not_false, Bool.true_and]
        exact Ev.bind (specPlain_ev r 200 hr) (Ev.now _)
end Go.Proofs.YtcnmngiaebgjkaaDoor.X

namespace Go.Proofs.YtcnmngiaebgjkaaDoor.X
open Go.RowKit Go.Proofs.YtcnmngiaebgjkaaDoorW.PrintWords Go.Proofs.YtcnmngiaebgjkaaDoorL
theorem H6 (s t : ByteArray) : B (s ++ t) = B s ++ B t := by unfold B; simp
theorem B_mk (l : List UInt8) : B ⟨l.toArray⟩ = l := by simp [B]
theorem size_B (s : ByteArray) : s.size = (B s).length := (E5 s).symm
theorem mk_append (a b : List UInt8) : (⟨a.toArray⟩ : ByteArray) ++ ⟨b.toArray⟩ = ⟨(a ++ b).toArray⟩ := B_inj (by rw [H6, B_mk, B_mk, B_mk])
def dec (n : Int) : ByteArray := ⟨(Lib.itoa n).toArray⟩
theorem B_dec (n : Int) : B (dec n) = Lib.itoa n := B_mk _
theorem Io (n : Int) (h0 : -9223372036854775808 ≤ n) (h1 : n ≤ 9223372036854775807) : (dec n).size ≤ 21 := by
  rw [size_B, B_dec]; exact Lib.itoa_length_le n h0 h1
theorem implDec (n : Int) (h0 : -9223372036854775808 ≤ n) (h1 : n ≤ 9223372036854775807) : Fb.f n = some (dec n) := by
  unfold Fb.f H5.f
  rw [if_pos ⟨h0, h1⟩]
  rfl
theorem digit_cut (d : Nat) (h : d < 10) : (⟨#[48, 49, 50, 51, 52, 53, 54, 55, 56, 57]⟩ : ByteArray).extract d (d + 1) = ⟨[UInt8.ofNat (48 + d)].toArray⟩ := by
  have : d = 0 ∨ d = 1 ∨ d = 2 ∨ d = 3 ∨ d = 4 ∨ d = 5 ∨ d = 6 ∨ d = 7 ∨ d = 8 ∨ d = 9 := by omega
  rcases this with rfl | rfl | rfl | rfl | rfl | rfl | rfl | rfl | rfl | rfl <;> rfl
theorem decDigits_le (u : Nat) (h : u ≤ 9223372036854775807) : (Lib.decDigits u).length ≤ 21 := by
  have := Lib.itoa_length_le (u : Int) (by omega) (by omega)
  unfold Lib.itoa at this
  rw [if_neg (by omega), Int.toNat_natCast] at this
  exact this
theorem specNum_nat : ∀ (m u : Nat), u ≤ m → u ≤ 9223372036854775807 → Ev (fun k => Du.f k (u : Int)) ⟨(Lib.decDigits u).toArray⟩ := by
  intro m
  induction m with
  | zero =>
    intro u hu hb
    obtain rfl : u = 0 := by omega
    refine Ev.step (f := fun _ => some _) (fun k => ?_) (Ev.now _)
    simp only [Du.f]
    rw [if_neg (by omega), if_pos (by omega), if_pos (by omega), Gu (by omega) (by omega), if_pos (by omega), if_pos (by omega), Lib.decDigits, dif_pos (by omega)]
    rfl
  | succ m ih =>
    intro u hu hb
    by_cases h : u < 10
    · refine Ev.step (f := fun _ => some _) (fun k => ?_) (Ev.now _)
      simp only [Du.f]
      rw [if_neg (by omega), if_pos (by omega), if_pos (by omega), Gu (by omega) (by omega), if_pos (by omega), if_pos (by omega), Lib.decDigits, dif_pos h, ← digit_cut u h]
      rfl
    · have hd : wrap64 (Int.tdiv (u : Int) 10) = ((u / 10 : Nat) : Int) := by
        rw [Int.tdiv_eq_ediv_of_nonneg (by omega), Gu (by omega) (by omega)]; omega
      have hm : Int.tmod (u : Int) 10 = ((u % 10 : Nat) : Int) := by rw [Int.tmod_eq_emod_of_nonneg (by omega)]; omega
      refine Ev.step (f := fun k => (Du.f k ((u / 10 : Nat) : Int)).bind fun t => if t.size + (⟨[UInt8.ofNat (48 + u % 10)].toArray⟩ : ByteArray).size ≤ 9223372036854775807 then some (t ++ ⟨[UInt8.ofNat (48 + u % 10)].toArray⟩) else none) (fun k => ?_) ?_
      · simp only [Du.f]
        rw [if_neg (by omega), if_neg (by omega), hd, hm]
        congr 1
        funext t
        rw [if_pos (by omega), Gu (x := ((u % 10 : Nat) : Int) + 1) (by omega) (by omega), if_pos (by omega), if_pos (by omega)]
        have e : (((u % 10 : Nat) : Int) + 1).toNat = u % 10 + 1 := by omega
        rw [Int.toNat_natCast, e, digit_cut (u % 10) (by omega)]
      · have i1 := ih (u / 10) (by omega) (by omega)
        have hs := decDigits_le (u / 10) (by omega)
        refine Ev.bind i1 (Ev.congr (fun k => if_pos ?_) ?_)
        · rw [size_B, size_B, B_mk, B_mk]; simp only [List.length_cons, List.length_nil]; omega
        · rw [mk_append, Lib.decDigits.eq_1 u, dif_neg h]; exact Ev.now _
theorem specNum_ev (n : Int) (h0 : -9223372036854775807 ≤ n) (h1 : n ≤ 9223372036854775807) : Ev (fun k => Du.f k n) (dec n) := by
  by_cases h : n < 0
  · have e : wrap64 (-n) = ((n.natAbs : Nat) : Int) := by rw [Gu (by omega) (by omega)]; omega
    have hs := decDigits_le n.natAbs (by omega)
    refine Ev.step (f := fun k => (Du.f k ((n.natAbs : Nat) : Int)).bind fun t => if 1 + t.size ≤ 9223372036854775807 then some ((⟨#[45]⟩ : ByteArray) ++ t) else none) (fun k => ?_) (Ev.bind (specNum_nat n.natAbs n.natAbs (Nat.le_refl _) (by omega)) (Ev.congr (fun k => if_pos ?_) ?_))
    · simp only [Du.f]
      rw [if_pos h, e]
    · rw [size_B, B_mk]; omega
    · have : dec n = (⟨#[45]⟩ : ByteArray) ++ ⟨(Lib.decDigits n.natAbs).toArray⟩ := B_inj (by rw [H6, B_dec, B_mk]; unfold Lib.itoa; rw [if_pos h]; rfl)
      rw [this]; exact Ev.now _
  · obtain ⟨u, rfl⟩ : ∃ u : Nat, n = (u : Int) := ⟨n.toNat, by omega⟩
    have : dec (u : Int) = ⟨(Lib.decDigits u).toArray⟩ := by unfold dec Lib.itoa; rw [if_neg h, Int.toNat_natCast]
    rw [this]
    exact specNum_nat u u (Nat.le_refl _) (by omega)
end Go.Proofs.YtcnmngiaebgjkaaDoor.X

namespace Go.Proofs.YtcnmngiaebgjkaaDoor.X
open Go.RowKit Go.Proofs.YtcnmngiaebgjkaaDoorW.PrintWords Go.Proofs.YtcnmngiaebgjkaaDoorL
def sumStep (h : Int) (b : UInt8) : Int := Int.tmod (41 * h + (b.toNat : Int) + 1) 999979
def sumB (l : List UInt8) : Int := l.foldl sumStep 7
theorem sumStep_bound (h : Int) (b : UInt8) (h0 : 0 ≤ h) : 0 ≤ sumStep h b ∧ sumStep h b < 999979 := by
  have := b.toNat_lt
  exact ⟨Int.tmod_nonneg _ (by omega), Int.tmod_lt_of_pos _ (by omega)⟩
theorem Jq (l : List UInt8) (n : Nat) (h : n < l.length) : sumB (l.take (n + 1)) = sumStep (sumB (l.take n)) l[n] := by
  unfold sumB; rw [List.take_succ_eq_append_getElem h, List.foldl_append]; rfl
theorem sumB_bound (l : List UInt8) : ∀ n, n ≤ l.length → 0 ≤ sumB (l.take n) ∧ sumB (l.take n) < 999979 := by
  intro n
  induction n with
  | zero => intro _; simp [sumB]
  | succ n ih => intro h; rw [Jq l n (by omega)]; exact sumStep_bound _ _ (ih (by omega)).1
theorem sumB_ok (l : List UInt8) : 0 ≤ sumB l ∧ sumB l < 999979 := by have := sumB_bound l l.length (Nat.le_refl _); rwa [List.take_length] at this
theorem sum_expr (h : Int) (b : UInt8) (h0 : 0 ≤ h) (h1 : h < 999979) : Int.tmod (wrap64 ((wrap64 ((wrap64 (41 * h)) + (wrap64 (b.toNat : Int)))) + 1)) 999979 = sumStep h b := by
  have := b.toNat_lt
  unfold sumStep
  rw [Gu (x := 41 * h) (by omega) (by omega), Gu (x := (b.toNat : Int)) (by omega) (by omega), Gu (x := 41 * h + (b.toNat : Int)) (by omega) (by omega), Gu (x := 41 * h + (b.toNat : Int) + 1) (by omega) (by omega)]
theorem specSum_ev (s : ByteArray) (hs : s.size ≤ 1000000000) : Ev (fun k => Ff.f k s) (sumB (B s)) := by
  have key : ∀ (d n : Nat), n + d = (B s).length → Ev (fun k => Ff.l0 k s (sumB ((B s).take n)) n) (sumB (B s)) := by
    intro d
    induction d with
    | zero =>
      intro n hn
      obtain rfl : n = (B s).length := by omega
      rw [List.take_length]
      exact Ev.step (f := fun _ => some _) (fun k => by simp only [Ff.l0]; rw [if_neg (by rw [size_B]; omega)]) (Ev.now _)
    | succ d ih =>
      intro n hn
      have hb := sumB_bound (B s) n (by omega)
      have i1 := ih (n + 1) (by omega)
      rw [Jq _ n (by omega)] at i1
      rw [size_B] at hs
      refine Ev.step (fun k => ?_) i1
      simp only [Ff.l0]
      rw [if_pos (by rw [size_B]; omega), if_pos (by omega), bt_B s n (by omega), sum_expr _ _ hb.1 hb.2, wrap_succ (by omega)]
  exact key (B s).length 0 (by omega)
theorem implSum_ev (s : ByteArray) (hs : s.size ≤ 4000) : Ev (fun k => Ec.f k s) (sumB (B s), true) := by
  have key : ∀ (d n : Nat), n + d = (B s).length → Ev (fun k => Ec.l0 k s (sumB ((B s).take n)) (s.size : Int) n) (sumB (B s), true) := by
    intro d
    induction d with
    | zero =>
      intro n hn
      obtain rfl : n = (B s).length := by omega
      rw [List.take_length]
      exact Ev.step (f := fun _ => some _) (fun k => by simp only [Ec.l0]; rw [if_neg (by rw [size_B]; omega)]) (Ev.now _)
    | succ d ih =>
      intro n hn
      have hb := sumB_bound (B s) n (by omega)
      have i1 := ih (n + 1) (by omega)
      rw [Jq _ n (by omega)] at i1
      have hs2 := hs
      rw [size_B] at hs2
      refine Ev.step (fun k => ?_) i1
      simp only [Ec.l0]
      rw [if_pos (by rw [size_B]; omega), if_pos (by omega), if_pos (by rw [size_B]; omega), bt_B s n (by omega), sum_expr _ _ hb.1 hb.2, wrap_succ (by omega)]
  refine Ev.congr (fun k => ?_) (key (B s).length 0 (by omega))
  unfold Ec.f
  rw [if_neg (by omega)]
  rfl
/-- A text with its checksum. -/
def Gv (s : ByteArray) : ByteArray := (s ++ ⟨#[35]⟩) ++ dec (sumB (B s))
theorem Jj (s : ByteArray) : s.size + 2 ≤ (Gv s).size + 1 ∧ (Gv s).size ≤ s.size + 22 := by
  have h := sumB_ok (B s)
  have hd := Io (sumB (B s)) (by omega) (by omega)
  have : (Gv s).size = s.size + 1 + (dec (sumB (B s))).size := by unfold Gv; rw [ByteArray.size_append, ByteArray.size_append]; rfl
  omega
theorem specSeal_ev (s : ByteArray) (hs : s.size ≤ 1000000000) : Ev (fun k => Gx.f k s) (Gv s) := by
  have h := sumB_ok (B s)
  have hd := Io (sumB (B s)) (by omega) (by omega)
  unfold Gx.f
  simp only [if_pos (show s.size + 1 ≤ 9223372036854775807 by omega)]
  refine Ev.bind (specSum_ev s hs) (Ev.bind (specNum_ev _ (by omega) (by omega)) (Ev.congr (fun k => if_pos ?_) (Ev.now _)))
  rw [ByteArray.size_append]
  show s.size + 1 + _ ≤ _
  omega
theorem contains35 (s : ByteArray) (c : UInt8) : strings_Contains.f s ⟨#[c]⟩ = some ((B s).contains c) := by
  have e : stringslite_Index.f s ⟨#[c]⟩ = some (Lib.indexByte (B s) c) := rfl
  unfold strings_Contains.f strings_Index.f
  rw [e]
  simp only [Option.bind_some]
  rw [Lib.contains_iff_indexByte]
theorem implSeal_ev (s : ByteArray) (hs : s.size ≤ 3900) (hn : (B s).contains 35 = false) : Ev (fun k => D6.f k s) (Gv s, true) := by
  have h := sumB_ok (B s)
  have hd := Io (sumB (B s)) (by omega) (by omega)
  have hz := (Jj s).2
  unfold D6.f
  refine Ev.bind (implSum_ev s (by omega)) ?_
  simp only [if_pos (show s.size + 1 ≤ 9223372036854775807 by omega), implDec _ (show -9223372036854775808 ≤ sumB (B s) by omega) (show sumB (B s) ≤ 9223372036854775807 by omega), Option.bind_some, if_true]
  refine Ev.congr (fun k => ?_) (Ev.now _)
  rw [if_pos (by rw [ByteArray.size_append]; show s.size + 1 + _ ≤ _; omega), contains35, hn]
  simp only [Option.bind_some, Bool.false_eq_true, if_false]
  rw [if_neg]
  · rfl
  · show ¬ (((Gv s).size : Nat) : Int) > 4000
    omega
end Go.Proofs.YtcnmngiaebgjkaaDoor.X

namespace Go.Proofs.YtcnmngiaebgjkaaDoor.X
open Go.RowKit Go.Proofs.YtcnmngiaebgjkaaDoorW.PrintWords Go.Proofs.YtcnmngiaebgjkaaDoorL
def F5 (n : Int) (c r : ByteArray) : ByteArray := (((dec n ++ ⟨#[32]⟩) ++ c) ++ ⟨#[64]⟩) ++ r
def Gz (n : Int) (c r : ByteArray) : ByteArray := Gv (F5 n c r) ++ ⟨#[10]⟩
theorem bodyOf_size (n : Int) (c r : ByteArray) : (F5 n c r).size = (dec n).size + 1 + c.size + 1 + r.size := by
  unfold F5; simp only [ByteArray.size_append]; rfl
theorem rec_sizes {c r : ByteArray} (h : Gh c r = true) : 1 ≤ c.size ∧ c.size ≤ 160 ∧ r.size ≤ 200 := by
  unfold Gh at h; simp only [Bool.and_eq_true, decide_eq_true_eq] at h; omega
theorem ok35 {l c : List UInt8} (hc : c.contains 35 = true) (h : l.all (okP c) = true) : l.contains 35 = false := by
  rw [List.contains_eq_any_beq]
  rw [List.all_eq_true] at h
  rw [List.any_eq_false]
  intro x hx
  have := h x hx
  unfold okP at this
  simp only [Bool.and_eq_true, Bool.not_eq_true'] at this
  intro e
  have e2 : 35 = x := by simpa using e
  subst e2
  rw [hc] at this
  simp at this
theorem dec_no35 (n : Int) (h0 : 0 ≤ n) (h1 : n ≤ 59) : (B (dec n)).contains 35 = false := by
  obtain ⟨u, rfl⟩ : ∃ u : Nat, n = (u : Int) := ⟨n.toNat, by omega⟩
  rw [B_dec]
  have : u < 60 := by omega
  clear h0 h1
  unfold Lib.itoa
  rw [if_neg (by omega), Int.toNat_natCast]
  rw [Lib.decDigits]
  by_cases h : u < 10
  · rw [dif_pos h]
    have : ∀ v : Fin 10, ([UInt8.ofNat (48 + v.val)] : List UInt8).contains 35 = false := by decide
    exact this ⟨u, h⟩
  · rw [dif_neg h, Lib.decDigits, dif_pos (by omega)]
    have : ∀ v w : Fin 10, ([UInt8.ofNat (48 + v.val)] ++ [UInt8.ofNat (48 + w.val)] : List UInt8).contains 35 = false := by decide
    exact this ⟨u / 10, by omega⟩ ⟨u % 10, by omega⟩
theorem body_no35 {n : Int} {c r : ByteArray} (h0 : 0 ≤ n) (h1 : n ≤ 59) (h : Gh c r = true) : (B (F5 n c r)).contains 35 = false := by
  unfold Gh at h
  simp only [Bool.and_eq_true] at h
  have hc := ok35 (c := [35, 64]) (by decide) (show (B c).all (okP [35, 64]) = true by simp [h])
  have hr := ok35 (c := [35]) (by decide) (show (B r).all (okP [35]) = true by simp [h])
  have hd := dec_no35 n h0 h1
  unfold F5
  simp only [H6, List.contains_eq_any_beq, List.any_append] at hc hr hd ⊢
  rw [hc, hr, hd]
  rfl
theorem implLine_ev (n : Int) (c r : ByteArray) (h0 : 0 ≤ n) (h1 : n ≤ 59) (h : Gh c r = true) : Ev (fun k => Dc.f k n c r) (Gz n c r) := by
  obtain ⟨s1, s2, s3⟩ := rec_sizes h
  have hd := Io n (by omega) (by omega)
  have hb := bodyOf_size n c r
  have hz := (Jj (F5 n c r)).2
  unfold Dc.f
  rw [implDec n (by omega) (by omega)]
  simp only [Option.bind_some]
  refine Ev.congr (f := fun k => (D6.f k (F5 n c r)).bind fun bt157 => (if bt157.1.size + 1 ≤ 9223372036854775807 then (some (bt157.1 ++ (⟨#[10]⟩ : ByteArray))) else (none))) (fun k => ?_) (Ev.bind (implSeal_ev _ (by omega) (body_no35 h0 h1 h)) (Ev.congr (fun k => if_pos (by show (Gv (F5 n c r)).size + 1 ≤ _; omega)) (Ev.now _)))
  have z1 : (dec n ++ (⟨#[32]⟩ : ByteArray)).size = (dec n).size + 1 := by rw [ByteArray.size_append]; rfl
  have z2 : ((dec n ++ (⟨#[32]⟩ : ByteArray)) ++ c).size = (dec n).size + 1 + c.size := by rw [ByteArray.size_append, z1]
  have z3 : (((dec n ++ (⟨#[32]⟩ : ByteArray)) ++ c) ++ (⟨#[64]⟩ : ByteArray)).size = (dec n).size + 1 + c.size + 1 := by rw [ByteArray.size_append, z2]; rfl
  rw [if_pos (by omega), if_pos (by omega), if_pos (by omega), if_pos (by omega)]
  rfl
theorem specLine_ev (n : Int) (c r : ByteArray) (h0 : 0 ≤ n) (h1 : n ≤ 59) (h : Gh c r = true) : Ev (fun k => Es.f k n c r) (Gz n c r) := by
  obtain ⟨s1, s2, s3⟩ := rec_sizes h
  have hd := Io n (by omega) (by omega)
  have hb := bodyOf_size n c r
  have hz := (Jj (F5 n c r)).2
  unfold Es.f
  refine Ev.bind (specNum_ev n (by omega) (by omega)) ?_
  refine Ev.congr (f := fun k => (Gx.f k (F5 n c r)).bind fun t113 => (if t113.size + 1 ≤ 9223372036854775807 then (some (t113 ++ (⟨#[10]⟩ : ByteArray))) else (none))) (fun k => ?_) (Ev.bind (specSeal_ev _ (by omega)) (Ev.congr (fun k => if_pos (by omega)) (Ev.now _)))
  have z1 : (dec n ++ (⟨#[32]⟩ : ByteArray)).size = (dec n).size + 1 := by rw [ByteArray.size_append]; rfl
  have z2 : ((dec n ++ (⟨#[32]⟩ : ByteArray)) ++ c).size = (dec n).size + 1 + c.size := by rw [ByteArray.size_append, z1]
  have z3 : (((dec n ++ (⟨#[32]⟩ : ByteArray)) ++ c) ++ (⟨#[64]⟩ : ByteArray)).size = (dec n).size + 1 + c.size + 1 := by rw [ByteArray.size_append, z2]; rfl
  rw [if_pos (by omega), if_pos (by omega), if_pos (by omega), if_pos (by omega)]
  rfl
end Go.Proofs.YtcnmngiaebgjkaaDoor.X

namespace Go.Proofs.YtcnmngiaebgjkaaDoor.X
open Go.RowKit Go.Proofs.YtcnmngiaebgjkaaDoorW.PrintWords Go.Proofs.YtcnmngiaebgjkaaDoorL
def mk (l : List UInt8) : ByteArray := ⟨l.toArray⟩
theorem G7 (l : List UInt8) : B (mk l) = l := B_mk l
theorem Il (s : ByteArray) : mk (B s) = s := B_inj (B_mk _)
theorem H8 (l : List UInt8) : (mk l).size = l.length := by rw [size_B, G7]
theorem Ij (s : ByteArray) (i j : Nat) : B (s.extract i j) = ((B s).drop i).take (j - i) := by
  unfold B; simp [List.extract_eq_take_drop]
def Et (c : UInt8) : List UInt8 → List UInt8 × List UInt8 × Bool
  | [] => ([], [], false)
  | b :: l => if b = c then ([], l, true) else (b :: (Et c l).1, (Et c l).2.1, (Et c l).2.2)
theorem cutL_hit (c : UInt8) : ∀ (a b : List UInt8), c ∉ a → Et c (a ++ c :: b) = (a, b, true)
  | [], b, _ => by simp [Et]
  | x :: a, b, h => by
    have hx : x ≠ c := fun e => h (by simp [e])
    have ih := cutL_hit c a b (fun e => h (by simp [e]))
    simp only [List.cons_append, Et, if_neg hx, ih]
theorem Jh (c : UInt8) : ∀ l : List UInt8, (Et c l).2.2 = true → l = (Et c l).1 ++ c :: (Et c l).2.1
  | [], h => by simp [Et] at h
  | x :: l, h => by
    by_cases hx : x = c
    · subst hx; simp [Et]
    · simp only [Et, if_neg hx] at h ⊢
      have := Jh c l h
      rw [List.cons_append, ← this]
theorem cutL_notin (c : UInt8) : ∀ l : List UInt8, c ∉ (Et c l).1
  | [] => by simp [Et]
  | x :: l => by
    by_cases hx : x = c
    · subst hx; simp [Et]
    · simp only [Et, if_neg hx, List.mem_cons, not_or]
      exact ⟨fun e => hx e.symm, cutL_notin c l⟩
theorem cutL_lost (c : UInt8) : ∀ l : List UInt8, (Et c l).2.2 = false → Et c l = (l, [], false)
  | [], h => rfl
  | x :: l, h => by
    by_cases hx : x = c
    · subst hx; simp [Et] at h
    · simp only [Et, if_neg hx] at h ⊢
      rw [cutL_lost c l h]
theorem cutL_index (c : UInt8) : ∀ l : List UInt8, Lib.indexByte l c = if (Et c l).2.2 = true then ((Et c l).1.length : Int) else -1
  | [] => by simp [Et, Lib.indexByte]
  | x :: l => by
    by_cases hx : x = c
    · subst hx; simp [Et, Lib.indexByte]
    · have hb : (x == c) = false := by simpa using hx
      have ih := cutL_index c l
      simp only [Et, if_neg hx, Lib.indexByte, hb, Bool.false_eq_true, if_false, ih]
      by_cases h : (Et c l).2.2 = true
      · rw [if_pos h, if_pos h, if_neg (by simp <;> omega)]; simp
      · rw [if_neg h, if_neg h]; simp
theorem stringsCut_eq (s : ByteArray) (c : UInt8) (hs : s.size ≤ 9223372036854775807) : strings_Cut.f s ⟨#[c]⟩ = some (mk (Et c (B s)).1, mk (Et c (B s)).2.1, (Et c (B s)).2.2) := by
  have e : stringslite_Index.f s ⟨#[c]⟩ = some (Lib.indexByte (B s) c) := rfl
  have h1 : (⟨#[c]⟩ : ByteArray).size = 1 := rfl
  unfold strings_Cut.f stringslite_Cut.f
  rw [e, cutL_index]
  simp only [Option.bind_some]
  by_cases h : (Et c (B s)).2.2 = true
  · have hf := Jh c (B s) h
    have hl : (B s).length = (Et c (B s)).1.length + 1 + (Et c (B s)).2.1.length := by
      conv => lhs; rw [hf]
      simp; omega
    rw [E5] at hl
    simp only [if_pos h]
    rw [if_pos (by omega), if_pos (by omega), if_pos (by omega), h1, Gu (by omega) (by omega), if_pos (by omega), if_pos (by omega)]
    simp only [Option.bind_some, Option.some.injEq, Prod.mk.injEq]
    generalize (Et c (B s)).1 = a at *
    generalize (Et c (B s)).2.1 = b at *
    refine ⟨B_inj ?_, B_inj ?_, h.symm⟩
    · rw [Ij, G7, hf]
      simp
    · rw [Ij, G7, hf]
      rw [show ((a.length : Int) + ((1 : Nat) : Int)).toNat = a.length + 1 by omega]
      rw [List.take_of_length_le (by simp; omega)]
      rw [List.drop_append, List.drop_of_length_le (by omega)]
      simp
  · have hl := cutL_lost c (B s) (by simpa using h)
    simp only [if_neg h]
    rw [if_neg (by omega), hl]
    simp only [Option.bind_some, Il]
    rfl
/-- A text's pieces between all of a byte. -/
def Ia (p : List UInt8) : List (List UInt8) → List (List UInt8)
  | [] => [p]
  | q :: r => (p ++ q) :: r
def pieces (c : UInt8) : List UInt8 → List (List UInt8)
  | [] => [[]]
  | b :: l => if b = c then [] :: pieces c l else Ia [b] (pieces c l)
theorem pieces_ne (c : UInt8) : ∀ l, pieces c l ≠ []
  | [] => by simp [pieces]
  | b :: l => by
    unfold pieces
    by_cases h : b = c
    · rw [if_pos h]; simp
    · rw [if_neg h]; cases pieces c l <;> simp [Ia]
theorem addHead_two (p q : List UInt8) (r : List (List UInt8)) : Ia p (Ia q r) = Ia (p ++ q) r := by cases r <;> simp [Ia]
theorem addHead_nil (c : UInt8) (l : List UInt8) : Ia [] (pieces c l) = pieces c l := by
  cases h : pieces c l with
  | nil => exact absurd h (pieces_ne c l)
  | cons a b => simp [Ia]
theorem addHead_length (p : List UInt8) (c : UInt8) (l : List UInt8) : (Ia p (pieces c l)).length = (pieces c l).length := by
  cases h : pieces c l with
  | nil => exact absurd h (pieces_ne c l)
  | cons a b => simp [Ia]
theorem pieces_head (c : UInt8) : ∀ l : List UInt8, (pieces c l)[0]? = some (Et c l).1
  | [] => rfl
  | b :: l => by
    have ih := pieces_head c l
    unfold pieces Et
    by_cases h : b = c
    · rw [if_pos h, if_pos h]; rfl
    · rw [if_neg h, if_neg h]
      cases hp : pieces c l with
      | nil => exact absurd hp (pieces_ne c l)
      | cons a r => rw [hp] at ih; simp at ih; simp [Ia, ih]
theorem pieces_two (c : UInt8) : ∀ l : List UInt8, (2 ≤ (pieces c l).length) = ((Et c l).2.2 = true)
  | [] => by simp [pieces, Et]
  | b :: l => by
    have ih := pieces_two c l
    unfold pieces Et
    by_cases h : b = c
    · rw [if_pos h, if_pos h]
      have := List.length_pos_iff.2 (pieces_ne c l)
      simp; omega
    · rw [if_neg h, if_neg h, addHead_length]; exact ih
theorem pieces_length (c : UInt8) : ∀ l : List UInt8, 1 ≤ (pieces c l).length ∧ (pieces c l).length ≤ l.length + 1
  | [] => by simp [pieces]
  | b :: l => by
    have ih := pieces_length c l
    unfold pieces
    by_cases h : b = c
    · rw [if_pos h]; simp; omega
    · rw [if_neg h, addHead_length]; simp; omega
def seg (s : ByteArray) (i j : Nat) : List UInt8 := ((B s).drop i).take (j - i)
theorem seg_succ (s : ByteArray) (i j : Nat) (h : i ≤ j) (hj : j < (B s).length) : seg s i (j + 1) = seg s i j ++ [(B s)[j]] := by
  unfold seg
  rw [show j + 1 - i = (j - i) + 1 by omega, List.take_succ_eq_append_getElem (by simp; omega)]
  simp [show i + (j - i) = j by omega]
theorem specSplit_ev (s : ByteArray) (c : UInt8) (hs : s.size ≤ 1000000000) : Ev (fun k => Cb.f k s (c.toNat : Int)) ((pieces c (B s)).map mk) := by
  have hlen := E5 s
  have key : ∀ (d i st : Nat) (xs : List ByteArray), i + d = (B s).length → st ≤ i → xs.length ≤ i →
      Ev (fun k => Cb.l0 k s (c.toNat : Int) xs st i) (xs ++ (Ia (seg s st i) (pieces c ((B s).drop i))).map mk) := by
    intro d
    induction d with
    | zero =>
      intro i st xs hi hst hx
      obtain rfl : i = (B s).length := by omega
      refine Ev.step (f := fun _ => some _) (fun k => ?_) (Ev.now _)
      simp only [Cb.l0]
      rw [if_neg (by omega), if_pos (by omega), if_pos (by omega), if_pos (by omega), List.drop_length]
      have e : s.extract (st : Int).toNat s.size = mk (seg s st (B s).length) := B_inj (by rw [Ij, G7, hlen]; rfl)
      rw [e]
      simp [pieces, Ia]
    | succ d ih =>
      intro i st xs hi hst hx
      have hl : i < (B s).length := by omega
      have hb := bt_B s i hl
      rw [List.drop_eq_getElem_cons hl]
      unfold pieces
      by_cases e : (B s)[i] = c
      · rw [if_pos e]
        have i1 := ih (i + 1) (i + 1) (xs ++ [mk (seg s st i)]) (by omega) (by omega) (by simp; omega)
        have e0 : seg s (i + 1) (i + 1) = [] := by simp [seg]
        rw [e0, addHead_nil] at i1
        have e1 : Ia (seg s st i) ([] :: pieces c ((B s).drop (i + 1))) = seg s st i :: pieces c ((B s).drop (i + 1)) := by simp [Ia]
        rw [e1, List.map_cons]
        rw [List.append_assoc] at i1
        refine Ev.step (fun k => ?_) i1
        simp only [Cb.l0]
        have e2 : s.extract (st : Int).toNat (i : Int).toNat = mk (seg s st i) := B_inj (by rw [Ij, G7]; rfl)
        rw [if_pos (by omega), if_pos (by omega), hb, e, if_pos rfl, if_pos (by omega), if_pos (by omega), if_pos (by omega), if_pos (by omega), e2, wrap_succ (by omega)]
      · rw [if_neg e]
        have i1 := ih (i + 1) st xs (by omega) (by omega) (by omega)
        rw [seg_succ s st i hst hl, ← addHead_two] at i1
        refine Ev.step (fun k => ?_) i1
        simp only [Cb.l0]
        rw [if_pos (by omega), if_pos (by omega), hb, if_neg (fun z => e (UInt8.toNat_inj.1 (by omega))), wrap_succ (by omega)]
  have := key (B s).length 0 0 [] (by omega) (by omega) (by simp)
  have e0 : seg s 0 0 = [] := by simp [seg]
  rw [e0, List.drop_zero, addHead_nil, List.nil_append] at this
  exact this
end Go.Proofs.YtcnmngiaebgjkaaDoor.X

namespace Go.Proofs.YtcnmngiaebgjkaaDoor.X
open Go.RowKit Go.Proofs.YtcnmngiaebgjkaaDoorW.PrintWords Go.Proofs.YtcnmngiaebgjkaaDoorL
theorem digit_range (d : Nat) (h : d < 10) : 48 ≤ (UInt8.ofNat (48 + d)).toNat ∧ (UInt8.ofNat (48 + d)).toNat ≤ 57 := by
  have : (UInt8.ofNat (48 + d)).toNat = 48 + d := by simp; omega
  omega
theorem decDigits_range : ∀ (m u : Nat), u ≤ m → ∀ b ∈ Lib.decDigits u, 48 ≤ b.toNat ∧ b.toNat ≤ 57 := by
  intro m
  induction m with
  | zero =>
    intro u hu b hb
    rw [Lib.decDigits, dif_pos (by omega)] at hb
    simp only [List.mem_singleton] at hb
    subst hb; exact digit_range u (by omega)
  | succ m ih =>
    intro u hu b hb
    by_cases h : u < 10
    · rw [Lib.decDigits, dif_pos h] at hb
      simp only [List.mem_singleton] at hb
      subst hb; exact digit_range u h
    · rw [Lib.decDigits.eq_1 u, dif_neg h] at hb
      rcases List.mem_append.1 hb with hb | hb
      · exact ih (u / 10) (by omega) b hb
      · simp only [List.mem_singleton] at hb
        subst hb; exact digit_range (u % 10) (by omega)
theorem itoa_range (n : Int) (h : 0 ≤ n) : ∀ b ∈ Lib.itoa n, 48 ≤ b.toNat ∧ b.toNat ≤ 57 := by
  unfold Lib.itoa
  rw [if_neg (by omega)]
  exact decDigits_range _ _ (Nat.le_refl _)
theorem B_sealed (s : ByteArray) : B (Gv s) = B s ++ 35 :: Lib.itoa (sumB (B s)) := by
  unfold Gv
  rw [H6, H6, B_dec, List.append_assoc]; rfl
theorem B_body (n : Int) (c r : ByteArray) : B (F5 n c r) = Lib.itoa n ++ 32 :: (B c ++ 64 :: B r) := by
  unfold F5
  simp only [H6, B_dec, List.append_assoc]; rfl
theorem B_line (n : Int) (c r : ByteArray) : B (Gz n c r) = B (Gv (F5 n c r)) ++ [10] := by
  unfold Gz; rw [H6]; rfl
theorem all_range {l bad : List UInt8} (h : l.all (okP bad) = true) : ∀ b ∈ l, 32 ≤ b.toNat ∧ b.toNat ≤ 126 := by
  intro b hb
  have := List.all_eq_true.1 h b hb
  unfold okP at this
  simp only [Bool.and_eq_true, decide_eq_true_eq] at this
  exact this.1
theorem rec_parts {c r : ByteArray} (h : Gh c r = true) : (∀ b ∈ B c, 32 ≤ b.toNat ∧ b.toNat ≤ 126) ∧ (∀ b ∈ B r, 32 ≤ b.toNat ∧ b.toNat ≤ 126) ∧ (64 : UInt8) ∉ B c := by
  unfold Gh at h
  simp only [Bool.and_eq_true] at h
  refine ⟨all_range h.1.1.2, all_range h.2, fun hm => ?_⟩
  have := List.all_eq_true.1 h.1.1.2 _ hm
  simp [okP] at this
theorem sealed_range {n : Int} {c r : ByteArray} (h0 : 0 ≤ n) (h : Gh c r = true) : ∀ b ∈ B (Gv (F5 n c r)), 32 ≤ b.toNat ∧ b.toNat ≤ 126 := by
  intro b hb
  rw [B_sealed, B_body] at hb
  obtain ⟨hc, hr, _⟩ := rec_parts h
  have hn := itoa_range n h0
  have hs := itoa_range (sumB (Lib.itoa n ++ 32 :: (B c ++ 64 :: B r))) (sumB_ok _).1
  simp only [List.mem_append, List.mem_cons] at hb
  rcases hb with ((hb | rfl | hb | rfl | hb) | rfl | hb)
  · have := hn b hb; omega
  · decide
  · exact hc b hb
  · decide
  · exact hr b hb
  · decide
  · have := hs b hb; omega
theorem sealed_no10 {n : Int} {c r : ByteArray} (h0 : 0 ≤ n) (h : Gh c r = true) : (10 : UInt8) ∉ B (Gv (F5 n c r)) := fun hm => by
  have := (sealed_range h0 h _ hm).1
  revert this; decide
theorem body_not35 {n : Int} {c r : ByteArray} (h0 : 0 ≤ n) (h1 : n ≤ 59) (h : Gh c r = true) : (35 : UInt8) ∉ B (F5 n c r) := fun hm => by
  have := body_no35 h0 h1 h
  rw [List.contains_eq_any_beq, List.any_eq_false] at this
  exact this _ hm (by simp)
/-- A text begins with the n-th record, and t follows. -/
def Hy (n : Int) (s : List UInt8) (c r : ByteArray) (t : List UInt8) : Prop := Gh c r = true ∧ s = B (Gz n c r) ++ t
theorem Hy.line {n : Int} {s : List UInt8} {c r : ByteArray} {t : List UInt8} (h0 : 0 ≤ n) (h : Hy n s c r t) : Et 10 s = (B (Gv (F5 n c r)), t, true) := by
  rw [h.2, B_line, List.append_assoc]
  exact cutL_hit 10 _ _ (sealed_no10 h0 h.1)
theorem body_cut {n : Int} {c r : ByteArray} (h0 : 0 ≤ n) (h1 : n ≤ 59) (h : Gh c r = true) : Et 35 (B (Gv (F5 n c r))) = (B (F5 n c r), Lib.itoa (sumB (B (F5 n c r))), true) := by
  rw [B_sealed]
  exact cutL_hit 35 _ _ (body_not35 h0 h1 h)
theorem ask_cut {c r : ByteArray} (h : Gh c r = true) : Et 64 (B c ++ 64 :: B r) = (B c, B r, true) := cutL_hit 64 _ _ (rec_parts h).2.2
theorem line_inj {n : Int} {c r c' r' : ByteArray} (h0 : 0 ≤ n) (h1 : n ≤ 59) (h : Gh c r = true) (h' : Gh c' r' = true) (e : B (Gv (F5 n c r)) = B (Gv (F5 n c' r'))) : c = c' ∧ r = r' := by
  have e1 := body_cut h0 h1 h
  have e2 := body_cut h0 h1 h'
  rw [e, e2] at e1
  simp only [Prod.mk.injEq] at e1
  have e3 := e1.1
  rw [B_body, B_body] at e3
  have e4 := List.append_cancel_left e3
  simp only [List.cons.injEq, true_and] at e4
  have e5 := ask_cut h
  rw [← e4, ask_cut h'] at e5
  simp only [Prod.mk.injEq] at e5
  exact ⟨(B_inj e5.1).symm, (B_inj e5.2.1).symm⟩
theorem Hy.inj {n : Int} {s : List UInt8} {c r c' r' : ByteArray} {t t' : List UInt8} (h0 : 0 ≤ n) (h1 : n ≤ 59) (h : Hy n s c r t) (h' : Hy n s c' r' t') : c = c' ∧ r = r' ∧ t = t' := by
  have e1 := h.line h0
  rw [h'.line h0] at e1
  simp only [Prod.mk.injEq] at e1
  obtain ⟨a, b⟩ := line_inj h0 h1 h.1 h'.1 e1.1.symm
  exact ⟨a, b, e1.2.1.symm⟩
-- the checksum of whatever text
def apC (s : ByteArray) : ByteArray × Bool := if s.size ≤ 4000 ∧ (Gv s).size ≤ 4000 then (Gv s, true) else (⟨#[]⟩, false)
theorem implSeal_any (s : ByteArray) (hs : s.size ≤ 1000000000) (hn : (35 : UInt8) ∉ B s) : Ev (fun k => D6.f k s) (apC s) := by
  have hb := sumB_ok (B s)
  have hd := Io (sumB (B s)) (by omega) (by omega)
  have hn2 : (B s).contains 35 = false := by
    rw [List.contains_eq_any_beq, List.any_eq_false]
    intro x hx e
    have : (35 : UInt8) = x := by simpa using e
    exact hn (this ▸ hx)
  unfold D6.f apC
  by_cases h : s.size ≤ 4000
  · refine Ev.bind (implSum_ev s h) ?_
    simp only [if_pos (show s.size + 1 ≤ 9223372036854775807 by omega), implDec _ (show -9223372036854775808 ≤ sumB (B s) by omega) (show sumB (B s) ≤ 9223372036854775807 by omega), Option.bind_some, if_true]
    refine Ev.congr (fun k => ?_) (Ev.now _)
    rw [if_pos (by rw [ByteArray.size_append]; show s.size + 1 + _ ≤ _; omega), contains35, hn2]
    simp only [Option.bind_some, Bool.false_eq_true, if_false]
    rw [show (s ++ (⟨#[35]⟩ : ByteArray)) ++ dec (sumB (B s)) = Gv s from rfl]
    by_cases h2 : (Gv s).size ≤ 4000
    · rw [if_neg (by omega), if_pos ⟨h, h2⟩]
    · rw [if_pos (by omega), if_neg (fun z => h2 z.2)]
  · rw [if_neg (fun z => h z.1)]
    refine Ev.bind (Ev.congr (f := fun _ => some (0, false)) (fun k => by unfold Ec.f; rw [if_pos (by omega)]) (Ev.now _)) ?_
    have z0 := Io 0 (by omega) (by omega)
    simp only [if_pos (show s.size + 1 ≤ 9223372036854775807 by omega), implDec 0 (by omega) (by omega), Option.bind_some]
    refine Ev.congr (fun k => ?_) (Ev.now _)
    rw [if_pos (by rw [ByteArray.size_append]; show s.size + 1 + _ ≤ _; omega)]
    simp
theorem toList_eq (s t : ByteArray) : (s.toList = t.toList) = (s = t) := by
  rw [B_toList, B_toList]; exact propext ⟨B_inj, fun h => by rw [h]⟩
def veri (s : ByteArray) : ByteArray × Bool := if (apC (mk (Et 35 (B s)).1)).2 = true ∧ (apC (mk (Et 35 (B s)).1)).1 = s then (mk (Et 35 (B s)).1, true) else (⟨#[]⟩, false)
theorem cut_size (c : UInt8) (l : List UInt8) : (Et c l).1.length ≤ l.length ∧ (Et c l).2.1.length ≤ l.length := by
  by_cases h : (Et c l).2.2 = true
  · have := congrArg List.length (Jh c l h)
    simp at this; omega
  · rw [cutL_lost c l (by simpa using h)]; simp
theorem implVeri_ev (s : ByteArray) (hs : s.size ≤ 1000000000) : Ev (fun k => Ej.f k s) (veri s) := by
  have hc := (cut_size 35 (B s)).1
  rw [E5] at hc
  unfold Ej.f veri
  rw [stringsCut_eq s 35 (by omega)]
  simp only [Option.bind_some]
  refine Ev.bind (implSeal_any _ (by rw [H8]; omega) (by rw [G7]; exact cutL_notin 35 _)) ?_
  generalize apC (mk (Et 35 (B s)).1) = p
  simp only [toList_eq]
  by_cases h : p.2 = true
  · simp only [if_pos h, h, true_and]
    by_cases h2 : p.1 = s
    · simp only [if_pos h2]; exact Ev.now _
    · simp only [if_neg h2]; exact Ev.now _
  · simp only [if_neg h, h, false_and, if_false]; exact Ev.now _
theorem veri_rec {n : Int} {c r : ByteArray} (h0 : 0 ≤ n) (h1 : n ≤ 59) (h : Gh c r = true) : veri (Gv (F5 n c r)) = (F5 n c r, true) := by
  obtain ⟨s1, s2, s3⟩ := rec_sizes h
  have hd := Io n (by omega) (by omega)
  have hb := bodyOf_size n c r
  have hz := (Jj (F5 n c r)).2
  have ha : apC (F5 n c r) = (Gv (F5 n c r), true) := by unfold apC; rw [if_pos ⟨by omega, by omega⟩]
  unfold veri
  rw [body_cut h0 h1 h, Il, ha]
  simp
theorem stringsCutPrefix_eq (s p : ByteArray) (hs : s.size ≤ 9223372036854775807) (hp : p.size ≤ 9223372036854775807) : strings_CutPrefix.f s p = some (if (B p).isPrefixOf (B s) = true then (mk ((B s).drop (B p).length), true) else (s, false)) := by
  have hsl := E5 s
  have hpl := E5 p
  unfold strings_CutPrefix.f stringslite_CutPrefix.f
  have e : stringslite_HasPrefix.f s p = some ((B p).isPrefixOf (B s)) := by
    unfold stringslite_HasPrefix.f
    by_cases h : (s.size : Int) ≥ (p.size : Int)
    · have hx : s.extract 0 (p.size : Int).toNat = mk ((B s).take (B p).length) := B_inj (by rw [Ij, G7, hpl]; rfl)
      simp only [if_pos h]
      repeat' (first | rw [if_pos (by omega)])
      rw [hx, B_toList, B_toList, G7]
      simp only [Option.some.injEq]
      rw [Bool.eq_iff_iff]
      simp only [beq_iff_eq, List.isPrefixOf_iff_prefix]
      constructor
      · intro z; rw [← z]; exact List.take_prefix _ _
      · intro z; exact (List.prefix_iff_eq_take.1 z).symm
    · simp only [if_neg h]
      congr 1
      symm
      rw [Bool.eq_false_iff]
      intro z
      have := (List.isPrefixOf_iff_prefix.1 z).length_le
      omega
  rw [e]
  simp only [Option.bind_some]
  by_cases h : (B p).isPrefixOf (B s) = true
  · have := (List.isPrefixOf_iff_prefix.1 h).length_le
    rw [if_pos h, if_pos h, if_pos (by omega), if_pos (by omega)]
    simp only [Option.bind_some, Option.some.injEq, Prod.mk.injEq, and_true]
    refine B_inj ?_
    rw [Ij, G7, hpl, Int.toNat_natCast, List.take_of_length_le (by simp; omega)]
  · rw [if_neg h, if_neg h]; rfl
end Go.Proofs.YtcnmngiaebgjkaaDoor.X

namespace Go.Proofs.YtcnmngiaebgjkaaDoor.X
open Go.RowKit Go.Proofs.YtcnmngiaebgjkaaDoorW.PrintWords Go.Proofs.YtcnmngiaebgjkaaDoorL
theorem exB {α β : Type} {f : Nat → Option α} {g : Nat → α → Option β} {Q : β → Prop} {a : α} (hf : Ev f a) (h : ∃ v, Ev (fun k => g k a) v ∧ Q v) : ∃ v, Ev (fun k => (f k).bind (g k)) v ∧ Q v := by
  obtain ⟨v, hv, q⟩ := h
  exact ⟨v, Ev.bind hf hv, q⟩
theorem exC {β : Type} {f g : Nat → Option β} {Q : β → Prop} (e : ∀ k, g k = f k) (h : ∃ v, Ev f v ∧ Q v) : ∃ v, Ev g v ∧ Q v := by
  obtain ⟨v, hv, q⟩ := h
  exact ⟨v, Ev.congr e hv, q⟩
def ahead (n : Int) : ByteArray := dec n ++ ⟨#[32]⟩
theorem B_ahead (n : Int) : B (ahead n) = Lib.itoa n ++ [32] := by unfold ahead; rw [H6, B_dec]; rfl
theorem ahead_size (n : Int) : (ahead n).size = (dec n).size + 1 := by unfold ahead; rw [ByteArray.size_append]; rfl
def pre (n : Int) (x : ByteArray) : ByteArray × Bool := if (B (ahead n)).isPrefixOf (B x) = true then (mk ((B x).drop (B (ahead n)).length), true) else (x, false)
theorem body_pre (n : Int) (c r : ByteArray) : (B (ahead n)) <+: B (F5 n c r) ∧ (B (F5 n c r)).drop (B (ahead n)).length = B c ++ 64 :: B r := by
  have e : B (F5 n c r) = B (ahead n) ++ (B c ++ 64 :: B r) := by rw [B_body, B_ahead]; simp
  rw [e]
  exact ⟨List.prefix_append _ _, by simp⟩
theorem pre_rec (n : Int) (c r : ByteArray) : pre n (F5 n c r) = (mk (B c ++ 64 :: B r), true) := by
  obtain ⟨h1, h2⟩ := body_pre n c r
  unfold pre
  rw [if_pos (List.isPrefixOf_iff_prefix.2 h1), h2]
theorem pre_size (n : Int) (x : ByteArray) : (pre n x).1.size ≤ x.size := by
  unfold pre
  by_cases h : (B (ahead n)).isPrefixOf (B x) = true
  · rw [if_pos h, H8, List.length_drop, E5]; omega
  · rw [if_neg h]; exact Nat.le_refl _
theorem veri_size (x : ByteArray) : (veri x).1.size ≤ x.size := by
  have := (cut_size 35 (B x)).1
  rw [E5] at this
  unfold veri
  split
  · rw [H8]; exact this
  · exact Nat.zero_le _
/-- What reading a record gives where there is none. -/
def noRec (s : ByteArray) : ByteArray × ByteArray × ByteArray × Bool := (⟨#[]⟩, ⟨#[]⟩, s, false)
theorem implRead_ev (n : Int) (s : ByteArray) (h0 : 0 ≤ n) (h1 : n ≤ 59) (hs : s.size ≤ 1000000000) :
    ∃ v, Ev (fun k => Gl.f k n s) v ∧ ((v.2.2.2 = true ∧ Hy n (B s) v.1 v.2.1 (B v.2.2.1)) ∨ (v = noRec s ∧ ∀ c r t, ¬ Hy n (B s) c r t)) := by
  have hL := cut_size 10 (B s)
  rw [E5] at hL
  have hd := Io n (by omega) (by omega)
  have flags : ∀ c r t, Hy n (B s) c r t → Et 10 (B s) = (B (Gv (F5 n c r)), t, true) ∧ veri (mk (Et 10 (B s)).1) = (F5 n c r, true) ∧ pre n (veri (mk (Et 10 (B s)).1)).1 = (mk (B c ++ 64 :: B r), true) ∧
      Et 64 (B (pre n (veri (mk (Et 10 (B s)).1)).1).1) = (B c, B r, true) := by
    intro c r t h
    have e1 := h.line h0
    have e2 : veri (mk (Et 10 (B s)).1) = (F5 n c r, true) := by rw [e1, Il, veri_rec h0 h1 h.1]
    have e3 : pre n (veri (mk (Et 10 (B s)).1)).1 = (mk (B c ++ 64 :: B r), true) := by rw [e2, pre_rec]
    exact ⟨e1, e2, e3, by rw [e3, G7, ask_cut h.1]⟩
  unfold Gl.f
  rw [stringsCut_eq s 10 (by omega)]
  simp only [Option.bind_some]
  have hv := implVeri_ev (mk (Et 10 (B s)).1) (by rw [H8]; omega)
  have hvs := veri_size (mk (Et 10 (B s)).1)
  rw [H8] at hvs
  refine exB hv ?_
  have hps := pre_size n (veri (mk (Et 10 (B s)).1)).1
  simp only [implDec n (by omega) (by omega), Option.bind_some, if_pos (show (dec n).size + 1 ≤ 9223372036854775807 by omega)]
  rw [show (dec n ++ (⟨#[32]⟩ : ByteArray)) = ahead n from rfl, stringsCutPrefix_eq _ _ (by omega) (by rw [ahead_size]; omega)]
  rw [show (if (B (ahead n)).isPrefixOf (B (veri (mk (Et 10 (B s)).1)).1) = true then (mk ((B (veri (mk (Et 10 (B s)).1)).1).drop (B (ahead n)).length), true) else ((veri (mk (Et 10 (B s)).1)).1, false)) = pre n (veri (mk (Et 10 (B s)).1)).1 from rfl]
  simp only [Option.bind_some]
  rw [stringsCut_eq _ 64 (by omega)]
  simp only [Option.bind_some]
  have fail : ∀ {g : Nat → Option (ByteArray × ByteArray × ByteArray × Bool)}, (∀ k, g k = some ((⟨#[]⟩ : ByteArray), (⟨#[]⟩ : ByteArray), s, false)) → (∀ c r t, Hy n (B s) c r t → False) →
      ∃ v, Ev g v ∧ ((v.2.2.2 = true ∧ Hy n (B s) v.1 v.2.1 (B v.2.2.1)) ∨ (v = noRec s ∧ ∀ c r t, ¬ Hy n (B s) c r t)) :=
    fun hg hn => ⟨_, ev_eq hg, .inr ⟨rfl, hn⟩⟩
  by_cases f1 : (Et 10 (B s)).2.2 = true
  · by_cases f2 : (veri (mk (Et 10 (B s)).1)).2 = true
    · by_cases f3 : (pre n (veri (mk (Et 10 (B s)).1)).1).2 = true
      · by_cases f4 : (Et 64 (B (pre n (veri (mk (Et 10 (B s)).1)).1).1)).2.2 = true
        · simp only [if_pos f1, if_pos f2, if_pos f3, if_pos f4]
          refine exB (implRec_ev _ _) ?_
          by_cases f5 : Gh (mk (Et 64 (B (pre n (veri (mk (Et 10 (B s)).1)).1).1)).1) (mk (Et 64 (B (pre n (veri (mk (Et 10 (B s)).1)).1).1)).2.1) = true
          · simp only [if_pos f5]
            refine exB (implLine_ev n _ _ h0 h1 f5) ?_
            simp only [toList_eq, if_pos (show (mk (Et 10 (B s)).1).size + 1 ≤ 9223372036854775807 by rw [H8]; omega)]
            by_cases f6 : Gz n (mk (Et 64 (B (pre n (veri (mk (Et 10 (B s)).1)).1).1)).1) (mk (Et 64 (B (pre n (veri (mk (Et 10 (B s)).1)).1).1)).2.1) = mk (Et 10 (B s)).1 ++ ⟨#[10]⟩
            · refine ⟨_, ev_eq (fun k => if_pos f6), .inl ⟨rfl, f5, ?_⟩⟩
              show B s = B (Gz n _ _) ++ B (mk (Et 10 (B s)).2.1)
              rw [f6, H6, G7, G7, List.append_assoc]
              exact Jh 10 (B s) f1
            · refine fail (fun k => if_neg f6) (fun c r t h => f6 ?_)
              obtain ⟨e1, e2, e3, e4⟩ := flags c r t h
              rw [e4, e1, Il, Il, Il]
              rfl
          · refine fail (fun k => if_neg f5) (fun c r t h => f5 ?_)
            obtain ⟨e1, e2, e3, e4⟩ := flags c r t h
            rw [e4, Il, Il]
            exact h.1
        · refine fail (fun k => by rw [if_pos f1, if_pos f2, if_pos f3, if_neg f4]) (fun c r t h => f4 ?_)
          rw [(flags c r t h).2.2.2]
      · refine fail (fun k => by rw [if_pos f1, if_pos f2, if_neg f3]) (fun c r t h => f3 ?_)
        rw [(flags c r t h).2.2.1]
    · refine fail (fun k => by rw [if_pos f1, if_neg f2]) (fun c r t h => f2 ?_)
      rw [(flags c r t h).2.1]
  · refine fail (fun k => by rw [if_neg f1]) (fun c r t h => f1 ?_)
    rw [(flags c r t h).1]
theorem line_of_eq {n : Int} {c r x : ByteArray} (e : Gz n c r = x ++ ⟨#[10]⟩) : x = Gv (F5 n c r) := by
  have := congrArg B e
  rw [B_line, H6] at this
  exact (B_inj (List.append_cancel_right this)).symm
theorem first_piece (c : UInt8) (s : ByteArray) : 0 < ((pieces c (B s)).map mk).length ∧ Bq ByteArray.empty ((pieces c (B s)).map mk) 0 = mk (Et c (B s)).1 := by
  have h := pieces_head c (B s)
  refine ⟨by have := (pieces_length c (B s)).1; simp; omega, ?_⟩
  simp [Bq, List.getD_eq_getElem?_getD, h]
theorem specRest_ev (n : Int) (x R : ByteArray) (h0 : 0 ≤ n) (h1 : n ≤ 59) (hs : x.size ≤ 1000000000) (hRs : R.size ≤ x.size) (body2 : ∀ c r, Gh c r = true → Gz n c r = x ++ ⟨#[10]⟩ → R = mk (B c ++ 64 :: B r)) :
    ∃ v, Ev (fun k => (Cb.f k R 64).bind fun t188 => (if 0 < (t188.length : Int) then (if ((Bq ByteArray.empty t188 0).size : Int) = (R.size : Int) then (some ((⟨#[]⟩ : ByteArray), (⟨#[]⟩ : ByteArray), false)) else (if 0 ≤ (wrap64 (((Bq ByteArray.empty t188 0).size : Int) + 1)) then (if (wrap64 (((Bq ByteArray.empty t188 0).size : Int) + 1)) ≤ (R.size : Int) then ((Fj.f k (Bq ByteArray.empty t188 0) (R.extract ((wrap64 (((Bq ByteArray.empty t188 0).size : Int) + 1)) : Int).toNat R.size)).bind fun t193 => (if t193 = true then ((Es.f k n (Bq ByteArray.empty t188 0) (R.extract ((wrap64 (((Bq ByteArray.empty t188 0).size : Int) + 1)) : Int).toNat R.size)).bind fun t194 => (if x.size + 1 ≤ 9223372036854775807 then (some (Bq ByteArray.empty t188 0, R.extract ((wrap64 (((Bq ByteArray.empty t188 0).size : Int) + 1)) : Int).toNat R.size, (t194.toList == (x ++ (⟨#[10]⟩ : ByteArray)).toList))) else (none))) else (some (Bq ByteArray.empty t188 0, R.extract ((wrap64 (((Bq ByteArray.empty t188 0).size : Int) + 1)) : Int).toNat R.size, false)))) else (none)) else (none))) else (none))) v ∧ ((v.2.2 = true ∧ Gh v.1 v.2.1 = true ∧ Gz n v.1 v.2.1 = x ++ ⟨#[10]⟩) ∨ (v.2.2 = false ∧ ∀ c r, Gh c r = true → Gz n c r ≠ x ++ ⟨#[10]⟩)) := by
  refine exB (specSplit_ev R 64 (by omega)) ?_
  obtain ⟨q1, q2⟩ := first_piece 64 R
  simp only [q2, if_pos (show (0 : Int) < (((pieces 64 (B R)).map mk).length : Int) by omega)]
  clear q1 q2
  have hRl := E5 R
  have hfd := Jh 64 (B R)
  have hlo := cutL_lost 64 (B R)
  have hask : ∀ c r, Gh c r = true → Gz n c r = x ++ ⟨#[10]⟩ → Et 64 (B R) = (B c, B r, true) := by
    intro c r h e; rw [body2 c r h e, G7, ask_cut h]
  clear body2
  obtain ⟨a, b, f, hK⟩ : ∃ a b f, Et 64 (B R) = (a, b, f) := ⟨_, _, _, rfl⟩
  rw [hK] at hfd hlo hask ⊢
  clear hK
  dsimp only at hfd hlo hask ⊢
  cases f with
  | true =>
    have hf : B R = a ++ 64 :: b := hfd rfl
    clear hfd hlo
    have hl := congrArg List.length hf
    simp only [List.length_append, List.length_cons] at hl
    have w1 : wrap64 ((a.length : Int) + 1) = (a.length : Int) + 1 := Gu (by omega) (by omega)
    have hz : R.extract ((a.length : Int) + 1).toNat R.size = mk b := by
      refine B_inj ?_
      rw [Ij, G7, List.take_of_length_le (by simp; omega), show ((a.length : Int) + 1).toNat = a.length + 1 by omega]
      rw [hf, List.drop_append, List.drop_of_length_le (by omega)]
      simp
    refine exC (f := fun k => ((Fj.f k (mk a) (mk b)).bind fun t193 => (if t193 = true then ((Es.f k n (mk a) (mk b)).bind fun t194 => (if x.size + 1 ≤ 9223372036854775807 then some (mk a, mk b, (t194.toList == (x ++ (⟨#[10]⟩ : ByteArray)).toList)) else none)) else some (mk a, mk b, false)))) (fun k => by rw [H8, if_neg (by omega), w1, if_pos (by omega), if_pos (by omega), hz]) ?_
    refine exB (specRec_ev _ _ (by rw [H8]; omega) (by rw [H8]; omega)) ?_
    by_cases f4 : Gh (mk a) (mk b) = true
    · simp only [if_pos f4]
      refine exB (specLine_ev n _ _ h0 h1 f4) ?_
      simp only [if_pos (show x.size + 1 ≤ 9223372036854775807 by omega)]
      refine ⟨_, Ev.now _, ?_⟩
      by_cases f5 : Gz n (mk a) (mk b) = x ++ ⟨#[10]⟩
      · exact .inl ⟨by rw [f5]; simp, f4, f5⟩
      · refine .inr ⟨?_, fun c r h e => f5 ?_⟩
        · rw [← toList_eq] at f5
          exact beq_eq_false_iff_ne.2 f5
        · have := hask c r h e
          simp only [Prod.mk.injEq] at this
          rw [this.1, this.2.1, Il, Il, e]
    · refine ⟨_, ev_eq (fun k => if_neg f4), .inr ⟨rfl, fun c r h e => f4 ?_⟩⟩
      have := hask c r h e
      simp only [Prod.mk.injEq] at this
      rw [this.1, this.2.1, Il, Il]; exact h
  | false =>
    have hl : a = B R := by have := hlo rfl; simp only [Prod.mk.injEq] at this; exact this.1
    have hm : (mk a).size = R.size := by rw [hl]; exact (H8 _).trans hRl
    refine ⟨_, ev_eq (fun k => if_pos (by omega)), .inr ⟨rfl, fun c r h e => ?_⟩⟩
    have := hask c r h e
    simp at this
theorem specRead_ev (n : Int) (x : ByteArray) (h0 : 0 ≤ n) (h1 : n ≤ 59) (hs : x.size ≤ 1000000000) :
    ∃ v, Ev (fun k => Bz.f k x n) v ∧ ((v.2.2 = true ∧ Gh v.1 v.2.1 = true ∧ Gz n v.1 v.2.1 = x ++ ⟨#[10]⟩) ∨ (v.2.2 = false ∧ ∀ c r, Gh c r = true → Gz n c r ≠ x ++ ⟨#[10]⟩)) := by
  have hd := Io n (by omega) (by omega)
  have hT := (cut_size 35 (B x)).1
  rw [E5] at hT
  have fail : ∀ {g : Nat → Option (ByteArray × ByteArray × Bool)} {a b : ByteArray}, (∀ k, g k = some (a, b, false)) → (∀ c r, Gh c r = true → Gz n c r = x ++ ⟨#[10]⟩ → False) →
      ∃ v, Ev g v ∧ ((v.2.2 = true ∧ Gh v.1 v.2.1 = true ∧ Gz n v.1 v.2.1 = x ++ ⟨#[10]⟩) ∨ (v.2.2 = false ∧ ∀ c r, Gh c r = true → Gz n c r ≠ x ++ ⟨#[10]⟩)) :=
    fun hg hn => ⟨_, ev_eq hg, .inr ⟨rfl, hn⟩⟩
  have body : ∀ c r, Gh c r = true → Gz n c r = x ++ ⟨#[10]⟩ → mk (Et 35 (B x)).1 = F5 n c r := by
    intro c r h e
    rw [line_of_eq e, body_cut h0 h1 h, Il]
  unfold Bz.f
  refine exB (specNum_ev n (by omega) (by omega)) ?_
  simp only [if_pos (show (dec n).size + 1 ≤ 9223372036854775807 by omega)]
  refine exB (specSplit_ev x 35 hs) ?_
  obtain ⟨p1, p2⟩ := first_piece 35 x
  simp only [p2, if_pos (show (0 : Int) < (((pieces 35 (B x)).map mk).length : Int) by omega)]
  rw [show (dec n ++ (⟨#[32]⟩ : ByteArray)) = ahead n from rfl]
  have hTs : (mk (Et 35 (B x)).1).size ≤ x.size := by rw [H8]; exact hT
  have hTb : (B (mk (Et 35 (B x)).1)).length = (mk (Et 35 (B x)).1).size := E5 _
  generalize mk (Et 35 (B x)).1 = T at hTs hTb body ⊢
  have has := E5 (ahead n)
  have tf : ∀ {g : Nat → Option (ByteArray × ByteArray × Bool)}, (∀ k, g k = Bz.j0 k x n (ahead n) T true) → ∃ k0, ∀ k, k0 ≤ k → g k = some ((⟨#[]⟩ : ByteArray), (⟨#[]⟩ : ByteArray), false) := by
    intro g hg
    refine ⟨1, fun k hk => ?_⟩
    obtain ⟨k, rfl⟩ : ∃ m, k = m + 1 := ⟨k - 1, by omega⟩
    rw [hg]; simp only [Bz.j0]; exact if_pos trivial
  by_cases f1 : (T.size : Int) < ((ahead n).size : Int)
  · simp only [if_pos f1]
    refine ⟨_, tf (fun k => rfl), .inr ⟨rfl, fun c r h e => ?_⟩⟩
    have := (body_pre n c r).1.length_le
    rw [body c r h e] at f1
    rw [E5, E5] at this
    omega
  · simp only [if_neg f1, if_pos (show (0 : Int) ≤ ((ahead n).size : Int) by omega), if_pos (show ((ahead n).size : Int) ≤ (T.size : Int) by omega)]
    have hx : T.extract 0 (((ahead n).size : Int) : Int).toNat = mk ((B T).take (B (ahead n)).length) := B_inj (by rw [Ij, G7, has]; rfl)
    have hy : T.extract (((ahead n).size : Int) : Int).toNat T.size = mk ((B T).drop (B (ahead n)).length) := B_inj (by rw [Ij, G7, has, Int.toNat_natCast, List.take_of_length_le (by simp; omega)])
    rw [hx]
    have ht : ((mk ((B T).take (B (ahead n)).length)).toList != (ahead n).toList) = !(B (ahead n)).isPrefixOf (B T) := by
      rw [B_toList, B_toList, G7]
      simp only [bne, Bool.not_inj_iff]
      rw [Bool.eq_iff_iff]
      simp only [beq_iff_eq, List.isPrefixOf_iff_prefix]
      constructor
      · intro z; rw [← z]; exact List.take_prefix _ _
      · intro z; exact (List.prefix_iff_eq_take.1 z).symm
    rw [ht]
    by_cases f2 : (B (ahead n)).isPrefixOf (B T) = true
    · simp only [f2, Bool.not_true]
      have hRs : (mk ((B T).drop (B (ahead n)).length)).size ≤ x.size := by rw [H8, List.length_drop]; omega
      have body2 : ∀ c r, Gh c r = true → Gz n c r = x ++ ⟨#[10]⟩ → mk ((B T).drop (B (ahead n)).length) = mk (B c ++ 64 :: B r) := by
        intro c r h e; rw [body c r h e, (body_pre n c r).2]
      suffices h : ∃ v, Ev (fun k => (Cb.f k (mk ((B T).drop (B (ahead n)).length)) 64).bind fun t188 => (if 0 < (t188.length : Int) then (if ((Bq ByteArray.empty t188 0).size : Int) = ((mk ((B T).drop (B (ahead n)).length)).size : Int) then (some ((⟨#[]⟩ : ByteArray), (⟨#[]⟩ : ByteArray), false)) else (if 0 ≤ (wrap64 (((Bq ByteArray.empty t188 0).size : Int) + 1)) then (if (wrap64 (((Bq ByteArray.empty t188 0).size : Int) + 1)) ≤ ((mk ((B T).drop (B (ahead n)).length)).size : Int) then ((Fj.f k (Bq ByteArray.empty t188 0) ((mk ((B T).drop (B (ahead n)).length)).extract ((wrap64 (((Bq ByteArray.empty t188 0).size : Int) + 1)) : Int).toNat (mk ((B T).drop (B (ahead n)).length)).size)).bind fun t193 => (if t193 = true then ((Es.f k n (Bq ByteArray.empty t188 0) ((mk ((B T).drop (B (ahead n)).length)).extract ((wrap64 (((Bq ByteArray.empty t188 0).size : Int) + 1)) : Int).toNat (mk ((B T).drop (B (ahead n)).length)).size)).bind fun t194 => (if x.size + 1 ≤ 9223372036854775807 then (some (Bq ByteArray.empty t188 0, (mk ((B T).drop (B (ahead n)).length)).extract ((wrap64 (((Bq ByteArray.empty t188 0).size : Int) + 1)) : Int).toNat (mk ((B T).drop (B (ahead n)).length)).size, (t194.toList == (x ++ (⟨#[10]⟩ : ByteArray)).toList))) else (none))) else (some (Bq ByteArray.empty t188 0, (mk ((B T).drop (B (ahead n)).length)).extract ((wrap64 (((Bq ByteArray.empty t188 0).size : Int) + 1)) : Int).toNat (mk ((B T).drop (B (ahead n)).length)).size, false)))) else (none)) else (none))) else (none))) v ∧ ((v.2.2 = true ∧ Gh v.1 v.2.1 = true ∧ Gz n v.1 v.2.1 = x ++ ⟨#[10]⟩) ∨ (v.2.2 = false ∧ ∀ c r, Gh c r = true → Gz n c r ≠ x ++ ⟨#[10]⟩)) by
        obtain ⟨v, hv, hq⟩ := h
        refine ⟨v, Ev.step (fun k => ?_) hv, hq⟩
        simp only [Bz.j0]
        rw [if_neg (by decide), if_pos (by omega), if_pos (by omega), hy]
      exact specRest_ev n x (mk ((B T).drop (B (ahead n)).length)) h0 h1 hs hRs body2
    · simp only [f2, Bool.not_false]
      refine ⟨_, tf (fun k => rfl), .inr ⟨rfl, fun c r h e => f2 ?_⟩⟩
      rw [body c r h e]
      exact List.isPrefixOf_iff_prefix.2 (body_pre n c r).1
end Go.Proofs.YtcnmngiaebgjkaaDoor.X

namespace Go.Proofs.YtcnmngiaebgjkaaDoor.X
open Go.RowKit Go.Proofs.YtcnmngiaebgjkaaDoorW.PrintWords Go.Proofs.YtcnmngiaebgjkaaDoorL
abbrev RecT := S81
open Classical in
noncomputable def recAt (n : Int) (s : List UInt8) : Option (ByteArray × ByteArray × List UInt8) :=
  if h : ∃ p : ByteArray × ByteArray × List UInt8, Hy n s p.1 p.2.1 p.2.2 then some h.choose else none
theorem Jm {n : Int} {s : List UInt8} {c r : ByteArray} {t : List UInt8} (h0 : 0 ≤ n) (h1 : n ≤ 59) (h : Hy n s c r t) : recAt n s = some (c, r, t) := by
  have hx : ∃ p : ByteArray × ByteArray × List UInt8, Hy n s p.1 p.2.1 p.2.2 := ⟨(c, r, t), h⟩
  unfold recAt
  rw [dif_pos hx]
  obtain ⟨a, b, d⟩ := Hy.inj h0 h1 hx.choose_spec h
  rw [← a, ← b, ← d]
theorem recAt_none {n : Int} {s : List UInt8} (h : ∀ c r t, ¬ Hy n s c r t) : recAt n s = none := by
  unfold recAt
  rw [dif_neg (fun z => by obtain ⟨p, hp⟩ := z; exact h _ _ _ hp)]
theorem recAt_is {n : Int} {s : List UInt8} {p : ByteArray × ByteArray × List UInt8} (h : recAt n s = some p) : Hy n s p.1 p.2.1 p.2.2 := by
  unfold recAt at h
  split at h
  · rename_i hx
    simp only [Option.some.injEq] at h
    rw [← h]; exact hx.choose_spec
  · cases h
theorem line_pos (n : Int) (c r : ByteArray) : 1 ≤ (B (Gz n c r)).length := by rw [B_line]; simp
theorem Hy.lt {n : Int} {s : List UInt8} {c r : ByteArray} {t : List UInt8} (h : Hy n s c r t) : t.length < s.length := by
  have := line_pos n c r
  rw [h.2, List.length_append]; omega
theorem recAt_nil (n : Int) : recAt n [] = none := recAt_none (fun c r t h => by have := h.lt; simp at this)
/-- The records from the n-th on, d at most, and what is left. -/
noncomputable def reads : Nat → Nat → List UInt8 → List RecT × List UInt8
  | 0, _, s => ([], s)
  | d + 1, n, s => match recAt (n : Int) s with
    | none => ([], s)
    | some p => ((⟨p.1, p.2.1⟩ : RecT) :: (reads d (n + 1) p.2.2).1, (reads d (n + 1) p.2.2).2)
noncomputable def Iy (L : Nat) : Nat → Nat → List UInt8 → List Int
  | 0, _, _ => []
  | d + 1, n, s => match recAt (n : Int) s with
    | none => []
    | some p => ((L : Int) - (p.2.2.length : Int)) :: Iy L d (n + 1) p.2.2
theorem Iw {d n : Nat} {s : List UInt8} (h : recAt (n : Int) s = none) : reads d n s = ([], s) := by
  cases d with
  | zero => rfl
  | succ d => unfold reads; rw [h]
theorem Jp {d n : Nat} {s : List UInt8} {p : ByteArray × ByteArray × List UInt8} (h : recAt (n : Int) s = some p) : reads (d + 1) n s = ((⟨p.1, p.2.1⟩ : RecT) :: (reads d (n + 1) p.2.2).1, (reads d (n + 1) p.2.2).2) := by
  conv => lhs; unfold reads
  rw [h]
theorem endsOf_none {L d n : Nat} {s : List UInt8} (h : recAt (n : Int) s = none) : Iy L d n s = [] := by
  cases d with
  | zero => rfl
  | succ d => unfold Iy; rw [h]
theorem endsOf_some {L d n : Nat} {s : List UInt8} {p : ByteArray × ByteArray × List UInt8} (h : recAt (n : Int) s = some p) : Iy L (d + 1) n s = ((L : Int) - (p.2.2.length : Int)) :: Iy L d (n + 1) p.2.2 := by
  conv => lhs; unfold Iy
  rw [h]
theorem reads_bound : ∀ (d n : Nat) (s : List UInt8), (reads d n s).1.length ≤ d ∧ (reads d n s).2.length ≤ s.length
  | 0, n, s => by simp [reads]
  | d + 1, n, s => by
    cases h : recAt (n : Int) s with
    | none => rw [Iw h]; simp
    | some p =>
      have ih := reads_bound d (n + 1) p.2.2
      have := (recAt_is h).lt
      rw [Jp h]; simp; omega
theorem implReads_ev (s : ByteArray) (hs : s.size ≤ 1000000000) : Ev (fun k => Dq.f k s) ((reads 60 0 (B s)).1, 0 :: Iy s.size 60 0 (B s), (s.size : Int) - ((reads 60 0 (B s)).2.length : Int)) := by
  have key : ∀ (d n : Nat) (xs : List RecT) (S : List Int) (t : ByteArray), n + d = 60 → xs.length = n → t.size ≤ s.size →
      Ev (fun k => Dq.l0 k s xs S t) (xs ++ (reads d n (B t)).1, S ++ Iy s.size d n (B t), (s.size : Int) - ((reads d n (B t)).2.length : Int)) := by
    intro d
    induction d with
    | zero =>
      intro n xs S t hn hx ht
      refine Ev.step (f := fun _ => some _) (fun k => ?_) (Ev.now _)
      simp only [Dq.l0]
      rw [if_neg (by omega), Gu (by omega) (by omega)]
      simp [reads, Iy, E5]
    | succ d ih =>
      intro n xs S t hn hx ht
      obtain ⟨v, hv, hq⟩ := implRead_ev (n : Int) t (by omega) (by omega) (by omega)
      refine Ev.step (f := fun k => (Gl.f k (n : Int) t).bind fun b => if b.2.2.2 = true then Dq.l0 k s (xs ++ [(⟨b.1, b.2.1⟩ : RecT)]) (S ++ [wrap64 ((s.size : Int) - (b.2.2.1.size : Int))]) b.2.2.1 else some (xs, S, wrap64 ((s.size : Int) - (t.size : Int)))) (fun k => ?_) (Ev.bind hv ?_)
      · simp only [Dq.l0]
        rw [if_pos (by omega), hx]
      · rcases hq with ⟨f, hr⟩ | ⟨rfl, hno⟩
        · have hsz : v.2.2.1.size ≤ s.size := by have := hr.lt; rw [E5, E5] at this; omega
          rw [Jp (Jm (by omega) (by omega) hr), endsOf_some (Jm (by omega) (by omega) hr)]
          simp only [if_pos f, Gu (x := (s.size : Int) - (v.2.2.1.size : Int)) (by omega) (by omega)]
          have i1 := ih (n + 1) (xs ++ [(⟨v.1, v.2.1⟩ : RecT)]) (S ++ [(s.size : Int) - (v.2.2.1.size : Int)]) v.2.2.1 (by omega) (by simp; omega) hsz
          rw [List.append_assoc, List.append_assoc] at i1
          rw [E5]
          exact i1
        · rw [Iw (recAt_none hno), endsOf_none (recAt_none hno), E5]
          refine ev_eq (fun k => ?_)
          show (if false = true then _ else some (xs, S, wrap64 ((s.size : Int) - (t.size : Int)))) = _
          rw [if_neg (by decide), Gu (by omega) (by omega)]
          simp
  have := key 60 0 [] [0] s (by omega) rfl (Nat.le_refl _)
  exact Ev.congr (f := fun k => Dq.l0 k s [] [0] s) (fun k => rfl) (by simpa using this)
theorem specOpen_ev (s : ByteArray) (hs : s.size ≤ 1000000000) : Ev (fun k => Bi.f k s) ((reads 60 0 (B s)).1, (s.size : Int) - ((reads 60 0 (B s)).2.length : Int)) := by
  have hBs := E5 s
  have key : ∀ (d n at_ : Nat) (xs : List RecT), n + d = 60 → xs.length = n → at_ ≤ s.size →
      Ev (fun k => Bi.l0 k s xs (at_ : Int)) (xs ++ (reads d n ((B s).drop at_)).1, (s.size : Int) - ((reads d n ((B s).drop at_)).2.length : Int)) := by
    intro d
    induction d with
    | zero =>
      intro n at_ xs hn hx ha
      have fin : ∀ b, b = false → Ev (fun k => Bi.j1 k s xs (at_ : Int) b) (xs ++ (reads 0 n ((B s).drop at_)).1, (s.size : Int) - ((reads 0 n ((B s).drop at_)).2.length : Int)) := by
        rintro b rfl
        refine Ev.step (f := fun _ => some _) (fun k => ?_) (Ev.now _)
        simp only [Bi.j1]
        rw [if_neg (by decide)]
        simp [reads]; omega
      by_cases h : (at_ : Int) < (s.size : Int)
      · refine Ev.step (f := fun k => Bi.j1 k s xs (at_ : Int) (decide ((xs.length : Int) < 60))) (fun k => ?_) (fin _ (decide_eq_false (by omega)))
        simp only [Bi.l0]; rw [if_pos h]
      · refine Ev.step (f := fun k => Bi.j1 k s xs (at_ : Int) false) (fun k => ?_) (fin _ rfl)
        simp only [Bi.l0]; rw [if_neg h]
    | succ d ih =>
      intro n at_ xs hn hx ha
      by_cases h : (at_ : Int) < (s.size : Int)
      · have hrest : s.extract (at_ : Int).toNat s.size = mk ((B s).drop at_) := B_inj (by rw [Ij, G7, Int.toNat_natCast, List.take_of_length_le (by simp; omega)])
        have hrl : ((B s).drop at_).length = s.size - at_ := by rw [List.length_drop, hBs]
        have hrs : (mk ((B s).drop at_)).size = s.size - at_ := by rw [H8, hrl]
        refine Ev.step (f := fun k => Bi.j1 k s xs (at_ : Int) true) (fun k => ?_) ?_
        · simp only [Bi.l0]; rw [if_pos h, decide_eq_true (by omega)]
        obtain ⟨q1, q2⟩ := first_piece 10 (mk ((B s).drop at_))
        have q3 := pieces_two 10 ((B s).drop at_)
        have hcs := (cut_size 10 ((B s).drop at_)).1
        rw [G7] at q2
        obtain ⟨v, hv, hq⟩ := specRead_ev (n : Int) (mk (Et 10 ((B s).drop at_)).1) (by omega) (by omega) (by rw [H8]; omega)
        refine Ev.step (f := fun k => (Cb.f k (mk ((B s).drop at_)) 10).bind fun t198 => if 0 < (t198.length : Int) then ((Bz.f k (Bq ByteArray.empty t198 0) (xs.length : Int)).bind fun bt202 => (if (t198.length : Int) < 2 then (some (xs, (at_ : Int))) else (if bt202.2.2 = true then (if xs.length < 4398046511104 then (Bi.l0 k s (xs ++ [(⟨bt202.1, bt202.2.1⟩ : RecT)]) (wrap64 ((wrap64 ((at_ : Int) + ((Bq ByteArray.empty t198 0).size : Int))) + 1))) else none) else (some (xs, (at_ : Int)))))) else none) (fun k => ?_) (Ev.bind (specSplit_ev (mk ((B s).drop at_)) 10 (by omega)) ?_)
        · simp only [Bi.j1]
          rw [if_pos trivial, if_pos (by omega), if_pos (by omega), hrest]
        · simp only [G7, q2, List.length_map, hx]
          refine Ev.congr (f := fun k => (Bz.f k (mk (Et 10 ((B s).drop at_)).1) (n : Int)).bind fun bt202 => (if ((pieces 10 ((B s).drop at_)).length : Int) < 2 then (some (xs, (at_ : Int))) else (if bt202.2.2 = true then (if xs.length < 4398046511104 then (Bi.l0 k s (xs ++ [(⟨bt202.1, bt202.2.1⟩ : RecT)]) (wrap64 ((wrap64 ((at_ : Int) + ((mk (Et 10 ((B s).drop at_)).1).size : Int))) + 1))) else none) else (some (xs, (at_ : Int)))))) (fun k => by rw [if_pos (by have := (pieces_length 10 ((B s).drop at_)).1; omega)]; try simp only [hx]) (Ev.bind hv ?_)
          rw [H8]
          have hfd := Jh 10 ((B s).drop at_)
          have hln : ∀ c r t, 0 ≤ (n : Int) → Hy (n : Int) ((B s).drop at_) c r t → Et 10 ((B s).drop at_) = (B (Gv (F5 n c r)), t, true) := fun c r t h0 h => h.line h0
          have stop : (∀ c r t, ¬ Hy (n : Int) ((B s).drop at_) c r t) → ((xs ++ (reads (d + 1) n ((B s).drop at_)).1, (s.size : Int) - ((reads (d + 1) n ((B s).drop at_)).2.length : Int)) : List RecT × Int) = (xs, (at_ : Int)) := by
            intro hno
            rw [Iw (recAt_none hno)]
            simp only [List.append_nil, Prod.mk.injEq, true_and]; omega
          have hdd : ∀ m, ((B s).drop at_).drop m = (B s).drop (at_ + m) := fun m => by rw [List.drop_drop]
          have step := fun (v1 v2 : ByteArray) (t : List UInt8) (hr : Hy (n : Int) ((B s).drop at_) v1 v2 t) => Jp (d := d) (Jm (n := (n : Int)) (by omega) (by omega) hr)
          generalize (B s).drop at_ = R at *
          obtain ⟨a, b, f, hK⟩ : ∃ a b f, Et 10 R = (a, b, f) := ⟨_, _, _, rfl⟩
          rw [hK] at hfd hcs q3 hq hln ⊢
          dsimp only at hfd hcs q3 hq hln ⊢
          clear hK hv
          cases f with
          | true =>
            have hR : R = a ++ 10 :: b := hfd rfl
            have hl := congrArg List.length hR
            simp only [List.length_append, List.length_cons] at hl
            have h2 : 2 ≤ (pieces 10 R).length := q3 ▸ rfl
            rcases hq with ⟨f, hg, hr⟩ | ⟨f, hno⟩
            · have hrec : Hy (n : Int) R v.1 v.2.1 b := ⟨hg, by rw [hr, H6, G7, hR, List.append_assoc]; rfl⟩
              rw [step _ _ _ hrec]
              have hb : b = (B s).drop (at_ + a.length + 1) := by
                have := hdd (a.length + 1)
                rw [← Nat.add_assoc] at this
                rw [← this, hR, List.drop_append, List.drop_of_length_le (by omega)]
                simp
              have i1 := ih (n + 1) (at_ + a.length + 1) (xs ++ [(⟨v.1, v.2.1⟩ : RecT)]) (by omega) (by simp; omega) (by omega)
              rw [← hb, List.append_assoc] at i1
              refine Ev.congr (fun k => ?_) i1
              rw [if_neg (by omega), if_pos f, if_pos (by omega), Gu (x := (at_ : Int) + (a.length : Int)) (by omega) (by omega), Gu (x := (at_ : Int) + (a.length : Int) + 1) (by omega) (by omega)]
              rfl
            · rw [stop (fun c r t h => hno c r h.1 (by
                have e := hln c r t (by omega) h
                simp only [Prod.mk.injEq] at e
                refine B_inj ?_
                rw [B_line, H6, G7, e.1]; rfl))]
              exact ev_eq (fun k => by rw [if_neg (by omega), if_neg (by rw [f]; decide)])
          | false =>
            have h2 : ¬ 2 ≤ (pieces 10 R).length := fun z => by rw [q3] at z; cases z
            rw [stop (fun c r t h => by have e := hln c r t (by omega) h; simp at e)]
            exact ev_eq (fun k => by rw [if_pos (by omega)])
      · obtain rfl : at_ = s.size := by omega
        have e : (B s).drop s.size = [] := List.drop_of_length_le (by omega)
        rw [e, Iw (recAt_nil _)]
        refine Ev.step (f := fun k => Bi.j1 k s xs (s.size : Int) false) (fun k => ?_) (Ev.step (f := fun _ => some _) (fun k => ?_) (Ev.now _))
        · simp only [Bi.l0]; rw [if_neg h]
        · simp only [Bi.j1]; rw [if_neg (by decide)]; simp
  have := key 60 0 0 [] (by omega) rfl (Nat.zero_le _)
  exact Ev.congr (f := fun k => Bi.l0 k s [] 0) (fun k => rfl) (by simpa using this)
end Go.Proofs.YtcnmngiaebgjkaaDoor.X

namespace Go.Proofs.YtcnmngiaebgjkaaDoor.X
open Go.RowKit Go.Proofs.YtcnmngiaebgjkaaDoorW.PrintWords Go.Proofs.YtcnmngiaebgjkaaDoorL
theorem line_size {n : Int} {c r : ByteArray} (h0 : 0 ≤ n) (h1 : n ≤ 59) (h : Gh c r = true) : (B (Gz n c r)).length ≤ 406 := by
  obtain ⟨s1, s2, s3⟩ := rec_sizes h
  have hd := Io n (by omega) (by omega)
  have hb := bodyOf_size n c r
  have hz := (Jj (F5 n c r)).2
  rw [B_line, List.length_append, E5]
  simp; omega
theorem reads_size : ∀ (d n : Nat) (s : List UInt8), n + d ≤ 60 → s.length ≤ (reads d n s).2.length + 406 * d
  | 0, n, s, _ => by simp [reads]
  | d + 1, n, s, hn => by
    cases h : recAt (n : Int) s with
    | none => rw [Iw h]; simp
    | some p =>
      have ih := reads_size d (n + 1) p.2.2 (by omega)
      have hr := recAt_is h
      have := line_size (n := (n : Int)) (by omega) (by omega) hr.1
      have e := congrArg List.length hr.2
      rw [List.length_append] at e
      rw [Jp h]; simp only; omega
theorem endsOf_ge : ∀ (d n L : Nat) (s : List UInt8), s.length ≤ L → ∀ e ∈ Iy L d n s, (L : Int) - (s.length : Int) + 1 ≤ e
  | 0, n, L, s, _ => by simp [Iy]
  | d + 1, n, L, s, hL => by
    intro e he
    cases h : recAt (n : Int) s with
    | none => rw [endsOf_none h] at he; cases he
    | some p =>
      have hlt := (recAt_is h).lt
      rw [endsOf_some h] at he
      rcases List.mem_cons.1 he with rfl | he
      · omega
      · have := endsOf_ge d (n + 1) L p.2.2 (by omega) e he
        omega
/-- That what was read came by the place behind D says that D alone can be read to its end. -/
theorem mem_ends : ∀ (d n L : Nat) (D P : List UInt8), n + d ≤ 60 → (D ++ P).length ≤ L → ((((L : Int) - ((D ++ P).length : Int) + (D.length : Int)) ∈ Iy L d n (D ++ P) ∨ D = []) ↔ (reads d n D).2 = [])
  | 0, n, L, D, P, _, _ => by simp [Iy, reads]
  | d + 1, n, L, D, P, hn, hL => by
    by_cases hD : D = []
    · subst hD
      rw [Iw (recAt_nil _)]
      simp
    cases h : recAt (n : Int) (D ++ P) with
    | none =>
      have hno : recAt (n : Int) D = none := by
        cases h2 : recAt (n : Int) D with
        | none => rfl
        | some q =>
          have hq := recAt_is h2
          have : Hy (n : Int) (D ++ P) q.1 q.2.1 (q.2.2 ++ P) := ⟨hq.1, by rw [← List.append_assoc, ← hq.2]⟩
          rw [Jm (by omega) (by omega) this] at h
          cases h
      rw [endsOf_none h, Iw hno]
      simp [hD]
    | some p =>
      have hp := recAt_is h
      have hlen := congrArg List.length hp.2
      rw [List.length_append, List.length_append] at hlen
      rw [endsOf_some h]
      by_cases hc : (B (Gz (n : Int) p.1 p.2.1)).length ≤ D.length
      · obtain ⟨D', hD'⟩ : ∃ D', D = B (Gz (n : Int) p.1 p.2.1) ++ D' := by
          have : B (Gz (n : Int) p.1 p.2.1) <+: D ++ P := ⟨p.2.2, hp.2.symm⟩
          obtain ⟨t, ht⟩ := List.prefix_of_prefix_length_le this (List.prefix_append D P) hc
          exact ⟨t, ht.symm⟩
        have ht : p.2.2 = D' ++ P := by
          have := hp.2
          rw [hD', List.append_assoc] at this
          exact (List.append_cancel_left this).symm
        have hr : Hy (n : Int) D p.1 p.2.1 D' := ⟨hp.1, hD'⟩
        rw [Jp (Jm (by omega) (by omega) hr)]
        have hdl := congrArg List.length hD'
        rw [List.length_append] at hdl
        rw [List.length_append] at hL
        have ih := mem_ends d (n + 1) L D' P (by omega) (by rw [List.length_append]; omega)
        simp only
        rw [← ih, ht, List.mem_cons]
        simp only [List.length_append, hD, or_false]
        have e1 : (L : Int) - ((D.length + P.length : Nat) : Int) + (D.length : Int) = (L : Int) - ((D'.length + P.length : Nat) : Int) + (D'.length : Int) := by omega
        rw [e1]
        constructor
        · rintro (a | a)
          · exact .inr (List.length_eq_zero_iff.1 (by omega))
          · exact .inl a
        · rintro (a | a)
          · exact .inr a
          · left; rw [a]; simp
      · have hno : recAt (n : Int) D = none := by
          cases h2 : recAt (n : Int) D with
          | none => rfl
          | some q =>
            exfalso
            have hq := recAt_is h2
            have hl := hq.2
            rw [B_line, List.append_assoc] at hl
            have h10 : (10 : UInt8) ∈ D := by rw [hl]; simp
            have hpre : D <+: B (Gv (F5 (n : Int) p.1 p.2.1)) := by
              have a1 : D <+: D ++ P := List.prefix_append D P
              have a2 : B (Gv (F5 (n : Int) p.1 p.2.1)) <+: D ++ P := by rw [hp.2, B_line, List.append_assoc]; exact List.prefix_append _ _
              refine List.prefix_of_prefix_length_le a1 a2 ?_
              rw [B_line, List.length_append] at hc
              simp at hc; omega
            exact sealed_no10 (by omega) hp.1 (hpre.subset h10)
        rw [Iw hno]
        simp only [hD, or_false, iff_false]
        intro hm
        rw [List.length_append] at hm
        rw [List.length_append] at hL
        rcases List.mem_cons.1 hm with e | e
        · omega
        · have := endsOf_ge d (n + 1) L p.2.2 (by omega) _ e
          omega
noncomputable def allOf (D P : ByteArray) : List RecT := (reads 60 0 (B D ++ B P)).1
noncomputable def logOk (D P : ByteArray) (c : Int) : Bool := decide ((reads 60 0 (B D ++ B P)).2 = []) && decide ((reads 60 0 (B D)).2 = []) && decide (((allOf D P).length : Int) = c)
theorem logOk_size {D P : ByteArray} {c : Int} (h : logOk D P c = true) : D.size + P.size ≤ 24360 := by
  unfold logOk at h
  simp only [Bool.and_eq_true, decide_eq_true_eq] at h
  have := reads_size 60 0 (B D ++ B P) (by omega)
  rw [h.1.1, List.length_append, E5, E5] at this
  simp at this; omega
theorem left_nil (l : List UInt8) (n : Nat) (hl : l.length ≤ n) : (((n : Int) - (l.length : Int)) = (n : Int)) = (l = []) := by
  apply propext
  constructor
  · intro h; exact List.length_eq_zero_iff.1 (by omega)
  · rintro rfl; simp
theorem specLog_ev (D P : ByteArray) (c : Int) (hD : D.size ≤ 1048576) (hP : P.size ≤ 1048576) : Ev (fun k => Gw.f k D P c) (logOk D P c) := by
  unfold Gw.f
  rw [Gu (x := (D.size : Int) + (P.size : Int)) (by omega) (by omega)]
  by_cases h : (D.size : Int) + (P.size : Int) > 30000
  · have : logOk D P c = false := by
      rw [Bool.eq_false_iff]; intro z; have := logOk_size z; omega
    rw [this]; exact ev_eq (fun k => if_pos h)
  · simp only [if_neg h, if_pos (show D.size + P.size ≤ 9223372036854775807 by omega)]
    have hs : (D ++ P).size = D.size + P.size := ByteArray.size_append
    refine Ev.bind (specOpen_ev (D ++ P) (by omega)) (Ev.bind (specOpen_ev D (by omega)) (ev_eq (fun k => ?_)))
    rw [H6, hs]
    have b1 := (reads_bound 60 0 (B D ++ B P)).2
    rw [List.length_append, E5, E5] at b1
    have b2 := (reads_bound 60 0 (B D)).2
    rw [E5] at b2
    have e1 := left_nil (reads 60 0 (B D ++ B P)).2 (D.size + P.size) b1
    rw [Int.natCast_add] at e1
    have e2 := left_nil (reads 60 0 (B D)).2 D.size b2
    simp only [Int.natCast_add, e1, e2]
    unfold logOk allOf
    by_cases g1 : (reads 60 0 (B D ++ B P)).2 = []
    · by_cases g2 : (reads 60 0 (B D)).2 = []
      · rw [if_pos g1, if_pos g2, decide_eq_true g1, decide_eq_true g2]
        simp only [Bool.true_and, Option.some.injEq]
        rw [Bool.eq_iff_iff]; simp
      · rw [if_pos g1, if_neg g2, decide_eq_true g1, decide_eq_false g2]; rfl
    · rw [if_neg g1, decide_eq_false g1]; rfl
theorem implRecs_ev (D P : ByteArray) (c : Int) (hD : D.size ≤ 1048576) (hP : P.size ≤ 1048576) : Ev (fun k => Gn.f k D P c) (allOf D P, logOk D P c) := by
  unfold Gn.f
  have hs : (D ++ P).size = D.size + P.size := ByteArray.size_append
  simp only [if_pos (show D.size + P.size ≤ 9223372036854775807 by omega)]
  refine Ev.bind (implReads_ev (D ++ P) (by omega)) (ev_eq (fun k => ?_))
  rw [H6, hs]
  have b1 := (reads_bound 60 0 (B D ++ B P)).2
  rw [List.length_append, E5, E5] at b1
  have e1 := left_nil (reads 60 0 (B D ++ B P)).2 (D.size + P.size) b1
  simp only [Option.some.injEq, Prod.mk.injEq]
  refine ⟨rfl, ?_⟩
  have hm := mem_ends 60 0 (D.size + P.size) (B D) (B P) (by omega) (by rw [List.length_append, E5, E5]; exact Nat.le_refl _)
  rw [List.length_append, E5, E5, show ((D.size + P.size : Nat) : Int) - ((D.size + P.size : Nat) : Int) + (D.size : Int) = (D.size : Int) by omega] at hm
  have hm2 : (decide ((D.size : Int) ∈ 0 :: Iy (D.size + P.size) 60 0 (B D ++ B P))) = decide ((reads 60 0 (B D)).2 = []) := by
    rw [decide_eq_decide, ← hm, List.mem_cons]
    constructor
    · rintro (a | a)
      · exact .inr (List.length_eq_zero_iff.1 (by rw [E5]; omega))
      · exact .inl a
    · rintro (a | a)
      · exact .inr a
      · have : D.size = 0 := by rw [← E5, a]; rfl
        left; omega
  rw [hm2]
  unfold logOk allOf
  have e3 : ((((D.size + P.size : Nat) : Int) - ((reads 60 0 (B D ++ B P)).2.length : Int)) == ((D.size : Int) + (P.size : Int))) = decide ((reads 60 0 (B D ++ B P)).2 = []) := by
    rw [← Int.natCast_add, Bool.eq_iff_iff]
    simp only [beq_iff_eq, decide_eq_true_eq, e1]
  rw [e3]
  congr 1
  rw [Bool.eq_iff_iff]
  simp only [beq_iff_eq, decide_eq_true_eq]
  exact ⟨fun h => h.symm, fun h => h.symm⟩
end Go.Proofs.YtcnmngiaebgjkaaDoor.X

namespace Go.Proofs.YtcnmngiaebgjkaaDoor.Pure
open Go.RowKit Go.Proofs.YtcnmngiaebgjkaaDoorW.PrintWords Go.Proofs.YtcnmngiaebgjkaaDoorL Go.Proofs.YtcnmngiaebgjkaaDoor.X
theorem szLog_le (D P : ByteArray) (c l : Int) (hD : D.size ≤ 140737488351232) (hP : P.size ≤ 140737488351232) (h0 : 0 ≤ l) (h1 : l ≤ 1048576) : ∃ r, Ig.f D P c l = some r ∧ (¬ r < 0 → D.size ≤ 1048576 ∧ P.size ≤ 1048576) := by
  unfold Ig.f
  rw [Gu (x := l - (D.size : Int)) (by omega) (by omega), Gu (x := l - (D.size : Int) - (P.size : Int)) (by omega) (by omega)]
  by_cases c1 : l - (D.size : Int) < 0
  · rw [if_pos c1]; exact ⟨-1, rfl, fun z => absurd (by decide) z⟩
  · rw [if_neg c1]
    by_cases c2 : l - (D.size : Int) - (P.size : Int) < 0
    · rw [if_pos c2]; exact ⟨-1, rfl, fun z => absurd (by decide) z⟩
    · rw [if_neg c2]; exact ⟨_, rfl, fun _ => by omega⟩
theorem FnExactIsValidConsole : OFnExactIsValidConsole.Pure := by
  intro x hx
  refine ev_rounds ?_
  obtain ⟨⟨h1, h0, h2⟩, h3, h4, h5⟩ := hx
  obtain ⟨r, hr, hb⟩ := szTerm_le x.f0.f0.f0 x.f0.f1.f0 x.f0.f1.f1 (by have := h1.1; omega) (fun s hs => by have := (h1.2.2 s hs).1; omega) (by have := h2.1; omega) (fun s hs => by have := (h2.2.2 s hs).1; omega)
  unfold Fp.f Gs.f
  generalize x.f0.f0.f0 = Y at *
  generalize x.f0.f1.f0 = hh at *
  generalize x.f0.f1.f1 = S at *
  by_cases c : r < 0
  · refine Ev.bind (Ev.bind hr (r := -1) ?_) ?_
    · exact ev_eq (fun k => if_pos c)
    · exact ev_eq (fun k => if_pos (by decide))
  · obtain ⟨hle, hY, hS⟩ := hb c
    obtain ⟨r2, e2, hb2⟩ := szLog_le x.f1.f0 x.f1.f1 x.f1.f2 r h3 h4 (by omega) hle
    by_cases c2 : r2 < 0
    · refine Ev.bind (Ev.bind hr (r := -1) ?_) ?_
      · exact ev_eq (fun k => by rw [if_neg c, e2]; exact if_pos c2)
      · exact ev_eq (fun k => if_pos (by decide))
    · obtain ⟨hD, hP⟩ := hb2 c2
      refine Ev.bind (Ev.bind hr (r := r2) ?_) ?_
      · exact ev_eq (fun k => by rw [if_neg c, e2]; exact if_neg c2)
      · simp only [if_neg c2]
        generalize x.f1.f0 = D at *
        generalize x.f1.f1 = P at *
        generalize x.f1.f2 = n at *
        have hT : Ev (fun k => En.f k Y hh S D P n) (Y, hh, S, D, P, n) := by
          refine Ev.bind (toTerm_ev Y hh S hY hS) ?_
          exact Ev.now _
        refine Ev.bind hT ?_
        have hs : Ev (fun k => Fg.f k Y hh S D P n) (termOk Y hh S && logOk D P n) := by
          refine Ev.bind (a := termOk Y hh S && logOk D P n) ?_ (Ev.now _)
          refine Ev.bind (specTerm_ev Y hh S hY hS) ?_
          cases termOk Y hh S with
          | true => simp only [if_true, Bool.true_and]; exact Ev.bind (specLog_ev D P n hD hP) (Ev.now _)
          | false => simp only [Bool.false_eq_true, if_false, Bool.false_and]; exact Ev.now _
        have hi : Ev (fun k => E8.f k Y hh S D P n) (termOk Y hh S && logOk D P n) := by
          refine Ev.bind (implTerm_ev Y hh S hY hS) ?_
          cases termOk Y hh S with
          | true =>
            simp only [if_true, Bool.true_and]
            refine Ev.bind (a := logOk D P n) ?_ (Ev.now _)
            exact Ev.bind (implRecs_ev D P n hD hP) (Ev.now _)
          | false => simp only [Bool.false_eq_true, if_false, Bool.false_and]; exact Ev.now _
        refine Ev.bind hs ?_
        refine Ev.bind hT ?_
        refine Ev.bind hi ?_
        simp only [bne_self_eq_false, Bool.false_eq_true, if_false]
        refine Ev.bind hT ?_
        refine Ev.bind (a := true) ?_ ?_
        · refine Ev.bind (eqTerm_ev Y hh S hY hS) ?_
          simp only [Ih.f, if_true, Option.bind_some]
          exact Ev.now _
        · simp only [if_true]; exact Ev.now _
end Go.Proofs.YtcnmngiaebgjkaaDoor.Pure


namespace Go.Proofs.YtcnmngiaebgjkaaDoor.fnExactIsValidConsole
open Go.ChangeShapes Go.WideShapes Go.ChangeAt Go.RowKit
open Go.ChangeMaps (open_string shut_string)
open Go.Joins
open Go.Proofs.YtcnmngiaebgjkaaDoorW.PrintWords Go.Proofs.YtcnmngiaebgjkaaDoorW.PrintLast Go.Proofs.YtcnmngiaebgjkaaDoorW.PrintMore
open Go.Proofs.YtcnmngiaebgjkaaDoorZ Go.Proofs.YtcnmngiaebgjkaaDoor.X Go.Proofs.YtcnmngiaebgjkaaDoor.X.OFnExactIsValidConsole
set_option linter.unusedVariables false
set_option linter.unusedSimpArgs false
theorem own : ownKnob Tryd.prog.godebug = none := by kernel_rfl
theorem laidOut : laidOutB Tryd.prog = true := by kernel_rfl
open Go Go.Proofs.YtcnmngiaebgjkaaDoorG
def laidL : List (String × DataW Unit) := [("math/bits.deBruijn32tab", Rows.laid_math_bits_deBruijn32tab), ("math/bits.deBruijn64tab", Rows.laid_math_bits_deBruijn64tab), ("internal/strconv.uint64pow10", Rows.laid_internal_strconv_uint64pow10)]
theorem globOf {W : World} (h : laidMetH Tryd.prog laidL W) : Gf W := by
  rw [MakeChecks.laidMetH_plain _ _ _ (by kernel_rfl)] at h
  exact Gf.of_tab (h.filter fun x => x.1 == "internal/strconv.uint64pow10")
set_option maxRecDepth 100000 in
set_option maxHeartbeats 2000000 in
theorem lifted (os : Os) (started : os.Started) (H : Type) (enc : TypeId × Value → H) :
    ReturnsInHanded {} Tryd.checked os 3 .any (fun w args => (Rows.fnExactIsValidConsoleSpec.pre enc Tryd.prog Tryd.f3 Rows.fnExactIsValidConsoleRow.domain false w args ∧ laidMetH Tryd.prog laidL w) ∧ sizedMet enc Tryd.prog Tryd.f3 (OpenSpec.ofChange Rows.fnExactIsValidConsoleSpec) false w args) (Rows.fnExactIsValidConsoleSpec.post enc Tryd.prog Tryd.f3 false true false false) := by
  refine returnsInHanded_of_change_and (C := Tryd.checked) (X := fun w _ => laidMetH Tryd.prog laidL w) (fun _ _ _ hh h => h.of_heap hh) own started (by kernel_rfl) Tryd.func3
    (ChangeSpec.witness_shaped (enc := enc) (C := Tryd.checked) (os := os) (X := fun w _ => laidMetH Tryd.prog laidL w) false (World.laidAll Tryd.prog os laidL) #[.agg #[.slice none 0 0, .int .i64 0, .slice none 0 0, .string ByteArray.empty, .string ByteArray.empty, .int .i64 0]] 8 (World.laidAll_os _ _ _)
      (World.shaped_of_ZipB (by kernel_rfl) (by kernel_rfl)) (by kernel_rfl) (by kernel_rfl) (by kernel_rfl)
      (by rw [MakeChecks.laidMetH_plain _ _ _ (by kernel_rfl)]; exact laidMet_laidAll _ (by kernel_rfl) (by kernel_rfl))) ?_
  intro W base args ds gs before hval0 hW hcnd hsz0 hL _
  have hG := globOf hL
  have hsz : (DataW.weightsEach Tryd.prog (Tryd.f3.params.toList ++ Rows.fnExactIsValidConsoleSpec.plain.varTypes Tryd.prog) (ds ++ gs)).all (· ≤ reachBytes) = true := hsz0
  have hval : ∀ (j : Nat) t v, Tryd.f3.params[j]? = some t → args[j]? = some v → Value.okWide Tryd.prog W .any base t v := hval0
  have hW' := hW
  obtain ⟨p, q, hA0, hV, rfl, hfz, hnd⟩ := hW
  have hA : DataW.TrodAll enc Tryd.prog W 0 (fun _ => true) true Tryd.f3.params.toList args.toList ds p := hA0
  rw [Tryd.params3] at hA hval hsz
  obtain ⟨v0, vs0, d0, ds0, p0, q0, hargs, rfl, rfl, h0, r0⟩ := trodAll_cons hA
  obtain ⟨rfl, rfl, rfl⟩ := trodAll_nil r0
  obtain rfl : args = #[v0] := by cases args; simp_all
  obtain ⟨rfl, rfl⟩ := trodVars_none hV
  obtain ⟨cs0, rfl, hs0⟩ := okWide_struct Tryd.underlying32 (hval 0 32 v0 rfl rfl)
  have k0 := h0
  have lt0 : ∀ x ∈ p0, x.block < W.heap.size := by obtain ⟨m, hm⟩ := k0; exact DataW.trod_lt m _ _ _ hm
  obtain ⟨x0, hK0, w0⟩ : ∃ x : S32, k32.K W x cs0.toList ∧ fitsT32 x := by
    obtain ⟨fuel, hf⟩ := h0
    exact opensT32 hf (weights_param hsz (j := 0) rfl rfl)
  obtain ⟨A0_0, c0_0, A0_2, c0_2, e0, hc0_0, hr0_0, hc0_2, hr0_2⟩ := k32_open hK0
  obtain rfl : cs0 = #[.slice A0_0 x0.f0.f0.f0.length c0_0, .int .i64 x0.f0.f1.f0, .slice A0_2 x0.f0.f1.f1.length c0_2, .string x0.f1.f0, .string x0.f1.f1, .int .i64 x0.f1.f2] := by cases cs0; simpa using e0
  clear hA0 hval0 hsz0 hsz
  obtain ⟨k, h⟩ := Go.Proofs.YtcnmngiaebgjkaaDoor.Pure.FnExactIsValidConsole x0 w0
  refine (Fp.calls k A0_0 c0_0 x0.f0.f0.f0 x0.f0.f1.f0 A0_2 c0_2 x0.f0.f1.f1 x0.f1.f0 x0.f1.f1 x0.f1.f2 true W hr0_0 hc0_0 hr0_2 hc0_2 hG h rfl).mono fun e W' ⟨he, bel0⟩ => ?_
  have bel : Below W.heap.size W W' := bel0
  subst he
  exact ⟨_, rfl, _, _, _, [], _, [], hW', trodAll_mk1 (shut_bool Tryd.underlying4 _), (trodAll_cons_mk (Below.trod laidOut (by kernel_rfl) (of_decide_eq_true (by kernel_rfl)) k0 bel lt0) trodAll_mk0), rfl, bel.frame _, fun h => by cases h⟩
theorem over : Rows.fnExactIsValidConsoleRow.holds Tryd.pinned (OpenSpec.ofChange Rows.fnExactIsValidConsoleSpec) :=
  OpenClaim.holds_of_wide 3 Tryd.f3 rfl rfl rfl rfl rfl rfl rfl ⟨rfl, rfl, rfl, rfl, rfl⟩ rfl rfl rfl rfl rfl (by kernel_rfl) Tryd.func3 (by kernel_rfl)
    (of_decide_eq_true (by kernel_rfl)) (by unfold Func.isWrapper; first | (rw [if_pos (by decide +kernel)]; kernel_rfl) | (rw [if_neg (by decide +kernel)]; exact ⟨rfl, rfl⟩))
    (fun os started H enc _ => lifted os started H enc)
theorem proved : Rows.FnExactIsValidConsoleSaid := over
theorem carded : Rows.FnExactIsValidConsoleCardSaid :=
  Claim7.holds_tied_plain_at .later [] [.data, .data, .data] true (true, "f1b7bccfbd5ef3123ab292711ca47373a3e6453bdabd26f35e445dcfef994918") false
    proved (fun _ h => by cases h) (by kernel_rfl) (fun _ h => by cases h) fnExactIsValidConsole_row_tie rfl ⟨rfl, rfl⟩ (by kernel_rfl) rfl
    (fun f fn hf hfn => by
      obtain rfl : f = 3 := Option.some.inj ((show Tryd.prog.funcNamed "loop.example/g00906/laws.FnExactIsValidConsole" = some 3 by kernel_rfl).symm.trans hf) |>.symm
      obtain rfl : fn = Tryd.f3 := (Option.some.inj (Tryd.func3.symm.trans hfn)).symm
      exact ⟨by kernel_rfl, fun j t ht => by
        rw [Tryd.params3] at ht
        have hm : t ∈ [32] := by simpa using Array.mem_of_getElem? ht
        have hall : ([32].all fun u => !Tryd.prog.wantsStandIn u) = true := by kernel_rfl
        exact (show Tryd.prog.wantsStandIn t = false by simpa using List.all_eq_true.1 hall t hm)⟩)
    (by kernel_rfl)
#print axioms carded
end Go.Proofs.YtcnmngiaebgjkaaDoor.fnExactIsValidConsole
namespace Go.Proofs.YtcnmngiaebgjkaaDoor
/-- The card, under a short name, for the claim. -/
theorem fnExactIsValidConsole_holds : Rows.FnExactIsValidConsoleCardSaid := fnExactIsValidConsole.carded
end Go.Proofs.YtcnmngiaebgjkaaDoor

