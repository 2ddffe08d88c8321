/- Texts that the proof of the law FnHistories leans on, part 3 of 6. -/
import Derived.Lib.SliceRun
import Derived.Test.YtpalafegcndccaaDoorKFnHistories1
set_option linter.unusedVariables false
set_option linter.unusedSimpArgs false
namespace Go.Proofs.YtpalafegcndccaaDoor.X
open Go.RowKit Go.Proofs.YtpalafegcndccaaDoorW.PrintWords Go.Proofs.YtpalafegcndccaaDoorW.PrintLast Go.Proofs.YtpalafegcndccaaDoorW.PrintMore
attribute [local go_sem] Ej Eg Eu Ew D9 D8 Ei Eh
open Go.Proofs.YtpalafegcndccaaDoorG
def Bq.f (s0_0 : List Int) (s0_1 : Int) (s0_2 : Int) (a1 : Int) : Option (Int × Int × Int) := if a1 ≤ 1 then (some (0, s0_1, s0_2)) else ((Gp.f s0_0 s0_1 s0_2).bind fun bt299 => (if a1 > 200 then ((Gp.f s0_0 bt299.2.1 bt299.2.2).bind fun bt302 => (if a1 = 0 then (none) else (some (Int.tmod (wrap64 ((wrap64 (bt299.1 * 256)) + bt302.1)) a1, bt302.2.1, bt302.2.2)))) else (if a1 = 0 then (none) else (some (Int.tmod bt299.1 a1, bt299.2.1, bt299.2.2)))))
set_option maxHeartbeats 8000000 in
set_option maxRecDepth 100000 in
theorem Bq.calls (g : Nat) (s0_0 : List Int) (s0_1 : Int) (s0_2 : Int) (a1 : Int) (r1 : Int) (r2 : Int) (r3 : Int) (w0 w : World) (hI : Af w0 w g s0_0 s0_1 s0_2) (hB : Below w0.heap.size w0 w) (h : Bq.f s0_0 s0_1 s0_2 a1 = some (r1, r2, r3)) :
    Calls Tryd.prog 44 #[.pointer (some ⟨g, 0, none⟩), .int .i64 a1] w fun e w' => e = .returned (.int .i64 r1) ∧ Af w0 w' g s0_0 r2 r3 ∧ Below w0.heap.size w0 w' ∧ Bi w w' g none := by
  have HI0 := Aa.mk hI
  have HK := Aa.mk (Bi.refl w g none)
  have HL := Aa.mk hB.size
  clear hI
  have HW0 := Aa.mk hB.size
  have HB := Aa.mk hB
  clear hB
  have H : (if a1 ≤ 1 then (some (0, s0_1, s0_2)) else ((Gp.f s0_0 s0_1 s0_2).bind fun bt299 => (if a1 > 200 then ((Gp.f s0_0 bt299.2.1 bt299.2.2).bind fun bt302 => (if a1 = 0 then (none) else (some (Int.tmod (wrap64 ((wrap64 (bt299.1 * 256)) + bt302.1)) a1, bt302.2.1, bt302.2.2)))) else (if a1 = 0 then (none) else (some (Int.tmod bt299.1 a1, bt299.2.1, bt299.2.2)))))) = some (r1, r2, r3) := h
  clear h
  by_cases c3 : a1 ≤ 1
  · rw [if_pos c3] at H
    have c3b0 : decide (a1 ≤ 1) = true := decide_eq_true c3
    clear c3
    simp only [Option.some.injEq, Prod.mk.injEq] at H
    obtain ⟨rfl, rfl, rfl⟩ := H
    go_enter Tryd.func44, Tryd.ntmps44
    go_wp2
    go_ret
    exact ⟨by first | rfl | (simp [Be, Bf] <;> rfl) | (simp [*, Be, Bf] <;> rfl), by repeat (first | (with_reducible first | exact HI0.out | apply Af.alloc | apply Af.drewN | apply Af.drew | apply Af.Dy | apply Af.Dx) | exact HI0.out), by repeat (first | (with_reducible first | exact HB.out | apply Ae | apply Ac | apply Ad | refine Ag ?_ (Af.ge HI0.out)) | exact HB.out), by repeat (first | (with_reducible first | exact HK.out | apply Bi.E8 | apply C9 | apply Dl | apply Dc) | exact HK.out)⟩
  · rw [if_neg c3] at H
    have c3b0 : decide (a1 ≤ 1) = false := decide_eq_false c3
    clear c3
    replace H := Option.bind_eq_some_iff.mp H
    obtain ⟨⟨t299, t300, t301⟩, A40, H⟩ := H
    replace H : (if a1 > 200 then ((Gp.f s0_0 t300 t301).bind fun bt302 => (if a1 = 0 then (none) else (some (Int.tmod (wrap64 ((wrap64 (t299 * 256)) + bt302.1)) a1, bt302.2.1, bt302.2.2)))) else (if a1 = 0 then (none) else (some (Int.tmod t299 a1, t300, t301)))) = some (r1, r2, r3) := H
    have A4 := Aa.mk A40
    clear A40
    by_cases c5 : a1 > 200
    · rw [if_pos c5] at H
      have c5b0 : decide (200 < a1) = true := decide_eq_true c5
      clear c5
      replace H := Option.bind_eq_some_iff.mp H
      obtain ⟨⟨t302, t303, t304⟩, A60, H⟩ := H
      replace H : (if a1 = 0 then (none) else (some (Int.tmod (wrap64 ((wrap64 (t299 * 256)) + t302)) a1, t303, t304))) = some (r1, r2, r3) := H
      have A6 := Aa.mk A60
      clear A60
      by_cases c7 : a1 = 0
      · rw [if_pos c7] at H
        exact absurd H (by simp)
      · rw [if_neg c7] at H
        have c7b0 : (a1 == 0) = false := beq_eq_false_iff_ne.mpr c7
        have c7b1 : (a1 != 0) = true := bne_iff_ne.mpr c7
        simp only [Option.some.injEq, Prod.mk.injEq] at H
        obtain ⟨rfl, rfl, rfl⟩ := H
        go_enter Tryd.func44, Tryd.ntmps44
        go_wp2_with (first | ((with_reducible refine Bv (f := 60) rfl ?_); refine D5 (some 9) rfl rfl Tryd.func60 (by kernel_rfl) rfl #[.pointer (some ⟨g, 0, none⟩)] rfl (by (try simp only [List.map_toArray, List.map_cons, List.map_nil]); first | done | rfl | (simp only [List.length_drop, List.length_take]; rfl)) ?_; (with_reducible refine (Gp.calls g s0_0 s0_1 s0_2 t299 t300 t301 w0 _ ?side1 ?side2 A4.out).mono ?_); (case side1 => repeat (first | (with_reducible first | exact HI0.out | apply Af.alloc | apply Af.drewN | apply Af.drew | apply Af.Dy | apply Af.Dx) | exact HI0.out)); (case side2 => repeat (first | (with_reducible first | exact HB.out | apply Ae | apply Ac | apply Ad | refine Ag ?_ (Af.ge HI0.out)) | exact HB.out)); rintro e w8 ⟨rfl, hi, hb, hk⟩; refine ⟨_, rfl, ?_⟩; have n0_ := Aa.mk (Bi.trans (by repeat (first | (with_reducible first | exact HK.out | apply Bi.E8 | apply C9 | apply Dl | apply Dc) | exact HK.out)) hk (.inl rfl)); have n1_ := Aa.mk (hb); have n2_ := Aa.mk (hi); clear HK; clear HB; clear HI0; have HK := n0_; have HB := n1_; have HI0 := n2_; clear n0_ n1_ n2_; (try clear hb); (try clear hb2); (try clear hk); (try clear hi)) | ((with_reducible refine Bv (f := 60) rfl ?_); refine D5 (some 15) rfl rfl Tryd.func60 (by kernel_rfl) rfl #[.pointer (some ⟨g, 0, none⟩)] rfl (by (try simp only [List.map_toArray, List.map_cons, List.map_nil]); first | done | rfl | (simp only [List.length_drop, List.length_take]; rfl)) ?_; (with_reducible refine (Gp.calls g s0_0 t300 t301 t302 t303 t304 w0 _ ?side1 ?side2 A6.out).mono ?_); (case side1 => repeat (first | (with_reducible first | exact HI0.out | apply Af.alloc | apply Af.drewN | apply Af.drew | apply Af.Dy | apply Af.Dx) | exact HI0.out)); (case side2 => repeat (first | (with_reducible first | exact HB.out | apply Ae | apply Ac | apply Ad | refine Ag ?_ (Af.ge HI0.out)) | exact HB.out)); rintro e w9 ⟨rfl, hi, hb, hk⟩; refine ⟨_, rfl, ?_⟩; have n0_ := Aa.mk (Bi.trans (by repeat (first | (with_reducible first | exact HK.out | apply Bi.E8 | apply C9 | apply Dl | apply Dc) | exact HK.out)) hk (.inl rfl)); have n1_ := Aa.mk (hb); have n2_ := Aa.mk (hi); clear HK; clear HB; clear HI0; have HK := n0_; have HB := n1_; have HI0 := n2_; clear n0_ n1_ n2_; (try clear hb); (try clear hb2); (try clear hk); (try clear hi)))
        go_ret
        exact ⟨by first | rfl | (simp [Be, Bf] <;> rfl) | (simp [*, Be, Bf] <;> rfl), by repeat (first | (with_reducible first | exact HI0.out | apply Af.alloc | apply Af.drewN | apply Af.drew | apply Af.Dy | apply Af.Dx) | exact HI0.out), by repeat (first | (with_reducible first | exact HB.out | apply Ae | apply Ac | apply Ad | refine Ag ?_ (Af.ge HI0.out)) | exact HB.out), by repeat (first | (with_reducible first | exact HK.out | apply Bi.E8 | apply C9 | apply Dl | apply Dc) | exact HK.out)⟩
    · rw [if_neg c5] at H
      have c5b0 : decide (200 < a1) = false := decide_eq_false c5
      clear c5
      by_cases c10 : a1 = 0
      · rw [if_pos c10] at H
        exact absurd H (by simp)
      · rw [if_neg c10] at H
        have c10b0 : (a1 == 0) = false := beq_eq_false_iff_ne.mpr c10
        have c10b1 : (a1 != 0) = true := bne_iff_ne.mpr c10
        simp only [Option.some.injEq, Prod.mk.injEq] at H
        obtain ⟨rfl, rfl, rfl⟩ := H
        go_enter Tryd.func44, Tryd.ntmps44
        go_wp2_with (first | ((with_reducible refine Bv (f := 60) rfl ?_); refine D5 (some 9) rfl rfl Tryd.func60 (by kernel_rfl) rfl #[.pointer (some ⟨g, 0, none⟩)] rfl (by (try simp only [List.map_toArray, List.map_cons, List.map_nil]); first | done | rfl | (simp only [List.length_drop, List.length_take]; rfl)) ?_; (with_reducible refine (Gp.calls g s0_0 s0_1 s0_2 t299 t300 t301 w0 _ ?side1 ?side2 A4.out).mono ?_); (case side1 => repeat (first | (with_reducible first | exact HI0.out | apply Af.alloc | apply Af.drewN | apply Af.drew | apply Af.Dy | apply Af.Dx) | exact HI0.out)); (case side2 => repeat (first | (with_reducible first | exact HB.out | apply Ae | apply Ac | apply Ad | refine Ag ?_ (Af.ge HI0.out)) | exact HB.out)); rintro e w11 ⟨rfl, hi, hb, hk⟩; refine ⟨_, rfl, ?_⟩; have n0_ := Aa.mk (Bi.trans (by repeat (first | (with_reducible first | exact HK.out | apply Bi.E8 | apply C9 | apply Dl | apply Dc) | exact HK.out)) hk (.inl rfl)); have n1_ := Aa.mk (hb); have n2_ := Aa.mk (hi); clear HK; clear HB; clear HI0; have HK := n0_; have HB := n1_; have HI0 := n2_; clear n0_ n1_ n2_; (try clear hb); (try clear hb2); (try clear hk); (try clear hi)))
        go_ret
        exact ⟨by first | rfl | (simp [Be, Bf] <;> rfl) | (simp [*, Be, Bf] <;> rfl), by repeat (first | (with_reducible first | exact HI0.out | apply Af.alloc | apply Af.drewN | apply Af.drew | apply Af.Dy | apply Af.Dx) | exact HI0.out), by repeat (first | (with_reducible first | exact HB.out | apply Ae | apply Ac | apply Ad | refine Ag ?_ (Af.ge HI0.out)) | exact HB.out), by repeat (first | (with_reducible first | exact HK.out | apply Bi.E8 | apply C9 | apply Dl | apply Dc) | exact HK.out)⟩
end Go.Proofs.YtpalafegcndccaaDoor.X

namespace Go.Proofs.YtpalafegcndccaaDoor.X
open Go.RowKit Go.Proofs.YtpalafegcndccaaDoorW.PrintWords Go.Proofs.YtpalafegcndccaaDoorW.PrintLast Go.Proofs.YtpalafegcndccaaDoorW.PrintMore
attribute [local go_sem] Ej Eg Eu Ew D9 D8 Ei Eh
open Go.Proofs.YtpalafegcndccaaDoorG
def Eo.f (s0_0 : List Int) (s0_1 : Int) (s0_2 : Int) (l1 : List Int) : Option (Int × Int × Int) := (Bq.f s0_0 s0_1 s0_2 (l1.length : Int)).bind fun bt305 => (if 0 ≤ bt305.1 then (if bt305.1 < (l1.length : Int) then (some (rd l1 bt305.1, bt305.2.1, bt305.2.2)) else (none)) else (none))
set_option maxHeartbeats 8000000 in
set_option maxRecDepth 100000 in
theorem Eo.calls (g : Nat) (s0_0 : List Int) (s0_1 : Int) (s0_2 : Int) (A1 : Option Addr) (c1 : Nat) (l1 : List Int) (r1 : Int) (r2 : Int) (r3 : Int) (w0 w : World) (hI : Af w0 w g s0_0 s0_1 s0_2) (hB : Below w0.heap.size w0 w) (hr1 : Kd.C (Kd.int .i64) w A1 l1.length l1) (hc1 : l1.length ≤ c1) (hf1 : ∀ ad, A1 = some ad → 0 < l1.length → ad.block ≠ g) (h : Eo.f s0_0 s0_1 s0_2 l1 = some (r1, r2, r3)) :
    Calls Tryd.prog 43 #[.pointer (some ⟨g, 0, none⟩), .slice A1 l1.length c1] w fun e w' => e = .returned (.int .i64 r1) ∧ Af w0 w' g s0_0 r2 r3 ∧ Below w0.heap.size w0 w' ∧ Bi w w' g none := by
  have HR1 := Aa.mk hr1
  have HC1 := Aa.mk hc1
  clear hr1 hc1
  have HI0 := Aa.mk hI
  have HK := Aa.mk (Bi.refl w g none)
  have HL := Aa.mk hB.size
  clear hI
  have HW0 := Aa.mk hB.size
  have HB := Aa.mk hB
  clear hB
  have H : ((Bq.f s0_0 s0_1 s0_2 (l1.length : Int)).bind fun bt305 => (if 0 ≤ bt305.1 then (if bt305.1 < (l1.length : Int) then (some (rd l1 bt305.1, bt305.2.1, bt305.2.2)) else (none)) else (none))) = some (r1, r2, r3) := h
  clear h
  replace H := Option.bind_eq_some_iff.mp H
  obtain ⟨⟨t305, t306, t307⟩, A30, H⟩ := H
  replace H : (if 0 ≤ t305 then (if t305 < (l1.length : Int) then (some (rd l1 t305, t306, t307)) else (none)) else (none)) = some (r1, r2, r3) := H
  have A3 := Aa.mk A30
  clear A30
  by_cases c4 : 0 ≤ t305
  · rw [if_pos c4] at H
    have c4b0 : decide (0 ≤ t305) = true := decide_eq_true c4
    clear c4
    by_cases c5 : t305 < (l1.length : Int)
    · rw [if_pos c5] at H
      have c5b0 : decide (t305 < (l1.length : Int)) = true := decide_eq_true c5
      clear c5
      simp only [Option.some.injEq, Prod.mk.injEq] at H
      obtain ⟨rfl, rfl, rfl⟩ := H
      go_enter Tryd.func43, Tryd.ntmps43
      go_wp2_with (first | ((with_reducible refine Bv (f := 44) rfl ?_); refine D5 (some 9) rfl rfl Tryd.func44 (by kernel_rfl) rfl #[.pointer (some ⟨g, 0, none⟩), .int .i64 (l1.length : Int)] rfl (by (try simp only [List.map_toArray, List.map_cons, List.map_nil]); first | done | rfl | (simp only [List.length_drop, List.length_take]; rfl)) ?_; (with_reducible refine (Bq.calls g s0_0 s0_1 s0_2 (l1.length : Int) t305 t306 t307 w0 _ ?side1 ?side2 A3.out).mono ?_); (case side1 => repeat (first | (with_reducible first | exact HI0.out | apply Af.alloc | apply Af.drewN | apply Af.drew | apply Af.Dy | apply Af.Dx) | exact HI0.out)); (case side2 => repeat (first | (with_reducible first | exact HB.out | apply Ae | apply Ac | apply Ad | refine Ag ?_ (Af.ge HI0.out)) | exact HB.out)); rintro e w6 ⟨rfl, hi, hb, hk⟩; refine ⟨_, rfl, ?_⟩; have n0_ := Aa.mk (Bi.trans (by repeat (first | (with_reducible first | exact HK.out | apply Bi.E8 | apply C9 | apply Dl | apply Dc) | exact HK.out)) hk (.inl rfl)); have n1_ := Aa.mk (hb); have n2_ := Aa.mk (hi); clear HK; clear HB; clear HI0; have HK := n0_; have HB := n1_; have HI0 := n2_; clear n0_ n1_ n2_; (try clear hb); (try clear hb2); (try clear hk); (try clear hi); have p308 : 0 ≤ (t305 : Int) := of_decide_eq_true (by first | (with_reducible assumption) | assumption); have q308 : t305 < (l1.length : Int) := of_decide_eq_true (by first | (with_reducible assumption) | assumption); obtain ⟨ad308, e308, hx308_0⟩ := Kd.at_int HR1.out t305 p308 q308; cases e308; replace hx308_0 := keep_cell HK.out hx308_0 (by first | (rw [add_block]; exact hf1 _ rfl (by omega)) | exact hf1 _ rfl (by omega) | exact hf1 ad308 rfl (by omega)); replace p308 := eq_true p308; replace q308 := eq_true q308))
      go_ret
      exact ⟨by first | rfl | (simp [Be, Bf] <;> rfl) | (simp [*, Be, Bf] <;> rfl), by repeat (first | (with_reducible first | exact HI0.out | apply Af.alloc | apply Af.drewN | apply Af.drew | apply Af.Dy | apply Af.Dx) | exact HI0.out), by repeat (first | (with_reducible first | exact HB.out | apply Ae | apply Ac | apply Ad | refine Ag ?_ (Af.ge HI0.out)) | exact HB.out), by repeat (first | (with_reducible first | exact HK.out | apply Bi.E8 | apply C9 | apply Dl | apply Dc) | exact HK.out)⟩
    · rw [if_neg c5] at H
      exact absurd H (by simp)
  · rw [if_neg c4] at H
    exact absurd H (by simp)
end Go.Proofs.YtpalafegcndccaaDoor.X

namespace Go.Proofs.YtpalafegcndccaaDoor.X
open Go.RowKit Go.Proofs.YtpalafegcndccaaDoorW.PrintWords Go.Proofs.YtpalafegcndccaaDoorW.PrintLast Go.Proofs.YtpalafegcndccaaDoorW.PrintMore
attribute [local go_sem] Ej Eg Eu Ew D9 D8 Ei Eh
open Go.Proofs.YtpalafegcndccaaDoorG
mutual
def Bg.l0 : Nat → List (S40) → Int → Int → List Int → Int → Int → Option ((List (S40)) × Int × Int)
  | 0, _, _, _, _, _, _ => none
  | k + 1, x3, x4, x5, x1000, x1001, x1002 => if x5 > 0 then (Bg.l1 k x3 x4 x5 (([] : List Int)) 1 x1000 x1001 x1002) else (some (x3, x1001, x1002))
def Bg.l1 : Nat → List (S40) → Int → Int → List Int → Int → List Int → Int → Int → Option ((List (S40)) × Int × Int)
  | 0, _, _, _, _, _, _, _, _ => none
  | k + 1, x3, x4, x5, x6, x7, x1000, x1001, x1002 => if x7 ≤ 6 then ((Bh.f k x3).bind fun t334 => ((Cb.f k t334 x7).bind fun t335 => (if t335 ≥ 0 then (if x6.length < 17592186044416 then (Bg.l1 k x3 x4 x5 (x6 ++ [x7]) (wrap64 (x7 + 1)) x1000 x1001 x1002) else (none)) else (Bg.l1 k x3 x4 x5 x6 (wrap64 (x7 + 1)) x1000 x1001 x1002)))) else ((Eo.f x1000 x1001 x1002 (([0, 0, 1, 3, 10] : List Int))).bind fun bt324 => ((Bq.f x1000 bt324.2.1 bt324.2.2 (x6.length : Int)).bind fun bt327 => (if 0 ≤ bt327.1 then (if bt327.1 < (x6.length : Int) then (if x3.length < 8796093022208 then (Bg.l0 k (x3 ++ [(⟨wrap64 (x4 + bt324.1), rd x6 bt327.1⟩ : S40)]) (wrap64 (x4 + bt324.1)) (wrap64 (x5 - 1)) x1000 bt327.2.1 bt327.2.2) else (none)) else (none)) else (none))))
end
def Bg.f (k : Nat) (s0_0 : List Int) (s0_1 : Int) (s0_2 : Int) : Option ((List (S40)) × Int × Int) := (Bq.f s0_0 s0_1 s0_2 20).bind fun bt312 => ((Bq.f s0_0 bt312.2.1 bt312.2.2 10).bind fun bt315 => (Bg.l0 k (([] : List (S40))) bt312.1 bt315.1 s0_0 bt315.2.1 bt315.2.2))
theorem Bg.Et : ∀ k, (∀ y0 y1 y2 y3 y4 y5, LeO (Bg.l0 k y0 y1 y2 y3 y4 y5) (Bg.l0 (k + 1) y0 y1 y2 y3 y4 y5)) ∧ (∀ y0 y1 y2 y3 y4 y5 y6 y7, LeO (Bg.l1 k y0 y1 y2 y3 y4 y5 y6 y7) (Bg.l1 (k + 1) y0 y1 y2 y3 y4 y5 y6 y7))
  | 0 => ⟨fun _ _ _ _ _ _ r h => by simp [Bg.l0] at h, fun _ _ _ _ _ _ _ _ r h => by simp [Bg.l1] at h⟩
  | k + 1 => by
    obtain ⟨ih0, ih1⟩ := Bg.Et k
    refine ⟨?_, ?_⟩
    · intro y0 y1 y2 y3 y4 y5
      unfold Bg.l0
      repeat' first
      | (with_reducible exact ih0 _ _ _ _ _ _)
      | (with_reducible exact ih1 _ _ _ _ _ _ _ _)
      | (with_reducible exact Cb.mono _ _ _)
      | (with_reducible exact Bh.mono _ _)
      | (with_reducible exact LeO.refl _)
      | (with_reducible exact LeO.none _)
      | (with_reducible refine LeO.ite ?_ ?_)
      | (with_reducible refine LeO.bind ?_ (fun _ => ?_))
      | exact ih0 _ _ _ _ _ _
      | exact ih1 _ _ _ _ _ _ _ _
      | exact Cb.mono _ _ _
      | exact Bh.mono _ _
      | exact LeO.none _
      | refine LeO.ite ?_ ?_
      | refine LeO.bind ?_ (fun _ => ?_)
    · intro y0 y1 y2 y3 y4 y5 y6 y7
      unfold Bg.l1
      repeat' first
      | (with_reducible exact ih0 _ _ _ _ _ _)
      | (with_reducible exact ih1 _ _ _ _ _ _ _ _)
      | (with_reducible exact Cb.mono _ _ _)
      | (with_reducible exact Bh.mono _ _)
      | (with_reducible exact LeO.refl _)
      | (with_reducible exact LeO.none _)
      | (with_reducible refine LeO.ite ?_ ?_)
      | (with_reducible refine LeO.bind ?_ (fun _ => ?_))
      | exact ih0 _ _ _ _ _ _
      | exact ih1 _ _ _ _ _ _ _ _
      | exact Cb.mono _ _ _
      | exact Bh.mono _ _
      | exact LeO.none _
      | refine LeO.ite ?_ ?_
      | refine LeO.bind ?_ (fun _ => ?_)
theorem Bg.mono : ∀ a0 a1 a2 k, LeO (Bg.f k a0 a1 a2) (Bg.f (k + 1) a0 a1 a2) := by
  intro a0 a1 a2 k
  obtain ⟨ih0, ih1⟩ := Bg.Et k
  unfold Bg.f
  repeat' first
      | (with_reducible exact ih0 _ _ _ _ _ _)
      | (with_reducible exact ih1 _ _ _ _ _ _ _ _)
      | (with_reducible exact Cb.mono _ _ _)
      | (with_reducible exact Bh.mono _ _)
      | (with_reducible exact LeO.refl _)
      | (with_reducible exact LeO.none _)
      | (with_reducible refine LeO.ite ?_ ?_)
      | (with_reducible refine LeO.bind ?_ (fun _ => ?_))
      | exact ih0 _ _ _ _ _ _
      | exact ih1 _ _ _ _ _ _ _ _
      | exact Cb.mono _ _ _
      | exact Bh.mono _ _
      | exact LeO.none _
      | refine LeO.ite ?_ ?_
      | refine LeO.bind ?_ (fun _ => ?_)
set_option maxHeartbeats 8000000 in
set_option maxRecDepth 100000 in
theorem Bg.calls (k : Nat) (g : Nat) (s0_0 : List Int) (s0_1 : Int) (s0_2 : Int) (r1 : List (S40)) (r2 : Int) (r3 : Int) (w0 w : World) (hI : Af w0 w g s0_0 s0_1 s0_2) (hB : Below w0.heap.size w0 w) (h : Bg.f k s0_0 s0_1 s0_2 = some (r1, r2, r3)) :
    Calls Tryd.prog 39 #[.pointer (some ⟨g, 0, none⟩)] w fun e w' => ∃ v0_ : Value, e = .returned (v0_) ∧ Kd.R k40 40 w' w.heap.size (fun _ => True) v0_ r1 ∧ Af w0 w' g s0_0 r2 r3 ∧ Below w0.heap.size w0 w' ∧ Bi w w' g none := by
  have hu40 := Tryd.underlying40
  have HI0 := Aa.mk hI
  have HK := Aa.mk (Bi.refl w g none)
  have HL := Aa.mk hB.size
  clear hI
  have HW0 := Aa.mk hB.size
  have HB := Aa.mk hB
  clear hB
  have H : ((Bq.f s0_0 s0_1 s0_2 20).bind fun bt312 => ((Bq.f s0_0 bt312.2.1 bt312.2.2 10).bind fun bt315 => (Bg.l0 k (([] : List (S40))) bt312.1 bt315.1 s0_0 bt315.2.1 bt315.2.2))) = some (r1, r2, r3) := h
  clear h
  obtain ⟨y309, hy309⟩ : ∃ y_ : List (S40), y_ = (([] : List (S40))) := ⟨_, rfl⟩
  replace H : ((Bq.f s0_0 s0_1 s0_2 20).bind fun bt312 => ((Bq.f s0_0 bt312.2.1 bt312.2.2 10).bind fun bt315 => (Bg.l0 k y309 bt312.1 bt315.1 s0_0 bt315.2.1 bt315.2.2))) = some (r1, r2, r3) := by first | (rw [hy309]; with_reducible exact H) | (have H2_ := (Option.bind_some _ _).symm.trans H; rw [hy309]; with_reducible exact H2_) | (have H2_ := (Option.bind_some _ _).symm.trans H; with_reducible exact H2_) | with_reducible exact H | (rw [hy309]; exact H) | exact H
  have Ny309 := Aa.mk hy309
  clear hy309
  replace H := Option.bind_eq_some_iff.mp H
  obtain ⟨⟨t312, t313, t314⟩, A20, H⟩ := H
  replace H : ((Bq.f s0_0 t313 t314 10).bind fun bt315 => (Bg.l0 k y309 t312 bt315.1 s0_0 bt315.2.1 bt315.2.2)) = some (r1, r2, r3) := H
  have A2 := Aa.mk A20
  clear A20
  replace H := Option.bind_eq_some_iff.mp H
  obtain ⟨⟨t315, t316, t317⟩, A30, H⟩ := H
  replace H : (Bg.l0 k y309 t312 t315 s0_0 t316 t317) = some (r1, r2, r3) := H
  have A3 := Aa.mk A30
  clear A30
  have H' := Aa.mk H
  clear H
  go_enter Tryd.func39, Tryd.ntmps39
  go_wp2_with (first | ((with_reducible refine D7 (N := 8) rfl ?_); refine Kd.Ii k40 _ 40 ?hg (N := 8) ?hd (xs := ([] : List (S40))) (inner := []) (ok := fun _ => True) (okp := fun _ => True) ?hr ?hp (fun _ hk => hk) trivial (Below.refl _ _) (Nat.le_refl _) (by simp) ?_; (case hd => rfl); (case hg => rfl); (case hr => first | (go_simp; done) | (go_simp; rfl)); (case hp => exact (Dw.none _ _)); intro v310 w4 ho5 hb hg_ hnew_; clear hg_ hnew_; (first | rw [← Ny309.out] at ho5 | (simp only [Int.reduceToNat] at ho5; rw [← Ny309.out] at ho5)); have n0_ := Aa.mk (Kd.Du ho5 (Ik (w := w) (g := g) (row := none) (by repeat (first | (with_reducible first | exact HK.out | apply Bi.E8 | apply C9 | apply Dl | apply Dc) | exact HK.out)))); have n1_ := Aa.mk (Af.below (by repeat (first | (with_reducible first | exact HI0.out | apply Af.alloc | apply Af.drewN | apply Af.drew | apply Af.Dy | apply Af.Dx) | exact HI0.out)) hb); have n2_ := Aa.mk (Bi.trans (by repeat (first | (with_reducible first | exact HK.out | apply Bi.E8 | apply C9 | apply Dl | apply Dc) | exact HK.out)) (Bi.of_below hb g none) (.inl rfl)); have n3_ := Aa.mk (Ap (by repeat (first | (with_reducible first | exact HB.out | apply Ae | apply Ac | apply Ad | refine Ag ?_ (Af.ge HI0.out)) | exact HB.out)) hb); clear HI0; clear HK; clear HB; have HO311 := n0_; have HI0 := n1_; have HK := n2_; have HB := n3_; clear n0_ n1_ n2_ n3_; clear hb ho5) | ((with_reducible refine Bv (f := 44) rfl ?_); refine D5 (some 10) rfl rfl Tryd.func44 (by kernel_rfl) rfl #[.pointer (some ⟨g, 0, none⟩), .int .i64 20] rfl (by (try simp only [List.map_toArray, List.map_cons, List.map_nil]); first | done | rfl | (simp only [List.length_drop, List.length_take]; rfl)) ?_; (with_reducible refine (Bq.calls g s0_0 s0_1 s0_2 20 t312 t313 t314 w0 _ ?side1 ?side2 A2.out).mono ?_); (case side1 => repeat (first | (with_reducible first | exact HI0.out | apply Af.alloc | apply Af.drewN | apply Af.drew | apply Af.Dy | apply Af.Dx) | exact HI0.out)); (case side2 => repeat (first | (with_reducible first | exact HB.out | apply Ae | apply Ac | apply Ad | refine Ag ?_ (Af.ge HI0.out)) | exact HB.out)); rintro e w6 ⟨rfl, hi, hb, hk⟩; refine ⟨_, rfl, ?_⟩; have n0_ := Aa.mk (Kd.R_mono (Kd.Gl (Af.apart (show Af w0 _ g s0_0 s0_1 s0_2 from by repeat (first | (with_reducible first | exact HI0.out | apply Af.alloc | apply Af.drewN | apply Af.drew | apply Af.Dy | apply Af.Dx) | exact HI0.out)) (by (with_reducible repeat (first | apply Kd.Ah | apply Kd.Ai | apply Kd.Ak)); exact HO311.out) (by decide)) hk (fun _ h => h.2)) (fun _ h => h.1)); have n1_ := Aa.mk (Bi.trans (by repeat (first | (with_reducible first | exact HK.out | apply Bi.E8 | apply C9 | apply Dl | apply Dc) | exact HK.out)) hk (.inl rfl)); have n2_ := Aa.mk (hb); have n3_ := Aa.mk (hi); clear HO311; clear HK; clear HB; clear HI0; have HO311 := n0_; have HK := n1_; have HB := n2_; have HI0 := n3_; clear n0_ n1_ n2_ n3_; (try clear hb); (try clear hb2); (try clear hk); (try clear hi)) | ((with_reducible refine Bv (f := 44) rfl ?_); refine D5 (some 12) rfl rfl Tryd.func44 (by kernel_rfl) rfl #[.pointer (some ⟨g, 0, none⟩), .int .i64 10] rfl (by (try simp only [List.map_toArray, List.map_cons, List.map_nil]); first | done | rfl | (simp only [List.length_drop, List.length_take]; rfl)) ?_; (with_reducible refine (Bq.calls g s0_0 t313 t314 10 t315 t316 t317 w0 _ ?side1 ?side2 A3.out).mono ?_); (case side1 => repeat (first | (with_reducible first | exact HI0.out | apply Af.alloc | apply Af.drewN | apply Af.drew | apply Af.Dy | apply Af.Dx) | exact HI0.out)); (case side2 => repeat (first | (with_reducible first | exact HB.out | apply Ae | apply Ac | apply Ad | refine Ag ?_ (Af.ge HI0.out)) | exact HB.out)); rintro e w7 ⟨rfl, hi, hb, hk⟩; refine ⟨_, rfl, ?_⟩; have n0_ := Aa.mk (Kd.R_mono (Kd.Gl (Af.apart (show Af w0 _ g s0_0 t313 t314 from by repeat (first | (with_reducible first | exact HI0.out | apply Af.alloc | apply Af.drewN | apply Af.drew | apply Af.Dy | apply Af.Dx) | exact HI0.out)) (by (with_reducible repeat (first | apply Kd.Ah | apply Kd.Ai | apply Kd.Ak)); exact HO311.out) (by decide)) hk (fun _ h => h.2)) (fun _ h => h.1)); have n1_ := Aa.mk (Bi.trans (by repeat (first | (with_reducible first | exact HK.out | apply Bi.E8 | apply C9 | apply Dl | apply Dc) | exact HK.out)) hk (.inl rfl)); have n2_ := Aa.mk (hb); have n3_ := Aa.mk (hi); clear HO311; clear HK; clear HB; clear HI0; have HO311 := n0_; have HK := n1_; have HB := n2_; have HI0 := n3_; clear n0_ n1_ n2_ n3_; (try clear hb); (try clear hb2); (try clear hk); (try clear hi)))
  go_loopg [3, 4, 5] k (fun kq v3 v4 v5 w' => ∃ (x3_1 : List (S40)) (x4_1 : Int) (x5_1 : Int) (x1001_1 : Int) (x1002_1 : Int), v4 = .int .i64 x4_1 ∧ v5 = .int .i64 x5_1 ∧ Aa (Bg.l0 kq x3_1 x4_1 x5_1 s0_0 x1001_1 x1002_1 = some (r1, r2, r3)) ∧ Aa (kq ≤ k) ∧ Aa (Kd.R k40 40 w' w.heap.size (fun _ => True) v3 x3_1) ∧ Aa (Af w0 w' g s0_0 x1001_1 x1002_1) ∧ Aa (Bi w w' g none) ∧ Aa (Below w0.heap.size w0 w'))
  case atStart => exact ⟨(y309), (t312), (t315), (t316), (t317), (by first | rfl | (simp; done) | (simp [*]; done)), (by first | rfl | (simp; done) | (simp [*]; done)), H', ⟨Nat.le_refl _⟩, ⟨by (with_reducible repeat (first | apply Kd.Ah | apply Kd.Ai | apply Kd.Ak)); exact HO311.out⟩, ⟨by repeat (first | (with_reducible first | exact HI0.out | apply Af.alloc | apply Af.drewN | apply Af.drew | apply Af.Dy | apply Af.Dx) | exact HI0.out)⟩, ⟨by repeat (first | (with_reducible first | exact HK.out | apply Bi.E8 | apply C9 | apply Dl | apply Dc) | exact HK.out)⟩, ⟨by repeat (first | (with_reducible first | exact HB.out | apply Ae | apply Ac | apply Ad | refine Ag ?_ (Af.ge HI0.out)) | exact HB.out)⟩⟩
  case round =>
    clear H'
    try clear p2
    try clear c3
    try clear c4
    obtain ⟨x3_1, x4_1, x5_1, x1001_1, x1002_1, rfl, rfl, HA, HK1, HO_3, HI0, HK, HB⟩ := hrel
    cases gk with
    | zero => exact absurd HA.out (by simp [Bg.l0])
    | succ k1 =>
      have H := HA.out
      clear HA
      simp only [Bg.l0] at H
      by_cases c8 : x5_1 > 0
      · rw [if_pos c8] at H
        have c8b0 : decide (0 < x5_1) = true := decide_eq_true c8
        clear c8
        obtain ⟨y318, hy318⟩ : ∃ y_ : List Int, y_ = (([] : List Int)) := ⟨_, rfl⟩
        replace H : (Bg.l1 k1 x3_1 x4_1 x5_1 y318 1 s0_0 x1001_1 x1002_1) = some (r1, r2, r3) := by first | (rw [hy318]; with_reducible exact H) | (have H2_ := (Option.bind_some _ _).symm.trans H; rw [hy318]; with_reducible exact H2_) | (have H2_ := (Option.bind_some _ _).symm.trans H; with_reducible exact H2_) | with_reducible exact H | (rw [hy318]; exact H) | exact H
        have Ny318 := Aa.mk hy318
        clear hy318
        have H' := Aa.mk H
        clear H
        go_wp2_with (first | ((with_reducible refine D7 (N := 17) rfl ?_); refine Kd.Ii (Kd.int .i64) _ 3 ?hg (N := 17) ?hd (xs := ([] : List Int)) (inner := []) (ok := fun _ => True) (okp := fun _ => True) ?hr ?hp (fun _ hk => hk) trivial (Below.refl _ _) (Nat.le_refl _) (by simp) ?_; (case hd => rfl); (case hg => rfl); (case hr => first | (go_simp; done) | (go_simp; rfl)); (case hp => exact (Dw.none _ _)); intro v319 w9 ho10 hb hg_ hnew_; clear hg_ hnew_; (first | rw [← Ny318.out] at ho10 | (simp only [Int.reduceToNat] at ho10; rw [← Ny318.out] at ho10)); have n0_ := Aa.mk (Kd.Dk (by (with_reducible repeat (first | apply Kd.Ah | apply Kd.Ai | apply Kd.Ak)); exact HO_3.out) hb); have n1_ := Aa.mk (Kd.Du ho10 (Ik (w := w) (g := g) (row := none) (by repeat (first | (with_reducible first | exact HK.out | apply Bi.E8 | apply C9 | apply Dl | apply Dc) | exact HK.out)))); have n2_ := Aa.mk (Af.below (by repeat (first | (with_reducible first | exact HI0.out | apply Af.alloc | apply Af.drewN | apply Af.drew | apply Af.Dy | apply Af.Dx) | exact HI0.out)) hb); have n3_ := Aa.mk (Bi.trans (by repeat (first | (with_reducible first | exact HK.out | apply Bi.E8 | apply C9 | apply Dl | apply Dc) | exact HK.out)) (Bi.of_below hb g none) (.inl rfl)); have n4_ := Aa.mk (Ap (by repeat (first | (with_reducible first | exact HB.out | apply Ae | apply Ac | apply Ad | refine Ag ?_ (Af.ge HI0.out)) | exact HB.out)) hb); clear HO_3; clear HI0; clear HK; clear HB; have HO_3 := n0_; have HO320 := n1_; have HI0 := n2_; have HK := n3_; have HB := n4_; clear n0_ n1_ n2_ n3_ n4_; clear hb ho10))
        go_loopg [6, 7] k1 (fun kq v6 v7 w' => ∃ (x6_2 : List Int) (x7_2 : Int), v7 = .int .i64 x7_2 ∧ Aa (Bg.l1 kq x3_1 x4_1 x5_1 x6_2 x7_2 s0_0 x1001_1 x1002_1 = some (r1, r2, r3)) ∧ Aa (kq ≤ k1) ∧ Aa (Kd.R k40 40 w' w.heap.size (fun _ => True) u3 x3_1) ∧ Aa (Kd.R (Kd.int .i64) 3 w' w.heap.size (fun _ => True) v6 x6_2) ∧ Aa (Af w0 w' g s0_0 x1001_1 x1002_1) ∧ Aa (Bi w w' g none) ∧ Aa (Below w0.heap.size w0 w'))
        case atStart => exact ⟨(y318), (1), (by first | rfl | (simp; done) | (simp [*]; done)), H', ⟨Nat.le_refl _⟩, ⟨by (with_reducible repeat (first | apply Kd.Ah | apply Kd.Ai | apply Kd.Ak)); exact HO_3.out⟩, ⟨by (with_reducible repeat (first | apply Kd.Ah | apply Kd.Ai | apply Kd.Ak)); exact HO320.out⟩, ⟨by repeat (first | (with_reducible first | exact HI0.out | apply Af.alloc | apply Af.drewN | apply Af.drew | apply Af.Dy | apply Af.Dx) | exact HI0.out)⟩, ⟨by repeat (first | (with_reducible first | exact HK.out | apply Bi.E8 | apply C9 | apply Dl | apply Dc) | exact HK.out)⟩, ⟨by repeat (first | (with_reducible first | exact HB.out | apply Ae | apply Ac | apply Ad | refine Ag ?_ (Af.ge HI0.out)) | exact HB.out)⟩⟩
        case round =>
          clear H'
          try clear p2
          try clear c3
          try clear c4
          try clear c8
          try clear c8b0
          try clear p2
          obtain ⟨x6_2, x7_2, rfl, HA, HK2, HO_3, HO_6, HI0, HK, HB⟩ := hrel
          cases gk with
          | zero => exact absurd HA.out (by simp [Bg.l1])
          | succ k2 =>
            have H := HA.out
            clear HA
            simp only [Bg.l1] at H
            by_cases c11 : x7_2 ≤ 6
            · rw [if_pos c11] at H
              have c11b0 : decide (x7_2 ≤ 6) = true := decide_eq_true c11
              clear c11
              replace H := Option.bind_eq_some_iff.mp H
              obtain ⟨t334, A120, H⟩ := H
              replace H : ((Cb.f k2 t334 x7_2).bind fun t335 => (if t335 ≥ 0 then (if x6_2.length < 17592186044416 then (Bg.l1 k2 x3_1 x4_1 x5_1 (x6_2 ++ [x7_2]) (wrap64 (x7_2 + 1)) s0_0 x1001_1 x1002_1) else (none)) else (Bg.l1 k2 x3_1 x4_1 x5_1 x6_2 (wrap64 (x7_2 + 1)) s0_0 x1001_1 x1002_1))) = some (r1, r2, r3) := H
              have A12 := Aa.mk A120
              clear A120
              replace H := Option.bind_eq_some_iff.mp H
              obtain ⟨t335, A130, H⟩ := H
              replace H : (if t335 ≥ 0 then (if x6_2.length < 17592186044416 then (Bg.l1 k2 x3_1 x4_1 x5_1 (x6_2 ++ [x7_2]) (wrap64 (x7_2 + 1)) s0_0 x1001_1 x1002_1) else (none)) else (Bg.l1 k2 x3_1 x4_1 x5_1 x6_2 (wrap64 (x7_2 + 1)) s0_0 x1001_1 x1002_1)) = some (r1, r2, r3) := H
              have A13 := Aa.mk A130
              clear A130
              by_cases c14 : t335 ≥ 0
              · rw [if_pos c14] at H
                have c14b0 : decide (0 ≤ t335) = true := decide_eq_true c14
                clear c14
                by_cases c15 : x6_2.length < 17592186044416
                · rw [if_pos c15] at H
                  have LMc15 := Aa.mk c15
                  clear c15
                  obtain ⟨y336, hy336⟩ : ∃ y_ : List Int, y_ = (x6_2 ++ [x7_2]) := ⟨_, rfl⟩
                  replace H : (Bg.l1 k2 x3_1 x4_1 x5_1 y336 (wrap64 (x7_2 + 1)) s0_0 x1001_1 x1002_1) = some (r1, r2, r3) := by first | (rw [hy336]; with_reducible exact H) | (have H2_ := (Option.bind_some _ _).symm.trans H; rw [hy336]; with_reducible exact H2_) | (have H2_ := (Option.bind_some _ _).symm.trans H; with_reducible exact H2_) | with_reducible exact H | (rw [hy336]; exact H) | exact H
                  have Ny336 := Aa.mk hy336
                  clear hy336
                  have H' := Aa.mk H
                  clear H
                  obtain ⟨Ao16, co16, eo16⟩ := Kd.Ef HO_3.out
                  subst eo16
                  go_wp2_with (first | ((with_reducible refine Bv (f := 25) rfl ?_); refine D5 (some 23) rfl rfl Tryd.func25 (by kernel_rfl) rfl #[.slice Ao16 x3_1.length co16] rfl (by (try simp only [List.map_toArray, List.map_cons, List.map_nil]); first | done | rfl | (simp only [List.length_drop, List.length_take]; rfl)) ?_; (with_reducible refine (Bh.calls k2 _ _ x3_1 t334 _ ?side1 ?side2 A12.out).mono ?_); (case side1 => repeat (first | exact (Kd.Ba HO_3.out).2.2 | (with_reducible refine Kd.Ci ?_ _) | (with_reducible refine Kd.Cf ?_ _) | (with_reducible refine Kd.Di ?_))); (case side2 => exact (Kd.Ba HO_3.out).2.1); rintro e w' ⟨rfl, ⟨nd, rfl⟩⟩; refine ⟨_, rfl, ?_⟩) | ((with_reducible refine Bv (f := 48) rfl ?_); refine D5 (some 25) rfl rfl Tryd.func48 (by kernel_rfl) rfl #[.int .i64 t334, .int .i64 x7_2] rfl (by (try simp only [List.map_toArray, List.map_cons, List.map_nil]); first | done | rfl | (simp only [List.length_drop, List.length_take]; rfl)) ?_; (with_reducible refine (Cb.calls k2 t334 x7_2 t335 _ A13.out).mono ?_); rintro e w' ⟨rfl, ⟨nd, rfl⟩⟩; refine ⟨_, rfl, ?_⟩) | ((with_reducible refine Hq (b := .append) (xs := #[.tmp 27, .tmp 29]) rfl ?_); at_builtin; refine Kd.Iw (Kd.int .i64) w.heap.size rfl (.tmp 27) (.tmp 29) 44 3 (.int .i64 0) 8 rfl Tryd.underlying44 info3 rfl (by decide) (by omega) u6 x6_2 x7_2 [.int .i64 x7_2] (fun _ => True) (fun _ => False) rfl rfl ?aP (fun _ hk => hk.elim) ?aF ?aO (Below.refl _ _) ?aS ?aL ?_; (case aP => exact rfl); (case aF => exact (fun _ _ => trivial)); (case aO => exact (by (with_reducible repeat (first | apply Kd.Ah | apply Kd.Ai | apply Kd.Ak)); exact HO_6.out)); (case aS => exact (Ik (w := w) (g := g) (row := none) (by repeat (first | (with_reducible first | exact HK.out | apply Bi.E8 | apply C9 | apply Dl | apply Dc) | exact HK.out)))); (case aL => have := LMc15.out; omega); intro v337 w17 ho hb hg hat; rw [← Ny336.out] at ho; have n0_ := Aa.mk (Kd.R_over' (by (with_reducible repeat (first | apply Kd.Ah | apply Kd.Ai | apply Kd.Ak)); exact HO_3.out) (Kd.R_typed (by (with_reducible repeat (first | apply Kd.Ah | apply Kd.Ai | apply Kd.Ak)); exact HO_6.out)) (by decide) hg); have n1_ := Aa.mk (Af.grown (by repeat (first | (with_reducible first | exact HI0.out | apply Af.alloc | apply Af.drewN | apply Af.drew | apply Af.Dy | apply Af.Dx) | exact HI0.out)) hg (Af.own_ne HI0.out HO_6.out (by decide))); have n2_ := Aa.mk (Jg (by repeat (first | (with_reducible first | exact HB.out | apply Ae | apply Ac | apply Ad | refine Ag ?_ (Af.ge HI0.out)) | exact HB.out)) HL.out hb); have n3_ := Aa.mk (Bi.trans (by repeat (first | (with_reducible first | exact HK.out | apply Bi.E8 | apply C9 | apply Dl | apply Dc) | exact HK.out)) (Bi.of_grown hg g) (Kd.R_base2 HO_6.out)); have n4_ := Aa.mk (ho); clear HO_3; clear HI0; clear HB; clear HK; clear HO_6; have HO_3 := n0_; have HI0 := n1_; have HB := n2_; have HK := n3_; have HO338 := n4_; clear n0_ n1_ n2_ n3_ n4_; clear ho hb hg hat))
                  go_roundg k2
                  case measure => have := HK1.out; have := HK2.out; omega
                  case rel => exact ⟨(y336), (wrap64 (x7_2 + 1)), (by first | rfl | (simp; done) | (simp [*]; done)), H', ⟨by have := HK1.out; have := HK2.out; omega⟩, ⟨by (with_reducible repeat (first | apply Kd.Ah | apply Kd.Ai | apply Kd.Ak)); exact HO_3.out⟩, ⟨by (with_reducible repeat (first | apply Kd.Ah | apply Kd.Ai | apply Kd.Ak)); exact HO338.out⟩, ⟨by repeat (first | (with_reducible first | exact HI0.out | apply Af.alloc | apply Af.drewN | apply Af.drew | apply Af.Dy | apply Af.Dx) | exact HI0.out)⟩, ⟨by repeat (first | (with_reducible first | exact HK.out | apply Bi.E8 | apply C9 | apply Dl | apply Dc) | exact HK.out)⟩, ⟨by repeat (first | (with_reducible first | exact HB.out | apply Ae | apply Ac | apply Ad | refine Ag ?_ (Af.ge HI0.out)) | exact HB.out)⟩⟩
                · rw [if_neg c15] at H
                  exact absurd H (by simp)
              · rw [if_neg c14] at H
                have c14b0 : decide (0 ≤ t335) = false := decide_eq_false c14
                clear c14
                have H' := Aa.mk H
                clear H
                obtain ⟨Ao18, co18, eo18⟩ := Kd.Ef HO_3.out
                subst eo18
                go_wp2_with (first | ((with_reducible refine Bv (f := 25) rfl ?_); refine D5 (some 23) rfl rfl Tryd.func25 (by kernel_rfl) rfl #[.slice Ao18 x3_1.length co18] rfl (by (try simp only [List.map_toArray, List.map_cons, List.map_nil]); first | done | rfl | (simp only [List.length_drop, List.length_take]; rfl)) ?_; (with_reducible refine (Bh.calls k2 _ _ x3_1 t334 _ ?side1 ?side2 A12.out).mono ?_); (case side1 => repeat (first | exact (Kd.Ba HO_3.out).2.2 | (with_reducible refine Kd.Ci ?_ _) | (with_reducible refine Kd.Cf ?_ _) | (with_reducible refine Kd.Di ?_))); (case side2 => exact (Kd.Ba HO_3.out).2.1); rintro e w' ⟨rfl, ⟨nd, rfl⟩⟩; refine ⟨_, rfl, ?_⟩) | ((with_reducible refine Bv (f := 48) rfl ?_); refine D5 (some 25) rfl rfl Tryd.func48 (by kernel_rfl) rfl #[.int .i64 t334, .int .i64 x7_2] rfl (by (try simp only [List.map_toArray, List.map_cons, List.map_nil]); first | done | rfl | (simp only [List.length_drop, List.length_take]; rfl)) ?_; (with_reducible refine (Cb.calls k2 t334 x7_2 t335 _ A13.out).mono ?_); rintro e w' ⟨rfl, ⟨nd, rfl⟩⟩; refine ⟨_, rfl, ?_⟩))
                go_roundg k2
                case measure => have := HK1.out; have := HK2.out; omega
                case rel => exact ⟨(x6_2), (wrap64 (x7_2 + 1)), (by first | rfl | (simp; done) | (simp [*]; done)), H', ⟨by have := HK1.out; have := HK2.out; omega⟩, ⟨by (with_reducible repeat (first | apply Kd.Ah | apply Kd.Ai | apply Kd.Ak)); exact HO_3.out⟩, ⟨by (with_reducible repeat (first | apply Kd.Ah | apply Kd.Ai | apply Kd.Ak)); exact HO_6.out⟩, ⟨by repeat (first | (with_reducible first | exact HI0.out | apply Af.alloc | apply Af.drewN | apply Af.drew | apply Af.Dy | apply Af.Dx) | exact HI0.out)⟩, ⟨by repeat (first | (with_reducible first | exact HK.out | apply Bi.E8 | apply C9 | apply Dl | apply Dc) | exact HK.out)⟩, ⟨by repeat (first | (with_reducible first | exact HB.out | apply Ae | apply Ac | apply Ad | refine Ag ?_ (Af.ge HI0.out)) | exact HB.out)⟩⟩
            · rw [if_neg c11] at H
              have c11b0 : decide (x7_2 ≤ 6) = false := decide_eq_false c11
              clear c11
              obtain ⟨y321, hy321⟩ : ∃ y_ : List Int, y_ = (([0, 0, 1, 3, 10] : List Int)) := ⟨_, rfl⟩
              replace H : ((Eo.f s0_0 x1001_1 x1002_1 y321).bind fun bt324 => ((Bq.f s0_0 bt324.2.1 bt324.2.2 (x6_2.length : Int)).bind fun bt327 => (if 0 ≤ bt327.1 then (if bt327.1 < (x6_2.length : Int) then (if x3_1.length < 8796093022208 then (Bg.l0 k2 (x3_1 ++ [(⟨wrap64 (x4_1 + bt324.1), rd x6_2 bt327.1⟩ : S40)]) (wrap64 (x4_1 + bt324.1)) (wrap64 (x5_1 - 1)) s0_0 bt327.2.1 bt327.2.2) else (none)) else (none)) else (none)))) = some (r1, r2, r3) := by first | (rw [hy321]; with_reducible exact H) | (have H2_ := (Option.bind_some _ _).symm.trans H; rw [hy321]; with_reducible exact H2_) | (have H2_ := (Option.bind_some _ _).symm.trans H; with_reducible exact H2_) | with_reducible exact H | (rw [hy321]; exact H) | exact H
              have Ny321 := Aa.mk hy321
              clear hy321
              replace H := Option.bind_eq_some_iff.mp H
              obtain ⟨⟨t324, t325, t326⟩, A190, H⟩ := H
              replace H : ((Bq.f s0_0 t325 t326 (x6_2.length : Int)).bind fun bt327 => (if 0 ≤ bt327.1 then (if bt327.1 < (x6_2.length : Int) then (if x3_1.length < 8796093022208 then (Bg.l0 k2 (x3_1 ++ [(⟨wrap64 (x4_1 + t324), rd x6_2 bt327.1⟩ : S40)]) (wrap64 (x4_1 + t324)) (wrap64 (x5_1 - 1)) s0_0 bt327.2.1 bt327.2.2) else (none)) else (none)) else (none))) = some (r1, r2, r3) := H
              have A19 := Aa.mk A190
              clear A190
              replace H := Option.bind_eq_some_iff.mp H
              obtain ⟨⟨t327, t328, t329⟩, A200, H⟩ := H
              replace H : (if 0 ≤ t327 then (if t327 < (x6_2.length : Int) then (if x3_1.length < 8796093022208 then (Bg.l0 k2 (x3_1 ++ [(⟨wrap64 (x4_1 + t324), rd x6_2 t327⟩ : S40)]) (wrap64 (x4_1 + t324)) (wrap64 (x5_1 - 1)) s0_0 t328 t329) else (none)) else (none)) else (none)) = some (r1, r2, r3) := H
              have A20 := Aa.mk A200
              clear A200
              by_cases c21 : 0 ≤ t327
              · rw [if_pos c21] at H
                have c21b0 : decide (0 ≤ t327) = true := decide_eq_true c21
                clear c21
                by_cases c22 : t327 < (x6_2.length : Int)
                · rw [if_pos c22] at H
                  have c22b0 : decide (t327 < (x6_2.length : Int)) = true := decide_eq_true c22
                  clear c22
                  by_cases c23 : x3_1.length < 8796093022208
                  · rw [if_pos c23] at H
                    have LMc23 := Aa.mk c23
                    clear c23
                    obtain ⟨y331, hy331⟩ : ∃ y_ : List (S40), y_ = (x3_1 ++ [(⟨wrap64 (x4_1 + t324), rd x6_2 t327⟩ : S40)]) := ⟨_, rfl⟩
                    replace H : (Bg.l0 k2 y331 (wrap64 (x4_1 + t324)) (wrap64 (x5_1 - 1)) s0_0 t328 t329) = some (r1, r2, r3) := by first | (rw [hy331]; with_reducible exact H) | (have H2_ := (Option.bind_some _ _).symm.trans H; rw [hy331]; with_reducible exact H2_) | (have H2_ := (Option.bind_some _ _).symm.trans H; with_reducible exact H2_) | with_reducible exact H | (rw [hy331]; exact H) | exact H
                    have Ny331 := Aa.mk hy331
                    clear hy331
                    have H' := Aa.mk H
                    clear H
                    go_wp2_with (first | ((with_reducible refine D7 (N := 33) rfl ?_); refine Kd.Ii (Kd.int .i64) _ 3 ?hg (N := 33) ?hd (xs := ([0, 0, 1, 3, 10] : List Int)) (inner := [.int .i64 0, .int .i64 0, .int .i64 1, .int .i64 3, .int .i64 10]) (ok := fun _ => True) (okp := fun _ => True) ?hr ?hp (fun _ hk => hk) trivial (Below.refl _ _) (Nat.le_refl _) (by simp) ?_; (case hd => rfl); (case hg => rfl); (case hr => first | (go_simp; done) | (go_simp; rfl)); (case hp => exact (Dw.one (show Kd.M (Kd.int .i64) _ _ _ 0 [.int .i64 0] from rfl) (Dw.one (show Kd.M (Kd.int .i64) _ _ _ 0 [.int .i64 0] from rfl) (Dw.one (show Kd.M (Kd.int .i64) _ _ _ 1 [.int .i64 1] from rfl) (Dw.one (show Kd.M (Kd.int .i64) _ _ _ 3 [.int .i64 3] from rfl) (Dw.one (show Kd.M (Kd.int .i64) _ _ _ 10 [.int .i64 10] from rfl) (Dw.none _ _))))))); intro v322 w24 ho25 hb hg_ hnew_; clear hg_ hnew_; (first | rw [← Ny321.out] at ho25 | (simp only [Int.reduceToNat] at ho25; rw [← Ny321.out] at ho25)); have n0_ := Aa.mk (Kd.Dk (by (with_reducible repeat (first | apply Kd.Ah | apply Kd.Ai | apply Kd.Ak)); exact HO_3.out) hb); have n1_ := Aa.mk (Kd.Ff (by (with_reducible repeat (first | apply Kd.Ah | apply Kd.Ai | apply Kd.Ak)); exact HO_6.out) (Kd.Gg ho25) hb); have n2_ := Aa.mk (Kd.Du (Kd.Gh ho25 (Kd.Gs (by (with_reducible repeat (first | apply Kd.Ah | apply Kd.Ai | apply Kd.Ak)); exact HO_6.out))) (Ik (w := w) (g := g) (row := none) (by repeat (first | (with_reducible first | exact HK.out | apply Bi.E8 | apply C9 | apply Dl | apply Dc) | exact HK.out)))); have n3_ := Aa.mk (Af.below (by repeat (first | (with_reducible first | exact HI0.out | apply Af.alloc | apply Af.drewN | apply Af.drew | apply Af.Dy | apply Af.Dx) | exact HI0.out)) hb); have n4_ := Aa.mk (Bi.trans (by repeat (first | (with_reducible first | exact HK.out | apply Bi.E8 | apply C9 | apply Dl | apply Dc) | exact HK.out)) (Bi.of_below hb g none) (.inl rfl)); have n5_ := Aa.mk (Ap (by repeat (first | (with_reducible first | exact HB.out | apply Ae | apply Ac | apply Ad | refine Ag ?_ (Af.ge HI0.out)) | exact HB.out)) hb); clear HO_3; clear HO_6; clear HI0; clear HK; clear HB; have HO_3 := n0_; have HO_6 := n1_; have HO323 := n2_; have HI0 := n3_; have HK := n4_; have HB := n5_; clear n0_ n1_ n2_ n3_ n4_ n5_; clear hb ho25; obtain ⟨Ao26, co26, eo26⟩ := Kd.Ef HO323.out; subst eo26) | ((with_reducible refine Bv (f := 43) rfl ?_); refine D5 (some 34) rfl rfl Tryd.func43 (by kernel_rfl) rfl #[.pointer (some ⟨g, 0, none⟩), .slice Ao26 y321.length co26] rfl (by (try simp only [List.map_toArray, List.map_cons, List.map_nil]); first | done | rfl | (simp only [List.length_drop, List.length_take]; rfl)) ?_; (with_reducible refine (Eo.calls g s0_0 x1001_1 x1002_1 _ _ y321 t324 t325 t326 w0 _ ?side1 ?side2 ?side3 ?side4 ?side5 A19.out).mono ?_); (case side1 => repeat (first | (with_reducible first | exact HI0.out | apply Af.alloc | apply Af.drewN | apply Af.drew | apply Af.Dy | apply Af.Dx) | exact HI0.out)); (case side2 => repeat (first | (with_reducible first | exact HB.out | apply Ae | apply Ac | apply Ad | refine Ag ?_ (Af.ge HI0.out)) | exact HB.out)); (case side3 => repeat (first | exact (Kd.Ba HO323.out).2.2 | (with_reducible refine Kd.Ci ?_ _) | (with_reducible refine Kd.Cf ?_ _) | (with_reducible refine Kd.Di ?_))); (case side4 => exact (Kd.Ba HO323.out).2.1); (case side5 => exact far_slice (Af.own_ne HI0.out HO323.out (by decide))); rintro e w27 ⟨rfl, hi, hb, hk⟩; refine ⟨_, rfl, ?_⟩; have n0_ := Aa.mk (Kd.R_mono (Kd.Gl (Af.apart (show Af w0 _ g s0_0 x1001_1 x1002_1 from by repeat (first | (with_reducible first | exact HI0.out | apply Af.alloc | apply Af.drewN | apply Af.drew | apply Af.Dy | apply Af.Dx) | exact HI0.out)) (by (with_reducible repeat (first | apply Kd.Ah | apply Kd.Ai | apply Kd.Ak)); exact HO_3.out) (by decide)) hk (fun _ h => h.2)) (fun _ h => h.1)); have n1_ := Aa.mk (Kd.R_mono (Kd.Gl (Af.apart (show Af w0 _ g s0_0 x1001_1 x1002_1 from by repeat (first | (with_reducible first | exact HI0.out | apply Af.alloc | apply Af.drewN | apply Af.drew | apply Af.Dy | apply Af.Dx) | exact HI0.out)) (by (with_reducible repeat (first | apply Kd.Ah | apply Kd.Ai | apply Kd.Ak)); exact HO_6.out) (by decide)) hk (fun _ h => h.2)) (fun _ h => h.1)); have n2_ := Aa.mk (Kd.R_mono (Kd.Gl (Af.apart (show Af w0 _ g s0_0 x1001_1 x1002_1 from by repeat (first | (with_reducible first | exact HI0.out | apply Af.alloc | apply Af.drewN | apply Af.drew | apply Af.Dy | apply Af.Dx) | exact HI0.out)) (by (with_reducible repeat (first | apply Kd.Ah | apply Kd.Ai | apply Kd.Ak)); exact HO323.out) (by decide)) hk (fun _ h => h.2)) (fun _ h => h.1)); have n3_ := Aa.mk (Bi.trans (by repeat (first | (with_reducible first | exact HK.out | apply Bi.E8 | apply C9 | apply Dl | apply Dc) | exact HK.out)) hk (.inl rfl)); have n4_ := Aa.mk (hb); have n5_ := Aa.mk (hi); clear HO_3; clear HO_6; clear HO323; clear HK; clear HB; clear HI0; have HO_3 := n0_; have HO_6 := n1_; have HO323 := n2_; have HK := n3_; have HB := n4_; have HI0 := n5_; clear n0_ n1_ n2_ n3_ n4_ n5_; (try clear hb); (try clear hb2); (try clear hk); (try clear hi); obtain ⟨Ao28, co28, eo28⟩ := Kd.Ef HO_6.out; subst eo28) | ((with_reducible refine Bv (f := 44) rfl ?_); refine D5 (some 42) rfl rfl Tryd.func44 (by kernel_rfl) rfl #[.pointer (some ⟨g, 0, none⟩), .int .i64 (x6_2.length : Int)] rfl (by (try simp only [List.map_toArray, List.map_cons, List.map_nil]); first | done | rfl | (simp only [List.length_drop, List.length_take]; rfl)) ?_; (with_reducible refine (Bq.calls g s0_0 t325 t326 (x6_2.length : Int) t327 t328 t329 w0 _ ?side1 ?side2 A20.out).mono ?_); (case side1 => repeat (first | (with_reducible first | exact HI0.out | apply Af.alloc | apply Af.drewN | apply Af.drew | apply Af.Dy | apply Af.Dx) | exact HI0.out)); (case side2 => repeat (first | (with_reducible first | exact HB.out | apply Ae | apply Ac | apply Ad | refine Ag ?_ (Af.ge HI0.out)) | exact HB.out)); rintro e w29 ⟨rfl, hi, hb, hk⟩; refine ⟨_, rfl, ?_⟩; have n0_ := Aa.mk (Kd.R_mono (Kd.Gl (Af.apart (show Af w0 _ g s0_0 t325 t326 from by repeat (first | (with_reducible first | exact HI0.out | apply Af.alloc | apply Af.drewN | apply Af.drew | apply Af.Dy | apply Af.Dx) | exact HI0.out)) (by (with_reducible repeat (first | apply Kd.Ah | apply Kd.Ai | apply Kd.Ak)); exact HO_3.out) (by decide)) hk (fun _ h => h.2)) (fun _ h => h.1)); have n1_ := Aa.mk (Kd.R_mono (Kd.Gl (Af.apart (show Af w0 _ g s0_0 t325 t326 from by repeat (first | (with_reducible first | exact HI0.out | apply Af.alloc | apply Af.drewN | apply Af.drew | apply Af.Dy | apply Af.Dx) | exact HI0.out)) (by (with_reducible repeat (first | apply Kd.Ah | apply Kd.Ai | apply Kd.Ak)); exact HO_6.out) (by decide)) hk (fun _ h => h.2)) (fun _ h => h.1)); have n2_ := Aa.mk (Kd.R_mono (Kd.Gl (Af.apart (show Af w0 _ g s0_0 t325 t326 from by repeat (first | (with_reducible first | exact HI0.out | apply Af.alloc | apply Af.drewN | apply Af.drew | apply Af.Dy | apply Af.Dx) | exact HI0.out)) (by (with_reducible repeat (first | apply Kd.Ah | apply Kd.Ai | apply Kd.Ak)); exact HO323.out) (by decide)) hk (fun _ h => h.2)) (fun _ h => h.1)); have n3_ := Aa.mk (Bi.trans (by repeat (first | (with_reducible first | exact HK.out | apply Bi.E8 | apply C9 | apply Dl | apply Dc) | exact HK.out)) hk (.inl rfl)); have n4_ := Aa.mk (hb); have n5_ := Aa.mk (hi); clear HO_3; clear HO_6; clear HO323; clear HK; clear HB; clear HI0; have HO_3 := n0_; have HO_6 := n1_; have HO323 := n2_; have HK := n3_; have HB := n4_; have HI0 := n5_; clear n0_ n1_ n2_ n3_ n4_ n5_; (try clear hb); (try clear hb2); (try clear hk); (try clear hi); have p330 : 0 ≤ (t327 : Int) := of_decide_eq_true (by first | (with_reducible assumption) | assumption); have q330 : t327 < (x6_2.length : Int) := of_decide_eq_true (by first | (with_reducible assumption) | assumption); obtain ⟨ad330, e330, hx330_0⟩ := Kd.at_int (Kd.Ba HO_6.out).2.2 t327 p330 q330; cases e330; replace p330 := eq_true p330; replace q330 := eq_true q330) | ((with_reducible refine Hq (b := .append) (xs := #[.tmp 36, .tmp 46]) rfl ?_); at_builtin; refine Kd.Iw k40 w.heap.size rfl (.tmp 36) (.tmp 46) 26 40 (.agg #[(.int .i64 0), (.int .i64 0)]) 16 rfl Tryd.underlying26 Hr rfl (by decide) (by omega) u3 x3_1 (⟨wrap64 (x4_1 + t324), rd x6_2 t327⟩ : S40) [.int .i64 (wrap64 (x4_1 + t324)), .int .i64 (rd x6_2 t327)] (fun _ => True) (fun _ => False) rfl rfl ?aP (fun _ hk => hk.elim) ?aF ?aO (Below.refl _ _) ?aS ?aL ?_; (case aP => exact G8 _ _ _ (⟨wrap64 (x4_1 + t324), rd x6_2 t327⟩ : S40)); (case aF => exact (fun _ _ => trivial)); (case aO => exact (by (with_reducible repeat (first | apply Kd.Ah | apply Kd.Ai | apply Kd.Ak)); exact HO_3.out)); (case aS => exact (Ik (w := w) (g := g) (row := none) (by repeat (first | (with_reducible first | exact HK.out | apply Bi.E8 | apply C9 | apply Dl | apply Dc) | exact HK.out)))); (case aL => have := LMc23.out; omega); intro v332 w30 ho hb hg hat; rw [← Ny331.out] at ho; have n0_ := Aa.mk (Kd.R_over' (by (with_reducible repeat (first | apply Kd.Ah | apply Kd.Ai | apply Kd.Ak)); exact HO_6.out) (Kd.R_typed (by (with_reducible repeat (first | apply Kd.Ah | apply Kd.Ai | apply Kd.Ak)); exact HO_3.out)) (by decide) hg); have n1_ := Aa.mk (Af.grown (by repeat (first | (with_reducible first | exact HI0.out | apply Af.alloc | apply Af.drewN | apply Af.drew | apply Af.Dy | apply Af.Dx) | exact HI0.out)) hg (Af.own_ne HI0.out HO_3.out (by decide))); have n2_ := Aa.mk (Kd.R_over' (by (with_reducible repeat (first | apply Kd.Ah | apply Kd.Ai | apply Kd.Ak)); exact HO323.out) (Kd.R_typed (by (with_reducible repeat (first | apply Kd.Ah | apply Kd.Ai | apply Kd.Ak)); exact HO_3.out)) (by decide) hg); have n3_ := Aa.mk (Jg (by repeat (first | (with_reducible first | exact HB.out | apply Ae | apply Ac | apply Ad | refine Ag ?_ (Af.ge HI0.out)) | exact HB.out)) HL.out hb); have n4_ := Aa.mk (Bi.trans (by repeat (first | (with_reducible first | exact HK.out | apply Bi.E8 | apply C9 | apply Dl | apply Dc) | exact HK.out)) (Bi.of_grown hg g) (Kd.R_base2 HO_3.out)); have n5_ := Aa.mk (ho); clear HO_6; clear HI0; clear HO323; clear HB; clear HK; clear HO_3; have HO_6 := n0_; have HI0 := n1_; have HO323 := n2_; have HB := n3_; have HK := n4_; have HO333 := n5_; clear n0_ n1_ n2_ n3_ n4_ n5_; clear ho hb hg hat))
                    go_roundg k2
                    case measure => have := HK1.out; have := HK2.out; omega
                    case rel => exact ⟨(y331), (wrap64 (x4_1 + t324)), (wrap64 (x5_1 - 1)), (t328), (t329), (by first | rfl | (simp; done) | (simp [*]; done)), (by first | rfl | (simp; done) | (simp [*]; done)), H', ⟨by have := HK1.out; have := HK2.out; omega⟩, ⟨by (with_reducible repeat (first | apply Kd.Ah | apply Kd.Ai | apply Kd.Ak)); exact HO333.out⟩, ⟨by repeat (first | (with_reducible first | exact HI0.out | apply Af.alloc | apply Af.drewN | apply Af.drew | apply Af.Dy | apply Af.Dx) | exact HI0.out)⟩, ⟨by repeat (first | (with_reducible first | exact HK.out | apply Bi.E8 | apply C9 | apply Dl | apply Dc) | exact HK.out)⟩, ⟨by repeat (first | (with_reducible first | exact HB.out | apply Ae | apply Ac | apply Ad | refine Ag ?_ (Af.ge HI0.out)) | exact HB.out)⟩⟩
                  · rw [if_neg c23] at H
                    exact absurd H (by simp)
                · rw [if_neg c22] at H
                  exact absurd H (by simp)
              · rw [if_neg c21] at H
                exact absurd H (by simp)
      · rw [if_neg c8] at H
        have c8b0 : decide (0 < x5_1) = false := decide_eq_false c8
        clear c8
        simp only [Option.some.injEq, Prod.mk.injEq] at H
        obtain ⟨rfl, rfl, rfl⟩ := H
        go_wp2
        go_ret
        exact ⟨_, by first | rfl | (simp [Be, Bf] <;> rfl) | (simp [*, Be, Bf] <;> rfl), by (with_reducible repeat (first | apply Kd.Ah | apply Kd.Ai | apply Kd.Ak)); exact HO_3.out, by repeat (first | (with_reducible first | exact HI0.out | apply Af.alloc | apply Af.drewN | apply Af.drew | apply Af.Dy | apply Af.Dx) | exact HI0.out), by repeat (first | (with_reducible first | exact HB.out | apply Ae | apply Ac | apply Ad | refine Ag ?_ (Af.ge HI0.out)) | exact HB.out), by repeat (first | (with_reducible first | exact HK.out | apply Bi.E8 | apply C9 | apply Dl | apply Dc) | exact HK.out)⟩
end Go.Proofs.YtpalafegcndccaaDoor.X

namespace Go.Proofs.YtpalafegcndccaaDoor.X
open Go.RowKit Go.Proofs.YtpalafegcndccaaDoorW.PrintWords Go.Proofs.YtpalafegcndccaaDoorW.PrintLast Go.Proofs.YtpalafegcndccaaDoorW.PrintMore
attribute [local go_sem] Ej Eg Eu Ew D9 D8 Ei Eh
open Go.Proofs.YtpalafegcndccaaDoorG
def Fj.f (s0_0 : List Int) (s0_1 : Int) (s0_2 : Int) (a1 : Int) : Option (Bool × Int × Int) := (Bq.f s0_0 s0_1 s0_2 a1).bind fun bt339 => (some ((bt339.1 == 0), bt339.2.1, bt339.2.2))
set_option maxHeartbeats 8000000 in
set_option maxRecDepth 100000 in
theorem Fj.calls (g : Nat) (s0_0 : List Int) (s0_1 : Int) (s0_2 : Int) (a1 : Int) (r1 : Bool) (r2 : Int) (r3 : Int) (w0 w : World) (hI : Af w0 w g s0_0 s0_1 s0_2) (hB : Below w0.heap.size w0 w) (h : Fj.f s0_0 s0_1 s0_2 a1 = some (r1, r2, r3)) :
    Calls Tryd.prog 40 #[.pointer (some ⟨g, 0, none⟩), .int .i64 a1] w fun e w' => e = .returned (.bool r1) ∧ Af w0 w' g s0_0 r2 r3 ∧ Below w0.heap.size w0 w' ∧ Bi w w' g none := by
  have HI0 := Aa.mk hI
  have HK := Aa.mk (Bi.refl w g none)
  have HL := Aa.mk hB.size
  clear hI
  have HW0 := Aa.mk hB.size
  have HB := Aa.mk hB
  clear hB
  have H : ((Bq.f s0_0 s0_1 s0_2 a1).bind fun bt339 => (some ((bt339.1 == 0), bt339.2.1, bt339.2.2))) = some (r1, r2, r3) := h
  clear h
  replace H := Option.bind_eq_some_iff.mp H
  obtain ⟨⟨t339, t340, t341⟩, A30, H⟩ := H
  replace H : (some ((t339 == 0), t340, t341)) = some (r1, r2, r3) := H
  have A3 := Aa.mk A30
  clear A30
  simp only [Option.some.injEq, Prod.mk.injEq] at H
  obtain ⟨rfl, rfl, rfl⟩ := H
  go_enter Tryd.func40, Tryd.ntmps40
  go_wp2_with (first | ((with_reducible refine Bv (f := 44) rfl ?_); refine D5 (some 7) rfl rfl Tryd.func44 (by kernel_rfl) rfl #[.pointer (some ⟨g, 0, none⟩), .int .i64 a1] rfl (by (try simp only [List.map_toArray, List.map_cons, List.map_nil]); first | done | rfl | (simp only [List.length_drop, List.length_take]; rfl)) ?_; (with_reducible refine (Bq.calls g s0_0 s0_1 s0_2 a1 t339 t340 t341 w0 _ ?side1 ?side2 A3.out).mono ?_); (case side1 => repeat (first | (with_reducible first | exact HI0.out | apply Af.alloc | apply Af.drewN | apply Af.drew | apply Af.Dy | apply Af.Dx) | exact HI0.out)); (case side2 => repeat (first | (with_reducible first | exact HB.out | apply Ae | apply Ac | apply Ad | refine Ag ?_ (Af.ge HI0.out)) | exact HB.out)); rintro e w4 ⟨rfl, hi, hb, hk⟩; refine ⟨_, rfl, ?_⟩; have n0_ := Aa.mk (Bi.trans (by repeat (first | (with_reducible first | exact HK.out | apply Bi.E8 | apply C9 | apply Dl | apply Dc) | exact HK.out)) hk (.inl rfl)); have n1_ := Aa.mk (hb); have n2_ := Aa.mk (hi); clear HK; clear HB; clear HI0; have HK := n0_; have HB := n1_; have HI0 := n2_; clear n0_ n1_ n2_; (try clear hb); (try clear hb2); (try clear hk); (try clear hi)))
  go_ret
  exact ⟨by first | rfl | (simp [Be, Bf] <;> rfl) | (simp [*, Be, Bf] <;> rfl), by repeat (first | (with_reducible first | exact HI0.out | apply Af.alloc | apply Af.drewN | apply Af.drew | apply Af.Dy | apply Af.Dx) | exact HI0.out), by repeat (first | (with_reducible first | exact HB.out | apply Ae | apply Ac | apply Ad | refine Ag ?_ (Af.ge HI0.out)) | exact HB.out), by repeat (first | (with_reducible first | exact HK.out | apply Bi.E8 | apply C9 | apply Dl | apply Dc) | exact HK.out)⟩
end Go.Proofs.YtpalafegcndccaaDoor.X

namespace Go.Proofs.YtpalafegcndccaaDoor.X
open Go.RowKit Go.Proofs.YtpalafegcndccaaDoorW.PrintWords Go.Proofs.YtpalafegcndccaaDoorW.PrintLast Go.Proofs.YtpalafegcndccaaDoorW.PrintMore
attribute [local go_sem] Ej Eg Eu Ew D9 D8 Ei Eh
open Go.Proofs.YtpalafegcndccaaDoorG
mutual
def Am.j0 : Nat → List (S40) → List Int → Int → Int → Option ((List (S40)) × Int × Int)
  | 0, _, _, _, _ => none
  | k + 1, x3, x1000, x1001, x1002 => if (x3.length : Int) > 0 then ((Fj.f x1000 x1001 x1002 16).bind fun bt362 => (Am.j1 k x3 bt362.1 x1000 bt362.2.1 bt362.2.2)) else (Am.j1 k x3 false x1000 x1001 x1002)
def Am.j1 : Nat → List (S40) → Bool → List Int → Int → Int → Option ((List (S40)) × Int × Int)
  | 0, _, _, _, _, _ => none
  | k + 1, x3, x24, x1000, x1001, x1002 => if x24 = true then ((Bq.f x1000 x1001 x1002 (x3.length : Int)).bind fun bt365 => ((Bq.f x1000 bt365.2.1 bt365.2.2 30).bind fun bt368 => ((Bq.f x1000 bt368.2.1 bt368.2.2 6).bind fun bt371 => (if 0 ≤ bt365.1 then (if bt365.1 < (x3.length : Int) then (Am.j2 k (x3.set (bt365.1 : Int).toNat (⟨bt368.1, wrap64 (1 + bt371.1)⟩ : S40)) x1000 bt371.2.1 bt371.2.2) else (none)) else (none))))) else (Am.j2 k x3 x1000 x1001 x1002)
def Am.j2 : Nat → List (S40) → List Int → Int → Int → Option ((List (S40)) × Int × Int)
  | 0, _, _, _, _ => none
  | k + 1, x3, x1000, x1001, x1002 => (Fj.f x1000 x1001 x1002 24).bind fun bt375 => (if bt375.1 = true then (Am.l0 k (([] : List (S40))) 0 x1000 bt375.2.1 bt375.2.2) else (some (x3, bt375.2.1, bt375.2.2)))
def Am.l0 : Nat → List (S40) → Int → List Int → Int → Int → Option ((List (S40)) × Int × Int)
  | 0, _, _, _, _, _ => none
  | k + 1, x3, x4, x1000, x1001, x1002 => (Bq.f x1000 x1001 x1002 2).bind fun bt381 => (if (x3.length : Int) < (wrap64 (20 + bt381.1)) then (if x4 < 22 then (if x3.length < 8796093022208 then (Am.l0 k (x3 ++ [(⟨x4, wrap64 (1 + (wrap64 (5 * (Int.tmod x4 2))))⟩ : S40)]) (wrap64 (x4 + 1)) x1000 bt381.2.1 bt381.2.2) else (none)) else (some (x3, bt381.2.1, bt381.2.2))) else (some (x3, bt381.2.1, bt381.2.2)))
end
def Am.f (k : Nat) (s0_0 : List Int) (s0_1 : Int) (s0_2 : Int) : Option ((List (S40)) × Int × Int) := (Bg.f k s0_0 s0_1 s0_2).bind fun bt342 => ((Fj.f s0_0 bt342.2.1 bt342.2.2 16).bind fun bt347 => (if bt347.1 = true then ((Eo.f s0_0 bt347.2.1 bt347.2.2 (([(-1), 9999, 10000, 5] : List Int))).bind fun bt353 => ((Bq.f s0_0 bt353.2.1 bt353.2.2 8).bind fun bt356 => (if bt342.1.length < 8796093022208 then (Am.j0 k (bt342.1 ++ [(⟨bt353.1, bt356.1⟩ : S40)]) s0_0 bt356.2.1 bt356.2.2) else (none)))) else (Am.j0 k bt342.1 s0_0 bt347.2.1 bt347.2.2)))
theorem Am.Et : ∀ k, (∀ y0 y1 y2 y3, LeO (Am.j0 k y0 y1 y2 y3) (Am.j0 (k + 1) y0 y1 y2 y3)) ∧ (∀ y0 y1 y2 y3 y4, LeO (Am.j1 k y0 y1 y2 y3 y4) (Am.j1 (k + 1) y0 y1 y2 y3 y4)) ∧ (∀ y0 y1 y2 y3, LeO (Am.j2 k y0 y1 y2 y3) (Am.j2 (k + 1) y0 y1 y2 y3)) ∧ (∀ y0 y1 y2 y3 y4, LeO (Am.l0 k y0 y1 y2 y3 y4) (Am.l0 (k + 1) y0 y1 y2 y3 y4))
  | 0 => ⟨fun _ _ _ _ r h => by simp [Am.j0] at h, fun _ _ _ _ _ r h => by simp [Am.j1] at h, fun _ _ _ _ r h => by simp [Am.j2] at h, fun _ _ _ _ _ r h => by simp [Am.l0] at h⟩
  | k + 1 => by
    obtain ⟨ih0, ih1, ih2, ih3⟩ := Am.Et k
    refine ⟨?_, ?_, ?_, ?_⟩
    · intro y0 y1 y2 y3
      unfold Am.j0
      repeat' first
      | (with_reducible exact ih0 _ _ _ _)
      | (with_reducible exact ih1 _ _ _ _ _)
      | (with_reducible exact ih2 _ _ _ _)
      | (with_reducible exact ih3 _ _ _ _ _)
      | (with_reducible exact Bg.mono _ _ _ _)
      | (with_reducible exact LeO.refl _)
      | (with_reducible exact LeO.none _)
      | (with_reducible refine LeO.ite ?_ ?_)
      | (with_reducible refine LeO.bind ?_ (fun _ => ?_))
      | exact ih0 _ _ _ _
      | exact ih1 _ _ _ _ _
      | exact ih2 _ _ _ _
      | exact ih3 _ _ _ _ _
      | exact Bg.mono _ _ _ _
      | exact LeO.none _
      | refine LeO.ite ?_ ?_
      | refine LeO.bind ?_ (fun _ => ?_)
    · intro y0 y1 y2 y3 y4
      unfold Am.j1
      repeat' first
      | (with_reducible exact ih0 _ _ _ _)
      | (with_reducible exact ih1 _ _ _ _ _)
      | (with_reducible exact ih2 _ _ _ _)
      | (with_reducible exact ih3 _ _ _ _ _)
      | (with_reducible exact Bg.mono _ _ _ _)
      | (with_reducible exact LeO.refl _)
      | (with_reducible exact LeO.none _)
      | (with_reducible refine LeO.ite ?_ ?_)
      | (with_reducible refine LeO.bind ?_ (fun _ => ?_))
      | exact ih0 _ _ _ _
      | exact ih1 _ _ _ _ _
      | exact ih2 _ _ _ _
      | exact ih3 _ _ _ _ _
      | exact Bg.mono _ _ _ _
      | exact LeO.none _
      | refine LeO.ite ?_ ?_
      | refine LeO.bind ?_ (fun _ => ?_)
    · intro y0 y1 y2 y3
      unfold Am.j2
      repeat' first
      | (with_reducible exact ih0 _ _ _ _)
      | (with_reducible exact ih1 _ _ _ _ _)
      | (with_reducible exact ih2 _ _ _ _)
      | (with_reducible exact ih3 _ _ _ _ _)
      | (with_reducible exact Bg.mono _ _ _ _)
      | (with_reducible exact LeO.refl _)
      | (with_reducible exact LeO.none _)
      | (with_reducible refine LeO.ite ?_ ?_)
      | (with_reducible refine LeO.bind ?_ (fun _ => ?_))
      | exact ih0 _ _ _ _
      | exact ih1 _ _ _ _ _
      | exact ih2 _ _ _ _
      | exact ih3 _ _ _ _ _
      | exact Bg.mono _ _ _ _
      | exact LeO.none _
      | refine LeO.ite ?_ ?_
      | refine LeO.bind ?_ (fun _ => ?_)
    · intro y0 y1 y2 y3 y4
      unfold Am.l0
      repeat' first
      | (with_reducible exact ih0 _ _ _ _)
      | (with_reducible exact ih1 _ _ _ _ _)
      | (with_reducible exact ih2 _ _ _ _)
      | (with_reducible exact ih3 _ _ _ _ _)
      | (with_reducible exact Bg.mono _ _ _ _)
      | (with_reducible exact LeO.refl _)
      | (with_reducible exact LeO.none _)
      | (with_reducible refine LeO.ite ?_ ?_)
      | (with_reducible refine LeO.bind ?_ (fun _ => ?_))
      | exact ih0 _ _ _ _
      | exact ih1 _ _ _ _ _
      | exact ih2 _ _ _ _
      | exact ih3 _ _ _ _ _
      | exact Bg.mono _ _ _ _
      | exact LeO.none _
      | refine LeO.ite ?_ ?_
      | refine LeO.bind ?_ (fun _ => ?_)
theorem Am.mono : ∀ a0 a1 a2 k, LeO (Am.f k a0 a1 a2) (Am.f (k + 1) a0 a1 a2) := by
  intro a0 a1 a2 k
  obtain ⟨ih0, ih1, ih2, ih3⟩ := Am.Et k
  unfold Am.f
  repeat' first
      | (with_reducible exact ih0 _ _ _ _)
      | (with_reducible exact ih1 _ _ _ _ _)
      | (with_reducible exact ih2 _ _ _ _)
      | (with_reducible exact ih3 _ _ _ _ _)
      | (with_reducible exact Bg.mono _ _ _ _)
      | (with_reducible exact LeO.refl _)
      | (with_reducible exact LeO.none _)
      | (with_reducible refine LeO.ite ?_ ?_)
      | (with_reducible refine LeO.bind ?_ (fun _ => ?_))
      | exact ih0 _ _ _ _
      | exact ih1 _ _ _ _ _
      | exact ih2 _ _ _ _
      | exact ih3 _ _ _ _ _
      | exact Bg.mono _ _ _ _
      | exact LeO.none _
      | refine LeO.ite ?_ ?_
      | refine LeO.bind ?_ (fun _ => ?_)
set_option maxHeartbeats 8000000 in
set_option maxRecDepth 100000 in
theorem Am.calls (k : Nat) (g : Nat) (s0_0 : List Int) (s0_1 : Int) (s0_2 : Int) (r1 : List (S40)) (r2 : Int) (r3 : Int) (w0 w : World) (hI : Af w0 w g s0_0 s0_1 s0_2) (hB : Below w0.heap.size w0 w) (h : Am.f k s0_0 s0_1 s0_2 = some (r1, r2, r3)) :
    Calls Tryd.prog 42 #[.pointer (some ⟨g, 0, none⟩)] w fun e w' => ∃ v0_ : Value, e = .returned (v0_) ∧ Kd.R k40 40 w' w.heap.size (fun _ => True) v0_ r1 ∧ Af w0 w' g s0_0 r2 r3 ∧ Below w0.heap.size w0 w' ∧ Bi w w' g none := by
  have hu40 := Tryd.underlying40
  have HI0 := Aa.mk hI
  have HK := Aa.mk (Bi.refl w g none)
  have HL := Aa.mk hB.size
  clear hI
  have HW0 := Aa.mk hB.size
  have HB := Aa.mk hB
  clear hB
  have H : ((Bg.f k s0_0 s0_1 s0_2).bind fun bt342 => ((Fj.f s0_0 bt342.2.1 bt342.2.2 16).bind fun bt347 => (if bt347.1 = true then ((Eo.f s0_0 bt347.2.1 bt347.2.2 (([(-1), 9999, 10000, 5] : List Int))).bind fun bt353 => ((Bq.f s0_0 bt353.2.1 bt353.2.2 8).bind fun bt356 => (if bt342.1.length < 8796093022208 then (Am.j0 k (bt342.1 ++ [(⟨bt353.1, bt356.1⟩ : S40)]) s0_0 bt356.2.1 bt356.2.2) else (none)))) else (Am.j0 k bt342.1 s0_0 bt347.2.1 bt347.2.2)))) = some (r1, r2, r3) := h
  clear h
  replace H := Option.bind_eq_some_iff.mp H
  obtain ⟨⟨t342, t345, t346⟩, A20, H⟩ := H
  replace H : ((Fj.f s0_0 t345 t346 16).bind fun bt347 => (if bt347.1 = true then ((Eo.f s0_0 bt347.2.1 bt347.2.2 (([(-1), 9999, 10000, 5] : List Int))).bind fun bt353 => ((Bq.f s0_0 bt353.2.1 bt353.2.2 8).bind fun bt356 => (if t342.length < 8796093022208 then (Am.j0 k (t342 ++ [(⟨bt353.1, bt356.1⟩ : S40)]) s0_0 bt356.2.1 bt356.2.2) else (none)))) else (Am.j0 k t342 s0_0 bt347.2.1 bt347.2.2))) = some (r1, r2, r3) := H
  have A2 := Aa.mk A20
  clear A20
  replace H := Option.bind_eq_some_iff.mp H
  obtain ⟨⟨t347, t348, t349⟩, A30, H⟩ := H
  replace H : (if t347 = true then ((Eo.f s0_0 t348 t349 (([(-1), 9999, 10000, 5] : List Int))).bind fun bt353 => ((Bq.f s0_0 bt353.2.1 bt353.2.2 8).bind fun bt356 => (if t342.length < 8796093022208 then (Am.j0 k (t342 ++ [(⟨bt353.1, bt356.1⟩ : S40)]) s0_0 bt356.2.1 bt356.2.2) else (none)))) else (Am.j0 k t342 s0_0 t348 t349)) = some (r1, r2, r3) := H
  have A3 := Aa.mk A30
  clear A30
  have HC4 := Aa.mk H
  clear H
  go_enter Tryd.func42, Tryd.ntmps42
  go_upto_if 8 with (first | ((with_reducible refine Bv (f := 39) rfl ?_); refine D5 (some 6) rfl rfl Tryd.func39 (by kernel_rfl) rfl #[.pointer (some ⟨g, 0, none⟩)] rfl (by (try simp only [List.map_toArray, List.map_cons, List.map_nil]); first | done | rfl | (simp only [List.length_drop, List.length_take]; rfl)) ?_; (with_reducible refine (Bg.calls k g s0_0 s0_1 s0_2 t342 t345 t346 w0 _ ?side1 ?side2 A2.out).mono ?_); (case side1 => repeat (first | (with_reducible first | exact HI0.out | apply Af.alloc | apply Af.drewN | apply Af.drew | apply Af.Dy | apply Af.Dx) | exact HI0.out)); (case side2 => repeat (first | (with_reducible first | exact HB.out | apply Ae | apply Ac | apply Ad | refine Ag ?_ (Af.ge HI0.out)) | exact HB.out)); rintro e w5 ⟨v343, rfl, ho0, hi, hb, hk⟩; refine ⟨_, rfl, ?_⟩; have n0_ := Aa.mk (Kd.Du ho0 (Ik (w := w) (g := g) (row := none) (by repeat (first | (with_reducible first | exact HK.out | apply Bi.E8 | apply C9 | apply Dl | apply Dc) | exact HK.out)))); have n1_ := Aa.mk (Bi.trans (by repeat (first | (with_reducible first | exact HK.out | apply Bi.E8 | apply C9 | apply Dl | apply Dc) | exact HK.out)) hk (.inl rfl)); have n2_ := Aa.mk (hb); have n3_ := Aa.mk (hi); clear HK; clear HB; clear HI0; have HO344 := n0_; have HK := n1_; have HB := n2_; have HI0 := n3_; clear n0_ n1_ n2_ n3_; (try clear hb); (try clear hb2); (try clear hk); (try clear hi); (try clear ho0)) | ((with_reducible refine Bv (f := 40) rfl ?_); refine D5 (some 8) rfl rfl Tryd.func40 (by kernel_rfl) rfl #[.pointer (some ⟨g, 0, none⟩), .int .i64 16] rfl (by (try simp only [List.map_toArray, List.map_cons, List.map_nil]); first | done | rfl | (simp only [List.length_drop, List.length_take]; rfl)) ?_; (with_reducible refine (Fj.calls g s0_0 t345 t346 16 t347 t348 t349 w0 _ ?side1 ?side2 A3.out).mono ?_); (case side1 => repeat (first | (with_reducible first | exact HI0.out | apply Af.alloc | apply Af.drewN | apply Af.drew | apply Af.Dy | apply Af.Dx) | exact HI0.out)); (case side2 => repeat (first | (with_reducible first | exact HB.out | apply Ae | apply Ac | apply Ad | refine Ag ?_ (Af.ge HI0.out)) | exact HB.out)); rintro e w6 ⟨rfl, hi, hb, hk⟩; refine ⟨_, rfl, ?_⟩; have n0_ := Aa.mk (Kd.R_mono (Kd.Gl (Af.apart (show Af w0 _ g s0_0 t345 t346 from by repeat (first | (with_reducible first | exact HI0.out | apply Af.alloc | apply Af.drewN | apply Af.drew | apply Af.Dy | apply Af.Dx) | exact HI0.out)) (by (with_reducible repeat (first | apply Kd.Ah | apply Kd.Ai | apply Kd.Ak)); exact HO344.out) (by decide)) hk (fun _ h => h.2)) (fun _ h => h.1)); have n1_ := Aa.mk (Bi.trans (by repeat (first | (with_reducible first | exact HK.out | apply Bi.E8 | apply C9 | apply Dl | apply Dc) | exact HK.out)) hk (.inl rfl)); have n2_ := Aa.mk (hb); have n3_ := Aa.mk (hi); clear HO344; clear HK; clear HB; clear HI0; have HO344 := n0_; have HK := n1_; have HB := n2_; have HI0 := n3_; clear n0_ n1_ n2_ n3_; (try clear hb); (try clear hb2); (try clear hk); (try clear hi)))
  (try simp only [Act.put, List.setIfInBounds_toArray, List.set_cons_zero, List.set_cons_succ])
  go_cut [3] (fun v3 wc => ∃ (kq : Nat) (x3_3 : List (S40)) (x1001_3 : Int) (x1002_3 : Int), Aa (Am.j0 kq x3_3 s0_0 x1001_3 x1002_3 = some (r1, r2, r3)) ∧ Aa (kq ≤ k) ∧ Aa (Kd.R k40 40 wc w.heap.size (fun _ => True) v3 x3_3) ∧ Aa (Af w0 wc g s0_0 x1001_3 x1002_3) ∧ Aa (Bi w wc g none) ∧ Aa (Below w0.heap.size w0 wc))
  case first =>
    have H := HC4.out
    clear HC4
    by_cases c7 : t347 = true
    · subst c7
      have H1 : ((Eo.f s0_0 t348 t349 (([(-1), 9999, 10000, 5] : List Int))).bind fun bt353 => ((Bq.f s0_0 bt353.2.1 bt353.2.2 8).bind fun bt356 => (if t342.length < 8796093022208 then (Am.j0 k (t342 ++ [(⟨bt353.1, bt356.1⟩ : S40)]) s0_0 bt356.2.1 bt356.2.2) else (none)))) = some (r1, r2, r3) := by rw [if_pos rfl] at H; exact H
      clear H
      have H := H1
      clear H1
      obtain ⟨y350, hy350⟩ : ∃ y_ : List Int, y_ = (([(-1), 9999, 10000, 5] : List Int)) := ⟨_, rfl⟩
      replace H : ((Eo.f s0_0 t348 t349 y350).bind fun bt353 => ((Bq.f s0_0 bt353.2.1 bt353.2.2 8).bind fun bt356 => (if t342.length < 8796093022208 then (Am.j0 k (t342 ++ [(⟨bt353.1, bt356.1⟩ : S40)]) s0_0 bt356.2.1 bt356.2.2) else (none)))) = some (r1, r2, r3) := by first | (rw [hy350]; with_reducible exact H) | (have H2_ := (Option.bind_some _ _).symm.trans H; rw [hy350]; with_reducible exact H2_) | (have H2_ := (Option.bind_some _ _).symm.trans H; with_reducible exact H2_) | with_reducible exact H | (rw [hy350]; exact H) | exact H
      have Ny350 := Aa.mk hy350
      clear hy350
      replace H := Option.bind_eq_some_iff.mp H
      obtain ⟨⟨t353, t354, t355⟩, A80, H⟩ := H
      replace H : ((Bq.f s0_0 t354 t355 8).bind fun bt356 => (if t342.length < 8796093022208 then (Am.j0 k (t342 ++ [(⟨t353, bt356.1⟩ : S40)]) s0_0 bt356.2.1 bt356.2.2) else (none))) = some (r1, r2, r3) := H
      have A8 := Aa.mk A80
      clear A80
      replace H := Option.bind_eq_some_iff.mp H
      obtain ⟨⟨t356, t357, t358⟩, A90, H⟩ := H
      replace H : (if t342.length < 8796093022208 then (Am.j0 k (t342 ++ [(⟨t353, t356⟩ : S40)]) s0_0 t357 t358) else (none)) = some (r1, r2, r3) := H
      have A9 := Aa.mk A90
      clear A90
      by_cases c10 : t342.length < 8796093022208
      · rw [if_pos c10] at H
        have LMc10 := Aa.mk c10
        clear c10
        obtain ⟨y359, hy359⟩ : ∃ y_ : List (S40), y_ = (t342 ++ [(⟨t353, t356⟩ : S40)]) := ⟨_, rfl⟩
        replace H : (Am.j0 k y359 s0_0 t357 t358) = some (r1, r2, r3) := by first | (rw [hy359]; with_reducible exact H) | (have H2_ := (Option.bind_some _ _).symm.trans H; rw [hy359]; with_reducible exact H2_) | (have H2_ := (Option.bind_some _ _).symm.trans H; with_reducible exact H2_) | with_reducible exact H | (rw [hy359]; exact H) | exact H
        have Ny359 := Aa.mk hy359
        clear hy359
        have H' := Aa.mk H
        clear H
        go_wp2_with (first | ((with_reducible refine D7 (N := 11) rfl ?_); refine Kd.Ii (Kd.int .i64) _ 3 ?hg (N := 11) ?hd (xs := ([(-1), 9999, 10000, 5] : List Int)) (inner := [.int .i64 (-1), .int .i64 9999, .int .i64 10000, .int .i64 5]) (ok := fun _ => True) (okp := fun _ => True) ?hr ?hp (fun _ hk => hk) trivial (Below.refl _ _) (Nat.le_refl _) (by simp) ?_; (case hd => rfl); (case hg => rfl); (case hr => first | (go_simp; done) | (go_simp; rfl)); (case hp => exact (Dw.one (show Kd.M (Kd.int .i64) _ _ _ (-1) [.int .i64 (-1)] from rfl) (Dw.one (show Kd.M (Kd.int .i64) _ _ _ 9999 [.int .i64 9999] from rfl) (Dw.one (show Kd.M (Kd.int .i64) _ _ _ 10000 [.int .i64 10000] from rfl) (Dw.one (show Kd.M (Kd.int .i64) _ _ _ 5 [.int .i64 5] from rfl) (Dw.none _ _)))))); intro v351 w11 ho12 hb hg_ hnew_; clear hg_ hnew_; (first | rw [← Ny350.out] at ho12 | (simp only [Int.reduceToNat] at ho12; rw [← Ny350.out] at ho12)); have n0_ := Aa.mk (Kd.Dk (by (with_reducible repeat (first | apply Kd.Ah | apply Kd.Ai | apply Kd.Ak)); exact HO344.out) hb); have n1_ := Aa.mk (Kd.Du ho12 (Ik (w := w) (g := g) (row := none) (by repeat (first | (with_reducible first | exact HK.out | apply Bi.E8 | apply C9 | apply Dl | apply Dc) | exact HK.out)))); have n2_ := Aa.mk (Af.below (by repeat (first | (with_reducible first | exact HI0.out | apply Af.alloc | apply Af.drewN | apply Af.drew | apply Af.Dy | apply Af.Dx) | exact HI0.out)) hb); have n3_ := Aa.mk (Bi.trans (by repeat (first | (with_reducible first | exact HK.out | apply Bi.E8 | apply C9 | apply Dl | apply Dc) | exact HK.out)) (Bi.of_below hb g none) (.inl rfl)); have n4_ := Aa.mk (Ap (by repeat (first | (with_reducible first | exact HB.out | apply Ae | apply Ac | apply Ad | refine Ag ?_ (Af.ge HI0.out)) | exact HB.out)) hb); clear HO344; clear HI0; clear HK; clear HB; have HO344 := n0_; have HO352 := n1_; have HI0 := n2_; have HK := n3_; have HB := n4_; clear n0_ n1_ n2_ n3_ n4_; clear hb ho12; obtain ⟨Ao13, co13, eo13⟩ := Kd.Ef HO352.out; subst eo13) | ((with_reducible refine Bv (f := 43) rfl ?_); refine D5 (some 12) rfl rfl Tryd.func43 (by kernel_rfl) rfl #[.pointer (some ⟨g, 0, none⟩), .slice Ao13 y350.length co13] rfl (by (try simp only [List.map_toArray, List.map_cons, List.map_nil]); first | done | rfl | (simp only [List.length_drop, List.length_take]; rfl)) ?_; (with_reducible refine (Eo.calls g s0_0 t348 t349 _ _ y350 t353 t354 t355 w0 _ ?side1 ?side2 ?side3 ?side4 ?side5 A8.out).mono ?_); (case side1 => repeat (first | (with_reducible first | exact HI0.out | apply Af.alloc | apply Af.drewN | apply Af.drew | apply Af.Dy | apply Af.Dx) | exact HI0.out)); (case side2 => repeat (first | (with_reducible first | exact HB.out | apply Ae | apply Ac | apply Ad | refine Ag ?_ (Af.ge HI0.out)) | exact HB.out)); (case side3 => repeat (first | exact (Kd.Ba HO352.out).2.2 | (with_reducible refine Kd.Ci ?_ _) | (with_reducible refine Kd.Cf ?_ _) | (with_reducible refine Kd.Di ?_))); (case side4 => exact (Kd.Ba HO352.out).2.1); (case side5 => exact far_slice (Af.own_ne HI0.out HO352.out (by decide))); rintro e w14 ⟨rfl, hi, hb, hk⟩; refine ⟨_, rfl, ?_⟩; have n0_ := Aa.mk (Kd.R_mono (Kd.Gl (Af.apart (show Af w0 _ g s0_0 t348 t349 from by repeat (first | (with_reducible first | exact HI0.out | apply Af.alloc | apply Af.drewN | apply Af.drew | apply Af.Dy | apply Af.Dx) | exact HI0.out)) (by (with_reducible repeat (first | apply Kd.Ah | apply Kd.Ai | apply Kd.Ak)); exact HO344.out) (by decide)) hk (fun _ h => h.2)) (fun _ h => h.1)); have n1_ := Aa.mk (Kd.R_mono (Kd.Gl (Af.apart (show Af w0 _ g s0_0 t348 t349 from by repeat (first | (with_reducible first | exact HI0.out | apply Af.alloc | apply Af.drewN | apply Af.drew | apply Af.Dy | apply Af.Dx) | exact HI0.out)) (by (with_reducible repeat (first | apply Kd.Ah | apply Kd.Ai | apply Kd.Ak)); exact HO352.out) (by decide)) hk (fun _ h => h.2)) (fun _ h => h.1)); have n2_ := Aa.mk (Bi.trans (by repeat (first | (with_reducible first | exact HK.out | apply Bi.E8 | apply C9 | apply Dl | apply Dc) | exact HK.out)) hk (.inl rfl)); have n3_ := Aa.mk (hb); have n4_ := Aa.mk (hi); clear HO344; clear HO352; clear HK; clear HB; clear HI0; have HO344 := n0_; have HO352 := n1_; have HK := n2_; have HB := n3_; have HI0 := n4_; clear n0_ n1_ n2_ n3_ n4_; (try clear hb); (try clear hb2); (try clear hk); (try clear hi)) | ((with_reducible refine Bv (f := 44) rfl ?_); refine D5 (some 14) rfl rfl Tryd.func44 (by kernel_rfl) rfl #[.pointer (some ⟨g, 0, none⟩), .int .i64 8] rfl (by (try simp only [List.map_toArray, List.map_cons, List.map_nil]); first | done | rfl | (simp only [List.length_drop, List.length_take]; rfl)) ?_; (with_reducible refine (Bq.calls g s0_0 t354 t355 8 t356 t357 t358 w0 _ ?side1 ?side2 A9.out).mono ?_); (case side1 => repeat (first | (with_reducible first | exact HI0.out | apply Af.alloc | apply Af.drewN | apply Af.drew | apply Af.Dy | apply Af.Dx) | exact HI0.out)); (case side2 => repeat (first | (with_reducible first | exact HB.out | apply Ae | apply Ac | apply Ad | refine Ag ?_ (Af.ge HI0.out)) | exact HB.out)); rintro e w15 ⟨rfl, hi, hb, hk⟩; refine ⟨_, rfl, ?_⟩; have n0_ := Aa.mk (Kd.R_mono (Kd.Gl (Af.apart (show Af w0 _ g s0_0 t354 t355 from by repeat (first | (with_reducible first | exact HI0.out | apply Af.alloc | apply Af.drewN | apply Af.drew | apply Af.Dy | apply Af.Dx) | exact HI0.out)) (by (with_reducible repeat (first | apply Kd.Ah | apply Kd.Ai | apply Kd.Ak)); exact HO344.out) (by decide)) hk (fun _ h => h.2)) (fun _ h => h.1)); have n1_ := Aa.mk (Kd.R_mono (Kd.Gl (Af.apart (show Af w0 _ g s0_0 t354 t355 from by repeat (first | (with_reducible first | exact HI0.out | apply Af.alloc | apply Af.drewN | apply Af.drew | apply Af.Dy | apply Af.Dx) | exact HI0.out)) (by (with_reducible repeat (first | apply Kd.Ah | apply Kd.Ai | apply Kd.Ak)); exact HO352.out) (by decide)) hk (fun _ h => h.2)) (fun _ h => h.1)); have n2_ := Aa.mk (Bi.trans (by repeat (first | (with_reducible first | exact HK.out | apply Bi.E8 | apply C9 | apply Dl | apply Dc) | exact HK.out)) hk (.inl rfl)); have n3_ := Aa.mk (hb); have n4_ := Aa.mk (hi); clear HO344; clear HO352; clear HK; clear HB; clear HI0; have HO344 := n0_; have HO352 := n1_; have HK := n2_; have HB := n3_; have HI0 := n4_; clear n0_ n1_ n2_ n3_ n4_; (try clear hb); (try clear hb2); (try clear hk); (try clear hi)) | ((with_reducible refine Hq (b := .append) (xs := #[.tmp 9, .tmp 16]) rfl ?_); at_builtin; refine Kd.Iw k40 w.heap.size rfl (.tmp 9) (.tmp 16) 26 40 (.agg #[(.int .i64 0), (.int .i64 0)]) 16 rfl Tryd.underlying26 Hr rfl (by decide) (by omega) v343 t342 (⟨t353, t356⟩ : S40) [.int .i64 t353, .int .i64 t356] (fun _ => True) (fun _ => False) rfl rfl ?aP (fun _ hk => hk.elim) ?aF ?aO (Below.refl _ _) ?aS ?aL ?_; (case aP => exact G8 _ _ _ (⟨t353, t356⟩ : S40)); (case aF => exact (fun _ _ => trivial)); (case aO => exact (by (with_reducible repeat (first | apply Kd.Ah | apply Kd.Ai | apply Kd.Ak)); exact HO344.out)); (case aS => exact (Ik (w := w) (g := g) (row := none) (by repeat (first | (with_reducible first | exact HK.out | apply Bi.E8 | apply C9 | apply Dl | apply Dc) | exact HK.out)))); (case aL => have := LMc10.out; omega); intro v360 w16 ho hb hg hat; rw [← Ny359.out] at ho; have n0_ := Aa.mk (Af.grown (by repeat (first | (with_reducible first | exact HI0.out | apply Af.alloc | apply Af.drewN | apply Af.drew | apply Af.Dy | apply Af.Dx) | exact HI0.out)) hg (Af.own_ne HI0.out HO344.out (by decide))); have n1_ := Aa.mk (Kd.R_over' (by (with_reducible repeat (first | apply Kd.Ah | apply Kd.Ai | apply Kd.Ak)); exact HO352.out) (Kd.R_typed (by (with_reducible repeat (first | apply Kd.Ah | apply Kd.Ai | apply Kd.Ak)); exact HO344.out)) (by decide) hg); have n2_ := Aa.mk (Jg (by repeat (first | (with_reducible first | exact HB.out | apply Ae | apply Ac | apply Ad | refine Ag ?_ (Af.ge HI0.out)) | exact HB.out)) HL.out hb); have n3_ := Aa.mk (Bi.trans (by repeat (first | (with_reducible first | exact HK.out | apply Bi.E8 | apply C9 | apply Dl | apply Dc) | exact HK.out)) (Bi.of_grown hg g) (Kd.R_base2 HO344.out)); have n4_ := Aa.mk (ho); clear HI0; clear HO352; clear HB; clear HK; clear HO344; have HI0 := n0_; have HO352 := n1_; have HB := n2_; have HK := n3_; have HO361 := n4_; clear n0_ n1_ n2_ n3_ n4_; clear ho hb hg hat))
        go_meet
        case rel => exact ⟨_, (y359), (t357), (t358), H', ⟨by first | omega | exact Nat.le_refl _⟩, ⟨by (with_reducible repeat (first | apply Kd.Ah | apply Kd.Ai | apply Kd.Ak)); exact HO361.out⟩, ⟨by repeat (first | (with_reducible first | exact HI0.out | apply Af.alloc | apply Af.drewN | apply Af.drew | apply Af.Dy | apply Af.Dx) | exact HI0.out)⟩, ⟨by repeat (first | (with_reducible first | exact HK.out | apply Bi.E8 | apply C9 | apply Dl | apply Dc) | exact HK.out)⟩, ⟨by repeat (first | (with_reducible first | exact HB.out | apply Ae | apply Ac | apply Ad | refine Ag ?_ (Af.ge HI0.out)) | exact HB.out)⟩⟩
      · rw [if_neg c10] at H
        exact absurd H (by simp)
    · replace c7 := Bool.eq_false_iff.mpr c7
      subst c7
      have H1 : (Am.j0 k t342 s0_0 t348 t349) = some (r1, r2, r3) := by rw [if_neg (show ¬ (false = true) by decide)] at H; exact H
      clear H
      have H := H1
      clear H1
      have H' := Aa.mk H
      clear H
      go_wp2
      go_meet
      case rel => exact ⟨_, (t342), (t348), (t349), H', ⟨by first | omega | exact Nat.le_refl _⟩, ⟨by (with_reducible repeat (first | apply Kd.Ah | apply Kd.Ai | apply Kd.Ak)); exact HO344.out⟩, ⟨by repeat (first | (with_reducible first | exact HI0.out | apply Af.alloc | apply Af.drewN | apply Af.drew | apply Af.Dy | apply Af.Dx) | exact HI0.out)⟩, ⟨by repeat (first | (with_reducible first | exact HK.out | apply Bi.E8 | apply C9 | apply Dl | apply Dc) | exact HK.out)⟩, ⟨by repeat (first | (with_reducible first | exact HB.out | apply Ae | apply Ac | apply Ad | refine Ag ?_ (Af.ge HI0.out)) | exact HB.out)⟩⟩
  case rest =>
    clear HC4
    try clear c1
    try clear p2
    try clear c3
    try clear c4
    try clear c7
    try clear c10
    obtain ⟨kq, x3_3, x1001_3, x1002_3, HA, HJ3, HO_3, HI0, HK, HB⟩ := hcut
    cases kq with
    | zero => exact absurd HA.out (by simp [Am.j0])
    | succ kj3 =>
      have H := HA.out
      clear HA
      simp only [Am.j0] at H
      have HC17 := Aa.mk H
      clear H
      go_upto_region 4 with (fail)
      go_cut [24] (fun v24 wc => ∃ (kq : Nat) (x24_16 : Bool) (x1001_16 : Int) (x1002_16 : Int), v24 = .bool x24_16 ∧ Aa (Am.j1 kq x3_3 x24_16 s0_0 x1001_16 x1002_16 = some (r1, r2, r3)) ∧ Aa (kq ≤ kj3) ∧ Aa (Kd.R k40 40 wc w.heap.size (fun _ => True) u3 x3_3) ∧ Aa (Af w0 wc g s0_0 x1001_16 x1002_16) ∧ Aa (Bi w wc g none) ∧ Aa (Below w0.heap.size w0 wc))
      case first =>
        have H := HC17.out
        clear HC17
        by_cases c18 : (x3_3.length : Int) > 0
        · rw [if_pos c18] at H
          have c18b0 : decide (0 < (x3_3.length : Int)) = true := decide_eq_true c18
          have c18b1 : decide (0 < x3_3.length) = true := decide_eq_true (by omega)
          clear c18
          (first | rw [c18b0] | (simp only [Dh, Dp]; rw [c18b0]) | skip)
          replace H := Option.bind_eq_some_iff.mp H
          obtain ⟨⟨t362, t363, t364⟩, A190, H⟩ := H
          replace H : (Am.j1 kj3 x3_3 t362 s0_0 t363 t364) = some (r1, r2, r3) := H
          have A19 := Aa.mk A190
          clear A190
          have H' := Aa.mk H
          clear H
          obtain ⟨Ao20, co20, eo20⟩ := Kd.Ef HO_3.out
          subst eo20
          go_wp2_with (first | (go_at_call 40; (with_reducible refine (Fj.calls g s0_0 x1001_3 x1002_3 16 t362 t363 t364 w0 _ ?side1 ?side2 A19.out).mono ?_); (case side1 => repeat (first | (with_reducible first | exact HI0.out | apply Af.alloc | apply Af.drewN | apply Af.drew | apply Af.Dy | apply Af.Dx) | exact HI0.out)); (case side2 => repeat (first | (with_reducible first | exact HB.out | apply Ae | apply Ac | apply Ad | refine Ag ?_ (Af.ge HI0.out)) | exact HB.out)); rintro e w21 ⟨rfl, hi, hb, hk⟩; have n0_ := Aa.mk (Kd.R_mono (Kd.Gl (Af.apart (show Af w0 _ g s0_0 x1001_3 x1002_3 from by repeat (first | (with_reducible first | exact HI0.out | apply Af.alloc | apply Af.drewN | apply Af.drew | apply Af.Dy | apply Af.Dx) | exact HI0.out)) (by (with_reducible repeat (first | apply Kd.Ah | apply Kd.Ai | apply Kd.Ak)); exact HO_3.out) (by decide)) hk (fun _ h => h.2)) (fun _ h => h.1)); have n1_ := Aa.mk (Bi.trans (by repeat (first | (with_reducible first | exact HK.out | apply Bi.E8 | apply C9 | apply Dl | apply Dc) | exact HK.out)) hk (.inl rfl)); have n2_ := Aa.mk (hb); have n3_ := Aa.mk (hi); clear HO_3; clear HK; clear HB; clear HI0; have HO_3 := n0_; have HK := n1_; have HB := n2_; have HI0 := n3_; clear n0_ n1_ n2_ n3_; (try clear hb); (try clear hb2); (try clear hk); (try clear hi)))
          go_meet
          case rel => exact ⟨_, (t362), (t363), (t364), (by first | rfl | (simp; done) | (simp [*]; done)), H', ⟨by have := HJ3.out; first | omega | exact Nat.le_refl _⟩, ⟨by (with_reducible repeat (first | apply Kd.Ah | apply Kd.Ai | apply Kd.Ak)); exact HO_3.out⟩, ⟨by repeat (first | (with_reducible first | exact HI0.out | apply Af.alloc | apply Af.drewN | apply Af.drew | apply Af.Dy | apply Af.Dx) | exact HI0.out)⟩, ⟨by repeat (first | (with_reducible first | exact HK.out | apply Bi.E8 | apply C9 | apply Dl | apply Dc) | exact HK.out)⟩, ⟨by repeat (first | (with_reducible first | exact HB.out | apply Ae | apply Ac | apply Ad | refine Ag ?_ (Af.ge HI0.out)) | exact HB.out)⟩⟩
        · rw [if_neg c18] at H
          have c18b0 : decide (0 < (x3_3.length : Int)) = false := decide_eq_false c18
          have c18b1 : decide (0 < x3_3.length) = false := decide_eq_false (by omega)
          clear c18
          (first | rw [c18b0] | (simp only [Dh, Dp]; rw [c18b0]) | skip)
          have H' := Aa.mk H
          clear H
          obtain ⟨Ao22, co22, eo22⟩ := Kd.Ef HO_3.out
          subst eo22
          go_wp2
          go_meet
          case rel => exact ⟨_, (false), (x1001_3), (x1002_3), (by first | rfl | (simp; done) | (simp [*]; done)), H', ⟨by have := HJ3.out; first | omega | exact Nat.le_refl _⟩, ⟨by (with_reducible repeat (first | apply Kd.Ah | apply Kd.Ai | apply Kd.Ak)); exact HO_3.out⟩, ⟨by repeat (first | (with_reducible first | exact HI0.out | apply Af.alloc | apply Af.drewN | apply Af.drew | apply Af.Dy | apply Af.Dx) | exact HI0.out)⟩, ⟨by repeat (first | (with_reducible first | exact HK.out | apply Bi.E8 | apply C9 | apply Dl | apply Dc) | exact HK.out)⟩, ⟨by repeat (first | (with_reducible first | exact HB.out | apply Ae | apply Ac | apply Ad | refine Ag ?_ (Af.ge HI0.out)) | exact HB.out)⟩⟩
      case rest =>
        clear HC17
        try clear c1
        try clear p2
        try clear c3
        try clear c4
        try clear c7
        try clear c10
        try clear c18
        try clear c18b0
        try clear c18b1
        try clear p2
        obtain ⟨kq, x24_16, x1001_16, x1002_16, rfl, HA, HJ16, HO_3, HI0, HK, HB⟩ := hcut
        cases kq with
        | zero => exact absurd HA.out (by simp [Am.j1])
        | succ kj16 =>
          have H := HA.out
          clear HA
          simp only [Am.j1] at H
          have HC23 := Aa.mk H
          clear H
          go_upto_if 24 with (fail)
          go_cut [] (fun wc => ∃ (kq : Nat) (x3_22 : List (S40)) (x1001_22 : Int) (x1002_22 : Int), Aa (Am.j2 kq x3_22 s0_0 x1001_22 x1002_22 = some (r1, r2, r3)) ∧ Aa (kq ≤ kj16) ∧ Aa (Kd.R k40 40 wc w.heap.size (fun _ => True) u3 x3_22) ∧ Aa (Af w0 wc g s0_0 x1001_22 x1002_22) ∧ Aa (Bi w wc g none) ∧ Aa (Below w0.heap.size w0 wc))
          case first =>
            have H := HC23.out
            clear HC23
            by_cases c24 : x24_16 = true
            · subst c24
              have H1 : ((Bq.f s0_0 x1001_16 x1002_16 (x3_3.length : Int)).bind fun bt365 => ((Bq.f s0_0 bt365.2.1 bt365.2.2 30).bind fun bt368 => ((Bq.f s0_0 bt368.2.1 bt368.2.2 6).bind fun bt371 => (if 0 ≤ bt365.1 then (if bt365.1 < (x3_3.length : Int) then (Am.j2 kj16 (x3_3.set (bt365.1 : Int).toNat (⟨bt368.1, wrap64 (1 + bt371.1)⟩ : S40)) s0_0 bt371.2.1 bt371.2.2) else (none)) else (none))))) = some (r1, r2, r3) := by rw [if_pos rfl] at H; exact H
              clear H
              have H := H1
              clear H1
              replace H := Option.bind_eq_some_iff.mp H
              obtain ⟨⟨t365, t366, t367⟩, A250, H⟩ := H
              replace H : ((Bq.f s0_0 t366 t367 30).bind fun bt368 => ((Bq.f s0_0 bt368.2.1 bt368.2.2 6).bind fun bt371 => (if 0 ≤ t365 then (if t365 < (x3_3.length : Int) then (Am.j2 kj16 (x3_3.set (t365 : Int).toNat (⟨bt368.1, wrap64 (1 + bt371.1)⟩ : S40)) s0_0 bt371.2.1 bt371.2.2) else (none)) else (none)))) = some (r1, r2, r3) := H
              have A25 := Aa.mk A250
              clear A250
              replace H := Option.bind_eq_some_iff.mp H
              obtain ⟨⟨t368, t369, t370⟩, A260, H⟩ := H
              replace H : ((Bq.f s0_0 t369 t370 6).bind fun bt371 => (if 0 ≤ t365 then (if t365 < (x3_3.length : Int) then (Am.j2 kj16 (x3_3.set (t365 : Int).toNat (⟨t368, wrap64 (1 + bt371.1)⟩ : S40)) s0_0 bt371.2.1 bt371.2.2) else (none)) else (none))) = some (r1, r2, r3) := H
              have A26 := Aa.mk A260
              clear A260
              replace H := Option.bind_eq_some_iff.mp H
              obtain ⟨⟨t371, t372, t373⟩, A270, H⟩ := H
              replace H : (if 0 ≤ t365 then (if t365 < (x3_3.length : Int) then (Am.j2 kj16 (x3_3.set (t365 : Int).toNat (⟨t368, wrap64 (1 + t371)⟩ : S40)) s0_0 t372 t373) else (none)) else (none)) = some (r1, r2, r3) := H
              have A27 := Aa.mk A270
              clear A270
              by_cases c28 : 0 ≤ t365
              · rw [if_pos c28] at H
                have c28b0 : decide (0 ≤ t365) = true := decide_eq_true c28
                clear c28
                (first | rw [c28b0] | (simp only [Dh, Dp]; rw [c28b0]) | skip)
                by_cases c29 : t365 < (x3_3.length : Int)
                · rw [if_pos c29] at H
                  have c29b0 : decide (t365 < (x3_3.length : Int)) = true := decide_eq_true c29
                  clear c29
                  obtain ⟨y374, hy374⟩ : ∃ y_ : List (S40), y_ = (x3_3.set (t365 : Int).toNat (⟨t368, wrap64 (1 + t371)⟩ : S40)) := ⟨_, rfl⟩
                  replace H : (Am.j2 kj16 y374 s0_0 t372 t373) = some (r1, r2, r3) := by first | (rw [hy374]; with_reducible exact H) | (have H2_ := (Option.bind_some _ _).symm.trans H; rw [hy374]; with_reducible exact H2_) | (have H2_ := (Option.bind_some _ _).symm.trans H; with_reducible exact H2_) | with_reducible exact H | (rw [hy374]; exact H) | exact H
                  have Ny374 := Aa.mk hy374
                  clear hy374
                  have H' := Aa.mk H
                  clear H
                  obtain ⟨Ao31, co31, eo31⟩ := Kd.Ef HO_3.out
                  subst eo31
                  go_wp2_with (first | ((with_reducible refine Bv (f := 44) rfl ?_); refine D5 (some 29) rfl rfl Tryd.func44 (by kernel_rfl) rfl #[.pointer (some ⟨g, 0, none⟩), .int .i64 (x3_3.length : Int)] rfl (by (try simp only [List.map_toArray, List.map_cons, List.map_nil]); first | done | rfl | (simp only [List.length_drop, List.length_take]; rfl)) ?_; (with_reducible refine (Bq.calls g s0_0 x1001_16 x1002_16 (x3_3.length : Int) t365 t366 t367 w0 _ ?side1 ?side2 A25.out).mono ?_); (case side1 => repeat (first | (with_reducible first | exact HI0.out | apply Af.alloc | apply Af.drewN | apply Af.drew | apply Af.Dy | apply Af.Dx) | exact HI0.out)); (case side2 => repeat (first | (with_reducible first | exact HB.out | apply Ae | apply Ac | apply Ad | refine Ag ?_ (Af.ge HI0.out)) | exact HB.out)); rintro e w32 ⟨rfl, hi, hb, hk⟩; refine ⟨_, rfl, ?_⟩; have n0_ := Aa.mk (Kd.R_mono (Kd.Gl (Af.apart (show Af w0 _ g s0_0 x1001_16 x1002_16 from by repeat (first | (with_reducible first | exact HI0.out | apply Af.alloc | apply Af.drewN | apply Af.drew | apply Af.Dy | apply Af.Dx) | exact HI0.out)) (by (with_reducible repeat (first | apply Kd.Ah | apply Kd.Ai | apply Kd.Ak)); exact HO_3.out) (by decide)) hk (fun _ h => h.2)) (fun _ h => h.1)); have n1_ := Aa.mk (Bi.trans (by repeat (first | (with_reducible first | exact HK.out | apply Bi.E8 | apply C9 | apply Dl | apply Dc) | exact HK.out)) hk (.inl rfl)); have n2_ := Aa.mk (hb); have n3_ := Aa.mk (hi); clear HO_3; clear HK; clear HB; clear HI0; have HO_3 := n0_; have HK := n1_; have HB := n2_; have HI0 := n3_; clear n0_ n1_ n2_ n3_; (try clear hb); (try clear hb2); (try clear hk); (try clear hi)) | ((with_reducible refine Bv (f := 44) rfl ?_); refine D5 (some 31) rfl rfl Tryd.func44 (by kernel_rfl) rfl #[.pointer (some ⟨g, 0, none⟩), .int .i64 30] rfl (by (try simp only [List.map_toArray, List.map_cons, List.map_nil]); first | done | rfl | (simp only [List.length_drop, List.length_take]; rfl)) ?_; (with_reducible refine (Bq.calls g s0_0 t366 t367 30 t368 t369 t370 w0 _ ?side1 ?side2 A26.out).mono ?_); (case side1 => repeat (first | (with_reducible first | exact HI0.out | apply Af.alloc | apply Af.drewN | apply Af.drew | apply Af.Dy | apply Af.Dx) | exact HI0.out)); (case side2 => repeat (first | (with_reducible first | exact HB.out | apply Ae | apply Ac | apply Ad | refine Ag ?_ (Af.ge HI0.out)) | exact HB.out)); rintro e w33 ⟨rfl, hi, hb, hk⟩; refine ⟨_, rfl, ?_⟩; have n0_ := Aa.mk (Kd.R_mono (Kd.Gl (Af.apart (show Af w0 _ g s0_0 t366 t367 from by repeat (first | (with_reducible first | exact HI0.out | apply Af.alloc | apply Af.drewN | apply Af.drew | apply Af.Dy | apply Af.Dx) | exact HI0.out)) (by (with_reducible repeat (first | apply Kd.Ah | apply Kd.Ai | apply Kd.Ak)); exact HO_3.out) (by decide)) hk (fun _ h => h.2)) (fun _ h => h.1)); have n1_ := Aa.mk (Bi.trans (by repeat (first | (with_reducible first | exact HK.out | apply Bi.E8 | apply C9 | apply Dl | apply Dc) | exact HK.out)) hk (.inl rfl)); have n2_ := Aa.mk (hb); have n3_ := Aa.mk (hi); clear HO_3; clear HK; clear HB; clear HI0; have HO_3 := n0_; have HK := n1_; have HB := n2_; have HI0 := n3_; clear n0_ n1_ n2_ n3_; (try clear hb); (try clear hb2); (try clear hk); (try clear hi)) | ((with_reducible refine Bv (f := 44) rfl ?_); refine D5 (some 33) rfl rfl Tryd.func44 (by kernel_rfl) rfl #[.pointer (some ⟨g, 0, none⟩), .int .i64 6] rfl (by (try simp only [List.map_toArray, List.map_cons, List.map_nil]); first | done | rfl | (simp only [List.length_drop, List.length_take]; rfl)) ?_; (with_reducible refine (Bq.calls g s0_0 t369 t370 6 t371 t372 t373 w0 _ ?side1 ?side2 A27.out).mono ?_); (case side1 => repeat (first | (with_reducible first | exact HI0.out | apply Af.alloc | apply Af.drewN | apply Af.drew | apply Af.Dy | apply Af.Dx) | exact HI0.out)); (case side2 => repeat (first | (with_reducible first | exact HB.out | apply Ae | apply Ac | apply Ad | refine Ag ?_ (Af.ge HI0.out)) | exact HB.out)); rintro e w34 ⟨rfl, hi, hb, hk⟩; refine ⟨_, rfl, ?_⟩; have n0_ := Aa.mk (Kd.R_mono (Kd.Gl (Af.apart (show Af w0 _ g s0_0 t369 t370 from by repeat (first | (with_reducible first | exact HI0.out | apply Af.alloc | apply Af.drewN | apply Af.drew | apply Af.Dy | apply Af.Dx) | exact HI0.out)) (by (with_reducible repeat (first | apply Kd.Ah | apply Kd.Ai | apply Kd.Ak)); exact HO_3.out) (by decide)) hk (fun _ h => h.2)) (fun _ h => h.1)); have n1_ := Aa.mk (Bi.trans (by repeat (first | (with_reducible first | exact HK.out | apply Bi.E8 | apply C9 | apply Dl | apply Dc) | exact HK.out)) hk (.inl rfl)); have n2_ := Aa.mk (hb); have n3_ := Aa.mk (hi); clear HO_3; clear HK; clear HB; clear HI0; have HO_3 := n0_; have HK := n1_; have HB := n2_; have HI0 := n3_; clear n0_ n1_ n2_ n3_; (try clear hb); (try clear hb2); (try clear hk); (try clear hi); have p30 : 0 ≤ (t365 : Int) := of_decide_eq_true (by first | (with_reducible assumption) | assumption); have q30 : (t365 : Int) < ((x3_3.length : Int) : Int) := of_decide_eq_true (by first | (with_reducible assumption) | assumption); obtain ⟨go30, co30, eo30, gb30, gl30, cl30, HG30⟩ := Kd.R_form HO_3.out (by omega); (first | cases eo30 | (injection eo30 with ea_ en_ ec_; (first | subst ea_ | (injection ea_ with ea_; subst ea_)); subst ec_; clear en_)); have GB30 := Aa.mk gb30; have GG30 := Aa.mk HG30; clear gb30 gl30 HG30; obtain ⟨ce30, hcl30, hM30, hcc30, hfr30⟩ := Kd.R_elem HO_3.out z40 (t365 : Int) p30 q30; obtain rfl := k40_openM hM30; have hx30_0 : w34.cell? ⟨go30, (t365 : Int).toNat * 2, none⟩ = some (.int .i64 ((Bc x3_3 t365).f0)) := hcc30 0 _ rfl; have hx30_1 : w34.cell? ⟨go30, (t365 : Int).toNat * 2 + 1, none⟩ = some (.int .i64 ((Bc x3_3 t365).f1)) := hcc30 1 _ rfl; have hf30_0 : w34.frozen? ⟨go30, (t365 : Int).toNat * 2, none⟩ = false := hfr30 0; have hf30_1 : w34.frozen? ⟨go30, (t365 : Int).toNat * 2 + 1, none⟩ = false := hfr30 1; (try clear hcl30); (try clear hcc30); (try clear hfr30); (try clear hM30); replace p30 := eq_true p30; replace q30 := eq_true q30; have HX35 := Aa.mk (show Kd.R k40 40 w34 w.heap.size (fun _ => True) (.slice (some ⟨go30, 0, none⟩) x3_3.length co31) x3_3 from (by (with_reducible repeat (first | apply Kd.Ah | apply Kd.Ai | apply Kd.Ak)); exact HO_3.out)); obtain ⟨ce35, hcl35, hM35, hcc35, hfr35⟩ := Kd.R_elem HX35.out z40 (t365 : Int) (of_decide_eq_true (by first | (with_reducible assumption) | assumption)) (by have h_ : (t365 : Int) < ((x3_3.length : Int) : Int) := of_decide_eq_true (by first | (with_reducible assumption) | assumption); first | exact h_ | (have e_ := (Kd.Ba HO_3.out).1; omega) | simpa using h_); obtain rfl := k40_openM hM35; have HP35 := Kd.R_seg HX35.out (t365 : Int) (of_decide_eq_true (by first | (with_reducible assumption) | assumption)) (by have h_ : (t365 : Int) < ((x3_3.length : Int) : Int) := of_decide_eq_true (by first | (with_reducible assumption) | assumption); first | exact h_ | (have e_ := (Kd.Ba HO_3.out).1; omega) | simpa using h_) (seg := [.int .i64 t368, .int .i64 (wrap64 (1 + t371))]) (j := 0) hcl35 hcc35 (show 2 ≤ 2 from by decide) (x' := (⟨t368, wrap64 (1 + t371)⟩ : S40)) (G8 _ _ _ (⟨t368, wrap64 (1 + t371)⟩ : S40) ) (fun _ hk => hk); have hx35_0 := hcc35 0 _ rfl; (try simp only [show (k40).sz = 2 from rfl, Nat.mul_one, Nat.add_zero] at hx35_0); have hf35_0 := hfr35 0; (try simp only [show (k40).sz = 2 from rfl, Nat.mul_one, Nat.add_zero] at hf35_0); have hx35_1 := hcc35 1 _ rfl; (try simp only [show (k40).sz = 2 from rfl, Nat.mul_one, Nat.add_zero] at hx35_1); have hf35_1 := hfr35 1; (try simp only [show (k40).sz = 2 from rfl, Nat.mul_one, Nat.add_zero] at hf35_1); clear hcl35 hcc35 hfr35 hM35) | ((with_reducible refine gate_store (t := 40) (p := 36) rfl ?_); refine store_event (t := 40) (p := 36) (v := ?vo_w36) (w1 := ((w34.setCell ⟨go30, (t365 : Int).toNat * 2, none⟩ (.int .i64 t368)).setCell ⟨go30, (t365 : Int).toNat * 2 + 1, none⟩ (.int .i64 (wrap64 (1 + t371))))) ?hg ?ho ?hn ?hr ?_; (case ho => rfl); (case hg => rfl); (case hn => rfl); (case hr => first | (go_simp; done) | (go_simp; rfl)); intro w36 hw; have hg : w34.grownBy w36 (some go30) := (by rw [hw]; exact HP35.2); have hp_ : Kd.R k40 40 w36 w.heap.size (fun _ => True) (.slice (some ⟨go30, 0, none⟩) x3_3.length co31) y374 := (by rw [hw, Ny374.out]; exact HP35.1); clear HP35; have n0_ := Aa.mk (hp_); have n1_ := Aa.mk (Af.grown (by repeat (first | (with_reducible first | exact HI0.out | apply Af.alloc | apply Af.drewN | apply Af.drew | apply Af.Dy | apply Af.Dx) | exact HI0.out)) hg (Af.own_ne HI0.out HO_3.out (by decide))); have n2_ := Aa.mk ((by rw [hw]; exact Ag (Ag (HB.out) (Nat.le_trans HL.out GB30.out)) (Nat.le_trans HL.out GB30.out) : Below w0.heap.size w0 w36)); have n3_ := Aa.mk (Bi.trans (by repeat (first | (with_reducible first | exact HK.out | apply Bi.E8 | apply C9 | apply Dl | apply Dc) | exact HK.out)) (Bi.of_grown hg g) (Kd.R_base2 HO_3.out)); clear HO_3; clear HI0; clear HB; clear HK; have HO_3 := n0_; have HI0 := n1_; have HB := n2_; have HK := n3_; clear n0_ n1_ n2_ n3_; clear hg hw hp_))
                  go_meet
                  case rel => exact ⟨_, (y374), (t372), (t373), H', ⟨by have := HJ3.out; have := HJ16.out; first | omega | exact Nat.le_refl _⟩, ⟨by (with_reducible repeat (first | apply Kd.Ah | apply Kd.Ai | apply Kd.Ak)); exact HO_3.out⟩, ⟨by repeat (first | (with_reducible first | exact HI0.out | apply Af.alloc | apply Af.drewN | apply Af.drew | apply Af.Dy | apply Af.Dx) | exact HI0.out)⟩, ⟨by repeat (first | (with_reducible first | exact HK.out | apply Bi.E8 | apply C9 | apply Dl | apply Dc) | exact HK.out)⟩, ⟨by repeat (first | (with_reducible first | exact HB.out | apply Ae | apply Ac | apply Ad | refine Ag ?_ (Af.ge HI0.out)) | exact HB.out)⟩⟩
                · rw [if_neg c29] at H
                  exact absurd H (by simp)
              · rw [if_neg c28] at H
                exact absurd H (by simp)
            · replace c24 := Bool.eq_false_iff.mpr c24
              subst c24
              have H1 : (Am.j2 kj16 x3_3 s0_0 x1001_16 x1002_16) = some (r1, r2, r3) := by rw [if_neg (show ¬ (false = true) by decide)] at H; exact H
              clear H
              have H := H1
              clear H1
              have H' := Aa.mk H
              clear H
              go_wp2
              go_meet
              case rel => exact ⟨_, (x3_3), (x1001_16), (x1002_16), H', ⟨by have := HJ3.out; have := HJ16.out; first | omega | exact Nat.le_refl _⟩, ⟨by (with_reducible repeat (first | apply Kd.Ah | apply Kd.Ai | apply Kd.Ak)); exact HO_3.out⟩, ⟨by repeat (first | (with_reducible first | exact HI0.out | apply Af.alloc | apply Af.drewN | apply Af.drew | apply Af.Dy | apply Af.Dx) | exact HI0.out)⟩, ⟨by repeat (first | (with_reducible first | exact HK.out | apply Bi.E8 | apply C9 | apply Dl | apply Dc) | exact HK.out)⟩, ⟨by repeat (first | (with_reducible first | exact HB.out | apply Ae | apply Ac | apply Ad | refine Ag ?_ (Af.ge HI0.out)) | exact HB.out)⟩⟩
          case rest =>
            clear HC23
            try clear c1
            try clear c2
            try clear p2
            try clear c3
            try clear p3
            try clear q3
            try clear hx3
            try clear hf3
            try clear c4
            try clear p6
            try clear c7
            try clear c10
            try clear c18
            try clear c18b0
            try clear c18b1
            try clear c24
            try clear c28
            try clear c28b0
            try clear c29
            try clear c29b0
            try clear c30
            try clear p30
            try clear q30
            try clear hx30
            try clear hf30
            try clear c35
            try clear hx35
            try clear hf35
            try clear hx30_0
            try clear hx30_1
            try clear hx35_0
            try clear hx35_1
            try clear p2
            try clear p30
            try clear q30
            obtain ⟨kq, x3_22, x1001_22, x1002_22, HA, HJ22, HO_3, HI0, HK, HB⟩ := hcut
            cases kq with
            | zero => exact absurd HA.out (by simp [Am.j2])
            | succ kj22 =>
              have H := HA.out
              clear HA
              simp only [Am.j2] at H
              replace H := Option.bind_eq_some_iff.mp H
              obtain ⟨⟨t375, t376, t377⟩, A370, H⟩ := H
              replace H : (if t375 = true then (Am.l0 kj22 (([] : List (S40))) 0 s0_0 t376 t377) else (some (x3_22, t376, t377))) = some (r1, r2, r3) := H
              have A37 := Aa.mk A370
              clear A370
              by_cases c38 : t375 = true
              · subst c38
                have H1 : (Am.l0 kj22 (([] : List (S40))) 0 s0_0 t376 t377) = some (r1, r2, r3) := by rw [if_pos rfl] at H; exact H
                clear H
                have H := H1
                clear H1
                obtain ⟨y378, hy378⟩ : ∃ y_ : List (S40), y_ = (([] : List (S40))) := ⟨_, rfl⟩
                replace H : (Am.l0 kj22 y378 0 s0_0 t376 t377) = some (r1, r2, r3) := by first | (rw [hy378]; with_reducible exact H) | (have H2_ := (Option.bind_some _ _).symm.trans H; rw [hy378]; with_reducible exact H2_) | (have H2_ := (Option.bind_some _ _).symm.trans H; with_reducible exact H2_) | with_reducible exact H | (rw [hy378]; exact H) | exact H
                have Ny378 := Aa.mk hy378
                clear hy378
                have H' := Aa.mk H
                clear H
                go_wp2_with (first | ((with_reducible refine Bv (f := 40) rfl ?_); refine D5 (some 38) rfl rfl Tryd.func40 (by kernel_rfl) rfl #[.pointer (some ⟨g, 0, none⟩), .int .i64 24] rfl (by (try simp only [List.map_toArray, List.map_cons, List.map_nil]); first | done | rfl | (simp only [List.length_drop, List.length_take]; rfl)) ?_; (with_reducible refine (Fj.calls g s0_0 x1001_22 x1002_22 24 true t376 t377 w0 _ ?side1 ?side2 A37.out).mono ?_); (case side1 => repeat (first | (with_reducible first | exact HI0.out | apply Af.alloc | apply Af.drewN | apply Af.drew | apply Af.Dy | apply Af.Dx) | exact HI0.out)); (case side2 => repeat (first | (with_reducible first | exact HB.out | apply Ae | apply Ac | apply Ad | refine Ag ?_ (Af.ge HI0.out)) | exact HB.out)); rintro e w39 ⟨rfl, hi, hb, hk⟩; refine ⟨_, rfl, ?_⟩; have n0_ := Aa.mk (Kd.R_mono (Kd.Gl (Af.apart (show Af w0 _ g s0_0 x1001_22 x1002_22 from by repeat (first | (with_reducible first | exact HI0.out | apply Af.alloc | apply Af.drewN | apply Af.drew | apply Af.Dy | apply Af.Dx) | exact HI0.out)) (by (with_reducible repeat (first | apply Kd.Ah | apply Kd.Ai | apply Kd.Ak)); exact HO_3.out) (by decide)) hk (fun _ h => h.2)) (fun _ h => h.1)); have n1_ := Aa.mk (Bi.trans (by repeat (first | (with_reducible first | exact HK.out | apply Bi.E8 | apply C9 | apply Dl | apply Dc) | exact HK.out)) hk (.inl rfl)); have n2_ := Aa.mk (hb); have n3_ := Aa.mk (hi); clear HO_3; clear HK; clear HB; clear HI0; have HO_3 := n0_; have HK := n1_; have HB := n2_; have HI0 := n3_; clear n0_ n1_ n2_ n3_; (try clear hb); (try clear hb2); (try clear hk); (try clear hi)) | ((with_reducible refine D7 (N := 39) rfl ?_); refine Kd.Ii k40 _ 40 ?hg (N := 39) ?hd (xs := ([] : List (S40))) (inner := []) (ok := fun _ => True) (okp := fun _ => True) ?hr ?hp (fun _ hk => hk) trivial (Below.refl _ _) (Nat.le_refl _) (by simp) ?_; (case hd => rfl); (case hg => rfl); (case hr => first | (go_simp; done) | (go_simp; rfl)); (case hp => exact (Dw.none _ _)); intro v379 w40 ho41 hb hg_ hnew_; clear hg_ hnew_; (first | rw [← Ny378.out] at ho41 | (simp only [Int.reduceToNat] at ho41; rw [← Ny378.out] at ho41)); have n0_ := Aa.mk (Kd.Ff (by (with_reducible repeat (first | apply Kd.Ah | apply Kd.Ai | apply Kd.Ak)); exact HO_3.out) (Kd.Gg ho41) hb); have n1_ := Aa.mk (Kd.Du (Kd.Gh ho41 (Kd.Gs (by (with_reducible repeat (first | apply Kd.Ah | apply Kd.Ai | apply Kd.Ak)); exact HO_3.out))) (Ik (w := w) (g := g) (row := none) (by repeat (first | (with_reducible first | exact HK.out | apply Bi.E8 | apply C9 | apply Dl | apply Dc) | exact HK.out)))); have n2_ := Aa.mk (Af.below (by repeat (first | (with_reducible first | exact HI0.out | apply Af.alloc | apply Af.drewN | apply Af.drew | apply Af.Dy | apply Af.Dx) | exact HI0.out)) hb); have n3_ := Aa.mk (Bi.trans (by repeat (first | (with_reducible first | exact HK.out | apply Bi.E8 | apply C9 | apply Dl | apply Dc) | exact HK.out)) (Bi.of_below hb g none) (.inl rfl)); have n4_ := Aa.mk (Ap (by repeat (first | (with_reducible first | exact HB.out | apply Ae | apply Ac | apply Ad | refine Ag ?_ (Af.ge HI0.out)) | exact HB.out)) hb); clear HO_3; clear HI0; clear HK; clear HB; have HO_3 := n0_; have HO380 := n1_; have HI0 := n2_; have HK := n3_; have HB := n4_; clear n0_ n1_ n2_ n3_ n4_; clear hb ho41))
                go_loopg [3, 4] kj22 (fun kq v3 v4 w' => ∃ (x3_4 : List (S40)) (x4_4 : Int) (x1001_4 : Int) (x1002_4 : Int), v4 = .int .i64 x4_4 ∧ Aa (Am.l0 kq x3_4 x4_4 s0_0 x1001_4 x1002_4 = some (r1, r2, r3)) ∧ Aa (kq ≤ kj22) ∧ Aa (Kd.R k40 40 w' w.heap.size (fun _ => True) v3 x3_4) ∧ Aa (Af w0 w' g s0_0 x1001_4 x1002_4) ∧ Aa (Bi w w' g none) ∧ Aa (Below w0.heap.size w0 w'))
                case atStart => exact ⟨(y378), (0), (t376), (t377), (by first | rfl | (simp; done) | (simp [*]; done)), H', ⟨Nat.le_refl _⟩, ⟨by (with_reducible repeat (first | apply Kd.Ah | apply Kd.Ai | apply Kd.Ak)); exact Kd.R_mono HO380.out (fun _ hk => trivial)⟩, ⟨by repeat (first | (with_reducible first | exact HI0.out | apply Af.alloc | apply Af.drewN | apply Af.drew | apply Af.Dy | apply Af.Dx) | exact HI0.out)⟩, ⟨by repeat (first | (with_reducible first | exact HK.out | apply Bi.E8 | apply C9 | apply Dl | apply Dc) | exact HK.out)⟩, ⟨by repeat (first | (with_reducible first | exact HB.out | apply Ae | apply Ac | apply Ad | refine Ag ?_ (Af.ge HI0.out)) | exact HB.out)⟩⟩
                case round =>
                  clear H'
                  try clear c1
                  try clear c2
                  try clear p2
                  try clear c3
                  try clear p3
                  try clear q3
                  try clear hx3
                  try clear hf3
                  try clear c4
                  try clear p6
                  try clear c7
                  try clear c10
                  try clear c18
                  try clear c18b0
                  try clear c18b1
                  try clear c24
                  try clear c28
                  try clear c28b0
                  try clear c29
                  try clear c29b0
                  try clear c30
                  try clear p30
                  try clear q30
                  try clear hx30
                  try clear hf30
                  try clear c35
                  try clear hx35
                  try clear hf35
                  try clear c38
                  try clear c39
                  try clear c40
                  try clear hx30_0
                  try clear hx30_1
                  try clear hx35_0
                  try clear hx35_1
                  try clear p2
                  try clear p3
                  try clear p30
                  try clear p6
                  try clear q3
                  try clear q30
                  obtain ⟨x3_4, x4_4, x1001_4, x1002_4, rfl, HA, HK4, HO_3, HI0, HK, HB⟩ := hrel
                  cases gk with
                  | zero => exact absurd HA.out (by simp [Am.l0])
                  | succ k4 =>
                    have H := HA.out
                    clear HA
                    simp only [Am.l0] at H
                    replace H := Option.bind_eq_some_iff.mp H
                    obtain ⟨⟨t381, t382, t383⟩, A420, H⟩ := H
                    replace H : (if (x3_4.length : Int) < (wrap64 (20 + t381)) then (if x4_4 < 22 then (if x3_4.length < 8796093022208 then (Am.l0 k4 (x3_4 ++ [(⟨x4_4, wrap64 (1 + (wrap64 (5 * (Int.tmod x4_4 2))))⟩ : S40)]) (wrap64 (x4_4 + 1)) s0_0 t382 t383) else (none)) else (some (x3_4, t382, t383))) else (some (x3_4, t382, t383))) = some (r1, r2, r3) := H
                    have A42 := Aa.mk A420
                    clear A420
                    by_cases c43 : (x3_4.length : Int) < (wrap64 (20 + t381))
                    · rw [if_pos c43] at H
                      have c43b0 : decide ((x3_4.length : Int) < (wrap64 (20 + t381))) = true := decide_eq_true c43
                      clear c43
                      by_cases c44 : x4_4 < 22
                      · rw [if_pos c44] at H
                        have c44b0 : decide (x4_4 < 22) = true := decide_eq_true c44
                        clear c44
                        by_cases c45 : x3_4.length < 8796093022208
                        · rw [if_pos c45] at H
                          have LMc45 := Aa.mk c45
                          clear c45
                          obtain ⟨y384, hy384⟩ : ∃ y_ : List (S40), y_ = (x3_4 ++ [(⟨x4_4, wrap64 (1 + (wrap64 (5 * (Int.tmod x4_4 2))))⟩ : S40)]) := ⟨_, rfl⟩
                          replace H : (Am.l0 k4 y384 (wrap64 (x4_4 + 1)) s0_0 t382 t383) = some (r1, r2, r3) := by first | (rw [hy384]; with_reducible exact H) | (have H2_ := (Option.bind_some _ _).symm.trans H; rw [hy384]; with_reducible exact H2_) | (have H2_ := (Option.bind_some _ _).symm.trans H; with_reducible exact H2_) | with_reducible exact H | (rw [hy384]; exact H) | exact H
                          have Ny384 := Aa.mk hy384
                          clear hy384
                          have H' := Aa.mk H
                          clear H
                          obtain ⟨Ao46, co46, eo46⟩ := Kd.Ef HO_3.out
                          subst eo46
                          go_wp2_with (first | ((with_reducible refine Bv (f := 44) rfl ?_); refine D5 (some 43) rfl rfl Tryd.func44 (by kernel_rfl) rfl #[.pointer (some ⟨g, 0, none⟩), .int .i64 2] rfl (by (try simp only [List.map_toArray, List.map_cons, List.map_nil]); first | done | rfl | (simp only [List.length_drop, List.length_take]; rfl)) ?_; (with_reducible refine (Bq.calls g s0_0 x1001_4 x1002_4 2 t381 t382 t383 w0 _ ?side1 ?side2 A42.out).mono ?_); (case side1 => repeat (first | (with_reducible first | exact HI0.out | apply Af.alloc | apply Af.drewN | apply Af.drew | apply Af.Dy | apply Af.Dx) | exact HI0.out)); (case side2 => repeat (first | (with_reducible first | exact HB.out | apply Ae | apply Ac | apply Ad | refine Ag ?_ (Af.ge HI0.out)) | exact HB.out)); rintro e w47 ⟨rfl, hi, hb, hk⟩; refine ⟨_, rfl, ?_⟩; have n0_ := Aa.mk (Kd.R_mono (Kd.Gl (Af.apart (show Af w0 _ g s0_0 x1001_4 x1002_4 from by repeat (first | (with_reducible first | exact HI0.out | apply Af.alloc | apply Af.drewN | apply Af.drew | apply Af.Dy | apply Af.Dx) | exact HI0.out)) (by (with_reducible repeat (first | apply Kd.Ah | apply Kd.Ai | apply Kd.Ak)); exact HO_3.out) (by decide)) hk (fun _ h => h.2)) (fun _ h => h.1)); have n1_ := Aa.mk (Bi.trans (by repeat (first | (with_reducible first | exact HK.out | apply Bi.E8 | apply C9 | apply Dl | apply Dc) | exact HK.out)) hk (.inl rfl)); have n2_ := Aa.mk (hb); have n3_ := Aa.mk (hi); clear HO_3; clear HK; clear HB; clear HI0; have HO_3 := n0_; have HK := n1_; have HB := n2_; have HI0 := n3_; clear n0_ n1_ n2_ n3_; (try clear hb); (try clear hb2); (try clear hk); (try clear hi)) | ((with_reducible refine Hq (b := .append) (xs := #[.tmp 52, .tmp 59]) rfl ?_); at_builtin; refine Kd.Iw k40 w.heap.size rfl (.tmp 52) (.tmp 59) 26 40 (.agg #[(.int .i64 0), (.int .i64 0)]) 16 rfl Tryd.underlying26 Hr rfl (by decide) (by omega) (.slice Ao46 x3_4.length co46) x3_4 (⟨x4_4, wrap64 (1 + (wrap64 (5 * (Int.tmod x4_4 2))))⟩ : S40) [.int .i64 x4_4, .int .i64 (wrap64 (1 + (wrap64 (5 * (Int.tmod x4_4 2)))))] (fun _ => True) (fun _ => False) rfl rfl ?aP (fun _ hk => hk.elim) ?aF ?aO (Below.refl _ _) ?aS ?aL ?_; (case aP => exact G8 _ _ _ (⟨x4_4, wrap64 (1 + (wrap64 (5 * (Int.tmod x4_4 2))))⟩ : S40)); (case aF => exact (fun _ _ => trivial)); (case aO => exact (by (with_reducible repeat (first | apply Kd.Ah | apply Kd.Ai | apply Kd.Ak)); exact HO_3.out)); (case aS => exact (Ik (w := w) (g := g) (row := none) (by repeat (first | (with_reducible first | exact HK.out | apply Bi.E8 | apply C9 | apply Dl | apply Dc) | exact HK.out)))); (case aL => have := LMc45.out; omega); intro v385 w48 ho hb hg hat; rw [← Ny384.out] at ho; have n0_ := Aa.mk (Af.grown (by repeat (first | (with_reducible first | exact HI0.out | apply Af.alloc | apply Af.drewN | apply Af.drew | apply Af.Dy | apply Af.Dx) | exact HI0.out)) hg (Af.own_ne HI0.out HO_3.out (by decide))); have n1_ := Aa.mk (Jg (by repeat (first | (with_reducible first | exact HB.out | apply Ae | apply Ac | apply Ad | refine Ag ?_ (Af.ge HI0.out)) | exact HB.out)) HL.out hb); have n2_ := Aa.mk (Bi.trans (by repeat (first | (with_reducible first | exact HK.out | apply Bi.E8 | apply C9 | apply Dl | apply Dc) | exact HK.out)) (Bi.of_grown hg g) (Kd.R_base2 HO_3.out)); have n3_ := Aa.mk (ho); clear HI0; clear HB; clear HK; clear HO_3; have HI0 := n0_; have HB := n1_; have HK := n2_; have HO386 := n3_; clear n0_ n1_ n2_ n3_; clear ho hb hg hat))
                          go_roundg k4
                          case measure => have := HJ3.out; have := HJ16.out; have := HJ22.out; have := HK4.out; omega
                          case rel => exact ⟨(y384), (wrap64 (x4_4 + 1)), (t382), (t383), (by first | rfl | (simp; done) | (simp [*]; done)), H', ⟨by have := HJ3.out; have := HJ16.out; have := HJ22.out; have := HK4.out; omega⟩, ⟨by (with_reducible repeat (first | apply Kd.Ah | apply Kd.Ai | apply Kd.Ak)); exact HO386.out⟩, ⟨by repeat (first | (with_reducible first | exact HI0.out | apply Af.alloc | apply Af.drewN | apply Af.drew | apply Af.Dy | apply Af.Dx) | exact HI0.out)⟩, ⟨by repeat (first | (with_reducible first | exact HK.out | apply Bi.E8 | apply C9 | apply Dl | apply Dc) | exact HK.out)⟩, ⟨by repeat (first | (with_reducible first | exact HB.out | apply Ae | apply Ac | apply Ad | refine Ag ?_ (Af.ge HI0.out)) | exact HB.out)⟩⟩
                        · rw [if_neg c45] at H
                          exact absurd H (by simp)
                      · rw [if_neg c44] at H
                        have c44b0 : decide (x4_4 < 22) = false := decide_eq_false c44
                        clear c44
                        simp only [Option.some.injEq, Prod.mk.injEq] at H
                        obtain ⟨rfl, rfl, rfl⟩ := H
                        obtain ⟨Ao49, co49, eo49⟩ := Kd.Ef HO_3.out
                        subst eo49
                        go_wp2_with (first | ((with_reducible refine Bv (f := 44) rfl ?_); refine D5 (some 43) rfl rfl Tryd.func44 (by kernel_rfl) rfl #[.pointer (some ⟨g, 0, none⟩), .int .i64 2] rfl (by (try simp only [List.map_toArray, List.map_cons, List.map_nil]); first | done | rfl | (simp only [List.length_drop, List.length_take]; rfl)) ?_; (with_reducible refine (Bq.calls g s0_0 x1001_4 x1002_4 2 t381 t382 t383 w0 _ ?side1 ?side2 A42.out).mono ?_); (case side1 => repeat (first | (with_reducible first | exact HI0.out | apply Af.alloc | apply Af.drewN | apply Af.drew | apply Af.Dy | apply Af.Dx) | exact HI0.out)); (case side2 => repeat (first | (with_reducible first | exact HB.out | apply Ae | apply Ac | apply Ad | refine Ag ?_ (Af.ge HI0.out)) | exact HB.out)); rintro e w50 ⟨rfl, hi, hb, hk⟩; refine ⟨_, rfl, ?_⟩; have n0_ := Aa.mk (Kd.R_mono (Kd.Gl (Af.apart (show Af w0 _ g s0_0 x1001_4 x1002_4 from by repeat (first | (with_reducible first | exact HI0.out | apply Af.alloc | apply Af.drewN | apply Af.drew | apply Af.Dy | apply Af.Dx) | exact HI0.out)) (by (with_reducible repeat (first | apply Kd.Ah | apply Kd.Ai | apply Kd.Ak)); exact HO_3.out) (by decide)) hk (fun _ h => h.2)) (fun _ h => h.1)); have n1_ := Aa.mk (Bi.trans (by repeat (first | (with_reducible first | exact HK.out | apply Bi.E8 | apply C9 | apply Dl | apply Dc) | exact HK.out)) hk (.inl rfl)); have n2_ := Aa.mk (hb); have n3_ := Aa.mk (hi); clear HO_3; clear HK; clear HB; clear HI0; have HO_3 := n0_; have HK := n1_; have HB := n2_; have HI0 := n3_; clear n0_ n1_ n2_ n3_; (try clear hb); (try clear hb2); (try clear hk); (try clear hi)))
                        go_ret
                        exact ⟨_, by first | rfl | (simp [Be, Bf] <;> rfl) | (simp [*, Be, Bf] <;> rfl), by (with_reducible repeat (first | apply Kd.Ah | apply Kd.Ai | apply Kd.Ak)); exact HO_3.out, by repeat (first | (with_reducible first | exact HI0.out | apply Af.alloc | apply Af.drewN | apply Af.drew | apply Af.Dy | apply Af.Dx) | exact HI0.out), by repeat (first | (with_reducible first | exact HB.out | apply Ae | apply Ac | apply Ad | refine Ag ?_ (Af.ge HI0.out)) | exact HB.out), by repeat (first | (with_reducible first | exact HK.out | apply Bi.E8 | apply C9 | apply Dl | apply Dc) | exact HK.out)⟩
                    · rw [if_neg c43] at H
                      have c43b0 : decide ((x3_4.length : Int) < (wrap64 (20 + t381))) = false := decide_eq_false c43
                      clear c43
                      simp only [Option.some.injEq, Prod.mk.injEq] at H
                      obtain ⟨rfl, rfl, rfl⟩ := H
                      obtain ⟨Ao51, co51, eo51⟩ := Kd.Ef HO_3.out
                      subst eo51
                      go_wp2_with (first | ((with_reducible refine Bv (f := 44) rfl ?_); refine D5 (some 43) rfl rfl Tryd.func44 (by kernel_rfl) rfl #[.pointer (some ⟨g, 0, none⟩), .int .i64 2] rfl (by (try simp only [List.map_toArray, List.map_cons, List.map_nil]); first | done | rfl | (simp only [List.length_drop, List.length_take]; rfl)) ?_; (with_reducible refine (Bq.calls g s0_0 x1001_4 x1002_4 2 t381 t382 t383 w0 _ ?side1 ?side2 A42.out).mono ?_); (case side1 => repeat (first | (with_reducible first | exact HI0.out | apply Af.alloc | apply Af.drewN | apply Af.drew | apply Af.Dy | apply Af.Dx) | exact HI0.out)); (case side2 => repeat (first | (with_reducible first | exact HB.out | apply Ae | apply Ac | apply Ad | refine Ag ?_ (Af.ge HI0.out)) | exact HB.out)); rintro e w52 ⟨rfl, hi, hb, hk⟩; refine ⟨_, rfl, ?_⟩; have n0_ := Aa.mk (Kd.R_mono (Kd.Gl (Af.apart (show Af w0 _ g s0_0 x1001_4 x1002_4 from by repeat (first | (with_reducible first | exact HI0.out | apply Af.alloc | apply Af.drewN | apply Af.drew | apply Af.Dy | apply Af.Dx) | exact HI0.out)) (by (with_reducible repeat (first | apply Kd.Ah | apply Kd.Ai | apply Kd.Ak)); exact HO_3.out) (by decide)) hk (fun _ h => h.2)) (fun _ h => h.1)); have n1_ := Aa.mk (Bi.trans (by repeat (first | (with_reducible first | exact HK.out | apply Bi.E8 | apply C9 | apply Dl | apply Dc) | exact HK.out)) hk (.inl rfl)); have n2_ := Aa.mk (hb); have n3_ := Aa.mk (hi); clear HO_3; clear HK; clear HB; clear HI0; have HO_3 := n0_; have HK := n1_; have HB := n2_; have HI0 := n3_; clear n0_ n1_ n2_ n3_; (try clear hb); (try clear hb2); (try clear hk); (try clear hi)))
                      go_ret
                      exact ⟨_, by first | rfl | (simp [Be, Bf] <;> rfl) | (simp [*, Be, Bf] <;> rfl), by (with_reducible repeat (first | apply Kd.Ah | apply Kd.Ai | apply Kd.Ak)); exact HO_3.out, by repeat (first | (with_reducible first | exact HI0.out | apply Af.alloc | apply Af.drewN | apply Af.drew | apply Af.Dy | apply Af.Dx) | exact HI0.out), by repeat (first | (with_reducible first | exact HB.out | apply Ae | apply Ac | apply Ad | refine Ag ?_ (Af.ge HI0.out)) | exact HB.out), by repeat (first | (with_reducible first | exact HK.out | apply Bi.E8 | apply C9 | apply Dl | apply Dc) | exact HK.out)⟩
              · replace c38 := Bool.eq_false_iff.mpr c38
                subst c38
                have H1 : (some (x3_22, t376, t377)) = some (r1, r2, r3) := by rw [if_neg (show ¬ (false = true) by decide)] at H; exact H
                clear H
                have H := H1
                clear H1
                simp only [Option.some.injEq, Prod.mk.injEq] at H
                obtain ⟨rfl, rfl, rfl⟩ := H
                go_wp2_with (first | ((with_reducible refine Bv (f := 40) rfl ?_); refine D5 (some 38) rfl rfl Tryd.func40 (by kernel_rfl) rfl #[.pointer (some ⟨g, 0, none⟩), .int .i64 24] rfl (by (try simp only [List.map_toArray, List.map_cons, List.map_nil]); first | done | rfl | (simp only [List.length_drop, List.length_take]; rfl)) ?_; (with_reducible refine (Fj.calls g s0_0 x1001_22 x1002_22 24 false t376 t377 w0 _ ?side1 ?side2 A37.out).mono ?_); (case side1 => repeat (first | (with_reducible first | exact HI0.out | apply Af.alloc | apply Af.drewN | apply Af.drew | apply Af.Dy | apply Af.Dx) | exact HI0.out)); (case side2 => repeat (first | (with_reducible first | exact HB.out | apply Ae | apply Ac | apply Ad | refine Ag ?_ (Af.ge HI0.out)) | exact HB.out)); rintro e w53 ⟨rfl, hi, hb, hk⟩; refine ⟨_, rfl, ?_⟩; have n0_ := Aa.mk (Kd.R_mono (Kd.Gl (Af.apart (show Af w0 _ g s0_0 x1001_22 x1002_22 from by repeat (first | (with_reducible first | exact HI0.out | apply Af.alloc | apply Af.drewN | apply Af.drew | apply Af.Dy | apply Af.Dx) | exact HI0.out)) (by (with_reducible repeat (first | apply Kd.Ah | apply Kd.Ai | apply Kd.Ak)); exact HO_3.out) (by decide)) hk (fun _ h => h.2)) (fun _ h => h.1)); have n1_ := Aa.mk (Bi.trans (by repeat (first | (with_reducible first | exact HK.out | apply Bi.E8 | apply C9 | apply Dl | apply Dc) | exact HK.out)) hk (.inl rfl)); have n2_ := Aa.mk (hb); have n3_ := Aa.mk (hi); clear HO_3; clear HK; clear HB; clear HI0; have HO_3 := n0_; have HK := n1_; have HB := n2_; have HI0 := n3_; clear n0_ n1_ n2_ n3_; (try clear hb); (try clear hb2); (try clear hk); (try clear hi)))
                go_ret
                exact ⟨_, by first | rfl | (simp [Be, Bf] <;> rfl) | (simp [*, Be, Bf] <;> rfl), by (with_reducible repeat (first | apply Kd.Ah | apply Kd.Ai | apply Kd.Ak)); exact HO_3.out, by repeat (first | (with_reducible first | exact HI0.out | apply Af.alloc | apply Af.drewN | apply Af.drew | apply Af.Dy | apply Af.Dx) | exact HI0.out), by repeat (first | (with_reducible first | exact HB.out | apply Ae | apply Ac | apply Ad | refine Ag ?_ (Af.ge HI0.out)) | exact HB.out), by repeat (first | (with_reducible first | exact HK.out | apply Bi.E8 | apply C9 | apply Dl | apply Dc) | exact HK.out)⟩
end Go.Proofs.YtpalafegcndccaaDoor.X

namespace Go.Proofs.YtpalafegcndccaaDoor.X
open Go.RowKit Go.Proofs.YtpalafegcndccaaDoorW.PrintWords Go.Proofs.YtpalafegcndccaaDoorW.PrintLast Go.Proofs.YtpalafegcndccaaDoorW.PrintMore
attribute [local go_sem] Ej Eg Eu Ew D9 D8 Ei Eh
open Go.Proofs.YtpalafegcndccaaDoorG
def F6.f (k : Nat) (l0 : List Int) : Option ((List (S40))) := (Am.f k l0 0 0).bind fun bt388 => (some bt388.1)
theorem F6.mono : ∀ a0 k, LeO (F6.f k a0) (F6.f (k + 1) a0) := by
  intro a0 k
  unfold F6.f
  repeat' first
      | (with_reducible exact Am.mono _ _ _ _)
      | (with_reducible exact LeO.refl _)
      | (with_reducible exact LeO.none _)
      | (with_reducible refine LeO.ite ?_ ?_)
      | (with_reducible refine LeO.bind ?_ (fun _ => ?_))
      | exact Am.mono _ _ _ _
      | exact LeO.none _
      | refine LeO.ite ?_ ?_
      | refine LeO.bind ?_ (fun _ => ?_)
set_option maxHeartbeats 8000000 in
set_option maxRecDepth 100000 in
theorem F6.calls (k : Nat) (A0 : Option Addr) (c0 : Nat) (l0 : List Int) (r : List (S40)) (w : World) (hr0 : Kd.C (Kd.int .u8) w A0 l0.length l0) (hc0 : l0.length ≤ c0) (h : F6.f k l0 = some r) :
    Calls Tryd.prog 37 #[.slice A0 l0.length c0] w fun e w' => ∃ v0_ : Value, e = .returned (v0_) ∧ Kd.R k40 40 w' w.heap.size (fun _ => True) v0_ r ∧ Below w.heap.size w w' := by
  have hu69 := Tryd.underlying69
  have HR0 := Aa.mk hr0
  have HC0 := Aa.mk hc0
  clear hr0 hc0
  have HB := Aa.mk (Below.refl w.heap.size w)
  have H : ((Am.f k l0 0 0).bind fun bt388 => (some bt388.1)) = some r := h
  clear h
  replace H := Option.bind_eq_some_iff.mp H
  obtain ⟨⟨t388, t391, t392⟩, A20, H⟩ := H
  replace H : (some t388) = some r := H
  have A2 := Aa.mk A20
  clear A20
  obtain rfl := Option.some.inj H
  go_enter Tryd.func37, Tryd.ntmps37
  go_wp2_with (first | ((with_reducible refine D7 (N := 6) rfl ?_); refine Es ?hg (N := 6) ?hd (cs := #[.slice A0 l0.length c0, .int .i64 0, .int .u64 0]) (t := 69) ?hr ?_; (case hd => rfl); (case hg => rfl); (case hr => first | (go_simp; done) | (go_simp; rfl)); intro gb387 hg w3 hbox hb; have n0_ := Aa.mk (Ap (by repeat (first | (with_reducible first | exact HB.out | apply Ae | apply Ac | apply Ad) | exact HB.out)) hb); have n1_ := Aa.mk ((by rw [hg]; exact (Aq (by repeat (first | (with_reducible first | exact HB.out | apply Ae | apply Ac | apply Ad) | exact HB.out))) : w.heap.size ≤ gb387)); have n2_ := Aa.mk ((by rw [hg]; exact (Aq (by repeat (first | (with_reducible first | exact HB.out | apply Ae | apply Ac | apply Ad) | exact HB.out))) : w.heap.size ≤ gb387)); have n3_ := Aa.mk ((⟨_, _, hbox, (by rw [hg]; exact (Aq (by repeat (first | (with_reducible first | exact HB.out | apply Ae | apply Ac | apply Ad) | exact HB.out)))), HR0.out⟩ : Af w w3 gb387 l0 0 0)); clear HB; have HB := n0_; have GW387 := n1_; have GE387 := n2_; have HI387 := n3_; clear n0_ n1_ n2_ n3_; clear hb hbox hg) | ((with_reducible refine Bv (f := 42) rfl ?_); refine D5 (some 8) rfl rfl Tryd.func42 (by kernel_rfl) rfl #[.pointer (some ⟨gb387, 0, none⟩)] rfl (by (try simp only [List.map_toArray, List.map_cons, List.map_nil]); first | done | rfl | (simp only [List.length_drop, List.length_take]; rfl)) ?_; (with_reducible refine (Am.calls k gb387 l0 0 0 t388 t391 t392 w _ ?side1 ?side2 A2.out).mono ?_); (case side1 => repeat (first | (with_reducible first | exact HI387.out | apply Af.alloc | apply Af.drewN | apply Af.drew | apply Af.Dy | apply Af.Dx) | exact HI387.out)); (case side2 => repeat (first | (with_reducible first | exact HB.out | apply Ae | apply Ac | apply Ad | refine Ag ?_ (Af.ge HI387.out)) | exact HB.out)); rintro e w4 ⟨v389, rfl, ho0, hi, hb, hk⟩; refine ⟨_, rfl, ?_⟩; have n0_ := Aa.mk (Kd.Du ho0 (Aq (by repeat (first | (with_reducible first | exact HB.out | apply Ae | apply Ac | apply Ad | refine Ag ?_ (Af.ge HI387.out)) | exact HB.out)))); have n1_ := Aa.mk (hb); have n2_ := Aa.mk (hi); clear HB; clear HI387; have HO390 := n0_; have HB := n1_; have HI387 := n2_; clear n0_ n1_ n2_; (try clear hb); (try clear hb2); (try clear hk); (try clear hi); (try clear ho0)))
  go_ret
  exact ⟨_, by first | rfl | (simp [Be, Bf] <;> rfl) | (simp [*, Be, Bf] <;> rfl), by (with_reducible repeat (first | apply Kd.Ah | apply Kd.Ai | apply Kd.Ak)); exact HO390.out, by repeat (first | (with_reducible first | exact HB.out | apply Ae | apply Ac | apply Ad | refine Ag ?_ (Af.ge HI387.out)) | exact HB.out)⟩
end Go.Proofs.YtpalafegcndccaaDoor.X

namespace Go.Proofs.YtpalafegcndccaaDoor.X
open Go.RowKit Go.Proofs.YtpalafegcndccaaDoorW.PrintWords Go.Proofs.YtpalafegcndccaaDoorW.PrintLast Go.Proofs.YtpalafegcndccaaDoorW.PrintMore
attribute [local go_sem] Ej Eg Eu Ew D9 D8 Ei Eh
open Go.Proofs.YtpalafegcndccaaDoorG
def Ed.f (k : Nat) (l0 : List Int) : Option ((List (S40))) := (F6.f k l0).bind fun t393 => (some t393)
theorem Ed.mono : ∀ a0 k, LeO (Ed.f k a0) (Ed.f (k + 1) a0) := by
  intro a0 k
  unfold Ed.f
  repeat' first
      | (with_reducible exact F6.mono _ _)
      | (with_reducible exact LeO.refl _)
      | (with_reducible exact LeO.none _)
      | (with_reducible refine LeO.ite ?_ ?_)
      | (with_reducible refine LeO.bind ?_ (fun _ => ?_))
      | exact F6.mono _ _
      | exact LeO.none _
      | refine LeO.ite ?_ ?_
      | refine LeO.bind ?_ (fun _ => ?_)
set_option maxHeartbeats 8000000 in
set_option maxRecDepth 100000 in
theorem Ed.calls (k : Nat) (A0 : Option Addr) (c0 : Nat) (l0 : List Int) (r : List (S40)) (w : World) (hr0 : Kd.C (Kd.int .u8) w A0 l0.length l0) (hc0 : l0.length ≤ c0) (h : Ed.f k l0 = some r) :
    Calls Tryd.prog 16 #[.slice A0 l0.length c0] w fun e w' => ∃ v0_ : Value, e = .returned (v0_) ∧ Kd.R k40 40 w' w.heap.size (fun _ => True) v0_ r ∧ Below w.heap.size w w' := by
  have HR0 := Aa.mk hr0
  have HC0 := Aa.mk hc0
  clear hr0 hc0
  have HB := Aa.mk (Below.refl w.heap.size w)
  have H : ((F6.f k l0).bind fun t393 => (some t393)) = some r := h
  clear h
  replace H := Option.bind_eq_some_iff.mp H
  obtain ⟨t393, A20, H⟩ := H
  replace H : (some t393) = some r := H
  have A2 := Aa.mk A20
  clear A20
  obtain rfl := Option.some.inj H
  go_enter Tryd.func16, Tryd.ntmps16
  go_wp2_with (first | ((with_reducible refine Bv (f := 37) rfl ?_); refine D5 (some 4) rfl rfl Tryd.func37 (by kernel_rfl) rfl #[.slice A0 l0.length c0] rfl (by (try simp only [List.map_toArray, List.map_cons, List.map_nil]); first | done | rfl | (simp only [List.length_drop, List.length_take]; rfl)) ?_; (with_reducible refine (F6.calls k _ _ l0 t393 _ ?side1 ?side2 A2.out).mono ?_); (case side1 => repeat (first | exact HR0.out | (with_reducible refine Kd.Ci ?_ _) | (with_reducible refine Kd.Cf ?_ _) | (with_reducible refine Kd.Di ?_))); (case side2 => exact HC0.out); rintro e w3 ⟨v394, rfl, ho0, hb⟩; refine ⟨_, rfl, ?_⟩; have n0_ := Aa.mk (Kd.Du ho0 (Aq (by repeat (first | (with_reducible first | exact HB.out | apply Ae | apply Ac | apply Ad) | exact HB.out)))); have n1_ := Aa.mk (Ap (by repeat (first | (with_reducible first | exact HB.out | apply Ae | apply Ac | apply Ad) | exact HB.out)) hb); clear HB; have HO395 := n0_; have HB := n1_; clear n0_ n1_; (try clear hb); (try clear hb2); (try clear hk); (try clear hi); (try clear ho0)))
  go_ret
  exact ⟨_, by first | rfl | (simp [Be, Bf] <;> rfl) | (simp [*, Be, Bf] <;> rfl), by (with_reducible repeat (first | apply Kd.Ah | apply Kd.Ai | apply Kd.Ak)); exact HO395.out, by repeat (first | (with_reducible first | exact HB.out | apply Ae | apply Ac | apply Ad) | exact HB.out)⟩
end Go.Proofs.YtpalafegcndccaaDoor.X

namespace Go.Proofs.YtpalafegcndccaaDoor.X
open Go.RowKit Go.Proofs.YtpalafegcndccaaDoorW.PrintWords Go.Proofs.YtpalafegcndccaaDoorW.PrintLast Go.Proofs.YtpalafegcndccaaDoorW.PrintMore
attribute [local go_sem] Ej Eg Eu Ew D9 D8 Ei Eh
open Go.Proofs.YtpalafegcndccaaDoorG
theorem eqA40 (d : Nat) (w : World) (x0 y0 : Int) (x1 y1 : Int) :
    (Op.equalIn (d + 2) 40 (.agg #[.int .i64 x0, .int .i64 x1]) (.agg #[.int .i64 y0, .int .i64 y1])).run Tryd.prog w = .ok (x0 == y0 && (x1 == y1)) w := by
  refine eqA_of Tryd.underlying40 (by kernel_rfl) ?_
  refine eqf_cons (by rfl) (by go_simp; rfl) (by go_simp; rfl) (by go_simp) ?_
  exact eqf_last (by rfl) (by go_simp; rfl) (by go_simp; rfl) (by go_simp)
end Go.Proofs.YtpalafegcndccaaDoor.X

namespace Go.Proofs.YtpalafegcndccaaDoor.X
open Go.RowKit Go.Proofs.YtpalafegcndccaaDoorW.PrintWords Go.Proofs.YtpalafegcndccaaDoorW.PrintLast Go.Proofs.YtpalafegcndccaaDoorW.PrintMore
attribute [local go_sem] Ej Eg Eu Ew D9 D8 Ei Eh
open Go.Proofs.YtpalafegcndccaaDoorG
attribute [local go_sem high] eqA40
def Dq.l0 : Nat → List (S40) → List (S40) → Int → Option (Bool)
  | 0, _, _, _ => none
  | k + 1, x0, x1, x5 => if x5 < (x0.length : Int) then (if 0 ≤ x5 then (if x5 < (x1.length : Int) then (if (!(((Bc x0 x5).f0) == ((Bc x1 x5).f0)) || (!(((Bc x0 x5).f1) == ((Bc x1 x5).f1)))) = true then (some false) else (Dq.l0 k x0 x1 (wrap64 (x5 + 1)))) else (none)) else (none)) else (some true)
def Dq.f (k : Nat) (l0 : List (S40)) (l1 : List (S40)) : Option (Bool) := if (l0.length : Int) = (l1.length : Int) then (Dq.l0 k l0 l1 0) else (some false)
theorem Dq.Et : ∀ k, (∀ y0 y1 y2, LeO (Dq.l0 k y0 y1 y2) (Dq.l0 (k + 1) y0 y1 y2))
  | 0 => fun _ _ _ r h => by simp [Dq.l0] at h
  | k + 1 => by
    have ih0 := Dq.Et k
    · intro y0 y1 y2
      unfold Dq.l0
      repeat' first
      | (with_reducible exact ih0 _ _ _)
      | (with_reducible exact LeO.refl _)
      | (with_reducible exact LeO.none _)
      | (with_reducible refine LeO.ite ?_ ?_)
      | (with_reducible refine LeO.bind ?_ (fun _ => ?_))
      | exact ih0 _ _ _
      | exact LeO.none _
      | refine LeO.ite ?_ ?_
      | refine LeO.bind ?_ (fun _ => ?_)
theorem Dq.mono : ∀ a0 a1 k, LeO (Dq.f k a0 a1) (Dq.f (k + 1) a0 a1) := by
  intro a0 a1 k
  have ih0 := Dq.Et k
  unfold Dq.f
  repeat' first
      | (with_reducible exact ih0 _ _ _)
      | (with_reducible exact LeO.refl _)
      | (with_reducible exact LeO.none _)
      | (with_reducible refine LeO.ite ?_ ?_)
      | (with_reducible refine LeO.bind ?_ (fun _ => ?_))
      | exact ih0 _ _ _
      | exact LeO.none _
      | refine LeO.ite ?_ ?_
      | refine LeO.bind ?_ (fun _ => ?_)
set_option maxHeartbeats 8000000 in
set_option maxRecDepth 100000 in
theorem Dq.calls (k : Nat) (A0 : Option Addr) (c0 : Nat) (l0 : List (S40)) (A1 : Option Addr) (c1 : Nat) (l1 : List (S40)) (r : Bool) (w : World) (hr0 : Kd.C k40 w A0 l0.length l0) (hc0 : l0.length ≤ c0) (hr1 : Kd.C k40 w A1 l1.length l1) (hc1 : l1.length ≤ c1) (h : Dq.f k l0 l1 = some r) :
    Calls Tryd.prog 18 #[.slice A0 l0.length c0, .slice A1 l1.length c1] w fun e w' => e = .returned (.bool r) ∧ Cj w w' := by
  have hu40 := Tryd.underlying40
  have HR0 := Aa.mk hr0
  have HC0 := Aa.mk hc0
  clear hr0 hc0
  have HR1 := Aa.mk hr1
  have HC1 := Aa.mk hc1
  clear hr1 hc1
  have H : (if (l0.length : Int) = (l1.length : Int) then (Dq.l0 k l0 l1 0) else (some false)) = some r := h
  clear h
  by_cases c3 : (l0.length : Int) = (l1.length : Int)
  · rw [if_pos c3] at H
    have c3b0 : ((l0.length : Int) == (l1.length : Int)) = true := beq_iff_eq.mpr c3
    have c3b1 : ((l0.length : Int) != (l1.length : Int)) = false := bne_eq_false_iff_eq.mpr c3
    have c3b2 : (l0.length == l1.length) = true := by first | simpa using c3 | (simp at c3 ⊢; omega)
    clear c3
    have H' := Aa.mk H
    clear H
    go_enter Tryd.func18, Tryd.ntmps18
    go_wp2
    repeat (go_quiet (fail); try go_wp2)
    go_loopg [5] k (fun kq v5 w' => ∃ (x5_1 : Int), v5 = .int .i64 x5_1 ∧ Aa (Dq.l0 kq l0 l1 x5_1 = some r) ∧ Aa (kq ≤ k) ∧ Cj w w')
    case atStart => exact ⟨(0), (by first | rfl | (simp; done) | (simp [*]; done)), H', ⟨Nat.le_refl _⟩, by repeat (first | exact Cj.refl _ | apply Cj.step)⟩
    case round =>
      clear H'
      try clear c1
      try clear p2
      try clear c3
      try clear c3b0
      try clear c3b1
      try clear c3b2
      obtain ⟨x5_1, rfl, HA, HK1, ⟨m1, rfl⟩⟩ := hrel
      cases gk with
      | zero => exact absurd HA.out (by simp [Dq.l0])
      | succ k1 =>
        have H := HA.out
        clear HA
        simp only [Dq.l0] at H
        by_cases c4 : x5_1 < (l0.length : Int)
        · rw [if_pos c4] at H
          have c4b0 : decide (x5_1 < (l0.length : Int)) = true := decide_eq_true c4
          clear c4
          by_cases c5 : 0 ≤ x5_1
          · rw [if_pos c5] at H
            have c5b0 : decide (0 ≤ x5_1) = true := decide_eq_true c5
            clear c5
            by_cases c6 : x5_1 < (l1.length : Int)
            · rw [if_pos c6] at H
              have c6b0 : decide (x5_1 < (l1.length : Int)) = true := decide_eq_true c6
              clear c6
              by_cases c7 : (!(((Bc l0 x5_1).f0) == ((Bc l1 x5_1).f0)) || (!(((Bc l0 x5_1).f1) == ((Bc l1 x5_1).f1)))) = true
              · rw [if_pos c7] at H
                have c7b0 : (!(((Bc l0 x5_1).f0) == ((Bc l1 x5_1).f0)) || (!(((Bc l0 x5_1).f1) == ((Bc l1 x5_1).f1)))) = true := c7
                clear c7
                obtain rfl := Option.some.inj H
                have p396 : 0 ≤ (x5_1 : Int) := of_decide_eq_true (by first | (with_reducible assumption) | assumption)
                have q396 : x5_1 < (l0.length : Int) := of_decide_eq_true (by first | (with_reducible assumption) | assumption)
                obtain ⟨ad396, e396, hx396_0, hx396_1⟩ := F5 HR0.out x5_1 p396 q396
                cases e396
                replace p396 := eq_true p396
                replace q396 := eq_true q396
                have p397 : 0 ≤ (x5_1 : Int) := of_decide_eq_true (by first | (with_reducible assumption) | assumption)
                have q397 : x5_1 < (l1.length : Int) := of_decide_eq_true (by first | (with_reducible assumption) | assumption)
                obtain ⟨ad397, e397, hx397_0, hx397_1⟩ := F5 HR1.out x5_1 p397 q397
                cases e397
                replace p397 := eq_true p397
                replace q397 := eq_true q397
                go_wp2
                repeat (go_quiet (fail); try go_wp2)
                go_ret
                exact ⟨by first | rfl | (simp; done) | (simp [*]; done), by repeat (first | exact Cj.refl _ | apply Cj.step)⟩
              · rw [if_neg c7] at H
                have c7b0 : (!(((Bc l0 x5_1).f0) == ((Bc l1 x5_1).f0)) || (!(((Bc l0 x5_1).f1) == ((Bc l1 x5_1).f1)))) = false := by simpa using c7
                clear c7
                have H' := Aa.mk H
                clear H
                have p396 : 0 ≤ (x5_1 : Int) := of_decide_eq_true (by first | (with_reducible assumption) | assumption)
                have q396 : x5_1 < (l0.length : Int) := of_decide_eq_true (by first | (with_reducible assumption) | assumption)
                obtain ⟨ad396, e396, hx396_0, hx396_1⟩ := F5 HR0.out x5_1 p396 q396
                cases e396
                replace p396 := eq_true p396
                replace q396 := eq_true q396
                have p397 : 0 ≤ (x5_1 : Int) := of_decide_eq_true (by first | (with_reducible assumption) | assumption)
                have q397 : x5_1 < (l1.length : Int) := of_decide_eq_true (by first | (with_reducible assumption) | assumption)
                obtain ⟨ad397, e397, hx397_0, hx397_1⟩ := F5 HR1.out x5_1 p397 q397
                cases e397
                replace p397 := eq_true p397
                replace q397 := eq_true q397
                go_wp2
                repeat (go_quiet (fail); try go_wp2)
                go_roundg k1
                case measure => have := HK1.out; omega
                case rel => exact ⟨(wrap64 (x5_1 + 1)), (by first | rfl | (simp; done) | (simp [*]; done)), H', ⟨by have := HK1.out; omega⟩, by repeat (first | exact Cj.refl _ | apply Cj.step)⟩
            · rw [if_neg c6] at H
              exact absurd H (by simp)
          · rw [if_neg c5] at H
            exact absurd H (by simp)
        · rw [if_neg c4] at H
          have c4b0 : decide (x5_1 < (l0.length : Int)) = false := decide_eq_false c4
          clear c4
          obtain rfl := Option.some.inj H
          go_wp2
          repeat (go_quiet (fail); try go_wp2)
          go_ret
          exact ⟨by first | rfl | (simp; done) | (simp [*]; done), by repeat (first | exact Cj.refl _ | apply Cj.step)⟩
  · rw [if_neg c3] at H
    have c3b0 : ((l0.length : Int) == (l1.length : Int)) = false := beq_eq_false_iff_ne.mpr c3
    have c3b1 : ((l0.length : Int) != (l1.length : Int)) = true := bne_iff_ne.mpr c3
    have c3b2 : (l0.length == l1.length) = false := by first | simpa using c3 | (simp at c3 ⊢; omega)
    obtain rfl := Option.some.inj H
    go_enter Tryd.func18, Tryd.ntmps18
    go_wp2
    repeat (go_quiet (fail); try go_wp2)
    go_ret
    exact ⟨by first | rfl | (simp; done) | (simp [*]; done), by repeat (first | exact Cj.refl _ | apply Cj.step)⟩
end Go.Proofs.YtpalafegcndccaaDoor.X

namespace Go.Proofs.YtpalafegcndccaaDoor.X
open Go.RowKit Go.Proofs.YtpalafegcndccaaDoorW.PrintWords Go.Proofs.YtpalafegcndccaaDoorW.PrintLast Go.Proofs.YtpalafegcndccaaDoorW.PrintMore
attribute [local go_sem] Ej Eg Eu Ew D9 D8 Ei Eh
open Go.Proofs.YtpalafegcndccaaDoorG
def Dz.f : Nat → Int → Option (ByteArray)
  | 0, _ => none
  | k + 1, a0 => if a0 < 0 then ((Dz.f k (wrap64 (-a0))).bind fun t107 => (if 1 + t107.size ≤ 9223372036854775807 then (some ((⟨#[45]⟩ : ByteArray) ++ t107)) else (none))) else (if a0 < 10 then (if 0 ≤ a0 then (if a0 ≤ (wrap64 (a0 + 1)) then (if (wrap64 (a0 + 1)) ≤ 10 then (some ((⟨#[48, 49, 50, 51, 52, 53, 54, 55, 56, 57]⟩ : ByteArray).extract (a0 : Int).toNat ((wrap64 (a0 + 1)) : Int).toNat)) else (none)) else (none)) else (none)) else ((Dz.f k (wrap64 (Int.tdiv a0 10))).bind fun t108 => (if 0 ≤ (Int.tmod a0 10) then (if (Int.tmod a0 10) ≤ (wrap64 ((Int.tmod a0 10) + 1)) then (if (wrap64 ((Int.tmod a0 10) + 1)) ≤ 10 then (if t108.size + ((⟨#[48, 49, 50, 51, 52, 53, 54, 55, 56, 57]⟩ : ByteArray).extract ((Int.tmod a0 10) : Int).toNat ((wrap64 ((Int.tmod a0 10) + 1)) : Int).toNat).size ≤ 9223372036854775807 then (some (t108 ++ ((⟨#[48, 49, 50, 51, 52, 53, 54, 55, 56, 57]⟩ : ByteArray).extract ((Int.tmod a0 10) : Int).toNat ((wrap64 ((Int.tmod a0 10) + 1)) : Int).toNat))) else (none)) else (none)) else (none)) else (none))))
theorem Dz.Et : ∀ k, (∀ y0, LeO (Dz.f k y0) (Dz.f (k + 1) y0))
  | 0 => fun _ r h => by simp [Dz.f] at h
  | k + 1 => by
    have ih0 := Dz.Et k
    · intro y0
      unfold Dz.f
      repeat' first
      | (with_reducible exact ih0 _)
      | (with_reducible exact LeO.refl _)
      | (with_reducible exact LeO.none _)
      | (with_reducible refine LeO.ite ?_ ?_)
      | (with_reducible refine LeO.bind ?_ (fun _ => ?_))
      | exact ih0 _
      | exact LeO.none _
      | refine LeO.ite ?_ ?_
      | refine LeO.bind ?_ (fun _ => ?_)
theorem Dz.mono : ∀ a0 k, LeO (Dz.f k a0) (Dz.f (k + 1) a0) := by
  intro a0 k
  have ih0 := Dz.Et k
  exact ih0 a0
def Dz.T5 : Bool × List (List Nat × List Nat) := (true, [([], []), ([0], [0]), ([1], [1]), ([], []), ([3], [3]), ([], []), ([5], [5]), ([6], [6]), ([4, 7], [4, 7]), ([2, 8], [2, 8]), ([9, 2, 0, 1, 2, 3, 4, 5, 6, 7, 8, 9], [9])])
def Dz.B5 : List Nat := [0, 1, 3, 0, 8, 0, 32, 96, 248, 511, 1023]
theorem Dz.tab5 : rtab .any (opsOf Tryd.f49 5) = Dz.T5 := by kernel_rfl
theorem Dz.bits5 : Io Dz.T5.2 Dz.B5 = true := by kernel_rfl
set_option maxHeartbeats 8000000 in
set_option maxRecDepth 100000 in
theorem Dz.calls (k : Nat) : ∀ (a0 : Int) (r : ByteArray) (w : World) (h : Dz.f k a0 = some r),
    Calls Tryd.prog 49 #[.int .i64 a0] w fun e w' => e = .returned (.string r) ∧ Below w.heap.size w w' := by
  induction k using Nat.strongRecOn with
  | _ k ih =>
  intro a0 r w h
  cases k with
  | zero => exact absurd h (by simp [Dz.f])
  | succ k =>
  simp only [Dz.f] at h
  have HB := Aa.mk (Below.refl w.heap.size w)
  have H : (if a0 < 0 then ((Dz.f k (wrap64 (-a0))).bind fun t107 => (if 1 + t107.size ≤ 9223372036854775807 then (some ((⟨#[45]⟩ : ByteArray) ++ t107)) else (none))) else (if a0 < 10 then (if 0 ≤ a0 then (if a0 ≤ (wrap64 (a0 + 1)) then (if (wrap64 (a0 + 1)) ≤ 10 then (some ((⟨#[48, 49, 50, 51, 52, 53, 54, 55, 56, 57]⟩ : ByteArray).extract (a0 : Int).toNat ((wrap64 (a0 + 1)) : Int).toNat)) else (none)) else (none)) else (none)) else ((Dz.f k (wrap64 (Int.tdiv a0 10))).bind fun t108 => (if 0 ≤ (Int.tmod a0 10) then (if (Int.tmod a0 10) ≤ (wrap64 ((Int.tmod a0 10) + 1)) then (if (wrap64 ((Int.tmod a0 10) + 1)) ≤ 10 then (if t108.size + ((⟨#[48, 49, 50, 51, 52, 53, 54, 55, 56, 57]⟩ : ByteArray).extract ((Int.tmod a0 10) : Int).toNat ((wrap64 ((Int.tmod a0 10) + 1)) : Int).toNat).size ≤ 9223372036854775807 then (some (t108 ++ ((⟨#[48, 49, 50, 51, 52, 53, 54, 55, 56, 57]⟩ : ByteArray).extract ((Int.tmod a0 10) : Int).toNat ((wrap64 ((Int.tmod a0 10) + 1)) : Int).toNat))) else (none)) else (none)) else (none)) else (none))))) = some r := h
  clear h
  by_cases c2 : a0 < 0
  · rw [if_pos c2] at H
    have c2b0 : decide (a0 < 0) = true := decide_eq_true c2
    clear c2
    replace H := Option.bind_eq_some_iff.mp H
    obtain ⟨t107, A30, H⟩ := H
    replace H : (if 1 + t107.size ≤ 9223372036854775807 then (some ((⟨#[45]⟩ : ByteArray) ++ t107)) else (none)) = some r := H
    have A3 := Aa.mk A30
    clear A30
    by_cases c4 : 1 + t107.size ≤ 9223372036854775807
    · rw [if_pos c4] at H
      have c4b0 := eq_true c4
      have c4b1 : decide (1 + t107.size ≤ 9223372036854775807) = true := decide_eq_true c4
      try have c4b2 : (9223372036854775807 < 1 + t107.size) = False := eq_false (Nat.not_lt.2 c4)
      obtain rfl := Option.some.inj H
      go_enter Tryd.func49, Tryd.ntmps49
      go_wp2_with (first | ((with_reducible refine Bv (f := 49) rfl ?_); refine D5 (some 7) rfl rfl Tryd.func49 (by kernel_rfl) rfl #[.int .i64 (wrap64 (-a0))] rfl (by (try simp only [List.map_toArray, List.map_cons, List.map_nil]); first | done | rfl | (simp only [List.length_drop, List.length_take]; rfl)) ?_; (with_reducible refine (ih k (by omega) (wrap64 (-a0)) t107 _ A3.out).mono ?_); rintro e w5 ⟨rfl, hb⟩; refine ⟨_, rfl, ?_⟩; have n0_ := Aa.mk (Ap (by repeat (first | (with_reducible first | exact HB.out | apply Ae | apply Ac | apply Ad) | exact HB.out)) hb); clear HB; have HB := n0_; clear n0_; (try clear hb); (try clear hb2); (try clear hk); (try clear hi)))
      go_ret
      exact ⟨by first | rfl | (simp [Be, Bf] <;> rfl) | (simp [*, Be, Bf] <;> rfl), by repeat (first | (with_reducible first | exact HB.out | apply Ae | apply Ac | apply Ad) | exact HB.out)⟩
    · rw [if_neg c4] at H
      exact absurd H (by simp)
  · rw [if_neg c2] at H
    have c2b0 : decide (a0 < 0) = false := decide_eq_false c2
    clear c2
    by_cases c6 : a0 < 10
    · rw [if_pos c6] at H
      have c6b0 : decide (a0 < 10) = true := decide_eq_true c6
      clear c6
      by_cases c7 : 0 ≤ a0
      · rw [if_pos c7] at H
        have c7b0 := eq_true c7
        have c7b1 : decide (0 ≤ a0) = true := decide_eq_true c7
        clear c7
        by_cases c8 : a0 ≤ (wrap64 (a0 + 1))
        · rw [if_pos c8] at H
          have c8b0 := eq_true c8
          have c8b1 : decide (a0 ≤ (wrap64 (a0 + 1))) = true := decide_eq_true c8
          by_cases c9 : (wrap64 (a0 + 1)) ≤ 10
          · rw [if_pos c9] at H
            have c9b0 := eq_true c9
            have c9b1 : decide ((wrap64 (a0 + 1)) ≤ 10) = true := decide_eq_true c9
            obtain rfl := Option.some.inj H
            go_enter Tryd.func49, Tryd.ntmps49
            go_wp2
            go_ret
            exact ⟨by first | rfl | (simp [Be, Bf] <;> rfl) | (simp [*, Be, Bf] <;> rfl), by repeat (first | (with_reducible first | exact HB.out | apply Ae | apply Ac | apply Ad) | exact HB.out)⟩
          · rw [if_neg c9] at H
            exact absurd H (by simp)
        · rw [if_neg c8] at H
          exact absurd H (by simp)
      · rw [if_neg c7] at H
        exact absurd H (by simp)
    · rw [if_neg c6] at H
      have c6b0 : decide (a0 < 10) = false := decide_eq_false c6
      clear c6
      replace H := Option.bind_eq_some_iff.mp H
      obtain ⟨t108, A100, H⟩ := H
      replace H : (if 0 ≤ (Int.tmod a0 10) then (if (Int.tmod a0 10) ≤ (wrap64 ((Int.tmod a0 10) + 1)) then (if (wrap64 ((Int.tmod a0 10) + 1)) ≤ 10 then (if t108.size + ((⟨#[48, 49, 50, 51, 52, 53, 54, 55, 56, 57]⟩ : ByteArray).extract ((Int.tmod a0 10) : Int).toNat ((wrap64 ((Int.tmod a0 10) + 1)) : Int).toNat).size ≤ 9223372036854775807 then (some (t108 ++ ((⟨#[48, 49, 50, 51, 52, 53, 54, 55, 56, 57]⟩ : ByteArray).extract ((Int.tmod a0 10) : Int).toNat ((wrap64 ((Int.tmod a0 10) + 1)) : Int).toNat))) else (none)) else (none)) else (none)) else (none)) = some r := H
      have A10 := Aa.mk A100
      clear A100
      obtain ⟨ji11, hji11⟩ : ∃ j_ : Int, (Int.tmod a0 10) = j_ := ⟨_, rfl⟩
      replace H : (if 0 ≤ (ji11) then (if (ji11) ≤ (wrap64 ((ji11) + 1)) then (if (wrap64 ((ji11) + 1)) ≤ 10 then (if t108.size + ((⟨#[48, 49, 50, 51, 52, 53, 54, 55, 56, 57]⟩ : ByteArray).extract ((ji11) : Int).toNat ((wrap64 ((ji11) + 1)) : Int).toNat).size ≤ 9223372036854775807 then (some (t108 ++ ((⟨#[48, 49, 50, 51, 52, 53, 54, 55, 56, 57]⟩ : ByteArray).extract ((ji11) : Int).toNat ((wrap64 ((ji11) + 1)) : Int).toNat))) else (none)) else (none)) else (none)) else (none)) = some r := by first | (rw [hji11] at H; exact H) | (simp only [hji11] at H ⊢; exact H)
      (try rw [hji11] at A10)
      by_cases c12 : 0 ≤ (ji11)
      · rw [if_pos c12] at H
        have c12b0 := eq_true c12
        have c12b1 : decide (0 ≤ (ji11)) = true := decide_eq_true c12
        clear c12
        by_cases c13 : (ji11) ≤ (wrap64 ((ji11) + 1))
        · rw [if_pos c13] at H
          have c13b0 := eq_true c13
          have c13b1 : decide ((ji11) ≤ (wrap64 ((ji11) + 1))) = true := decide_eq_true c13
          by_cases c14 : (wrap64 ((ji11) + 1)) ≤ 10
          · rw [if_pos c14] at H
            have c14b0 := eq_true c14
            have c14b1 : decide ((wrap64 ((ji11) + 1)) ≤ 10) = true := decide_eq_true c14
            by_cases c15 : t108.size + ((⟨#[48, 49, 50, 51, 52, 53, 54, 55, 56, 57]⟩ : ByteArray).extract ((ji11) : Int).toNat ((wrap64 ((ji11) + 1)) : Int).toNat).size ≤ 9223372036854775807
            · rw [if_pos c15] at H
              have c15b0 := eq_true c15
              have c15b1 : decide (t108.size + ((⟨#[48, 49, 50, 51, 52, 53, 54, 55, 56, 57]⟩ : ByteArray).extract ((ji11) : Int).toNat ((wrap64 ((ji11) + 1)) : Int).toNat).size ≤ 9223372036854775807) = true := decide_eq_true c15
              try have c15b2 : (9223372036854775807 < t108.size + ((⟨#[48, 49, 50, 51, 52, 53, 54, 55, 56, 57]⟩ : ByteArray).extract ((ji11) : Int).toNat ((wrap64 ((ji11) + 1)) : Int).toNat).size) = False := eq_false (Nat.not_lt.2 c15)
              have c15z0 : (⟨#[48, 49, 50, 51, 52, 53, 54, 55, 56, 57]⟩ : ByteArray).size = 10 := rfl
              have c15b3 := c15
              try simp only [ByteArray.size_extract, ByteArray.size_append, c15z0] at c15b3
              have c15b4 := eq_false (Nat.not_lt.2 c15b3)
              obtain rfl := Option.some.inj H
              go_enter Tryd.func49, Tryd.ntmps49
              try go_wp2
              have n0_ := Aa.mk (Ad HB.out)
              clear HB
              have HB := n0_
              clear n0_
              refine start_ (n := 11) (S := fun w' => True) (ds := []) #[false, false, false, false, false, false, false, false, false, false, false] (by kernel_rfl) rfl rfl trivial (fun hHeld => ?_); refine with_tabW Dz.tab5 Dz.bits5 (fun HT_ HW_ => ?_)
              generalize w.drew = w16 at HB hHeld ⊢
              refine Fq (i := 0) (N := some 15) (v := ?_) (a' := ?_) #[true, false, false, false, false, false, false, false, false, false, false] rfl rfl (Gu HT_.out (by kernel_rfl)) (fun _ _ _ h => h) (Or.inl ⟨by rfl, ?_⟩) ?_ ?_
              rotate_left
              · intro w'
                go_simp
                first | with_reducible rfl | (rw [if_neg (by omega)]; try with_reducible rfl)
              rotate_left
              · simp only [Act.put, List.setIfInBounds_toArray, List.set_cons_zero, List.set_cons_succ, Dh, Dp]
                rfl
              refine Fq (i := 1) (N := some 16) (v := ?_) (a' := ?_) #[true, true, false, false, false, false, false, false, false, false, false] rfl rfl (Gu HT_.out (by kernel_rfl)) (fun _ _ _ h => h) (Or.inl ⟨by rfl, ?_⟩) ?_ ?_
              rotate_left
              · intro w'
                go_simp
                first | with_reducible rfl | (rw [if_neg (by omega)]; try with_reducible rfl)
              rotate_left
              · simp only [Act.put, List.setIfInBounds_toArray, List.set_cons_zero, List.set_cons_succ, Dh, Dp]
                rfl
              refine Fq (i := 3) (N := some 18) (v := ?_) (a' := ?_) #[true, true, false, true, false, false, false, false, false, false, false] rfl rfl (Gu HT_.out (by kernel_rfl)) (fun _ _ _ h => h) (Or.inl ⟨by rfl, ?_⟩) ?_ ?_
              rotate_left
              · intro w'
                go_simp
                first | with_reducible rfl | (rw [if_neg (by omega)]; try with_reducible rfl)
              rotate_left
              · simp only [Act.put, List.setIfInBounds_toArray, List.set_cons_zero, List.set_cons_succ, Dh, Dp]
                rfl
              refine Fq (i := 4) (N := some 19) (v := ?_) (a' := ?_) #[true, true, false, true, true, false, false, false, false, false, false] rfl rfl (Gu HT_.out (by kernel_rfl)) (fun _ _ _ h => h) (Or.inl ⟨by rfl, ?_⟩) ?_ ?_
              rotate_left
              · intro w'
                go_simp
                first | with_reducible rfl | (rw [if_neg (by omega)]; try with_reducible rfl)
              rotate_left
              · simp only [Act.put, List.setIfInBounds_toArray, List.set_cons_zero, List.set_cons_succ, Dh, Dp]
                rfl
              refine Fq (i := 5) (N := some 20) (v := ?_) (a' := ?_) #[true, true, false, true, true, true, false, false, false, false, false] rfl rfl (Gu HT_.out (by kernel_rfl)) (fun _ _ _ h => h) (Or.inl ⟨by rfl, ?_⟩) ?_ ?_
              rotate_left
              · intro w'
                go_simp
                first | with_reducible rfl | (rw [if_neg (by omega)]; try with_reducible rfl)
              rotate_left
              · simp only [Act.put, List.setIfInBounds_toArray, List.set_cons_zero, List.set_cons_succ, Dh, Dp]
                rfl
              refine Fq (i := 6) (N := some 21) (v := ?_) (a' := ?_) #[true, true, false, true, true, true, true, false, false, false, false] rfl rfl (Gu HT_.out (by kernel_rfl)) (fun _ _ _ h => h) (Or.inl ⟨by rfl, ?_⟩) ?_ ?_
              rotate_left
              · intro w'
                go_simp
                first | with_reducible rfl | (rw [if_neg (by omega)]; try with_reducible rfl)
              rotate_left
              · simp only [Act.put, List.setIfInBounds_toArray, List.set_cons_zero, List.set_cons_succ, Dh, Dp]
                rfl
              refine Fq (i := 7) (N := some 22) (v := ?_) (a' := ?_) #[true, true, false, true, true, true, true, true, false, false, false] rfl rfl (Gu HT_.out (by kernel_rfl)) (fun _ _ _ h => h) (Or.inl ⟨by rfl, ?_⟩) ?_ ?_
              rotate_left
              · intro w'
                go_simp
                first | with_reducible rfl | (rw [if_neg (by omega)]; try with_reducible rfl)
              rotate_left
              · simp only [Act.put, List.setIfInBounds_toArray, List.set_cons_zero, List.set_cons_succ, Dh, Dp]
                rfl
              refine Fq (i := 8) (N := some 23) (v := ?_) (a' := ?_) #[true, true, false, true, true, true, true, true, true, false, false] rfl rfl (Gu HT_.out (by kernel_rfl)) (fun _ _ _ h => h) (Or.inl ⟨by rfl, ?_⟩) ?_ ?_
              rotate_left
              · intro w'
                go_simp
                first | with_reducible rfl | (rw [if_neg (by omega)]; try with_reducible rfl)
              rotate_left
              · simp only [Act.put, List.setIfInBounds_toArray, List.set_cons_zero, List.set_cons_succ, Dh, Dp]
                rfl
              refine one_ (i := 2) (N := some 17) #[true, true, true, true, true, true, true, true, true, false, false] rfl rfl (one_of HT_.out (by kernel_rfl)) (by decide) (fun K hK => ?_)
              refine goes_ Tryd.func49 (by kernel_rfl) rfl #[.int .i64 (wrap64 (Int.tdiv a0 10))] (by rfl) rfl rfl (by (try simp only [List.map_toArray, List.map_cons, List.map_nil]); first | done | rfl | (simp only [List.length_drop, List.length_take]; rfl)) ?_
              with_reducible refine (ih k (by omega) (wrap64 (Int.tdiv a0 10)) t108 _ A10.out).mono ?_
              rintro e w17 ⟨rfl, hb⟩
              refine ⟨_, rfl, ?_⟩
              have n0_ := Aa.mk (Ap (by repeat (first | (with_reducible first | exact HB.out | apply Ae | apply Ac | apply Ad) | exact HB.out)) hb)
              clear HB
              have HB := n0_
              clear n0_
              (try clear hb)
              (try clear hb2)
              (try clear hk)
              (try clear hi)
              refine hK.out _ _ trivial (fun hHeld => ?_)
              clear hK K
              refine E5 (a' := ?_) ?_ ?_
              rotate_left
              · show Act.put _ (some 17) _ = _
                simp only [Act.put, List.setIfInBounds_toArray, List.set_cons_zero, List.set_cons_succ, Dh, Dp]
                rfl
              refine Fq (i := 9) (N := some 24) (v := ?_) (a' := ?_) #[true, true, true, true, true, true, true, true, true, true, false] rfl rfl (Gu HT_.out (by kernel_rfl)) (fun _ _ _ h => h) (Or.inl ⟨by rfl, ?_⟩) ?_ ?_
              rotate_left
              · intro w'
                go_simp
                first | with_reducible rfl | (rw [if_neg (by omega)]; try with_reducible rfl)
              rotate_left
              · simp only [Act.put, List.setIfInBounds_toArray, List.set_cons_zero, List.set_cons_succ, Dh, Dp]
                rfl
              refine Fq (i := 10) (N := some 2) (v := ?_) (a' := ?_) #[true, true, true, true, true, true, true, true, true, true, true] rfl rfl (Gu HT_.out (by kernel_rfl)) (fun _ _ _ h => h) (Or.inl ⟨by rfl, ?_⟩) ?_ ?_
              rotate_left
              · intro w'
                go_simp
                first | with_reducible rfl | (rw [if_neg (by omega)]; try with_reducible rfl)
              rotate_left
              · simp only [Act.put, List.setIfInBounds_toArray, List.set_cons_zero, List.set_cons_succ, Dh, Dp]
                rfl
              refine done_ (done_of HT_.out (by kernel_rfl)) ?_
              try go_wp2
              go_ret
              exact ⟨by first | rfl | (simp [Be, Bf] <;> rfl) | (simp only [← hji11]; first | rfl | (simp [Be, Bf] <;> rfl)) | (simp [*, Be, Bf] <;> rfl), by repeat (first | (with_reducible first | exact HB.out | apply Ae | apply Ac | apply Ad) | exact HB.out)⟩
            · rw [if_neg c15] at H
              exact absurd H (by simp)
          · rw [if_neg c14] at H
            exact absurd H (by simp)
        · rw [if_neg c13] at H
          exact absurd H (by simp)
      · rw [if_neg c12] at H
        exact absurd H (by simp)
end Go.Proofs.YtpalafegcndccaaDoor.X

namespace Go.Proofs.YtpalafegcndccaaDoor.X
open Go.RowKit Go.Proofs.YtpalafegcndccaaDoorW.PrintWords Go.Proofs.YtpalafegcndccaaDoorW.PrintLast Go.Proofs.YtpalafegcndccaaDoorW.PrintMore
attribute [local go_sem] Ej Eg Eu Ew D9 D8 Ei Eh
open Go.Proofs.YtpalafegcndccaaDoorG
def G7.f  : Option (List ByteArray) := some (([(⟨#[]⟩ : ByteArray), (⟨#[108, 97, 110, 100]⟩ : ByteArray), (⟨#[103, 97, 116, 101, 32, 105, 110]⟩ : ByteArray), (⟨#[115, 116, 97, 99, 107]⟩ : ByteArray), (⟨#[112, 105, 99, 107]⟩ : ByteArray), (⟨#[108, 111, 97, 100]⟩ : ByteArray), (⟨#[103, 97, 116, 101, 32, 111, 117, 116]⟩ : ByteArray)] : List ByteArray))
set_option maxHeartbeats 8000000 in
set_option maxRecDepth 100000 in
theorem G7.calls  (r : List ByteArray) (w : World) (h : G7.f  = some r) :
    Calls Tryd.prog 50 #[] w fun e w' => ∃ v0_ : Value, e = .returned (v0_) ∧ Kd.R Kd.string 9 w' w.heap.size (fun _ => True) v0_ r ∧ Below w.heap.size w w' := by
  have HB := Aa.mk (Below.refl w.heap.size w)
  have H : (some (([(⟨#[]⟩ : ByteArray), (⟨#[108, 97, 110, 100]⟩ : ByteArray), (⟨#[103, 97, 116, 101, 32, 105, 110]⟩ : ByteArray), (⟨#[115, 116, 97, 99, 107]⟩ : ByteArray), (⟨#[112, 105, 99, 107]⟩ : ByteArray), (⟨#[108, 111, 97, 100]⟩ : ByteArray), (⟨#[103, 97, 116, 101, 32, 111, 117, 116]⟩ : ByteArray)] : List ByteArray))) = some r := h
  clear h
  obtain ⟨y109, hy109⟩ : ∃ y_ : List ByteArray, y_ = (([(⟨#[]⟩ : ByteArray), (⟨#[108, 97, 110, 100]⟩ : ByteArray), (⟨#[103, 97, 116, 101, 32, 105, 110]⟩ : ByteArray), (⟨#[115, 116, 97, 99, 107]⟩ : ByteArray), (⟨#[112, 105, 99, 107]⟩ : ByteArray), (⟨#[108, 111, 97, 100]⟩ : ByteArray), (⟨#[103, 97, 116, 101, 32, 111, 117, 116]⟩ : ByteArray)] : List ByteArray)) := ⟨_, rfl⟩
  replace H : (some y109) = some r := by first | (rw [hy109]; with_reducible exact H) | (have H2_ := (Option.bind_some _ _).symm.trans H; rw [hy109]; with_reducible exact H2_) | (have H2_ := (Option.bind_some _ _).symm.trans H; with_reducible exact H2_) | with_reducible exact H | (rw [hy109]; exact H) | exact H
  have Ny109 := Aa.mk hy109
  clear hy109
  obtain rfl := Option.some.inj H
  go_enter Tryd.func50, Tryd.ntmps50
  go_wp2_with (first | ((with_reducible refine D7 (N := 1) rfl ?_); refine Kd.Ii Kd.string _ 9 ?hg (N := 1) ?hd (xs := ([(⟨#[]⟩ : ByteArray), (⟨#[108, 97, 110, 100]⟩ : ByteArray), (⟨#[103, 97, 116, 101, 32, 105, 110]⟩ : ByteArray), (⟨#[115, 116, 97, 99, 107]⟩ : ByteArray), (⟨#[112, 105, 99, 107]⟩ : ByteArray), (⟨#[108, 111, 97, 100]⟩ : ByteArray), (⟨#[103, 97, 116, 101, 32, 111, 117, 116]⟩ : ByteArray)] : List ByteArray)) (inner := [.string (⟨#[]⟩ : ByteArray), .string (⟨#[108, 97, 110, 100]⟩ : ByteArray), .string (⟨#[103, 97, 116, 101, 32, 105, 110]⟩ : ByteArray), .string (⟨#[115, 116, 97, 99, 107]⟩ : ByteArray), .string (⟨#[112, 105, 99, 107]⟩ : ByteArray), .string (⟨#[108, 111, 97, 100]⟩ : ByteArray), .string (⟨#[103, 97, 116, 101, 32, 111, 117, 116]⟩ : ByteArray)]) (ok := fun _ => True) (okp := fun _ => True) ?hr ?hp (fun _ hk => hk) trivial (Below.refl _ _) (Nat.le_refl _) (by simp) ?_; (case hd => rfl); (case hg => rfl); (case hr => first | (go_simp; done) | (go_simp; rfl)); (case hp => exact (Dw.one (show Kd.M Kd.string _ _ _ (⟨#[]⟩ : ByteArray) [.string (⟨#[]⟩ : ByteArray)] from rfl) (Dw.one (show Kd.M Kd.string _ _ _ (⟨#[108, 97, 110, 100]⟩ : ByteArray) [.string (⟨#[108, 97, 110, 100]⟩ : ByteArray)] from rfl) (Dw.one (show Kd.M Kd.string _ _ _ (⟨#[103, 97, 116, 101, 32, 105, 110]⟩ : ByteArray) [.string (⟨#[103, 97, 116, 101, 32, 105, 110]⟩ : ByteArray)] from rfl) (Dw.one (show Kd.M Kd.string _ _ _ (⟨#[115, 116, 97, 99, 107]⟩ : ByteArray) [.string (⟨#[115, 116, 97, 99, 107]⟩ : ByteArray)] from rfl) (Dw.one (show Kd.M Kd.string _ _ _ (⟨#[112, 105, 99, 107]⟩ : ByteArray) [.string (⟨#[112, 105, 99, 107]⟩ : ByteArray)] from rfl) (Dw.one (show Kd.M Kd.string _ _ _ (⟨#[108, 111, 97, 100]⟩ : ByteArray) [.string (⟨#[108, 111, 97, 100]⟩ : ByteArray)] from rfl) (Dw.one (show Kd.M Kd.string _ _ _ (⟨#[103, 97, 116, 101, 32, 111, 117, 116]⟩ : ByteArray) [.string (⟨#[103, 97, 116, 101, 32, 111, 117, 116]⟩ : ByteArray)] from rfl) (Dw.none _ _))))))))); intro v110 w1 ho2 hb hg_ hnew_; clear hg_ hnew_; (first | rw [← Ny109.out] at ho2 | (simp only [Int.reduceToNat] at ho2; rw [← Ny109.out] at ho2)); have n0_ := Aa.mk (Kd.Du ho2 (Aq (by repeat (first | (with_reducible first | exact HB.out | apply Ae | apply Ac | apply Ad) | exact HB.out)))); have n1_ := Aa.mk (Ap (by repeat (first | (with_reducible first | exact HB.out | apply Ae | apply Ac | apply Ad) | exact HB.out)) hb); clear HB; have HO111 := n0_; have HB := n1_; clear n0_ n1_; clear hb ho2))
  go_ret
  exact ⟨_, by first | rfl | (simp [Be, Bf] <;> rfl) | (simp [*, Be, Bf] <;> rfl), by (with_reducible repeat (first | apply Kd.Ah | apply Kd.Ai | apply Kd.Ak)); exact HO111.out, by repeat (first | (with_reducible first | exact HB.out | apply Ae | apply Ac | apply Ad) | exact HB.out)⟩
end Go.Proofs.YtpalafegcndccaaDoor.X

namespace Go.Proofs.YtpalafegcndccaaDoor.X
open Go.RowKit Go.Proofs.YtpalafegcndccaaDoorW.PrintWords Go.Proofs.YtpalafegcndccaaDoorW.PrintLast Go.Proofs.YtpalafegcndccaaDoorW.PrintMore
attribute [local go_sem] Ej Eg Eu Ew D9 D8 Ei Eh
open Go.Proofs.YtpalafegcndccaaDoorG
def Dn.l0 : Nat → List (S40) → ByteArray → Int → Option (ByteArray)
  | 0, _, _, _ => none
  | k + 1, x0, x3, x4 => if x4 < (x0.length : Int) then (if 0 ≤ x4 then ((Dz.f k ((Bc x0 x4).f0)).bind fun t113 => (if x3.size + t113.size ≤ 9223372036854775807 then (if (x3 ++ t113).size + 1 ≤ 9223372036854775807 then ((G7.f).bind fun t114 => (if 0 ≤ ((Bc x0 x4).f1) then (if ((Bc x0 x4).f1) < (t114.length : Int) then (if ((x3 ++ t113) ++ (⟨#[32]⟩ : ByteArray)).size + (Fh ByteArray.empty t114 ((Bc x0 x4).f1)).size ≤ 9223372036854775807 then (if (((x3 ++ t113) ++ (⟨#[32]⟩ : ByteArray)) ++ (Fh ByteArray.empty t114 ((Bc x0 x4).f1))).size + 1 ≤ 9223372036854775807 then (Dn.l0 k x0 ((((x3 ++ t113) ++ (⟨#[32]⟩ : ByteArray)) ++ (Fh ByteArray.empty t114 ((Bc x0 x4).f1))) ++ (⟨#[10]⟩ : ByteArray)) (wrap64 (x4 + 1))) else (none)) else (none)) else (none)) else (none))) else (none)) else (none))) else (none)) else (some x3)
def Dn.f (k : Nat) (l0 : List (S40)) : Option (ByteArray) := Dn.l0 k l0 (⟨#[]⟩ : ByteArray) 0
theorem Dn.Et : ∀ k, (∀ y0 y1 y2, LeO (Dn.l0 k y0 y1 y2) (Dn.l0 (k + 1) y0 y1 y2))
  | 0 => fun _ _ _ r h => by simp [Dn.l0] at h
  | k + 1 => by
    have ih0 := Dn.Et k
    · intro y0 y1 y2
      unfold Dn.l0
      repeat' first
      | (with_reducible exact ih0 _ _ _)
      | (with_reducible exact Dz.mono _ _)
      | (with_reducible exact LeO.refl _)
      | (with_reducible exact LeO.none _)
      | (with_reducible refine LeO.ite ?_ ?_)
      | (with_reducible refine LeO.bind ?_ (fun _ => ?_))
      | exact ih0 _ _ _
      | exact Dz.mono _ _
      | exact LeO.none _
      | refine LeO.ite ?_ ?_
      | refine LeO.bind ?_ (fun _ => ?_)
theorem Dn.mono : ∀ a0 k, LeO (Dn.f k a0) (Dn.f (k + 1) a0) := by
  intro a0 k
  have ih0 := Dn.Et k
  unfold Dn.f
  repeat' first
      | (with_reducible exact ih0 _ _ _)
      | (with_reducible exact Dz.mono _ _)
      | (with_reducible exact LeO.refl _)
      | (with_reducible exact LeO.none _)
      | (with_reducible refine LeO.ite ?_ ?_)
      | (with_reducible refine LeO.bind ?_ (fun _ => ?_))
      | exact ih0 _ _ _
      | exact Dz.mono _ _
      | exact LeO.none _
      | refine LeO.ite ?_ ?_
      | refine LeO.bind ?_ (fun _ => ?_)
def Dn.T5 : Bool × List (List Nat × List Nat) := (true, [([], []), ([], []), ([], []), ([1, 2], [1, 2]), ([3], [3]), ([4], [4]), ([5], [5]), ([0, 6], [0, 6]), ([7], [7]), ([6], []), ([], []), ([], []), ([10, 11], [10, 11]), ([12], [12]), ([13], [13]), ([9, 14], [9, 14]), ([15], [15]), ([8, 16], [8, 16]), ([17], [17]), ([18, 9, 0, 1, 2, 3, 4, 5, 6, 7, 8, 9, 10, 11, 12, 13, 14, 15, 16, 17, 18], [0, 18])])
def Dn.B5 : List Nat := [0, 0, 0, 6, 14, 30, 62, 127, 255, 126, 0, 0, 3072, 7168, 15360, 32382, 65150, 131071, 262143, 524287]
theorem Dn.tab5 : rtab .any (opsOf Tryd.f26 5) = Dn.T5 := by kernel_rfl
theorem Dn.bits5 : Io Dn.T5.2 Dn.B5 = true := by kernel_rfl
set_option maxHeartbeats 8000000 in
set_option maxRecDepth 100000 in
theorem Dn.calls (k : Nat) (A0 : Option Addr) (c0 : Nat) (l0 : List (S40)) (r : ByteArray) (w : World) (hr0 : Kd.C k40 w A0 l0.length l0) (hc0 : l0.length ≤ c0) (h : Dn.f k l0 = some r) :
    Calls Tryd.prog 26 #[.slice A0 l0.length c0] w fun e w' => e = .returned (.string r) ∧ Below w.heap.size w w' := by
  have HR0 := Aa.mk hr0
  have HC0 := Aa.mk hc0
  clear hr0 hc0
  have HB := Aa.mk (Below.refl w.heap.size w)
  have H : (Dn.l0 k l0 (⟨#[]⟩ : ByteArray) 0) = some r := h
  clear h
  have H' := Aa.mk H
  clear H
  go_enter Tryd.func26, Tryd.ntmps26
  go_wp2
  go_loopg [3, 4] k (fun kq v3 v4 w' => ∃ (x3_1 : ByteArray) (x4_1 : Int), v3 = .string x3_1 ∧ v4 = .int .i64 x4_1 ∧ Aa (Dn.l0 kq l0 x3_1 x4_1 = some r) ∧ Aa (kq ≤ k) ∧ Aa (Below w.heap.size w w'))
  case atStart => exact ⟨((⟨#[]⟩ : ByteArray)), (0), (by first | rfl | (simp; done) | (simp [*]; done)), (by first | rfl | (simp; done) | (simp [*]; done)), H', ⟨Nat.le_refl _⟩, ⟨by repeat (first | (with_reducible first | exact HB.out | apply Ae | apply Ac | apply Ad) | exact HB.out)⟩⟩
  case round =>
    clear H'
    obtain ⟨x3_1, x4_1, rfl, rfl, HA, HK1, HB⟩ := hrel
    cases gk with
    | zero => exact absurd HA.out (by simp [Dn.l0])
    | succ k1 =>
      have H := HA.out
      clear HA
      simp only [Dn.l0] at H
      by_cases c2 : x4_1 < (l0.length : Int)
      · rw [if_pos c2] at H
        have c2b0 : decide (x4_1 < (l0.length : Int)) = true := decide_eq_true c2
        clear c2
        by_cases c3 : 0 ≤ x4_1
        · rw [if_pos c3] at H
          have c3b0 : decide (0 ≤ x4_1) = true := decide_eq_true c3
          clear c3
          replace H := Option.bind_eq_some_iff.mp H
          obtain ⟨t113, A40, H⟩ := H
          replace H : (if x3_1.size + t113.size ≤ 9223372036854775807 then (if (x3_1 ++ t113).size + 1 ≤ 9223372036854775807 then ((G7.f).bind fun t114 => (if 0 ≤ ((Bc l0 x4_1).f1) then (if ((Bc l0 x4_1).f1) < (t114.length : Int) then (if ((x3_1 ++ t113) ++ (⟨#[32]⟩ : ByteArray)).size + (Fh ByteArray.empty t114 ((Bc l0 x4_1).f1)).size ≤ 9223372036854775807 then (if (((x3_1 ++ t113) ++ (⟨#[32]⟩ : ByteArray)) ++ (Fh ByteArray.empty t114 ((Bc l0 x4_1).f1))).size + 1 ≤ 9223372036854775807 then (Dn.l0 k1 l0 ((((x3_1 ++ t113) ++ (⟨#[32]⟩ : ByteArray)) ++ (Fh ByteArray.empty t114 ((Bc l0 x4_1).f1))) ++ (⟨#[10]⟩ : ByteArray)) (wrap64 (x4_1 + 1))) else (none)) else (none)) else (none)) else (none))) else (none)) else (none)) = some r := H
          have A4 := Aa.mk A40
          clear A40
          by_cases c5 : x3_1.size + t113.size ≤ 9223372036854775807
          · rw [if_pos c5] at H
            have c5b0 := eq_true c5
            have c5b1 : decide (x3_1.size + t113.size ≤ 9223372036854775807) = true := decide_eq_true c5
            try have c5b2 : (9223372036854775807 < x3_1.size + t113.size) = False := eq_false (Nat.not_lt.2 c5)
            by_cases c6 : (x3_1 ++ t113).size + 1 ≤ 9223372036854775807
            · rw [if_pos c6] at H
              have c6b0 := eq_true c6
              have c6b1 : decide ((x3_1 ++ t113).size + 1 ≤ 9223372036854775807) = true := decide_eq_true c6
              try have c6b2 : (9223372036854775807 < (x3_1 ++ t113).size + 1) = False := eq_false (Nat.not_lt.2 c6)
              have c6b3 := c6
              try simp only [ByteArray.size_extract, ByteArray.size_append] at c6b3
              have c6b4 := eq_false (Nat.not_lt.2 c6b3)
              replace H := Option.bind_eq_some_iff.mp H
              obtain ⟨t114, A70, H⟩ := H
              replace H : (if 0 ≤ ((Bc l0 x4_1).f1) then (if ((Bc l0 x4_1).f1) < (t114.length : Int) then (if ((x3_1 ++ t113) ++ (⟨#[32]⟩ : ByteArray)).size + (Fh ByteArray.empty t114 ((Bc l0 x4_1).f1)).size ≤ 9223372036854775807 then (if (((x3_1 ++ t113) ++ (⟨#[32]⟩ : ByteArray)) ++ (Fh ByteArray.empty t114 ((Bc l0 x4_1).f1))).size + 1 ≤ 9223372036854775807 then (Dn.l0 k1 l0 ((((x3_1 ++ t113) ++ (⟨#[32]⟩ : ByteArray)) ++ (Fh ByteArray.empty t114 ((Bc l0 x4_1).f1))) ++ (⟨#[10]⟩ : ByteArray)) (wrap64 (x4_1 + 1))) else (none)) else (none)) else (none)) else (none)) = some r := H
              have A7 := Aa.mk A70
              clear A70
              by_cases c8 : 0 ≤ ((Bc l0 x4_1).f1)
              · rw [if_pos c8] at H
                have c8b0 : decide (0 ≤ ((Bc l0 x4_1).f1)) = true := decide_eq_true c8
                clear c8
                by_cases c9 : ((Bc l0 x4_1).f1) < (t114.length : Int)
                · rw [if_pos c9] at H
                  have c9b0 : decide (((Bc l0 x4_1).f1) < (t114.length : Int)) = true := decide_eq_true c9
                  clear c9
                  by_cases c10 : ((x3_1 ++ t113) ++ (⟨#[32]⟩ : ByteArray)).size + (Fh ByteArray.empty t114 ((Bc l0 x4_1).f1)).size ≤ 9223372036854775807
                  · rw [if_pos c10] at H
                    have c10b0 := eq_true c10
                    have c10b1 : decide (((x3_1 ++ t113) ++ (⟨#[32]⟩ : ByteArray)).size + (Fh ByteArray.empty t114 ((Bc l0 x4_1).f1)).size ≤ 9223372036854775807) = true := decide_eq_true c10
                    try have c10b2 : (9223372036854775807 < ((x3_1 ++ t113) ++ (⟨#[32]⟩ : ByteArray)).size + (Fh ByteArray.empty t114 ((Bc l0 x4_1).f1)).size) = False := eq_false (Nat.not_lt.2 c10)
                    have c10z0 : (⟨#[32]⟩ : ByteArray).size = 1 := rfl
                    have c10b3 := c10
                    try simp only [ByteArray.size_extract, ByteArray.size_append, c10z0] at c10b3
                    have c10b4 := eq_false (Nat.not_lt.2 c10b3)
                    by_cases c11 : (((x3_1 ++ t113) ++ (⟨#[32]⟩ : ByteArray)) ++ (Fh ByteArray.empty t114 ((Bc l0 x4_1).f1))).size + 1 ≤ 9223372036854775807
                    · rw [if_pos c11] at H
                      have c11b0 := eq_true c11
                      have c11b1 : decide ((((x3_1 ++ t113) ++ (⟨#[32]⟩ : ByteArray)) ++ (Fh ByteArray.empty t114 ((Bc l0 x4_1).f1))).size + 1 ≤ 9223372036854775807) = true := decide_eq_true c11
                      try have c11b2 : (9223372036854775807 < (((x3_1 ++ t113) ++ (⟨#[32]⟩ : ByteArray)) ++ (Fh ByteArray.empty t114 ((Bc l0 x4_1).f1))).size + 1) = False := eq_false (Nat.not_lt.2 c11)
                      have c11z0 : (⟨#[32]⟩ : ByteArray).size = 1 := rfl
                      have c11b3 := c11
                      try simp only [ByteArray.size_extract, ByteArray.size_append, c11z0] at c11b3
                      have c11b4 := eq_false (Nat.not_lt.2 c11b3)
                      have H' := Aa.mk H
                      clear H
                      try go_wp2
                      have pi118 : (0 ≤ (((Bc l0 x4_1).f1) : Int)) = True := eq_true (of_decide_eq_true (by first | (with_reducible assumption) | assumption))
                      have qi118 : (((Bc l0 x4_1).f1) < (t114.length : Int)) = True := eq_true (of_decide_eq_true (by first | (with_reducible assumption) | assumption))
                      have n0_ := Aa.mk (Ad HB.out)
                      clear HB
                      have HB := n0_
                      clear n0_
                      have p112 : 0 ≤ (x4_1 : Int) := of_decide_eq_true (by first | (with_reducible assumption) | assumption)
                      have q112 : x4_1 < (l0.length : Int) := of_decide_eq_true (by first | (with_reducible assumption) | assumption)
                      obtain ⟨ad112, e112, hx112_0, hx112_1⟩ := F5 HR0.out x4_1 p112 q112
                      have hw112_1 := hx112_1
                      have hw112_0 := hx112_0
                      cases e112
                      replace hx112_0 := (HB.out.cell (World.block_lt_of_cell? w _ hx112_0)).trans hx112_0
                      replace hx112_1 := (HB.out.cell (World.block_lt_of_cell? w _ hx112_1)).trans hx112_1
                      replace p112 := eq_true p112
                      replace q112 := eq_true q112
                      have p117 : 0 ≤ (x4_1 : Int) := of_decide_eq_true (by first | (with_reducible assumption) | assumption)
                      have q117 : x4_1 < (l0.length : Int) := of_decide_eq_true (by first | (with_reducible assumption) | assumption)
                      obtain ⟨ad117, e117, hx117_0, hx117_1⟩ := F5 HR0.out x4_1 p117 q117
                      have hw117_1 := hx117_1
                      have hw117_0 := hx117_0
                      obtain rfl : ad112 = ad117 := (by injection e117)
                      replace hx117_0 := (HB.out.cell (World.block_lt_of_cell? w _ hx117_0)).trans hx117_0
                      replace hx117_1 := (HB.out.cell (World.block_lt_of_cell? w _ hx117_1)).trans hx117_1
                      replace p117 := eq_true p117
                      replace q117 := eq_true q117
                      refine start_ (n := 20) (S := fun w' => True) (ds := []) #[false, false, false, false, false, false, false, false, false, false, false, false, false, false, false, false, false, false, false, false] (by kernel_rfl) rfl rfl trivial (fun hHeld => ?_); refine with_tabW Dn.tab5 Dn.bits5 (fun HT_ HW_ => ?_)
                      generalize wr.drew = w12 at HB hx112_0 hx112_1 hx117_0 hx117_1 hHeld ⊢
                      refine Fq (i := 0) (N := some 11) (v := ?_) (a' := ?_) #[true, false, false, false, false, false, false, false, false, false, false, false, false, false, false, false, false, false, false, false] rfl rfl (Gu HT_.out (by kernel_rfl)) (fun _ _ _ h => h) (Or.inl ⟨by rfl, ?_⟩) ?_ ?_
                      rotate_left
                      · intro w'
                        go_simp
                        first | with_reducible rfl | (rw [if_neg (by omega)]; try with_reducible rfl)
                      rotate_left
                      · simp only [Act.put, List.setIfInBounds_toArray, List.set_cons_zero, List.set_cons_succ, Dh, Dp]
                        rfl
                      refine Fq (i := 1) (N := some 12) (v := ?_) (a' := ?_) #[true, true, false, false, false, false, false, false, false, false, false, false, false, false, false, false, false, false, false, false] rfl rfl (Gu HT_.out (by kernel_rfl)) (fun _ _ _ h => h) (Or.inl ⟨by rfl, ?_⟩) ?_ ?_
                      rotate_left
                      · intro w'
                        go_simp
                        first | with_reducible rfl | (rw [if_neg (by omega)]; try with_reducible rfl)
                      rotate_left
                      · simp only [Act.put, List.setIfInBounds_toArray, List.set_cons_zero, List.set_cons_succ, Dh, Dp]
                        rfl
                      refine Fq (i := 2) (N := some 13) (v := ?_) (a' := ?_) #[true, true, true, false, false, false, false, false, false, false, false, false, false, false, false, false, false, false, false, false] rfl rfl (Gu HT_.out (by kernel_rfl)) (fun _ _ _ h => h) (Or.inl ⟨by rfl, ?_⟩) ?_ ?_
                      rotate_left
                      · intro w'
                        go_simp
                        first | with_reducible rfl | (rw [if_neg (by omega)]; try with_reducible rfl)
                      rotate_left
                      · simp only [Act.put, List.setIfInBounds_toArray, List.set_cons_zero, List.set_cons_succ, Dh, Dp]
                        rfl
                      refine Fq (i := 10) (N := some 21) (v := ?_) (a' := ?_) #[true, true, true, false, false, false, false, false, false, false, true, false, false, false, false, false, false, false, false, false] rfl rfl (Gu HT_.out (by kernel_rfl)) (fun _ _ _ h => h) (Or.inl ⟨by rfl, ?_⟩) ?_ ?_
                      rotate_left
                      · intro w'
                        go_simp
                        first | with_reducible rfl | (rw [if_neg (by omega)]; try with_reducible rfl)
                      rotate_left
                      · simp only [Act.put, List.setIfInBounds_toArray, List.set_cons_zero, List.set_cons_succ, Dh, Dp]
                        rfl
                      refine Fq (i := 11) (N := some 22) (v := ?_) (a' := ?_) #[true, true, true, false, false, false, false, false, false, false, true, true, false, false, false, false, false, false, false, false] rfl rfl (Gu HT_.out (by kernel_rfl)) (fun _ _ _ h => h) (Or.inl ⟨by rfl, ?_⟩) ?_ ?_
                      rotate_left
                      · intro w'
                        go_simp
                        first | with_reducible rfl | (rw [if_neg (by omega)]; try with_reducible rfl)
                      rotate_left
                      · simp only [Act.put, List.setIfInBounds_toArray, List.set_cons_zero, List.set_cons_succ, Dh, Dp]
                        rfl
                      refine inv_at [3, 4, 5, 6, 7, 8, 9, 12, 13, 14, 15, 16, 17, 18, 19] (fun a0_ b a w' => ∃ (v115 : Value) (adz_v115 : Addr) (m15_ : Value), a = Ho a0_ b [(3, 14, .pointer (some (ad112.add ((x4_1).toNat * 2)))), (4, 15, .pointer (some (ad112.add ((x4_1).toNat * 2)))), (5, 16, .int .i64 ((Bc l0 x4_1).f0)), (6, 17, .string t113), (7, 18, .string (x3_1 ++ t113)), (8, 19, .string ((x3_1 ++ t113) ++ (⟨#[32]⟩ : ByteArray))), (9, 20, v115), (12, 23, .pointer (some (ad112.add ((x4_1).toNat * 2)))), (13, 24, .pointer (some ⟨(ad112.add ((x4_1).toNat * 2)).block, (ad112.add ((x4_1).toNat * 2)).off + 1, none⟩)), (14, 25, .int .i64 ((Bc l0 x4_1).f1)), (15, 26, m15_), (16, 27, .string (Fh ByteArray.empty t114 ((Bc l0 x4_1).f1))), (17, 28, .string (((x3_1 ++ t113) ++ (⟨#[32]⟩ : ByteArray)) ++ (Fh ByteArray.empty t114 ((Bc l0 x4_1).f1)))), (18, 29, .string ((((x3_1 ++ t113) ++ (⟨#[32]⟩ : ByteArray)) ++ (Fh ByteArray.empty t114 ((Bc l0 x4_1).f1))) ++ (⟨#[10]⟩ : ByteArray))), (19, 3, .string ((((x3_1 ++ t113) ++ (⟨#[32]⟩ : ByteArray)) ++ (Fh ByteArray.empty t114 ((Bc l0 x4_1).f1))) ++ (⟨#[10]⟩ : ByteArray)))] ∧ (Below w.heap.size w w') ∧ (b 9 = true → Kd.R Kd.string 9 w' w.heap.size (fun _ => True) v115 t114) ∧ (b 9 = true → ∃ c_, (v115 : Value) = .slice (some adz_v115) t114.length c_) ∧ (b 15 = true → (m15_ : Value) = .pointer (some (adz_v115.add (((Bc l0 x4_1).f1)).toNat)))) HT_.out HW_.out (by kernel_rfl) (by kernel_rfl) ?_ ?_ ?_
                      · exact ⟨.bool false, ⟨0, 0, none⟩, .bool false, by simp only [Ho, Bool.false_eq_true, if_false], HB.out, fun h_ => absurd h_ (by decide), fun h_ => absurd h_ (by decide), fun h_ => absurd h_ (by decide)⟩
                      · skip
                        clear HB
                        refine Gz ?_ ?_
                        · rintro b a w' ⟨v115, adz_v115, m15_, ha, Q_HB, Q_HO116, Q_HA_HO116, Q_X15_⟩ hb_ hon hoff
                          refine ⟨_, rfl, fun K hK => ?_⟩
                          have e12 : a.tmps[12]? = some (.slice (some ad112) l0.length c0) := by rw [ha]; exact (Ip rfl).trans rfl
                          have e13 : a.tmps[13]? = some (.int .i64 x4_1) := by rw [ha]; exact (Ip rfl).trans rfl
                          replace ha := Aa.mk ha
                          have HB := Aa.mk Q_HB
                          have hs0_ : w'.cell? (ad112.add ((x4_1).toNat * 2)) = some (.int .i64 ((Bc l0 x4_1).f0)) := ((HB.out.cell (World.block_lt_of_cell? w _ hw112_0)).trans hw112_0)
                          have hs1_ : w'.cell? ⟨(ad112.add ((x4_1).toNat * 2)).block, (ad112.add ((x4_1).toNat * 2)).off + 1, none⟩ = some (.int .i64 ((Bc l0 x4_1).f1)) := ((HB.out.cell (World.block_lt_of_cell? w _ hw112_1)).trans hw112_1)
                          refine Iq (w1 := w') (v := .pointer (some (ad112.add ((x4_1).toNat * 2)))) (by rfl) rfl ?_ ?_
                          · go_simp
                            (try simp only [Dh])
                            try rfl
                          refine hK.out _ _ ⟨v115, adz_v115, m15_, (by rw [ha.out]; exact G5 0 hb_ rfl rfl rfl), Q_HB, fun h0_ => absurd ((hoff 9 (by kernel_rfl)).symm.trans h0_) (by decide), fun h0_ => absurd ((hoff 9 (by kernel_rfl)).symm.trans h0_) (by decide), fun h0_ => absurd ((hoff 15 (by kernel_rfl)).symm.trans h0_) (by decide)⟩
                        refine Gz ?_ ?_
                        · rintro b a w' ⟨v115, adz_v115, m15_, ha, Q_HB, Q_HO116, Q_HA_HO116, Q_X15_⟩ hb_ hon hoff
                          refine ⟨_, rfl, fun K hK => ?_⟩
                          have e14 : a.tmps[14]? = some (.pointer (some (ad112.add ((x4_1).toNat * 2)))) := by rw [ha]; exact Hg (e := (3, 14, .pointer (some (ad112.add ((x4_1).toNat * 2))))) 0 rfl rfl (hon 3 (by kernel_rfl)) rfl
                          replace ha := Aa.mk ha
                          have HB := Aa.mk Q_HB
                          refine Iq (w1 := w') (v := .pointer (some (ad112.add ((x4_1).toNat * 2)))) (by rfl) rfl ?_ ?_
                          · go_simp
                            (try simp only [Dh])
                            try rfl
                          refine hK.out _ _ ⟨v115, adz_v115, m15_, (by rw [ha.out]; exact G5 1 hb_ rfl rfl rfl), Q_HB, fun h0_ => absurd ((hoff 9 (by kernel_rfl)).symm.trans h0_) (by decide), fun h0_ => absurd ((hoff 9 (by kernel_rfl)).symm.trans h0_) (by decide), fun h0_ => absurd ((hoff 15 (by kernel_rfl)).symm.trans h0_) (by decide)⟩
                        refine Gz ?_ ?_
                        · rintro b a w' ⟨v115, adz_v115, m15_, ha, Q_HB, Q_HO116, Q_HA_HO116, Q_X15_⟩ hb_ hon hoff
                          refine ⟨_, rfl, fun K hK => ?_⟩
                          have e15 : a.tmps[15]? = some (.pointer (some (ad112.add ((x4_1).toNat * 2)))) := by rw [ha]; exact Hg (e := (4, 15, .pointer (some (ad112.add ((x4_1).toNat * 2))))) 1 rfl rfl (hon 4 (by kernel_rfl)) rfl
                          replace ha := Aa.mk ha
                          have HB := Aa.mk Q_HB
                          have hs0_ : w'.cell? (ad112.add ((x4_1).toNat * 2)) = some (.int .i64 ((Bc l0 x4_1).f0)) := ((HB.out.cell (World.block_lt_of_cell? w _ hw112_0)).trans hw112_0)
                          have hs1_ : w'.cell? ⟨(ad112.add ((x4_1).toNat * 2)).block, (ad112.add ((x4_1).toNat * 2)).off + 1, none⟩ = some (.int .i64 ((Bc l0 x4_1).f1)) := ((HB.out.cell (World.block_lt_of_cell? w _ hw112_1)).trans hw112_1)
                          refine Iq (w1 := w') (v := .int .i64 ((Bc l0 x4_1).f0)) (by rfl) rfl ?_ ?_
                          · go_simp
                            (try simp only [Dh])
                            try rfl
                          refine hK.out _ _ ⟨v115, adz_v115, m15_, (by rw [ha.out]; exact G5 2 hb_ rfl rfl rfl), Q_HB, fun h0_ => absurd ((hoff 9 (by kernel_rfl)).symm.trans h0_) (by decide), fun h0_ => absurd ((hoff 9 (by kernel_rfl)).symm.trans h0_) (by decide), fun h0_ => absurd ((hoff 15 (by kernel_rfl)).symm.trans h0_) (by decide)⟩
                        refine Gz ?_ ?_
                        · rintro b a w' ⟨v115, adz_v115, m15_, ha, Q_HB, Q_HO116, Q_HA_HO116, Q_X15_⟩ hb_ hon hoff
                          refine ⟨_, rfl, fun K hK => ?_⟩
                          have e16 : a.tmps[16]? = some (.int .i64 ((Bc l0 x4_1).f0)) := by rw [ha]; exact Hg (e := (5, 16, .int .i64 ((Bc l0 x4_1).f0))) 2 rfl rfl (hon 5 (by kernel_rfl)) rfl
                          replace ha := Aa.mk ha
                          have HB := Aa.mk Q_HB
                          refine goes_ Tryd.func49 (by kernel_rfl) rfl #[.int .i64 ((Bc l0 x4_1).f0)] (by rfl) rfl rfl (by first | (simp only [List.map_toArray, List.map_cons, List.map_nil, Act.eval, Array.getD_eq_getD_getElem?, Option.getD_some, e16]; done) | (simp only [List.map_toArray, List.map_cons, List.map_nil, Act.eval, Array.getD_eq_getD_getElem?, Option.getD_some, e16]; rfl)) ?_
                          with_reducible refine (Dz.calls k1 ((Bc l0 x4_1).f0) t113 _ A4.out).mono ?_
                          rintro e w13 ⟨rfl, hb⟩
                          refine ⟨_, rfl, ?_⟩
                          have n0_ := Aa.mk (Ap (by repeat (first | (with_reducible first | exact HB.out | apply Ae | apply Ac | apply Ad) | exact HB.out)) hb)
                          clear HB
                          have HB := n0_
                          clear n0_
                          (try clear hb)
                          (try clear hb2)
                          (try clear hk)
                          (try clear hi)
                          refine hK.out _ _ ⟨v115, adz_v115, m15_, (by rw [ha.out]; exact G5 3 hb_ rfl rfl rfl), (by repeat (first | (with_reducible first | exact HB.out | apply Ae | apply Ac | apply Ad) | exact HB.out)), fun h0_ => absurd ((hoff 9 (by kernel_rfl)).symm.trans h0_) (by decide), fun h0_ => absurd ((hoff 9 (by kernel_rfl)).symm.trans h0_) (by decide), fun h0_ => absurd ((hoff 15 (by kernel_rfl)).symm.trans h0_) (by decide)⟩
                        refine Gz ?_ ?_
                        · rintro b a w' ⟨v115, adz_v115, m15_, ha, Q_HB, Q_HO116, Q_HA_HO116, Q_X15_⟩ hb_ hon hoff
                          refine ⟨_, rfl, fun K hK => ?_⟩
                          have e11 : a.tmps[11]? = some (.string x3_1) := by rw [ha]; exact (Ip rfl).trans rfl
                          have e17 : a.tmps[17]? = some (.string t113) := by rw [ha]; exact Hg (e := (6, 17, .string t113)) 3 rfl rfl (hon 6 (by kernel_rfl)) rfl
                          replace ha := Aa.mk ha
                          have HB := Aa.mk Q_HB
                          refine Iq (w1 := w') (v := .string (x3_1 ++ t113)) (by rfl) rfl ?_ ?_
                          · go_simp
                            (try simp only [Dh])
                            try rfl
                          refine hK.out _ _ ⟨v115, adz_v115, m15_, (by rw [ha.out]; exact G5 4 hb_ rfl rfl rfl), Q_HB, Q_HO116, Q_HA_HO116, Q_X15_⟩
                        refine Gz ?_ ?_
                        · rintro b a w' ⟨v115, adz_v115, m15_, ha, Q_HB, Q_HO116, Q_HA_HO116, Q_X15_⟩ hb_ hon hoff
                          refine ⟨_, rfl, fun K hK => ?_⟩
                          have e18 : a.tmps[18]? = some (.string (x3_1 ++ t113)) := by rw [ha]; exact Hg (e := (7, 18, .string (x3_1 ++ t113))) 4 rfl rfl (hon 7 (by kernel_rfl)) rfl
                          replace ha := Aa.mk ha
                          have HB := Aa.mk Q_HB
                          refine Iq (w1 := w') (v := .string ((x3_1 ++ t113) ++ (⟨#[32]⟩ : ByteArray))) (by rfl) rfl ?_ ?_
                          · go_simp
                            (try simp only [Dh])
                            try rfl
                          refine hK.out _ _ ⟨v115, adz_v115, m15_, (by rw [ha.out]; exact G5 5 hb_ rfl rfl rfl), Q_HB, Q_HO116, Q_HA_HO116, Q_X15_⟩
                        refine Gz ?_ ?_
                        · rintro b a w' ⟨v115, adz_v115, m15_, ha, Q_HB, Q_HO116, Q_HA_HO116, Q_X15_⟩ hb_ hon hoff
                          refine ⟨_, rfl, fun K hK => ?_⟩
                          replace ha := Aa.mk ha
                          have HB := Aa.mk Q_HB
                          refine goes_ Tryd.func50 (by kernel_rfl) rfl #[] (by rfl) rfl rfl (by first | (simp only [List.map_toArray, List.map_cons, List.map_nil, Act.eval, Array.getD_eq_getD_getElem?, Option.getD_some]; done) | (simp only [List.map_toArray, List.map_cons, List.map_nil, Act.eval, Array.getD_eq_getD_getElem?, Option.getD_some]; rfl)) ?_
                          with_reducible refine (G7.calls  t114 _ A7.out).mono ?_
                          rintro e w15 ⟨v115, rfl, ho0, hb⟩
                          refine ⟨_, rfl, ?_⟩
                          have n0_ := Aa.mk (Kd.Du ho0 (Aq (by repeat (first | (with_reducible first | exact HB.out | apply Ae | apply Ac | apply Ad) | exact HB.out))))
                          have n1_ := Aa.mk (Ap (by repeat (first | (with_reducible first | exact HB.out | apply Ae | apply Ac | apply Ad) | exact HB.out)) hb)
                          clear HB
                          have HO116 := n0_
                          have HB := n1_
                          clear n0_ n1_
                          (try clear hb)
                          (try clear hb2)
                          (try clear hk)
                          (try clear hi)
                          (try clear ho0)
                          obtain ⟨Ao16, co16, eo16⟩ := Kd.Ef HO116.out
                          subst eo16
                          obtain ⟨ado16, fo16, _⟩ := Kd.H8 (Kd.Ba HO116.out).2.2 0 (by decide) (by first | omega | (simp only [decide_eq_true_eq, eq_iff_iff, iff_true] at *; omega))
                          cases fo16
                          refine hK.out _ _ ⟨.slice (some ado16) t114.length co16, ado16, m15_, (by rw [ha.out]; exact G5 6 hb_ rfl rfl rfl), (by repeat (first | (with_reducible first | exact HB.out | apply Ae | apply Ac | apply Ad) | exact HB.out)), fun _ => (by (with_reducible repeat (first | apply Kd.Ah | apply Kd.Ai | apply Kd.Ak)); exact HO116.out), fun _ => ⟨_, rfl⟩, fun h0_ => absurd ((hoff 15 (by kernel_rfl)).symm.trans h0_) (by decide)⟩
                        refine Gz ?_ ?_
                        · rintro b a w' ⟨v115, adz_v115, m15_, ha, Q_HB, Q_HO116, Q_HA_HO116, Q_X15_⟩ hb_ hon hoff
                          refine ⟨_, rfl, fun K hK => ?_⟩
                          have e21 : a.tmps[21]? = some (.slice (some ad112) l0.length c0) := by rw [ha]; exact (Ip rfl).trans rfl
                          have e22 : a.tmps[22]? = some (.int .i64 x4_1) := by rw [ha]; exact (Ip rfl).trans rfl
                          replace ha := Aa.mk ha
                          have HB := Aa.mk Q_HB
                          have hs2_ : w'.cell? (ad112.add ((x4_1).toNat * 2)) = some (.int .i64 ((Bc l0 x4_1).f0)) := ((HB.out.cell (World.block_lt_of_cell? w _ hw117_0)).trans hw117_0)
                          have hs3_ : w'.cell? ⟨(ad112.add ((x4_1).toNat * 2)).block, (ad112.add ((x4_1).toNat * 2)).off + 1, none⟩ = some (.int .i64 ((Bc l0 x4_1).f1)) := ((HB.out.cell (World.block_lt_of_cell? w _ hw117_1)).trans hw117_1)
                          refine Iq (w1 := w') (v := .pointer (some (ad112.add ((x4_1).toNat * 2)))) (by rfl) rfl ?_ ?_
                          · go_simp
                            (try simp only [Dh])
                            try rfl
                          refine hK.out _ _ ⟨v115, adz_v115, m15_, (by rw [ha.out]; exact G5 7 hb_ rfl rfl rfl), Q_HB, Q_HO116, Q_HA_HO116, fun h0_ => absurd ((hoff 15 (by kernel_rfl)).symm.trans h0_) (by decide)⟩
                        refine Gz ?_ ?_
                        · rintro b a w' ⟨v115, adz_v115, m15_, ha, Q_HB, Q_HO116, Q_HA_HO116, Q_X15_⟩ hb_ hon hoff
                          refine ⟨_, rfl, fun K hK => ?_⟩
                          have e23 : a.tmps[23]? = some (.pointer (some (ad112.add ((x4_1).toNat * 2)))) := by rw [ha]; exact Hg (e := (12, 23, .pointer (some (ad112.add ((x4_1).toNat * 2))))) 7 rfl rfl (hon 12 (by kernel_rfl)) rfl
                          replace ha := Aa.mk ha
                          have HB := Aa.mk Q_HB
                          refine Iq (w1 := w') (v := .pointer (some ⟨(ad112.add ((x4_1).toNat * 2)).block, (ad112.add ((x4_1).toNat * 2)).off + 1, none⟩)) (by rfl) rfl ?_ ?_
                          · go_simp
                            (try simp only [Dh])
                            try rfl
                          refine hK.out _ _ ⟨v115, adz_v115, m15_, (by rw [ha.out]; exact G5 8 hb_ rfl rfl rfl), Q_HB, Q_HO116, Q_HA_HO116, fun h0_ => absurd ((hoff 15 (by kernel_rfl)).symm.trans h0_) (by decide)⟩
                        refine Gz ?_ ?_
                        · rintro b a w' ⟨v115, adz_v115, m15_, ha, Q_HB, Q_HO116, Q_HA_HO116, Q_X15_⟩ hb_ hon hoff
                          refine ⟨_, rfl, fun K hK => ?_⟩
                          have e24 : a.tmps[24]? = some (.pointer (some ⟨(ad112.add ((x4_1).toNat * 2)).block, (ad112.add ((x4_1).toNat * 2)).off + 1, none⟩)) := by rw [ha]; exact Hg (e := (13, 24, .pointer (some ⟨(ad112.add ((x4_1).toNat * 2)).block, (ad112.add ((x4_1).toNat * 2)).off + 1, none⟩))) 8 rfl rfl (hon 13 (by kernel_rfl)) rfl
                          replace ha := Aa.mk ha
                          have HB := Aa.mk Q_HB
                          have hs2_ : w'.cell? (ad112.add ((x4_1).toNat * 2)) = some (.int .i64 ((Bc l0 x4_1).f0)) := ((HB.out.cell (World.block_lt_of_cell? w _ hw117_0)).trans hw117_0)
                          have hs3_ : w'.cell? ⟨(ad112.add ((x4_1).toNat * 2)).block, (ad112.add ((x4_1).toNat * 2)).off + 1, none⟩ = some (.int .i64 ((Bc l0 x4_1).f1)) := ((HB.out.cell (World.block_lt_of_cell? w _ hw117_1)).trans hw117_1)
                          refine Iq (w1 := w') (v := .int .i64 ((Bc l0 x4_1).f1)) (by rfl) rfl ?_ ?_
                          · go_simp
                            (try simp only [Dh])
                            try rfl
                          refine hK.out _ _ ⟨v115, adz_v115, m15_, (by rw [ha.out]; exact G5 9 hb_ rfl rfl rfl), Q_HB, Q_HO116, Q_HA_HO116, fun h0_ => absurd ((hoff 15 (by kernel_rfl)).symm.trans h0_) (by decide)⟩
                        refine Gz ?_ ?_
                        · rintro b a w' ⟨v115, adz_v115, m15_, ha, Q_HB, Q_HO116, Q_HA_HO116, Q_X15_⟩ hb_ hon hoff
                          refine ⟨_, rfl, fun K hK => ?_⟩
                          have e20 : a.tmps[20]? = some (v115) := by rw [ha]; exact Hg (e := (9, 20, v115)) 6 rfl rfl (hon 9 (by kernel_rfl)) rfl
                          have e25 : a.tmps[25]? = some (.int .i64 ((Bc l0 x4_1).f1)) := by rw [ha]; exact Hg (e := (14, 25, .int .i64 ((Bc l0 x4_1).f1))) 9 rfl rfl (hon 14 (by kernel_rfl)) rfl
                          replace ha := Aa.mk ha
                          have HB := Aa.mk Q_HB
                          have HO116 := Aa.mk (Q_HO116 (hon 9 (by kernel_rfl)))
                          have HA_HO116 := Aa.mk (Q_HA_HO116 (hon 9 (by kernel_rfl)))
                          obtain ⟨c_, hv_⟩ := HA_HO116.out
                          rw [hv_] at e20
                          refine Iq (w1 := w') (v := .pointer (some (adz_v115.add (((Bc l0 x4_1).f1)).toNat))) (by rfl) rfl ?_ ?_
                          · go_simp
                            (try simp only [Dh])
                            try rfl
                          refine hK.out _ _ ⟨v115, adz_v115, (.pointer (some (adz_v115.add (((Bc l0 x4_1).f1)).toNat))), (by rw [ha.out]; exact G5 10 hb_ rfl rfl rfl), Q_HB, Q_HO116, Q_HA_HO116, fun _ => rfl⟩
                        refine Gz ?_ ?_
                        · rintro b a w' ⟨v115, adz_v115, m15_, ha, Q_HB, Q_HO116, Q_HA_HO116, Q_X15_⟩ hb_ hon hoff
                          refine ⟨_, rfl, fun K hK => ?_⟩
                          have e26 : a.tmps[26]? = some (m15_) := by rw [ha]; exact Hg (e := (15, 26, m15_)) 10 rfl rfl (hon 15 (by kernel_rfl)) rfl
                          rw [Q_X15_ (hon 15 (by kernel_rfl))] at e26
                          replace ha := Aa.mk ha
                          have HB := Aa.mk Q_HB
                          have HO116 := Aa.mk (Q_HO116 (hon 9 (by kernel_rfl)))
                          have HA_HO116 := Aa.mk (Q_HA_HO116 (hon 9 (by kernel_rfl)))
                          obtain ⟨c_, hv_⟩ := HA_HO116.out
                          have hF_ := HO116.out
                          rw [hv_] at hF_
                          obtain ⟨ad_, ea_, hx_⟩ := Kd.H8 (Kd.Ba hF_).2.2 ((Bc l0 x4_1).f1) (of_eq_true pi118) (of_eq_true qi118)
                          cases ea_
                          refine Iq (w1 := w') (v := .string (Fh ByteArray.empty t114 ((Bc l0 x4_1).f1))) (by rfl) rfl ?_ ?_
                          · go_simp
                            (try simp only [Dh])
                            try rfl
                          refine hK.out _ _ ⟨v115, adz_v115, m15_, (by rw [ha.out]; exact G5 11 hb_ rfl rfl rfl), Q_HB, Q_HO116, Q_HA_HO116, Q_X15_⟩
                        refine Gz ?_ ?_
                        · rintro b a w' ⟨v115, adz_v115, m15_, ha, Q_HB, Q_HO116, Q_HA_HO116, Q_X15_⟩ hb_ hon hoff
                          refine ⟨_, rfl, fun K hK => ?_⟩
                          have e19 : a.tmps[19]? = some (.string ((x3_1 ++ t113) ++ (⟨#[32]⟩ : ByteArray))) := by rw [ha]; exact Hg (e := (8, 19, .string ((x3_1 ++ t113) ++ (⟨#[32]⟩ : ByteArray)))) 5 rfl rfl (hon 8 (by kernel_rfl)) rfl
                          have e27 : a.tmps[27]? = some (.string (Fh ByteArray.empty t114 ((Bc l0 x4_1).f1))) := by rw [ha]; exact Hg (e := (16, 27, .string (Fh ByteArray.empty t114 ((Bc l0 x4_1).f1)))) 11 rfl rfl (hon 16 (by kernel_rfl)) rfl
                          replace ha := Aa.mk ha
                          have HB := Aa.mk Q_HB
                          have HO116 := Aa.mk (Q_HO116 (hon 9 (by kernel_rfl)))
                          have HA_HO116 := Aa.mk (Q_HA_HO116 (hon 9 (by kernel_rfl)))
                          refine Iq (w1 := w') (v := .string (((x3_1 ++ t113) ++ (⟨#[32]⟩ : ByteArray)) ++ (Fh ByteArray.empty t114 ((Bc l0 x4_1).f1)))) (by rfl) rfl ?_ ?_
                          · go_simp
                            (try simp only [Dh])
                            try rfl
                          refine hK.out _ _ ⟨v115, adz_v115, m15_, (by rw [ha.out]; exact G5 12 hb_ rfl rfl rfl), Q_HB, Q_HO116, Q_HA_HO116, Q_X15_⟩
                        refine Gz ?_ ?_
                        · rintro b a w' ⟨v115, adz_v115, m15_, ha, Q_HB, Q_HO116, Q_HA_HO116, Q_X15_⟩ hb_ hon hoff
                          refine ⟨_, rfl, fun K hK => ?_⟩
                          have e28 : a.tmps[28]? = some (.string (((x3_1 ++ t113) ++ (⟨#[32]⟩ : ByteArray)) ++ (Fh ByteArray.empty t114 ((Bc l0 x4_1).f1)))) := by rw [ha]; exact Hg (e := (17, 28, .string (((x3_1 ++ t113) ++ (⟨#[32]⟩ : ByteArray)) ++ (Fh ByteArray.empty t114 ((Bc l0 x4_1).f1))))) 12 rfl rfl (hon 17 (by kernel_rfl)) rfl
                          replace ha := Aa.mk ha
                          have HB := Aa.mk Q_HB
                          have HO116 := Aa.mk (Q_HO116 (hon 9 (by kernel_rfl)))
                          have HA_HO116 := Aa.mk (Q_HA_HO116 (hon 9 (by kernel_rfl)))
                          refine Iq (w1 := w') (v := .string ((((x3_1 ++ t113) ++ (⟨#[32]⟩ : ByteArray)) ++ (Fh ByteArray.empty t114 ((Bc l0 x4_1).f1))) ++ (⟨#[10]⟩ : ByteArray))) (by rfl) rfl ?_ ?_
                          · go_simp
                            (try simp only [Dh])
                            try rfl
                          refine hK.out _ _ ⟨v115, adz_v115, m15_, (by rw [ha.out]; exact G5 13 hb_ rfl rfl rfl), Q_HB, Q_HO116, Q_HA_HO116, Q_X15_⟩
                        refine Gz ?_ ?_
                        · rintro b a w' ⟨v115, adz_v115, m15_, ha, Q_HB, Q_HO116, Q_HA_HO116, Q_X15_⟩ hb_ hon hoff
                          refine ⟨_, rfl, fun K hK => ?_⟩
                          have e29 : a.tmps[29]? = some (.string ((((x3_1 ++ t113) ++ (⟨#[32]⟩ : ByteArray)) ++ (Fh ByteArray.empty t114 ((Bc l0 x4_1).f1))) ++ (⟨#[10]⟩ : ByteArray))) := by rw [ha]; exact Hg (e := (18, 29, .string ((((x3_1 ++ t113) ++ (⟨#[32]⟩ : ByteArray)) ++ (Fh ByteArray.empty t114 ((Bc l0 x4_1).f1))) ++ (⟨#[10]⟩ : ByteArray)))) 13 rfl rfl (hon 18 (by kernel_rfl)) rfl
                          replace ha := Aa.mk ha
                          have HB := Aa.mk Q_HB
                          have HO116 := Aa.mk (Q_HO116 (hon 9 (by kernel_rfl)))
                          have HA_HO116 := Aa.mk (Q_HA_HO116 (hon 9 (by kernel_rfl)))
                          refine Iq (w1 := w') (v := .string ((((x3_1 ++ t113) ++ (⟨#[32]⟩ : ByteArray)) ++ (Fh ByteArray.empty t114 ((Bc l0 x4_1).f1))) ++ (⟨#[10]⟩ : ByteArray))) (by rfl) rfl ?_ ?_
                          · go_simp
                            (try simp only [Dh])
                            try rfl
                          refine hK.out _ _ ⟨v115, adz_v115, m15_, (by rw [ha.out]; exact G5 14 hb_ rfl rfl rfl), Q_HB, Q_HO116, Q_HA_HO116, Q_X15_⟩
                        exact steps_nil
                      rintro b a w16 hall ⟨v115, adz_v115, m15_, ha, Q_HB, Q_HO116, Q_HA_HO116, Q_X15_⟩
                      clear HB
                      have hb3_ := hall 3 (by kernel_rfl)
                      have hb4_ := hall 4 (by kernel_rfl)
                      have hb5_ := hall 5 (by kernel_rfl)
                      have hb6_ := hall 6 (by kernel_rfl)
                      have hb7_ := hall 7 (by kernel_rfl)
                      have hb8_ := hall 8 (by kernel_rfl)
                      have hb9_ := hall 9 (by kernel_rfl)
                      have hb12_ := hall 12 (by kernel_rfl)
                      have hb13_ := hall 13 (by kernel_rfl)
                      have hb14_ := hall 14 (by kernel_rfl)
                      have hb15_ := hall 15 (by kernel_rfl)
                      have hb16_ := hall 16 (by kernel_rfl)
                      have hb17_ := hall 17 (by kernel_rfl)
                      have hb18_ := hall 18 (by kernel_rfl)
                      have hb19_ := hall 19 (by kernel_rfl)
                      subst ha
                      obtain rfl := Q_X15_ hb15_
                      simp only [Ho, hb3_, hb4_, hb5_, hb6_, hb7_, hb8_, hb9_, hb12_, hb13_, hb14_, hb15_, hb16_, hb17_, hb18_, hb19_, if_true, Act.put, List.setIfInBounds_toArray, List.set_cons_zero, List.set_cons_succ]
                      have HB := Aa.mk Q_HB
                      clear Q_HB
                      have HO116 := Aa.mk (Q_HO116 hb9_)
                      clear Q_HO116
                      have HA_HO116 := Aa.mk (Q_HA_HO116 hb9_)
                      clear Q_HA_HO116
                      clear hall hb3_ hb4_ hb5_ hb6_ hb7_ hb8_ hb9_ hb12_ hb13_ hb14_ hb15_ hb16_ hb17_ hb18_ hb19_
                      obtain ⟨co17, eo17⟩ := HA_HO116.out
                      clear HA_HO116
                      subst eo17
                      try go_wp2
                      go_roundg k1
                      case measure => have := HK1.out; omega
                      case rel => exact ⟨((((x3_1 ++ t113) ++ (⟨#[32]⟩ : ByteArray)) ++ (Fh ByteArray.empty t114 ((Bc l0 x4_1).f1))) ++ (⟨#[10]⟩ : ByteArray)), (wrap64 (x4_1 + 1)), (by first | rfl | (simp; done) | (simp [*]; done)), (by first | rfl | (simp; done) | (simp [*]; done)), H', ⟨by have := HK1.out; omega⟩, ⟨by repeat (first | (with_reducible first | exact HB.out | apply Ae | apply Ac | apply Ad) | exact HB.out)⟩⟩
                    · rw [if_neg c11] at H
                      exact absurd H (by simp)
                  · rw [if_neg c10] at H
                    exact absurd H (by simp)
                · rw [if_neg c9] at H
                  exact absurd H (by simp)
              · rw [if_neg c8] at H
                exact absurd H (by simp)
            · rw [if_neg c6] at H
              exact absurd H (by simp)
          · rw [if_neg c5] at H
            exact absurd H (by simp)
        · rw [if_neg c3] at H
          exact absurd H (by simp)
      · rw [if_neg c2] at H
        have c2b0 : decide (x4_1 < (l0.length : Int)) = false := decide_eq_false c2
        clear c2
        obtain rfl := Option.some.inj H
        go_wp2
        go_ret
        exact ⟨by first | rfl | (simp [Be, Bf] <;> rfl) | (simp [*, Be, Bf] <;> rfl), by repeat (first | (with_reducible first | exact HB.out | apply Ae | apply Ac | apply Ad) | exact HB.out)⟩
end Go.Proofs.YtpalafegcndccaaDoor.X

namespace Go.Proofs.YtpalafegcndccaaDoor.X
open Go.RowKit Go.Proofs.YtpalafegcndccaaDoorW.PrintWords Go.Proofs.YtpalafegcndccaaDoorW.PrintLast Go.Proofs.YtpalafegcndccaaDoorW.PrintMore
attribute [local go_sem] Ej Eg Eu Ew D9 D8 Ei Eh
open Go.Proofs.YtpalafegcndccaaDoorG
def Gf.f (s0_0 : List Int) (s0_1 : Int) (s0_2 : Int) (a1 : ByteArray) (a2 : ByteArray) : Option (ByteArray × Int × Int) :=
  if a1.toList = ([] : List UInt8) then (if 1 ≤ (a2.size : Int) then some (a2.extract 0 1, s0_1, s0_2) else none)
  else (Bq.f s0_0 s0_1 s0_2 (a1.size : Int)).bind fun p => (Bq.f s0_0 p.2.1 p.2.2 (a2.size : Int)).bind fun q =>
    (Bq.f s0_0 q.2.1 q.2.2 3).bind fun m => if (0 ≤ q.1 ∧ q.1 < (a2.size : Int)) ∧ (0 ≤ p.1 ∧ p.1 < (a1.size : Int)) ∧ a1.size ≤ 4611686018427387904 ∧ a2.size ≤ 4611686018427387904 then
      some (if m.1 = 0 then ((a1.extract 0 p.1.toNat ++ (a2.extract q.1.toNat a2.size).extract 0 1) ++ a1.extract p.1.toNat a1.size, m.2.1, m.2.2)
        else if m.1 = 1 then ((a1.extract 0 p.1.toNat ++ (a2.extract q.1.toNat a2.size).extract 0 1) ++ a1.extract (p.1 + 1).toNat a1.size, m.2.1, m.2.2)
        else (a1.extract 0 p.1.toNat ++ a1.extract (p.1 + 1).toNat a1.size, m.2.1, m.2.2)) else none
set_option maxHeartbeats 8000000 in
set_option maxRecDepth 100000 in
theorem Gf.calls (g : Nat) (s0_0 : List Int) (s0_1 : Int) (s0_2 : Int) (a1 : ByteArray) (a2 : ByteArray) (r1 : ByteArray) (r2 : Int) (r3 : Int) (w0 w : World) (hI : Af w0 w g s0_0 s0_1 s0_2) (hB : Below w0.heap.size w0 w) (h : Gf.f s0_0 s0_1 s0_2 a1 a2 = some (r1, r2, r3)) :
    Calls Tryd.prog 41 #[.pointer (some ⟨g, 0, none⟩), .string a1, .string a2] w fun e w' => e = .returned (.string r1) ∧ Af w0 w' g s0_0 r2 r3 ∧ Below w0.heap.size w0 w' ∧ Bi w w' g none := by
  have HI0 := Aa.mk hI
  have HK := Aa.mk (Bi.refl w g none)
  have HB := Aa.mk hB
  clear hI hB
  unfold Gf.f at h
  by_cases c4 : a1.toList = ([] : List UInt8)
  · rw [if_pos c4] at h
    have c4b0 : (a1.toList == ([] : List UInt8)) = true := beq_iff_eq.mpr c4
    clear c4
    by_cases c6 : 1 ≤ (a2.size : Int)
    · rw [if_pos c6] at h
      simp only [Option.some.injEq, Prod.mk.injEq] at h
      obtain ⟨rfl, rfl, rfl⟩ := h
      have c6b := eq_true c6
      have c6c : decide (1 ≤ (a2.size : Int)) = true := decide_eq_true c6
      have c6d : (1 ≤ a2.size) = True := eq_true (by omega)
      clear c6
      go_enter Tryd.func41, Tryd.ntmps41
      go_wp2
      go_ret
      exact ⟨by first | rfl | (simp [*]; done), by repeat (first | (with_reducible first | exact HI0.out | apply Af.alloc | apply Af.drewN | apply Af.drew | apply Af.Dy | apply Af.Dx) | exact HI0.out), by repeat (first | (with_reducible first | exact HB.out | apply Ae | apply Ac | apply Ad | refine Ag ?_ (Af.ge HI0.out)) | exact HB.out), by repeat (first | (with_reducible first | exact HK.out | apply Bi.E8 | apply C9 | apply Dl | apply Dc) | exact HK.out)⟩
    · rw [if_neg c6] at h; cases h
  · rw [if_neg c4] at h
    have c4b0 : (a1.toList == ([] : List UInt8)) = false := beq_eq_false_iff_ne.mpr c4
    clear c4
    replace h := Option.bind_eq_some_iff.mp h
    obtain ⟨⟨p, p2, p3⟩, A1, h⟩ := h
    replace h := Option.bind_eq_some_iff.mp h
    obtain ⟨⟨q, q2, q3⟩, A2, h⟩ := h
    replace h := Option.bind_eq_some_iff.mp h
    obtain ⟨⟨m, m2, m3⟩, A3, h⟩ := h
    have AA1 := Aa.mk A1
    have AA2 := Aa.mk A2
    have AA3 := Aa.mk A3
    clear A1 A2 A3
    dsimp only at h AA1 AA2 AA3
    by_cases c : (0 ≤ q ∧ q < (a2.size : Int)) ∧ (0 ≤ p ∧ p < (a1.size : Int)) ∧ a1.size ≤ 4611686018427387904 ∧ a2.size ≤ 4611686018427387904
    · rw [if_pos c] at h
      have CC := Aa.mk c
      have hp0 : 0 ≤ p := c.2.1.1
      have hq0 : 0 ≤ q := c.1.1
      obtain ⟨pn, rfl⟩ := Int.eq_ofNat_of_zero_le hp0
      obtain ⟨qn, rfl⟩ := Int.eq_ofNat_of_zero_le hq0
      have x1 : ((qn : Int) ≤ (a2.size : Int)) = True := eq_true (by omega)
      have x1n : (qn ≤ a2.size) = True := eq_true (by omega)
      have x2n : (1 ≤ a2.size - qn) = True := eq_true (by omega)
      have x2i : ((1 : Int) ≤ ((a2.size - qn : Nat) : Int)) = True := eq_true (by omega)
      have x2j : (qn < a2.size) = True := eq_true (by omega)
      have x2k : (qn + 1 ≤ a2.size) = True := eq_true (by omega)
      have x3n : (pn ≤ a1.size) = True := eq_true (by omega)
      have x4n : (pn + 1 ≤ a1.size) = True := eq_true (by omega)
      have x5 : wrap64 ((pn : Int) + 1) = (pn : Int) + 1 := by unfold wrap64; omega
      have x6 : ((pn : Int) + 1).toNat = pn + 1 := by omega
      simp only [Option.some.injEq, Int.toNat_natCast, x6] at h
      have X5 := Aa.mk x5
      clear c hp0 hq0 x5 x6
      have HH := Aa.mk h
      clear h
      by_cases d0 : m = 0
      · subst d0
        have H2 := Aa.mk (HH.out.symm.trans (if_pos rfl))
        clear HH
        simp only [Prod.mk.injEq] at H2
        obtain ⟨rfl, rfl, rfl⟩ := H2.out
        clear H2
        go_enter Tryd.func41, Tryd.ntmps41
        go_wp2_with (first | (go_at_call 44; (with_reducible refine (Bq.calls g s0_0 s0_1 s0_2 (a1.size : Int) (pn : Int) p2 p3 w0 _ ?side1 ?side2 AA1.out).mono ?_); (case side1 => repeat (first | (with_reducible first | exact HI0.out | apply Af.alloc | apply Af.drewN | apply Af.drew | apply Af.Dy | apply Af.Dx) | exact HI0.out)); (case side2 => repeat (first | (with_reducible first | exact HB.out | apply Ae | apply Ac | apply Ad | refine Ag ?_ (Af.ge HI0.out)) | exact HB.out)); rintro e w' ⟨rfl, hi, hb, hk⟩; have n0_ := Aa.mk (Bi.trans (by repeat (first | (with_reducible first | exact HK.out | apply Bi.E8 | apply C9 | apply Dl | apply Dc) | exact HK.out)) hk (.inl rfl)); have n1_ := Aa.mk hb; have n2_ := Aa.mk hi; clear HK HB HI0; have HK := n0_; have HB := n1_; have HI0 := n2_; clear n0_ n1_ n2_ hb hk hi) | (go_at_call 44; (with_reducible refine (Bq.calls g s0_0 p2 p3 (a2.size : Int) (qn : Int) q2 q3 w0 _ ?side1 ?side2 AA2.out).mono ?_); (case side1 => repeat (first | (with_reducible first | exact HI0.out | apply Af.alloc | apply Af.drewN | apply Af.drew | apply Af.Dy | apply Af.Dx) | exact HI0.out)); (case side2 => repeat (first | (with_reducible first | exact HB.out | apply Ae | apply Ac | apply Ad | refine Ag ?_ (Af.ge HI0.out)) | exact HB.out)); rintro e w' ⟨rfl, hi, hb, hk⟩; have n0_ := Aa.mk (Bi.trans (by repeat (first | (with_reducible first | exact HK.out | apply Bi.E8 | apply C9 | apply Dl | apply Dc) | exact HK.out)) hk (.inl rfl)); have n1_ := Aa.mk hb; have n2_ := Aa.mk hi; clear HK HB HI0; have HK := n0_; have HB := n1_; have HI0 := n2_; clear n0_ n1_ n2_ hb hk hi) | (go_at_call 44; (with_reducible refine (Bq.calls g s0_0 q2 q3 3 0 _ _ w0 _ ?side1 ?side2 AA3.out).mono ?_); (case side1 => repeat (first | (with_reducible first | exact HI0.out | apply Af.alloc | apply Af.drewN | apply Af.drew | apply Af.Dy | apply Af.Dx) | exact HI0.out)); (case side2 => repeat (first | (with_reducible first | exact HB.out | apply Ae | apply Ac | apply Ad | refine Ag ?_ (Af.ge HI0.out)) | exact HB.out)); rintro e w' ⟨rfl, hi, hb, hk⟩; have n0_ := Aa.mk (Bi.trans (by repeat (first | (with_reducible first | exact HK.out | apply Bi.E8 | apply C9 | apply Dl | apply Dc) | exact HK.out)) hk (.inl rfl)); have n1_ := Aa.mk hb; have n2_ := Aa.mk hi; clear HK HB HI0; have HK := n0_; have HB := n1_; have HI0 := n2_; clear n0_ n1_ n2_ hb hk hi))
        have hC := CC.out
        have z0 : (9223372036854775807 < pn + 1) = False := eq_false (by omega)
        have z1 : (9223372036854775807 < pn + 1 + (a1.size - pn)) = False := eq_false (by omega)
        clear hC
        repeat (go_quiet (fail); try go_wp2)
        go_ret
        exact ⟨by first | rfl | (simp [*]; done), by repeat (first | (with_reducible first | exact HI0.out | apply Af.alloc | apply Af.drewN | apply Af.drew | apply Af.Dy | apply Af.Dx) | exact HI0.out), by repeat (first | (with_reducible first | exact HB.out | apply Ae | apply Ac | apply Ad | refine Ag ?_ (Af.ge HI0.out)) | exact HB.out), by repeat (first | (with_reducible first | exact HK.out | apply Bi.E8 | apply C9 | apply Dl | apply Dc) | exact HK.out)⟩
      · by_cases d1 : m = 1
        · subst d1
          have H2 := Aa.mk (HH.out.symm.trans ((if_neg d0).trans (if_pos rfl)))
          clear HH d0
          simp only [Prod.mk.injEq] at H2
          obtain ⟨rfl, rfl, rfl⟩ := H2.out
          clear H2
          go_enter Tryd.func41, Tryd.ntmps41
          go_wp2_with (first | (go_at_call 44; (with_reducible refine (Bq.calls g s0_0 s0_1 s0_2 (a1.size : Int) (pn : Int) p2 p3 w0 _ ?side1 ?side2 AA1.out).mono ?_); (case side1 => repeat (first | (with_reducible first | exact HI0.out | apply Af.alloc | apply Af.drewN | apply Af.drew | apply Af.Dy | apply Af.Dx) | exact HI0.out)); (case side2 => repeat (first | (with_reducible first | exact HB.out | apply Ae | apply Ac | apply Ad | refine Ag ?_ (Af.ge HI0.out)) | exact HB.out)); rintro e w' ⟨rfl, hi, hb, hk⟩; have n0_ := Aa.mk (Bi.trans (by repeat (first | (with_reducible first | exact HK.out | apply Bi.E8 | apply C9 | apply Dl | apply Dc) | exact HK.out)) hk (.inl rfl)); have n1_ := Aa.mk hb; have n2_ := Aa.mk hi; clear HK HB HI0; have HK := n0_; have HB := n1_; have HI0 := n2_; clear n0_ n1_ n2_ hb hk hi) | (go_at_call 44; (with_reducible refine (Bq.calls g s0_0 p2 p3 (a2.size : Int) (qn : Int) q2 q3 w0 _ ?side1 ?side2 AA2.out).mono ?_); (case side1 => repeat (first | (with_reducible first | exact HI0.out | apply Af.alloc | apply Af.drewN | apply Af.drew | apply Af.Dy | apply Af.Dx) | exact HI0.out)); (case side2 => repeat (first | (with_reducible first | exact HB.out | apply Ae | apply Ac | apply Ad | refine Ag ?_ (Af.ge HI0.out)) | exact HB.out)); rintro e w' ⟨rfl, hi, hb, hk⟩; have n0_ := Aa.mk (Bi.trans (by repeat (first | (with_reducible first | exact HK.out | apply Bi.E8 | apply C9 | apply Dl | apply Dc) | exact HK.out)) hk (.inl rfl)); have n1_ := Aa.mk hb; have n2_ := Aa.mk hi; clear HK HB HI0; have HK := n0_; have HB := n1_; have HI0 := n2_; clear n0_ n1_ n2_ hb hk hi) | (go_at_call 44; (with_reducible refine (Bq.calls g s0_0 q2 q3 3 1 _ _ w0 _ ?side1 ?side2 AA3.out).mono ?_); (case side1 => repeat (first | (with_reducible first | exact HI0.out | apply Af.alloc | apply Af.drewN | apply Af.drew | apply Af.Dy | apply Af.Dx) | exact HI0.out)); (case side2 => repeat (first | (with_reducible first | exact HB.out | apply Ae | apply Ac | apply Ad | refine Ag ?_ (Af.ge HI0.out)) | exact HB.out)); rintro e w' ⟨rfl, hi, hb, hk⟩; have n0_ := Aa.mk (Bi.trans (by repeat (first | (with_reducible first | exact HK.out | apply Bi.E8 | apply C9 | apply Dl | apply Dc) | exact HK.out)) hk (.inl rfl)); have n1_ := Aa.mk hb; have n2_ := Aa.mk hi; clear HK HB HI0; have HK := n0_; have HB := n1_; have HI0 := n2_; clear n0_ n1_ n2_ hb hk hi))
          have hC := CC.out
          have x5 := X5.out
          have x5b : ((pn : Int) + 1 ≤ (a1.size : Int)) = True := eq_true (by omega)
          have x5c : (0 ≤ (pn : Int) + 1) = True := eq_true (by omega)
          have x6 : ((pn : Int) + 1).toNat = pn + 1 := by omega
          have z0 : (9223372036854775807 < pn + 1) = False := eq_false (by omega)
          have z1 : (9223372036854775807 < pn + 1 + (a1.size - (pn + 1))) = False := eq_false (by omega)
          have z2 : (9223372036854775807 < a1.size) = False := eq_false (by omega)
          clear hC
          repeat (go_quiet (fail); try go_wp2)
          go_ret
          exact ⟨by first | rfl | (simp [*]; done), by repeat (first | (with_reducible first | exact HI0.out | apply Af.alloc | apply Af.drewN | apply Af.drew | apply Af.Dy | apply Af.Dx) | exact HI0.out), by repeat (first | (with_reducible first | exact HB.out | apply Ae | apply Ac | apply Ad | refine Ag ?_ (Af.ge HI0.out)) | exact HB.out), by repeat (first | (with_reducible first | exact HK.out | apply Bi.E8 | apply C9 | apply Dl | apply Dc) | exact HK.out)⟩
        · have H2 := Aa.mk (HH.out.symm.trans ((if_neg d0).trans (if_neg d1)))
          clear HH
          simp only [Prod.mk.injEq] at H2
          obtain ⟨rfl, rfl, rfl⟩ := H2.out
          clear H2
          have d0b : (m == 0) = false := beq_eq_false_iff_ne.mpr d0
          have d1b : (m == 1) = false := beq_eq_false_iff_ne.mpr d1
          clear d0 d1
          go_enter Tryd.func41, Tryd.ntmps41
          go_wp2_with (first | (go_at_call 44; (with_reducible refine (Bq.calls g s0_0 s0_1 s0_2 (a1.size : Int) (pn : Int) p2 p3 w0 _ ?side1 ?side2 AA1.out).mono ?_); (case side1 => repeat (first | (with_reducible first | exact HI0.out | apply Af.alloc | apply Af.drewN | apply Af.drew | apply Af.Dy | apply Af.Dx) | exact HI0.out)); (case side2 => repeat (first | (with_reducible first | exact HB.out | apply Ae | apply Ac | apply Ad | refine Ag ?_ (Af.ge HI0.out)) | exact HB.out)); rintro e w' ⟨rfl, hi, hb, hk⟩; have n0_ := Aa.mk (Bi.trans (by repeat (first | (with_reducible first | exact HK.out | apply Bi.E8 | apply C9 | apply Dl | apply Dc) | exact HK.out)) hk (.inl rfl)); have n1_ := Aa.mk hb; have n2_ := Aa.mk hi; clear HK HB HI0; have HK := n0_; have HB := n1_; have HI0 := n2_; clear n0_ n1_ n2_ hb hk hi) | (go_at_call 44; (with_reducible refine (Bq.calls g s0_0 p2 p3 (a2.size : Int) (qn : Int) q2 q3 w0 _ ?side1 ?side2 AA2.out).mono ?_); (case side1 => repeat (first | (with_reducible first | exact HI0.out | apply Af.alloc | apply Af.drewN | apply Af.drew | apply Af.Dy | apply Af.Dx) | exact HI0.out)); (case side2 => repeat (first | (with_reducible first | exact HB.out | apply Ae | apply Ac | apply Ad | refine Ag ?_ (Af.ge HI0.out)) | exact HB.out)); rintro e w' ⟨rfl, hi, hb, hk⟩; have n0_ := Aa.mk (Bi.trans (by repeat (first | (with_reducible first | exact HK.out | apply Bi.E8 | apply C9 | apply Dl | apply Dc) | exact HK.out)) hk (.inl rfl)); have n1_ := Aa.mk hb; have n2_ := Aa.mk hi; clear HK HB HI0; have HK := n0_; have HB := n1_; have HI0 := n2_; clear n0_ n1_ n2_ hb hk hi) | (go_at_call 44; (with_reducible refine (Bq.calls g s0_0 q2 q3 3 m _ _ w0 _ ?side1 ?side2 AA3.out).mono ?_); (case side1 => repeat (first | (with_reducible first | exact HI0.out | apply Af.alloc | apply Af.drewN | apply Af.drew | apply Af.Dy | apply Af.Dx) | exact HI0.out)); (case side2 => repeat (first | (with_reducible first | exact HB.out | apply Ae | apply Ac | apply Ad | refine Ag ?_ (Af.ge HI0.out)) | exact HB.out)); rintro e w' ⟨rfl, hi, hb, hk⟩; have n0_ := Aa.mk (Bi.trans (by repeat (first | (with_reducible first | exact HK.out | apply Bi.E8 | apply C9 | apply Dl | apply Dc) | exact HK.out)) hk (.inl rfl)); have n1_ := Aa.mk hb; have n2_ := Aa.mk hi; clear HK HB HI0; have HK := n0_; have HB := n1_; have HI0 := n2_; clear n0_ n1_ n2_ hb hk hi))
          have hC := CC.out
          have x5 := X5.out
          have x5b : ((pn : Int) + 1 ≤ (a1.size : Int)) = True := eq_true (by omega)
          have x5c : (0 ≤ (pn : Int) + 1) = True := eq_true (by omega)
          have x6 : ((pn : Int) + 1).toNat = pn + 1 := by omega
          have z0 : (9223372036854775807 < pn + (a1.size - (pn + 1))) = False := eq_false (by omega)
          clear hC
          repeat (go_quiet (fail); try go_wp2)
          go_ret
          exact ⟨by first | rfl | (simp [*]; done), by repeat (first | (with_reducible first | exact HI0.out | apply Af.alloc | apply Af.drewN | apply Af.drew | apply Af.Dy | apply Af.Dx) | exact HI0.out), by repeat (first | (with_reducible first | exact HB.out | apply Ae | apply Ac | apply Ad | refine Ag ?_ (Af.ge HI0.out)) | exact HB.out), by repeat (first | (with_reducible first | exact HK.out | apply Bi.E8 | apply C9 | apply Dl | apply Dc) | exact HK.out)⟩
    · rw [if_neg c] at h; cases h
end Go.Proofs.YtpalafegcndccaaDoor.X

namespace Go.Proofs.YtpalafegcndccaaDoor.X
open Go.RowKit Go.Proofs.YtpalafegcndccaaDoorW.PrintWords Go.Proofs.YtpalafegcndccaaDoorW.PrintLast Go.Proofs.YtpalafegcndccaaDoorW.PrintMore
attribute [local go_sem] Ej Eg Eu Ew D9 D8 Ei Eh
open Go.Proofs.YtpalafegcndccaaDoorG
def Ec.f (k : Nat) (l0 : List Int) : Option (ByteArray) := (Bg.f k l0 0 0).bind fun bt399 => ((Dn.f k bt399.1).bind fun t404 => ((Fj.f l0 bt399.2.1 bt399.2.2 4).bind fun bt405 => (if bt405.1 = true then ((Gf.f l0 bt405.2.1 bt405.2.2 t404 (⟨#[49, 32, 97, 10, 103, 97, 116, 101]⟩ : ByteArray)).bind fun bt408 => (some bt408.1)) else (some t404))))
theorem Ec.mono : ∀ a0 k, LeO (Ec.f k a0) (Ec.f (k + 1) a0) := by
  intro a0 k
  unfold Ec.f
  repeat' first
      | (with_reducible exact Bg.mono _ _ _ _)
      | (with_reducible exact Dn.mono _ _)
      | (with_reducible exact LeO.refl _)
      | (with_reducible exact LeO.none _)
      | (with_reducible refine LeO.ite ?_ ?_)
      | (with_reducible refine LeO.bind ?_ (fun _ => ?_))
      | exact Bg.mono _ _ _ _
      | exact Dn.mono _ _
      | exact LeO.none _
      | refine LeO.ite ?_ ?_
      | refine LeO.bind ?_ (fun _ => ?_)
set_option maxHeartbeats 8000000 in
set_option maxRecDepth 100000 in
theorem Ec.calls (k : Nat) (A0 : Option Addr) (c0 : Nat) (l0 : List Int) (r : ByteArray) (w : World) (hr0 : Kd.C (Kd.int .u8) w A0 l0.length l0) (hc0 : l0.length ≤ c0) (h : Ec.f k l0 = some r) :
    Calls Tryd.prog 19 #[.slice A0 l0.length c0] w fun e w' => e = .returned (.string r) ∧ Below w.heap.size w w' := by
  have hu69 := Tryd.underlying69
  have HR0 := Aa.mk hr0
  have HC0 := Aa.mk hc0
  clear hr0 hc0
  have HB := Aa.mk (Below.refl w.heap.size w)
  have H : ((Bg.f k l0 0 0).bind fun bt399 => ((Dn.f k bt399.1).bind fun t404 => ((Fj.f l0 bt399.2.1 bt399.2.2 4).bind fun bt405 => (if bt405.1 = true then ((Gf.f l0 bt405.2.1 bt405.2.2 t404 (⟨#[49, 32, 97, 10, 103, 97, 116, 101]⟩ : ByteArray)).bind fun bt408 => (some bt408.1)) else (some t404))))) = some r := h
  clear h
  replace H := Option.bind_eq_some_iff.mp H
  obtain ⟨⟨t399, t402, t403⟩, A20, H⟩ := H
  replace H : ((Dn.f k t399).bind fun t404 => ((Fj.f l0 t402 t403 4).bind fun bt405 => (if bt405.1 = true then ((Gf.f l0 bt405.2.1 bt405.2.2 t404 (⟨#[49, 32, 97, 10, 103, 97, 116, 101]⟩ : ByteArray)).bind fun bt408 => (some bt408.1)) else (some t404)))) = some r := H
  have A2 := Aa.mk A20
  clear A20
  replace H := Option.bind_eq_some_iff.mp H
  obtain ⟨t404, A30, H⟩ := H
  replace H : ((Fj.f l0 t402 t403 4).bind fun bt405 => (if bt405.1 = true then ((Gf.f l0 bt405.2.1 bt405.2.2 t404 (⟨#[49, 32, 97, 10, 103, 97, 116, 101]⟩ : ByteArray)).bind fun bt408 => (some bt408.1)) else (some t404))) = some r := H
  have A3 := Aa.mk A30
  clear A30
  replace H := Option.bind_eq_some_iff.mp H
  obtain ⟨⟨t405, t406, t407⟩, A40, H⟩ := H
  replace H : (if t405 = true then ((Gf.f l0 t406 t407 t404 (⟨#[49, 32, 97, 10, 103, 97, 116, 101]⟩ : ByteArray)).bind fun bt408 => (some bt408.1)) else (some t404)) = some r := H
  have A4 := Aa.mk A40
  clear A40
  by_cases c5 : t405 = true
  · subst c5
    have H1 : ((Gf.f l0 t406 t407 t404 (⟨#[49, 32, 97, 10, 103, 97, 116, 101]⟩ : ByteArray)).bind fun bt408 => (some bt408.1)) = some r := by rw [if_pos rfl] at H; exact H
    clear H
    have H := H1
    clear H1
    replace H := Option.bind_eq_some_iff.mp H
    obtain ⟨⟨t408, t409, t410⟩, A60, H⟩ := H
    replace H : (some t408) = some r := H
    have A6 := Aa.mk A60
    clear A60
    obtain rfl := Option.some.inj H
    go_enter Tryd.func19, Tryd.ntmps19
    go_wp2_with (first | ((with_reducible refine D7 (N := 7) rfl ?_); refine Es ?hg (N := 7) ?hd (cs := #[.slice A0 l0.length c0, .int .i64 0, .int .u64 0]) (t := 69) ?hr ?_; (case hd => rfl); (case hg => rfl); (case hr => first | (go_simp; done) | (go_simp; rfl)); intro gb398 hg w7 hbox hb; have n0_ := Aa.mk (Ap (by repeat (first | (with_reducible first | exact HB.out | apply Ae | apply Ac | apply Ad) | exact HB.out)) hb); have n1_ := Aa.mk ((by rw [hg]; exact (Aq (by repeat (first | (with_reducible first | exact HB.out | apply Ae | apply Ac | apply Ad) | exact HB.out))) : w.heap.size ≤ gb398)); have n2_ := Aa.mk ((by rw [hg]; exact (Aq (by repeat (first | (with_reducible first | exact HB.out | apply Ae | apply Ac | apply Ad) | exact HB.out))) : w.heap.size ≤ gb398)); have n3_ := Aa.mk ((⟨_, _, hbox, (by rw [hg]; exact (Aq (by repeat (first | (with_reducible first | exact HB.out | apply Ae | apply Ac | apply Ad) | exact HB.out)))), HR0.out⟩ : Af w w7 gb398 l0 0 0)); clear HB; have HB := n0_; have GW398 := n1_; have GE398 := n2_; have HI398 := n3_; clear n0_ n1_ n2_ n3_; clear hb hbox hg) | ((with_reducible refine Bv (f := 39) rfl ?_); refine D5 (some 9) rfl rfl Tryd.func39 (by kernel_rfl) rfl #[.pointer (some ⟨gb398, 0, none⟩)] rfl (by (try simp only [List.map_toArray, List.map_cons, List.map_nil]); first | done | rfl | (simp only [List.length_drop, List.length_take]; rfl)) ?_; (with_reducible refine (Bg.calls k gb398 l0 0 0 t399 t402 t403 w _ ?side1 ?side2 A2.out).mono ?_); (case side1 => repeat (first | (with_reducible first | exact HI398.out | apply Af.alloc | apply Af.drewN | apply Af.drew | apply Af.Dy | apply Af.Dx) | exact HI398.out)); (case side2 => repeat (first | (with_reducible first | exact HB.out | apply Ae | apply Ac | apply Ad | refine Ag ?_ (Af.ge HI398.out)) | exact HB.out)); rintro e w8 ⟨v400, rfl, ho0, hi, hb, hk⟩; refine ⟨_, rfl, ?_⟩; have n0_ := Aa.mk (Kd.Du ho0 (Aq (by repeat (first | (with_reducible first | exact HB.out | apply Ae | apply Ac | apply Ad | refine Ag ?_ (Af.ge HI398.out)) | exact HB.out)))); have n1_ := Aa.mk (hb); have n2_ := Aa.mk (hi); clear HB; clear HI398; have HO401 := n0_; have HB := n1_; have HI398 := n2_; clear n0_ n1_ n2_; (try clear hb); (try clear hb2); (try clear hk); (try clear hi); (try clear ho0); obtain ⟨Ao9, co9, eo9⟩ := Kd.Ef HO401.out; subst eo9) | ((with_reducible refine Bv (f := 26) rfl ?_); refine D5 (some 10) rfl rfl Tryd.func26 (by kernel_rfl) rfl #[.slice Ao9 t399.length co9] rfl (by (try simp only [List.map_toArray, List.map_cons, List.map_nil]); first | done | rfl | (simp only [List.length_drop, List.length_take]; rfl)) ?_; (with_reducible refine (Dn.calls k _ _ t399 t404 _ ?side1 ?side2 A3.out).mono ?_); (case side1 => repeat (first | exact (Kd.Ba HO401.out).2.2 | (with_reducible refine Kd.Ci ?_ _) | (with_reducible refine Kd.Cf ?_ _) | (with_reducible refine Kd.Di ?_))); (case side2 => exact (Kd.Ba HO401.out).2.1); rintro e w10 ⟨rfl, hb⟩; refine ⟨_, rfl, ?_⟩; have n0_ := Aa.mk (Kd.Dk (by (with_reducible repeat (first | apply Kd.Ah | apply Kd.Ai | apply Kd.Ak)); exact HO401.out) hb); have n1_ := Aa.mk (Af.below (by repeat (first | (with_reducible first | exact HI398.out | apply Af.alloc | apply Af.drewN | apply Af.drew | apply Af.Dy | apply Af.Dx) | exact HI398.out)) hb); have n2_ := Aa.mk (Ap (by repeat (first | (with_reducible first | exact HB.out | apply Ae | apply Ac | apply Ad | refine Ag ?_ (Af.ge HI398.out)) | exact HB.out)) hb); clear HO401; clear HI398; clear HB; have HO401 := n0_; have HI398 := n1_; have HB := n2_; clear n0_ n1_ n2_; (try clear hb); (try clear hb2); (try clear hk); (try clear hi)) | ((with_reducible refine Bv (f := 40) rfl ?_); refine D5 (some 12) rfl rfl Tryd.func40 (by kernel_rfl) rfl #[.pointer (some ⟨gb398, 0, none⟩), .int .i64 4] rfl (by (try simp only [List.map_toArray, List.map_cons, List.map_nil]); first | done | rfl | (simp only [List.length_drop, List.length_take]; rfl)) ?_; (with_reducible refine (Fj.calls gb398 l0 t402 t403 4 true t406 t407 w _ ?side1 ?side2 A4.out).mono ?_); (case side1 => repeat (first | (with_reducible first | exact HI398.out | apply Af.alloc | apply Af.drewN | apply Af.drew | apply Af.Dy | apply Af.Dx) | exact HI398.out)); (case side2 => repeat (first | (with_reducible first | exact HB.out | apply Ae | apply Ac | apply Ad | refine Ag ?_ (Af.ge HI398.out)) | exact HB.out)); rintro e w11 ⟨rfl, hi, hb, hk⟩; refine ⟨_, rfl, ?_⟩; have n0_ := Aa.mk (Kd.R_mono (Kd.Gl (Af.apart (show Af w _ gb398 l0 t402 t403 from by repeat (first | (with_reducible first | exact HI398.out | apply Af.alloc | apply Af.drewN | apply Af.drew | apply Af.Dy | apply Af.Dx) | exact HI398.out)) (by (with_reducible repeat (first | apply Kd.Ah | apply Kd.Ai | apply Kd.Ak)); exact HO401.out) (by decide)) hk (fun _ h => h.2)) (fun _ h => h.1)); have n1_ := Aa.mk (hb); have n2_ := Aa.mk (hi); clear HO401; clear HB; clear HI398; have HO401 := n0_; have HB := n1_; have HI398 := n2_; clear n0_ n1_ n2_; (try clear hb); (try clear hb2); (try clear hk); (try clear hi)) | ((with_reducible refine Bv (f := 41) rfl ?_); refine D5 (some 15) rfl rfl Tryd.func41 (by kernel_rfl) rfl #[.pointer (some ⟨gb398, 0, none⟩), .string t404, .string (⟨#[49, 32, 97, 10, 103, 97, 116, 101]⟩ : ByteArray)] rfl (by (try simp only [List.map_toArray, List.map_cons, List.map_nil]); first | done | rfl | (simp only [List.length_drop, List.length_take]; rfl)) ?_; (with_reducible refine (Gf.calls gb398 l0 t406 t407 t404 (⟨#[49, 32, 97, 10, 103, 97, 116, 101]⟩ : ByteArray) t408 t409 t410 w _ ?side1 ?side2 A6.out).mono ?_); (case side1 => repeat (first | (with_reducible first | exact HI398.out | apply Af.alloc | apply Af.drewN | apply Af.drew | apply Af.Dy | apply Af.Dx) | exact HI398.out)); (case side2 => repeat (first | (with_reducible first | exact HB.out | apply Ae | apply Ac | apply Ad | refine Ag ?_ (Af.ge HI398.out)) | exact HB.out)); rintro e w12 ⟨rfl, hi, hb, hk⟩; refine ⟨_, rfl, ?_⟩; have n0_ := Aa.mk (Kd.R_mono (Kd.Gl (Af.apart (show Af w _ gb398 l0 t406 t407 from by repeat (first | (with_reducible first | exact HI398.out | apply Af.alloc | apply Af.drewN | apply Af.drew | apply Af.Dy | apply Af.Dx) | exact HI398.out)) (by (with_reducible repeat (first | apply Kd.Ah | apply Kd.Ai | apply Kd.Ak)); exact HO401.out) (by decide)) hk (fun _ h => h.2)) (fun _ h => h.1)); have n1_ := Aa.mk (hb); have n2_ := Aa.mk (hi); clear HO401; clear HB; clear HI398; have HO401 := n0_; have HB := n1_; have HI398 := n2_; clear n0_ n1_ n2_; (try clear hb); (try clear hb2); (try clear hk); (try clear hi)))
    go_ret
    exact ⟨by first | rfl | (simp [Be, Bf] <;> rfl) | (simp [*, Be, Bf] <;> rfl), by repeat (first | (with_reducible first | exact HB.out | apply Ae | apply Ac | apply Ad | refine Ag ?_ (Af.ge HI398.out)) | exact HB.out)⟩
  · replace c5 := Bool.eq_false_iff.mpr c5
    subst c5
    have H1 : (some t404) = some r := by rw [if_neg (show ¬ (false = true) by decide)] at H; exact H
    clear H
    have H := H1
    clear H1
    obtain rfl := Option.some.inj H
    go_enter Tryd.func19, Tryd.ntmps19
    go_wp2_with (first | ((with_reducible refine D7 (N := 7) rfl ?_); refine Es ?hg (N := 7) ?hd (cs := #[.slice A0 l0.length c0, .int .i64 0, .int .u64 0]) (t := 69) ?hr ?_; (case hd => rfl); (case hg => rfl); (case hr => first | (go_simp; done) | (go_simp; rfl)); intro gb398 hg w13 hbox hb; have n0_ := Aa.mk (Ap (by repeat (first | (with_reducible first | exact HB.out | apply Ae | apply Ac | apply Ad) | exact HB.out)) hb); have n1_ := Aa.mk ((by rw [hg]; exact (Aq (by repeat (first | (with_reducible first | exact HB.out | apply Ae | apply Ac | apply Ad) | exact HB.out))) : w.heap.size ≤ gb398)); have n2_ := Aa.mk ((by rw [hg]; exact (Aq (by repeat (first | (with_reducible first | exact HB.out | apply Ae | apply Ac | apply Ad) | exact HB.out))) : w.heap.size ≤ gb398)); have n3_ := Aa.mk ((⟨_, _, hbox, (by rw [hg]; exact (Aq (by repeat (first | (with_reducible first | exact HB.out | apply Ae | apply Ac | apply Ad) | exact HB.out)))), HR0.out⟩ : Af w w13 gb398 l0 0 0)); clear HB; have HB := n0_; have GW398 := n1_; have GE398 := n2_; have HI398 := n3_; clear n0_ n1_ n2_ n3_; clear hb hbox hg) | ((with_reducible refine Bv (f := 39) rfl ?_); refine D5 (some 9) rfl rfl Tryd.func39 (by kernel_rfl) rfl #[.pointer (some ⟨gb398, 0, none⟩)] rfl (by (try simp only [List.map_toArray, List.map_cons, List.map_nil]); first | done | rfl | (simp only [List.length_drop, List.length_take]; rfl)) ?_; (with_reducible refine (Bg.calls k gb398 l0 0 0 t399 t402 t403 w _ ?side1 ?side2 A2.out).mono ?_); (case side1 => repeat (first | (with_reducible first | exact HI398.out | apply Af.alloc | apply Af.drewN | apply Af.drew | apply Af.Dy | apply Af.Dx) | exact HI398.out)); (case side2 => repeat (first | (with_reducible first | exact HB.out | apply Ae | apply Ac | apply Ad | refine Ag ?_ (Af.ge HI398.out)) | exact HB.out)); rintro e w14 ⟨v400, rfl, ho0, hi, hb, hk⟩; refine ⟨_, rfl, ?_⟩; have n0_ := Aa.mk (Kd.Du ho0 (Aq (by repeat (first | (with_reducible first | exact HB.out | apply Ae | apply Ac | apply Ad | refine Ag ?_ (Af.ge HI398.out)) | exact HB.out)))); have n1_ := Aa.mk (hb); have n2_ := Aa.mk (hi); clear HB; clear HI398; have HO401 := n0_; have HB := n1_; have HI398 := n2_; clear n0_ n1_ n2_; (try clear hb); (try clear hb2); (try clear hk); (try clear hi); (try clear ho0); obtain ⟨Ao15, co15, eo15⟩ := Kd.Ef HO401.out; subst eo15) | ((with_reducible refine Bv (f := 26) rfl ?_); refine D5 (some 10) rfl rfl Tryd.func26 (by kernel_rfl) rfl #[.slice Ao15 t399.length co15] rfl (by (try simp only [List.map_toArray, List.map_cons, List.map_nil]); first | done | rfl | (simp only [List.length_drop, List.length_take]; rfl)) ?_; (with_reducible refine (Dn.calls k _ _ t399 t404 _ ?side1 ?side2 A3.out).mono ?_); (case side1 => repeat (first | exact (Kd.Ba HO401.out).2.2 | (with_reducible refine Kd.Ci ?_ _) | (with_reducible refine Kd.Cf ?_ _) | (with_reducible refine Kd.Di ?_))); (case side2 => exact (Kd.Ba HO401.out).2.1); rintro e w16 ⟨rfl, hb⟩; refine ⟨_, rfl, ?_⟩; have n0_ := Aa.mk (Kd.Dk (by (with_reducible repeat (first | apply Kd.Ah | apply Kd.Ai | apply Kd.Ak)); exact HO401.out) hb); have n1_ := Aa.mk (Af.below (by repeat (first | (with_reducible first | exact HI398.out | apply Af.alloc | apply Af.drewN | apply Af.drew | apply Af.Dy | apply Af.Dx) | exact HI398.out)) hb); have n2_ := Aa.mk (Ap (by repeat (first | (with_reducible first | exact HB.out | apply Ae | apply Ac | apply Ad | refine Ag ?_ (Af.ge HI398.out)) | exact HB.out)) hb); clear HO401; clear HI398; clear HB; have HO401 := n0_; have HI398 := n1_; have HB := n2_; clear n0_ n1_ n2_; (try clear hb); (try clear hb2); (try clear hk); (try clear hi)) | ((with_reducible refine Bv (f := 40) rfl ?_); refine D5 (some 12) rfl rfl Tryd.func40 (by kernel_rfl) rfl #[.pointer (some ⟨gb398, 0, none⟩), .int .i64 4] rfl (by (try simp only [List.map_toArray, List.map_cons, List.map_nil]); first | done | rfl | (simp only [List.length_drop, List.length_take]; rfl)) ?_; (with_reducible refine (Fj.calls gb398 l0 t402 t403 4 false t406 t407 w _ ?side1 ?side2 A4.out).mono ?_); (case side1 => repeat (first | (with_reducible first | exact HI398.out | apply Af.alloc | apply Af.drewN | apply Af.drew | apply Af.Dy | apply Af.Dx) | exact HI398.out)); (case side2 => repeat (first | (with_reducible first | exact HB.out | apply Ae | apply Ac | apply Ad | refine Ag ?_ (Af.ge HI398.out)) | exact HB.out)); rintro e w17 ⟨rfl, hi, hb, hk⟩; refine ⟨_, rfl, ?_⟩; have n0_ := Aa.mk (Kd.R_mono (Kd.Gl (Af.apart (show Af w _ gb398 l0 t402 t403 from by repeat (first | (with_reducible first | exact HI398.out | apply Af.alloc | apply Af.drewN | apply Af.drew | apply Af.Dy | apply Af.Dx) | exact HI398.out)) (by (with_reducible repeat (first | apply Kd.Ah | apply Kd.Ai | apply Kd.Ak)); exact HO401.out) (by decide)) hk (fun _ h => h.2)) (fun _ h => h.1)); have n1_ := Aa.mk (hb); have n2_ := Aa.mk (hi); clear HO401; clear HB; clear HI398; have HO401 := n0_; have HB := n1_; have HI398 := n2_; clear n0_ n1_ n2_; (try clear hb); (try clear hb2); (try clear hk); (try clear hi)))
    go_ret
    exact ⟨by first | rfl | (simp [Be, Bf] <;> rfl) | (simp [*, Be, Bf] <;> rfl), by repeat (first | (with_reducible first | exact HB.out | apply Ae | apply Ac | apply Ad | refine Ag ?_ (Af.ge HI398.out)) | exact HB.out)⟩
end Go.Proofs.YtpalafegcndccaaDoor.X

namespace Go.Proofs.YtpalafegcndccaaDoor.X
open Go.RowKit Go.Proofs.YtpalafegcndccaaDoorW.PrintWords Go.Proofs.YtpalafegcndccaaDoorW.PrintLast Go.Proofs.YtpalafegcndccaaDoorW.PrintMore
attribute [local go_sem] Ej Eg Eu Ew D9 D8 Ei Eh
open Go.Proofs.YtpalafegcndccaaDoorG
def Ey.f (k : Nat) (l0 : List Int) : Option ((List (S40)) × Int × Int) := (Am.f k l0 0 0).bind fun bt413 => (if (bt413.1.length : Int) > 0 then (if 0 ≤ (wrap64 ((bt413.1.length : Int) - 1)) then (if (wrap64 ((bt413.1.length : Int) - 1)) < (bt413.1.length : Int) then ((Eo.f l0 bt413.2.1 bt413.2.2 (([0, 1, 5, (-1)] : List Int))).bind fun bt422 => ((Bq.f l0 bt422.2.1 bt422.2.2 8).bind fun bt425 => (some (bt413.1, wrap64 (((Bc bt413.1 (wrap64 ((bt413.1.length : Int) - 1))).f0) + bt422.1), bt425.1)))) else (none)) else (none)) else ((Eo.f l0 bt413.2.1 bt413.2.2 (([0, 1, 5, (-1)] : List Int))).bind fun bt431 => ((Bq.f l0 bt431.2.1 bt431.2.2 8).bind fun bt434 => (some (bt413.1, wrap64 (bt431.1), bt434.1)))))
theorem Ey.mono : ∀ a0 k, LeO (Ey.f k a0) (Ey.f (k + 1) a0) := by
  intro a0 k
  unfold Ey.f
  repeat' first
      | (with_reducible exact Am.mono _ _ _ _)
      | (with_reducible exact LeO.refl _)
      | (with_reducible exact LeO.none _)
      | (with_reducible refine LeO.ite ?_ ?_)
      | (with_reducible refine LeO.bind ?_ (fun _ => ?_))
      | exact Am.mono _ _ _ _
      | exact LeO.none _
      | refine LeO.ite ?_ ?_
      | refine LeO.bind ?_ (fun _ => ?_)
set_option maxHeartbeats 8000000 in
set_option maxRecDepth 100000 in
theorem Ey.calls (k : Nat) (A0 : Option Addr) (c0 : Nat) (l0 : List Int) (r1 : List (S40)) (r2 : Int) (r3 : Int) (w : World) (hr0 : Kd.C (Kd.int .u8) w A0 l0.length l0) (hc0 : l0.length ≤ c0) (h : Ey.f k l0 = some (r1, r2, r3)) :
    Calls Tryd.prog 20 #[.slice A0 l0.length c0] w fun e w' => ∃ v0_ : Value, e = .returned (.tuple #[v0_, .agg #[.int .i64 r2, .int .i64 r3]]) ∧ Kd.R k40 40 w' w.heap.size (fun _ => True) v0_ r1 ∧ Below w.heap.size w w' := by
  have hu40 := Tryd.underlying40
  have hu69 := Tryd.underlying69
  have HR0 := Aa.mk hr0
  have HC0 := Aa.mk hc0
  clear hr0 hc0
  have HB := Aa.mk (Below.refl w.heap.size w)
  have H : ((Am.f k l0 0 0).bind fun bt413 => (if (bt413.1.length : Int) > 0 then (if 0 ≤ (wrap64 ((bt413.1.length : Int) - 1)) then (if (wrap64 ((bt413.1.length : Int) - 1)) < (bt413.1.length : Int) then ((Eo.f l0 bt413.2.1 bt413.2.2 (([0, 1, 5, (-1)] : List Int))).bind fun bt422 => ((Bq.f l0 bt422.2.1 bt422.2.2 8).bind fun bt425 => (some (bt413.1, wrap64 (((Bc bt413.1 (wrap64 ((bt413.1.length : Int) - 1))).f0) + bt422.1), bt425.1)))) else (none)) else (none)) else ((Eo.f l0 bt413.2.1 bt413.2.2 (([0, 1, 5, (-1)] : List Int))).bind fun bt431 => ((Bq.f l0 bt431.2.1 bt431.2.2 8).bind fun bt434 => (some (bt413.1, wrap64 (bt431.1), bt434.1)))))) = some (r1, r2, r3) := h
  clear h
  replace H := Option.bind_eq_some_iff.mp H
  obtain ⟨⟨t413, t416, t417⟩, A20, H⟩ := H
  replace H : (if (t413.length : Int) > 0 then (if 0 ≤ (wrap64 ((t413.length : Int) - 1)) then (if (wrap64 ((t413.length : Int) - 1)) < (t413.length : Int) then ((Eo.f l0 t416 t417 (([0, 1, 5, (-1)] : List Int))).bind fun bt422 => ((Bq.f l0 bt422.2.1 bt422.2.2 8).bind fun bt425 => (some (t413, wrap64 (((Bc t413 (wrap64 ((t413.length : Int) - 1))).f0) + bt422.1), bt425.1)))) else (none)) else (none)) else ((Eo.f l0 t416 t417 (([0, 1, 5, (-1)] : List Int))).bind fun bt431 => ((Bq.f l0 bt431.2.1 bt431.2.2 8).bind fun bt434 => (some (t413, wrap64 (bt431.1), bt434.1))))) = some (r1, r2, r3) := H
  have A2 := Aa.mk A20
  clear A20
  by_cases c3 : (t413.length : Int) > 0
  · rw [if_pos c3] at H
    have c3b0 : decide (0 < (t413.length : Int)) = true := decide_eq_true c3
    have c3b1 : decide (0 < t413.length) = true := decide_eq_true (by omega)
    clear c3
    obtain ⟨ji4, hji4⟩ : ∃ j_ : Int, (wrap64 ((t413.length : Int) - 1)) = j_ := ⟨_, rfl⟩
    replace H : (if 0 ≤ (ji4) then (if (ji4) < (t413.length : Int) then ((Eo.f l0 t416 t417 (([0, 1, 5, (-1)] : List Int))).bind fun bt422 => ((Bq.f l0 bt422.2.1 bt422.2.2 8).bind fun bt425 => (some (t413, wrap64 (((Bc t413 (ji4)).f0) + bt422.1), bt425.1)))) else (none)) else (none)) = some (r1, r2, r3) := by first | (rw [hji4] at H; exact H) | (simp only [hji4] at H ⊢; exact H)
    (try rw [hji4] at A2)
    have hji4w : (IntKind.i64.wrap ((t413.length : Int) - 1)) = ji4 := (Dh _).trans hji4
    by_cases c5 : 0 ≤ (ji4)
    · rw [if_pos c5] at H
      have c5b0 : decide (0 ≤ (ji4)) = true := decide_eq_true c5
      clear c5
      by_cases c6 : (ji4) < (t413.length : Int)
      · rw [if_pos c6] at H
        have c6b0 : decide ((ji4) < (t413.length : Int)) = true := decide_eq_true c6
        clear c6
        obtain ⟨y419, hy419⟩ : ∃ y_ : List Int, y_ = (([0, 1, 5, (-1)] : List Int)) := ⟨_, rfl⟩
        replace H : ((Eo.f l0 t416 t417 y419).bind fun bt422 => ((Bq.f l0 bt422.2.1 bt422.2.2 8).bind fun bt425 => (some (t413, wrap64 (((Bc t413 (ji4)).f0) + bt422.1), bt425.1)))) = some (r1, r2, r3) := by first | (rw [hy419]; with_reducible exact H) | (have H2_ := (Option.bind_some _ _).symm.trans H; rw [hy419]; with_reducible exact H2_) | (have H2_ := (Option.bind_some _ _).symm.trans H; with_reducible exact H2_) | with_reducible exact H | (rw [hy419]; exact H) | exact H
        have Ny419 := Aa.mk hy419
        clear hy419
        replace H := Option.bind_eq_some_iff.mp H
        obtain ⟨⟨t422, t423, t424⟩, A70, H⟩ := H
        replace H : ((Bq.f l0 t423 t424 8).bind fun bt425 => (some (t413, wrap64 (((Bc t413 (ji4)).f0) + t422), bt425.1))) = some (r1, r2, r3) := H
        have A7 := Aa.mk A70
        clear A70
        replace H := Option.bind_eq_some_iff.mp H
        obtain ⟨⟨t425, t426, t427⟩, A80, H⟩ := H
        replace H : (some (t413, wrap64 (((Bc t413 (ji4)).f0) + t422), t425)) = some (r1, r2, r3) := H
        have A8 := Aa.mk A80
        clear A80
        simp only [Option.some.injEq, Prod.mk.injEq] at H
        obtain ⟨rfl, rfl, rfl⟩ := H
        go_enter Tryd.func20, Tryd.ntmps20
        go_wp2_with (first | ((with_reducible refine D7 (N := 3) rfl ?_); refine Es ?hg (N := 3) ?hd (cs := #[.int .i64 0, .int .i64 0]) (t := 40) ?hr ?_; (case hd => rfl); (case hg => rfl); (case hr => first | (go_simp; done) | (go_simp; rfl)); intro gb411 hg w9 hbox hb; have n0_ := Aa.mk (Ap (by repeat (first | (with_reducible first | exact HB.out | apply Ae | apply Ac | apply Ad) | exact HB.out)) hb); have n1_ := Aa.mk (hbox); have n2_ := Aa.mk ((by rw [hg]; exact (Aq (by repeat (first | (with_reducible first | exact HB.out | apply Ae | apply Ac | apply Ad) | exact HB.out))) : w.heap.size ≤ gb411)); have n3_ := Aa.mk ((by rw [hg]; exact (Aq (by repeat (first | (with_reducible first | exact HB.out | apply Ae | apply Ac | apply Ad) | exact HB.out))) : w.heap.size ≤ gb411)); clear HB; have HB := n0_; have BK411 := n1_; have GW411 := n2_; have GE411 := n3_; clear n0_ n1_ n2_ n3_; clear hb hbox hg) | ((with_reducible refine D7 (N := 9) rfl ?_); refine Es ?hg (N := 9) ?hd (cs := #[.slice A0 l0.length c0, .int .i64 0, .int .u64 0]) (t := 69) ?hr ?_; (case hd => rfl); (case hg => rfl); (case hr => first | (go_simp; done) | (go_simp; rfl)); intro gb412 hg w10 hbox hb; have n0_ := Aa.mk (Dv (g := gb411) (o := .cells #[.int .i64 0, .int .i64 0] 40 (0, 0)) (by (with_reducible repeat (first | refine Au ?_ _ | refine Az ?_ | refine Ar ?_ _)); exact BK411.out) hb); have n1_ := Aa.mk (Ap (by repeat (first | (with_reducible first | exact HB.out | apply Ae | apply Ac | apply Ad | refine Ag ?_ GE411.out) | exact HB.out)) hb); have n2_ := Aa.mk ((by rw [hg]; exact (Aq (by repeat (first | (with_reducible first | exact HB.out | apply Ae | apply Ac | apply Ad | refine Ag ?_ GE411.out) | exact HB.out))) : w.heap.size ≤ gb412)); have n3_ := Aa.mk ((by rw [hg]; exact (Aq (by repeat (first | (with_reducible first | exact HB.out | apply Ae | apply Ac | apply Ad | refine Ag ?_ GE411.out) | exact HB.out))) : w.heap.size ≤ gb412)); have n4_ := Aa.mk ((by rw [hg]; exact Nat.ne_of_lt (He (g := gb411) (o := .cells #[.int .i64 0, .int .i64 0] 40 (0, 0)) (by (with_reducible repeat (first | refine Au ?_ _ | refine Az ?_ | refine Ar ?_ _)); exact BK411.out)) : gb411 ≠ gb412)); have n5_ := Aa.mk ((by rw [hg]; exact Nat.ne_of_gt (He (g := gb411) (o := .cells #[.int .i64 0, .int .i64 0] 40 (0, 0)) (by (with_reducible repeat (first | refine Au ?_ _ | refine Az ?_ | refine Ar ?_ _)); exact BK411.out)) : gb412 ≠ gb411)); have n6_ := Aa.mk ((⟨_, _, hbox, (by rw [hg]; exact (Aq (by repeat (first | (with_reducible first | exact HB.out | apply Ae | apply Ac | apply Ad | refine Ag ?_ GE411.out) | exact HB.out)))), HR0.out⟩ : Af w w10 gb412 l0 0 0)); clear BK411; clear HB; have BK411 := n0_; have HB := n1_; have GW412 := n2_; have GE412 := n3_; have NB411_412 := n4_; have NB412_411 := n5_; have HI412 := n6_; clear n0_ n1_ n2_ n3_ n4_ n5_ n6_; clear hb hbox hg) | ((with_reducible refine Bv (f := 42) rfl ?_); refine D5 (some 11) rfl rfl Tryd.func42 (by kernel_rfl) rfl #[.pointer (some ⟨gb412, 0, none⟩)] rfl (by (try simp only [List.map_toArray, List.map_cons, List.map_nil]); first | done | rfl | (simp only [List.length_drop, List.length_take]; rfl)) ?_; (with_reducible refine (Am.calls k gb412 l0 0 0 t413 t416 t417 w _ ?side1 ?side2 A2.out).mono ?_); (case side1 => repeat (first | (with_reducible first | exact HI412.out | apply Af.alloc | apply Af.drewN | apply Af.drew | apply Af.Dy | apply Af.Dx | refine Af.far ?_ NB412_411.out _) | exact HI412.out)); (case side2 => repeat (first | (with_reducible first | exact HB.out | apply Ae | apply Ac | apply Ad | refine Ag ?_ (Af.ge HI412.out) | refine Ag ?_ GE411.out) | exact HB.out)); rintro e w11 ⟨v414, rfl, ho0, hi, hb, hk⟩; refine ⟨_, rfl, ?_⟩; have n0_ := Aa.mk (Bi.blk hk (g' := gb411) (o := .cells #[.int .i64 0, .int .i64 0] 40 (0, 0)) (by (with_reducible repeat (first | refine Au ?_ _ | refine Az ?_ | refine Ar ?_ _)); exact BK411.out) NB411_412.out (by simp)); have n1_ := Aa.mk (Kd.Du (Kd.Gj ho0 (g := gb411) (o := .cells #[.int .i64 0, .int .i64 0] 40 (0, 0)) (by (with_reducible repeat (first | refine Au ?_ _ | refine Az ?_ | refine Ar ?_ _)); exact BK411.out)) (Aq (by repeat (first | (with_reducible first | exact HB.out | apply Ae | apply Ac | apply Ad | refine Ag ?_ (Af.ge HI412.out) | refine Ag ?_ GE411.out) | exact HB.out)))); have n2_ := Aa.mk (hb); have n3_ := Aa.mk (hi); clear BK411; clear HB; clear HI412; have BK411 := n0_; have HO415 := n1_; have HB := n2_; have HI412 := n3_; clear n0_ n1_ n2_ n3_; (try clear hb); (try clear hb2); (try clear hk); (try clear hi); (try clear ho0); obtain ⟨Ao12, co12, eo12⟩ := Kd.Ef HO415.out; subst eo12; have p418 : 0 ≤ ((ji4) : Int) := of_decide_eq_true (by first | (with_reducible assumption) | assumption); have q418 : (ji4) < (t413.length : Int) := of_decide_eq_true (by first | (with_reducible assumption) | assumption); obtain ⟨ad418, e418, hx418_0, hx418_1⟩ := F5 (Kd.Ba HO415.out).2.2 (ji4) p418 q418; cases e418; replace p418 := eq_true p418; replace q418 := eq_true q418) | ((with_reducible refine D7 (N := 25) rfl ?_); refine Kd.Ii (Kd.int .i64) _ 3 ?hg (N := 25) ?hd (xs := ([0, 1, 5, (-1)] : List Int)) (inner := [.int .i64 0, .int .i64 1, .int .i64 5, .int .i64 (-1)]) (ok := fun _ => True) (okp := fun _ => True) ?hr ?hp (fun _ hk => hk) trivial (Below.refl _ _) (Nat.le_refl _) (by simp) ?_; (case hd => rfl); (case hg => rfl); (case hr => first | (go_simp; done) | (go_simp; rfl)); (case hp => exact (Dw.one (show Kd.M (Kd.int .i64) _ _ _ 0 [.int .i64 0] from rfl) (Dw.one (show Kd.M (Kd.int .i64) _ _ _ 1 [.int .i64 1] from rfl) (Dw.one (show Kd.M (Kd.int .i64) _ _ _ 5 [.int .i64 5] from rfl) (Dw.one (show Kd.M (Kd.int .i64) _ _ _ (-1) [.int .i64 (-1)] from rfl) (Dw.none _ _)))))); intro v420 w13 ho14 hb hg_ hnew_; clear hg_ hnew_; (first | rw [← Ny419.out] at ho14 | (simp only [Int.reduceToNat] at ho14; rw [← Ny419.out] at ho14)); have n0_ := Aa.mk (Kd.Dk (by (with_reducible repeat (first | apply Kd.Ah | apply Kd.Ai | apply Kd.Ak)); exact HO415.out) hb); have n1_ := Aa.mk (Kd.Du ho14 (Aq (by repeat (first | (with_reducible first | exact HB.out | apply Ae | apply Ac | apply Ad | refine Ag ?_ (Af.ge HI412.out) | refine Ag ?_ GE411.out) | exact HB.out)))); have n2_ := Aa.mk (Dv (g := gb411) (o := .cells #[.int .i64 0, .int .i64 0] 40 (0, 0)) (by (with_reducible repeat (first | refine Au ?_ _ | refine Az ?_ | refine Ar ?_ _)); exact BK411.out) hb); have n3_ := Aa.mk (Af.below (by repeat (first | (with_reducible first | exact HI412.out | apply Af.alloc | apply Af.drewN | apply Af.drew | apply Af.Dy | apply Af.Dx | refine Af.far ?_ NB412_411.out _) | exact HI412.out)) hb); have n4_ := Aa.mk (Ap (by repeat (first | (with_reducible first | exact HB.out | apply Ae | apply Ac | apply Ad | refine Ag ?_ (Af.ge HI412.out) | refine Ag ?_ GE411.out) | exact HB.out)) hb); clear HO415; clear BK411; clear HI412; clear HB; have HO415 := n0_; have HO421 := n1_; have BK411 := n2_; have HI412 := n3_; have HB := n4_; clear n0_ n1_ n2_ n3_ n4_; clear hb ho14; obtain ⟨Ao15, co15, eo15⟩ := Kd.Ef HO421.out; subst eo15) | ((with_reducible refine Bv (f := 43) rfl ?_); refine D5 (some 26) rfl rfl Tryd.func43 (by kernel_rfl) rfl #[.pointer (some ⟨gb412, 0, none⟩), .slice Ao15 y419.length co15] rfl (by (try simp only [List.map_toArray, List.map_cons, List.map_nil]); first | done | rfl | (simp only [List.length_drop, List.length_take]; rfl)) ?_; (with_reducible refine (Eo.calls gb412 l0 t416 t417 _ _ y419 t422 t423 t424 w _ ?side1 ?side2 ?side3 ?side4 ?side5 A7.out).mono ?_); (case side1 => repeat (first | (with_reducible first | exact HI412.out | apply Af.alloc | apply Af.drewN | apply Af.drew | apply Af.Dy | apply Af.Dx | refine Af.far ?_ NB412_411.out _) | exact HI412.out)); (case side2 => repeat (first | (with_reducible first | exact HB.out | apply Ae | apply Ac | apply Ad | refine Ag ?_ (Af.ge HI412.out) | refine Ag ?_ GE411.out) | exact HB.out)); (case side3 => repeat (first | exact (Kd.Ba HO421.out).2.2 | (with_reducible refine Kd.Ci ?_ _) | (with_reducible refine Kd.Cf ?_ _) | (with_reducible refine Kd.Di ?_))); (case side4 => exact (Kd.Ba HO421.out).2.1); (case side5 => exact far_slice (Af.own_ne HI412.out HO421.out (by decide))); rintro e w16 ⟨rfl, hi, hb, hk⟩; refine ⟨_, rfl, ?_⟩; have n0_ := Aa.mk (Bi.blk hk (g' := gb411) (o := .cells #[.int .i64 0, .int .i64 0] 40 (0, 0)) (by (with_reducible repeat (first | refine Au ?_ _ | refine Az ?_ | refine Ar ?_ _)); exact BK411.out) NB411_412.out (by simp)); have n1_ := Aa.mk (Kd.R_mono (Kd.Gl (Af.apart (show Af w _ gb412 l0 t416 t417 from by repeat (first | (with_reducible first | exact HI412.out | apply Af.alloc | apply Af.drewN | apply Af.drew | apply Af.Dy | apply Af.Dx | refine Af.far ?_ NB412_411.out _) | exact HI412.out)) (by (with_reducible repeat (first | apply Kd.Ah | apply Kd.Ai | apply Kd.Ak)); exact HO415.out) (by decide)) hk (fun _ h => h.2)) (fun _ h => h.1)); have n2_ := Aa.mk (Kd.R_mono (Kd.Gl (Af.apart (show Af w _ gb412 l0 t416 t417 from by repeat (first | (with_reducible first | exact HI412.out | apply Af.alloc | apply Af.drewN | apply Af.drew | apply Af.Dy | apply Af.Dx | refine Af.far ?_ NB412_411.out _) | exact HI412.out)) (by (with_reducible repeat (first | apply Kd.Ah | apply Kd.Ai | apply Kd.Ak)); exact HO421.out) (by decide)) hk (fun _ h => h.2)) (fun _ h => h.1)); have n3_ := Aa.mk (hb); have n4_ := Aa.mk (hi); clear BK411; clear HO415; clear HO421; clear HB; clear HI412; have BK411 := n0_; have HO415 := n1_; have HO421 := n2_; have HB := n3_; have HI412 := n4_; clear n0_ n1_ n2_ n3_ n4_; (try clear hb); (try clear hb2); (try clear hk); (try clear hi)) | ((with_reducible refine Bv (f := 44) rfl ?_); refine D5 (some 29) rfl rfl Tryd.func44 (by kernel_rfl) rfl #[.pointer (some ⟨gb412, 0, none⟩), .int .i64 8] rfl (by (try simp only [List.map_toArray, List.map_cons, List.map_nil]); first | done | rfl | (simp only [List.length_drop, List.length_take]; rfl)) ?_; (with_reducible refine (Bq.calls gb412 l0 t423 t424 8 t425 t426 t427 w _ ?side1 ?side2 A8.out).mono ?_); (case side1 => repeat (first | (with_reducible first | exact HI412.out | apply Af.alloc | apply Af.drewN | apply Af.drew | apply Af.Dy | apply Af.Dx | refine Af.far ?_ NB412_411.out _) | exact HI412.out)); (case side2 => repeat (first | (with_reducible first | exact HB.out | apply Ae | apply Ac | apply Ad | refine Ag ?_ (Af.ge HI412.out) | refine Ag ?_ GE411.out) | exact HB.out)); rintro e w17 ⟨rfl, hi, hb, hk⟩; refine ⟨_, rfl, ?_⟩; have n0_ := Aa.mk (Bi.blk hk (g' := gb411) (o := .cells #[.int .i64 0, .int .i64 0] 40 (0, 0)) (by (with_reducible repeat (first | refine Au ?_ _ | refine Az ?_ | refine Ar ?_ _)); exact BK411.out) NB411_412.out (by simp)); have n1_ := Aa.mk (Kd.R_mono (Kd.Gl (Af.apart (show Af w _ gb412 l0 t423 t424 from by repeat (first | (with_reducible first | exact HI412.out | apply Af.alloc | apply Af.drewN | apply Af.drew | apply Af.Dy | apply Af.Dx | refine Af.far ?_ NB412_411.out _) | exact HI412.out)) (by (with_reducible repeat (first | apply Kd.Ah | apply Kd.Ai | apply Kd.Ak)); exact HO415.out) (by decide)) hk (fun _ h => h.2)) (fun _ h => h.1)); have n2_ := Aa.mk (Kd.R_mono (Kd.Gl (Af.apart (show Af w _ gb412 l0 t423 t424 from by repeat (first | (with_reducible first | exact HI412.out | apply Af.alloc | apply Af.drewN | apply Af.drew | apply Af.Dy | apply Af.Dx | refine Af.far ?_ NB412_411.out _) | exact HI412.out)) (by (with_reducible repeat (first | apply Kd.Ah | apply Kd.Ai | apply Kd.Ak)); exact HO421.out) (by decide)) hk (fun _ h => h.2)) (fun _ h => h.1)); have n3_ := Aa.mk (hb); have n4_ := Aa.mk (hi); clear BK411; clear HO415; clear HO421; clear HB; clear HI412; have BK411 := n0_; have HO415 := n1_; have HO421 := n2_; have HB := n3_; have HI412 := n4_; clear n0_ n1_ n2_ n3_ n4_; (try clear hb); (try clear hb2); (try clear hk); (try clear hi); have hnb18 := NB411_412.out; have hnc18 := NB412_411.out; have hcz19_0 : w17.cell? ⟨gb411, 0, none⟩ = some (.int .i64 0) := (Bd BK411.out 0).trans rfl; have hcz19_1 : w17.cell? ⟨gb411, 1, none⟩ = some (.int .i64 0) := (Bd BK411.out 1).trans rfl; have hfz19_0 := Bl BK411.out 0; have hfz19_1 := Bl BK411.out 1))
        refine bodyPost_ret (results_tc rfl _ _ gb411 40 #[.int .i64 (wrap64 (((Bc t413 (ji4)).f0) + t422)), .int .i64 t425] (0, 0) _ rfl (by (with_reducible repeat (first | refine Au ?_ _ | refine Az ?_ | refine Ar ?_ _)); refine Fv (cs := #[.int .i64 (wrap64 (((Bc t413 (ji4)).f0) + t422)), .int .i64 0]) ?_ 1 _ rfl; (with_reducible repeat (first | refine Au ?_ _ | refine Az ?_ | refine Ar ?_ _)); refine Fv (cs := #[.int .i64 0, .int .i64 0]) ?_ 0 _ rfl; (with_reducible repeat (first | refine Au ?_ _ | refine Az ?_ | refine Ar ?_ _)); exact BK411.out) Tryd.underlying40 rfl (by kernel_rfl)) rfl ?_
        exact ⟨_, by first | rfl | (simp [Be, Bf] <;> rfl) | (simp only [← hji4]; first | rfl | (simp [Be, Bf] <;> rfl)) | (simp [*, Be, Bf] <;> rfl), by (with_reducible repeat (first | apply Kd.Ah | apply Kd.Ai | apply Kd.Ak)); exact Kd.R_mono (Kd.F7 (p := ⟨gb411, 1, none⟩) (Kd.F7 (p := ⟨gb411, 0, none⟩) (Kd.R_mono HO415.out (fun k_ hk => (⟨hk, hk.2⟩ : _ ∧ k_ ≠ gb411))) (fun _ hk => hk.2) (.int .i64 (wrap64 (((Bc t413 (ji4)).f0) + t422)))) (fun _ hk => hk.2) (.int .i64 t425)) (fun _ hk => trivial), by repeat (first | (with_reducible first | exact HB.out | apply Ae | apply Ac | apply Ad | refine Ag ?_ (Af.ge HI412.out) | refine Ag ?_ GE411.out) | exact HB.out)⟩
      · rw [if_neg c6] at H
        exact absurd H (by simp)
    · rw [if_neg c5] at H
      exact absurd H (by simp)
  · rw [if_neg c3] at H
    have c3b0 : decide (0 < (t413.length : Int)) = false := decide_eq_false c3
    have c3b1 : decide (0 < t413.length) = false := decide_eq_false (by omega)
    clear c3
    obtain ⟨y428, hy428⟩ : ∃ y_ : List Int, y_ = (([0, 1, 5, (-1)] : List Int)) := ⟨_, rfl⟩
    replace H : ((Eo.f l0 t416 t417 y428).bind fun bt431 => ((Bq.f l0 bt431.2.1 bt431.2.2 8).bind fun bt434 => (some (t413, wrap64 (bt431.1), bt434.1)))) = some (r1, r2, r3) := by first | (rw [hy428]; with_reducible exact H) | (have H2_ := (Option.bind_some _ _).symm.trans H; rw [hy428]; with_reducible exact H2_) | (have H2_ := (Option.bind_some _ _).symm.trans H; with_reducible exact H2_) | with_reducible exact H | (rw [hy428]; exact H) | exact H
    have Ny428 := Aa.mk hy428
    clear hy428
    replace H := Option.bind_eq_some_iff.mp H
    obtain ⟨⟨t431, t432, t433⟩, A200, H⟩ := H
    replace H : ((Bq.f l0 t432 t433 8).bind fun bt434 => (some (t413, wrap64 (t431), bt434.1))) = some (r1, r2, r3) := H
    have A20 := Aa.mk A200
    clear A200
    replace H := Option.bind_eq_some_iff.mp H
    obtain ⟨⟨t434, t435, t436⟩, A210, H⟩ := H
    replace H : (some (t413, wrap64 (t431), t434)) = some (r1, r2, r3) := H
    have A21 := Aa.mk A210
    clear A210
    simp only [Option.some.injEq, Prod.mk.injEq] at H
    obtain ⟨rfl, rfl, rfl⟩ := H
    go_enter Tryd.func20, Tryd.ntmps20
    go_wp2_with (first | ((with_reducible refine D7 (N := 3) rfl ?_); refine Es ?hg (N := 3) ?hd (cs := #[.int .i64 0, .int .i64 0]) (t := 40) ?hr ?_; (case hd => rfl); (case hg => rfl); (case hr => first | (go_simp; done) | (go_simp; rfl)); intro gb411 hg w22 hbox hb; have n0_ := Aa.mk (Ap (by repeat (first | (with_reducible first | exact HB.out | apply Ae | apply Ac | apply Ad) | exact HB.out)) hb); have n1_ := Aa.mk (hbox); have n2_ := Aa.mk ((by rw [hg]; exact (Aq (by repeat (first | (with_reducible first | exact HB.out | apply Ae | apply Ac | apply Ad) | exact HB.out))) : w.heap.size ≤ gb411)); have n3_ := Aa.mk ((by rw [hg]; exact (Aq (by repeat (first | (with_reducible first | exact HB.out | apply Ae | apply Ac | apply Ad) | exact HB.out))) : w.heap.size ≤ gb411)); clear HB; have HB := n0_; have BK411 := n1_; have GW411 := n2_; have GE411 := n3_; clear n0_ n1_ n2_ n3_; clear hb hbox hg) | ((with_reducible refine D7 (N := 9) rfl ?_); refine Es ?hg (N := 9) ?hd (cs := #[.slice A0 l0.length c0, .int .i64 0, .int .u64 0]) (t := 69) ?hr ?_; (case hd => rfl); (case hg => rfl); (case hr => first | (go_simp; done) | (go_simp; rfl)); intro gb412 hg w23 hbox hb; have n0_ := Aa.mk (Dv (g := gb411) (o := .cells #[.int .i64 0, .int .i64 0] 40 (0, 0)) (by (with_reducible repeat (first | refine Au ?_ _ | refine Az ?_ | refine Ar ?_ _)); exact BK411.out) hb); have n1_ := Aa.mk (Ap (by repeat (first | (with_reducible first | exact HB.out | apply Ae | apply Ac | apply Ad | refine Ag ?_ GE411.out) | exact HB.out)) hb); have n2_ := Aa.mk ((by rw [hg]; exact (Aq (by repeat (first | (with_reducible first | exact HB.out | apply Ae | apply Ac | apply Ad | refine Ag ?_ GE411.out) | exact HB.out))) : w.heap.size ≤ gb412)); have n3_ := Aa.mk ((by rw [hg]; exact (Aq (by repeat (first | (with_reducible first | exact HB.out | apply Ae | apply Ac | apply Ad | refine Ag ?_ GE411.out) | exact HB.out))) : w.heap.size ≤ gb412)); have n4_ := Aa.mk ((by rw [hg]; exact Nat.ne_of_lt (He (g := gb411) (o := .cells #[.int .i64 0, .int .i64 0] 40 (0, 0)) (by (with_reducible repeat (first | refine Au ?_ _ | refine Az ?_ | refine Ar ?_ _)); exact BK411.out)) : gb411 ≠ gb412)); have n5_ := Aa.mk ((by rw [hg]; exact Nat.ne_of_gt (He (g := gb411) (o := .cells #[.int .i64 0, .int .i64 0] 40 (0, 0)) (by (with_reducible repeat (first | refine Au ?_ _ | refine Az ?_ | refine Ar ?_ _)); exact BK411.out)) : gb412 ≠ gb411)); have n6_ := Aa.mk ((⟨_, _, hbox, (by rw [hg]; exact (Aq (by repeat (first | (with_reducible first | exact HB.out | apply Ae | apply Ac | apply Ad | refine Ag ?_ GE411.out) | exact HB.out)))), HR0.out⟩ : Af w w23 gb412 l0 0 0)); clear BK411; clear HB; have BK411 := n0_; have HB := n1_; have GW412 := n2_; have GE412 := n3_; have NB411_412 := n4_; have NB412_411 := n5_; have HI412 := n6_; clear n0_ n1_ n2_ n3_ n4_ n5_ n6_; clear hb hbox hg) | ((with_reducible refine Bv (f := 42) rfl ?_); refine D5 (some 11) rfl rfl Tryd.func42 (by kernel_rfl) rfl #[.pointer (some ⟨gb412, 0, none⟩)] rfl (by (try simp only [List.map_toArray, List.map_cons, List.map_nil]); first | done | rfl | (simp only [List.length_drop, List.length_take]; rfl)) ?_; (with_reducible refine (Am.calls k gb412 l0 0 0 t413 t416 t417 w _ ?side1 ?side2 A2.out).mono ?_); (case side1 => repeat (first | (with_reducible first | exact HI412.out | apply Af.alloc | apply Af.drewN | apply Af.drew | apply Af.Dy | apply Af.Dx | refine Af.far ?_ NB412_411.out _) | exact HI412.out)); (case side2 => repeat (first | (with_reducible first | exact HB.out | apply Ae | apply Ac | apply Ad | refine Ag ?_ (Af.ge HI412.out) | refine Ag ?_ GE411.out) | exact HB.out)); rintro e w24 ⟨v414, rfl, ho0, hi, hb, hk⟩; refine ⟨_, rfl, ?_⟩; have n0_ := Aa.mk (Bi.blk hk (g' := gb411) (o := .cells #[.int .i64 0, .int .i64 0] 40 (0, 0)) (by (with_reducible repeat (first | refine Au ?_ _ | refine Az ?_ | refine Ar ?_ _)); exact BK411.out) NB411_412.out (by simp)); have n1_ := Aa.mk (Kd.Du (Kd.Gj ho0 (g := gb411) (o := .cells #[.int .i64 0, .int .i64 0] 40 (0, 0)) (by (with_reducible repeat (first | refine Au ?_ _ | refine Az ?_ | refine Ar ?_ _)); exact BK411.out)) (Aq (by repeat (first | (with_reducible first | exact HB.out | apply Ae | apply Ac | apply Ad | refine Ag ?_ (Af.ge HI412.out) | refine Ag ?_ GE411.out) | exact HB.out)))); have n2_ := Aa.mk (hb); have n3_ := Aa.mk (hi); clear BK411; clear HB; clear HI412; have BK411 := n0_; have HO415 := n1_; have HB := n2_; have HI412 := n3_; clear n0_ n1_ n2_ n3_; (try clear hb); (try clear hb2); (try clear hk); (try clear hi); (try clear ho0); obtain ⟨Ao25, co25, eo25⟩ := Kd.Ef HO415.out; subst eo25) | ((with_reducible refine D7 (N := 25) rfl ?_); refine Kd.Ii (Kd.int .i64) _ 3 ?hg (N := 25) ?hd (xs := ([0, 1, 5, (-1)] : List Int)) (inner := [.int .i64 0, .int .i64 1, .int .i64 5, .int .i64 (-1)]) (ok := fun _ => True) (okp := fun _ => True) ?hr ?hp (fun _ hk => hk) trivial (Below.refl _ _) (Nat.le_refl _) (by simp) ?_; (case hd => rfl); (case hg => rfl); (case hr => first | (go_simp; done) | (go_simp; rfl)); (case hp => exact (Dw.one (show Kd.M (Kd.int .i64) _ _ _ 0 [.int .i64 0] from rfl) (Dw.one (show Kd.M (Kd.int .i64) _ _ _ 1 [.int .i64 1] from rfl) (Dw.one (show Kd.M (Kd.int .i64) _ _ _ 5 [.int .i64 5] from rfl) (Dw.one (show Kd.M (Kd.int .i64) _ _ _ (-1) [.int .i64 (-1)] from rfl) (Dw.none _ _)))))); intro v429 w26 ho27 hb hg_ hnew_; clear hg_ hnew_; (first | rw [← Ny428.out] at ho27 | (simp only [Int.reduceToNat] at ho27; rw [← Ny428.out] at ho27)); have n0_ := Aa.mk (Kd.Dk (by (with_reducible repeat (first | apply Kd.Ah | apply Kd.Ai | apply Kd.Ak)); exact HO415.out) hb); have n1_ := Aa.mk (Kd.Du ho27 (Aq (by repeat (first | (with_reducible first | exact HB.out | apply Ae | apply Ac | apply Ad | refine Ag ?_ (Af.ge HI412.out) | refine Ag ?_ GE411.out) | exact HB.out)))); have n2_ := Aa.mk (Dv (g := gb411) (o := .cells #[.int .i64 0, .int .i64 0] 40 (0, 0)) (by (with_reducible repeat (first | refine Au ?_ _ | refine Az ?_ | refine Ar ?_ _)); exact BK411.out) hb); have n3_ := Aa.mk (Af.below (by repeat (first | (with_reducible first | exact HI412.out | apply Af.alloc | apply Af.drewN | apply Af.drew | apply Af.Dy | apply Af.Dx | refine Af.far ?_ NB412_411.out _) | exact HI412.out)) hb); have n4_ := Aa.mk (Ap (by repeat (first | (with_reducible first | exact HB.out | apply Ae | apply Ac | apply Ad | refine Ag ?_ (Af.ge HI412.out) | refine Ag ?_ GE411.out) | exact HB.out)) hb); clear HO415; clear BK411; clear HI412; clear HB; have HO415 := n0_; have HO430 := n1_; have BK411 := n2_; have HI412 := n3_; have HB := n4_; clear n0_ n1_ n2_ n3_ n4_; clear hb ho27; obtain ⟨Ao28, co28, eo28⟩ := Kd.Ef HO430.out; subst eo28) | ((with_reducible refine Bv (f := 43) rfl ?_); refine D5 (some 26) rfl rfl Tryd.func43 (by kernel_rfl) rfl #[.pointer (some ⟨gb412, 0, none⟩), .slice Ao28 y428.length co28] rfl (by (try simp only [List.map_toArray, List.map_cons, List.map_nil]); first | done | rfl | (simp only [List.length_drop, List.length_take]; rfl)) ?_; (with_reducible refine (Eo.calls gb412 l0 t416 t417 _ _ y428 t431 t432 t433 w _ ?side1 ?side2 ?side3 ?side4 ?side5 A20.out).mono ?_); (case side1 => repeat (first | (with_reducible first | exact HI412.out | apply Af.alloc | apply Af.drewN | apply Af.drew | apply Af.Dy | apply Af.Dx | refine Af.far ?_ NB412_411.out _) | exact HI412.out)); (case side2 => repeat (first | (with_reducible first | exact HB.out | apply Ae | apply Ac | apply Ad | refine Ag ?_ (Af.ge HI412.out) | refine Ag ?_ GE411.out) | exact HB.out)); (case side3 => repeat (first | exact (Kd.Ba HO430.out).2.2 | (with_reducible refine Kd.Ci ?_ _) | (with_reducible refine Kd.Cf ?_ _) | (with_reducible refine Kd.Di ?_))); (case side4 => exact (Kd.Ba HO430.out).2.1); (case side5 => exact far_slice (Af.own_ne HI412.out HO430.out (by decide))); rintro e w29 ⟨rfl, hi, hb, hk⟩; refine ⟨_, rfl, ?_⟩; have n0_ := Aa.mk (Bi.blk hk (g' := gb411) (o := .cells #[.int .i64 0, .int .i64 0] 40 (0, 0)) (by (with_reducible repeat (first | refine Au ?_ _ | refine Az ?_ | refine Ar ?_ _)); exact BK411.out) NB411_412.out (by simp)); have n1_ := Aa.mk (Kd.R_mono (Kd.Gl (Af.apart (show Af w _ gb412 l0 t416 t417 from by repeat (first | (with_reducible first | exact HI412.out | apply Af.alloc | apply Af.drewN | apply Af.drew | apply Af.Dy | apply Af.Dx | refine Af.far ?_ NB412_411.out _) | exact HI412.out)) (by (with_reducible repeat (first | apply Kd.Ah | apply Kd.Ai | apply Kd.Ak)); exact HO415.out) (by decide)) hk (fun _ h => h.2)) (fun _ h => h.1)); have n2_ := Aa.mk (Kd.R_mono (Kd.Gl (Af.apart (show Af w _ gb412 l0 t416 t417 from by repeat (first | (with_reducible first | exact HI412.out | apply Af.alloc | apply Af.drewN | apply Af.drew | apply Af.Dy | apply Af.Dx | refine Af.far ?_ NB412_411.out _) | exact HI412.out)) (by (with_reducible repeat (first | apply Kd.Ah | apply Kd.Ai | apply Kd.Ak)); exact HO430.out) (by decide)) hk (fun _ h => h.2)) (fun _ h => h.1)); have n3_ := Aa.mk (hb); have n4_ := Aa.mk (hi); clear BK411; clear HO415; clear HO430; clear HB; clear HI412; have BK411 := n0_; have HO415 := n1_; have HO430 := n2_; have HB := n3_; have HI412 := n4_; clear n0_ n1_ n2_ n3_ n4_; (try clear hb); (try clear hb2); (try clear hk); (try clear hi)) | ((with_reducible refine Bv (f := 44) rfl ?_); refine D5 (some 29) rfl rfl Tryd.func44 (by kernel_rfl) rfl #[.pointer (some ⟨gb412, 0, none⟩), .int .i64 8] rfl (by (try simp only [List.map_toArray, List.map_cons, List.map_nil]); first | done | rfl | (simp only [List.length_drop, List.length_take]; rfl)) ?_; (with_reducible refine (Bq.calls gb412 l0 t432 t433 8 t434 t435 t436 w _ ?side1 ?side2 A21.out).mono ?_); (case side1 => repeat (first | (with_reducible first | exact HI412.out | apply Af.alloc | apply Af.drewN | apply Af.drew | apply Af.Dy | apply Af.Dx | refine Af.far ?_ NB412_411.out _) | exact HI412.out)); (case side2 => repeat (first | (with_reducible first | exact HB.out | apply Ae | apply Ac | apply Ad | refine Ag ?_ (Af.ge HI412.out) | refine Ag ?_ GE411.out) | exact HB.out)); rintro e w30 ⟨rfl, hi, hb, hk⟩; refine ⟨_, rfl, ?_⟩; have n0_ := Aa.mk (Bi.blk hk (g' := gb411) (o := .cells #[.int .i64 0, .int .i64 0] 40 (0, 0)) (by (with_reducible repeat (first | refine Au ?_ _ | refine Az ?_ | refine Ar ?_ _)); exact BK411.out) NB411_412.out (by simp)); have n1_ := Aa.mk (Kd.R_mono (Kd.Gl (Af.apart (show Af w _ gb412 l0 t432 t433 from by repeat (first | (with_reducible first | exact HI412.out | apply Af.alloc | apply Af.drewN | apply Af.drew | apply Af.Dy | apply Af.Dx | refine Af.far ?_ NB412_411.out _) | exact HI412.out)) (by (with_reducible repeat (first | apply Kd.Ah | apply Kd.Ai | apply Kd.Ak)); exact HO415.out) (by decide)) hk (fun _ h => h.2)) (fun _ h => h.1)); have n2_ := Aa.mk (Kd.R_mono (Kd.Gl (Af.apart (show Af w _ gb412 l0 t432 t433 from by repeat (first | (with_reducible first | exact HI412.out | apply Af.alloc | apply Af.drewN | apply Af.drew | apply Af.Dy | apply Af.Dx | refine Af.far ?_ NB412_411.out _) | exact HI412.out)) (by (with_reducible repeat (first | apply Kd.Ah | apply Kd.Ai | apply Kd.Ak)); exact HO430.out) (by decide)) hk (fun _ h => h.2)) (fun _ h => h.1)); have n3_ := Aa.mk (hb); have n4_ := Aa.mk (hi); clear BK411; clear HO415; clear HO430; clear HB; clear HI412; have BK411 := n0_; have HO415 := n1_; have HO430 := n2_; have HB := n3_; have HI412 := n4_; clear n0_ n1_ n2_ n3_ n4_; (try clear hb); (try clear hb2); (try clear hk); (try clear hi); have hnb31 := NB411_412.out; have hnc31 := NB412_411.out; have hcz32_0 : w30.cell? ⟨gb411, 0, none⟩ = some (.int .i64 0) := (Bd BK411.out 0).trans rfl; have hcz32_1 : w30.cell? ⟨gb411, 1, none⟩ = some (.int .i64 0) := (Bd BK411.out 1).trans rfl; have hfz32_0 := Bl BK411.out 0; have hfz32_1 := Bl BK411.out 1))
    refine bodyPost_ret (results_tc rfl _ _ gb411 40 #[.int .i64 (wrap64 (t431)), .int .i64 t434] (0, 0) _ rfl (by (with_reducible repeat (first | refine Au ?_ _ | refine Az ?_ | refine Ar ?_ _)); refine Fv (cs := #[.int .i64 (wrap64 (t431)), .int .i64 0]) ?_ 1 _ rfl; (with_reducible repeat (first | refine Au ?_ _ | refine Az ?_ | refine Ar ?_ _)); refine Fv (cs := #[.int .i64 0, .int .i64 0]) ?_ 0 _ rfl; (with_reducible repeat (first | refine Au ?_ _ | refine Az ?_ | refine Ar ?_ _)); exact BK411.out) Tryd.underlying40 rfl (by kernel_rfl)) rfl ?_
    exact ⟨_, by first | rfl | (simp [Be, Bf] <;> rfl) | (simp [*, Be, Bf] <;> rfl), by (with_reducible repeat (first | apply Kd.Ah | apply Kd.Ai | apply Kd.Ak)); exact Kd.R_mono (Kd.F7 (p := ⟨gb411, 1, none⟩) (Kd.F7 (p := ⟨gb411, 0, none⟩) (Kd.R_mono HO415.out (fun k_ hk => (⟨hk, hk.2⟩ : _ ∧ k_ ≠ gb411))) (fun _ hk => hk.2) (.int .i64 (wrap64 (t431)))) (fun _ hk => hk.2) (.int .i64 t434)) (fun _ hk => trivial), by repeat (first | (with_reducible first | exact HB.out | apply Ae | apply Ac | apply Ad | refine Ag ?_ (Af.ge HI412.out) | refine Ag ?_ GE411.out) | exact HB.out)⟩
end Go.Proofs.YtpalafegcndccaaDoor.X

namespace Go.Proofs.YtpalafegcndccaaDoor.X
open Go.RowKit Go.Proofs.YtpalafegcndccaaDoorW.PrintWords Go.Proofs.YtpalafegcndccaaDoorW.PrintLast Go.Proofs.YtpalafegcndccaaDoorW.PrintMore
attribute [local go_sem] Ej Eg Eu Ew D9 D8 Ei Eh
open Go.Proofs.YtpalafegcndccaaDoorG
def Ie.f (l0 : List S40) : Option (List S40) := if l0.length < 8796093022208 then some l0 else none
set_option maxHeartbeats 8000000 in
set_option maxRecDepth 100000 in
theorem Ie.calls (A0 : Option Addr) (c0 : Nat) (l0 : List S40) (r : List S40) (w : World) (hr0 : Kd.C k40 w A0 l0.length l0) (hc0 : l0.length ≤ c0) (h : Ie.f l0 = some r) :
    Calls Tryd.prog 45 #[.slice A0 l0.length c0] w fun e w' => ∃ v0_ : Value, e = .returned (v0_) ∧ Kd.R k40 40 w' w.heap.size (fun _ => True) v0_ r ∧ Below w.heap.size w w' := by
  have HR0 := Aa.mk hr0
  have HC0 := Aa.mk hc0
  clear hr0 hc0
  have HB := Aa.mk (Below.refl w.heap.size w)
  unfold Ie.f at h
  have q22 : ∀ (w : World) (a : Option Addr) (n c n' c' : Nat), (binOp .eql 26 (.slice a n c) (.slice none n' c')).run Tryd.prog w = .ok (.bool a.isNone) w := fun w a n c n' c' => Go.Lib.run_eql_slice_nil w _ _ a n c n' c' Tryd.underlying26
  by_cases c2 : l0.length < 8796093022208
  · rw [if_pos c2] at h
    obtain rfl := Option.some.inj h
    have LMc2 := Aa.mk c2
    clear c2 h
    cases A0 with
    | none =>
      have e0 : l0 = [] := by
        have := HR0.out.2.2
        by_cases z : 0 < l0.length
        · obtain ⟨ad, ha, _⟩ := this z
          cases ha
        · exact List.eq_nil_of_length_eq_zero (by omega)
      subst e0
      go_enter Tryd.func45, Tryd.ntmps45
      go_wp2
      go_ret
      exact ⟨_, by first | rfl | (simp; done) | (simp [*]; done), Kd.R_nil _ _ _ _ _, by repeat (first | (with_reducible first | exact HB.out | apply Ae | apply Ac | apply Ad) | exact HB.out)⟩
    | some ad0 =>
      obtain ⟨y, hy⟩ : ∃ y_ : List S40, y_ = ([] ++ l0) := ⟨_, rfl⟩
      have Ny := Aa.mk hy
      clear hy
      go_enter Tryd.func45, Tryd.ntmps45
      go_wp2_with (first | ((with_reducible refine D7 (N := 5) rfl ?_); refine Kd.Ii k40 _ 40 ?hg (N := 5) ?hd (xs := ([] : List S40)) (inner := []) (ok := fun _ => True) (okp := fun _ => True) ?hr ?hp (fun _ hk => hk) trivial (Below.refl _ _) (Nat.le_refl _) (by simp) ?_; (case hd => rfl); (case hg => rfl); (case hr => first | (go_simp; done) | (go_simp; rfl)); (case hp => exact (Dw.none _ _)); intro v295 w3 ho4 hb hg_ hnew_; clear hg_ hnew_; have n0_ := Aa.mk (Kd.Du ho4 (Aq (by repeat (first | (with_reducible first | exact HB.out | apply Ae | apply Ac | apply Ad) | exact HB.out)))); have n1_ := Aa.mk (Ap (by repeat (first | (with_reducible first | exact HB.out | apply Ae | apply Ac | apply Ad) | exact HB.out)) hb); clear HB; have HO := n0_; have HB := n1_; clear n0_ n1_; clear hb ho4) | ((with_reducible refine Hq (b := .append) (xs := #[.tmp 5, .tmp 6]) rfl ?_); at_builtin; refine Kd.R_append_rows k40 (w0 := w) w.heap.size rfl (.tmp 5) (.tmp 6) 26 40 (.agg #[(.int .i64 0), (.int .i64 0)]) 16 rfl Tryd.underlying26 Hr rfl (by decide) (by omega) v295 [] l0 _ _ _ (fun _ => True) (fun _ => False) rfl rfl ?aO ?aR (fun _ _ h => h) (fun _ h => h.elim) ?aF ?aB ?aS ?aL ?_; (case aR => repeat (first | exact (Kd.Gm HR0.out HB.out) | (with_reducible refine Kd.Ci ?_ _) | (with_reducible refine Kd.Cf ?_ _) | (with_reducible refine Kd.Di ?_))); (case aB => exact (by repeat (first | (with_reducible first | exact HB.out | apply Ae | apply Ac | apply Ad) | exact HB.out))); (case aF => exact (fun _ _ => trivial)); (case aO => exact (by (with_reducible repeat (first | apply Kd.Ah | apply Kd.Ai | apply Kd.Ak)); exact HO.out)); (case aS => exact (Aq (by repeat (first | (with_reducible first | exact HB.out | apply Ae | apply Ac | apply Ad) | exact HB.out)))); (case aL => have := LMc2.out; simp only [List.length_nil]; omega); intro v298 w5 ho hb hg hat; rw [← Ny.out] at ho; have n0_ := Aa.mk (hb); have n1_ := Aa.mk (ho); clear HB; clear HO; have HB := n0_; have HO := n1_; clear n0_ n1_; clear ho hb hg hat))
      go_ret
      exact ⟨_, by first | rfl | (simp; done) | (simp [*]; done), by rw [show l0 = y by rw [Ny.out]; rfl]; (with_reducible repeat (first | apply Kd.Ah | apply Kd.Ai | apply Kd.Ak)); exact HO.out, by repeat (first | (with_reducible first | exact HB.out | apply Ae | apply Ac | apply Ad) | exact HB.out)⟩
  · rw [if_neg c2] at h
    cases h
end Go.Proofs.YtpalafegcndccaaDoor.X

