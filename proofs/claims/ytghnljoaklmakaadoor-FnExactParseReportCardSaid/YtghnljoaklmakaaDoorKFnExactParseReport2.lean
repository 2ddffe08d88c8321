/- Texts that the proof of the law FnExactParseReport leans on, part 3 of 6. -/
import Derived.Test.YtghnljoaklmakaaDoorKFnExactParseReport1
set_option linter.unusedVariables false
set_option linter.unusedSimpArgs false
namespace Go.Proofs.YtghnljoaklmakaaDoor.X
open Go.RowKit Go.Proofs.YtghnljoaklmakaaDoorW.PrintWords Go.Proofs.YtghnljoaklmakaaDoorW.PrintLast Go.Proofs.YtghnljoaklmakaaDoorW.PrintMore
attribute [local go_sem] Ea Eb Eh Eg Dz D5 Ec D9
open Go.Proofs.YtghnljoaklmakaaDoorG
def C9.l0 : Nat → List (S27) → ByteArray → Int → Option (ByteArray × Bool)
  | 0, _, _, _ => none
  | k + 1, x0, x4, x5 => if x5 < (x0.length : Int) then (if x5 > 0 then (if x4.size + 1 ≤ 9223372036854775807 then (if 0 ≤ x5 then ((Dn.f k ((Ak x0 x5).f0) ((Ak x0 x5).f1) ((Ak x0 x5).f2) ((Ak x0 x5).f3)).bind fun t208 => (if (x4 ++ (⟨#[32]⟩ : ByteArray)).size + t208.size ≤ 9223372036854775807 then (C9.l0 k x0 ((x4 ++ (⟨#[32]⟩ : ByteArray)) ++ t208) (wrap64 (x5 + 1))) else (none))) else (none)) else (none)) else (if 0 ≤ x5 then ((Dn.f k ((Ak x0 x5).f0) ((Ak x0 x5).f1) ((Ak x0 x5).f2) ((Ak x0 x5).f3)).bind fun t210 => (if x4.size + t210.size ≤ 9223372036854775807 then (C9.l0 k x0 (x4 ++ t210) (wrap64 (x5 + 1))) else (none))) else (none))) else (some (x4, true))
def C9.f (k : Nat) (l0 : List (S27)) : Option (ByteArray × Bool) := (Dx.f k l0).bind fun t206 => (if t206 = true then (C9.l0 k l0 (⟨#[]⟩ : ByteArray) 0) else (some ((⟨#[]⟩ : ByteArray), false)))
theorem C9.Ed : ∀ k, (∀ y0 y1 y2, LeO (C9.l0 k y0 y1 y2) (C9.l0 (k + 1) y0 y1 y2))
  | 0 => fun _ _ _ r h => by simp [C9.l0] at h
  | k + 1 => by
    have ih0 := C9.Ed k
    · intro y0 y1 y2
      unfold C9.l0
      repeat' first
      | (with_reducible exact ih0 _ _ _)
      | (with_reducible exact Dx.mono _ _)
      | (with_reducible exact Dn.mono _ _ _ _ _)
      | (with_reducible exact LeO.refl _)
      | (with_reducible exact LeO.none _)
      | (with_reducible refine LeO.ite ?_ ?_)
      | (with_reducible refine LeO.bind ?_ (fun _ => ?_))
      | exact ih0 _ _ _
      | exact Dx.mono _ _
      | exact Dn.mono _ _ _ _ _
      | exact LeO.none _
      | refine LeO.ite ?_ ?_
      | refine LeO.bind ?_ (fun _ => ?_)
theorem C9.mono : ∀ a0 k, LeO (C9.f k a0) (C9.f (k + 1) a0) := by
  intro a0 k
  have ih0 := C9.Ed k
  unfold C9.f
  repeat' first
      | (with_reducible exact ih0 _ _ _)
      | (with_reducible exact Dx.mono _ _)
      | (with_reducible exact Dn.mono _ _ _ _ _)
      | (with_reducible exact LeO.refl _)
      | (with_reducible exact LeO.none _)
      | (with_reducible refine LeO.ite ?_ ?_)
      | (with_reducible refine LeO.bind ?_ (fun _ => ?_))
      | exact ih0 _ _ _
      | exact Dx.mono _ _
      | exact Dn.mono _ _ _ _ _
      | exact LeO.none _
      | refine LeO.ite ?_ ?_
      | refine LeO.bind ?_ (fun _ => ?_)
set_option maxHeartbeats 8000000 in
set_option maxRecDepth 100000 in
theorem C9.calls (k : Nat) (A0 : Option Addr) (c0 : Nat) (l0 : List (S27)) (r1 : ByteArray) (r2 : Bool) (w : World) (hr0 : Kd.C k27 w A0 l0.length l0) (hc0 : l0.length ≤ c0) (h : C9.f k l0 = some (r1, r2)) :
    Calls Tryd.prog 12 #[.slice A0 l0.length c0] w fun e w' => e = .returned (.tuple #[.string r1, .bool r2]) ∧ Below w.heap.size w w' := by
  have hu27 := Tryd.underlying27
  have HR0 := Ac.mk hr0
  have HC0 := Ac.mk hc0
  clear hr0 hc0
  have HB := Ac.mk (Below.refl w.heap.size w)
  have H : ((Dx.f k l0).bind fun t206 => (if t206 = true then (C9.l0 k l0 (⟨#[]⟩ : ByteArray) 0) else (some ((⟨#[]⟩ : ByteArray), false)))) = some (r1, r2) := h
  clear h
  replace H := Option.bind_eq_some_iff.mp H
  obtain ⟨t206, A20, H⟩ := H
  replace H : (if t206 = true then (C9.l0 k l0 (⟨#[]⟩ : ByteArray) 0) else (some ((⟨#[]⟩ : ByteArray), false))) = some (r1, r2) := H
  have A2 := Ac.mk A20
  clear A20
  by_cases c3 : t206 = true
  · subst c3
    have H1 : (C9.l0 k l0 (⟨#[]⟩ : ByteArray) 0) = some (r1, r2) := by rw [if_pos rfl] at H; exact H
    clear H
    have H := H1
    clear H1
    have H' := Ac.mk H
    clear H
    go_enter Tryd.func12, Tryd.ntmps12
    go_wp2_with (first | ((with_reducible refine Aw (f := 27) rfl ?_); refine Bj (some 7) rfl rfl Tryd.func27 (by kernel_rfl) rfl #[.slice A0 l0.length c0] rfl Yb_ ?_; (with_reducible refine (Dx.calls k _ _ l0 true _ ?side1 ?side2 A2.out).mono ?_); (case side1 => repeat (first | exact HR0.out | (with_reducible refine Kd.Fz ?_ _) | (with_reducible refine Kd.F5 ?_ _) | (with_reducible refine Kd.Gj ?_))); (case side2 => exact HC0.out); rintro e w4 ⟨rfl, hb⟩; refine ⟨_, rfl, ?_⟩; have n0_ := Ac.mk (Au Ya_ hb); clear HB; have HB := n0_; clear n0_; (try clear hb); (try clear hb2); (try clear hk); (try clear hi)))
    go_loopg [4, 5] k (fun kq v4 v5 w' => ∃ (x4_1 : ByteArray) (x5_1 : Int), v4 = .string x4_1 ∧ v5 = .int .i64 x5_1 ∧ Ac (C9.l0 kq l0 x4_1 x5_1 = some (r1, r2)) ∧ Ac (kq ≤ k) ∧ Ac (Below w.heap.size w w'))
    case atStart => exact ⟨((⟨#[]⟩ : ByteArray)), (0), Yf_, Yf_, H', ⟨Nat.le_refl _⟩, ⟨by repeat (first | (with_reducible first | exact HB.out | apply Ae | apply Aa | apply Ad) | exact HB.out)⟩⟩
    case round =>
      clear H'
      try clear c1
      try clear c2
      try clear p2
      try clear c3
      obtain ⟨x4_1, x5_1, rfl, rfl, HA, HK1, HB⟩ := hrel
      cases gk with
      | zero => exact absurd HA.out (by simp [C9.l0])
      | succ k1 =>
        have H := HA.out
        clear HA
        simp only [C9.l0] at H
        by_cases c5 : x5_1 < (l0.length : Int)
        · rw [if_pos c5] at H
          have c5b0 : decide (x5_1 < (l0.length : Int)) = true := decide_eq_true c5
          clear c5
          by_cases c6 : x5_1 > 0
          · rw [if_pos c6] at H
            have c6b0 : decide (0 < x5_1) = true := decide_eq_true c6
            clear c6
            by_cases c7 : x4_1.size + 1 ≤ 9223372036854775807
            · rw [if_pos c7] at H
              have c7b0 := eq_true c7
              have c7b1 : decide (x4_1.size + 1 ≤ 9223372036854775807) = true := decide_eq_true c7
              try have c7b2 : (9223372036854775807 < x4_1.size + 1) = False := eq_false (Nat.not_lt.2 c7)
              by_cases c8 : 0 ≤ x5_1
              · rw [if_pos c8] at H
                have c8b0 : decide (0 ≤ x5_1) = true := decide_eq_true c8
                clear c8
                replace H := Option.bind_eq_some_iff.mp H
                obtain ⟨t208, A90, H⟩ := H
                replace H : (if (x4_1 ++ (⟨#[32]⟩ : ByteArray)).size + t208.size ≤ 9223372036854775807 then (C9.l0 k1 l0 ((x4_1 ++ (⟨#[32]⟩ : ByteArray)) ++ t208) (wrap64 (x5_1 + 1))) else (none)) = some (r1, r2) := H
                have A9 := Ac.mk A90
                clear A90
                by_cases c10 : (x4_1 ++ (⟨#[32]⟩ : ByteArray)).size + t208.size ≤ 9223372036854775807
                · rw [if_pos c10] at H
                  have c10b0 := eq_true c10
                  have c10b1 : decide ((x4_1 ++ (⟨#[32]⟩ : ByteArray)).size + t208.size ≤ 9223372036854775807) = true := decide_eq_true c10
                  try have c10b2 : (9223372036854775807 < (x4_1 ++ (⟨#[32]⟩ : ByteArray)).size + t208.size) = False := eq_false (Nat.not_lt.2 c10)
                  have c10z0 : (⟨#[32]⟩ : ByteArray).size = 1 := rfl
                  have c10b3 := c10
                  try simp only [ByteArray.size_extract, ByteArray.size_append, c10z0] at c10b3
                  have c10b4 := eq_false (Nat.not_lt.2 c10b3)
                  have H' := Ac.mk H
                  clear H
                  have p207 : 0 ≤ (x5_1 : Int) := of_decide_eq_true Yc_
                  have q207 : x5_1 < (l0.length : Int) := of_decide_eq_true Yc_
                  obtain ⟨ad207, e207, hx207_0, hx207_1, hx207_2, hx207_3⟩ := Fp HR0.out x5_1 p207 q207
                  cases e207
                  replace hx207_0 := (HB.out.cell (World.block_lt_of_cell? w _ hx207_0)).trans hx207_0
                  replace hx207_1 := (HB.out.cell (World.block_lt_of_cell? w _ hx207_1)).trans hx207_1
                  replace hx207_2 := (HB.out.cell (World.block_lt_of_cell? w _ hx207_2)).trans hx207_2
                  replace hx207_3 := (HB.out.cell (World.block_lt_of_cell? w _ hx207_3)).trans hx207_3
                  replace p207 := eq_true p207
                  replace q207 := eq_true q207
                  go_wp2_with (first | ((with_reducible refine Aw (f := 24) rfl ?_); refine Bj (some 24) rfl rfl Tryd.func24 (by kernel_rfl) rfl #[.agg #[.int .i64 ((Ak l0 x5_1).f0), .string ((Ak l0 x5_1).f1), .int .i64 ((Ak l0 x5_1).f2), .int .i64 ((Ak l0 x5_1).f3)]] rfl Yb_ ?_; (with_reducible refine (Dn.calls k1 ((Ak l0 x5_1).f0) ((Ak l0 x5_1).f1) ((Ak l0 x5_1).f2) ((Ak l0 x5_1).f3) t208 _ A9.out).mono ?_); rintro e w11 ⟨rfl, hb⟩; refine ⟨_, rfl, ?_⟩; have n0_ := Ac.mk (Au Ya_ hb); clear HB; have HB := n0_; clear n0_; (try clear hb); (try clear hb2); (try clear hk); (try clear hi)))
                  go_roundg k1
                  case measure => have := HK1.out; omega
                  case rel => exact ⟨((x4_1 ++ (⟨#[32]⟩ : ByteArray)) ++ t208), (wrap64 (x5_1 + 1)), Yf_, Yf_, H', ⟨by have := HK1.out; omega⟩, ⟨by repeat (first | (with_reducible first | exact HB.out | apply Ae | apply Aa | apply Ad) | exact HB.out)⟩⟩
                · rw [if_neg c10] at H
                  exact absurd H (by simp)
              · rw [if_neg c8] at H
                exact absurd H (by simp)
            · rw [if_neg c7] at H
              exact absurd H (by simp)
          · rw [if_neg c6] at H
            have c6b0 : decide (0 < x5_1) = false := decide_eq_false c6
            clear c6
            by_cases c12 : 0 ≤ x5_1
            · rw [if_pos c12] at H
              have c12b0 : decide (0 ≤ x5_1) = true := decide_eq_true c12
              clear c12
              replace H := Option.bind_eq_some_iff.mp H
              obtain ⟨t210, A130, H⟩ := H
              replace H : (if x4_1.size + t210.size ≤ 9223372036854775807 then (C9.l0 k1 l0 (x4_1 ++ t210) (wrap64 (x5_1 + 1))) else (none)) = some (r1, r2) := H
              have A13 := Ac.mk A130
              clear A130
              by_cases c14 : x4_1.size + t210.size ≤ 9223372036854775807
              · rw [if_pos c14] at H
                have c14b0 := eq_true c14
                have c14b1 : decide (x4_1.size + t210.size ≤ 9223372036854775807) = true := decide_eq_true c14
                try have c14b2 : (9223372036854775807 < x4_1.size + t210.size) = False := eq_false (Nat.not_lt.2 c14)
                have H' := Ac.mk H
                clear H
                have p209 : 0 ≤ (x5_1 : Int) := of_decide_eq_true Yc_
                have q209 : x5_1 < (l0.length : Int) := of_decide_eq_true Yc_
                obtain ⟨ad209, e209, hx209_0, hx209_1, hx209_2, hx209_3⟩ := Fp HR0.out x5_1 p209 q209
                cases e209
                replace hx209_0 := (HB.out.cell (World.block_lt_of_cell? w _ hx209_0)).trans hx209_0
                replace hx209_1 := (HB.out.cell (World.block_lt_of_cell? w _ hx209_1)).trans hx209_1
                replace hx209_2 := (HB.out.cell (World.block_lt_of_cell? w _ hx209_2)).trans hx209_2
                replace hx209_3 := (HB.out.cell (World.block_lt_of_cell? w _ hx209_3)).trans hx209_3
                replace p209 := eq_true p209
                replace q209 := eq_true q209
                go_wp2_with (first | ((with_reducible refine Aw (f := 24) rfl ?_); refine Bj (some 24) rfl rfl Tryd.func24 (by kernel_rfl) rfl #[.agg #[.int .i64 ((Ak l0 x5_1).f0), .string ((Ak l0 x5_1).f1), .int .i64 ((Ak l0 x5_1).f2), .int .i64 ((Ak l0 x5_1).f3)]] rfl Yb_ ?_; (with_reducible refine (Dn.calls k1 ((Ak l0 x5_1).f0) ((Ak l0 x5_1).f1) ((Ak l0 x5_1).f2) ((Ak l0 x5_1).f3) t210 _ A13.out).mono ?_); rintro e w15 ⟨rfl, hb⟩; refine ⟨_, rfl, ?_⟩; have n0_ := Ac.mk (Au Ya_ hb); clear HB; have HB := n0_; clear n0_; (try clear hb); (try clear hb2); (try clear hk); (try clear hi)))
                go_roundg k1
                case measure => have := HK1.out; omega
                case rel => exact ⟨(x4_1 ++ t210), (wrap64 (x5_1 + 1)), Yf_, Yf_, H', ⟨by have := HK1.out; omega⟩, ⟨by repeat (first | (with_reducible first | exact HB.out | apply Ae | apply Aa | apply Ad) | exact HB.out)⟩⟩
              · rw [if_neg c14] at H
                exact absurd H (by simp)
            · rw [if_neg c12] at H
              exact absurd H (by simp)
        · rw [if_neg c5] at H
          have c5b0 : decide (x5_1 < (l0.length : Int)) = false := decide_eq_false c5
          clear c5
          simp only [Option.some.injEq, Prod.mk.injEq] at H
          obtain ⟨rfl, rfl⟩ := H
          go_wp2
          go_ret2
          exact ⟨by first | rfl | (simp [Aq, Ar] <;> rfl) | (simp [*, Aq, Ar] <;> rfl), by repeat (first | (with_reducible first | exact HB.out | apply Ae | apply Aa | apply Ad) | exact HB.out)⟩
  · replace c3 := Bool.eq_false_iff.mpr c3
    subst c3
    have H1 : (some ((⟨#[]⟩ : ByteArray), false)) = some (r1, r2) := by rw [if_neg (show ¬ (false = true) by decide)] at H; exact H
    clear H
    have H := H1
    clear H1
    simp only [Option.some.injEq, Prod.mk.injEq] at H
    obtain ⟨rfl, rfl⟩ := H
    go_enter Tryd.func12, Tryd.ntmps12
    go_wp2_with (first | ((with_reducible refine Aw (f := 27) rfl ?_); refine Bj (some 7) rfl rfl Tryd.func27 (by kernel_rfl) rfl #[.slice A0 l0.length c0] rfl Yb_ ?_; (with_reducible refine (Dx.calls k _ _ l0 false _ ?side1 ?side2 A2.out).mono ?_); (case side1 => repeat (first | exact HR0.out | (with_reducible refine Kd.Fz ?_ _) | (with_reducible refine Kd.F5 ?_ _) | (with_reducible refine Kd.Gj ?_))); (case side2 => exact HC0.out); rintro e w16 ⟨rfl, hb⟩; refine ⟨_, rfl, ?_⟩; have n0_ := Ac.mk (Au Ya_ hb); clear HB; have HB := n0_; clear n0_; (try clear hb); (try clear hb2); (try clear hk); (try clear hi)))
    go_ret2
    exact ⟨by first | rfl | (simp [Aq, Ar] <;> rfl) | (simp [*, Aq, Ar] <;> rfl), by repeat (first | (with_reducible first | exact HB.out | apply Ae | apply Aa | apply Ad) | exact HB.out)⟩
end Go.Proofs.YtghnljoaklmakaaDoor.X

namespace Go.Proofs.YtghnljoaklmakaaDoor.X
open Go.RowKit Go.Proofs.YtghnljoaklmakaaDoorW.PrintWords Go.Proofs.YtghnljoaklmakaaDoorW.PrintLast Go.Proofs.YtghnljoaklmakaaDoorW.PrintMore
attribute [local go_sem] Ea Eb Eh Eg Dz D5 Ec D9
open Go.Proofs.YtghnljoaklmakaaDoorG
def Bf.f (a0 : ByteArray) (a1 : ByteArray) : Option (ByteArray × Bool) := if (a0.size : Int) < (a1.size : Int) then (some ((⟨#[]⟩ : ByteArray), false)) else (if 0 ≤ (a1.size : Int) then (if (a1.size : Int) ≤ (a0.size : Int) then (if (a0.extract 0 ((a1.size : Int) : Int).toNat).toList = a1.toList then (some (a0.extract ((a1.size : Int) : Int).toNat a0.size, true)) else (some ((⟨#[]⟩ : ByteArray), false))) else (none)) else (none))
set_option maxHeartbeats 8000000 in
set_option maxRecDepth 100000 in
theorem Bf.calls (a0 : ByteArray) (a1 : ByteArray) (r1 : ByteArray) (r2 : Bool) (w : World) (h : Bf.f a0 a1 = some (r1, r2)) :
    Calls Tryd.prog 30 #[.string a0, .string a1] w fun e w' => e = .returned (.tuple #[.string r1, .bool r2]) ∧ Cj w w' := by
  have H : (if (a0.size : Int) < (a1.size : Int) then (some ((⟨#[]⟩ : ByteArray), false)) else (if 0 ≤ (a1.size : Int) then (if (a1.size : Int) ≤ (a0.size : Int) then (if (a0.extract 0 ((a1.size : Int) : Int).toNat).toList = a1.toList then (some (a0.extract ((a1.size : Int) : Int).toNat a0.size, true)) else (some ((⟨#[]⟩ : ByteArray), false))) else (none)) else (none))) = some (r1, r2) := h
  clear h
  by_cases c3 : (a0.size : Int) < (a1.size : Int)
  · rw [if_pos c3] at H
    have c3b0 : decide ((a0.size : Int) < (a1.size : Int)) = true := decide_eq_true c3
    have c3b1 : decide (a0.size < a1.size) = true := decide_eq_true (Int.ofNat_lt.mp c3)
    clear c3
    simp only [Option.some.injEq, Prod.mk.injEq] at H
    obtain ⟨rfl, rfl⟩ := H
    go_enter Tryd.func30, Tryd.ntmps30
    go_wp2
    go_ret2
    exact ⟨by first | rfl | (simp; done) | (simp [*]; done), by repeat (first | exact Cj.refl _ | apply Cj.step)⟩
  · rw [if_neg c3] at H
    have c3b0 : decide ((a0.size : Int) < (a1.size : Int)) = false := decide_eq_false c3
    have c3b1 : decide (a0.size < a1.size) = false := decide_eq_false (fun h => c3 (Int.ofNat_lt.mpr h))
    clear c3
    by_cases c4 : 0 ≤ (a1.size : Int)
    · rw [if_pos c4] at H
      have c4b0 := eq_true c4
      have c4b1 : decide (0 ≤ (a1.size : Int)) = true := decide_eq_true c4
      clear c4
      by_cases c5 : (a1.size : Int) ≤ (a0.size : Int)
      · rw [if_pos c5] at H
        have c5b0 := eq_true c5
        have c5b1 : decide ((a1.size : Int) ≤ (a0.size : Int)) = true := decide_eq_true c5
        clear c5
        by_cases c6 : (a0.extract 0 ((a1.size : Int) : Int).toNat).toList = a1.toList
        · rw [if_pos c6] at H
          have c6b0 : ((a0.extract 0 ((a1.size : Int) : Int).toNat).toList == a1.toList) = true := beq_iff_eq.mpr c6
          have c6b6 := c6b0
          try simp only [Int.toNat_natCast] at c6b6
          have c6b1 : ((a0.extract 0 ((a1.size : Int) : Int).toNat).toList != a1.toList) = false := bne_eq_false_iff_eq.mpr c6
          clear c6
          have c7b0 := eq_true (of_decide_eq_true Yc_ : 0 ≤ (a1.size : Int))
          have c8b0 := eq_true (of_decide_eq_true Yc_ : (a1.size : Int) ≤ (a0.size : Int))
          simp only [Option.some.injEq, Prod.mk.injEq] at H
          obtain ⟨rfl, rfl⟩ := H
          go_enter Tryd.func30, Tryd.ntmps30
          go_wp2
          go_ret2
          exact ⟨by first | rfl | (simp; done) | (simp [*]; done), by repeat (first | exact Cj.refl _ | apply Cj.step)⟩
        · rw [if_neg c6] at H
          have c6b0 : ((a0.extract 0 ((a1.size : Int) : Int).toNat).toList == a1.toList) = false := beq_eq_false_iff_ne.mpr c6
          have c6b6 := c6b0
          try simp only [Int.toNat_natCast] at c6b6
          have c6b1 : ((a0.extract 0 ((a1.size : Int) : Int).toNat).toList != a1.toList) = true := bne_iff_ne.mpr c6
          simp only [Option.some.injEq, Prod.mk.injEq] at H
          obtain ⟨rfl, rfl⟩ := H
          go_enter Tryd.func30, Tryd.ntmps30
          go_wp2
          go_ret2
          exact ⟨by first | rfl | (simp; done) | (simp [*]; done), by repeat (first | exact Cj.refl _ | apply Cj.step)⟩
      · rw [if_neg c5] at H
        exact absurd H (by simp)
    · rw [if_neg c4] at H
      exact absurd H (by simp)
end Go.Proofs.YtghnljoaklmakaaDoor.X

namespace Go.Proofs.YtghnljoaklmakaaDoor.X
open Go.RowKit Go.Proofs.YtghnljoaklmakaaDoorW.PrintWords Go.Proofs.YtghnljoaklmakaaDoorW.PrintLast Go.Proofs.YtghnljoaklmakaaDoorW.PrintMore
attribute [local go_sem] Ea Eb Eh Eg Dz D5 Ec D9
open Go.Proofs.YtghnljoaklmakaaDoorG
mutual
def Bq.j0 : Nat → ByteArray → ByteArray → Bool → Option (Int × Bool)
  | 0, _, _, _ => none
  | k + 1, x0, x4, x15 => if x15 = true then (if 1 ≤ (x4.size : Int) then (Bq.j1 k x0 (x4.extract 1 x4.size)) else (none)) else (Bq.j1 k x0 x4)
def Bq.j1 : Nat → ByteArray → ByteArray → Option (Int × Bool)
  | 0, _, _ => none
  | k + 1, x0, x4 => (Dw.f (x4.size : Int) 1 6).bind fun t253 => (if t253 = true then (Bq.l0 k x0 x4 0 0) else (some (0, false)))
def Bq.l0 : Nat → ByteArray → ByteArray → Int → Int → Option (Int × Bool)
  | 0, _, _, _, _ => none
  | k + 1, x0, x4, x5, x6 => if x6 < (x4.size : Int) then (if 0 ≤ x6 then (if (bt x4 x6) < 48 then (some (0, false)) else (if (bt x4 x6) > 57 then (some (0, false)) else (Bq.l0 k x0 x4 (wrap64 ((wrap64 (10 * x5)) + (((bt x4 x6) - 48) % 256))) (wrap64 (x6 + 1))))) else (none)) else (if (x4.size : Int) < (x0.size : Int) then ((Ci.f k (wrap64 (-x5))).bind fun t254 => (if t254.toList = x0.toList then (some (wrap64 (-x5), true)) else (some (0, false)))) else ((Ci.f k x5).bind fun t255 => (if t255.toList = x0.toList then (some (x5, true)) else (some (0, false)))))
end
def Bq.f (k : Nat) (a0 : ByteArray) : Option (Int × Bool) := if (a0.size : Int) > 1 then (if 0 < (a0.size : Int) then (Bq.j0 k a0 a0 ((bt a0 0) == 45)) else (none)) else (Bq.j0 k a0 a0 false)
theorem Bq.Ed : ∀ k, (∀ y0 y1 y2, LeO (Bq.j0 k y0 y1 y2) (Bq.j0 (k + 1) y0 y1 y2)) ∧ (∀ y0 y1, LeO (Bq.j1 k y0 y1) (Bq.j1 (k + 1) y0 y1)) ∧ (∀ y0 y1 y2 y3, LeO (Bq.l0 k y0 y1 y2 y3) (Bq.l0 (k + 1) y0 y1 y2 y3))
  | 0 => ⟨fun _ _ _ r h => by simp [Bq.j0] at h, fun _ _ r h => by simp [Bq.j1] at h, fun _ _ _ _ r h => by simp [Bq.l0] at h⟩
  | k + 1 => by
    obtain ⟨ih0, ih1, ih2⟩ := Bq.Ed k
    refine ⟨?_, ?_, ?_⟩
    · intro y0 y1 y2
      unfold Bq.j0
      repeat' first
      | (with_reducible exact ih0 _ _ _)
      | (with_reducible exact ih1 _ _)
      | (with_reducible exact ih2 _ _ _ _)
      | (with_reducible exact Ci.mono _ _)
      | (with_reducible exact LeO.refl _)
      | (with_reducible exact LeO.none _)
      | (with_reducible refine LeO.ite ?_ ?_)
      | (with_reducible refine LeO.bind ?_ (fun _ => ?_))
      | exact ih0 _ _ _
      | exact ih1 _ _
      | exact ih2 _ _ _ _
      | exact Ci.mono _ _
      | exact LeO.none _
      | refine LeO.ite ?_ ?_
      | refine LeO.bind ?_ (fun _ => ?_)
    · intro y0 y1
      unfold Bq.j1
      repeat' first
      | (with_reducible exact ih0 _ _ _)
      | (with_reducible exact ih1 _ _)
      | (with_reducible exact ih2 _ _ _ _)
      | (with_reducible exact Ci.mono _ _)
      | (with_reducible exact LeO.refl _)
      | (with_reducible exact LeO.none _)
      | (with_reducible refine LeO.ite ?_ ?_)
      | (with_reducible refine LeO.bind ?_ (fun _ => ?_))
      | exact ih0 _ _ _
      | exact ih1 _ _
      | exact ih2 _ _ _ _
      | exact Ci.mono _ _
      | exact LeO.none _
      | refine LeO.ite ?_ ?_
      | refine LeO.bind ?_ (fun _ => ?_)
    · intro y0 y1 y2 y3
      unfold Bq.l0
      repeat' first
      | (with_reducible exact ih0 _ _ _)
      | (with_reducible exact ih1 _ _)
      | (with_reducible exact ih2 _ _ _ _)
      | (with_reducible exact Ci.mono _ _)
      | (with_reducible exact LeO.refl _)
      | (with_reducible exact LeO.none _)
      | (with_reducible refine LeO.ite ?_ ?_)
      | (with_reducible refine LeO.bind ?_ (fun _ => ?_))
      | exact ih0 _ _ _
      | exact ih1 _ _
      | exact ih2 _ _ _ _
      | exact Ci.mono _ _
      | exact LeO.none _
      | refine LeO.ite ?_ ?_
      | refine LeO.bind ?_ (fun _ => ?_)
theorem Bq.mono : ∀ a0 k, LeO (Bq.f k a0) (Bq.f (k + 1) a0) := by
  intro a0 k
  obtain ⟨ih0, ih1, ih2⟩ := Bq.Ed k
  unfold Bq.f
  repeat' first
      | (with_reducible exact ih0 _ _ _)
      | (with_reducible exact ih1 _ _)
      | (with_reducible exact ih2 _ _ _ _)
      | (with_reducible exact Ci.mono _ _)
      | (with_reducible exact LeO.refl _)
      | (with_reducible exact LeO.none _)
      | (with_reducible refine LeO.ite ?_ ?_)
      | (with_reducible refine LeO.bind ?_ (fun _ => ?_))
      | exact ih0 _ _ _
      | exact ih1 _ _
      | exact ih2 _ _ _ _
      | exact Ci.mono _ _
      | exact LeO.none _
      | refine LeO.ite ?_ ?_
      | refine LeO.bind ?_ (fun _ => ?_)
set_option maxHeartbeats 8000000 in
set_option maxRecDepth 100000 in
theorem Bq.calls (k : Nat) (a0 : ByteArray) (r1 : Int) (r2 : Bool) (w : World) (h : Bq.f k a0 = some (r1, r2)) :
    Calls Tryd.prog 50 #[.string a0] w fun e w' => e = .returned (.tuple #[.int .i64 r1, .bool r2]) ∧ Below w.heap.size w w' := by
  have HB := Ac.mk (Below.refl w.heap.size w)
  have H : (if (a0.size : Int) > 1 then (if 0 < (a0.size : Int) then (Bq.j0 k a0 a0 ((bt a0 0) == 45)) else (none)) else (Bq.j0 k a0 a0 false)) = some (r1, r2) := h
  clear h
  have HC2 := Ac.mk H
  clear H
  go_enter Tryd.func50, Tryd.ntmps50
  go_upto_region 2 with (fail)
  go_cut [15] (fun v15 wc => ∃ (kq : Nat) (x15_1 : Bool), v15 = .bool x15_1 ∧ Ac (Bq.j0 kq a0 a0 x15_1 = some (r1, r2)) ∧ Ac (kq ≤ k) ∧ Ac (Below w.heap.size w wc))
  case first =>
    have H := HC2.out
    clear HC2
    by_cases c3 : (a0.size : Int) > 1
    · rw [if_pos c3] at H
      have c3b0 : decide (1 < (a0.size : Int)) = true := decide_eq_true c3
      have c3b1 : decide (1 < a0.size) = true := decide_eq_true (by omega)
      clear c3
      (first | rw [c3b0] | (simp only [Bz, Cb]; rw [c3b0]) | skip)
      by_cases c4 : 0 < (a0.size : Int)
      · rw [if_pos c4] at H
        have c4b0 : decide (0 < (a0.size : Int)) = true := decide_eq_true c4
        have c4b1 : decide (0 < a0.size) = true := decide_eq_true (by omega)
        clear c4
        have H' := Ac.mk H
        clear H
        have p5 : 0 ≤ (0 : Int) := (by omega)
        have q5 : 0 < a0.size := (by have : (0 : Int) < (a0.size : Int) := of_decide_eq_true Yc_; omega)
        have hx5 : ∀ h : 0 < a0.size, ((a0[0]'h).toNat : Int) = bt a0 0 := E8 a0 0
        clear p5
        have qi5 : (0 < (a0.size : Int)) = True := eq_true (of_decide_eq_true Yc_)
        replace q5 := eq_true q5
        go_wp2
        go_meet
        case rel => exact ⟨_, (((bt a0 0) == 45)), Yf_, H', ⟨by first | omega | exact Nat.le_refl _⟩, ⟨by repeat (first | (with_reducible first | exact HB.out | apply Ae | apply Aa | apply Ad) | exact HB.out)⟩⟩
      · rw [if_neg c4] at H
        exact absurd H (by simp)
    · rw [if_neg c3] at H
      have c3b0 : decide (1 < (a0.size : Int)) = false := decide_eq_false c3
      have c3b1 : decide (1 < a0.size) = false := decide_eq_false (by omega)
      clear c3
      (first | rw [c3b0] | (simp only [Bz, Cb]; rw [c3b0]) | skip)
      have H' := Ac.mk H
      clear H
      go_wp2
      go_meet
      case rel => exact ⟨_, (false), Yf_, H', ⟨by first | omega | exact Nat.le_refl _⟩, ⟨by repeat (first | (with_reducible first | exact HB.out | apply Ae | apply Aa | apply Ad) | exact HB.out)⟩⟩
  case rest =>
    clear HC2
    try clear p2
    try clear c3
    try clear c3b0
    try clear c3b1
    try clear c4
    try clear c4b0
    try clear c4b1
    try clear c5
    try clear p5
    try clear q5
    try clear hx5
    try clear qi5
    try clear p5
    try clear q5
    obtain ⟨kq, x15_1, rfl, HA, HJ1, HB⟩ := hcut
    cases kq with
    | zero => exact absurd HA.out (by simp [Bq.j0])
    | succ kj1 =>
      have H := HA.out
      clear HA
      simp only [Bq.j0] at H
      have HC6 := Ac.mk H
      clear H
      go_upto_if 15 with (fail)
      go_cut [4] (fun v4 wc => ∃ (kq : Nat) (x4_5 : ByteArray), v4 = .string x4_5 ∧ Ac (Bq.j1 kq a0 x4_5 = some (r1, r2)) ∧ Ac (kq ≤ kj1) ∧ Ac (Below w.heap.size w wc))
      case first =>
        have H := HC6.out
        clear HC6
        by_cases c7 : x15_1 = true
        · subst c7
          have H1 : (if 1 ≤ (a0.size : Int) then (Bq.j1 kj1 a0 (a0.extract 1 a0.size)) else (none)) = some (r1, r2) := by rw [if_pos rfl] at H; exact H
          clear H
          have H := H1
          clear H1
          by_cases c8 : 1 ≤ (a0.size : Int)
          · rw [if_pos c8] at H
            have c8b0 := eq_true c8
            have c8b1 : decide (1 ≤ (a0.size : Int)) = true := decide_eq_true c8
            clear c8
            have H' := Ac.mk H
            clear H
            go_wp2
            go_meet
            case rel => exact ⟨_, (a0.extract 1 a0.size), Yf_, H', ⟨by have := HJ1.out; first | omega | exact Nat.le_refl _⟩, ⟨by repeat (first | (with_reducible first | exact HB.out | apply Ae | apply Aa | apply Ad) | exact HB.out)⟩⟩
          · rw [if_neg c8] at H
            exact absurd H (by simp)
        · replace c7 := Bool.eq_false_iff.mpr c7
          subst c7
          have H1 : (Bq.j1 kj1 a0 a0) = some (r1, r2) := by rw [if_neg (show ¬ (false = true) by decide)] at H; exact H
          clear H
          have H := H1
          clear H1
          have H' := Ac.mk H
          clear H
          go_wp2
          go_meet
          case rel => exact ⟨_, (a0), Yf_, H', ⟨by have := HJ1.out; first | omega | exact Nat.le_refl _⟩, ⟨by repeat (first | (with_reducible first | exact HB.out | apply Ae | apply Aa | apply Ad) | exact HB.out)⟩⟩
      case rest =>
        clear HC6
        try clear p2
        try clear c3
        try clear c3b0
        try clear c3b1
        try clear c4
        try clear c4b0
        try clear c4b1
        try clear c5
        try clear p5
        try clear q5
        try clear hx5
        try clear qi5
        try clear c7
        try clear c8
        try clear c8b0
        try clear c8b1
        try clear p2
        try clear p5
        try clear q5
        obtain ⟨kq, x4_5, rfl, HA, HJ5, HB⟩ := hcut
        cases kq with
        | zero => exact absurd HA.out (by simp [Bq.j1])
        | succ kj5 =>
          have H := HA.out
          clear HA
          simp only [Bq.j1] at H
          replace H := Option.bind_eq_some_iff.mp H
          obtain ⟨t253, A90, H⟩ := H
          replace H : (if t253 = true then (Bq.l0 kj5 a0 x4_5 0 0) else (some (0, false))) = some (r1, r2) := H
          have A9 := Ac.mk A90
          clear A90
          by_cases c10 : t253 = true
          · subst c10
            have H1 : (Bq.l0 kj5 a0 x4_5 0 0) = some (r1, r2) := by rw [if_pos rfl] at H; exact H
            clear H
            have H := H1
            clear H1
            have H' := Ac.mk H
            clear H
            go_wp2_with (first | ((with_reducible refine Aw (f := 38) rfl ?_); refine Bj (some 20) rfl rfl Tryd.func38 (by kernel_rfl) rfl #[.int .i64 (x4_5.size : Int), .int .i64 1, .int .i64 6] rfl Yb_ ?_; (with_reducible refine (Dw.calls (x4_5.size : Int) 1 6 true _ A9.out).mono ?_); rintro e w' ⟨rfl, ⟨nd, rfl⟩⟩; refine ⟨_, rfl, ?_⟩))
            go_loopg [5, 6] kj5 (fun kq v5 v6 w' => ∃ (x5_3 : Int) (x6_3 : Int), v5 = .int .i64 x5_3 ∧ v6 = .int .i64 x6_3 ∧ Ac (Bq.l0 kq a0 x4_5 x5_3 x6_3 = some (r1, r2)) ∧ Ac (kq ≤ kj5) ∧ Ac (Below w.heap.size w w'))
            case atStart => exact ⟨(0), (0), Yf_, Yf_, H', ⟨Nat.le_refl _⟩, ⟨by repeat (first | (with_reducible first | exact HB.out | apply Ae | apply Aa | apply Ad) | exact HB.out)⟩⟩
            case round =>
              clear H'
              try clear c1
              try clear p2
              try clear c3
              try clear c3b0
              try clear c3b1
              try clear c4
              try clear c4b0
              try clear c4b1
              try clear c5
              try clear p5
              try clear q5
              try clear hx5
              try clear qi5
              try clear c7
              try clear c8
              try clear c8b0
              try clear c8b1
              try clear c10
              try clear p2
              try clear p5
              try clear q5
              obtain ⟨x5_3, x6_3, rfl, rfl, HA, HK3, HB⟩ := hrel
              cases gk with
              | zero => exact absurd HA.out (by simp [Bq.l0])
              | succ k3 =>
                have H := HA.out
                clear HA
                simp only [Bq.l0] at H
                by_cases c11 : x6_3 < (x4_5.size : Int)
                · rw [if_pos c11] at H
                  have c11b0 : decide (x6_3 < (x4_5.size : Int)) = true := decide_eq_true c11
                  clear c11
                  by_cases c12 : 0 ≤ x6_3
                  · rw [if_pos c12] at H
                    have c12b0 : decide (0 ≤ x6_3) = true := decide_eq_true c12
                    clear c12
                    by_cases c14 : (bt x4_5 x6_3) < 48
                    · rw [if_pos c14] at H
                      have c14b0 : decide ((bt x4_5 x6_3) < 48) = true := decide_eq_true c14
                      clear c14
                      simp only [Option.some.injEq, Prod.mk.injEq] at H
                      obtain ⟨rfl, rfl⟩ := H
                      have p13 : 0 ≤ (x6_3 : Int) := of_decide_eq_true Yc_
                      have q13 : x6_3 < (x4_5.size : Int) := of_decide_eq_true Yc_
                      have hx13 := E8 x4_5 x6_3
                      replace p13 := eq_true p13
                      replace q13 := eq_true q13
                      go_wp2
                      go_ret2
                      exact ⟨by first | rfl | (simp [Aq, Ar] <;> rfl) | (simp [*, Aq, Ar] <;> rfl), by repeat (first | (with_reducible first | exact HB.out | apply Ae | apply Aa | apply Ad) | exact HB.out)⟩
                    · rw [if_neg c14] at H
                      have c14b0 : decide ((bt x4_5 x6_3) < 48) = false := decide_eq_false c14
                      clear c14
                      by_cases c16 : (bt x4_5 x6_3) > 57
                      · rw [if_pos c16] at H
                        have c16b0 : decide (57 < (bt x4_5 x6_3)) = true := decide_eq_true c16
                        clear c16
                        simp only [Option.some.injEq, Prod.mk.injEq] at H
                        obtain ⟨rfl, rfl⟩ := H
                        have p13 : 0 ≤ (x6_3 : Int) := of_decide_eq_true Yc_
                        have q13 : x6_3 < (x4_5.size : Int) := of_decide_eq_true Yc_
                        have hx13 := E8 x4_5 x6_3
                        replace p13 := eq_true p13
                        replace q13 := eq_true q13
                        have p15 : 0 ≤ (x6_3 : Int) := of_decide_eq_true Yc_
                        have q15 : x6_3 < (x4_5.size : Int) := of_decide_eq_true Yc_
                        have hx15 := E8 x4_5 x6_3
                        replace p15 := eq_true p15
                        replace q15 := eq_true q15
                        go_wp2
                        go_ret2
                        exact ⟨by first | rfl | (simp [Aq, Ar] <;> rfl) | (simp [*, Aq, Ar] <;> rfl), by repeat (first | (with_reducible first | exact HB.out | apply Ae | apply Aa | apply Ad) | exact HB.out)⟩
                      · rw [if_neg c16] at H
                        have c16b0 : decide (57 < (bt x4_5 x6_3)) = false := decide_eq_false c16
                        clear c16
                        have H' := Ac.mk H
                        clear H
                        have p13 : 0 ≤ (x6_3 : Int) := of_decide_eq_true Yc_
                        have q13 : x6_3 < (x4_5.size : Int) := of_decide_eq_true Yc_
                        have hx13 := E8 x4_5 x6_3
                        replace p13 := eq_true p13
                        replace q13 := eq_true q13
                        have p15 : 0 ≤ (x6_3 : Int) := of_decide_eq_true Yc_
                        have q15 : x6_3 < (x4_5.size : Int) := of_decide_eq_true Yc_
                        have hx15 := E8 x4_5 x6_3
                        replace p15 := eq_true p15
                        replace q15 := eq_true q15
                        have p17 : 0 ≤ (x6_3 : Int) := of_decide_eq_true Yc_
                        have q17 : x6_3 < (x4_5.size : Int) := of_decide_eq_true Yc_
                        have hx17 := E8 x4_5 x6_3
                        replace p17 := eq_true p17
                        replace q17 := eq_true q17
                        go_wp2
                        go_roundg k3
                        case measure => have := HJ1.out; have := HJ5.out; have := HK3.out; omega
                        case rel => exact ⟨(wrap64 ((wrap64 (10 * x5_3)) + (((bt x4_5 x6_3) - 48) % 256))), (wrap64 (x6_3 + 1)), Yf_, Yf_, H', ⟨by have := HJ1.out; have := HJ5.out; have := HK3.out; omega⟩, ⟨by repeat (first | (with_reducible first | exact HB.out | apply Ae | apply Aa | apply Ad) | exact HB.out)⟩⟩
                  · rw [if_neg c12] at H
                    exact absurd H (by simp)
                · rw [if_neg c11] at H
                  have c11b0 : decide (x6_3 < (x4_5.size : Int)) = false := decide_eq_false c11
                  clear c11
                  by_cases c18 : (x4_5.size : Int) < (a0.size : Int)
                  · rw [if_pos c18] at H
                    have c18b0 : decide ((x4_5.size : Int) < (a0.size : Int)) = true := decide_eq_true c18
                    have c18b1 : decide (x4_5.size < a0.size) = true := decide_eq_true (Int.ofNat_lt.mp c18)
                    clear c18
                    replace H := Option.bind_eq_some_iff.mp H
                    obtain ⟨t254, A190, H⟩ := H
                    replace H : (if t254.toList = a0.toList then (some (wrap64 (-x5_3), true)) else (some (0, false))) = some (r1, r2) := H
                    have A19 := Ac.mk A190
                    clear A190
                    by_cases c20 : t254.toList = a0.toList
                    · rw [if_pos c20] at H
                      have c20b0 : (t254.toList == a0.toList) = true := beq_iff_eq.mpr c20
                      have c20b1 : (t254.toList != a0.toList) = false := bne_eq_false_iff_eq.mpr c20
                      clear c20
                      simp only [Option.some.injEq, Prod.mk.injEq] at H
                      obtain ⟨rfl, rfl⟩ := H
                      go_wp2_with (first | ((with_reducible refine Aw (f := 39) rfl ?_); refine Bj (some 54) rfl rfl Tryd.func39 (by kernel_rfl) rfl #[.int .i64 (wrap64 (-x5_3))] rfl Yb_ ?_; (with_reducible refine (Ci.calls k3 (wrap64 (-x5_3)) t254 _ A19.out).mono ?_); rintro e w21 ⟨rfl, hb⟩; refine ⟨_, rfl, ?_⟩; have n0_ := Ac.mk (Au Ya_ hb); clear HB; have HB := n0_; clear n0_; (try clear hb); (try clear hb2); (try clear hk); (try clear hi)))
                      go_ret2
                      exact ⟨by first | rfl | (simp [Aq, Ar] <;> rfl) | (simp [*, Aq, Ar] <;> rfl), by repeat (first | (with_reducible first | exact HB.out | apply Ae | apply Aa | apply Ad) | exact HB.out)⟩
                    · rw [if_neg c20] at H
                      have c20b0 : (t254.toList == a0.toList) = false := beq_eq_false_iff_ne.mpr c20
                      have c20b1 : (t254.toList != a0.toList) = true := bne_iff_ne.mpr c20
                      simp only [Option.some.injEq, Prod.mk.injEq] at H
                      obtain ⟨rfl, rfl⟩ := H
                      go_wp2_with (first | ((with_reducible refine Aw (f := 39) rfl ?_); refine Bj (some 54) rfl rfl Tryd.func39 (by kernel_rfl) rfl #[.int .i64 (wrap64 (-x5_3))] rfl Yb_ ?_; (with_reducible refine (Ci.calls k3 (wrap64 (-x5_3)) t254 _ A19.out).mono ?_); rintro e w22 ⟨rfl, hb⟩; refine ⟨_, rfl, ?_⟩; have n0_ := Ac.mk (Au Ya_ hb); clear HB; have HB := n0_; clear n0_; (try clear hb); (try clear hb2); (try clear hk); (try clear hi)))
                      go_ret2
                      exact ⟨by first | rfl | (simp [Aq, Ar] <;> rfl) | (simp [*, Aq, Ar] <;> rfl), by repeat (first | (with_reducible first | exact HB.out | apply Ae | apply Aa | apply Ad) | exact HB.out)⟩
                  · rw [if_neg c18] at H
                    have c18b0 : decide ((x4_5.size : Int) < (a0.size : Int)) = false := decide_eq_false c18
                    have c18b1 : decide (x4_5.size < a0.size) = false := decide_eq_false (fun h => c18 (Int.ofNat_lt.mpr h))
                    clear c18
                    replace H := Option.bind_eq_some_iff.mp H
                    obtain ⟨t255, A230, H⟩ := H
                    replace H : (if t255.toList = a0.toList then (some (x5_3, true)) else (some (0, false))) = some (r1, r2) := H
                    have A23 := Ac.mk A230
                    clear A230
                    by_cases c24 : t255.toList = a0.toList
                    · rw [if_pos c24] at H
                      have c24b0 : (t255.toList == a0.toList) = true := beq_iff_eq.mpr c24
                      have c24b1 : (t255.toList != a0.toList) = false := bne_eq_false_iff_eq.mpr c24
                      clear c24
                      simp only [Option.some.injEq, Prod.mk.injEq] at H
                      obtain ⟨rfl, rfl⟩ := H
                      go_wp2_with (first | ((with_reducible refine Aw (f := 39) rfl ?_); refine Bj (some 54) rfl rfl Tryd.func39 (by kernel_rfl) rfl #[.int .i64 x5_3] rfl Yb_ ?_; (with_reducible refine (Ci.calls k3 x5_3 t255 _ A23.out).mono ?_); rintro e w25 ⟨rfl, hb⟩; refine ⟨_, rfl, ?_⟩; have n0_ := Ac.mk (Au Ya_ hb); clear HB; have HB := n0_; clear n0_; (try clear hb); (try clear hb2); (try clear hk); (try clear hi)))
                      go_ret2
                      exact ⟨by first | rfl | (simp [Aq, Ar] <;> rfl) | (simp [*, Aq, Ar] <;> rfl), by repeat (first | (with_reducible first | exact HB.out | apply Ae | apply Aa | apply Ad) | exact HB.out)⟩
                    · rw [if_neg c24] at H
                      have c24b0 : (t255.toList == a0.toList) = false := beq_eq_false_iff_ne.mpr c24
                      have c24b1 : (t255.toList != a0.toList) = true := bne_iff_ne.mpr c24
                      simp only [Option.some.injEq, Prod.mk.injEq] at H
                      obtain ⟨rfl, rfl⟩ := H
                      go_wp2_with (first | ((with_reducible refine Aw (f := 39) rfl ?_); refine Bj (some 54) rfl rfl Tryd.func39 (by kernel_rfl) rfl #[.int .i64 x5_3] rfl Yb_ ?_; (with_reducible refine (Ci.calls k3 x5_3 t255 _ A23.out).mono ?_); rintro e w26 ⟨rfl, hb⟩; refine ⟨_, rfl, ?_⟩; have n0_ := Ac.mk (Au Ya_ hb); clear HB; have HB := n0_; clear n0_; (try clear hb); (try clear hb2); (try clear hk); (try clear hi)))
                      go_ret2
                      exact ⟨by first | rfl | (simp [Aq, Ar] <;> rfl) | (simp [*, Aq, Ar] <;> rfl), by repeat (first | (with_reducible first | exact HB.out | apply Ae | apply Aa | apply Ad) | exact HB.out)⟩
          · replace c10 := Bool.eq_false_iff.mpr c10
            subst c10
            have H1 : (some (0, false)) = some (r1, r2) := by rw [if_neg (show ¬ (false = true) by decide)] at H; exact H
            clear H
            have H := H1
            clear H1
            simp only [Option.some.injEq, Prod.mk.injEq] at H
            obtain ⟨rfl, rfl⟩ := H
            go_wp2_with (first | ((with_reducible refine Aw (f := 38) rfl ?_); refine Bj (some 20) rfl rfl Tryd.func38 (by kernel_rfl) rfl #[.int .i64 (x4_5.size : Int), .int .i64 1, .int .i64 6] rfl Yb_ ?_; (with_reducible refine (Dw.calls (x4_5.size : Int) 1 6 false _ A9.out).mono ?_); rintro e w' ⟨rfl, ⟨nd, rfl⟩⟩; refine ⟨_, rfl, ?_⟩))
            go_ret2
            exact ⟨by first | rfl | (simp [Aq, Ar] <;> rfl) | (simp [*, Aq, Ar] <;> rfl), by repeat (first | (with_reducible first | exact HB.out | apply Ae | apply Aa | apply Ad) | exact HB.out)⟩
end Go.Proofs.YtghnljoaklmakaaDoor.X

namespace Go.Proofs.YtghnljoaklmakaaDoor.X
open Go.RowKit Go.Proofs.YtghnljoaklmakaaDoorW.PrintWords Go.Proofs.YtghnljoaklmakaaDoorW.PrintLast Go.Proofs.YtghnljoaklmakaaDoorW.PrintMore
attribute [local go_sem] Ea Eb Eh Eg Dz D5 Ec D9
open Go.Proofs.YtghnljoaklmakaaDoorG
def Ba.l0 : Nat → ByteArray → Int → Option (Int × ByteArray)
  | 0, _, _ => none
  | k + 1, x0, x4 => if x4 < (x0.size : Int) then (if x4 < 6 then (if 0 ≤ x4 then (if (bt x0 x4) ≥ 48 then (if (bt x0 x4) ≤ 57 then (Ba.l0 k x0 (wrap64 (x4 + 1))) else (if x4 ≤ (x0.size : Int) then ((Bq.f k (x0.extract 0 (x4 : Int).toNat)).bind fun bt256 => (some (bt256.1, x0.extract (x4 : Int).toNat x0.size))) else (none))) else (if x4 ≤ (x0.size : Int) then ((Bq.f k (x0.extract 0 (x4 : Int).toNat)).bind fun bt258 => (some (bt258.1, x0.extract (x4 : Int).toNat x0.size))) else (none))) else (none)) else (if 0 ≤ x4 then (if x4 ≤ (x0.size : Int) then ((Bq.f k (x0.extract 0 (x4 : Int).toNat)).bind fun bt260 => (some (bt260.1, x0.extract (x4 : Int).toNat x0.size))) else (none)) else (none))) else (if 0 ≤ x4 then (if x4 ≤ (x0.size : Int) then ((Bq.f k (x0.extract 0 (x4 : Int).toNat)).bind fun bt262 => (some (bt262.1, x0.extract (x4 : Int).toNat x0.size))) else (none)) else (none))
def Ba.f (k : Nat) (a0 : ByteArray) : Option (Int × ByteArray) := Ba.l0 k a0 0
theorem Ba.Ed : ∀ k, (∀ y0 y1, LeO (Ba.l0 k y0 y1) (Ba.l0 (k + 1) y0 y1))
  | 0 => fun _ _ r h => by simp [Ba.l0] at h
  | k + 1 => by
    have ih0 := Ba.Ed k
    · intro y0 y1
      unfold Ba.l0
      repeat' first
      | (with_reducible exact ih0 _ _)
      | (with_reducible exact Bq.mono _ _)
      | (with_reducible exact LeO.refl _)
      | (with_reducible exact LeO.none _)
      | (with_reducible refine LeO.ite ?_ ?_)
      | (with_reducible refine LeO.bind ?_ (fun _ => ?_))
      | exact ih0 _ _
      | exact Bq.mono _ _
      | exact LeO.none _
      | refine LeO.ite ?_ ?_
      | refine LeO.bind ?_ (fun _ => ?_)
theorem Ba.mono : ∀ a0 k, LeO (Ba.f k a0) (Ba.f (k + 1) a0) := by
  intro a0 k
  have ih0 := Ba.Ed k
  unfold Ba.f
  repeat' first
      | (with_reducible exact ih0 _ _)
      | (with_reducible exact Bq.mono _ _)
      | (with_reducible exact LeO.refl _)
      | (with_reducible exact LeO.none _)
      | (with_reducible refine LeO.ite ?_ ?_)
      | (with_reducible refine LeO.bind ?_ (fun _ => ?_))
      | exact ih0 _ _
      | exact Bq.mono _ _
      | exact LeO.none _
      | refine LeO.ite ?_ ?_
      | refine LeO.bind ?_ (fun _ => ?_)
set_option maxHeartbeats 8000000 in
set_option maxRecDepth 100000 in
theorem Ba.calls (k : Nat) (a0 : ByteArray) (r1 : Int) (r2 : ByteArray) (w : World) (h : Ba.f k a0 = some (r1, r2)) :
    Calls Tryd.prog 31 #[.string a0] w fun e w' => e = .returned (.tuple #[.int .i64 r1, .string r2]) ∧ Below w.heap.size w w' := by
  have HB := Ac.mk (Below.refl w.heap.size w)
  have H : (Ba.l0 k a0 0) = some (r1, r2) := h
  clear h
  have H' := Ac.mk H
  clear H
  go_enter Tryd.func31, Tryd.ntmps31
  go_wp2
  repeat (go_quiet (fail); try go_wp2)
  go_loopg [4] k (fun kq v4 w' => ∃ (x4_1 : Int), v4 = .int .i64 x4_1 ∧ Ac (Ba.l0 kq a0 x4_1 = some (r1, r2)) ∧ Ac (kq ≤ k) ∧ Ac (Below w.heap.size w w'))
  case atStart => exact ⟨(0), Yf_, H', ⟨Nat.le_refl _⟩, ⟨by repeat (first | (with_reducible first | exact HB.out | apply Ae | apply Aa | apply Ad) | exact HB.out)⟩⟩
  case round =>
    clear H'
    obtain ⟨x4_1, rfl, HA, HK1, HB⟩ := hrel
    cases gk with
    | zero => exact absurd HA.out (by simp [Ba.l0])
    | succ k1 =>
      have H := HA.out
      clear HA
      simp only [Ba.l0] at H
      by_cases c2 : x4_1 < (a0.size : Int)
      · rw [if_pos c2] at H
        have c2b0 : decide (x4_1 < (a0.size : Int)) = true := decide_eq_true c2
        clear c2
        by_cases c3 : x4_1 < 6
        · rw [if_pos c3] at H
          have c3b0 : decide (x4_1 < 6) = true := decide_eq_true c3
          clear c3
          by_cases c4 : 0 ≤ x4_1
          · rw [if_pos c4] at H
            have c4b0 : decide (0 ≤ x4_1) = true := decide_eq_true c4
            clear c4
            by_cases c6 : (bt a0 x4_1) ≥ 48
            · rw [if_pos c6] at H
              have c6b0 : decide (48 ≤ (bt a0 x4_1)) = true := decide_eq_true c6
              clear c6
              by_cases c8 : (bt a0 x4_1) ≤ 57
              · rw [if_pos c8] at H
                have c8b0 : decide ((bt a0 x4_1) ≤ 57) = true := decide_eq_true c8
                clear c8
                have H' := Ac.mk H
                clear H
                have p5 : 0 ≤ (x4_1 : Int) := of_decide_eq_true Yc_
                have q5 : x4_1 < (a0.size : Int) := of_decide_eq_true Yc_
                have hx5 := E8 a0 x4_1
                replace p5 := eq_true p5
                replace q5 := eq_true q5
                have p7 : 0 ≤ (x4_1 : Int) := of_decide_eq_true Yc_
                have q7 : x4_1 < (a0.size : Int) := of_decide_eq_true Yc_
                have hx7 := E8 a0 x4_1
                replace p7 := eq_true p7
                replace q7 := eq_true q7
                go_wp2
                repeat (go_quiet (fail); try go_wp2)
                go_roundg k1
                case measure => have := HK1.out; omega
                case rel => exact ⟨(wrap64 (x4_1 + 1)), Yf_, H', ⟨by have := HK1.out; omega⟩, ⟨by repeat (first | (with_reducible first | exact HB.out | apply Ae | apply Aa | apply Ad) | exact HB.out)⟩⟩
              · rw [if_neg c8] at H
                have c8b0 : decide ((bt a0 x4_1) ≤ 57) = false := decide_eq_false c8
                clear c8
                have c9b0 := eq_true (of_decide_eq_true Yc_ : 0 ≤ x4_1)
                by_cases c10 : x4_1 ≤ (a0.size : Int)
                · rw [if_pos c10] at H
                  have c10b0 := eq_true c10
                  have c10b1 : decide (x4_1 ≤ (a0.size : Int)) = true := decide_eq_true c10
                  clear c10
                  replace H := Option.bind_eq_some_iff.mp H
                  obtain ⟨⟨t256, t257⟩, A110, H⟩ := H
                  replace H : (some (t256, a0.extract (x4_1 : Int).toNat a0.size)) = some (r1, r2) := H
                  have A11 := Ac.mk A110
                  clear A110
                  have c12b0 := eq_true (of_decide_eq_true Yc_ : 0 ≤ x4_1)
                  have c13b0 := eq_true (of_decide_eq_true Yc_ : x4_1 ≤ (a0.size : Int))
                  simp only [Option.some.injEq, Prod.mk.injEq] at H
                  obtain ⟨rfl, rfl⟩ := H
                  have p5 : 0 ≤ (x4_1 : Int) := of_decide_eq_true Yc_
                  have q5 : x4_1 < (a0.size : Int) := of_decide_eq_true Yc_
                  have hx5 := E8 a0 x4_1
                  replace p5 := eq_true p5
                  replace q5 := eq_true q5
                  have p7 : 0 ≤ (x4_1 : Int) := of_decide_eq_true Yc_
                  have q7 : x4_1 < (a0.size : Int) := of_decide_eq_true Yc_
                  have hx7 := E8 a0 x4_1
                  replace p7 := eq_true p7
                  replace q7 := eq_true q7
                  go_wp2_with (first | (go_at_call 50; (with_reducible refine (Bq.calls k1 (a0.extract 0 (x4_1 : Int).toNat) t256 t257 _ A11.out).mono ?_); rintro e w14 ⟨rfl, hb⟩; have n0_ := Ac.mk (Au Ya_ hb); clear HB; have HB := n0_; clear n0_; (try clear hb); (try clear hb2); (try clear hk); (try clear hi)))
                  repeat (go_quiet (first | (go_at_call 50; (with_reducible refine (Bq.calls k1 (a0.extract 0 (x4_1 : Int).toNat) t256 t257 _ A11.out).mono ?_); rintro e w14 ⟨rfl, hb⟩; have n0_ := Ac.mk (Au Ya_ hb); clear HB; have HB := n0_; clear n0_; (try clear hb); (try clear hb2); (try clear hk); (try clear hi))); try go_wp2_with (first | (go_at_call 50; (with_reducible refine (Bq.calls k1 (a0.extract 0 (x4_1 : Int).toNat) t256 t257 _ A11.out).mono ?_); rintro e w14 ⟨rfl, hb⟩; have n0_ := Ac.mk (Au Ya_ hb); clear HB; have HB := n0_; clear n0_; (try clear hb); (try clear hb2); (try clear hk); (try clear hi))))
                  go_ret2
                  exact ⟨by first | rfl | (simp [Aq, Ar] <;> rfl) | (simp [*, Aq, Ar] <;> rfl), by repeat (first | (with_reducible first | exact HB.out | apply Ae | apply Aa | apply Ad) | exact HB.out)⟩
                · rw [if_neg c10] at H
                  exact absurd H (by simp)
            · rw [if_neg c6] at H
              have c6b0 : decide (48 ≤ (bt a0 x4_1)) = false := decide_eq_false c6
              clear c6
              have c15b0 := eq_true (of_decide_eq_true Yc_ : 0 ≤ x4_1)
              by_cases c16 : x4_1 ≤ (a0.size : Int)
              · rw [if_pos c16] at H
                have c16b0 := eq_true c16
                have c16b1 : decide (x4_1 ≤ (a0.size : Int)) = true := decide_eq_true c16
                clear c16
                replace H := Option.bind_eq_some_iff.mp H
                obtain ⟨⟨t258, t259⟩, A170, H⟩ := H
                replace H : (some (t258, a0.extract (x4_1 : Int).toNat a0.size)) = some (r1, r2) := H
                have A17 := Ac.mk A170
                clear A170
                have c18b0 := eq_true (of_decide_eq_true Yc_ : 0 ≤ x4_1)
                have c19b0 := eq_true (of_decide_eq_true Yc_ : x4_1 ≤ (a0.size : Int))
                simp only [Option.some.injEq, Prod.mk.injEq] at H
                obtain ⟨rfl, rfl⟩ := H
                have p5 : 0 ≤ (x4_1 : Int) := of_decide_eq_true Yc_
                have q5 : x4_1 < (a0.size : Int) := of_decide_eq_true Yc_
                have hx5 := E8 a0 x4_1
                replace p5 := eq_true p5
                replace q5 := eq_true q5
                go_wp2_with (first | (go_at_call 50; (with_reducible refine (Bq.calls k1 (a0.extract 0 (x4_1 : Int).toNat) t258 t259 _ A17.out).mono ?_); rintro e w20 ⟨rfl, hb⟩; have n0_ := Ac.mk (Au Ya_ hb); clear HB; have HB := n0_; clear n0_; (try clear hb); (try clear hb2); (try clear hk); (try clear hi)))
                repeat (go_quiet (first | (go_at_call 50; (with_reducible refine (Bq.calls k1 (a0.extract 0 (x4_1 : Int).toNat) t258 t259 _ A17.out).mono ?_); rintro e w20 ⟨rfl, hb⟩; have n0_ := Ac.mk (Au Ya_ hb); clear HB; have HB := n0_; clear n0_; (try clear hb); (try clear hb2); (try clear hk); (try clear hi))); try go_wp2_with (first | (go_at_call 50; (with_reducible refine (Bq.calls k1 (a0.extract 0 (x4_1 : Int).toNat) t258 t259 _ A17.out).mono ?_); rintro e w20 ⟨rfl, hb⟩; have n0_ := Ac.mk (Au Ya_ hb); clear HB; have HB := n0_; clear n0_; (try clear hb); (try clear hb2); (try clear hk); (try clear hi))))
                go_ret2
                exact ⟨by first | rfl | (simp [Aq, Ar] <;> rfl) | (simp [*, Aq, Ar] <;> rfl), by repeat (first | (with_reducible first | exact HB.out | apply Ae | apply Aa | apply Ad) | exact HB.out)⟩
              · rw [if_neg c16] at H
                exact absurd H (by simp)
          · rw [if_neg c4] at H
            exact absurd H (by simp)
        · rw [if_neg c3] at H
          have c3b0 : decide (x4_1 < 6) = false := decide_eq_false c3
          clear c3
          by_cases c21 : 0 ≤ x4_1
          · rw [if_pos c21] at H
            have c21b0 := eq_true c21
            have c21b1 : decide (0 ≤ x4_1) = true := decide_eq_true c21
            clear c21
            by_cases c22 : x4_1 ≤ (a0.size : Int)
            · rw [if_pos c22] at H
              have c22b0 := eq_true c22
              have c22b1 : decide (x4_1 ≤ (a0.size : Int)) = true := decide_eq_true c22
              clear c22
              replace H := Option.bind_eq_some_iff.mp H
              obtain ⟨⟨t260, t261⟩, A230, H⟩ := H
              replace H : (some (t260, a0.extract (x4_1 : Int).toNat a0.size)) = some (r1, r2) := H
              have A23 := Ac.mk A230
              clear A230
              have c24b0 := eq_true (of_decide_eq_true Yc_ : 0 ≤ x4_1)
              have c25b0 := eq_true (of_decide_eq_true Yc_ : x4_1 ≤ (a0.size : Int))
              simp only [Option.some.injEq, Prod.mk.injEq] at H
              obtain ⟨rfl, rfl⟩ := H
              go_wp2_with (first | (go_at_call 50; (with_reducible refine (Bq.calls k1 (a0.extract 0 (x4_1 : Int).toNat) t260 t261 _ A23.out).mono ?_); rintro e w26 ⟨rfl, hb⟩; have n0_ := Ac.mk (Au Ya_ hb); clear HB; have HB := n0_; clear n0_; (try clear hb); (try clear hb2); (try clear hk); (try clear hi)))
              repeat (go_quiet (first | (go_at_call 50; (with_reducible refine (Bq.calls k1 (a0.extract 0 (x4_1 : Int).toNat) t260 t261 _ A23.out).mono ?_); rintro e w26 ⟨rfl, hb⟩; have n0_ := Ac.mk (Au Ya_ hb); clear HB; have HB := n0_; clear n0_; (try clear hb); (try clear hb2); (try clear hk); (try clear hi))); try go_wp2_with (first | (go_at_call 50; (with_reducible refine (Bq.calls k1 (a0.extract 0 (x4_1 : Int).toNat) t260 t261 _ A23.out).mono ?_); rintro e w26 ⟨rfl, hb⟩; have n0_ := Ac.mk (Au Ya_ hb); clear HB; have HB := n0_; clear n0_; (try clear hb); (try clear hb2); (try clear hk); (try clear hi))))
              go_ret2
              exact ⟨by first | rfl | (simp [Aq, Ar] <;> rfl) | (simp [*, Aq, Ar] <;> rfl), by repeat (first | (with_reducible first | exact HB.out | apply Ae | apply Aa | apply Ad) | exact HB.out)⟩
            · rw [if_neg c22] at H
              exact absurd H (by simp)
          · rw [if_neg c21] at H
            exact absurd H (by simp)
      · rw [if_neg c2] at H
        have c2b0 : decide (x4_1 < (a0.size : Int)) = false := decide_eq_false c2
        clear c2
        by_cases c27 : 0 ≤ x4_1
        · rw [if_pos c27] at H
          have c27b0 := eq_true c27
          have c27b1 : decide (0 ≤ x4_1) = true := decide_eq_true c27
          clear c27
          by_cases c28 : x4_1 ≤ (a0.size : Int)
          · rw [if_pos c28] at H
            have c28b0 := eq_true c28
            have c28b1 : decide (x4_1 ≤ (a0.size : Int)) = true := decide_eq_true c28
            clear c28
            replace H := Option.bind_eq_some_iff.mp H
            obtain ⟨⟨t262, t263⟩, A290, H⟩ := H
            replace H : (some (t262, a0.extract (x4_1 : Int).toNat a0.size)) = some (r1, r2) := H
            have A29 := Ac.mk A290
            clear A290
            have c30b0 := eq_true (of_decide_eq_true Yc_ : 0 ≤ x4_1)
            have c31b0 := eq_true (of_decide_eq_true Yc_ : x4_1 ≤ (a0.size : Int))
            simp only [Option.some.injEq, Prod.mk.injEq] at H
            obtain ⟨rfl, rfl⟩ := H
            go_wp2_with (first | (go_at_call 50; (with_reducible refine (Bq.calls k1 (a0.extract 0 (x4_1 : Int).toNat) t262 t263 _ A29.out).mono ?_); rintro e w32 ⟨rfl, hb⟩; have n0_ := Ac.mk (Au Ya_ hb); clear HB; have HB := n0_; clear n0_; (try clear hb); (try clear hb2); (try clear hk); (try clear hi)))
            repeat (go_quiet (first | (go_at_call 50; (with_reducible refine (Bq.calls k1 (a0.extract 0 (x4_1 : Int).toNat) t262 t263 _ A29.out).mono ?_); rintro e w32 ⟨rfl, hb⟩; have n0_ := Ac.mk (Au Ya_ hb); clear HB; have HB := n0_; clear n0_; (try clear hb); (try clear hb2); (try clear hk); (try clear hi))); try go_wp2_with (first | (go_at_call 50; (with_reducible refine (Bq.calls k1 (a0.extract 0 (x4_1 : Int).toNat) t262 t263 _ A29.out).mono ?_); rintro e w32 ⟨rfl, hb⟩; have n0_ := Ac.mk (Au Ya_ hb); clear HB; have HB := n0_; clear n0_; (try clear hb); (try clear hb2); (try clear hk); (try clear hi))))
            go_ret2
            exact ⟨by first | rfl | (simp [Aq, Ar] <;> rfl) | (simp [*, Aq, Ar] <;> rfl), by repeat (first | (with_reducible first | exact HB.out | apply Ae | apply Aa | apply Ad) | exact HB.out)⟩
          · rw [if_neg c28] at H
            exact absurd H (by simp)
        · rw [if_neg c27] at H
          exact absurd H (by simp)
end Go.Proofs.YtghnljoaklmakaaDoor.X

namespace Go.Proofs.YtghnljoaklmakaaDoor.X
open Go.RowKit Go.Proofs.YtghnljoaklmakaaDoorW.PrintWords Go.Proofs.YtghnljoaklmakaaDoorW.PrintLast Go.Proofs.YtghnljoaklmakaaDoorW.PrintMore
attribute [local go_sem] Ea Eb Eh Eg Dz D5 Ec D9
open Go.Proofs.YtghnljoaklmakaaDoorG
mutual
def Ap.j0 : Nat → ByteArray → ByteArray → Bool → Int → ByteArray → Int → Int → Option (Int × ByteArray × Int × Int × Bool)
  | 0, _, _, _, _, _, _, _ => none
  | k + 1, x0, x5, x33, x266000, x266001, x266002, x266003 => if x33 = true then (some (x266000, x266001, x266002, x266003, false)) else (if 0 ≤ 8 then (if 8 ≤ (x5.size : Int) then ((Bf.f (x5.extract 8 x5.size) (⟨#[32, 104, 97, 115, 32, 97, 114, 114, 105, 118, 101, 100, 32, 105, 110, 32, 115, 116, 97, 99, 107, 32]⟩ : ByteArray)).bind fun bt269 => (if bt269.2 = true then ((Ba.f k bt269.1).bind fun bt271 => (Ap.j2 k x0 x266000 x266001 x266002 x266003 1 (x5.extract 0 8) bt271.1 0)) else ((Bf.f (x5.extract 8 x5.size) (⟨#[32, 119, 97, 115, 32, 109, 111, 118, 101, 100, 32, 102, 114, 111, 109, 32, 115, 116, 97, 99, 107, 32]⟩ : ByteArray)).bind fun bt273 => (if bt273.2 = true then ((Ba.f k bt273.1).bind fun bt275 => ((Bf.f bt275.2 (⟨#[32, 116, 111, 32, 115, 116, 97, 99, 107, 32]⟩ : ByteArray)).bind fun bt277 => ((Ba.f k bt277.1).bind fun bt279 => (Ap.j2 k x0 x266000 x266001 x266002 x266003 2 (x5.extract 0 8) bt275.1 bt279.1)))) else ((Bf.f (x5.extract 8 x5.size) (⟨#[32, 105, 115, 32, 104, 101, 108, 100, 32, 102, 111, 114, 32]⟩ : ByteArray)).bind fun bt281 => (if bt281.2 = true then (Ap.l0 k x0 bt281.1 1 x266000 x266001 x266002 x266003 3 (x5.extract 0 8) 0 0) else ((Bf.f (x5.extract 8 x5.size) (⟨#[32, 105, 115, 32, 114, 101, 97, 100, 121, 32, 102, 111, 114, 32, 112, 105, 99, 107, 117, 112, 32, 105, 110, 32, 115, 108, 111, 116, 32]⟩ : ByteArray)).bind fun bt285 => (if bt285.2 = true then ((Ba.f k bt285.1).bind fun bt287 => (Ap.j2 k x0 x266000 x266001 x266002 x266003 4 (x5.extract 0 8) bt287.1 0)) else ((Bf.f (x5.extract 8 x5.size) (⟨#[32, 111, 119, 101, 115, 32]⟩ : ByteArray)).bind fun bt289 => (if bt289.2 = true then ((Ba.f k bt289.1).bind fun bt291 => ((Bf.f bt291.2 (⟨#[32, 102, 111, 114, 32]⟩ : ByteArray)).bind fun bt293 => ((Ba.f k bt293.1).bind fun bt295 => (Ap.j2 k x0 x266000 x266001 x266002 x266003 5 (x5.extract 0 8) bt291.1 bt295.1)))) else (Ap.j2 k x0 x266000 x266001 x266002 x266003 0 (x5.extract 0 8) 0 0))))))))))) else (none)) else (none))
def Ap.j2 : Nat → ByteArray → Int → ByteArray → Int → Int → Int → ByteArray → Int → Int → Option (Int × ByteArray × Int × Int × Bool)
  | 0, _, _, _, _, _, _, _, _, _ => none
  | k + 1, x0, x266000, x266001, x266002, x266003, x269000, x269001, x269002, x269003 => (Ej.f k x269000 x269001 x269002 x269003).bind fun t297 => (if t297 = true then ((Dn.f k x269000 x269001 x269002 x269003).bind fun t298 => (if t298.toList = x0.toList then (some (x269000, x269001, x269002, x269003, true)) else (some (x266000, x266001, x266002, x266003, false)))) else (some (x266000, x266001, x266002, x266003, false)))
def Ap.l0 : Nat → ByteArray → ByteArray → Int → Int → ByteArray → Int → Int → Int → ByteArray → Int → Int → Option (Int × ByteArray × Int × Int × Bool)
  | 0, _, _, _, _, _, _, _, _, _, _, _ => none
  | k + 1, x0, x12, x14, x266000, x266001, x266002, x266003, x269000, x269001, x269002, x269003 => if x14 ≤ 15 then ((Cc.f k x14).bind fun bt283 => (if bt283.1.size + 1 ≤ 9223372036854775807 then (if x12.toList = (bt283.1 ++ (⟨#[46]⟩ : ByteArray)).toList then (Ap.l0 k x0 x12 (wrap64 (x14 + 1)) x266000 x266001 x266002 x266003 x269000 x269001 x14 x269003) else (Ap.l0 k x0 x12 (wrap64 (x14 + 1)) x266000 x266001 x266002 x266003 x269000 x269001 x269002 x269003)) else (none))) else (Ap.j2 k x0 x266000 x266001 x266002 x266003 x269000 x269001 x269002 x269003)
end
def Ap.f (k : Nat) (a0 : ByteArray) : Option (Int × ByteArray × Int × Int × Bool) := (Bf.f a0 (⟨#[67, 111, 110, 116, 97, 105, 110, 101, 114, 32]⟩ : ByteArray)).bind fun bt266 => (if bt266.2 = true then (Ap.j0 k a0 bt266.1 (decide ((bt266.1.size : Int) < 8)) 0 (⟨#[]⟩ : ByteArray) 0 0) else (Ap.j0 k a0 bt266.1 true 0 (⟨#[]⟩ : ByteArray) 0 0))
theorem Ap.Ed : ∀ k, (∀ y0 y1 y2 y3 y4 y5 y6, LeO (Ap.j0 k y0 y1 y2 y3 y4 y5 y6) (Ap.j0 (k + 1) y0 y1 y2 y3 y4 y5 y6)) ∧ (∀ y0 y1 y2 y3 y4 y5 y6 y7 y8, LeO (Ap.j2 k y0 y1 y2 y3 y4 y5 y6 y7 y8) (Ap.j2 (k + 1) y0 y1 y2 y3 y4 y5 y6 y7 y8)) ∧ (∀ y0 y1 y2 y3 y4 y5 y6 y7 y8 y9 y10, LeO (Ap.l0 k y0 y1 y2 y3 y4 y5 y6 y7 y8 y9 y10) (Ap.l0 (k + 1) y0 y1 y2 y3 y4 y5 y6 y7 y8 y9 y10))
  | 0 => ⟨fun _ _ _ _ _ _ _ r h => by simp [Ap.j0] at h, fun _ _ _ _ _ _ _ _ _ r h => by simp [Ap.j2] at h, fun _ _ _ _ _ _ _ _ _ _ _ r h => by simp [Ap.l0] at h⟩
  | k + 1 => by
    obtain ⟨ih0, ih1, ih2⟩ := Ap.Ed k
    refine ⟨?_, ?_, ?_⟩
    · intro y0 y1 y2 y3 y4 y5 y6
      unfold Ap.j0
      repeat' first
      | (with_reducible exact ih0 _ _ _ _ _ _ _)
      | (with_reducible exact ih1 _ _ _ _ _ _ _ _ _)
      | (with_reducible exact ih2 _ _ _ _ _ _ _ _ _ _ _)
      | (with_reducible exact Cc.mono _ _)
      | (with_reducible exact Ba.mono _ _)
      | (with_reducible exact Ej.mono _ _ _ _ _)
      | (with_reducible exact Dn.mono _ _ _ _ _)
      | (with_reducible exact LeO.refl _)
      | (with_reducible exact LeO.none _)
      | (with_reducible refine LeO.ite ?_ ?_)
      | (with_reducible refine LeO.bind ?_ (fun _ => ?_))
      | exact ih0 _ _ _ _ _ _ _
      | exact ih1 _ _ _ _ _ _ _ _ _
      | exact ih2 _ _ _ _ _ _ _ _ _ _ _
      | exact Cc.mono _ _
      | exact Ba.mono _ _
      | exact Ej.mono _ _ _ _ _
      | exact Dn.mono _ _ _ _ _
      | exact LeO.none _
      | refine LeO.ite ?_ ?_
      | refine LeO.bind ?_ (fun _ => ?_)
    · intro y0 y1 y2 y3 y4 y5 y6 y7 y8
      unfold Ap.j2
      repeat' first
      | (with_reducible exact ih0 _ _ _ _ _ _ _)
      | (with_reducible exact ih1 _ _ _ _ _ _ _ _ _)
      | (with_reducible exact ih2 _ _ _ _ _ _ _ _ _ _ _)
      | (with_reducible exact Cc.mono _ _)
      | (with_reducible exact Ba.mono _ _)
      | (with_reducible exact Ej.mono _ _ _ _ _)
      | (with_reducible exact Dn.mono _ _ _ _ _)
      | (with_reducible exact LeO.refl _)
      | (with_reducible exact LeO.none _)
      | (with_reducible refine LeO.ite ?_ ?_)
      | (with_reducible refine LeO.bind ?_ (fun _ => ?_))
      | exact ih0 _ _ _ _ _ _ _
      | exact ih1 _ _ _ _ _ _ _ _ _
      | exact ih2 _ _ _ _ _ _ _ _ _ _ _
      | exact Cc.mono _ _
      | exact Ba.mono _ _
      | exact Ej.mono _ _ _ _ _
      | exact Dn.mono _ _ _ _ _
      | exact LeO.none _
      | refine LeO.ite ?_ ?_
      | refine LeO.bind ?_ (fun _ => ?_)
    · intro y0 y1 y2 y3 y4 y5 y6 y7 y8 y9 y10
      unfold Ap.l0
      repeat' first
      | (with_reducible exact ih0 _ _ _ _ _ _ _)
      | (with_reducible exact ih1 _ _ _ _ _ _ _ _ _)
      | (with_reducible exact ih2 _ _ _ _ _ _ _ _ _ _ _)
      | (with_reducible exact Cc.mono _ _)
      | (with_reducible exact Ba.mono _ _)
      | (with_reducible exact Ej.mono _ _ _ _ _)
      | (with_reducible exact Dn.mono _ _ _ _ _)
      | (with_reducible exact LeO.refl _)
      | (with_reducible exact LeO.none _)
      | (with_reducible refine LeO.ite ?_ ?_)
      | (with_reducible refine LeO.bind ?_ (fun _ => ?_))
      | exact ih0 _ _ _ _ _ _ _
      | exact ih1 _ _ _ _ _ _ _ _ _
      | exact ih2 _ _ _ _ _ _ _ _ _ _ _
      | exact Cc.mono _ _
      | exact Ba.mono _ _
      | exact Ej.mono _ _ _ _ _
      | exact Dn.mono _ _ _ _ _
      | exact LeO.none _
      | refine LeO.ite ?_ ?_
      | refine LeO.bind ?_ (fun _ => ?_)
theorem Ap.mono : ∀ a0 k, LeO (Ap.f k a0) (Ap.f (k + 1) a0) := by
  intro a0 k
  obtain ⟨ih0, ih1, ih2⟩ := Ap.Ed k
  unfold Ap.f
  repeat' first
      | (with_reducible exact ih0 _ _ _ _ _ _ _)
      | (with_reducible exact ih1 _ _ _ _ _ _ _ _ _)
      | (with_reducible exact ih2 _ _ _ _ _ _ _ _ _ _ _)
      | (with_reducible exact Cc.mono _ _)
      | (with_reducible exact Ba.mono _ _)
      | (with_reducible exact Ej.mono _ _ _ _ _)
      | (with_reducible exact Dn.mono _ _ _ _ _)
      | (with_reducible exact LeO.refl _)
      | (with_reducible exact LeO.none _)
      | (with_reducible refine LeO.ite ?_ ?_)
      | (with_reducible refine LeO.bind ?_ (fun _ => ?_))
      | exact ih0 _ _ _ _ _ _ _
      | exact ih1 _ _ _ _ _ _ _ _ _
      | exact ih2 _ _ _ _ _ _ _ _ _ _ _
      | exact Cc.mono _ _
      | exact Ba.mono _ _
      | exact Ej.mono _ _ _ _ _
      | exact Dn.mono _ _ _ _ _
      | exact LeO.none _
      | refine LeO.ite ?_ ?_
      | refine LeO.bind ?_ (fun _ => ?_)
set_option maxHeartbeats 8000000 in
set_option maxRecDepth 100000 in
theorem Ap.calls (k : Nat) (a0 : ByteArray) (r1 : Int) (r2 : ByteArray) (r3 : Int) (r4 : Int) (r5 : Bool) (w : World) (h : Ap.f k a0 = some (r1, r2, r3, r4, r5)) :
    Calls Tryd.prog 16 #[.string a0] w fun e w' => e = .returned (.tuple #[.agg #[.int .i64 r1, .string r2, .int .i64 r3, .int .i64 r4], .bool r5]) ∧ Below w.heap.size w w' := by
  have hu27 := Tryd.underlying27
  have HB := Ac.mk (Below.refl w.heap.size w)
  have H : ((Bf.f a0 (⟨#[67, 111, 110, 116, 97, 105, 110, 101, 114, 32]⟩ : ByteArray)).bind fun bt266 => (if bt266.2 = true then (Ap.j0 k a0 bt266.1 (decide ((bt266.1.size : Int) < 8)) 0 (⟨#[]⟩ : ByteArray) 0 0) else (Ap.j0 k a0 bt266.1 true 0 (⟨#[]⟩ : ByteArray) 0 0))) = some (r1, r2, r3, r4, r5) := h
  clear h
  replace H := Option.bind_eq_some_iff.mp H
  obtain ⟨⟨t266, t267⟩, A20, H⟩ := H
  replace H : (if t267 = true then (Ap.j0 k a0 t266 (decide ((t266.size : Int) < 8)) 0 (⟨#[]⟩ : ByteArray) 0 0) else (Ap.j0 k a0 t266 true 0 (⟨#[]⟩ : ByteArray) 0 0)) = some (r1, r2, r3, r4, r5) := H
  have A2 := Ac.mk A20
  clear A20
  have HC3 := Ac.mk H
  clear H
  go_enter Tryd.func16, Tryd.ntmps16
  go_upto_region 3 with (first | ((with_reducible refine Dh (N := 2) rfl ?_); (try (refine Gi (by rfl) ?_; dsimp only)); refine Dl ?hg (N := 2) ?hd (cs := #[.int .i64 0, .string (⟨#[]⟩ : ByteArray), .int .i64 0, .int .i64 0]) (t := 27) ?hr ?_; (case hd => rfl); (case hg => rfl); (case hr => first | (go_simp; done) | (go_simp; rfl)); intro gb0 hg w4 hbox hb; have n0_ := Ac.mk (Au Ya_ hb); have n1_ := Ac.mk (hbox); have n2_ := Ac.mk ((by rw [hg]; exact (Az Ya_) : w.heap.size ≤ gb0)); have n3_ := Ac.mk ((by rw [hg]; exact (Az Ya_) : w.heap.size ≤ gb0)); clear HB; have HB := n0_; have BK0 := n1_; have GW0 := n2_; have GE0 := n3_; clear n0_ n1_ n2_ n3_; clear hb hbox hg) | ((with_reducible refine Dh (N := 4) rfl ?_); (try (refine Gi (by rfl) ?_; dsimp only)); refine Dl ?hg (N := 4) ?hd (cs := #[.int .i64 0, .string (⟨#[]⟩ : ByteArray), .int .i64 0, .int .i64 0]) (t := 27) ?hr ?_; (case hd => rfl); (case hg => rfl); (case hr => first | (go_simp; done) | (go_simp; rfl)); intro gb1 hg w5 hbox hb; have n0_ := Ac.mk (Ce (g := gb0) (o := .cells #[.int .i64 0, .string (⟨#[]⟩ : ByteArray), .int .i64 0, .int .i64 0] 27 (0, 0)) Ye_ hb); have n1_ := Ac.mk (Au Yd_ hb); have n2_ := Ac.mk (hbox); have n3_ := Ac.mk ((by rw [hg]; exact (Az Yd_) : w.heap.size ≤ gb1)); have n4_ := Ac.mk ((by rw [hg]; exact (Az Yd_) : w.heap.size ≤ gb1)); have n5_ := Ac.mk ((by rw [hg]; exact Nat.ne_of_lt (Fb (g := gb0) (o := .cells #[.int .i64 0, .string (⟨#[]⟩ : ByteArray), .int .i64 0, .int .i64 0] 27 (0, 0)) Ye_) : gb0 ≠ gb1)); have n6_ := Ac.mk ((by rw [hg]; exact Nat.ne_of_gt (Fb (g := gb0) (o := .cells #[.int .i64 0, .string (⟨#[]⟩ : ByteArray), .int .i64 0, .int .i64 0] 27 (0, 0)) Ye_) : gb1 ≠ gb0)); clear BK0; clear HB; have BK0 := n0_; have HB := n1_; have BK1 := n2_; have GW1 := n3_; have GE1 := n4_; have NB0_1 := n5_; have NB1_0 := n6_; clear n0_ n1_ n2_ n3_ n4_ n5_ n6_; clear hb hbox hg; have hnb6 := NB1_0.out; have hnc6 := NB0_1.out; have hcz7_0 : w5.cell? ⟨gb1, 0, none⟩ = some (.int .i64 0) := (Af BK1.out 0).trans rfl; have hcz7_1 : w5.cell? ⟨gb1, 1, none⟩ = some (.string (⟨#[]⟩ : ByteArray)) := (Af BK1.out 1).trans rfl; have hcz7_2 : w5.cell? ⟨gb1, 2, none⟩ = some (.int .i64 0) := (Af BK1.out 2).trans rfl; have hcz7_3 : w5.cell? ⟨gb1, 3, none⟩ = some (.int .i64 0) := (Af BK1.out 3).trans rfl; have hfz7_0 := Ag BK1.out 0; have hfz7_1 := Ag BK1.out 1; have hfz7_2 := Ag BK1.out 2; have hfz7_3 := Ag BK1.out 3) | ((with_reducible refine Aw (f := 30) rfl ?_); refine Bj (some 24) rfl rfl Tryd.func30 (by kernel_rfl) rfl #[.string a0, .string (⟨#[67, 111, 110, 116, 97, 105, 110, 101, 114, 32]⟩ : ByteArray)] rfl Yb_ ?_; (with_reducible refine (Bf.calls a0 (⟨#[67, 111, 110, 116, 97, 105, 110, 101, 114, 32]⟩ : ByteArray) t266 t267 _ A2.out).mono ?_); rintro e w' ⟨rfl, ⟨nd, rfl⟩⟩; refine ⟨_, rfl, ?_⟩))
  (try simp only [Act.put, List.setIfInBounds_toArray, List.set_cons_zero, List.set_cons_succ])
  go_cut [33] (fun v33 wc => ∃ (kq : Nat) (x33_2 : Bool), v33 = .bool x33_2 ∧ Ac (Ap.j0 kq a0 t266 x33_2 0 (⟨#[]⟩ : ByteArray) 0 0 = some (r1, r2, r3, r4, r5)) ∧ Ac (kq ≤ k) ∧ Ac (wc.heap[gb0]? = some (.cells #[.int .i64 0, .string (⟨#[]⟩ : ByteArray), .int .i64 0, .int .i64 0] 27 (0, 0))) ∧ Ac (wc.heap[gb1]? = some (.cells #[.int .i64 0, .string (⟨#[]⟩ : ByteArray), .int .i64 0, .int .i64 0] 27 (0, 0))) ∧ Ac (Below w.heap.size w wc))
  case first =>
    have H := HC3.out
    clear HC3
    by_cases c8 : t267 = true
    · subst c8
      have H1 : (Ap.j0 k a0 t266 (decide ((t266.size : Int) < 8)) 0 (⟨#[]⟩ : ByteArray) 0 0) = some (r1, r2, r3, r4, r5) := by rw [if_pos rfl] at H; exact H
      clear H
      have H := H1
      clear H1
      have H' := Ac.mk H
      clear H
      go_wp2
      go_meet
      case rel => exact ⟨_, (decide ((t266.size : Int) < 8)), Yf_, H', ⟨by first | omega | exact Nat.le_refl _⟩, ⟨by (with_reducible repeat (first | refine Ah ?_ _ | refine Aj ?_ | refine Ai ?_ _)); refine Dc ?_ NB0_1.out _; (with_reducible repeat (first | refine Ah ?_ _ | refine Aj ?_ | refine Ai ?_ _)); refine Dc ?_ NB0_1.out _; (with_reducible repeat (first | refine Ah ?_ _ | refine Aj ?_ | refine Ai ?_ _)); refine Dc ?_ NB0_1.out _; (with_reducible repeat (first | refine Ah ?_ _ | refine Aj ?_ | refine Ai ?_ _)); refine Dc ?_ NB0_1.out _; (with_reducible repeat (first | refine Ah ?_ _ | refine Aj ?_ | refine Ai ?_ _)); exact BK0.out⟩, ⟨by (with_reducible repeat (first | refine Ah ?_ _ | refine Aj ?_ | refine Ai ?_ _)); refine Bo (cs := #[.int .i64 0, .string (⟨#[]⟩ : ByteArray), .int .i64 0, .int .i64 0]) ?_ 3 _ rfl; (with_reducible repeat (first | refine Ah ?_ _ | refine Aj ?_ | refine Ai ?_ _)); refine Bo (cs := #[.int .i64 0, .string (⟨#[]⟩ : ByteArray), .int .i64 0, .int .i64 0]) ?_ 2 _ rfl; (with_reducible repeat (first | refine Ah ?_ _ | refine Aj ?_ | refine Ai ?_ _)); refine Bo (cs := #[.int .i64 0, .string (⟨#[]⟩ : ByteArray), .int .i64 0, .int .i64 0]) ?_ 1 _ rfl; (with_reducible repeat (first | refine Ah ?_ _ | refine Aj ?_ | refine Ai ?_ _)); refine Bo (cs := #[.int .i64 0, .string (⟨#[]⟩ : ByteArray), .int .i64 0, .int .i64 0]) ?_ 0 _ rfl; (with_reducible repeat (first | refine Ah ?_ _ | refine Aj ?_ | refine Ai ?_ _)); exact BK1.out⟩, ⟨by repeat (first | (with_reducible first | exact HB.out | apply Ae | apply Aa | apply Ad | refine Am ?_ GE0.out | refine Am ?_ GE1.out) | exact HB.out)⟩⟩
    · replace c8 := Bool.eq_false_iff.mpr c8
      subst c8
      have H1 : (Ap.j0 k a0 t266 true 0 (⟨#[]⟩ : ByteArray) 0 0) = some (r1, r2, r3, r4, r5) := by rw [if_neg (show ¬ (false = true) by decide)] at H; exact H
      clear H
      have H := H1
      clear H1
      have H' := Ac.mk H
      clear H
      go_wp2
      go_meet
      case rel => exact ⟨_, (true), Yf_, H', ⟨by first | omega | exact Nat.le_refl _⟩, ⟨by (with_reducible repeat (first | refine Ah ?_ _ | refine Aj ?_ | refine Ai ?_ _)); refine Dc ?_ NB0_1.out _; (with_reducible repeat (first | refine Ah ?_ _ | refine Aj ?_ | refine Ai ?_ _)); refine Dc ?_ NB0_1.out _; (with_reducible repeat (first | refine Ah ?_ _ | refine Aj ?_ | refine Ai ?_ _)); refine Dc ?_ NB0_1.out _; (with_reducible repeat (first | refine Ah ?_ _ | refine Aj ?_ | refine Ai ?_ _)); refine Dc ?_ NB0_1.out _; (with_reducible repeat (first | refine Ah ?_ _ | refine Aj ?_ | refine Ai ?_ _)); exact BK0.out⟩, ⟨by (with_reducible repeat (first | refine Ah ?_ _ | refine Aj ?_ | refine Ai ?_ _)); refine Bo (cs := #[.int .i64 0, .string (⟨#[]⟩ : ByteArray), .int .i64 0, .int .i64 0]) ?_ 3 _ rfl; (with_reducible repeat (first | refine Ah ?_ _ | refine Aj ?_ | refine Ai ?_ _)); refine Bo (cs := #[.int .i64 0, .string (⟨#[]⟩ : ByteArray), .int .i64 0, .int .i64 0]) ?_ 2 _ rfl; (with_reducible repeat (first | refine Ah ?_ _ | refine Aj ?_ | refine Ai ?_ _)); refine Bo (cs := #[.int .i64 0, .string (⟨#[]⟩ : ByteArray), .int .i64 0, .int .i64 0]) ?_ 1 _ rfl; (with_reducible repeat (first | refine Ah ?_ _ | refine Aj ?_ | refine Ai ?_ _)); refine Bo (cs := #[.int .i64 0, .string (⟨#[]⟩ : ByteArray), .int .i64 0, .int .i64 0]) ?_ 0 _ rfl; (with_reducible repeat (first | refine Ah ?_ _ | refine Aj ?_ | refine Ai ?_ _)); exact BK1.out⟩, ⟨by repeat (first | (with_reducible first | exact HB.out | apply Ae | apply Aa | apply Ad | refine Am ?_ GE0.out | refine Am ?_ GE1.out) | exact HB.out)⟩⟩
  case rest =>
    clear HC3
    try clear c1
    try clear p2
    try clear c3
    try clear c6
    try clear c8
    try clear hcz7_0
    try clear hcz7_1
    try clear hcz7_2
    try clear hcz7_3
    try clear hfz7_0
    try clear hfz7_1
    try clear hfz7_2
    try clear hfz7_3
    obtain ⟨kq, x33_2, rfl, HA, HJ2, BK0, BK1, HB⟩ := hcut
    cases kq with
    | zero => exact absurd HA.out (by simp [Ap.j0])
    | succ kj2 =>
      have H := HA.out
      clear HA
      simp only [Ap.j0] at H
      by_cases c9 : x33_2 = true
      · subst c9
        have H1 : (some (0, (⟨#[]⟩ : ByteArray), 0, 0, false)) = some (r1, r2, r3, r4, r5) := by rw [if_pos rfl] at H; exact H
        clear H
        have H := H1
        clear H1
        simp only [Option.some.injEq, Prod.mk.injEq] at H
        obtain ⟨rfl, rfl, rfl, rfl, rfl⟩ := H
        have hnb10 := NB1_0.out
        have hnc10 := NB0_1.out
        have hcz11_0 : wc.cell? ⟨gb1, 0, none⟩ = some (.int .i64 0) := (Af BK1.out 0).trans rfl
        have hcz11_1 : wc.cell? ⟨gb1, 1, none⟩ = some (.string (⟨#[]⟩ : ByteArray)) := (Af BK1.out 1).trans rfl
        have hcz11_2 : wc.cell? ⟨gb1, 2, none⟩ = some (.int .i64 0) := (Af BK1.out 2).trans rfl
        have hcz11_3 : wc.cell? ⟨gb1, 3, none⟩ = some (.int .i64 0) := (Af BK1.out 3).trans rfl
        have hfz11_0 := Ag BK1.out 0
        have hfz11_1 := Ag BK1.out 1
        have hfz11_2 := Ag BK1.out 2
        have hfz11_3 := Ag BK1.out 3
        have hcz12_0 : wc.cell? ⟨gb0, 0, none⟩ = some (.int .i64 0) := (Af BK0.out 0).trans rfl
        have hcz12_1 : wc.cell? ⟨gb0, 1, none⟩ = some (.string (⟨#[]⟩ : ByteArray)) := (Af BK0.out 1).trans rfl
        have hcz12_2 : wc.cell? ⟨gb0, 2, none⟩ = some (.int .i64 0) := (Af BK0.out 2).trans rfl
        have hcz12_3 : wc.cell? ⟨gb0, 3, none⟩ = some (.int .i64 0) := (Af BK0.out 3).trans rfl
        have hfz12_0 := Ag BK0.out 0
        have hfz12_1 := Ag BK0.out 1
        have hfz12_2 := Ag BK0.out 2
        have hfz12_3 := Ag BK0.out 3
        go_wp2
        refine bodyPost_ret (Hq rfl _ _ gb0 27 #[.int .i64 0, .string (⟨#[]⟩ : ByteArray), .int .i64 0, .int .i64 0] (0, 0) _ rfl Yi_ Tryd.underlying27 rfl (by kernel_rfl)) rfl ?_
        exact ⟨by first | rfl | (simp [Aq, Ar] <;> rfl) | (simp [*, Aq, Ar] <;> rfl), by repeat (first | (with_reducible first | exact HB.out | apply Ae | apply Aa | apply Ad | refine Am ?_ GE0.out | refine Am ?_ GE1.out) | exact HB.out)⟩
      · replace c9 := Bool.eq_false_iff.mpr c9
        subst c9
        have H1 : (if 0 ≤ 8 then (if 8 ≤ (t266.size : Int) then ((Bf.f (t266.extract 8 t266.size) (⟨#[32, 104, 97, 115, 32, 97, 114, 114, 105, 118, 101, 100, 32, 105, 110, 32, 115, 116, 97, 99, 107, 32]⟩ : ByteArray)).bind fun bt269 => (if bt269.2 = true then ((Ba.f kj2 bt269.1).bind fun bt271 => (Ap.j2 kj2 a0 0 (⟨#[]⟩ : ByteArray) 0 0 1 (t266.extract 0 8) bt271.1 0)) else ((Bf.f (t266.extract 8 t266.size) (⟨#[32, 119, 97, 115, 32, 109, 111, 118, 101, 100, 32, 102, 114, 111, 109, 32, 115, 116, 97, 99, 107, 32]⟩ : ByteArray)).bind fun bt273 => (if bt273.2 = true then ((Ba.f kj2 bt273.1).bind fun bt275 => ((Bf.f bt275.2 (⟨#[32, 116, 111, 32, 115, 116, 97, 99, 107, 32]⟩ : ByteArray)).bind fun bt277 => ((Ba.f kj2 bt277.1).bind fun bt279 => (Ap.j2 kj2 a0 0 (⟨#[]⟩ : ByteArray) 0 0 2 (t266.extract 0 8) bt275.1 bt279.1)))) else ((Bf.f (t266.extract 8 t266.size) (⟨#[32, 105, 115, 32, 104, 101, 108, 100, 32, 102, 111, 114, 32]⟩ : ByteArray)).bind fun bt281 => (if bt281.2 = true then (Ap.l0 kj2 a0 bt281.1 1 0 (⟨#[]⟩ : ByteArray) 0 0 3 (t266.extract 0 8) 0 0) else ((Bf.f (t266.extract 8 t266.size) (⟨#[32, 105, 115, 32, 114, 101, 97, 100, 121, 32, 102, 111, 114, 32, 112, 105, 99, 107, 117, 112, 32, 105, 110, 32, 115, 108, 111, 116, 32]⟩ : ByteArray)).bind fun bt285 => (if bt285.2 = true then ((Ba.f kj2 bt285.1).bind fun bt287 => (Ap.j2 kj2 a0 0 (⟨#[]⟩ : ByteArray) 0 0 4 (t266.extract 0 8) bt287.1 0)) else ((Bf.f (t266.extract 8 t266.size) (⟨#[32, 111, 119, 101, 115, 32]⟩ : ByteArray)).bind fun bt289 => (if bt289.2 = true then ((Ba.f kj2 bt289.1).bind fun bt291 => ((Bf.f bt291.2 (⟨#[32, 102, 111, 114, 32]⟩ : ByteArray)).bind fun bt293 => ((Ba.f kj2 bt293.1).bind fun bt295 => (Ap.j2 kj2 a0 0 (⟨#[]⟩ : ByteArray) 0 0 5 (t266.extract 0 8) bt291.1 bt295.1)))) else (Ap.j2 kj2 a0 0 (⟨#[]⟩ : ByteArray) 0 0 0 (t266.extract 0 8) 0 0))))))))))) else (none)) else (none)) = some (r1, r2, r3, r4, r5) := by rw [if_neg (show ¬ (false = true) by decide)] at H; exact H
        clear H
        have H := H1
        clear H1
        by_cases c13 : 0 ≤ 8
        · rw [if_pos c13] at H
          have c13b0 := eq_true c13
          have c13b1 : decide (0 ≤ 8) = true := decide_eq_true c13
          clear c13
          by_cases c14 : 8 ≤ (t266.size : Int)
          · rw [if_pos c14] at H
            have c14b0 := eq_true c14
            have c14b1 : decide (8 ≤ (t266.size : Int)) = true := decide_eq_true c14
            clear c14
            have c15b0 := eq_true (of_decide_eq_true Yc_ : 8 ≤ (t266.size : Int))
            replace H := Option.bind_eq_some_iff.mp H
            obtain ⟨⟨t269, t270⟩, A160, H⟩ := H
            replace H : (if t270 = true then ((Ba.f kj2 t269).bind fun bt271 => (Ap.j2 kj2 a0 0 (⟨#[]⟩ : ByteArray) 0 0 1 (t266.extract 0 8) bt271.1 0)) else ((Bf.f (t266.extract 8 t266.size) (⟨#[32, 119, 97, 115, 32, 109, 111, 118, 101, 100, 32, 102, 114, 111, 109, 32, 115, 116, 97, 99, 107, 32]⟩ : ByteArray)).bind fun bt273 => (if bt273.2 = true then ((Ba.f kj2 bt273.1).bind fun bt275 => ((Bf.f bt275.2 (⟨#[32, 116, 111, 32, 115, 116, 97, 99, 107, 32]⟩ : ByteArray)).bind fun bt277 => ((Ba.f kj2 bt277.1).bind fun bt279 => (Ap.j2 kj2 a0 0 (⟨#[]⟩ : ByteArray) 0 0 2 (t266.extract 0 8) bt275.1 bt279.1)))) else ((Bf.f (t266.extract 8 t266.size) (⟨#[32, 105, 115, 32, 104, 101, 108, 100, 32, 102, 111, 114, 32]⟩ : ByteArray)).bind fun bt281 => (if bt281.2 = true then (Ap.l0 kj2 a0 bt281.1 1 0 (⟨#[]⟩ : ByteArray) 0 0 3 (t266.extract 0 8) 0 0) else ((Bf.f (t266.extract 8 t266.size) (⟨#[32, 105, 115, 32, 114, 101, 97, 100, 121, 32, 102, 111, 114, 32, 112, 105, 99, 107, 117, 112, 32, 105, 110, 32, 115, 108, 111, 116, 32]⟩ : ByteArray)).bind fun bt285 => (if bt285.2 = true then ((Ba.f kj2 bt285.1).bind fun bt287 => (Ap.j2 kj2 a0 0 (⟨#[]⟩ : ByteArray) 0 0 4 (t266.extract 0 8) bt287.1 0)) else ((Bf.f (t266.extract 8 t266.size) (⟨#[32, 111, 119, 101, 115, 32]⟩ : ByteArray)).bind fun bt289 => (if bt289.2 = true then ((Ba.f kj2 bt289.1).bind fun bt291 => ((Bf.f bt291.2 (⟨#[32, 102, 111, 114, 32]⟩ : ByteArray)).bind fun bt293 => ((Ba.f kj2 bt293.1).bind fun bt295 => (Ap.j2 kj2 a0 0 (⟨#[]⟩ : ByteArray) 0 0 5 (t266.extract 0 8) bt291.1 bt295.1)))) else (Ap.j2 kj2 a0 0 (⟨#[]⟩ : ByteArray) 0 0 0 (t266.extract 0 8) 0 0)))))))))) = some (r1, r2, r3, r4, r5) := H
            have A16 := Ac.mk A160
            clear A160
            have HC17 := Ac.mk H
            clear H
            go_upto_if 45 with (first | ((with_reducible refine Dh (N := 7) rfl ?_); (try (refine Gi (by rfl) ?_; dsimp only)); refine Dl ?hg (N := 7) ?hd (cs := #[.int .i64 0, .string (⟨#[]⟩ : ByteArray), .int .i64 0, .int .i64 0]) (t := 27) ?hr ?_; (case hd => rfl); (case hg => rfl); (case hr => first | (go_simp; done) | (go_simp; rfl)); intro gb2 hg w18 hbox hb; have n0_ := Ac.mk (Ce (g := gb0) (o := .cells #[.int .i64 0, .string (⟨#[]⟩ : ByteArray), .int .i64 0, .int .i64 0] 27 (0, 0)) Ye_ hb); have n1_ := Ac.mk (Ce (g := gb1) (o := .cells #[.int .i64 0, .string (⟨#[]⟩ : ByteArray), .int .i64 0, .int .i64 0] 27 (0, 0)) Ybe_ hb); have n2_ := Ac.mk (Au Ybd_ hb); have n3_ := Ac.mk (hbox); have n4_ := Ac.mk ((by rw [hg]; exact (Az Ybd_) : w.heap.size ≤ gb2)); have n5_ := Ac.mk ((by rw [hg]; exact (Az Ybd_) : w.heap.size ≤ gb2)); have n6_ := Ac.mk ((by rw [hg]; exact Nat.ne_of_lt (Fb (g := gb0) (o := .cells #[.int .i64 0, .string (⟨#[]⟩ : ByteArray), .int .i64 0, .int .i64 0] 27 (0, 0)) Ye_) : gb0 ≠ gb2)); have n7_ := Ac.mk ((by rw [hg]; exact Nat.ne_of_gt (Fb (g := gb0) (o := .cells #[.int .i64 0, .string (⟨#[]⟩ : ByteArray), .int .i64 0, .int .i64 0] 27 (0, 0)) Ye_) : gb2 ≠ gb0)); have n8_ := Ac.mk ((by rw [hg]; exact Nat.ne_of_lt (Fb (g := gb1) (o := .cells #[.int .i64 0, .string (⟨#[]⟩ : ByteArray), .int .i64 0, .int .i64 0] 27 (0, 0)) Ybe_) : gb1 ≠ gb2)); have n9_ := Ac.mk ((by rw [hg]; exact Nat.ne_of_gt (Fb (g := gb1) (o := .cells #[.int .i64 0, .string (⟨#[]⟩ : ByteArray), .int .i64 0, .int .i64 0] 27 (0, 0)) Ybe_) : gb2 ≠ gb1)); clear BK0; clear BK1; clear HB; have BK0 := n0_; have BK1 := n1_; have HB := n2_; have BK2 := n3_; have GW2 := n4_; have GE2 := n5_; have NB0_2 := n6_; have NB2_0 := n7_; have NB1_2 := n8_; have NB2_1 := n9_; clear n0_ n1_ n2_ n3_ n4_ n5_ n6_ n7_ n8_ n9_; clear hb hbox hg; have hnb19 := NB2_0.out; have hnc19 := NB0_2.out; have hnb20 := NB2_1.out; have hnc20 := NB1_2.out; have hcz21_0 : w18.cell? ⟨gb2, 0, none⟩ = some (.int .i64 0) := (Af BK2.out 0).trans rfl; have hcz21_1 : w18.cell? ⟨gb2, 1, none⟩ = some (.string (⟨#[]⟩ : ByteArray)) := (Af BK2.out 1).trans rfl; have hcz21_2 : w18.cell? ⟨gb2, 2, none⟩ = some (.int .i64 0) := (Af BK2.out 2).trans rfl; have hcz21_3 : w18.cell? ⟨gb2, 3, none⟩ = some (.int .i64 0) := (Af BK2.out 3).trans rfl; have hfz21_0 := Ag BK2.out 0; have hfz21_1 := Ag BK2.out 1; have hfz21_2 := Ag BK2.out 2; have hfz21_3 := Ag BK2.out 3) | ((with_reducible refine Aw (f := 30) rfl ?_); refine Bj (some 42) rfl rfl Tryd.func30 (by kernel_rfl) rfl #[.string (t266.extract 8 t266.size), .string (⟨#[32, 104, 97, 115, 32, 97, 114, 114, 105, 118, 101, 100, 32, 105, 110, 32, 115, 116, 97, 99, 107, 32]⟩ : ByteArray)] rfl Yb_ ?_; (with_reducible refine (Bf.calls (t266.extract 8 t266.size) (⟨#[32, 104, 97, 115, 32, 97, 114, 114, 105, 118, 101, 100, 32, 105, 110, 32, 115, 116, 97, 99, 107, 32]⟩ : ByteArray) t269 t270 _ A16.out).mono ?_); rintro e w' ⟨rfl, ⟨nd, rfl⟩⟩; refine ⟨_, rfl, ?_⟩))
            (try simp only [Act.put, List.setIfInBounds_toArray, List.set_cons_zero, List.set_cons_succ])
            go_cut [] (fun wc => ∃ (kq : Nat) (x269000_16 : Int) (x269002_16 : Int) (x269003_16 : Int), Ac (Ap.j2 kq a0 0 (⟨#[]⟩ : ByteArray) 0 0 x269000_16 (t266.extract 0 8) x269002_16 x269003_16 = some (r1, r2, r3, r4, r5)) ∧ Ac (kq ≤ kj2) ∧ Ac (wc.heap[gb0]? = some (.cells #[.int .i64 0, .string (⟨#[]⟩ : ByteArray), .int .i64 0, .int .i64 0] 27 (0, 0))) ∧ Ac (wc.heap[gb1]? = some (.cells #[.int .i64 0, .string (⟨#[]⟩ : ByteArray), .int .i64 0, .int .i64 0] 27 (0, 0))) ∧ Ac (wc.heap[gb2]? = some (.cells #[.int .i64 x269000_16, .string (t266.extract 0 8), .int .i64 x269002_16, .int .i64 x269003_16] 27 (0, 0))) ∧ Ac (Below w.heap.size w wc))
            case first =>
              have H := HC17.out
              clear HC17
              by_cases c22 : t270 = true
              · subst c22
                have H1 : ((Ba.f kj2 t269).bind fun bt271 => (Ap.j2 kj2 a0 0 (⟨#[]⟩ : ByteArray) 0 0 1 (t266.extract 0 8) bt271.1 0)) = some (r1, r2, r3, r4, r5) := by rw [if_pos rfl] at H; exact H
                clear H
                have H := H1
                clear H1
                replace H := Option.bind_eq_some_iff.mp H
                obtain ⟨⟨t271, t272⟩, A230, H⟩ := H
                replace H : (Ap.j2 kj2 a0 0 (⟨#[]⟩ : ByteArray) 0 0 1 (t266.extract 0 8) t271 0) = some (r1, r2, r3, r4, r5) := H
                have A23 := Ac.mk A230
                clear A230
                have H' := Ac.mk H
                clear H
                have hnb24 := NB2_0.out
                have hnc24 := NB0_2.out
                have hnb25 := NB2_1.out
                have hnc25 := NB1_2.out
                have hcz26_0 : w18.cell? ⟨gb2, 0, none⟩ = some (.int .i64 0) := (Af BK2.out 0).trans rfl
                have hcz26_1 : w18.cell? ⟨gb2, 1, none⟩ = some (.string (⟨#[]⟩ : ByteArray)) := (Af BK2.out 1).trans rfl
                have hcz26_2 : w18.cell? ⟨gb2, 2, none⟩ = some (.int .i64 0) := (Af BK2.out 2).trans rfl
                have hcz26_3 : w18.cell? ⟨gb2, 3, none⟩ = some (.int .i64 0) := (Af BK2.out 3).trans rfl
                have hfz26_0 := Ag BK2.out 0
                have hfz26_1 := Ag BK2.out 1
                have hfz26_2 := Ag BK2.out 2
                have hfz26_3 := Ag BK2.out 3
                go_wp2_with (first | ((with_reducible refine Aw (f := 31) rfl ?_); refine Bj (some 49) rfl rfl Tryd.func31 (by kernel_rfl) rfl #[.string t269] rfl Yb_ ?_; (with_reducible refine (Ba.calls kj2 t269 t271 t272 _ A23.out).mono ?_); rintro e w27 ⟨rfl, hb⟩; refine ⟨_, rfl, ?_⟩; have n0_ := Ac.mk (Ce (g := gb0) (o := .cells #[.int .i64 0, .string (⟨#[]⟩ : ByteArray), .int .i64 0, .int .i64 0] 27 (0, 0)) Ybb_ hb); have n1_ := Ac.mk (Ce (g := gb1) (o := .cells #[.int .i64 0, .string (⟨#[]⟩ : ByteArray), .int .i64 0, .int .i64 0] 27 (0, 0)) Ybc_ hb); have n2_ := Ac.mk (Ce (g := gb2) (o := .cells #[.int .i64 1, .string (t266.extract 0 8), .int .i64 0, .int .i64 0] 27 (0, 0)) Yh_ hb); have n3_ := Ac.mk (Au Yba_ hb); clear BK0; clear BK1; clear BK2; clear HB; have BK0 := n0_; have BK1 := n1_; have BK2 := n2_; have HB := n3_; clear n0_ n1_ n2_ n3_; (try clear hb); (try clear hb2); (try clear hk); (try clear hi); have hcz28_0 : w27.cell? ⟨gb2, 0, none⟩ = some (.int .i64 1) := (Af BK2.out 0).trans rfl; have hcz28_1 : w27.cell? ⟨gb2, 1, none⟩ = some (.string (t266.extract 0 8)) := (Af BK2.out 1).trans rfl; have hcz28_2 : w27.cell? ⟨gb2, 2, none⟩ = some (.int .i64 0) := (Af BK2.out 2).trans rfl; have hcz28_3 : w27.cell? ⟨gb2, 3, none⟩ = some (.int .i64 0) := (Af BK2.out 3).trans rfl; have hfz28_0 := Ag BK2.out 0; have hfz28_1 := Ag BK2.out 1; have hfz28_2 := Ag BK2.out 2; have hfz28_3 := Ag BK2.out 3))
                go_meet
                case rel => exact ⟨_, (1), (t271), (0), H', ⟨by have := HJ2.out; first | omega | exact Nat.le_refl _⟩, ⟨by (with_reducible repeat (first | refine Ah ?_ _ | refine Aj ?_ | refine Ai ?_ _)); refine Dc ?_ NB0_2.out _; (with_reducible repeat (first | refine Ah ?_ _ | refine Aj ?_ | refine Ai ?_ _)); exact BK0.out⟩, ⟨by (with_reducible repeat (first | refine Ah ?_ _ | refine Aj ?_ | refine Ai ?_ _)); refine Dc ?_ NB1_2.out _; (with_reducible repeat (first | refine Ah ?_ _ | refine Aj ?_ | refine Ai ?_ _)); exact BK1.out⟩, ⟨by (with_reducible repeat (first | refine Ah ?_ _ | refine Aj ?_ | refine Ai ?_ _)); refine Bo (cs := #[.int .i64 1, .string (t266.extract 0 8), .int .i64 0, .int .i64 0]) ?_ 2 _ rfl; (with_reducible repeat (first | refine Ah ?_ _ | refine Aj ?_ | refine Ai ?_ _)); exact BK2.out⟩, ⟨by repeat (first | (with_reducible first | exact HB.out | apply Ae | apply Aa | apply Ad | refine Am ?_ GE0.out | refine Am ?_ GE1.out | refine Am ?_ GE2.out) | exact HB.out)⟩⟩
              · replace c22 := Bool.eq_false_iff.mpr c22
                subst c22
                have H1 : ((Bf.f (t266.extract 8 t266.size) (⟨#[32, 119, 97, 115, 32, 109, 111, 118, 101, 100, 32, 102, 114, 111, 109, 32, 115, 116, 97, 99, 107, 32]⟩ : ByteArray)).bind fun bt273 => (if bt273.2 = true then ((Ba.f kj2 bt273.1).bind fun bt275 => ((Bf.f bt275.2 (⟨#[32, 116, 111, 32, 115, 116, 97, 99, 107, 32]⟩ : ByteArray)).bind fun bt277 => ((Ba.f kj2 bt277.1).bind fun bt279 => (Ap.j2 kj2 a0 0 (⟨#[]⟩ : ByteArray) 0 0 2 (t266.extract 0 8) bt275.1 bt279.1)))) else ((Bf.f (t266.extract 8 t266.size) (⟨#[32, 105, 115, 32, 104, 101, 108, 100, 32, 102, 111, 114, 32]⟩ : ByteArray)).bind fun bt281 => (if bt281.2 = true then (Ap.l0 kj2 a0 bt281.1 1 0 (⟨#[]⟩ : ByteArray) 0 0 3 (t266.extract 0 8) 0 0) else ((Bf.f (t266.extract 8 t266.size) (⟨#[32, 105, 115, 32, 114, 101, 97, 100, 121, 32, 102, 111, 114, 32, 112, 105, 99, 107, 117, 112, 32, 105, 110, 32, 115, 108, 111, 116, 32]⟩ : ByteArray)).bind fun bt285 => (if bt285.2 = true then ((Ba.f kj2 bt285.1).bind fun bt287 => (Ap.j2 kj2 a0 0 (⟨#[]⟩ : ByteArray) 0 0 4 (t266.extract 0 8) bt287.1 0)) else ((Bf.f (t266.extract 8 t266.size) (⟨#[32, 111, 119, 101, 115, 32]⟩ : ByteArray)).bind fun bt289 => (if bt289.2 = true then ((Ba.f kj2 bt289.1).bind fun bt291 => ((Bf.f bt291.2 (⟨#[32, 102, 111, 114, 32]⟩ : ByteArray)).bind fun bt293 => ((Ba.f kj2 bt293.1).bind fun bt295 => (Ap.j2 kj2 a0 0 (⟨#[]⟩ : ByteArray) 0 0 5 (t266.extract 0 8) bt291.1 bt295.1)))) else (Ap.j2 kj2 a0 0 (⟨#[]⟩ : ByteArray) 0 0 0 (t266.extract 0 8) 0 0))))))))) = some (r1, r2, r3, r4, r5) := by rw [if_neg (show ¬ (false = true) by decide)] at H; exact H
                clear H
                have H := H1
                clear H1
                replace H := Option.bind_eq_some_iff.mp H
                obtain ⟨⟨t273, t274⟩, A290, H⟩ := H
                replace H : (if t274 = true then ((Ba.f kj2 t273).bind fun bt275 => ((Bf.f bt275.2 (⟨#[32, 116, 111, 32, 115, 116, 97, 99, 107, 32]⟩ : ByteArray)).bind fun bt277 => ((Ba.f kj2 bt277.1).bind fun bt279 => (Ap.j2 kj2 a0 0 (⟨#[]⟩ : ByteArray) 0 0 2 (t266.extract 0 8) bt275.1 bt279.1)))) else ((Bf.f (t266.extract 8 t266.size) (⟨#[32, 105, 115, 32, 104, 101, 108, 100, 32, 102, 111, 114, 32]⟩ : ByteArray)).bind fun bt281 => (if bt281.2 = true then (Ap.l0 kj2 a0 bt281.1 1 0 (⟨#[]⟩ : ByteArray) 0 0 3 (t266.extract 0 8) 0 0) else ((Bf.f (t266.extract 8 t266.size) (⟨#[32, 105, 115, 32, 114, 101, 97, 100, 121, 32, 102, 111, 114, 32, 112, 105, 99, 107, 117, 112, 32, 105, 110, 32, 115, 108, 111, 116, 32]⟩ : ByteArray)).bind fun bt285 => (if bt285.2 = true then ((Ba.f kj2 bt285.1).bind fun bt287 => (Ap.j2 kj2 a0 0 (⟨#[]⟩ : ByteArray) 0 0 4 (t266.extract 0 8) bt287.1 0)) else ((Bf.f (t266.extract 8 t266.size) (⟨#[32, 111, 119, 101, 115, 32]⟩ : ByteArray)).bind fun bt289 => (if bt289.2 = true then ((Ba.f kj2 bt289.1).bind fun bt291 => ((Bf.f bt291.2 (⟨#[32, 102, 111, 114, 32]⟩ : ByteArray)).bind fun bt293 => ((Ba.f kj2 bt293.1).bind fun bt295 => (Ap.j2 kj2 a0 0 (⟨#[]⟩ : ByteArray) 0 0 5 (t266.extract 0 8) bt291.1 bt295.1)))) else (Ap.j2 kj2 a0 0 (⟨#[]⟩ : ByteArray) 0 0 0 (t266.extract 0 8) 0 0)))))))) = some (r1, r2, r3, r4, r5) := H
                have A29 := Ac.mk A290
                clear A290
                by_cases c30 : t274 = true
                · subst c30
                  have H1 : ((Ba.f kj2 t273).bind fun bt275 => ((Bf.f bt275.2 (⟨#[32, 116, 111, 32, 115, 116, 97, 99, 107, 32]⟩ : ByteArray)).bind fun bt277 => ((Ba.f kj2 bt277.1).bind fun bt279 => (Ap.j2 kj2 a0 0 (⟨#[]⟩ : ByteArray) 0 0 2 (t266.extract 0 8) bt275.1 bt279.1)))) = some (r1, r2, r3, r4, r5) := by rw [if_pos rfl] at H; exact H
                  clear H
                  have H := H1
                  clear H1
                  replace H := Option.bind_eq_some_iff.mp H
                  obtain ⟨⟨t275, t276⟩, A310, H⟩ := H
                  replace H : ((Bf.f t276 (⟨#[32, 116, 111, 32, 115, 116, 97, 99, 107, 32]⟩ : ByteArray)).bind fun bt277 => ((Ba.f kj2 bt277.1).bind fun bt279 => (Ap.j2 kj2 a0 0 (⟨#[]⟩ : ByteArray) 0 0 2 (t266.extract 0 8) t275 bt279.1))) = some (r1, r2, r3, r4, r5) := H
                  have A31 := Ac.mk A310
                  clear A310
                  replace H := Option.bind_eq_some_iff.mp H
                  obtain ⟨⟨t277, t278⟩, A320, H⟩ := H
                  replace H : ((Ba.f kj2 t277).bind fun bt279 => (Ap.j2 kj2 a0 0 (⟨#[]⟩ : ByteArray) 0 0 2 (t266.extract 0 8) t275 bt279.1)) = some (r1, r2, r3, r4, r5) := H
                  have A32 := Ac.mk A320
                  clear A320
                  replace H := Option.bind_eq_some_iff.mp H
                  obtain ⟨⟨t279, t280⟩, A330, H⟩ := H
                  replace H : (Ap.j2 kj2 a0 0 (⟨#[]⟩ : ByteArray) 0 0 2 (t266.extract 0 8) t275 t279) = some (r1, r2, r3, r4, r5) := H
                  have A33 := Ac.mk A330
                  clear A330
                  have H' := Ac.mk H
                  clear H
                  go_wp2_with (first | ((with_reducible refine Aw (f := 30) rfl ?_); refine Bj (some 55) rfl rfl Tryd.func30 (by kernel_rfl) rfl #[.string (t266.extract 8 t266.size), .string (⟨#[32, 119, 97, 115, 32, 109, 111, 118, 101, 100, 32, 102, 114, 111, 109, 32, 115, 116, 97, 99, 107, 32]⟩ : ByteArray)] rfl Yb_ ?_; (with_reducible refine (Bf.calls (t266.extract 8 t266.size) (⟨#[32, 119, 97, 115, 32, 109, 111, 118, 101, 100, 32, 102, 114, 111, 109, 32, 115, 116, 97, 99, 107, 32]⟩ : ByteArray) t273 true _ A29.out).mono ?_); rintro e w' ⟨rfl, ⟨nd, rfl⟩⟩; refine ⟨_, rfl, ?_⟩; have hnb34 := NB2_0.out; have hnc34 := NB0_2.out; have hnb35 := NB2_1.out; have hnc35 := NB1_2.out; have hcz36_0 : w18.cell? ⟨gb2, 0, none⟩ = some (.int .i64 0) := (Af BK2.out 0).trans rfl; have hcz36_1 : w18.cell? ⟨gb2, 1, none⟩ = some (.string (⟨#[]⟩ : ByteArray)) := (Af BK2.out 1).trans rfl; have hcz36_2 : w18.cell? ⟨gb2, 2, none⟩ = some (.int .i64 0) := (Af BK2.out 2).trans rfl; have hcz36_3 : w18.cell? ⟨gb2, 3, none⟩ = some (.int .i64 0) := (Af BK2.out 3).trans rfl; have hfz36_0 := Ag BK2.out 0; have hfz36_1 := Ag BK2.out 1; have hfz36_2 := Ag BK2.out 2; have hfz36_3 := Ag BK2.out 3) | ((with_reducible refine Aw (f := 31) rfl ?_); refine Bj (some 62) rfl rfl Tryd.func31 (by kernel_rfl) rfl #[.string t273] rfl Yb_ ?_; (with_reducible refine (Ba.calls kj2 t273 t275 t276 _ A31.out).mono ?_); rintro e w37 ⟨rfl, hb⟩; refine ⟨_, rfl, ?_⟩; have n0_ := Ac.mk (Ce (g := gb0) (o := .cells #[.int .i64 0, .string (⟨#[]⟩ : ByteArray), .int .i64 0, .int .i64 0] 27 (0, 0)) Ybb_ hb); have n1_ := Ac.mk (Ce (g := gb1) (o := .cells #[.int .i64 0, .string (⟨#[]⟩ : ByteArray), .int .i64 0, .int .i64 0] 27 (0, 0)) Ybc_ hb); have n2_ := Ac.mk (Ce (g := gb2) (o := .cells #[.int .i64 2, .string (t266.extract 0 8), .int .i64 0, .int .i64 0] 27 (0, 0)) Yh_ hb); have n3_ := Ac.mk (Au Yba_ hb); clear BK0; clear BK1; clear BK2; clear HB; have BK0 := n0_; have BK1 := n1_; have BK2 := n2_; have HB := n3_; clear n0_ n1_ n2_ n3_; (try clear hb); (try clear hb2); (try clear hk); (try clear hi); have hcz38_0 : w37.cell? ⟨gb2, 0, none⟩ = some (.int .i64 2) := (Af BK2.out 0).trans rfl; have hcz38_1 : w37.cell? ⟨gb2, 1, none⟩ = some (.string (t266.extract 0 8)) := (Af BK2.out 1).trans rfl; have hcz38_2 : w37.cell? ⟨gb2, 2, none⟩ = some (.int .i64 0) := (Af BK2.out 2).trans rfl; have hcz38_3 : w37.cell? ⟨gb2, 3, none⟩ = some (.int .i64 0) := (Af BK2.out 3).trans rfl; have hfz38_0 := Ag BK2.out 0; have hfz38_1 := Ag BK2.out 1; have hfz38_2 := Ag BK2.out 2; have hfz38_3 := Ag BK2.out 3) | ((with_reducible refine Aw (f := 30) rfl ?_); refine Bj (some 68) rfl rfl Tryd.func30 (by kernel_rfl) rfl #[.string t276, .string (⟨#[32, 116, 111, 32, 115, 116, 97, 99, 107, 32]⟩ : ByteArray)] rfl Yb_ ?_; (with_reducible refine (Bf.calls t276 (⟨#[32, 116, 111, 32, 115, 116, 97, 99, 107, 32]⟩ : ByteArray) t277 t278 _ A32.out).mono ?_); rintro e w' ⟨rfl, ⟨nd, rfl⟩⟩; refine ⟨_, rfl, ?_⟩) | ((with_reducible refine Aw (f := 31) rfl ?_); refine Bj (some 73) rfl rfl Tryd.func31 (by kernel_rfl) rfl #[.string t277] rfl Yb_ ?_; (with_reducible refine (Ba.calls kj2 t277 t279 t280 _ A33.out).mono ?_); rintro e w39 ⟨rfl, hb⟩; refine ⟨_, rfl, ?_⟩; have n0_ := Ac.mk (Ce (g := gb0) (o := .cells #[.int .i64 0, .string (⟨#[]⟩ : ByteArray), .int .i64 0, .int .i64 0] 27 (0, 0)) Ycg_ hb); have n1_ := Ac.mk (Ce (g := gb1) (o := .cells #[.int .i64 0, .string (⟨#[]⟩ : ByteArray), .int .i64 0, .int .i64 0] 27 (0, 0)) Ych_ hb); have n2_ := Ac.mk (Ce (g := gb2) (o := .cells #[.int .i64 2, .string (t266.extract 0 8), .int .i64 t275, .int .i64 0] 27 (0, 0)) (by (with_reducible repeat (first | refine Ah ?_ _ | refine Aj ?_ | refine Ai ?_ _)); refine Bo (cs := #[.int .i64 2, .string (t266.extract 0 8), .int .i64 0, .int .i64 0]) ?_ 2 _ rfl; (with_reducible repeat (first | refine Ah ?_ _ | refine Aj ?_ | refine Ai ?_ _)); exact BK2.out) hb); have n3_ := Ac.mk (Au Yba_ hb); clear BK0; clear BK1; clear BK2; clear HB; have BK0 := n0_; have BK1 := n1_; have BK2 := n2_; have HB := n3_; clear n0_ n1_ n2_ n3_; (try clear hb); (try clear hb2); (try clear hk); (try clear hi); have hcz40_0 : w39.cell? ⟨gb2, 0, none⟩ = some (.int .i64 2) := (Af BK2.out 0).trans rfl; have hcz40_1 : w39.cell? ⟨gb2, 1, none⟩ = some (.string (t266.extract 0 8)) := (Af BK2.out 1).trans rfl; have hcz40_2 : w39.cell? ⟨gb2, 2, none⟩ = some (.int .i64 t275) := (Af BK2.out 2).trans rfl; have hcz40_3 : w39.cell? ⟨gb2, 3, none⟩ = some (.int .i64 0) := (Af BK2.out 3).trans rfl; have hfz40_0 := Ag BK2.out 0; have hfz40_1 := Ag BK2.out 1; have hfz40_2 := Ag BK2.out 2; have hfz40_3 := Ag BK2.out 3))
                  go_meet
                  case rel => exact ⟨_, (2), (t275), (t279), H', ⟨by have := HJ2.out; first | omega | exact Nat.le_refl _⟩, ⟨by (with_reducible repeat (first | refine Ah ?_ _ | refine Aj ?_ | refine Ai ?_ _)); refine Dc ?_ NB0_2.out _; (with_reducible repeat (first | refine Ah ?_ _ | refine Aj ?_ | refine Ai ?_ _)); exact BK0.out⟩, ⟨by (with_reducible repeat (first | refine Ah ?_ _ | refine Aj ?_ | refine Ai ?_ _)); refine Dc ?_ NB1_2.out _; (with_reducible repeat (first | refine Ah ?_ _ | refine Aj ?_ | refine Ai ?_ _)); exact BK1.out⟩, ⟨by (with_reducible repeat (first | refine Ah ?_ _ | refine Aj ?_ | refine Ai ?_ _)); refine Bo (cs := #[.int .i64 2, .string (t266.extract 0 8), .int .i64 t275, .int .i64 0]) ?_ 3 _ rfl; (with_reducible repeat (first | refine Ah ?_ _ | refine Aj ?_ | refine Ai ?_ _)); exact BK2.out⟩, ⟨by repeat (first | (with_reducible first | exact HB.out | apply Ae | apply Aa | apply Ad | refine Am ?_ GE0.out | refine Am ?_ GE1.out | refine Am ?_ GE2.out) | exact HB.out)⟩⟩
                · replace c30 := Bool.eq_false_iff.mpr c30
                  subst c30
                  have H1 : ((Bf.f (t266.extract 8 t266.size) (⟨#[32, 105, 115, 32, 104, 101, 108, 100, 32, 102, 111, 114, 32]⟩ : ByteArray)).bind fun bt281 => (if bt281.2 = true then (Ap.l0 kj2 a0 bt281.1 1 0 (⟨#[]⟩ : ByteArray) 0 0 3 (t266.extract 0 8) 0 0) else ((Bf.f (t266.extract 8 t266.size) (⟨#[32, 105, 115, 32, 114, 101, 97, 100, 121, 32, 102, 111, 114, 32, 112, 105, 99, 107, 117, 112, 32, 105, 110, 32, 115, 108, 111, 116, 32]⟩ : ByteArray)).bind fun bt285 => (if bt285.2 = true then ((Ba.f kj2 bt285.1).bind fun bt287 => (Ap.j2 kj2 a0 0 (⟨#[]⟩ : ByteArray) 0 0 4 (t266.extract 0 8) bt287.1 0)) else ((Bf.f (t266.extract 8 t266.size) (⟨#[32, 111, 119, 101, 115, 32]⟩ : ByteArray)).bind fun bt289 => (if bt289.2 = true then ((Ba.f kj2 bt289.1).bind fun bt291 => ((Bf.f bt291.2 (⟨#[32, 102, 111, 114, 32]⟩ : ByteArray)).bind fun bt293 => ((Ba.f kj2 bt293.1).bind fun bt295 => (Ap.j2 kj2 a0 0 (⟨#[]⟩ : ByteArray) 0 0 5 (t266.extract 0 8) bt291.1 bt295.1)))) else (Ap.j2 kj2 a0 0 (⟨#[]⟩ : ByteArray) 0 0 0 (t266.extract 0 8) 0 0))))))) = some (r1, r2, r3, r4, r5) := by rw [if_neg (show ¬ (false = true) by decide)] at H; exact H
                  clear H
                  have H := H1
                  clear H1
                  replace H := Option.bind_eq_some_iff.mp H
                  obtain ⟨⟨t281, t282⟩, A410, H⟩ := H
                  replace H : (if t282 = true then (Ap.l0 kj2 a0 t281 1 0 (⟨#[]⟩ : ByteArray) 0 0 3 (t266.extract 0 8) 0 0) else ((Bf.f (t266.extract 8 t266.size) (⟨#[32, 105, 115, 32, 114, 101, 97, 100, 121, 32, 102, 111, 114, 32, 112, 105, 99, 107, 117, 112, 32, 105, 110, 32, 115, 108, 111, 116, 32]⟩ : ByteArray)).bind fun bt285 => (if bt285.2 = true then ((Ba.f kj2 bt285.1).bind fun bt287 => (Ap.j2 kj2 a0 0 (⟨#[]⟩ : ByteArray) 0 0 4 (t266.extract 0 8) bt287.1 0)) else ((Bf.f (t266.extract 8 t266.size) (⟨#[32, 111, 119, 101, 115, 32]⟩ : ByteArray)).bind fun bt289 => (if bt289.2 = true then ((Ba.f kj2 bt289.1).bind fun bt291 => ((Bf.f bt291.2 (⟨#[32, 102, 111, 114, 32]⟩ : ByteArray)).bind fun bt293 => ((Ba.f kj2 bt293.1).bind fun bt295 => (Ap.j2 kj2 a0 0 (⟨#[]⟩ : ByteArray) 0 0 5 (t266.extract 0 8) bt291.1 bt295.1)))) else (Ap.j2 kj2 a0 0 (⟨#[]⟩ : ByteArray) 0 0 0 (t266.extract 0 8) 0 0)))))) = some (r1, r2, r3, r4, r5) := H
                  have A41 := Ac.mk A410
                  clear A410
                  by_cases c42 : t282 = true
                  · subst c42
                    have H1 : (Ap.l0 kj2 a0 t281 1 0 (⟨#[]⟩ : ByteArray) 0 0 3 (t266.extract 0 8) 0 0) = some (r1, r2, r3, r4, r5) := by rw [if_pos rfl] at H; exact H
                    clear H
                    have H := H1
                    clear H1
                    have H' := Ac.mk H
                    clear H
                    go_wp2_with (first | ((with_reducible refine Aw (f := 30) rfl ?_); refine Bj (some 55) rfl rfl Tryd.func30 (by kernel_rfl) rfl #[.string (t266.extract 8 t266.size), .string (⟨#[32, 119, 97, 115, 32, 109, 111, 118, 101, 100, 32, 102, 114, 111, 109, 32, 115, 116, 97, 99, 107, 32]⟩ : ByteArray)] rfl Yb_ ?_; (with_reducible refine (Bf.calls (t266.extract 8 t266.size) (⟨#[32, 119, 97, 115, 32, 109, 111, 118, 101, 100, 32, 102, 114, 111, 109, 32, 115, 116, 97, 99, 107, 32]⟩ : ByteArray) t273 false _ A29.out).mono ?_); rintro e w' ⟨rfl, ⟨nd, rfl⟩⟩; refine ⟨_, rfl, ?_⟩) | ((with_reducible refine Aw (f := 30) rfl ?_); refine Bj (some 79) rfl rfl Tryd.func30 (by kernel_rfl) rfl #[.string (t266.extract 8 t266.size), .string (⟨#[32, 105, 115, 32, 104, 101, 108, 100, 32, 102, 111, 114, 32]⟩ : ByteArray)] rfl Yb_ ?_; (with_reducible refine (Bf.calls (t266.extract 8 t266.size) (⟨#[32, 105, 115, 32, 104, 101, 108, 100, 32, 102, 111, 114, 32]⟩ : ByteArray) t281 true _ A41.out).mono ?_); rintro e w' ⟨rfl, ⟨nd, rfl⟩⟩; refine ⟨_, rfl, ?_⟩; have hnb43 := NB2_0.out; have hnc43 := NB0_2.out; have hnb44 := NB2_1.out; have hnc44 := NB1_2.out; have hcz45_0 : w18.cell? ⟨gb2, 0, none⟩ = some (.int .i64 0) := (Af BK2.out 0).trans rfl; have hcz45_1 : w18.cell? ⟨gb2, 1, none⟩ = some (.string (⟨#[]⟩ : ByteArray)) := (Af BK2.out 1).trans rfl; have hcz45_2 : w18.cell? ⟨gb2, 2, none⟩ = some (.int .i64 0) := (Af BK2.out 2).trans rfl; have hcz45_3 : w18.cell? ⟨gb2, 3, none⟩ = some (.int .i64 0) := (Af BK2.out 3).trans rfl; have hfz45_0 := Ag BK2.out 0; have hfz45_1 := Ag BK2.out 1; have hfz45_2 := Ag BK2.out 2; have hfz45_3 := Ag BK2.out 3))
                    go_loopg [14] kj2 (fun kq v14 w' => ∃ (x14_2 : Int) (x269002_2 : Int), v14 = .int .i64 x14_2 ∧ Ac (Ap.l0 kq a0 t281 x14_2 0 (⟨#[]⟩ : ByteArray) 0 0 3 (t266.extract 0 8) x269002_2 0 = some (r1, r2, r3, r4, r5)) ∧ Ac (kq ≤ kj2) ∧ Ac (w'.heap[gb0]? = some (.cells #[.int .i64 0, .string (⟨#[]⟩ : ByteArray), .int .i64 0, .int .i64 0] 27 (0, 0))) ∧ Ac (w'.heap[gb1]? = some (.cells #[.int .i64 0, .string (⟨#[]⟩ : ByteArray), .int .i64 0, .int .i64 0] 27 (0, 0))) ∧ Ac (w'.heap[gb2]? = some (.cells #[.int .i64 3, .string (t266.extract 0 8), .int .i64 x269002_2, .int .i64 0] 27 (0, 0))) ∧ Ac (Below w.heap.size w w'))
                    case atStart => exact ⟨(1), (0), Yf_, H', ⟨Nat.le_refl _⟩, ⟨by (with_reducible repeat (first | refine Ah ?_ _ | refine Aj ?_ | refine Ai ?_ _)); refine Dc ?_ NB0_2.out _; (with_reducible repeat (first | refine Ah ?_ _ | refine Aj ?_ | refine Ai ?_ _)); refine Dc ?_ NB0_2.out _; (with_reducible repeat (first | refine Ah ?_ _ | refine Aj ?_ | refine Ai ?_ _)); refine Dc ?_ NB0_2.out _; (with_reducible repeat (first | refine Ah ?_ _ | refine Aj ?_ | refine Ai ?_ _)); refine Dc ?_ NB0_2.out _; (with_reducible repeat (first | refine Ah ?_ _ | refine Aj ?_ | refine Ai ?_ _)); refine Dc ?_ NB0_2.out _; (with_reducible repeat (first | refine Ah ?_ _ | refine Aj ?_ | refine Ai ?_ _)); exact BK0.out⟩, ⟨by (with_reducible repeat (first | refine Ah ?_ _ | refine Aj ?_ | refine Ai ?_ _)); refine Dc ?_ NB1_2.out _; (with_reducible repeat (first | refine Ah ?_ _ | refine Aj ?_ | refine Ai ?_ _)); refine Dc ?_ NB1_2.out _; (with_reducible repeat (first | refine Ah ?_ _ | refine Aj ?_ | refine Ai ?_ _)); refine Dc ?_ NB1_2.out _; (with_reducible repeat (first | refine Ah ?_ _ | refine Aj ?_ | refine Ai ?_ _)); refine Dc ?_ NB1_2.out _; (with_reducible repeat (first | refine Ah ?_ _ | refine Aj ?_ | refine Ai ?_ _)); refine Dc ?_ NB1_2.out _; (with_reducible repeat (first | refine Ah ?_ _ | refine Aj ?_ | refine Ai ?_ _)); exact BK1.out⟩, ⟨by (with_reducible repeat (first | refine Ah ?_ _ | refine Aj ?_ | refine Ai ?_ _)); refine Bo (cs := #[.int .i64 0, .string (t266.extract 0 8), .int .i64 0, .int .i64 0]) ?_ 0 _ rfl; (with_reducible repeat (first | refine Ah ?_ _ | refine Aj ?_ | refine Ai ?_ _)); refine Bo (cs := #[.int .i64 0, .string (t266.extract 0 8), .int .i64 0, .int .i64 0]) ?_ 3 _ rfl; (with_reducible repeat (first | refine Ah ?_ _ | refine Aj ?_ | refine Ai ?_ _)); refine Bo (cs := #[.int .i64 0, .string (t266.extract 0 8), .int .i64 0, .int .i64 0]) ?_ 2 _ rfl; (with_reducible repeat (first | refine Ah ?_ _ | refine Aj ?_ | refine Ai ?_ _)); refine Bo (cs := #[.int .i64 0, .string (⟨#[]⟩ : ByteArray), .int .i64 0, .int .i64 0]) ?_ 1 _ rfl; (with_reducible repeat (first | refine Ah ?_ _ | refine Aj ?_ | refine Ai ?_ _)); refine Bo (cs := #[.int .i64 0, .string (⟨#[]⟩ : ByteArray), .int .i64 0, .int .i64 0]) ?_ 0 _ rfl; (with_reducible repeat (first | refine Ah ?_ _ | refine Aj ?_ | refine Ai ?_ _)); exact BK2.out⟩, ⟨by repeat (first | (with_reducible first | exact HB.out | apply Ae | apply Aa | apply Ad | refine Am ?_ GE0.out | refine Am ?_ GE1.out | refine Am ?_ GE2.out) | exact HB.out)⟩⟩
                    case round =>
                      clear H'
                      try clear c1
                      try clear c2
                      try clear p2
                      try clear c3
                      try clear c4
                      try clear c6
                      try clear c8
                      try clear c9
                      try clear c10
                      try clear c13
                      try clear c13b0
                      try clear c13b1
                      try clear c14
                      try clear c14b0
                      try clear c14b1
                      try clear c15
                      try clear c15b0
                      try clear c16
                      try clear c19
                      try clear c20
                      try clear c22
                      try clear c24
                      try clear c25
                      try clear c30
                      try clear c31
                      try clear c34
                      try clear c35
                      try clear c42
                      try clear c43
                      try clear c44
                      try clear hcz11_0
                      try clear hcz11_1
                      try clear hcz11_2
                      try clear hcz11_3
                      try clear hcz12_0
                      try clear hcz12_1
                      try clear hcz12_2
                      try clear hcz12_3
                      try clear hcz21_0
                      try clear hcz21_1
                      try clear hcz21_2
                      try clear hcz21_3
                      try clear hcz26_0
                      try clear hcz26_1
                      try clear hcz26_2
                      try clear hcz26_3
                      try clear hcz28_0
                      try clear hcz28_1
                      try clear hcz28_2
                      try clear hcz28_3
                      try clear hcz36_0
                      try clear hcz36_1
                      try clear hcz36_2
                      try clear hcz36_3
                      try clear hcz38_0
                      try clear hcz38_1
                      try clear hcz38_2
                      try clear hcz38_3
                      try clear hcz40_0
                      try clear hcz40_1
                      try clear hcz40_2
                      try clear hcz40_3
                      try clear hcz45_0
                      try clear hcz45_1
                      try clear hcz45_2
                      try clear hcz45_3
                      try clear hcz7_0
                      try clear hcz7_1
                      try clear hcz7_2
                      try clear hcz7_3
                      try clear hfz11_0
                      try clear hfz11_1
                      try clear hfz11_2
                      try clear hfz11_3
                      try clear hfz12_0
                      try clear hfz12_1
                      try clear hfz12_2
                      try clear hfz12_3
                      try clear hfz21_0
                      try clear hfz21_1
                      try clear hfz21_2
                      try clear hfz21_3
                      try clear hfz26_0
                      try clear hfz26_1
                      try clear hfz26_2
                      try clear hfz26_3
                      try clear hfz28_0
                      try clear hfz28_1
                      try clear hfz28_2
                      try clear hfz28_3
                      try clear hfz36_0
                      try clear hfz36_1
                      try clear hfz36_2
                      try clear hfz36_3
                      try clear hfz38_0
                      try clear hfz38_1
                      try clear hfz38_2
                      try clear hfz38_3
                      try clear hfz40_0
                      try clear hfz40_1
                      try clear hfz40_2
                      try clear hfz40_3
                      try clear hfz45_0
                      try clear hfz45_1
                      try clear hfz45_2
                      try clear hfz45_3
                      try clear hfz7_0
                      try clear hfz7_1
                      try clear hfz7_2
                      try clear hfz7_3
                      try clear p2
                      obtain ⟨x14_2, x269002_2, rfl, HA, HK2, BK0, BK1, BK2, HB⟩ := hrel
                      cases gk with
                      | zero => exact absurd HA.out (by simp [Ap.l0])
                      | succ k2 =>
                        have H := HA.out
                        clear HA
                        simp only [Ap.l0] at H
                        by_cases c46 : x14_2 ≤ 15
                        · rw [if_pos c46] at H
                          have c46b0 : decide (x14_2 ≤ 15) = true := decide_eq_true c46
                          clear c46
                          (first | rw [c46b0] | (simp only [Bz, Cb]; rw [c46b0]) | skip)
                          replace H := Option.bind_eq_some_iff.mp H
                          obtain ⟨⟨t283, t284⟩, A470, H⟩ := H
                          replace H : (if t283.size + 1 ≤ 9223372036854775807 then (if t281.toList = (t283 ++ (⟨#[46]⟩ : ByteArray)).toList then (Ap.l0 k2 a0 t281 (wrap64 (x14_2 + 1)) 0 (⟨#[]⟩ : ByteArray) 0 0 3 (t266.extract 0 8) x14_2 0) else (Ap.l0 k2 a0 t281 (wrap64 (x14_2 + 1)) 0 (⟨#[]⟩ : ByteArray) 0 0 3 (t266.extract 0 8) x269002_2 0)) else (none)) = some (r1, r2, r3, r4, r5) := H
                          have A47 := Ac.mk A470
                          clear A470
                          by_cases c48 : t283.size + 1 ≤ 9223372036854775807
                          · rw [if_pos c48] at H
                            have c48b0 := eq_true c48
                            have c48b1 : decide (t283.size + 1 ≤ 9223372036854775807) = true := decide_eq_true c48
                            try have c48b2 : (9223372036854775807 < t283.size + 1) = False := eq_false (Nat.not_lt.2 c48)
                            by_cases c49 : t281.toList = (t283 ++ (⟨#[46]⟩ : ByteArray)).toList
                            · rw [if_pos c49] at H
                              have c49b0 : (t281.toList == (t283 ++ (⟨#[46]⟩ : ByteArray)).toList) = true := beq_iff_eq.mpr c49
                              have c49b1 : (t281.toList != (t283 ++ (⟨#[46]⟩ : ByteArray)).toList) = false := bne_eq_false_iff_eq.mpr c49
                              clear c49
                              have H' := Ac.mk H
                              clear H
                              go_wp2_with (first | ((with_reducible refine Aw (f := 32) rfl ?_); refine Bj (some 90) rfl rfl Tryd.func32 (by kernel_rfl) rfl #[.int .i64 x14_2] rfl Yb_ ?_; (with_reducible refine (Cc.calls k2 x14_2 t283 t284 _ A47.out).mono ?_); rintro e w50 ⟨rfl, hb⟩; refine ⟨_, rfl, ?_⟩; have n0_ := Ac.mk (Ce (g := gb0) (o := .cells #[.int .i64 0, .string (⟨#[]⟩ : ByteArray), .int .i64 0, .int .i64 0] 27 (0, 0)) Ye_ hb); have n1_ := Ac.mk (Ce (g := gb1) (o := .cells #[.int .i64 0, .string (⟨#[]⟩ : ByteArray), .int .i64 0, .int .i64 0] 27 (0, 0)) Ybe_ hb); have n2_ := Ac.mk (Ce (g := gb2) (o := .cells #[.int .i64 3, .string (t266.extract 0 8), .int .i64 x269002_2, .int .i64 0] 27 (0, 0)) Ybj_ hb); have n3_ := Ac.mk (Au Yba_ hb); clear BK0; clear BK1; clear BK2; clear HB; have BK0 := n0_; have BK1 := n1_; have BK2 := n2_; have HB := n3_; clear n0_ n1_ n2_ n3_; (try clear hb); (try clear hb2); (try clear hk); (try clear hi); have hnb51 := NB2_0.out; have hnc51 := NB0_2.out; have hnb52 := NB2_1.out; have hnc52 := NB1_2.out; have hcz53_0 : w50.cell? ⟨gb2, 0, none⟩ = some (.int .i64 3) := (Af BK2.out 0).trans rfl; have hcz53_1 : w50.cell? ⟨gb2, 1, none⟩ = some (.string (t266.extract 0 8)) := (Af BK2.out 1).trans rfl; have hcz53_2 : w50.cell? ⟨gb2, 2, none⟩ = some (.int .i64 x269002_2) := (Af BK2.out 2).trans rfl; have hcz53_3 : w50.cell? ⟨gb2, 3, none⟩ = some (.int .i64 0) := (Af BK2.out 3).trans rfl; have hfz53_0 := Ag BK2.out 0; have hfz53_1 := Ag BK2.out 1; have hfz53_2 := Ag BK2.out 2; have hfz53_3 := Ag BK2.out 3))
                              go_roundg k2
                              case measure => have := HJ2.out; have := HK2.out; omega
                              case rel => exact ⟨(wrap64 (x14_2 + 1)), (x14_2), Yf_, H', ⟨by have := HJ2.out; have := HK2.out; omega⟩, ⟨by (with_reducible repeat (first | refine Ah ?_ _ | refine Aj ?_ | refine Ai ?_ _)); refine Dc ?_ NB0_2.out _; (with_reducible repeat (first | refine Ah ?_ _ | refine Aj ?_ | refine Ai ?_ _)); exact BK0.out⟩, ⟨by (with_reducible repeat (first | refine Ah ?_ _ | refine Aj ?_ | refine Ai ?_ _)); refine Dc ?_ NB1_2.out _; (with_reducible repeat (first | refine Ah ?_ _ | refine Aj ?_ | refine Ai ?_ _)); exact BK1.out⟩, ⟨by (with_reducible repeat (first | refine Ah ?_ _ | refine Aj ?_ | refine Ai ?_ _)); refine Bo (cs := #[.int .i64 3, .string (t266.extract 0 8), .int .i64 x269002_2, .int .i64 0]) ?_ 2 _ rfl; (with_reducible repeat (first | refine Ah ?_ _ | refine Aj ?_ | refine Ai ?_ _)); exact BK2.out⟩, ⟨by repeat (first | (with_reducible first | exact HB.out | apply Ae | apply Aa | apply Ad | refine Am ?_ GE0.out | refine Am ?_ GE1.out | refine Am ?_ GE2.out) | exact HB.out)⟩⟩
                            · rw [if_neg c49] at H
                              have c49b0 : (t281.toList == (t283 ++ (⟨#[46]⟩ : ByteArray)).toList) = false := beq_eq_false_iff_ne.mpr c49
                              have c49b1 : (t281.toList != (t283 ++ (⟨#[46]⟩ : ByteArray)).toList) = true := bne_iff_ne.mpr c49
                              have H' := Ac.mk H
                              clear H
                              go_wp2_with (first | ((with_reducible refine Aw (f := 32) rfl ?_); refine Bj (some 90) rfl rfl Tryd.func32 (by kernel_rfl) rfl #[.int .i64 x14_2] rfl Yb_ ?_; (with_reducible refine (Cc.calls k2 x14_2 t283 t284 _ A47.out).mono ?_); rintro e w54 ⟨rfl, hb⟩; refine ⟨_, rfl, ?_⟩; have n0_ := Ac.mk (Ce (g := gb0) (o := .cells #[.int .i64 0, .string (⟨#[]⟩ : ByteArray), .int .i64 0, .int .i64 0] 27 (0, 0)) Ye_ hb); have n1_ := Ac.mk (Ce (g := gb1) (o := .cells #[.int .i64 0, .string (⟨#[]⟩ : ByteArray), .int .i64 0, .int .i64 0] 27 (0, 0)) Ybe_ hb); have n2_ := Ac.mk (Ce (g := gb2) (o := .cells #[.int .i64 3, .string (t266.extract 0 8), .int .i64 x269002_2, .int .i64 0] 27 (0, 0)) Ybj_ hb); have n3_ := Ac.mk (Au Yba_ hb); clear BK0; clear BK1; clear BK2; clear HB; have BK0 := n0_; have BK1 := n1_; have BK2 := n2_; have HB := n3_; clear n0_ n1_ n2_ n3_; (try clear hb); (try clear hb2); (try clear hk); (try clear hi)))
                              go_roundg k2
                              case measure => have := HJ2.out; have := HK2.out; omega
                              case rel => exact ⟨(wrap64 (x14_2 + 1)), (x269002_2), Yf_, H', ⟨by have := HJ2.out; have := HK2.out; omega⟩, ⟨by (with_reducible repeat (first | refine Ah ?_ _ | refine Aj ?_ | refine Ai ?_ _)); exact BK0.out⟩, ⟨by (with_reducible repeat (first | refine Ah ?_ _ | refine Aj ?_ | refine Ai ?_ _)); exact BK1.out⟩, ⟨by (with_reducible repeat (first | refine Ah ?_ _ | refine Aj ?_ | refine Ai ?_ _)); exact BK2.out⟩, ⟨by repeat (first | (with_reducible first | exact HB.out | apply Ae | apply Aa | apply Ad | refine Am ?_ GE0.out | refine Am ?_ GE1.out | refine Am ?_ GE2.out) | exact HB.out)⟩⟩
                          · rw [if_neg c48] at H
                            exact absurd H (by simp)
                        · rw [if_neg c46] at H
                          have c46b0 : decide (x14_2 ≤ 15) = false := decide_eq_false c46
                          clear c46
                          (first | rw [c46b0] | (simp only [Bz, Cb]; rw [c46b0]) | skip)
                          have H' := Ac.mk H
                          clear H
                          go_wp2
                          go_meet
                          case rel => exact ⟨_, (3), (x269002_2), (0), H', ⟨by have := HJ2.out; have := HK2.out; first | omega | exact Nat.le_refl _⟩, ⟨by (with_reducible repeat (first | refine Ah ?_ _ | refine Aj ?_ | refine Ai ?_ _)); exact BK0.out⟩, ⟨by (with_reducible repeat (first | refine Ah ?_ _ | refine Aj ?_ | refine Ai ?_ _)); exact BK1.out⟩, ⟨by (with_reducible repeat (first | refine Ah ?_ _ | refine Aj ?_ | refine Ai ?_ _)); exact BK2.out⟩, ⟨by repeat (first | (with_reducible first | exact HB.out | apply Ae | apply Aa | apply Ad | refine Am ?_ GE0.out | refine Am ?_ GE1.out | refine Am ?_ GE2.out) | exact HB.out)⟩⟩
                  · replace c42 := Bool.eq_false_iff.mpr c42
                    subst c42
                    have H1 : ((Bf.f (t266.extract 8 t266.size) (⟨#[32, 105, 115, 32, 114, 101, 97, 100, 121, 32, 102, 111, 114, 32, 112, 105, 99, 107, 117, 112, 32, 105, 110, 32, 115, 108, 111, 116, 32]⟩ : ByteArray)).bind fun bt285 => (if bt285.2 = true then ((Ba.f kj2 bt285.1).bind fun bt287 => (Ap.j2 kj2 a0 0 (⟨#[]⟩ : ByteArray) 0 0 4 (t266.extract 0 8) bt287.1 0)) else ((Bf.f (t266.extract 8 t266.size) (⟨#[32, 111, 119, 101, 115, 32]⟩ : ByteArray)).bind fun bt289 => (if bt289.2 = true then ((Ba.f kj2 bt289.1).bind fun bt291 => ((Bf.f bt291.2 (⟨#[32, 102, 111, 114, 32]⟩ : ByteArray)).bind fun bt293 => ((Ba.f kj2 bt293.1).bind fun bt295 => (Ap.j2 kj2 a0 0 (⟨#[]⟩ : ByteArray) 0 0 5 (t266.extract 0 8) bt291.1 bt295.1)))) else (Ap.j2 kj2 a0 0 (⟨#[]⟩ : ByteArray) 0 0 0 (t266.extract 0 8) 0 0))))) = some (r1, r2, r3, r4, r5) := by rw [if_neg (show ¬ (false = true) by decide)] at H; exact H
                    clear H
                    have H := H1
                    clear H1
                    replace H := Option.bind_eq_some_iff.mp H
                    obtain ⟨⟨t285, t286⟩, A550, H⟩ := H
                    replace H : (if t286 = true then ((Ba.f kj2 t285).bind fun bt287 => (Ap.j2 kj2 a0 0 (⟨#[]⟩ : ByteArray) 0 0 4 (t266.extract 0 8) bt287.1 0)) else ((Bf.f (t266.extract 8 t266.size) (⟨#[32, 111, 119, 101, 115, 32]⟩ : ByteArray)).bind fun bt289 => (if bt289.2 = true then ((Ba.f kj2 bt289.1).bind fun bt291 => ((Bf.f bt291.2 (⟨#[32, 102, 111, 114, 32]⟩ : ByteArray)).bind fun bt293 => ((Ba.f kj2 bt293.1).bind fun bt295 => (Ap.j2 kj2 a0 0 (⟨#[]⟩ : ByteArray) 0 0 5 (t266.extract 0 8) bt291.1 bt295.1)))) else (Ap.j2 kj2 a0 0 (⟨#[]⟩ : ByteArray) 0 0 0 (t266.extract 0 8) 0 0)))) = some (r1, r2, r3, r4, r5) := H
                    have A55 := Ac.mk A550
                    clear A550
                    by_cases c56 : t286 = true
                    · subst c56
                      have H1 : ((Ba.f kj2 t285).bind fun bt287 => (Ap.j2 kj2 a0 0 (⟨#[]⟩ : ByteArray) 0 0 4 (t266.extract 0 8) bt287.1 0)) = some (r1, r2, r3, r4, r5) := by rw [if_pos rfl] at H; exact H
                      clear H
                      have H := H1
                      clear H1
                      replace H := Option.bind_eq_some_iff.mp H
                      obtain ⟨⟨t287, t288⟩, A570, H⟩ := H
                      replace H : (Ap.j2 kj2 a0 0 (⟨#[]⟩ : ByteArray) 0 0 4 (t266.extract 0 8) t287 0) = some (r1, r2, r3, r4, r5) := H
                      have A57 := Ac.mk A570
                      clear A570
                      have H' := Ac.mk H
                      clear H
                      go_wp2_with (first | ((with_reducible refine Aw (f := 30) rfl ?_); refine Bj (some 55) rfl rfl Tryd.func30 (by kernel_rfl) rfl #[.string (t266.extract 8 t266.size), .string (⟨#[32, 119, 97, 115, 32, 109, 111, 118, 101, 100, 32, 102, 114, 111, 109, 32, 115, 116, 97, 99, 107, 32]⟩ : ByteArray)] rfl Yb_ ?_; (with_reducible refine (Bf.calls (t266.extract 8 t266.size) (⟨#[32, 119, 97, 115, 32, 109, 111, 118, 101, 100, 32, 102, 114, 111, 109, 32, 115, 116, 97, 99, 107, 32]⟩ : ByteArray) t273 false _ A29.out).mono ?_); rintro e w' ⟨rfl, ⟨nd, rfl⟩⟩; refine ⟨_, rfl, ?_⟩) | ((with_reducible refine Aw (f := 30) rfl ?_); refine Bj (some 79) rfl rfl Tryd.func30 (by kernel_rfl) rfl #[.string (t266.extract 8 t266.size), .string (⟨#[32, 105, 115, 32, 104, 101, 108, 100, 32, 102, 111, 114, 32]⟩ : ByteArray)] rfl Yb_ ?_; (with_reducible refine (Bf.calls (t266.extract 8 t266.size) (⟨#[32, 105, 115, 32, 104, 101, 108, 100, 32, 102, 111, 114, 32]⟩ : ByteArray) t281 false _ A41.out).mono ?_); rintro e w' ⟨rfl, ⟨nd, rfl⟩⟩; refine ⟨_, rfl, ?_⟩) | ((with_reducible refine Aw (f := 30) rfl ?_); refine Bj (some 101) rfl rfl Tryd.func30 (by kernel_rfl) rfl #[.string (t266.extract 8 t266.size), .string (⟨#[32, 105, 115, 32, 114, 101, 97, 100, 121, 32, 102, 111, 114, 32, 112, 105, 99, 107, 117, 112, 32, 105, 110, 32, 115, 108, 111, 116, 32]⟩ : ByteArray)] rfl Yb_ ?_; (with_reducible refine (Bf.calls (t266.extract 8 t266.size) (⟨#[32, 105, 115, 32, 114, 101, 97, 100, 121, 32, 102, 111, 114, 32, 112, 105, 99, 107, 117, 112, 32, 105, 110, 32, 115, 108, 111, 116, 32]⟩ : ByteArray) t285 true _ A55.out).mono ?_); rintro e w' ⟨rfl, ⟨nd, rfl⟩⟩; refine ⟨_, rfl, ?_⟩; have hnb58 := NB2_0.out; have hnc58 := NB0_2.out; have hnb59 := NB2_1.out; have hnc59 := NB1_2.out; have hcz60_0 : w18.cell? ⟨gb2, 0, none⟩ = some (.int .i64 0) := (Af BK2.out 0).trans rfl; have hcz60_1 : w18.cell? ⟨gb2, 1, none⟩ = some (.string (⟨#[]⟩ : ByteArray)) := (Af BK2.out 1).trans rfl; have hcz60_2 : w18.cell? ⟨gb2, 2, none⟩ = some (.int .i64 0) := (Af BK2.out 2).trans rfl; have hcz60_3 : w18.cell? ⟨gb2, 3, none⟩ = some (.int .i64 0) := (Af BK2.out 3).trans rfl; have hfz60_0 := Ag BK2.out 0; have hfz60_1 := Ag BK2.out 1; have hfz60_2 := Ag BK2.out 2; have hfz60_3 := Ag BK2.out 3) | ((with_reducible refine Aw (f := 31) rfl ?_); refine Bj (some 108) rfl rfl Tryd.func31 (by kernel_rfl) rfl #[.string t285] rfl Yb_ ?_; (with_reducible refine (Ba.calls kj2 t285 t287 t288 _ A57.out).mono ?_); rintro e w61 ⟨rfl, hb⟩; refine ⟨_, rfl, ?_⟩; have n0_ := Ac.mk (Ce (g := gb0) (o := .cells #[.int .i64 0, .string (⟨#[]⟩ : ByteArray), .int .i64 0, .int .i64 0] 27 (0, 0)) Ybb_ hb); have n1_ := Ac.mk (Ce (g := gb1) (o := .cells #[.int .i64 0, .string (⟨#[]⟩ : ByteArray), .int .i64 0, .int .i64 0] 27 (0, 0)) Ybc_ hb); have n2_ := Ac.mk (Ce (g := gb2) (o := .cells #[.int .i64 4, .string (t266.extract 0 8), .int .i64 0, .int .i64 0] 27 (0, 0)) Yh_ hb); have n3_ := Ac.mk (Au Yba_ hb); clear BK0; clear BK1; clear BK2; clear HB; have BK0 := n0_; have BK1 := n1_; have BK2 := n2_; have HB := n3_; clear n0_ n1_ n2_ n3_; (try clear hb); (try clear hb2); (try clear hk); (try clear hi); have hcz62_0 : w61.cell? ⟨gb2, 0, none⟩ = some (.int .i64 4) := (Af BK2.out 0).trans rfl; have hcz62_1 : w61.cell? ⟨gb2, 1, none⟩ = some (.string (t266.extract 0 8)) := (Af BK2.out 1).trans rfl; have hcz62_2 : w61.cell? ⟨gb2, 2, none⟩ = some (.int .i64 0) := (Af BK2.out 2).trans rfl; have hcz62_3 : w61.cell? ⟨gb2, 3, none⟩ = some (.int .i64 0) := (Af BK2.out 3).trans rfl; have hfz62_0 := Ag BK2.out 0; have hfz62_1 := Ag BK2.out 1; have hfz62_2 := Ag BK2.out 2; have hfz62_3 := Ag BK2.out 3))
                      go_meet
                      case rel => exact ⟨_, (4), (t287), (0), H', ⟨by have := HJ2.out; first | omega | exact Nat.le_refl _⟩, ⟨by (with_reducible repeat (first | refine Ah ?_ _ | refine Aj ?_ | refine Ai ?_ _)); refine Dc ?_ NB0_2.out _; (with_reducible repeat (first | refine Ah ?_ _ | refine Aj ?_ | refine Ai ?_ _)); exact BK0.out⟩, ⟨by (with_reducible repeat (first | refine Ah ?_ _ | refine Aj ?_ | refine Ai ?_ _)); refine Dc ?_ NB1_2.out _; (with_reducible repeat (first | refine Ah ?_ _ | refine Aj ?_ | refine Ai ?_ _)); exact BK1.out⟩, ⟨by (with_reducible repeat (first | refine Ah ?_ _ | refine Aj ?_ | refine Ai ?_ _)); refine Bo (cs := #[.int .i64 4, .string (t266.extract 0 8), .int .i64 0, .int .i64 0]) ?_ 2 _ rfl; (with_reducible repeat (first | refine Ah ?_ _ | refine Aj ?_ | refine Ai ?_ _)); exact BK2.out⟩, ⟨by repeat (first | (with_reducible first | exact HB.out | apply Ae | apply Aa | apply Ad | refine Am ?_ GE0.out | refine Am ?_ GE1.out | refine Am ?_ GE2.out) | exact HB.out)⟩⟩
                    · replace c56 := Bool.eq_false_iff.mpr c56
                      subst c56
                      have H1 : ((Bf.f (t266.extract 8 t266.size) (⟨#[32, 111, 119, 101, 115, 32]⟩ : ByteArray)).bind fun bt289 => (if bt289.2 = true then ((Ba.f kj2 bt289.1).bind fun bt291 => ((Bf.f bt291.2 (⟨#[32, 102, 111, 114, 32]⟩ : ByteArray)).bind fun bt293 => ((Ba.f kj2 bt293.1).bind fun bt295 => (Ap.j2 kj2 a0 0 (⟨#[]⟩ : ByteArray) 0 0 5 (t266.extract 0 8) bt291.1 bt295.1)))) else (Ap.j2 kj2 a0 0 (⟨#[]⟩ : ByteArray) 0 0 0 (t266.extract 0 8) 0 0))) = some (r1, r2, r3, r4, r5) := by rw [if_neg (show ¬ (false = true) by decide)] at H; exact H
                      clear H
                      have H := H1
                      clear H1
                      replace H := Option.bind_eq_some_iff.mp H
                      obtain ⟨⟨t289, t290⟩, A630, H⟩ := H
                      replace H : (if t290 = true then ((Ba.f kj2 t289).bind fun bt291 => ((Bf.f bt291.2 (⟨#[32, 102, 111, 114, 32]⟩ : ByteArray)).bind fun bt293 => ((Ba.f kj2 bt293.1).bind fun bt295 => (Ap.j2 kj2 a0 0 (⟨#[]⟩ : ByteArray) 0 0 5 (t266.extract 0 8) bt291.1 bt295.1)))) else (Ap.j2 kj2 a0 0 (⟨#[]⟩ : ByteArray) 0 0 0 (t266.extract 0 8) 0 0)) = some (r1, r2, r3, r4, r5) := H
                      have A63 := Ac.mk A630
                      clear A630
                      by_cases c64 : t290 = true
                      · subst c64
                        have H1 : ((Ba.f kj2 t289).bind fun bt291 => ((Bf.f bt291.2 (⟨#[32, 102, 111, 114, 32]⟩ : ByteArray)).bind fun bt293 => ((Ba.f kj2 bt293.1).bind fun bt295 => (Ap.j2 kj2 a0 0 (⟨#[]⟩ : ByteArray) 0 0 5 (t266.extract 0 8) bt291.1 bt295.1)))) = some (r1, r2, r3, r4, r5) := by rw [if_pos rfl] at H; exact H
                        clear H
                        have H := H1
                        clear H1
                        replace H := Option.bind_eq_some_iff.mp H
                        obtain ⟨⟨t291, t292⟩, A650, H⟩ := H
                        replace H : ((Bf.f t292 (⟨#[32, 102, 111, 114, 32]⟩ : ByteArray)).bind fun bt293 => ((Ba.f kj2 bt293.1).bind fun bt295 => (Ap.j2 kj2 a0 0 (⟨#[]⟩ : ByteArray) 0 0 5 (t266.extract 0 8) t291 bt295.1))) = some (r1, r2, r3, r4, r5) := H
                        have A65 := Ac.mk A650
                        clear A650
                        replace H := Option.bind_eq_some_iff.mp H
                        obtain ⟨⟨t293, t294⟩, A660, H⟩ := H
                        replace H : ((Ba.f kj2 t293).bind fun bt295 => (Ap.j2 kj2 a0 0 (⟨#[]⟩ : ByteArray) 0 0 5 (t266.extract 0 8) t291 bt295.1)) = some (r1, r2, r3, r4, r5) := H
                        have A66 := Ac.mk A660
                        clear A660
                        replace H := Option.bind_eq_some_iff.mp H
                        obtain ⟨⟨t295, t296⟩, A670, H⟩ := H
                        replace H : (Ap.j2 kj2 a0 0 (⟨#[]⟩ : ByteArray) 0 0 5 (t266.extract 0 8) t291 t295) = some (r1, r2, r3, r4, r5) := H
                        have A67 := Ac.mk A670
                        clear A670
                        have H' := Ac.mk H
                        clear H
                        go_wp2_with (first | ((with_reducible refine Aw (f := 30) rfl ?_); refine Bj (some 55) rfl rfl Tryd.func30 (by kernel_rfl) rfl #[.string (t266.extract 8 t266.size), .string (⟨#[32, 119, 97, 115, 32, 109, 111, 118, 101, 100, 32, 102, 114, 111, 109, 32, 115, 116, 97, 99, 107, 32]⟩ : ByteArray)] rfl Yb_ ?_; (with_reducible refine (Bf.calls (t266.extract 8 t266.size) (⟨#[32, 119, 97, 115, 32, 109, 111, 118, 101, 100, 32, 102, 114, 111, 109, 32, 115, 116, 97, 99, 107, 32]⟩ : ByteArray) t273 false _ A29.out).mono ?_); rintro e w' ⟨rfl, ⟨nd, rfl⟩⟩; refine ⟨_, rfl, ?_⟩) | ((with_reducible refine Aw (f := 30) rfl ?_); refine Bj (some 79) rfl rfl Tryd.func30 (by kernel_rfl) rfl #[.string (t266.extract 8 t266.size), .string (⟨#[32, 105, 115, 32, 104, 101, 108, 100, 32, 102, 111, 114, 32]⟩ : ByteArray)] rfl Yb_ ?_; (with_reducible refine (Bf.calls (t266.extract 8 t266.size) (⟨#[32, 105, 115, 32, 104, 101, 108, 100, 32, 102, 111, 114, 32]⟩ : ByteArray) t281 false _ A41.out).mono ?_); rintro e w' ⟨rfl, ⟨nd, rfl⟩⟩; refine ⟨_, rfl, ?_⟩) | ((with_reducible refine Aw (f := 30) rfl ?_); refine Bj (some 101) rfl rfl Tryd.func30 (by kernel_rfl) rfl #[.string (t266.extract 8 t266.size), .string (⟨#[32, 105, 115, 32, 114, 101, 97, 100, 121, 32, 102, 111, 114, 32, 112, 105, 99, 107, 117, 112, 32, 105, 110, 32, 115, 108, 111, 116, 32]⟩ : ByteArray)] rfl Yb_ ?_; (with_reducible refine (Bf.calls (t266.extract 8 t266.size) (⟨#[32, 105, 115, 32, 114, 101, 97, 100, 121, 32, 102, 111, 114, 32, 112, 105, 99, 107, 117, 112, 32, 105, 110, 32, 115, 108, 111, 116, 32]⟩ : ByteArray) t285 false _ A55.out).mono ?_); rintro e w' ⟨rfl, ⟨nd, rfl⟩⟩; refine ⟨_, rfl, ?_⟩) | ((with_reducible refine Aw (f := 30) rfl ?_); refine Bj (some 114) rfl rfl Tryd.func30 (by kernel_rfl) rfl #[.string (t266.extract 8 t266.size), .string (⟨#[32, 111, 119, 101, 115, 32]⟩ : ByteArray)] rfl Yb_ ?_; (with_reducible refine (Bf.calls (t266.extract 8 t266.size) (⟨#[32, 111, 119, 101, 115, 32]⟩ : ByteArray) t289 true _ A63.out).mono ?_); rintro e w' ⟨rfl, ⟨nd, rfl⟩⟩; refine ⟨_, rfl, ?_⟩; have hnb68 := NB2_0.out; have hnc68 := NB0_2.out; have hnb69 := NB2_1.out; have hnc69 := NB1_2.out; have hcz70_0 : w18.cell? ⟨gb2, 0, none⟩ = some (.int .i64 0) := (Af BK2.out 0).trans rfl; have hcz70_1 : w18.cell? ⟨gb2, 1, none⟩ = some (.string (⟨#[]⟩ : ByteArray)) := (Af BK2.out 1).trans rfl; have hcz70_2 : w18.cell? ⟨gb2, 2, none⟩ = some (.int .i64 0) := (Af BK2.out 2).trans rfl; have hcz70_3 : w18.cell? ⟨gb2, 3, none⟩ = some (.int .i64 0) := (Af BK2.out 3).trans rfl; have hfz70_0 := Ag BK2.out 0; have hfz70_1 := Ag BK2.out 1; have hfz70_2 := Ag BK2.out 2; have hfz70_3 := Ag BK2.out 3) | ((with_reducible refine Aw (f := 31) rfl ?_); refine Bj (some 121) rfl rfl Tryd.func31 (by kernel_rfl) rfl #[.string t289] rfl Yb_ ?_; (with_reducible refine (Ba.calls kj2 t289 t291 t292 _ A65.out).mono ?_); rintro e w71 ⟨rfl, hb⟩; refine ⟨_, rfl, ?_⟩; have n0_ := Ac.mk (Ce (g := gb0) (o := .cells #[.int .i64 0, .string (⟨#[]⟩ : ByteArray), .int .i64 0, .int .i64 0] 27 (0, 0)) Ybb_ hb); have n1_ := Ac.mk (Ce (g := gb1) (o := .cells #[.int .i64 0, .string (⟨#[]⟩ : ByteArray), .int .i64 0, .int .i64 0] 27 (0, 0)) Ybc_ hb); have n2_ := Ac.mk (Ce (g := gb2) (o := .cells #[.int .i64 5, .string (t266.extract 0 8), .int .i64 0, .int .i64 0] 27 (0, 0)) Yh_ hb); have n3_ := Ac.mk (Au Yba_ hb); clear BK0; clear BK1; clear BK2; clear HB; have BK0 := n0_; have BK1 := n1_; have BK2 := n2_; have HB := n3_; clear n0_ n1_ n2_ n3_; (try clear hb); (try clear hb2); (try clear hk); (try clear hi); have hcz72_0 : w71.cell? ⟨gb2, 0, none⟩ = some (.int .i64 5) := (Af BK2.out 0).trans rfl; have hcz72_1 : w71.cell? ⟨gb2, 1, none⟩ = some (.string (t266.extract 0 8)) := (Af BK2.out 1).trans rfl; have hcz72_2 : w71.cell? ⟨gb2, 2, none⟩ = some (.int .i64 0) := (Af BK2.out 2).trans rfl; have hcz72_3 : w71.cell? ⟨gb2, 3, none⟩ = some (.int .i64 0) := (Af BK2.out 3).trans rfl; have hfz72_0 := Ag BK2.out 0; have hfz72_1 := Ag BK2.out 1; have hfz72_2 := Ag BK2.out 2; have hfz72_3 := Ag BK2.out 3) | ((with_reducible refine Aw (f := 30) rfl ?_); refine Bj (some 127) rfl rfl Tryd.func30 (by kernel_rfl) rfl #[.string t292, .string (⟨#[32, 102, 111, 114, 32]⟩ : ByteArray)] rfl Yb_ ?_; (with_reducible refine (Bf.calls t292 (⟨#[32, 102, 111, 114, 32]⟩ : ByteArray) t293 t294 _ A66.out).mono ?_); rintro e w' ⟨rfl, ⟨nd, rfl⟩⟩; refine ⟨_, rfl, ?_⟩) | ((with_reducible refine Aw (f := 31) rfl ?_); refine Bj (some 132) rfl rfl Tryd.func31 (by kernel_rfl) rfl #[.string t293] rfl Yb_ ?_; (with_reducible refine (Ba.calls kj2 t293 t295 t296 _ A67.out).mono ?_); rintro e w73 ⟨rfl, hb⟩; refine ⟨_, rfl, ?_⟩; have n0_ := Ac.mk (Ce (g := gb0) (o := .cells #[.int .i64 0, .string (⟨#[]⟩ : ByteArray), .int .i64 0, .int .i64 0] 27 (0, 0)) Ycg_ hb); have n1_ := Ac.mk (Ce (g := gb1) (o := .cells #[.int .i64 0, .string (⟨#[]⟩ : ByteArray), .int .i64 0, .int .i64 0] 27 (0, 0)) Ych_ hb); have n2_ := Ac.mk (Ce (g := gb2) (o := .cells #[.int .i64 5, .string (t266.extract 0 8), .int .i64 t291, .int .i64 0] 27 (0, 0)) (by (with_reducible repeat (first | refine Ah ?_ _ | refine Aj ?_ | refine Ai ?_ _)); refine Bo (cs := #[.int .i64 5, .string (t266.extract 0 8), .int .i64 0, .int .i64 0]) ?_ 2 _ rfl; (with_reducible repeat (first | refine Ah ?_ _ | refine Aj ?_ | refine Ai ?_ _)); exact BK2.out) hb); have n3_ := Ac.mk (Au Yba_ hb); clear BK0; clear BK1; clear BK2; clear HB; have BK0 := n0_; have BK1 := n1_; have BK2 := n2_; have HB := n3_; clear n0_ n1_ n2_ n3_; (try clear hb); (try clear hb2); (try clear hk); (try clear hi); have hcz74_0 : w73.cell? ⟨gb2, 0, none⟩ = some (.int .i64 5) := (Af BK2.out 0).trans rfl; have hcz74_1 : w73.cell? ⟨gb2, 1, none⟩ = some (.string (t266.extract 0 8)) := (Af BK2.out 1).trans rfl; have hcz74_2 : w73.cell? ⟨gb2, 2, none⟩ = some (.int .i64 t291) := (Af BK2.out 2).trans rfl; have hcz74_3 : w73.cell? ⟨gb2, 3, none⟩ = some (.int .i64 0) := (Af BK2.out 3).trans rfl; have hfz74_0 := Ag BK2.out 0; have hfz74_1 := Ag BK2.out 1; have hfz74_2 := Ag BK2.out 2; have hfz74_3 := Ag BK2.out 3))
                        go_meet
                        case rel => exact ⟨_, (5), (t291), (t295), H', ⟨by have := HJ2.out; first | omega | exact Nat.le_refl _⟩, ⟨by (with_reducible repeat (first | refine Ah ?_ _ | refine Aj ?_ | refine Ai ?_ _)); refine Dc ?_ NB0_2.out _; (with_reducible repeat (first | refine Ah ?_ _ | refine Aj ?_ | refine Ai ?_ _)); exact BK0.out⟩, ⟨by (with_reducible repeat (first | refine Ah ?_ _ | refine Aj ?_ | refine Ai ?_ _)); refine Dc ?_ NB1_2.out _; (with_reducible repeat (first | refine Ah ?_ _ | refine Aj ?_ | refine Ai ?_ _)); exact BK1.out⟩, ⟨by (with_reducible repeat (first | refine Ah ?_ _ | refine Aj ?_ | refine Ai ?_ _)); refine Bo (cs := #[.int .i64 5, .string (t266.extract 0 8), .int .i64 t291, .int .i64 0]) ?_ 3 _ rfl; (with_reducible repeat (first | refine Ah ?_ _ | refine Aj ?_ | refine Ai ?_ _)); exact BK2.out⟩, ⟨by repeat (first | (with_reducible first | exact HB.out | apply Ae | apply Aa | apply Ad | refine Am ?_ GE0.out | refine Am ?_ GE1.out | refine Am ?_ GE2.out) | exact HB.out)⟩⟩
                      · replace c64 := Bool.eq_false_iff.mpr c64
                        subst c64
                        have H1 : (Ap.j2 kj2 a0 0 (⟨#[]⟩ : ByteArray) 0 0 0 (t266.extract 0 8) 0 0) = some (r1, r2, r3, r4, r5) := by rw [if_neg (show ¬ (false = true) by decide)] at H; exact H
                        clear H
                        have H := H1
                        clear H1
                        have H' := Ac.mk H
                        clear H
                        go_wp2_with (first | ((with_reducible refine Aw (f := 30) rfl ?_); refine Bj (some 55) rfl rfl Tryd.func30 (by kernel_rfl) rfl #[.string (t266.extract 8 t266.size), .string (⟨#[32, 119, 97, 115, 32, 109, 111, 118, 101, 100, 32, 102, 114, 111, 109, 32, 115, 116, 97, 99, 107, 32]⟩ : ByteArray)] rfl Yb_ ?_; (with_reducible refine (Bf.calls (t266.extract 8 t266.size) (⟨#[32, 119, 97, 115, 32, 109, 111, 118, 101, 100, 32, 102, 114, 111, 109, 32, 115, 116, 97, 99, 107, 32]⟩ : ByteArray) t273 false _ A29.out).mono ?_); rintro e w' ⟨rfl, ⟨nd, rfl⟩⟩; refine ⟨_, rfl, ?_⟩) | ((with_reducible refine Aw (f := 30) rfl ?_); refine Bj (some 79) rfl rfl Tryd.func30 (by kernel_rfl) rfl #[.string (t266.extract 8 t266.size), .string (⟨#[32, 105, 115, 32, 104, 101, 108, 100, 32, 102, 111, 114, 32]⟩ : ByteArray)] rfl Yb_ ?_; (with_reducible refine (Bf.calls (t266.extract 8 t266.size) (⟨#[32, 105, 115, 32, 104, 101, 108, 100, 32, 102, 111, 114, 32]⟩ : ByteArray) t281 false _ A41.out).mono ?_); rintro e w' ⟨rfl, ⟨nd, rfl⟩⟩; refine ⟨_, rfl, ?_⟩) | ((with_reducible refine Aw (f := 30) rfl ?_); refine Bj (some 101) rfl rfl Tryd.func30 (by kernel_rfl) rfl #[.string (t266.extract 8 t266.size), .string (⟨#[32, 105, 115, 32, 114, 101, 97, 100, 121, 32, 102, 111, 114, 32, 112, 105, 99, 107, 117, 112, 32, 105, 110, 32, 115, 108, 111, 116, 32]⟩ : ByteArray)] rfl Yb_ ?_; (with_reducible refine (Bf.calls (t266.extract 8 t266.size) (⟨#[32, 105, 115, 32, 114, 101, 97, 100, 121, 32, 102, 111, 114, 32, 112, 105, 99, 107, 117, 112, 32, 105, 110, 32, 115, 108, 111, 116, 32]⟩ : ByteArray) t285 false _ A55.out).mono ?_); rintro e w' ⟨rfl, ⟨nd, rfl⟩⟩; refine ⟨_, rfl, ?_⟩) | ((with_reducible refine Aw (f := 30) rfl ?_); refine Bj (some 114) rfl rfl Tryd.func30 (by kernel_rfl) rfl #[.string (t266.extract 8 t266.size), .string (⟨#[32, 111, 119, 101, 115, 32]⟩ : ByteArray)] rfl Yb_ ?_; (with_reducible refine (Bf.calls (t266.extract 8 t266.size) (⟨#[32, 111, 119, 101, 115, 32]⟩ : ByteArray) t289 false _ A63.out).mono ?_); rintro e w' ⟨rfl, ⟨nd, rfl⟩⟩; refine ⟨_, rfl, ?_⟩))
                        go_meet
                        case rel => exact ⟨_, (0), (0), (0), H', ⟨by have := HJ2.out; first | omega | exact Nat.le_refl _⟩, ⟨by (with_reducible repeat (first | refine Ah ?_ _ | refine Aj ?_ | refine Ai ?_ _)); refine Dc ?_ NB0_2.out _; (with_reducible repeat (first | refine Ah ?_ _ | refine Aj ?_ | refine Ai ?_ _)); refine Dc ?_ NB0_2.out _; (with_reducible repeat (first | refine Ah ?_ _ | refine Aj ?_ | refine Ai ?_ _)); refine Dc ?_ NB0_2.out _; (with_reducible repeat (first | refine Ah ?_ _ | refine Aj ?_ | refine Ai ?_ _)); refine Dc ?_ NB0_2.out _; (with_reducible repeat (first | refine Ah ?_ _ | refine Aj ?_ | refine Ai ?_ _)); exact BK0.out⟩, ⟨by (with_reducible repeat (first | refine Ah ?_ _ | refine Aj ?_ | refine Ai ?_ _)); refine Dc ?_ NB1_2.out _; (with_reducible repeat (first | refine Ah ?_ _ | refine Aj ?_ | refine Ai ?_ _)); refine Dc ?_ NB1_2.out _; (with_reducible repeat (first | refine Ah ?_ _ | refine Aj ?_ | refine Ai ?_ _)); refine Dc ?_ NB1_2.out _; (with_reducible repeat (first | refine Ah ?_ _ | refine Aj ?_ | refine Ai ?_ _)); refine Dc ?_ NB1_2.out _; (with_reducible repeat (first | refine Ah ?_ _ | refine Aj ?_ | refine Ai ?_ _)); exact BK1.out⟩, ⟨by (with_reducible repeat (first | refine Ah ?_ _ | refine Aj ?_ | refine Ai ?_ _)); refine Bo (cs := #[.int .i64 0, .string (t266.extract 0 8), .int .i64 0, .int .i64 0]) ?_ 3 _ rfl; (with_reducible repeat (first | refine Ah ?_ _ | refine Aj ?_ | refine Ai ?_ _)); refine Bo (cs := #[.int .i64 0, .string (t266.extract 0 8), .int .i64 0, .int .i64 0]) ?_ 2 _ rfl; (with_reducible repeat (first | refine Ah ?_ _ | refine Aj ?_ | refine Ai ?_ _)); refine Bo (cs := #[.int .i64 0, .string (⟨#[]⟩ : ByteArray), .int .i64 0, .int .i64 0]) ?_ 1 _ rfl; (with_reducible repeat (first | refine Ah ?_ _ | refine Aj ?_ | refine Ai ?_ _)); refine Bo (cs := #[.int .i64 0, .string (⟨#[]⟩ : ByteArray), .int .i64 0, .int .i64 0]) ?_ 0 _ rfl; (with_reducible repeat (first | refine Ah ?_ _ | refine Aj ?_ | refine Ai ?_ _)); exact BK2.out⟩, ⟨by repeat (first | (with_reducible first | exact HB.out | apply Ae | apply Aa | apply Ad | refine Am ?_ GE0.out | refine Am ?_ GE1.out | refine Am ?_ GE2.out) | exact HB.out)⟩⟩
            case rest =>
              clear HC17
              try clear c1
              try clear c2
              try clear p2
              try clear c3
              try clear c4
              try clear c5
              try clear c6
              try clear p6
              try clear c8
              try clear c9
              try clear c10
              try clear c13
              try clear c13b0
              try clear c13b1
              try clear c14
              try clear c14b0
              try clear c14b1
              try clear c15
              try clear c15b0
              try clear c16
              try clear c19
              try clear c20
              try clear c22
              try clear c24
              try clear c25
              try clear c30
              try clear c31
              try clear c32
              try clear c34
              try clear c35
              try clear c42
              try clear c43
              try clear c44
              try clear c46
              try clear c46b0
              try clear c48
              try clear c48b0
              try clear c48b1
              try clear c48b2
              try clear c49
              try clear c49b0
              try clear c49b1
              try clear c51
              try clear c52
              try clear c56
              try clear c58
              try clear c59
              try clear c64
              try clear p64
              try clear c68
              try clear c69
              try clear hcz11_0
              try clear hcz11_1
              try clear hcz11_2
              try clear hcz11_3
              try clear hcz12_0
              try clear hcz12_1
              try clear hcz12_2
              try clear hcz12_3
              try clear hcz21_0
              try clear hcz21_1
              try clear hcz21_2
              try clear hcz21_3
              try clear hcz26_0
              try clear hcz26_1
              try clear hcz26_2
              try clear hcz26_3
              try clear hcz28_0
              try clear hcz28_1
              try clear hcz28_2
              try clear hcz28_3
              try clear hcz36_0
              try clear hcz36_1
              try clear hcz36_2
              try clear hcz36_3
              try clear hcz38_0
              try clear hcz38_1
              try clear hcz38_2
              try clear hcz38_3
              try clear hcz40_0
              try clear hcz40_1
              try clear hcz40_2
              try clear hcz40_3
              try clear hcz45_0
              try clear hcz45_1
              try clear hcz45_2
              try clear hcz45_3
              try clear hcz53_0
              try clear hcz53_1
              try clear hcz53_2
              try clear hcz53_3
              try clear hcz60_0
              try clear hcz60_1
              try clear hcz60_2
              try clear hcz60_3
              try clear hcz62_0
              try clear hcz62_1
              try clear hcz62_2
              try clear hcz62_3
              try clear hcz70_0
              try clear hcz70_1
              try clear hcz70_2
              try clear hcz70_3
              try clear hcz72_0
              try clear hcz72_1
              try clear hcz72_2
              try clear hcz72_3
              try clear hcz74_0
              try clear hcz74_1
              try clear hcz74_2
              try clear hcz74_3
              try clear hcz7_0
              try clear hcz7_1
              try clear hcz7_2
              try clear hcz7_3
              try clear hfz11_0
              try clear hfz11_1
              try clear hfz11_2
              try clear hfz11_3
              try clear hfz12_0
              try clear hfz12_1
              try clear hfz12_2
              try clear hfz12_3
              try clear hfz21_0
              try clear hfz21_1
              try clear hfz21_2
              try clear hfz21_3
              try clear hfz26_0
              try clear hfz26_1
              try clear hfz26_2
              try clear hfz26_3
              try clear hfz28_0
              try clear hfz28_1
              try clear hfz28_2
              try clear hfz28_3
              try clear hfz36_0
              try clear hfz36_1
              try clear hfz36_2
              try clear hfz36_3
              try clear hfz38_0
              try clear hfz38_1
              try clear hfz38_2
              try clear hfz38_3
              try clear hfz40_0
              try clear hfz40_1
              try clear hfz40_2
              try clear hfz40_3
              try clear hfz45_0
              try clear hfz45_1
              try clear hfz45_2
              try clear hfz45_3
              try clear hfz53_0
              try clear hfz53_1
              try clear hfz53_2
              try clear hfz53_3
              try clear hfz60_0
              try clear hfz60_1
              try clear hfz60_2
              try clear hfz60_3
              try clear hfz62_0
              try clear hfz62_1
              try clear hfz62_2
              try clear hfz62_3
              try clear hfz70_0
              try clear hfz70_1
              try clear hfz70_2
              try clear hfz70_3
              try clear hfz72_0
              try clear hfz72_1
              try clear hfz72_2
              try clear hfz72_3
              try clear hfz74_0
              try clear hfz74_1
              try clear hfz74_2
              try clear hfz74_3
              try clear hfz7_0
              try clear hfz7_1
              try clear hfz7_2
              try clear hfz7_3
              try clear p2
              obtain ⟨kq, x269000_16, x269002_16, x269003_16, HA, HJ16, BK0, BK1, BK2, HB⟩ := hcut
              cases kq with
              | zero => exact absurd HA.out (by simp [Ap.j2])
              | succ kj16 =>
                have H := HA.out
                clear HA
                simp only [Ap.j2] at H
                replace H := Option.bind_eq_some_iff.mp H
                obtain ⟨t297, A750, H⟩ := H
                replace H : (if t297 = true then ((Dn.f kj16 x269000_16 (t266.extract 0 8) x269002_16 x269003_16).bind fun t298 => (if t298.toList = a0.toList then (some (x269000_16, (t266.extract 0 8), x269002_16, x269003_16, true)) else (some (0, (⟨#[]⟩ : ByteArray), 0, 0, false)))) else (some (0, (⟨#[]⟩ : ByteArray), 0, 0, false))) = some (r1, r2, r3, r4, r5) := H
                have A75 := Ac.mk A750
                clear A750
                by_cases c76 : t297 = true
                · subst c76
                  have H1 : ((Dn.f kj16 x269000_16 (t266.extract 0 8) x269002_16 x269003_16).bind fun t298 => (if t298.toList = a0.toList then (some (x269000_16, (t266.extract 0 8), x269002_16, x269003_16, true)) else (some (0, (⟨#[]⟩ : ByteArray), 0, 0, false)))) = some (r1, r2, r3, r4, r5) := by rw [if_pos rfl] at H; exact H
                  clear H
                  have H := H1
                  clear H1
                  replace H := Option.bind_eq_some_iff.mp H
                  obtain ⟨t298, A770, H⟩ := H
                  replace H : (if t298.toList = a0.toList then (some (x269000_16, (t266.extract 0 8), x269002_16, x269003_16, true)) else (some (0, (⟨#[]⟩ : ByteArray), 0, 0, false))) = some (r1, r2, r3, r4, r5) := H
                  have A77 := Ac.mk A770
                  clear A770
                  by_cases c78 : t298.toList = a0.toList
                  · rw [if_pos c78] at H
                    have c78b0 : (t298.toList == a0.toList) = true := beq_iff_eq.mpr c78
                    have c78b1 : (t298.toList != a0.toList) = false := bne_eq_false_iff_eq.mpr c78
                    clear c78
                    simp only [Option.some.injEq, Prod.mk.injEq] at H
                    obtain ⟨rfl, rfl, rfl, rfl, rfl⟩ := H
                    have hnb79 := NB2_0.out
                    have hnc79 := NB0_2.out
                    have hnb80 := NB2_1.out
                    have hnc80 := NB1_2.out
                    have hcz81_0 : wc.cell? ⟨gb2, 0, none⟩ = some (.int .i64 x269000_16) := (Af BK2.out 0).trans rfl
                    have hcz81_1 : wc.cell? ⟨gb2, 1, none⟩ = some (.string (t266.extract 0 8)) := (Af BK2.out 1).trans rfl
                    have hcz81_2 : wc.cell? ⟨gb2, 2, none⟩ = some (.int .i64 x269002_16) := (Af BK2.out 2).trans rfl
                    have hcz81_3 : wc.cell? ⟨gb2, 3, none⟩ = some (.int .i64 x269003_16) := (Af BK2.out 3).trans rfl
                    have hfz81_0 := Ag BK2.out 0
                    have hfz81_1 := Ag BK2.out 1
                    have hfz81_2 := Ag BK2.out 2
                    have hfz81_3 := Ag BK2.out 3
                    go_wp2_with (first | ((with_reducible refine Aw (f := 23) rfl ?_); refine Bj (some 137) rfl rfl Tryd.func23 (by kernel_rfl) rfl #[.agg #[.int .i64 x269000_16, .string (t266.extract 0 8), .int .i64 x269002_16, .int .i64 x269003_16]] rfl Yb_ ?_; (with_reducible refine (Ej.calls kj16 x269000_16 (t266.extract 0 8) x269002_16 x269003_16 true _ A75.out).mono ?_); rintro e w82 ⟨rfl, hb⟩; refine ⟨_, rfl, ?_⟩; have n0_ := Ac.mk (Ce (g := gb0) (o := .cells #[.int .i64 0, .string (⟨#[]⟩ : ByteArray), .int .i64 0, .int .i64 0] 27 (0, 0)) Ye_ hb); have n1_ := Ac.mk (Ce (g := gb1) (o := .cells #[.int .i64 0, .string (⟨#[]⟩ : ByteArray), .int .i64 0, .int .i64 0] 27 (0, 0)) Ybe_ hb); have n2_ := Ac.mk (Ce (g := gb2) (o := .cells #[.int .i64 x269000_16, .string (t266.extract 0 8), .int .i64 x269002_16, .int .i64 x269003_16] 27 (0, 0)) Ybj_ hb); have n3_ := Ac.mk (Au Yba_ hb); clear BK0; clear BK1; clear BK2; clear HB; have BK0 := n0_; have BK1 := n1_; have BK2 := n2_; have HB := n3_; clear n0_ n1_ n2_ n3_; (try clear hb); (try clear hb2); (try clear hk); (try clear hi); have hcz83_0 : w82.cell? ⟨gb2, 0, none⟩ = some (.int .i64 x269000_16) := (Af BK2.out 0).trans rfl; have hcz83_1 : w82.cell? ⟨gb2, 1, none⟩ = some (.string (t266.extract 0 8)) := (Af BK2.out 1).trans rfl; have hcz83_2 : w82.cell? ⟨gb2, 2, none⟩ = some (.int .i64 x269002_16) := (Af BK2.out 2).trans rfl; have hcz83_3 : w82.cell? ⟨gb2, 3, none⟩ = some (.int .i64 x269003_16) := (Af BK2.out 3).trans rfl; have hfz83_0 := Ag BK2.out 0; have hfz83_1 := Ag BK2.out 1; have hfz83_2 := Ag BK2.out 2; have hfz83_3 := Ag BK2.out 3) | (go_at_call 24; (with_reducible refine (Dn.calls kj16 x269000_16 (t266.extract 0 8) x269002_16 x269003_16 t298 _ A77.out).mono ?_); rintro e w84 ⟨rfl, hb⟩; have n0_ := Ac.mk (Ce (g := gb0) (o := .cells #[.int .i64 0, .string (⟨#[]⟩ : ByteArray), .int .i64 0, .int .i64 0] 27 (0, 0)) Ye_ hb); have n1_ := Ac.mk (Ce (g := gb1) (o := .cells #[.int .i64 0, .string (⟨#[]⟩ : ByteArray), .int .i64 0, .int .i64 0] 27 (0, 0)) Ybe_ hb); have n2_ := Ac.mk (Ce (g := gb2) (o := .cells #[.int .i64 x269000_16, .string (t266.extract 0 8), .int .i64 x269002_16, .int .i64 x269003_16] 27 (0, 0)) Ybj_ hb); have n3_ := Ac.mk (Au Yba_ hb); clear BK0; clear BK1; clear BK2; clear HB; have BK0 := n0_; have BK1 := n1_; have BK2 := n2_; have HB := n3_; clear n0_ n1_ n2_ n3_; (try clear hb); (try clear hb2); (try clear hk); (try clear hi); have hcz85_0 : w84.cell? ⟨gb2, 0, none⟩ = some (.int .i64 x269000_16) := (Af BK2.out 0).trans rfl; have hcz85_1 : w84.cell? ⟨gb2, 1, none⟩ = some (.string (t266.extract 0 8)) := (Af BK2.out 1).trans rfl; have hcz85_2 : w84.cell? ⟨gb2, 2, none⟩ = some (.int .i64 x269002_16) := (Af BK2.out 2).trans rfl; have hcz85_3 : w84.cell? ⟨gb2, 3, none⟩ = some (.int .i64 x269003_16) := (Af BK2.out 3).trans rfl; have hfz85_0 := Ag BK2.out 0; have hfz85_1 := Ag BK2.out 1; have hfz85_2 := Ag BK2.out 2; have hfz85_3 := Ag BK2.out 3; have hnb86 := NB0_1.out; have hnc86 := NB1_0.out; have hcz87_0 : w84.cell? ⟨gb0, 0, none⟩ = some (.int .i64 0) := (Af BK0.out 0).trans rfl; have hcz87_1 : w84.cell? ⟨gb0, 1, none⟩ = some (.string (⟨#[]⟩ : ByteArray)) := (Af BK0.out 1).trans rfl; have hcz87_2 : w84.cell? ⟨gb0, 2, none⟩ = some (.int .i64 0) := (Af BK0.out 2).trans rfl; have hcz87_3 : w84.cell? ⟨gb0, 3, none⟩ = some (.int .i64 0) := (Af BK0.out 3).trans rfl; have hfz87_0 := Ag BK0.out 0; have hfz87_1 := Ag BK0.out 1; have hfz87_2 := Ag BK0.out 2; have hfz87_3 := Ag BK0.out 3))
                    refine bodyPost_ret (Hq rfl _ _ gb0 27 #[.int .i64 x269000_16, .string (t266.extract 0 8), .int .i64 x269002_16, .int .i64 x269003_16] (0, 0) _ rfl (by (with_reducible repeat (first | refine Ah ?_ _ | refine Aj ?_ | refine Ai ?_ _)); refine Bo (cs := #[.int .i64 x269000_16, .string (t266.extract 0 8), .int .i64 x269002_16, .int .i64 0]) ?_ 3 _ rfl; (with_reducible repeat (first | refine Ah ?_ _ | refine Aj ?_ | refine Ai ?_ _)); refine Bo (cs := #[.int .i64 x269000_16, .string (t266.extract 0 8), .int .i64 0, .int .i64 0]) ?_ 2 _ rfl; (with_reducible repeat (first | refine Ah ?_ _ | refine Aj ?_ | refine Ai ?_ _)); refine Bo (cs := #[.int .i64 x269000_16, .string (⟨#[]⟩ : ByteArray), .int .i64 0, .int .i64 0]) ?_ 1 _ rfl; (with_reducible repeat (first | refine Ah ?_ _ | refine Aj ?_ | refine Ai ?_ _)); refine Bo (cs := #[.int .i64 0, .string (⟨#[]⟩ : ByteArray), .int .i64 0, .int .i64 0]) ?_ 0 _ rfl; (with_reducible repeat (first | refine Ah ?_ _ | refine Aj ?_ | refine Ai ?_ _)); exact BK0.out) Tryd.underlying27 rfl (by kernel_rfl)) rfl ?_
                    exact ⟨by first | rfl | (simp [Aq, Ar] <;> rfl) | (simp [*, Aq, Ar] <;> rfl), by repeat (first | (with_reducible first | exact HB.out | apply Ae | apply Aa | apply Ad | refine Am ?_ GE0.out | refine Am ?_ GE1.out | refine Am ?_ GE2.out) | exact HB.out)⟩
                  · rw [if_neg c78] at H
                    have c78b0 : (t298.toList == a0.toList) = false := beq_eq_false_iff_ne.mpr c78
                    have c78b1 : (t298.toList != a0.toList) = true := bne_iff_ne.mpr c78
                    simp only [Option.some.injEq, Prod.mk.injEq] at H
                    obtain ⟨rfl, rfl, rfl, rfl, rfl⟩ := H
                    have hnb88 := NB2_0.out
                    have hnc88 := NB0_2.out
                    have hnb89 := NB2_1.out
                    have hnc89 := NB1_2.out
                    have hcz90_0 : wc.cell? ⟨gb2, 0, none⟩ = some (.int .i64 x269000_16) := (Af BK2.out 0).trans rfl
                    have hcz90_1 : wc.cell? ⟨gb2, 1, none⟩ = some (.string (t266.extract 0 8)) := (Af BK2.out 1).trans rfl
                    have hcz90_2 : wc.cell? ⟨gb2, 2, none⟩ = some (.int .i64 x269002_16) := (Af BK2.out 2).trans rfl
                    have hcz90_3 : wc.cell? ⟨gb2, 3, none⟩ = some (.int .i64 x269003_16) := (Af BK2.out 3).trans rfl
                    have hfz90_0 := Ag BK2.out 0
                    have hfz90_1 := Ag BK2.out 1
                    have hfz90_2 := Ag BK2.out 2
                    have hfz90_3 := Ag BK2.out 3
                    go_wp2_with (first | ((with_reducible refine Aw (f := 23) rfl ?_); refine Bj (some 137) rfl rfl Tryd.func23 (by kernel_rfl) rfl #[.agg #[.int .i64 x269000_16, .string (t266.extract 0 8), .int .i64 x269002_16, .int .i64 x269003_16]] rfl Yb_ ?_; (with_reducible refine (Ej.calls kj16 x269000_16 (t266.extract 0 8) x269002_16 x269003_16 true _ A75.out).mono ?_); rintro e w91 ⟨rfl, hb⟩; refine ⟨_, rfl, ?_⟩; have n0_ := Ac.mk (Ce (g := gb0) (o := .cells #[.int .i64 0, .string (⟨#[]⟩ : ByteArray), .int .i64 0, .int .i64 0] 27 (0, 0)) Ye_ hb); have n1_ := Ac.mk (Ce (g := gb1) (o := .cells #[.int .i64 0, .string (⟨#[]⟩ : ByteArray), .int .i64 0, .int .i64 0] 27 (0, 0)) Ybe_ hb); have n2_ := Ac.mk (Ce (g := gb2) (o := .cells #[.int .i64 x269000_16, .string (t266.extract 0 8), .int .i64 x269002_16, .int .i64 x269003_16] 27 (0, 0)) Ybj_ hb); have n3_ := Ac.mk (Au Yba_ hb); clear BK0; clear BK1; clear BK2; clear HB; have BK0 := n0_; have BK1 := n1_; have BK2 := n2_; have HB := n3_; clear n0_ n1_ n2_ n3_; (try clear hb); (try clear hb2); (try clear hk); (try clear hi); have hcz92_0 : w91.cell? ⟨gb2, 0, none⟩ = some (.int .i64 x269000_16) := (Af BK2.out 0).trans rfl; have hcz92_1 : w91.cell? ⟨gb2, 1, none⟩ = some (.string (t266.extract 0 8)) := (Af BK2.out 1).trans rfl; have hcz92_2 : w91.cell? ⟨gb2, 2, none⟩ = some (.int .i64 x269002_16) := (Af BK2.out 2).trans rfl; have hcz92_3 : w91.cell? ⟨gb2, 3, none⟩ = some (.int .i64 x269003_16) := (Af BK2.out 3).trans rfl; have hfz92_0 := Ag BK2.out 0; have hfz92_1 := Ag BK2.out 1; have hfz92_2 := Ag BK2.out 2; have hfz92_3 := Ag BK2.out 3) | (go_at_call 24; (with_reducible refine (Dn.calls kj16 x269000_16 (t266.extract 0 8) x269002_16 x269003_16 t298 _ A77.out).mono ?_); rintro e w93 ⟨rfl, hb⟩; have n0_ := Ac.mk (Ce (g := gb0) (o := .cells #[.int .i64 0, .string (⟨#[]⟩ : ByteArray), .int .i64 0, .int .i64 0] 27 (0, 0)) Ye_ hb); have n1_ := Ac.mk (Ce (g := gb1) (o := .cells #[.int .i64 0, .string (⟨#[]⟩ : ByteArray), .int .i64 0, .int .i64 0] 27 (0, 0)) Ybe_ hb); have n2_ := Ac.mk (Ce (g := gb2) (o := .cells #[.int .i64 x269000_16, .string (t266.extract 0 8), .int .i64 x269002_16, .int .i64 x269003_16] 27 (0, 0)) Ybj_ hb); have n3_ := Ac.mk (Au Yba_ hb); clear BK0; clear BK1; clear BK2; clear HB; have BK0 := n0_; have BK1 := n1_; have BK2 := n2_; have HB := n3_; clear n0_ n1_ n2_ n3_; (try clear hb); (try clear hb2); (try clear hk); (try clear hi); have hnb94 := NB1_0.out; have hnc94 := NB0_1.out; have hcz95_0 : w93.cell? ⟨gb1, 0, none⟩ = some (.int .i64 0) := (Af BK1.out 0).trans rfl; have hcz95_1 : w93.cell? ⟨gb1, 1, none⟩ = some (.string (⟨#[]⟩ : ByteArray)) := (Af BK1.out 1).trans rfl; have hcz95_2 : w93.cell? ⟨gb1, 2, none⟩ = some (.int .i64 0) := (Af BK1.out 2).trans rfl; have hcz95_3 : w93.cell? ⟨gb1, 3, none⟩ = some (.int .i64 0) := (Af BK1.out 3).trans rfl; have hfz95_0 := Ag BK1.out 0; have hfz95_1 := Ag BK1.out 1; have hfz95_2 := Ag BK1.out 2; have hfz95_3 := Ag BK1.out 3; have hcz96_0 : w93.cell? ⟨gb0, 0, none⟩ = some (.int .i64 0) := (Af BK0.out 0).trans rfl; have hcz96_1 : w93.cell? ⟨gb0, 1, none⟩ = some (.string (⟨#[]⟩ : ByteArray)) := (Af BK0.out 1).trans rfl; have hcz96_2 : w93.cell? ⟨gb0, 2, none⟩ = some (.int .i64 0) := (Af BK0.out 2).trans rfl; have hcz96_3 : w93.cell? ⟨gb0, 3, none⟩ = some (.int .i64 0) := (Af BK0.out 3).trans rfl; have hfz96_0 := Ag BK0.out 0; have hfz96_1 := Ag BK0.out 1; have hfz96_2 := Ag BK0.out 2; have hfz96_3 := Ag BK0.out 3))
                    refine bodyPost_ret (Hq rfl _ _ gb0 27 #[.int .i64 0, .string (⟨#[]⟩ : ByteArray), .int .i64 0, .int .i64 0] (0, 0) _ rfl Yi_ Tryd.underlying27 rfl (by kernel_rfl)) rfl ?_
                    exact ⟨by first | rfl | (simp [Aq, Ar] <;> rfl) | (simp [*, Aq, Ar] <;> rfl), by repeat (first | (with_reducible first | exact HB.out | apply Ae | apply Aa | apply Ad | refine Am ?_ GE0.out | refine Am ?_ GE1.out | refine Am ?_ GE2.out) | exact HB.out)⟩
                · replace c76 := Bool.eq_false_iff.mpr c76
                  subst c76
                  have H1 : (some (0, (⟨#[]⟩ : ByteArray), 0, 0, false)) = some (r1, r2, r3, r4, r5) := by rw [if_neg (show ¬ (false = true) by decide)] at H; exact H
                  clear H
                  have H := H1
                  clear H1
                  simp only [Option.some.injEq, Prod.mk.injEq] at H
                  obtain ⟨rfl, rfl, rfl, rfl, rfl⟩ := H
                  have hnb97 := NB2_0.out
                  have hnc97 := NB0_2.out
                  have hnb98 := NB2_1.out
                  have hnc98 := NB1_2.out
                  have hcz99_0 : wc.cell? ⟨gb2, 0, none⟩ = some (.int .i64 x269000_16) := (Af BK2.out 0).trans rfl
                  have hcz99_1 : wc.cell? ⟨gb2, 1, none⟩ = some (.string (t266.extract 0 8)) := (Af BK2.out 1).trans rfl
                  have hcz99_2 : wc.cell? ⟨gb2, 2, none⟩ = some (.int .i64 x269002_16) := (Af BK2.out 2).trans rfl
                  have hcz99_3 : wc.cell? ⟨gb2, 3, none⟩ = some (.int .i64 x269003_16) := (Af BK2.out 3).trans rfl
                  have hfz99_0 := Ag BK2.out 0
                  have hfz99_1 := Ag BK2.out 1
                  have hfz99_2 := Ag BK2.out 2
                  have hfz99_3 := Ag BK2.out 3
                  go_wp2_with (first | ((with_reducible refine Aw (f := 23) rfl ?_); refine Bj (some 137) rfl rfl Tryd.func23 (by kernel_rfl) rfl #[.agg #[.int .i64 x269000_16, .string (t266.extract 0 8), .int .i64 x269002_16, .int .i64 x269003_16]] rfl Yb_ ?_; (with_reducible refine (Ej.calls kj16 x269000_16 (t266.extract 0 8) x269002_16 x269003_16 false _ A75.out).mono ?_); rintro e w100 ⟨rfl, hb⟩; refine ⟨_, rfl, ?_⟩; have n0_ := Ac.mk (Ce (g := gb0) (o := .cells #[.int .i64 0, .string (⟨#[]⟩ : ByteArray), .int .i64 0, .int .i64 0] 27 (0, 0)) Ye_ hb); have n1_ := Ac.mk (Ce (g := gb1) (o := .cells #[.int .i64 0, .string (⟨#[]⟩ : ByteArray), .int .i64 0, .int .i64 0] 27 (0, 0)) Ybe_ hb); have n2_ := Ac.mk (Ce (g := gb2) (o := .cells #[.int .i64 x269000_16, .string (t266.extract 0 8), .int .i64 x269002_16, .int .i64 x269003_16] 27 (0, 0)) Ybj_ hb); have n3_ := Ac.mk (Au Yba_ hb); clear BK0; clear BK1; clear BK2; clear HB; have BK0 := n0_; have BK1 := n1_; have BK2 := n2_; have HB := n3_; clear n0_ n1_ n2_ n3_; (try clear hb); (try clear hb2); (try clear hk); (try clear hi); have hnb101 := NB1_0.out; have hnc101 := NB0_1.out; have hcz102_0 : w100.cell? ⟨gb1, 0, none⟩ = some (.int .i64 0) := (Af BK1.out 0).trans rfl; have hcz102_1 : w100.cell? ⟨gb1, 1, none⟩ = some (.string (⟨#[]⟩ : ByteArray)) := (Af BK1.out 1).trans rfl; have hcz102_2 : w100.cell? ⟨gb1, 2, none⟩ = some (.int .i64 0) := (Af BK1.out 2).trans rfl; have hcz102_3 : w100.cell? ⟨gb1, 3, none⟩ = some (.int .i64 0) := (Af BK1.out 3).trans rfl; have hfz102_0 := Ag BK1.out 0; have hfz102_1 := Ag BK1.out 1; have hfz102_2 := Ag BK1.out 2; have hfz102_3 := Ag BK1.out 3; have hcz103_0 : w100.cell? ⟨gb0, 0, none⟩ = some (.int .i64 0) := (Af BK0.out 0).trans rfl; have hcz103_1 : w100.cell? ⟨gb0, 1, none⟩ = some (.string (⟨#[]⟩ : ByteArray)) := (Af BK0.out 1).trans rfl; have hcz103_2 : w100.cell? ⟨gb0, 2, none⟩ = some (.int .i64 0) := (Af BK0.out 2).trans rfl; have hcz103_3 : w100.cell? ⟨gb0, 3, none⟩ = some (.int .i64 0) := (Af BK0.out 3).trans rfl; have hfz103_0 := Ag BK0.out 0; have hfz103_1 := Ag BK0.out 1; have hfz103_2 := Ag BK0.out 2; have hfz103_3 := Ag BK0.out 3))
                  refine bodyPost_ret (Hq rfl _ _ gb0 27 #[.int .i64 0, .string (⟨#[]⟩ : ByteArray), .int .i64 0, .int .i64 0] (0, 0) _ rfl Yi_ Tryd.underlying27 rfl (by kernel_rfl)) rfl ?_
                  exact ⟨by first | rfl | (simp [Aq, Ar] <;> rfl) | (simp [*, Aq, Ar] <;> rfl), by repeat (first | (with_reducible first | exact HB.out | apply Ae | apply Aa | apply Ad | refine Am ?_ GE0.out | refine Am ?_ GE1.out | refine Am ?_ GE2.out) | exact HB.out)⟩
          · rw [if_neg c14] at H
            exact absurd H (by simp)
        · rw [if_neg c13] at H
          exact absurd H (by simp)
end Go.Proofs.YtghnljoaklmakaaDoor.X

namespace Go.Proofs.YtghnljoaklmakaaDoor.X
open Go.RowKit Go.Proofs.YtghnljoaklmakaaDoorW.PrintWords Go.Proofs.YtghnljoaklmakaaDoorW.PrintLast Go.Proofs.YtghnljoaklmakaaDoorW.PrintMore
attribute [local go_sem] Ea Eb Eh Eg Dz D5 Ec D9
open Go.Proofs.YtghnljoaklmakaaDoorG
mutual
def Be.l0 : Nat → ByteArray → List (S27) → Int → Option ((List (S27)) × Bool)
  | 0, _, _, _ => none
  | k + 1, x0, x4, x5 => if x5 < (x0.size : Int) then (Be.l1 k x0 x4 x5 x5) else ((C9.f k x4).bind fun bt373 => (if bt373.2 = true then (if bt373.1.toList = x0.toList then (some (x4, true)) else (some ((([] : List (S27))), false))) else (some ((([] : List (S27))), false))))
def Be.j2 : Nat → ByteArray → List (S27) → Int → Int → Option ((List (S27)) × Bool)
  | 0, _, _, _, _ => none
  | k + 1, x0, x4, x5, x6 => if x6 = (x0.size : Int) then (some ((([] : List (S27))), false)) else (if 0 ≤ x5 then (if x5 ≤ (wrap64 (x6 + 1)) then (if (wrap64 (x6 + 1)) ≤ (x0.size : Int) then ((Ap.f k (x0.extract (x5 : Int).toNat ((wrap64 (x6 + 1)) : Int).toNat)).bind fun bt384 => (if bt384.2.2.2.2 = true then (if x4.length < 3518437208883 then (Be.l0 k x0 (x4 ++ [(⟨bt384.1, bt384.2.1, bt384.2.2.1, bt384.2.2.2.1⟩ : S27)]) (wrap64 (x6 + 2))) else (none)) else (some ((([] : List (S27))), false)))) else (none)) else (none)) else (none))
def Be.l1 : Nat → ByteArray → List (S27) → Int → Int → Option ((List (S27)) × Bool)
  | 0, _, _, _, _ => none
  | k + 1, x0, x4, x5, x6 => if x6 < (x0.size : Int) then (if 0 ≤ x6 then (if (bt x0 x6) = 46 then (Be.j2 k x0 x4 x5 x6) else (Be.l1 k x0 x4 x5 (wrap64 (x6 + 1)))) else (none)) else (Be.j2 k x0 x4 x5 x6)
end
def Be.f (k : Nat) (a0 : ByteArray) : Option ((List (S27)) × Bool) := (some (([] : List (S27)) : List (S27))).bind fun y370 => (if (a0.size : Int) > 2000 then (some (y370, false)) else (Be.l0 k a0 y370 0))
theorem Be.Ed : ∀ k, (∀ y0 y1 y2, LeO (Be.l0 k y0 y1 y2) (Be.l0 (k + 1) y0 y1 y2)) ∧ (∀ y0 y1 y2 y3, LeO (Be.j2 k y0 y1 y2 y3) (Be.j2 (k + 1) y0 y1 y2 y3)) ∧ (∀ y0 y1 y2 y3, LeO (Be.l1 k y0 y1 y2 y3) (Be.l1 (k + 1) y0 y1 y2 y3))
  | 0 => ⟨fun _ _ _ r h => by simp [Be.l0] at h, fun _ _ _ _ r h => by simp [Be.j2] at h, fun _ _ _ _ r h => by simp [Be.l1] at h⟩
  | k + 1 => by
    obtain ⟨ih0, ih1, ih2⟩ := Be.Ed k
    refine ⟨?_, ?_, ?_⟩
    · intro y0 y1 y2
      unfold Be.l0
      repeat' first
      | (with_reducible exact ih0 _ _ _)
      | (with_reducible exact ih1 _ _ _ _)
      | (with_reducible exact ih2 _ _ _ _)
      | (with_reducible exact Ap.mono _ _)
      | (with_reducible exact C9.mono _ _)
      | (with_reducible exact LeO.refl _)
      | (with_reducible exact LeO.none _)
      | (with_reducible refine LeO.ite ?_ ?_)
      | (with_reducible refine LeO.bind ?_ (fun _ => ?_))
      | exact ih0 _ _ _
      | exact ih1 _ _ _ _
      | exact ih2 _ _ _ _
      | exact Ap.mono _ _
      | exact C9.mono _ _
      | exact LeO.none _
      | refine LeO.ite ?_ ?_
      | refine LeO.bind ?_ (fun _ => ?_)
    · intro y0 y1 y2 y3
      unfold Be.j2
      repeat' first
      | (with_reducible exact ih0 _ _ _)
      | (with_reducible exact ih1 _ _ _ _)
      | (with_reducible exact ih2 _ _ _ _)
      | (with_reducible exact Ap.mono _ _)
      | (with_reducible exact C9.mono _ _)
      | (with_reducible exact LeO.refl _)
      | (with_reducible exact LeO.none _)
      | (with_reducible refine LeO.ite ?_ ?_)
      | (with_reducible refine LeO.bind ?_ (fun _ => ?_))
      | exact ih0 _ _ _
      | exact ih1 _ _ _ _
      | exact ih2 _ _ _ _
      | exact Ap.mono _ _
      | exact C9.mono _ _
      | exact LeO.none _
      | refine LeO.ite ?_ ?_
      | refine LeO.bind ?_ (fun _ => ?_)
    · intro y0 y1 y2 y3
      unfold Be.l1
      repeat' first
      | (with_reducible exact ih0 _ _ _)
      | (with_reducible exact ih1 _ _ _ _)
      | (with_reducible exact ih2 _ _ _ _)
      | (with_reducible exact Ap.mono _ _)
      | (with_reducible exact C9.mono _ _)
      | (with_reducible exact LeO.refl _)
      | (with_reducible exact LeO.none _)
      | (with_reducible refine LeO.ite ?_ ?_)
      | (with_reducible refine LeO.bind ?_ (fun _ => ?_))
      | exact ih0 _ _ _
      | exact ih1 _ _ _ _
      | exact ih2 _ _ _ _
      | exact Ap.mono _ _
      | exact C9.mono _ _
      | exact LeO.none _
      | refine LeO.ite ?_ ?_
      | refine LeO.bind ?_ (fun _ => ?_)
theorem Be.mono : ∀ a0 k, LeO (Be.f k a0) (Be.f (k + 1) a0) := by
  intro a0 k
  obtain ⟨ih0, ih1, ih2⟩ := Be.Ed k
  unfold Be.f
  repeat' first
      | (with_reducible exact ih0 _ _ _)
      | (with_reducible exact ih1 _ _ _ _)
      | (with_reducible exact ih2 _ _ _ _)
      | (with_reducible exact Ap.mono _ _)
      | (with_reducible exact C9.mono _ _)
      | (with_reducible exact LeO.refl _)
      | (with_reducible exact LeO.none _)
      | (with_reducible refine LeO.ite ?_ ?_)
      | (with_reducible refine LeO.bind ?_ (fun _ => ?_))
      | exact ih0 _ _ _
      | exact ih1 _ _ _ _
      | exact ih2 _ _ _ _
      | exact Ap.mono _ _
      | exact C9.mono _ _
      | exact LeO.none _
      | refine LeO.ite ?_ ?_
      | refine LeO.bind ?_ (fun _ => ?_)
set_option maxHeartbeats 8000000 in
set_option maxRecDepth 100000 in
theorem Be.calls (k : Nat) (a0 : ByteArray) (r1 : List (S27)) (r2 : Bool) (w : World) (h : Be.f k a0 = some (r1, r2)) :
    Calls Tryd.prog 19 #[.string a0] w fun e w' => ∃ v0_ : Value, e = .returned (.tuple #[v0_, .bool r2]) ∧ Kd.R k27 27 w' w.heap.size (fun _ => True) v0_ r1 ∧ Below w.heap.size w w' := by
  have hu27 := Tryd.underlying27
  have HB := Ac.mk (Below.refl w.heap.size w)
  have H : ((some (([] : List (S27)) : List (S27))).bind fun y370 => (if (a0.size : Int) > 2000 then (some (y370, false)) else (Be.l0 k a0 y370 0))) = some (r1, r2) := h
  clear h
  obtain ⟨y370, hy370⟩ : ∃ y_ : List (S27), y_ = (([] : List (S27))) := ⟨_, rfl⟩
  replace H : (if (a0.size : Int) > 2000 then (some (y370, false)) else (Be.l0 k a0 y370 0)) = some (r1, r2) := by first | (rw [hy370]; with_reducible exact H) | (have H2_ := (Option.bind_some _ _).symm.trans H; rw [hy370]; with_reducible exact H2_) | (have H2_ := (Option.bind_some _ _).symm.trans H; with_reducible exact H2_) | with_reducible exact H | (rw [hy370]; exact H) | exact H
  have Ny370 := Ac.mk hy370
  clear hy370
  by_cases c2 : (a0.size : Int) > 2000
  · rw [if_pos c2] at H
    have c2b0 : decide (2000 < (a0.size : Int)) = true := decide_eq_true c2
    have c2b1 : decide (2000 < a0.size) = true := decide_eq_true (by omega)
    clear c2
    simp only [Option.some.injEq, Prod.mk.injEq] at H
    obtain ⟨rfl, rfl⟩ := H
    go_enter Tryd.func19, Tryd.ntmps19
    go_wp2_with (first | ((with_reducible refine Dh (N := 11) rfl ?_); refine Kd.R_lit k27 _ 27 ?hg (N := 11) ?hd (xs := ([] : List (S27))) (inner := []) (ok := fun _ => True) (okp := fun _ => True) ?hr ?hp (fun _ hk => hk) trivial (Below.refl _ _) (Nat.le_refl _) (by simp) ?_; (case hd => rfl); (case hg => rfl); (case hr => first | (go_simp; done) | (go_simp; rfl)); (case hp => exact (Ee.none _ _)); intro v371 w3 ho4 hb hg_ hnew_; clear hg_ hnew_; (first | rw [← Ny370.out] at ho4 | (simp only [Int.reduceToNat] at ho4; rw [← Ny370.out] at ho4)); have n0_ := Ac.mk (Kd.F6 ho4 (Az Ya_)); have n1_ := Ac.mk (Au Ya_ hb); clear HB; have HO372 := n0_; have HB := n1_; clear n0_ n1_; clear hb ho4))
    go_ret2
    exact ⟨_, by first | rfl | (simp [Aq, Ar] <;> rfl) | (simp [*, Aq, Ar] <;> rfl), by (with_reducible repeat (first | apply Kd.Bg | apply Kd.Bh | apply Kd.Bl)); exact HO372.out, by repeat (first | (with_reducible first | exact HB.out | apply Ae | apply Aa | apply Ad) | exact HB.out)⟩
  · rw [if_neg c2] at H
    have c2b0 : decide (2000 < (a0.size : Int)) = false := decide_eq_false c2
    have c2b1 : decide (2000 < a0.size) = false := decide_eq_false (by omega)
    clear c2
    have H' := Ac.mk H
    clear H
    go_enter Tryd.func19, Tryd.ntmps19
    go_wp2_with (first | ((with_reducible refine Dh (N := 11) rfl ?_); refine Kd.R_lit k27 _ 27 ?hg (N := 11) ?hd (xs := ([] : List (S27))) (inner := []) (ok := fun _ => True) (okp := fun _ => True) ?hr ?hp (fun _ hk => hk) trivial (Below.refl _ _) (Nat.le_refl _) (by simp) ?_; (case hd => rfl); (case hg => rfl); (case hr => first | (go_simp; done) | (go_simp; rfl)); (case hp => exact (Ee.none _ _)); intro v371 w5 ho6 hb hg_ hnew_; clear hg_ hnew_; (first | rw [← Ny370.out] at ho6 | (simp only [Int.reduceToNat] at ho6; rw [← Ny370.out] at ho6)); have n0_ := Ac.mk (Kd.F6 ho6 (Az Ya_)); have n1_ := Ac.mk (Au Ya_ hb); clear HB; have HO372 := n0_; have HB := n1_; clear n0_ n1_; clear hb ho6))
    go_loopg [4, 5] k (fun kq v4 v5 w' => ∃ (x4_1 : List (S27)) (x5_1 : Int), v5 = .int .i64 x5_1 ∧ Ac (Be.l0 kq a0 x4_1 x5_1 = some (r1, r2)) ∧ Ac (kq ≤ k) ∧ Ac (Kd.R k27 27 w' w.heap.size (fun _ => True) v4 x4_1) ∧ Ac (Below w.heap.size w w'))
    case atStart => exact ⟨(y370), (0), Yf_, H', ⟨Nat.le_refl _⟩, ⟨by (with_reducible repeat (first | apply Kd.Bg | apply Kd.Bh | apply Kd.Bl)); exact HO372.out⟩, ⟨by repeat (first | (with_reducible first | exact HB.out | apply Ae | apply Aa | apply Ad) | exact HB.out)⟩⟩
    case round =>
      clear H'
      try clear c1
      try clear c2
      try clear c2b0
      try clear c2b1
      try clear p2
      obtain ⟨x4_1, x5_1, rfl, HA, HK1, HO_4, HB⟩ := hrel
      cases gk with
      | zero => exact absurd HA.out (by simp [Be.l0])
      | succ k1 =>
        have H := HA.out
        clear HA
        simp only [Be.l0] at H
        by_cases c7 : x5_1 < (a0.size : Int)
        · rw [if_pos c7] at H
          have c7b0 : decide (x5_1 < (a0.size : Int)) = true := decide_eq_true c7
          clear c7
          have HC8 := Ac.mk H
          clear H
          go_upto_block 2 with (fail)
          go_cut [6] (fun v6 wc => ∃ (kq : Nat) (x6_7 : Int), v6 = .int .i64 x6_7 ∧ Ac (Be.j2 kq a0 x4_1 x5_1 x6_7 = some (r1, r2)) ∧ Ac (kq ≤ k1) ∧ Ac (Kd.R k27 27 wc w.heap.size (fun _ => True) u4 x4_1) ∧ Ac (Below w.heap.size w wc))
          case first =>
            have H := HC8.out
            clear HC8
            have H' := Ac.mk H
            clear H
            go_wp2
            go_loopg [6] k1 (fun kq v6 w' => ∃ (x6_2 : Int), v6 = .int .i64 x6_2 ∧ Ac (Be.l1 kq a0 x4_1 x5_1 x6_2 = some (r1, r2)) ∧ Ac (kq ≤ k1) ∧ Ac (Kd.R k27 27 w' w.heap.size (fun _ => True) u4 x4_1) ∧ Ac (Below w.heap.size w w'))
            case atStart => exact ⟨(x5_1), Yf_, H', ⟨Nat.le_refl _⟩, ⟨by (with_reducible repeat (first | apply Kd.Bg | apply Kd.Bh | apply Kd.Bl)); exact HO_4.out⟩, ⟨by repeat (first | (with_reducible first | exact HB.out | apply Ae | apply Aa | apply Ad) | exact HB.out)⟩⟩
            case round =>
              clear H'
              try clear c1
              try clear c2
              try clear c2b0
              try clear c2b1
              try clear p2
              try clear c7
              try clear c7b0
              try clear p2
              obtain ⟨x6_2, rfl, HA, HK2, HO_4, HB⟩ := hrel
              cases gk with
              | zero => exact absurd HA.out (by simp [Be.l1])
              | succ k2 =>
                have H := HA.out
                clear HA
                simp only [Be.l1] at H
                by_cases c9 : x6_2 < (a0.size : Int)
                · rw [if_pos c9] at H
                  have c9b0 : decide (x6_2 < (a0.size : Int)) = true := decide_eq_true c9
                  clear c9
                  (first | rw [c9b0] | (simp only [Bz, Cb]; rw [c9b0]) | skip)
                  by_cases c10 : 0 ≤ x6_2
                  · rw [if_pos c10] at H
                    have c10b0 : decide (0 ≤ x6_2) = true := decide_eq_true c10
                    clear c10
                    by_cases c12 : (bt a0 x6_2) = 46
                    · rw [if_pos c12] at H
                      have c12b0 : ((bt a0 x6_2) == 46) = true := beq_iff_eq.mpr c12
                      have c12b1 : ((bt a0 x6_2) != 46) = false := bne_eq_false_iff_eq.mpr c12
                      clear c12
                      have H' := Ac.mk H
                      clear H
                      have p11 : 0 ≤ (x6_2 : Int) := of_decide_eq_true Yc_
                      have q11 : x6_2 < (a0.size : Int) := of_decide_eq_true Yc_
                      have hx11 := E8 a0 x6_2
                      replace p11 := eq_true p11
                      replace q11 := eq_true q11
                      go_wp2
                      go_meet
                      case rel => exact ⟨_, (x6_2), Yf_, H', ⟨by have := HK1.out; have := HK2.out; first | omega | exact Nat.le_refl _⟩, ⟨by (with_reducible repeat (first | apply Kd.Bg | apply Kd.Bh | apply Kd.Bl)); exact HO_4.out⟩, ⟨by repeat (first | (with_reducible first | exact HB.out | apply Ae | apply Aa | apply Ad) | exact HB.out)⟩⟩
                    · rw [if_neg c12] at H
                      have c12b0 : ((bt a0 x6_2) == 46) = false := beq_eq_false_iff_ne.mpr c12
                      have c12b1 : ((bt a0 x6_2) != 46) = true := bne_iff_ne.mpr c12
                      have H' := Ac.mk H
                      clear H
                      have p11 : 0 ≤ (x6_2 : Int) := of_decide_eq_true Yc_
                      have q11 : x6_2 < (a0.size : Int) := of_decide_eq_true Yc_
                      have hx11 := E8 a0 x6_2
                      replace p11 := eq_true p11
                      replace q11 := eq_true q11
                      go_wp2
                      go_roundg k2
                      case measure => have := HK1.out; have := HK2.out; omega
                      case rel => exact ⟨(wrap64 (x6_2 + 1)), Yf_, H', ⟨by have := HK1.out; have := HK2.out; omega⟩, ⟨by (with_reducible repeat (first | apply Kd.Bg | apply Kd.Bh | apply Kd.Bl)); exact HO_4.out⟩, ⟨by repeat (first | (with_reducible first | exact HB.out | apply Ae | apply Aa | apply Ad) | exact HB.out)⟩⟩
                  · rw [if_neg c10] at H
                    exact absurd H (by simp)
                · rw [if_neg c9] at H
                  have c9b0 : decide (x6_2 < (a0.size : Int)) = false := decide_eq_false c9
                  clear c9
                  (first | rw [c9b0] | (simp only [Bz, Cb]; rw [c9b0]) | skip)
                  have H' := Ac.mk H
                  clear H
                  go_wp2
                  go_meet
                  case rel => exact ⟨_, (x6_2), Yf_, H', ⟨by have := HK1.out; have := HK2.out; first | omega | exact Nat.le_refl _⟩, ⟨by (with_reducible repeat (first | apply Kd.Bg | apply Kd.Bh | apply Kd.Bl)); exact HO_4.out⟩, ⟨by repeat (first | (with_reducible first | exact HB.out | apply Ae | apply Aa | apply Ad) | exact HB.out)⟩⟩
          case rest =>
            clear HC8
            try clear c1
            try clear p1
            try clear q1
            try clear hx1
            try clear c2
            try clear c2b0
            try clear c2b1
            try clear p2
            try clear p6
            try clear c7
            try clear c7b0
            try clear c9
            try clear c9b0
            try clear c10
            try clear c10b0
            try clear p11
            try clear q11
            try clear hx11
            try clear c12
            try clear c12b0
            try clear c12b1
            try clear p11
            try clear p2
            try clear q11
            obtain ⟨kq, x6_7, rfl, HA, HJ7, HO_4, HB⟩ := hcut
            cases kq with
            | zero => exact absurd HA.out (by simp [Be.j2])
            | succ kj7 =>
              have H := HA.out
              clear HA
              simp only [Be.j2] at H
              by_cases c13 : x6_7 = (a0.size : Int)
              · rw [if_pos c13] at H
                have c13b0 : (x6_7 == (a0.size : Int)) = true := beq_iff_eq.mpr c13
                have c13b1 : (x6_7 != (a0.size : Int)) = false := bne_eq_false_iff_eq.mpr c13
                clear c13
                obtain ⟨y381, hy381⟩ : ∃ y_ : List (S27), y_ = (([] : List (S27))) := ⟨_, rfl⟩
                replace H : (some (y381, false)) = some (r1, r2) := by first | (rw [hy381]; with_reducible exact H) | (have H2_ := (Option.bind_some _ _).symm.trans H; rw [hy381]; with_reducible exact H2_) | (have H2_ := (Option.bind_some _ _).symm.trans H; with_reducible exact H2_) | with_reducible exact H | (rw [hy381]; exact H) | exact H
                have Ny381 := Ac.mk hy381
                clear hy381
                simp only [Option.some.injEq, Prod.mk.injEq] at H
                obtain ⟨rfl, rfl⟩ := H
                go_wp2_with (first | ((with_reducible refine Dh (N := 37) rfl ?_); refine Kd.R_lit k27 _ 27 ?hg (N := 37) ?hd (xs := ([] : List (S27))) (inner := []) (ok := fun _ => True) (okp := fun _ => True) ?hr ?hp (fun _ hk => hk) trivial (Below.refl _ _) (Nat.le_refl _) (by simp) ?_; (case hd => rfl); (case hg => rfl); (case hr => first | (go_simp; done) | (go_simp; rfl)); (case hp => exact (Ee.none _ _)); intro v382 w14 ho15 hb hg_ hnew_; clear hg_ hnew_; (first | rw [← Ny381.out] at ho15 | (simp only [Int.reduceToNat] at ho15; rw [← Ny381.out] at ho15)); have n0_ := Ac.mk (Kd.Hr Yg_ (Kd.R_base ho15) hb); have n1_ := Ac.mk (Kd.F6 (Kd.R_new' ho15 (Kd.R_lt Yg_)) (Az Ya_)); have n2_ := Ac.mk (Au Ya_ hb); clear HO_4; clear HB; have HO_4 := n0_; have HO383 := n1_; have HB := n2_; clear n0_ n1_ n2_; clear hb ho15))
                go_ret2
                exact ⟨_, by first | rfl | (simp [Aq, Ar] <;> rfl) | (simp [*, Aq, Ar] <;> rfl), by (with_reducible repeat (first | apply Kd.Bg | apply Kd.Bh | apply Kd.Bl)); exact Kd.R_mono HO383.out (fun _ hk => trivial), by repeat (first | (with_reducible first | exact HB.out | apply Ae | apply Aa | apply Ad) | exact HB.out)⟩
              · rw [if_neg c13] at H
                have c13b0 : (x6_7 == (a0.size : Int)) = false := beq_eq_false_iff_ne.mpr c13
                have c13b1 : (x6_7 != (a0.size : Int)) = true := bne_iff_ne.mpr c13
                by_cases c16 : 0 ≤ x5_1
                · rw [if_pos c16] at H
                  have c16b0 := eq_true c16
                  have c16b1 : decide (0 ≤ x5_1) = true := decide_eq_true c16
                  clear c16
                  by_cases c17 : x5_1 ≤ (wrap64 (x6_7 + 1))
                  · rw [if_pos c17] at H
                    have c17b0 := eq_true c17
                    have c17b1 : decide (x5_1 ≤ (wrap64 (x6_7 + 1))) = true := decide_eq_true c17
                    by_cases c18 : (wrap64 (x6_7 + 1)) ≤ (a0.size : Int)
                    · rw [if_pos c18] at H
                      have c18b0 := eq_true c18
                      have c18b1 : decide ((wrap64 (x6_7 + 1)) ≤ (a0.size : Int)) = true := decide_eq_true c18
                      replace H := Option.bind_eq_some_iff.mp H
                      obtain ⟨⟨t384, t385, t386, t387, t388⟩, A190, H⟩ := H
                      replace H : (if t388 = true then (if x4_1.length < 3518437208883 then (Be.l0 kj7 a0 (x4_1 ++ [(⟨t384, t385, t386, t387⟩ : S27)]) (wrap64 (x6_7 + 2))) else (none)) else (some ((([] : List (S27))), false))) = some (r1, r2) := H
                      have A19 := Ac.mk A190
                      clear A190
                      by_cases c20 : t388 = true
                      · subst c20
                        have H1 : (if x4_1.length < 3518437208883 then (Be.l0 kj7 a0 (x4_1 ++ [(⟨t384, t385, t386, t387⟩ : S27)]) (wrap64 (x6_7 + 2))) else (none)) = some (r1, r2) := by rw [if_pos rfl] at H; exact H
                        clear H
                        have H := H1
                        clear H1
                        by_cases c21 : x4_1.length < 3518437208883
                        · rw [if_pos c21] at H
                          have LMc21 := Ac.mk c21
                          clear c21
                          obtain ⟨y390, hy390⟩ : ∃ y_ : List (S27), y_ = (x4_1 ++ [(⟨t384, t385, t386, t387⟩ : S27)]) := ⟨_, rfl⟩
                          replace H : (Be.l0 kj7 a0 y390 (wrap64 (x6_7 + 2))) = some (r1, r2) := by first | (rw [hy390]; with_reducible exact H) | (have H2_ := (Option.bind_some _ _).symm.trans H; rw [hy390]; with_reducible exact H2_) | (have H2_ := (Option.bind_some _ _).symm.trans H; with_reducible exact H2_) | with_reducible exact H | (rw [hy390]; exact H) | exact H
                          have Ny390 := Ac.mk hy390
                          clear hy390
                          have H' := Ac.mk H
                          clear H
                          go_wp2_with (first | ((with_reducible refine Aw (f := 16) rfl ?_); refine Bj (some 44) rfl rfl Tryd.func16 (by kernel_rfl) rfl #[.string (a0.extract (x5_1 : Int).toNat ((wrap64 (x6_7 + 1)) : Int).toNat)] rfl Yb_ ?_; (with_reducible refine (Ap.calls kj7 (a0.extract (x5_1 : Int).toNat ((wrap64 (x6_7 + 1)) : Int).toNat) t384 t385 t386 t387 true _ A19.out).mono ?_); rintro e w22 ⟨rfl, hb⟩; refine ⟨_, rfl, ?_⟩; have n0_ := Ac.mk (Kd.D6 Yg_ hb); have n1_ := Ac.mk (Au Ya_ hb); clear HO_4; clear HB; have HO_4 := n0_; have HB := n1_; clear n0_ n1_; (try clear hb); (try clear hb2); (try clear hk); (try clear hi)) | ((with_reducible refine Dh (N := 7) rfl ?_); refine Dl ?hg (N := 7) ?hd (cs := #[.int .i64 0, .string (⟨#[]⟩ : ByteArray), .int .i64 0, .int .i64 0]) (t := 27) ?hr ?_; (case hd => rfl); (case hg => rfl); (case hr => first | (go_simp; done) | (go_simp; rfl)); intro gb0 hg w23 hbox hb; have n0_ := Ac.mk (Kd.D6 (Kd.Hg Yg_ gb0 (Nat.le_of_eq hg.symm)) hb); have n1_ := Ac.mk (Au Ya_ hb); have n2_ := Ac.mk (hbox); have n3_ := Ac.mk ((by rw [hg]; exact (Az Ya_) : w.heap.size ≤ gb0)); have n4_ := Ac.mk ((by rw [hg]; exact (Az Ya_) : w.heap.size ≤ gb0)); clear HO_4; clear HB; have HO_4 := n0_; have HB := n1_; have BK0 := n2_; have GW0 := n3_; have GE0 := n4_; clear n0_ n1_ n2_ n3_ n4_; clear hb hbox hg; have hcz24_0 : w23.cell? ⟨gb0, 0, none⟩ = some (.int .i64 0) := (Af BK0.out 0).trans rfl; have hcz24_1 : w23.cell? ⟨gb0, 1, none⟩ = some (.string (⟨#[]⟩ : ByteArray)) := (Af BK0.out 1).trans rfl; have hcz24_2 : w23.cell? ⟨gb0, 2, none⟩ = some (.int .i64 0) := (Af BK0.out 2).trans rfl; have hcz24_3 : w23.cell? ⟨gb0, 3, none⟩ = some (.int .i64 0) := (Af BK0.out 3).trans rfl; have hfz24_0 := Ag BK0.out 0; have hfz24_1 := Ag BK0.out 1; have hfz24_2 := Ag BK0.out 2; have hfz24_3 := Ag BK0.out 3) | ((with_reducible refine Gy (b := .append) (xs := #[.tmp 50, .tmp 52]) rfl ?_); at_builtin; refine Kd.R_append k27 (w0 := w) w.heap.size rfl (.tmp 50) (.tmp 52) 33 27 (.agg #[(.int .i64 0), (.string ⟨#[]⟩), (.int .i64 0), (.int .i64 0)]) 40 rfl Tryd.underlying33 info27 rfl (by decide) (by omega) u4 x4_1 (⟨t384, t385, t386, t387⟩ : S27) [.int .i64 t384, .string t385, .int .i64 t386, .int .i64 t387] (fun k_ => k_ ≠ gb0) (fun _ => False) rfl (by first | (go_simp; done) | (go_simp; rfl)) ?aP (fun _ hk => hk.elim) ?aF ?aO ?aB ?aS ?aL ?_; (case aP => exact G6 _ _ _ (⟨t384, t385, t386, t387⟩ : S27)); (case aB => exact Yd_); (case aF => exact (fun k_ hk => Kd.freshB (g := gb0) (o := .cells #[.int .i64 t384, .string t385, .int .i64 t386, .int .i64 t387] 27 (0, 0)) Yj_ k_ hk)); (case aO => exact (by (with_reducible repeat (first | apply Kd.Bg | apply Kd.Bh | apply Kd.Bl)); exact Kd.R_mono (Kd.Fe (p := ⟨gb0, 3, none⟩) (Kd.Fe (p := ⟨gb0, 2, none⟩) (Kd.Fe (p := ⟨gb0, 1, none⟩) (Kd.Fe (p := ⟨gb0, 0, none⟩) (Kd.R_mono HO_4.out (fun k_ hk => (⟨hk, hk.2⟩ : _ ∧ k_ ≠ gb0))) (fun _ hk => hk.2) (.int .i64 t384)) (fun _ hk => hk.2) (.string t385)) (fun _ hk => hk.2) (.int .i64 t386)) (fun _ hk => hk.2) (.int .i64 t387)) (fun _ hk => hk.1.2))); (case aS => exact (Az Yd_)); (case aL => have := LMc21.out; omega); intro v391 w25 ho hb hg hat; rw [← Ny390.out] at ho; have n0_ := Ac.mk (blk_grown (g := gb0) (o := .cells #[.int .i64 t384, .string t385, .int .i64 t386, .int .i64 t387] 27 (0, 0)) Yj_ hg (Kd.R_away HO_4.out (fun _ hk => hk.2))); have n1_ := Ac.mk (hb); have n2_ := Ac.mk (ho); clear BK0; clear HB; clear HO_4; have BK0 := n0_; have HB := n1_; have HO392 := n2_; clear n0_ n1_ n2_; clear ho hb hg hat))
                          go_roundg kj7
                          case measure => have := HK1.out; have := HJ7.out; omega
                          case rel => exact ⟨(y390), (wrap64 (x6_7 + 2)), Yf_, H', ⟨by have := HK1.out; have := HJ7.out; omega⟩, ⟨by (with_reducible repeat (first | apply Kd.Bg | apply Kd.Bh | apply Kd.Bl)); exact Kd.R_mono HO392.out (fun _ hk => trivial)⟩, ⟨by repeat (first | (with_reducible first | exact HB.out | apply Ae | apply Aa | apply Ad | refine Am ?_ GE0.out) | exact HB.out)⟩⟩
                        · rw [if_neg c21] at H
                          exact absurd H (by simp)
                      · replace c20 := Bool.eq_false_iff.mpr c20
                        subst c20
                        have H1 : (some ((([] : List (S27))), false)) = some (r1, r2) := by rw [if_neg (show ¬ (false = true) by decide)] at H; exact H
                        clear H
                        have H := H1
                        clear H1
                        obtain ⟨y393, hy393⟩ : ∃ y_ : List (S27), y_ = (([] : List (S27))) := ⟨_, rfl⟩
                        replace H : (some (y393, false)) = some (r1, r2) := by first | (rw [hy393]; with_reducible exact H) | (have H2_ := (Option.bind_some _ _).symm.trans H; rw [hy393]; with_reducible exact H2_) | (have H2_ := (Option.bind_some _ _).symm.trans H; with_reducible exact H2_) | with_reducible exact H | (rw [hy393]; exact H) | exact H
                        have Ny393 := Ac.mk hy393
                        clear hy393
                        simp only [Option.some.injEq, Prod.mk.injEq] at H
                        obtain ⟨rfl, rfl⟩ := H
                        go_wp2_with (first | ((with_reducible refine Aw (f := 16) rfl ?_); refine Bj (some 44) rfl rfl Tryd.func16 (by kernel_rfl) rfl #[.string (a0.extract (x5_1 : Int).toNat ((wrap64 (x6_7 + 1)) : Int).toNat)] rfl Yb_ ?_; (with_reducible refine (Ap.calls kj7 (a0.extract (x5_1 : Int).toNat ((wrap64 (x6_7 + 1)) : Int).toNat) t384 t385 t386 t387 false _ A19.out).mono ?_); rintro e w26 ⟨rfl, hb⟩; refine ⟨_, rfl, ?_⟩; have n0_ := Ac.mk (Kd.D6 Yg_ hb); have n1_ := Ac.mk (Au Ya_ hb); clear HO_4; clear HB; have HO_4 := n0_; have HB := n1_; clear n0_ n1_; (try clear hb); (try clear hb2); (try clear hk); (try clear hi)) | ((with_reducible refine Dh (N := 7) rfl ?_); refine Dl ?hg (N := 7) ?hd (cs := #[.int .i64 0, .string (⟨#[]⟩ : ByteArray), .int .i64 0, .int .i64 0]) (t := 27) ?hr ?_; (case hd => rfl); (case hg => rfl); (case hr => first | (go_simp; done) | (go_simp; rfl)); intro gb0 hg w27 hbox hb; have n0_ := Ac.mk (Kd.D6 (Kd.Hg Yg_ gb0 (Nat.le_of_eq hg.symm)) hb); have n1_ := Ac.mk (Au Ya_ hb); have n2_ := Ac.mk (hbox); have n3_ := Ac.mk ((by rw [hg]; exact (Az Ya_) : w.heap.size ≤ gb0)); have n4_ := Ac.mk ((by rw [hg]; exact (Az Ya_) : w.heap.size ≤ gb0)); clear HO_4; clear HB; have HO_4 := n0_; have HB := n1_; have BK0 := n2_; have GW0 := n3_; have GE0 := n4_; clear n0_ n1_ n2_ n3_ n4_; clear hb hbox hg; have hcz28_0 : w27.cell? ⟨gb0, 0, none⟩ = some (.int .i64 0) := (Af BK0.out 0).trans rfl; have hcz28_1 : w27.cell? ⟨gb0, 1, none⟩ = some (.string (⟨#[]⟩ : ByteArray)) := (Af BK0.out 1).trans rfl; have hcz28_2 : w27.cell? ⟨gb0, 2, none⟩ = some (.int .i64 0) := (Af BK0.out 2).trans rfl; have hcz28_3 : w27.cell? ⟨gb0, 3, none⟩ = some (.int .i64 0) := (Af BK0.out 3).trans rfl; have hfz28_0 := Ag BK0.out 0; have hfz28_1 := Ag BK0.out 1; have hfz28_2 := Ag BK0.out 2; have hfz28_3 := Ag BK0.out 3) | ((with_reducible refine Dh (N := 49) rfl ?_); refine Kd.R_lit k27 _ 27 ?hg (N := 49) ?hd (xs := ([] : List (S27))) (inner := []) (ok := fun _ => True) (okp := fun _ => True) ?hr ?hp (fun _ hk => hk) trivial (Below.refl _ _) (Nat.le_refl _) (by simp) ?_; (case hd => rfl); (case hg => rfl); (case hr => first | (go_simp; done) | (go_simp; rfl)); (case hp => exact (Ee.none _ _)); intro v394 w29 ho30 hb hg_ hnew_; clear hg_ hnew_; (first | rw [← Ny393.out] at ho30 | (simp only [Int.reduceToNat] at ho30; rw [← Ny393.out] at ho30)); have n0_ := Ac.mk (Kd.Hr Ycb_ (Kd.R_base ho30) hb); have n1_ := Ac.mk (Kd.F6 (Kd.R_newB (Kd.R_new' ho30 (Kd.R_lt Ycb_)) (g := gb0) (o := .cells #[.int .i64 t384, .string t385, .int .i64 t386, .int .i64 t387] 27 (0, 0)) Yj_) (Az Yd_)); have n2_ := Ac.mk (Ce (g := gb0) (o := .cells #[.int .i64 t384, .string t385, .int .i64 t386, .int .i64 t387] 27 (0, 0)) Yj_ hb); have n3_ := Ac.mk (Au Yd_ hb); clear HO_4; clear BK0; clear HB; have HO_4 := n0_; have HO395 := n1_; have BK0 := n2_; have HB := n3_; clear n0_ n1_ n2_ n3_; clear hb ho30))
                        go_ret2
                        exact ⟨_, by first | rfl | (simp [Aq, Ar] <;> rfl) | (simp [*, Aq, Ar] <;> rfl), by (with_reducible repeat (first | apply Kd.Bg | apply Kd.Bh | apply Kd.Bl)); exact Kd.R_mono HO395.out (fun _ hk => trivial), by repeat (first | (with_reducible first | exact HB.out | apply Ae | apply Aa | apply Ad | refine Am ?_ GE0.out) | exact HB.out)⟩
                    · rw [if_neg c18] at H
                      exact absurd H (by simp)
                  · rw [if_neg c17] at H
                    exact absurd H (by simp)
                · rw [if_neg c16] at H
                  exact absurd H (by simp)
        · rw [if_neg c7] at H
          have c7b0 : decide (x5_1 < (a0.size : Int)) = false := decide_eq_false c7
          clear c7
          replace H := Option.bind_eq_some_iff.mp H
          obtain ⟨⟨t373, t374⟩, A310, H⟩ := H
          replace H : (if t374 = true then (if t373.toList = a0.toList then (some (x4_1, true)) else (some ((([] : List (S27))), false))) else (some ((([] : List (S27))), false))) = some (r1, r2) := H
          have A31 := Ac.mk A310
          clear A310
          by_cases c32 : t374 = true
          · subst c32
            have H1 : (if t373.toList = a0.toList then (some (x4_1, true)) else (some ((([] : List (S27))), false))) = some (r1, r2) := by rw [if_pos rfl] at H; exact H
            clear H
            have H := H1
            clear H1
            by_cases c33 : t373.toList = a0.toList
            · rw [if_pos c33] at H
              have c33b0 : (t373.toList == a0.toList) = true := beq_iff_eq.mpr c33
              have c33b1 : (t373.toList != a0.toList) = false := bne_eq_false_iff_eq.mpr c33
              clear c33
              simp only [Option.some.injEq, Prod.mk.injEq] at H
              obtain ⟨rfl, rfl⟩ := H
              obtain ⟨Ao34, co34, eo34⟩ := Kd.Ff HO_4.out
              subst eo34
              go_wp2_with (first | ((with_reducible refine Aw (f := 12) rfl ?_); refine Bj (some 58) rfl rfl Tryd.func12 (by kernel_rfl) rfl #[.slice Ao34 x4_1.length co34] rfl Yb_ ?_; (with_reducible refine (C9.calls k1 _ _ x4_1 t373 true _ ?side1 ?side2 A31.out).mono ?_); (case side1 => repeat (first | exact (Kd.Dv HO_4.out).2.2 | (with_reducible refine Kd.Fz ?_ _) | (with_reducible refine Kd.F5 ?_ _) | (with_reducible refine Kd.Gj ?_))); (case side2 => exact (Kd.Dv HO_4.out).2.1); rintro e w35 ⟨rfl, hb⟩; refine ⟨_, rfl, ?_⟩; have n0_ := Ac.mk (Kd.D6 Yg_ hb); have n1_ := Ac.mk (Au Ya_ hb); clear HO_4; clear HB; have HO_4 := n0_; have HB := n1_; clear n0_ n1_; (try clear hb); (try clear hb2); (try clear hk); (try clear hi)))
              go_ret2
              exact ⟨_, by first | rfl | (simp [Aq, Ar] <;> rfl) | (simp [*, Aq, Ar] <;> rfl), by (with_reducible repeat (first | apply Kd.Bg | apply Kd.Bh | apply Kd.Bl)); exact HO_4.out, by repeat (first | (with_reducible first | exact HB.out | apply Ae | apply Aa | apply Ad) | exact HB.out)⟩
            · rw [if_neg c33] at H
              have c33b0 : (t373.toList == a0.toList) = false := beq_eq_false_iff_ne.mpr c33
              have c33b1 : (t373.toList != a0.toList) = true := bne_iff_ne.mpr c33
              obtain ⟨y375, hy375⟩ : ∃ y_ : List (S27), y_ = (([] : List (S27))) := ⟨_, rfl⟩
              replace H : (some (y375, false)) = some (r1, r2) := by first | (rw [hy375]; with_reducible exact H) | (have H2_ := (Option.bind_some _ _).symm.trans H; rw [hy375]; with_reducible exact H2_) | (have H2_ := (Option.bind_some _ _).symm.trans H; with_reducible exact H2_) | with_reducible exact H | (rw [hy375]; exact H) | exact H
              have Ny375 := Ac.mk hy375
              clear hy375
              simp only [Option.some.injEq, Prod.mk.injEq] at H
              obtain ⟨rfl, rfl⟩ := H
              obtain ⟨Ao36, co36, eo36⟩ := Kd.Ff HO_4.out
              subst eo36
              go_wp2_with (first | ((with_reducible refine Aw (f := 12) rfl ?_); refine Bj (some 58) rfl rfl Tryd.func12 (by kernel_rfl) rfl #[.slice Ao36 x4_1.length co36] rfl Yb_ ?_; (with_reducible refine (C9.calls k1 _ _ x4_1 t373 true _ ?side1 ?side2 A31.out).mono ?_); (case side1 => repeat (first | exact (Kd.Dv HO_4.out).2.2 | (with_reducible refine Kd.Fz ?_ _) | (with_reducible refine Kd.F5 ?_ _) | (with_reducible refine Kd.Gj ?_))); (case side2 => exact (Kd.Dv HO_4.out).2.1); rintro e w37 ⟨rfl, hb⟩; refine ⟨_, rfl, ?_⟩; have n0_ := Ac.mk (Kd.D6 Yg_ hb); have n1_ := Ac.mk (Au Ya_ hb); clear HO_4; clear HB; have HO_4 := n0_; have HB := n1_; clear n0_ n1_; (try clear hb); (try clear hb2); (try clear hk); (try clear hi)) | ((with_reducible refine Dh (N := 68) rfl ?_); refine Kd.R_lit k27 _ 27 ?hg (N := 68) ?hd (xs := ([] : List (S27))) (inner := []) (ok := fun _ => True) (okp := fun _ => True) ?hr ?hp (fun _ hk => hk) trivial (Below.refl _ _) (Nat.le_refl _) (by simp) ?_; (case hd => rfl); (case hg => rfl); (case hr => first | (go_simp; done) | (go_simp; rfl)); (case hp => exact (Ee.none _ _)); intro v376 w38 ho39 hb hg_ hnew_; clear hg_ hnew_; (first | rw [← Ny375.out] at ho39 | (simp only [Int.reduceToNat] at ho39; rw [← Ny375.out] at ho39)); have n0_ := Ac.mk (Kd.Hr Yg_ (Kd.R_base ho39) hb); have n1_ := Ac.mk (Kd.F6 (Kd.R_new' ho39 (Kd.R_lt Yg_)) (Az Ya_)); have n2_ := Ac.mk (Au Ya_ hb); clear HO_4; clear HB; have HO_4 := n0_; have HO377 := n1_; have HB := n2_; clear n0_ n1_ n2_; clear hb ho39))
              go_ret2
              exact ⟨_, by first | rfl | (simp [Aq, Ar] <;> rfl) | (simp [*, Aq, Ar] <;> rfl), by (with_reducible repeat (first | apply Kd.Bg | apply Kd.Bh | apply Kd.Bl)); exact Kd.R_mono HO377.out (fun _ hk => trivial), by repeat (first | (with_reducible first | exact HB.out | apply Ae | apply Aa | apply Ad) | exact HB.out)⟩
          · replace c32 := Bool.eq_false_iff.mpr c32
            subst c32
            have H1 : (some ((([] : List (S27))), false)) = some (r1, r2) := by rw [if_neg (show ¬ (false = true) by decide)] at H; exact H
            clear H
            have H := H1
            clear H1
            obtain ⟨y378, hy378⟩ : ∃ y_ : List (S27), y_ = (([] : List (S27))) := ⟨_, rfl⟩
            replace H : (some (y378, false)) = some (r1, r2) := by first | (rw [hy378]; with_reducible exact H) | (have H2_ := (Option.bind_some _ _).symm.trans H; rw [hy378]; with_reducible exact H2_) | (have H2_ := (Option.bind_some _ _).symm.trans H; with_reducible exact H2_) | with_reducible exact H | (rw [hy378]; exact H) | exact H
            have Ny378 := Ac.mk hy378
            clear hy378
            simp only [Option.some.injEq, Prod.mk.injEq] at H
            obtain ⟨rfl, rfl⟩ := H
            obtain ⟨Ao40, co40, eo40⟩ := Kd.Ff HO_4.out
            subst eo40
            go_wp2_with (first | ((with_reducible refine Aw (f := 12) rfl ?_); refine Bj (some 58) rfl rfl Tryd.func12 (by kernel_rfl) rfl #[.slice Ao40 x4_1.length co40] rfl Yb_ ?_; (with_reducible refine (C9.calls k1 _ _ x4_1 t373 false _ ?side1 ?side2 A31.out).mono ?_); (case side1 => repeat (first | exact (Kd.Dv HO_4.out).2.2 | (with_reducible refine Kd.Fz ?_ _) | (with_reducible refine Kd.F5 ?_ _) | (with_reducible refine Kd.Gj ?_))); (case side2 => exact (Kd.Dv HO_4.out).2.1); rintro e w41 ⟨rfl, hb⟩; refine ⟨_, rfl, ?_⟩; have n0_ := Ac.mk (Kd.D6 Yg_ hb); have n1_ := Ac.mk (Au Ya_ hb); clear HO_4; clear HB; have HO_4 := n0_; have HB := n1_; clear n0_ n1_; (try clear hb); (try clear hb2); (try clear hk); (try clear hi)) | ((with_reducible refine Dh (N := 68) rfl ?_); refine Kd.R_lit k27 _ 27 ?hg (N := 68) ?hd (xs := ([] : List (S27))) (inner := []) (ok := fun _ => True) (okp := fun _ => True) ?hr ?hp (fun _ hk => hk) trivial (Below.refl _ _) (Nat.le_refl _) (by simp) ?_; (case hd => rfl); (case hg => rfl); (case hr => first | (go_simp; done) | (go_simp; rfl)); (case hp => exact (Ee.none _ _)); intro v379 w42 ho43 hb hg_ hnew_; clear hg_ hnew_; (first | rw [← Ny378.out] at ho43 | (simp only [Int.reduceToNat] at ho43; rw [← Ny378.out] at ho43)); have n0_ := Ac.mk (Kd.Hr Yg_ (Kd.R_base ho43) hb); have n1_ := Ac.mk (Kd.F6 (Kd.R_new' ho43 (Kd.R_lt Yg_)) (Az Ya_)); have n2_ := Ac.mk (Au Ya_ hb); clear HO_4; clear HB; have HO_4 := n0_; have HO380 := n1_; have HB := n2_; clear n0_ n1_ n2_; clear hb ho43))
            go_ret2
            exact ⟨_, by first | rfl | (simp [Aq, Ar] <;> rfl) | (simp [*, Aq, Ar] <;> rfl), by (with_reducible repeat (first | apply Kd.Bg | apply Kd.Bh | apply Kd.Bl)); exact Kd.R_mono HO380.out (fun _ hk => trivial), by repeat (first | (with_reducible first | exact HB.out | apply Ae | apply Aa | apply Ad) | exact HB.out)⟩
end Go.Proofs.YtghnljoaklmakaaDoor.X

namespace Go.Proofs.YtghnljoaklmakaaDoor.X
open Go.RowKit Go.Proofs.YtghnljoaklmakaaDoorW.PrintWords Go.Proofs.YtghnljoaklmakaaDoorW.PrintLast Go.Proofs.YtghnljoaklmakaaDoorW.PrintMore
attribute [local go_sem] Ea Eb Eh Eg Dz D5 Ec D9
open Go.Proofs.YtghnljoaklmakaaDoorG
mutual
def Bv.l0 : Nat → ByteArray → Int → Int → Int → Option (Int × Bool)
  | 0, _, _, _, _ => none
  | k + 1, x0, x4, x11, x12 => if x12 < x11 then (if 0 ≤ x12 then (if x12 < (x0.size : Int) then (if x12 < 3 then (if (bt x0 x12) ≥ 65 then (Bv.j1 k x0 x4 x12 (bt x0 x12) x11 x12 (decide ((bt x0 x12) ≤ 90))) else (Bv.j1 k x0 x4 x12 (bt x0 x12) x11 x12 false)) else (Bv.j1 k x0 x4 x12 (bt x0 x12) x11 x12 false)) else (none)) else (none)) else (some ((wrap64 (65 + (Int.tmod x4 23))) % 256, true))
def Bv.j1 : Nat → ByteArray → Int → Int → Int → Int → Int → Bool → Option (Int × Bool)
  | 0, _, _, _, _, _, _, _ => none
  | k + 1, x0, x4, x5, x6, x11, x12, x18 => if x18 = true then (Bv.l0 k x0 (wrap64 (x4 + (wrap64 ((wrap64 (x5 + 2)) * (((x6 - 65) % 256) + 1))))) x11 (wrap64 (x12 + 1))) else (if x5 ≥ 3 then (if x6 ≥ 48 then (if x6 ≤ 57 then (Bv.l0 k x0 (wrap64 (x4 + (wrap64 ((wrap64 (x5 + 2)) * ((x6 - 48) % 256))))) x11 (wrap64 (x12 + 1))) else (some (0, false))) else (some (0, false))) else (some (0, false)))
end
def Bv.f (k : Nat) (a0 : ByteArray) : Option (Int × Bool) := if (a0.size : Int) = 7 then (Bv.l0 k a0 0 (a0.size : Int) 0) else (some (0, false))
theorem Bv.Ed : ∀ k, (∀ y0 y1 y2 y3, LeO (Bv.l0 k y0 y1 y2 y3) (Bv.l0 (k + 1) y0 y1 y2 y3)) ∧ (∀ y0 y1 y2 y3 y4 y5 y6, LeO (Bv.j1 k y0 y1 y2 y3 y4 y5 y6) (Bv.j1 (k + 1) y0 y1 y2 y3 y4 y5 y6))
  | 0 => ⟨fun _ _ _ _ r h => by simp [Bv.l0] at h, fun _ _ _ _ _ _ _ r h => by simp [Bv.j1] at h⟩
  | k + 1 => by
    obtain ⟨ih0, ih1⟩ := Bv.Ed k
    refine ⟨?_, ?_⟩
    · intro y0 y1 y2 y3
      unfold Bv.l0
      repeat' first
      | (with_reducible exact ih0 _ _ _ _)
      | (with_reducible exact ih1 _ _ _ _ _ _ _)
      | (with_reducible exact LeO.refl _)
      | (with_reducible exact LeO.none _)
      | (with_reducible refine LeO.ite ?_ ?_)
      | (with_reducible refine LeO.bind ?_ (fun _ => ?_))
      | exact ih0 _ _ _ _
      | exact ih1 _ _ _ _ _ _ _
      | exact LeO.none _
      | refine LeO.ite ?_ ?_
      | refine LeO.bind ?_ (fun _ => ?_)
    · intro y0 y1 y2 y3 y4 y5 y6
      unfold Bv.j1
      repeat' first
      | (with_reducible exact ih0 _ _ _ _)
      | (with_reducible exact ih1 _ _ _ _ _ _ _)
      | (with_reducible exact LeO.refl _)
      | (with_reducible exact LeO.none _)
      | (with_reducible refine LeO.ite ?_ ?_)
      | (with_reducible refine LeO.bind ?_ (fun _ => ?_))
      | exact ih0 _ _ _ _
      | exact ih1 _ _ _ _ _ _ _
      | exact LeO.none _
      | refine LeO.ite ?_ ?_
      | refine LeO.bind ?_ (fun _ => ?_)
theorem Bv.mono : ∀ a0 k, LeO (Bv.f k a0) (Bv.f (k + 1) a0) := by
  intro a0 k
  obtain ⟨ih0, ih1⟩ := Bv.Ed k
  unfold Bv.f
  repeat' first
      | (with_reducible exact ih0 _ _ _ _)
      | (with_reducible exact ih1 _ _ _ _ _ _ _)
      | (with_reducible exact LeO.refl _)
      | (with_reducible exact LeO.none _)
      | (with_reducible refine LeO.ite ?_ ?_)
      | (with_reducible refine LeO.bind ?_ (fun _ => ?_))
      | exact ih0 _ _ _ _
      | exact ih1 _ _ _ _ _ _ _
      | exact LeO.none _
      | refine LeO.ite ?_ ?_
      | refine LeO.bind ?_ (fun _ => ?_)
set_option maxHeartbeats 8000000 in
set_option maxRecDepth 100000 in
theorem Bv.calls (k : Nat) (a0 : ByteArray) (r1 : Int) (r2 : Bool) (w : World) (h : Bv.f k a0 = some (r1, r2)) :
    Calls Tryd.prog 58 #[.string a0] w fun e w' => e = .returned (.tuple #[.int .u8 r1, .bool r2]) ∧ Cj w w' := by
  have H : (if (a0.size : Int) = 7 then (Bv.l0 k a0 0 (a0.size : Int) 0) else (some (0, false))) = some (r1, r2) := h
  clear h
  by_cases c2 : (a0.size : Int) = 7
  · rw [if_pos c2] at H
    have c2b0 : ((a0.size : Int) == 7) = true := beq_iff_eq.mpr c2
    have c2b1 : ((a0.size : Int) != 7) = false := bne_eq_false_iff_eq.mpr c2
    clear c2
    have H' := Ac.mk H
    clear H
    go_enter Tryd.func58, Tryd.ntmps58
    go_wp2
    go_loopg [4, 12] k (fun kq v4 v12 w' => ∃ (x4_1 : Int) (x12_1 : Int), v4 = .int .i64 x4_1 ∧ v12 = .int .i64 x12_1 ∧ Ac (Bv.l0 kq a0 x4_1 (a0.size : Int) x12_1 = some (r1, r2)) ∧ Ac (kq ≤ k) ∧ Cj w w')
    case atStart => exact ⟨(0), (0), Yf_, Yf_, H', ⟨Nat.le_refl _⟩, by repeat (first | exact Cj.refl _ | apply Cj.step)⟩
    case round =>
      clear H'
      try clear c2
      try clear c2b0
      try clear c2b1
      try clear p2
      obtain ⟨x4_1, x12_1, rfl, rfl, HA, HK1, ⟨m1, rfl⟩⟩ := hrel
      cases gk with
      | zero => exact absurd HA.out (by simp [Bv.l0])
      | succ k1 =>
        have H := HA.out
        clear HA
        simp only [Bv.l0] at H
        by_cases c3 : x12_1 < (a0.size : Int)
        · rw [if_pos c3] at H
          have c3b0 : decide (x12_1 < (a0.size : Int)) = true := decide_eq_true c3
          clear c3
          by_cases c4 : 0 ≤ x12_1
          · rw [if_pos c4] at H
            have c4b0 : decide (0 ≤ x12_1) = true := decide_eq_true c4
            clear c4
            by_cases c5 : x12_1 < (a0.size : Int)
            · rw [if_pos c5] at H
              have c5b0 : decide (x12_1 < (a0.size : Int)) = true := decide_eq_true c5
              clear c5
              have HC7 := Ac.mk H
              clear H
              have p6 : 0 ≤ (x12_1 : Int) := of_decide_eq_true Yc_
              have q6 : x12_1 < (a0.size : Int) := of_decide_eq_true Yc_
              have hx6 := E8 a0 x12_1
              replace p6 := eq_true p6
              replace q6 := eq_true q6
              go_upto_region 9 with (fail)
              go_cut [18] (fun v18 wc => ∃ (kq : Nat) (x18_6 : Bool), v18 = .bool x18_6 ∧ Ac (Bv.j1 kq a0 x4_1 x12_1 (bt a0 x12_1) (a0.size : Int) x12_1 x18_6 = some (r1, r2)) ∧ Ac (kq ≤ k1) ∧ Cj w wc)
              case first =>
                have H := HC7.out
                clear HC7
                by_cases c8 : x12_1 < 3
                · rw [if_pos c8] at H
                  have c8b0 : decide (x12_1 < 3) = true := decide_eq_true c8
                  clear c8
                  (first | rw [c8b0] | (simp only [Bz, Cb]; rw [c8b0]) | skip)
                  by_cases c9 : (bt a0 x12_1) ≥ 65
                  · rw [if_pos c9] at H
                    have c9b0 : decide (65 ≤ (bt a0 x12_1)) = true := decide_eq_true c9
                    clear c9
                    have H' := Ac.mk H
                    clear H
                    go_wp2
                    go_meet
                    case rel => exact ⟨_, (decide ((bt a0 x12_1) ≤ 90)), Yf_, H', ⟨by have := HK1.out; first | omega | exact Nat.le_refl _⟩, by repeat (first | exact Cj.refl _ | apply Cj.step)⟩
                  · rw [if_neg c9] at H
                    have c9b0 : decide (65 ≤ (bt a0 x12_1)) = false := decide_eq_false c9
                    clear c9
                    have H' := Ac.mk H
                    clear H
                    go_wp2
                    go_meet
                    case rel => exact ⟨_, (false), Yf_, H', ⟨by have := HK1.out; first | omega | exact Nat.le_refl _⟩, by repeat (first | exact Cj.refl _ | apply Cj.step)⟩
                · rw [if_neg c8] at H
                  have c8b0 : decide (x12_1 < 3) = false := decide_eq_false c8
                  clear c8
                  (first | rw [c8b0] | (simp only [Bz, Cb]; rw [c8b0]) | skip)
                  have H' := Ac.mk H
                  clear H
                  go_wp2
                  go_meet
                  case rel => exact ⟨_, (false), Yf_, H', ⟨by have := HK1.out; first | omega | exact Nat.le_refl _⟩, by repeat (first | exact Cj.refl _ | apply Cj.step)⟩
              case rest =>
                clear HC7
                try clear c2
                try clear c2b0
                try clear c2b1
                try clear p2
                try clear c3
                try clear c3b0
                try clear c4
                try clear c4b0
                try clear c5
                try clear c5b0
                try clear p6
                try clear q6
                try clear hx6
                try clear c8
                try clear c8b0
                try clear c9
                try clear c9b0
                try clear p2
                try clear p6
                try clear q6
                obtain ⟨kq, x18_6, rfl, HA, HJ6, ⟨mc6, rfl⟩⟩ := hcut
                cases kq with
                | zero => exact absurd HA.out (by simp [Bv.j1])
                | succ kj6 =>
                  have H := HA.out
                  clear HA
                  simp only [Bv.j1] at H
                  by_cases c10 : x18_6 = true
                  · subst c10
                    have H1 : (Bv.l0 kj6 a0 (wrap64 (x4_1 + (wrap64 ((wrap64 (x12_1 + 2)) * ((((bt a0 x12_1) - 65) % 256) + 1))))) (a0.size : Int) (wrap64 (x12_1 + 1))) = some (r1, r2) := by rw [if_pos rfl] at H; exact H
                    clear H
                    have H := H1
                    clear H1
                    have H' := Ac.mk H
                    clear H
                    go_wp2
                    go_roundg kj6
                    case measure => have := HK1.out; have := HJ6.out; omega
                    case rel => exact ⟨(wrap64 (x4_1 + (wrap64 ((wrap64 (x12_1 + 2)) * ((((bt a0 x12_1) - 65) % 256) + 1))))), (wrap64 (x12_1 + 1)), Yf_, Yf_, H', ⟨by have := HK1.out; have := HJ6.out; omega⟩, by repeat (first | exact Cj.refl _ | apply Cj.step)⟩
                  · replace c10 := Bool.eq_false_iff.mpr c10
                    subst c10
                    have H1 : (if x12_1 ≥ 3 then (if (bt a0 x12_1) ≥ 48 then (if (bt a0 x12_1) ≤ 57 then (Bv.l0 kj6 a0 (wrap64 (x4_1 + (wrap64 ((wrap64 (x12_1 + 2)) * (((bt a0 x12_1) - 48) % 256))))) (a0.size : Int) (wrap64 (x12_1 + 1))) else (some (0, false))) else (some (0, false))) else (some (0, false))) = some (r1, r2) := by rw [if_neg (show ¬ (false = true) by decide)] at H; exact H
                    clear H
                    have H := H1
                    clear H1
                    by_cases c11 : x12_1 ≥ 3
                    · rw [if_pos c11] at H
                      have c11b0 : decide (3 ≤ x12_1) = true := decide_eq_true c11
                      clear c11
                      by_cases c12 : (bt a0 x12_1) ≥ 48
                      · rw [if_pos c12] at H
                        have c12b0 : decide (48 ≤ (bt a0 x12_1)) = true := decide_eq_true c12
                        clear c12
                        by_cases c13 : (bt a0 x12_1) ≤ 57
                        · rw [if_pos c13] at H
                          have c13b0 : decide ((bt a0 x12_1) ≤ 57) = true := decide_eq_true c13
                          clear c13
                          have H' := Ac.mk H
                          clear H
                          go_wp2
                          go_roundg kj6
                          case measure => have := HK1.out; have := HJ6.out; omega
                          case rel => exact ⟨(wrap64 (x4_1 + (wrap64 ((wrap64 (x12_1 + 2)) * (((bt a0 x12_1) - 48) % 256))))), (wrap64 (x12_1 + 1)), Yf_, Yf_, H', ⟨by have := HK1.out; have := HJ6.out; omega⟩, by repeat (first | exact Cj.refl _ | apply Cj.step)⟩
                        · rw [if_neg c13] at H
                          have c13b0 : decide ((bt a0 x12_1) ≤ 57) = false := decide_eq_false c13
                          clear c13
                          simp only [Option.some.injEq, Prod.mk.injEq] at H
                          obtain ⟨rfl, rfl⟩ := H
                          go_wp2
                          go_ret2
                          exact ⟨by first | rfl | (simp; done) | (simp [*]; done), by repeat (first | exact Cj.refl _ | apply Cj.step)⟩
                      · rw [if_neg c12] at H
                        have c12b0 : decide (48 ≤ (bt a0 x12_1)) = false := decide_eq_false c12
                        clear c12
                        simp only [Option.some.injEq, Prod.mk.injEq] at H
                        obtain ⟨rfl, rfl⟩ := H
                        go_wp2
                        go_ret2
                        exact ⟨by first | rfl | (simp; done) | (simp [*]; done), by repeat (first | exact Cj.refl _ | apply Cj.step)⟩
                    · rw [if_neg c11] at H
                      have c11b0 : decide (3 ≤ x12_1) = false := decide_eq_false c11
                      clear c11
                      simp only [Option.some.injEq, Prod.mk.injEq] at H
                      obtain ⟨rfl, rfl⟩ := H
                      go_wp2
                      go_ret2
                      exact ⟨by first | rfl | (simp; done) | (simp [*]; done), by repeat (first | exact Cj.refl _ | apply Cj.step)⟩
            · rw [if_neg c5] at H
              exact absurd H (by simp)
          · rw [if_neg c4] at H
            exact absurd H (by simp)
        · rw [if_neg c3] at H
          have c3b0 : decide (x12_1 < (a0.size : Int)) = false := decide_eq_false c3
          clear c3
          simp only [Option.some.injEq, Prod.mk.injEq] at H
          obtain ⟨rfl, rfl⟩ := H
          go_wp2
          go_ret2
          exact ⟨by first | rfl | (simp; done) | (simp [*]; done), by repeat (first | exact Cj.refl _ | apply Cj.step)⟩
  · rw [if_neg c2] at H
    have c2b0 : ((a0.size : Int) == 7) = false := beq_eq_false_iff_ne.mpr c2
    have c2b1 : ((a0.size : Int) != 7) = true := bne_iff_ne.mpr c2
    simp only [Option.some.injEq, Prod.mk.injEq] at H
    obtain ⟨rfl, rfl⟩ := H
    go_enter Tryd.func58, Tryd.ntmps58
    go_wp2
    go_ret2
    exact ⟨by first | rfl | (simp; done) | (simp [*]; done), by repeat (first | exact Cj.refl _ | apply Cj.step)⟩
end Go.Proofs.YtghnljoaklmakaaDoor.X

namespace Go.Proofs.YtghnljoaklmakaaDoor.X
open Go.RowKit Go.Proofs.YtghnljoaklmakaaDoorW.PrintWords Go.Proofs.YtghnljoaklmakaaDoorW.PrintLast Go.Proofs.YtghnljoaklmakaaDoorW.PrintMore
attribute [local go_sem] Ea Eb Eh Eg Dz D5 Ec D9
open Go.Proofs.YtghnljoaklmakaaDoorG
def Ei.f (k : Nat) (a0 : ByteArray) : Option (Bool) := if (a0.size : Int) = 8 then (if 0 ≤ 7 then (if 7 ≤ (a0.size : Int) then ((Bv.f k (a0.extract 0 7)).bind fun bt137 => (if bt137.2 = true then (if 7 < (a0.size : Int) then (some ((bt a0 7) == bt137.1)) else (none)) else (some false))) else (none)) else (none)) else (some false)
theorem Ei.mono : ∀ a0 k, LeO (Ei.f k a0) (Ei.f (k + 1) a0) := by
  intro a0 k
  unfold Ei.f
  repeat' first
      | (with_reducible exact Bv.mono _ _)
      | (with_reducible exact LeO.refl _)
      | (with_reducible exact LeO.none _)
      | (with_reducible refine LeO.ite ?_ ?_)
      | (with_reducible refine LeO.bind ?_ (fun _ => ?_))
      | exact Bv.mono _ _
      | exact LeO.none _
      | refine LeO.ite ?_ ?_
      | refine LeO.bind ?_ (fun _ => ?_)
set_option maxHeartbeats 8000000 in
set_option maxRecDepth 100000 in
theorem Ei.calls (k : Nat) (a0 : ByteArray) (r : Bool) (w : World) (h : Ei.f k a0 = some r) :
    Calls Tryd.prog 41 #[.string a0] w fun e w' => e = .returned (.bool r) ∧ Cj w w' := by
  have H : (if (a0.size : Int) = 8 then (if 0 ≤ 7 then (if 7 ≤ (a0.size : Int) then ((Bv.f k (a0.extract 0 7)).bind fun bt137 => (if bt137.2 = true then (if 7 < (a0.size : Int) then (some ((bt a0 7) == bt137.1)) else (none)) else (some false))) else (none)) else (none)) else (some false)) = some r := h
  clear h
  by_cases c2 : (a0.size : Int) = 8
  · rw [if_pos c2] at H
    have c2b0 : ((a0.size : Int) == 8) = true := beq_iff_eq.mpr c2
    have c2b1 : ((a0.size : Int) != 8) = false := bne_eq_false_iff_eq.mpr c2
    clear c2
    by_cases c3 : 0 ≤ 7
    · rw [if_pos c3] at H
      have c3b0 := eq_true c3
      have c3b1 : decide (0 ≤ 7) = true := decide_eq_true c3
      clear c3
      by_cases c4 : 7 ≤ (a0.size : Int)
      · rw [if_pos c4] at H
        have c4b0 := eq_true c4
        have c4b1 : decide (7 ≤ (a0.size : Int)) = true := decide_eq_true c4
        clear c4
        replace H := Option.bind_eq_some_iff.mp H
        obtain ⟨⟨t137, t138⟩, A50, H⟩ := H
        replace H : (if t138 = true then (if 7 < (a0.size : Int) then (some ((bt a0 7) == t137)) else (none)) else (some false)) = some r := H
        have A5 := Ac.mk A50
        clear A50
        by_cases c6 : t138 = true
        · subst c6
          have H1 : (if 7 < (a0.size : Int) then (some ((bt a0 7) == t137)) else (none)) = some r := by rw [if_pos rfl] at H; exact H
          clear H
          have H := H1
          clear H1
          by_cases c7 : 7 < (a0.size : Int)
          · rw [if_pos c7] at H
            have c7b0 : decide (7 < (a0.size : Int)) = true := decide_eq_true c7
            have c7b1 : decide (7 < a0.size) = true := decide_eq_true (by omega)
            clear c7
            obtain rfl := Option.some.inj H
            go_enter Tryd.func41, Tryd.ntmps41
            go_wp2_with (first | ((with_reducible refine Aw (f := 58) rfl ?_); refine Bj (some 11) rfl rfl Tryd.func58 (by kernel_rfl) rfl #[.string (a0.extract 0 7)] rfl Yb_ ?_; (with_reducible refine (Bv.calls k (a0.extract 0 7) t137 true _ A5.out).mono ?_); rintro e w' ⟨rfl, ⟨nd, rfl⟩⟩; refine ⟨_, rfl, ?_⟩; have p8 : 0 ≤ (7 : Int) := (by omega); have q8 : 7 < a0.size := (by have : (7 : Int) < (a0.size : Int) := of_decide_eq_true Yc_; omega); have hx8 : ∀ h : 7 < a0.size, ((a0[7]'h).toNat : Int) = bt a0 7 := E8 a0 7; clear p8; have qi8 : (7 < (a0.size : Int)) = True := eq_true (of_decide_eq_true Yc_); replace q8 := eq_true q8))
            go_ret
            exact ⟨by first | rfl | (simp; done) | (simp [*]; done), by repeat (first | exact Cj.refl _ | apply Cj.step)⟩
          · rw [if_neg c7] at H
            exact absurd H (by simp)
        · replace c6 := Bool.eq_false_iff.mpr c6
          subst c6
          have H1 : (some false) = some r := by rw [if_neg (show ¬ (false = true) by decide)] at H; exact H
          clear H
          have H := H1
          clear H1
          obtain rfl := Option.some.inj H
          go_enter Tryd.func41, Tryd.ntmps41
          go_wp2_with (first | ((with_reducible refine Aw (f := 58) rfl ?_); refine Bj (some 11) rfl rfl Tryd.func58 (by kernel_rfl) rfl #[.string (a0.extract 0 7)] rfl Yb_ ?_; (with_reducible refine (Bv.calls k (a0.extract 0 7) t137 false _ A5.out).mono ?_); rintro e w' ⟨rfl, ⟨nd, rfl⟩⟩; refine ⟨_, rfl, ?_⟩))
          go_ret
          exact ⟨by first | rfl | (simp; done) | (simp [*]; done), by repeat (first | exact Cj.refl _ | apply Cj.step)⟩
      · rw [if_neg c4] at H
        exact absurd H (by simp)
    · rw [if_neg c3] at H
      exact absurd H (by simp)
  · rw [if_neg c2] at H
    have c2b0 : ((a0.size : Int) == 8) = false := beq_eq_false_iff_ne.mpr c2
    have c2b1 : ((a0.size : Int) != 8) = true := bne_iff_ne.mpr c2
    obtain rfl := Option.some.inj H
    go_enter Tryd.func41, Tryd.ntmps41
    go_wp2
    go_ret
    exact ⟨by first | rfl | (simp; done) | (simp [*]; done), by repeat (first | exact Cj.refl _ | apply Cj.step)⟩
end Go.Proofs.YtghnljoaklmakaaDoor.X

namespace Go.Proofs.YtghnljoaklmakaaDoor.X
open Go.RowKit Go.Proofs.YtghnljoaklmakaaDoorW.PrintWords Go.Proofs.YtghnljoaklmakaaDoorW.PrintLast Go.Proofs.YtghnljoaklmakaaDoorW.PrintMore
attribute [local go_sem] Ea Eb Eh Eg Dz D5 Ec D9
open Go.Proofs.YtghnljoaklmakaaDoorG
def Df.f (a0 : Int) (a1 : Int) (a2 : Int) : Option (Bool) := if a0 ≥ a1 then (some (decide (a0 ≤ a2))) else (some false)
set_option maxHeartbeats 8000000 in
set_option maxRecDepth 100000 in
theorem Df.calls (a0 : Int) (a1 : Int) (a2 : Int) (r : Bool) (w : World) (h : Df.f a0 a1 a2 = some r) :
    Calls Tryd.prog 42 #[.int .i64 a0, .int .i64 a1, .int .i64 a2] w fun e w' => e = .returned (.bool r) ∧ Cj w w' := by
  have H : (if a0 ≥ a1 then (some (decide (a0 ≤ a2))) else (some false)) = some r := h
  clear h
  by_cases c4 : a0 ≥ a1
  · rw [if_pos c4] at H
    have c4b0 : decide (a1 ≤ a0) = true := decide_eq_true c4
    clear c4
    obtain rfl := Option.some.inj H
    go_enter Tryd.func42, Tryd.ntmps42
    go_wp2
    go_ret
    exact ⟨by first | rfl | (simp; done) | (simp [*]; done), by repeat (first | exact Cj.refl _ | apply Cj.step)⟩
  · rw [if_neg c4] at H
    have c4b0 : decide (a1 ≤ a0) = false := decide_eq_false c4
    clear c4
    obtain rfl := Option.some.inj H
    go_enter Tryd.func42, Tryd.ntmps42
    go_wp2
    go_ret
    exact ⟨by first | rfl | (simp; done) | (simp [*]; done), by repeat (first | exact Cj.refl _ | apply Cj.step)⟩
end Go.Proofs.YtghnljoaklmakaaDoor.X

namespace Go.Proofs.YtghnljoaklmakaaDoor.X
open Go.RowKit Go.Proofs.YtghnljoaklmakaaDoorW.PrintWords Go.Proofs.YtghnljoaklmakaaDoorW.PrintLast Go.Proofs.YtghnljoaklmakaaDoorW.PrintMore
attribute [local go_sem] Ea Eb Eh Eg Dz D5 Ec D9
open Go.Proofs.YtghnljoaklmakaaDoorG
def D7.f (k : Nat) (a0_0 : Int) (a0_1 : ByteArray) (a0_2 : Int) (a0_3 : Int) : Option (Bool) := (Ei.f k a0_1).bind fun t140 => (if t140 = true then (if a0_0 = 1 then ((Df.f a0_2 0 5).bind fun t141 => (if t141 = true then (some (a0_3 == 0)) else (some false))) else (if a0_0 = 2 then ((Df.f a0_2 0 5).bind fun t142 => (if t142 = true then ((Df.f a0_3 0 5).bind fun t143 => (if t143 = true then (some (a0_2 != a0_3)) else (some false))) else (some false))) else (if a0_0 = 3 then ((Df.f a0_2 1 15).bind fun t144 => (if t144 = true then (some (a0_3 == 0)) else (some false))) else (if a0_0 = 4 then ((Df.f a0_2 0 11).bind fun t145 => (if t145 = true then (some (a0_3 == 0)) else (some false))) else (if a0_0 = 5 then ((Df.f a0_2 1 999999).bind fun t146 => (if t146 = true then ((Df.f a0_3 1 400).bind fun t147 => (some t147)) else (some false))) else (some false)))))) else (some false))
theorem D7.mono : ∀ a0 a1 a2 a3 k, LeO (D7.f k a0 a1 a2 a3) (D7.f (k + 1) a0 a1 a2 a3) := by
  intro a0 a1 a2 a3 k
  unfold D7.f
  repeat' first
      | (with_reducible exact Ei.mono _ _)
      | (with_reducible exact LeO.refl _)
      | (with_reducible exact LeO.none _)
      | (with_reducible refine LeO.ite ?_ ?_)
      | (with_reducible refine LeO.bind ?_ (fun _ => ?_))
      | exact Ei.mono _ _
      | exact LeO.none _
      | refine LeO.ite ?_ ?_
      | refine LeO.bind ?_ (fun _ => ?_)
set_option maxHeartbeats 8000000 in
set_option maxRecDepth 100000 in
theorem D7.calls (k : Nat) (a0_0 : Int) (a0_1 : ByteArray) (a0_2 : Int) (a0_3 : Int) (r : Bool) (w : World) (h : D7.f k a0_0 a0_1 a0_2 a0_3 = some r) :
    Calls Tryd.prog 25 #[.agg #[.int .i64 a0_0, .string a0_1, .int .i64 a0_2, .int .i64 a0_3]] w fun e w' => e = .returned (.bool r) ∧ Below w.heap.size w w' := by
  have hu27 := Tryd.underlying27
  have HB := Ac.mk (Below.refl w.heap.size w)
  have H : ((Ei.f k a0_1).bind fun t140 => (if t140 = true then (if a0_0 = 1 then ((Df.f a0_2 0 5).bind fun t141 => (if t141 = true then (some (a0_3 == 0)) else (some false))) else (if a0_0 = 2 then ((Df.f a0_2 0 5).bind fun t142 => (if t142 = true then ((Df.f a0_3 0 5).bind fun t143 => (if t143 = true then (some (a0_2 != a0_3)) else (some false))) else (some false))) else (if a0_0 = 3 then ((Df.f a0_2 1 15).bind fun t144 => (if t144 = true then (some (a0_3 == 0)) else (some false))) else (if a0_0 = 4 then ((Df.f a0_2 0 11).bind fun t145 => (if t145 = true then (some (a0_3 == 0)) else (some false))) else (if a0_0 = 5 then ((Df.f a0_2 1 999999).bind fun t146 => (if t146 = true then ((Df.f a0_3 1 400).bind fun t147 => (some t147)) else (some false))) else (some false)))))) else (some false))) = some r := h
  clear h
  replace H := Option.bind_eq_some_iff.mp H
  obtain ⟨t140, A20, H⟩ := H
  replace H : (if t140 = true then (if a0_0 = 1 then ((Df.f a0_2 0 5).bind fun t141 => (if t141 = true then (some (a0_3 == 0)) else (some false))) else (if a0_0 = 2 then ((Df.f a0_2 0 5).bind fun t142 => (if t142 = true then ((Df.f a0_3 0 5).bind fun t143 => (if t143 = true then (some (a0_2 != a0_3)) else (some false))) else (some false))) else (if a0_0 = 3 then ((Df.f a0_2 1 15).bind fun t144 => (if t144 = true then (some (a0_3 == 0)) else (some false))) else (if a0_0 = 4 then ((Df.f a0_2 0 11).bind fun t145 => (if t145 = true then (some (a0_3 == 0)) else (some false))) else (if a0_0 = 5 then ((Df.f a0_2 1 999999).bind fun t146 => (if t146 = true then ((Df.f a0_3 1 400).bind fun t147 => (some t147)) else (some false))) else (some false)))))) else (some false)) = some r := H
  have A2 := Ac.mk A20
  clear A20
  by_cases c3 : t140 = true
  · subst c3
    have H1 : (if a0_0 = 1 then ((Df.f a0_2 0 5).bind fun t141 => (if t141 = true then (some (a0_3 == 0)) else (some false))) else (if a0_0 = 2 then ((Df.f a0_2 0 5).bind fun t142 => (if t142 = true then ((Df.f a0_3 0 5).bind fun t143 => (if t143 = true then (some (a0_2 != a0_3)) else (some false))) else (some false))) else (if a0_0 = 3 then ((Df.f a0_2 1 15).bind fun t144 => (if t144 = true then (some (a0_3 == 0)) else (some false))) else (if a0_0 = 4 then ((Df.f a0_2 0 11).bind fun t145 => (if t145 = true then (some (a0_3 == 0)) else (some false))) else (if a0_0 = 5 then ((Df.f a0_2 1 999999).bind fun t146 => (if t146 = true then ((Df.f a0_3 1 400).bind fun t147 => (some t147)) else (some false))) else (some false)))))) = some r := by rw [if_pos rfl] at H; exact H
    clear H
    have H := H1
    clear H1
    by_cases c4 : a0_0 = 1
    · rw [if_pos c4] at H
      have c4b0 : (a0_0 == 1) = true := beq_iff_eq.mpr c4
      have c4b1 : (a0_0 != 1) = false := bne_eq_false_iff_eq.mpr c4
      clear c4
      replace H := Option.bind_eq_some_iff.mp H
      obtain ⟨t141, A50, H⟩ := H
      replace H : (if t141 = true then (some (a0_3 == 0)) else (some false)) = some r := H
      have A5 := Ac.mk A50
      clear A50
      by_cases c6 : t141 = true
      · subst c6
        have H1 : (some (a0_3 == 0)) = some r := by rw [if_pos rfl] at H; exact H
        clear H
        have H := H1
        clear H1
        obtain rfl := Option.some.inj H
        go_enter Tryd.func25, Tryd.ntmps25
        go_wp2_with (first | ((with_reducible refine Dh (N := 1) rfl ?_); refine Dl ?hg (N := 1) ?hd (cs := #[.int .i64 a0_0, .string a0_1, .int .i64 a0_2, .int .i64 a0_3]) (t := 27) ?hr ?_; (case hd => rfl); (case hg => rfl); (case hr => first | (go_simp; done) | (go_simp; rfl)); intro gb0 hg w7 hbox hb; have n0_ := Ac.mk (Au Ya_ hb); have n1_ := Ac.mk (hbox); have n2_ := Ac.mk ((by rw [hg]; exact (Az Ya_) : w.heap.size ≤ gb0)); have n3_ := Ac.mk ((by rw [hg]; exact (Az Ya_) : w.heap.size ≤ gb0)); clear HB; have HB := n0_; have BK0 := n1_; have GW0 := n2_; have GE0 := n3_; clear n0_ n1_ n2_ n3_; clear hb hbox hg; have hcz8_0 : w7.cell? ⟨gb0, 0, none⟩ = some (.int .i64 a0_0) := (Af BK0.out 0).trans rfl; have hcz8_1 : w7.cell? ⟨gb0, 1, none⟩ = some (.string a0_1) := (Af BK0.out 1).trans rfl; have hcz8_2 : w7.cell? ⟨gb0, 2, none⟩ = some (.int .i64 a0_2) := (Af BK0.out 2).trans rfl; have hcz8_3 : w7.cell? ⟨gb0, 3, none⟩ = some (.int .i64 a0_3) := (Af BK0.out 3).trans rfl; have hfz8_0 := Ag BK0.out 0; have hfz8_1 := Ag BK0.out 1; have hfz8_2 := Ag BK0.out 2; have hfz8_3 := Ag BK0.out 3) | ((with_reducible refine Aw (f := 41) rfl ?_); refine Bj (some 5) rfl rfl Tryd.func41 (by kernel_rfl) rfl #[.string a0_1] rfl Yb_ ?_; (with_reducible refine (Ei.calls k a0_1 true _ A2.out).mono ?_); rintro e w' ⟨rfl, ⟨nd, rfl⟩⟩; refine ⟨_, rfl, ?_⟩) | ((with_reducible refine Aw (f := 42) rfl ?_); refine Bj (some 13) rfl rfl Tryd.func42 (by kernel_rfl) rfl #[.int .i64 a0_2, .int .i64 0, .int .i64 5] rfl Yb_ ?_; (with_reducible refine (Df.calls a0_2 0 5 true _ A5.out).mono ?_); rintro e w' ⟨rfl, ⟨nd, rfl⟩⟩; refine ⟨_, rfl, ?_⟩))
        go_ret
        exact ⟨by first | rfl | (simp [Aq, Ar] <;> rfl) | (simp [*, Aq, Ar] <;> rfl), by repeat (first | (with_reducible first | exact HB.out | apply Ae | apply Aa | apply Ad | refine Am ?_ GE0.out) | exact HB.out)⟩
      · replace c6 := Bool.eq_false_iff.mpr c6
        subst c6
        have H1 : (some false) = some r := by rw [if_neg (show ¬ (false = true) by decide)] at H; exact H
        clear H
        have H := H1
        clear H1
        obtain rfl := Option.some.inj H
        go_enter Tryd.func25, Tryd.ntmps25
        go_wp2_with (first | ((with_reducible refine Dh (N := 1) rfl ?_); refine Dl ?hg (N := 1) ?hd (cs := #[.int .i64 a0_0, .string a0_1, .int .i64 a0_2, .int .i64 a0_3]) (t := 27) ?hr ?_; (case hd => rfl); (case hg => rfl); (case hr => first | (go_simp; done) | (go_simp; rfl)); intro gb0 hg w9 hbox hb; have n0_ := Ac.mk (Au Ya_ hb); have n1_ := Ac.mk (hbox); have n2_ := Ac.mk ((by rw [hg]; exact (Az Ya_) : w.heap.size ≤ gb0)); have n3_ := Ac.mk ((by rw [hg]; exact (Az Ya_) : w.heap.size ≤ gb0)); clear HB; have HB := n0_; have BK0 := n1_; have GW0 := n2_; have GE0 := n3_; clear n0_ n1_ n2_ n3_; clear hb hbox hg; have hcz10_0 : w9.cell? ⟨gb0, 0, none⟩ = some (.int .i64 a0_0) := (Af BK0.out 0).trans rfl; have hcz10_1 : w9.cell? ⟨gb0, 1, none⟩ = some (.string a0_1) := (Af BK0.out 1).trans rfl; have hcz10_2 : w9.cell? ⟨gb0, 2, none⟩ = some (.int .i64 a0_2) := (Af BK0.out 2).trans rfl; have hcz10_3 : w9.cell? ⟨gb0, 3, none⟩ = some (.int .i64 a0_3) := (Af BK0.out 3).trans rfl; have hfz10_0 := Ag BK0.out 0; have hfz10_1 := Ag BK0.out 1; have hfz10_2 := Ag BK0.out 2; have hfz10_3 := Ag BK0.out 3) | ((with_reducible refine Aw (f := 41) rfl ?_); refine Bj (some 5) rfl rfl Tryd.func41 (by kernel_rfl) rfl #[.string a0_1] rfl Yb_ ?_; (with_reducible refine (Ei.calls k a0_1 true _ A2.out).mono ?_); rintro e w' ⟨rfl, ⟨nd, rfl⟩⟩; refine ⟨_, rfl, ?_⟩) | ((with_reducible refine Aw (f := 42) rfl ?_); refine Bj (some 13) rfl rfl Tryd.func42 (by kernel_rfl) rfl #[.int .i64 a0_2, .int .i64 0, .int .i64 5] rfl Yb_ ?_; (with_reducible refine (Df.calls a0_2 0 5 false _ A5.out).mono ?_); rintro e w' ⟨rfl, ⟨nd, rfl⟩⟩; refine ⟨_, rfl, ?_⟩))
        go_ret
        exact ⟨by first | rfl | (simp [Aq, Ar] <;> rfl) | (simp [*, Aq, Ar] <;> rfl), by repeat (first | (with_reducible first | exact HB.out | apply Ae | apply Aa | apply Ad | refine Am ?_ GE0.out) | exact HB.out)⟩
    · rw [if_neg c4] at H
      have c4b0 : (a0_0 == 1) = false := beq_eq_false_iff_ne.mpr c4
      have c4b1 : (a0_0 != 1) = true := bne_iff_ne.mpr c4
      by_cases c11 : a0_0 = 2
      · rw [if_pos c11] at H
        have c11b0 : (a0_0 == 2) = true := beq_iff_eq.mpr c11
        have c11b1 : (a0_0 != 2) = false := bne_eq_false_iff_eq.mpr c11
        clear c11
        replace H := Option.bind_eq_some_iff.mp H
        obtain ⟨t142, A120, H⟩ := H
        replace H : (if t142 = true then ((Df.f a0_3 0 5).bind fun t143 => (if t143 = true then (some (a0_2 != a0_3)) else (some false))) else (some false)) = some r := H
        have A12 := Ac.mk A120
        clear A120
        by_cases c13 : t142 = true
        · subst c13
          have H1 : ((Df.f a0_3 0 5).bind fun t143 => (if t143 = true then (some (a0_2 != a0_3)) else (some false))) = some r := by rw [if_pos rfl] at H; exact H
          clear H
          have H := H1
          clear H1
          replace H := Option.bind_eq_some_iff.mp H
          obtain ⟨t143, A140, H⟩ := H
          replace H : (if t143 = true then (some (a0_2 != a0_3)) else (some false)) = some r := H
          have A14 := Ac.mk A140
          clear A140
          by_cases c15 : t143 = true
          · subst c15
            have H1 : (some (a0_2 != a0_3)) = some r := by rw [if_pos rfl] at H; exact H
            clear H
            have H := H1
            clear H1
            obtain rfl := Option.some.inj H
            go_enter Tryd.func25, Tryd.ntmps25
            go_wp2_with (first | ((with_reducible refine Dh (N := 1) rfl ?_); refine Dl ?hg (N := 1) ?hd (cs := #[.int .i64 a0_0, .string a0_1, .int .i64 a0_2, .int .i64 a0_3]) (t := 27) ?hr ?_; (case hd => rfl); (case hg => rfl); (case hr => first | (go_simp; done) | (go_simp; rfl)); intro gb0 hg w16 hbox hb; have n0_ := Ac.mk (Au Ya_ hb); have n1_ := Ac.mk (hbox); have n2_ := Ac.mk ((by rw [hg]; exact (Az Ya_) : w.heap.size ≤ gb0)); have n3_ := Ac.mk ((by rw [hg]; exact (Az Ya_) : w.heap.size ≤ gb0)); clear HB; have HB := n0_; have BK0 := n1_; have GW0 := n2_; have GE0 := n3_; clear n0_ n1_ n2_ n3_; clear hb hbox hg; have hcz17_0 : w16.cell? ⟨gb0, 0, none⟩ = some (.int .i64 a0_0) := (Af BK0.out 0).trans rfl; have hcz17_1 : w16.cell? ⟨gb0, 1, none⟩ = some (.string a0_1) := (Af BK0.out 1).trans rfl; have hcz17_2 : w16.cell? ⟨gb0, 2, none⟩ = some (.int .i64 a0_2) := (Af BK0.out 2).trans rfl; have hcz17_3 : w16.cell? ⟨gb0, 3, none⟩ = some (.int .i64 a0_3) := (Af BK0.out 3).trans rfl; have hfz17_0 := Ag BK0.out 0; have hfz17_1 := Ag BK0.out 1; have hfz17_2 := Ag BK0.out 2; have hfz17_3 := Ag BK0.out 3) | ((with_reducible refine Aw (f := 41) rfl ?_); refine Bj (some 5) rfl rfl Tryd.func41 (by kernel_rfl) rfl #[.string a0_1] rfl Yb_ ?_; (with_reducible refine (Ei.calls k a0_1 true _ A2.out).mono ?_); rintro e w' ⟨rfl, ⟨nd, rfl⟩⟩; refine ⟨_, rfl, ?_⟩) | ((with_reducible refine Aw (f := 42) rfl ?_); refine Bj (some 23) rfl rfl Tryd.func42 (by kernel_rfl) rfl #[.int .i64 a0_2, .int .i64 0, .int .i64 5] rfl Yb_ ?_; (with_reducible refine (Df.calls a0_2 0 5 true _ A12.out).mono ?_); rintro e w' ⟨rfl, ⟨nd, rfl⟩⟩; refine ⟨_, rfl, ?_⟩) | (go_at_call 42; (with_reducible refine (Df.calls a0_3 0 5 true _ A14.out).mono ?_); rintro e w' ⟨rfl, ⟨nd, rfl⟩⟩))
            go_ret
            exact ⟨by first | rfl | (simp [Aq, Ar] <;> rfl) | (simp [*, Aq, Ar] <;> rfl), by repeat (first | (with_reducible first | exact HB.out | apply Ae | apply Aa | apply Ad | refine Am ?_ GE0.out) | exact HB.out)⟩
          · replace c15 := Bool.eq_false_iff.mpr c15
            subst c15
            have H1 : (some false) = some r := by rw [if_neg (show ¬ (false = true) by decide)] at H; exact H
            clear H
            have H := H1
            clear H1
            obtain rfl := Option.some.inj H
            go_enter Tryd.func25, Tryd.ntmps25
            go_wp2_with (first | ((with_reducible refine Dh (N := 1) rfl ?_); refine Dl ?hg (N := 1) ?hd (cs := #[.int .i64 a0_0, .string a0_1, .int .i64 a0_2, .int .i64 a0_3]) (t := 27) ?hr ?_; (case hd => rfl); (case hg => rfl); (case hr => first | (go_simp; done) | (go_simp; rfl)); intro gb0 hg w18 hbox hb; have n0_ := Ac.mk (Au Ya_ hb); have n1_ := Ac.mk (hbox); have n2_ := Ac.mk ((by rw [hg]; exact (Az Ya_) : w.heap.size ≤ gb0)); have n3_ := Ac.mk ((by rw [hg]; exact (Az Ya_) : w.heap.size ≤ gb0)); clear HB; have HB := n0_; have BK0 := n1_; have GW0 := n2_; have GE0 := n3_; clear n0_ n1_ n2_ n3_; clear hb hbox hg; have hcz19_0 : w18.cell? ⟨gb0, 0, none⟩ = some (.int .i64 a0_0) := (Af BK0.out 0).trans rfl; have hcz19_1 : w18.cell? ⟨gb0, 1, none⟩ = some (.string a0_1) := (Af BK0.out 1).trans rfl; have hcz19_2 : w18.cell? ⟨gb0, 2, none⟩ = some (.int .i64 a0_2) := (Af BK0.out 2).trans rfl; have hcz19_3 : w18.cell? ⟨gb0, 3, none⟩ = some (.int .i64 a0_3) := (Af BK0.out 3).trans rfl; have hfz19_0 := Ag BK0.out 0; have hfz19_1 := Ag BK0.out 1; have hfz19_2 := Ag BK0.out 2; have hfz19_3 := Ag BK0.out 3) | ((with_reducible refine Aw (f := 41) rfl ?_); refine Bj (some 5) rfl rfl Tryd.func41 (by kernel_rfl) rfl #[.string a0_1] rfl Yb_ ?_; (with_reducible refine (Ei.calls k a0_1 true _ A2.out).mono ?_); rintro e w' ⟨rfl, ⟨nd, rfl⟩⟩; refine ⟨_, rfl, ?_⟩) | ((with_reducible refine Aw (f := 42) rfl ?_); refine Bj (some 23) rfl rfl Tryd.func42 (by kernel_rfl) rfl #[.int .i64 a0_2, .int .i64 0, .int .i64 5] rfl Yb_ ?_; (with_reducible refine (Df.calls a0_2 0 5 true _ A12.out).mono ?_); rintro e w' ⟨rfl, ⟨nd, rfl⟩⟩; refine ⟨_, rfl, ?_⟩) | (go_at_call 42; (with_reducible refine (Df.calls a0_3 0 5 false _ A14.out).mono ?_); rintro e w' ⟨rfl, ⟨nd, rfl⟩⟩))
            go_ret
            exact ⟨by first | rfl | (simp [Aq, Ar] <;> rfl) | (simp [*, Aq, Ar] <;> rfl), by repeat (first | (with_reducible first | exact HB.out | apply Ae | apply Aa | apply Ad | refine Am ?_ GE0.out) | exact HB.out)⟩
        · replace c13 := Bool.eq_false_iff.mpr c13
          subst c13
          have H1 : (some false) = some r := by rw [if_neg (show ¬ (false = true) by decide)] at H; exact H
          clear H
          have H := H1
          clear H1
          obtain rfl := Option.some.inj H
          go_enter Tryd.func25, Tryd.ntmps25
          go_wp2_with (first | ((with_reducible refine Dh (N := 1) rfl ?_); refine Dl ?hg (N := 1) ?hd (cs := #[.int .i64 a0_0, .string a0_1, .int .i64 a0_2, .int .i64 a0_3]) (t := 27) ?hr ?_; (case hd => rfl); (case hg => rfl); (case hr => first | (go_simp; done) | (go_simp; rfl)); intro gb0 hg w20 hbox hb; have n0_ := Ac.mk (Au Ya_ hb); have n1_ := Ac.mk (hbox); have n2_ := Ac.mk ((by rw [hg]; exact (Az Ya_) : w.heap.size ≤ gb0)); have n3_ := Ac.mk ((by rw [hg]; exact (Az Ya_) : w.heap.size ≤ gb0)); clear HB; have HB := n0_; have BK0 := n1_; have GW0 := n2_; have GE0 := n3_; clear n0_ n1_ n2_ n3_; clear hb hbox hg; have hcz21_0 : w20.cell? ⟨gb0, 0, none⟩ = some (.int .i64 a0_0) := (Af BK0.out 0).trans rfl; have hcz21_1 : w20.cell? ⟨gb0, 1, none⟩ = some (.string a0_1) := (Af BK0.out 1).trans rfl; have hcz21_2 : w20.cell? ⟨gb0, 2, none⟩ = some (.int .i64 a0_2) := (Af BK0.out 2).trans rfl; have hcz21_3 : w20.cell? ⟨gb0, 3, none⟩ = some (.int .i64 a0_3) := (Af BK0.out 3).trans rfl; have hfz21_0 := Ag BK0.out 0; have hfz21_1 := Ag BK0.out 1; have hfz21_2 := Ag BK0.out 2; have hfz21_3 := Ag BK0.out 3) | ((with_reducible refine Aw (f := 41) rfl ?_); refine Bj (some 5) rfl rfl Tryd.func41 (by kernel_rfl) rfl #[.string a0_1] rfl Yb_ ?_; (with_reducible refine (Ei.calls k a0_1 true _ A2.out).mono ?_); rintro e w' ⟨rfl, ⟨nd, rfl⟩⟩; refine ⟨_, rfl, ?_⟩) | ((with_reducible refine Aw (f := 42) rfl ?_); refine Bj (some 23) rfl rfl Tryd.func42 (by kernel_rfl) rfl #[.int .i64 a0_2, .int .i64 0, .int .i64 5] rfl Yb_ ?_; (with_reducible refine (Df.calls a0_2 0 5 false _ A12.out).mono ?_); rintro e w' ⟨rfl, ⟨nd, rfl⟩⟩; refine ⟨_, rfl, ?_⟩))
          go_ret
          exact ⟨by first | rfl | (simp [Aq, Ar] <;> rfl) | (simp [*, Aq, Ar] <;> rfl), by repeat (first | (with_reducible first | exact HB.out | apply Ae | apply Aa | apply Ad | refine Am ?_ GE0.out) | exact HB.out)⟩
      · rw [if_neg c11] at H
        have c11b0 : (a0_0 == 2) = false := beq_eq_false_iff_ne.mpr c11
        have c11b1 : (a0_0 != 2) = true := bne_iff_ne.mpr c11
        by_cases c22 : a0_0 = 3
        · rw [if_pos c22] at H
          have c22b0 : (a0_0 == 3) = true := beq_iff_eq.mpr c22
          have c22b1 : (a0_0 != 3) = false := bne_eq_false_iff_eq.mpr c22
          clear c22
          replace H := Option.bind_eq_some_iff.mp H
          obtain ⟨t144, A230, H⟩ := H
          replace H : (if t144 = true then (some (a0_3 == 0)) else (some false)) = some r := H
          have A23 := Ac.mk A230
          clear A230
          by_cases c24 : t144 = true
          · subst c24
            have H1 : (some (a0_3 == 0)) = some r := by rw [if_pos rfl] at H; exact H
            clear H
            have H := H1
            clear H1
            obtain rfl := Option.some.inj H
            go_enter Tryd.func25, Tryd.ntmps25
            go_wp2_with (first | ((with_reducible refine Dh (N := 1) rfl ?_); refine Dl ?hg (N := 1) ?hd (cs := #[.int .i64 a0_0, .string a0_1, .int .i64 a0_2, .int .i64 a0_3]) (t := 27) ?hr ?_; (case hd => rfl); (case hg => rfl); (case hr => first | (go_simp; done) | (go_simp; rfl)); intro gb0 hg w25 hbox hb; have n0_ := Ac.mk (Au Ya_ hb); have n1_ := Ac.mk (hbox); have n2_ := Ac.mk ((by rw [hg]; exact (Az Ya_) : w.heap.size ≤ gb0)); have n3_ := Ac.mk ((by rw [hg]; exact (Az Ya_) : w.heap.size ≤ gb0)); clear HB; have HB := n0_; have BK0 := n1_; have GW0 := n2_; have GE0 := n3_; clear n0_ n1_ n2_ n3_; clear hb hbox hg; have hcz26_0 : w25.cell? ⟨gb0, 0, none⟩ = some (.int .i64 a0_0) := (Af BK0.out 0).trans rfl; have hcz26_1 : w25.cell? ⟨gb0, 1, none⟩ = some (.string a0_1) := (Af BK0.out 1).trans rfl; have hcz26_2 : w25.cell? ⟨gb0, 2, none⟩ = some (.int .i64 a0_2) := (Af BK0.out 2).trans rfl; have hcz26_3 : w25.cell? ⟨gb0, 3, none⟩ = some (.int .i64 a0_3) := (Af BK0.out 3).trans rfl; have hfz26_0 := Ag BK0.out 0; have hfz26_1 := Ag BK0.out 1; have hfz26_2 := Ag BK0.out 2; have hfz26_3 := Ag BK0.out 3) | ((with_reducible refine Aw (f := 41) rfl ?_); refine Bj (some 5) rfl rfl Tryd.func41 (by kernel_rfl) rfl #[.string a0_1] rfl Yb_ ?_; (with_reducible refine (Ei.calls k a0_1 true _ A2.out).mono ?_); rintro e w' ⟨rfl, ⟨nd, rfl⟩⟩; refine ⟨_, rfl, ?_⟩) | ((with_reducible refine Aw (f := 42) rfl ?_); refine Bj (some 40) rfl rfl Tryd.func42 (by kernel_rfl) rfl #[.int .i64 a0_2, .int .i64 1, .int .i64 15] rfl Yb_ ?_; (with_reducible refine (Df.calls a0_2 1 15 true _ A23.out).mono ?_); rintro e w' ⟨rfl, ⟨nd, rfl⟩⟩; refine ⟨_, rfl, ?_⟩))
            go_ret
            exact ⟨by first | rfl | (simp [Aq, Ar] <;> rfl) | (simp [*, Aq, Ar] <;> rfl), by repeat (first | (with_reducible first | exact HB.out | apply Ae | apply Aa | apply Ad | refine Am ?_ GE0.out) | exact HB.out)⟩
          · replace c24 := Bool.eq_false_iff.mpr c24
            subst c24
            have H1 : (some false) = some r := by rw [if_neg (show ¬ (false = true) by decide)] at H; exact H
            clear H
            have H := H1
            clear H1
            obtain rfl := Option.some.inj H
            go_enter Tryd.func25, Tryd.ntmps25
            go_wp2_with (first | ((with_reducible refine Dh (N := 1) rfl ?_); refine Dl ?hg (N := 1) ?hd (cs := #[.int .i64 a0_0, .string a0_1, .int .i64 a0_2, .int .i64 a0_3]) (t := 27) ?hr ?_; (case hd => rfl); (case hg => rfl); (case hr => first | (go_simp; done) | (go_simp; rfl)); intro gb0 hg w27 hbox hb; have n0_ := Ac.mk (Au Ya_ hb); have n1_ := Ac.mk (hbox); have n2_ := Ac.mk ((by rw [hg]; exact (Az Ya_) : w.heap.size ≤ gb0)); have n3_ := Ac.mk ((by rw [hg]; exact (Az Ya_) : w.heap.size ≤ gb0)); clear HB; have HB := n0_; have BK0 := n1_; have GW0 := n2_; have GE0 := n3_; clear n0_ n1_ n2_ n3_; clear hb hbox hg; have hcz28_0 : w27.cell? ⟨gb0, 0, none⟩ = some (.int .i64 a0_0) := (Af BK0.out 0).trans rfl; have hcz28_1 : w27.cell? ⟨gb0, 1, none⟩ = some (.string a0_1) := (Af BK0.out 1).trans rfl; have hcz28_2 : w27.cell? ⟨gb0, 2, none⟩ = some (.int .i64 a0_2) := (Af BK0.out 2).trans rfl; have hcz28_3 : w27.cell? ⟨gb0, 3, none⟩ = some (.int .i64 a0_3) := (Af BK0.out 3).trans rfl; have hfz28_0 := Ag BK0.out 0; have hfz28_1 := Ag BK0.out 1; have hfz28_2 := Ag BK0.out 2; have hfz28_3 := Ag BK0.out 3) | ((with_reducible refine Aw (f := 41) rfl ?_); refine Bj (some 5) rfl rfl Tryd.func41 (by kernel_rfl) rfl #[.string a0_1] rfl Yb_ ?_; (with_reducible refine (Ei.calls k a0_1 true _ A2.out).mono ?_); rintro e w' ⟨rfl, ⟨nd, rfl⟩⟩; refine ⟨_, rfl, ?_⟩) | ((with_reducible refine Aw (f := 42) rfl ?_); refine Bj (some 40) rfl rfl Tryd.func42 (by kernel_rfl) rfl #[.int .i64 a0_2, .int .i64 1, .int .i64 15] rfl Yb_ ?_; (with_reducible refine (Df.calls a0_2 1 15 false _ A23.out).mono ?_); rintro e w' ⟨rfl, ⟨nd, rfl⟩⟩; refine ⟨_, rfl, ?_⟩))
            go_ret
            exact ⟨by first | rfl | (simp [Aq, Ar] <;> rfl) | (simp [*, Aq, Ar] <;> rfl), by repeat (first | (with_reducible first | exact HB.out | apply Ae | apply Aa | apply Ad | refine Am ?_ GE0.out) | exact HB.out)⟩
        · rw [if_neg c22] at H
          have c22b0 : (a0_0 == 3) = false := beq_eq_false_iff_ne.mpr c22
          have c22b1 : (a0_0 != 3) = true := bne_iff_ne.mpr c22
          by_cases c29 : a0_0 = 4
          · rw [if_pos c29] at H
            have c29b0 : (a0_0 == 4) = true := beq_iff_eq.mpr c29
            have c29b1 : (a0_0 != 4) = false := bne_eq_false_iff_eq.mpr c29
            clear c29
            replace H := Option.bind_eq_some_iff.mp H
            obtain ⟨t145, A300, H⟩ := H
            replace H : (if t145 = true then (some (a0_3 == 0)) else (some false)) = some r := H
            have A30 := Ac.mk A300
            clear A300
            by_cases c31 : t145 = true
            · subst c31
              have H1 : (some (a0_3 == 0)) = some r := by rw [if_pos rfl] at H; exact H
              clear H
              have H := H1
              clear H1
              obtain rfl := Option.some.inj H
              go_enter Tryd.func25, Tryd.ntmps25
              go_wp2_with (first | ((with_reducible refine Dh (N := 1) rfl ?_); refine Dl ?hg (N := 1) ?hd (cs := #[.int .i64 a0_0, .string a0_1, .int .i64 a0_2, .int .i64 a0_3]) (t := 27) ?hr ?_; (case hd => rfl); (case hg => rfl); (case hr => first | (go_simp; done) | (go_simp; rfl)); intro gb0 hg w32 hbox hb; have n0_ := Ac.mk (Au Ya_ hb); have n1_ := Ac.mk (hbox); have n2_ := Ac.mk ((by rw [hg]; exact (Az Ya_) : w.heap.size ≤ gb0)); have n3_ := Ac.mk ((by rw [hg]; exact (Az Ya_) : w.heap.size ≤ gb0)); clear HB; have HB := n0_; have BK0 := n1_; have GW0 := n2_; have GE0 := n3_; clear n0_ n1_ n2_ n3_; clear hb hbox hg; have hcz33_0 : w32.cell? ⟨gb0, 0, none⟩ = some (.int .i64 a0_0) := (Af BK0.out 0).trans rfl; have hcz33_1 : w32.cell? ⟨gb0, 1, none⟩ = some (.string a0_1) := (Af BK0.out 1).trans rfl; have hcz33_2 : w32.cell? ⟨gb0, 2, none⟩ = some (.int .i64 a0_2) := (Af BK0.out 2).trans rfl; have hcz33_3 : w32.cell? ⟨gb0, 3, none⟩ = some (.int .i64 a0_3) := (Af BK0.out 3).trans rfl; have hfz33_0 := Ag BK0.out 0; have hfz33_1 := Ag BK0.out 1; have hfz33_2 := Ag BK0.out 2; have hfz33_3 := Ag BK0.out 3) | ((with_reducible refine Aw (f := 41) rfl ?_); refine Bj (some 5) rfl rfl Tryd.func41 (by kernel_rfl) rfl #[.string a0_1] rfl Yb_ ?_; (with_reducible refine (Ei.calls k a0_1 true _ A2.out).mono ?_); rintro e w' ⟨rfl, ⟨nd, rfl⟩⟩; refine ⟨_, rfl, ?_⟩) | ((with_reducible refine Aw (f := 42) rfl ?_); refine Bj (some 50) rfl rfl Tryd.func42 (by kernel_rfl) rfl #[.int .i64 a0_2, .int .i64 0, .int .i64 11] rfl Yb_ ?_; (with_reducible refine (Df.calls a0_2 0 11 true _ A30.out).mono ?_); rintro e w' ⟨rfl, ⟨nd, rfl⟩⟩; refine ⟨_, rfl, ?_⟩))
              go_ret
              exact ⟨by first | rfl | (simp [Aq, Ar] <;> rfl) | (simp [*, Aq, Ar] <;> rfl), by repeat (first | (with_reducible first | exact HB.out | apply Ae | apply Aa | apply Ad | refine Am ?_ GE0.out) | exact HB.out)⟩
            · replace c31 := Bool.eq_false_iff.mpr c31
              subst c31
              have H1 : (some false) = some r := by rw [if_neg (show ¬ (false = true) by decide)] at H; exact H
              clear H
              have H := H1
              clear H1
              obtain rfl := Option.some.inj H
              go_enter Tryd.func25, Tryd.ntmps25
              go_wp2_with (first | ((with_reducible refine Dh (N := 1) rfl ?_); refine Dl ?hg (N := 1) ?hd (cs := #[.int .i64 a0_0, .string a0_1, .int .i64 a0_2, .int .i64 a0_3]) (t := 27) ?hr ?_; (case hd => rfl); (case hg => rfl); (case hr => first | (go_simp; done) | (go_simp; rfl)); intro gb0 hg w34 hbox hb; have n0_ := Ac.mk (Au Ya_ hb); have n1_ := Ac.mk (hbox); have n2_ := Ac.mk ((by rw [hg]; exact (Az Ya_) : w.heap.size ≤ gb0)); have n3_ := Ac.mk ((by rw [hg]; exact (Az Ya_) : w.heap.size ≤ gb0)); clear HB; have HB := n0_; have BK0 := n1_; have GW0 := n2_; have GE0 := n3_; clear n0_ n1_ n2_ n3_; clear hb hbox hg; have hcz35_0 : w34.cell? ⟨gb0, 0, none⟩ = some (.int .i64 a0_0) := (Af BK0.out 0).trans rfl; have hcz35_1 : w34.cell? ⟨gb0, 1, none⟩ = some (.string a0_1) := (Af BK0.out 1).trans rfl; have hcz35_2 : w34.cell? ⟨gb0, 2, none⟩ = some (.int .i64 a0_2) := (Af BK0.out 2).trans rfl; have hcz35_3 : w34.cell? ⟨gb0, 3, none⟩ = some (.int .i64 a0_3) := (Af BK0.out 3).trans rfl; have hfz35_0 := Ag BK0.out 0; have hfz35_1 := Ag BK0.out 1; have hfz35_2 := Ag BK0.out 2; have hfz35_3 := Ag BK0.out 3) | ((with_reducible refine Aw (f := 41) rfl ?_); refine Bj (some 5) rfl rfl Tryd.func41 (by kernel_rfl) rfl #[.string a0_1] rfl Yb_ ?_; (with_reducible refine (Ei.calls k a0_1 true _ A2.out).mono ?_); rintro e w' ⟨rfl, ⟨nd, rfl⟩⟩; refine ⟨_, rfl, ?_⟩) | ((with_reducible refine Aw (f := 42) rfl ?_); refine Bj (some 50) rfl rfl Tryd.func42 (by kernel_rfl) rfl #[.int .i64 a0_2, .int .i64 0, .int .i64 11] rfl Yb_ ?_; (with_reducible refine (Df.calls a0_2 0 11 false _ A30.out).mono ?_); rintro e w' ⟨rfl, ⟨nd, rfl⟩⟩; refine ⟨_, rfl, ?_⟩))
              go_ret
              exact ⟨by first | rfl | (simp [Aq, Ar] <;> rfl) | (simp [*, Aq, Ar] <;> rfl), by repeat (first | (with_reducible first | exact HB.out | apply Ae | apply Aa | apply Ad | refine Am ?_ GE0.out) | exact HB.out)⟩
          · rw [if_neg c29] at H
            have c29b0 : (a0_0 == 4) = false := beq_eq_false_iff_ne.mpr c29
            have c29b1 : (a0_0 != 4) = true := bne_iff_ne.mpr c29
            by_cases c36 : a0_0 = 5
            · rw [if_pos c36] at H
              have c36b0 : (a0_0 == 5) = true := beq_iff_eq.mpr c36
              have c36b1 : (a0_0 != 5) = false := bne_eq_false_iff_eq.mpr c36
              clear c36
              replace H := Option.bind_eq_some_iff.mp H
              obtain ⟨t146, A370, H⟩ := H
              replace H : (if t146 = true then ((Df.f a0_3 1 400).bind fun t147 => (some t147)) else (some false)) = some r := H
              have A37 := Ac.mk A370
              clear A370
              by_cases c38 : t146 = true
              · subst c38
                have H1 : ((Df.f a0_3 1 400).bind fun t147 => (some t147)) = some r := by rw [if_pos rfl] at H; exact H
                clear H
                have H := H1
                clear H1
                replace H := Option.bind_eq_some_iff.mp H
                obtain ⟨t147, A390, H⟩ := H
                replace H : (some t147) = some r := H
                have A39 := Ac.mk A390
                clear A390
                obtain rfl := Option.some.inj H
                go_enter Tryd.func25, Tryd.ntmps25
                go_wp2_with (first | ((with_reducible refine Dh (N := 1) rfl ?_); refine Dl ?hg (N := 1) ?hd (cs := #[.int .i64 a0_0, .string a0_1, .int .i64 a0_2, .int .i64 a0_3]) (t := 27) ?hr ?_; (case hd => rfl); (case hg => rfl); (case hr => first | (go_simp; done) | (go_simp; rfl)); intro gb0 hg w40 hbox hb; have n0_ := Ac.mk (Au Ya_ hb); have n1_ := Ac.mk (hbox); have n2_ := Ac.mk ((by rw [hg]; exact (Az Ya_) : w.heap.size ≤ gb0)); have n3_ := Ac.mk ((by rw [hg]; exact (Az Ya_) : w.heap.size ≤ gb0)); clear HB; have HB := n0_; have BK0 := n1_; have GW0 := n2_; have GE0 := n3_; clear n0_ n1_ n2_ n3_; clear hb hbox hg; have hcz41_0 : w40.cell? ⟨gb0, 0, none⟩ = some (.int .i64 a0_0) := (Af BK0.out 0).trans rfl; have hcz41_1 : w40.cell? ⟨gb0, 1, none⟩ = some (.string a0_1) := (Af BK0.out 1).trans rfl; have hcz41_2 : w40.cell? ⟨gb0, 2, none⟩ = some (.int .i64 a0_2) := (Af BK0.out 2).trans rfl; have hcz41_3 : w40.cell? ⟨gb0, 3, none⟩ = some (.int .i64 a0_3) := (Af BK0.out 3).trans rfl; have hfz41_0 := Ag BK0.out 0; have hfz41_1 := Ag BK0.out 1; have hfz41_2 := Ag BK0.out 2; have hfz41_3 := Ag BK0.out 3) | ((with_reducible refine Aw (f := 41) rfl ?_); refine Bj (some 5) rfl rfl Tryd.func41 (by kernel_rfl) rfl #[.string a0_1] rfl Yb_ ?_; (with_reducible refine (Ei.calls k a0_1 true _ A2.out).mono ?_); rintro e w' ⟨rfl, ⟨nd, rfl⟩⟩; refine ⟨_, rfl, ?_⟩) | ((with_reducible refine Aw (f := 42) rfl ?_); refine Bj (some 60) rfl rfl Tryd.func42 (by kernel_rfl) rfl #[.int .i64 a0_2, .int .i64 1, .int .i64 999999] rfl Yb_ ?_; (with_reducible refine (Df.calls a0_2 1 999999 true _ A37.out).mono ?_); rintro e w' ⟨rfl, ⟨nd, rfl⟩⟩; refine ⟨_, rfl, ?_⟩) | (go_at_call 42; (with_reducible refine (Df.calls a0_3 1 400 t147 _ A39.out).mono ?_); rintro e w' ⟨rfl, ⟨nd, rfl⟩⟩))
                go_ret
                exact ⟨by first | rfl | (simp [Aq, Ar] <;> rfl) | (simp [*, Aq, Ar] <;> rfl), by repeat (first | (with_reducible first | exact HB.out | apply Ae | apply Aa | apply Ad | refine Am ?_ GE0.out) | exact HB.out)⟩
              · replace c38 := Bool.eq_false_iff.mpr c38
                subst c38
                have H1 : (some false) = some r := by rw [if_neg (show ¬ (false = true) by decide)] at H; exact H
                clear H
                have H := H1
                clear H1
                obtain rfl := Option.some.inj H
                go_enter Tryd.func25, Tryd.ntmps25
                go_wp2_with (first | ((with_reducible refine Dh (N := 1) rfl ?_); refine Dl ?hg (N := 1) ?hd (cs := #[.int .i64 a0_0, .string a0_1, .int .i64 a0_2, .int .i64 a0_3]) (t := 27) ?hr ?_; (case hd => rfl); (case hg => rfl); (case hr => first | (go_simp; done) | (go_simp; rfl)); intro gb0 hg w42 hbox hb; have n0_ := Ac.mk (Au Ya_ hb); have n1_ := Ac.mk (hbox); have n2_ := Ac.mk ((by rw [hg]; exact (Az Ya_) : w.heap.size ≤ gb0)); have n3_ := Ac.mk ((by rw [hg]; exact (Az Ya_) : w.heap.size ≤ gb0)); clear HB; have HB := n0_; have BK0 := n1_; have GW0 := n2_; have GE0 := n3_; clear n0_ n1_ n2_ n3_; clear hb hbox hg; have hcz43_0 : w42.cell? ⟨gb0, 0, none⟩ = some (.int .i64 a0_0) := (Af BK0.out 0).trans rfl; have hcz43_1 : w42.cell? ⟨gb0, 1, none⟩ = some (.string a0_1) := (Af BK0.out 1).trans rfl; have hcz43_2 : w42.cell? ⟨gb0, 2, none⟩ = some (.int .i64 a0_2) := (Af BK0.out 2).trans rfl; have hcz43_3 : w42.cell? ⟨gb0, 3, none⟩ = some (.int .i64 a0_3) := (Af BK0.out 3).trans rfl; have hfz43_0 := Ag BK0.out 0; have hfz43_1 := Ag BK0.out 1; have hfz43_2 := Ag BK0.out 2; have hfz43_3 := Ag BK0.out 3) | ((with_reducible refine Aw (f := 41) rfl ?_); refine Bj (some 5) rfl rfl Tryd.func41 (by kernel_rfl) rfl #[.string a0_1] rfl Yb_ ?_; (with_reducible refine (Ei.calls k a0_1 true _ A2.out).mono ?_); rintro e w' ⟨rfl, ⟨nd, rfl⟩⟩; refine ⟨_, rfl, ?_⟩) | ((with_reducible refine Aw (f := 42) rfl ?_); refine Bj (some 60) rfl rfl Tryd.func42 (by kernel_rfl) rfl #[.int .i64 a0_2, .int .i64 1, .int .i64 999999] rfl Yb_ ?_; (with_reducible refine (Df.calls a0_2 1 999999 false _ A37.out).mono ?_); rintro e w' ⟨rfl, ⟨nd, rfl⟩⟩; refine ⟨_, rfl, ?_⟩))
                go_ret
                exact ⟨by first | rfl | (simp [Aq, Ar] <;> rfl) | (simp [*, Aq, Ar] <;> rfl), by repeat (first | (with_reducible first | exact HB.out | apply Ae | apply Aa | apply Ad | refine Am ?_ GE0.out) | exact HB.out)⟩
            · rw [if_neg c36] at H
              have c36b0 : (a0_0 == 5) = false := beq_eq_false_iff_ne.mpr c36
              have c36b1 : (a0_0 != 5) = true := bne_iff_ne.mpr c36
              obtain rfl := Option.some.inj H
              go_enter Tryd.func25, Tryd.ntmps25
              go_wp2_with (first | ((with_reducible refine Dh (N := 1) rfl ?_); refine Dl ?hg (N := 1) ?hd (cs := #[.int .i64 a0_0, .string a0_1, .int .i64 a0_2, .int .i64 a0_3]) (t := 27) ?hr ?_; (case hd => rfl); (case hg => rfl); (case hr => first | (go_simp; done) | (go_simp; rfl)); intro gb0 hg w44 hbox hb; have n0_ := Ac.mk (Au Ya_ hb); have n1_ := Ac.mk (hbox); have n2_ := Ac.mk ((by rw [hg]; exact (Az Ya_) : w.heap.size ≤ gb0)); have n3_ := Ac.mk ((by rw [hg]; exact (Az Ya_) : w.heap.size ≤ gb0)); clear HB; have HB := n0_; have BK0 := n1_; have GW0 := n2_; have GE0 := n3_; clear n0_ n1_ n2_ n3_; clear hb hbox hg; have hcz45_0 : w44.cell? ⟨gb0, 0, none⟩ = some (.int .i64 a0_0) := (Af BK0.out 0).trans rfl; have hcz45_1 : w44.cell? ⟨gb0, 1, none⟩ = some (.string a0_1) := (Af BK0.out 1).trans rfl; have hcz45_2 : w44.cell? ⟨gb0, 2, none⟩ = some (.int .i64 a0_2) := (Af BK0.out 2).trans rfl; have hcz45_3 : w44.cell? ⟨gb0, 3, none⟩ = some (.int .i64 a0_3) := (Af BK0.out 3).trans rfl; have hfz45_0 := Ag BK0.out 0; have hfz45_1 := Ag BK0.out 1; have hfz45_2 := Ag BK0.out 2; have hfz45_3 := Ag BK0.out 3) | ((with_reducible refine Aw (f := 41) rfl ?_); refine Bj (some 5) rfl rfl Tryd.func41 (by kernel_rfl) rfl #[.string a0_1] rfl Yb_ ?_; (with_reducible refine (Ei.calls k a0_1 true _ A2.out).mono ?_); rintro e w' ⟨rfl, ⟨nd, rfl⟩⟩; refine ⟨_, rfl, ?_⟩))
              go_ret
              exact ⟨by first | rfl | (simp [Aq, Ar] <;> rfl) | (simp [*, Aq, Ar] <;> rfl), by repeat (first | (with_reducible first | exact HB.out | apply Ae | apply Aa | apply Ad | refine Am ?_ GE0.out) | exact HB.out)⟩
  · replace c3 := Bool.eq_false_iff.mpr c3
    subst c3
    have H1 : (some false) = some r := by rw [if_neg (show ¬ (false = true) by decide)] at H; exact H
    clear H
    have H := H1
    clear H1
    obtain rfl := Option.some.inj H
    go_enter Tryd.func25, Tryd.ntmps25
    go_wp2_with (first | ((with_reducible refine Dh (N := 1) rfl ?_); refine Dl ?hg (N := 1) ?hd (cs := #[.int .i64 a0_0, .string a0_1, .int .i64 a0_2, .int .i64 a0_3]) (t := 27) ?hr ?_; (case hd => rfl); (case hg => rfl); (case hr => first | (go_simp; done) | (go_simp; rfl)); intro gb0 hg w46 hbox hb; have n0_ := Ac.mk (Au Ya_ hb); have n1_ := Ac.mk (hbox); have n2_ := Ac.mk ((by rw [hg]; exact (Az Ya_) : w.heap.size ≤ gb0)); have n3_ := Ac.mk ((by rw [hg]; exact (Az Ya_) : w.heap.size ≤ gb0)); clear HB; have HB := n0_; have BK0 := n1_; have GW0 := n2_; have GE0 := n3_; clear n0_ n1_ n2_ n3_; clear hb hbox hg; have hcz47_0 : w46.cell? ⟨gb0, 0, none⟩ = some (.int .i64 a0_0) := (Af BK0.out 0).trans rfl; have hcz47_1 : w46.cell? ⟨gb0, 1, none⟩ = some (.string a0_1) := (Af BK0.out 1).trans rfl; have hcz47_2 : w46.cell? ⟨gb0, 2, none⟩ = some (.int .i64 a0_2) := (Af BK0.out 2).trans rfl; have hcz47_3 : w46.cell? ⟨gb0, 3, none⟩ = some (.int .i64 a0_3) := (Af BK0.out 3).trans rfl; have hfz47_0 := Ag BK0.out 0; have hfz47_1 := Ag BK0.out 1; have hfz47_2 := Ag BK0.out 2; have hfz47_3 := Ag BK0.out 3) | ((with_reducible refine Aw (f := 41) rfl ?_); refine Bj (some 5) rfl rfl Tryd.func41 (by kernel_rfl) rfl #[.string a0_1] rfl Yb_ ?_; (with_reducible refine (Ei.calls k a0_1 false _ A2.out).mono ?_); rintro e w' ⟨rfl, ⟨nd, rfl⟩⟩; refine ⟨_, rfl, ?_⟩))
    go_ret
    exact ⟨by first | rfl | (simp [Aq, Ar] <;> rfl) | (simp [*, Aq, Ar] <;> rfl), by repeat (first | (with_reducible first | exact HB.out | apply Ae | apply Aa | apply Ad | refine Am ?_ GE0.out) | exact HB.out)⟩
end Go.Proofs.YtghnljoaklmakaaDoor.X

