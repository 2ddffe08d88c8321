/- Texts that the proof of the law FnLog leans on, part 4 of 6. -/
import Derived.Test.YtkpieljmhgfofaaDoorKFnLog1
import Derived.Test.YtkpieljmhgfofaaDoorKFnLog2
set_option linter.unusedVariables false
set_option linter.unusedSimpArgs false
namespace Go.Proofs.YtkpieljmhgfofaaDoor.X
open Go.RowKit Go.Proofs.YtkpieljmhgfofaaDoorW.PrintWords Go.Proofs.YtkpieljmhgfofaaDoorW.PrintLast Go.Proofs.YtkpieljmhgfofaaDoorW.PrintMore
attribute [local go_sem] max2_int min2_int max_two min_two max_three min_three max_four min_four
open Go.Proofs.YtkpieljmhgfofaaDoorG
def spec_l1Cur_pick.f (s0_0 : List Int) (s0_1 : Int) (s0_2 : Int) (a1 : Int) : Option (Int × Int × Int) := if a1 ≤ 1 then (some (0, s0_1, s0_2)) else ((Ff.f s0_0 s0_1 s0_2).bind fun bt427 => (if a1 > 200 then ((Ff.f s0_0 bt427.2.1 bt427.2.2).bind fun bt430 => (if a1 = 0 then (none) else (some (Int.tmod (wrap64 ((wrap64 (bt427.1 * 256)) + bt430.1)) a1, bt430.2.1, bt430.2.2)))) else (if a1 = 0 then (none) else (some (Int.tmod bt427.1 a1, bt427.2.1, bt427.2.2)))))
set_option maxHeartbeats 8000000 in
set_option maxRecDepth 100000 in
theorem spec_l1Cur_pick.calls (g : Nat) (s0_0 : List Int) (s0_1 : Int) (s0_2 : Int) (a1 : Int) (r1 : Int) (r2 : Int) (r3 : Int) (w0 w : World) (hI : IsS74 w0 w g s0_0 s0_1 s0_2) (hB : Below w0.heap.size w0 w) (h : spec_l1Cur_pick.f s0_0 s0_1 s0_2 a1 = some (r1, r2, r3)) :
    Calls Tryd.prog 55 #[.pointer (some ⟨g, 0, none⟩), .int .i64 a1] w fun e w' => e = .returned (.int .i64 r1) ∧ IsS74 w0 w' g s0_0 r2 r3 ∧ Below w0.heap.size w0 w' ∧ KeepBut w w' g none := by
  have HI0 := Aside0.mk hI
  have HK := Aside0.mk (KeepBut.refl w g none)
  have HL := Aside0.mk hB.size
  clear hI
  have HW0 := Aside0.mk hB.size
  have HB := Aside0.mk hB
  clear hB
  have H : (if a1 ≤ 1 then (some (0, s0_1, s0_2)) else ((Ff.f s0_0 s0_1 s0_2).bind fun bt427 => (if a1 > 200 then ((Ff.f s0_0 bt427.2.1 bt427.2.2).bind fun bt430 => (if a1 = 0 then (none) else (some (Int.tmod (wrap64 ((wrap64 (bt427.1 * 256)) + bt430.1)) a1, bt430.2.1, bt430.2.2)))) else (if a1 = 0 then (none) else (some (Int.tmod bt427.1 a1, bt427.2.1, bt427.2.2)))))) = some (r1, r2, r3) := h
  clear h
  by_cases c3 : a1 ≤ 1
  · rw [if_pos c3] at H
    have c3b0 : decide (a1 ≤ 1) = true := decide_eq_true c3
    clear c3
    simp only [Option.some.injEq, Prod.mk.injEq] at H
    obtain ⟨rfl, rfl, rfl⟩ := H
    go_enter Tryd.func55, Tryd.ntmps55
    go_wp2
    go_ret
    exact ⟨by first | rfl | (simp [Ak, Aj] <;> rfl) | (simp [*, Ak, Aj] <;> rfl), by repeat (first | (with_reducible first | exact HI0.out | apply IsS74.alloc | apply IsS74.drewN | apply IsS74.drew | apply IsS74.set_1 | apply IsS74.set_2) | exact HI0.out), by repeat (first | (with_reducible first | exact HB.out | apply below_alloc | apply pw_below_drewN | apply below_drew1 | refine below_set ?_ (IsS74.ge HI0.out)) | exact HB.out), by repeat (first | (with_reducible first | exact HK.out | apply KeepBut.set_ | apply keep_drewN | apply keep_drew | apply keep_alloc) | exact HK.out)⟩
  · rw [if_neg c3] at H
    have c3b0 : decide (a1 ≤ 1) = false := decide_eq_false c3
    clear c3
    replace H := Option.bind_eq_some_iff.mp H
    obtain ⟨⟨t427, t428, t429⟩, A40, H⟩ := H
    replace H : (if a1 > 200 then ((Ff.f s0_0 t428 t429).bind fun bt430 => (if a1 = 0 then (none) else (some (Int.tmod (wrap64 ((wrap64 (t427 * 256)) + bt430.1)) a1, bt430.2.1, bt430.2.2)))) else (if a1 = 0 then (none) else (some (Int.tmod t427 a1, t428, t429)))) = some (r1, r2, r3) := H
    have A4 := Aside0.mk A40
    clear A40
    by_cases c5 : a1 > 200
    · rw [if_pos c5] at H
      have c5b0 : decide (200 < a1) = true := decide_eq_true c5
      clear c5
      replace H := Option.bind_eq_some_iff.mp H
      obtain ⟨⟨t430, t431, t432⟩, A60, H⟩ := H
      replace H : (if a1 = 0 then (none) else (some (Int.tmod (wrap64 ((wrap64 (t427 * 256)) + t430)) a1, t431, t432))) = some (r1, r2, r3) := H
      have A6 := Aside0.mk A60
      clear A60
      by_cases c7 : a1 = 0
      · rw [if_pos c7] at H
        exact absurd H (by simp)
      · rw [if_neg c7] at H
        have c7b0 : (a1 == 0) = false := beq_eq_false_iff_ne.mpr c7
        have c7b1 : (a1 != 0) = true := bne_iff_ne.mpr c7
        simp only [Option.some.injEq, Prod.mk.injEq] at H
        obtain ⟨rfl, rfl, rfl⟩ := H
        go_enter Tryd.func55, Tryd.ntmps55
        go_wp2_with (first | ((with_reducible refine Am (f := 71) rfl ?_); refine Be (some 9) rfl rfl Tryd.func71 (by kernel_rfl) rfl #[.pointer (some ⟨g, 0, none⟩)] rfl Yc_ ?_; (with_reducible refine (Ff.calls g s0_0 s0_1 s0_2 t427 t428 t429 w0 _ ?side1 ?side2 A4.out).mono ?_); (case side1 => repeat (first | (with_reducible first | exact HI0.out | apply IsS74.alloc | apply IsS74.drewN | apply IsS74.drew | apply IsS74.set_1 | apply IsS74.set_2) | exact HI0.out)); (case side2 => repeat (first | (with_reducible first | exact HB.out | apply below_alloc | apply pw_below_drewN | apply below_drew1 | refine below_set ?_ (IsS74.ge HI0.out)) | exact HB.out)); rintro e w8 ⟨rfl, hi, hb, hk⟩; refine ⟨_, rfl, ?_⟩; have n0_ := Aside0.mk (KeepBut.trans Yg_ hk (.inl rfl)); have n1_ := Aside0.mk (hb); have n2_ := Aside0.mk (hi); clear HK; clear HB; clear HI0; have HK := n0_; have HB := n1_; have HI0 := n2_; clear n0_ n1_ n2_; (try clear hb); (try clear hb2); (try clear hk); (try clear hi)) | ((with_reducible refine Am (f := 71) rfl ?_); refine Be (some 15) rfl rfl Tryd.func71 (by kernel_rfl) rfl #[.pointer (some ⟨g, 0, none⟩)] rfl Yc_ ?_; (with_reducible refine (Ff.calls g s0_0 t428 t429 t430 t431 t432 w0 _ ?side1 ?side2 A6.out).mono ?_); (case side1 => repeat (first | (with_reducible first | exact HI0.out | apply IsS74.alloc | apply IsS74.drewN | apply IsS74.drew | apply IsS74.set_1 | apply IsS74.set_2) | exact HI0.out)); (case side2 => repeat (first | (with_reducible first | exact HB.out | apply below_alloc | apply pw_below_drewN | apply below_drew1 | refine below_set ?_ (IsS74.ge HI0.out)) | exact HB.out)); rintro e w9 ⟨rfl, hi, hb, hk⟩; refine ⟨_, rfl, ?_⟩; have n0_ := Aside0.mk (KeepBut.trans Yg_ hk (.inl rfl)); have n1_ := Aside0.mk (hb); have n2_ := Aside0.mk (hi); clear HK; clear HB; clear HI0; have HK := n0_; have HB := n1_; have HI0 := n2_; clear n0_ n1_ n2_; (try clear hb); (try clear hb2); (try clear hk); (try clear hi)))
        go_ret
        exact ⟨by first | rfl | (simp [Ak, Aj] <;> rfl) | (simp [*, Ak, Aj] <;> rfl), by repeat (first | (with_reducible first | exact HI0.out | apply IsS74.alloc | apply IsS74.drewN | apply IsS74.drew | apply IsS74.set_1 | apply IsS74.set_2) | exact HI0.out), by repeat (first | (with_reducible first | exact HB.out | apply below_alloc | apply pw_below_drewN | apply below_drew1 | refine below_set ?_ (IsS74.ge HI0.out)) | exact HB.out), by repeat (first | (with_reducible first | exact HK.out | apply KeepBut.set_ | apply keep_drewN | apply keep_drew | apply keep_alloc) | exact HK.out)⟩
    · rw [if_neg c5] at H
      have c5b0 : decide (200 < a1) = false := decide_eq_false c5
      clear c5
      by_cases c10 : a1 = 0
      · rw [if_pos c10] at H
        exact absurd H (by simp)
      · rw [if_neg c10] at H
        have c10b0 : (a1 == 0) = false := beq_eq_false_iff_ne.mpr c10
        have c10b1 : (a1 != 0) = true := bne_iff_ne.mpr c10
        simp only [Option.some.injEq, Prod.mk.injEq] at H
        obtain ⟨rfl, rfl, rfl⟩ := H
        go_enter Tryd.func55, Tryd.ntmps55
        go_wp2_with (first | ((with_reducible refine Am (f := 71) rfl ?_); refine Be (some 9) rfl rfl Tryd.func71 (by kernel_rfl) rfl #[.pointer (some ⟨g, 0, none⟩)] rfl Yc_ ?_; (with_reducible refine (Ff.calls g s0_0 s0_1 s0_2 t427 t428 t429 w0 _ ?side1 ?side2 A4.out).mono ?_); (case side1 => repeat (first | (with_reducible first | exact HI0.out | apply IsS74.alloc | apply IsS74.drewN | apply IsS74.drew | apply IsS74.set_1 | apply IsS74.set_2) | exact HI0.out)); (case side2 => repeat (first | (with_reducible first | exact HB.out | apply below_alloc | apply pw_below_drewN | apply below_drew1 | refine below_set ?_ (IsS74.ge HI0.out)) | exact HB.out)); rintro e w11 ⟨rfl, hi, hb, hk⟩; refine ⟨_, rfl, ?_⟩; have n0_ := Aside0.mk (KeepBut.trans Yg_ hk (.inl rfl)); have n1_ := Aside0.mk (hb); have n2_ := Aside0.mk (hi); clear HK; clear HB; clear HI0; have HK := n0_; have HB := n1_; have HI0 := n2_; clear n0_ n1_ n2_; (try clear hb); (try clear hb2); (try clear hk); (try clear hi)))
        go_ret
        exact ⟨by first | rfl | (simp [Ak, Aj] <;> rfl) | (simp [*, Ak, Aj] <;> rfl), by repeat (first | (with_reducible first | exact HI0.out | apply IsS74.alloc | apply IsS74.drewN | apply IsS74.drew | apply IsS74.set_1 | apply IsS74.set_2) | exact HI0.out), by repeat (first | (with_reducible first | exact HB.out | apply below_alloc | apply pw_below_drewN | apply below_drew1 | refine below_set ?_ (IsS74.ge HI0.out)) | exact HB.out), by repeat (first | (with_reducible first | exact HK.out | apply KeepBut.set_ | apply keep_drewN | apply keep_drew | apply keep_alloc) | exact HK.out)⟩
end Go.Proofs.YtkpieljmhgfofaaDoor.X

namespace Go.Proofs.YtkpieljmhgfofaaDoor.X
open Go.RowKit Go.Proofs.YtkpieljmhgfofaaDoorW.PrintWords Go.Proofs.YtkpieljmhgfofaaDoorW.PrintLast Go.Proofs.YtkpieljmhgfofaaDoorW.PrintMore
attribute [local go_sem] max2_int min2_int max_two min_two max_three min_three max_four min_four
open Go.Proofs.YtkpieljmhgfofaaDoorG
def E5.f (k : Nat) (a0_0 : ByteArray) (a0_1 : ByteArray) (a0_2 : Int) : Option (ByteArray × ByteArray × Int × Bool) := (Ed.f k a0_0 a0_1 a0_2).bind fun t307 => (if t307 = true then (if a0_0.size + a0_1.size ≤ 9223372036854775807 then (some (a0_0 ++ a0_1, (⟨#[]⟩ : ByteArray), a0_2, true)) else (none)) else (some ((⟨#[]⟩ : ByteArray), (⟨#[]⟩ : ByteArray), 0, false)))
theorem E5.mono : ∀ a0 a1 a2 k, LeO (E5.f k a0 a1 a2) (E5.f (k + 1) a0 a1 a2) := by
  intro a0 a1 a2 k
  unfold E5.f
  repeat' first
      | (with_reducible exact Ed.mono _ _ _ _)
      | (with_reducible exact LeO.refl _)
      | (with_reducible exact LeO.none _)
      | (with_reducible refine LeO.ite ?_ ?_)
      | (with_reducible refine LeO.bind ?_ (fun _ => ?_))
      | exact Ed.mono _ _ _ _
      | exact LeO.none _
      | refine LeO.ite ?_ ?_
      | refine LeO.bind ?_ (fun _ => ?_)
set_option maxHeartbeats 8000000 in
set_option maxRecDepth 100000 in
theorem E5.calls (k : Nat) (a0_0 : ByteArray) (a0_1 : ByteArray) (a0_2 : Int) (r1 : ByteArray) (r2 : ByteArray) (r3 : Int) (r4 : Bool) (w : World) (h : E5.f k a0_0 a0_1 a0_2 = some (r1, r2, r3, r4)) :
    Calls Tryd.prog 26 #[.agg #[.string a0_0, .string a0_1, .int .i64 a0_2]] w fun e w' => e = .returned (.tuple #[.agg #[.string r1, .string r2, .int .i64 r3], .bool r4]) ∧ Below w.heap.size w w' := by
  have hu31 := Tryd.underlying31
  have HB := Aside0.mk (Below.refl w.heap.size w)
  have H : ((Ed.f k a0_0 a0_1 a0_2).bind fun t307 => (if t307 = true then (if a0_0.size + a0_1.size ≤ 9223372036854775807 then (some (a0_0 ++ a0_1, (⟨#[]⟩ : ByteArray), a0_2, true)) else (none)) else (some ((⟨#[]⟩ : ByteArray), (⟨#[]⟩ : ByteArray), 0, false)))) = some (r1, r2, r3, r4) := h
  clear h
  replace H := Option.bind_eq_some_iff.mp H
  obtain ⟨t307, A20, H⟩ := H
  replace H : (if t307 = true then (if a0_0.size + a0_1.size ≤ 9223372036854775807 then (some (a0_0 ++ a0_1, (⟨#[]⟩ : ByteArray), a0_2, true)) else (none)) else (some ((⟨#[]⟩ : ByteArray), (⟨#[]⟩ : ByteArray), 0, false))) = some (r1, r2, r3, r4) := H
  have A2 := Aside0.mk A20
  clear A20
  by_cases c3 : t307 = true
  · subst c3
    have H1 : (if a0_0.size + a0_1.size ≤ 9223372036854775807 then (some (a0_0 ++ a0_1, (⟨#[]⟩ : ByteArray), a0_2, true)) else (none)) = some (r1, r2, r3, r4) := by rw [if_pos rfl] at H; exact H
    clear H
    have H := H1
    clear H1
    by_cases c4 : a0_0.size + a0_1.size ≤ 9223372036854775807
    · rw [if_pos c4] at H
      have c4b0 := eq_true c4
      have c4b1 : decide (a0_0.size + a0_1.size ≤ 9223372036854775807) = true := decide_eq_true c4
      try have c4b2 : (9223372036854775807 < a0_0.size + a0_1.size) = False := eq_false (Nat.not_lt.2 c4)
      simp only [Option.some.injEq, Prod.mk.injEq] at H
      obtain ⟨rfl, rfl, rfl, rfl⟩ := H
      go_enter Tryd.func26, Tryd.ntmps26
      go_wp2_with (first | ((with_reducible refine Bd (N := 1) rfl ?_); refine Bc ?hg (N := 1) ?hd (cs := #[.string a0_0, .string a0_1, .int .i64 a0_2]) (t := 31) ?hr ?_; (case hd => rfl); (case hg => rfl); (case hr => first | (go_simp; done) | (go_simp; rfl)); intro gb0 hg w5 hbox hb; have n0_ := Aside0.mk (Ag Ya_ hb); have n1_ := Aside0.mk (hbox); have n2_ := Aside0.mk ((by rw [hg]; exact (Ah Ya_) : w.heap.size ≤ gb0)); have n3_ := Aside0.mk ((by rw [hg]; exact (Ah Ya_) : w.heap.size ≤ gb0)); clear HB; have HB := n0_; have BK0 := n1_; have GW0 := n2_; have GE0 := n3_; clear n0_ n1_ n2_ n3_; clear hb hbox hg) | ((with_reducible refine Bd (N := 2) rfl ?_); refine Bc ?hg (N := 2) ?hd (cs := #[.string (⟨#[]⟩ : ByteArray), .string (⟨#[]⟩ : ByteArray), .int .i64 0]) (t := 31) ?hr ?_; (case hd => rfl); (case hg => rfl); (case hr => first | (go_simp; done) | (go_simp; rfl)); intro gb1 hg w6 hbox hb; have n0_ := Aside0.mk (Ai (g := gb0) (o := .cells #[.string a0_0, .string a0_1, .int .i64 a0_2] 31 (0, 0)) Yd_ hb); have n1_ := Aside0.mk (Ag Yb_ hb); have n2_ := Aside0.mk (hbox); have n3_ := Aside0.mk ((by rw [hg]; exact (Ah Yb_) : w.heap.size ≤ gb1)); have n4_ := Aside0.mk ((by rw [hg]; exact (Ah Yb_) : w.heap.size ≤ gb1)); have n5_ := Aside0.mk ((by rw [hg]; exact Nat.ne_of_lt (Cf (g := gb0) (o := .cells #[.string a0_0, .string a0_1, .int .i64 a0_2] 31 (0, 0)) Yd_) : gb0 ≠ gb1)); have n6_ := Aside0.mk ((by rw [hg]; exact Nat.ne_of_gt (Cf (g := gb0) (o := .cells #[.string a0_0, .string a0_1, .int .i64 a0_2] 31 (0, 0)) Yd_) : gb1 ≠ gb0)); clear BK0; clear HB; have BK0 := n0_; have HB := n1_; have BK1 := n2_; have GW1 := n3_; have GE1 := n4_; have NB0_1 := n5_; have NB1_0 := n6_; clear n0_ n1_ n2_ n3_ n4_ n5_ n6_; clear hb hbox hg; have hnb7 := NB0_1.out; have hnc7 := NB1_0.out; have hcz8_0 : w6.cell? ⟨gb0, 0, none⟩ = some (.string a0_0) := (Ae BK0.out 0).trans rfl; have hcz8_1 : w6.cell? ⟨gb0, 1, none⟩ = some (.string a0_1) := (Ae BK0.out 1).trans rfl; have hcz8_2 : w6.cell? ⟨gb0, 2, none⟩ = some (.int .i64 a0_2) := (Ae BK0.out 2).trans rfl; have hfz8_0 := Af BK0.out 0; have hfz8_1 := Af BK0.out 1; have hfz8_2 := Af BK0.out 2) | ((with_reducible refine Am (f := 49) rfl ?_); refine Be (some 5) rfl rfl Tryd.func49 (by kernel_rfl) rfl #[.agg #[.string a0_0, .string a0_1, .int .i64 a0_2]] rfl Yc_ ?_; (with_reducible refine (Ed.calls k a0_0 a0_1 a0_2 true _ A2.out).mono ?_); rintro e w9 ⟨rfl, hb⟩; refine ⟨_, rfl, ?_⟩; have n0_ := Aside0.mk (Ai (g := gb0) (o := .cells #[.string a0_0, .string a0_1, .int .i64 a0_2] 31 (0, 0)) Yd_ hb); have n1_ := Aside0.mk (Ai (g := gb1) (o := .cells #[.string (⟨#[]⟩ : ByteArray), .string (⟨#[]⟩ : ByteArray), .int .i64 0] 31 (0, 0)) Ye_ hb); have n2_ := Aside0.mk (Ag Yf_ hb); clear BK0; clear BK1; clear HB; have BK0 := n0_; have BK1 := n1_; have HB := n2_; clear n0_ n1_ n2_; (try clear hb); (try clear hb2); (try clear hk); (try clear hi); have hcz10_0 : w9.cell? ⟨gb0, 0, none⟩ = some (.string a0_0) := (Ae BK0.out 0).trans rfl; have hcz10_1 : w9.cell? ⟨gb0, 1, none⟩ = some (.string a0_1) := (Ae BK0.out 1).trans rfl; have hcz10_2 : w9.cell? ⟨gb0, 2, none⟩ = some (.int .i64 a0_2) := (Ae BK0.out 2).trans rfl; have hfz10_0 := Af BK0.out 0; have hfz10_1 := Af BK0.out 1; have hfz10_2 := Af BK0.out 2; have hcz11_0 : w9.cell? ⟨gb1, 0, none⟩ = some (.string (⟨#[]⟩ : ByteArray)) := (Ae BK1.out 0).trans rfl; have hcz11_1 : w9.cell? ⟨gb1, 1, none⟩ = some (.string (⟨#[]⟩ : ByteArray)) := (Ae BK1.out 1).trans rfl; have hcz11_2 : w9.cell? ⟨gb1, 2, none⟩ = some (.int .i64 0) := (Ae BK1.out 2).trans rfl; have hfz11_0 := Af BK1.out 0; have hfz11_1 := Af BK1.out 1; have hfz11_2 := Af BK1.out 2))
      refine bodyPost_ret (F6 rfl _ _ gb1 31 #[.string (a0_0 ++ a0_1), .string (⟨#[]⟩ : ByteArray), .int .i64 a0_2] (0, 0) _ rfl Yed_ Tryd.underlying31 rfl (by kernel_rfl)) rfl ?_
      exact ⟨by first | rfl | (simp [Ak, Aj] <;> rfl) | (simp [*, Ak, Aj] <;> rfl), by repeat (first | (with_reducible first | exact HB.out | apply below_alloc | apply pw_below_drewN | apply below_drew1 | refine below_set ?_ GE0.out | refine below_set ?_ GE1.out) | exact HB.out)⟩
    · rw [if_neg c4] at H
      exact absurd H (by simp)
  · replace c3 := Bool.eq_false_iff.mpr c3
    subst c3
    have H1 : (some ((⟨#[]⟩ : ByteArray), (⟨#[]⟩ : ByteArray), 0, false)) = some (r1, r2, r3, r4) := by rw [if_neg (show ¬ (false = true) by decide)] at H; exact H
    clear H
    have H := H1
    clear H1
    simp only [Option.some.injEq, Prod.mk.injEq] at H
    obtain ⟨rfl, rfl, rfl, rfl⟩ := H
    go_enter Tryd.func26, Tryd.ntmps26
    go_wp2_with (first | ((with_reducible refine Bd (N := 1) rfl ?_); refine Bc ?hg (N := 1) ?hd (cs := #[.string a0_0, .string a0_1, .int .i64 a0_2]) (t := 31) ?hr ?_; (case hd => rfl); (case hg => rfl); (case hr => first | (go_simp; done) | (go_simp; rfl)); intro gb0 hg w12 hbox hb; have n0_ := Aside0.mk (Ag Ya_ hb); have n1_ := Aside0.mk (hbox); have n2_ := Aside0.mk ((by rw [hg]; exact (Ah Ya_) : w.heap.size ≤ gb0)); have n3_ := Aside0.mk ((by rw [hg]; exact (Ah Ya_) : w.heap.size ≤ gb0)); clear HB; have HB := n0_; have BK0 := n1_; have GW0 := n2_; have GE0 := n3_; clear n0_ n1_ n2_ n3_; clear hb hbox hg) | ((with_reducible refine Bd (N := 2) rfl ?_); refine Bc ?hg (N := 2) ?hd (cs := #[.string (⟨#[]⟩ : ByteArray), .string (⟨#[]⟩ : ByteArray), .int .i64 0]) (t := 31) ?hr ?_; (case hd => rfl); (case hg => rfl); (case hr => first | (go_simp; done) | (go_simp; rfl)); intro gb1 hg w13 hbox hb; have n0_ := Aside0.mk (Ai (g := gb0) (o := .cells #[.string a0_0, .string a0_1, .int .i64 a0_2] 31 (0, 0)) Yd_ hb); have n1_ := Aside0.mk (Ag Yb_ hb); have n2_ := Aside0.mk (hbox); have n3_ := Aside0.mk ((by rw [hg]; exact (Ah Yb_) : w.heap.size ≤ gb1)); have n4_ := Aside0.mk ((by rw [hg]; exact (Ah Yb_) : w.heap.size ≤ gb1)); have n5_ := Aside0.mk ((by rw [hg]; exact Nat.ne_of_lt (Cf (g := gb0) (o := .cells #[.string a0_0, .string a0_1, .int .i64 a0_2] 31 (0, 0)) Yd_) : gb0 ≠ gb1)); have n6_ := Aside0.mk ((by rw [hg]; exact Nat.ne_of_gt (Cf (g := gb0) (o := .cells #[.string a0_0, .string a0_1, .int .i64 a0_2] 31 (0, 0)) Yd_) : gb1 ≠ gb0)); clear BK0; clear HB; have BK0 := n0_; have HB := n1_; have BK1 := n2_; have GW1 := n3_; have GE1 := n4_; have NB0_1 := n5_; have NB1_0 := n6_; clear n0_ n1_ n2_ n3_ n4_ n5_ n6_; clear hb hbox hg; have hnb14 := NB0_1.out; have hnc14 := NB1_0.out; have hcz15_0 : w13.cell? ⟨gb0, 0, none⟩ = some (.string a0_0) := (Ae BK0.out 0).trans rfl; have hcz15_1 : w13.cell? ⟨gb0, 1, none⟩ = some (.string a0_1) := (Ae BK0.out 1).trans rfl; have hcz15_2 : w13.cell? ⟨gb0, 2, none⟩ = some (.int .i64 a0_2) := (Ae BK0.out 2).trans rfl; have hfz15_0 := Af BK0.out 0; have hfz15_1 := Af BK0.out 1; have hfz15_2 := Af BK0.out 2) | ((with_reducible refine Am (f := 49) rfl ?_); refine Be (some 5) rfl rfl Tryd.func49 (by kernel_rfl) rfl #[.agg #[.string a0_0, .string a0_1, .int .i64 a0_2]] rfl Yc_ ?_; (with_reducible refine (Ed.calls k a0_0 a0_1 a0_2 false _ A2.out).mono ?_); rintro e w16 ⟨rfl, hb⟩; refine ⟨_, rfl, ?_⟩; have n0_ := Aside0.mk (Ai (g := gb0) (o := .cells #[.string a0_0, .string a0_1, .int .i64 a0_2] 31 (0, 0)) Yd_ hb); have n1_ := Aside0.mk (Ai (g := gb1) (o := .cells #[.string (⟨#[]⟩ : ByteArray), .string (⟨#[]⟩ : ByteArray), .int .i64 0] 31 (0, 0)) Ye_ hb); have n2_ := Aside0.mk (Ag Yf_ hb); clear BK0; clear BK1; clear HB; have BK0 := n0_; have BK1 := n1_; have HB := n2_; clear n0_ n1_ n2_; (try clear hb); (try clear hb2); (try clear hk); (try clear hi); have hcz17_0 : w16.cell? ⟨gb1, 0, none⟩ = some (.string (⟨#[]⟩ : ByteArray)) := (Ae BK1.out 0).trans rfl; have hcz17_1 : w16.cell? ⟨gb1, 1, none⟩ = some (.string (⟨#[]⟩ : ByteArray)) := (Ae BK1.out 1).trans rfl; have hcz17_2 : w16.cell? ⟨gb1, 2, none⟩ = some (.int .i64 0) := (Ae BK1.out 2).trans rfl; have hfz17_0 := Af BK1.out 0; have hfz17_1 := Af BK1.out 1; have hfz17_2 := Af BK1.out 2))
    refine bodyPost_ret (F6 rfl _ _ gb1 31 #[.string (⟨#[]⟩ : ByteArray), .string (⟨#[]⟩ : ByteArray), .int .i64 0] (0, 0) _ rfl Yec_ Tryd.underlying31 rfl (by kernel_rfl)) rfl ?_
    exact ⟨by first | rfl | (simp [Ak, Aj] <;> rfl) | (simp [*, Ak, Aj] <;> rfl), by repeat (first | (with_reducible first | exact HB.out | apply below_alloc | apply pw_below_drewN | apply below_drew1 | refine below_set ?_ GE0.out | refine below_set ?_ GE1.out) | exact HB.out)⟩
end Go.Proofs.YtkpieljmhgfofaaDoor.X

namespace Go.Proofs.YtkpieljmhgfofaaDoor.X
open Go.RowKit Go.Proofs.YtkpieljmhgfofaaDoorW.PrintWords Go.Proofs.YtkpieljmhgfofaaDoorW.PrintLast Go.Proofs.YtkpieljmhgfofaaDoorW.PrintMore
attribute [local go_sem] max2_int min2_int max_two min_two max_three min_three max_four min_four
open Go.Proofs.YtkpieljmhgfofaaDoorG
def Em.f (s0_0 : List Int) (s0_1 : Int) (s0_2 : Int) (a1 : Int) : Option (Bool × Int × Int) := (spec_l1Cur_pick.f s0_0 s0_1 s0_2 a1).bind fun bt433 => (some ((bt433.1 == 0), bt433.2.1, bt433.2.2))
set_option maxHeartbeats 8000000 in
set_option maxRecDepth 100000 in
theorem Em.calls (g : Nat) (s0_0 : List Int) (s0_1 : Int) (s0_2 : Int) (a1 : Int) (r1 : Bool) (r2 : Int) (r3 : Int) (w0 w : World) (hI : IsS74 w0 w g s0_0 s0_1 s0_2) (hB : Below w0.heap.size w0 w) (h : Em.f s0_0 s0_1 s0_2 a1 = some (r1, r2, r3)) :
    Calls Tryd.prog 54 #[.pointer (some ⟨g, 0, none⟩), .int .i64 a1] w fun e w' => e = .returned (.bool r1) ∧ IsS74 w0 w' g s0_0 r2 r3 ∧ Below w0.heap.size w0 w' ∧ KeepBut w w' g none := by
  have HI0 := Aside0.mk hI
  have HK := Aside0.mk (KeepBut.refl w g none)
  have HL := Aside0.mk hB.size
  clear hI
  have HW0 := Aside0.mk hB.size
  have HB := Aside0.mk hB
  clear hB
  have H : ((spec_l1Cur_pick.f s0_0 s0_1 s0_2 a1).bind fun bt433 => (some ((bt433.1 == 0), bt433.2.1, bt433.2.2))) = some (r1, r2, r3) := h
  clear h
  replace H := Option.bind_eq_some_iff.mp H
  obtain ⟨⟨t433, t434, t435⟩, A30, H⟩ := H
  replace H : (some ((t433 == 0), t434, t435)) = some (r1, r2, r3) := H
  have A3 := Aside0.mk A30
  clear A30
  simp only [Option.some.injEq, Prod.mk.injEq] at H
  obtain ⟨rfl, rfl, rfl⟩ := H
  go_enter Tryd.func54, Tryd.ntmps54
  go_wp2_with (first | ((with_reducible refine Am (f := 55) rfl ?_); refine Be (some 7) rfl rfl Tryd.func55 (by kernel_rfl) rfl #[.pointer (some ⟨g, 0, none⟩), .int .i64 a1] rfl Yc_ ?_; (with_reducible refine (spec_l1Cur_pick.calls g s0_0 s0_1 s0_2 a1 t433 t434 t435 w0 _ ?side1 ?side2 A3.out).mono ?_); (case side1 => repeat (first | (with_reducible first | exact HI0.out | apply IsS74.alloc | apply IsS74.drewN | apply IsS74.drew | apply IsS74.set_1 | apply IsS74.set_2) | exact HI0.out)); (case side2 => repeat (first | (with_reducible first | exact HB.out | apply below_alloc | apply pw_below_drewN | apply below_drew1 | refine below_set ?_ (IsS74.ge HI0.out)) | exact HB.out)); rintro e w4 ⟨rfl, hi, hb, hk⟩; refine ⟨_, rfl, ?_⟩; have n0_ := Aside0.mk (KeepBut.trans Yg_ hk (.inl rfl)); have n1_ := Aside0.mk (hb); have n2_ := Aside0.mk (hi); clear HK; clear HB; clear HI0; have HK := n0_; have HB := n1_; have HI0 := n2_; clear n0_ n1_ n2_; (try clear hb); (try clear hb2); (try clear hk); (try clear hi)))
  go_ret
  exact ⟨by first | rfl | (simp [Ak, Aj] <;> rfl) | (simp [*, Ak, Aj] <;> rfl), by repeat (first | (with_reducible first | exact HI0.out | apply IsS74.alloc | apply IsS74.drewN | apply IsS74.drew | apply IsS74.set_1 | apply IsS74.set_2) | exact HI0.out), by repeat (first | (with_reducible first | exact HB.out | apply below_alloc | apply pw_below_drewN | apply below_drew1 | refine below_set ?_ (IsS74.ge HI0.out)) | exact HB.out), by repeat (first | (with_reducible first | exact HK.out | apply KeepBut.set_ | apply keep_drewN | apply keep_drew | apply keep_alloc) | exact HK.out)⟩
end Go.Proofs.YtkpieljmhgfofaaDoor.X

namespace Go.Proofs.YtkpieljmhgfofaaDoor.X
open Go.RowKit Go.Proofs.YtkpieljmhgfofaaDoorW.PrintWords Go.Proofs.YtkpieljmhgfofaaDoorW.PrintLast Go.Proofs.YtkpieljmhgfofaaDoorW.PrintMore
attribute [local go_sem] max2_int min2_int max_two min_two max_three min_three max_four min_four
open Go.Proofs.YtkpieljmhgfofaaDoorG
def Dp.f (s0_0 : List Int) (s0_1 : Int) (s0_2 : Int) (l1 : List ByteArray) : Option (ByteArray × Int × Int) := (spec_l1Cur_pick.f s0_0 s0_1 s0_2 (l1.length : Int)).bind fun bt436 => (if 0 ≤ bt436.1 then (if bt436.1 < (l1.length : Int) then (some (Cc ByteArray.empty l1 bt436.1, bt436.2.1, bt436.2.2)) else (none)) else (none))
set_option maxHeartbeats 8000000 in
set_option maxRecDepth 100000 in
theorem Dp.calls (g : Nat) (s0_0 : List Int) (s0_1 : Int) (s0_2 : Int) (A1 : Option Addr) (c1 : Nat) (l1 : List ByteArray) (r1 : ByteArray) (r2 : Int) (r3 : Int) (w0 w : World) (hI : IsS74 w0 w g s0_0 s0_1 s0_2) (hB : Below w0.heap.size w0 w) (hr1 : Kd.C Kd.string w A1 l1.length l1) (hc1 : l1.length ≤ c1) (hf1 : ∀ ad, A1 = some ad → 0 < l1.length → ad.block ≠ g) (h : Dp.f s0_0 s0_1 s0_2 l1 = some (r1, r2, r3)) :
    Calls Tryd.prog 72 #[.pointer (some ⟨g, 0, none⟩), .slice A1 l1.length c1] w fun e w' => e = .returned (.string r1) ∧ IsS74 w0 w' g s0_0 r2 r3 ∧ Below w0.heap.size w0 w' ∧ KeepBut w w' g none := by
  have HR1 := Aside0.mk hr1
  have HC1 := Aside0.mk hc1
  clear hr1 hc1
  have HI0 := Aside0.mk hI
  have HK := Aside0.mk (KeepBut.refl w g none)
  have HL := Aside0.mk hB.size
  clear hI
  have HW0 := Aside0.mk hB.size
  have HB := Aside0.mk hB
  clear hB
  have H : ((spec_l1Cur_pick.f s0_0 s0_1 s0_2 (l1.length : Int)).bind fun bt436 => (if 0 ≤ bt436.1 then (if bt436.1 < (l1.length : Int) then (some (Cc ByteArray.empty l1 bt436.1, bt436.2.1, bt436.2.2)) else (none)) else (none))) = some (r1, r2, r3) := h
  clear h
  replace H := Option.bind_eq_some_iff.mp H
  obtain ⟨⟨t436, t437, t438⟩, A30, H⟩ := H
  replace H : (if 0 ≤ t436 then (if t436 < (l1.length : Int) then (some (Cc ByteArray.empty l1 t436, t437, t438)) else (none)) else (none)) = some (r1, r2, r3) := H
  have A3 := Aside0.mk A30
  clear A30
  by_cases c4 : 0 ≤ t436
  · rw [if_pos c4] at H
    have c4b0 : decide (0 ≤ t436) = true := decide_eq_true c4
    clear c4
    by_cases c5 : t436 < (l1.length : Int)
    · rw [if_pos c5] at H
      have c5b0 : decide (t436 < (l1.length : Int)) = true := decide_eq_true c5
      clear c5
      simp only [Option.some.injEq, Prod.mk.injEq] at H
      obtain ⟨rfl, rfl, rfl⟩ := H
      go_enter Tryd.func72, Tryd.ntmps72
      go_wp2_with (first | ((with_reducible refine Am (f := 55) rfl ?_); refine Be (some 9) rfl rfl Tryd.func55 (by kernel_rfl) rfl #[.pointer (some ⟨g, 0, none⟩), .int .i64 (l1.length : Int)] rfl Yc_ ?_; (with_reducible refine (spec_l1Cur_pick.calls g s0_0 s0_1 s0_2 (l1.length : Int) t436 t437 t438 w0 _ ?side1 ?side2 A3.out).mono ?_); (case side1 => repeat (first | (with_reducible first | exact HI0.out | apply IsS74.alloc | apply IsS74.drewN | apply IsS74.drew | apply IsS74.set_1 | apply IsS74.set_2) | exact HI0.out)); (case side2 => repeat (first | (with_reducible first | exact HB.out | apply below_alloc | apply pw_below_drewN | apply below_drew1 | refine below_set ?_ (IsS74.ge HI0.out)) | exact HB.out)); rintro e w6 ⟨rfl, hi, hb, hk⟩; refine ⟨_, rfl, ?_⟩; have n0_ := Aside0.mk (KeepBut.trans Yg_ hk (.inl rfl)); have n1_ := Aside0.mk (hb); have n2_ := Aside0.mk (hi); clear HK; clear HB; clear HI0; have HK := n0_; have HB := n1_; have HI0 := n2_; clear n0_ n1_ n2_; (try clear hb); (try clear hb2); (try clear hk); (try clear hi); have p439 : 0 ≤ (t436 : Int) := of_decide_eq_true Yba_; have q439 : t436 < (l1.length : Int) := of_decide_eq_true Yba_; obtain ⟨ad439, e439, hx439_0⟩ := Kd.Hm HR1.out t436 p439 q439; cases e439; replace hx439_0 := keep_cell HK.out hx439_0 (by first | (rw [add_block]; exact hf1 _ rfl (by omega)) | exact hf1 _ rfl (by omega) | exact hf1 ad439 rfl (by omega)); replace p439 := eq_true p439; replace q439 := eq_true q439))
      go_ret
      exact ⟨by first | rfl | (simp [Ak, Aj] <;> rfl) | (simp [*, Ak, Aj] <;> rfl), by repeat (first | (with_reducible first | exact HI0.out | apply IsS74.alloc | apply IsS74.drewN | apply IsS74.drew | apply IsS74.set_1 | apply IsS74.set_2) | exact HI0.out), by repeat (first | (with_reducible first | exact HB.out | apply below_alloc | apply pw_below_drewN | apply below_drew1 | refine below_set ?_ (IsS74.ge HI0.out)) | exact HB.out), by repeat (first | (with_reducible first | exact HK.out | apply KeepBut.set_ | apply keep_drewN | apply keep_drew | apply keep_alloc) | exact HK.out)⟩
    · rw [if_neg c5] at H
      exact absurd H (by simp)
  · rw [if_neg c4] at H
    exact absurd H (by simp)
end Go.Proofs.YtkpieljmhgfofaaDoor.X

namespace Go.Proofs.YtkpieljmhgfofaaDoor.X
open Go.RowKit Go.Proofs.YtkpieljmhgfofaaDoorW.PrintWords Go.Proofs.YtkpieljmhgfofaaDoorW.PrintLast Go.Proofs.YtkpieljmhgfofaaDoorW.PrintMore
attribute [local go_sem] max2_int min2_int max_two min_two max_three min_three max_four min_four
open Go.Proofs.YtkpieljmhgfofaaDoorG
def Dk.f (s0_0 : List Int) (s0_1 : Int) (s0_2 : Int) : Option (ByteArray × ByteArray × Int × Int) := (Dp.f s0_0 s0_1 s0_2 (([(⟨#[99, 111, 117, 110, 116]⟩ : ByteArray), (⟨#[115, 111, 114, 116, 32, 109, 101, 114, 103, 101]⟩ : ByteArray), (⟨#[120]⟩ : ByteArray), (⟨#[115, 101, 108, 101, 99, 116, 32, 50]⟩ : ByteArray), (⟨#[48, 32, 49]⟩ : ByteArray)] : List ByteArray))).bind fun bt444 => ((Dp.f s0_0 bt444.2.1 bt444.2.2 (([(⟨#[]⟩ : ByteArray), (⟨#[51]⟩ : ByteArray), (⟨#[63]⟩ : ByteArray), (⟨#[97, 64, 98]⟩ : ByteArray), (⟨#[51, 32, 49, 32, 50]⟩ : ByteArray)] : List ByteArray))).bind fun bt450 => ((spec_l1Cur_pick.f s0_0 bt450.2.1 bt450.2.2 24).bind fun bt454 => (if bt454.1 = 0 then (if 3 ≤ 281474976710656 then ((Dp.f s0_0 bt454.2.1 bt454.2.2 (([(⟨#[]⟩ : ByteArray), (⟨#[97, 64, 98]⟩ : ByteArray), (⟨#[97, 35]⟩ : ByteArray), (⟨#[10]⟩ : ByteArray), strOfNums (List.replicate 3 0)] : List ByteArray))).bind fun bt463 => (some (bt463.1, bt450.1, bt463.2.1, bt463.2.2))) else (none)) else (if bt454.1 = 1 then ((Dp.f s0_0 bt454.2.1 bt454.2.2 (([(⟨#[35]⟩ : ByteArray), (⟨#[10]⟩ : ByteArray), (⟨#[127]⟩ : ByteArray)] : List ByteArray))).bind fun bt469 => (some (bt444.1, bt469.1, bt469.2.1, bt469.2.2))) else (some (bt444.1, bt450.1, bt454.2.1, bt454.2.2))))))
set_option maxHeartbeats 8000000 in
set_option maxRecDepth 100000 in
theorem Dk.calls (g : Nat) (s0_0 : List Int) (s0_1 : Int) (s0_2 : Int) (r1 : ByteArray) (r2 : ByteArray) (r3 : Int) (r4 : Int) (w0 w : World) (hI : IsS74 w0 w g s0_0 s0_1 s0_2) (hB : Below w0.heap.size w0 w) (h : Dk.f s0_0 s0_1 s0_2 = some (r1, r2, r3, r4)) :
    Calls Tryd.prog 56 #[.pointer (some ⟨g, 0, none⟩)] w fun e w' => e = .returned (.agg #[.string r1, .string r2]) ∧ IsS74 w0 w' g s0_0 r3 r4 ∧ Below w0.heap.size w0 w' ∧ KeepBut w w' g none := by
  have hu27 := Tryd.underlying27
  have HI0 := Aside0.mk hI
  have HK := Aside0.mk (KeepBut.refl w g none)
  have HL := Aside0.mk hB.size
  clear hI
  have HW0 := Aside0.mk hB.size
  have HB := Aside0.mk hB
  clear hB
  have H : ((Dp.f s0_0 s0_1 s0_2 (([(⟨#[99, 111, 117, 110, 116]⟩ : ByteArray), (⟨#[115, 111, 114, 116, 32, 109, 101, 114, 103, 101]⟩ : ByteArray), (⟨#[120]⟩ : ByteArray), (⟨#[115, 101, 108, 101, 99, 116, 32, 50]⟩ : ByteArray), (⟨#[48, 32, 49]⟩ : ByteArray)] : List ByteArray))).bind fun bt444 => ((Dp.f s0_0 bt444.2.1 bt444.2.2 (([(⟨#[]⟩ : ByteArray), (⟨#[51]⟩ : ByteArray), (⟨#[63]⟩ : ByteArray), (⟨#[97, 64, 98]⟩ : ByteArray), (⟨#[51, 32, 49, 32, 50]⟩ : ByteArray)] : List ByteArray))).bind fun bt450 => ((spec_l1Cur_pick.f s0_0 bt450.2.1 bt450.2.2 24).bind fun bt454 => (if bt454.1 = 0 then (if 3 ≤ 281474976710656 then ((Dp.f s0_0 bt454.2.1 bt454.2.2 (([(⟨#[]⟩ : ByteArray), (⟨#[97, 64, 98]⟩ : ByteArray), (⟨#[97, 35]⟩ : ByteArray), (⟨#[10]⟩ : ByteArray), strOfNums (List.replicate 3 0)] : List ByteArray))).bind fun bt463 => (some (bt463.1, bt450.1, bt463.2.1, bt463.2.2))) else (none)) else (if bt454.1 = 1 then ((Dp.f s0_0 bt454.2.1 bt454.2.2 (([(⟨#[35]⟩ : ByteArray), (⟨#[10]⟩ : ByteArray), (⟨#[127]⟩ : ByteArray)] : List ByteArray))).bind fun bt469 => (some (bt444.1, bt469.1, bt469.2.1, bt469.2.2))) else (some (bt444.1, bt450.1, bt454.2.1, bt454.2.2))))))) = some (r1, r2, r3, r4) := h
  clear h
  obtain ⟨y441, hy441⟩ : ∃ y_ : List ByteArray, y_ = (([(⟨#[99, 111, 117, 110, 116]⟩ : ByteArray), (⟨#[115, 111, 114, 116, 32, 109, 101, 114, 103, 101]⟩ : ByteArray), (⟨#[120]⟩ : ByteArray), (⟨#[115, 101, 108, 101, 99, 116, 32, 50]⟩ : ByteArray), (⟨#[48, 32, 49]⟩ : ByteArray)] : List ByteArray)) := ⟨_, rfl⟩
  replace H : ((Dp.f s0_0 s0_1 s0_2 y441).bind fun bt444 => ((Dp.f s0_0 bt444.2.1 bt444.2.2 (([(⟨#[]⟩ : ByteArray), (⟨#[51]⟩ : ByteArray), (⟨#[63]⟩ : ByteArray), (⟨#[97, 64, 98]⟩ : ByteArray), (⟨#[51, 32, 49, 32, 50]⟩ : ByteArray)] : List ByteArray))).bind fun bt450 => ((spec_l1Cur_pick.f s0_0 bt450.2.1 bt450.2.2 24).bind fun bt454 => (if bt454.1 = 0 then (if 3 ≤ 281474976710656 then ((Dp.f s0_0 bt454.2.1 bt454.2.2 (([(⟨#[]⟩ : ByteArray), (⟨#[97, 64, 98]⟩ : ByteArray), (⟨#[97, 35]⟩ : ByteArray), (⟨#[10]⟩ : ByteArray), strOfNums (List.replicate 3 0)] : List ByteArray))).bind fun bt463 => (some (bt463.1, bt450.1, bt463.2.1, bt463.2.2))) else (none)) else (if bt454.1 = 1 then ((Dp.f s0_0 bt454.2.1 bt454.2.2 (([(⟨#[35]⟩ : ByteArray), (⟨#[10]⟩ : ByteArray), (⟨#[127]⟩ : ByteArray)] : List ByteArray))).bind fun bt469 => (some (bt444.1, bt469.1, bt469.2.1, bt469.2.2))) else (some (bt444.1, bt450.1, bt454.2.1, bt454.2.2))))))) = some (r1, r2, r3, r4) := by first | (rw [hy441]; with_reducible exact H) | (have H2_ := (Option.bind_some _ _).symm.trans H; rw [hy441]; with_reducible exact H2_) | (have H2_ := (Option.bind_some _ _).symm.trans H; with_reducible exact H2_) | with_reducible exact H | (rw [hy441]; exact H) | exact H
  have Ny441 := Aside0.mk hy441
  clear hy441
  replace H := Option.bind_eq_some_iff.mp H
  obtain ⟨⟨t444, t445, t446⟩, A20, H⟩ := H
  replace H : ((Dp.f s0_0 t445 t446 (([(⟨#[]⟩ : ByteArray), (⟨#[51]⟩ : ByteArray), (⟨#[63]⟩ : ByteArray), (⟨#[97, 64, 98]⟩ : ByteArray), (⟨#[51, 32, 49, 32, 50]⟩ : ByteArray)] : List ByteArray))).bind fun bt450 => ((spec_l1Cur_pick.f s0_0 bt450.2.1 bt450.2.2 24).bind fun bt454 => (if bt454.1 = 0 then (if 3 ≤ 281474976710656 then ((Dp.f s0_0 bt454.2.1 bt454.2.2 (([(⟨#[]⟩ : ByteArray), (⟨#[97, 64, 98]⟩ : ByteArray), (⟨#[97, 35]⟩ : ByteArray), (⟨#[10]⟩ : ByteArray), strOfNums (List.replicate 3 0)] : List ByteArray))).bind fun bt463 => (some (bt463.1, bt450.1, bt463.2.1, bt463.2.2))) else (none)) else (if bt454.1 = 1 then ((Dp.f s0_0 bt454.2.1 bt454.2.2 (([(⟨#[35]⟩ : ByteArray), (⟨#[10]⟩ : ByteArray), (⟨#[127]⟩ : ByteArray)] : List ByteArray))).bind fun bt469 => (some (t444, bt469.1, bt469.2.1, bt469.2.2))) else (some (t444, bt450.1, bt454.2.1, bt454.2.2)))))) = some (r1, r2, r3, r4) := H
  have A2 := Aside0.mk A20
  clear A20
  obtain ⟨y447, hy447⟩ : ∃ y_ : List ByteArray, y_ = (([(⟨#[]⟩ : ByteArray), (⟨#[51]⟩ : ByteArray), (⟨#[63]⟩ : ByteArray), (⟨#[97, 64, 98]⟩ : ByteArray), (⟨#[51, 32, 49, 32, 50]⟩ : ByteArray)] : List ByteArray)) := ⟨_, rfl⟩
  replace H : ((Dp.f s0_0 t445 t446 y447).bind fun bt450 => ((spec_l1Cur_pick.f s0_0 bt450.2.1 bt450.2.2 24).bind fun bt454 => (if bt454.1 = 0 then (if 3 ≤ 281474976710656 then ((Dp.f s0_0 bt454.2.1 bt454.2.2 (([(⟨#[]⟩ : ByteArray), (⟨#[97, 64, 98]⟩ : ByteArray), (⟨#[97, 35]⟩ : ByteArray), (⟨#[10]⟩ : ByteArray), strOfNums (List.replicate 3 0)] : List ByteArray))).bind fun bt463 => (some (bt463.1, bt450.1, bt463.2.1, bt463.2.2))) else (none)) else (if bt454.1 = 1 then ((Dp.f s0_0 bt454.2.1 bt454.2.2 (([(⟨#[35]⟩ : ByteArray), (⟨#[10]⟩ : ByteArray), (⟨#[127]⟩ : ByteArray)] : List ByteArray))).bind fun bt469 => (some (t444, bt469.1, bt469.2.1, bt469.2.2))) else (some (t444, bt450.1, bt454.2.1, bt454.2.2)))))) = some (r1, r2, r3, r4) := by first | (rw [hy447]; with_reducible exact H) | (have H2_ := (Option.bind_some _ _).symm.trans H; rw [hy447]; with_reducible exact H2_) | (have H2_ := (Option.bind_some _ _).symm.trans H; with_reducible exact H2_) | with_reducible exact H | (rw [hy447]; exact H) | exact H
  have Ny447 := Aside0.mk hy447
  clear hy447
  replace H := Option.bind_eq_some_iff.mp H
  obtain ⟨⟨t450, t451, t452⟩, A30, H⟩ := H
  replace H : ((spec_l1Cur_pick.f s0_0 t451 t452 24).bind fun bt454 => (if bt454.1 = 0 then (if 3 ≤ 281474976710656 then ((Dp.f s0_0 bt454.2.1 bt454.2.2 (([(⟨#[]⟩ : ByteArray), (⟨#[97, 64, 98]⟩ : ByteArray), (⟨#[97, 35]⟩ : ByteArray), (⟨#[10]⟩ : ByteArray), strOfNums (List.replicate 3 0)] : List ByteArray))).bind fun bt463 => (some (bt463.1, t450, bt463.2.1, bt463.2.2))) else (none)) else (if bt454.1 = 1 then ((Dp.f s0_0 bt454.2.1 bt454.2.2 (([(⟨#[35]⟩ : ByteArray), (⟨#[10]⟩ : ByteArray), (⟨#[127]⟩ : ByteArray)] : List ByteArray))).bind fun bt469 => (some (t444, bt469.1, bt469.2.1, bt469.2.2))) else (some (t444, t450, bt454.2.1, bt454.2.2))))) = some (r1, r2, r3, r4) := H
  have A3 := Aside0.mk A30
  clear A30
  replace H := Option.bind_eq_some_iff.mp H
  obtain ⟨⟨t454, t455, t456⟩, A40, H⟩ := H
  replace H : (if t454 = 0 then (if 3 ≤ 281474976710656 then ((Dp.f s0_0 t455 t456 (([(⟨#[]⟩ : ByteArray), (⟨#[97, 64, 98]⟩ : ByteArray), (⟨#[97, 35]⟩ : ByteArray), (⟨#[10]⟩ : ByteArray), strOfNums (List.replicate 3 0)] : List ByteArray))).bind fun bt463 => (some (bt463.1, t450, bt463.2.1, bt463.2.2))) else (none)) else (if t454 = 1 then ((Dp.f s0_0 t455 t456 (([(⟨#[35]⟩ : ByteArray), (⟨#[10]⟩ : ByteArray), (⟨#[127]⟩ : ByteArray)] : List ByteArray))).bind fun bt469 => (some (t444, bt469.1, bt469.2.1, bt469.2.2))) else (some (t444, t450, t455, t456)))) = some (r1, r2, r3, r4) := H
  have A4 := Aside0.mk A40
  clear A40
  by_cases c5 : t454 = 0
  · rw [if_pos c5] at H
    have c5b0 : (t454 == 0) = true := beq_iff_eq.mpr c5
    have c5b1 : (t454 != 0) = false := bne_eq_false_iff_eq.mpr c5
    clear c5
    by_cases c6 : 3 ≤ 281474976710656
    · rw [if_pos c6] at H
      have c6b0 := eq_true c6
      have c6b1 : decide (3 ≤ 281474976710656) = true := decide_eq_true c6
      clear c6
      obtain ⟨y457, hy457⟩ : ∃ y_ : List Int, y_ = (List.replicate 3 0) := ⟨_, rfl⟩
      replace H : ((Dp.f s0_0 t455 t456 (([(⟨#[]⟩ : ByteArray), (⟨#[97, 64, 98]⟩ : ByteArray), (⟨#[97, 35]⟩ : ByteArray), (⟨#[10]⟩ : ByteArray), strOfNums y457] : List ByteArray))).bind fun bt463 => (some (bt463.1, t450, bt463.2.1, bt463.2.2))) = some (r1, r2, r3, r4) := by first | (rw [hy457]; with_reducible exact H) | (have H2_ := (Option.bind_some _ _).symm.trans H; rw [hy457]; with_reducible exact H2_) | (have H2_ := (Option.bind_some _ _).symm.trans H; with_reducible exact H2_) | with_reducible exact H | (rw [hy457]; exact H) | exact H
      have Ny457 := Aside0.mk hy457
      clear hy457
      obtain ⟨y460, hy460⟩ : ∃ y_ : List ByteArray, y_ = (([(⟨#[]⟩ : ByteArray), (⟨#[97, 64, 98]⟩ : ByteArray), (⟨#[97, 35]⟩ : ByteArray), (⟨#[10]⟩ : ByteArray), strOfNums y457] : List ByteArray)) := ⟨_, rfl⟩
      replace H : ((Dp.f s0_0 t455 t456 y460).bind fun bt463 => (some (bt463.1, t450, bt463.2.1, bt463.2.2))) = some (r1, r2, r3, r4) := by first | (rw [hy460]; with_reducible exact H) | (have H2_ := (Option.bind_some _ _).symm.trans H; rw [hy460]; with_reducible exact H2_) | (have H2_ := (Option.bind_some _ _).symm.trans H; with_reducible exact H2_) | with_reducible exact H | (rw [hy460]; exact H) | exact H
      have Ny460 := Aside0.mk hy460
      clear hy460
      replace H := Option.bind_eq_some_iff.mp H
      obtain ⟨⟨t463, t464, t465⟩, A70, H⟩ := H
      replace H : (some (t463, t450, t464, t465)) = some (r1, r2, r3, r4) := H
      have A7 := Aside0.mk A70
      clear A70
      simp only [Option.some.injEq, Prod.mk.injEq] at H
      obtain ⟨rfl, rfl, rfl, rfl⟩ := H
      go_enter Tryd.func56, Tryd.ntmps56
      go_wp2_with (first | ((with_reducible refine Bd (N := 2) rfl ?_); refine Bc ?hg (N := 2) ?hd (cs := #[.string (⟨#[]⟩ : ByteArray), .string (⟨#[]⟩ : ByteArray)]) (t := 27) ?hr ?_; (case hd => rfl); (case hg => rfl); (case hr => first | (go_simp; done) | (go_simp; rfl)); intro gb440 hg w8 hbox hb; have n0_ := Aside0.mk (IsS74.below Yci_ hb); have n1_ := Aside0.mk (KeepBut.trans Yg_ (KeepBut.of_below hb g none) (.inl rfl)); have n2_ := Aside0.mk (Ag Ych_ hb); have n3_ := Aside0.mk (hbox); have n4_ := Aside0.mk ((by rw [hg]; exact (D6 (w := w) (g := g) (row := none) Yg_) : w.heap.size ≤ gb440)); have n5_ := Aside0.mk ((Nat.le_trans HW0.out (by rw [hg]; exact (D6 (w := w) (g := g) (row := none) Yg_) : w.heap.size ≤ gb440) : w0.heap.size ≤ gb440)); have n6_ := Aside0.mk ((by rw [hg]; exact Nat.ne_of_lt (IsS74.lt (show IsS74 w0 _ g s0_0 s0_1 s0_2 from by repeat (first | (with_reducible first | exact HI0.out | apply IsS74.alloc | apply IsS74.drewN | apply IsS74.drew | apply IsS74.set_1 | apply IsS74.set_2) | exact HI0.out))) : g ≠ gb440)); have n7_ := Aside0.mk ((by rw [hg]; exact Nat.ne_of_gt (IsS74.lt (show IsS74 w0 _ g s0_0 s0_1 s0_2 from by repeat (first | (with_reducible first | exact HI0.out | apply IsS74.alloc | apply IsS74.drewN | apply IsS74.drew | apply IsS74.set_1 | apply IsS74.set_2) | exact HI0.out))) : gb440 ≠ g)); clear HI0; clear HK; clear HB; have HI0 := n0_; have HK := n1_; have HB := n2_; have BK440 := n3_; have GW440 := n4_; have GE440 := n5_; have NB0_440 := n6_; have NB440_0 := n7_; clear n0_ n1_ n2_ n3_ n4_ n5_ n6_ n7_; clear hb hbox hg) | ((with_reducible refine Bd (N := 5) rfl ?_); refine Kd.R_lit Kd.string _ 9 ?hg (N := 5) ?hd (xs := ([(⟨#[99, 111, 117, 110, 116]⟩ : ByteArray), (⟨#[115, 111, 114, 116, 32, 109, 101, 114, 103, 101]⟩ : ByteArray), (⟨#[120]⟩ : ByteArray), (⟨#[115, 101, 108, 101, 99, 116, 32, 50]⟩ : ByteArray), (⟨#[48, 32, 49]⟩ : ByteArray)] : List ByteArray)) (inner := [.string (⟨#[99, 111, 117, 110, 116]⟩ : ByteArray), .string (⟨#[115, 111, 114, 116, 32, 109, 101, 114, 103, 101]⟩ : ByteArray), .string (⟨#[120]⟩ : ByteArray), .string (⟨#[115, 101, 108, 101, 99, 116, 32, 50]⟩ : ByteArray), .string (⟨#[48, 32, 49]⟩ : ByteArray)]) (ok := fun _ => True) (okp := fun _ => True) ?hr ?hp (fun _ hk => hk) trivial (Below.refl _ _) (Nat.le_refl _) (by simp) ?_; (case hd => rfl); (case hg => rfl); (case hr => first | (go_simp; done) | (go_simp; rfl)); (case hp => exact (Dv.one (show Kd.M Kd.string _ _ _ (⟨#[99, 111, 117, 110, 116]⟩ : ByteArray) [.string (⟨#[99, 111, 117, 110, 116]⟩ : ByteArray)] from rfl) (Dv.one (show Kd.M Kd.string _ _ _ (⟨#[115, 111, 114, 116, 32, 109, 101, 114, 103, 101]⟩ : ByteArray) [.string (⟨#[115, 111, 114, 116, 32, 109, 101, 114, 103, 101]⟩ : ByteArray)] from rfl) (Dv.one (show Kd.M Kd.string _ _ _ (⟨#[120]⟩ : ByteArray) [.string (⟨#[120]⟩ : ByteArray)] from rfl) (Dv.one (show Kd.M Kd.string _ _ _ (⟨#[115, 101, 108, 101, 99, 116, 32, 50]⟩ : ByteArray) [.string (⟨#[115, 101, 108, 101, 99, 116, 32, 50]⟩ : ByteArray)] from rfl) (Dv.one (show Kd.M Kd.string _ _ _ (⟨#[48, 32, 49]⟩ : ByteArray) [.string (⟨#[48, 32, 49]⟩ : ByteArray)] from rfl) (Dv.none _ _))))))); intro v442 w9 ho10 hb hg_ hnew_; clear hg_ hnew_; (first | rw [← Ny441.out] at ho10 | (simp only [Int.reduceToNat] at ho10; rw [← Ny441.out] at ho10)); have n0_ := Aside0.mk (Kd.En ho10 (D6 (w := w) (g := g) (row := none) Yi_)); have n1_ := Aside0.mk (IsS74.below Ycb_ hb); have n2_ := Aside0.mk (Ai (g := gb440) (o := .cells #[.string (⟨#[]⟩ : ByteArray), .string (⟨#[]⟩ : ByteArray)] 27 (0, 0)) Ybd_ hb); have n3_ := Aside0.mk (KeepBut.trans Yi_ (KeepBut.of_below hb g none) (.inl rfl)); have n4_ := Aside0.mk (Ag Ycc_ hb); clear HI0; clear BK440; clear HK; clear HB; have HO443 := n0_; have HI0 := n1_; have BK440 := n2_; have HK := n3_; have HB := n4_; clear n0_ n1_ n2_ n3_ n4_; clear hb ho10; obtain ⟨Ao11, co11, eo11⟩ := Kd.Eu HO443.out; subst eo11) | ((with_reducible refine Am (f := 72) rfl ?_); refine Be (some 6) rfl rfl Tryd.func72 (by kernel_rfl) rfl #[.pointer (some ⟨g, 0, none⟩), .slice Ao11 y441.length co11] rfl Yc_ ?_; (with_reducible refine (Dp.calls g s0_0 s0_1 s0_2 _ _ y441 t444 t445 t446 w0 _ ?side1 ?side2 ?side3 ?side4 ?side5 A2.out).mono ?_); (case side1 => repeat (first | (with_reducible first | exact HI0.out | apply IsS74.alloc | apply IsS74.drewN | apply IsS74.drew | apply IsS74.set_1 | apply IsS74.set_2 | refine IsS74.far ?_ NB0_440.out _) | exact HI0.out)); (case side2 => repeat (first | (with_reducible first | exact HB.out | apply below_alloc | apply pw_below_drewN | apply below_drew1 | refine below_set ?_ (IsS74.ge HI0.out) | refine below_set ?_ GE440.out) | exact HB.out)); (case side3 => repeat (first | exact (Kd.Ez HO443.out).2.2 | (with_reducible refine Kd.Hf ?_ _) | (with_reducible refine Kd.Hg ?_ _) | (with_reducible refine Kd.C_drew ?_))); (case side4 => exact (Kd.Ez HO443.out).2.1); (case side5 => exact Hq (IsS74.own_ne HI0.out HO443.out (by decide))); rintro e w12 ⟨rfl, hi, hb, hk⟩; refine ⟨_, rfl, ?_⟩; have n0_ := Aside0.mk (KeepBut.blk hk (g' := gb440) (o := .cells #[.string (⟨#[]⟩ : ByteArray), .string (⟨#[]⟩ : ByteArray)] 27 (0, 0)) Ybd_ NB440_0.out (by simp)); have n1_ := Aside0.mk (Kd.D5 (Kd.F7 (IsS74.apart (show IsS74 w0 _ g s0_0 s0_1 s0_2 from by repeat (first | (with_reducible first | exact HI0.out | apply IsS74.alloc | apply IsS74.drewN | apply IsS74.drew | apply IsS74.set_1 | apply IsS74.set_2 | refine IsS74.far ?_ NB0_440.out _) | exact HI0.out)) Ybh_ (by decide)) hk (fun _ h => h.2)) (fun _ h => h.1)); have n2_ := Aside0.mk (KeepBut.trans Yi_ hk (.inl rfl)); have n3_ := Aside0.mk (hb); have n4_ := Aside0.mk (hi); clear BK440; clear HO443; clear HK; clear HB; clear HI0; have BK440 := n0_; have HO443 := n1_; have HK := n2_; have HB := n3_; have HI0 := n4_; clear n0_ n1_ n2_ n3_ n4_; (try clear hb); (try clear hb2); (try clear hk); (try clear hi)) | ((with_reducible refine Bd (N := 8) rfl ?_); refine Kd.R_lit Kd.string _ 9 ?hg (N := 8) ?hd (xs := ([(⟨#[]⟩ : ByteArray), (⟨#[51]⟩ : ByteArray), (⟨#[63]⟩ : ByteArray), (⟨#[97, 64, 98]⟩ : ByteArray), (⟨#[51, 32, 49, 32, 50]⟩ : ByteArray)] : List ByteArray)) (inner := [.string (⟨#[]⟩ : ByteArray), .string (⟨#[51]⟩ : ByteArray), .string (⟨#[63]⟩ : ByteArray), .string (⟨#[97, 64, 98]⟩ : ByteArray), .string (⟨#[51, 32, 49, 32, 50]⟩ : ByteArray)]) (ok := fun _ => True) (okp := fun _ => True) ?hr ?hp (fun _ hk => hk) trivial (Below.refl _ _) (Nat.le_refl _) (by simp) ?_; (case hd => rfl); (case hg => rfl); (case hr => first | (go_simp; done) | (go_simp; rfl)); (case hp => exact (Dv.one (show Kd.M Kd.string _ _ _ (⟨#[]⟩ : ByteArray) [.string (⟨#[]⟩ : ByteArray)] from rfl) (Dv.one (show Kd.M Kd.string _ _ _ (⟨#[51]⟩ : ByteArray) [.string (⟨#[51]⟩ : ByteArray)] from rfl) (Dv.one (show Kd.M Kd.string _ _ _ (⟨#[63]⟩ : ByteArray) [.string (⟨#[63]⟩ : ByteArray)] from rfl) (Dv.one (show Kd.M Kd.string _ _ _ (⟨#[97, 64, 98]⟩ : ByteArray) [.string (⟨#[97, 64, 98]⟩ : ByteArray)] from rfl) (Dv.one (show Kd.M Kd.string _ _ _ (⟨#[51, 32, 49, 32, 50]⟩ : ByteArray) [.string (⟨#[51, 32, 49, 32, 50]⟩ : ByteArray)] from rfl) (Dv.none _ _))))))); intro v448 w13 ho14 hb hg_ hnew_; clear hg_ hnew_; (first | rw [← Ny447.out] at ho14 | (simp only [Int.reduceToNat] at ho14; rw [← Ny447.out] at ho14)); have n0_ := Aside0.mk (Kd.He Ybh_ (Kd.R_base ho14) hb); have n1_ := Aside0.mk (Kd.En (Kd.R_new' ho14 (Kd.R_lt Ybh_)) (D6 (w := w) (g := g) (row := none) Yi_)); have n2_ := Aside0.mk (IsS74.below Ycb_ hb); have n3_ := Aside0.mk (Ai (g := gb440) (o := .cells #[.string (⟨#[]⟩ : ByteArray), .string (⟨#[]⟩ : ByteArray)] 27 (0, 0)) Ybd_ hb); have n4_ := Aside0.mk (KeepBut.trans Yi_ (KeepBut.of_below hb g none) (.inl rfl)); have n5_ := Aside0.mk (Ag Ycc_ hb); clear HO443; clear HI0; clear BK440; clear HK; clear HB; have HO443 := n0_; have HO449 := n1_; have HI0 := n2_; have BK440 := n3_; have HK := n4_; have HB := n5_; clear n0_ n1_ n2_ n3_ n4_ n5_; clear hb ho14; obtain ⟨Ao15, co15, eo15⟩ := Kd.Eu HO449.out; subst eo15) | ((with_reducible refine Am (f := 72) rfl ?_); refine Be (some 9) rfl rfl Tryd.func72 (by kernel_rfl) rfl #[.pointer (some ⟨g, 0, none⟩), .slice Ao15 y447.length co15] rfl Yc_ ?_; (with_reducible refine (Dp.calls g s0_0 t445 t446 _ _ y447 t450 t451 t452 w0 _ ?side1 ?side2 ?side3 ?side4 ?side5 A3.out).mono ?_); (case side1 => repeat (first | (with_reducible first | exact HI0.out | apply IsS74.alloc | apply IsS74.drewN | apply IsS74.drew | apply IsS74.set_1 | apply IsS74.set_2 | refine IsS74.far ?_ NB0_440.out _) | exact HI0.out)); (case side2 => repeat (first | (with_reducible first | exact HB.out | apply below_alloc | apply pw_below_drewN | apply below_drew1 | refine below_set ?_ (IsS74.ge HI0.out) | refine below_set ?_ GE440.out) | exact HB.out)); (case side3 => repeat (first | exact (Kd.Ez HO449.out).2.2 | (with_reducible refine Kd.Hf ?_ _) | (with_reducible refine Kd.Hg ?_ _) | (with_reducible refine Kd.C_drew ?_))); (case side4 => exact (Kd.Ez HO449.out).2.1); (case side5 => exact Hq (IsS74.own_ne HI0.out HO449.out (by decide))); rintro e w16 ⟨rfl, hi, hb, hk⟩; refine ⟨_, rfl, ?_⟩; have n0_ := Aside0.mk (KeepBut.blk hk (g' := gb440) (o := .cells #[.string (⟨#[]⟩ : ByteArray), .string (⟨#[]⟩ : ByteArray)] 27 (0, 0)) Ybd_ NB440_0.out (by simp)); have n1_ := Aside0.mk (Kd.D5 (Kd.F7 (IsS74.apart (show IsS74 w0 _ g s0_0 t445 t446 from by repeat (first | (with_reducible first | exact HI0.out | apply IsS74.alloc | apply IsS74.drewN | apply IsS74.drew | apply IsS74.set_1 | apply IsS74.set_2 | refine IsS74.far ?_ NB0_440.out _) | exact HI0.out)) Ybh_ (by decide)) hk (fun _ h => h.2)) (fun _ h => h.1)); have n2_ := Aside0.mk (Kd.D5 (Kd.F7 (IsS74.apart (show IsS74 w0 _ g s0_0 t445 t446 from by repeat (first | (with_reducible first | exact HI0.out | apply IsS74.alloc | apply IsS74.drewN | apply IsS74.drew | apply IsS74.set_1 | apply IsS74.set_2 | refine IsS74.far ?_ NB0_440.out _) | exact HI0.out)) Ydc_ (by decide)) hk (fun _ h => h.2)) (fun _ h => h.1)); have n3_ := Aside0.mk (KeepBut.trans Yi_ hk (.inl rfl)); have n4_ := Aside0.mk (hb); have n5_ := Aside0.mk (hi); clear BK440; clear HO443; clear HO449; clear HK; clear HB; clear HI0; have BK440 := n0_; have HO443 := n1_; have HO449 := n2_; have HK := n3_; have HB := n4_; have HI0 := n5_; clear n0_ n1_ n2_ n3_ n4_ n5_; (try clear hb); (try clear hb2); (try clear hk); (try clear hi)) | ((with_reducible refine Bd (N := 3) rfl ?_); refine Bc ?hg (N := 3) ?hd (cs := #[.string (⟨#[]⟩ : ByteArray), .string (⟨#[]⟩ : ByteArray)]) (t := 27) ?hr ?_; (case hd => rfl); (case hg => rfl); (case hr => first | (go_simp; done) | (go_simp; rfl)); intro gb453 hg w17 hbox hb; have n0_ := Aside0.mk (Kd.Eb Ybh_ hb); have n1_ := Aside0.mk (Kd.Eb Ydc_ hb); have n2_ := Aside0.mk (IsS74.below Ycb_ hb); have n3_ := Aside0.mk (Ai (g := gb440) (o := .cells #[.string (⟨#[]⟩ : ByteArray), .string (⟨#[]⟩ : ByteArray)] 27 (0, 0)) Ybd_ hb); have n4_ := Aside0.mk (KeepBut.trans Yi_ (KeepBut.of_below hb g none) (.inl rfl)); have n5_ := Aside0.mk (Ag Ycc_ hb); have n6_ := Aside0.mk (hbox); have n7_ := Aside0.mk ((by rw [hg]; exact (D6 (w := w) (g := g) (row := none) Yi_) : w.heap.size ≤ gb453)); have n8_ := Aside0.mk ((Nat.le_trans HW0.out (by rw [hg]; exact (D6 (w := w) (g := g) (row := none) Yi_) : w.heap.size ≤ gb453) : w0.heap.size ≤ gb453)); have n9_ := Aside0.mk ((by rw [hg]; exact Nat.ne_of_lt (Cf (g := gb440) (o := .cells #[.string (⟨#[]⟩ : ByteArray), .string (⟨#[]⟩ : ByteArray)] 27 (0, 0)) Ybd_) : gb440 ≠ gb453)); have n10_ := Aside0.mk ((by rw [hg]; exact Nat.ne_of_gt (Cf (g := gb440) (o := .cells #[.string (⟨#[]⟩ : ByteArray), .string (⟨#[]⟩ : ByteArray)] 27 (0, 0)) Ybd_) : gb453 ≠ gb440)); have n11_ := Aside0.mk ((by rw [hg]; exact Nat.ne_of_lt (IsS74.lt (show IsS74 w0 _ g s0_0 t451 t452 from by repeat (first | (with_reducible first | exact HI0.out | apply IsS74.alloc | apply IsS74.drewN | apply IsS74.drew | apply IsS74.set_1 | apply IsS74.set_2 | refine IsS74.far ?_ NB0_440.out _) | exact HI0.out))) : g ≠ gb453)); have n12_ := Aside0.mk ((by rw [hg]; exact Nat.ne_of_gt (IsS74.lt (show IsS74 w0 _ g s0_0 t451 t452 from by repeat (first | (with_reducible first | exact HI0.out | apply IsS74.alloc | apply IsS74.drewN | apply IsS74.drew | apply IsS74.set_1 | apply IsS74.set_2 | refine IsS74.far ?_ NB0_440.out _) | exact HI0.out))) : gb453 ≠ g)); clear HO443; clear HO449; clear HI0; clear BK440; clear HK; clear HB; have HO443 := n0_; have HO449 := n1_; have HI0 := n2_; have BK440 := n3_; have HK := n4_; have HB := n5_; have BK453 := n6_; have GW453 := n7_; have GE453 := n8_; have NB440_453 := n9_; have NB453_440 := n10_; have NB0_453 := n11_; have NB453_0 := n12_; clear n0_ n1_ n2_ n3_ n4_ n5_ n6_ n7_ n8_ n9_ n10_ n11_ n12_; clear hb hbox hg; have hnb18 := NB453_440.out; have hnc18 := NB440_453.out; have hnb19 := NB453_0.out; have hnc19 := NB0_453.out; have hcz20_0 : w17.cell? ⟨gb453, 0, none⟩ = some (.string (⟨#[]⟩ : ByteArray)) := (Ae BK453.out 0).trans rfl; have hcz20_1 : w17.cell? ⟨gb453, 1, none⟩ = some (.string (⟨#[]⟩ : ByteArray)) := (Ae BK453.out 1).trans rfl; have hfz20_0 := Af BK453.out 0; have hfz20_1 := Af BK453.out 1) | ((with_reducible refine Am (f := 55) rfl ?_); refine Be (some 12) rfl rfl Tryd.func55 (by kernel_rfl) rfl #[.pointer (some ⟨g, 0, none⟩), .int .i64 24] rfl Yc_ ?_; (with_reducible refine (spec_l1Cur_pick.calls g s0_0 t451 t452 24 t454 t455 t456 w0 _ ?side1 ?side2 A4.out).mono ?_); (case side1 => repeat (first | (with_reducible first | exact HI0.out | apply IsS74.alloc | apply IsS74.drewN | apply IsS74.drew | apply IsS74.set_1 | apply IsS74.set_2 | refine IsS74.far ?_ NB0_440.out _ | refine IsS74.far ?_ NB0_453.out _) | exact HI0.out)); (case side2 => repeat (first | (with_reducible first | exact HB.out | apply below_alloc | apply pw_below_drewN | apply below_drew1 | refine below_set ?_ (IsS74.ge HI0.out) | refine below_set ?_ GE440.out | refine below_set ?_ GE453.out) | exact HB.out)); rintro e w21 ⟨rfl, hi, hb, hk⟩; refine ⟨_, rfl, ?_⟩; have n0_ := Aside0.mk (KeepBut.blk hk (g' := gb440) (o := .cells #[.string (⟨#[]⟩ : ByteArray), .string (⟨#[]⟩ : ByteArray)] 27 (0, 0)) Yee_ NB440_0.out (by simp)); have n1_ := Aside0.mk (Kd.D5 (Kd.F7 (IsS74.apart (show IsS74 w0 _ g s0_0 t451 t452 from by repeat (first | (with_reducible first | exact HI0.out | apply IsS74.alloc | apply IsS74.drewN | apply IsS74.drew | apply IsS74.set_1 | apply IsS74.set_2 | refine IsS74.far ?_ NB0_440.out _ | refine IsS74.far ?_ NB0_453.out _) | exact HI0.out)) Yfb_ (by decide)) hk (fun _ h => h.2)) (fun _ h => h.1)); have n2_ := Aside0.mk (Kd.D5 (Kd.F7 (IsS74.apart (show IsS74 w0 _ g s0_0 t451 t452 from by repeat (first | (with_reducible first | exact HI0.out | apply IsS74.alloc | apply IsS74.drewN | apply IsS74.drew | apply IsS74.set_1 | apply IsS74.set_2 | refine IsS74.far ?_ NB0_440.out _ | refine IsS74.far ?_ NB0_453.out _) | exact HI0.out)) Yfc_ (by decide)) hk (fun _ h => h.2)) (fun _ h => h.1)); have n3_ := Aside0.mk (KeepBut.blk hk (g' := gb453) (o := .cells #[.string t444, .string t450] 27 (0, 0)) Ydd_ NB453_0.out (by simp)); have n4_ := Aside0.mk (KeepBut.trans Ybg_ hk (.inl rfl)); have n5_ := Aside0.mk (hb); have n6_ := Aside0.mk (hi); clear BK440; clear HO443; clear HO449; clear BK453; clear HK; clear HB; clear HI0; have BK440 := n0_; have HO443 := n1_; have HO449 := n2_; have BK453 := n3_; have HK := n4_; have HB := n5_; have HI0 := n6_; clear n0_ n1_ n2_ n3_ n4_ n5_ n6_; (try clear hb); (try clear hb2); (try clear hk); (try clear hi)) | ((with_reducible refine Bd (N := 16) rfl ?_); refine Kd.R_make (Kd.int .u8) _ 5 rfl (N := 16) rfl 53 _ _ rfl 3 rfl rfl Tryd.underlying53 (.int .u8 0) 1 info5 rfl (by decide) (by omega) 0 (ok := fun _ => True) (okp := fun _ => True) rfl (fun _ hk => hk) trivial (by omega) (by omega) (Below.refl _ _) (Nat.le_refl _) ?_; intro v458 w22 ho23 hb hg_ hnew_; clear hg_ hnew_; (first | rw [← Ny457.out] at ho23 | (simp only [Int.reduceToNat] at ho23; rw [← Ny457.out] at ho23)); have n0_ := Aside0.mk (Kd.Eb Ybh_ hb); have n1_ := Aside0.mk (Kd.Eb Ydc_ hb); have n2_ := Aside0.mk (Kd.En ho23 (D6 (w := w) (g := g) (row := none) Ybg_)); have n3_ := Aside0.mk (IsS74.below Yfd_ hb); have n4_ := Aside0.mk (Ai (g := gb440) (o := .cells #[.string (⟨#[]⟩ : ByteArray), .string (⟨#[]⟩ : ByteArray)] 27 (0, 0)) Ybd_ hb); have n5_ := Aside0.mk (Ai (g := gb453) (o := .cells #[.string t444, .string t450] 27 (0, 0)) Ygc_ hb); have n6_ := Aside0.mk (KeepBut.trans Ybg_ (KeepBut.of_below hb g none) (.inl rfl)); have n7_ := Aside0.mk (Ag Yff_ hb); clear HO443; clear HO449; clear HI0; clear BK440; clear BK453; clear HK; clear HB; have HO443 := n0_; have HO449 := n1_; have HO459 := n2_; have HI0 := n3_; have BK440 := n4_; have BK453 := n5_; have HK := n6_; have HB := n7_; clear n0_ n1_ n2_ n3_ n4_ n5_ n6_ n7_; clear hb ho23; have hcv24 := own_string (P := Tryd.prog) Tryd.underlying53 Tryd.underlying5 Tryd.underlying9 (Kd.own_of_R HO459.out)) | ((with_reducible refine Bd (N := 18) rfl ?_); refine Kd.R_lit Kd.string _ 9 ?hg (N := 18) ?hd (xs := ([(⟨#[]⟩ : ByteArray), (⟨#[97, 64, 98]⟩ : ByteArray), (⟨#[97, 35]⟩ : ByteArray), (⟨#[10]⟩ : ByteArray), strOfNums y457] : List ByteArray)) (inner := [.string (⟨#[]⟩ : ByteArray), .string (⟨#[97, 64, 98]⟩ : ByteArray), .string (⟨#[97, 35]⟩ : ByteArray), .string (⟨#[10]⟩ : ByteArray), .string (strOfNums y457)]) (ok := fun _ => True) (okp := fun _ => True) ?hr ?hp (fun _ hk => hk) trivial (Below.refl _ _) (Nat.le_refl _) (by simp) ?_; (case hd => rfl); (case hg => rfl); (case hr => first | (go_simp; done) | (go_simp; rfl)); (case hp => exact (Dv.one (show Kd.M Kd.string _ _ _ (⟨#[]⟩ : ByteArray) [.string (⟨#[]⟩ : ByteArray)] from rfl) (Dv.one (show Kd.M Kd.string _ _ _ (⟨#[97, 64, 98]⟩ : ByteArray) [.string (⟨#[97, 64, 98]⟩ : ByteArray)] from rfl) (Dv.one (show Kd.M Kd.string _ _ _ (⟨#[97, 35]⟩ : ByteArray) [.string (⟨#[97, 35]⟩ : ByteArray)] from rfl) (Dv.one (show Kd.M Kd.string _ _ _ (⟨#[10]⟩ : ByteArray) [.string (⟨#[10]⟩ : ByteArray)] from rfl) (Dv.one (show Kd.M Kd.string _ _ _ (strOfNums y457) [.string (strOfNums y457)] from rfl) (Dv.none _ _))))))); intro v461 w25 ho26 hb hg_ hnew_; clear hg_ hnew_; (first | rw [← Ny460.out] at ho26 | (simp only [Int.reduceToNat] at ho26; rw [← Ny460.out] at ho26)); have n0_ := Aside0.mk (Kd.He Ybh_ (Kd.R_base ho26) hb); have n1_ := Aside0.mk (Kd.He Ydc_ (Kd.R_base ho26) hb); have n2_ := Aside0.mk (Kd.Eb (by (with_reducible repeat (first | apply Kd.Bo | apply Kd.Bl | apply Kd.Cb)); exact HO459.out) hb); have n3_ := Aside0.mk (Kd.En (Kd.R_new' (Kd.R_new' ho26 (Kd.R_lt Ybh_)) (Kd.R_lt Ydc_)) (D6 (w := w) (g := g) (row := none) Ybg_)); have n4_ := Aside0.mk (IsS74.below Yfd_ hb); have n5_ := Aside0.mk (Ai (g := gb440) (o := .cells #[.string (⟨#[]⟩ : ByteArray), .string (⟨#[]⟩ : ByteArray)] 27 (0, 0)) Ybd_ hb); have n6_ := Aside0.mk (Ai (g := gb453) (o := .cells #[.string t444, .string t450] 27 (0, 0)) Ygc_ hb); have n7_ := Aside0.mk (KeepBut.trans Ybg_ (KeepBut.of_below hb g none) (.inl rfl)); have n8_ := Aside0.mk (Ag Yff_ hb); clear HO443; clear HO449; clear HO459; clear HI0; clear BK440; clear BK453; clear HK; clear HB; have HO443 := n0_; have HO449 := n1_; have HO459 := n2_; have HO462 := n3_; have HI0 := n4_; have BK440 := n5_; have BK453 := n6_; have HK := n7_; have HB := n8_; clear n0_ n1_ n2_ n3_ n4_ n5_ n6_ n7_ n8_; clear hb ho26; obtain ⟨Ao27, co27, eo27⟩ := Kd.Eu HO462.out; subst eo27) | ((with_reducible refine Am (f := 72) rfl ?_); refine Be (some 19) rfl rfl Tryd.func72 (by kernel_rfl) rfl #[.pointer (some ⟨g, 0, none⟩), .slice Ao27 y460.length co27] rfl Yc_ ?_; (with_reducible refine (Dp.calls g s0_0 t455 t456 _ _ y460 t463 t464 t465 w0 _ ?side1 ?side2 ?side3 ?side4 ?side5 A7.out).mono ?_); (case side1 => repeat (first | (with_reducible first | exact HI0.out | apply IsS74.alloc | apply IsS74.drewN | apply IsS74.drew | apply IsS74.set_1 | apply IsS74.set_2 | refine IsS74.far ?_ NB0_440.out _ | refine IsS74.far ?_ NB0_453.out _) | exact HI0.out)); (case side2 => repeat (first | (with_reducible first | exact HB.out | apply below_alloc | apply pw_below_drewN | apply below_drew1 | refine below_set ?_ (IsS74.ge HI0.out) | refine below_set ?_ GE440.out | refine below_set ?_ GE453.out) | exact HB.out)); (case side3 => repeat (first | exact (Kd.Ez HO462.out).2.2 | (with_reducible refine Kd.Hf ?_ _) | (with_reducible refine Kd.Hg ?_ _) | (with_reducible refine Kd.C_drew ?_))); (case side4 => exact (Kd.Ez HO462.out).2.1); (case side5 => exact Hq (IsS74.own_ne HI0.out HO462.out (by decide))); rintro e w28 ⟨rfl, hi, hb, hk⟩; refine ⟨_, rfl, ?_⟩; have n0_ := Aside0.mk (KeepBut.blk hk (g' := gb440) (o := .cells #[.string (⟨#[]⟩ : ByteArray), .string (⟨#[]⟩ : ByteArray)] 27 (0, 0)) Ybd_ NB440_0.out (by simp)); have n1_ := Aside0.mk (Kd.D5 (Kd.F7 (IsS74.apart (show IsS74 w0 _ g s0_0 t455 t456 from by repeat (first | (with_reducible first | exact HI0.out | apply IsS74.alloc | apply IsS74.drewN | apply IsS74.drew | apply IsS74.set_1 | apply IsS74.set_2 | refine IsS74.far ?_ NB0_440.out _ | refine IsS74.far ?_ NB0_453.out _) | exact HI0.out)) Ybh_ (by decide)) hk (fun _ h => h.2)) (fun _ h => h.1)); have n2_ := Aside0.mk (Kd.D5 (Kd.F7 (IsS74.apart (show IsS74 w0 _ g s0_0 t455 t456 from by repeat (first | (with_reducible first | exact HI0.out | apply IsS74.alloc | apply IsS74.drewN | apply IsS74.drew | apply IsS74.set_1 | apply IsS74.set_2 | refine IsS74.far ?_ NB0_440.out _ | refine IsS74.far ?_ NB0_453.out _) | exact HI0.out)) Ydc_ (by decide)) hk (fun _ h => h.2)) (fun _ h => h.1)); have n3_ := Aside0.mk (KeepBut.blk hk (g' := gb453) (o := .cells #[.string t444, .string t450] 27 (0, 0)) Ygc_ NB453_0.out (by simp)); have n4_ := Aside0.mk (Kd.D5 (Kd.F7 (IsS74.apart (show IsS74 w0 _ g s0_0 t455 t456 from by repeat (first | (with_reducible first | exact HI0.out | apply IsS74.alloc | apply IsS74.drewN | apply IsS74.drew | apply IsS74.set_1 | apply IsS74.set_2 | refine IsS74.far ?_ NB0_440.out _ | refine IsS74.far ?_ NB0_453.out _) | exact HI0.out)) (by (with_reducible repeat (first | apply Kd.Bo | apply Kd.Bl | apply Kd.Cb)); exact HO459.out) (by decide)) hk (fun _ h => h.2)) (fun _ h => h.1)); have n5_ := Aside0.mk (Kd.D5 (Kd.F7 (IsS74.apart (show IsS74 w0 _ g s0_0 t455 t456 from by repeat (first | (with_reducible first | exact HI0.out | apply IsS74.alloc | apply IsS74.drewN | apply IsS74.drew | apply IsS74.set_1 | apply IsS74.set_2 | refine IsS74.far ?_ NB0_440.out _ | refine IsS74.far ?_ NB0_453.out _) | exact HI0.out)) (by (with_reducible repeat (first | apply Kd.Bo | apply Kd.Bl | apply Kd.Cb)); exact HO462.out) (by decide)) hk (fun _ h => h.2)) (fun _ h => h.1)); have n6_ := Aside0.mk (KeepBut.trans Ybg_ hk (.inl rfl)); have n7_ := Aside0.mk (hb); have n8_ := Aside0.mk (hi); clear BK440; clear HO443; clear HO449; clear BK453; clear HO459; clear HO462; clear HK; clear HB; clear HI0; have BK440 := n0_; have HO443 := n1_; have HO449 := n2_; have BK453 := n3_; have HO459 := n4_; have HO462 := n5_; have HK := n6_; have HB := n7_; have HI0 := n8_; clear n0_ n1_ n2_ n3_ n4_ n5_ n6_ n7_ n8_; (try clear hb); (try clear hb2); (try clear hk); (try clear hi); have hcz29_0 : w28.cell? ⟨gb453, 0, none⟩ = some (.string t444) := (Ae BK453.out 0).trans rfl; have hcz29_1 : w28.cell? ⟨gb453, 1, none⟩ = some (.string t450) := (Ae BK453.out 1).trans rfl; have hfz29_0 := Af BK453.out 0; have hfz29_1 := Af BK453.out 1; have hnb30 := NB440_0.out; have hnc30 := NB0_440.out; have hcz31_0 : w28.cell? ⟨gb440, 0, none⟩ = some (.string (⟨#[]⟩ : ByteArray)) := (Ae BK440.out 0).trans rfl; have hcz31_1 : w28.cell? ⟨gb440, 1, none⟩ = some (.string (⟨#[]⟩ : ByteArray)) := (Ae BK440.out 1).trans rfl; have hfz31_0 := Af BK440.out 0; have hfz31_1 := Af BK440.out 1))
      refine bodyPost_ret (results_cell_row rfl _ _ gb440 27 #[.string t463, .string t450] (0, 0) _ rfl (by (with_reducible repeat (first | refine Aa ?_ _ | refine Ad ?_ | refine Ac ?_ _)); refine Ar (cs := #[.string t463, .string (⟨#[]⟩ : ByteArray)]) ?_ 1 _ rfl; (with_reducible repeat (first | refine Aa ?_ _ | refine Ad ?_ | refine Ac ?_ _)); refine Ar (cs := #[.string (⟨#[]⟩ : ByteArray), .string (⟨#[]⟩ : ByteArray)]) ?_ 0 _ rfl; (with_reducible repeat (first | refine Aa ?_ _ | refine Ad ?_ | refine Ac ?_ _)); refine Aq ?_ NB440_453.out _; (with_reducible repeat (first | refine Aa ?_ _ | refine Ad ?_ | refine Ac ?_ _)); exact BK440.out) Tryd.underlying27 rfl (by kernel_rfl)) rfl ?_
      exact ⟨by first | rfl | (simp [Ak, Aj] <;> rfl) | (simp [*, Ak, Aj] <;> rfl), by repeat (first | (with_reducible first | exact HI0.out | apply IsS74.alloc | apply IsS74.drewN | apply IsS74.drew | apply IsS74.set_1 | apply IsS74.set_2 | refine IsS74.far ?_ NB0_440.out _ | refine IsS74.far ?_ NB0_453.out _) | exact HI0.out), by repeat (first | (with_reducible first | exact HB.out | apply below_alloc | apply pw_below_drewN | apply below_drew1 | refine below_set ?_ (IsS74.ge HI0.out) | refine below_set ?_ GE440.out | refine below_set ?_ GE453.out) | exact HB.out), by repeat (first | (with_reducible first | exact HK.out | apply KeepBut.set_ | apply keep_drewN | apply keep_drew | apply keep_alloc | refine Bi ?_ GW440.out _ | refine Bi ?_ GW453.out _) | exact HK.out)⟩
    · rw [if_neg c6] at H
      exact absurd H (by simp)
  · rw [if_neg c5] at H
    have c5b0 : (t454 == 0) = false := beq_eq_false_iff_ne.mpr c5
    have c5b1 : (t454 != 0) = true := bne_iff_ne.mpr c5
    by_cases c32 : t454 = 1
    · rw [if_pos c32] at H
      have c32b0 : (t454 == 1) = true := beq_iff_eq.mpr c32
      have c32b1 : (t454 != 1) = false := bne_eq_false_iff_eq.mpr c32
      clear c32
      obtain ⟨y466, hy466⟩ : ∃ y_ : List ByteArray, y_ = (([(⟨#[35]⟩ : ByteArray), (⟨#[10]⟩ : ByteArray), (⟨#[127]⟩ : ByteArray)] : List ByteArray)) := ⟨_, rfl⟩
      replace H : ((Dp.f s0_0 t455 t456 y466).bind fun bt469 => (some (t444, bt469.1, bt469.2.1, bt469.2.2))) = some (r1, r2, r3, r4) := by first | (rw [hy466]; with_reducible exact H) | (have H2_ := (Option.bind_some _ _).symm.trans H; rw [hy466]; with_reducible exact H2_) | (have H2_ := (Option.bind_some _ _).symm.trans H; with_reducible exact H2_) | with_reducible exact H | (rw [hy466]; exact H) | exact H
      have Ny466 := Aside0.mk hy466
      clear hy466
      replace H := Option.bind_eq_some_iff.mp H
      obtain ⟨⟨t469, t470, t471⟩, A330, H⟩ := H
      replace H : (some (t444, t469, t470, t471)) = some (r1, r2, r3, r4) := H
      have A33 := Aside0.mk A330
      clear A330
      simp only [Option.some.injEq, Prod.mk.injEq] at H
      obtain ⟨rfl, rfl, rfl, rfl⟩ := H
      go_enter Tryd.func56, Tryd.ntmps56
      go_wp2_with (first | ((with_reducible refine Bd (N := 2) rfl ?_); refine Bc ?hg (N := 2) ?hd (cs := #[.string (⟨#[]⟩ : ByteArray), .string (⟨#[]⟩ : ByteArray)]) (t := 27) ?hr ?_; (case hd => rfl); (case hg => rfl); (case hr => first | (go_simp; done) | (go_simp; rfl)); intro gb440 hg w34 hbox hb; have n0_ := Aside0.mk (IsS74.below Yci_ hb); have n1_ := Aside0.mk (KeepBut.trans Yg_ (KeepBut.of_below hb g none) (.inl rfl)); have n2_ := Aside0.mk (Ag Ych_ hb); have n3_ := Aside0.mk (hbox); have n4_ := Aside0.mk ((by rw [hg]; exact (D6 (w := w) (g := g) (row := none) Yg_) : w.heap.size ≤ gb440)); have n5_ := Aside0.mk ((Nat.le_trans HW0.out (by rw [hg]; exact (D6 (w := w) (g := g) (row := none) Yg_) : w.heap.size ≤ gb440) : w0.heap.size ≤ gb440)); have n6_ := Aside0.mk ((by rw [hg]; exact Nat.ne_of_lt (IsS74.lt (show IsS74 w0 _ g s0_0 s0_1 s0_2 from by repeat (first | (with_reducible first | exact HI0.out | apply IsS74.alloc | apply IsS74.drewN | apply IsS74.drew | apply IsS74.set_1 | apply IsS74.set_2) | exact HI0.out))) : g ≠ gb440)); have n7_ := Aside0.mk ((by rw [hg]; exact Nat.ne_of_gt (IsS74.lt (show IsS74 w0 _ g s0_0 s0_1 s0_2 from by repeat (first | (with_reducible first | exact HI0.out | apply IsS74.alloc | apply IsS74.drewN | apply IsS74.drew | apply IsS74.set_1 | apply IsS74.set_2) | exact HI0.out))) : gb440 ≠ g)); clear HI0; clear HK; clear HB; have HI0 := n0_; have HK := n1_; have HB := n2_; have BK440 := n3_; have GW440 := n4_; have GE440 := n5_; have NB0_440 := n6_; have NB440_0 := n7_; clear n0_ n1_ n2_ n3_ n4_ n5_ n6_ n7_; clear hb hbox hg) | ((with_reducible refine Bd (N := 5) rfl ?_); refine Kd.R_lit Kd.string _ 9 ?hg (N := 5) ?hd (xs := ([(⟨#[99, 111, 117, 110, 116]⟩ : ByteArray), (⟨#[115, 111, 114, 116, 32, 109, 101, 114, 103, 101]⟩ : ByteArray), (⟨#[120]⟩ : ByteArray), (⟨#[115, 101, 108, 101, 99, 116, 32, 50]⟩ : ByteArray), (⟨#[48, 32, 49]⟩ : ByteArray)] : List ByteArray)) (inner := [.string (⟨#[99, 111, 117, 110, 116]⟩ : ByteArray), .string (⟨#[115, 111, 114, 116, 32, 109, 101, 114, 103, 101]⟩ : ByteArray), .string (⟨#[120]⟩ : ByteArray), .string (⟨#[115, 101, 108, 101, 99, 116, 32, 50]⟩ : ByteArray), .string (⟨#[48, 32, 49]⟩ : ByteArray)]) (ok := fun _ => True) (okp := fun _ => True) ?hr ?hp (fun _ hk => hk) trivial (Below.refl _ _) (Nat.le_refl _) (by simp) ?_; (case hd => rfl); (case hg => rfl); (case hr => first | (go_simp; done) | (go_simp; rfl)); (case hp => exact (Dv.one (show Kd.M Kd.string _ _ _ (⟨#[99, 111, 117, 110, 116]⟩ : ByteArray) [.string (⟨#[99, 111, 117, 110, 116]⟩ : ByteArray)] from rfl) (Dv.one (show Kd.M Kd.string _ _ _ (⟨#[115, 111, 114, 116, 32, 109, 101, 114, 103, 101]⟩ : ByteArray) [.string (⟨#[115, 111, 114, 116, 32, 109, 101, 114, 103, 101]⟩ : ByteArray)] from rfl) (Dv.one (show Kd.M Kd.string _ _ _ (⟨#[120]⟩ : ByteArray) [.string (⟨#[120]⟩ : ByteArray)] from rfl) (Dv.one (show Kd.M Kd.string _ _ _ (⟨#[115, 101, 108, 101, 99, 116, 32, 50]⟩ : ByteArray) [.string (⟨#[115, 101, 108, 101, 99, 116, 32, 50]⟩ : ByteArray)] from rfl) (Dv.one (show Kd.M Kd.string _ _ _ (⟨#[48, 32, 49]⟩ : ByteArray) [.string (⟨#[48, 32, 49]⟩ : ByteArray)] from rfl) (Dv.none _ _))))))); intro v442 w35 ho36 hb hg_ hnew_; clear hg_ hnew_; (first | rw [← Ny441.out] at ho36 | (simp only [Int.reduceToNat] at ho36; rw [← Ny441.out] at ho36)); have n0_ := Aside0.mk (Kd.En ho36 (D6 (w := w) (g := g) (row := none) Yi_)); have n1_ := Aside0.mk (IsS74.below Ycb_ hb); have n2_ := Aside0.mk (Ai (g := gb440) (o := .cells #[.string (⟨#[]⟩ : ByteArray), .string (⟨#[]⟩ : ByteArray)] 27 (0, 0)) Ybd_ hb); have n3_ := Aside0.mk (KeepBut.trans Yi_ (KeepBut.of_below hb g none) (.inl rfl)); have n4_ := Aside0.mk (Ag Ycc_ hb); clear HI0; clear BK440; clear HK; clear HB; have HO443 := n0_; have HI0 := n1_; have BK440 := n2_; have HK := n3_; have HB := n4_; clear n0_ n1_ n2_ n3_ n4_; clear hb ho36; obtain ⟨Ao37, co37, eo37⟩ := Kd.Eu HO443.out; subst eo37) | ((with_reducible refine Am (f := 72) rfl ?_); refine Be (some 6) rfl rfl Tryd.func72 (by kernel_rfl) rfl #[.pointer (some ⟨g, 0, none⟩), .slice Ao37 y441.length co37] rfl Yc_ ?_; (with_reducible refine (Dp.calls g s0_0 s0_1 s0_2 _ _ y441 t444 t445 t446 w0 _ ?side1 ?side2 ?side3 ?side4 ?side5 A2.out).mono ?_); (case side1 => repeat (first | (with_reducible first | exact HI0.out | apply IsS74.alloc | apply IsS74.drewN | apply IsS74.drew | apply IsS74.set_1 | apply IsS74.set_2 | refine IsS74.far ?_ NB0_440.out _) | exact HI0.out)); (case side2 => repeat (first | (with_reducible first | exact HB.out | apply below_alloc | apply pw_below_drewN | apply below_drew1 | refine below_set ?_ (IsS74.ge HI0.out) | refine below_set ?_ GE440.out) | exact HB.out)); (case side3 => repeat (first | exact (Kd.Ez HO443.out).2.2 | (with_reducible refine Kd.Hf ?_ _) | (with_reducible refine Kd.Hg ?_ _) | (with_reducible refine Kd.C_drew ?_))); (case side4 => exact (Kd.Ez HO443.out).2.1); (case side5 => exact Hq (IsS74.own_ne HI0.out HO443.out (by decide))); rintro e w38 ⟨rfl, hi, hb, hk⟩; refine ⟨_, rfl, ?_⟩; have n0_ := Aside0.mk (KeepBut.blk hk (g' := gb440) (o := .cells #[.string (⟨#[]⟩ : ByteArray), .string (⟨#[]⟩ : ByteArray)] 27 (0, 0)) Ybd_ NB440_0.out (by simp)); have n1_ := Aside0.mk (Kd.D5 (Kd.F7 (IsS74.apart (show IsS74 w0 _ g s0_0 s0_1 s0_2 from by repeat (first | (with_reducible first | exact HI0.out | apply IsS74.alloc | apply IsS74.drewN | apply IsS74.drew | apply IsS74.set_1 | apply IsS74.set_2 | refine IsS74.far ?_ NB0_440.out _) | exact HI0.out)) Ybh_ (by decide)) hk (fun _ h => h.2)) (fun _ h => h.1)); have n2_ := Aside0.mk (KeepBut.trans Yi_ hk (.inl rfl)); have n3_ := Aside0.mk (hb); have n4_ := Aside0.mk (hi); clear BK440; clear HO443; clear HK; clear HB; clear HI0; have BK440 := n0_; have HO443 := n1_; have HK := n2_; have HB := n3_; have HI0 := n4_; clear n0_ n1_ n2_ n3_ n4_; (try clear hb); (try clear hb2); (try clear hk); (try clear hi)) | ((with_reducible refine Bd (N := 8) rfl ?_); refine Kd.R_lit Kd.string _ 9 ?hg (N := 8) ?hd (xs := ([(⟨#[]⟩ : ByteArray), (⟨#[51]⟩ : ByteArray), (⟨#[63]⟩ : ByteArray), (⟨#[97, 64, 98]⟩ : ByteArray), (⟨#[51, 32, 49, 32, 50]⟩ : ByteArray)] : List ByteArray)) (inner := [.string (⟨#[]⟩ : ByteArray), .string (⟨#[51]⟩ : ByteArray), .string (⟨#[63]⟩ : ByteArray), .string (⟨#[97, 64, 98]⟩ : ByteArray), .string (⟨#[51, 32, 49, 32, 50]⟩ : ByteArray)]) (ok := fun _ => True) (okp := fun _ => True) ?hr ?hp (fun _ hk => hk) trivial (Below.refl _ _) (Nat.le_refl _) (by simp) ?_; (case hd => rfl); (case hg => rfl); (case hr => first | (go_simp; done) | (go_simp; rfl)); (case hp => exact (Dv.one (show Kd.M Kd.string _ _ _ (⟨#[]⟩ : ByteArray) [.string (⟨#[]⟩ : ByteArray)] from rfl) (Dv.one (show Kd.M Kd.string _ _ _ (⟨#[51]⟩ : ByteArray) [.string (⟨#[51]⟩ : ByteArray)] from rfl) (Dv.one (show Kd.M Kd.string _ _ _ (⟨#[63]⟩ : ByteArray) [.string (⟨#[63]⟩ : ByteArray)] from rfl) (Dv.one (show Kd.M Kd.string _ _ _ (⟨#[97, 64, 98]⟩ : ByteArray) [.string (⟨#[97, 64, 98]⟩ : ByteArray)] from rfl) (Dv.one (show Kd.M Kd.string _ _ _ (⟨#[51, 32, 49, 32, 50]⟩ : ByteArray) [.string (⟨#[51, 32, 49, 32, 50]⟩ : ByteArray)] from rfl) (Dv.none _ _))))))); intro v448 w39 ho40 hb hg_ hnew_; clear hg_ hnew_; (first | rw [← Ny447.out] at ho40 | (simp only [Int.reduceToNat] at ho40; rw [← Ny447.out] at ho40)); have n0_ := Aside0.mk (Kd.He Ybh_ (Kd.R_base ho40) hb); have n1_ := Aside0.mk (Kd.En (Kd.R_new' ho40 (Kd.R_lt Ybh_)) (D6 (w := w) (g := g) (row := none) Yi_)); have n2_ := Aside0.mk (IsS74.below Ycb_ hb); have n3_ := Aside0.mk (Ai (g := gb440) (o := .cells #[.string (⟨#[]⟩ : ByteArray), .string (⟨#[]⟩ : ByteArray)] 27 (0, 0)) Ybd_ hb); have n4_ := Aside0.mk (KeepBut.trans Yi_ (KeepBut.of_below hb g none) (.inl rfl)); have n5_ := Aside0.mk (Ag Ycc_ hb); clear HO443; clear HI0; clear BK440; clear HK; clear HB; have HO443 := n0_; have HO449 := n1_; have HI0 := n2_; have BK440 := n3_; have HK := n4_; have HB := n5_; clear n0_ n1_ n2_ n3_ n4_ n5_; clear hb ho40; obtain ⟨Ao41, co41, eo41⟩ := Kd.Eu HO449.out; subst eo41) | ((with_reducible refine Am (f := 72) rfl ?_); refine Be (some 9) rfl rfl Tryd.func72 (by kernel_rfl) rfl #[.pointer (some ⟨g, 0, none⟩), .slice Ao41 y447.length co41] rfl Yc_ ?_; (with_reducible refine (Dp.calls g s0_0 t445 t446 _ _ y447 t450 t451 t452 w0 _ ?side1 ?side2 ?side3 ?side4 ?side5 A3.out).mono ?_); (case side1 => repeat (first | (with_reducible first | exact HI0.out | apply IsS74.alloc | apply IsS74.drewN | apply IsS74.drew | apply IsS74.set_1 | apply IsS74.set_2 | refine IsS74.far ?_ NB0_440.out _) | exact HI0.out)); (case side2 => repeat (first | (with_reducible first | exact HB.out | apply below_alloc | apply pw_below_drewN | apply below_drew1 | refine below_set ?_ (IsS74.ge HI0.out) | refine below_set ?_ GE440.out) | exact HB.out)); (case side3 => repeat (first | exact (Kd.Ez HO449.out).2.2 | (with_reducible refine Kd.Hf ?_ _) | (with_reducible refine Kd.Hg ?_ _) | (with_reducible refine Kd.C_drew ?_))); (case side4 => exact (Kd.Ez HO449.out).2.1); (case side5 => exact Hq (IsS74.own_ne HI0.out HO449.out (by decide))); rintro e w42 ⟨rfl, hi, hb, hk⟩; refine ⟨_, rfl, ?_⟩; have n0_ := Aside0.mk (KeepBut.blk hk (g' := gb440) (o := .cells #[.string (⟨#[]⟩ : ByteArray), .string (⟨#[]⟩ : ByteArray)] 27 (0, 0)) Ybd_ NB440_0.out (by simp)); have n1_ := Aside0.mk (Kd.D5 (Kd.F7 (IsS74.apart (show IsS74 w0 _ g s0_0 t445 t446 from by repeat (first | (with_reducible first | exact HI0.out | apply IsS74.alloc | apply IsS74.drewN | apply IsS74.drew | apply IsS74.set_1 | apply IsS74.set_2 | refine IsS74.far ?_ NB0_440.out _) | exact HI0.out)) Ybh_ (by decide)) hk (fun _ h => h.2)) (fun _ h => h.1)); have n2_ := Aside0.mk (Kd.D5 (Kd.F7 (IsS74.apart (show IsS74 w0 _ g s0_0 t445 t446 from by repeat (first | (with_reducible first | exact HI0.out | apply IsS74.alloc | apply IsS74.drewN | apply IsS74.drew | apply IsS74.set_1 | apply IsS74.set_2 | refine IsS74.far ?_ NB0_440.out _) | exact HI0.out)) Ydc_ (by decide)) hk (fun _ h => h.2)) (fun _ h => h.1)); have n3_ := Aside0.mk (KeepBut.trans Yi_ hk (.inl rfl)); have n4_ := Aside0.mk (hb); have n5_ := Aside0.mk (hi); clear BK440; clear HO443; clear HO449; clear HK; clear HB; clear HI0; have BK440 := n0_; have HO443 := n1_; have HO449 := n2_; have HK := n3_; have HB := n4_; have HI0 := n5_; clear n0_ n1_ n2_ n3_ n4_ n5_; (try clear hb); (try clear hb2); (try clear hk); (try clear hi)) | ((with_reducible refine Bd (N := 3) rfl ?_); refine Bc ?hg (N := 3) ?hd (cs := #[.string (⟨#[]⟩ : ByteArray), .string (⟨#[]⟩ : ByteArray)]) (t := 27) ?hr ?_; (case hd => rfl); (case hg => rfl); (case hr => first | (go_simp; done) | (go_simp; rfl)); intro gb453 hg w43 hbox hb; have n0_ := Aside0.mk (Kd.Eb Ybh_ hb); have n1_ := Aside0.mk (Kd.Eb Ydc_ hb); have n2_ := Aside0.mk (IsS74.below Ycb_ hb); have n3_ := Aside0.mk (Ai (g := gb440) (o := .cells #[.string (⟨#[]⟩ : ByteArray), .string (⟨#[]⟩ : ByteArray)] 27 (0, 0)) Ybd_ hb); have n4_ := Aside0.mk (KeepBut.trans Yi_ (KeepBut.of_below hb g none) (.inl rfl)); have n5_ := Aside0.mk (Ag Ycc_ hb); have n6_ := Aside0.mk (hbox); have n7_ := Aside0.mk ((by rw [hg]; exact (D6 (w := w) (g := g) (row := none) Yi_) : w.heap.size ≤ gb453)); have n8_ := Aside0.mk ((Nat.le_trans HW0.out (by rw [hg]; exact (D6 (w := w) (g := g) (row := none) Yi_) : w.heap.size ≤ gb453) : w0.heap.size ≤ gb453)); have n9_ := Aside0.mk ((by rw [hg]; exact Nat.ne_of_lt (Cf (g := gb440) (o := .cells #[.string (⟨#[]⟩ : ByteArray), .string (⟨#[]⟩ : ByteArray)] 27 (0, 0)) Ybd_) : gb440 ≠ gb453)); have n10_ := Aside0.mk ((by rw [hg]; exact Nat.ne_of_gt (Cf (g := gb440) (o := .cells #[.string (⟨#[]⟩ : ByteArray), .string (⟨#[]⟩ : ByteArray)] 27 (0, 0)) Ybd_) : gb453 ≠ gb440)); have n11_ := Aside0.mk ((by rw [hg]; exact Nat.ne_of_lt (IsS74.lt (show IsS74 w0 _ g s0_0 t451 t452 from by repeat (first | (with_reducible first | exact HI0.out | apply IsS74.alloc | apply IsS74.drewN | apply IsS74.drew | apply IsS74.set_1 | apply IsS74.set_2 | refine IsS74.far ?_ NB0_440.out _) | exact HI0.out))) : g ≠ gb453)); have n12_ := Aside0.mk ((by rw [hg]; exact Nat.ne_of_gt (IsS74.lt (show IsS74 w0 _ g s0_0 t451 t452 from by repeat (first | (with_reducible first | exact HI0.out | apply IsS74.alloc | apply IsS74.drewN | apply IsS74.drew | apply IsS74.set_1 | apply IsS74.set_2 | refine IsS74.far ?_ NB0_440.out _) | exact HI0.out))) : gb453 ≠ g)); clear HO443; clear HO449; clear HI0; clear BK440; clear HK; clear HB; have HO443 := n0_; have HO449 := n1_; have HI0 := n2_; have BK440 := n3_; have HK := n4_; have HB := n5_; have BK453 := n6_; have GW453 := n7_; have GE453 := n8_; have NB440_453 := n9_; have NB453_440 := n10_; have NB0_453 := n11_; have NB453_0 := n12_; clear n0_ n1_ n2_ n3_ n4_ n5_ n6_ n7_ n8_ n9_ n10_ n11_ n12_; clear hb hbox hg; have hnb44 := NB453_440.out; have hnc44 := NB440_453.out; have hnb45 := NB453_0.out; have hnc45 := NB0_453.out; have hcz46_0 : w43.cell? ⟨gb453, 0, none⟩ = some (.string (⟨#[]⟩ : ByteArray)) := (Ae BK453.out 0).trans rfl; have hcz46_1 : w43.cell? ⟨gb453, 1, none⟩ = some (.string (⟨#[]⟩ : ByteArray)) := (Ae BK453.out 1).trans rfl; have hfz46_0 := Af BK453.out 0; have hfz46_1 := Af BK453.out 1) | ((with_reducible refine Am (f := 55) rfl ?_); refine Be (some 12) rfl rfl Tryd.func55 (by kernel_rfl) rfl #[.pointer (some ⟨g, 0, none⟩), .int .i64 24] rfl Yc_ ?_; (with_reducible refine (spec_l1Cur_pick.calls g s0_0 t451 t452 24 t454 t455 t456 w0 _ ?side1 ?side2 A4.out).mono ?_); (case side1 => repeat (first | (with_reducible first | exact HI0.out | apply IsS74.alloc | apply IsS74.drewN | apply IsS74.drew | apply IsS74.set_1 | apply IsS74.set_2 | refine IsS74.far ?_ NB0_440.out _ | refine IsS74.far ?_ NB0_453.out _) | exact HI0.out)); (case side2 => repeat (first | (with_reducible first | exact HB.out | apply below_alloc | apply pw_below_drewN | apply below_drew1 | refine below_set ?_ (IsS74.ge HI0.out) | refine below_set ?_ GE440.out | refine below_set ?_ GE453.out) | exact HB.out)); rintro e w47 ⟨rfl, hi, hb, hk⟩; refine ⟨_, rfl, ?_⟩; have n0_ := Aside0.mk (KeepBut.blk hk (g' := gb440) (o := .cells #[.string (⟨#[]⟩ : ByteArray), .string (⟨#[]⟩ : ByteArray)] 27 (0, 0)) Yee_ NB440_0.out (by simp)); have n1_ := Aside0.mk (Kd.D5 (Kd.F7 (IsS74.apart (show IsS74 w0 _ g s0_0 t451 t452 from by repeat (first | (with_reducible first | exact HI0.out | apply IsS74.alloc | apply IsS74.drewN | apply IsS74.drew | apply IsS74.set_1 | apply IsS74.set_2 | refine IsS74.far ?_ NB0_440.out _ | refine IsS74.far ?_ NB0_453.out _) | exact HI0.out)) Yfb_ (by decide)) hk (fun _ h => h.2)) (fun _ h => h.1)); have n2_ := Aside0.mk (Kd.D5 (Kd.F7 (IsS74.apart (show IsS74 w0 _ g s0_0 t451 t452 from by repeat (first | (with_reducible first | exact HI0.out | apply IsS74.alloc | apply IsS74.drewN | apply IsS74.drew | apply IsS74.set_1 | apply IsS74.set_2 | refine IsS74.far ?_ NB0_440.out _ | refine IsS74.far ?_ NB0_453.out _) | exact HI0.out)) Yfc_ (by decide)) hk (fun _ h => h.2)) (fun _ h => h.1)); have n3_ := Aside0.mk (KeepBut.blk hk (g' := gb453) (o := .cells #[.string t444, .string t450] 27 (0, 0)) Ydd_ NB453_0.out (by simp)); have n4_ := Aside0.mk (KeepBut.trans Ybg_ hk (.inl rfl)); have n5_ := Aside0.mk (hb); have n6_ := Aside0.mk (hi); clear BK440; clear HO443; clear HO449; clear BK453; clear HK; clear HB; clear HI0; have BK440 := n0_; have HO443 := n1_; have HO449 := n2_; have BK453 := n3_; have HK := n4_; have HB := n5_; have HI0 := n6_; clear n0_ n1_ n2_ n3_ n4_ n5_ n6_; (try clear hb); (try clear hb2); (try clear hk); (try clear hi)) | ((with_reducible refine Bd (N := 24) rfl ?_); refine Kd.R_lit Kd.string _ 9 ?hg (N := 24) ?hd (xs := ([(⟨#[35]⟩ : ByteArray), (⟨#[10]⟩ : ByteArray), (⟨#[127]⟩ : ByteArray)] : List ByteArray)) (inner := [.string (⟨#[35]⟩ : ByteArray), .string (⟨#[10]⟩ : ByteArray), .string (⟨#[127]⟩ : ByteArray)]) (ok := fun _ => True) (okp := fun _ => True) ?hr ?hp (fun _ hk => hk) trivial (Below.refl _ _) (Nat.le_refl _) (by simp) ?_; (case hd => rfl); (case hg => rfl); (case hr => first | (go_simp; done) | (go_simp; rfl)); (case hp => exact (Dv.one (show Kd.M Kd.string _ _ _ (⟨#[35]⟩ : ByteArray) [.string (⟨#[35]⟩ : ByteArray)] from rfl) (Dv.one (show Kd.M Kd.string _ _ _ (⟨#[10]⟩ : ByteArray) [.string (⟨#[10]⟩ : ByteArray)] from rfl) (Dv.one (show Kd.M Kd.string _ _ _ (⟨#[127]⟩ : ByteArray) [.string (⟨#[127]⟩ : ByteArray)] from rfl) (Dv.none _ _))))); intro v467 w48 ho49 hb hg_ hnew_; clear hg_ hnew_; (first | rw [← Ny466.out] at ho49 | (simp only [Int.reduceToNat] at ho49; rw [← Ny466.out] at ho49)); have n0_ := Aside0.mk (Kd.He Ybh_ (Kd.R_base ho49) hb); have n1_ := Aside0.mk (Kd.He Ydc_ (Kd.R_base ho49) hb); have n2_ := Aside0.mk (Kd.En (Kd.R_new' (Kd.R_new' ho49 (Kd.R_lt Ybh_)) (Kd.R_lt Ydc_)) (D6 (w := w) (g := g) (row := none) Ybg_)); have n3_ := Aside0.mk (IsS74.below Yfd_ hb); have n4_ := Aside0.mk (Ai (g := gb440) (o := .cells #[.string (⟨#[]⟩ : ByteArray), .string (⟨#[]⟩ : ByteArray)] 27 (0, 0)) Ybd_ hb); have n5_ := Aside0.mk (Ai (g := gb453) (o := .cells #[.string t444, .string t450] 27 (0, 0)) Ygc_ hb); have n6_ := Aside0.mk (KeepBut.trans Ybg_ (KeepBut.of_below hb g none) (.inl rfl)); have n7_ := Aside0.mk (Ag Yff_ hb); clear HO443; clear HO449; clear HI0; clear BK440; clear BK453; clear HK; clear HB; have HO443 := n0_; have HO449 := n1_; have HO468 := n2_; have HI0 := n3_; have BK440 := n4_; have BK453 := n5_; have HK := n6_; have HB := n7_; clear n0_ n1_ n2_ n3_ n4_ n5_ n6_ n7_; clear hb ho49; obtain ⟨Ao50, co50, eo50⟩ := Kd.Eu HO468.out; subst eo50) | ((with_reducible refine Am (f := 72) rfl ?_); refine Be (some 25) rfl rfl Tryd.func72 (by kernel_rfl) rfl #[.pointer (some ⟨g, 0, none⟩), .slice Ao50 y466.length co50] rfl Yc_ ?_; (with_reducible refine (Dp.calls g s0_0 t455 t456 _ _ y466 t469 t470 t471 w0 _ ?side1 ?side2 ?side3 ?side4 ?side5 A33.out).mono ?_); (case side1 => repeat (first | (with_reducible first | exact HI0.out | apply IsS74.alloc | apply IsS74.drewN | apply IsS74.drew | apply IsS74.set_1 | apply IsS74.set_2 | refine IsS74.far ?_ NB0_440.out _ | refine IsS74.far ?_ NB0_453.out _) | exact HI0.out)); (case side2 => repeat (first | (with_reducible first | exact HB.out | apply below_alloc | apply pw_below_drewN | apply below_drew1 | refine below_set ?_ (IsS74.ge HI0.out) | refine below_set ?_ GE440.out | refine below_set ?_ GE453.out) | exact HB.out)); (case side3 => repeat (first | exact (Kd.Ez HO468.out).2.2 | (with_reducible refine Kd.Hf ?_ _) | (with_reducible refine Kd.Hg ?_ _) | (with_reducible refine Kd.C_drew ?_))); (case side4 => exact (Kd.Ez HO468.out).2.1); (case side5 => exact Hq (IsS74.own_ne HI0.out HO468.out (by decide))); rintro e w51 ⟨rfl, hi, hb, hk⟩; refine ⟨_, rfl, ?_⟩; have n0_ := Aside0.mk (KeepBut.blk hk (g' := gb440) (o := .cells #[.string (⟨#[]⟩ : ByteArray), .string (⟨#[]⟩ : ByteArray)] 27 (0, 0)) Ybd_ NB440_0.out (by simp)); have n1_ := Aside0.mk (Kd.D5 (Kd.F7 (IsS74.apart (show IsS74 w0 _ g s0_0 t455 t456 from by repeat (first | (with_reducible first | exact HI0.out | apply IsS74.alloc | apply IsS74.drewN | apply IsS74.drew | apply IsS74.set_1 | apply IsS74.set_2 | refine IsS74.far ?_ NB0_440.out _ | refine IsS74.far ?_ NB0_453.out _) | exact HI0.out)) Ybh_ (by decide)) hk (fun _ h => h.2)) (fun _ h => h.1)); have n2_ := Aside0.mk (Kd.D5 (Kd.F7 (IsS74.apart (show IsS74 w0 _ g s0_0 t455 t456 from by repeat (first | (with_reducible first | exact HI0.out | apply IsS74.alloc | apply IsS74.drewN | apply IsS74.drew | apply IsS74.set_1 | apply IsS74.set_2 | refine IsS74.far ?_ NB0_440.out _ | refine IsS74.far ?_ NB0_453.out _) | exact HI0.out)) Ydc_ (by decide)) hk (fun _ h => h.2)) (fun _ h => h.1)); have n3_ := Aside0.mk (KeepBut.blk hk (g' := gb453) (o := .cells #[.string t444, .string t450] 27 (0, 0)) Ygc_ NB453_0.out (by simp)); have n4_ := Aside0.mk (Kd.D5 (Kd.F7 (IsS74.apart (show IsS74 w0 _ g s0_0 t455 t456 from by repeat (first | (with_reducible first | exact HI0.out | apply IsS74.alloc | apply IsS74.drewN | apply IsS74.drew | apply IsS74.set_1 | apply IsS74.set_2 | refine IsS74.far ?_ NB0_440.out _ | refine IsS74.far ?_ NB0_453.out _) | exact HI0.out)) (by (with_reducible repeat (first | apply Kd.Bo | apply Kd.Bl | apply Kd.Cb)); exact HO468.out) (by decide)) hk (fun _ h => h.2)) (fun _ h => h.1)); have n5_ := Aside0.mk (KeepBut.trans Ybg_ hk (.inl rfl)); have n6_ := Aside0.mk (hb); have n7_ := Aside0.mk (hi); clear BK440; clear HO443; clear HO449; clear BK453; clear HO468; clear HK; clear HB; clear HI0; have BK440 := n0_; have HO443 := n1_; have HO449 := n2_; have BK453 := n3_; have HO468 := n4_; have HK := n5_; have HB := n6_; have HI0 := n7_; clear n0_ n1_ n2_ n3_ n4_ n5_ n6_ n7_; (try clear hb); (try clear hb2); (try clear hk); (try clear hi); have hcz52_0 : w51.cell? ⟨gb453, 0, none⟩ = some (.string t444) := (Ae BK453.out 0).trans rfl; have hcz52_1 : w51.cell? ⟨gb453, 1, none⟩ = some (.string t450) := (Ae BK453.out 1).trans rfl; have hfz52_0 := Af BK453.out 0; have hfz52_1 := Af BK453.out 1; have hnb53 := NB440_0.out; have hnc53 := NB0_440.out; have hcz54_0 : w51.cell? ⟨gb440, 0, none⟩ = some (.string (⟨#[]⟩ : ByteArray)) := (Ae BK440.out 0).trans rfl; have hcz54_1 : w51.cell? ⟨gb440, 1, none⟩ = some (.string (⟨#[]⟩ : ByteArray)) := (Ae BK440.out 1).trans rfl; have hfz54_0 := Af BK440.out 0; have hfz54_1 := Af BK440.out 1))
      refine bodyPost_ret (results_cell_row rfl _ _ gb440 27 #[.string t444, .string t469] (0, 0) _ rfl (by (with_reducible repeat (first | refine Aa ?_ _ | refine Ad ?_ | refine Ac ?_ _)); refine Ar (cs := #[.string t444, .string (⟨#[]⟩ : ByteArray)]) ?_ 1 _ rfl; (with_reducible repeat (first | refine Aa ?_ _ | refine Ad ?_ | refine Ac ?_ _)); refine Ar (cs := #[.string (⟨#[]⟩ : ByteArray), .string (⟨#[]⟩ : ByteArray)]) ?_ 0 _ rfl; (with_reducible repeat (first | refine Aa ?_ _ | refine Ad ?_ | refine Ac ?_ _)); refine Aq ?_ NB440_453.out _; (with_reducible repeat (first | refine Aa ?_ _ | refine Ad ?_ | refine Ac ?_ _)); exact BK440.out) Tryd.underlying27 rfl (by kernel_rfl)) rfl ?_
      exact ⟨by first | rfl | (simp [Ak, Aj] <;> rfl) | (simp [*, Ak, Aj] <;> rfl), by repeat (first | (with_reducible first | exact HI0.out | apply IsS74.alloc | apply IsS74.drewN | apply IsS74.drew | apply IsS74.set_1 | apply IsS74.set_2 | refine IsS74.far ?_ NB0_440.out _ | refine IsS74.far ?_ NB0_453.out _) | exact HI0.out), by repeat (first | (with_reducible first | exact HB.out | apply below_alloc | apply pw_below_drewN | apply below_drew1 | refine below_set ?_ (IsS74.ge HI0.out) | refine below_set ?_ GE440.out | refine below_set ?_ GE453.out) | exact HB.out), by repeat (first | (with_reducible first | exact HK.out | apply KeepBut.set_ | apply keep_drewN | apply keep_drew | apply keep_alloc | refine Bi ?_ GW440.out _ | refine Bi ?_ GW453.out _) | exact HK.out)⟩
    · rw [if_neg c32] at H
      have c32b0 : (t454 == 1) = false := beq_eq_false_iff_ne.mpr c32
      have c32b1 : (t454 != 1) = true := bne_iff_ne.mpr c32
      simp only [Option.some.injEq, Prod.mk.injEq] at H
      obtain ⟨rfl, rfl, rfl, rfl⟩ := H
      go_enter Tryd.func56, Tryd.ntmps56
      go_wp2_with (first | ((with_reducible refine Bd (N := 2) rfl ?_); refine Bc ?hg (N := 2) ?hd (cs := #[.string (⟨#[]⟩ : ByteArray), .string (⟨#[]⟩ : ByteArray)]) (t := 27) ?hr ?_; (case hd => rfl); (case hg => rfl); (case hr => first | (go_simp; done) | (go_simp; rfl)); intro gb440 hg w55 hbox hb; have n0_ := Aside0.mk (IsS74.below Yci_ hb); have n1_ := Aside0.mk (KeepBut.trans Yg_ (KeepBut.of_below hb g none) (.inl rfl)); have n2_ := Aside0.mk (Ag Ych_ hb); have n3_ := Aside0.mk (hbox); have n4_ := Aside0.mk ((by rw [hg]; exact (D6 (w := w) (g := g) (row := none) Yg_) : w.heap.size ≤ gb440)); have n5_ := Aside0.mk ((Nat.le_trans HW0.out (by rw [hg]; exact (D6 (w := w) (g := g) (row := none) Yg_) : w.heap.size ≤ gb440) : w0.heap.size ≤ gb440)); have n6_ := Aside0.mk ((by rw [hg]; exact Nat.ne_of_lt (IsS74.lt (show IsS74 w0 _ g s0_0 s0_1 s0_2 from by repeat (first | (with_reducible first | exact HI0.out | apply IsS74.alloc | apply IsS74.drewN | apply IsS74.drew | apply IsS74.set_1 | apply IsS74.set_2) | exact HI0.out))) : g ≠ gb440)); have n7_ := Aside0.mk ((by rw [hg]; exact Nat.ne_of_gt (IsS74.lt (show IsS74 w0 _ g s0_0 s0_1 s0_2 from by repeat (first | (with_reducible first | exact HI0.out | apply IsS74.alloc | apply IsS74.drewN | apply IsS74.drew | apply IsS74.set_1 | apply IsS74.set_2) | exact HI0.out))) : gb440 ≠ g)); clear HI0; clear HK; clear HB; have HI0 := n0_; have HK := n1_; have HB := n2_; have BK440 := n3_; have GW440 := n4_; have GE440 := n5_; have NB0_440 := n6_; have NB440_0 := n7_; clear n0_ n1_ n2_ n3_ n4_ n5_ n6_ n7_; clear hb hbox hg) | ((with_reducible refine Bd (N := 5) rfl ?_); refine Kd.R_lit Kd.string _ 9 ?hg (N := 5) ?hd (xs := ([(⟨#[99, 111, 117, 110, 116]⟩ : ByteArray), (⟨#[115, 111, 114, 116, 32, 109, 101, 114, 103, 101]⟩ : ByteArray), (⟨#[120]⟩ : ByteArray), (⟨#[115, 101, 108, 101, 99, 116, 32, 50]⟩ : ByteArray), (⟨#[48, 32, 49]⟩ : ByteArray)] : List ByteArray)) (inner := [.string (⟨#[99, 111, 117, 110, 116]⟩ : ByteArray), .string (⟨#[115, 111, 114, 116, 32, 109, 101, 114, 103, 101]⟩ : ByteArray), .string (⟨#[120]⟩ : ByteArray), .string (⟨#[115, 101, 108, 101, 99, 116, 32, 50]⟩ : ByteArray), .string (⟨#[48, 32, 49]⟩ : ByteArray)]) (ok := fun _ => True) (okp := fun _ => True) ?hr ?hp (fun _ hk => hk) trivial (Below.refl _ _) (Nat.le_refl _) (by simp) ?_; (case hd => rfl); (case hg => rfl); (case hr => first | (go_simp; done) | (go_simp; rfl)); (case hp => exact (Dv.one (show Kd.M Kd.string _ _ _ (⟨#[99, 111, 117, 110, 116]⟩ : ByteArray) [.string (⟨#[99, 111, 117, 110, 116]⟩ : ByteArray)] from rfl) (Dv.one (show Kd.M Kd.string _ _ _ (⟨#[115, 111, 114, 116, 32, 109, 101, 114, 103, 101]⟩ : ByteArray) [.string (⟨#[115, 111, 114, 116, 32, 109, 101, 114, 103, 101]⟩ : ByteArray)] from rfl) (Dv.one (show Kd.M Kd.string _ _ _ (⟨#[120]⟩ : ByteArray) [.string (⟨#[120]⟩ : ByteArray)] from rfl) (Dv.one (show Kd.M Kd.string _ _ _ (⟨#[115, 101, 108, 101, 99, 116, 32, 50]⟩ : ByteArray) [.string (⟨#[115, 101, 108, 101, 99, 116, 32, 50]⟩ : ByteArray)] from rfl) (Dv.one (show Kd.M Kd.string _ _ _ (⟨#[48, 32, 49]⟩ : ByteArray) [.string (⟨#[48, 32, 49]⟩ : ByteArray)] from rfl) (Dv.none _ _))))))); intro v442 w56 ho57 hb hg_ hnew_; clear hg_ hnew_; (first | rw [← Ny441.out] at ho57 | (simp only [Int.reduceToNat] at ho57; rw [← Ny441.out] at ho57)); have n0_ := Aside0.mk (Kd.En ho57 (D6 (w := w) (g := g) (row := none) Yi_)); have n1_ := Aside0.mk (IsS74.below Ycb_ hb); have n2_ := Aside0.mk (Ai (g := gb440) (o := .cells #[.string (⟨#[]⟩ : ByteArray), .string (⟨#[]⟩ : ByteArray)] 27 (0, 0)) Ybd_ hb); have n3_ := Aside0.mk (KeepBut.trans Yi_ (KeepBut.of_below hb g none) (.inl rfl)); have n4_ := Aside0.mk (Ag Ycc_ hb); clear HI0; clear BK440; clear HK; clear HB; have HO443 := n0_; have HI0 := n1_; have BK440 := n2_; have HK := n3_; have HB := n4_; clear n0_ n1_ n2_ n3_ n4_; clear hb ho57; obtain ⟨Ao58, co58, eo58⟩ := Kd.Eu HO443.out; subst eo58) | ((with_reducible refine Am (f := 72) rfl ?_); refine Be (some 6) rfl rfl Tryd.func72 (by kernel_rfl) rfl #[.pointer (some ⟨g, 0, none⟩), .slice Ao58 y441.length co58] rfl Yc_ ?_; (with_reducible refine (Dp.calls g s0_0 s0_1 s0_2 _ _ y441 t444 t445 t446 w0 _ ?side1 ?side2 ?side3 ?side4 ?side5 A2.out).mono ?_); (case side1 => repeat (first | (with_reducible first | exact HI0.out | apply IsS74.alloc | apply IsS74.drewN | apply IsS74.drew | apply IsS74.set_1 | apply IsS74.set_2 | refine IsS74.far ?_ NB0_440.out _) | exact HI0.out)); (case side2 => repeat (first | (with_reducible first | exact HB.out | apply below_alloc | apply pw_below_drewN | apply below_drew1 | refine below_set ?_ (IsS74.ge HI0.out) | refine below_set ?_ GE440.out) | exact HB.out)); (case side3 => repeat (first | exact (Kd.Ez HO443.out).2.2 | (with_reducible refine Kd.Hf ?_ _) | (with_reducible refine Kd.Hg ?_ _) | (with_reducible refine Kd.C_drew ?_))); (case side4 => exact (Kd.Ez HO443.out).2.1); (case side5 => exact Hq (IsS74.own_ne HI0.out HO443.out (by decide))); rintro e w59 ⟨rfl, hi, hb, hk⟩; refine ⟨_, rfl, ?_⟩; have n0_ := Aside0.mk (KeepBut.blk hk (g' := gb440) (o := .cells #[.string (⟨#[]⟩ : ByteArray), .string (⟨#[]⟩ : ByteArray)] 27 (0, 0)) Ybd_ NB440_0.out (by simp)); have n1_ := Aside0.mk (Kd.D5 (Kd.F7 (IsS74.apart (show IsS74 w0 _ g s0_0 s0_1 s0_2 from by repeat (first | (with_reducible first | exact HI0.out | apply IsS74.alloc | apply IsS74.drewN | apply IsS74.drew | apply IsS74.set_1 | apply IsS74.set_2 | refine IsS74.far ?_ NB0_440.out _) | exact HI0.out)) Ybh_ (by decide)) hk (fun _ h => h.2)) (fun _ h => h.1)); have n2_ := Aside0.mk (KeepBut.trans Yi_ hk (.inl rfl)); have n3_ := Aside0.mk (hb); have n4_ := Aside0.mk (hi); clear BK440; clear HO443; clear HK; clear HB; clear HI0; have BK440 := n0_; have HO443 := n1_; have HK := n2_; have HB := n3_; have HI0 := n4_; clear n0_ n1_ n2_ n3_ n4_; (try clear hb); (try clear hb2); (try clear hk); (try clear hi)) | ((with_reducible refine Bd (N := 8) rfl ?_); refine Kd.R_lit Kd.string _ 9 ?hg (N := 8) ?hd (xs := ([(⟨#[]⟩ : ByteArray), (⟨#[51]⟩ : ByteArray), (⟨#[63]⟩ : ByteArray), (⟨#[97, 64, 98]⟩ : ByteArray), (⟨#[51, 32, 49, 32, 50]⟩ : ByteArray)] : List ByteArray)) (inner := [.string (⟨#[]⟩ : ByteArray), .string (⟨#[51]⟩ : ByteArray), .string (⟨#[63]⟩ : ByteArray), .string (⟨#[97, 64, 98]⟩ : ByteArray), .string (⟨#[51, 32, 49, 32, 50]⟩ : ByteArray)]) (ok := fun _ => True) (okp := fun _ => True) ?hr ?hp (fun _ hk => hk) trivial (Below.refl _ _) (Nat.le_refl _) (by simp) ?_; (case hd => rfl); (case hg => rfl); (case hr => first | (go_simp; done) | (go_simp; rfl)); (case hp => exact (Dv.one (show Kd.M Kd.string _ _ _ (⟨#[]⟩ : ByteArray) [.string (⟨#[]⟩ : ByteArray)] from rfl) (Dv.one (show Kd.M Kd.string _ _ _ (⟨#[51]⟩ : ByteArray) [.string (⟨#[51]⟩ : ByteArray)] from rfl) (Dv.one (show Kd.M Kd.string _ _ _ (⟨#[63]⟩ : ByteArray) [.string (⟨#[63]⟩ : ByteArray)] from rfl) (Dv.one (show Kd.M Kd.string _ _ _ (⟨#[97, 64, 98]⟩ : ByteArray) [.string (⟨#[97, 64, 98]⟩ : ByteArray)] from rfl) (Dv.one (show Kd.M Kd.string _ _ _ (⟨#[51, 32, 49, 32, 50]⟩ : ByteArray) [.string (⟨#[51, 32, 49, 32, 50]⟩ : ByteArray)] from rfl) (Dv.none _ _))))))); intro v448 w60 ho61 hb hg_ hnew_; clear hg_ hnew_; (first | rw [← Ny447.out] at ho61 | (simp only [Int.reduceToNat] at ho61; rw [← Ny447.out] at ho61)); have n0_ := Aside0.mk (Kd.He Ybh_ (Kd.R_base ho61) hb); have n1_ := Aside0.mk (Kd.En (Kd.R_new' ho61 (Kd.R_lt Ybh_)) (D6 (w := w) (g := g) (row := none) Yi_)); have n2_ := Aside0.mk (IsS74.below Ycb_ hb); have n3_ := Aside0.mk (Ai (g := gb440) (o := .cells #[.string (⟨#[]⟩ : ByteArray), .string (⟨#[]⟩ : ByteArray)] 27 (0, 0)) Ybd_ hb); have n4_ := Aside0.mk (KeepBut.trans Yi_ (KeepBut.of_below hb g none) (.inl rfl)); have n5_ := Aside0.mk (Ag Ycc_ hb); clear HO443; clear HI0; clear BK440; clear HK; clear HB; have HO443 := n0_; have HO449 := n1_; have HI0 := n2_; have BK440 := n3_; have HK := n4_; have HB := n5_; clear n0_ n1_ n2_ n3_ n4_ n5_; clear hb ho61; obtain ⟨Ao62, co62, eo62⟩ := Kd.Eu HO449.out; subst eo62) | ((with_reducible refine Am (f := 72) rfl ?_); refine Be (some 9) rfl rfl Tryd.func72 (by kernel_rfl) rfl #[.pointer (some ⟨g, 0, none⟩), .slice Ao62 y447.length co62] rfl Yc_ ?_; (with_reducible refine (Dp.calls g s0_0 t445 t446 _ _ y447 t450 t451 t452 w0 _ ?side1 ?side2 ?side3 ?side4 ?side5 A3.out).mono ?_); (case side1 => repeat (first | (with_reducible first | exact HI0.out | apply IsS74.alloc | apply IsS74.drewN | apply IsS74.drew | apply IsS74.set_1 | apply IsS74.set_2 | refine IsS74.far ?_ NB0_440.out _) | exact HI0.out)); (case side2 => repeat (first | (with_reducible first | exact HB.out | apply below_alloc | apply pw_below_drewN | apply below_drew1 | refine below_set ?_ (IsS74.ge HI0.out) | refine below_set ?_ GE440.out) | exact HB.out)); (case side3 => repeat (first | exact (Kd.Ez HO449.out).2.2 | (with_reducible refine Kd.Hf ?_ _) | (with_reducible refine Kd.Hg ?_ _) | (with_reducible refine Kd.C_drew ?_))); (case side4 => exact (Kd.Ez HO449.out).2.1); (case side5 => exact Hq (IsS74.own_ne HI0.out HO449.out (by decide))); rintro e w63 ⟨rfl, hi, hb, hk⟩; refine ⟨_, rfl, ?_⟩; have n0_ := Aside0.mk (KeepBut.blk hk (g' := gb440) (o := .cells #[.string (⟨#[]⟩ : ByteArray), .string (⟨#[]⟩ : ByteArray)] 27 (0, 0)) Ybd_ NB440_0.out (by simp)); have n1_ := Aside0.mk (Kd.D5 (Kd.F7 (IsS74.apart (show IsS74 w0 _ g s0_0 t445 t446 from by repeat (first | (with_reducible first | exact HI0.out | apply IsS74.alloc | apply IsS74.drewN | apply IsS74.drew | apply IsS74.set_1 | apply IsS74.set_2 | refine IsS74.far ?_ NB0_440.out _) | exact HI0.out)) Ybh_ (by decide)) hk (fun _ h => h.2)) (fun _ h => h.1)); have n2_ := Aside0.mk (Kd.D5 (Kd.F7 (IsS74.apart (show IsS74 w0 _ g s0_0 t445 t446 from by repeat (first | (with_reducible first | exact HI0.out | apply IsS74.alloc | apply IsS74.drewN | apply IsS74.drew | apply IsS74.set_1 | apply IsS74.set_2 | refine IsS74.far ?_ NB0_440.out _) | exact HI0.out)) Ydc_ (by decide)) hk (fun _ h => h.2)) (fun _ h => h.1)); have n3_ := Aside0.mk (KeepBut.trans Yi_ hk (.inl rfl)); have n4_ := Aside0.mk (hb); have n5_ := Aside0.mk (hi); clear BK440; clear HO443; clear HO449; clear HK; clear HB; clear HI0; have BK440 := n0_; have HO443 := n1_; have HO449 := n2_; have HK := n3_; have HB := n4_; have HI0 := n5_; clear n0_ n1_ n2_ n3_ n4_ n5_; (try clear hb); (try clear hb2); (try clear hk); (try clear hi)) | ((with_reducible refine Bd (N := 3) rfl ?_); refine Bc ?hg (N := 3) ?hd (cs := #[.string (⟨#[]⟩ : ByteArray), .string (⟨#[]⟩ : ByteArray)]) (t := 27) ?hr ?_; (case hd => rfl); (case hg => rfl); (case hr => first | (go_simp; done) | (go_simp; rfl)); intro gb453 hg w64 hbox hb; have n0_ := Aside0.mk (Kd.Eb Ybh_ hb); have n1_ := Aside0.mk (Kd.Eb Ydc_ hb); have n2_ := Aside0.mk (IsS74.below Ycb_ hb); have n3_ := Aside0.mk (Ai (g := gb440) (o := .cells #[.string (⟨#[]⟩ : ByteArray), .string (⟨#[]⟩ : ByteArray)] 27 (0, 0)) Ybd_ hb); have n4_ := Aside0.mk (KeepBut.trans Yi_ (KeepBut.of_below hb g none) (.inl rfl)); have n5_ := Aside0.mk (Ag Ycc_ hb); have n6_ := Aside0.mk (hbox); have n7_ := Aside0.mk ((by rw [hg]; exact (D6 (w := w) (g := g) (row := none) Yi_) : w.heap.size ≤ gb453)); have n8_ := Aside0.mk ((Nat.le_trans HW0.out (by rw [hg]; exact (D6 (w := w) (g := g) (row := none) Yi_) : w.heap.size ≤ gb453) : w0.heap.size ≤ gb453)); have n9_ := Aside0.mk ((by rw [hg]; exact Nat.ne_of_lt (Cf (g := gb440) (o := .cells #[.string (⟨#[]⟩ : ByteArray), .string (⟨#[]⟩ : ByteArray)] 27 (0, 0)) Ybd_) : gb440 ≠ gb453)); have n10_ := Aside0.mk ((by rw [hg]; exact Nat.ne_of_gt (Cf (g := gb440) (o := .cells #[.string (⟨#[]⟩ : ByteArray), .string (⟨#[]⟩ : ByteArray)] 27 (0, 0)) Ybd_) : gb453 ≠ gb440)); have n11_ := Aside0.mk ((by rw [hg]; exact Nat.ne_of_lt (IsS74.lt (show IsS74 w0 _ g s0_0 t451 t452 from by repeat (first | (with_reducible first | exact HI0.out | apply IsS74.alloc | apply IsS74.drewN | apply IsS74.drew | apply IsS74.set_1 | apply IsS74.set_2 | refine IsS74.far ?_ NB0_440.out _) | exact HI0.out))) : g ≠ gb453)); have n12_ := Aside0.mk ((by rw [hg]; exact Nat.ne_of_gt (IsS74.lt (show IsS74 w0 _ g s0_0 t451 t452 from by repeat (first | (with_reducible first | exact HI0.out | apply IsS74.alloc | apply IsS74.drewN | apply IsS74.drew | apply IsS74.set_1 | apply IsS74.set_2 | refine IsS74.far ?_ NB0_440.out _) | exact HI0.out))) : gb453 ≠ g)); clear HO443; clear HO449; clear HI0; clear BK440; clear HK; clear HB; have HO443 := n0_; have HO449 := n1_; have HI0 := n2_; have BK440 := n3_; have HK := n4_; have HB := n5_; have BK453 := n6_; have GW453 := n7_; have GE453 := n8_; have NB440_453 := n9_; have NB453_440 := n10_; have NB0_453 := n11_; have NB453_0 := n12_; clear n0_ n1_ n2_ n3_ n4_ n5_ n6_ n7_ n8_ n9_ n10_ n11_ n12_; clear hb hbox hg; have hnb65 := NB453_440.out; have hnc65 := NB440_453.out; have hnb66 := NB453_0.out; have hnc66 := NB0_453.out; have hcz67_0 : w64.cell? ⟨gb453, 0, none⟩ = some (.string (⟨#[]⟩ : ByteArray)) := (Ae BK453.out 0).trans rfl; have hcz67_1 : w64.cell? ⟨gb453, 1, none⟩ = some (.string (⟨#[]⟩ : ByteArray)) := (Ae BK453.out 1).trans rfl; have hfz67_0 := Af BK453.out 0; have hfz67_1 := Af BK453.out 1) | ((with_reducible refine Am (f := 55) rfl ?_); refine Be (some 12) rfl rfl Tryd.func55 (by kernel_rfl) rfl #[.pointer (some ⟨g, 0, none⟩), .int .i64 24] rfl Yc_ ?_; (with_reducible refine (spec_l1Cur_pick.calls g s0_0 t451 t452 24 t454 t455 t456 w0 _ ?side1 ?side2 A4.out).mono ?_); (case side1 => repeat (first | (with_reducible first | exact HI0.out | apply IsS74.alloc | apply IsS74.drewN | apply IsS74.drew | apply IsS74.set_1 | apply IsS74.set_2 | refine IsS74.far ?_ NB0_440.out _ | refine IsS74.far ?_ NB0_453.out _) | exact HI0.out)); (case side2 => repeat (first | (with_reducible first | exact HB.out | apply below_alloc | apply pw_below_drewN | apply below_drew1 | refine below_set ?_ (IsS74.ge HI0.out) | refine below_set ?_ GE440.out | refine below_set ?_ GE453.out) | exact HB.out)); rintro e w68 ⟨rfl, hi, hb, hk⟩; refine ⟨_, rfl, ?_⟩; have n0_ := Aside0.mk (KeepBut.blk hk (g' := gb440) (o := .cells #[.string (⟨#[]⟩ : ByteArray), .string (⟨#[]⟩ : ByteArray)] 27 (0, 0)) Yee_ NB440_0.out (by simp)); have n1_ := Aside0.mk (Kd.D5 (Kd.F7 (IsS74.apart (show IsS74 w0 _ g s0_0 t451 t452 from by repeat (first | (with_reducible first | exact HI0.out | apply IsS74.alloc | apply IsS74.drewN | apply IsS74.drew | apply IsS74.set_1 | apply IsS74.set_2 | refine IsS74.far ?_ NB0_440.out _ | refine IsS74.far ?_ NB0_453.out _) | exact HI0.out)) Yfb_ (by decide)) hk (fun _ h => h.2)) (fun _ h => h.1)); have n2_ := Aside0.mk (Kd.D5 (Kd.F7 (IsS74.apart (show IsS74 w0 _ g s0_0 t451 t452 from by repeat (first | (with_reducible first | exact HI0.out | apply IsS74.alloc | apply IsS74.drewN | apply IsS74.drew | apply IsS74.set_1 | apply IsS74.set_2 | refine IsS74.far ?_ NB0_440.out _ | refine IsS74.far ?_ NB0_453.out _) | exact HI0.out)) Yfc_ (by decide)) hk (fun _ h => h.2)) (fun _ h => h.1)); have n3_ := Aside0.mk (KeepBut.blk hk (g' := gb453) (o := .cells #[.string t444, .string t450] 27 (0, 0)) Ydd_ NB453_0.out (by simp)); have n4_ := Aside0.mk (KeepBut.trans Ybg_ hk (.inl rfl)); have n5_ := Aside0.mk (hb); have n6_ := Aside0.mk (hi); clear BK440; clear HO443; clear HO449; clear BK453; clear HK; clear HB; clear HI0; have BK440 := n0_; have HO443 := n1_; have HO449 := n2_; have BK453 := n3_; have HK := n4_; have HB := n5_; have HI0 := n6_; clear n0_ n1_ n2_ n3_ n4_ n5_ n6_; (try clear hb); (try clear hb2); (try clear hk); (try clear hi); have hcz69_0 : w68.cell? ⟨gb453, 0, none⟩ = some (.string t444) := (Ae BK453.out 0).trans rfl; have hcz69_1 : w68.cell? ⟨gb453, 1, none⟩ = some (.string t450) := (Ae BK453.out 1).trans rfl; have hfz69_0 := Af BK453.out 0; have hfz69_1 := Af BK453.out 1; have hnb70 := NB440_0.out; have hnc70 := NB0_440.out; have hcz71_0 : w68.cell? ⟨gb440, 0, none⟩ = some (.string (⟨#[]⟩ : ByteArray)) := (Ae BK440.out 0).trans rfl; have hcz71_1 : w68.cell? ⟨gb440, 1, none⟩ = some (.string (⟨#[]⟩ : ByteArray)) := (Ae BK440.out 1).trans rfl; have hfz71_0 := Af BK440.out 0; have hfz71_1 := Af BK440.out 1))
      refine bodyPost_ret (results_cell_row rfl _ _ gb440 27 #[.string t444, .string t450] (0, 0) _ rfl (by (with_reducible repeat (first | refine Aa ?_ _ | refine Ad ?_ | refine Ac ?_ _)); refine Ar (cs := #[.string t444, .string (⟨#[]⟩ : ByteArray)]) ?_ 1 _ rfl; (with_reducible repeat (first | refine Aa ?_ _ | refine Ad ?_ | refine Ac ?_ _)); refine Ar (cs := #[.string (⟨#[]⟩ : ByteArray), .string (⟨#[]⟩ : ByteArray)]) ?_ 0 _ rfl; (with_reducible repeat (first | refine Aa ?_ _ | refine Ad ?_ | refine Ac ?_ _)); exact BK440.out) Tryd.underlying27 rfl (by kernel_rfl)) rfl ?_
      exact ⟨by first | rfl | (simp [Ak, Aj] <;> rfl) | (simp [*, Ak, Aj] <;> rfl), by repeat (first | (with_reducible first | exact HI0.out | apply IsS74.alloc | apply IsS74.drewN | apply IsS74.drew | apply IsS74.set_1 | apply IsS74.set_2 | refine IsS74.far ?_ NB0_440.out _ | refine IsS74.far ?_ NB0_453.out _) | exact HI0.out), by repeat (first | (with_reducible first | exact HB.out | apply below_alloc | apply pw_below_drewN | apply below_drew1 | refine below_set ?_ (IsS74.ge HI0.out) | refine below_set ?_ GE440.out | refine below_set ?_ GE453.out) | exact HB.out), by repeat (first | (with_reducible first | exact HK.out | apply KeepBut.set_ | apply keep_drewN | apply keep_drew | apply keep_alloc | refine Bi ?_ GW440.out _ | refine Bi ?_ GW453.out _) | exact HK.out)⟩
end Go.Proofs.YtkpieljmhgfofaaDoor.X

namespace Go.Proofs.YtkpieljmhgfofaaDoor.X
open Go.RowKit Go.Proofs.YtkpieljmhgfofaaDoorW.PrintWords Go.Proofs.YtkpieljmhgfofaaDoorW.PrintLast Go.Proofs.YtkpieljmhgfofaaDoorW.PrintMore
attribute [local go_sem] max2_int min2_int max_two min_two max_three min_three max_four min_four
open Go.Proofs.YtkpieljmhgfofaaDoorG
def Bj.l0 : Nat → Int → List Int → Int → Int → ByteArray → ByteArray → Int → Option (ByteArray × ByteArray × Int × Int × Int)
  | 0, _, _, _, _, _, _, _ => none
  | k + 1, x4, x1000, x1001, x1002, x474000, x474001, x474002 => if x4 > 0 then ((Dk.f x1000 x1001 x1002).bind fun bt477 => ((Au.f k x474000 x474001 x474002 bt477.1 bt477.2.1).bind fun bt481 => ((Em.f x1000 bt477.2.2.1 bt477.2.2.2 4).bind fun bt485 => (if bt485.1 = true then ((E5.f k bt481.1 bt481.2.1 bt481.2.2.1).bind fun bt488 => (Bj.l0 k (wrap64 (x4 - 1)) x1000 bt485.2.1 bt485.2.2 bt488.1 bt488.2.1 bt488.2.2.1)) else (Bj.l0 k (wrap64 (x4 - 1)) x1000 bt485.2.1 bt485.2.2 bt481.1 bt481.2.1 bt481.2.2.1))))) else (some (x474000, x474001, x474002, x1001, x1002))
def Bj.f (k : Nat) (s0_0 : List Int) (s0_1 : Int) (s0_2 : Int) : Option (ByteArray × ByteArray × Int × Int × Int) := (spec_l1Cur_pick.f s0_0 s0_1 s0_2 7).bind fun bt474 => (Bj.l0 k bt474.1 s0_0 bt474.2.1 bt474.2.2 (⟨#[]⟩ : ByteArray) (⟨#[]⟩ : ByteArray) 0)
theorem Bj.Ej : ∀ k, (∀ y0 y1 y2 y3 y4 y5 y6, LeO (Bj.l0 k y0 y1 y2 y3 y4 y5 y6) (Bj.l0 (k + 1) y0 y1 y2 y3 y4 y5 y6))
  | 0 => fun _ _ _ _ _ _ _ r h => by simp [Bj.l0] at h
  | k + 1 => by
    have ih0 := Bj.Ej k
    · intro y0 y1 y2 y3 y4 y5 y6
      unfold Bj.l0
      repeat' first
      | (with_reducible exact ih0 _ _ _ _ _ _ _)
      | (with_reducible exact Au.mono _ _ _ _ _ _)
      | (with_reducible exact E5.mono _ _ _ _)
      | (with_reducible exact LeO.refl _)
      | (with_reducible exact LeO.none _)
      | (with_reducible refine LeO.ite ?_ ?_)
      | (with_reducible refine LeO.bind ?_ (fun _ => ?_))
      | exact ih0 _ _ _ _ _ _ _
      | exact Au.mono _ _ _ _ _ _
      | exact E5.mono _ _ _ _
      | exact LeO.none _
      | refine LeO.ite ?_ ?_
      | refine LeO.bind ?_ (fun _ => ?_)
theorem Bj.mono : ∀ a0 a1 a2 k, LeO (Bj.f k a0 a1 a2) (Bj.f (k + 1) a0 a1 a2) := by
  intro a0 a1 a2 k
  have ih0 := Bj.Ej k
  unfold Bj.f
  repeat' first
      | (with_reducible exact ih0 _ _ _ _ _ _ _)
      | (with_reducible exact Au.mono _ _ _ _ _ _)
      | (with_reducible exact E5.mono _ _ _ _)
      | (with_reducible exact LeO.refl _)
      | (with_reducible exact LeO.none _)
      | (with_reducible refine LeO.ite ?_ ?_)
      | (with_reducible refine LeO.bind ?_ (fun _ => ?_))
      | exact ih0 _ _ _ _ _ _ _
      | exact Au.mono _ _ _ _ _ _
      | exact E5.mono _ _ _ _
      | exact LeO.none _
      | refine LeO.ite ?_ ?_
      | refine LeO.bind ?_ (fun _ => ?_)
def Bj.T5 : Bool × List (List Nat × List Nat) := (true, [([], []), ([], []), ([1], [1]), ([0, 2, 2], [0, 2]), ([3], [3]), ([4], [4]), ([4], [4]), ([5, 3, 0, 1, 2, 3, 4, 5], [5])])
def Bj.B5 : List Nat := [0, 0, 2, 7, 15, 31, 31, 63]
theorem Bj.tab5 : rtab .any (opsOf Tryd.f60 5) = Bj.T5 := by kernel_rfl
theorem Bj.bits5 : G7 Bj.T5.2 Bj.B5 = true := by kernel_rfl
set_option maxHeartbeats 8000000 in
set_option maxRecDepth 100000 in
theorem Bj.calls (k : Nat) (g : Nat) (s0_0 : List Int) (s0_1 : Int) (s0_2 : Int) (r1 : ByteArray) (r2 : ByteArray) (r3 : Int) (r4 : Int) (r5 : Int) (w0 w : World) (hI : IsS74 w0 w g s0_0 s0_1 s0_2) (hB : Below w0.heap.size w0 w) (h : Bj.f k s0_0 s0_1 s0_2 = some (r1, r2, r3, r4, r5)) :
    Calls Tryd.prog 60 #[.pointer (some ⟨g, 0, none⟩)] w fun e w' => e = .returned (.agg #[.string r1, .string r2, .int .i64 r3]) ∧ IsS74 w0 w' g s0_0 r4 r5 ∧ Below w0.heap.size w0 w' ∧ KeepBut w w' g none := by
  have hu31 := Tryd.underlying31
  have HI0 := Aside0.mk hI
  have HK := Aside0.mk (KeepBut.refl w g none)
  have HL := Aside0.mk hB.size
  clear hI
  have HW0 := Aside0.mk hB.size
  have HB := Aside0.mk hB
  clear hB
  have H : ((spec_l1Cur_pick.f s0_0 s0_1 s0_2 7).bind fun bt474 => (Bj.l0 k bt474.1 s0_0 bt474.2.1 bt474.2.2 (⟨#[]⟩ : ByteArray) (⟨#[]⟩ : ByteArray) 0)) = some (r1, r2, r3, r4, r5) := h
  clear h
  replace H := Option.bind_eq_some_iff.mp H
  obtain ⟨⟨t474, t475, t476⟩, A20, H⟩ := H
  replace H : (Bj.l0 k t474 s0_0 t475 t476 (⟨#[]⟩ : ByteArray) (⟨#[]⟩ : ByteArray) 0) = some (r1, r2, r3, r4, r5) := H
  have A2 := Aside0.mk A20
  clear A20
  have H' := Aside0.mk H
  clear H
  go_enter Tryd.func60, Tryd.ntmps60
  go_wp2_with (first | ((with_reducible refine Bd (N := 2) rfl ?_); refine Bc ?hg (N := 2) ?hd (cs := #[.string (⟨#[]⟩ : ByteArray), .string (⟨#[]⟩ : ByteArray), .int .i64 0]) (t := 31) ?hr ?_; (case hd => rfl); (case hg => rfl); (case hr => first | (go_simp; done) | (go_simp; rfl)); intro gb472 hg w3 hbox hb; have n0_ := Aside0.mk (IsS74.below Yci_ hb); have n1_ := Aside0.mk (KeepBut.trans Yg_ (KeepBut.of_below hb g none) (.inl rfl)); have n2_ := Aside0.mk (Ag Ych_ hb); have n3_ := Aside0.mk (hbox); have n4_ := Aside0.mk ((by rw [hg]; exact (D6 (w := w) (g := g) (row := none) Yg_) : w.heap.size ≤ gb472)); have n5_ := Aside0.mk ((Nat.le_trans HW0.out (by rw [hg]; exact (D6 (w := w) (g := g) (row := none) Yg_) : w.heap.size ≤ gb472) : w0.heap.size ≤ gb472)); have n6_ := Aside0.mk ((by rw [hg]; exact Nat.ne_of_lt (IsS74.lt (show IsS74 w0 _ g s0_0 s0_1 s0_2 from by repeat (first | (with_reducible first | exact HI0.out | apply IsS74.alloc | apply IsS74.drewN | apply IsS74.drew | apply IsS74.set_1 | apply IsS74.set_2) | exact HI0.out))) : g ≠ gb472)); have n7_ := Aside0.mk ((by rw [hg]; exact Nat.ne_of_gt (IsS74.lt (show IsS74 w0 _ g s0_0 s0_1 s0_2 from by repeat (first | (with_reducible first | exact HI0.out | apply IsS74.alloc | apply IsS74.drewN | apply IsS74.drew | apply IsS74.set_1 | apply IsS74.set_2) | exact HI0.out))) : gb472 ≠ g)); clear HI0; clear HK; clear HB; have HI0 := n0_; have HK := n1_; have HB := n2_; have BK472 := n3_; have GW472 := n4_; have GE472 := n5_; have NB0_472 := n6_; have NB472_0 := n7_; clear n0_ n1_ n2_ n3_ n4_ n5_ n6_ n7_; clear hb hbox hg) | ((with_reducible refine Bd (N := 3) rfl ?_); refine Bc ?hg (N := 3) ?hd (cs := #[.string (⟨#[]⟩ : ByteArray), .string (⟨#[]⟩ : ByteArray), .int .i64 0]) (t := 31) ?hr ?_; (case hd => rfl); (case hg => rfl); (case hr => first | (go_simp; done) | (go_simp; rfl)); intro gb473 hg w4 hbox hb; have n0_ := Aside0.mk (IsS74.below (by repeat (first | (with_reducible first | exact HI0.out | apply IsS74.alloc | apply IsS74.drewN | apply IsS74.drew | apply IsS74.set_1 | apply IsS74.set_2 | refine IsS74.far ?_ NB0_472.out _) | exact HI0.out)) hb); have n1_ := Aside0.mk (Ai (g := gb472) (o := .cells #[.string (⟨#[]⟩ : ByteArray), .string (⟨#[]⟩ : ByteArray), .int .i64 0] 31 (0, 0)) Yea_ hb); have n2_ := Aside0.mk (KeepBut.trans Ygi_ (KeepBut.of_below hb g none) (.inl rfl)); have n3_ := Aside0.mk (Ag (by repeat (first | (with_reducible first | exact HB.out | apply below_alloc | apply pw_below_drewN | apply below_drew1 | refine below_set ?_ (IsS74.ge HI0.out) | refine below_set ?_ GE472.out) | exact HB.out)) hb); have n4_ := Aside0.mk (hbox); have n5_ := Aside0.mk ((by rw [hg]; exact (D6 (w := w) (g := g) (row := none) Ygi_) : w.heap.size ≤ gb473)); have n6_ := Aside0.mk ((Nat.le_trans HW0.out (by rw [hg]; exact (D6 (w := w) (g := g) (row := none) Ygi_) : w.heap.size ≤ gb473) : w0.heap.size ≤ gb473)); have n7_ := Aside0.mk ((by rw [hg]; exact Nat.ne_of_lt (Cf (g := gb472) (o := .cells #[.string (⟨#[]⟩ : ByteArray), .string (⟨#[]⟩ : ByteArray), .int .i64 0] 31 (0, 0)) Yea_) : gb472 ≠ gb473)); have n8_ := Aside0.mk ((by rw [hg]; exact Nat.ne_of_gt (Cf (g := gb472) (o := .cells #[.string (⟨#[]⟩ : ByteArray), .string (⟨#[]⟩ : ByteArray), .int .i64 0] 31 (0, 0)) Yea_) : gb473 ≠ gb472)); have n9_ := Aside0.mk ((by rw [hg]; exact Nat.ne_of_lt (IsS74.lt (show IsS74 w0 _ g s0_0 s0_1 s0_2 from by repeat (first | (with_reducible first | exact HI0.out | apply IsS74.alloc | apply IsS74.drewN | apply IsS74.drew | apply IsS74.set_1 | apply IsS74.set_2 | refine IsS74.far ?_ NB0_472.out _) | exact HI0.out))) : g ≠ gb473)); have n10_ := Aside0.mk ((by rw [hg]; exact Nat.ne_of_gt (IsS74.lt (show IsS74 w0 _ g s0_0 s0_1 s0_2 from by repeat (first | (with_reducible first | exact HI0.out | apply IsS74.alloc | apply IsS74.drewN | apply IsS74.drew | apply IsS74.set_1 | apply IsS74.set_2 | refine IsS74.far ?_ NB0_472.out _) | exact HI0.out))) : gb473 ≠ g)); clear HI0; clear BK472; clear HK; clear HB; have HI0 := n0_; have BK472 := n1_; have HK := n2_; have HB := n3_; have BK473 := n4_; have GW473 := n5_; have GE473 := n6_; have NB472_473 := n7_; have NB473_472 := n8_; have NB0_473 := n9_; have NB473_0 := n10_; clear n0_ n1_ n2_ n3_ n4_ n5_ n6_ n7_ n8_ n9_ n10_; clear hb hbox hg; have hnb5 := NB473_472.out; have hnc5 := NB472_473.out; have hnb6 := NB473_0.out; have hnc6 := NB0_473.out; have hcz7_0 : w4.cell? ⟨gb473, 0, none⟩ = some (.string (⟨#[]⟩ : ByteArray)) := (Ae BK473.out 0).trans rfl; have hcz7_1 : w4.cell? ⟨gb473, 1, none⟩ = some (.string (⟨#[]⟩ : ByteArray)) := (Ae BK473.out 1).trans rfl; have hcz7_2 : w4.cell? ⟨gb473, 2, none⟩ = some (.int .i64 0) := (Ae BK473.out 2).trans rfl; have hfz7_0 := Af BK473.out 0; have hfz7_1 := Af BK473.out 1; have hfz7_2 := Af BK473.out 2) | ((with_reducible refine Am (f := 55) rfl ?_); refine Be (some 7) rfl rfl Tryd.func55 (by kernel_rfl) rfl #[.pointer (some ⟨g, 0, none⟩), .int .i64 7] rfl Yc_ ?_; (with_reducible refine (spec_l1Cur_pick.calls g s0_0 s0_1 s0_2 7 t474 t475 t476 w0 _ ?side1 ?side2 A2.out).mono ?_); (case side1 => repeat (first | (with_reducible first | exact HI0.out | apply IsS74.alloc | apply IsS74.drewN | apply IsS74.drew | apply IsS74.set_1 | apply IsS74.set_2 | refine IsS74.far ?_ NB0_472.out _ | refine IsS74.far ?_ NB0_473.out _) | exact HI0.out)); (case side2 => repeat (first | (with_reducible first | exact HB.out | apply below_alloc | apply pw_below_drewN | apply below_drew1 | refine below_set ?_ (IsS74.ge HI0.out) | refine below_set ?_ GE472.out | refine below_set ?_ GE473.out) | exact HB.out)); rintro e w8 ⟨rfl, hi, hb, hk⟩; refine ⟨_, rfl, ?_⟩; have n0_ := Aside0.mk (KeepBut.blk hk (g' := gb472) (o := .cells #[.string (⟨#[]⟩ : ByteArray), .string (⟨#[]⟩ : ByteArray), .int .i64 0] 31 (0, 0)) Ydf_ NB472_0.out (by simp)); have n1_ := Aside0.mk (KeepBut.blk hk (g' := gb473) (o := .cells #[.string (⟨#[]⟩ : ByteArray), .string (⟨#[]⟩ : ByteArray), .int .i64 0] 31 (0, 0)) (by (with_reducible repeat (first | refine Aa ?_ _ | refine Ad ?_ | refine Ac ?_ _)); refine Ar (cs := #[.string (⟨#[]⟩ : ByteArray), .string (⟨#[]⟩ : ByteArray), .int .i64 0]) ?_ 2 _ rfl; (with_reducible repeat (first | refine Aa ?_ _ | refine Ad ?_ | refine Ac ?_ _)); refine Ar (cs := #[.string (⟨#[]⟩ : ByteArray), .string (⟨#[]⟩ : ByteArray), .int .i64 0]) ?_ 1 _ rfl; (with_reducible repeat (first | refine Aa ?_ _ | refine Ad ?_ | refine Ac ?_ _)); refine Ar (cs := #[.string (⟨#[]⟩ : ByteArray), .string (⟨#[]⟩ : ByteArray), .int .i64 0]) ?_ 0 _ rfl; (with_reducible repeat (first | refine Aa ?_ _ | refine Ad ?_ | refine Ac ?_ _)); exact BK473.out) NB473_0.out (by simp)); have n2_ := Aside0.mk (KeepBut.trans Yce_ hk (.inl rfl)); have n3_ := Aside0.mk (hb); have n4_ := Aside0.mk (hi); clear BK472; clear BK473; clear HK; clear HB; clear HI0; have BK472 := n0_; have BK473 := n1_; have HK := n2_; have HB := n3_; have HI0 := n4_; clear n0_ n1_ n2_ n3_ n4_; (try clear hb); (try clear hb2); (try clear hk); (try clear hi)))
  go_loopg [4] k (fun kq v4 w' => ∃ (x4_1 : Int) (x1001_1 : Int) (x1002_1 : Int) (x474000_1 : ByteArray) (x474001_1 : ByteArray) (x474002_1 : Int), v4 = .int .i64 x4_1 ∧ Aside0 (Bj.l0 kq x4_1 s0_0 x1001_1 x1002_1 x474000_1 x474001_1 x474002_1 = some (r1, r2, r3, r4, r5)) ∧ Aside0 (kq ≤ k) ∧ Aside0 (w'.heap[gb472]? = some (.cells #[.string (⟨#[]⟩ : ByteArray), .string (⟨#[]⟩ : ByteArray), .int .i64 0] 31 (0, 0))) ∧ Aside0 (w'.heap[gb473]? = some (.cells #[.string x474000_1, .string x474001_1, .int .i64 x474002_1] 31 (0, 0))) ∧ Aside0 (IsS74 w0 w' g s0_0 x1001_1 x1002_1) ∧ Aside0 (KeepBut w w' g none) ∧ Aside0 (Below w0.heap.size w0 w'))
  case atStart => exact ⟨(t474), (t475), (t476), ((⟨#[]⟩ : ByteArray)), ((⟨#[]⟩ : ByteArray)), (0), Ybe_, H', ⟨Nat.le_refl _⟩, ⟨by (with_reducible repeat (first | refine Aa ?_ _ | refine Ad ?_ | refine Ac ?_ _)); exact BK472.out⟩, ⟨by (with_reducible repeat (first | refine Aa ?_ _ | refine Ad ?_ | refine Ac ?_ _)); exact BK473.out⟩, ⟨by repeat (first | (with_reducible first | exact HI0.out | apply IsS74.alloc | apply IsS74.drewN | apply IsS74.drew | apply IsS74.set_1 | apply IsS74.set_2 | refine IsS74.far ?_ NB0_472.out _ | refine IsS74.far ?_ NB0_473.out _) | exact HI0.out)⟩, ⟨by repeat (first | (with_reducible first | exact HK.out | apply KeepBut.set_ | apply keep_drewN | apply keep_drew | apply keep_alloc | refine Bi ?_ GW472.out _ | refine Bi ?_ GW473.out _) | exact HK.out)⟩, ⟨by repeat (first | (with_reducible first | exact HB.out | apply below_alloc | apply pw_below_drewN | apply below_drew1 | refine below_set ?_ (IsS74.ge HI0.out) | refine below_set ?_ GE472.out | refine below_set ?_ GE473.out) | exact HB.out)⟩⟩
  case round =>
    clear H'
    try clear p2
    try clear c5
    try clear c6
    try clear hcz7_0
    try clear hcz7_1
    try clear hcz7_2
    try clear hfz7_0
    try clear hfz7_1
    try clear hfz7_2
    obtain ⟨x4_1, x1001_1, x1002_1, x474000_1, x474001_1, x474002_1, rfl, HA, HK1, BK472, BK473, HI0, HK, HB⟩ := hrel
    cases gk with
    | zero => exact absurd HA.out (by simp [Bj.l0])
    | succ k1 =>
      have H := HA.out
      clear HA
      simp only [Bj.l0] at H
      by_cases c9 : x4_1 > 0
      · rw [if_pos c9] at H
        have c9b0 : decide (0 < x4_1) = true := decide_eq_true c9
        clear c9
        replace H := Option.bind_eq_some_iff.mp H
        obtain ⟨⟨t477, t478, t479, t480⟩, A100, H⟩ := H
        replace H : ((Au.f k1 x474000_1 x474001_1 x474002_1 t477 t478).bind fun bt481 => ((Em.f s0_0 t479 t480 4).bind fun bt485 => (if bt485.1 = true then ((E5.f k1 bt481.1 bt481.2.1 bt481.2.2.1).bind fun bt488 => (Bj.l0 k1 (wrap64 (x4_1 - 1)) s0_0 bt485.2.1 bt485.2.2 bt488.1 bt488.2.1 bt488.2.2.1)) else (Bj.l0 k1 (wrap64 (x4_1 - 1)) s0_0 bt485.2.1 bt485.2.2 bt481.1 bt481.2.1 bt481.2.2.1)))) = some (r1, r2, r3, r4, r5) := H
        have A10 := Aside0.mk A100
        clear A100
        replace H := Option.bind_eq_some_iff.mp H
        obtain ⟨⟨t481, t482, t483, t484⟩, A110, H⟩ := H
        replace H : ((Em.f s0_0 t479 t480 4).bind fun bt485 => (if bt485.1 = true then ((E5.f k1 t481 t482 t483).bind fun bt488 => (Bj.l0 k1 (wrap64 (x4_1 - 1)) s0_0 bt485.2.1 bt485.2.2 bt488.1 bt488.2.1 bt488.2.2.1)) else (Bj.l0 k1 (wrap64 (x4_1 - 1)) s0_0 bt485.2.1 bt485.2.2 t481 t482 t483))) = some (r1, r2, r3, r4, r5) := H
        have A11 := Aside0.mk A110
        clear A110
        replace H := Option.bind_eq_some_iff.mp H
        obtain ⟨⟨t485, t486, t487⟩, A120, H⟩ := H
        replace H : (if t485 = true then ((E5.f k1 t481 t482 t483).bind fun bt488 => (Bj.l0 k1 (wrap64 (x4_1 - 1)) s0_0 t486 t487 bt488.1 bt488.2.1 bt488.2.2.1)) else (Bj.l0 k1 (wrap64 (x4_1 - 1)) s0_0 t486 t487 t481 t482 t483)) = some (r1, r2, r3, r4, r5) := H
        have A12 := Aside0.mk A120
        clear A120
        by_cases c13 : t485 = true
        · subst c13
          have H1 : ((E5.f k1 t481 t482 t483).bind fun bt488 => (Bj.l0 k1 (wrap64 (x4_1 - 1)) s0_0 t486 t487 bt488.1 bt488.2.1 bt488.2.2.1)) = some (r1, r2, r3, r4, r5) := by rw [if_pos rfl] at H; exact H
          clear H
          have H := H1
          clear H1
          replace H := Option.bind_eq_some_iff.mp H
          obtain ⟨⟨t488, t489, t490, t491⟩, A140, H⟩ := H
          replace H : (Bj.l0 k1 (wrap64 (x4_1 - 1)) s0_0 t486 t487 t488 t489 t490) = some (r1, r2, r3, r4, r5) := H
          have A14 := Aside0.mk A140
          clear A140
          have H' := Aside0.mk H
          clear H
          try go_wp2
          have n0_ := Aside0.mk (Ad BK472.out)
          have n1_ := Aside0.mk (Ad BK473.out)
          have n2_ := Aside0.mk (IsS74.drew HI0.out)
          have n3_ := Aside0.mk (keep_drew HK.out)
          have n4_ := Aside0.mk (below_drew1 HB.out)
          clear BK472
          clear BK473
          clear HI0
          clear HK
          clear HB
          have BK472 := n0_
          have BK473 := n1_
          have HI0 := n2_
          have HK := n3_
          have HB := n4_
          clear n0_ n1_ n2_ n3_ n4_
          refine G5 (n := 8) (S := fun w' => w'.cell? ⟨gb473, 0, none⟩ = some (.string x474000_1) ∧ w'.cell? ⟨gb473, 1, none⟩ = some (.string x474001_1) ∧ w'.cell? ⟨gb473, 2, none⟩ = some (.int .i64 x474002_1)) (ds := [7]) #[false, false, false, false, false, false, false, false] (by kernel_rfl) rfl rfl ⟨(Ae BK473.out 0).trans rfl, (Ae BK473.out 1).trans rfl, (Ae BK473.out 2).trans rfl⟩ (fun hHeld => ?_); refine Gf Bj.tab5 Bj.bits5 (fun HT_ HW_ => ?_)
          generalize wr.drew = w15 at BK472 BK473 HI0 HK HB hHeld ⊢
          refine Bz (i := 1) (N := some 14) (v := ?_) (a' := ?_) #[false, true, false, false, false, false, false, false] rfl rfl (Bf HT_.out (by kernel_rfl)) (fun _ _ _ h => h) (Or.inl ⟨by rfl, ?_⟩) ?_ ?_
          rotate_left
          · intro w'
            go_simp
            with_reducible rfl
          rotate_left
          · simp only [Act.put, List.setIfInBounds_toArray, List.set_cons_zero, List.set_cons_succ, Aw, Az]
            rfl
          refine E8 (i := 0) (N := some 13) (v := ?_) (a' := ?_) #[true, true, false, false, false, false, false, false] rfl rfl (Ea HT_.out HW_.out (by kernel_rfl)) (fun _ _ _ h => h) (Or.inl ⟨by rfl, ?_⟩) hHeld ?_ ?_
          rotate_left
          · rintro w' ⟨s0, s1, s2⟩
            go_simp
            with_reducible rfl
          rotate_left
          · simp only [Act.put, List.setIfInBounds_toArray, List.set_cons_zero, List.set_cons_succ, Aw, Az]
            rfl
          refine one_ (i := 2) (N := some 15) #[true, true, true, false, false, false, false, false] rfl rfl (Fp HT_.out (by kernel_rfl)) (by decide) (fun K hK => ?_)
          refine Gl Tryd.func56 (by kernel_rfl) rfl #[.pointer (some ⟨g, 0, none⟩)] (by rfl) rfl rfl Yc_ ?_
          with_reducible refine (Dk.calls g s0_0 x1001_1 x1002_1 t477 t478 t479 t480 w0 _ ?side1 ?side2 A10.out).mono ?_
          (case side1 => repeat (first | (with_reducible first | exact HI0.out | apply IsS74.alloc | apply IsS74.drewN | apply IsS74.drew | apply IsS74.set_1 | apply IsS74.set_2 | refine IsS74.far ?_ NB0_472.out _ | refine IsS74.far ?_ NB0_473.out _) | exact HI0.out))
          (case side2 => repeat (first | (with_reducible first | exact HB.out | apply below_alloc | apply pw_below_drewN | apply below_drew1 | refine below_set ?_ (IsS74.ge HI0.out) | refine below_set ?_ GE472.out | refine below_set ?_ GE473.out) | exact HB.out))
          rintro e w16 ⟨rfl, hi, hb, hk⟩
          refine ⟨_, rfl, ?_⟩
          have n0_ := Aside0.mk (KeepBut.blk hk (g' := gb472) (o := .cells #[.string (⟨#[]⟩ : ByteArray), .string (⟨#[]⟩ : ByteArray), .int .i64 0] 31 (0, 0)) Yea_ NB472_0.out (by simp))
          have n1_ := Aside0.mk (KeepBut.blk hk (g' := gb473) (o := .cells #[.string x474000_1, .string x474001_1, .int .i64 x474002_1] 31 (0, 0)) Ygd_ NB473_0.out (by simp))
          have n2_ := Aside0.mk (KeepBut.trans Yce_ hk (.inl rfl))
          have n3_ := Aside0.mk (hb)
          have n4_ := Aside0.mk (hi)
          clear BK472
          clear BK473
          clear HK
          clear HB
          clear HI0
          have BK472 := n0_
          have BK473 := n1_
          have HK := n2_
          have HB := n3_
          have HI0 := n4_
          clear n0_ n1_ n2_ n3_ n4_
          (try clear hb)
          (try clear hb2)
          (try clear hk)
          (try clear hi)
          refine hK.out _ _ ⟨(Ae BK473.out 0).trans rfl, (Ae BK473.out 1).trans rfl, (Ae BK473.out 2).trans rfl⟩ (fun hHeld => ?_)
          clear hK K
          refine Gp (a' := ?_) ?_ ?_
          rotate_left
          · show Act.put _ (some 15) _ = _
            simp only [Act.put, List.setIfInBounds_toArray, List.set_cons_zero, List.set_cons_succ, Aw, Az]
            rfl
          refine one_ (i := 3) (N := some 16) #[true, true, true, true, false, false, false, false] rfl rfl (Fp HT_.out (by kernel_rfl)) (by decide) (fun K hK => ?_)
          refine Gl Tryd.func28 (by kernel_rfl) rfl #[.agg #[.string x474000_1, .string x474001_1, .int .i64 x474002_1], .agg #[.string t477, .string t478]] (by rfl) rfl rfl Yc_ ?_
          with_reducible refine (Au.calls k1 x474000_1 x474001_1 x474002_1 t477 t478 t481 t482 t483 t484 _ A11.out).mono ?_
          rintro e w17 ⟨rfl, hb⟩
          refine ⟨_, rfl, ?_⟩
          have n0_ := Aside0.mk (Ai (g := gb472) (o := .cells #[.string (⟨#[]⟩ : ByteArray), .string (⟨#[]⟩ : ByteArray), .int .i64 0] 31 (0, 0)) Yea_ hb)
          have n1_ := Aside0.mk (Ai (g := gb473) (o := .cells #[.string x474000_1, .string x474001_1, .int .i64 x474002_1] 31 (0, 0)) Ygd_ hb)
          have n2_ := Aside0.mk (IsS74.below Yfe_ hb)
          have n3_ := Aside0.mk (KeepBut.trans Yce_ (KeepBut.of_below hb g none) (.inl rfl))
          have n4_ := Aside0.mk (Ag Yfg_ hb)
          clear BK472
          clear BK473
          clear HI0
          clear HK
          clear HB
          have BK472 := n0_
          have BK473 := n1_
          have HI0 := n2_
          have HK := n3_
          have HB := n4_
          clear n0_ n1_ n2_ n3_ n4_
          (try clear hb)
          (try clear hb2)
          (try clear hk)
          (try clear hi)
          refine hK.out _ _ ⟨(Ae BK473.out 0).trans rfl, (Ae BK473.out 1).trans rfl, (Ae BK473.out 2).trans rfl⟩ (fun hHeld => ?_)
          clear hK K
          refine Gp (a' := ?_) ?_ ?_
          rotate_left
          · show Act.put _ (some 16) _ = _
            simp only [Act.put, List.setIfInBounds_toArray, List.set_cons_zero, List.set_cons_succ, Aw, Az]
            rfl
          refine Bz (i := 4) (N := some 12) (v := ?_) (a' := ?_) #[true, true, true, true, true, false, false, false] rfl rfl (Bf HT_.out (by kernel_rfl)) (fun _ _ _ h => h) (Or.inl ⟨by rfl, ?_⟩) ?_ ?_
          rotate_left
          · intro w'
            go_simp
            with_reducible rfl
          rotate_left
          · simp only [Act.put, List.setIfInBounds_toArray, List.set_cons_zero, List.set_cons_succ, Aw, Az]
            rfl
          refine Bz (i := 5) (N := some 17) (v := ?_) (a' := ?_) #[true, true, true, true, true, true, false, false] rfl rfl (Bf HT_.out (by kernel_rfl)) (fun _ _ _ h => h) (Or.inl ⟨by rfl, ?_⟩) ?_ ?_
          rotate_left
          · intro w'
            go_simp
            with_reducible rfl
          rotate_left
          · simp only [Act.put, List.setIfInBounds_toArray, List.set_cons_zero, List.set_cons_succ, Aw, Az]
            rfl
          refine Bz (i := 6) (N := some 18) (v := ?_) (a' := ?_) #[true, true, true, true, true, true, true, false] rfl rfl (Bf HT_.out (by kernel_rfl)) (fun _ _ _ h => h) (Or.inl ⟨by rfl, ?_⟩) ?_ ?_
          rotate_left
          · intro w'
            go_simp
            with_reducible rfl
          rotate_left
          · simp only [Act.put, List.setIfInBounds_toArray, List.set_cons_zero, List.set_cons_succ, Aw, Az]
            rfl
          refine last_ (i := 7) (N := none) #[true, true, true, true, true, true, true, true] rfl rfl (Fp HT_.out (by kernel_rfl)) (by decide) (fun K hK => ?_)
          have hs18 : w17.cell? ⟨gb473, 0, none⟩ = some (.string x474000_1) := (Ae BK473.out 0).trans rfl
          have hfs18 := Af BK473.out 0
          have hns18_0 := NB472_473.out
          have hms18_0 := NB473_472.out
          have hs19 : w17.cell? ⟨gb473, 1, none⟩ = some (.string x474001_1) := (Ae BK473.out 1).trans rfl
          have hfs19 := Af BK473.out 1
          have hns19_0 := NB472_473.out
          have hms19_0 := NB473_472.out
          have hs20 : w17.cell? ⟨gb473, 2, none⟩ = some (.int .i64 x474002_1) := (Ae BK473.out 2).trans rfl
          have hfs20 := Af BK473.out 2
          have hns20_0 := NB472_473.out
          have hms20_0 := NB473_472.out
          refine skip_ (w1 := ?_) (by rfl) rfl ?_ ?_
          rotate_left
          · go_simp
            rfl
          refine hK.out _ _ ?_
          clear hK K
          refine done_ (Gy HT_.out (by kernel_rfl)) ?_
          try go_wp2_with (first | ((with_reducible refine Am (f := 54) rfl ?_); refine Be (some 20) rfl rfl Tryd.func54 (by kernel_rfl) rfl #[.pointer (some ⟨g, 0, none⟩), .int .i64 4] rfl Yc_ ?_; (with_reducible refine (Em.calls g s0_0 t479 t480 4 true t486 t487 w0 _ ?side1 ?side2 A12.out).mono ?_); (case side1 => repeat (first | (with_reducible first | exact HI0.out | apply IsS74.alloc | apply IsS74.drewN | apply IsS74.drew | apply IsS74.set_1 | apply IsS74.set_2 | refine IsS74.far ?_ NB0_472.out _ | refine IsS74.far ?_ NB0_473.out _) | exact HI0.out)); (case side2 => repeat (first | (with_reducible first | exact HB.out | apply below_alloc | apply pw_below_drewN | apply below_drew1 | refine below_set ?_ (IsS74.ge HI0.out) | refine below_set ?_ GE472.out | refine below_set ?_ GE473.out) | exact HB.out)); rintro e w21 ⟨rfl, hi, hb, hk⟩; refine ⟨_, rfl, ?_⟩; have n0_ := Aside0.mk (KeepBut.blk hk (g' := gb472) (o := .cells #[.string (⟨#[]⟩ : ByteArray), .string (⟨#[]⟩ : ByteArray), .int .i64 0] 31 (0, 0)) Ydf_ NB472_0.out (by simp)); have n1_ := Aside0.mk (KeepBut.blk hk (g' := gb473) (o := .cells #[.string t481, .string t482, .int .i64 t483] 31 (0, 0)) Yej_ NB473_0.out (by simp)); have n2_ := Aside0.mk (KeepBut.trans Yce_ hk (.inl rfl)); have n3_ := Aside0.mk (hb); have n4_ := Aside0.mk (hi); clear BK472; clear BK473; clear HK; clear HB; clear HI0; have BK472 := n0_; have BK473 := n1_; have HK := n2_; have HB := n3_; have HI0 := n4_; clear n0_ n1_ n2_ n3_ n4_; (try clear hb); (try clear hb2); (try clear hk); (try clear hi); have hnb22 := NB473_472.out; have hnc22 := NB472_473.out; have hnb23 := NB473_0.out; have hnc23 := NB0_473.out; have hcz24_0 : w21.cell? ⟨gb473, 0, none⟩ = some (.string t481) := (Ae BK473.out 0).trans rfl; have hcz24_1 : w21.cell? ⟨gb473, 1, none⟩ = some (.string t482) := (Ae BK473.out 1).trans rfl; have hcz24_2 : w21.cell? ⟨gb473, 2, none⟩ = some (.int .i64 t483) := (Ae BK473.out 2).trans rfl; have hfz24_0 := Af BK473.out 0; have hfz24_1 := Af BK473.out 1; have hfz24_2 := Af BK473.out 2) | ((with_reducible refine Am (f := 26) rfl ?_); refine Be (some 23) rfl rfl Tryd.func26 (by kernel_rfl) rfl #[.agg #[.string t481, .string t482, .int .i64 t483]] rfl Yc_ ?_; (with_reducible refine (E5.calls k1 t481 t482 t483 t488 t489 t490 t491 _ A14.out).mono ?_); rintro e w25 ⟨rfl, hb⟩; refine ⟨_, rfl, ?_⟩; have n0_ := Aside0.mk (Ai (g := gb472) (o := .cells #[.string (⟨#[]⟩ : ByteArray), .string (⟨#[]⟩ : ByteArray), .int .i64 0] 31 (0, 0)) Yea_ hb); have n1_ := Aside0.mk (Ai (g := gb473) (o := .cells #[.string t481, .string t482, .int .i64 t483] 31 (0, 0)) Ygd_ hb); have n2_ := Aside0.mk (IsS74.below Yfe_ hb); have n3_ := Aside0.mk (KeepBut.trans Yce_ (KeepBut.of_below hb g none) (.inl rfl)); have n4_ := Aside0.mk (Ag Yfg_ hb); clear BK472; clear BK473; clear HI0; clear HK; clear HB; have BK472 := n0_; have BK473 := n1_; have HI0 := n2_; have HK := n3_; have HB := n4_; clear n0_ n1_ n2_ n3_ n4_; (try clear hb); (try clear hb2); (try clear hk); (try clear hi); have hcz26_0 : w25.cell? ⟨gb473, 0, none⟩ = some (.string t481) := (Ae BK473.out 0).trans rfl; have hcz26_1 : w25.cell? ⟨gb473, 1, none⟩ = some (.string t482) := (Ae BK473.out 1).trans rfl; have hcz26_2 : w25.cell? ⟨gb473, 2, none⟩ = some (.int .i64 t483) := (Ae BK473.out 2).trans rfl; have hfz26_0 := Af BK473.out 0; have hfz26_1 := Af BK473.out 1; have hfz26_2 := Af BK473.out 2))
          go_roundg k1
          case measure => have := HK1.out; omega
          case rel => exact ⟨(wrap64 (x4_1 - 1)), (t486), (t487), (t488), (t489), (t490), Ybe_, H', ⟨by have := HK1.out; omega⟩, ⟨by (with_reducible repeat (first | refine Aa ?_ _ | refine Ad ?_ | refine Ac ?_ _)); refine Aq ?_ NB472_473.out _; (with_reducible repeat (first | refine Aa ?_ _ | refine Ad ?_ | refine Ac ?_ _)); refine Aq ?_ NB472_473.out _; (with_reducible repeat (first | refine Aa ?_ _ | refine Ad ?_ | refine Ac ?_ _)); refine Aq ?_ NB472_473.out _; (with_reducible repeat (first | refine Aa ?_ _ | refine Ad ?_ | refine Ac ?_ _)); exact BK472.out⟩, ⟨by (with_reducible repeat (first | refine Aa ?_ _ | refine Ad ?_ | refine Ac ?_ _)); refine Ar (cs := #[.string t488, .string t489, .int .i64 t483]) ?_ 2 _ rfl; (with_reducible repeat (first | refine Aa ?_ _ | refine Ad ?_ | refine Ac ?_ _)); refine Ar (cs := #[.string t488, .string t482, .int .i64 t483]) ?_ 1 _ rfl; (with_reducible repeat (first | refine Aa ?_ _ | refine Ad ?_ | refine Ac ?_ _)); refine Ar (cs := #[.string t481, .string t482, .int .i64 t483]) ?_ 0 _ rfl; (with_reducible repeat (first | refine Aa ?_ _ | refine Ad ?_ | refine Ac ?_ _)); exact BK473.out⟩, ⟨by repeat (first | (with_reducible first | exact HI0.out | apply IsS74.alloc | apply IsS74.drewN | apply IsS74.drew | apply IsS74.set_1 | apply IsS74.set_2 | refine IsS74.far ?_ NB0_472.out _ | refine IsS74.far ?_ NB0_473.out _) | exact HI0.out)⟩, ⟨by repeat (first | (with_reducible first | exact HK.out | apply KeepBut.set_ | apply keep_drewN | apply keep_drew | apply keep_alloc | refine Bi ?_ GW472.out _ | refine Bi ?_ GW473.out _) | exact HK.out)⟩, ⟨by repeat (first | (with_reducible first | exact HB.out | apply below_alloc | apply pw_below_drewN | apply below_drew1 | refine below_set ?_ (IsS74.ge HI0.out) | refine below_set ?_ GE472.out | refine below_set ?_ GE473.out) | exact HB.out)⟩⟩
        · replace c13 := Bool.eq_false_iff.mpr c13
          subst c13
          have H1 : (Bj.l0 k1 (wrap64 (x4_1 - 1)) s0_0 t486 t487 t481 t482 t483) = some (r1, r2, r3, r4, r5) := by rw [if_neg (show ¬ (false = true) by decide)] at H; exact H
          clear H
          have H := H1
          clear H1
          have H' := Aside0.mk H
          clear H
          try go_wp2
          have n0_ := Aside0.mk (Ad BK472.out)
          have n1_ := Aside0.mk (Ad BK473.out)
          have n2_ := Aside0.mk (IsS74.drew HI0.out)
          have n3_ := Aside0.mk (keep_drew HK.out)
          have n4_ := Aside0.mk (below_drew1 HB.out)
          clear BK472
          clear BK473
          clear HI0
          clear HK
          clear HB
          have BK472 := n0_
          have BK473 := n1_
          have HI0 := n2_
          have HK := n3_
          have HB := n4_
          clear n0_ n1_ n2_ n3_ n4_
          refine G5 (n := 8) (S := fun w' => w'.cell? ⟨gb473, 0, none⟩ = some (.string x474000_1) ∧ w'.cell? ⟨gb473, 1, none⟩ = some (.string x474001_1) ∧ w'.cell? ⟨gb473, 2, none⟩ = some (.int .i64 x474002_1)) (ds := [7]) #[false, false, false, false, false, false, false, false] (by kernel_rfl) rfl rfl ⟨(Ae BK473.out 0).trans rfl, (Ae BK473.out 1).trans rfl, (Ae BK473.out 2).trans rfl⟩ (fun hHeld => ?_); refine Gf Bj.tab5 Bj.bits5 (fun HT_ HW_ => ?_)
          generalize wr.drew = w27 at BK472 BK473 HI0 HK HB hHeld ⊢
          refine Bz (i := 1) (N := some 14) (v := ?_) (a' := ?_) #[false, true, false, false, false, false, false, false] rfl rfl (Bf HT_.out (by kernel_rfl)) (fun _ _ _ h => h) (Or.inl ⟨by rfl, ?_⟩) ?_ ?_
          rotate_left
          · intro w'
            go_simp
            with_reducible rfl
          rotate_left
          · simp only [Act.put, List.setIfInBounds_toArray, List.set_cons_zero, List.set_cons_succ, Aw, Az]
            rfl
          refine E8 (i := 0) (N := some 13) (v := ?_) (a' := ?_) #[true, true, false, false, false, false, false, false] rfl rfl (Ea HT_.out HW_.out (by kernel_rfl)) (fun _ _ _ h => h) (Or.inl ⟨by rfl, ?_⟩) hHeld ?_ ?_
          rotate_left
          · rintro w' ⟨s0, s1, s2⟩
            go_simp
            with_reducible rfl
          rotate_left
          · simp only [Act.put, List.setIfInBounds_toArray, List.set_cons_zero, List.set_cons_succ, Aw, Az]
            rfl
          refine one_ (i := 2) (N := some 15) #[true, true, true, false, false, false, false, false] rfl rfl (Fp HT_.out (by kernel_rfl)) (by decide) (fun K hK => ?_)
          refine Gl Tryd.func56 (by kernel_rfl) rfl #[.pointer (some ⟨g, 0, none⟩)] (by rfl) rfl rfl Yc_ ?_
          with_reducible refine (Dk.calls g s0_0 x1001_1 x1002_1 t477 t478 t479 t480 w0 _ ?side1 ?side2 A10.out).mono ?_
          (case side1 => repeat (first | (with_reducible first | exact HI0.out | apply IsS74.alloc | apply IsS74.drewN | apply IsS74.drew | apply IsS74.set_1 | apply IsS74.set_2 | refine IsS74.far ?_ NB0_472.out _ | refine IsS74.far ?_ NB0_473.out _) | exact HI0.out))
          (case side2 => repeat (first | (with_reducible first | exact HB.out | apply below_alloc | apply pw_below_drewN | apply below_drew1 | refine below_set ?_ (IsS74.ge HI0.out) | refine below_set ?_ GE472.out | refine below_set ?_ GE473.out) | exact HB.out))
          rintro e w28 ⟨rfl, hi, hb, hk⟩
          refine ⟨_, rfl, ?_⟩
          have n0_ := Aside0.mk (KeepBut.blk hk (g' := gb472) (o := .cells #[.string (⟨#[]⟩ : ByteArray), .string (⟨#[]⟩ : ByteArray), .int .i64 0] 31 (0, 0)) Yea_ NB472_0.out (by simp))
          have n1_ := Aside0.mk (KeepBut.blk hk (g' := gb473) (o := .cells #[.string x474000_1, .string x474001_1, .int .i64 x474002_1] 31 (0, 0)) Ygd_ NB473_0.out (by simp))
          have n2_ := Aside0.mk (KeepBut.trans Yce_ hk (.inl rfl))
          have n3_ := Aside0.mk (hb)
          have n4_ := Aside0.mk (hi)
          clear BK472
          clear BK473
          clear HK
          clear HB
          clear HI0
          have BK472 := n0_
          have BK473 := n1_
          have HK := n2_
          have HB := n3_
          have HI0 := n4_
          clear n0_ n1_ n2_ n3_ n4_
          (try clear hb)
          (try clear hb2)
          (try clear hk)
          (try clear hi)
          refine hK.out _ _ ⟨(Ae BK473.out 0).trans rfl, (Ae BK473.out 1).trans rfl, (Ae BK473.out 2).trans rfl⟩ (fun hHeld => ?_)
          clear hK K
          refine Gp (a' := ?_) ?_ ?_
          rotate_left
          · show Act.put _ (some 15) _ = _
            simp only [Act.put, List.setIfInBounds_toArray, List.set_cons_zero, List.set_cons_succ, Aw, Az]
            rfl
          refine one_ (i := 3) (N := some 16) #[true, true, true, true, false, false, false, false] rfl rfl (Fp HT_.out (by kernel_rfl)) (by decide) (fun K hK => ?_)
          refine Gl Tryd.func28 (by kernel_rfl) rfl #[.agg #[.string x474000_1, .string x474001_1, .int .i64 x474002_1], .agg #[.string t477, .string t478]] (by rfl) rfl rfl Yc_ ?_
          with_reducible refine (Au.calls k1 x474000_1 x474001_1 x474002_1 t477 t478 t481 t482 t483 t484 _ A11.out).mono ?_
          rintro e w29 ⟨rfl, hb⟩
          refine ⟨_, rfl, ?_⟩
          have n0_ := Aside0.mk (Ai (g := gb472) (o := .cells #[.string (⟨#[]⟩ : ByteArray), .string (⟨#[]⟩ : ByteArray), .int .i64 0] 31 (0, 0)) Yea_ hb)
          have n1_ := Aside0.mk (Ai (g := gb473) (o := .cells #[.string x474000_1, .string x474001_1, .int .i64 x474002_1] 31 (0, 0)) Ygd_ hb)
          have n2_ := Aside0.mk (IsS74.below Yfe_ hb)
          have n3_ := Aside0.mk (KeepBut.trans Yce_ (KeepBut.of_below hb g none) (.inl rfl))
          have n4_ := Aside0.mk (Ag Yfg_ hb)
          clear BK472
          clear BK473
          clear HI0
          clear HK
          clear HB
          have BK472 := n0_
          have BK473 := n1_
          have HI0 := n2_
          have HK := n3_
          have HB := n4_
          clear n0_ n1_ n2_ n3_ n4_
          (try clear hb)
          (try clear hb2)
          (try clear hk)
          (try clear hi)
          refine hK.out _ _ ⟨(Ae BK473.out 0).trans rfl, (Ae BK473.out 1).trans rfl, (Ae BK473.out 2).trans rfl⟩ (fun hHeld => ?_)
          clear hK K
          refine Gp (a' := ?_) ?_ ?_
          rotate_left
          · show Act.put _ (some 16) _ = _
            simp only [Act.put, List.setIfInBounds_toArray, List.set_cons_zero, List.set_cons_succ, Aw, Az]
            rfl
          refine Bz (i := 4) (N := some 12) (v := ?_) (a' := ?_) #[true, true, true, true, true, false, false, false] rfl rfl (Bf HT_.out (by kernel_rfl)) (fun _ _ _ h => h) (Or.inl ⟨by rfl, ?_⟩) ?_ ?_
          rotate_left
          · intro w'
            go_simp
            with_reducible rfl
          rotate_left
          · simp only [Act.put, List.setIfInBounds_toArray, List.set_cons_zero, List.set_cons_succ, Aw, Az]
            rfl
          refine Bz (i := 5) (N := some 17) (v := ?_) (a' := ?_) #[true, true, true, true, true, true, false, false] rfl rfl (Bf HT_.out (by kernel_rfl)) (fun _ _ _ h => h) (Or.inl ⟨by rfl, ?_⟩) ?_ ?_
          rotate_left
          · intro w'
            go_simp
            with_reducible rfl
          rotate_left
          · simp only [Act.put, List.setIfInBounds_toArray, List.set_cons_zero, List.set_cons_succ, Aw, Az]
            rfl
          refine Bz (i := 6) (N := some 18) (v := ?_) (a' := ?_) #[true, true, true, true, true, true, true, false] rfl rfl (Bf HT_.out (by kernel_rfl)) (fun _ _ _ h => h) (Or.inl ⟨by rfl, ?_⟩) ?_ ?_
          rotate_left
          · intro w'
            go_simp
            with_reducible rfl
          rotate_left
          · simp only [Act.put, List.setIfInBounds_toArray, List.set_cons_zero, List.set_cons_succ, Aw, Az]
            rfl
          refine last_ (i := 7) (N := none) #[true, true, true, true, true, true, true, true] rfl rfl (Fp HT_.out (by kernel_rfl)) (by decide) (fun K hK => ?_)
          have hs30 : w29.cell? ⟨gb473, 0, none⟩ = some (.string x474000_1) := (Ae BK473.out 0).trans rfl
          have hfs30 := Af BK473.out 0
          have hns30_0 := NB472_473.out
          have hms30_0 := NB473_472.out
          have hs31 : w29.cell? ⟨gb473, 1, none⟩ = some (.string x474001_1) := (Ae BK473.out 1).trans rfl
          have hfs31 := Af BK473.out 1
          have hns31_0 := NB472_473.out
          have hms31_0 := NB473_472.out
          have hs32 : w29.cell? ⟨gb473, 2, none⟩ = some (.int .i64 x474002_1) := (Ae BK473.out 2).trans rfl
          have hfs32 := Af BK473.out 2
          have hns32_0 := NB472_473.out
          have hms32_0 := NB473_472.out
          refine skip_ (w1 := ?_) (by rfl) rfl ?_ ?_
          rotate_left
          · go_simp
            rfl
          refine hK.out _ _ ?_
          clear hK K
          refine done_ (Gy HT_.out (by kernel_rfl)) ?_
          try go_wp2_with (first | ((with_reducible refine Am (f := 54) rfl ?_); refine Be (some 20) rfl rfl Tryd.func54 (by kernel_rfl) rfl #[.pointer (some ⟨g, 0, none⟩), .int .i64 4] rfl Yc_ ?_; (with_reducible refine (Em.calls g s0_0 t479 t480 4 false t486 t487 w0 _ ?side1 ?side2 A12.out).mono ?_); (case side1 => repeat (first | (with_reducible first | exact HI0.out | apply IsS74.alloc | apply IsS74.drewN | apply IsS74.drew | apply IsS74.set_1 | apply IsS74.set_2 | refine IsS74.far ?_ NB0_472.out _ | refine IsS74.far ?_ NB0_473.out _) | exact HI0.out)); (case side2 => repeat (first | (with_reducible first | exact HB.out | apply below_alloc | apply pw_below_drewN | apply below_drew1 | refine below_set ?_ (IsS74.ge HI0.out) | refine below_set ?_ GE472.out | refine below_set ?_ GE473.out) | exact HB.out)); rintro e w33 ⟨rfl, hi, hb, hk⟩; refine ⟨_, rfl, ?_⟩; have n0_ := Aside0.mk (KeepBut.blk hk (g' := gb472) (o := .cells #[.string (⟨#[]⟩ : ByteArray), .string (⟨#[]⟩ : ByteArray), .int .i64 0] 31 (0, 0)) Ydf_ NB472_0.out (by simp)); have n1_ := Aside0.mk (KeepBut.blk hk (g' := gb473) (o := .cells #[.string t481, .string t482, .int .i64 t483] 31 (0, 0)) Yej_ NB473_0.out (by simp)); have n2_ := Aside0.mk (KeepBut.trans Yce_ hk (.inl rfl)); have n3_ := Aside0.mk (hb); have n4_ := Aside0.mk (hi); clear BK472; clear BK473; clear HK; clear HB; clear HI0; have BK472 := n0_; have BK473 := n1_; have HK := n2_; have HB := n3_; have HI0 := n4_; clear n0_ n1_ n2_ n3_ n4_; (try clear hb); (try clear hb2); (try clear hk); (try clear hi)))
          go_roundg k1
          case measure => have := HK1.out; omega
          case rel => exact ⟨(wrap64 (x4_1 - 1)), (t486), (t487), (t481), (t482), (t483), Ybe_, H', ⟨by have := HK1.out; omega⟩, ⟨by (with_reducible repeat (first | refine Aa ?_ _ | refine Ad ?_ | refine Ac ?_ _)); exact BK472.out⟩, ⟨by (with_reducible repeat (first | refine Aa ?_ _ | refine Ad ?_ | refine Ac ?_ _)); exact BK473.out⟩, ⟨by repeat (first | (with_reducible first | exact HI0.out | apply IsS74.alloc | apply IsS74.drewN | apply IsS74.drew | apply IsS74.set_1 | apply IsS74.set_2 | refine IsS74.far ?_ NB0_472.out _ | refine IsS74.far ?_ NB0_473.out _) | exact HI0.out)⟩, ⟨by repeat (first | (with_reducible first | exact HK.out | apply KeepBut.set_ | apply keep_drewN | apply keep_drew | apply keep_alloc | refine Bi ?_ GW472.out _ | refine Bi ?_ GW473.out _) | exact HK.out)⟩, ⟨by repeat (first | (with_reducible first | exact HB.out | apply below_alloc | apply pw_below_drewN | apply below_drew1 | refine below_set ?_ (IsS74.ge HI0.out) | refine below_set ?_ GE472.out | refine below_set ?_ GE473.out) | exact HB.out)⟩⟩
      · rw [if_neg c9] at H
        have c9b0 : decide (0 < x4_1) = false := decide_eq_false c9
        clear c9
        simp only [Option.some.injEq, Prod.mk.injEq] at H
        obtain ⟨rfl, rfl, rfl, rfl, rfl⟩ := H
        have hnb34 := NB473_472.out
        have hnc34 := NB472_473.out
        have hnb35 := NB473_0.out
        have hnc35 := NB0_473.out
        have hcz36_0 : wr.cell? ⟨gb473, 0, none⟩ = some (.string x474000_1) := (Ae BK473.out 0).trans rfl
        have hcz36_1 : wr.cell? ⟨gb473, 1, none⟩ = some (.string x474001_1) := (Ae BK473.out 1).trans rfl
        have hcz36_2 : wr.cell? ⟨gb473, 2, none⟩ = some (.int .i64 x474002_1) := (Ae BK473.out 2).trans rfl
        have hfz36_0 := Af BK473.out 0
        have hfz36_1 := Af BK473.out 1
        have hfz36_2 := Af BK473.out 2
        have hnb37 := NB472_0.out
        have hnc37 := NB0_472.out
        have hcz38_0 : wr.cell? ⟨gb472, 0, none⟩ = some (.string (⟨#[]⟩ : ByteArray)) := (Ae BK472.out 0).trans rfl
        have hcz38_1 : wr.cell? ⟨gb472, 1, none⟩ = some (.string (⟨#[]⟩ : ByteArray)) := (Ae BK472.out 1).trans rfl
        have hcz38_2 : wr.cell? ⟨gb472, 2, none⟩ = some (.int .i64 0) := (Ae BK472.out 2).trans rfl
        have hfz38_0 := Af BK472.out 0
        have hfz38_1 := Af BK472.out 1
        have hfz38_2 := Af BK472.out 2
        go_wp2
        refine bodyPost_ret (results_cell_row rfl _ _ gb472 31 #[.string x474000_1, .string x474001_1, .int .i64 x474002_1] (0, 0) _ rfl (by (with_reducible repeat (first | refine Aa ?_ _ | refine Ad ?_ | refine Ac ?_ _)); refine Ar (cs := #[.string x474000_1, .string x474001_1, .int .i64 0]) ?_ 2 _ rfl; (with_reducible repeat (first | refine Aa ?_ _ | refine Ad ?_ | refine Ac ?_ _)); refine Ar (cs := #[.string x474000_1, .string (⟨#[]⟩ : ByteArray), .int .i64 0]) ?_ 1 _ rfl; (with_reducible repeat (first | refine Aa ?_ _ | refine Ad ?_ | refine Ac ?_ _)); refine Ar (cs := #[.string (⟨#[]⟩ : ByteArray), .string (⟨#[]⟩ : ByteArray), .int .i64 0]) ?_ 0 _ rfl; (with_reducible repeat (first | refine Aa ?_ _ | refine Ad ?_ | refine Ac ?_ _)); exact BK472.out) Tryd.underlying31 rfl (by kernel_rfl)) rfl ?_
        exact ⟨by first | rfl | (simp [Ak, Aj] <;> rfl) | (simp [*, Ak, Aj] <;> rfl), by repeat (first | (with_reducible first | exact HI0.out | apply IsS74.alloc | apply IsS74.drewN | apply IsS74.drew | apply IsS74.set_1 | apply IsS74.set_2 | refine IsS74.far ?_ NB0_472.out _ | refine IsS74.far ?_ NB0_473.out _) | exact HI0.out), by repeat (first | (with_reducible first | exact HB.out | apply below_alloc | apply pw_below_drewN | apply below_drew1 | refine below_set ?_ (IsS74.ge HI0.out) | refine below_set ?_ GE472.out | refine below_set ?_ GE473.out) | exact HB.out), by repeat (first | (with_reducible first | exact HK.out | apply KeepBut.set_ | apply keep_drewN | apply keep_drew | apply keep_alloc | refine Bi ?_ GW472.out _ | refine Bi ?_ GW473.out _) | exact HK.out)⟩
end Go.Proofs.YtkpieljmhgfofaaDoor.X

namespace Go.Proofs.YtkpieljmhgfofaaDoor.X
open Go.RowKit Go.Proofs.YtkpieljmhgfofaaDoorW.PrintWords Go.Proofs.YtkpieljmhgfofaaDoorW.PrintLast Go.Proofs.YtkpieljmhgfofaaDoorW.PrintMore
attribute [local go_sem] max2_int min2_int max_two min_two max_three min_three max_four min_four
open Go.Proofs.YtkpieljmhgfofaaDoorG
def spec_l1Cur_spoilt.f (s0_0 : List Int) (s0_1 : Int) (s0_2 : Int) (a1 : ByteArray) (a2 : ByteArray) : Option (ByteArray × Int × Int) :=
  if a1.toList = ([] : List UInt8) then (if 1 ≤ (a2.size : Int) then some (a2.extract 0 1, s0_1, s0_2) else none)
  else (spec_l1Cur_pick.f s0_0 s0_1 s0_2 (a1.size : Int)).bind fun p => (spec_l1Cur_pick.f s0_0 p.2.1 p.2.2 (a2.size : Int)).bind fun q =>
    (spec_l1Cur_pick.f s0_0 q.2.1 q.2.2 3).bind fun m => if (0 ≤ q.1 ∧ q.1 < (a2.size : Int)) ∧ (0 ≤ p.1 ∧ p.1 < (a1.size : Int)) ∧ a1.size ≤ 4611686018427387904 ∧ a2.size ≤ 4611686018427387904 then
      some (if m.1 = 0 then ((a1.extract 0 p.1.toNat ++ (a2.extract q.1.toNat a2.size).extract 0 1) ++ a1.extract p.1.toNat a1.size, m.2.1, m.2.2)
        else if m.1 = 1 then ((a1.extract 0 p.1.toNat ++ (a2.extract q.1.toNat a2.size).extract 0 1) ++ a1.extract (p.1 + 1).toNat a1.size, m.2.1, m.2.2)
        else (a1.extract 0 p.1.toNat ++ a1.extract (p.1 + 1).toNat a1.size, m.2.1, m.2.2)) else none
set_option maxHeartbeats 8000000 in
set_option maxRecDepth 100000 in
theorem spec_l1Cur_spoilt.calls (g : Nat) (s0_0 : List Int) (s0_1 : Int) (s0_2 : Int) (a1 : ByteArray) (a2 : ByteArray) (r1 : ByteArray) (r2 : Int) (r3 : Int) (w0 w : World) (hI : IsS74 w0 w g s0_0 s0_1 s0_2) (hB : Below w0.heap.size w0 w) (h : spec_l1Cur_spoilt.f s0_0 s0_1 s0_2 a1 a2 = some (r1, r2, r3)) :
    Calls Tryd.prog 61 #[.pointer (some ⟨g, 0, none⟩), .string a1, .string a2] w fun e w' => e = .returned (.string r1) ∧ IsS74 w0 w' g s0_0 r2 r3 ∧ Below w0.heap.size w0 w' ∧ KeepBut w w' g none := by
  have HI0 := Aside0.mk hI
  have HK := Aside0.mk (KeepBut.refl w g none)
  have HB := Aside0.mk hB
  clear hI hB
  unfold spec_l1Cur_spoilt.f at h
  by_cases c4 : a1.toList = ([] : List UInt8)
  · rw [if_pos c4] at h
    have c4b0 : (a1.toList == ([] : List UInt8)) = true := beq_iff_eq.mpr c4
    clear c4
    by_cases c6 : 1 ≤ (a2.size : Int)
    · rw [if_pos c6] at h
      simp only [Option.some.injEq, Prod.mk.injEq] at h
      obtain ⟨rfl, rfl, rfl⟩ := h
      have c6b := eq_true c6
      have c6c : decide (1 ≤ (a2.size : Int)) = true := decide_eq_true c6
      have c6d : (1 ≤ a2.size) = True := eq_true (by omega)
      clear c6
      go_enter Tryd.func61, Tryd.ntmps61
      go_wp2
      go_ret
      exact ⟨by first | rfl | (simp [*]; done), by repeat (first | (with_reducible first | exact HI0.out | apply IsS74.alloc | apply IsS74.drewN | apply IsS74.drew | apply IsS74.set_1 | apply IsS74.set_2) | exact HI0.out), by repeat (first | (with_reducible first | exact HB.out | apply below_alloc | apply pw_below_drewN | apply below_drew1 | refine below_set ?_ (IsS74.ge HI0.out)) | exact HB.out), by repeat (first | (with_reducible first | exact HK.out | apply KeepBut.set_ | apply keep_drewN | apply keep_drew | apply keep_alloc) | exact HK.out)⟩
    · rw [if_neg c6] at h; cases h
  · rw [if_neg c4] at h
    have c4b0 : (a1.toList == ([] : List UInt8)) = false := beq_eq_false_iff_ne.mpr c4
    clear c4
    replace h := Option.bind_eq_some_iff.mp h
    obtain ⟨⟨p, p2, p3⟩, A1, h⟩ := h
    replace h := Option.bind_eq_some_iff.mp h
    obtain ⟨⟨q, q2, q3⟩, A2, h⟩ := h
    replace h := Option.bind_eq_some_iff.mp h
    obtain ⟨⟨m, m2, m3⟩, A3, h⟩ := h
    have AA1 := Aside0.mk A1
    have AA2 := Aside0.mk A2
    have AA3 := Aside0.mk A3
    clear A1 A2 A3
    dsimp only at h AA1 AA2 AA3
    by_cases c : (0 ≤ q ∧ q < (a2.size : Int)) ∧ (0 ≤ p ∧ p < (a1.size : Int)) ∧ a1.size ≤ 4611686018427387904 ∧ a2.size ≤ 4611686018427387904
    · rw [if_pos c] at h
      have CC := Aside0.mk c
      have hp0 : 0 ≤ p := c.2.1.1
      have hq0 : 0 ≤ q := c.1.1
      obtain ⟨pn, rfl⟩ := Int.eq_ofNat_of_zero_le hp0
      obtain ⟨qn, rfl⟩ := Int.eq_ofNat_of_zero_le hq0
      have x1 : ((qn : Int) ≤ (a2.size : Int)) = True := eq_true (by omega)
      have x1n : (qn ≤ a2.size) = True := eq_true (by omega)
      have x2n : (1 ≤ a2.size - qn) = True := eq_true (by omega)
      have x2i : ((1 : Int) ≤ ((a2.size - qn : Nat) : Int)) = True := eq_true (by omega)
      have x2j : (qn < a2.size) = True := eq_true (by omega)
      have x2k : (qn + 1 ≤ a2.size) = True := eq_true (by omega)
      have x3n : (pn ≤ a1.size) = True := eq_true (by omega)
      have x4n : (pn + 1 ≤ a1.size) = True := eq_true (by omega)
      have x5 : wrap64 ((pn : Int) + 1) = (pn : Int) + 1 := by unfold wrap64; omega
      have x6 : ((pn : Int) + 1).toNat = pn + 1 := by omega
      simp only [Option.some.injEq, Int.toNat_natCast, x6] at h
      have X5 := Aside0.mk x5
      clear c hp0 hq0 x5 x6
      have HH := Aside0.mk h
      clear h
      by_cases d0 : m = 0
      · subst d0
        have H2 := Aside0.mk (HH.out.symm.trans (if_pos rfl))
        clear HH
        simp only [Prod.mk.injEq] at H2
        obtain ⟨rfl, rfl, rfl⟩ := H2.out
        clear H2
        go_enter Tryd.func61, Tryd.ntmps61
        go_wp2_with (first | (go_at_call 55; (with_reducible refine (spec_l1Cur_pick.calls g s0_0 s0_1 s0_2 (a1.size : Int) (pn : Int) p2 p3 w0 _ ?side1 ?side2 AA1.out).mono ?_); (case side1 => repeat (first | (with_reducible first | exact HI0.out | apply IsS74.alloc | apply IsS74.drewN | apply IsS74.drew | apply IsS74.set_1 | apply IsS74.set_2) | exact HI0.out)); (case side2 => repeat (first | (with_reducible first | exact HB.out | apply below_alloc | apply pw_below_drewN | apply below_drew1 | refine below_set ?_ (IsS74.ge HI0.out)) | exact HB.out)); rintro e w' ⟨rfl, hi, hb, hk⟩; have n0_ := Aside0.mk (KeepBut.trans Yg_ hk (.inl rfl)); have n1_ := Aside0.mk hb; have n2_ := Aside0.mk hi; clear HK HB HI0; have HK := n0_; have HB := n1_; have HI0 := n2_; clear n0_ n1_ n2_ hb hk hi) | (go_at_call 55; (with_reducible refine (spec_l1Cur_pick.calls g s0_0 p2 p3 (a2.size : Int) (qn : Int) q2 q3 w0 _ ?side1 ?side2 AA2.out).mono ?_); (case side1 => repeat (first | (with_reducible first | exact HI0.out | apply IsS74.alloc | apply IsS74.drewN | apply IsS74.drew | apply IsS74.set_1 | apply IsS74.set_2) | exact HI0.out)); (case side2 => repeat (first | (with_reducible first | exact HB.out | apply below_alloc | apply pw_below_drewN | apply below_drew1 | refine below_set ?_ (IsS74.ge HI0.out)) | exact HB.out)); rintro e w' ⟨rfl, hi, hb, hk⟩; have n0_ := Aside0.mk (KeepBut.trans Yg_ hk (.inl rfl)); have n1_ := Aside0.mk hb; have n2_ := Aside0.mk hi; clear HK HB HI0; have HK := n0_; have HB := n1_; have HI0 := n2_; clear n0_ n1_ n2_ hb hk hi) | (go_at_call 55; (with_reducible refine (spec_l1Cur_pick.calls g s0_0 q2 q3 3 0 _ _ w0 _ ?side1 ?side2 AA3.out).mono ?_); (case side1 => repeat (first | (with_reducible first | exact HI0.out | apply IsS74.alloc | apply IsS74.drewN | apply IsS74.drew | apply IsS74.set_1 | apply IsS74.set_2) | exact HI0.out)); (case side2 => repeat (first | (with_reducible first | exact HB.out | apply below_alloc | apply pw_below_drewN | apply below_drew1 | refine below_set ?_ (IsS74.ge HI0.out)) | exact HB.out)); rintro e w' ⟨rfl, hi, hb, hk⟩; have n0_ := Aside0.mk (KeepBut.trans Yg_ hk (.inl rfl)); have n1_ := Aside0.mk hb; have n2_ := Aside0.mk hi; clear HK HB HI0; have HK := n0_; have HB := n1_; have HI0 := n2_; clear n0_ n1_ n2_ hb hk hi))
        have hC := CC.out
        have z0 : (9223372036854775807 < pn + 1) = False := eq_false (by omega)
        have z1 : (9223372036854775807 < pn + 1 + (a1.size - pn)) = False := eq_false (by omega)
        clear hC
        repeat (go_quiet (fail); try go_wp2)
        go_ret
        exact ⟨by first | rfl | (simp [*]; done), by repeat (first | (with_reducible first | exact HI0.out | apply IsS74.alloc | apply IsS74.drewN | apply IsS74.drew | apply IsS74.set_1 | apply IsS74.set_2) | exact HI0.out), by repeat (first | (with_reducible first | exact HB.out | apply below_alloc | apply pw_below_drewN | apply below_drew1 | refine below_set ?_ (IsS74.ge HI0.out)) | exact HB.out), by repeat (first | (with_reducible first | exact HK.out | apply KeepBut.set_ | apply keep_drewN | apply keep_drew | apply keep_alloc) | exact HK.out)⟩
      · by_cases d1 : m = 1
        · subst d1
          have H2 := Aside0.mk (HH.out.symm.trans ((if_neg d0).trans (if_pos rfl)))
          clear HH d0
          simp only [Prod.mk.injEq] at H2
          obtain ⟨rfl, rfl, rfl⟩ := H2.out
          clear H2
          go_enter Tryd.func61, Tryd.ntmps61
          go_wp2_with (first | (go_at_call 55; (with_reducible refine (spec_l1Cur_pick.calls g s0_0 s0_1 s0_2 (a1.size : Int) (pn : Int) p2 p3 w0 _ ?side1 ?side2 AA1.out).mono ?_); (case side1 => repeat (first | (with_reducible first | exact HI0.out | apply IsS74.alloc | apply IsS74.drewN | apply IsS74.drew | apply IsS74.set_1 | apply IsS74.set_2) | exact HI0.out)); (case side2 => repeat (first | (with_reducible first | exact HB.out | apply below_alloc | apply pw_below_drewN | apply below_drew1 | refine below_set ?_ (IsS74.ge HI0.out)) | exact HB.out)); rintro e w' ⟨rfl, hi, hb, hk⟩; have n0_ := Aside0.mk (KeepBut.trans Yg_ hk (.inl rfl)); have n1_ := Aside0.mk hb; have n2_ := Aside0.mk hi; clear HK HB HI0; have HK := n0_; have HB := n1_; have HI0 := n2_; clear n0_ n1_ n2_ hb hk hi) | (go_at_call 55; (with_reducible refine (spec_l1Cur_pick.calls g s0_0 p2 p3 (a2.size : Int) (qn : Int) q2 q3 w0 _ ?side1 ?side2 AA2.out).mono ?_); (case side1 => repeat (first | (with_reducible first | exact HI0.out | apply IsS74.alloc | apply IsS74.drewN | apply IsS74.drew | apply IsS74.set_1 | apply IsS74.set_2) | exact HI0.out)); (case side2 => repeat (first | (with_reducible first | exact HB.out | apply below_alloc | apply pw_below_drewN | apply below_drew1 | refine below_set ?_ (IsS74.ge HI0.out)) | exact HB.out)); rintro e w' ⟨rfl, hi, hb, hk⟩; have n0_ := Aside0.mk (KeepBut.trans Yg_ hk (.inl rfl)); have n1_ := Aside0.mk hb; have n2_ := Aside0.mk hi; clear HK HB HI0; have HK := n0_; have HB := n1_; have HI0 := n2_; clear n0_ n1_ n2_ hb hk hi) | (go_at_call 55; (with_reducible refine (spec_l1Cur_pick.calls g s0_0 q2 q3 3 1 _ _ w0 _ ?side1 ?side2 AA3.out).mono ?_); (case side1 => repeat (first | (with_reducible first | exact HI0.out | apply IsS74.alloc | apply IsS74.drewN | apply IsS74.drew | apply IsS74.set_1 | apply IsS74.set_2) | exact HI0.out)); (case side2 => repeat (first | (with_reducible first | exact HB.out | apply below_alloc | apply pw_below_drewN | apply below_drew1 | refine below_set ?_ (IsS74.ge HI0.out)) | exact HB.out)); rintro e w' ⟨rfl, hi, hb, hk⟩; have n0_ := Aside0.mk (KeepBut.trans Yg_ hk (.inl rfl)); have n1_ := Aside0.mk hb; have n2_ := Aside0.mk hi; clear HK HB HI0; have HK := n0_; have HB := n1_; have HI0 := n2_; clear n0_ n1_ n2_ hb hk hi))
          have hC := CC.out
          have x5 := X5.out
          have x5b : ((pn : Int) + 1 ≤ (a1.size : Int)) = True := eq_true (by omega)
          have x5c : (0 ≤ (pn : Int) + 1) = True := eq_true (by omega)
          have x6 : ((pn : Int) + 1).toNat = pn + 1 := by omega
          have z0 : (9223372036854775807 < pn + 1) = False := eq_false (by omega)
          have z1 : (9223372036854775807 < pn + 1 + (a1.size - (pn + 1))) = False := eq_false (by omega)
          have z2 : (9223372036854775807 < a1.size) = False := eq_false (by omega)
          clear hC
          repeat (go_quiet (fail); try go_wp2)
          go_ret
          exact ⟨by first | rfl | (simp [*]; done), by repeat (first | (with_reducible first | exact HI0.out | apply IsS74.alloc | apply IsS74.drewN | apply IsS74.drew | apply IsS74.set_1 | apply IsS74.set_2) | exact HI0.out), by repeat (first | (with_reducible first | exact HB.out | apply below_alloc | apply pw_below_drewN | apply below_drew1 | refine below_set ?_ (IsS74.ge HI0.out)) | exact HB.out), by repeat (first | (with_reducible first | exact HK.out | apply KeepBut.set_ | apply keep_drewN | apply keep_drew | apply keep_alloc) | exact HK.out)⟩
        · have H2 := Aside0.mk (HH.out.symm.trans ((if_neg d0).trans (if_neg d1)))
          clear HH
          simp only [Prod.mk.injEq] at H2
          obtain ⟨rfl, rfl, rfl⟩ := H2.out
          clear H2
          have d0b : (m == 0) = false := beq_eq_false_iff_ne.mpr d0
          have d1b : (m == 1) = false := beq_eq_false_iff_ne.mpr d1
          clear d0 d1
          go_enter Tryd.func61, Tryd.ntmps61
          go_wp2_with (first | (go_at_call 55; (with_reducible refine (spec_l1Cur_pick.calls g s0_0 s0_1 s0_2 (a1.size : Int) (pn : Int) p2 p3 w0 _ ?side1 ?side2 AA1.out).mono ?_); (case side1 => repeat (first | (with_reducible first | exact HI0.out | apply IsS74.alloc | apply IsS74.drewN | apply IsS74.drew | apply IsS74.set_1 | apply IsS74.set_2) | exact HI0.out)); (case side2 => repeat (first | (with_reducible first | exact HB.out | apply below_alloc | apply pw_below_drewN | apply below_drew1 | refine below_set ?_ (IsS74.ge HI0.out)) | exact HB.out)); rintro e w' ⟨rfl, hi, hb, hk⟩; have n0_ := Aside0.mk (KeepBut.trans Yg_ hk (.inl rfl)); have n1_ := Aside0.mk hb; have n2_ := Aside0.mk hi; clear HK HB HI0; have HK := n0_; have HB := n1_; have HI0 := n2_; clear n0_ n1_ n2_ hb hk hi) | (go_at_call 55; (with_reducible refine (spec_l1Cur_pick.calls g s0_0 p2 p3 (a2.size : Int) (qn : Int) q2 q3 w0 _ ?side1 ?side2 AA2.out).mono ?_); (case side1 => repeat (first | (with_reducible first | exact HI0.out | apply IsS74.alloc | apply IsS74.drewN | apply IsS74.drew | apply IsS74.set_1 | apply IsS74.set_2) | exact HI0.out)); (case side2 => repeat (first | (with_reducible first | exact HB.out | apply below_alloc | apply pw_below_drewN | apply below_drew1 | refine below_set ?_ (IsS74.ge HI0.out)) | exact HB.out)); rintro e w' ⟨rfl, hi, hb, hk⟩; have n0_ := Aside0.mk (KeepBut.trans Yg_ hk (.inl rfl)); have n1_ := Aside0.mk hb; have n2_ := Aside0.mk hi; clear HK HB HI0; have HK := n0_; have HB := n1_; have HI0 := n2_; clear n0_ n1_ n2_ hb hk hi) | (go_at_call 55; (with_reducible refine (spec_l1Cur_pick.calls g s0_0 q2 q3 3 m _ _ w0 _ ?side1 ?side2 AA3.out).mono ?_); (case side1 => repeat (first | (with_reducible first | exact HI0.out | apply IsS74.alloc | apply IsS74.drewN | apply IsS74.drew | apply IsS74.set_1 | apply IsS74.set_2) | exact HI0.out)); (case side2 => repeat (first | (with_reducible first | exact HB.out | apply below_alloc | apply pw_below_drewN | apply below_drew1 | refine below_set ?_ (IsS74.ge HI0.out)) | exact HB.out)); rintro e w' ⟨rfl, hi, hb, hk⟩; have n0_ := Aside0.mk (KeepBut.trans Yg_ hk (.inl rfl)); have n1_ := Aside0.mk hb; have n2_ := Aside0.mk hi; clear HK HB HI0; have HK := n0_; have HB := n1_; have HI0 := n2_; clear n0_ n1_ n2_ hb hk hi))
          have hC := CC.out
          have x5 := X5.out
          have x5b : ((pn : Int) + 1 ≤ (a1.size : Int)) = True := eq_true (by omega)
          have x5c : (0 ≤ (pn : Int) + 1) = True := eq_true (by omega)
          have x6 : ((pn : Int) + 1).toNat = pn + 1 := by omega
          have z0 : (9223372036854775807 < pn + (a1.size - (pn + 1))) = False := eq_false (by omega)
          clear hC
          repeat (go_quiet (fail); try go_wp2)
          go_ret
          exact ⟨by first | rfl | (simp [*]; done), by repeat (first | (with_reducible first | exact HI0.out | apply IsS74.alloc | apply IsS74.drewN | apply IsS74.drew | apply IsS74.set_1 | apply IsS74.set_2) | exact HI0.out), by repeat (first | (with_reducible first | exact HB.out | apply below_alloc | apply pw_below_drewN | apply below_drew1 | refine below_set ?_ (IsS74.ge HI0.out)) | exact HB.out), by repeat (first | (with_reducible first | exact HK.out | apply KeepBut.set_ | apply keep_drewN | apply keep_drew | apply keep_alloc) | exact HK.out)⟩
    · rw [if_neg c] at h; cases h
end Go.Proofs.YtkpieljmhgfofaaDoor.X

namespace Go.Proofs.YtkpieljmhgfofaaDoor.X
open Go.RowKit Go.Proofs.YtkpieljmhgfofaaDoorW.PrintWords Go.Proofs.YtkpieljmhgfofaaDoorW.PrintLast Go.Proofs.YtkpieljmhgfofaaDoorW.PrintMore
attribute [local go_sem] max2_int min2_int max_two min_two max_three min_three max_four min_four
open Go.Proofs.YtkpieljmhgfofaaDoorG
def Eh.f (k : Nat) (s0_0 : List Int) (s0_1 : Int) (s0_2 : Int) : Option (ByteArray × ByteArray × Int × Int × Int) := (Bj.f k s0_0 s0_1 s0_2).bind fun bt493 => ((spec_l1Cur_pick.f s0_0 bt493.2.2.2.1 bt493.2.2.2.2 24).bind fun bt499 => (if bt499.1 = 0 then (some (bt493.1, bt493.2.1, wrap64 (bt493.2.2.1 + 1), bt499.2.1, bt499.2.2)) else (if bt499.1 = 1 then ((spec_l1Cur_spoilt.f s0_0 bt499.2.1 bt499.2.2 bt493.2.1 (⟨#[35, 64, 10, 48, 49]⟩ : ByteArray)).bind fun bt502 => (some (bt493.1, bt502.1, bt493.2.2.1, bt502.2.1, bt502.2.2))) else (if bt499.1 = 2 then (if bt493.1.size + bt493.2.1.size ≤ 9223372036854775807 then (some (bt493.1 ++ bt493.2.1, bt493.2.1, bt493.2.2.1, bt499.2.1, bt499.2.2)) else (none)) else (some (bt493.1, bt493.2.1, bt493.2.2.1, bt499.2.1, bt499.2.2))))))
theorem Eh.mono : ∀ a0 a1 a2 k, LeO (Eh.f k a0 a1 a2) (Eh.f (k + 1) a0 a1 a2) := by
  intro a0 a1 a2 k
  unfold Eh.f
  repeat' first
      | (with_reducible exact Bj.mono _ _ _ _)
      | (with_reducible exact LeO.refl _)
      | (with_reducible exact LeO.none _)
      | (with_reducible refine LeO.ite ?_ ?_)
      | (with_reducible refine LeO.bind ?_ (fun _ => ?_))
      | exact Bj.mono _ _ _ _
      | exact LeO.none _
      | refine LeO.ite ?_ ?_
      | refine LeO.bind ?_ (fun _ => ?_)
set_option maxHeartbeats 8000000 in
set_option maxRecDepth 100000 in
theorem Eh.calls (k : Nat) (g : Nat) (s0_0 : List Int) (s0_1 : Int) (s0_2 : Int) (r1 : ByteArray) (r2 : ByteArray) (r3 : Int) (r4 : Int) (r5 : Int) (w0 w : World) (hI : IsS74 w0 w g s0_0 s0_1 s0_2) (hB : Below w0.heap.size w0 w) (h : Eh.f k s0_0 s0_1 s0_2 = some (r1, r2, r3, r4, r5)) :
    Calls Tryd.prog 53 #[.pointer (some ⟨g, 0, none⟩)] w fun e w' => e = .returned (.agg #[.string r1, .string r2, .int .i64 r3]) ∧ IsS74 w0 w' g s0_0 r4 r5 ∧ Below w0.heap.size w0 w' ∧ KeepBut w w' g none := by
  have hu31 := Tryd.underlying31
  have HI0 := Aside0.mk hI
  have HK := Aside0.mk (KeepBut.refl w g none)
  have HL := Aside0.mk hB.size
  clear hI
  have HW0 := Aside0.mk hB.size
  have HB := Aside0.mk hB
  clear hB
  have H : ((Bj.f k s0_0 s0_1 s0_2).bind fun bt493 => ((spec_l1Cur_pick.f s0_0 bt493.2.2.2.1 bt493.2.2.2.2 24).bind fun bt499 => (if bt499.1 = 0 then (some (bt493.1, bt493.2.1, wrap64 (bt493.2.2.1 + 1), bt499.2.1, bt499.2.2)) else (if bt499.1 = 1 then ((spec_l1Cur_spoilt.f s0_0 bt499.2.1 bt499.2.2 bt493.2.1 (⟨#[35, 64, 10, 48, 49]⟩ : ByteArray)).bind fun bt502 => (some (bt493.1, bt502.1, bt493.2.2.1, bt502.2.1, bt502.2.2))) else (if bt499.1 = 2 then (if bt493.1.size + bt493.2.1.size ≤ 9223372036854775807 then (some (bt493.1 ++ bt493.2.1, bt493.2.1, bt493.2.2.1, bt499.2.1, bt499.2.2)) else (none)) else (some (bt493.1, bt493.2.1, bt493.2.2.1, bt499.2.1, bt499.2.2))))))) = some (r1, r2, r3, r4, r5) := h
  clear h
  replace H := Option.bind_eq_some_iff.mp H
  obtain ⟨⟨t493, t494, t495, t496, t497⟩, A20, H⟩ := H
  replace H : ((spec_l1Cur_pick.f s0_0 t496 t497 24).bind fun bt499 => (if bt499.1 = 0 then (some (t493, t494, wrap64 (t495 + 1), bt499.2.1, bt499.2.2)) else (if bt499.1 = 1 then ((spec_l1Cur_spoilt.f s0_0 bt499.2.1 bt499.2.2 t494 (⟨#[35, 64, 10, 48, 49]⟩ : ByteArray)).bind fun bt502 => (some (t493, bt502.1, t495, bt502.2.1, bt502.2.2))) else (if bt499.1 = 2 then (if t493.size + t494.size ≤ 9223372036854775807 then (some (t493 ++ t494, t494, t495, bt499.2.1, bt499.2.2)) else (none)) else (some (t493, t494, t495, bt499.2.1, bt499.2.2)))))) = some (r1, r2, r3, r4, r5) := H
  have A2 := Aside0.mk A20
  clear A20
  replace H := Option.bind_eq_some_iff.mp H
  obtain ⟨⟨t499, t500, t501⟩, A30, H⟩ := H
  replace H : (if t499 = 0 then (some (t493, t494, wrap64 (t495 + 1), t500, t501)) else (if t499 = 1 then ((spec_l1Cur_spoilt.f s0_0 t500 t501 t494 (⟨#[35, 64, 10, 48, 49]⟩ : ByteArray)).bind fun bt502 => (some (t493, bt502.1, t495, bt502.2.1, bt502.2.2))) else (if t499 = 2 then (if t493.size + t494.size ≤ 9223372036854775807 then (some (t493 ++ t494, t494, t495, t500, t501)) else (none)) else (some (t493, t494, t495, t500, t501))))) = some (r1, r2, r3, r4, r5) := H
  have A3 := Aside0.mk A30
  clear A30
  by_cases c4 : t499 = 0
  · rw [if_pos c4] at H
    have c4b0 : (t499 == 0) = true := beq_iff_eq.mpr c4
    have c4b1 : (t499 != 0) = false := bne_eq_false_iff_eq.mpr c4
    clear c4
    simp only [Option.some.injEq, Prod.mk.injEq] at H
    obtain ⟨rfl, rfl, rfl, rfl, rfl⟩ := H
    go_enter Tryd.func53, Tryd.ntmps53
    go_wp2_with (first | ((with_reducible refine Bd (N := 2) rfl ?_); refine Bc ?hg (N := 2) ?hd (cs := #[.string (⟨#[]⟩ : ByteArray), .string (⟨#[]⟩ : ByteArray), .int .i64 0]) (t := 31) ?hr ?_; (case hd => rfl); (case hg => rfl); (case hr => first | (go_simp; done) | (go_simp; rfl)); intro gb492 hg w5 hbox hb; have n0_ := Aside0.mk (IsS74.below Yci_ hb); have n1_ := Aside0.mk (KeepBut.trans Yg_ (KeepBut.of_below hb g none) (.inl rfl)); have n2_ := Aside0.mk (Ag Ych_ hb); have n3_ := Aside0.mk (hbox); have n4_ := Aside0.mk ((by rw [hg]; exact (D6 (w := w) (g := g) (row := none) Yg_) : w.heap.size ≤ gb492)); have n5_ := Aside0.mk ((Nat.le_trans HW0.out (by rw [hg]; exact (D6 (w := w) (g := g) (row := none) Yg_) : w.heap.size ≤ gb492) : w0.heap.size ≤ gb492)); have n6_ := Aside0.mk ((by rw [hg]; exact Nat.ne_of_lt (IsS74.lt (show IsS74 w0 _ g s0_0 s0_1 s0_2 from by repeat (first | (with_reducible first | exact HI0.out | apply IsS74.alloc | apply IsS74.drewN | apply IsS74.drew | apply IsS74.set_1 | apply IsS74.set_2) | exact HI0.out))) : g ≠ gb492)); have n7_ := Aside0.mk ((by rw [hg]; exact Nat.ne_of_gt (IsS74.lt (show IsS74 w0 _ g s0_0 s0_1 s0_2 from by repeat (first | (with_reducible first | exact HI0.out | apply IsS74.alloc | apply IsS74.drewN | apply IsS74.drew | apply IsS74.set_1 | apply IsS74.set_2) | exact HI0.out))) : gb492 ≠ g)); clear HI0; clear HK; clear HB; have HI0 := n0_; have HK := n1_; have HB := n2_; have BK492 := n3_; have GW492 := n4_; have GE492 := n5_; have NB0_492 := n6_; have NB492_0 := n7_; clear n0_ n1_ n2_ n3_ n4_ n5_ n6_ n7_; clear hb hbox hg) | ((with_reducible refine Am (f := 60) rfl ?_); refine Be (some 5) rfl rfl Tryd.func60 (by kernel_rfl) rfl #[.pointer (some ⟨g, 0, none⟩)] rfl Yc_ ?_; (with_reducible refine (Bj.calls k g s0_0 s0_1 s0_2 t493 t494 t495 t496 t497 w0 _ ?side1 ?side2 A2.out).mono ?_); (case side1 => repeat (first | (with_reducible first | exact HI0.out | apply IsS74.alloc | apply IsS74.drewN | apply IsS74.drew | apply IsS74.set_1 | apply IsS74.set_2 | refine IsS74.far ?_ NB0_492.out _) | exact HI0.out)); (case side2 => repeat (first | (with_reducible first | exact HB.out | apply below_alloc | apply pw_below_drewN | apply below_drew1 | refine below_set ?_ (IsS74.ge HI0.out) | refine below_set ?_ GE492.out) | exact HB.out)); rintro e w6 ⟨rfl, hi, hb, hk⟩; refine ⟨_, rfl, ?_⟩; have n0_ := Aside0.mk (KeepBut.blk hk (g' := gb492) (o := .cells #[.string (⟨#[]⟩ : ByteArray), .string (⟨#[]⟩ : ByteArray), .int .i64 0] 31 (0, 0)) Ycd_ NB492_0.out (by simp)); have n1_ := Aside0.mk (KeepBut.trans Ybb_ hk (.inl rfl)); have n2_ := Aside0.mk (hb); have n3_ := Aside0.mk (hi); clear BK492; clear HK; clear HB; clear HI0; have BK492 := n0_; have HK := n1_; have HB := n2_; have HI0 := n3_; clear n0_ n1_ n2_ n3_; (try clear hb); (try clear hb2); (try clear hk); (try clear hi)) | ((with_reducible refine Bd (N := 3) rfl ?_); refine Bc ?hg (N := 3) ?hd (cs := #[.string (⟨#[]⟩ : ByteArray), .string (⟨#[]⟩ : ByteArray), .int .i64 0]) (t := 31) ?hr ?_; (case hd => rfl); (case hg => rfl); (case hr => first | (go_simp; done) | (go_simp; rfl)); intro gb498 hg w7 hbox hb; have n0_ := Aside0.mk (IsS74.below Yeg_ hb); have n1_ := Aside0.mk (Ai (g := gb492) (o := .cells #[.string (⟨#[]⟩ : ByteArray), .string (⟨#[]⟩ : ByteArray), .int .i64 0] 31 (0, 0)) Ycd_ hb); have n2_ := Aside0.mk (KeepBut.trans Ybb_ (KeepBut.of_below hb g none) (.inl rfl)); have n3_ := Aside0.mk (Ag Yeh_ hb); have n4_ := Aside0.mk (hbox); have n5_ := Aside0.mk ((by rw [hg]; exact (D6 (w := w) (g := g) (row := none) Ybb_) : w.heap.size ≤ gb498)); have n6_ := Aside0.mk ((Nat.le_trans HW0.out (by rw [hg]; exact (D6 (w := w) (g := g) (row := none) Ybb_) : w.heap.size ≤ gb498) : w0.heap.size ≤ gb498)); have n7_ := Aside0.mk ((by rw [hg]; exact Nat.ne_of_lt (Cf (g := gb492) (o := .cells #[.string (⟨#[]⟩ : ByteArray), .string (⟨#[]⟩ : ByteArray), .int .i64 0] 31 (0, 0)) Ycd_) : gb492 ≠ gb498)); have n8_ := Aside0.mk ((by rw [hg]; exact Nat.ne_of_gt (Cf (g := gb492) (o := .cells #[.string (⟨#[]⟩ : ByteArray), .string (⟨#[]⟩ : ByteArray), .int .i64 0] 31 (0, 0)) Ycd_) : gb498 ≠ gb492)); have n9_ := Aside0.mk ((by rw [hg]; exact Nat.ne_of_lt (IsS74.lt (show IsS74 w0 _ g s0_0 t496 t497 from by repeat (first | (with_reducible first | exact HI0.out | apply IsS74.alloc | apply IsS74.drewN | apply IsS74.drew | apply IsS74.set_1 | apply IsS74.set_2 | refine IsS74.far ?_ NB0_492.out _) | exact HI0.out))) : g ≠ gb498)); have n10_ := Aside0.mk ((by rw [hg]; exact Nat.ne_of_gt (IsS74.lt (show IsS74 w0 _ g s0_0 t496 t497 from by repeat (first | (with_reducible first | exact HI0.out | apply IsS74.alloc | apply IsS74.drewN | apply IsS74.drew | apply IsS74.set_1 | apply IsS74.set_2 | refine IsS74.far ?_ NB0_492.out _) | exact HI0.out))) : gb498 ≠ g)); clear HI0; clear BK492; clear HK; clear HB; have HI0 := n0_; have BK492 := n1_; have HK := n2_; have HB := n3_; have BK498 := n4_; have GW498 := n5_; have GE498 := n6_; have NB492_498 := n7_; have NB498_492 := n8_; have NB0_498 := n9_; have NB498_0 := n10_; clear n0_ n1_ n2_ n3_ n4_ n5_ n6_ n7_ n8_ n9_ n10_; clear hb hbox hg; have hnb8 := NB498_492.out; have hnc8 := NB492_498.out; have hnb9 := NB498_0.out; have hnc9 := NB0_498.out; have hcz10_0 : w7.cell? ⟨gb498, 0, none⟩ = some (.string (⟨#[]⟩ : ByteArray)) := (Ae BK498.out 0).trans rfl; have hcz10_1 : w7.cell? ⟨gb498, 1, none⟩ = some (.string (⟨#[]⟩ : ByteArray)) := (Ae BK498.out 1).trans rfl; have hcz10_2 : w7.cell? ⟨gb498, 2, none⟩ = some (.int .i64 0) := (Ae BK498.out 2).trans rfl; have hfz10_0 := Af BK498.out 0; have hfz10_1 := Af BK498.out 1; have hfz10_2 := Af BK498.out 2) | ((with_reducible refine Am (f := 55) rfl ?_); refine Be (some 7) rfl rfl Tryd.func55 (by kernel_rfl) rfl #[.pointer (some ⟨g, 0, none⟩), .int .i64 24] rfl Yc_ ?_; (with_reducible refine (spec_l1Cur_pick.calls g s0_0 t496 t497 24 t499 t500 t501 w0 _ ?side1 ?side2 A3.out).mono ?_); (case side1 => repeat (first | (with_reducible first | exact HI0.out | apply IsS74.alloc | apply IsS74.drewN | apply IsS74.drew | apply IsS74.set_1 | apply IsS74.set_2 | refine IsS74.far ?_ NB0_492.out _ | refine IsS74.far ?_ NB0_498.out _) | exact HI0.out)); (case side2 => repeat (first | (with_reducible first | exact HB.out | apply below_alloc | apply pw_below_drewN | apply below_drew1 | refine below_set ?_ (IsS74.ge HI0.out) | refine below_set ?_ GE492.out | refine below_set ?_ GE498.out) | exact HB.out)); rintro e w11 ⟨rfl, hi, hb, hk⟩; refine ⟨_, rfl, ?_⟩; have n0_ := Aside0.mk (KeepBut.blk hk (g' := gb492) (o := .cells #[.string (⟨#[]⟩ : ByteArray), .string (⟨#[]⟩ : ByteArray), .int .i64 0] 31 (0, 0)) Ycg_ NB492_0.out (by simp)); have n1_ := Aside0.mk (KeepBut.blk hk (g' := gb498) (o := .cells #[.string t493, .string t494, .int .i64 t495] 31 (0, 0)) Ybi_ NB498_0.out (by simp)); have n2_ := Aside0.mk (KeepBut.trans Ydi_ hk (.inl rfl)); have n3_ := Aside0.mk (hb); have n4_ := Aside0.mk (hi); clear BK492; clear BK498; clear HK; clear HB; clear HI0; have BK492 := n0_; have BK498 := n1_; have HK := n2_; have HB := n3_; have HI0 := n4_; clear n0_ n1_ n2_ n3_ n4_; (try clear hb); (try clear hb2); (try clear hk); (try clear hi); have hcz12_0 : w11.cell? ⟨gb498, 0, none⟩ = some (.string t493) := (Ae BK498.out 0).trans rfl; have hcz12_1 : w11.cell? ⟨gb498, 1, none⟩ = some (.string t494) := (Ae BK498.out 1).trans rfl; have hcz12_2 : w11.cell? ⟨gb498, 2, none⟩ = some (.int .i64 t495) := (Ae BK498.out 2).trans rfl; have hfz12_0 := Af BK498.out 0; have hfz12_1 := Af BK498.out 1; have hfz12_2 := Af BK498.out 2; have hnb13 := NB492_0.out; have hnc13 := NB0_492.out; have hcz14_0 : w11.cell? ⟨gb492, 0, none⟩ = some (.string (⟨#[]⟩ : ByteArray)) := (Ae BK492.out 0).trans rfl; have hcz14_1 : w11.cell? ⟨gb492, 1, none⟩ = some (.string (⟨#[]⟩ : ByteArray)) := (Ae BK492.out 1).trans rfl; have hcz14_2 : w11.cell? ⟨gb492, 2, none⟩ = some (.int .i64 0) := (Ae BK492.out 2).trans rfl; have hfz14_0 := Af BK492.out 0; have hfz14_1 := Af BK492.out 1; have hfz14_2 := Af BK492.out 2))
    refine bodyPost_ret (results_cell_row rfl _ _ gb492 31 #[.string t493, .string t494, .int .i64 (wrap64 (t495 + 1))] (0, 0) _ rfl (by (with_reducible repeat (first | refine Aa ?_ _ | refine Ad ?_ | refine Ac ?_ _)); refine Ar (cs := #[.string t493, .string t494, .int .i64 0]) ?_ 2 _ rfl; (with_reducible repeat (first | refine Aa ?_ _ | refine Ad ?_ | refine Ac ?_ _)); refine Ar (cs := #[.string t493, .string (⟨#[]⟩ : ByteArray), .int .i64 0]) ?_ 1 _ rfl; (with_reducible repeat (first | refine Aa ?_ _ | refine Ad ?_ | refine Ac ?_ _)); refine Ar (cs := #[.string (⟨#[]⟩ : ByteArray), .string (⟨#[]⟩ : ByteArray), .int .i64 0]) ?_ 0 _ rfl; (with_reducible repeat (first | refine Aa ?_ _ | refine Ad ?_ | refine Ac ?_ _)); refine Aq ?_ NB492_498.out _; (with_reducible repeat (first | refine Aa ?_ _ | refine Ad ?_ | refine Ac ?_ _)); exact BK492.out) Tryd.underlying31 rfl (by kernel_rfl)) rfl ?_
    exact ⟨by first | rfl | (simp [Ak, Aj] <;> rfl) | (simp [*, Ak, Aj] <;> rfl), by repeat (first | (with_reducible first | exact HI0.out | apply IsS74.alloc | apply IsS74.drewN | apply IsS74.drew | apply IsS74.set_1 | apply IsS74.set_2 | refine IsS74.far ?_ NB0_492.out _ | refine IsS74.far ?_ NB0_498.out _) | exact HI0.out), by repeat (first | (with_reducible first | exact HB.out | apply below_alloc | apply pw_below_drewN | apply below_drew1 | refine below_set ?_ (IsS74.ge HI0.out) | refine below_set ?_ GE492.out | refine below_set ?_ GE498.out) | exact HB.out), by repeat (first | (with_reducible first | exact HK.out | apply KeepBut.set_ | apply keep_drewN | apply keep_drew | apply keep_alloc | refine Bi ?_ GW492.out _ | refine Bi ?_ GW498.out _) | exact HK.out)⟩
  · rw [if_neg c4] at H
    have c4b0 : (t499 == 0) = false := beq_eq_false_iff_ne.mpr c4
    have c4b1 : (t499 != 0) = true := bne_iff_ne.mpr c4
    by_cases c15 : t499 = 1
    · rw [if_pos c15] at H
      have c15b0 : (t499 == 1) = true := beq_iff_eq.mpr c15
      have c15b1 : (t499 != 1) = false := bne_eq_false_iff_eq.mpr c15
      clear c15
      replace H := Option.bind_eq_some_iff.mp H
      obtain ⟨⟨t502, t503, t504⟩, A160, H⟩ := H
      replace H : (some (t493, t502, t495, t503, t504)) = some (r1, r2, r3, r4, r5) := H
      have A16 := Aside0.mk A160
      clear A160
      simp only [Option.some.injEq, Prod.mk.injEq] at H
      obtain ⟨rfl, rfl, rfl, rfl, rfl⟩ := H
      go_enter Tryd.func53, Tryd.ntmps53
      go_wp2_with (first | ((with_reducible refine Bd (N := 2) rfl ?_); refine Bc ?hg (N := 2) ?hd (cs := #[.string (⟨#[]⟩ : ByteArray), .string (⟨#[]⟩ : ByteArray), .int .i64 0]) (t := 31) ?hr ?_; (case hd => rfl); (case hg => rfl); (case hr => first | (go_simp; done) | (go_simp; rfl)); intro gb492 hg w17 hbox hb; have n0_ := Aside0.mk (IsS74.below Yci_ hb); have n1_ := Aside0.mk (KeepBut.trans Yg_ (KeepBut.of_below hb g none) (.inl rfl)); have n2_ := Aside0.mk (Ag Ych_ hb); have n3_ := Aside0.mk (hbox); have n4_ := Aside0.mk ((by rw [hg]; exact (D6 (w := w) (g := g) (row := none) Yg_) : w.heap.size ≤ gb492)); have n5_ := Aside0.mk ((Nat.le_trans HW0.out (by rw [hg]; exact (D6 (w := w) (g := g) (row := none) Yg_) : w.heap.size ≤ gb492) : w0.heap.size ≤ gb492)); have n6_ := Aside0.mk ((by rw [hg]; exact Nat.ne_of_lt (IsS74.lt (show IsS74 w0 _ g s0_0 s0_1 s0_2 from by repeat (first | (with_reducible first | exact HI0.out | apply IsS74.alloc | apply IsS74.drewN | apply IsS74.drew | apply IsS74.set_1 | apply IsS74.set_2) | exact HI0.out))) : g ≠ gb492)); have n7_ := Aside0.mk ((by rw [hg]; exact Nat.ne_of_gt (IsS74.lt (show IsS74 w0 _ g s0_0 s0_1 s0_2 from by repeat (first | (with_reducible first | exact HI0.out | apply IsS74.alloc | apply IsS74.drewN | apply IsS74.drew | apply IsS74.set_1 | apply IsS74.set_2) | exact HI0.out))) : gb492 ≠ g)); clear HI0; clear HK; clear HB; have HI0 := n0_; have HK := n1_; have HB := n2_; have BK492 := n3_; have GW492 := n4_; have GE492 := n5_; have NB0_492 := n6_; have NB492_0 := n7_; clear n0_ n1_ n2_ n3_ n4_ n5_ n6_ n7_; clear hb hbox hg) | ((with_reducible refine Am (f := 60) rfl ?_); refine Be (some 5) rfl rfl Tryd.func60 (by kernel_rfl) rfl #[.pointer (some ⟨g, 0, none⟩)] rfl Yc_ ?_; (with_reducible refine (Bj.calls k g s0_0 s0_1 s0_2 t493 t494 t495 t496 t497 w0 _ ?side1 ?side2 A2.out).mono ?_); (case side1 => repeat (first | (with_reducible first | exact HI0.out | apply IsS74.alloc | apply IsS74.drewN | apply IsS74.drew | apply IsS74.set_1 | apply IsS74.set_2 | refine IsS74.far ?_ NB0_492.out _) | exact HI0.out)); (case side2 => repeat (first | (with_reducible first | exact HB.out | apply below_alloc | apply pw_below_drewN | apply below_drew1 | refine below_set ?_ (IsS74.ge HI0.out) | refine below_set ?_ GE492.out) | exact HB.out)); rintro e w18 ⟨rfl, hi, hb, hk⟩; refine ⟨_, rfl, ?_⟩; have n0_ := Aside0.mk (KeepBut.blk hk (g' := gb492) (o := .cells #[.string (⟨#[]⟩ : ByteArray), .string (⟨#[]⟩ : ByteArray), .int .i64 0] 31 (0, 0)) Ycd_ NB492_0.out (by simp)); have n1_ := Aside0.mk (KeepBut.trans Ybb_ hk (.inl rfl)); have n2_ := Aside0.mk (hb); have n3_ := Aside0.mk (hi); clear BK492; clear HK; clear HB; clear HI0; have BK492 := n0_; have HK := n1_; have HB := n2_; have HI0 := n3_; clear n0_ n1_ n2_ n3_; (try clear hb); (try clear hb2); (try clear hk); (try clear hi)) | ((with_reducible refine Bd (N := 3) rfl ?_); refine Bc ?hg (N := 3) ?hd (cs := #[.string (⟨#[]⟩ : ByteArray), .string (⟨#[]⟩ : ByteArray), .int .i64 0]) (t := 31) ?hr ?_; (case hd => rfl); (case hg => rfl); (case hr => first | (go_simp; done) | (go_simp; rfl)); intro gb498 hg w19 hbox hb; have n0_ := Aside0.mk (IsS74.below Yeg_ hb); have n1_ := Aside0.mk (Ai (g := gb492) (o := .cells #[.string (⟨#[]⟩ : ByteArray), .string (⟨#[]⟩ : ByteArray), .int .i64 0] 31 (0, 0)) Ycd_ hb); have n2_ := Aside0.mk (KeepBut.trans Ybb_ (KeepBut.of_below hb g none) (.inl rfl)); have n3_ := Aside0.mk (Ag Yeh_ hb); have n4_ := Aside0.mk (hbox); have n5_ := Aside0.mk ((by rw [hg]; exact (D6 (w := w) (g := g) (row := none) Ybb_) : w.heap.size ≤ gb498)); have n6_ := Aside0.mk ((Nat.le_trans HW0.out (by rw [hg]; exact (D6 (w := w) (g := g) (row := none) Ybb_) : w.heap.size ≤ gb498) : w0.heap.size ≤ gb498)); have n7_ := Aside0.mk ((by rw [hg]; exact Nat.ne_of_lt (Cf (g := gb492) (o := .cells #[.string (⟨#[]⟩ : ByteArray), .string (⟨#[]⟩ : ByteArray), .int .i64 0] 31 (0, 0)) Ycd_) : gb492 ≠ gb498)); have n8_ := Aside0.mk ((by rw [hg]; exact Nat.ne_of_gt (Cf (g := gb492) (o := .cells #[.string (⟨#[]⟩ : ByteArray), .string (⟨#[]⟩ : ByteArray), .int .i64 0] 31 (0, 0)) Ycd_) : gb498 ≠ gb492)); have n9_ := Aside0.mk ((by rw [hg]; exact Nat.ne_of_lt (IsS74.lt (show IsS74 w0 _ g s0_0 t496 t497 from by repeat (first | (with_reducible first | exact HI0.out | apply IsS74.alloc | apply IsS74.drewN | apply IsS74.drew | apply IsS74.set_1 | apply IsS74.set_2 | refine IsS74.far ?_ NB0_492.out _) | exact HI0.out))) : g ≠ gb498)); have n10_ := Aside0.mk ((by rw [hg]; exact Nat.ne_of_gt (IsS74.lt (show IsS74 w0 _ g s0_0 t496 t497 from by repeat (first | (with_reducible first | exact HI0.out | apply IsS74.alloc | apply IsS74.drewN | apply IsS74.drew | apply IsS74.set_1 | apply IsS74.set_2 | refine IsS74.far ?_ NB0_492.out _) | exact HI0.out))) : gb498 ≠ g)); clear HI0; clear BK492; clear HK; clear HB; have HI0 := n0_; have BK492 := n1_; have HK := n2_; have HB := n3_; have BK498 := n4_; have GW498 := n5_; have GE498 := n6_; have NB492_498 := n7_; have NB498_492 := n8_; have NB0_498 := n9_; have NB498_0 := n10_; clear n0_ n1_ n2_ n3_ n4_ n5_ n6_ n7_ n8_ n9_ n10_; clear hb hbox hg; have hnb20 := NB498_492.out; have hnc20 := NB492_498.out; have hnb21 := NB498_0.out; have hnc21 := NB0_498.out; have hcz22_0 : w19.cell? ⟨gb498, 0, none⟩ = some (.string (⟨#[]⟩ : ByteArray)) := (Ae BK498.out 0).trans rfl; have hcz22_1 : w19.cell? ⟨gb498, 1, none⟩ = some (.string (⟨#[]⟩ : ByteArray)) := (Ae BK498.out 1).trans rfl; have hcz22_2 : w19.cell? ⟨gb498, 2, none⟩ = some (.int .i64 0) := (Ae BK498.out 2).trans rfl; have hfz22_0 := Af BK498.out 0; have hfz22_1 := Af BK498.out 1; have hfz22_2 := Af BK498.out 2) | ((with_reducible refine Am (f := 55) rfl ?_); refine Be (some 7) rfl rfl Tryd.func55 (by kernel_rfl) rfl #[.pointer (some ⟨g, 0, none⟩), .int .i64 24] rfl Yc_ ?_; (with_reducible refine (spec_l1Cur_pick.calls g s0_0 t496 t497 24 t499 t500 t501 w0 _ ?side1 ?side2 A3.out).mono ?_); (case side1 => repeat (first | (with_reducible first | exact HI0.out | apply IsS74.alloc | apply IsS74.drewN | apply IsS74.drew | apply IsS74.set_1 | apply IsS74.set_2 | refine IsS74.far ?_ NB0_492.out _ | refine IsS74.far ?_ NB0_498.out _) | exact HI0.out)); (case side2 => repeat (first | (with_reducible first | exact HB.out | apply below_alloc | apply pw_below_drewN | apply below_drew1 | refine below_set ?_ (IsS74.ge HI0.out) | refine below_set ?_ GE492.out | refine below_set ?_ GE498.out) | exact HB.out)); rintro e w23 ⟨rfl, hi, hb, hk⟩; refine ⟨_, rfl, ?_⟩; have n0_ := Aside0.mk (KeepBut.blk hk (g' := gb492) (o := .cells #[.string (⟨#[]⟩ : ByteArray), .string (⟨#[]⟩ : ByteArray), .int .i64 0] 31 (0, 0)) Ycg_ NB492_0.out (by simp)); have n1_ := Aside0.mk (KeepBut.blk hk (g' := gb498) (o := .cells #[.string t493, .string t494, .int .i64 t495] 31 (0, 0)) Ybi_ NB498_0.out (by simp)); have n2_ := Aside0.mk (KeepBut.trans Ydi_ hk (.inl rfl)); have n3_ := Aside0.mk (hb); have n4_ := Aside0.mk (hi); clear BK492; clear BK498; clear HK; clear HB; clear HI0; have BK492 := n0_; have BK498 := n1_; have HK := n2_; have HB := n3_; have HI0 := n4_; clear n0_ n1_ n2_ n3_ n4_; (try clear hb); (try clear hb2); (try clear hk); (try clear hi); have hcz24_0 : w23.cell? ⟨gb498, 0, none⟩ = some (.string t493) := (Ae BK498.out 0).trans rfl; have hcz24_1 : w23.cell? ⟨gb498, 1, none⟩ = some (.string t494) := (Ae BK498.out 1).trans rfl; have hcz24_2 : w23.cell? ⟨gb498, 2, none⟩ = some (.int .i64 t495) := (Ae BK498.out 2).trans rfl; have hfz24_0 := Af BK498.out 0; have hfz24_1 := Af BK498.out 1; have hfz24_2 := Af BK498.out 2) | ((with_reducible refine Am (f := 61) rfl ?_); refine Be (some 19) rfl rfl Tryd.func61 (by kernel_rfl) rfl #[.pointer (some ⟨g, 0, none⟩), .string t494, .string (⟨#[35, 64, 10, 48, 49]⟩ : ByteArray)] rfl Yc_ ?_; (with_reducible refine (spec_l1Cur_spoilt.calls g s0_0 t500 t501 t494 (⟨#[35, 64, 10, 48, 49]⟩ : ByteArray) t502 t503 t504 w0 _ ?side1 ?side2 A16.out).mono ?_); (case side1 => repeat (first | (with_reducible first | exact HI0.out | apply IsS74.alloc | apply IsS74.drewN | apply IsS74.drew | apply IsS74.set_1 | apply IsS74.set_2 | refine IsS74.far ?_ NB0_492.out _ | refine IsS74.far ?_ NB0_498.out _) | exact HI0.out)); (case side2 => repeat (first | (with_reducible first | exact HB.out | apply below_alloc | apply pw_below_drewN | apply below_drew1 | refine below_set ?_ (IsS74.ge HI0.out) | refine below_set ?_ GE492.out | refine below_set ?_ GE498.out) | exact HB.out)); rintro e w25 ⟨rfl, hi, hb, hk⟩; refine ⟨_, rfl, ?_⟩; have n0_ := Aside0.mk (KeepBut.blk hk (g' := gb492) (o := .cells #[.string (⟨#[]⟩ : ByteArray), .string (⟨#[]⟩ : ByteArray), .int .i64 0] 31 (0, 0)) Ycd_ NB492_0.out (by simp)); have n1_ := Aside0.mk (KeepBut.blk hk (g' := gb498) (o := .cells #[.string t493, .string t494, .int .i64 t495] 31 (0, 0)) (by (with_reducible repeat (first | refine Aa ?_ _ | refine Ad ?_ | refine Ac ?_ _)); exact BK498.out) NB498_0.out (by simp)); have n2_ := Aside0.mk (KeepBut.trans Ydi_ hk (.inl rfl)); have n3_ := Aside0.mk (hb); have n4_ := Aside0.mk (hi); clear BK492; clear BK498; clear HK; clear HB; clear HI0; have BK492 := n0_; have BK498 := n1_; have HK := n2_; have HB := n3_; have HI0 := n4_; clear n0_ n1_ n2_ n3_ n4_; (try clear hb); (try clear hb2); (try clear hk); (try clear hi); have hcz26_0 : w25.cell? ⟨gb498, 0, none⟩ = some (.string t493) := (Ae BK498.out 0).trans rfl; have hcz26_1 : w25.cell? ⟨gb498, 1, none⟩ = some (.string t494) := (Ae BK498.out 1).trans rfl; have hcz26_2 : w25.cell? ⟨gb498, 2, none⟩ = some (.int .i64 t495) := (Ae BK498.out 2).trans rfl; have hfz26_0 := Af BK498.out 0; have hfz26_1 := Af BK498.out 1; have hfz26_2 := Af BK498.out 2; have hnb27 := NB492_0.out; have hnc27 := NB0_492.out; have hcz28_0 : w25.cell? ⟨gb492, 0, none⟩ = some (.string (⟨#[]⟩ : ByteArray)) := (Ae BK492.out 0).trans rfl; have hcz28_1 : w25.cell? ⟨gb492, 1, none⟩ = some (.string (⟨#[]⟩ : ByteArray)) := (Ae BK492.out 1).trans rfl; have hcz28_2 : w25.cell? ⟨gb492, 2, none⟩ = some (.int .i64 0) := (Ae BK492.out 2).trans rfl; have hfz28_0 := Af BK492.out 0; have hfz28_1 := Af BK492.out 1; have hfz28_2 := Af BK492.out 2))
      refine bodyPost_ret (results_cell_row rfl _ _ gb492 31 #[.string t493, .string t502, .int .i64 t495] (0, 0) _ rfl (by (with_reducible repeat (first | refine Aa ?_ _ | refine Ad ?_ | refine Ac ?_ _)); refine Ar (cs := #[.string t493, .string t502, .int .i64 0]) ?_ 2 _ rfl; (with_reducible repeat (first | refine Aa ?_ _ | refine Ad ?_ | refine Ac ?_ _)); refine Ar (cs := #[.string t493, .string (⟨#[]⟩ : ByteArray), .int .i64 0]) ?_ 1 _ rfl; (with_reducible repeat (first | refine Aa ?_ _ | refine Ad ?_ | refine Ac ?_ _)); refine Ar (cs := #[.string (⟨#[]⟩ : ByteArray), .string (⟨#[]⟩ : ByteArray), .int .i64 0]) ?_ 0 _ rfl; (with_reducible repeat (first | refine Aa ?_ _ | refine Ad ?_ | refine Ac ?_ _)); refine Aq ?_ NB492_498.out _; (with_reducible repeat (first | refine Aa ?_ _ | refine Ad ?_ | refine Ac ?_ _)); exact BK492.out) Tryd.underlying31 rfl (by kernel_rfl)) rfl ?_
      exact ⟨by first | rfl | (simp [Ak, Aj] <;> rfl) | (simp [*, Ak, Aj] <;> rfl), by repeat (first | (with_reducible first | exact HI0.out | apply IsS74.alloc | apply IsS74.drewN | apply IsS74.drew | apply IsS74.set_1 | apply IsS74.set_2 | refine IsS74.far ?_ NB0_492.out _ | refine IsS74.far ?_ NB0_498.out _) | exact HI0.out), by repeat (first | (with_reducible first | exact HB.out | apply below_alloc | apply pw_below_drewN | apply below_drew1 | refine below_set ?_ (IsS74.ge HI0.out) | refine below_set ?_ GE492.out | refine below_set ?_ GE498.out) | exact HB.out), by repeat (first | (with_reducible first | exact HK.out | apply KeepBut.set_ | apply keep_drewN | apply keep_drew | apply keep_alloc | refine Bi ?_ GW492.out _ | refine Bi ?_ GW498.out _) | exact HK.out)⟩
    · rw [if_neg c15] at H
      have c15b0 : (t499 == 1) = false := beq_eq_false_iff_ne.mpr c15
      have c15b1 : (t499 != 1) = true := bne_iff_ne.mpr c15
      by_cases c29 : t499 = 2
      · rw [if_pos c29] at H
        have c29b0 : (t499 == 2) = true := beq_iff_eq.mpr c29
        have c29b1 : (t499 != 2) = false := bne_eq_false_iff_eq.mpr c29
        clear c29
        by_cases c30 : t493.size + t494.size ≤ 9223372036854775807
        · rw [if_pos c30] at H
          have c30b0 := eq_true c30
          have c30b1 : decide (t493.size + t494.size ≤ 9223372036854775807) = true := decide_eq_true c30
          try have c30b2 : (9223372036854775807 < t493.size + t494.size) = False := eq_false (Nat.not_lt.2 c30)
          simp only [Option.some.injEq, Prod.mk.injEq] at H
          obtain ⟨rfl, rfl, rfl, rfl, rfl⟩ := H
          go_enter Tryd.func53, Tryd.ntmps53
          go_wp2_with (first | ((with_reducible refine Bd (N := 2) rfl ?_); refine Bc ?hg (N := 2) ?hd (cs := #[.string (⟨#[]⟩ : ByteArray), .string (⟨#[]⟩ : ByteArray), .int .i64 0]) (t := 31) ?hr ?_; (case hd => rfl); (case hg => rfl); (case hr => first | (go_simp; done) | (go_simp; rfl)); intro gb492 hg w31 hbox hb; have n0_ := Aside0.mk (IsS74.below Yci_ hb); have n1_ := Aside0.mk (KeepBut.trans Yg_ (KeepBut.of_below hb g none) (.inl rfl)); have n2_ := Aside0.mk (Ag Ych_ hb); have n3_ := Aside0.mk (hbox); have n4_ := Aside0.mk ((by rw [hg]; exact (D6 (w := w) (g := g) (row := none) Yg_) : w.heap.size ≤ gb492)); have n5_ := Aside0.mk ((Nat.le_trans HW0.out (by rw [hg]; exact (D6 (w := w) (g := g) (row := none) Yg_) : w.heap.size ≤ gb492) : w0.heap.size ≤ gb492)); have n6_ := Aside0.mk ((by rw [hg]; exact Nat.ne_of_lt (IsS74.lt (show IsS74 w0 _ g s0_0 s0_1 s0_2 from by repeat (first | (with_reducible first | exact HI0.out | apply IsS74.alloc | apply IsS74.drewN | apply IsS74.drew | apply IsS74.set_1 | apply IsS74.set_2) | exact HI0.out))) : g ≠ gb492)); have n7_ := Aside0.mk ((by rw [hg]; exact Nat.ne_of_gt (IsS74.lt (show IsS74 w0 _ g s0_0 s0_1 s0_2 from by repeat (first | (with_reducible first | exact HI0.out | apply IsS74.alloc | apply IsS74.drewN | apply IsS74.drew | apply IsS74.set_1 | apply IsS74.set_2) | exact HI0.out))) : gb492 ≠ g)); clear HI0; clear HK; clear HB; have HI0 := n0_; have HK := n1_; have HB := n2_; have BK492 := n3_; have GW492 := n4_; have GE492 := n5_; have NB0_492 := n6_; have NB492_0 := n7_; clear n0_ n1_ n2_ n3_ n4_ n5_ n6_ n7_; clear hb hbox hg) | ((with_reducible refine Am (f := 60) rfl ?_); refine Be (some 5) rfl rfl Tryd.func60 (by kernel_rfl) rfl #[.pointer (some ⟨g, 0, none⟩)] rfl Yc_ ?_; (with_reducible refine (Bj.calls k g s0_0 s0_1 s0_2 t493 t494 t495 t496 t497 w0 _ ?side1 ?side2 A2.out).mono ?_); (case side1 => repeat (first | (with_reducible first | exact HI0.out | apply IsS74.alloc | apply IsS74.drewN | apply IsS74.drew | apply IsS74.set_1 | apply IsS74.set_2 | refine IsS74.far ?_ NB0_492.out _) | exact HI0.out)); (case side2 => repeat (first | (with_reducible first | exact HB.out | apply below_alloc | apply pw_below_drewN | apply below_drew1 | refine below_set ?_ (IsS74.ge HI0.out) | refine below_set ?_ GE492.out) | exact HB.out)); rintro e w32 ⟨rfl, hi, hb, hk⟩; refine ⟨_, rfl, ?_⟩; have n0_ := Aside0.mk (KeepBut.blk hk (g' := gb492) (o := .cells #[.string (⟨#[]⟩ : ByteArray), .string (⟨#[]⟩ : ByteArray), .int .i64 0] 31 (0, 0)) Ycd_ NB492_0.out (by simp)); have n1_ := Aside0.mk (KeepBut.trans Ybb_ hk (.inl rfl)); have n2_ := Aside0.mk (hb); have n3_ := Aside0.mk (hi); clear BK492; clear HK; clear HB; clear HI0; have BK492 := n0_; have HK := n1_; have HB := n2_; have HI0 := n3_; clear n0_ n1_ n2_ n3_; (try clear hb); (try clear hb2); (try clear hk); (try clear hi)) | ((with_reducible refine Bd (N := 3) rfl ?_); refine Bc ?hg (N := 3) ?hd (cs := #[.string (⟨#[]⟩ : ByteArray), .string (⟨#[]⟩ : ByteArray), .int .i64 0]) (t := 31) ?hr ?_; (case hd => rfl); (case hg => rfl); (case hr => first | (go_simp; done) | (go_simp; rfl)); intro gb498 hg w33 hbox hb; have n0_ := Aside0.mk (IsS74.below Yeg_ hb); have n1_ := Aside0.mk (Ai (g := gb492) (o := .cells #[.string (⟨#[]⟩ : ByteArray), .string (⟨#[]⟩ : ByteArray), .int .i64 0] 31 (0, 0)) Ycd_ hb); have n2_ := Aside0.mk (KeepBut.trans Ybb_ (KeepBut.of_below hb g none) (.inl rfl)); have n3_ := Aside0.mk (Ag Yeh_ hb); have n4_ := Aside0.mk (hbox); have n5_ := Aside0.mk ((by rw [hg]; exact (D6 (w := w) (g := g) (row := none) Ybb_) : w.heap.size ≤ gb498)); have n6_ := Aside0.mk ((Nat.le_trans HW0.out (by rw [hg]; exact (D6 (w := w) (g := g) (row := none) Ybb_) : w.heap.size ≤ gb498) : w0.heap.size ≤ gb498)); have n7_ := Aside0.mk ((by rw [hg]; exact Nat.ne_of_lt (Cf (g := gb492) (o := .cells #[.string (⟨#[]⟩ : ByteArray), .string (⟨#[]⟩ : ByteArray), .int .i64 0] 31 (0, 0)) Ycd_) : gb492 ≠ gb498)); have n8_ := Aside0.mk ((by rw [hg]; exact Nat.ne_of_gt (Cf (g := gb492) (o := .cells #[.string (⟨#[]⟩ : ByteArray), .string (⟨#[]⟩ : ByteArray), .int .i64 0] 31 (0, 0)) Ycd_) : gb498 ≠ gb492)); have n9_ := Aside0.mk ((by rw [hg]; exact Nat.ne_of_lt (IsS74.lt (show IsS74 w0 _ g s0_0 t496 t497 from by repeat (first | (with_reducible first | exact HI0.out | apply IsS74.alloc | apply IsS74.drewN | apply IsS74.drew | apply IsS74.set_1 | apply IsS74.set_2 | refine IsS74.far ?_ NB0_492.out _) | exact HI0.out))) : g ≠ gb498)); have n10_ := Aside0.mk ((by rw [hg]; exact Nat.ne_of_gt (IsS74.lt (show IsS74 w0 _ g s0_0 t496 t497 from by repeat (first | (with_reducible first | exact HI0.out | apply IsS74.alloc | apply IsS74.drewN | apply IsS74.drew | apply IsS74.set_1 | apply IsS74.set_2 | refine IsS74.far ?_ NB0_492.out _) | exact HI0.out))) : gb498 ≠ g)); clear HI0; clear BK492; clear HK; clear HB; have HI0 := n0_; have BK492 := n1_; have HK := n2_; have HB := n3_; have BK498 := n4_; have GW498 := n5_; have GE498 := n6_; have NB492_498 := n7_; have NB498_492 := n8_; have NB0_498 := n9_; have NB498_0 := n10_; clear n0_ n1_ n2_ n3_ n4_ n5_ n6_ n7_ n8_ n9_ n10_; clear hb hbox hg; have hnb34 := NB498_492.out; have hnc34 := NB492_498.out; have hnb35 := NB498_0.out; have hnc35 := NB0_498.out; have hcz36_0 : w33.cell? ⟨gb498, 0, none⟩ = some (.string (⟨#[]⟩ : ByteArray)) := (Ae BK498.out 0).trans rfl; have hcz36_1 : w33.cell? ⟨gb498, 1, none⟩ = some (.string (⟨#[]⟩ : ByteArray)) := (Ae BK498.out 1).trans rfl; have hcz36_2 : w33.cell? ⟨gb498, 2, none⟩ = some (.int .i64 0) := (Ae BK498.out 2).trans rfl; have hfz36_0 := Af BK498.out 0; have hfz36_1 := Af BK498.out 1; have hfz36_2 := Af BK498.out 2) | ((with_reducible refine Am (f := 55) rfl ?_); refine Be (some 7) rfl rfl Tryd.func55 (by kernel_rfl) rfl #[.pointer (some ⟨g, 0, none⟩), .int .i64 24] rfl Yc_ ?_; (with_reducible refine (spec_l1Cur_pick.calls g s0_0 t496 t497 24 t499 t500 t501 w0 _ ?side1 ?side2 A3.out).mono ?_); (case side1 => repeat (first | (with_reducible first | exact HI0.out | apply IsS74.alloc | apply IsS74.drewN | apply IsS74.drew | apply IsS74.set_1 | apply IsS74.set_2 | refine IsS74.far ?_ NB0_492.out _ | refine IsS74.far ?_ NB0_498.out _) | exact HI0.out)); (case side2 => repeat (first | (with_reducible first | exact HB.out | apply below_alloc | apply pw_below_drewN | apply below_drew1 | refine below_set ?_ (IsS74.ge HI0.out) | refine below_set ?_ GE492.out | refine below_set ?_ GE498.out) | exact HB.out)); rintro e w37 ⟨rfl, hi, hb, hk⟩; refine ⟨_, rfl, ?_⟩; have n0_ := Aside0.mk (KeepBut.blk hk (g' := gb492) (o := .cells #[.string (⟨#[]⟩ : ByteArray), .string (⟨#[]⟩ : ByteArray), .int .i64 0] 31 (0, 0)) Ycg_ NB492_0.out (by simp)); have n1_ := Aside0.mk (KeepBut.blk hk (g' := gb498) (o := .cells #[.string t493, .string t494, .int .i64 t495] 31 (0, 0)) Ybi_ NB498_0.out (by simp)); have n2_ := Aside0.mk (KeepBut.trans Ydi_ hk (.inl rfl)); have n3_ := Aside0.mk (hb); have n4_ := Aside0.mk (hi); clear BK492; clear BK498; clear HK; clear HB; clear HI0; have BK492 := n0_; have BK498 := n1_; have HK := n2_; have HB := n3_; have HI0 := n4_; clear n0_ n1_ n2_ n3_ n4_; (try clear hb); (try clear hb2); (try clear hk); (try clear hi); have hcz38_0 : w37.cell? ⟨gb498, 0, none⟩ = some (.string t493) := (Ae BK498.out 0).trans rfl; have hcz38_1 : w37.cell? ⟨gb498, 1, none⟩ = some (.string t494) := (Ae BK498.out 1).trans rfl; have hcz38_2 : w37.cell? ⟨gb498, 2, none⟩ = some (.int .i64 t495) := (Ae BK498.out 2).trans rfl; have hfz38_0 := Af BK498.out 0; have hfz38_1 := Af BK498.out 1; have hfz38_2 := Af BK498.out 2; have hnb39 := NB492_0.out; have hnc39 := NB0_492.out; have hcz40_0 : w37.cell? ⟨gb492, 0, none⟩ = some (.string (⟨#[]⟩ : ByteArray)) := (Ae BK492.out 0).trans rfl; have hcz40_1 : w37.cell? ⟨gb492, 1, none⟩ = some (.string (⟨#[]⟩ : ByteArray)) := (Ae BK492.out 1).trans rfl; have hcz40_2 : w37.cell? ⟨gb492, 2, none⟩ = some (.int .i64 0) := (Ae BK492.out 2).trans rfl; have hfz40_0 := Af BK492.out 0; have hfz40_1 := Af BK492.out 1; have hfz40_2 := Af BK492.out 2))
          refine bodyPost_ret (results_cell_row rfl _ _ gb492 31 #[.string (t493 ++ t494), .string t494, .int .i64 t495] (0, 0) _ rfl (by (with_reducible repeat (first | refine Aa ?_ _ | refine Ad ?_ | refine Ac ?_ _)); refine Ar (cs := #[.string (t493 ++ t494), .string t494, .int .i64 0]) ?_ 2 _ rfl; (with_reducible repeat (first | refine Aa ?_ _ | refine Ad ?_ | refine Ac ?_ _)); refine Ar (cs := #[.string (t493 ++ t494), .string (⟨#[]⟩ : ByteArray), .int .i64 0]) ?_ 1 _ rfl; (with_reducible repeat (first | refine Aa ?_ _ | refine Ad ?_ | refine Ac ?_ _)); refine Ar (cs := #[.string (⟨#[]⟩ : ByteArray), .string (⟨#[]⟩ : ByteArray), .int .i64 0]) ?_ 0 _ rfl; (with_reducible repeat (first | refine Aa ?_ _ | refine Ad ?_ | refine Ac ?_ _)); refine Aq ?_ NB492_498.out _; (with_reducible repeat (first | refine Aa ?_ _ | refine Ad ?_ | refine Ac ?_ _)); exact BK492.out) Tryd.underlying31 rfl (by kernel_rfl)) rfl ?_
          exact ⟨by first | rfl | (simp [Ak, Aj] <;> rfl) | (simp [*, Ak, Aj] <;> rfl), by repeat (first | (with_reducible first | exact HI0.out | apply IsS74.alloc | apply IsS74.drewN | apply IsS74.drew | apply IsS74.set_1 | apply IsS74.set_2 | refine IsS74.far ?_ NB0_492.out _ | refine IsS74.far ?_ NB0_498.out _) | exact HI0.out), by repeat (first | (with_reducible first | exact HB.out | apply below_alloc | apply pw_below_drewN | apply below_drew1 | refine below_set ?_ (IsS74.ge HI0.out) | refine below_set ?_ GE492.out | refine below_set ?_ GE498.out) | exact HB.out), by repeat (first | (with_reducible first | exact HK.out | apply KeepBut.set_ | apply keep_drewN | apply keep_drew | apply keep_alloc | refine Bi ?_ GW492.out _ | refine Bi ?_ GW498.out _) | exact HK.out)⟩
        · rw [if_neg c30] at H
          exact absurd H (by simp)
      · rw [if_neg c29] at H
        have c29b0 : (t499 == 2) = false := beq_eq_false_iff_ne.mpr c29
        have c29b1 : (t499 != 2) = true := bne_iff_ne.mpr c29
        simp only [Option.some.injEq, Prod.mk.injEq] at H
        obtain ⟨rfl, rfl, rfl, rfl, rfl⟩ := H
        go_enter Tryd.func53, Tryd.ntmps53
        go_wp2_with (first | ((with_reducible refine Bd (N := 2) rfl ?_); refine Bc ?hg (N := 2) ?hd (cs := #[.string (⟨#[]⟩ : ByteArray), .string (⟨#[]⟩ : ByteArray), .int .i64 0]) (t := 31) ?hr ?_; (case hd => rfl); (case hg => rfl); (case hr => first | (go_simp; done) | (go_simp; rfl)); intro gb492 hg w41 hbox hb; have n0_ := Aside0.mk (IsS74.below Yci_ hb); have n1_ := Aside0.mk (KeepBut.trans Yg_ (KeepBut.of_below hb g none) (.inl rfl)); have n2_ := Aside0.mk (Ag Ych_ hb); have n3_ := Aside0.mk (hbox); have n4_ := Aside0.mk ((by rw [hg]; exact (D6 (w := w) (g := g) (row := none) Yg_) : w.heap.size ≤ gb492)); have n5_ := Aside0.mk ((Nat.le_trans HW0.out (by rw [hg]; exact (D6 (w := w) (g := g) (row := none) Yg_) : w.heap.size ≤ gb492) : w0.heap.size ≤ gb492)); have n6_ := Aside0.mk ((by rw [hg]; exact Nat.ne_of_lt (IsS74.lt (show IsS74 w0 _ g s0_0 s0_1 s0_2 from by repeat (first | (with_reducible first | exact HI0.out | apply IsS74.alloc | apply IsS74.drewN | apply IsS74.drew | apply IsS74.set_1 | apply IsS74.set_2) | exact HI0.out))) : g ≠ gb492)); have n7_ := Aside0.mk ((by rw [hg]; exact Nat.ne_of_gt (IsS74.lt (show IsS74 w0 _ g s0_0 s0_1 s0_2 from by repeat (first | (with_reducible first | exact HI0.out | apply IsS74.alloc | apply IsS74.drewN | apply IsS74.drew | apply IsS74.set_1 | apply IsS74.set_2) | exact HI0.out))) : gb492 ≠ g)); clear HI0; clear HK; clear HB; have HI0 := n0_; have HK := n1_; have HB := n2_; have BK492 := n3_; have GW492 := n4_; have GE492 := n5_; have NB0_492 := n6_; have NB492_0 := n7_; clear n0_ n1_ n2_ n3_ n4_ n5_ n6_ n7_; clear hb hbox hg) | ((with_reducible refine Am (f := 60) rfl ?_); refine Be (some 5) rfl rfl Tryd.func60 (by kernel_rfl) rfl #[.pointer (some ⟨g, 0, none⟩)] rfl Yc_ ?_; (with_reducible refine (Bj.calls k g s0_0 s0_1 s0_2 t493 t494 t495 t496 t497 w0 _ ?side1 ?side2 A2.out).mono ?_); (case side1 => repeat (first | (with_reducible first | exact HI0.out | apply IsS74.alloc | apply IsS74.drewN | apply IsS74.drew | apply IsS74.set_1 | apply IsS74.set_2 | refine IsS74.far ?_ NB0_492.out _) | exact HI0.out)); (case side2 => repeat (first | (with_reducible first | exact HB.out | apply below_alloc | apply pw_below_drewN | apply below_drew1 | refine below_set ?_ (IsS74.ge HI0.out) | refine below_set ?_ GE492.out) | exact HB.out)); rintro e w42 ⟨rfl, hi, hb, hk⟩; refine ⟨_, rfl, ?_⟩; have n0_ := Aside0.mk (KeepBut.blk hk (g' := gb492) (o := .cells #[.string (⟨#[]⟩ : ByteArray), .string (⟨#[]⟩ : ByteArray), .int .i64 0] 31 (0, 0)) Ycd_ NB492_0.out (by simp)); have n1_ := Aside0.mk (KeepBut.trans Ybb_ hk (.inl rfl)); have n2_ := Aside0.mk (hb); have n3_ := Aside0.mk (hi); clear BK492; clear HK; clear HB; clear HI0; have BK492 := n0_; have HK := n1_; have HB := n2_; have HI0 := n3_; clear n0_ n1_ n2_ n3_; (try clear hb); (try clear hb2); (try clear hk); (try clear hi)) | ((with_reducible refine Bd (N := 3) rfl ?_); refine Bc ?hg (N := 3) ?hd (cs := #[.string (⟨#[]⟩ : ByteArray), .string (⟨#[]⟩ : ByteArray), .int .i64 0]) (t := 31) ?hr ?_; (case hd => rfl); (case hg => rfl); (case hr => first | (go_simp; done) | (go_simp; rfl)); intro gb498 hg w43 hbox hb; have n0_ := Aside0.mk (IsS74.below Yeg_ hb); have n1_ := Aside0.mk (Ai (g := gb492) (o := .cells #[.string (⟨#[]⟩ : ByteArray), .string (⟨#[]⟩ : ByteArray), .int .i64 0] 31 (0, 0)) Ycd_ hb); have n2_ := Aside0.mk (KeepBut.trans Ybb_ (KeepBut.of_below hb g none) (.inl rfl)); have n3_ := Aside0.mk (Ag Yeh_ hb); have n4_ := Aside0.mk (hbox); have n5_ := Aside0.mk ((by rw [hg]; exact (D6 (w := w) (g := g) (row := none) Ybb_) : w.heap.size ≤ gb498)); have n6_ := Aside0.mk ((Nat.le_trans HW0.out (by rw [hg]; exact (D6 (w := w) (g := g) (row := none) Ybb_) : w.heap.size ≤ gb498) : w0.heap.size ≤ gb498)); have n7_ := Aside0.mk ((by rw [hg]; exact Nat.ne_of_lt (Cf (g := gb492) (o := .cells #[.string (⟨#[]⟩ : ByteArray), .string (⟨#[]⟩ : ByteArray), .int .i64 0] 31 (0, 0)) Ycd_) : gb492 ≠ gb498)); have n8_ := Aside0.mk ((by rw [hg]; exact Nat.ne_of_gt (Cf (g := gb492) (o := .cells #[.string (⟨#[]⟩ : ByteArray), .string (⟨#[]⟩ : ByteArray), .int .i64 0] 31 (0, 0)) Ycd_) : gb498 ≠ gb492)); have n9_ := Aside0.mk ((by rw [hg]; exact Nat.ne_of_lt (IsS74.lt (show IsS74 w0 _ g s0_0 t496 t497 from by repeat (first | (with_reducible first | exact HI0.out | apply IsS74.alloc | apply IsS74.drewN | apply IsS74.drew | apply IsS74.set_1 | apply IsS74.set_2 | refine IsS74.far ?_ NB0_492.out _) | exact HI0.out))) : g ≠ gb498)); have n10_ := Aside0.mk ((by rw [hg]; exact Nat.ne_of_gt (IsS74.lt (show IsS74 w0 _ g s0_0 t496 t497 from by repeat (first | (with_reducible first | exact HI0.out | apply IsS74.alloc | apply IsS74.drewN | apply IsS74.drew | apply IsS74.set_1 | apply IsS74.set_2 | refine IsS74.far ?_ NB0_492.out _) | exact HI0.out))) : gb498 ≠ g)); clear HI0; clear BK492; clear HK; clear HB; have HI0 := n0_; have BK492 := n1_; have HK := n2_; have HB := n3_; have BK498 := n4_; have GW498 := n5_; have GE498 := n6_; have NB492_498 := n7_; have NB498_492 := n8_; have NB0_498 := n9_; have NB498_0 := n10_; clear n0_ n1_ n2_ n3_ n4_ n5_ n6_ n7_ n8_ n9_ n10_; clear hb hbox hg; have hnb44 := NB498_492.out; have hnc44 := NB492_498.out; have hnb45 := NB498_0.out; have hnc45 := NB0_498.out; have hcz46_0 : w43.cell? ⟨gb498, 0, none⟩ = some (.string (⟨#[]⟩ : ByteArray)) := (Ae BK498.out 0).trans rfl; have hcz46_1 : w43.cell? ⟨gb498, 1, none⟩ = some (.string (⟨#[]⟩ : ByteArray)) := (Ae BK498.out 1).trans rfl; have hcz46_2 : w43.cell? ⟨gb498, 2, none⟩ = some (.int .i64 0) := (Ae BK498.out 2).trans rfl; have hfz46_0 := Af BK498.out 0; have hfz46_1 := Af BK498.out 1; have hfz46_2 := Af BK498.out 2) | ((with_reducible refine Am (f := 55) rfl ?_); refine Be (some 7) rfl rfl Tryd.func55 (by kernel_rfl) rfl #[.pointer (some ⟨g, 0, none⟩), .int .i64 24] rfl Yc_ ?_; (with_reducible refine (spec_l1Cur_pick.calls g s0_0 t496 t497 24 t499 t500 t501 w0 _ ?side1 ?side2 A3.out).mono ?_); (case side1 => repeat (first | (with_reducible first | exact HI0.out | apply IsS74.alloc | apply IsS74.drewN | apply IsS74.drew | apply IsS74.set_1 | apply IsS74.set_2 | refine IsS74.far ?_ NB0_492.out _ | refine IsS74.far ?_ NB0_498.out _) | exact HI0.out)); (case side2 => repeat (first | (with_reducible first | exact HB.out | apply below_alloc | apply pw_below_drewN | apply below_drew1 | refine below_set ?_ (IsS74.ge HI0.out) | refine below_set ?_ GE492.out | refine below_set ?_ GE498.out) | exact HB.out)); rintro e w47 ⟨rfl, hi, hb, hk⟩; refine ⟨_, rfl, ?_⟩; have n0_ := Aside0.mk (KeepBut.blk hk (g' := gb492) (o := .cells #[.string (⟨#[]⟩ : ByteArray), .string (⟨#[]⟩ : ByteArray), .int .i64 0] 31 (0, 0)) Ycg_ NB492_0.out (by simp)); have n1_ := Aside0.mk (KeepBut.blk hk (g' := gb498) (o := .cells #[.string t493, .string t494, .int .i64 t495] 31 (0, 0)) Ybi_ NB498_0.out (by simp)); have n2_ := Aside0.mk (KeepBut.trans Ydi_ hk (.inl rfl)); have n3_ := Aside0.mk (hb); have n4_ := Aside0.mk (hi); clear BK492; clear BK498; clear HK; clear HB; clear HI0; have BK492 := n0_; have BK498 := n1_; have HK := n2_; have HB := n3_; have HI0 := n4_; clear n0_ n1_ n2_ n3_ n4_; (try clear hb); (try clear hb2); (try clear hk); (try clear hi); have hcz48_0 : w47.cell? ⟨gb498, 0, none⟩ = some (.string t493) := (Ae BK498.out 0).trans rfl; have hcz48_1 : w47.cell? ⟨gb498, 1, none⟩ = some (.string t494) := (Ae BK498.out 1).trans rfl; have hcz48_2 : w47.cell? ⟨gb498, 2, none⟩ = some (.int .i64 t495) := (Ae BK498.out 2).trans rfl; have hfz48_0 := Af BK498.out 0; have hfz48_1 := Af BK498.out 1; have hfz48_2 := Af BK498.out 2; have hnb49 := NB492_0.out; have hnc49 := NB0_492.out; have hcz50_0 : w47.cell? ⟨gb492, 0, none⟩ = some (.string (⟨#[]⟩ : ByteArray)) := (Ae BK492.out 0).trans rfl; have hcz50_1 : w47.cell? ⟨gb492, 1, none⟩ = some (.string (⟨#[]⟩ : ByteArray)) := (Ae BK492.out 1).trans rfl; have hcz50_2 : w47.cell? ⟨gb492, 2, none⟩ = some (.int .i64 0) := (Ae BK492.out 2).trans rfl; have hfz50_0 := Af BK492.out 0; have hfz50_1 := Af BK492.out 1; have hfz50_2 := Af BK492.out 2))
        refine bodyPost_ret (results_cell_row rfl _ _ gb492 31 #[.string t493, .string t494, .int .i64 t495] (0, 0) _ rfl (by (with_reducible repeat (first | refine Aa ?_ _ | refine Ad ?_ | refine Ac ?_ _)); refine Ar (cs := #[.string t493, .string t494, .int .i64 0]) ?_ 2 _ rfl; (with_reducible repeat (first | refine Aa ?_ _ | refine Ad ?_ | refine Ac ?_ _)); refine Ar (cs := #[.string t493, .string (⟨#[]⟩ : ByteArray), .int .i64 0]) ?_ 1 _ rfl; (with_reducible repeat (first | refine Aa ?_ _ | refine Ad ?_ | refine Ac ?_ _)); refine Ar (cs := #[.string (⟨#[]⟩ : ByteArray), .string (⟨#[]⟩ : ByteArray), .int .i64 0]) ?_ 0 _ rfl; (with_reducible repeat (first | refine Aa ?_ _ | refine Ad ?_ | refine Ac ?_ _)); exact BK492.out) Tryd.underlying31 rfl (by kernel_rfl)) rfl ?_
        exact ⟨by first | rfl | (simp [Ak, Aj] <;> rfl) | (simp [*, Ak, Aj] <;> rfl), by repeat (first | (with_reducible first | exact HI0.out | apply IsS74.alloc | apply IsS74.drewN | apply IsS74.drew | apply IsS74.set_1 | apply IsS74.set_2 | refine IsS74.far ?_ NB0_492.out _ | refine IsS74.far ?_ NB0_498.out _) | exact HI0.out), by repeat (first | (with_reducible first | exact HB.out | apply below_alloc | apply pw_below_drewN | apply below_drew1 | refine below_set ?_ (IsS74.ge HI0.out) | refine below_set ?_ GE492.out | refine below_set ?_ GE498.out) | exact HB.out), by repeat (first | (with_reducible first | exact HK.out | apply KeepBut.set_ | apply keep_drewN | apply keep_drew | apply keep_alloc | refine Bi ?_ GW492.out _ | refine Bi ?_ GW498.out _) | exact HK.out)⟩
end Go.Proofs.YtkpieljmhgfofaaDoor.X

namespace Go.Proofs.YtkpieljmhgfofaaDoor.X
open Go.RowKit Go.Proofs.YtkpieljmhgfofaaDoorW.PrintWords Go.Proofs.YtkpieljmhgfofaaDoorW.PrintLast Go.Proofs.YtkpieljmhgfofaaDoorW.PrintMore
attribute [local go_sem] max2_int min2_int max_two min_two max_three min_three max_four min_four
open Go.Proofs.YtkpieljmhgfofaaDoorG
def Bh.l0 : Nat → Int → List Int → Int → Int → ByteArray → ByteArray → Int → Option (ByteArray × ByteArray × Int × ByteArray × ByteArray)
  | 0, _, _, _, _, _, _, _ => none
  | k + 1, x6, x508000, x508001, x508002, x514000, x514001, x514002 => if x6 > 0 then ((Au.f k x514000 x514001 x514002 (⟨#[120]⟩ : ByteArray) (⟨#[]⟩ : ByteArray)).bind fun bt520 => (Bh.l0 k (wrap64 (x6 - 1)) x508000 x508001 x508002 bt520.1 bt520.2.1 bt520.2.2.1)) else ((Dk.f x508000 x508001 x508002).bind fun bt524 => (some (x514000, x514001, x514002, bt524.1, bt524.2.1)))
def Bh.f (k : Nat) (l0 : List Int) : Option (ByteArray × ByteArray × Int × ByteArray × ByteArray) := (Eh.f k l0 0 0).bind fun bt508 => ((Em.f l0 bt508.2.2.2.1 bt508.2.2.2.2 40).bind fun bt514 => (if bt514.1 = true then ((spec_l1Cur_pick.f l0 bt514.2.1 bt514.2.2 2).bind fun bt517 => (Bh.l0 k (wrap64 (59 + bt517.1)) l0 bt517.2.1 bt517.2.2 (⟨#[]⟩ : ByteArray) (⟨#[]⟩ : ByteArray) 0)) else ((Dk.f l0 bt514.2.1 bt514.2.2).bind fun bt528 => (some (bt508.1, bt508.2.1, bt508.2.2.1, bt528.1, bt528.2.1)))))
theorem Bh.Ej : ∀ k, (∀ y0 y1 y2 y3 y4 y5 y6, LeO (Bh.l0 k y0 y1 y2 y3 y4 y5 y6) (Bh.l0 (k + 1) y0 y1 y2 y3 y4 y5 y6))
  | 0 => fun _ _ _ _ _ _ _ r h => by simp [Bh.l0] at h
  | k + 1 => by
    have ih0 := Bh.Ej k
    · intro y0 y1 y2 y3 y4 y5 y6
      unfold Bh.l0
      repeat' first
      | (with_reducible exact ih0 _ _ _ _ _ _ _)
      | (with_reducible exact Au.mono _ _ _ _ _ _)
      | (with_reducible exact Eh.mono _ _ _ _)
      | (with_reducible exact LeO.refl _)
      | (with_reducible exact LeO.none _)
      | (with_reducible refine LeO.ite ?_ ?_)
      | (with_reducible refine LeO.bind ?_ (fun _ => ?_))
      | exact ih0 _ _ _ _ _ _ _
      | exact Au.mono _ _ _ _ _ _
      | exact Eh.mono _ _ _ _
      | exact LeO.none _
      | refine LeO.ite ?_ ?_
      | refine LeO.bind ?_ (fun _ => ?_)
theorem Bh.mono : ∀ a0 k, LeO (Bh.f k a0) (Bh.f (k + 1) a0) := by
  intro a0 k
  have ih0 := Bh.Ej k
  unfold Bh.f
  repeat' first
      | (with_reducible exact ih0 _ _ _ _ _ _ _)
      | (with_reducible exact Au.mono _ _ _ _ _ _)
      | (with_reducible exact Eh.mono _ _ _ _)
      | (with_reducible exact LeO.refl _)
      | (with_reducible exact LeO.none _)
      | (with_reducible refine LeO.ite ?_ ?_)
      | (with_reducible refine LeO.bind ?_ (fun _ => ?_))
      | exact ih0 _ _ _ _ _ _ _
      | exact Au.mono _ _ _ _ _ _
      | exact Eh.mono _ _ _ _
      | exact LeO.none _
      | refine LeO.ite ?_ ?_
      | refine LeO.bind ?_ (fun _ => ?_)
set_option maxHeartbeats 8000000 in
set_option maxRecDepth 100000 in
theorem Bh.calls (k : Nat) (A0 : Option Addr) (c0 : Nat) (l0 : List Int) (r1 : ByteArray) (r2 : ByteArray) (r3 : Int) (r4 : ByteArray) (r5 : ByteArray) (w : World) (hr0 : Kd.C (Kd.int .u8) w A0 l0.length l0) (hc0 : l0.length ≤ c0) (h : Bh.f k l0 = some (r1, r2, r3, r4, r5)) :
    Calls Tryd.prog 36 #[.slice A0 l0.length c0] w fun e w' => e = .returned (.tuple #[.agg #[.string r1, .string r2, .int .i64 r3], .agg #[.string r4, .string r5]]) ∧ Below w.heap.size w w' := by
  have hu31 := Tryd.underlying31
  have hu27 := Tryd.underlying27
  have hu74 := Tryd.underlying74
  have HR0 := Aside0.mk hr0
  have HC0 := Aside0.mk hc0
  clear hr0 hc0
  have HB := Aside0.mk (Below.refl w.heap.size w)
  have H : ((Eh.f k l0 0 0).bind fun bt508 => ((Em.f l0 bt508.2.2.2.1 bt508.2.2.2.2 40).bind fun bt514 => (if bt514.1 = true then ((spec_l1Cur_pick.f l0 bt514.2.1 bt514.2.2 2).bind fun bt517 => (Bh.l0 k (wrap64 (59 + bt517.1)) l0 bt517.2.1 bt517.2.2 (⟨#[]⟩ : ByteArray) (⟨#[]⟩ : ByteArray) 0)) else ((Dk.f l0 bt514.2.1 bt514.2.2).bind fun bt528 => (some (bt508.1, bt508.2.1, bt508.2.2.1, bt528.1, bt528.2.1)))))) = some (r1, r2, r3, r4, r5) := h
  clear h
  replace H := Option.bind_eq_some_iff.mp H
  obtain ⟨⟨t508, t509, t510, t511, t512⟩, A20, H⟩ := H
  replace H : ((Em.f l0 t511 t512 40).bind fun bt514 => (if bt514.1 = true then ((spec_l1Cur_pick.f l0 bt514.2.1 bt514.2.2 2).bind fun bt517 => (Bh.l0 k (wrap64 (59 + bt517.1)) l0 bt517.2.1 bt517.2.2 (⟨#[]⟩ : ByteArray) (⟨#[]⟩ : ByteArray) 0)) else ((Dk.f l0 bt514.2.1 bt514.2.2).bind fun bt528 => (some (t508, t509, t510, bt528.1, bt528.2.1))))) = some (r1, r2, r3, r4, r5) := H
  have A2 := Aside0.mk A20
  clear A20
  replace H := Option.bind_eq_some_iff.mp H
  obtain ⟨⟨t514, t515, t516⟩, A30, H⟩ := H
  replace H : (if t514 = true then ((spec_l1Cur_pick.f l0 t515 t516 2).bind fun bt517 => (Bh.l0 k (wrap64 (59 + bt517.1)) l0 bt517.2.1 bt517.2.2 (⟨#[]⟩ : ByteArray) (⟨#[]⟩ : ByteArray) 0)) else ((Dk.f l0 t515 t516).bind fun bt528 => (some (t508, t509, t510, bt528.1, bt528.2.1)))) = some (r1, r2, r3, r4, r5) := H
  have A3 := Aside0.mk A30
  clear A30
  by_cases c4 : t514 = true
  · subst c4
    have H1 : ((spec_l1Cur_pick.f l0 t515 t516 2).bind fun bt517 => (Bh.l0 k (wrap64 (59 + bt517.1)) l0 bt517.2.1 bt517.2.2 (⟨#[]⟩ : ByteArray) (⟨#[]⟩ : ByteArray) 0)) = some (r1, r2, r3, r4, r5) := by rw [if_pos rfl] at H; exact H
    clear H
    have H := H1
    clear H1
    replace H := Option.bind_eq_some_iff.mp H
    obtain ⟨⟨t517, t518, t519⟩, A50, H⟩ := H
    replace H : (Bh.l0 k (wrap64 (59 + t517)) l0 t518 t519 (⟨#[]⟩ : ByteArray) (⟨#[]⟩ : ByteArray) 0) = some (r1, r2, r3, r4, r5) := H
    have A5 := Aside0.mk A50
    clear A50
    have H' := Aside0.mk H
    clear H
    go_enter Tryd.func36, Tryd.ntmps36
    go_wp2_with (first | ((with_reducible refine Bd (N := 2) rfl ?_); refine Bc ?hg (N := 2) ?hd (cs := #[.string (⟨#[]⟩ : ByteArray), .string (⟨#[]⟩ : ByteArray), .int .i64 0]) (t := 31) ?hr ?_; (case hd => rfl); (case hg => rfl); (case hr => first | (go_simp; done) | (go_simp; rfl)); intro gb0 hg w6 hbox hb; have n0_ := Aside0.mk (Ag Ya_ hb); have n1_ := Aside0.mk (hbox); have n2_ := Aside0.mk ((by rw [hg]; exact (Ah Ya_) : w.heap.size ≤ gb0)); have n3_ := Aside0.mk ((by rw [hg]; exact (Ah Ya_) : w.heap.size ≤ gb0)); clear HB; have HB := n0_; have BK0 := n1_; have GW0 := n2_; have GE0 := n3_; clear n0_ n1_ n2_ n3_; clear hb hbox hg) | ((with_reducible refine Bd (N := 3) rfl ?_); refine Bc ?hg (N := 3) ?hd (cs := #[.string (⟨#[]⟩ : ByteArray), .string (⟨#[]⟩ : ByteArray)]) (t := 27) ?hr ?_; (case hd => rfl); (case hg => rfl); (case hr => first | (go_simp; done) | (go_simp; rfl)); intro gb1 hg w7 hbox hb; have n0_ := Aside0.mk (Ai (g := gb0) (o := .cells #[.string (⟨#[]⟩ : ByteArray), .string (⟨#[]⟩ : ByteArray), .int .i64 0] 31 (0, 0)) Yd_ hb); have n1_ := Aside0.mk (Ag Yb_ hb); have n2_ := Aside0.mk (hbox); have n3_ := Aside0.mk ((by rw [hg]; exact (Ah Yb_) : w.heap.size ≤ gb1)); have n4_ := Aside0.mk ((by rw [hg]; exact (Ah Yb_) : w.heap.size ≤ gb1)); have n5_ := Aside0.mk ((by rw [hg]; exact Nat.ne_of_lt (Cf (g := gb0) (o := .cells #[.string (⟨#[]⟩ : ByteArray), .string (⟨#[]⟩ : ByteArray), .int .i64 0] 31 (0, 0)) Yd_) : gb0 ≠ gb1)); have n6_ := Aside0.mk ((by rw [hg]; exact Nat.ne_of_gt (Cf (g := gb0) (o := .cells #[.string (⟨#[]⟩ : ByteArray), .string (⟨#[]⟩ : ByteArray), .int .i64 0] 31 (0, 0)) Yd_) : gb1 ≠ gb0)); clear BK0; clear HB; have BK0 := n0_; have HB := n1_; have BK1 := n2_; have GW1 := n3_; have GE1 := n4_; have NB0_1 := n5_; have NB1_0 := n6_; clear n0_ n1_ n2_ n3_ n4_ n5_ n6_; clear hb hbox hg) | ((with_reducible refine Bd (N := 9) rfl ?_); refine Bc ?hg (N := 9) ?hd (cs := #[.slice A0 l0.length c0, .int .i64 0, .int .u64 0]) (t := 74) ?hr ?_; (case hd => rfl); (case hg => rfl); (case hr => first | (go_simp; done) | (go_simp; rfl)); intro gb2 hg w8 hbox hb; have n0_ := Aside0.mk (Ai (g := gb0) (o := .cells #[.string (⟨#[]⟩ : ByteArray), .string (⟨#[]⟩ : ByteArray), .int .i64 0] 31 (0, 0)) Yd_ hb); have n1_ := Aside0.mk (Ai (g := gb1) (o := .cells #[.string (⟨#[]⟩ : ByteArray), .string (⟨#[]⟩ : ByteArray)] 27 (0, 0)) Ye_ hb); have n2_ := Aside0.mk (Ag Yf_ hb); have n3_ := Aside0.mk ((by rw [hg]; exact (Ah Yf_) : w.heap.size ≤ gb2)); have n4_ := Aside0.mk ((by rw [hg]; exact (Ah Yf_) : w.heap.size ≤ gb2)); have n5_ := Aside0.mk ((by rw [hg]; exact Nat.ne_of_lt (Cf (g := gb0) (o := .cells #[.string (⟨#[]⟩ : ByteArray), .string (⟨#[]⟩ : ByteArray), .int .i64 0] 31 (0, 0)) Yd_) : gb0 ≠ gb2)); have n6_ := Aside0.mk ((by rw [hg]; exact Nat.ne_of_gt (Cf (g := gb0) (o := .cells #[.string (⟨#[]⟩ : ByteArray), .string (⟨#[]⟩ : ByteArray), .int .i64 0] 31 (0, 0)) Yd_) : gb2 ≠ gb0)); have n7_ := Aside0.mk ((by rw [hg]; exact Nat.ne_of_lt (Cf (g := gb1) (o := .cells #[.string (⟨#[]⟩ : ByteArray), .string (⟨#[]⟩ : ByteArray)] 27 (0, 0)) Ye_) : gb1 ≠ gb2)); have n8_ := Aside0.mk ((by rw [hg]; exact Nat.ne_of_gt (Cf (g := gb1) (o := .cells #[.string (⟨#[]⟩ : ByteArray), .string (⟨#[]⟩ : ByteArray)] 27 (0, 0)) Ye_) : gb2 ≠ gb1)); have n9_ := Aside0.mk ((⟨_, _, hbox, (by rw [hg]; exact (Ah Yf_)), HR0.out⟩ : IsS74 w w8 gb2 l0 0 0)); clear BK0; clear BK1; clear HB; have BK0 := n0_; have BK1 := n1_; have HB := n2_; have GW2 := n3_; have GE2 := n4_; have NB0_2 := n5_; have NB2_0 := n6_; have NB1_2 := n7_; have NB2_1 := n8_; have HI507 := n9_; clear n0_ n1_ n2_ n3_ n4_ n5_ n6_ n7_ n8_ n9_; clear hb hbox hg) | ((with_reducible refine Am (f := 53) rfl ?_); refine Be (some 11) rfl rfl Tryd.func53 (by kernel_rfl) rfl #[.pointer (some ⟨gb2, 0, none⟩)] rfl Yc_ ?_; (with_reducible refine (Eh.calls k gb2 l0 0 0 t508 t509 t510 t511 t512 w _ ?side1 ?side2 A2.out).mono ?_); (case side1 => repeat (first | (with_reducible first | exact HI507.out | apply IsS74.alloc | apply IsS74.drewN | apply IsS74.drew | apply IsS74.set_1 | apply IsS74.set_2 | refine IsS74.far ?_ NB2_0.out _ | refine IsS74.far ?_ NB2_1.out _) | exact HI507.out)); (case side2 => repeat (first | (with_reducible first | exact HB.out | apply below_alloc | apply pw_below_drewN | apply below_drew1 | refine below_set ?_ (IsS74.ge HI507.out) | refine below_set ?_ GE0.out | refine below_set ?_ GE1.out) | exact HB.out)); rintro e w9 ⟨rfl, hi, hb, hk⟩; refine ⟨_, rfl, ?_⟩; have n0_ := Aside0.mk (KeepBut.blk hk (g' := gb0) (o := .cells #[.string (⟨#[]⟩ : ByteArray), .string (⟨#[]⟩ : ByteArray), .int .i64 0] 31 (0, 0)) Yd_ NB0_2.out (by simp)); have n1_ := Aside0.mk (KeepBut.blk hk (g' := gb1) (o := .cells #[.string (⟨#[]⟩ : ByteArray), .string (⟨#[]⟩ : ByteArray)] 27 (0, 0)) Ye_ NB1_2.out (by simp)); have n2_ := Aside0.mk (hb); have n3_ := Aside0.mk (hi); clear BK0; clear BK1; clear HB; clear HI507; have BK0 := n0_; have BK1 := n1_; have HB := n2_; have HI507 := n3_; clear n0_ n1_ n2_ n3_; (try clear hb); (try clear hb2); (try clear hk); (try clear hi)) | ((with_reducible refine Bd (N := 5) rfl ?_); refine Bc ?hg (N := 5) ?hd (cs := #[.string (⟨#[]⟩ : ByteArray), .string (⟨#[]⟩ : ByteArray), .int .i64 0]) (t := 31) ?hr ?_; (case hd => rfl); (case hg => rfl); (case hr => first | (go_simp; done) | (go_simp; rfl)); intro gb3 hg w10 hbox hb; have n0_ := Aside0.mk (Ai (g := gb0) (o := .cells #[.string (⟨#[]⟩ : ByteArray), .string (⟨#[]⟩ : ByteArray), .int .i64 0] 31 (0, 0)) Yd_ hb); have n1_ := Aside0.mk (Ai (g := gb1) (o := .cells #[.string (⟨#[]⟩ : ByteArray), .string (⟨#[]⟩ : ByteArray)] 27 (0, 0)) Ye_ hb); have n2_ := Aside0.mk (IsS74.below Yhd_ hb); have n3_ := Aside0.mk (Ag Ycj_ hb); have n4_ := Aside0.mk (hbox); have n5_ := Aside0.mk ((by rw [hg]; exact (Ah Ycj_) : w.heap.size ≤ gb3)); have n6_ := Aside0.mk ((by rw [hg]; exact (Ah Ycj_) : w.heap.size ≤ gb3)); have n7_ := Aside0.mk ((by rw [hg]; exact Nat.ne_of_lt (Cf (g := gb0) (o := .cells #[.string (⟨#[]⟩ : ByteArray), .string (⟨#[]⟩ : ByteArray), .int .i64 0] 31 (0, 0)) Yd_) : gb0 ≠ gb3)); have n8_ := Aside0.mk ((by rw [hg]; exact Nat.ne_of_gt (Cf (g := gb0) (o := .cells #[.string (⟨#[]⟩ : ByteArray), .string (⟨#[]⟩ : ByteArray), .int .i64 0] 31 (0, 0)) Yd_) : gb3 ≠ gb0)); have n9_ := Aside0.mk ((by rw [hg]; exact Nat.ne_of_lt (Cf (g := gb1) (o := .cells #[.string (⟨#[]⟩ : ByteArray), .string (⟨#[]⟩ : ByteArray)] 27 (0, 0)) Ye_) : gb1 ≠ gb3)); have n10_ := Aside0.mk ((by rw [hg]; exact Nat.ne_of_gt (Cf (g := gb1) (o := .cells #[.string (⟨#[]⟩ : ByteArray), .string (⟨#[]⟩ : ByteArray)] 27 (0, 0)) Ye_) : gb3 ≠ gb1)); have n11_ := Aside0.mk ((by rw [hg]; exact Nat.ne_of_lt (IsS74.lt (show IsS74 w _ gb2 l0 t511 t512 from by repeat (first | (with_reducible first | exact HI507.out | apply IsS74.alloc | apply IsS74.drewN | apply IsS74.drew | apply IsS74.set_1 | apply IsS74.set_2 | refine IsS74.far ?_ NB2_0.out _ | refine IsS74.far ?_ NB2_1.out _) | exact HI507.out))) : gb2 ≠ gb3)); have n12_ := Aside0.mk ((by rw [hg]; exact Nat.ne_of_gt (IsS74.lt (show IsS74 w _ gb2 l0 t511 t512 from by repeat (first | (with_reducible first | exact HI507.out | apply IsS74.alloc | apply IsS74.drewN | apply IsS74.drew | apply IsS74.set_1 | apply IsS74.set_2 | refine IsS74.far ?_ NB2_0.out _ | refine IsS74.far ?_ NB2_1.out _) | exact HI507.out))) : gb3 ≠ gb2)); clear BK0; clear BK1; clear HI507; clear HB; have BK0 := n0_; have BK1 := n1_; have HI507 := n2_; have HB := n3_; have BK3 := n4_; have GW3 := n5_; have GE3 := n6_; have NB0_3 := n7_; have NB3_0 := n8_; have NB1_3 := n9_; have NB3_1 := n10_; have NB2_3 := n11_; have NB3_2 := n12_; clear n0_ n1_ n2_ n3_ n4_ n5_ n6_ n7_ n8_ n9_ n10_ n11_ n12_; clear hb hbox hg; have hnb11 := NB3_0.out; have hnc11 := NB0_3.out; have hnb12 := NB3_1.out; have hnc12 := NB1_3.out; have hnb13 := NB3_2.out; have hnc13 := NB2_3.out; have hcz14_0 : w10.cell? ⟨gb3, 0, none⟩ = some (.string (⟨#[]⟩ : ByteArray)) := (Ae BK3.out 0).trans rfl; have hcz14_1 : w10.cell? ⟨gb3, 1, none⟩ = some (.string (⟨#[]⟩ : ByteArray)) := (Ae BK3.out 1).trans rfl; have hcz14_2 : w10.cell? ⟨gb3, 2, none⟩ = some (.int .i64 0) := (Ae BK3.out 2).trans rfl; have hfz14_0 := Af BK3.out 0; have hfz14_1 := Af BK3.out 1; have hfz14_2 := Af BK3.out 2) | ((with_reducible refine Am (f := 54) rfl ?_); refine Be (some 13) rfl rfl Tryd.func54 (by kernel_rfl) rfl #[.pointer (some ⟨gb2, 0, none⟩), .int .i64 40] rfl Yc_ ?_; (with_reducible refine (Em.calls gb2 l0 t511 t512 40 true t515 t516 w _ ?side1 ?side2 A3.out).mono ?_); (case side1 => repeat (first | (with_reducible first | exact HI507.out | apply IsS74.alloc | apply IsS74.drewN | apply IsS74.drew | apply IsS74.set_1 | apply IsS74.set_2 | refine IsS74.far ?_ NB2_0.out _ | refine IsS74.far ?_ NB2_1.out _ | refine IsS74.far ?_ NB2_3.out _) | exact HI507.out)); (case side2 => repeat (first | (with_reducible first | exact HB.out | apply below_alloc | apply pw_below_drewN | apply below_drew1 | refine below_set ?_ (IsS74.ge HI507.out) | refine below_set ?_ GE0.out | refine below_set ?_ GE1.out | refine below_set ?_ GE3.out) | exact HB.out)); rintro e w15 ⟨rfl, hi, hb, hk⟩; refine ⟨_, rfl, ?_⟩; have n0_ := Aside0.mk (KeepBut.blk hk (g' := gb0) (o := .cells #[.string (⟨#[]⟩ : ByteArray), .string (⟨#[]⟩ : ByteArray), .int .i64 0] 31 (0, 0)) Ydg_ NB0_2.out (by simp)); have n1_ := Aside0.mk (KeepBut.blk hk (g' := gb1) (o := .cells #[.string (⟨#[]⟩ : ByteArray), .string (⟨#[]⟩ : ByteArray)] 27 (0, 0)) Ydh_ NB1_2.out (by simp)); have n2_ := Aside0.mk (KeepBut.blk hk (g' := gb3) (o := .cells #[.string t508, .string t509, .int .i64 t510] 31 (0, 0)) Yei_ NB3_2.out (by simp)); have n3_ := Aside0.mk (hb); have n4_ := Aside0.mk (hi); clear BK0; clear BK1; clear BK3; clear HB; clear HI507; have BK0 := n0_; have BK1 := n1_; have BK3 := n2_; have HB := n3_; have HI507 := n4_; clear n0_ n1_ n2_ n3_ n4_; (try clear hb); (try clear hb2); (try clear hk); (try clear hi); have hcz16_0 : w15.cell? ⟨gb3, 0, none⟩ = some (.string t508) := (Ae BK3.out 0).trans rfl; have hcz16_1 : w15.cell? ⟨gb3, 1, none⟩ = some (.string t509) := (Ae BK3.out 1).trans rfl; have hcz16_2 : w15.cell? ⟨gb3, 2, none⟩ = some (.int .i64 t510) := (Ae BK3.out 2).trans rfl; have hfz16_0 := Af BK3.out 0; have hfz16_1 := Af BK3.out 1; have hfz16_2 := Af BK3.out 2) | ((with_reducible refine Am (f := 55) rfl ?_); refine Be (some 16) rfl rfl Tryd.func55 (by kernel_rfl) rfl #[.pointer (some ⟨gb2, 0, none⟩), .int .i64 2] rfl Yc_ ?_; (with_reducible refine (spec_l1Cur_pick.calls gb2 l0 t515 t516 2 t517 t518 t519 w _ ?side1 ?side2 A5.out).mono ?_); (case side1 => repeat (first | (with_reducible first | exact HI507.out | apply IsS74.alloc | apply IsS74.drewN | apply IsS74.drew | apply IsS74.set_1 | apply IsS74.set_2 | refine IsS74.far ?_ NB2_0.out _ | refine IsS74.far ?_ NB2_1.out _ | refine IsS74.far ?_ NB2_3.out _) | exact HI507.out)); (case side2 => repeat (first | (with_reducible first | exact HB.out | apply below_alloc | apply pw_below_drewN | apply below_drew1 | refine below_set ?_ (IsS74.ge HI507.out) | refine below_set ?_ GE0.out | refine below_set ?_ GE1.out | refine below_set ?_ GE3.out) | exact HB.out)); rintro e w17 ⟨rfl, hi, hb, hk⟩; refine ⟨_, rfl, ?_⟩; have n0_ := Aside0.mk (KeepBut.blk hk (g' := gb0) (o := .cells #[.string (⟨#[]⟩ : ByteArray), .string (⟨#[]⟩ : ByteArray), .int .i64 0] 31 (0, 0)) Ydg_ NB0_2.out (by simp)); have n1_ := Aside0.mk (KeepBut.blk hk (g' := gb1) (o := .cells #[.string (⟨#[]⟩ : ByteArray), .string (⟨#[]⟩ : ByteArray)] 27 (0, 0)) Ydh_ NB1_2.out (by simp)); have n2_ := Aside0.mk (KeepBut.blk hk (g' := gb3) (o := .cells #[.string (⟨#[]⟩ : ByteArray), .string (⟨#[]⟩ : ByteArray), .int .i64 0] 31 (0, 0)) (by (with_reducible repeat (first | refine Aa ?_ _ | refine Ad ?_ | refine Ac ?_ _)); refine Ar (cs := #[.string (⟨#[]⟩ : ByteArray), .string (⟨#[]⟩ : ByteArray), .int .i64 t510]) ?_ 2 _ rfl; (with_reducible repeat (first | refine Aa ?_ _ | refine Ad ?_ | refine Ac ?_ _)); refine Ar (cs := #[.string (⟨#[]⟩ : ByteArray), .string t509, .int .i64 t510]) ?_ 1 _ rfl; (with_reducible repeat (first | refine Aa ?_ _ | refine Ad ?_ | refine Ac ?_ _)); refine Ar (cs := #[.string t508, .string t509, .int .i64 t510]) ?_ 0 _ rfl; (with_reducible repeat (first | refine Aa ?_ _ | refine Ad ?_ | refine Ac ?_ _)); exact BK3.out) NB3_2.out (by simp)); have n3_ := Aside0.mk (hb); have n4_ := Aside0.mk (hi); clear BK0; clear BK1; clear BK3; clear HB; clear HI507; have BK0 := n0_; have BK1 := n1_; have BK3 := n2_; have HB := n3_; have HI507 := n4_; clear n0_ n1_ n2_ n3_ n4_; (try clear hb); (try clear hb2); (try clear hk); (try clear hi)))
    go_loopg [6] k (fun kq v6 w' => ∃ (x6_1 : Int) (x514000_1 : ByteArray) (x514001_1 : ByteArray) (x514002_1 : Int), v6 = .int .i64 x6_1 ∧ Aside0 (Bh.l0 kq x6_1 l0 t518 t519 x514000_1 x514001_1 x514002_1 = some (r1, r2, r3, r4, r5)) ∧ Aside0 (kq ≤ k) ∧ Aside0 (w'.heap[gb0]? = some (.cells #[.string (⟨#[]⟩ : ByteArray), .string (⟨#[]⟩ : ByteArray), .int .i64 0] 31 (0, 0))) ∧ Aside0 (w'.heap[gb1]? = some (.cells #[.string (⟨#[]⟩ : ByteArray), .string (⟨#[]⟩ : ByteArray)] 27 (0, 0))) ∧ Aside0 (w'.heap[gb3]? = some (.cells #[.string x514000_1, .string x514001_1, .int .i64 x514002_1] 31 (0, 0))) ∧ Aside0 (IsS74 w w' gb2 l0 t518 t519) ∧ Aside0 (Below w.heap.size w w'))
    case atStart => exact ⟨(wrap64 (59 + t517)), ((⟨#[]⟩ : ByteArray)), ((⟨#[]⟩ : ByteArray)), (0), Ybe_, H', ⟨Nat.le_refl _⟩, ⟨by (with_reducible repeat (first | refine Aa ?_ _ | refine Ad ?_ | refine Ac ?_ _)); exact BK0.out⟩, ⟨by (with_reducible repeat (first | refine Aa ?_ _ | refine Ad ?_ | refine Ac ?_ _)); exact BK1.out⟩, ⟨by (with_reducible repeat (first | refine Aa ?_ _ | refine Ad ?_ | refine Ac ?_ _)); exact BK3.out⟩, ⟨by repeat (first | (with_reducible first | exact HI507.out | apply IsS74.alloc | apply IsS74.drewN | apply IsS74.drew | apply IsS74.set_1 | apply IsS74.set_2 | refine IsS74.far ?_ NB2_0.out _ | refine IsS74.far ?_ NB2_1.out _ | refine IsS74.far ?_ NB2_3.out _) | exact HI507.out)⟩, ⟨by repeat (first | (with_reducible first | exact HB.out | apply below_alloc | apply pw_below_drewN | apply below_drew1 | refine below_set ?_ (IsS74.ge HI507.out) | refine below_set ?_ GE0.out | refine below_set ?_ GE1.out | refine below_set ?_ GE3.out) | exact HB.out)⟩⟩
    case round =>
      clear H'
      try clear c1
      try clear p2
      try clear c3
      try clear c4
      try clear c5
      try clear p6
      try clear c11
      try clear c12
      try clear c13
      try clear hcz14_0
      try clear hcz14_1
      try clear hcz14_2
      try clear hcz16_0
      try clear hcz16_1
      try clear hcz16_2
      try clear hfz14_0
      try clear hfz14_1
      try clear hfz14_2
      try clear hfz16_0
      try clear hfz16_1
      try clear hfz16_2
      obtain ⟨x6_1, x514000_1, x514001_1, x514002_1, rfl, HA, HK1, BK0, BK1, BK3, HI507, HB⟩ := hrel
      cases gk with
      | zero => exact absurd HA.out (by simp [Bh.l0])
      | succ k1 =>
        have H := HA.out
        clear HA
        simp only [Bh.l0] at H
        by_cases c18 : x6_1 > 0
        · rw [if_pos c18] at H
          have c18b0 : decide (0 < x6_1) = true := decide_eq_true c18
          clear c18
          replace H := Option.bind_eq_some_iff.mp H
          obtain ⟨⟨t520, t521, t522, t523⟩, A190, H⟩ := H
          replace H : (Bh.l0 k1 (wrap64 (x6_1 - 1)) l0 t518 t519 t520 t521 t522) = some (r1, r2, r3, r4, r5) := H
          have A19 := Aside0.mk A190
          clear A190
          have H' := Aside0.mk H
          clear H
          have hnb20 := NB3_0.out
          have hnc20 := NB0_3.out
          have hnb21 := NB3_1.out
          have hnc21 := NB1_3.out
          have hnb22 := NB3_2.out
          have hnc22 := NB2_3.out
          have hcz23_0 : wr.cell? ⟨gb3, 0, none⟩ = some (.string x514000_1) := (Ae BK3.out 0).trans rfl
          have hcz23_1 : wr.cell? ⟨gb3, 1, none⟩ = some (.string x514001_1) := (Ae BK3.out 1).trans rfl
          have hcz23_2 : wr.cell? ⟨gb3, 2, none⟩ = some (.int .i64 x514002_1) := (Ae BK3.out 2).trans rfl
          have hfz23_0 := Af BK3.out 0
          have hfz23_1 := Af BK3.out 1
          have hfz23_2 := Af BK3.out 2
          go_wp2_with (first | ((with_reducible refine Am (f := 28) rfl ?_); refine Be (some 25) rfl rfl Tryd.func28 (by kernel_rfl) rfl #[.agg #[.string x514000_1, .string x514001_1, .int .i64 x514002_1], .agg #[.string (⟨#[120]⟩ : ByteArray), .string (⟨#[]⟩ : ByteArray)]] rfl Yc_ ?_; (with_reducible refine (Au.calls k1 x514000_1 x514001_1 x514002_1 (⟨#[120]⟩ : ByteArray) (⟨#[]⟩ : ByteArray) t520 t521 t522 t523 _ A19.out).mono ?_); rintro e w24 ⟨rfl, hb⟩; refine ⟨_, rfl, ?_⟩; have n0_ := Aside0.mk (Ai (g := gb0) (o := .cells #[.string (⟨#[]⟩ : ByteArray), .string (⟨#[]⟩ : ByteArray), .int .i64 0] 31 (0, 0)) Yd_ hb); have n1_ := Aside0.mk (Ai (g := gb1) (o := .cells #[.string (⟨#[]⟩ : ByteArray), .string (⟨#[]⟩ : ByteArray)] 27 (0, 0)) Ye_ hb); have n2_ := Aside0.mk (Ai (g := gb3) (o := .cells #[.string x514000_1, .string x514001_1, .int .i64 x514002_1] 31 (0, 0)) Yca_ hb); have n3_ := Aside0.mk (IsS74.below (by repeat (first | (with_reducible first | exact HI507.out | apply IsS74.alloc | apply IsS74.drewN | apply IsS74.drew | apply IsS74.set_1 | apply IsS74.set_2 | refine IsS74.far ?_ NB2_0.out _ | refine IsS74.far ?_ NB2_1.out _ | refine IsS74.far ?_ NB2_3.out _) | exact HI507.out)) hb); have n4_ := Aside0.mk (Ag (by repeat (first | (with_reducible first | exact HB.out | apply below_alloc | apply pw_below_drewN | apply below_drew1 | refine below_set ?_ (IsS74.ge HI507.out) | refine below_set ?_ GE0.out | refine below_set ?_ GE1.out | refine below_set ?_ GE3.out) | exact HB.out)) hb); clear BK0; clear BK1; clear BK3; clear HI507; clear HB; have BK0 := n0_; have BK1 := n1_; have BK3 := n2_; have HI507 := n3_; have HB := n4_; clear n0_ n1_ n2_ n3_ n4_; (try clear hb); (try clear hb2); (try clear hk); (try clear hi); have hcz25_0 : w24.cell? ⟨gb3, 0, none⟩ = some (.string x514000_1) := (Ae BK3.out 0).trans rfl; have hcz25_1 : w24.cell? ⟨gb3, 1, none⟩ = some (.string x514001_1) := (Ae BK3.out 1).trans rfl; have hcz25_2 : w24.cell? ⟨gb3, 2, none⟩ = some (.int .i64 x514002_1) := (Ae BK3.out 2).trans rfl; have hfz25_0 := Af BK3.out 0; have hfz25_1 := Af BK3.out 1; have hfz25_2 := Af BK3.out 2))
          go_roundg k1
          case measure => have := HK1.out; omega
          case rel => exact ⟨(wrap64 (x6_1 - 1)), (t520), (t521), (t522), Ybe_, H', ⟨by have := HK1.out; omega⟩, ⟨by (with_reducible repeat (first | refine Aa ?_ _ | refine Ad ?_ | refine Ac ?_ _)); refine Aq ?_ NB0_3.out _; (with_reducible repeat (first | refine Aa ?_ _ | refine Ad ?_ | refine Ac ?_ _)); refine Aq ?_ NB0_3.out _; (with_reducible repeat (first | refine Aa ?_ _ | refine Ad ?_ | refine Ac ?_ _)); refine Aq ?_ NB0_3.out _; (with_reducible repeat (first | refine Aa ?_ _ | refine Ad ?_ | refine Ac ?_ _)); exact BK0.out⟩, ⟨by (with_reducible repeat (first | refine Aa ?_ _ | refine Ad ?_ | refine Ac ?_ _)); refine Aq ?_ NB1_3.out _; (with_reducible repeat (first | refine Aa ?_ _ | refine Ad ?_ | refine Ac ?_ _)); refine Aq ?_ NB1_3.out _; (with_reducible repeat (first | refine Aa ?_ _ | refine Ad ?_ | refine Ac ?_ _)); refine Aq ?_ NB1_3.out _; (with_reducible repeat (first | refine Aa ?_ _ | refine Ad ?_ | refine Ac ?_ _)); exact BK1.out⟩, ⟨by (with_reducible repeat (first | refine Aa ?_ _ | refine Ad ?_ | refine Ac ?_ _)); refine Ar (cs := #[.string t520, .string t521, .int .i64 x514002_1]) ?_ 2 _ rfl; (with_reducible repeat (first | refine Aa ?_ _ | refine Ad ?_ | refine Ac ?_ _)); refine Ar (cs := #[.string t520, .string x514001_1, .int .i64 x514002_1]) ?_ 1 _ rfl; (with_reducible repeat (first | refine Aa ?_ _ | refine Ad ?_ | refine Ac ?_ _)); refine Ar (cs := #[.string x514000_1, .string x514001_1, .int .i64 x514002_1]) ?_ 0 _ rfl; (with_reducible repeat (first | refine Aa ?_ _ | refine Ad ?_ | refine Ac ?_ _)); exact BK3.out⟩, ⟨by repeat (first | (with_reducible first | exact HI507.out | apply IsS74.alloc | apply IsS74.drewN | apply IsS74.drew | apply IsS74.set_1 | apply IsS74.set_2 | refine IsS74.far ?_ NB2_0.out _ | refine IsS74.far ?_ NB2_1.out _ | refine IsS74.far ?_ NB2_3.out _) | exact HI507.out)⟩, ⟨by repeat (first | (with_reducible first | exact HB.out | apply below_alloc | apply pw_below_drewN | apply below_drew1 | refine below_set ?_ (IsS74.ge HI507.out) | refine below_set ?_ GE0.out | refine below_set ?_ GE1.out | refine below_set ?_ GE3.out) | exact HB.out)⟩⟩
        · rw [if_neg c18] at H
          have c18b0 : decide (0 < x6_1) = false := decide_eq_false c18
          clear c18
          replace H := Option.bind_eq_some_iff.mp H
          obtain ⟨⟨t524, t525, t526, t527⟩, A260, H⟩ := H
          replace H : (some (x514000_1, x514001_1, x514002_1, t524, t525)) = some (r1, r2, r3, r4, r5) := H
          have A26 := Aside0.mk A260
          clear A260
          simp only [Option.some.injEq, Prod.mk.injEq] at H
          obtain ⟨rfl, rfl, rfl, rfl, rfl⟩ := H
          try go_wp2
          have n0_ := Aside0.mk (Ad BK0.out)
          have n1_ := Aside0.mk (Ad BK1.out)
          have n2_ := Aside0.mk (Ad BK3.out)
          have n3_ := Aside0.mk (IsS74.drew HI507.out)
          have n4_ := Aside0.mk (below_drew1 HB.out)
          clear BK0
          clear BK1
          clear BK3
          clear HI507
          clear HB
          have BK0 := n0_
          have BK1 := n1_
          have BK3 := n2_
          have HI507 := n3_
          have HB := n4_
          clear n0_ n1_ n2_ n3_ n4_
          refine G5 (n := 5) (S := fun w' => w'.cell? ⟨gb3, 0, none⟩ = some (.string x514000_1) ∧ w'.cell? ⟨gb3, 1, none⟩ = some (.string x514001_1) ∧ w'.cell? ⟨gb3, 2, none⟩ = some (.int .i64 x514002_1)) (ds := []) #[false, false, false, false, false] (by kernel_rfl) rfl rfl ⟨(Ae BK3.out 0).trans rfl, (Ae BK3.out 1).trans rfl, (Ae BK3.out 2).trans rfl⟩ (fun hHeld => ?_)
          generalize wr.drew = w27 at BK0 BK1 BK3 HI507 HB hHeld ⊢
          refine Bz (i := 1) (N := some 29) (v := ?_) (a' := ?_) #[false, true, false, false, false] rfl rfl (by kernel_rfl) (fun _ _ _ h => h) (Or.inl ⟨by rfl, ?_⟩) ?_ ?_
          rotate_left
          · intro w'
            go_simp
            with_reducible rfl
          rotate_left
          · simp only [Act.put, List.setIfInBounds_toArray, List.set_cons_zero, List.set_cons_succ, Aw, Az]
            rfl
          refine E8 (i := 0) (N := some 28) (v := ?_) (a' := ?_) #[true, true, false, false, false] rfl rfl (by kernel_rfl) (fun _ _ _ h => h) (Or.inl ⟨by rfl, ?_⟩) hHeld ?_ ?_
          rotate_left
          · rintro w' ⟨s0, s1, s2⟩
            go_simp
            with_reducible rfl
          rotate_left
          · simp only [Act.put, List.setIfInBounds_toArray, List.set_cons_zero, List.set_cons_succ, Aw, Az]
            rfl
          refine one_ (i := 2) (N := some 30) #[true, true, true, false, false] rfl rfl (by kernel_rfl) (by decide) (fun K hK => ?_)
          refine Gl Tryd.func56 (by kernel_rfl) rfl #[.pointer (some ⟨gb2, 0, none⟩)] (by rfl) rfl rfl Yc_ ?_
          with_reducible refine (Dk.calls gb2 l0 t518 t519 t524 t525 t526 t527 w _ ?side1 ?side2 A26.out).mono ?_
          (case side1 => repeat (first | (with_reducible first | exact HI507.out | apply IsS74.alloc | apply IsS74.drewN | apply IsS74.drew | apply IsS74.set_1 | apply IsS74.set_2 | refine IsS74.far ?_ NB2_0.out _ | refine IsS74.far ?_ NB2_1.out _ | refine IsS74.far ?_ NB2_3.out _) | exact HI507.out))
          (case side2 => repeat (first | (with_reducible first | exact HB.out | apply below_alloc | apply pw_below_drewN | apply below_drew1 | refine below_set ?_ (IsS74.ge HI507.out) | refine below_set ?_ GE0.out | refine below_set ?_ GE1.out | refine below_set ?_ GE3.out) | exact HB.out))
          rintro e w28 ⟨rfl, hi, hb, hk⟩
          refine ⟨_, rfl, ?_⟩
          have n0_ := Aside0.mk (KeepBut.blk hk (g' := gb0) (o := .cells #[.string (⟨#[]⟩ : ByteArray), .string (⟨#[]⟩ : ByteArray), .int .i64 0] 31 (0, 0)) Yd_ NB0_2.out (by simp))
          have n1_ := Aside0.mk (KeepBut.blk hk (g' := gb1) (o := .cells #[.string (⟨#[]⟩ : ByteArray), .string (⟨#[]⟩ : ByteArray)] 27 (0, 0)) Ye_ NB1_2.out (by simp))
          have n2_ := Aside0.mk (KeepBut.blk hk (g' := gb3) (o := .cells #[.string x514000_1, .string x514001_1, .int .i64 x514002_1] 31 (0, 0)) Yca_ NB3_2.out (by simp))
          have n3_ := Aside0.mk (hb)
          have n4_ := Aside0.mk (hi)
          clear BK0
          clear BK1
          clear BK3
          clear HB
          clear HI507
          have BK0 := n0_
          have BK1 := n1_
          have BK3 := n2_
          have HB := n3_
          have HI507 := n4_
          clear n0_ n1_ n2_ n3_ n4_
          (try clear hb)
          (try clear hb2)
          (try clear hk)
          (try clear hi)
          refine hK.out _ _ ⟨(Ae BK3.out 0).trans rfl, (Ae BK3.out 1).trans rfl, (Ae BK3.out 2).trans rfl⟩ (fun hHeld => ?_)
          clear hK K
          refine Gp (a' := ?_) ?_ ?_
          rotate_left
          · show Act.put _ (some 30) _ = _
            simp only [Act.put, List.setIfInBounds_toArray, List.set_cons_zero, List.set_cons_succ, Aw, Az]
            rfl
          refine one_ (i := 3) (N := none) #[true, true, true, true, false] rfl rfl (by kernel_rfl) (by decide) (fun K hK => ?_)
          have hs29 : w28.cell? ⟨gb0, 0, none⟩ = some (.string (⟨#[]⟩ : ByteArray)) := (Ae BK0.out 0).trans rfl
          have hfs29 := Af BK0.out 0
          have hns29_1 := NB1_0.out
          have hns29_2 := NB3_0.out
          have hms29_1 := NB0_1.out
          have hms29_2 := NB0_3.out
          have hs30 : w28.cell? ⟨gb0, 1, none⟩ = some (.string (⟨#[]⟩ : ByteArray)) := (Ae BK0.out 1).trans rfl
          have hfs30 := Af BK0.out 1
          have hns30_1 := NB1_0.out
          have hns30_2 := NB3_0.out
          have hms30_1 := NB0_1.out
          have hms30_2 := NB0_3.out
          have hs31 : w28.cell? ⟨gb0, 2, none⟩ = some (.int .i64 0) := (Ae BK0.out 2).trans rfl
          have hfs31 := Af BK0.out 2
          have hns31_1 := NB1_0.out
          have hns31_2 := NB3_0.out
          have hms31_1 := NB0_1.out
          have hms31_2 := NB0_3.out
          refine skip_ (w1 := ?_) (by rfl) rfl ?_ ?_
          rotate_left
          · go_simp
            rfl
          refine hK.out _ _ ⟨((cell_far (p := ⟨gb0, _, none⟩) NB3_0.out _).trans (((cell_far (p := ⟨gb0, _, none⟩) NB3_0.out _).trans (((cell_far (p := ⟨gb0, _, none⟩) NB3_0.out _).trans (hHeld.1)))))), ((cell_far (p := ⟨gb0, _, none⟩) NB3_0.out _).trans (((cell_far (p := ⟨gb0, _, none⟩) NB3_0.out _).trans (((cell_far (p := ⟨gb0, _, none⟩) NB3_0.out _).trans (hHeld.2.1)))))), ((cell_far (p := ⟨gb0, _, none⟩) NB3_0.out _).trans (((cell_far (p := ⟨gb0, _, none⟩) NB3_0.out _).trans (((cell_far (p := ⟨gb0, _, none⟩) NB3_0.out _).trans (hHeld.2.2))))))⟩ (fun hHeld => ?_)
          clear hK K
          refine one_ (i := 4) (N := none) #[true, true, true, true, true] rfl rfl (by kernel_rfl) (by decide) (fun K hK => ?_)
          have hs32 : w28.cell? ⟨gb1, 0, none⟩ = some (.string (⟨#[]⟩ : ByteArray)) := (Ae BK1.out 0).trans rfl
          have hfs32 := Af BK1.out 0
          have hns32_0 := NB0_1.out
          have hns32_2 := NB3_1.out
          have hms32_0 := NB1_0.out
          have hms32_2 := NB1_3.out
          have hs33 : w28.cell? ⟨gb1, 1, none⟩ = some (.string (⟨#[]⟩ : ByteArray)) := (Ae BK1.out 1).trans rfl
          have hfs33 := Af BK1.out 1
          have hns33_0 := NB0_1.out
          have hns33_2 := NB3_1.out
          have hms33_0 := NB1_0.out
          have hms33_2 := NB1_3.out
          refine skip_ (w1 := ?_) (by rfl) rfl ?_ ?_
          rotate_left
          · go_simp
            rfl
          refine hK.out _ _ ⟨((cell_far (p := ⟨gb1, _, none⟩) NB3_1.out _).trans (((cell_far (p := ⟨gb1, _, none⟩) NB3_1.out _).trans (hHeld.1)))), ((cell_far (p := ⟨gb1, _, none⟩) NB3_1.out _).trans (((cell_far (p := ⟨gb1, _, none⟩) NB3_1.out _).trans (hHeld.2.1)))), ((cell_far (p := ⟨gb1, _, none⟩) NB3_1.out _).trans (((cell_far (p := ⟨gb1, _, none⟩) NB3_1.out _).trans (hHeld.2.2))))⟩ (fun hHeld => ?_)
          clear hK K
          refine done_ (by kernel_rfl) ?_
          try go_wp2
          refine bodyPost_ret (results_cc rfl _ _ gb0 gb1 31 27 #[.string x514000_1, .string x514001_1, .int .i64 x514002_1] #[.string t524, .string t525] (0, 0) (0, 0) _ _ rfl (by (with_reducible repeat (first | refine Aa ?_ _ | refine Ad ?_ | refine Ac ?_ _)); refine Aq ?_ NB0_1.out _; (with_reducible repeat (first | refine Aa ?_ _ | refine Ad ?_ | refine Ac ?_ _)); refine Aq ?_ NB0_1.out _; (with_reducible repeat (first | refine Aa ?_ _ | refine Ad ?_ | refine Ac ?_ _)); refine Ar (cs := #[.string x514000_1, .string x514001_1, .int .i64 0]) ?_ 2 _ rfl; (with_reducible repeat (first | refine Aa ?_ _ | refine Ad ?_ | refine Ac ?_ _)); refine Ar (cs := #[.string x514000_1, .string (⟨#[]⟩ : ByteArray), .int .i64 0]) ?_ 1 _ rfl; (with_reducible repeat (first | refine Aa ?_ _ | refine Ad ?_ | refine Ac ?_ _)); refine Ar (cs := #[.string (⟨#[]⟩ : ByteArray), .string (⟨#[]⟩ : ByteArray), .int .i64 0]) ?_ 0 _ rfl; (with_reducible repeat (first | refine Aa ?_ _ | refine Ad ?_ | refine Ac ?_ _)); exact BK0.out) Tryd.underlying31 rfl (by kernel_rfl) rfl (by (with_reducible repeat (first | refine Aa ?_ _ | refine Ad ?_ | refine Ac ?_ _)); refine Ar (cs := #[.string t524, .string (⟨#[]⟩ : ByteArray)]) ?_ 1 _ rfl; (with_reducible repeat (first | refine Aa ?_ _ | refine Ad ?_ | refine Ac ?_ _)); refine Ar (cs := #[.string (⟨#[]⟩ : ByteArray), .string (⟨#[]⟩ : ByteArray)]) ?_ 0 _ rfl; (with_reducible repeat (first | refine Aa ?_ _ | refine Ad ?_ | refine Ac ?_ _)); refine Aq ?_ NB1_0.out _; (with_reducible repeat (first | refine Aa ?_ _ | refine Ad ?_ | refine Ac ?_ _)); refine Aq ?_ NB1_0.out _; (with_reducible repeat (first | refine Aa ?_ _ | refine Ad ?_ | refine Ac ?_ _)); refine Aq ?_ NB1_0.out _; (with_reducible repeat (first | refine Aa ?_ _ | refine Ad ?_ | refine Ac ?_ _)); exact BK1.out) Tryd.underlying27 rfl (by kernel_rfl)) rfl ?_
          exact ⟨by first | rfl | (simp [Ak, Aj] <;> rfl) | (simp [*, Ak, Aj] <;> rfl), by repeat (first | (with_reducible first | exact HB.out | apply below_alloc | apply pw_below_drewN | apply below_drew1 | refine below_set ?_ (IsS74.ge HI507.out) | refine below_set ?_ GE0.out | refine below_set ?_ GE1.out | refine below_set ?_ GE3.out) | exact HB.out)⟩
  · replace c4 := Bool.eq_false_iff.mpr c4
    subst c4
    have H1 : ((Dk.f l0 t515 t516).bind fun bt528 => (some (t508, t509, t510, bt528.1, bt528.2.1))) = some (r1, r2, r3, r4, r5) := by rw [if_neg (show ¬ (false = true) by decide)] at H; exact H
    clear H
    have H := H1
    clear H1
    replace H := Option.bind_eq_some_iff.mp H
    obtain ⟨⟨t528, t529, t530, t531⟩, A340, H⟩ := H
    replace H : (some (t508, t509, t510, t528, t529)) = some (r1, r2, r3, r4, r5) := H
    have A34 := Aside0.mk A340
    clear A340
    simp only [Option.some.injEq, Prod.mk.injEq] at H
    obtain ⟨rfl, rfl, rfl, rfl, rfl⟩ := H
    go_enter Tryd.func36, Tryd.ntmps36
    try go_wp2_with (first | ((with_reducible refine Bd (N := 2) rfl ?_); refine Bc ?hg (N := 2) ?hd (cs := #[.string (⟨#[]⟩ : ByteArray), .string (⟨#[]⟩ : ByteArray), .int .i64 0]) (t := 31) ?hr ?_; (case hd => rfl); (case hg => rfl); (case hr => first | (go_simp; done) | (go_simp; rfl)); intro gb0 hg w35 hbox hb; have n0_ := Aside0.mk (Ag Ya_ hb); have n1_ := Aside0.mk (hbox); have n2_ := Aside0.mk ((by rw [hg]; exact (Ah Ya_) : w.heap.size ≤ gb0)); have n3_ := Aside0.mk ((by rw [hg]; exact (Ah Ya_) : w.heap.size ≤ gb0)); clear HB; have HB := n0_; have BK0 := n1_; have GW0 := n2_; have GE0 := n3_; clear n0_ n1_ n2_ n3_; clear hb hbox hg) | ((with_reducible refine Bd (N := 3) rfl ?_); refine Bc ?hg (N := 3) ?hd (cs := #[.string (⟨#[]⟩ : ByteArray), .string (⟨#[]⟩ : ByteArray)]) (t := 27) ?hr ?_; (case hd => rfl); (case hg => rfl); (case hr => first | (go_simp; done) | (go_simp; rfl)); intro gb1 hg w36 hbox hb; have n0_ := Aside0.mk (Ai (g := gb0) (o := .cells #[.string (⟨#[]⟩ : ByteArray), .string (⟨#[]⟩ : ByteArray), .int .i64 0] 31 (0, 0)) Yd_ hb); have n1_ := Aside0.mk (Ag Yb_ hb); have n2_ := Aside0.mk (hbox); have n3_ := Aside0.mk ((by rw [hg]; exact (Ah Yb_) : w.heap.size ≤ gb1)); have n4_ := Aside0.mk ((by rw [hg]; exact (Ah Yb_) : w.heap.size ≤ gb1)); have n5_ := Aside0.mk ((by rw [hg]; exact Nat.ne_of_lt (Cf (g := gb0) (o := .cells #[.string (⟨#[]⟩ : ByteArray), .string (⟨#[]⟩ : ByteArray), .int .i64 0] 31 (0, 0)) Yd_) : gb0 ≠ gb1)); have n6_ := Aside0.mk ((by rw [hg]; exact Nat.ne_of_gt (Cf (g := gb0) (o := .cells #[.string (⟨#[]⟩ : ByteArray), .string (⟨#[]⟩ : ByteArray), .int .i64 0] 31 (0, 0)) Yd_) : gb1 ≠ gb0)); clear BK0; clear HB; have BK0 := n0_; have HB := n1_; have BK1 := n2_; have GW1 := n3_; have GE1 := n4_; have NB0_1 := n5_; have NB1_0 := n6_; clear n0_ n1_ n2_ n3_ n4_ n5_ n6_; clear hb hbox hg) | ((with_reducible refine Bd (N := 9) rfl ?_); refine Bc ?hg (N := 9) ?hd (cs := #[.slice A0 l0.length c0, .int .i64 0, .int .u64 0]) (t := 74) ?hr ?_; (case hd => rfl); (case hg => rfl); (case hr => first | (go_simp; done) | (go_simp; rfl)); intro gb2 hg w37 hbox hb; have n0_ := Aside0.mk (Ai (g := gb0) (o := .cells #[.string (⟨#[]⟩ : ByteArray), .string (⟨#[]⟩ : ByteArray), .int .i64 0] 31 (0, 0)) Yd_ hb); have n1_ := Aside0.mk (Ai (g := gb1) (o := .cells #[.string (⟨#[]⟩ : ByteArray), .string (⟨#[]⟩ : ByteArray)] 27 (0, 0)) Ye_ hb); have n2_ := Aside0.mk (Ag Yf_ hb); have n3_ := Aside0.mk ((by rw [hg]; exact (Ah Yf_) : w.heap.size ≤ gb2)); have n4_ := Aside0.mk ((by rw [hg]; exact (Ah Yf_) : w.heap.size ≤ gb2)); have n5_ := Aside0.mk ((by rw [hg]; exact Nat.ne_of_lt (Cf (g := gb0) (o := .cells #[.string (⟨#[]⟩ : ByteArray), .string (⟨#[]⟩ : ByteArray), .int .i64 0] 31 (0, 0)) Yd_) : gb0 ≠ gb2)); have n6_ := Aside0.mk ((by rw [hg]; exact Nat.ne_of_gt (Cf (g := gb0) (o := .cells #[.string (⟨#[]⟩ : ByteArray), .string (⟨#[]⟩ : ByteArray), .int .i64 0] 31 (0, 0)) Yd_) : gb2 ≠ gb0)); have n7_ := Aside0.mk ((by rw [hg]; exact Nat.ne_of_lt (Cf (g := gb1) (o := .cells #[.string (⟨#[]⟩ : ByteArray), .string (⟨#[]⟩ : ByteArray)] 27 (0, 0)) Ye_) : gb1 ≠ gb2)); have n8_ := Aside0.mk ((by rw [hg]; exact Nat.ne_of_gt (Cf (g := gb1) (o := .cells #[.string (⟨#[]⟩ : ByteArray), .string (⟨#[]⟩ : ByteArray)] 27 (0, 0)) Ye_) : gb2 ≠ gb1)); have n9_ := Aside0.mk ((⟨_, _, hbox, (by rw [hg]; exact (Ah Yf_)), HR0.out⟩ : IsS74 w w37 gb2 l0 0 0)); clear BK0; clear BK1; clear HB; have BK0 := n0_; have BK1 := n1_; have HB := n2_; have GW2 := n3_; have GE2 := n4_; have NB0_2 := n5_; have NB2_0 := n6_; have NB1_2 := n7_; have NB2_1 := n8_; have HI507 := n9_; clear n0_ n1_ n2_ n3_ n4_ n5_ n6_ n7_ n8_ n9_; clear hb hbox hg) | ((with_reducible refine Am (f := 53) rfl ?_); refine Be (some 11) rfl rfl Tryd.func53 (by kernel_rfl) rfl #[.pointer (some ⟨gb2, 0, none⟩)] rfl Yc_ ?_; (with_reducible refine (Eh.calls k gb2 l0 0 0 t508 t509 t510 t511 t512 w _ ?side1 ?side2 A2.out).mono ?_); (case side1 => repeat (first | (with_reducible first | exact HI507.out | apply IsS74.alloc | apply IsS74.drewN | apply IsS74.drew | apply IsS74.set_1 | apply IsS74.set_2 | refine IsS74.far ?_ NB2_0.out _ | refine IsS74.far ?_ NB2_1.out _) | exact HI507.out)); (case side2 => repeat (first | (with_reducible first | exact HB.out | apply below_alloc | apply pw_below_drewN | apply below_drew1 | refine below_set ?_ (IsS74.ge HI507.out) | refine below_set ?_ GE0.out | refine below_set ?_ GE1.out) | exact HB.out)); rintro e w38 ⟨rfl, hi, hb, hk⟩; refine ⟨_, rfl, ?_⟩; have n0_ := Aside0.mk (KeepBut.blk hk (g' := gb0) (o := .cells #[.string (⟨#[]⟩ : ByteArray), .string (⟨#[]⟩ : ByteArray), .int .i64 0] 31 (0, 0)) Yd_ NB0_2.out (by simp)); have n1_ := Aside0.mk (KeepBut.blk hk (g' := gb1) (o := .cells #[.string (⟨#[]⟩ : ByteArray), .string (⟨#[]⟩ : ByteArray)] 27 (0, 0)) Ye_ NB1_2.out (by simp)); have n2_ := Aside0.mk (hb); have n3_ := Aside0.mk (hi); clear BK0; clear BK1; clear HB; clear HI507; have BK0 := n0_; have BK1 := n1_; have HB := n2_; have HI507 := n3_; clear n0_ n1_ n2_ n3_; (try clear hb); (try clear hb2); (try clear hk); (try clear hi)) | ((with_reducible refine Bd (N := 5) rfl ?_); refine Bc ?hg (N := 5) ?hd (cs := #[.string (⟨#[]⟩ : ByteArray), .string (⟨#[]⟩ : ByteArray), .int .i64 0]) (t := 31) ?hr ?_; (case hd => rfl); (case hg => rfl); (case hr => first | (go_simp; done) | (go_simp; rfl)); intro gb3 hg w39 hbox hb; have n0_ := Aside0.mk (Ai (g := gb0) (o := .cells #[.string (⟨#[]⟩ : ByteArray), .string (⟨#[]⟩ : ByteArray), .int .i64 0] 31 (0, 0)) Yd_ hb); have n1_ := Aside0.mk (Ai (g := gb1) (o := .cells #[.string (⟨#[]⟩ : ByteArray), .string (⟨#[]⟩ : ByteArray)] 27 (0, 0)) Ye_ hb); have n2_ := Aside0.mk (IsS74.below Yhd_ hb); have n3_ := Aside0.mk (Ag Ycj_ hb); have n4_ := Aside0.mk (hbox); have n5_ := Aside0.mk ((by rw [hg]; exact (Ah Ycj_) : w.heap.size ≤ gb3)); have n6_ := Aside0.mk ((by rw [hg]; exact (Ah Ycj_) : w.heap.size ≤ gb3)); have n7_ := Aside0.mk ((by rw [hg]; exact Nat.ne_of_lt (Cf (g := gb0) (o := .cells #[.string (⟨#[]⟩ : ByteArray), .string (⟨#[]⟩ : ByteArray), .int .i64 0] 31 (0, 0)) Yd_) : gb0 ≠ gb3)); have n8_ := Aside0.mk ((by rw [hg]; exact Nat.ne_of_gt (Cf (g := gb0) (o := .cells #[.string (⟨#[]⟩ : ByteArray), .string (⟨#[]⟩ : ByteArray), .int .i64 0] 31 (0, 0)) Yd_) : gb3 ≠ gb0)); have n9_ := Aside0.mk ((by rw [hg]; exact Nat.ne_of_lt (Cf (g := gb1) (o := .cells #[.string (⟨#[]⟩ : ByteArray), .string (⟨#[]⟩ : ByteArray)] 27 (0, 0)) Ye_) : gb1 ≠ gb3)); have n10_ := Aside0.mk ((by rw [hg]; exact Nat.ne_of_gt (Cf (g := gb1) (o := .cells #[.string (⟨#[]⟩ : ByteArray), .string (⟨#[]⟩ : ByteArray)] 27 (0, 0)) Ye_) : gb3 ≠ gb1)); have n11_ := Aside0.mk ((by rw [hg]; exact Nat.ne_of_lt (IsS74.lt (show IsS74 w _ gb2 l0 t511 t512 from by repeat (first | (with_reducible first | exact HI507.out | apply IsS74.alloc | apply IsS74.drewN | apply IsS74.drew | apply IsS74.set_1 | apply IsS74.set_2 | refine IsS74.far ?_ NB2_0.out _ | refine IsS74.far ?_ NB2_1.out _) | exact HI507.out))) : gb2 ≠ gb3)); have n12_ := Aside0.mk ((by rw [hg]; exact Nat.ne_of_gt (IsS74.lt (show IsS74 w _ gb2 l0 t511 t512 from by repeat (first | (with_reducible first | exact HI507.out | apply IsS74.alloc | apply IsS74.drewN | apply IsS74.drew | apply IsS74.set_1 | apply IsS74.set_2 | refine IsS74.far ?_ NB2_0.out _ | refine IsS74.far ?_ NB2_1.out _) | exact HI507.out))) : gb3 ≠ gb2)); clear BK0; clear BK1; clear HI507; clear HB; have BK0 := n0_; have BK1 := n1_; have HI507 := n2_; have HB := n3_; have BK3 := n4_; have GW3 := n5_; have GE3 := n6_; have NB0_3 := n7_; have NB3_0 := n8_; have NB1_3 := n9_; have NB3_1 := n10_; have NB2_3 := n11_; have NB3_2 := n12_; clear n0_ n1_ n2_ n3_ n4_ n5_ n6_ n7_ n8_ n9_ n10_ n11_ n12_; clear hb hbox hg; have hnb40 := NB3_0.out; have hnc40 := NB0_3.out; have hnb41 := NB3_1.out; have hnc41 := NB1_3.out; have hnb42 := NB3_2.out; have hnc42 := NB2_3.out; have hcz43_0 : w39.cell? ⟨gb3, 0, none⟩ = some (.string (⟨#[]⟩ : ByteArray)) := (Ae BK3.out 0).trans rfl; have hcz43_1 : w39.cell? ⟨gb3, 1, none⟩ = some (.string (⟨#[]⟩ : ByteArray)) := (Ae BK3.out 1).trans rfl; have hcz43_2 : w39.cell? ⟨gb3, 2, none⟩ = some (.int .i64 0) := (Ae BK3.out 2).trans rfl; have hfz43_0 := Af BK3.out 0; have hfz43_1 := Af BK3.out 1; have hfz43_2 := Af BK3.out 2) | ((with_reducible refine Am (f := 54) rfl ?_); refine Be (some 13) rfl rfl Tryd.func54 (by kernel_rfl) rfl #[.pointer (some ⟨gb2, 0, none⟩), .int .i64 40] rfl Yc_ ?_; (with_reducible refine (Em.calls gb2 l0 t511 t512 40 false t515 t516 w _ ?side1 ?side2 A3.out).mono ?_); (case side1 => repeat (first | (with_reducible first | exact HI507.out | apply IsS74.alloc | apply IsS74.drewN | apply IsS74.drew | apply IsS74.set_1 | apply IsS74.set_2 | refine IsS74.far ?_ NB2_0.out _ | refine IsS74.far ?_ NB2_1.out _ | refine IsS74.far ?_ NB2_3.out _) | exact HI507.out)); (case side2 => repeat (first | (with_reducible first | exact HB.out | apply below_alloc | apply pw_below_drewN | apply below_drew1 | refine below_set ?_ (IsS74.ge HI507.out) | refine below_set ?_ GE0.out | refine below_set ?_ GE1.out | refine below_set ?_ GE3.out) | exact HB.out)); rintro e w44 ⟨rfl, hi, hb, hk⟩; refine ⟨_, rfl, ?_⟩; have n0_ := Aside0.mk (KeepBut.blk hk (g' := gb0) (o := .cells #[.string (⟨#[]⟩ : ByteArray), .string (⟨#[]⟩ : ByteArray), .int .i64 0] 31 (0, 0)) Ydg_ NB0_2.out (by simp)); have n1_ := Aside0.mk (KeepBut.blk hk (g' := gb1) (o := .cells #[.string (⟨#[]⟩ : ByteArray), .string (⟨#[]⟩ : ByteArray)] 27 (0, 0)) Ydh_ NB1_2.out (by simp)); have n2_ := Aside0.mk (KeepBut.blk hk (g' := gb3) (o := .cells #[.string t508, .string t509, .int .i64 t510] 31 (0, 0)) Yei_ NB3_2.out (by simp)); have n3_ := Aside0.mk (hb); have n4_ := Aside0.mk (hi); clear BK0; clear BK1; clear BK3; clear HB; clear HI507; have BK0 := n0_; have BK1 := n1_; have BK3 := n2_; have HB := n3_; have HI507 := n4_; clear n0_ n1_ n2_ n3_ n4_; (try clear hb); (try clear hb2); (try clear hk); (try clear hi)))
    have n0_ := Aside0.mk (Ad BK0.out)
    have n1_ := Aside0.mk (Ad BK1.out)
    have n2_ := Aside0.mk (Ad BK3.out)
    have n3_ := Aside0.mk (IsS74.drew HI507.out)
    have n4_ := Aside0.mk (below_drew1 HB.out)
    clear BK0
    clear BK1
    clear BK3
    clear HI507
    clear HB
    have BK0 := n0_
    have BK1 := n1_
    have BK3 := n2_
    have HI507 := n3_
    have HB := n4_
    clear n0_ n1_ n2_ n3_ n4_
    refine G5 (n := 5) (S := fun w' => w'.cell? ⟨gb3, 0, none⟩ = some (.string t508) ∧ w'.cell? ⟨gb3, 1, none⟩ = some (.string t509) ∧ w'.cell? ⟨gb3, 2, none⟩ = some (.int .i64 t510)) (ds := []) #[false, false, false, false, false] (by kernel_rfl) rfl rfl ⟨(Ae BK3.out 0).trans rfl, (Ae BK3.out 1).trans rfl, (Ae BK3.out 2).trans rfl⟩ (fun hHeld => ?_)
    generalize w44.drew = w45 at BK0 BK1 BK3 HI507 HB hHeld ⊢
    refine Bz (i := 1) (N := some 29) (v := ?_) (a' := ?_) #[false, true, false, false, false] rfl rfl (by kernel_rfl) (fun _ _ _ h => h) (Or.inl ⟨by rfl, ?_⟩) ?_ ?_
    rotate_left
    · intro w'
      go_simp
      with_reducible rfl
    rotate_left
    · simp only [Act.put, List.setIfInBounds_toArray, List.set_cons_zero, List.set_cons_succ, Aw, Az]
      rfl
    refine E8 (i := 0) (N := some 28) (v := ?_) (a' := ?_) #[true, true, false, false, false] rfl rfl (by kernel_rfl) (fun _ _ _ h => h) (Or.inl ⟨by rfl, ?_⟩) hHeld ?_ ?_
    rotate_left
    · rintro w' ⟨s0, s1, s2⟩
      go_simp
      with_reducible rfl
    rotate_left
    · simp only [Act.put, List.setIfInBounds_toArray, List.set_cons_zero, List.set_cons_succ, Aw, Az]
      rfl
    refine one_ (i := 2) (N := some 30) #[true, true, true, false, false] rfl rfl (by kernel_rfl) (by decide) (fun K hK => ?_)
    refine Gl Tryd.func56 (by kernel_rfl) rfl #[.pointer (some ⟨gb2, 0, none⟩)] (by rfl) rfl rfl Yc_ ?_
    with_reducible refine (Dk.calls gb2 l0 t515 t516 t528 t529 t530 t531 w _ ?side1 ?side2 A34.out).mono ?_
    (case side1 => repeat (first | (with_reducible first | exact HI507.out | apply IsS74.alloc | apply IsS74.drewN | apply IsS74.drew | apply IsS74.set_1 | apply IsS74.set_2 | refine IsS74.far ?_ NB2_0.out _ | refine IsS74.far ?_ NB2_1.out _ | refine IsS74.far ?_ NB2_3.out _) | exact HI507.out))
    (case side2 => repeat (first | (with_reducible first | exact HB.out | apply below_alloc | apply pw_below_drewN | apply below_drew1 | refine below_set ?_ (IsS74.ge HI507.out) | refine below_set ?_ GE0.out | refine below_set ?_ GE1.out | refine below_set ?_ GE3.out) | exact HB.out))
    rintro e w46 ⟨rfl, hi, hb, hk⟩
    refine ⟨_, rfl, ?_⟩
    have n0_ := Aside0.mk (KeepBut.blk hk (g' := gb0) (o := .cells #[.string (⟨#[]⟩ : ByteArray), .string (⟨#[]⟩ : ByteArray), .int .i64 0] 31 (0, 0)) Yd_ NB0_2.out (by simp))
    have n1_ := Aside0.mk (KeepBut.blk hk (g' := gb1) (o := .cells #[.string (⟨#[]⟩ : ByteArray), .string (⟨#[]⟩ : ByteArray)] 27 (0, 0)) Ye_ NB1_2.out (by simp))
    have n2_ := Aside0.mk (KeepBut.blk hk (g' := gb3) (o := .cells #[.string t508, .string t509, .int .i64 t510] 31 (0, 0)) Yca_ NB3_2.out (by simp))
    have n3_ := Aside0.mk (hb)
    have n4_ := Aside0.mk (hi)
    clear BK0
    clear BK1
    clear BK3
    clear HB
    clear HI507
    have BK0 := n0_
    have BK1 := n1_
    have BK3 := n2_
    have HB := n3_
    have HI507 := n4_
    clear n0_ n1_ n2_ n3_ n4_
    (try clear hb)
    (try clear hb2)
    (try clear hk)
    (try clear hi)
    refine hK.out _ _ ⟨(Ae BK3.out 0).trans rfl, (Ae BK3.out 1).trans rfl, (Ae BK3.out 2).trans rfl⟩ (fun hHeld => ?_)
    clear hK K
    refine Gp (a' := ?_) ?_ ?_
    rotate_left
    · show Act.put _ (some 30) _ = _
      simp only [Act.put, List.setIfInBounds_toArray, List.set_cons_zero, List.set_cons_succ, Aw, Az]
      rfl
    refine one_ (i := 3) (N := none) #[true, true, true, true, false] rfl rfl (by kernel_rfl) (by decide) (fun K hK => ?_)
    have hs47 : w46.cell? ⟨gb0, 0, none⟩ = some (.string (⟨#[]⟩ : ByteArray)) := (Ae BK0.out 0).trans rfl
    have hfs47 := Af BK0.out 0
    have hns47_1 := NB1_0.out
    have hns47_2 := NB3_0.out
    have hms47_1 := NB0_1.out
    have hms47_2 := NB0_3.out
    have hs48 : w46.cell? ⟨gb0, 1, none⟩ = some (.string (⟨#[]⟩ : ByteArray)) := (Ae BK0.out 1).trans rfl
    have hfs48 := Af BK0.out 1
    have hns48_1 := NB1_0.out
    have hns48_2 := NB3_0.out
    have hms48_1 := NB0_1.out
    have hms48_2 := NB0_3.out
    have hs49 : w46.cell? ⟨gb0, 2, none⟩ = some (.int .i64 0) := (Ae BK0.out 2).trans rfl
    have hfs49 := Af BK0.out 2
    have hns49_1 := NB1_0.out
    have hns49_2 := NB3_0.out
    have hms49_1 := NB0_1.out
    have hms49_2 := NB0_3.out
    refine skip_ (w1 := ?_) (by rfl) rfl ?_ ?_
    rotate_left
    · go_simp
      rfl
    refine hK.out _ _ ⟨((cell_far (p := ⟨gb0, _, none⟩) NB3_0.out _).trans (((cell_far (p := ⟨gb0, _, none⟩) NB3_0.out _).trans (((cell_far (p := ⟨gb0, _, none⟩) NB3_0.out _).trans (hHeld.1)))))), ((cell_far (p := ⟨gb0, _, none⟩) NB3_0.out _).trans (((cell_far (p := ⟨gb0, _, none⟩) NB3_0.out _).trans (((cell_far (p := ⟨gb0, _, none⟩) NB3_0.out _).trans (hHeld.2.1)))))), ((cell_far (p := ⟨gb0, _, none⟩) NB3_0.out _).trans (((cell_far (p := ⟨gb0, _, none⟩) NB3_0.out _).trans (((cell_far (p := ⟨gb0, _, none⟩) NB3_0.out _).trans (hHeld.2.2))))))⟩ (fun hHeld => ?_)
    clear hK K
    refine one_ (i := 4) (N := none) #[true, true, true, true, true] rfl rfl (by kernel_rfl) (by decide) (fun K hK => ?_)
    have hs50 : w46.cell? ⟨gb1, 0, none⟩ = some (.string (⟨#[]⟩ : ByteArray)) := (Ae BK1.out 0).trans rfl
    have hfs50 := Af BK1.out 0
    have hns50_0 := NB0_1.out
    have hns50_2 := NB3_1.out
    have hms50_0 := NB1_0.out
    have hms50_2 := NB1_3.out
    have hs51 : w46.cell? ⟨gb1, 1, none⟩ = some (.string (⟨#[]⟩ : ByteArray)) := (Ae BK1.out 1).trans rfl
    have hfs51 := Af BK1.out 1
    have hns51_0 := NB0_1.out
    have hns51_2 := NB3_1.out
    have hms51_0 := NB1_0.out
    have hms51_2 := NB1_3.out
    refine skip_ (w1 := ?_) (by rfl) rfl ?_ ?_
    rotate_left
    · go_simp
      rfl
    refine hK.out _ _ ⟨((cell_far (p := ⟨gb1, _, none⟩) NB3_1.out _).trans (((cell_far (p := ⟨gb1, _, none⟩) NB3_1.out _).trans (hHeld.1)))), ((cell_far (p := ⟨gb1, _, none⟩) NB3_1.out _).trans (((cell_far (p := ⟨gb1, _, none⟩) NB3_1.out _).trans (hHeld.2.1)))), ((cell_far (p := ⟨gb1, _, none⟩) NB3_1.out _).trans (((cell_far (p := ⟨gb1, _, none⟩) NB3_1.out _).trans (hHeld.2.2))))⟩ (fun hHeld => ?_)
    clear hK K
    refine done_ (by kernel_rfl) ?_
    try go_wp2
    refine bodyPost_ret (results_cc rfl _ _ gb0 gb1 31 27 #[.string t508, .string t509, .int .i64 t510] #[.string t528, .string t529] (0, 0) (0, 0) _ _ rfl (by (with_reducible repeat (first | refine Aa ?_ _ | refine Ad ?_ | refine Ac ?_ _)); refine Aq ?_ NB0_1.out _; (with_reducible repeat (first | refine Aa ?_ _ | refine Ad ?_ | refine Ac ?_ _)); refine Aq ?_ NB0_1.out _; (with_reducible repeat (first | refine Aa ?_ _ | refine Ad ?_ | refine Ac ?_ _)); refine Ar (cs := #[.string t508, .string t509, .int .i64 0]) ?_ 2 _ rfl; (with_reducible repeat (first | refine Aa ?_ _ | refine Ad ?_ | refine Ac ?_ _)); refine Ar (cs := #[.string t508, .string (⟨#[]⟩ : ByteArray), .int .i64 0]) ?_ 1 _ rfl; (with_reducible repeat (first | refine Aa ?_ _ | refine Ad ?_ | refine Ac ?_ _)); refine Ar (cs := #[.string (⟨#[]⟩ : ByteArray), .string (⟨#[]⟩ : ByteArray), .int .i64 0]) ?_ 0 _ rfl; (with_reducible repeat (first | refine Aa ?_ _ | refine Ad ?_ | refine Ac ?_ _)); exact BK0.out) Tryd.underlying31 rfl (by kernel_rfl) rfl (by (with_reducible repeat (first | refine Aa ?_ _ | refine Ad ?_ | refine Ac ?_ _)); refine Ar (cs := #[.string t528, .string (⟨#[]⟩ : ByteArray)]) ?_ 1 _ rfl; (with_reducible repeat (first | refine Aa ?_ _ | refine Ad ?_ | refine Ac ?_ _)); refine Ar (cs := #[.string (⟨#[]⟩ : ByteArray), .string (⟨#[]⟩ : ByteArray)]) ?_ 0 _ rfl; (with_reducible repeat (first | refine Aa ?_ _ | refine Ad ?_ | refine Ac ?_ _)); refine Aq ?_ NB1_0.out _; (with_reducible repeat (first | refine Aa ?_ _ | refine Ad ?_ | refine Ac ?_ _)); refine Aq ?_ NB1_0.out _; (with_reducible repeat (first | refine Aa ?_ _ | refine Ad ?_ | refine Ac ?_ _)); refine Aq ?_ NB1_0.out _; (with_reducible repeat (first | refine Aa ?_ _ | refine Ad ?_ | refine Ac ?_ _)); exact BK1.out) Tryd.underlying27 rfl (by kernel_rfl)) rfl ?_
    exact ⟨by first | rfl | (simp [Ak, Aj] <;> rfl) | (simp [*, Ak, Aj] <;> rfl), by repeat (first | (with_reducible first | exact HB.out | apply below_alloc | apply pw_below_drewN | apply below_drew1 | refine below_set ?_ (IsS74.ge HI507.out) | refine below_set ?_ GE0.out | refine below_set ?_ GE1.out | refine below_set ?_ GE3.out) | exact HB.out)⟩
end Go.Proofs.YtkpieljmhgfofaaDoor.X

namespace Go.Proofs.YtkpieljmhgfofaaDoor.X
open Go.RowKit Go.Proofs.YtkpieljmhgfofaaDoorW.PrintWords Go.Proofs.YtkpieljmhgfofaaDoorW.PrintLast Go.Proofs.YtkpieljmhgfofaaDoorW.PrintMore
attribute [local go_sem] max2_int min2_int max_two min_two max_three min_three max_four min_four
open Go.Proofs.YtkpieljmhgfofaaDoorG
def Dt.f (k : Nat) (a0_0 : ByteArray) (a0_1 : ByteArray) : Option (Bool) := (Dl.f k a0_0 a0_1).bind fun t533 => (some t533)
theorem Dt.mono : ∀ a0 a1 k, LeO (Dt.f k a0 a1) (Dt.f (k + 1) a0 a1) := by
  intro a0 a1 k
  unfold Dt.f
  repeat' first
      | (with_reducible exact Dl.mono _ _ _)
      | (with_reducible exact LeO.refl _)
      | (with_reducible exact LeO.none _)
      | (with_reducible refine LeO.ite ?_ ?_)
      | (with_reducible refine LeO.bind ?_ (fun _ => ?_))
      | exact Dl.mono _ _ _
      | exact LeO.none _
      | refine LeO.ite ?_ ?_
      | refine LeO.bind ?_ (fun _ => ?_)
set_option maxHeartbeats 8000000 in
set_option maxRecDepth 100000 in
theorem Dt.calls (k : Nat) (a0_0 : ByteArray) (a0_1 : ByteArray) (r : Bool) (w : World) (h : Dt.f k a0_0 a0_1 = some r) :
    Calls Tryd.prog 38 #[.agg #[.string a0_0, .string a0_1]] w fun e w' => e = .returned (.bool r) ∧ Below w.heap.size w w' := by
  have hu27 := Tryd.underlying27
  have HB := Aside0.mk (Below.refl w.heap.size w)
  have H : ((Dl.f k a0_0 a0_1).bind fun t533 => (some t533)) = some r := h
  clear h
  replace H := Option.bind_eq_some_iff.mp H
  obtain ⟨t533, A20, H⟩ := H
  replace H : (some t533) = some r := H
  have A2 := Aside0.mk A20
  clear A20
  obtain rfl := Option.some.inj H
  go_enter Tryd.func38, Tryd.ntmps38
  go_wp2_with (first | ((with_reducible refine Bd (N := 1) rfl ?_); refine Bc ?hg (N := 1) ?hd (cs := #[.string a0_0, .string a0_1]) (t := 27) ?hr ?_; (case hd => rfl); (case hg => rfl); (case hr => first | (go_simp; done) | (go_simp; rfl)); intro gb0 hg w3 hbox hb; have n0_ := Aside0.mk (Ag Ya_ hb); have n1_ := Aside0.mk (hbox); have n2_ := Aside0.mk ((by rw [hg]; exact (Ah Ya_) : w.heap.size ≤ gb0)); have n3_ := Aside0.mk ((by rw [hg]; exact (Ah Ya_) : w.heap.size ≤ gb0)); clear HB; have HB := n0_; have BK0 := n1_; have GW0 := n2_; have GE0 := n3_; clear n0_ n1_ n2_ n3_; clear hb hbox hg; have hcz4_0 : w3.cell? ⟨gb0, 0, none⟩ = some (.string a0_0) := (Ae BK0.out 0).trans rfl; have hcz4_1 : w3.cell? ⟨gb0, 1, none⟩ = some (.string a0_1) := (Ae BK0.out 1).trans rfl; have hfz4_0 := Af BK0.out 0; have hfz4_1 := Af BK0.out 1) | ((with_reducible refine Am (f := 43) rfl ?_); refine Be (some 4) rfl rfl Tryd.func43 (by kernel_rfl) rfl #[.agg #[.string a0_0, .string a0_1]] rfl Yc_ ?_; (with_reducible refine (Dl.calls k a0_0 a0_1 t533 _ A2.out).mono ?_); rintro e w5 ⟨rfl, hb⟩; refine ⟨_, rfl, ?_⟩; have n0_ := Aside0.mk (Ai (g := gb0) (o := .cells #[.string a0_0, .string a0_1] 27 (0, 0)) Yd_ hb); have n1_ := Aside0.mk (Ag Yb_ hb); clear BK0; clear HB; have BK0 := n0_; have HB := n1_; clear n0_ n1_; (try clear hb); (try clear hb2); (try clear hk); (try clear hi)))
  go_ret
  exact ⟨by first | rfl | (simp [Ak, Aj] <;> rfl) | (simp [*, Ak, Aj] <;> rfl), by repeat (first | (with_reducible first | exact HB.out | apply below_alloc | apply pw_below_drewN | apply below_drew1 | refine below_set ?_ GE0.out) | exact HB.out)⟩
end Go.Proofs.YtkpieljmhgfofaaDoor.X

