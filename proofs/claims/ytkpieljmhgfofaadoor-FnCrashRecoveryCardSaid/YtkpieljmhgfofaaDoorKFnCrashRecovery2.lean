/- Texts that the proof of the law FnCrashRecovery leans on, part 3 of 6. -/
import Derived.WalkKit
import Derived.Lib.ConvBytes
import Derived.Laws.IdiomStrings
import Derived.Deep.Draws
import Derived.Test.YtkpieljmhgfofaaDoorKFnCrashRecovery1
set_option linter.unusedVariables false
set_option linter.unusedSimpArgs false
namespace Go.Proofs.YtkpieljmhgfofaaDoor.X
open Go.RowKit Go.Proofs.YtkpieljmhgfofaaDoorW.PrintWords Go.Proofs.YtkpieljmhgfofaaDoorW.PrintLast Go.Proofs.YtkpieljmhgfofaaDoorW.PrintMore
attribute [local go_sem] max2_int min2_int max_two min_two max_three min_three max_four min_four
open Go.Proofs.YtkpieljmhgfofaaDoorG
def Dh.l0 : Nat → ByteArray → Int → Int → Option (Bool)
  | 0, _, _, _ => none
  | k + 1, x0, x1, x5 => if x5 < (x0.size : Int) then (if 0 ≤ x5 then (if (bt x0 x5) = x1 then (some true) else (Dh.l0 k x0 x1 (wrap64 (x5 + 1)))) else (none)) else (some false)
def Dh.f (k : Nat) (a0 : ByteArray) (a1 : Int) : Option (Bool) := Dh.l0 k a0 a1 0
theorem Dh.Ec : ∀ k, (∀ y0 y1 y2, LeO (Dh.l0 k y0 y1 y2) (Dh.l0 (k + 1) y0 y1 y2))
  | 0 => fun _ _ _ r h => by simp [Dh.l0] at h
  | k + 1 => by
    have ih0 := Dh.Ec k
    · intro y0 y1 y2
      unfold Dh.l0
      repeat' first
      | (with_reducible exact ih0 _ _ _)
      | (with_reducible exact LeO.refl _)
      | (with_reducible exact LeO.none _)
      | (with_reducible refine LeO.ite ?_ ?_)
      | (with_reducible refine LeO.bind ?_ (fun _ => ?_))
      | exact ih0 _ _ _
      | exact LeO.none _
      | refine LeO.ite ?_ ?_
      | refine LeO.bind ?_ (fun _ => ?_)
theorem Dh.mono : ∀ a0 a1 k, LeO (Dh.f k a0 a1) (Dh.f (k + 1) a0 a1) := by
  intro a0 a1 k
  have ih0 := Dh.Ec k
  unfold Dh.f
  repeat' first
      | (with_reducible exact ih0 _ _ _)
      | (with_reducible exact LeO.refl _)
      | (with_reducible exact LeO.none _)
      | (with_reducible refine LeO.ite ?_ ?_)
      | (with_reducible refine LeO.bind ?_ (fun _ => ?_))
      | exact ih0 _ _ _
      | exact LeO.none _
      | refine LeO.ite ?_ ?_
      | refine LeO.bind ?_ (fun _ => ?_)
set_option maxHeartbeats 8000000 in
set_option maxRecDepth 100000 in
theorem Dh.calls (k : Nat) (a0 : ByteArray) (a1 : Int) (r : Bool) (w : World) (h : Dh.f k a0 a1 = some r) :
    Calls Tryd.prog 63 #[.string a0, .int .u8 a1] w fun e w' => e = .returned (.bool r) ∧ Cc w w' := by
  have H : (Dh.l0 k a0 a1 0) = some r := h
  clear h
  have H' := Aside0.mk H
  clear H
  go_enter Tryd.func63, Tryd.ntmps63
  go_wp2
  go_loopg [5] k (fun kq v5 w' => ∃ (x5_1 : Int), v5 = .int .i64 x5_1 ∧ Aside0 (Dh.l0 kq a0 a1 x5_1 = some r) ∧ Aside0 (kq ≤ k) ∧ Cc w w')
  case atStart => exact ⟨(0), Ybg_, H', ⟨Nat.le_refl _⟩, by repeat (first | exact Cc.refl _ | apply Cc.step)⟩
  case round =>
    clear H'
    try clear p2
    obtain ⟨x5_1, rfl, HA, HK1, ⟨m1, rfl⟩⟩ := hrel
    cases gk with
    | zero => exact absurd HA.out (by simp [Dh.l0])
    | succ k1 =>
      have H := HA.out
      clear HA
      simp only [Dh.l0] at H
      by_cases c3 : x5_1 < (a0.size : Int)
      · rw [if_pos c3] at H
        have c3b0 : decide (x5_1 < (a0.size : Int)) = true := decide_eq_true c3
        clear c3
        by_cases c4 : 0 ≤ x5_1
        · rw [if_pos c4] at H
          have c4b0 : decide (0 ≤ x5_1) = true := decide_eq_true c4
          clear c4
          by_cases c6 : (bt a0 x5_1) = a1
          · rw [if_pos c6] at H
            have c6b0 : ((bt a0 x5_1) == a1) = true := beq_iff_eq.mpr c6
            have c6b1 : ((bt a0 x5_1) != a1) = false := bne_eq_false_iff_eq.mpr c6
            clear c6
            obtain rfl := Option.some.inj H
            have p5 : 0 ≤ (x5_1 : Int) := of_decide_eq_true Yba_
            have q5 : x5_1 < (a0.size : Int) := of_decide_eq_true Yba_
            have hx5 := bt_at a0 x5_1
            replace p5 := eq_true p5
            replace q5 := eq_true q5
            go_wp2
            go_ret
            exact ⟨by first | rfl | (simp; done) | (simp [*]; done), by repeat (first | exact Cc.refl _ | apply Cc.step)⟩
          · rw [if_neg c6] at H
            have c6b0 : ((bt a0 x5_1) == a1) = false := beq_eq_false_iff_ne.mpr c6
            have c6b1 : ((bt a0 x5_1) != a1) = true := bne_iff_ne.mpr c6
            have H' := Aside0.mk H
            clear H
            have p5 : 0 ≤ (x5_1 : Int) := of_decide_eq_true Yba_
            have q5 : x5_1 < (a0.size : Int) := of_decide_eq_true Yba_
            have hx5 := bt_at a0 x5_1
            replace p5 := eq_true p5
            replace q5 := eq_true q5
            go_wp2
            go_roundg k1
            case measure => have := HK1.out; omega
            case rel => exact ⟨(wrap64 (x5_1 + 1)), Ybg_, H', ⟨by have := HK1.out; omega⟩, by repeat (first | exact Cc.refl _ | apply Cc.step)⟩
        · rw [if_neg c4] at H
          exact absurd H (by simp)
      · rw [if_neg c3] at H
        have c3b0 : decide (x5_1 < (a0.size : Int)) = false := decide_eq_false c3
        clear c3
        obtain rfl := Option.some.inj H
        go_wp2
        go_ret
        exact ⟨by first | rfl | (simp; done) | (simp [*]; done), by repeat (first | exact Cc.refl _ | apply Cc.step)⟩
end Go.Proofs.YtkpieljmhgfofaaDoor.X

namespace Go.Proofs.YtkpieljmhgfofaaDoor.X
open Go.RowKit Go.Proofs.YtkpieljmhgfofaaDoorW.PrintWords Go.Proofs.YtkpieljmhgfofaaDoorW.PrintLast Go.Proofs.YtkpieljmhgfofaaDoorW.PrintMore
attribute [local go_sem] max2_int min2_int max_two min_two max_three min_three max_four min_four
open Go.Proofs.YtkpieljmhgfofaaDoorG
def Df.f (k : Nat) (a0_0 : ByteArray) (a0_1 : ByteArray) : Option (Bool) := if a0_0.toList = ([] : List UInt8) then (some false) else ((Cb.f k a0_0 160).bind fun t104 => (if t104 = true then ((Dh.f k a0_0 64).bind fun t105 => (if t105 = true then (some false) else ((Cb.f k a0_1 200).bind fun t106 => (some t106)))) else (some false)))
theorem Df.mono : ∀ a0 a1 k, LeO (Df.f k a0 a1) (Df.f (k + 1) a0 a1) := by
  intro a0 a1 k
  unfold Df.f
  repeat' first
      | (with_reducible exact Dh.mono _ _ _)
      | (with_reducible exact Cb.mono _ _ _)
      | (with_reducible exact LeO.refl _)
      | (with_reducible exact LeO.none _)
      | (with_reducible refine LeO.ite ?_ ?_)
      | (with_reducible refine LeO.bind ?_ (fun _ => ?_))
      | exact Dh.mono _ _ _
      | exact Cb.mono _ _ _
      | exact LeO.none _
      | refine LeO.ite ?_ ?_
      | refine LeO.bind ?_ (fun _ => ?_)
set_option maxHeartbeats 8000000 in
set_option maxRecDepth 100000 in
theorem Df.calls (k : Nat) (a0_0 : ByteArray) (a0_1 : ByteArray) (r : Bool) (w : World) (h : Df.f k a0_0 a0_1 = some r) :
    Calls Tryd.prog 43 #[.agg #[.string a0_0, .string a0_1]] w fun e w' => e = .returned (.bool r) ∧ Below w.heap.size w w' := by
  have hu27 := Tryd.underlying27
  have HB := Aside0.mk (Below.refl w.heap.size w)
  have H : (if a0_0.toList = ([] : List UInt8) then (some false) else ((Cb.f k a0_0 160).bind fun t104 => (if t104 = true then ((Dh.f k a0_0 64).bind fun t105 => (if t105 = true then (some false) else ((Cb.f k a0_1 200).bind fun t106 => (some t106)))) else (some false)))) = some r := h
  clear h
  by_cases c2 : a0_0.toList = ([] : List UInt8)
  · rw [if_pos c2] at H
    have c2b0 : (a0_0.toList == ([] : List UInt8)) = true := beq_iff_eq.mpr c2
    have c2b1 : (a0_0.toList != ([] : List UInt8)) = false := bne_eq_false_iff_eq.mpr c2
    clear c2
    obtain rfl := Option.some.inj H
    go_enter Tryd.func43, Tryd.ntmps43
    go_wp2_with (first | ((with_reducible refine gate_dst (N := 1) rfl ?_); refine box_event ?hg (N := 1) ?hd (cs := #[.string a0_0, .string a0_1]) (t := 27) ?hr ?_; (case hd => rfl); (case hg => rfl); (case hr => first | (go_simp; done) | (go_simp; rfl)); intro gb0 hg w3 hbox hb; have n0_ := Aside0.mk (below_step Ya_ hb); have n1_ := Aside0.mk (hbox); have n2_ := Aside0.mk ((by rw [hg]; exact (below_size Ya_) : w.heap.size ≤ gb0)); have n3_ := Aside0.mk ((by rw [hg]; exact (below_size Ya_) : w.heap.size ≤ gb0)); clear HB; have HB := n0_; have BK0 := n1_; have GW0 := n2_; have GE0 := n3_; clear n0_ n1_ n2_ n3_; clear hb hbox hg; have hcz4_0 : w3.cell? ⟨gb0, 0, none⟩ = some (.string a0_0) := (blk_cell BK0.out 0).trans rfl; have hcz4_1 : w3.cell? ⟨gb0, 1, none⟩ = some (.string a0_1) := (blk_cell BK0.out 1).trans rfl; have hfz4_0 := Ac BK0.out 0; have hfz4_1 := Ac BK0.out 1))
    go_ret
    exact ⟨by first | rfl | (simp [Af, Ag] <;> rfl) | (simp [*, Af, Ag] <;> rfl), by repeat (first | (with_reducible first | exact HB.out | apply below_alloc | apply pw_below_drewN | apply below_drew1 | refine below_set ?_ GE0.out) | exact HB.out)⟩
  · rw [if_neg c2] at H
    have c2b0 : (a0_0.toList == ([] : List UInt8)) = false := beq_eq_false_iff_ne.mpr c2
    have c2b1 : (a0_0.toList != ([] : List UInt8)) = true := bne_iff_ne.mpr c2
    replace H := Option.bind_eq_some_iff.mp H
    obtain ⟨t104, A50, H⟩ := H
    replace H : (if t104 = true then ((Dh.f k a0_0 64).bind fun t105 => (if t105 = true then (some false) else ((Cb.f k a0_1 200).bind fun t106 => (some t106)))) else (some false)) = some r := H
    have A5 := Aside0.mk A50
    clear A50
    by_cases c6 : t104 = true
    · subst c6
      have H1 : ((Dh.f k a0_0 64).bind fun t105 => (if t105 = true then (some false) else ((Cb.f k a0_1 200).bind fun t106 => (some t106)))) = some r := by rw [if_pos rfl] at H; exact H
      clear H
      have H := H1
      clear H1
      replace H := Option.bind_eq_some_iff.mp H
      obtain ⟨t105, A70, H⟩ := H
      replace H : (if t105 = true then (some false) else ((Cb.f k a0_1 200).bind fun t106 => (some t106))) = some r := H
      have A7 := Aside0.mk A70
      clear A70
      by_cases c8 : t105 = true
      · subst c8
        have H1 : (some false) = some r := by rw [if_pos rfl] at H; exact H
        clear H
        have H := H1
        clear H1
        obtain rfl := Option.some.inj H
        go_enter Tryd.func43, Tryd.ntmps43
        go_wp2_with (first | ((with_reducible refine gate_dst (N := 1) rfl ?_); refine box_event ?hg (N := 1) ?hd (cs := #[.string a0_0, .string a0_1]) (t := 27) ?hr ?_; (case hd => rfl); (case hg => rfl); (case hr => first | (go_simp; done) | (go_simp; rfl)); intro gb0 hg w9 hbox hb; have n0_ := Aside0.mk (below_step Ya_ hb); have n1_ := Aside0.mk (hbox); have n2_ := Aside0.mk ((by rw [hg]; exact (below_size Ya_) : w.heap.size ≤ gb0)); have n3_ := Aside0.mk ((by rw [hg]; exact (below_size Ya_) : w.heap.size ≤ gb0)); clear HB; have HB := n0_; have BK0 := n1_; have GW0 := n2_; have GE0 := n3_; clear n0_ n1_ n2_ n3_; clear hb hbox hg; have hcz10_0 : w9.cell? ⟨gb0, 0, none⟩ = some (.string a0_0) := (blk_cell BK0.out 0).trans rfl; have hcz10_1 : w9.cell? ⟨gb0, 1, none⟩ = some (.string a0_1) := (blk_cell BK0.out 1).trans rfl; have hfz10_0 := Ac BK0.out 0; have hfz10_1 := Ac BK0.out 1) | (go_at_call 62; (with_reducible refine (Cb.calls k a0_0 160 true _ A5.out).mono ?_); rintro e w' ⟨rfl, ⟨nd, rfl⟩⟩) | (go_at_call 63; (with_reducible refine (Dh.calls k a0_0 64 true _ A7.out).mono ?_); rintro e w' ⟨rfl, ⟨nd, rfl⟩⟩))
        go_ret
        exact ⟨by first | rfl | (simp [Af, Ag] <;> rfl) | (simp [*, Af, Ag] <;> rfl), by repeat (first | (with_reducible first | exact HB.out | apply below_alloc | apply pw_below_drewN | apply below_drew1 | refine below_set ?_ GE0.out) | exact HB.out)⟩
      · replace c8 := Bool.eq_false_iff.mpr c8
        subst c8
        have H1 : ((Cb.f k a0_1 200).bind fun t106 => (some t106)) = some r := by rw [if_neg (show ¬ (false = true) by decide)] at H; exact H
        clear H
        have H := H1
        clear H1
        replace H := Option.bind_eq_some_iff.mp H
        obtain ⟨t106, A110, H⟩ := H
        replace H : (some t106) = some r := H
        have A11 := Aside0.mk A110
        clear A110
        obtain rfl := Option.some.inj H
        go_enter Tryd.func43, Tryd.ntmps43
        go_wp2_with (first | ((with_reducible refine gate_dst (N := 1) rfl ?_); refine box_event ?hg (N := 1) ?hd (cs := #[.string a0_0, .string a0_1]) (t := 27) ?hr ?_; (case hd => rfl); (case hg => rfl); (case hr => first | (go_simp; done) | (go_simp; rfl)); intro gb0 hg w12 hbox hb; have n0_ := Aside0.mk (below_step Ya_ hb); have n1_ := Aside0.mk (hbox); have n2_ := Aside0.mk ((by rw [hg]; exact (below_size Ya_) : w.heap.size ≤ gb0)); have n3_ := Aside0.mk ((by rw [hg]; exact (below_size Ya_) : w.heap.size ≤ gb0)); clear HB; have HB := n0_; have BK0 := n1_; have GW0 := n2_; have GE0 := n3_; clear n0_ n1_ n2_ n3_; clear hb hbox hg; have hcz13_0 : w12.cell? ⟨gb0, 0, none⟩ = some (.string a0_0) := (blk_cell BK0.out 0).trans rfl; have hcz13_1 : w12.cell? ⟨gb0, 1, none⟩ = some (.string a0_1) := (blk_cell BK0.out 1).trans rfl; have hfz13_0 := Ac BK0.out 0; have hfz13_1 := Ac BK0.out 1) | (go_at_call 62; (with_reducible refine (Cb.calls k a0_0 160 true _ A5.out).mono ?_); rintro e w' ⟨rfl, ⟨nd, rfl⟩⟩) | (go_at_call 63; (with_reducible refine (Dh.calls k a0_0 64 false _ A7.out).mono ?_); rintro e w' ⟨rfl, ⟨nd, rfl⟩⟩) | (go_at_call 62; (with_reducible refine (Cb.calls k a0_1 200 t106 _ A11.out).mono ?_); rintro e w' ⟨rfl, ⟨nd, rfl⟩⟩))
        go_ret
        exact ⟨by first | rfl | (simp [Af, Ag] <;> rfl) | (simp [*, Af, Ag] <;> rfl), by repeat (first | (with_reducible first | exact HB.out | apply below_alloc | apply pw_below_drewN | apply below_drew1 | refine below_set ?_ GE0.out) | exact HB.out)⟩
    · replace c6 := Bool.eq_false_iff.mpr c6
      subst c6
      have H1 : (some false) = some r := by rw [if_neg (show ¬ (false = true) by decide)] at H; exact H
      clear H
      have H := H1
      clear H1
      obtain rfl := Option.some.inj H
      go_enter Tryd.func43, Tryd.ntmps43
      go_wp2_with (first | ((with_reducible refine gate_dst (N := 1) rfl ?_); refine box_event ?hg (N := 1) ?hd (cs := #[.string a0_0, .string a0_1]) (t := 27) ?hr ?_; (case hd => rfl); (case hg => rfl); (case hr => first | (go_simp; done) | (go_simp; rfl)); intro gb0 hg w14 hbox hb; have n0_ := Aside0.mk (below_step Ya_ hb); have n1_ := Aside0.mk (hbox); have n2_ := Aside0.mk ((by rw [hg]; exact (below_size Ya_) : w.heap.size ≤ gb0)); have n3_ := Aside0.mk ((by rw [hg]; exact (below_size Ya_) : w.heap.size ≤ gb0)); clear HB; have HB := n0_; have BK0 := n1_; have GW0 := n2_; have GE0 := n3_; clear n0_ n1_ n2_ n3_; clear hb hbox hg; have hcz15_0 : w14.cell? ⟨gb0, 0, none⟩ = some (.string a0_0) := (blk_cell BK0.out 0).trans rfl; have hcz15_1 : w14.cell? ⟨gb0, 1, none⟩ = some (.string a0_1) := (blk_cell BK0.out 1).trans rfl; have hfz15_0 := Ac BK0.out 0; have hfz15_1 := Ac BK0.out 1) | (go_at_call 62; (with_reducible refine (Cb.calls k a0_0 160 false _ A5.out).mono ?_); rintro e w' ⟨rfl, ⟨nd, rfl⟩⟩))
      go_ret
      exact ⟨by first | rfl | (simp [Af, Ag] <;> rfl) | (simp [*, Af, Ag] <;> rfl), by repeat (first | (with_reducible first | exact HB.out | apply below_alloc | apply pw_below_drewN | apply below_drew1 | refine below_set ?_ GE0.out) | exact HB.out)⟩
end Go.Proofs.YtkpieljmhgfofaaDoor.X

namespace Go.Proofs.YtkpieljmhgfofaaDoor.X
open Go.RowKit Go.Proofs.YtkpieljmhgfofaaDoorW.PrintWords Go.Proofs.YtkpieljmhgfofaaDoorW.PrintLast Go.Proofs.YtkpieljmhgfofaaDoorW.PrintMore
attribute [local go_sem] max2_int min2_int max_two min_two max_three min_three max_four min_four
open Go.Proofs.YtkpieljmhgfofaaDoorG
def Cf.f : Nat → Int → Option (ByteArray)
  | 0, _ => none
  | k + 1, a0 => if a0 < 0 then ((Cf.f k (wrap64 (-a0))).bind fun t107 => (if 1 + t107.size ≤ 9223372036854775807 then (some ((⟨#[45]⟩ : ByteArray) ++ t107)) else (none))) else (if a0 < 10 then (if 0 ≤ a0 then (if a0 ≤ (wrap64 (a0 + 1)) then (if (wrap64 (a0 + 1)) ≤ 10 then (some ((⟨#[48, 49, 50, 51, 52, 53, 54, 55, 56, 57]⟩ : ByteArray).extract (a0 : Int).toNat ((wrap64 (a0 + 1)) : Int).toNat)) else (none)) else (none)) else (none)) else ((Cf.f k (wrap64 (Int.tdiv a0 10))).bind fun t108 => (if 0 ≤ (Int.tmod a0 10) then (if (Int.tmod a0 10) ≤ (wrap64 ((Int.tmod a0 10) + 1)) then (if (wrap64 ((Int.tmod a0 10) + 1)) ≤ 10 then (if t108.size + ((⟨#[48, 49, 50, 51, 52, 53, 54, 55, 56, 57]⟩ : ByteArray).extract ((Int.tmod a0 10) : Int).toNat ((wrap64 ((Int.tmod a0 10) + 1)) : Int).toNat).size ≤ 9223372036854775807 then (some (t108 ++ ((⟨#[48, 49, 50, 51, 52, 53, 54, 55, 56, 57]⟩ : ByteArray).extract ((Int.tmod a0 10) : Int).toNat ((wrap64 ((Int.tmod a0 10) + 1)) : Int).toNat))) else (none)) else (none)) else (none)) else (none))))
theorem Cf.Ec : ∀ k, (∀ y0, LeO (Cf.f k y0) (Cf.f (k + 1) y0))
  | 0 => fun _ r h => by simp [Cf.f] at h
  | k + 1 => by
    have ih0 := Cf.Ec k
    · intro y0
      unfold Cf.f
      repeat' first
      | (with_reducible exact ih0 _)
      | (with_reducible exact LeO.refl _)
      | (with_reducible exact LeO.none _)
      | (with_reducible refine LeO.ite ?_ ?_)
      | (with_reducible refine LeO.bind ?_ (fun _ => ?_))
      | exact ih0 _
      | exact LeO.none _
      | refine LeO.ite ?_ ?_
      | refine LeO.bind ?_ (fun _ => ?_)
theorem Cf.mono : ∀ a0 k, LeO (Cf.f k a0) (Cf.f (k + 1) a0) := by
  intro a0 k
  have ih0 := Cf.Ec k
  exact ih0 a0
def Cf.T5 : Bool × List (List Nat × List Nat) := (true, [([], []), ([0], [0]), ([1], [1]), ([], []), ([3], [3]), ([], []), ([5], [5]), ([6], [6]), ([4, 7], [4, 7]), ([2, 8], [2, 8]), ([9, 2, 0, 1, 2, 3, 4, 5, 6, 7, 8, 9], [9])])
def Cf.B5 : List Nat := [0, 1, 3, 0, 8, 0, 32, 96, 248, 511, 1023]
theorem Cf.tab5 : rtab .any (opsOf Tryd.f65 5) = Cf.T5 := by kernel_rfl
theorem Cf.bits5 : Gm Cf.T5.2 Cf.B5 = true := by kernel_rfl
set_option maxHeartbeats 8000000 in
set_option maxRecDepth 100000 in
theorem Cf.calls (k : Nat) : ∀ (a0 : Int) (r : ByteArray) (w : World) (h : Cf.f k a0 = some r),
    Calls Tryd.prog 65 #[.int .i64 a0] w fun e w' => e = .returned (.string r) ∧ Below w.heap.size w w' := by
  induction k using Nat.strongRecOn with
  | _ k ih =>
  intro a0 r w h
  cases k with
  | zero => exact absurd h (by simp [Cf.f])
  | succ k =>
  simp only [Cf.f] at h
  have HB := Aside0.mk (Below.refl w.heap.size w)
  have H : (if a0 < 0 then ((Cf.f k (wrap64 (-a0))).bind fun t107 => (if 1 + t107.size ≤ 9223372036854775807 then (some ((⟨#[45]⟩ : ByteArray) ++ t107)) else (none))) else (if a0 < 10 then (if 0 ≤ a0 then (if a0 ≤ (wrap64 (a0 + 1)) then (if (wrap64 (a0 + 1)) ≤ 10 then (some ((⟨#[48, 49, 50, 51, 52, 53, 54, 55, 56, 57]⟩ : ByteArray).extract (a0 : Int).toNat ((wrap64 (a0 + 1)) : Int).toNat)) else (none)) else (none)) else (none)) else ((Cf.f k (wrap64 (Int.tdiv a0 10))).bind fun t108 => (if 0 ≤ (Int.tmod a0 10) then (if (Int.tmod a0 10) ≤ (wrap64 ((Int.tmod a0 10) + 1)) then (if (wrap64 ((Int.tmod a0 10) + 1)) ≤ 10 then (if t108.size + ((⟨#[48, 49, 50, 51, 52, 53, 54, 55, 56, 57]⟩ : ByteArray).extract ((Int.tmod a0 10) : Int).toNat ((wrap64 ((Int.tmod a0 10) + 1)) : Int).toNat).size ≤ 9223372036854775807 then (some (t108 ++ ((⟨#[48, 49, 50, 51, 52, 53, 54, 55, 56, 57]⟩ : ByteArray).extract ((Int.tmod a0 10) : Int).toNat ((wrap64 ((Int.tmod a0 10) + 1)) : Int).toNat))) else (none)) else (none)) else (none)) else (none))))) = some r := h
  clear h
  by_cases c2 : a0 < 0
  · rw [if_pos c2] at H
    have c2b0 : decide (a0 < 0) = true := decide_eq_true c2
    clear c2
    replace H := Option.bind_eq_some_iff.mp H
    obtain ⟨t107, A30, H⟩ := H
    replace H : (if 1 + t107.size ≤ 9223372036854775807 then (some ((⟨#[45]⟩ : ByteArray) ++ t107)) else (none)) = some r := H
    have A3 := Aside0.mk A30
    clear A30
    by_cases c4 : 1 + t107.size ≤ 9223372036854775807
    · rw [if_pos c4] at H
      have c4b0 := eq_true c4
      have c4b1 : decide (1 + t107.size ≤ 9223372036854775807) = true := decide_eq_true c4
      try have c4b2 : (9223372036854775807 < 1 + t107.size) = False := eq_false (Nat.not_lt.2 c4)
      obtain rfl := Option.some.inj H
      go_enter Tryd.func65, Tryd.ntmps65
      go_wp2_with (first | ((with_reducible refine gate_callee (f := 65) rfl ?_); refine goesL_ (some 7) rfl rfl Tryd.func65 (by kernel_rfl) rfl #[.int .i64 (wrap64 (-a0))] rfl Yc_ ?_; (with_reducible refine (ih k (by omega) (wrap64 (-a0)) t107 _ A3.out).mono ?_); rintro e w5 ⟨rfl, hb⟩; refine ⟨_, rfl, ?_⟩; have n0_ := Aside0.mk (below_step Ya_ hb); clear HB; have HB := n0_; clear n0_; (try clear hb); (try clear hb2); (try clear hk); (try clear hi)))
      go_ret
      exact ⟨by first | rfl | (simp [Af, Ag] <;> rfl) | (simp [*, Af, Ag] <;> rfl), by repeat (first | (with_reducible first | exact HB.out | apply below_alloc | apply pw_below_drewN | apply below_drew1) | exact HB.out)⟩
    · rw [if_neg c4] at H
      exact absurd H (by simp)
  · rw [if_neg c2] at H
    have c2b0 : decide (a0 < 0) = false := decide_eq_false c2
    clear c2
    by_cases c6 : a0 < 10
    · rw [if_pos c6] at H
      have c6b0 : decide (a0 < 10) = true := decide_eq_true c6
      clear c6
      by_cases c7 : 0 ≤ a0
      · rw [if_pos c7] at H
        have c7b0 := eq_true c7
        have c7b1 : decide (0 ≤ a0) = true := decide_eq_true c7
        clear c7
        by_cases c8 : a0 ≤ (wrap64 (a0 + 1))
        · rw [if_pos c8] at H
          have c8b0 := eq_true c8
          have c8b1 : decide (a0 ≤ (wrap64 (a0 + 1))) = true := decide_eq_true c8
          by_cases c9 : (wrap64 (a0 + 1)) ≤ 10
          · rw [if_pos c9] at H
            have c9b0 := eq_true c9
            have c9b1 : decide ((wrap64 (a0 + 1)) ≤ 10) = true := decide_eq_true c9
            obtain rfl := Option.some.inj H
            go_enter Tryd.func65, Tryd.ntmps65
            go_wp2
            go_ret
            exact ⟨by first | rfl | (simp [Af, Ag] <;> rfl) | (simp [*, Af, Ag] <;> rfl), by repeat (first | (with_reducible first | exact HB.out | apply below_alloc | apply pw_below_drewN | apply below_drew1) | exact HB.out)⟩
          · rw [if_neg c9] at H
            exact absurd H (by simp)
        · rw [if_neg c8] at H
          exact absurd H (by simp)
      · rw [if_neg c7] at H
        exact absurd H (by simp)
    · rw [if_neg c6] at H
      have c6b0 : decide (a0 < 10) = false := decide_eq_false c6
      clear c6
      replace H := Option.bind_eq_some_iff.mp H
      obtain ⟨t108, A100, H⟩ := H
      replace H : (if 0 ≤ (Int.tmod a0 10) then (if (Int.tmod a0 10) ≤ (wrap64 ((Int.tmod a0 10) + 1)) then (if (wrap64 ((Int.tmod a0 10) + 1)) ≤ 10 then (if t108.size + ((⟨#[48, 49, 50, 51, 52, 53, 54, 55, 56, 57]⟩ : ByteArray).extract ((Int.tmod a0 10) : Int).toNat ((wrap64 ((Int.tmod a0 10) + 1)) : Int).toNat).size ≤ 9223372036854775807 then (some (t108 ++ ((⟨#[48, 49, 50, 51, 52, 53, 54, 55, 56, 57]⟩ : ByteArray).extract ((Int.tmod a0 10) : Int).toNat ((wrap64 ((Int.tmod a0 10) + 1)) : Int).toNat))) else (none)) else (none)) else (none)) else (none)) = some r := H
      have A10 := Aside0.mk A100
      clear A100
      obtain ⟨ji11, hji11⟩ : ∃ j_ : Int, (Int.tmod a0 10) = j_ := ⟨_, rfl⟩
      replace H : (if 0 ≤ (ji11) then (if (ji11) ≤ (wrap64 ((ji11) + 1)) then (if (wrap64 ((ji11) + 1)) ≤ 10 then (if t108.size + ((⟨#[48, 49, 50, 51, 52, 53, 54, 55, 56, 57]⟩ : ByteArray).extract ((ji11) : Int).toNat ((wrap64 ((ji11) + 1)) : Int).toNat).size ≤ 9223372036854775807 then (some (t108 ++ ((⟨#[48, 49, 50, 51, 52, 53, 54, 55, 56, 57]⟩ : ByteArray).extract ((ji11) : Int).toNat ((wrap64 ((ji11) + 1)) : Int).toNat))) else (none)) else (none)) else (none)) else (none)) = some r := by first | (rw [hji11] at H; exact H) | (simp only [hji11] at H ⊢; exact H)
      (try rw [hji11] at A10)
      by_cases c12 : 0 ≤ (ji11)
      · rw [if_pos c12] at H
        have c12b0 := eq_true c12
        have c12b1 : decide (0 ≤ (ji11)) = true := decide_eq_true c12
        clear c12
        by_cases c13 : (ji11) ≤ (wrap64 ((ji11) + 1))
        · rw [if_pos c13] at H
          have c13b0 := eq_true c13
          have c13b1 : decide ((ji11) ≤ (wrap64 ((ji11) + 1))) = true := decide_eq_true c13
          by_cases c14 : (wrap64 ((ji11) + 1)) ≤ 10
          · rw [if_pos c14] at H
            have c14b0 := eq_true c14
            have c14b1 : decide ((wrap64 ((ji11) + 1)) ≤ 10) = true := decide_eq_true c14
            by_cases c15 : t108.size + ((⟨#[48, 49, 50, 51, 52, 53, 54, 55, 56, 57]⟩ : ByteArray).extract ((ji11) : Int).toNat ((wrap64 ((ji11) + 1)) : Int).toNat).size ≤ 9223372036854775807
            · rw [if_pos c15] at H
              have c15b0 := eq_true c15
              have c15b1 : decide (t108.size + ((⟨#[48, 49, 50, 51, 52, 53, 54, 55, 56, 57]⟩ : ByteArray).extract ((ji11) : Int).toNat ((wrap64 ((ji11) + 1)) : Int).toNat).size ≤ 9223372036854775807) = true := decide_eq_true c15
              try have c15b2 : (9223372036854775807 < t108.size + ((⟨#[48, 49, 50, 51, 52, 53, 54, 55, 56, 57]⟩ : ByteArray).extract ((ji11) : Int).toNat ((wrap64 ((ji11) + 1)) : Int).toNat).size) = False := eq_false (Nat.not_lt.2 c15)
              have c15z0 : (⟨#[48, 49, 50, 51, 52, 53, 54, 55, 56, 57]⟩ : ByteArray).size = 10 := rfl
              have c15b3 := c15
              try simp only [ByteArray.size_extract, ByteArray.size_append, c15z0] at c15b3
              have c15b4 := eq_false (Nat.not_lt.2 c15b3)
              obtain rfl := Option.some.inj H
              go_enter Tryd.func65, Tryd.ntmps65
              try go_wp2
              have n0_ := Aside0.mk (below_drew1 HB.out)
              clear HB
              have HB := n0_
              clear n0_
              refine start_ (n := 11) (S := fun w' => True) (ds := []) #[false, false, false, false, false, false, false, false, false, false, false] (by kernel_rfl) rfl rfl trivial (fun hHeld => ?_); refine Gi Cf.tab5 Cf.bits5 (fun HT_ HW_ => ?_)
              generalize w.drew = w16 at HB hHeld ⊢
              refine pure_ (i := 0) (N := some 15) (v := ?_) (a' := ?_) #[true, false, false, false, false, false, false, false, false, false, false] rfl rfl (Cj HT_.out (by kernel_rfl)) (fun _ _ _ h => h) (Or.inl ⟨by rfl, ?_⟩) ?_ ?_
              rotate_left
              · intro w'
                go_simp
                first | with_reducible rfl | (rw [if_neg (by omega)]; try with_reducible rfl)
              rotate_left
              · simp only [Act.put, List.setIfInBounds_toArray, List.set_cons_zero, List.set_cons_succ, i64_w, i32_w]
                rfl
              refine pure_ (i := 1) (N := some 16) (v := ?_) (a' := ?_) #[true, true, false, false, false, false, false, false, false, false, false] rfl rfl (Cj HT_.out (by kernel_rfl)) (fun _ _ _ h => h) (Or.inl ⟨by rfl, ?_⟩) ?_ ?_
              rotate_left
              · intro w'
                go_simp
                first | with_reducible rfl | (rw [if_neg (by omega)]; try with_reducible rfl)
              rotate_left
              · simp only [Act.put, List.setIfInBounds_toArray, List.set_cons_zero, List.set_cons_succ, i64_w, i32_w]
                rfl
              refine pure_ (i := 3) (N := some 18) (v := ?_) (a' := ?_) #[true, true, false, true, false, false, false, false, false, false, false] rfl rfl (Cj HT_.out (by kernel_rfl)) (fun _ _ _ h => h) (Or.inl ⟨by rfl, ?_⟩) ?_ ?_
              rotate_left
              · intro w'
                go_simp
                first | with_reducible rfl | (rw [if_neg (by omega)]; try with_reducible rfl)
              rotate_left
              · simp only [Act.put, List.setIfInBounds_toArray, List.set_cons_zero, List.set_cons_succ, i64_w, i32_w]
                rfl
              refine pure_ (i := 4) (N := some 19) (v := ?_) (a' := ?_) #[true, true, false, true, true, false, false, false, false, false, false] rfl rfl (Cj HT_.out (by kernel_rfl)) (fun _ _ _ h => h) (Or.inl ⟨by rfl, ?_⟩) ?_ ?_
              rotate_left
              · intro w'
                go_simp
                first | with_reducible rfl | (rw [if_neg (by omega)]; try with_reducible rfl)
              rotate_left
              · simp only [Act.put, List.setIfInBounds_toArray, List.set_cons_zero, List.set_cons_succ, i64_w, i32_w]
                rfl
              refine pure_ (i := 5) (N := some 20) (v := ?_) (a' := ?_) #[true, true, false, true, true, true, false, false, false, false, false] rfl rfl (Cj HT_.out (by kernel_rfl)) (fun _ _ _ h => h) (Or.inl ⟨by rfl, ?_⟩) ?_ ?_
              rotate_left
              · intro w'
                go_simp
                first | with_reducible rfl | (rw [if_neg (by omega)]; try with_reducible rfl)
              rotate_left
              · simp only [Act.put, List.setIfInBounds_toArray, List.set_cons_zero, List.set_cons_succ, i64_w, i32_w]
                rfl
              refine pure_ (i := 6) (N := some 21) (v := ?_) (a' := ?_) #[true, true, false, true, true, true, true, false, false, false, false] rfl rfl (Cj HT_.out (by kernel_rfl)) (fun _ _ _ h => h) (Or.inl ⟨by rfl, ?_⟩) ?_ ?_
              rotate_left
              · intro w'
                go_simp
                first | with_reducible rfl | (rw [if_neg (by omega)]; try with_reducible rfl)
              rotate_left
              · simp only [Act.put, List.setIfInBounds_toArray, List.set_cons_zero, List.set_cons_succ, i64_w, i32_w]
                rfl
              refine pure_ (i := 7) (N := some 22) (v := ?_) (a' := ?_) #[true, true, false, true, true, true, true, true, false, false, false] rfl rfl (Cj HT_.out (by kernel_rfl)) (fun _ _ _ h => h) (Or.inl ⟨by rfl, ?_⟩) ?_ ?_
              rotate_left
              · intro w'
                go_simp
                first | with_reducible rfl | (rw [if_neg (by omega)]; try with_reducible rfl)
              rotate_left
              · simp only [Act.put, List.setIfInBounds_toArray, List.set_cons_zero, List.set_cons_succ, i64_w, i32_w]
                rfl
              refine pure_ (i := 8) (N := some 23) (v := ?_) (a' := ?_) #[true, true, false, true, true, true, true, true, true, false, false] rfl rfl (Cj HT_.out (by kernel_rfl)) (fun _ _ _ h => h) (Or.inl ⟨by rfl, ?_⟩) ?_ ?_
              rotate_left
              · intro w'
                go_simp
                first | with_reducible rfl | (rw [if_neg (by omega)]; try with_reducible rfl)
              rotate_left
              · simp only [Act.put, List.setIfInBounds_toArray, List.set_cons_zero, List.set_cons_succ, i64_w, i32_w]
                rfl
              refine one_ (i := 2) (N := some 17) #[true, true, true, true, true, true, true, true, true, false, false] rfl rfl (Fp HT_.out (by kernel_rfl)) (by decide) (fun K hK => ?_)
              refine goes_ Tryd.func65 (by kernel_rfl) rfl #[.int .i64 (wrap64 (Int.tdiv a0 10))] (by rfl) rfl rfl Yc_ ?_
              with_reducible refine (ih k (by omega) (wrap64 (Int.tdiv a0 10)) t108 _ A10.out).mono ?_
              rintro e w17 ⟨rfl, hb⟩
              refine ⟨_, rfl, ?_⟩
              have n0_ := Aside0.mk (below_step Ya_ hb)
              clear HB
              have HB := n0_
              clear n0_
              (try clear hb)
              (try clear hb2)
              (try clear hk)
              (try clear hi)
              refine hK.out _ _ trivial (fun hHeld => ?_)
              clear hK K
              refine norm_ (a' := ?_) ?_ ?_
              rotate_left
              · show Act.put _ (some 17) _ = _
                simp only [Act.put, List.setIfInBounds_toArray, List.set_cons_zero, List.set_cons_succ, i64_w, i32_w]
                rfl
              refine pure_ (i := 9) (N := some 24) (v := ?_) (a' := ?_) #[true, true, true, true, true, true, true, true, true, true, false] rfl rfl (Cj HT_.out (by kernel_rfl)) (fun _ _ _ h => h) (Or.inl ⟨by rfl, ?_⟩) ?_ ?_
              rotate_left
              · intro w'
                go_simp
                first | with_reducible rfl | (rw [if_neg (by omega)]; try with_reducible rfl)
              rotate_left
              · simp only [Act.put, List.setIfInBounds_toArray, List.set_cons_zero, List.set_cons_succ, i64_w, i32_w]
                rfl
              refine pure_ (i := 10) (N := some 2) (v := ?_) (a' := ?_) #[true, true, true, true, true, true, true, true, true, true, true] rfl rfl (Cj HT_.out (by kernel_rfl)) (fun _ _ _ h => h) (Or.inl ⟨by rfl, ?_⟩) ?_ ?_
              rotate_left
              · intro w'
                go_simp
                first | with_reducible rfl | (rw [if_neg (by omega)]; try with_reducible rfl)
              rotate_left
              · simp only [Act.put, List.setIfInBounds_toArray, List.set_cons_zero, List.set_cons_succ, i64_w, i32_w]
                rfl
              refine done_ (G5 HT_.out (by kernel_rfl)) ?_
              try go_wp2
              go_ret
              exact ⟨by first | rfl | (simp [Af, Ag] <;> rfl) | (simp only [← hji11]; first | rfl | (simp [Af, Ag] <;> rfl)) | (simp [*, Af, Ag] <;> rfl), by repeat (first | (with_reducible first | exact HB.out | apply below_alloc | apply pw_below_drewN | apply below_drew1) | exact HB.out)⟩
            · rw [if_neg c15] at H
              exact absurd H (by simp)
          · rw [if_neg c14] at H
            exact absurd H (by simp)
        · rw [if_neg c13] at H
          exact absurd H (by simp)
      · rw [if_neg c12] at H
        exact absurd H (by simp)
end Go.Proofs.YtkpieljmhgfofaaDoor.X

namespace Go.Proofs.YtkpieljmhgfofaaDoor.X
open Go.RowKit Go.Proofs.YtkpieljmhgfofaaDoorW.PrintWords Go.Proofs.YtkpieljmhgfofaaDoorW.PrintLast Go.Proofs.YtkpieljmhgfofaaDoorW.PrintMore
attribute [local go_sem] max2_int min2_int max_two min_two max_three min_three max_four min_four
open Go.Proofs.YtkpieljmhgfofaaDoorG
def Dz.l0 : Nat → ByteArray → Int → Int → Option (Int)
  | 0, _, _, _ => none
  | k + 1, x0, x3, x4 => if x4 < (x0.size : Int) then (if 0 ≤ x4 then (Dz.l0 k x0 (Int.tmod (wrap64 ((wrap64 ((wrap64 (41 * x3)) + (wrap64 (bt x0 x4)))) + 1)) 999979) (wrap64 (x4 + 1))) else (none)) else (some x3)
def Dz.f (k : Nat) (a0 : ByteArray) : Option (Int) := Dz.l0 k a0 7 0
theorem Dz.Ec : ∀ k, (∀ y0 y1 y2, LeO (Dz.l0 k y0 y1 y2) (Dz.l0 (k + 1) y0 y1 y2))
  | 0 => fun _ _ _ r h => by simp [Dz.l0] at h
  | k + 1 => by
    have ih0 := Dz.Ec k
    · intro y0 y1 y2
      unfold Dz.l0
      repeat' first
      | (with_reducible exact ih0 _ _ _)
      | (with_reducible exact LeO.refl _)
      | (with_reducible exact LeO.none _)
      | (with_reducible refine LeO.ite ?_ ?_)
      | (with_reducible refine LeO.bind ?_ (fun _ => ?_))
      | exact ih0 _ _ _
      | exact LeO.none _
      | refine LeO.ite ?_ ?_
      | refine LeO.bind ?_ (fun _ => ?_)
theorem Dz.mono : ∀ a0 k, LeO (Dz.f k a0) (Dz.f (k + 1) a0) := by
  intro a0 k
  have ih0 := Dz.Ec k
  unfold Dz.f
  repeat' first
      | (with_reducible exact ih0 _ _ _)
      | (with_reducible exact LeO.refl _)
      | (with_reducible exact LeO.none _)
      | (with_reducible refine LeO.ite ?_ ?_)
      | (with_reducible refine LeO.bind ?_ (fun _ => ?_))
      | exact ih0 _ _ _
      | exact LeO.none _
      | refine LeO.ite ?_ ?_
      | refine LeO.bind ?_ (fun _ => ?_)
set_option maxHeartbeats 8000000 in
set_option maxRecDepth 100000 in
theorem Dz.calls (k : Nat) (a0 : ByteArray) (r : Int) (w : World) (h : Dz.f k a0 = some r) :
    Calls Tryd.prog 74 #[.string a0] w fun e w' => e = .returned (.int .i64 r) ∧ Cc w w' := by
  have H : (Dz.l0 k a0 7 0) = some r := h
  clear h
  have H' := Aside0.mk H
  clear H
  go_enter Tryd.func74, Tryd.ntmps74
  go_wp2
  go_loopg [3, 4] k (fun kq v3 v4 w' => ∃ (x3_1 : Int) (x4_1 : Int), v3 = .int .i64 x3_1 ∧ v4 = .int .i64 x4_1 ∧ Aside0 (Dz.l0 kq a0 x3_1 x4_1 = some r) ∧ Aside0 (kq ≤ k) ∧ Cc w w')
  case atStart => exact ⟨(7), (0), Ybg_, Ybg_, H', ⟨Nat.le_refl _⟩, by repeat (first | exact Cc.refl _ | apply Cc.step)⟩
  case round =>
    clear H'
    obtain ⟨x3_1, x4_1, rfl, rfl, HA, HK1, ⟨m1, rfl⟩⟩ := hrel
    cases gk with
    | zero => exact absurd HA.out (by simp [Dz.l0])
    | succ k1 =>
      have H := HA.out
      clear HA
      simp only [Dz.l0] at H
      by_cases c2 : x4_1 < (a0.size : Int)
      · rw [if_pos c2] at H
        have c2b0 : decide (x4_1 < (a0.size : Int)) = true := decide_eq_true c2
        clear c2
        by_cases c3 : 0 ≤ x4_1
        · rw [if_pos c3] at H
          have c3b0 : decide (0 ≤ x4_1) = true := decide_eq_true c3
          clear c3
          have H' := Aside0.mk H
          clear H
          have p4 : 0 ≤ (x4_1 : Int) := of_decide_eq_true Yba_
          have q4 : x4_1 < (a0.size : Int) := of_decide_eq_true Yba_
          have hx4 := bt_at a0 x4_1
          replace p4 := eq_true p4
          replace q4 := eq_true q4
          go_wp2
          go_roundg k1
          case measure => have := HK1.out; omega
          case rel => exact ⟨(Int.tmod (wrap64 ((wrap64 ((wrap64 (41 * x3_1)) + (wrap64 (bt a0 x4_1)))) + 1)) 999979), (wrap64 (x4_1 + 1)), Ybg_, Ybg_, H', ⟨by have := HK1.out; omega⟩, by repeat (first | exact Cc.refl _ | apply Cc.step)⟩
        · rw [if_neg c3] at H
          exact absurd H (by simp)
      · rw [if_neg c2] at H
        have c2b0 : decide (x4_1 < (a0.size : Int)) = false := decide_eq_false c2
        clear c2
        obtain rfl := Option.some.inj H
        go_wp2
        go_ret
        exact ⟨by first | rfl | (simp; done) | (simp [*]; done), by repeat (first | exact Cc.refl _ | apply Cc.step)⟩
end Go.Proofs.YtkpieljmhgfofaaDoor.X

namespace Go.Proofs.YtkpieljmhgfofaaDoor.X
open Go.RowKit Go.Proofs.YtkpieljmhgfofaaDoorW.PrintWords Go.Proofs.YtkpieljmhgfofaaDoorW.PrintLast Go.Proofs.YtkpieljmhgfofaaDoorW.PrintMore
attribute [local go_sem] max2_int min2_int max_two min_two max_three min_three max_four min_four
open Go.Proofs.YtkpieljmhgfofaaDoorG
def Ew.f (k : Nat) (a0 : ByteArray) : Option (ByteArray) := if a0.size + 1 ≤ 9223372036854775807 then ((Dz.f k a0).bind fun t109 => ((Cf.f k t109).bind fun t110 => (if (a0 ++ (⟨#[35]⟩ : ByteArray)).size + t110.size ≤ 9223372036854775807 then (some ((a0 ++ (⟨#[35]⟩ : ByteArray)) ++ t110)) else (none)))) else (none)
theorem Ew.mono : ∀ a0 k, LeO (Ew.f k a0) (Ew.f (k + 1) a0) := by
  intro a0 k
  unfold Ew.f
  repeat' first
      | (with_reducible exact Cf.mono _ _)
      | (with_reducible exact Dz.mono _ _)
      | (with_reducible exact LeO.refl _)
      | (with_reducible exact LeO.none _)
      | (with_reducible refine LeO.ite ?_ ?_)
      | (with_reducible refine LeO.bind ?_ (fun _ => ?_))
      | exact Cf.mono _ _
      | exact Dz.mono _ _
      | exact LeO.none _
      | refine LeO.ite ?_ ?_
      | refine LeO.bind ?_ (fun _ => ?_)
set_option maxHeartbeats 8000000 in
set_option maxRecDepth 100000 in
theorem Ew.calls (k : Nat) (a0 : ByteArray) (r : ByteArray) (w : World) (h : Ew.f k a0 = some r) :
    Calls Tryd.prog 64 #[.string a0] w fun e w' => e = .returned (.string r) ∧ Below w.heap.size w w' := by
  have HB := Aside0.mk (Below.refl w.heap.size w)
  have H : (if a0.size + 1 ≤ 9223372036854775807 then ((Dz.f k a0).bind fun t109 => ((Cf.f k t109).bind fun t110 => (if (a0 ++ (⟨#[35]⟩ : ByteArray)).size + t110.size ≤ 9223372036854775807 then (some ((a0 ++ (⟨#[35]⟩ : ByteArray)) ++ t110)) else (none)))) else (none)) = some r := h
  clear h
  by_cases c2 : a0.size + 1 ≤ 9223372036854775807
  · rw [if_pos c2] at H
    have c2b0 := eq_true c2
    have c2b1 : decide (a0.size + 1 ≤ 9223372036854775807) = true := decide_eq_true c2
    try have c2b2 : (9223372036854775807 < a0.size + 1) = False := eq_false (Nat.not_lt.2 c2)
    replace H := Option.bind_eq_some_iff.mp H
    obtain ⟨t109, A30, H⟩ := H
    replace H : ((Cf.f k t109).bind fun t110 => (if (a0 ++ (⟨#[35]⟩ : ByteArray)).size + t110.size ≤ 9223372036854775807 then (some ((a0 ++ (⟨#[35]⟩ : ByteArray)) ++ t110)) else (none))) = some r := H
    have A3 := Aside0.mk A30
    clear A30
    replace H := Option.bind_eq_some_iff.mp H
    obtain ⟨t110, A40, H⟩ := H
    replace H : (if (a0 ++ (⟨#[35]⟩ : ByteArray)).size + t110.size ≤ 9223372036854775807 then (some ((a0 ++ (⟨#[35]⟩ : ByteArray)) ++ t110)) else (none)) = some r := H
    have A4 := Aside0.mk A40
    clear A40
    by_cases c5 : (a0 ++ (⟨#[35]⟩ : ByteArray)).size + t110.size ≤ 9223372036854775807
    · rw [if_pos c5] at H
      have c5b0 := eq_true c5
      have c5b1 : decide ((a0 ++ (⟨#[35]⟩ : ByteArray)).size + t110.size ≤ 9223372036854775807) = true := decide_eq_true c5
      try have c5b2 : (9223372036854775807 < (a0 ++ (⟨#[35]⟩ : ByteArray)).size + t110.size) = False := eq_false (Nat.not_lt.2 c5)
      have c5z0 : (⟨#[35]⟩ : ByteArray).size = 1 := rfl
      have c5b3 := c5
      try simp only [ByteArray.size_extract, ByteArray.size_append, c5z0] at c5b3
      have c5b4 := eq_false (Nat.not_lt.2 c5b3)
      obtain rfl := Option.some.inj H
      go_enter Tryd.func64, Tryd.ntmps64
      go_wp2_with (first | ((with_reducible refine gate_callee (f := 74) rfl ?_); refine goesL_ (some 6) rfl rfl Tryd.func74 (by kernel_rfl) rfl #[.string a0] rfl Yc_ ?_; (with_reducible refine (Dz.calls k a0 t109 _ A3.out).mono ?_); rintro e w' ⟨rfl, ⟨nd, rfl⟩⟩; refine ⟨_, rfl, ?_⟩) | ((with_reducible refine gate_callee (f := 65) rfl ?_); refine goesL_ (some 7) rfl rfl Tryd.func65 (by kernel_rfl) rfl #[.int .i64 t109] rfl Yc_ ?_; (with_reducible refine (Cf.calls k t109 t110 _ A4.out).mono ?_); rintro e w6 ⟨rfl, hb⟩; refine ⟨_, rfl, ?_⟩; have n0_ := Aside0.mk (below_step Ya_ hb); clear HB; have HB := n0_; clear n0_; (try clear hb); (try clear hb2); (try clear hk); (try clear hi)))
      go_ret
      exact ⟨by first | rfl | (simp [Af, Ag] <;> rfl) | (simp [*, Af, Ag] <;> rfl), by repeat (first | (with_reducible first | exact HB.out | apply below_alloc | apply pw_below_drewN | apply below_drew1) | exact HB.out)⟩
    · rw [if_neg c5] at H
      exact absurd H (by simp)
  · rw [if_neg c2] at H
    exact absurd H (by simp)
end Go.Proofs.YtkpieljmhgfofaaDoor.X

namespace Go.Proofs.YtkpieljmhgfofaaDoor.X
open Go.RowKit Go.Proofs.YtkpieljmhgfofaaDoorW.PrintWords Go.Proofs.YtkpieljmhgfofaaDoorW.PrintLast Go.Proofs.YtkpieljmhgfofaaDoorW.PrintMore
attribute [local go_sem] max2_int min2_int max_two min_two max_three min_three max_four min_four
open Go.Proofs.YtkpieljmhgfofaaDoorG
def Bi.f (k : Nat) (a0 : Int) (a1_0 : ByteArray) (a1_1 : ByteArray) : Option (ByteArray) := (Cf.f k a0).bind fun t112 => (if t112.size + 1 ≤ 9223372036854775807 then (if (t112 ++ (⟨#[32]⟩ : ByteArray)).size + a1_0.size ≤ 9223372036854775807 then (if ((t112 ++ (⟨#[32]⟩ : ByteArray)) ++ a1_0).size + 1 ≤ 9223372036854775807 then (if (((t112 ++ (⟨#[32]⟩ : ByteArray)) ++ a1_0) ++ (⟨#[64]⟩ : ByteArray)).size + a1_1.size ≤ 9223372036854775807 then ((Ew.f k ((((t112 ++ (⟨#[32]⟩ : ByteArray)) ++ a1_0) ++ (⟨#[64]⟩ : ByteArray)) ++ a1_1)).bind fun t113 => (if t113.size + 1 ≤ 9223372036854775807 then (some (t113 ++ (⟨#[10]⟩ : ByteArray))) else (none))) else (none)) else (none)) else (none)) else (none))
theorem Bi.mono : ∀ a0 a1 a2 k, LeO (Bi.f k a0 a1 a2) (Bi.f (k + 1) a0 a1 a2) := by
  intro a0 a1 a2 k
  unfold Bi.f
  repeat' first
      | (with_reducible exact Cf.mono _ _)
      | (with_reducible exact Ew.mono _ _)
      | (with_reducible exact LeO.refl _)
      | (with_reducible exact LeO.none _)
      | (with_reducible refine LeO.ite ?_ ?_)
      | (with_reducible refine LeO.bind ?_ (fun _ => ?_))
      | exact Cf.mono _ _
      | exact Ew.mono _ _
      | exact LeO.none _
      | refine LeO.ite ?_ ?_
      | refine LeO.bind ?_ (fun _ => ?_)
def Bi.T1 : Bool × List (List Nat × List Nat) := (true, [([], []), ([0], [0]), ([1], [1]), ([], []), ([3], [3]), ([2, 4], [2, 4]), ([5], [5]), ([], []), ([7], [7]), ([6, 8], [6, 8]), ([9, 1], [9]), ([10], [10]), ([11, 10, 0, 1, 2, 3, 4, 5, 6, 7, 8, 9, 10, 11], [11])])
def Bi.B1 : List Nat := [0, 1, 3, 0, 8, 31, 63, 0, 128, 511, 1023, 2047, 4095]
theorem Bi.tab1 : rtab .any (opsOf Tryd.f44 1) = Bi.T1 := by kernel_rfl
theorem Bi.bits1 : Gm Bi.T1.2 Bi.B1 = true := by kernel_rfl
set_option maxHeartbeats 8000000 in
set_option maxRecDepth 100000 in
theorem Bi.calls (k : Nat) (a0 : Int) (a1_0 : ByteArray) (a1_1 : ByteArray) (r : ByteArray) (w : World) (h : Bi.f k a0 a1_0 a1_1 = some r) :
    Calls Tryd.prog 44 #[.int .i64 a0, .agg #[.string a1_0, .string a1_1]] w fun e w' => e = .returned (.string r) ∧ Below w.heap.size w w' := by
  have hu27 := Tryd.underlying27
  have HB := Aside0.mk (Below.refl w.heap.size w)
  have H : ((Cf.f k a0).bind fun t112 => (if t112.size + 1 ≤ 9223372036854775807 then (if (t112 ++ (⟨#[32]⟩ : ByteArray)).size + a1_0.size ≤ 9223372036854775807 then (if ((t112 ++ (⟨#[32]⟩ : ByteArray)) ++ a1_0).size + 1 ≤ 9223372036854775807 then (if (((t112 ++ (⟨#[32]⟩ : ByteArray)) ++ a1_0) ++ (⟨#[64]⟩ : ByteArray)).size + a1_1.size ≤ 9223372036854775807 then ((Ew.f k ((((t112 ++ (⟨#[32]⟩ : ByteArray)) ++ a1_0) ++ (⟨#[64]⟩ : ByteArray)) ++ a1_1)).bind fun t113 => (if t113.size + 1 ≤ 9223372036854775807 then (some (t113 ++ (⟨#[10]⟩ : ByteArray))) else (none))) else (none)) else (none)) else (none)) else (none))) = some r := h
  clear h
  replace H := Option.bind_eq_some_iff.mp H
  obtain ⟨t112, A30, H⟩ := H
  replace H : (if t112.size + 1 ≤ 9223372036854775807 then (if (t112 ++ (⟨#[32]⟩ : ByteArray)).size + a1_0.size ≤ 9223372036854775807 then (if ((t112 ++ (⟨#[32]⟩ : ByteArray)) ++ a1_0).size + 1 ≤ 9223372036854775807 then (if (((t112 ++ (⟨#[32]⟩ : ByteArray)) ++ a1_0) ++ (⟨#[64]⟩ : ByteArray)).size + a1_1.size ≤ 9223372036854775807 then ((Ew.f k ((((t112 ++ (⟨#[32]⟩ : ByteArray)) ++ a1_0) ++ (⟨#[64]⟩ : ByteArray)) ++ a1_1)).bind fun t113 => (if t113.size + 1 ≤ 9223372036854775807 then (some (t113 ++ (⟨#[10]⟩ : ByteArray))) else (none))) else (none)) else (none)) else (none)) else (none)) = some r := H
  have A3 := Aside0.mk A30
  clear A30
  by_cases c4 : t112.size + 1 ≤ 9223372036854775807
  · rw [if_pos c4] at H
    have c4b0 := eq_true c4
    have c4b1 : decide (t112.size + 1 ≤ 9223372036854775807) = true := decide_eq_true c4
    try have c4b2 : (9223372036854775807 < t112.size + 1) = False := eq_false (Nat.not_lt.2 c4)
    by_cases c5 : (t112 ++ (⟨#[32]⟩ : ByteArray)).size + a1_0.size ≤ 9223372036854775807
    · rw [if_pos c5] at H
      have c5b0 := eq_true c5
      have c5b1 : decide ((t112 ++ (⟨#[32]⟩ : ByteArray)).size + a1_0.size ≤ 9223372036854775807) = true := decide_eq_true c5
      try have c5b2 : (9223372036854775807 < (t112 ++ (⟨#[32]⟩ : ByteArray)).size + a1_0.size) = False := eq_false (Nat.not_lt.2 c5)
      have c5z0 : (⟨#[32]⟩ : ByteArray).size = 1 := rfl
      have c5b3 := c5
      try simp only [ByteArray.size_extract, ByteArray.size_append, c5z0] at c5b3
      have c5b4 := eq_false (Nat.not_lt.2 c5b3)
      by_cases c6 : ((t112 ++ (⟨#[32]⟩ : ByteArray)) ++ a1_0).size + 1 ≤ 9223372036854775807
      · rw [if_pos c6] at H
        have c6b0 := eq_true c6
        have c6b1 : decide (((t112 ++ (⟨#[32]⟩ : ByteArray)) ++ a1_0).size + 1 ≤ 9223372036854775807) = true := decide_eq_true c6
        try have c6b2 : (9223372036854775807 < ((t112 ++ (⟨#[32]⟩ : ByteArray)) ++ a1_0).size + 1) = False := eq_false (Nat.not_lt.2 c6)
        have c6z0 : (⟨#[32]⟩ : ByteArray).size = 1 := rfl
        have c6b3 := c6
        try simp only [ByteArray.size_extract, ByteArray.size_append, c6z0] at c6b3
        have c6b4 := eq_false (Nat.not_lt.2 c6b3)
        by_cases c7 : (((t112 ++ (⟨#[32]⟩ : ByteArray)) ++ a1_0) ++ (⟨#[64]⟩ : ByteArray)).size + a1_1.size ≤ 9223372036854775807
        · rw [if_pos c7] at H
          have c7b0 := eq_true c7
          have c7b1 : decide ((((t112 ++ (⟨#[32]⟩ : ByteArray)) ++ a1_0) ++ (⟨#[64]⟩ : ByteArray)).size + a1_1.size ≤ 9223372036854775807) = true := decide_eq_true c7
          try have c7b2 : (9223372036854775807 < (((t112 ++ (⟨#[32]⟩ : ByteArray)) ++ a1_0) ++ (⟨#[64]⟩ : ByteArray)).size + a1_1.size) = False := eq_false (Nat.not_lt.2 c7)
          have c7z0 : (⟨#[32]⟩ : ByteArray).size = 1 := rfl
          have c7z1 : (⟨#[64]⟩ : ByteArray).size = 1 := rfl
          have c7b3 := c7
          try simp only [ByteArray.size_extract, ByteArray.size_append, c7z0, c7z1] at c7b3
          have c7b4 := eq_false (Nat.not_lt.2 c7b3)
          replace H := Option.bind_eq_some_iff.mp H
          obtain ⟨t113, A80, H⟩ := H
          replace H : (if t113.size + 1 ≤ 9223372036854775807 then (some (t113 ++ (⟨#[10]⟩ : ByteArray))) else (none)) = some r := H
          have A8 := Aside0.mk A80
          clear A80
          by_cases c9 : t113.size + 1 ≤ 9223372036854775807
          · rw [if_pos c9] at H
            have c9b0 := eq_true c9
            have c9b1 : decide (t113.size + 1 ≤ 9223372036854775807) = true := decide_eq_true c9
            try have c9b2 : (9223372036854775807 < t113.size + 1) = False := eq_false (Nat.not_lt.2 c9)
            obtain rfl := Option.some.inj H
            go_enter Tryd.func44, Tryd.ntmps44
            try go_wp2_with (first | ((with_reducible refine gate_dst (N := 3) rfl ?_); refine box_event ?hg (N := 3) ?hd (cs := #[.string a1_0, .string a1_1]) (t := 27) ?hr ?_; (case hd => rfl); (case hg => rfl); (case hr => first | (go_simp; done) | (go_simp; rfl)); intro gb0 hg w10 hbox hb; have n0_ := Aside0.mk (below_step Ya_ hb); have n1_ := Aside0.mk (hbox); have n2_ := Aside0.mk ((by rw [hg]; exact (below_size Ya_) : w.heap.size ≤ gb0)); have n3_ := Aside0.mk ((by rw [hg]; exact (below_size Ya_) : w.heap.size ≤ gb0)); clear HB; have HB := n0_; have BK0 := n1_; have GW0 := n2_; have GE0 := n3_; clear n0_ n1_ n2_ n3_; clear hb hbox hg))
            have n0_ := Aside0.mk (blk_drew BK0.out)
            have n1_ := Aside0.mk (below_drew1 HB.out)
            clear BK0
            clear HB
            have BK0 := n0_
            have HB := n1_
            clear n0_ n1_
            refine start_ (n := 13) (S := fun w' => w'.cell? ⟨gb0, 0, none⟩ = some (.string a1_0) ∧ w'.cell? ⟨gb0, 1, none⟩ = some (.string a1_1)) (ds := []) #[false, false, false, false, false, false, false, false, false, false, false, false, false] (by kernel_rfl) rfl rfl ⟨(blk_cell BK0.out 0).trans rfl, (blk_cell BK0.out 1).trans rfl⟩ (fun hHeld => ?_); refine Gi Bi.tab1 Bi.bits1 (fun HT_ HW_ => ?_)
            generalize w10.drew = w11 at BK0 HB hHeld ⊢
            refine pure_ (i := 0) (N := some 5) (v := ?_) (a' := ?_) #[true, false, false, false, false, false, false, false, false, false, false, false, false] rfl rfl (Cj HT_.out (by kernel_rfl)) (fun _ _ _ h => h) (Or.inl ⟨by rfl, ?_⟩) ?_ ?_
            rotate_left
            · intro w'
              go_simp
              first | with_reducible rfl | (rw [if_neg (by omega)]; try with_reducible rfl)
            rotate_left
            · simp only [Act.put, List.setIfInBounds_toArray, List.set_cons_zero, List.set_cons_succ, i64_w, i32_w]
              rfl
            refine pure_ (i := 3) (N := some 8) (v := ?_) (a' := ?_) #[true, false, false, true, false, false, false, false, false, false, false, false, false] rfl rfl (Cj HT_.out (by kernel_rfl)) (fun _ _ _ h => h) (Or.inl ⟨by rfl, ?_⟩) ?_ ?_
            rotate_left
            · intro w'
              go_simp
              first | with_reducible rfl | (rw [if_neg (by omega)]; try with_reducible rfl)
            rotate_left
            · simp only [Act.put, List.setIfInBounds_toArray, List.set_cons_zero, List.set_cons_succ, i64_w, i32_w]
              rfl
            refine pure_ (i := 7) (N := some 12) (v := ?_) (a' := ?_) #[true, false, false, true, false, false, false, true, false, false, false, false, false] rfl rfl (Cj HT_.out (by kernel_rfl)) (fun _ _ _ h => h) (Or.inl ⟨by rfl, ?_⟩) ?_ ?_
            rotate_left
            · intro w'
              go_simp
              first | with_reducible rfl | (rw [if_neg (by omega)]; try with_reducible rfl)
            rotate_left
            · simp only [Act.put, List.setIfInBounds_toArray, List.set_cons_zero, List.set_cons_succ, i64_w, i32_w]
              rfl
            refine take_ (i := 4) (N := some 9) (v := ?_) (a' := ?_) #[true, false, false, true, true, false, false, true, false, false, false, false, false] rfl rfl (Et HT_.out HW_.out (by kernel_rfl)) (fun _ _ _ h => h) (Or.inl ⟨by rfl, ?_⟩) hHeld ?_ ?_
            rotate_left
            · rintro w' ⟨s0, s1⟩
              go_simp
              first | with_reducible rfl | (rw [if_neg (by omega)]; try with_reducible rfl)
            rotate_left
            · simp only [Act.put, List.setIfInBounds_toArray, List.set_cons_zero, List.set_cons_succ, i64_w, i32_w]
              rfl
            refine take_ (i := 8) (N := some 13) (v := ?_) (a' := ?_) #[true, false, false, true, true, false, false, true, true, false, false, false, false] rfl rfl (Et HT_.out HW_.out (by kernel_rfl)) (fun _ _ _ h => h) (Or.inl ⟨by rfl, ?_⟩) hHeld ?_ ?_
            rotate_left
            · rintro w' ⟨s0, s1⟩
              go_simp
              first | with_reducible rfl | (rw [if_neg (by omega)]; try with_reducible rfl)
            rotate_left
            · simp only [Act.put, List.setIfInBounds_toArray, List.set_cons_zero, List.set_cons_succ, i64_w, i32_w]
              rfl
            refine one_ (i := 1) (N := some 6) #[true, true, false, true, true, false, false, true, true, false, false, false, false] rfl rfl (Fp HT_.out (by kernel_rfl)) (by decide) (fun K hK => ?_)
            refine goes_ Tryd.func65 (by kernel_rfl) rfl #[.int .i64 a0] (by rfl) rfl rfl Yc_ ?_
            with_reducible refine (Cf.calls k a0 t112 _ A3.out).mono ?_
            rintro e w12 ⟨rfl, hb⟩
            refine ⟨_, rfl, ?_⟩
            have n0_ := Aside0.mk (blk_below (g := gb0) (o := .cells #[.string a1_0, .string a1_1] 27 (0, 0)) Yd_ hb)
            have n1_ := Aside0.mk (below_step Yb_ hb)
            clear BK0
            clear HB
            have BK0 := n0_
            have HB := n1_
            clear n0_ n1_
            (try clear hb)
            (try clear hb2)
            (try clear hk)
            (try clear hi)
            refine hK.out _ _ ⟨(blk_cell BK0.out 0).trans rfl, (blk_cell BK0.out 1).trans rfl⟩ (fun hHeld => ?_)
            clear hK K
            refine norm_ (a' := ?_) ?_ ?_
            rotate_left
            · show Act.put _ (some 6) _ = _
              simp only [Act.put, List.setIfInBounds_toArray, List.set_cons_zero, List.set_cons_succ, i64_w, i32_w]
              rfl
            refine pure_ (i := 2) (N := some 7) (v := ?_) (a' := ?_) #[true, true, true, true, true, false, false, true, true, false, false, false, false] rfl rfl (Cj HT_.out (by kernel_rfl)) (fun _ _ _ h => h) (Or.inl ⟨by rfl, ?_⟩) ?_ ?_
            rotate_left
            · intro w'
              go_simp
              first | with_reducible rfl | (rw [if_neg (by omega)]; try with_reducible rfl)
            rotate_left
            · simp only [Act.put, List.setIfInBounds_toArray, List.set_cons_zero, List.set_cons_succ, i64_w, i32_w]
              rfl
            refine pure_ (i := 5) (N := some 10) (v := ?_) (a' := ?_) #[true, true, true, true, true, true, false, true, true, false, false, false, false] rfl rfl (Cj HT_.out (by kernel_rfl)) (fun _ _ _ h => h) (Or.inl ⟨by rfl, ?_⟩) ?_ ?_
            rotate_left
            · intro w'
              go_simp
              first | with_reducible rfl | (rw [if_neg (by omega)]; try with_reducible rfl)
            rotate_left
            · simp only [Act.put, List.setIfInBounds_toArray, List.set_cons_zero, List.set_cons_succ, i64_w, i32_w]
              rfl
            refine pure_ (i := 6) (N := some 11) (v := ?_) (a' := ?_) #[true, true, true, true, true, true, true, true, true, false, false, false, false] rfl rfl (Cj HT_.out (by kernel_rfl)) (fun _ _ _ h => h) (Or.inl ⟨by rfl, ?_⟩) ?_ ?_
            rotate_left
            · intro w'
              go_simp
              first | with_reducible rfl | (rw [if_neg (by omega)]; try with_reducible rfl)
            rotate_left
            · simp only [Act.put, List.setIfInBounds_toArray, List.set_cons_zero, List.set_cons_succ, i64_w, i32_w]
              rfl
            refine pure_ (i := 9) (N := some 14) (v := ?_) (a' := ?_) #[true, true, true, true, true, true, true, true, true, true, false, false, false] rfl rfl (Cj HT_.out (by kernel_rfl)) (fun _ _ _ h => h) (Or.inl ⟨by rfl, ?_⟩) ?_ ?_
            rotate_left
            · intro w'
              go_simp
              first | with_reducible rfl | (rw [if_neg (by omega)]; try with_reducible rfl)
            rotate_left
            · simp only [Act.put, List.setIfInBounds_toArray, List.set_cons_zero, List.set_cons_succ, i64_w, i32_w]
              rfl
            refine one_ (i := 10) (N := some 15) #[true, true, true, true, true, true, true, true, true, true, true, false, false] rfl rfl (Fp HT_.out (by kernel_rfl)) (by decide) (fun K hK => ?_)
            refine goes_ Tryd.func64 (by kernel_rfl) rfl #[.string ((((t112 ++ (⟨#[32]⟩ : ByteArray)) ++ a1_0) ++ (⟨#[64]⟩ : ByteArray)) ++ a1_1)] (by rfl) rfl rfl Yc_ ?_
            with_reducible refine (Ew.calls k ((((t112 ++ (⟨#[32]⟩ : ByteArray)) ++ a1_0) ++ (⟨#[64]⟩ : ByteArray)) ++ a1_1) t113 _ A8.out).mono ?_
            rintro e w13 ⟨rfl, hb⟩
            refine ⟨_, rfl, ?_⟩
            have n0_ := Aside0.mk (blk_below (g := gb0) (o := .cells #[.string a1_0, .string a1_1] 27 (0, 0)) Yd_ hb)
            have n1_ := Aside0.mk (below_step Yb_ hb)
            clear BK0
            clear HB
            have BK0 := n0_
            have HB := n1_
            clear n0_ n1_
            (try clear hb)
            (try clear hb2)
            (try clear hk)
            (try clear hi)
            refine hK.out _ _ ⟨(blk_cell BK0.out 0).trans rfl, (blk_cell BK0.out 1).trans rfl⟩ (fun hHeld => ?_)
            clear hK K
            refine norm_ (a' := ?_) ?_ ?_
            rotate_left
            · show Act.put _ (some 15) _ = _
              simp only [Act.put, List.setIfInBounds_toArray, List.set_cons_zero, List.set_cons_succ, i64_w, i32_w]
              rfl
            refine pure_ (i := 11) (N := some 16) (v := ?_) (a' := ?_) #[true, true, true, true, true, true, true, true, true, true, true, true, false] rfl rfl (Cj HT_.out (by kernel_rfl)) (fun _ _ _ h => h) (Or.inl ⟨by rfl, ?_⟩) ?_ ?_
            rotate_left
            · intro w'
              go_simp
              first | with_reducible rfl | (rw [if_neg (by omega)]; try with_reducible rfl)
            rotate_left
            · simp only [Act.put, List.setIfInBounds_toArray, List.set_cons_zero, List.set_cons_succ, i64_w, i32_w]
              rfl
            refine pure_ (i := 12) (N := some 4) (v := ?_) (a' := ?_) #[true, true, true, true, true, true, true, true, true, true, true, true, true] rfl rfl (Cj HT_.out (by kernel_rfl)) (fun _ _ _ h => h) (Or.inl ⟨by rfl, ?_⟩) ?_ ?_
            rotate_left
            · intro w'
              go_simp
              first | with_reducible rfl | (rw [if_neg (by omega)]; try with_reducible rfl)
            rotate_left
            · simp only [Act.put, List.setIfInBounds_toArray, List.set_cons_zero, List.set_cons_succ, i64_w, i32_w]
              rfl
            refine done_ (G5 HT_.out (by kernel_rfl)) ?_
            try go_wp2
            go_ret
            exact ⟨by first | rfl | (simp [Af, Ag] <;> rfl) | (simp [*, Af, Ag] <;> rfl), by repeat (first | (with_reducible first | exact HB.out | apply below_alloc | apply pw_below_drewN | apply below_drew1 | refine below_set ?_ GE0.out) | exact HB.out)⟩
          · rw [if_neg c9] at H
            exact absurd H (by simp)
        · rw [if_neg c7] at H
          exact absurd H (by simp)
      · rw [if_neg c6] at H
        exact absurd H (by simp)
    · rw [if_neg c5] at H
      exact absurd H (by simp)
  · rw [if_neg c4] at H
    exact absurd H (by simp)
end Go.Proofs.YtkpieljmhgfofaaDoor.X

namespace Go.Proofs.YtkpieljmhgfofaaDoor.X
open Go.RowKit Go.Proofs.YtkpieljmhgfofaaDoorW.PrintWords Go.Proofs.YtkpieljmhgfofaaDoorW.PrintLast Go.Proofs.YtkpieljmhgfofaaDoorW.PrintMore
attribute [local go_sem] max2_int min2_int max_two min_two max_three min_three max_four min_four
open Go.Proofs.YtkpieljmhgfofaaDoorG
def Bj.j0 : Nat → ByteArray → Int → ByteArray → ByteArray → Bool → Option (ByteArray × ByteArray × Bool)
  | 0, _, _, _, _, _ => none
  | k + 1, x0, x1, x6, x7, x30 => if x30 = true then (some ((⟨#[]⟩ : ByteArray), (⟨#[]⟩ : ByteArray), false)) else (if 0 ≤ (x6.size : Int) then (if (x6.size : Int) ≤ (x7.size : Int) then ((Bl.f k (x7.extract ((x6.size : Int) : Int).toNat x7.size) 64).bind fun t188 => (if 0 < (t188.length : Int) then (if ((Bf ByteArray.empty t188 0).size : Int) = ((x7.extract ((x6.size : Int) : Int).toNat x7.size).size : Int) then (some ((⟨#[]⟩ : ByteArray), (⟨#[]⟩ : ByteArray), false)) else (if 0 ≤ (wrap64 (((Bf ByteArray.empty t188 0).size : Int) + 1)) then (if (wrap64 (((Bf ByteArray.empty t188 0).size : Int) + 1)) ≤ ((x7.extract ((x6.size : Int) : Int).toNat x7.size).size : Int) then ((Df.f k (Bf ByteArray.empty t188 0) ((x7.extract ((x6.size : Int) : Int).toNat x7.size).extract ((wrap64 (((Bf ByteArray.empty t188 0).size : Int) + 1)) : Int).toNat (x7.extract ((x6.size : Int) : Int).toNat x7.size).size)).bind fun t193 => (if t193 = true then ((Bi.f k x1 (Bf ByteArray.empty t188 0) ((x7.extract ((x6.size : Int) : Int).toNat x7.size).extract ((wrap64 (((Bf ByteArray.empty t188 0).size : Int) + 1)) : Int).toNat (x7.extract ((x6.size : Int) : Int).toNat x7.size).size)).bind fun t194 => (if x0.size + 1 ≤ 9223372036854775807 then (some (Bf ByteArray.empty t188 0, (x7.extract ((x6.size : Int) : Int).toNat x7.size).extract ((wrap64 (((Bf ByteArray.empty t188 0).size : Int) + 1)) : Int).toNat (x7.extract ((x6.size : Int) : Int).toNat x7.size).size, (t194.toList == (x0 ++ (⟨#[10]⟩ : ByteArray)).toList))) else (none))) else (some (Bf ByteArray.empty t188 0, (x7.extract ((x6.size : Int) : Int).toNat x7.size).extract ((wrap64 (((Bf ByteArray.empty t188 0).size : Int) + 1)) : Int).toNat (x7.extract ((x6.size : Int) : Int).toNat x7.size).size, false)))) else (none)) else (none))) else (none))) else (none)) else (none))
def Bj.f (k : Nat) (a0 : ByteArray) (a1 : Int) : Option (ByteArray × ByteArray × Bool) := (Cf.f k a1).bind fun t183 => (if t183.size + 1 ≤ 9223372036854775807 then ((Bl.f k a0 35).bind fun t184 => (if 0 < (t184.length : Int) then (if ((Bf ByteArray.empty t184 0).size : Int) < ((t183 ++ (⟨#[32]⟩ : ByteArray)).size : Int) then (Bj.j0 k a0 a1 (t183 ++ (⟨#[32]⟩ : ByteArray)) (Bf ByteArray.empty t184 0) true) else (if 0 ≤ ((t183 ++ (⟨#[32]⟩ : ByteArray)).size : Int) then (if ((t183 ++ (⟨#[32]⟩ : ByteArray)).size : Int) ≤ ((Bf ByteArray.empty t184 0).size : Int) then (Bj.j0 k a0 a1 (t183 ++ (⟨#[32]⟩ : ByteArray)) (Bf ByteArray.empty t184 0) (((Bf ByteArray.empty t184 0).extract 0 (((t183 ++ (⟨#[32]⟩ : ByteArray)).size : Int) : Int).toNat).toList != (t183 ++ (⟨#[32]⟩ : ByteArray)).toList)) else (none)) else (none))) else (none))) else (none))
theorem Bj.Ec : ∀ k, (∀ y0 y1 y2 y3 y4, LeO (Bj.j0 k y0 y1 y2 y3 y4) (Bj.j0 (k + 1) y0 y1 y2 y3 y4))
  | 0 => fun _ _ _ _ _ r h => by simp [Bj.j0] at h
  | k + 1 => by
    have ih0 := Bj.Ec k
    · intro y0 y1 y2 y3 y4
      unfold Bj.j0
      repeat' first
      | (with_reducible exact ih0 _ _ _ _ _)
      | (with_reducible exact Cf.mono _ _)
      | (with_reducible exact Bl.mono _ _ _)
      | (with_reducible exact Df.mono _ _ _)
      | (with_reducible exact Bi.mono _ _ _ _)
      | (with_reducible exact LeO.refl _)
      | (with_reducible exact LeO.none _)
      | (with_reducible refine LeO.ite ?_ ?_)
      | (with_reducible refine LeO.bind ?_ (fun _ => ?_))
      | exact ih0 _ _ _ _ _
      | exact Cf.mono _ _
      | exact Bl.mono _ _ _
      | exact Df.mono _ _ _
      | exact Bi.mono _ _ _ _
      | exact LeO.none _
      | refine LeO.ite ?_ ?_
      | refine LeO.bind ?_ (fun _ => ?_)
theorem Bj.mono : ∀ a0 a1 k, LeO (Bj.f k a0 a1) (Bj.f (k + 1) a0 a1) := by
  intro a0 a1 k
  have ih0 := Bj.Ec k
  unfold Bj.f
  repeat' first
      | (with_reducible exact ih0 _ _ _ _ _)
      | (with_reducible exact Cf.mono _ _)
      | (with_reducible exact Bl.mono _ _ _)
      | (with_reducible exact Df.mono _ _ _)
      | (with_reducible exact Bi.mono _ _ _ _)
      | (with_reducible exact LeO.refl _)
      | (with_reducible exact LeO.none _)
      | (with_reducible refine LeO.ite ?_ ?_)
      | (with_reducible refine LeO.bind ?_ (fun _ => ?_))
      | exact ih0 _ _ _ _ _
      | exact Cf.mono _ _
      | exact Bl.mono _ _ _
      | exact Df.mono _ _ _
      | exact Bi.mono _ _ _ _
      | exact LeO.none _
      | refine LeO.ite ?_ ?_
      | refine LeO.bind ?_ (fun _ => ?_)
def Bj.T10 : Bool × List (List Nat × List Nat) := (true, [([], []), ([], []), ([1], [1]), ([2, 2], [2]), ([3], [3]), ([3], [3]), ([4, 5, 3, 3], [3, 4, 5]), ([3], [3]), ([7, 3], [3, 7]), ([6, 8, 3], [3, 6, 8]), ([3, 9], [3, 9]), ([0, 6, 0], [0]), ([10, 11, 0, 1, 2, 3, 4, 5, 6, 7, 8, 9, 10, 11], [10])])
def Bj.B10 : List Nat := [0, 0, 2, 6, 14, 14, 62, 14, 142, 510, 1022, 127, 4095]
theorem Bj.tab10 : rtab .any (opsOf Tryd.f69 10) = Bj.T10 := by kernel_rfl
theorem Bj.bits10 : Gm Bj.T10.2 Bj.B10 = true := by kernel_rfl
set_option maxHeartbeats 8000000 in
set_option maxRecDepth 100000 in
theorem Bj.calls (k : Nat) (a0 : ByteArray) (a1 : Int) (r1 : ByteArray) (r2 : ByteArray) (r3 : Bool) (w : World) (h : Bj.f k a0 a1 = some (r1, r2, r3)) :
    Calls Tryd.prog 69 #[.string a0, .int .i64 a1] w fun e w' => e = .returned (.tuple #[.agg #[.string r1, .string r2], .bool r3]) ∧ Below w.heap.size w w' := by
  have hu27 := Tryd.underlying27
  have HB := Aside0.mk (Below.refl w.heap.size w)
  have H : ((Cf.f k a1).bind fun t183 => (if t183.size + 1 ≤ 9223372036854775807 then ((Bl.f k a0 35).bind fun t184 => (if 0 < (t184.length : Int) then (if ((Bf ByteArray.empty t184 0).size : Int) < ((t183 ++ (⟨#[32]⟩ : ByteArray)).size : Int) then (Bj.j0 k a0 a1 (t183 ++ (⟨#[32]⟩ : ByteArray)) (Bf ByteArray.empty t184 0) true) else (if 0 ≤ ((t183 ++ (⟨#[32]⟩ : ByteArray)).size : Int) then (if ((t183 ++ (⟨#[32]⟩ : ByteArray)).size : Int) ≤ ((Bf ByteArray.empty t184 0).size : Int) then (Bj.j0 k a0 a1 (t183 ++ (⟨#[32]⟩ : ByteArray)) (Bf ByteArray.empty t184 0) (((Bf ByteArray.empty t184 0).extract 0 (((t183 ++ (⟨#[32]⟩ : ByteArray)).size : Int) : Int).toNat).toList != (t183 ++ (⟨#[32]⟩ : ByteArray)).toList)) else (none)) else (none))) else (none))) else (none))) = some (r1, r2, r3) := h
  clear h
  replace H := Option.bind_eq_some_iff.mp H
  obtain ⟨t183, A30, H⟩ := H
  replace H : (if t183.size + 1 ≤ 9223372036854775807 then ((Bl.f k a0 35).bind fun t184 => (if 0 < (t184.length : Int) then (if ((Bf ByteArray.empty t184 0).size : Int) < ((t183 ++ (⟨#[32]⟩ : ByteArray)).size : Int) then (Bj.j0 k a0 a1 (t183 ++ (⟨#[32]⟩ : ByteArray)) (Bf ByteArray.empty t184 0) true) else (if 0 ≤ ((t183 ++ (⟨#[32]⟩ : ByteArray)).size : Int) then (if ((t183 ++ (⟨#[32]⟩ : ByteArray)).size : Int) ≤ ((Bf ByteArray.empty t184 0).size : Int) then (Bj.j0 k a0 a1 (t183 ++ (⟨#[32]⟩ : ByteArray)) (Bf ByteArray.empty t184 0) (((Bf ByteArray.empty t184 0).extract 0 (((t183 ++ (⟨#[32]⟩ : ByteArray)).size : Int) : Int).toNat).toList != (t183 ++ (⟨#[32]⟩ : ByteArray)).toList)) else (none)) else (none))) else (none))) else (none)) = some (r1, r2, r3) := H
  have A3 := Aside0.mk A30
  clear A30
  by_cases c4 : t183.size + 1 ≤ 9223372036854775807
  · rw [if_pos c4] at H
    have c4b0 := eq_true c4
    have c4b1 : decide (t183.size + 1 ≤ 9223372036854775807) = true := decide_eq_true c4
    try have c4b2 : (9223372036854775807 < t183.size + 1) = False := eq_false (Nat.not_lt.2 c4)
    replace H := Option.bind_eq_some_iff.mp H
    obtain ⟨t184, A50, H⟩ := H
    replace H : (if 0 < (t184.length : Int) then (if ((Bf ByteArray.empty t184 0).size : Int) < ((t183 ++ (⟨#[32]⟩ : ByteArray)).size : Int) then (Bj.j0 k a0 a1 (t183 ++ (⟨#[32]⟩ : ByteArray)) (Bf ByteArray.empty t184 0) true) else (if 0 ≤ ((t183 ++ (⟨#[32]⟩ : ByteArray)).size : Int) then (if ((t183 ++ (⟨#[32]⟩ : ByteArray)).size : Int) ≤ ((Bf ByteArray.empty t184 0).size : Int) then (Bj.j0 k a0 a1 (t183 ++ (⟨#[32]⟩ : ByteArray)) (Bf ByteArray.empty t184 0) (((Bf ByteArray.empty t184 0).extract 0 (((t183 ++ (⟨#[32]⟩ : ByteArray)).size : Int) : Int).toNat).toList != (t183 ++ (⟨#[32]⟩ : ByteArray)).toList)) else (none)) else (none))) else (none)) = some (r1, r2, r3) := H
    have A5 := Aside0.mk A50
    clear A50
    by_cases c6 : 0 < (t184.length : Int)
    · rw [if_pos c6] at H
      have c6b0 : decide (0 < (t184.length : Int)) = true := decide_eq_true c6
      have c6b1 : decide (0 < t184.length) = true := decide_eq_true (by omega)
      clear c6
      have HC7 := Aside0.mk H
      clear H
      go_enter Tryd.func69, Tryd.ntmps69
      go_upto_region 3 with (first | ((with_reducible refine gate_dst (N := 4) rfl ?_); (try (refine gate_guard (by rfl) ?_; dsimp only)); refine box_event ?hg (N := 4) ?hd (cs := #[.string (⟨#[]⟩ : ByteArray), .string (⟨#[]⟩ : ByteArray)]) (t := 27) ?hr ?_; (case hd => rfl); (case hg => rfl); (case hr => first | (go_simp; done) | (go_simp; rfl)); intro gb0 hg w8 hbox hb; have n0_ := Aside0.mk (below_step Ya_ hb); have n1_ := Aside0.mk (hbox); have n2_ := Aside0.mk ((by rw [hg]; exact (below_size Ya_) : w.heap.size ≤ gb0)); have n3_ := Aside0.mk ((by rw [hg]; exact (below_size Ya_) : w.heap.size ≤ gb0)); clear HB; have HB := n0_; have BK0 := n1_; have GW0 := n2_; have GE0 := n3_; clear n0_ n1_ n2_ n3_; clear hb hbox hg) | ((with_reducible refine gate_callee (f := 65) rfl ?_); refine goesL_ (some 12) rfl rfl Tryd.func65 (by kernel_rfl) rfl #[.int .i64 a1] rfl Yc_ ?_; (with_reducible refine (Cf.calls k a1 t183 _ A3.out).mono ?_); rintro e w9 ⟨rfl, hb⟩; refine ⟨_, rfl, ?_⟩; have n0_ := Aside0.mk (blk_below (g := gb0) (o := .cells #[.string (⟨#[]⟩ : ByteArray), .string (⟨#[]⟩ : ByteArray)] 27 (0, 0)) Yd_ hb); have n1_ := Aside0.mk (below_step Yb_ hb); clear BK0; clear HB; have BK0 := n0_; have HB := n1_; clear n0_ n1_; (try clear hb); (try clear hb2); (try clear hk); (try clear hi)) | ((with_reducible refine gate_callee (f := 68) rfl ?_); refine goesL_ (some 15) rfl rfl Tryd.func68 (by kernel_rfl) rfl #[.string a0, .int .u8 35] rfl Yc_ ?_; (with_reducible refine (Bl.calls k a0 35 t184 _ A5.out).mono ?_); rintro e w10 ⟨v185, rfl, ho0, hb⟩; refine ⟨_, rfl, ?_⟩; have n0_ := Aside0.mk (Kd.D6 ho0 (below_size Yb_)); have n1_ := Aside0.mk (blk_below (g := gb0) (o := .cells #[.string (⟨#[]⟩ : ByteArray), .string (⟨#[]⟩ : ByteArray)] 27 (0, 0)) Yd_ hb); have n2_ := Aside0.mk (below_step Yb_ hb); clear BK0; clear HB; have HO186 := n0_; have BK0 := n1_; have HB := n2_; clear n0_ n1_ n2_; (try clear hb); (try clear hb2); (try clear hk); (try clear hi); (try clear ho0); obtain ⟨Ao11, co11, eo11⟩ := Kd.Eg HO186.out; subst eo11; have p187 : 0 ≤ (0 : Int) := (by omega); have q187 : 0 < (t184.length : Int) := of_decide_eq_true Yba_; obtain ⟨ad187, e187, hx187_0⟩ := Kd.Gv (Kd.Ei HO186.out).2.2 0 p187 q187; cases e187; have qi187 : (0 < t184.length) = True := eq_true (by omega); (try rw [show ((0 : Int)).toNat = 0 from rfl] at hx187_0); (try rw [Addr.add_zero'] at hx187_0); replace p187 := eq_true p187; replace q187 := eq_true q187))
      (try simp only [Act.put, List.setIfInBounds_toArray, List.set_cons_zero, List.set_cons_succ])
      generalize hys0 : t183 ++ (⟨#[32]⟩ : ByteArray) = ys0 at HC7 ⊢
      have Nys0 := Aside0.mk hys0
      clear hys0
      go_cut [30] (fun v30 wc => ∃ (kq : Nat) (x30_6 : Bool), v30 = .bool x30_6 ∧ Aside0 (Bj.j0 kq a0 a1 ys0 (Bf ByteArray.empty t184 0) x30_6 = some (r1, r2, r3)) ∧ Aside0 (kq ≤ k) ∧ Aside0 (wc.heap[gb0]? = some (.cells #[.string (⟨#[]⟩ : ByteArray), .string (⟨#[]⟩ : ByteArray)] 27 (0, 0))) ∧ Aside0 (Below w.heap.size w wc))
      case first =>
        have H := HC7.out
        clear HC7
        by_cases c12 : ((Bf ByteArray.empty t184 0).size : Int) < (ys0.size : Int)
        · rw [if_pos c12] at H
          have c12b0 : decide (((Bf ByteArray.empty t184 0).size : Int) < (ys0.size : Int)) = true := decide_eq_true c12
          have c12b5 := c12b0
          try simp at c12b5
          have c12b1 : decide ((Bf ByteArray.empty t184 0).size < ys0.size) = true := decide_eq_true (Int.ofNat_lt.mp c12)
          clear c12
          (first | rw [c12b0] | (simp only [i64_w, i32_w]; rw [c12b0]) | skip)
          have H' := Aside0.mk H
          clear H
          go_wp2
          go_meet
          case rel => exact ⟨_, (true), Ybg_, H', ⟨by first | omega | exact Nat.le_refl _⟩, ⟨by (with_reducible repeat (first | refine blk_drewN ?_ _ | refine blk_drew ?_ | refine blk_alloc ?_ _)); exact BK0.out⟩, ⟨by repeat (first | (with_reducible first | exact HB.out | apply below_alloc | apply pw_below_drewN | apply below_drew1 | refine below_set ?_ GE0.out) | exact HB.out)⟩⟩
        · rw [if_neg c12] at H
          have c12b0 : decide (((Bf ByteArray.empty t184 0).size : Int) < (ys0.size : Int)) = false := decide_eq_false c12
          have c12b5 := c12b0
          try simp at c12b5
          have c12b1 : decide ((Bf ByteArray.empty t184 0).size < ys0.size) = false := decide_eq_false (fun h => c12 (Int.ofNat_lt.mpr h))
          clear c12
          (first | rw [c12b0] | (simp only [i64_w, i32_w]; rw [c12b0]) | skip)
          by_cases c13 : 0 ≤ (ys0.size : Int)
          · rw [if_pos c13] at H
            have c13b0 := eq_true c13
            have c13b1 : decide (0 ≤ (ys0.size : Int)) = true := decide_eq_true c13
            by_cases c14 : (ys0.size : Int) ≤ ((Bf ByteArray.empty t184 0).size : Int)
            · rw [if_pos c14] at H
              have c14b0 := eq_true c14
              have c14b1 : decide ((ys0.size : Int) ≤ ((Bf ByteArray.empty t184 0).size : Int)) = true := decide_eq_true c14
              have H' := Aside0.mk H
              clear H
              go_wp2
              go_meet
              case rel => exact ⟨_, ((((Bf ByteArray.empty t184 0).extract 0 ((ys0.size : Int) : Int).toNat).toList != ys0.toList)), Ybg_, H', ⟨by first | omega | exact Nat.le_refl _⟩, ⟨by (with_reducible repeat (first | refine blk_drewN ?_ _ | refine blk_drew ?_ | refine blk_alloc ?_ _)); exact BK0.out⟩, ⟨by repeat (first | (with_reducible first | exact HB.out | apply below_alloc | apply pw_below_drewN | apply below_drew1 | refine below_set ?_ GE0.out) | exact HB.out)⟩⟩
            · rw [if_neg c14] at H
              exact absurd H (by simp)
          · rw [if_neg c13] at H
            exact absurd H (by simp)
      case rest =>
        clear HC7
        try clear c1
        try clear p1
        try clear q1
        try clear hx1
        try clear qi1
        try clear p2
        try clear c4
        try clear c4b0
        try clear c4b1
        try clear c4b2
        try clear c6
        try clear c6b0
        try clear c6b1
        try clear c12
        try clear c12b0
        try clear c12b1
        try clear c13
        try clear c13b0
        try clear c13b1
        try clear c14
        try clear c14b0
        try clear c14b1
        try clear hx187_0
        try clear p187
        try clear q187
        obtain ⟨kq, x30_6, rfl, HA, HJ6, BK0, HB⟩ := hcut
        cases kq with
        | zero => exact absurd HA.out (by simp [Bj.j0])
        | succ kj6 =>
          have H := HA.out
          clear HA
          simp only [Bj.j0] at H
          by_cases c15 : x30_6 = true
          · subst c15
            have H1 : (some ((⟨#[]⟩ : ByteArray), (⟨#[]⟩ : ByteArray), false)) = some (r1, r2, r3) := by rw [if_pos rfl] at H; exact H
            clear H
            have H := H1
            clear H1
            simp only [Option.some.injEq, Prod.mk.injEq] at H
            obtain ⟨rfl, rfl, rfl⟩ := H
            have hcz16_0 : wc.cell? ⟨gb0, 0, none⟩ = some (.string (⟨#[]⟩ : ByteArray)) := (blk_cell BK0.out 0).trans rfl
            have hcz16_1 : wc.cell? ⟨gb0, 1, none⟩ = some (.string (⟨#[]⟩ : ByteArray)) := (blk_cell BK0.out 1).trans rfl
            have hfz16_0 := Ac BK0.out 0
            have hfz16_1 := Ac BK0.out 1
            go_wp2
            refine bodyPost_ret (Fe rfl _ _ gb0 27 #[.string (⟨#[]⟩ : ByteArray), .string (⟨#[]⟩ : ByteArray)] (0, 0) _ rfl Ycc_ Tryd.underlying27 rfl (by kernel_rfl)) rfl ?_
            exact ⟨by first | rfl | (simp [Af, Ag] <;> rfl) | (simp [*, Af, Ag] <;> rfl), by repeat (first | (with_reducible first | exact HB.out | apply below_alloc | apply pw_below_drewN | apply below_drew1 | refine below_set ?_ GE0.out) | exact HB.out)⟩
          · replace c15 := Bool.eq_false_iff.mpr c15
            subst c15
            have H1 : (if 0 ≤ (ys0.size : Int) then (if (ys0.size : Int) ≤ ((Bf ByteArray.empty t184 0).size : Int) then ((Bl.f kj6 ((Bf ByteArray.empty t184 0).extract ((ys0.size : Int) : Int).toNat (Bf ByteArray.empty t184 0).size) 64).bind fun t188 => (if 0 < (t188.length : Int) then (if ((Bf ByteArray.empty t188 0).size : Int) = (((Bf ByteArray.empty t184 0).extract ((ys0.size : Int) : Int).toNat (Bf ByteArray.empty t184 0).size).size : Int) then (some ((⟨#[]⟩ : ByteArray), (⟨#[]⟩ : ByteArray), false)) else (if 0 ≤ (wrap64 (((Bf ByteArray.empty t188 0).size : Int) + 1)) then (if (wrap64 (((Bf ByteArray.empty t188 0).size : Int) + 1)) ≤ (((Bf ByteArray.empty t184 0).extract ((ys0.size : Int) : Int).toNat (Bf ByteArray.empty t184 0).size).size : Int) then ((Df.f kj6 (Bf ByteArray.empty t188 0) (((Bf ByteArray.empty t184 0).extract ((ys0.size : Int) : Int).toNat (Bf ByteArray.empty t184 0).size).extract ((wrap64 (((Bf ByteArray.empty t188 0).size : Int) + 1)) : Int).toNat ((Bf ByteArray.empty t184 0).extract ((ys0.size : Int) : Int).toNat (Bf ByteArray.empty t184 0).size).size)).bind fun t193 => (if t193 = true then ((Bi.f kj6 a1 (Bf ByteArray.empty t188 0) (((Bf ByteArray.empty t184 0).extract ((ys0.size : Int) : Int).toNat (Bf ByteArray.empty t184 0).size).extract ((wrap64 (((Bf ByteArray.empty t188 0).size : Int) + 1)) : Int).toNat ((Bf ByteArray.empty t184 0).extract ((ys0.size : Int) : Int).toNat (Bf ByteArray.empty t184 0).size).size)).bind fun t194 => (if a0.size + 1 ≤ 9223372036854775807 then (some (Bf ByteArray.empty t188 0, ((Bf ByteArray.empty t184 0).extract ((ys0.size : Int) : Int).toNat (Bf ByteArray.empty t184 0).size).extract ((wrap64 (((Bf ByteArray.empty t188 0).size : Int) + 1)) : Int).toNat ((Bf ByteArray.empty t184 0).extract ((ys0.size : Int) : Int).toNat (Bf ByteArray.empty t184 0).size).size, (t194.toList == (a0 ++ (⟨#[10]⟩ : ByteArray)).toList))) else (none))) else (some (Bf ByteArray.empty t188 0, ((Bf ByteArray.empty t184 0).extract ((ys0.size : Int) : Int).toNat (Bf ByteArray.empty t184 0).size).extract ((wrap64 (((Bf ByteArray.empty t188 0).size : Int) + 1)) : Int).toNat ((Bf ByteArray.empty t184 0).extract ((ys0.size : Int) : Int).toNat (Bf ByteArray.empty t184 0).size).size, false)))) else (none)) else (none))) else (none))) else (none)) else (none)) = some (r1, r2, r3) := by rw [if_neg (show ¬ (false = true) by decide)] at H; exact H
            clear H
            have H := H1
            clear H1
            by_cases c17 : 0 ≤ (ys0.size : Int)
            · rw [if_pos c17] at H
              have c17b0 := eq_true c17
              have c17b1 : decide (0 ≤ (ys0.size : Int)) = true := decide_eq_true c17
              by_cases c18 : (ys0.size : Int) ≤ ((Bf ByteArray.empty t184 0).size : Int)
              · rw [if_pos c18] at H
                have c18b0 := eq_true c18
                have c18b1 : decide ((ys0.size : Int) ≤ ((Bf ByteArray.empty t184 0).size : Int)) = true := decide_eq_true c18
                simp only [Int.toNat_natCast] at H
                have HC8 := Aside0.mk H
                clear H
                go_upto_region 6 with (fail)
                generalize hys1 : (Bf ByteArray.empty t184 0).extract ys0.size (Bf ByteArray.empty t184 0).size = ys1 at HC8 ⊢
                have Nys1 := Aside0.mk hys1
                clear hys1
                have H := HC8.out
                clear HC8
                replace H := Option.bind_eq_some_iff.mp H
                obtain ⟨t188, A190, H⟩ := H
                replace H : (if 0 < (t188.length : Int) then (if ((Bf ByteArray.empty t188 0).size : Int) = (ys1.size : Int) then (some ((⟨#[]⟩ : ByteArray), (⟨#[]⟩ : ByteArray), false)) else (if 0 ≤ (wrap64 (((Bf ByteArray.empty t188 0).size : Int) + 1)) then (if (wrap64 (((Bf ByteArray.empty t188 0).size : Int) + 1)) ≤ (ys1.size : Int) then ((Df.f kj6 (Bf ByteArray.empty t188 0) (ys1.extract ((wrap64 (((Bf ByteArray.empty t188 0).size : Int) + 1)) : Int).toNat ys1.size)).bind fun t193 => (if t193 = true then ((Bi.f kj6 a1 (Bf ByteArray.empty t188 0) (ys1.extract ((wrap64 (((Bf ByteArray.empty t188 0).size : Int) + 1)) : Int).toNat ys1.size)).bind fun t194 => (if a0.size + 1 ≤ 9223372036854775807 then (some (Bf ByteArray.empty t188 0, ys1.extract ((wrap64 (((Bf ByteArray.empty t188 0).size : Int) + 1)) : Int).toNat ys1.size, (t194.toList == (a0 ++ (⟨#[10]⟩ : ByteArray)).toList))) else (none))) else (some (Bf ByteArray.empty t188 0, ys1.extract ((wrap64 (((Bf ByteArray.empty t188 0).size : Int) + 1)) : Int).toNat ys1.size, false)))) else (none)) else (none))) else (none)) = some (r1, r2, r3) := H
                have A19 := Aside0.mk A190
                clear A190
                by_cases c20 : 0 < (t188.length : Int)
                · rw [if_pos c20] at H
                  have c20b0 : decide (0 < (t188.length : Int)) = true := decide_eq_true c20
                  have c20b1 : decide (0 < t188.length) = true := decide_eq_true (by omega)
                  clear c20
                  by_cases c21 : ((Bf ByteArray.empty t188 0).size : Int) = (ys1.size : Int)
                  · rw [if_pos c21] at H
                    have c21b0 : (((Bf ByteArray.empty t188 0).size : Int) == (ys1.size : Int)) = true := beq_iff_eq.mpr c21
                    have c21b1 : (((Bf ByteArray.empty t188 0).size : Int) != (ys1.size : Int)) = false := bne_eq_false_iff_eq.mpr c21
                    have c21b2 : ((Bf ByteArray.empty t188 0).size == ys1.size) = true := by first | simpa using c21 | (simp at c21 ⊢; omega)
                    clear c21
                    simp only [Option.some.injEq, Prod.mk.injEq] at H
                    obtain ⟨rfl, rfl, rfl⟩ := H
                    go_wp2_with (first | ((with_reducible refine gate_callee (f := 68) rfl ?_); refine goesL_ (some 37) rfl rfl Tryd.func68 (by kernel_rfl) rfl #[.string ys1, .int .u8 64] rfl Yc_ ?_; (with_reducible refine (Bl.calls kj6 ys1 64 t188 _ A19.out).mono ?_); rintro e w22 ⟨v189, rfl, ho0, hb⟩; refine ⟨_, rfl, ?_⟩; have n0_ := Aside0.mk (Kd.D6 ho0 (below_size Yb_)); have n1_ := Aside0.mk (blk_below (g := gb0) (o := .cells #[.string (⟨#[]⟩ : ByteArray), .string (⟨#[]⟩ : ByteArray)] 27 (0, 0)) Yd_ hb); have n2_ := Aside0.mk (below_step Yb_ hb); clear BK0; clear HB; have HO190 := n0_; have BK0 := n1_; have HB := n2_; clear n0_ n1_ n2_; (try clear hb); (try clear hb2); (try clear hk); (try clear hi); (try clear ho0); obtain ⟨Ao23, co23, eo23⟩ := Kd.Eg HO190.out; subst eo23; have p191 : 0 ≤ (0 : Int) := (by omega); have q191 : 0 < (t188.length : Int) := of_decide_eq_true Yba_; obtain ⟨ad191, e191, hx191_0⟩ := Kd.Gv (Kd.Ei HO190.out).2.2 0 p191 q191; cases e191; have qi191 : (0 < t188.length) = True := eq_true (by omega); (try rw [show ((0 : Int)).toNat = 0 from rfl] at hx191_0); (try rw [Addr.add_zero'] at hx191_0); replace p191 := eq_true p191; replace q191 := eq_true q191; have hcz24_0 : w22.cell? ⟨gb0, 0, none⟩ = some (.string (⟨#[]⟩ : ByteArray)) := (blk_cell BK0.out 0).trans rfl; have hcz24_1 : w22.cell? ⟨gb0, 1, none⟩ = some (.string (⟨#[]⟩ : ByteArray)) := (blk_cell BK0.out 1).trans rfl; have hfz24_0 := Ac BK0.out 0; have hfz24_1 := Ac BK0.out 1))
                    refine bodyPost_ret (Fe rfl _ _ gb0 27 #[.string (⟨#[]⟩ : ByteArray), .string (⟨#[]⟩ : ByteArray)] (0, 0) _ rfl Ycc_ Tryd.underlying27 rfl (by kernel_rfl)) rfl ?_
                    exact ⟨by first | rfl | (simp [Af, Ag] <;> rfl) | (simp [*, Af, Ag] <;> rfl), by repeat (first | (with_reducible first | exact HB.out | apply below_alloc | apply pw_below_drewN | apply below_drew1 | refine below_set ?_ GE0.out) | exact HB.out)⟩
                  · rw [if_neg c21] at H
                    have c21b0 : (((Bf ByteArray.empty t188 0).size : Int) == (ys1.size : Int)) = false := beq_eq_false_iff_ne.mpr c21
                    have c21b1 : (((Bf ByteArray.empty t188 0).size : Int) != (ys1.size : Int)) = true := bne_iff_ne.mpr c21
                    have c21b2 : ((Bf ByteArray.empty t188 0).size == ys1.size) = false := by first | simpa using c21 | (simp at c21 ⊢; omega)
                    obtain ⟨ji25, hji25⟩ : ∃ j_ : Int, (wrap64 (((Bf ByteArray.empty t188 0).size : Int) + 1)) = j_ := ⟨_, rfl⟩
                    replace H : (if 0 ≤ (ji25) then (if (ji25) ≤ (ys1.size : Int) then ((Df.f kj6 (Bf ByteArray.empty t188 0) (ys1.extract ((ji25) : Int).toNat ys1.size)).bind fun t193 => (if t193 = true then ((Bi.f kj6 a1 (Bf ByteArray.empty t188 0) (ys1.extract ((ji25) : Int).toNat ys1.size)).bind fun t194 => (if a0.size + 1 ≤ 9223372036854775807 then (some (Bf ByteArray.empty t188 0, ys1.extract ((ji25) : Int).toNat ys1.size, (t194.toList == (a0 ++ (⟨#[10]⟩ : ByteArray)).toList))) else (none))) else (some (Bf ByteArray.empty t188 0, ys1.extract ((ji25) : Int).toNat ys1.size, false)))) else (none)) else (none)) = some (r1, r2, r3) := by first | (rw [hji25] at H; exact H) | (simp only [hji25] at H ⊢; exact H)
                    (try rw [hji25] at A19)
                    have hji25w : (IntKind.i64.wrap (((Bf ByteArray.empty t188 0).size : Int) + 1)) = ji25 := (i64_w _).trans hji25
                    by_cases c26 : 0 ≤ (ji25)
                    · rw [if_pos c26] at H
                      have c26b0 := eq_true c26
                      have c26b1 : decide (0 ≤ (ji25)) = true := decide_eq_true c26
                      clear c26
                      by_cases c27 : (ji25) ≤ (ys1.size : Int)
                      · rw [if_pos c27] at H
                        have c27b0 := eq_true c27
                        have c27b1 : decide ((ji25) ≤ (ys1.size : Int)) = true := decide_eq_true c27
                        replace H := Option.bind_eq_some_iff.mp H
                        obtain ⟨t193, A280, H⟩ := H
                        replace H : (if t193 = true then ((Bi.f kj6 a1 (Bf ByteArray.empty t188 0) (ys1.extract ((ji25) : Int).toNat ys1.size)).bind fun t194 => (if a0.size + 1 ≤ 9223372036854775807 then (some (Bf ByteArray.empty t188 0, ys1.extract ((ji25) : Int).toNat ys1.size, (t194.toList == (a0 ++ (⟨#[10]⟩ : ByteArray)).toList))) else (none))) else (some (Bf ByteArray.empty t188 0, ys1.extract ((ji25) : Int).toNat ys1.size, false))) = some (r1, r2, r3) := H
                        have A28 := Aside0.mk A280
                        clear A280
                        by_cases c29 : t193 = true
                        · subst c29
                          have H1 : ((Bi.f kj6 a1 (Bf ByteArray.empty t188 0) (ys1.extract ((ji25) : Int).toNat ys1.size)).bind fun t194 => (if a0.size + 1 ≤ 9223372036854775807 then (some (Bf ByteArray.empty t188 0, ys1.extract ((ji25) : Int).toNat ys1.size, (t194.toList == (a0 ++ (⟨#[10]⟩ : ByteArray)).toList))) else (none))) = some (r1, r2, r3) := by rw [if_pos rfl] at H; exact H
                          clear H
                          have H := H1
                          clear H1
                          replace H := Option.bind_eq_some_iff.mp H
                          obtain ⟨t194, A300, H⟩ := H
                          replace H : (if a0.size + 1 ≤ 9223372036854775807 then (some (Bf ByteArray.empty t188 0, ys1.extract ((ji25) : Int).toNat ys1.size, (t194.toList == (a0 ++ (⟨#[10]⟩ : ByteArray)).toList))) else (none)) = some (r1, r2, r3) := H
                          have A30 := Aside0.mk A300
                          clear A300
                          by_cases c31 : a0.size + 1 ≤ 9223372036854775807
                          · rw [if_pos c31] at H
                            have c31b0 := eq_true c31
                            have c31b1 : decide (a0.size + 1 ≤ 9223372036854775807) = true := decide_eq_true c31
                            try have c31b2 : (9223372036854775807 < a0.size + 1) = False := eq_false (Nat.not_lt.2 c31)
                            simp only [Option.some.injEq, Prod.mk.injEq] at H
                            obtain ⟨rfl, rfl, rfl⟩ := H
                            try go_wp2_with (first | ((with_reducible refine gate_callee (f := 68) rfl ?_); refine goesL_ (some 37) rfl rfl Tryd.func68 (by kernel_rfl) rfl #[.string ys1, .int .u8 64] rfl Yc_ ?_; (with_reducible refine (Bl.calls kj6 ys1 64 t188 _ A19.out).mono ?_); rintro e w32 ⟨v189, rfl, ho0, hb⟩; refine ⟨_, rfl, ?_⟩; have n0_ := Aside0.mk (Kd.D6 ho0 (below_size Yb_)); have n1_ := Aside0.mk (blk_below (g := gb0) (o := .cells #[.string (⟨#[]⟩ : ByteArray), .string (⟨#[]⟩ : ByteArray)] 27 (0, 0)) Yd_ hb); have n2_ := Aside0.mk (below_step Yb_ hb); clear BK0; clear HB; have HO190 := n0_; have BK0 := n1_; have HB := n2_; clear n0_ n1_ n2_; (try clear hb); (try clear hb2); (try clear hk); (try clear hi); (try clear ho0); obtain ⟨Ao33, co33, eo33⟩ := Kd.Eg HO190.out; subst eo33; have p191 : 0 ≤ (0 : Int) := (by omega); have q191 : 0 < (t188.length : Int) := of_decide_eq_true Yba_; obtain ⟨ad191, e191, hx191_0⟩ := Kd.Gv (Kd.Ei HO190.out).2.2 0 p191 q191; cases e191; have qi191 : (0 < t188.length) = True := eq_true (by omega); (try rw [show ((0 : Int)).toNat = 0 from rfl] at hx191_0); (try rw [Addr.add_zero'] at hx191_0); replace p191 := eq_true p191; replace q191 := eq_true q191) | ((with_reducible refine gate_dst (N := 10) rfl ?_); (try (refine gate_guard (by rfl) ?_; dsimp only)); refine box_event ?hg (N := 10) ?hd (cs := #[.string (⟨#[]⟩ : ByteArray), .string (⟨#[]⟩ : ByteArray)]) (t := 27) ?hr ?_; (case hd => rfl); (case hg => rfl); (case hr => first | (go_simp; done) | (go_simp; rfl)); intro gb1 hg w34 hbox hb; have n0_ := Aside0.mk (Kd.Eb Yfj_ hb); have n1_ := Aside0.mk (blk_below (g := gb0) (o := .cells #[.string (⟨#[]⟩ : ByteArray), .string (⟨#[]⟩ : ByteArray)] 27 (0, 0)) Yd_ hb); have n2_ := Aside0.mk (below_step Yb_ hb); have n3_ := Aside0.mk (hbox); have n4_ := Aside0.mk ((by rw [hg]; exact (below_size Yb_) : w.heap.size ≤ gb1)); have n5_ := Aside0.mk ((by rw [hg]; exact (below_size Yb_) : w.heap.size ≤ gb1)); have n6_ := Aside0.mk ((by rw [hg]; exact Nat.ne_of_lt (blk_lt (g := gb0) (o := .cells #[.string (⟨#[]⟩ : ByteArray), .string (⟨#[]⟩ : ByteArray)] 27 (0, 0)) Yd_) : gb0 ≠ gb1)); have n7_ := Aside0.mk ((by rw [hg]; exact Nat.ne_of_gt (blk_lt (g := gb0) (o := .cells #[.string (⟨#[]⟩ : ByteArray), .string (⟨#[]⟩ : ByteArray)] 27 (0, 0)) Yd_) : gb1 ≠ gb0)); clear HO190; clear BK0; clear HB; have HO190 := n0_; have BK0 := n1_; have HB := n2_; have BK1 := n3_; have GW1 := n4_; have GE1 := n5_; have NB0_1 := n6_; have NB1_0 := n7_; clear n0_ n1_ n2_ n3_ n4_ n5_ n6_ n7_; clear hb hbox hg; have hnb35 := NB1_0.out; have hnc35 := NB0_1.out; have hcz36_0 : w34.cell? ⟨gb1, 0, none⟩ = some (.string (⟨#[]⟩ : ByteArray)) := (blk_cell BK1.out 0).trans rfl; have hcz36_1 : w34.cell? ⟨gb1, 1, none⟩ = some (.string (⟨#[]⟩ : ByteArray)) := (blk_cell BK1.out 1).trans rfl; have hfz36_0 := Ac BK1.out 0; have hfz36_1 := Ac BK1.out 1))
                            have n0_ : Aside0 (Kd.R Kd.string 9 ((w34.setCell ⟨gb1, 0, none⟩ (.string (Bf ByteArray.empty t188 0))).setCell ⟨gb1, 1, none⟩ (.string (ys1.extract ((ji25) : Int).toNat ys1.size))) w.heap.size (fun _ => True) (.slice (some ad191) t188.length co33) t188) := ⟨by (with_reducible repeat (first | apply Kd.Bc | apply Kd.Ba | apply Kd.Be)); exact Kd.Dl (Kd.Fb (p := ⟨gb1, 1, none⟩) (Kd.Fb (p := ⟨gb1, 0, none⟩) (Kd.Ha HO190.out BK1.out (by decide)) (fun _ hk => hk.2) (.string (Bf ByteArray.empty t188 0))) (fun _ hk => hk.2) (.string (ys1.extract ((ji25) : Int).toNat ys1.size))) (fun _ hk => trivial)⟩
                            have n1_ : Aside0 (((w34.setCell ⟨gb1, 0, none⟩ (.string (Bf ByteArray.empty t188 0))).setCell ⟨gb1, 1, none⟩ (.string (ys1.extract ((ji25) : Int).toNat ys1.size))).heap[gb0]? = some (.cells #[.string (⟨#[]⟩ : ByteArray), .string (⟨#[]⟩ : ByteArray)] 27 (0, 0))) := ⟨by (with_reducible repeat (first | refine blk_drewN ?_ _ | refine blk_drew ?_ | refine blk_alloc ?_ _)); refine blk_far ?_ NB0_1.out _; (with_reducible repeat (first | refine blk_drewN ?_ _ | refine blk_drew ?_ | refine blk_alloc ?_ _)); refine blk_far ?_ NB0_1.out _; (with_reducible repeat (first | refine blk_drewN ?_ _ | refine blk_drew ?_ | refine blk_alloc ?_ _)); exact BK0.out⟩
                            have n2_ : Aside0 (((w34.setCell ⟨gb1, 0, none⟩ (.string (Bf ByteArray.empty t188 0))).setCell ⟨gb1, 1, none⟩ (.string (ys1.extract ((ji25) : Int).toNat ys1.size))).heap[gb1]? = some (.cells #[.string (Bf ByteArray.empty t188 0), .string (ys1.extract ((ji25) : Int).toNat ys1.size)] 27 (0, 0))) := ⟨by (with_reducible repeat (first | refine blk_drewN ?_ _ | refine blk_drew ?_ | refine blk_alloc ?_ _)); refine Ak (cs := #[.string (Bf ByteArray.empty t188 0), .string (⟨#[]⟩ : ByteArray)]) ?_ 1 _ rfl; (with_reducible repeat (first | refine blk_drewN ?_ _ | refine blk_drew ?_ | refine blk_alloc ?_ _)); refine Ak (cs := #[.string (⟨#[]⟩ : ByteArray), .string (⟨#[]⟩ : ByteArray)]) ?_ 0 _ rfl; (with_reducible repeat (first | refine blk_drewN ?_ _ | refine blk_drew ?_ | refine blk_alloc ?_ _)); exact BK1.out⟩
                            have n3_ : Aside0 (Below w.heap.size w ((w34.setCell ⟨gb1, 0, none⟩ (.string (Bf ByteArray.empty t188 0))).setCell ⟨gb1, 1, none⟩ (.string (ys1.extract ((ji25) : Int).toNat ys1.size)))) := ⟨by repeat (first | (with_reducible first | exact HB.out | apply below_alloc | apply pw_below_drewN | apply below_drew1 | refine below_set ?_ GE0.out | refine below_set ?_ GE1.out) | exact HB.out)⟩
                            (try clear HO190)
                            (try clear BK0)
                            (try clear BK1)
                            (try clear HB)
                            generalize ((w34.setCell ⟨gb1, 0, none⟩ (.string (Bf ByteArray.empty t188 0))).setCell ⟨gb1, 1, none⟩ (.string (ys1.extract ((ji25) : Int).toNat ys1.size))) = w37 at n0_ n1_ n2_ n3_ ⊢
                            have HO190 := n0_
                            have BK0 := n1_
                            have BK1 := n2_
                            have HB := n3_
                            clear n0_ n1_ n2_ n3_
                            have n0_ := Aside0.mk (Kd.Be HO190.out)
                            have n1_ := Aside0.mk (blk_drew BK0.out)
                            have n2_ := Aside0.mk (blk_drew BK1.out)
                            have n3_ := Aside0.mk (below_drew1 HB.out)
                            clear HO190
                            clear BK0
                            clear BK1
                            clear HB
                            have HO190 := n0_
                            have BK0 := n1_
                            have BK1 := n2_
                            have HB := n3_
                            clear n0_ n1_ n2_ n3_
                            refine start_ (n := 13) (S := fun w' => w'.cell? ⟨gb1, 0, none⟩ = some (.string (Bf ByteArray.empty t188 0)) ∧ w'.cell? ⟨gb1, 1, none⟩ = some (.string (ys1.extract ((ji25) : Int).toNat ys1.size))) (ds := []) #[false, false, false, false, false, false, false, false, false, false, false, false, false] (by kernel_rfl) rfl rfl ⟨(blk_cell BK1.out 0).trans rfl, (blk_cell BK1.out 1).trans rfl⟩ (fun hHeld => ?_); refine Gi Bj.tab10 Bj.bits10 (fun HT_ HW_ => ?_)
                            generalize w37.drew = w38 at HO190 BK0 BK1 HB hHeld ⊢
                            refine take_ (i := 0) (N := some 53) (v := ?_) (a' := ?_) #[true, false, false, false, false, false, false, false, false, false, false, false, false] rfl rfl (Et HT_.out HW_.out (by kernel_rfl)) (fun _ _ _ h => h) (Or.inl ⟨by rfl, ?_⟩) hHeld ?_ ?_
                            rotate_left
                            · rintro w' ⟨s0, s1⟩
                              go_simp
                              with_reducible rfl
                            rotate_left
                            · simp only [Act.put, List.setIfInBounds_toArray, List.set_cons_zero, List.set_cons_succ, i64_w, i32_w]
                              rfl
                            refine take_ (i := 1) (N := some 54) (v := ?_) (a' := ?_) #[true, true, false, false, false, false, false, false, false, false, false, false, false] rfl rfl (Et HT_.out HW_.out (by kernel_rfl)) (fun _ _ _ h => h) (Or.inl ⟨by rfl, ?_⟩) hHeld ?_ ?_
                            rotate_left
                            · rintro w' ⟨s0, s1⟩
                              go_simp
                              with_reducible rfl
                            rotate_left
                            · simp only [Act.put, List.setIfInBounds_toArray, List.set_cons_zero, List.set_cons_succ, i64_w, i32_w]
                              rfl
                            refine one_ (i := 2) (N := some 55) #[true, true, true, false, false, false, false, false, false, false, false, false, false] rfl rfl (Fp HT_.out (by kernel_rfl)) (by decide) (fun K hK => ?_)
                            refine goes_ Tryd.func43 (by kernel_rfl) rfl #[.agg #[.string (Bf ByteArray.empty t188 0), .string (ys1.extract ((ji25) : Int).toNat ys1.size)]] (by rfl) rfl rfl Ygc_ ?_
                            with_reducible refine (Df.calls kj6 (Bf ByteArray.empty t188 0) (ys1.extract ((ji25) : Int).toNat ys1.size) true _ A28.out).mono ?_
                            rintro e w39 ⟨rfl, hb⟩
                            refine ⟨_, rfl, ?_⟩
                            have n0_ := Aside0.mk (Kd.Eb Yfj_ hb)
                            have n1_ := Aside0.mk (blk_below (g := gb0) (o := .cells #[.string (⟨#[]⟩ : ByteArray), .string (⟨#[]⟩ : ByteArray)] 27 (0, 0)) Yd_ hb)
                            have n2_ := Aside0.mk (blk_below (g := gb1) (o := .cells #[.string (Bf ByteArray.empty t188 0), .string (ys1.extract ((ji25) : Int).toNat ys1.size)] 27 (0, 0)) Yg_ hb)
                            have n3_ := Aside0.mk (below_step Ye_ hb)
                            clear HO190
                            clear BK0
                            clear BK1
                            clear HB
                            have HO190 := n0_
                            have BK0 := n1_
                            have BK1 := n2_
                            have HB := n3_
                            clear n0_ n1_ n2_ n3_
                            (try clear hb)
                            (try clear hb2)
                            (try clear hk)
                            (try clear hi)
                            refine hK.out _ _ ⟨(blk_cell BK1.out 0).trans rfl, (blk_cell BK1.out 1).trans rfl⟩ (fun hHeld => ?_)
                            clear hK K
                            refine norm_ (a' := ?_) ?_ ?_
                            rotate_left
                            · show Act.put _ (some 55) _ = _
                              simp only [Act.put, List.setIfInBounds_toArray, List.set_cons_zero, List.set_cons_succ, i64_w, i32_w]
                              rfl
                            refine pure_ (i := 3) (N := some 56) (v := ?_) (a' := ?_) #[true, true, true, true, false, false, false, false, false, false, false, false, false] rfl rfl (Cj HT_.out (by kernel_rfl)) (fun _ _ _ h => h) (Or.inl ⟨by rfl, ?_⟩) ?_ ?_
                            rotate_left
                            · intro w'
                              go_simp
                              with_reducible rfl
                            rotate_left
                            · simp only [Act.put, List.setIfInBounds_toArray, List.set_cons_zero, List.set_cons_succ, i64_w, i32_w]
                              rfl
                            refine pure_ (i := 4) (N := some 57) (v := ?_) (a' := ?_) #[true, true, true, true, true, false, false, false, false, false, false, false, false] rfl rfl (Cj HT_.out (by kernel_rfl)) (fun _ _ _ h => h) (Or.inl ⟨by rfl, ?_⟩) ?_ ?_
                            rotate_left
                            · intro w'
                              go_simp
                              with_reducible rfl
                            rotate_left
                            · simp only [Act.put, List.setIfInBounds_toArray, List.set_cons_zero, List.set_cons_succ, i64_w, i32_w]
                              rfl
                            refine pure_ (i := 7) (N := some 60) (v := ?_) (a' := ?_) #[true, true, true, true, true, false, false, true, false, false, false, false, false] rfl rfl (Cj HT_.out (by kernel_rfl)) (fun _ _ _ h => h) (Or.inl ⟨by rfl, ?_⟩) ?_ ?_
                            rotate_left
                            · intro w'
                              go_simp
                              with_reducible rfl
                            rotate_left
                            · simp only [Act.put, List.setIfInBounds_toArray, List.set_cons_zero, List.set_cons_succ, i64_w, i32_w]
                              rfl
                            refine pure_ (i := 8) (N := some 61) (v := ?_) (a' := ?_) #[true, true, true, true, true, false, false, true, true, false, false, false, false] rfl rfl (Cj HT_.out (by kernel_rfl)) (fun _ _ _ h => h) (Or.inl ⟨by rfl, ?_⟩) ?_ ?_
                            rotate_left
                            · intro w'
                              go_simp
                              with_reducible rfl
                            rotate_left
                            · simp only [Act.put, List.setIfInBounds_toArray, List.set_cons_zero, List.set_cons_succ, i64_w, i32_w]
                              rfl
                            refine take_ (i := 5) (N := some 58) (v := ?_) (a' := ?_) #[true, true, true, true, true, true, false, true, true, false, false, false, false] rfl rfl (Et HT_.out HW_.out (by kernel_rfl)) (fun _ _ _ h => h) (Or.inl ⟨by rfl, ?_⟩) hHeld ?_ ?_
                            rotate_left
                            · rintro w' ⟨s0, s1⟩
                              go_simp
                              with_reducible rfl
                            rotate_left
                            · simp only [Act.put, List.setIfInBounds_toArray, List.set_cons_zero, List.set_cons_succ, i64_w, i32_w]
                              rfl
                            refine one_ (i := 6) (N := some 59) #[true, true, true, true, true, true, true, true, true, false, false, false, false] rfl rfl (Fp HT_.out (by kernel_rfl)) (by decide) (fun K hK => ?_)
                            refine goes_ Tryd.func44 (by kernel_rfl) rfl #[.int .i64 a1, .agg #[.string (Bf ByteArray.empty t188 0), .string (ys1.extract ((ji25) : Int).toNat ys1.size)]] (by rfl) rfl rfl Ygc_ ?_
                            with_reducible refine (Bi.calls kj6 a1 (Bf ByteArray.empty t188 0) (ys1.extract ((ji25) : Int).toNat ys1.size) t194 _ A30.out).mono ?_
                            rintro e w40 ⟨rfl, hb⟩
                            refine ⟨_, rfl, ?_⟩
                            have n0_ := Aside0.mk (Kd.Eb Yfj_ hb)
                            have n1_ := Aside0.mk (blk_below (g := gb0) (o := .cells #[.string (⟨#[]⟩ : ByteArray), .string (⟨#[]⟩ : ByteArray)] 27 (0, 0)) Yd_ hb)
                            have n2_ := Aside0.mk (blk_below (g := gb1) (o := .cells #[.string (Bf ByteArray.empty t188 0), .string (ys1.extract ((ji25) : Int).toNat ys1.size)] 27 (0, 0)) Yg_ hb)
                            have n3_ := Aside0.mk (below_step Ye_ hb)
                            clear HO190
                            clear BK0
                            clear BK1
                            clear HB
                            have HO190 := n0_
                            have BK0 := n1_
                            have BK1 := n2_
                            have HB := n3_
                            clear n0_ n1_ n2_ n3_
                            (try clear hb)
                            (try clear hb2)
                            (try clear hk)
                            (try clear hi)
                            refine hK.out _ _ ⟨(blk_cell BK1.out 0).trans rfl, (blk_cell BK1.out 1).trans rfl⟩ (fun hHeld => ?_)
                            clear hK K
                            refine norm_ (a' := ?_) ?_ ?_
                            rotate_left
                            · show Act.put _ (some 59) _ = _
                              simp only [Act.put, List.setIfInBounds_toArray, List.set_cons_zero, List.set_cons_succ, i64_w, i32_w]
                              rfl
                            refine pure_ (i := 9) (N := some 62) (v := ?_) (a' := ?_) #[true, true, true, true, true, true, true, true, true, true, false, false, false] rfl rfl (Cj HT_.out (by kernel_rfl)) (fun _ _ _ h => h) (Or.inl ⟨by rfl, ?_⟩) ?_ ?_
                            rotate_left
                            · intro w'
                              go_simp
                              with_reducible rfl
                            rotate_left
                            · simp only [Act.put, List.setIfInBounds_toArray, List.set_cons_zero, List.set_cons_succ, i64_w, i32_w]
                              rfl
                            refine pure_ (i := 10) (N := some 63) (v := ?_) (a' := ?_) #[true, true, true, true, true, true, true, true, true, true, true, false, false] rfl rfl (Cj HT_.out (by kernel_rfl)) (fun _ _ _ h => h) (Or.inl ⟨by rfl, ?_⟩) ?_ ?_
                            rotate_left
                            · intro w'
                              go_simp
                              with_reducible rfl
                            rotate_left
                            · simp only [Act.put, List.setIfInBounds_toArray, List.set_cons_zero, List.set_cons_succ, i64_w, i32_w]
                              rfl
                            refine one_ (i := 11) (N := none) #[true, true, true, true, true, true, true, true, true, true, true, true, false] rfl rfl (Fp HT_.out (by kernel_rfl)) (by decide) (fun K hK => ?_)
                            have hs41 : w40.cell? ⟨gb0, 0, none⟩ = some (.string (⟨#[]⟩ : ByteArray)) := (blk_cell BK0.out 0).trans rfl
                            have hfs41 := Ac BK0.out 0
                            have hns41_1 := NB1_0.out
                            have hms41_1 := NB0_1.out
                            have hs42 : w40.cell? ⟨gb0, 1, none⟩ = some (.string (⟨#[]⟩ : ByteArray)) := (blk_cell BK0.out 1).trans rfl
                            have hfs42 := Ac BK0.out 1
                            have hns42_1 := NB1_0.out
                            have hms42_1 := NB0_1.out
                            refine skip_ (w1 := ?_) (by rfl) rfl ?_ ?_
                            rotate_left
                            · go_simp
                              rfl
                            refine hK.out _ _ ⟨((cell_far (p := ⟨gb0, _, none⟩) NB1_0.out _).trans (((cell_far (p := ⟨gb0, _, none⟩) NB1_0.out _).trans (hHeld.1)))), ((cell_far (p := ⟨gb0, _, none⟩) NB1_0.out _).trans (((cell_far (p := ⟨gb0, _, none⟩) NB1_0.out _).trans (hHeld.2))))⟩ (fun hHeld => ?_)
                            clear hK K
                            refine pure_ (i := 12) (N := some 5) (v := ?_) (a' := ?_) #[true, true, true, true, true, true, true, true, true, true, true, true, true] rfl rfl (Cj HT_.out (by kernel_rfl)) (fun _ _ _ h => h) (Or.inl ⟨by rfl, ?_⟩) ?_ ?_
                            rotate_left
                            · intro w'
                              go_simp
                              with_reducible rfl
                            rotate_left
                            · simp only [Act.put, List.setIfInBounds_toArray, List.set_cons_zero, List.set_cons_succ, i64_w, i32_w]
                              rfl
                            refine done_ (G5 HT_.out (by kernel_rfl)) ?_
                            try go_wp2
                            refine bodyPost_ret (Fe rfl _ _ gb0 27 #[.string (Bf ByteArray.empty t188 0), .string (ys1.extract ((ji25) : Int).toNat ys1.size)] (0, 0) _ rfl Yeh_ Tryd.underlying27 rfl (by kernel_rfl)) rfl ?_
                            exact ⟨by first | rfl | (simp [Af, Ag] <;> rfl) | (simp only [← hji25]; first | rfl | (simp [Af, Ag] <;> rfl)) | (simp [*, Af, Ag] <;> rfl), by repeat (first | (with_reducible first | exact HB.out | apply below_alloc | apply pw_below_drewN | apply below_drew1 | refine below_set ?_ GE0.out | refine below_set ?_ GE1.out) | exact HB.out)⟩
                          · rw [if_neg c31] at H
                            exact absurd H (by simp)
                        · replace c29 := Bool.eq_false_iff.mpr c29
                          subst c29
                          have H1 : (some (Bf ByteArray.empty t188 0, ys1.extract ((ji25) : Int).toNat ys1.size, false)) = some (r1, r2, r3) := by rw [if_neg (show ¬ (false = true) by decide)] at H; exact H
                          clear H
                          have H := H1
                          clear H1
                          simp only [Option.some.injEq, Prod.mk.injEq] at H
                          obtain ⟨rfl, rfl, rfl⟩ := H
                          try go_wp2_with (first | ((with_reducible refine gate_callee (f := 68) rfl ?_); refine goesL_ (some 37) rfl rfl Tryd.func68 (by kernel_rfl) rfl #[.string ys1, .int .u8 64] rfl Yc_ ?_; (with_reducible refine (Bl.calls kj6 ys1 64 t188 _ A19.out).mono ?_); rintro e w43 ⟨v189, rfl, ho0, hb⟩; refine ⟨_, rfl, ?_⟩; have n0_ := Aside0.mk (Kd.D6 ho0 (below_size Yb_)); have n1_ := Aside0.mk (blk_below (g := gb0) (o := .cells #[.string (⟨#[]⟩ : ByteArray), .string (⟨#[]⟩ : ByteArray)] 27 (0, 0)) Yd_ hb); have n2_ := Aside0.mk (below_step Yb_ hb); clear BK0; clear HB; have HO190 := n0_; have BK0 := n1_; have HB := n2_; clear n0_ n1_ n2_; (try clear hb); (try clear hb2); (try clear hk); (try clear hi); (try clear ho0); obtain ⟨Ao44, co44, eo44⟩ := Kd.Eg HO190.out; subst eo44; have p191 : 0 ≤ (0 : Int) := (by omega); have q191 : 0 < (t188.length : Int) := of_decide_eq_true Yba_; obtain ⟨ad191, e191, hx191_0⟩ := Kd.Gv (Kd.Ei HO190.out).2.2 0 p191 q191; cases e191; have qi191 : (0 < t188.length) = True := eq_true (by omega); (try rw [show ((0 : Int)).toNat = 0 from rfl] at hx191_0); (try rw [Addr.add_zero'] at hx191_0); replace p191 := eq_true p191; replace q191 := eq_true q191) | ((with_reducible refine gate_dst (N := 10) rfl ?_); (try (refine gate_guard (by rfl) ?_; dsimp only)); refine box_event ?hg (N := 10) ?hd (cs := #[.string (⟨#[]⟩ : ByteArray), .string (⟨#[]⟩ : ByteArray)]) (t := 27) ?hr ?_; (case hd => rfl); (case hg => rfl); (case hr => first | (go_simp; done) | (go_simp; rfl)); intro gb1 hg w45 hbox hb; have n0_ := Aside0.mk (Kd.Eb Yfj_ hb); have n1_ := Aside0.mk (blk_below (g := gb0) (o := .cells #[.string (⟨#[]⟩ : ByteArray), .string (⟨#[]⟩ : ByteArray)] 27 (0, 0)) Yd_ hb); have n2_ := Aside0.mk (below_step Yb_ hb); have n3_ := Aside0.mk (hbox); have n4_ := Aside0.mk ((by rw [hg]; exact (below_size Yb_) : w.heap.size ≤ gb1)); have n5_ := Aside0.mk ((by rw [hg]; exact (below_size Yb_) : w.heap.size ≤ gb1)); have n6_ := Aside0.mk ((by rw [hg]; exact Nat.ne_of_lt (blk_lt (g := gb0) (o := .cells #[.string (⟨#[]⟩ : ByteArray), .string (⟨#[]⟩ : ByteArray)] 27 (0, 0)) Yd_) : gb0 ≠ gb1)); have n7_ := Aside0.mk ((by rw [hg]; exact Nat.ne_of_gt (blk_lt (g := gb0) (o := .cells #[.string (⟨#[]⟩ : ByteArray), .string (⟨#[]⟩ : ByteArray)] 27 (0, 0)) Yd_) : gb1 ≠ gb0)); clear HO190; clear BK0; clear HB; have HO190 := n0_; have BK0 := n1_; have HB := n2_; have BK1 := n3_; have GW1 := n4_; have GE1 := n5_; have NB0_1 := n6_; have NB1_0 := n7_; clear n0_ n1_ n2_ n3_ n4_ n5_ n6_ n7_; clear hb hbox hg; have hnb46 := NB1_0.out; have hnc46 := NB0_1.out; have hcz47_0 : w45.cell? ⟨gb1, 0, none⟩ = some (.string (⟨#[]⟩ : ByteArray)) := (blk_cell BK1.out 0).trans rfl; have hcz47_1 : w45.cell? ⟨gb1, 1, none⟩ = some (.string (⟨#[]⟩ : ByteArray)) := (blk_cell BK1.out 1).trans rfl; have hfz47_0 := Ac BK1.out 0; have hfz47_1 := Ac BK1.out 1))
                          have n0_ : Aside0 (Kd.R Kd.string 9 ((w45.setCell ⟨gb1, 0, none⟩ (.string (Bf ByteArray.empty t188 0))).setCell ⟨gb1, 1, none⟩ (.string (ys1.extract ((ji25) : Int).toNat ys1.size))) w.heap.size (fun _ => True) (.slice (some ad191) t188.length co44) t188) := ⟨by (with_reducible repeat (first | apply Kd.Bc | apply Kd.Ba | apply Kd.Be)); exact Kd.Dl (Kd.Fb (p := ⟨gb1, 1, none⟩) (Kd.Fb (p := ⟨gb1, 0, none⟩) (Kd.Ha HO190.out BK1.out (by decide)) (fun _ hk => hk.2) (.string (Bf ByteArray.empty t188 0))) (fun _ hk => hk.2) (.string (ys1.extract ((ji25) : Int).toNat ys1.size))) (fun _ hk => trivial)⟩
                          have n1_ : Aside0 (((w45.setCell ⟨gb1, 0, none⟩ (.string (Bf ByteArray.empty t188 0))).setCell ⟨gb1, 1, none⟩ (.string (ys1.extract ((ji25) : Int).toNat ys1.size))).heap[gb0]? = some (.cells #[.string (⟨#[]⟩ : ByteArray), .string (⟨#[]⟩ : ByteArray)] 27 (0, 0))) := ⟨by (with_reducible repeat (first | refine blk_drewN ?_ _ | refine blk_drew ?_ | refine blk_alloc ?_ _)); refine blk_far ?_ NB0_1.out _; (with_reducible repeat (first | refine blk_drewN ?_ _ | refine blk_drew ?_ | refine blk_alloc ?_ _)); refine blk_far ?_ NB0_1.out _; (with_reducible repeat (first | refine blk_drewN ?_ _ | refine blk_drew ?_ | refine blk_alloc ?_ _)); exact BK0.out⟩
                          have n2_ : Aside0 (((w45.setCell ⟨gb1, 0, none⟩ (.string (Bf ByteArray.empty t188 0))).setCell ⟨gb1, 1, none⟩ (.string (ys1.extract ((ji25) : Int).toNat ys1.size))).heap[gb1]? = some (.cells #[.string (Bf ByteArray.empty t188 0), .string (ys1.extract ((ji25) : Int).toNat ys1.size)] 27 (0, 0))) := ⟨by (with_reducible repeat (first | refine blk_drewN ?_ _ | refine blk_drew ?_ | refine blk_alloc ?_ _)); refine Ak (cs := #[.string (Bf ByteArray.empty t188 0), .string (⟨#[]⟩ : ByteArray)]) ?_ 1 _ rfl; (with_reducible repeat (first | refine blk_drewN ?_ _ | refine blk_drew ?_ | refine blk_alloc ?_ _)); refine Ak (cs := #[.string (⟨#[]⟩ : ByteArray), .string (⟨#[]⟩ : ByteArray)]) ?_ 0 _ rfl; (with_reducible repeat (first | refine blk_drewN ?_ _ | refine blk_drew ?_ | refine blk_alloc ?_ _)); exact BK1.out⟩
                          have n3_ : Aside0 (Below w.heap.size w ((w45.setCell ⟨gb1, 0, none⟩ (.string (Bf ByteArray.empty t188 0))).setCell ⟨gb1, 1, none⟩ (.string (ys1.extract ((ji25) : Int).toNat ys1.size)))) := ⟨by repeat (first | (with_reducible first | exact HB.out | apply below_alloc | apply pw_below_drewN | apply below_drew1 | refine below_set ?_ GE0.out | refine below_set ?_ GE1.out) | exact HB.out)⟩
                          (try clear HO190)
                          (try clear BK0)
                          (try clear BK1)
                          (try clear HB)
                          generalize ((w45.setCell ⟨gb1, 0, none⟩ (.string (Bf ByteArray.empty t188 0))).setCell ⟨gb1, 1, none⟩ (.string (ys1.extract ((ji25) : Int).toNat ys1.size))) = w48 at n0_ n1_ n2_ n3_ ⊢
                          have HO190 := n0_
                          have BK0 := n1_
                          have BK1 := n2_
                          have HB := n3_
                          clear n0_ n1_ n2_ n3_
                          have n0_ := Aside0.mk (Kd.Be HO190.out)
                          have n1_ := Aside0.mk (blk_drew BK0.out)
                          have n2_ := Aside0.mk (blk_drew BK1.out)
                          have n3_ := Aside0.mk (below_drew1 HB.out)
                          clear HO190
                          clear BK0
                          clear BK1
                          clear HB
                          have HO190 := n0_
                          have BK0 := n1_
                          have BK1 := n2_
                          have HB := n3_
                          clear n0_ n1_ n2_ n3_
                          refine start_ (n := 13) (S := fun w' => w'.cell? ⟨gb1, 0, none⟩ = some (.string (Bf ByteArray.empty t188 0)) ∧ w'.cell? ⟨gb1, 1, none⟩ = some (.string (ys1.extract ((ji25) : Int).toNat ys1.size))) (ds := []) #[false, false, false, false, false, false, false, false, false, false, false, false, false] (by kernel_rfl) rfl rfl ⟨(blk_cell BK1.out 0).trans rfl, (blk_cell BK1.out 1).trans rfl⟩ (fun hHeld => ?_); refine Gi Bj.tab10 Bj.bits10 (fun HT_ HW_ => ?_)
                          generalize w48.drew = w49 at HO190 BK0 BK1 HB hHeld ⊢
                          refine take_ (i := 0) (N := some 53) (v := ?_) (a' := ?_) #[true, false, false, false, false, false, false, false, false, false, false, false, false] rfl rfl (Et HT_.out HW_.out (by kernel_rfl)) (fun _ _ _ h => h) (Or.inl ⟨by rfl, ?_⟩) hHeld ?_ ?_
                          rotate_left
                          · rintro w' ⟨s0, s1⟩
                            go_simp
                            with_reducible rfl
                          rotate_left
                          · simp only [Act.put, List.setIfInBounds_toArray, List.set_cons_zero, List.set_cons_succ, i64_w, i32_w]
                            rfl
                          refine take_ (i := 1) (N := some 54) (v := ?_) (a' := ?_) #[true, true, false, false, false, false, false, false, false, false, false, false, false] rfl rfl (Et HT_.out HW_.out (by kernel_rfl)) (fun _ _ _ h => h) (Or.inl ⟨by rfl, ?_⟩) hHeld ?_ ?_
                          rotate_left
                          · rintro w' ⟨s0, s1⟩
                            go_simp
                            with_reducible rfl
                          rotate_left
                          · simp only [Act.put, List.setIfInBounds_toArray, List.set_cons_zero, List.set_cons_succ, i64_w, i32_w]
                            rfl
                          refine one_ (i := 2) (N := some 55) #[true, true, true, false, false, false, false, false, false, false, false, false, false] rfl rfl (Fp HT_.out (by kernel_rfl)) (by decide) (fun K hK => ?_)
                          refine goes_ Tryd.func43 (by kernel_rfl) rfl #[.agg #[.string (Bf ByteArray.empty t188 0), .string (ys1.extract ((ji25) : Int).toNat ys1.size)]] (by rfl) rfl rfl Ygc_ ?_
                          with_reducible refine (Df.calls kj6 (Bf ByteArray.empty t188 0) (ys1.extract ((ji25) : Int).toNat ys1.size) false _ A28.out).mono ?_
                          rintro e w50 ⟨rfl, hb⟩
                          refine ⟨_, rfl, ?_⟩
                          have n0_ := Aside0.mk (Kd.Eb Yfj_ hb)
                          have n1_ := Aside0.mk (blk_below (g := gb0) (o := .cells #[.string (⟨#[]⟩ : ByteArray), .string (⟨#[]⟩ : ByteArray)] 27 (0, 0)) Yd_ hb)
                          have n2_ := Aside0.mk (blk_below (g := gb1) (o := .cells #[.string (Bf ByteArray.empty t188 0), .string (ys1.extract ((ji25) : Int).toNat ys1.size)] 27 (0, 0)) Yg_ hb)
                          have n3_ := Aside0.mk (below_step Ye_ hb)
                          clear HO190
                          clear BK0
                          clear BK1
                          clear HB
                          have HO190 := n0_
                          have BK0 := n1_
                          have BK1 := n2_
                          have HB := n3_
                          clear n0_ n1_ n2_ n3_
                          (try clear hb)
                          (try clear hb2)
                          (try clear hk)
                          (try clear hi)
                          refine hK.out _ _ ⟨(blk_cell BK1.out 0).trans rfl, (blk_cell BK1.out 1).trans rfl⟩ (fun hHeld => ?_)
                          clear hK K
                          refine norm_ (a' := ?_) ?_ ?_
                          rotate_left
                          · show Act.put _ (some 55) _ = _
                            simp only [Act.put, List.setIfInBounds_toArray, List.set_cons_zero, List.set_cons_succ, i64_w, i32_w]
                            rfl
                          refine pure_ (i := 3) (N := some 56) (v := ?_) (a' := ?_) #[true, true, true, true, false, false, false, false, false, false, false, false, false] rfl rfl (Cj HT_.out (by kernel_rfl)) (fun _ _ _ h => h) (Or.inl ⟨by rfl, ?_⟩) ?_ ?_
                          rotate_left
                          · intro w'
                            go_simp
                            with_reducible rfl
                          rotate_left
                          · simp only [Act.put, List.setIfInBounds_toArray, List.set_cons_zero, List.set_cons_succ, i64_w, i32_w]
                            rfl
                          refine pure_ (i := 4) (N := some 57) (v := undef) (a' := ?_) #[true, true, true, true, true, false, false, false, false, false, false, false, false] rfl rfl (Cj HT_.out (by kernel_rfl)) (fun _ _ _ h => h) (Or.inr ⟨by rfl, rfl⟩) ?_ ?_
                          rotate_left
                          · simp only [Act.put, List.setIfInBounds_toArray, List.set_cons_zero, List.set_cons_succ, i64_w, i32_w]
                            rfl
                          refine pure_ (i := 5) (N := some 58) (v := undef) (a' := ?_) #[true, true, true, true, true, true, false, false, false, false, false, false, false] rfl rfl (Cj HT_.out (by kernel_rfl)) (fun _ _ _ h => h) (Or.inr ⟨by rfl, rfl⟩) ?_ ?_
                          rotate_left
                          · simp only [Act.put, List.setIfInBounds_toArray, List.set_cons_zero, List.set_cons_succ, i64_w, i32_w]
                            rfl
                          refine pure_ (i := 6) (N := some 59) (v := undef) (a' := ?_) #[true, true, true, true, true, true, true, false, false, false, false, false, false] rfl rfl (Cj HT_.out (by kernel_rfl)) (fun _ _ _ h => h) (Or.inr ⟨by rfl, rfl⟩) ?_ ?_
                          rotate_left
                          · simp only [Act.put, List.setIfInBounds_toArray, List.set_cons_zero, List.set_cons_succ, i64_w, i32_w]
                            rfl
                          refine pure_ (i := 7) (N := some 60) (v := undef) (a' := ?_) #[true, true, true, true, true, true, true, true, false, false, false, false, false] rfl rfl (Cj HT_.out (by kernel_rfl)) (fun _ _ _ h => h) (Or.inr ⟨by rfl, rfl⟩) ?_ ?_
                          rotate_left
                          · simp only [Act.put, List.setIfInBounds_toArray, List.set_cons_zero, List.set_cons_succ, i64_w, i32_w]
                            rfl
                          refine pure_ (i := 8) (N := some 61) (v := undef) (a' := ?_) #[true, true, true, true, true, true, true, true, true, false, false, false, false] rfl rfl (Cj HT_.out (by kernel_rfl)) (fun _ _ _ h => h) (Or.inr ⟨by rfl, rfl⟩) ?_ ?_
                          rotate_left
                          · simp only [Act.put, List.setIfInBounds_toArray, List.set_cons_zero, List.set_cons_succ, i64_w, i32_w]
                            rfl
                          refine pure_ (i := 9) (N := some 62) (v := undef) (a' := ?_) #[true, true, true, true, true, true, true, true, true, true, false, false, false] rfl rfl (Cj HT_.out (by kernel_rfl)) (fun _ _ _ h => h) (Or.inr ⟨by rfl, rfl⟩) ?_ ?_
                          rotate_left
                          · simp only [Act.put, List.setIfInBounds_toArray, List.set_cons_zero, List.set_cons_succ, i64_w, i32_w]
                            rfl
                          refine pure_ (i := 10) (N := some 63) (v := ?_) (a' := ?_) #[true, true, true, true, true, true, true, true, true, true, true, false, false] rfl rfl (Cj HT_.out (by kernel_rfl)) (fun _ _ _ h => h) (Or.inl ⟨by rfl, ?_⟩) ?_ ?_
                          rotate_left
                          · intro w'
                            go_simp
                            with_reducible rfl
                          rotate_left
                          · simp only [Act.put, List.setIfInBounds_toArray, List.set_cons_zero, List.set_cons_succ, i64_w, i32_w]
                            rfl
                          refine one_ (i := 11) (N := none) #[true, true, true, true, true, true, true, true, true, true, true, true, false] rfl rfl (Fp HT_.out (by kernel_rfl)) (by decide) (fun K hK => ?_)
                          have hs51 : w50.cell? ⟨gb0, 0, none⟩ = some (.string (⟨#[]⟩ : ByteArray)) := (blk_cell BK0.out 0).trans rfl
                          have hfs51 := Ac BK0.out 0
                          have hns51_1 := NB1_0.out
                          have hms51_1 := NB0_1.out
                          have hs52 : w50.cell? ⟨gb0, 1, none⟩ = some (.string (⟨#[]⟩ : ByteArray)) := (blk_cell BK0.out 1).trans rfl
                          have hfs52 := Ac BK0.out 1
                          have hns52_1 := NB1_0.out
                          have hms52_1 := NB0_1.out
                          refine skip_ (w1 := ?_) (by rfl) rfl ?_ ?_
                          rotate_left
                          · go_simp
                            rfl
                          refine hK.out _ _ ⟨((cell_far (p := ⟨gb0, _, none⟩) NB1_0.out _).trans (((cell_far (p := ⟨gb0, _, none⟩) NB1_0.out _).trans (hHeld.1)))), ((cell_far (p := ⟨gb0, _, none⟩) NB1_0.out _).trans (((cell_far (p := ⟨gb0, _, none⟩) NB1_0.out _).trans (hHeld.2))))⟩ (fun hHeld => ?_)
                          clear hK K
                          refine pure_ (i := 12) (N := some 5) (v := ?_) (a' := ?_) #[true, true, true, true, true, true, true, true, true, true, true, true, true] rfl rfl (Cj HT_.out (by kernel_rfl)) (fun _ _ _ h => h) (Or.inl ⟨by rfl, ?_⟩) ?_ ?_
                          rotate_left
                          · intro w'
                            go_simp
                            with_reducible rfl
                          rotate_left
                          · simp only [Act.put, List.setIfInBounds_toArray, List.set_cons_zero, List.set_cons_succ, i64_w, i32_w]
                            rfl
                          refine done_ (G5 HT_.out (by kernel_rfl)) ?_
                          try go_wp2
                          refine bodyPost_ret (Fe rfl _ _ gb0 27 #[.string (Bf ByteArray.empty t188 0), .string (ys1.extract ((ji25) : Int).toNat ys1.size)] (0, 0) _ rfl Yeh_ Tryd.underlying27 rfl (by kernel_rfl)) rfl ?_
                          exact ⟨by first | rfl | (simp [Af, Ag] <;> rfl) | (simp only [← hji25]; first | rfl | (simp [Af, Ag] <;> rfl)) | (simp [*, Af, Ag] <;> rfl), by repeat (first | (with_reducible first | exact HB.out | apply below_alloc | apply pw_below_drewN | apply below_drew1 | refine below_set ?_ GE0.out | refine below_set ?_ GE1.out) | exact HB.out)⟩
                      · rw [if_neg c27] at H
                        exact absurd H (by simp)
                    · rw [if_neg c26] at H
                      exact absurd H (by simp)
                · rw [if_neg c20] at H
                  exact absurd H (by simp)
              · rw [if_neg c18] at H
                exact absurd H (by simp)
            · rw [if_neg c17] at H
              exact absurd H (by simp)
    · rw [if_neg c6] at H
      exact absurd H (by simp)
  · rw [if_neg c4] at H
    exact absurd H (by simp)
end Go.Proofs.YtkpieljmhgfofaaDoor.X

namespace Go.Proofs.YtkpieljmhgfofaaDoor.X
open Go.RowKit Go.Proofs.YtkpieljmhgfofaaDoorW.PrintWords Go.Proofs.YtkpieljmhgfofaaDoorW.PrintLast Go.Proofs.YtkpieljmhgfofaaDoorW.PrintMore
attribute [local go_sem] max2_int min2_int max_two min_two max_three min_three max_four min_four
open Go.Proofs.YtkpieljmhgfofaaDoorG
mutual
def Ap.l0 : Nat → ByteArray → List (S27) → Int → Option ((List (S27)) × Int)
  | 0, _, _, _ => none
  | k + 1, x0, x4, x5 => if x5 < (x0.size : Int) then (Ap.j1 k x0 x4 x5 (decide ((x4.length : Int) < 60))) else (Ap.j1 k x0 x4 x5 false)
def Ap.j1 : Nat → ByteArray → List (S27) → Int → Bool → Option ((List (S27)) × Int)
  | 0, _, _, _, _ => none
  | k + 1, x0, x4, x5, x18 => if x18 = true then (if 0 ≤ x5 then (if x5 ≤ (x0.size : Int) then ((Bl.f k (x0.extract (x5 : Int).toNat x0.size) 10).bind fun t198 => (if 0 < (t198.length : Int) then ((Bj.f k (Bf ByteArray.empty t198 0) (x4.length : Int)).bind fun bt202 => (if (t198.length : Int) < 2 then (some (x4, x5)) else (if bt202.2.2 = true then (if x4.length < 4398046511104 then (Ap.l0 k x0 (x4 ++ [(⟨bt202.1, bt202.2.1⟩ : S27)]) (wrap64 ((wrap64 (x5 + ((Bf ByteArray.empty t198 0).size : Int))) + 1))) else (none)) else (some (x4, x5))))) else (none))) else (none)) else (none)) else (some (x4, x5))
end
def Ap.f (k : Nat) (a0 : ByteArray) : Option ((List (S27)) × Int) := Ap.l0 k a0 (([] : List (S27))) 0
theorem Ap.Ec : ∀ k, (∀ y0 y1 y2, LeO (Ap.l0 k y0 y1 y2) (Ap.l0 (k + 1) y0 y1 y2)) ∧ (∀ y0 y1 y2 y3, LeO (Ap.j1 k y0 y1 y2 y3) (Ap.j1 (k + 1) y0 y1 y2 y3))
  | 0 => ⟨fun _ _ _ r h => by simp [Ap.l0] at h, fun _ _ _ _ r h => by simp [Ap.j1] at h⟩
  | k + 1 => by
    obtain ⟨ih0, ih1⟩ := Ap.Ec k
    refine ⟨?_, ?_⟩
    · intro y0 y1 y2
      unfold Ap.l0
      repeat' first
      | (with_reducible exact ih0 _ _ _)
      | (with_reducible exact ih1 _ _ _ _)
      | (with_reducible exact Bl.mono _ _ _)
      | (with_reducible exact Bj.mono _ _ _)
      | (with_reducible exact LeO.refl _)
      | (with_reducible exact LeO.none _)
      | (with_reducible refine LeO.ite ?_ ?_)
      | (with_reducible refine LeO.bind ?_ (fun _ => ?_))
      | exact ih0 _ _ _
      | exact ih1 _ _ _ _
      | exact Bl.mono _ _ _
      | exact Bj.mono _ _ _
      | exact LeO.none _
      | refine LeO.ite ?_ ?_
      | refine LeO.bind ?_ (fun _ => ?_)
    · intro y0 y1 y2 y3
      unfold Ap.j1
      repeat' first
      | (with_reducible exact ih0 _ _ _)
      | (with_reducible exact ih1 _ _ _ _)
      | (with_reducible exact Bl.mono _ _ _)
      | (with_reducible exact Bj.mono _ _ _)
      | (with_reducible exact LeO.refl _)
      | (with_reducible exact LeO.none _)
      | (with_reducible refine LeO.ite ?_ ?_)
      | (with_reducible refine LeO.bind ?_ (fun _ => ?_))
      | exact ih0 _ _ _
      | exact ih1 _ _ _ _
      | exact Bl.mono _ _ _
      | exact Bj.mono _ _ _
      | exact LeO.none _
      | refine LeO.ite ?_ ?_
      | refine LeO.bind ?_ (fun _ => ?_)
theorem Ap.mono : ∀ a0 k, LeO (Ap.f k a0) (Ap.f (k + 1) a0) := by
  intro a0 k
  obtain ⟨ih0, ih1⟩ := Ap.Ec k
  unfold Ap.f
  repeat' first
      | (with_reducible exact ih0 _ _ _)
      | (with_reducible exact ih1 _ _ _ _)
      | (with_reducible exact Bl.mono _ _ _)
      | (with_reducible exact Bj.mono _ _ _)
      | (with_reducible exact LeO.refl _)
      | (with_reducible exact LeO.none _)
      | (with_reducible refine LeO.ite ?_ ?_)
      | (with_reducible refine LeO.bind ?_ (fun _ => ?_))
      | exact ih0 _ _ _
      | exact ih1 _ _ _ _
      | exact Bl.mono _ _ _
      | exact Bj.mono _ _ _
      | exact LeO.none _
      | refine LeO.ite ?_ ?_
      | refine LeO.bind ?_ (fun _ => ?_)
set_option maxHeartbeats 8000000 in
set_option maxRecDepth 100000 in
theorem Ap.calls (k : Nat) (a0 : ByteArray) (r1 : List (S27)) (r2 : Int) (w : World) (h : Ap.f k a0 = some (r1, r2)) :
    Calls Tryd.prog 47 #[.string a0] w fun e w' => ∃ v0_ : Value, e = .returned (.tuple #[v0_, .int .i64 r2]) ∧ Kd.R k27 27 w' w.heap.size (fun _ => True) v0_ r1 ∧ Below w.heap.size w w' := by
  have hu27 := Tryd.underlying27
  have HB := Aside0.mk (Below.refl w.heap.size w)
  have H : (Ap.l0 k a0 (([] : List (S27))) 0) = some (r1, r2) := h
  clear h
  obtain ⟨y195, hy195⟩ : ∃ y_ : List (S27), y_ = (([] : List (S27))) := ⟨_, rfl⟩
  replace H : (Ap.l0 k a0 y195 0) = some (r1, r2) := by first | (rw [hy195]; with_reducible exact H) | (have H2_ := (Option.bind_some _ _).symm.trans H; rw [hy195]; with_reducible exact H2_) | (have H2_ := (Option.bind_some _ _).symm.trans H; with_reducible exact H2_) | with_reducible exact H | (rw [hy195]; exact H) | exact H
  have Ny195 := Aside0.mk hy195
  clear hy195
  have H' := Aside0.mk H
  clear H
  go_enter Tryd.func47, Tryd.ntmps47
  go_wp2_with (first | ((with_reducible refine gate_dst (N := 9) rfl ?_); (try (refine gate_guard (by rfl) ?_; dsimp only)); refine Kd.R_lit k27 _ 27 ?hg (N := 9) ?hd (xs := ([] : List (S27))) (inner := []) (ok := fun _ => True) (okp := fun _ => True) ?hr ?hp (fun _ hk => hk) trivial (Below.refl _ _) (Nat.le_refl _) (by simp) ?_; (case hd => rfl); (case hg => rfl); (case hr => first | (go_simp; done) | (go_simp; rfl)); (case hp => exact (Dc.none _ _)); intro v196 w2 ho3 hb hg_ hnew_; clear hg_ hnew_; (first | rw [← Ny195.out] at ho3 | (simp only [Int.reduceToNat] at ho3; rw [← Ny195.out] at ho3)); have n0_ := Aside0.mk (Kd.D6 ho3 (below_size Ya_)); have n1_ := Aside0.mk (below_step Ya_ hb); clear HB; have HO197 := n0_; have HB := n1_; clear n0_ n1_; clear hb ho3))
  go_loopg [4, 5] k (fun kq v4 v5 w' => ∃ (x4_1 : List (S27)) (x5_1 : Int), v5 = .int .i64 x5_1 ∧ Aside0 (Ap.l0 kq a0 x4_1 x5_1 = some (r1, r2)) ∧ Aside0 (kq ≤ k) ∧ Aside0 (Kd.R k27 27 w' w.heap.size (fun _ => True) v4 x4_1) ∧ Aside0 (Below w.heap.size w w'))
  case atStart => exact ⟨(y195), (0), Ybg_, H', ⟨Nat.le_refl _⟩, ⟨by (with_reducible repeat (first | apply Kd.Bc | apply Kd.Ba | apply Kd.Be)); exact HO197.out⟩, ⟨by repeat (first | (with_reducible first | exact HB.out | apply below_alloc | apply pw_below_drewN | apply below_drew1) | exact HB.out)⟩⟩
  case round =>
    clear H'
    try clear p2
    obtain ⟨x4_1, x5_1, rfl, HA, HK1, HO_4, HB⟩ := hrel
    cases gk with
    | zero => exact absurd HA.out (by simp [Ap.l0])
    | succ k1 =>
      have H := HA.out
      clear HA
      simp only [Ap.l0] at H
      have HC4 := Aside0.mk H
      clear H
      go_upto_region 3 with (fail)
      go_cut [18] (fun v18 wc => ∃ (kq : Nat) (x18_3 : Bool), v18 = .bool x18_3 ∧ Aside0 (Ap.j1 kq a0 x4_1 x5_1 x18_3 = some (r1, r2)) ∧ Aside0 (kq ≤ k1) ∧ Aside0 (Kd.R k27 27 wc w.heap.size (fun _ => True) u4 x4_1) ∧ Aside0 (Below w.heap.size w wc))
      case first =>
        have H := HC4.out
        clear HC4
        by_cases c5 : x5_1 < (a0.size : Int)
        · rw [if_pos c5] at H
          have c5b0 : decide (x5_1 < (a0.size : Int)) = true := decide_eq_true c5
          clear c5
          (first | rw [c5b0] | (simp only [i64_w, i32_w]; rw [c5b0]) | skip)
          have H' := Aside0.mk H
          clear H
          obtain ⟨Ao6, co6, eo6⟩ := Kd.Eg HO_4.out
          subst eo6
          go_wp2
          go_meet
          case rel => exact ⟨_, (decide ((x4_1.length : Int) < 60)), Ybg_, H', ⟨by have := HK1.out; first | omega | exact Nat.le_refl _⟩, ⟨by (with_reducible repeat (first | apply Kd.Bc | apply Kd.Ba | apply Kd.Be)); exact HO_4.out⟩, ⟨by repeat (first | (with_reducible first | exact HB.out | apply below_alloc | apply pw_below_drewN | apply below_drew1) | exact HB.out)⟩⟩
        · rw [if_neg c5] at H
          have c5b0 : decide (x5_1 < (a0.size : Int)) = false := decide_eq_false c5
          clear c5
          (first | rw [c5b0] | (simp only [i64_w, i32_w]; rw [c5b0]) | skip)
          have H' := Aside0.mk H
          clear H
          go_wp2
          go_meet
          case rel => exact ⟨_, (false), Ybg_, H', ⟨by have := HK1.out; first | omega | exact Nat.le_refl _⟩, ⟨by (with_reducible repeat (first | apply Kd.Bc | apply Kd.Ba | apply Kd.Be)); exact HO_4.out⟩, ⟨by repeat (first | (with_reducible first | exact HB.out | apply below_alloc | apply pw_below_drewN | apply below_drew1) | exact HB.out)⟩⟩
      case rest =>
        clear HC4
        try clear p2
        try clear c4
        try clear c5
        try clear c5b0
        try clear p2
        obtain ⟨kq, x18_3, rfl, HA, HJ3, HO_4, HB⟩ := hcut
        cases kq with
        | zero => exact absurd HA.out (by simp [Ap.j1])
        | succ kj3 =>
          have H := HA.out
          clear HA
          simp only [Ap.j1] at H
          by_cases c7 : x18_3 = true
          · subst c7
            have H1 : (if 0 ≤ x5_1 then (if x5_1 ≤ (a0.size : Int) then ((Bl.f kj3 (a0.extract (x5_1 : Int).toNat a0.size) 10).bind fun t198 => (if 0 < (t198.length : Int) then ((Bj.f kj3 (Bf ByteArray.empty t198 0) (x4_1.length : Int)).bind fun bt202 => (if (t198.length : Int) < 2 then (some (x4_1, x5_1)) else (if bt202.2.2 = true then (if x4_1.length < 4398046511104 then (Ap.l0 kj3 a0 (x4_1 ++ [(⟨bt202.1, bt202.2.1⟩ : S27)]) (wrap64 ((wrap64 (x5_1 + ((Bf ByteArray.empty t198 0).size : Int))) + 1))) else (none)) else (some (x4_1, x5_1))))) else (none))) else (none)) else (none)) = some (r1, r2) := by rw [if_pos rfl] at H; exact H
            clear H
            have H := H1
            clear H1
            by_cases c8 : 0 ≤ x5_1
            · rw [if_pos c8] at H
              have c8b0 := eq_true c8
              have c8b1 : decide (0 ≤ x5_1) = true := decide_eq_true c8
              clear c8
              by_cases c9 : x5_1 ≤ (a0.size : Int)
              · rw [if_pos c9] at H
                have c9b0 := eq_true c9
                have c9b1 : decide (x5_1 ≤ (a0.size : Int)) = true := decide_eq_true c9
                clear c9
                replace H := Option.bind_eq_some_iff.mp H
                obtain ⟨t198, A100, H⟩ := H
                replace H : (if 0 < (t198.length : Int) then ((Bj.f kj3 (Bf ByteArray.empty t198 0) (x4_1.length : Int)).bind fun bt202 => (if (t198.length : Int) < 2 then (some (x4_1, x5_1)) else (if bt202.2.2 = true then (if x4_1.length < 4398046511104 then (Ap.l0 kj3 a0 (x4_1 ++ [(⟨bt202.1, bt202.2.1⟩ : S27)]) (wrap64 ((wrap64 (x5_1 + ((Bf ByteArray.empty t198 0).size : Int))) + 1))) else (none)) else (some (x4_1, x5_1))))) else (none)) = some (r1, r2) := H
                have A10 := Aside0.mk A100
                clear A100
                by_cases c11 : 0 < (t198.length : Int)
                · rw [if_pos c11] at H
                  have c11b0 : decide (0 < (t198.length : Int)) = true := decide_eq_true c11
                  have c11b1 : decide (0 < t198.length) = true := decide_eq_true (by omega)
                  clear c11
                  replace H := Option.bind_eq_some_iff.mp H
                  obtain ⟨⟨t202, t203, t204⟩, A120, H⟩ := H
                  replace H : (if (t198.length : Int) < 2 then (some (x4_1, x5_1)) else (if t204 = true then (if x4_1.length < 4398046511104 then (Ap.l0 kj3 a0 (x4_1 ++ [(⟨t202, t203⟩ : S27)]) (wrap64 ((wrap64 (x5_1 + ((Bf ByteArray.empty t198 0).size : Int))) + 1))) else (none)) else (some (x4_1, x5_1)))) = some (r1, r2) := H
                  have A12 := Aside0.mk A120
                  clear A120
                  by_cases c13 : (t198.length : Int) < 2
                  · rw [if_pos c13] at H
                    have c13b0 : decide ((t198.length : Int) < 2) = true := decide_eq_true c13
                    have c13b1 : decide (t198.length < 2) = true := decide_eq_true (by omega)
                    clear c13
                    simp only [Option.some.injEq, Prod.mk.injEq] at H
                    obtain ⟨rfl, rfl⟩ := H
                    go_wp2_with (first | ((with_reducible refine gate_callee (f := 68) rfl ?_); refine goesL_ (some 22) rfl rfl Tryd.func68 (by kernel_rfl) rfl #[.string (a0.extract (x5_1 : Int).toNat a0.size), .int .u8 10] rfl Yc_ ?_; (with_reducible refine (Bl.calls kj3 (a0.extract (x5_1 : Int).toNat a0.size) 10 t198 _ A10.out).mono ?_); rintro e w14 ⟨v199, rfl, ho0, hb⟩; refine ⟨_, rfl, ?_⟩; have n0_ := Aside0.mk (Kd.Eb Ydj_ hb); have n1_ := Aside0.mk (Kd.D6 ho0 (below_size Ya_)); have n2_ := Aside0.mk (below_step Ya_ hb); clear HO_4; clear HB; have HO_4 := n0_; have HO200 := n1_; have HB := n2_; clear n0_ n1_ n2_; (try clear hb); (try clear hb2); (try clear hk); (try clear hi); (try clear ho0); obtain ⟨Ao15, co15, eo15⟩ := Kd.Eg HO200.out; subst eo15; have p201 : 0 ≤ (0 : Int) := (by omega); have q201 : 0 < (t198.length : Int) := of_decide_eq_true Yba_; obtain ⟨ad201, e201, hx201_0⟩ := Kd.Gv (Kd.Ei HO200.out).2.2 0 p201 q201; cases e201; have qi201 : (0 < t198.length) = True := eq_true (by omega); (try rw [show ((0 : Int)).toNat = 0 from rfl] at hx201_0); (try rw [Addr.add_zero'] at hx201_0); replace p201 := eq_true p201; replace q201 := eq_true q201; obtain ⟨Ao16, co16, eo16⟩ := Kd.Eg HO_4.out; subst eo16) | ((with_reducible refine gate_callee (f := 69) rfl ?_); refine goesL_ (some 29) rfl rfl Tryd.func69 (by kernel_rfl) rfl #[.string (Bf ByteArray.empty t198 0), .int .i64 (x4_1.length : Int)] rfl Yc_ ?_; (with_reducible refine (Bj.calls kj3 (Bf ByteArray.empty t198 0) (x4_1.length : Int) t202 t203 t204 _ A12.out).mono ?_); rintro e w17 ⟨rfl, hb⟩; refine ⟨_, rfl, ?_⟩; have n0_ := Aside0.mk (Kd.Eb Ydj_ hb); have n1_ := Aside0.mk (Kd.Eb Yfd_ hb); have n2_ := Aside0.mk (below_step Ya_ hb); clear HO_4; clear HO200; clear HB; have HO_4 := n0_; have HO200 := n1_; have HB := n2_; clear n0_ n1_ n2_; (try clear hb); (try clear hb2); (try clear hk); (try clear hi)) | ((with_reducible refine gate_dst (N := 7) rfl ?_); (try (refine gate_guard (by rfl) ?_; dsimp only)); refine box_event ?hg (N := 7) ?hd (cs := #[.string (⟨#[]⟩ : ByteArray), .string (⟨#[]⟩ : ByteArray)]) (t := 27) ?hr ?_; (case hd => rfl); (case hg => rfl); (case hr => first | (go_simp; done) | (go_simp; rfl)); intro gb0 hg w18 hbox hb; have n0_ := Aside0.mk (Kd.Eb (Kd.R_elderB Ydj_ gb0 (Nat.le_of_eq hg.symm)) hb); have n1_ := Aside0.mk (Kd.Eb Yfd_ hb); have n2_ := Aside0.mk (below_step Ya_ hb); have n3_ := Aside0.mk (hbox); have n4_ := Aside0.mk ((by rw [hg]; exact (below_size Ya_) : w.heap.size ≤ gb0)); have n5_ := Aside0.mk ((by rw [hg]; exact (below_size Ya_) : w.heap.size ≤ gb0)); clear HO_4; clear HO200; clear HB; have HO_4 := n0_; have HO200 := n1_; have HB := n2_; have BK0 := n3_; have GW0 := n4_; have GE0 := n5_; clear n0_ n1_ n2_ n3_ n4_ n5_; clear hb hbox hg; have hcz19_0 : w18.cell? ⟨gb0, 0, none⟩ = some (.string (⟨#[]⟩ : ByteArray)) := (blk_cell BK0.out 0).trans rfl; have hcz19_1 : w18.cell? ⟨gb0, 1, none⟩ = some (.string (⟨#[]⟩ : ByteArray)) := (blk_cell BK0.out 1).trans rfl; have hfz19_0 := Ac BK0.out 0; have hfz19_1 := Ac BK0.out 1))
                    go_ret2
                    exact ⟨_, by first | rfl | (simp [Af, Ag] <;> rfl) | (simp [*, Af, Ag] <;> rfl), by (with_reducible repeat (first | apply Kd.Bc | apply Kd.Ba | apply Kd.Be)); exact Kd.Dl (Kd.Fb (p := ⟨gb0, 1, none⟩) (Kd.Fb (p := ⟨gb0, 0, none⟩) (Kd.Dl HO_4.out (fun k_ hk => (⟨hk, hk.2⟩ : _ ∧ k_ ≠ gb0))) (fun _ hk => hk.2) (.string t202)) (fun _ hk => hk.2) (.string t203)) (fun _ hk => trivial), by repeat (first | (with_reducible first | exact HB.out | apply below_alloc | apply pw_below_drewN | apply below_drew1 | refine below_set ?_ GE0.out) | exact HB.out)⟩
                  · rw [if_neg c13] at H
                    have c13b0 : decide ((t198.length : Int) < 2) = false := decide_eq_false c13
                    have c13b1 : decide (t198.length < 2) = false := decide_eq_false (by omega)
                    clear c13
                    by_cases c20 : t204 = true
                    · subst c20
                      have H1 : (if x4_1.length < 4398046511104 then (Ap.l0 kj3 a0 (x4_1 ++ [(⟨t202, t203⟩ : S27)]) (wrap64 ((wrap64 (x5_1 + ((Bf ByteArray.empty t198 0).size : Int))) + 1))) else (none)) = some (r1, r2) := by rw [if_pos rfl] at H; exact H
                      clear H
                      have H := H1
                      clear H1
                      by_cases c21 : x4_1.length < 4398046511104
                      · rw [if_pos c21] at H
                        have LMc21 := Aside0.mk c21
                        clear c21
                        obtain ⟨y206, hy206⟩ : ∃ y_ : List (S27), y_ = (x4_1 ++ [(⟨t202, t203⟩ : S27)]) := ⟨_, rfl⟩
                        replace H : (Ap.l0 kj3 a0 y206 (wrap64 ((wrap64 (x5_1 + ((Bf ByteArray.empty t198 0).size : Int))) + 1))) = some (r1, r2) := by first | (rw [hy206]; with_reducible exact H) | (have H2_ := (Option.bind_some _ _).symm.trans H; rw [hy206]; with_reducible exact H2_) | (have H2_ := (Option.bind_some _ _).symm.trans H; with_reducible exact H2_) | with_reducible exact H | (rw [hy206]; exact H) | exact H
                        have Ny206 := Aside0.mk hy206
                        clear hy206
                        have H' := Aside0.mk H
                        clear H
                        go_wp2_with (first | ((with_reducible refine gate_callee (f := 68) rfl ?_); refine goesL_ (some 22) rfl rfl Tryd.func68 (by kernel_rfl) rfl #[.string (a0.extract (x5_1 : Int).toNat a0.size), .int .u8 10] rfl Yc_ ?_; (with_reducible refine (Bl.calls kj3 (a0.extract (x5_1 : Int).toNat a0.size) 10 t198 _ A10.out).mono ?_); rintro e w22 ⟨v199, rfl, ho0, hb⟩; refine ⟨_, rfl, ?_⟩; have n0_ := Aside0.mk (Kd.Eb Ydj_ hb); have n1_ := Aside0.mk (Kd.D6 ho0 (below_size Ya_)); have n2_ := Aside0.mk (below_step Ya_ hb); clear HO_4; clear HB; have HO_4 := n0_; have HO200 := n1_; have HB := n2_; clear n0_ n1_ n2_; (try clear hb); (try clear hb2); (try clear hk); (try clear hi); (try clear ho0); obtain ⟨Ao23, co23, eo23⟩ := Kd.Eg HO200.out; subst eo23; have p201 : 0 ≤ (0 : Int) := (by omega); have q201 : 0 < (t198.length : Int) := of_decide_eq_true Yba_; obtain ⟨ad201, e201, hx201_0⟩ := Kd.Gv (Kd.Ei HO200.out).2.2 0 p201 q201; cases e201; have qi201 : (0 < t198.length) = True := eq_true (by omega); (try rw [show ((0 : Int)).toNat = 0 from rfl] at hx201_0); (try rw [Addr.add_zero'] at hx201_0); replace p201 := eq_true p201; replace q201 := eq_true q201; obtain ⟨Ao24, co24, eo24⟩ := Kd.Eg HO_4.out; subst eo24) | ((with_reducible refine gate_callee (f := 69) rfl ?_); refine goesL_ (some 29) rfl rfl Tryd.func69 (by kernel_rfl) rfl #[.string (Bf ByteArray.empty t198 0), .int .i64 (x4_1.length : Int)] rfl Yc_ ?_; (with_reducible refine (Bj.calls kj3 (Bf ByteArray.empty t198 0) (x4_1.length : Int) t202 t203 true _ A12.out).mono ?_); rintro e w25 ⟨rfl, hb⟩; refine ⟨_, rfl, ?_⟩; have n0_ := Aside0.mk (Kd.Eb Ydj_ hb); have n1_ := Aside0.mk (Kd.Eb Yfd_ hb); have n2_ := Aside0.mk (below_step Ya_ hb); clear HO_4; clear HO200; clear HB; have HO_4 := n0_; have HO200 := n1_; have HB := n2_; clear n0_ n1_ n2_; (try clear hb); (try clear hb2); (try clear hk); (try clear hi)) | ((with_reducible refine gate_dst (N := 7) rfl ?_); (try (refine gate_guard (by rfl) ?_; dsimp only)); refine box_event ?hg (N := 7) ?hd (cs := #[.string (⟨#[]⟩ : ByteArray), .string (⟨#[]⟩ : ByteArray)]) (t := 27) ?hr ?_; (case hd => rfl); (case hg => rfl); (case hr => first | (go_simp; done) | (go_simp; rfl)); intro gb0 hg w26 hbox hb; have n0_ := Aside0.mk (Kd.Eb (Kd.R_elderB Ydj_ gb0 (Nat.le_of_eq hg.symm)) hb); have n1_ := Aside0.mk (Kd.Eb Yfd_ hb); have n2_ := Aside0.mk (below_step Ya_ hb); have n3_ := Aside0.mk (hbox); have n4_ := Aside0.mk ((by rw [hg]; exact (below_size Ya_) : w.heap.size ≤ gb0)); have n5_ := Aside0.mk ((by rw [hg]; exact (below_size Ya_) : w.heap.size ≤ gb0)); clear HO_4; clear HO200; clear HB; have HO_4 := n0_; have HO200 := n1_; have HB := n2_; have BK0 := n3_; have GW0 := n4_; have GE0 := n5_; clear n0_ n1_ n2_ n3_ n4_ n5_; clear hb hbox hg; have hcz27_0 : w26.cell? ⟨gb0, 0, none⟩ = some (.string (⟨#[]⟩ : ByteArray)) := (blk_cell BK0.out 0).trans rfl; have hcz27_1 : w26.cell? ⟨gb0, 1, none⟩ = some (.string (⟨#[]⟩ : ByteArray)) := (blk_cell BK0.out 1).trans rfl; have hfz27_0 := Ac BK0.out 0; have hfz27_1 := Ac BK0.out 1) | ((with_reducible refine Hm (b := .append) (xs := #[.tmp 39, .tmp 41]) rfl ?_); (try (refine gate_guard (by rfl) ?_; dsimp only)); at_builtin; refine Kd.R_append k27 (w0 := w) w.heap.size rfl (.tmp 39) (.tmp 41) 48 27 (.agg #[(.string ⟨#[]⟩), (.string ⟨#[]⟩)]) 32 rfl Tryd.underlying48 info27 rfl (by decide) (by omega) (.slice Ao24 x4_1.length co24) x4_1 (⟨t202, t203⟩ : S27) [.string t202, .string t203] (fun k_ => k_ ≠ gb0) (fun _ => False) rfl (by first | (go_simp; done) | (go_simp; rfl)) ?aP (fun _ hk => hk.elim) ?aF ?aO ?aB ?aS ?aL ?_; (case aP => exact k27_mkM _ _ _ (⟨t202, t203⟩ : S27)); (case aB => exact Yb_); (case aF => exact (fun k_ hk => Kd.freshB (g := gb0) (o := .cells #[.string t202, .string t203] 27 (0, 0)) Yei_ k_ hk)); (case aO => exact (by (with_reducible repeat (first | apply Kd.Bc | apply Kd.Ba | apply Kd.Be)); exact Kd.Dl (Kd.Fb (p := ⟨gb0, 1, none⟩) (Kd.Fb (p := ⟨gb0, 0, none⟩) (Kd.Dl HO_4.out (fun k_ hk => (⟨hk, hk.2⟩ : _ ∧ k_ ≠ gb0))) (fun _ hk => hk.2) (.string t202)) (fun _ hk => hk.2) (.string t203)) (fun _ hk => hk.1.2))); (case aS => exact (below_size Yb_)); (case aL => have := LMc21.out; omega); intro v207 w28 ho hb hg hat; rw [← Ny206.out] at ho; have n0_ := Aside0.mk (Kd.R_over' (by (with_reducible repeat (first | apply Kd.Bc | apply Kd.Ba | apply Kd.Be)); exact (Kd.Dl (Kd.Fb (p := ⟨gb0, 1, none⟩) (Kd.Fb (p := ⟨gb0, 0, none⟩) (Kd.Ha HO200.out BK0.out (by decide)) (fun _ hk => hk.2) (.string t202)) (fun _ hk => hk.2) (.string t203)) (fun _ h_ => h_.1))) (Kd.R_typed (by (with_reducible repeat (first | apply Kd.Bc | apply Kd.Ba | apply Kd.Be)); exact (Kd.Dl (Kd.Fb (p := ⟨gb0, 1, none⟩) (Kd.Fb (p := ⟨gb0, 0, none⟩) (Kd.Dl HO_4.out (fun k_ hk => (⟨hk, hk.2⟩ : _ ∧ k_ ≠ gb0))) (fun _ hk => hk.2) (.string t202)) (fun _ hk => hk.2) (.string t203)) (fun _ h_ => h_.1)))) (by decide) hg); have n1_ := Aside0.mk (blk_grown (g := gb0) (o := .cells #[.string t202, .string t203] 27 (0, 0)) Yei_ hg (Kd.R_away HO_4.out (fun _ hk => hk.2))); have n2_ := Aside0.mk (hb); have n3_ := Aside0.mk (ho); clear HO200; clear BK0; clear HB; clear HO_4; have HO200 := n0_; have BK0 := n1_; have HB := n2_; have HO208 := n3_; clear n0_ n1_ n2_ n3_; clear ho hb hg hat; have p209 : 0 ≤ (0 : Int) := (by omega); have q209 : 0 < (t198.length : Int) := of_decide_eq_true Yba_; obtain ⟨ad209, e209, hx209_0⟩ := Kd.Gv (Kd.Ei HO200.out).2.2 0 p209 q209; obtain rfl : ad201 = ad209 := (by injection e209); have qi209 : (0 < t198.length) = True := eq_true (by omega); (try rw [show ((0 : Int)).toNat = 0 from rfl] at hx209_0); (try rw [Addr.add_zero'] at hx209_0); replace p209 := eq_true p209; replace q209 := eq_true q209))
                        go_roundg kj3
                        case measure => have := HK1.out; have := HJ3.out; omega
                        case rel => exact ⟨(y206), (wrap64 ((wrap64 (x5_1 + ((Bf ByteArray.empty t198 0).size : Int))) + 1)), Ybg_, H', ⟨by have := HK1.out; have := HJ3.out; omega⟩, ⟨by (with_reducible repeat (first | apply Kd.Bc | apply Kd.Ba | apply Kd.Be)); exact Kd.Dl HO208.out (fun _ hk => trivial)⟩, ⟨by repeat (first | (with_reducible first | exact HB.out | apply below_alloc | apply pw_below_drewN | apply below_drew1 | refine below_set ?_ GE0.out) | exact HB.out)⟩⟩
                      · rw [if_neg c21] at H
                        exact absurd H (by simp)
                    · replace c20 := Bool.eq_false_iff.mpr c20
                      subst c20
                      have H1 : (some (x4_1, x5_1)) = some (r1, r2) := by rw [if_neg (show ¬ (false = true) by decide)] at H; exact H
                      clear H
                      have H := H1
                      clear H1
                      simp only [Option.some.injEq, Prod.mk.injEq] at H
                      obtain ⟨rfl, rfl⟩ := H
                      go_wp2_with (first | ((with_reducible refine gate_callee (f := 68) rfl ?_); refine goesL_ (some 22) rfl rfl Tryd.func68 (by kernel_rfl) rfl #[.string (a0.extract (x5_1 : Int).toNat a0.size), .int .u8 10] rfl Yc_ ?_; (with_reducible refine (Bl.calls kj3 (a0.extract (x5_1 : Int).toNat a0.size) 10 t198 _ A10.out).mono ?_); rintro e w29 ⟨v199, rfl, ho0, hb⟩; refine ⟨_, rfl, ?_⟩; have n0_ := Aside0.mk (Kd.Eb Ydj_ hb); have n1_ := Aside0.mk (Kd.D6 ho0 (below_size Ya_)); have n2_ := Aside0.mk (below_step Ya_ hb); clear HO_4; clear HB; have HO_4 := n0_; have HO200 := n1_; have HB := n2_; clear n0_ n1_ n2_; (try clear hb); (try clear hb2); (try clear hk); (try clear hi); (try clear ho0); obtain ⟨Ao30, co30, eo30⟩ := Kd.Eg HO200.out; subst eo30; have p201 : 0 ≤ (0 : Int) := (by omega); have q201 : 0 < (t198.length : Int) := of_decide_eq_true Yba_; obtain ⟨ad201, e201, hx201_0⟩ := Kd.Gv (Kd.Ei HO200.out).2.2 0 p201 q201; cases e201; have qi201 : (0 < t198.length) = True := eq_true (by omega); (try rw [show ((0 : Int)).toNat = 0 from rfl] at hx201_0); (try rw [Addr.add_zero'] at hx201_0); replace p201 := eq_true p201; replace q201 := eq_true q201; obtain ⟨Ao31, co31, eo31⟩ := Kd.Eg HO_4.out; subst eo31) | ((with_reducible refine gate_callee (f := 69) rfl ?_); refine goesL_ (some 29) rfl rfl Tryd.func69 (by kernel_rfl) rfl #[.string (Bf ByteArray.empty t198 0), .int .i64 (x4_1.length : Int)] rfl Yc_ ?_; (with_reducible refine (Bj.calls kj3 (Bf ByteArray.empty t198 0) (x4_1.length : Int) t202 t203 false _ A12.out).mono ?_); rintro e w32 ⟨rfl, hb⟩; refine ⟨_, rfl, ?_⟩; have n0_ := Aside0.mk (Kd.Eb Ydj_ hb); have n1_ := Aside0.mk (Kd.Eb Yfd_ hb); have n2_ := Aside0.mk (below_step Ya_ hb); clear HO_4; clear HO200; clear HB; have HO_4 := n0_; have HO200 := n1_; have HB := n2_; clear n0_ n1_ n2_; (try clear hb); (try clear hb2); (try clear hk); (try clear hi)) | ((with_reducible refine gate_dst (N := 7) rfl ?_); (try (refine gate_guard (by rfl) ?_; dsimp only)); refine box_event ?hg (N := 7) ?hd (cs := #[.string (⟨#[]⟩ : ByteArray), .string (⟨#[]⟩ : ByteArray)]) (t := 27) ?hr ?_; (case hd => rfl); (case hg => rfl); (case hr => first | (go_simp; done) | (go_simp; rfl)); intro gb0 hg w33 hbox hb; have n0_ := Aside0.mk (Kd.Eb (Kd.R_elderB Ydj_ gb0 (Nat.le_of_eq hg.symm)) hb); have n1_ := Aside0.mk (Kd.Eb Yfd_ hb); have n2_ := Aside0.mk (below_step Ya_ hb); have n3_ := Aside0.mk (hbox); have n4_ := Aside0.mk ((by rw [hg]; exact (below_size Ya_) : w.heap.size ≤ gb0)); have n5_ := Aside0.mk ((by rw [hg]; exact (below_size Ya_) : w.heap.size ≤ gb0)); clear HO_4; clear HO200; clear HB; have HO_4 := n0_; have HO200 := n1_; have HB := n2_; have BK0 := n3_; have GW0 := n4_; have GE0 := n5_; clear n0_ n1_ n2_ n3_ n4_ n5_; clear hb hbox hg; have hcz34_0 : w33.cell? ⟨gb0, 0, none⟩ = some (.string (⟨#[]⟩ : ByteArray)) := (blk_cell BK0.out 0).trans rfl; have hcz34_1 : w33.cell? ⟨gb0, 1, none⟩ = some (.string (⟨#[]⟩ : ByteArray)) := (blk_cell BK0.out 1).trans rfl; have hfz34_0 := Ac BK0.out 0; have hfz34_1 := Ac BK0.out 1))
                      go_ret2
                      exact ⟨_, by first | rfl | (simp [Af, Ag] <;> rfl) | (simp [*, Af, Ag] <;> rfl), by (with_reducible repeat (first | apply Kd.Bc | apply Kd.Ba | apply Kd.Be)); exact Kd.Dl (Kd.Fb (p := ⟨gb0, 1, none⟩) (Kd.Fb (p := ⟨gb0, 0, none⟩) (Kd.Dl HO_4.out (fun k_ hk => (⟨hk, hk.2⟩ : _ ∧ k_ ≠ gb0))) (fun _ hk => hk.2) (.string t202)) (fun _ hk => hk.2) (.string t203)) (fun _ hk => trivial), by repeat (first | (with_reducible first | exact HB.out | apply below_alloc | apply pw_below_drewN | apply below_drew1 | refine below_set ?_ GE0.out) | exact HB.out)⟩
                · rw [if_neg c11] at H
                  exact absurd H (by simp)
              · rw [if_neg c9] at H
                exact absurd H (by simp)
            · rw [if_neg c8] at H
              exact absurd H (by simp)
          · replace c7 := Bool.eq_false_iff.mpr c7
            subst c7
            have H1 : (some (x4_1, x5_1)) = some (r1, r2) := by rw [if_neg (show ¬ (false = true) by decide)] at H; exact H
            clear H
            have H := H1
            clear H1
            simp only [Option.some.injEq, Prod.mk.injEq] at H
            obtain ⟨rfl, rfl⟩ := H
            go_wp2
            go_ret2
            exact ⟨_, by first | rfl | (simp [Af, Ag] <;> rfl) | (simp [*, Af, Ag] <;> rfl), by (with_reducible repeat (first | apply Kd.Bc | apply Kd.Ba | apply Kd.Be)); exact HO_4.out, by repeat (first | (with_reducible first | exact HB.out | apply below_alloc | apply pw_below_drewN | apply below_drew1) | exact HB.out)⟩
end Go.Proofs.YtkpieljmhgfofaaDoor.X

namespace Go.Proofs.YtkpieljmhgfofaaDoor.X
open Go.RowKit Go.Proofs.YtkpieljmhgfofaaDoorW.PrintWords Go.Proofs.YtkpieljmhgfofaaDoorW.PrintLast Go.Proofs.YtkpieljmhgfofaaDoorW.PrintMore
attribute [local go_sem] max2_int min2_int max_two min_two max_three min_three max_four min_four
open Go.Proofs.YtkpieljmhgfofaaDoorG
def spec_l27Log.f (k : Nat) (a0_0 : ByteArray) (a0_1 : ByteArray) (a0_2 : Int) : Option (Bool) := if (wrap64 ((a0_0.size : Int) + (a0_1.size : Int))) > 30000 then (some false) else (if a0_0.size + a0_1.size ≤ 9223372036854775807 then ((Ap.f k (a0_0 ++ a0_1)).bind fun bt265 => ((Ap.f k a0_0).bind fun bt269 => (if bt265.2 = (wrap64 ((a0_0.size : Int) + (a0_1.size : Int))) then (if bt269.2 = (a0_0.size : Int) then (some ((bt265.1.length : Int) == a0_2)) else (some false)) else (some false)))) else (none))
theorem spec_l27Log.mono : ∀ a0 a1 a2 k, LeO (spec_l27Log.f k a0 a1 a2) (spec_l27Log.f (k + 1) a0 a1 a2) := by
  intro a0 a1 a2 k
  unfold spec_l27Log.f
  repeat' first
      | (with_reducible exact Ap.mono _ _)
      | (with_reducible exact LeO.refl _)
      | (with_reducible exact LeO.none _)
      | (with_reducible refine LeO.ite ?_ ?_)
      | (with_reducible refine LeO.bind ?_ (fun _ => ?_))
      | exact Ap.mono _ _
      | exact LeO.none _
      | refine LeO.ite ?_ ?_
      | refine LeO.bind ?_ (fun _ => ?_)
set_option maxHeartbeats 8000000 in
set_option maxRecDepth 100000 in
theorem spec_l27Log.calls (k : Nat) (a0_0 : ByteArray) (a0_1 : ByteArray) (a0_2 : Int) (r : Bool) (w : World) (h : spec_l27Log.f k a0_0 a0_1 a0_2 = some r) :
    Calls Tryd.prog 49 #[.agg #[.string a0_0, .string a0_1, .int .i64 a0_2]] w fun e w' => e = .returned (.bool r) ∧ Below w.heap.size w w' := by
  have hu31 := Tryd.underlying31
  have HB := Aside0.mk (Below.refl w.heap.size w)
  have H : (if (wrap64 ((a0_0.size : Int) + (a0_1.size : Int))) > 30000 then (some false) else (if a0_0.size + a0_1.size ≤ 9223372036854775807 then ((Ap.f k (a0_0 ++ a0_1)).bind fun bt265 => ((Ap.f k a0_0).bind fun bt269 => (if bt265.2 = (wrap64 ((a0_0.size : Int) + (a0_1.size : Int))) then (if bt269.2 = (a0_0.size : Int) then (some ((bt265.1.length : Int) == a0_2)) else (some false)) else (some false)))) else (none))) = some r := h
  clear h
  by_cases c2 : (wrap64 ((a0_0.size : Int) + (a0_1.size : Int))) > 30000
  · rw [if_pos c2] at H
    have c2b0 : decide (30000 < (wrap64 ((a0_0.size : Int) + (a0_1.size : Int)))) = true := decide_eq_true c2
    clear c2
    obtain rfl := Option.some.inj H
    go_enter Tryd.func49, Tryd.ntmps49
    go_wp2_with (first | ((with_reducible refine gate_dst (N := 1) rfl ?_); (try (refine gate_guard (by rfl) ?_; dsimp only)); refine box_event ?hg (N := 1) ?hd (cs := #[.string a0_0, .string a0_1, .int .i64 a0_2]) (t := 31) ?hr ?_; (case hd => rfl); (case hg => rfl); (case hr => first | (go_simp; done) | (go_simp; rfl)); intro gb0 hg w3 hbox hb; have n0_ := Aside0.mk (below_step Ya_ hb); have n1_ := Aside0.mk (hbox); have n2_ := Aside0.mk ((by rw [hg]; exact (below_size Ya_) : w.heap.size ≤ gb0)); have n3_ := Aside0.mk ((by rw [hg]; exact (below_size Ya_) : w.heap.size ≤ gb0)); clear HB; have HB := n0_; have BK0 := n1_; have GW0 := n2_; have GE0 := n3_; clear n0_ n1_ n2_ n3_; clear hb hbox hg; have hcz4_0 : w3.cell? ⟨gb0, 0, none⟩ = some (.string a0_0) := (blk_cell BK0.out 0).trans rfl; have hcz4_1 : w3.cell? ⟨gb0, 1, none⟩ = some (.string a0_1) := (blk_cell BK0.out 1).trans rfl; have hcz4_2 : w3.cell? ⟨gb0, 2, none⟩ = some (.int .i64 a0_2) := (blk_cell BK0.out 2).trans rfl; have hfz4_0 := Ac BK0.out 0; have hfz4_1 := Ac BK0.out 1; have hfz4_2 := Ac BK0.out 2))
    go_ret
    exact ⟨by first | rfl | (simp [Af, Ag] <;> rfl) | (simp [*, Af, Ag] <;> rfl), by repeat (first | (with_reducible first | exact HB.out | apply below_alloc | apply pw_below_drewN | apply below_drew1 | refine below_set ?_ GE0.out) | exact HB.out)⟩
  · rw [if_neg c2] at H
    have c2b0 : decide (30000 < (wrap64 ((a0_0.size : Int) + (a0_1.size : Int)))) = false := decide_eq_false c2
    clear c2
    by_cases c5 : a0_0.size + a0_1.size ≤ 9223372036854775807
    · rw [if_pos c5] at H
      have c2b7 : decide (30000 < ((a0_0.size : Int) + (a0_1.size : Int))) = false := by have h_ := c2b0; rwa [show wrap64 ((a0_0.size : Int) + (a0_1.size : Int)) = (a0_0.size : Int) + (a0_1.size : Int) from by unfold wrap64; omega] at h_
      have c5b0 := eq_true c5
      have c5b1 : decide (a0_0.size + a0_1.size ≤ 9223372036854775807) = true := decide_eq_true c5
      try have c5b2 : (9223372036854775807 < a0_0.size + a0_1.size) = False := eq_false (Nat.not_lt.2 c5)
      replace H := Option.bind_eq_some_iff.mp H
      obtain ⟨⟨t265, t266⟩, A60, H⟩ := H
      replace H : ((Ap.f k a0_0).bind fun bt269 => (if t266 = (wrap64 ((a0_0.size : Int) + (a0_1.size : Int))) then (if bt269.2 = (a0_0.size : Int) then (some ((t265.length : Int) == a0_2)) else (some false)) else (some false))) = some r := H
      have A6 := Aside0.mk A60
      clear A60
      replace H := Option.bind_eq_some_iff.mp H
      obtain ⟨⟨t269, t270⟩, A70, H⟩ := H
      replace H : (if t266 = (wrap64 ((a0_0.size : Int) + (a0_1.size : Int))) then (if t270 = (a0_0.size : Int) then (some ((t265.length : Int) == a0_2)) else (some false)) else (some false)) = some r := H
      have A7 := Aside0.mk A70
      clear A70
      by_cases c8 : t266 = (wrap64 ((a0_0.size : Int) + (a0_1.size : Int)))
      · rw [if_pos c8] at H
        have c8b0 : (t266 == (wrap64 ((a0_0.size : Int) + (a0_1.size : Int)))) = true := beq_iff_eq.mpr c8
        have c8b6 : (t266 == ((a0_0.size : Int) + (a0_1.size : Int))) = true := by have h_ := c8b0; rwa [show wrap64 ((a0_0.size : Int) + (a0_1.size : Int)) = (a0_0.size : Int) + (a0_1.size : Int) from by unfold wrap64; omega] at h_
        have c8b1 : (t266 != (wrap64 ((a0_0.size : Int) + (a0_1.size : Int)))) = false := bne_eq_false_iff_eq.mpr c8
        clear c8
        by_cases c9 : t270 = (a0_0.size : Int)
        · rw [if_pos c9] at H
          have c9b0 : (t270 == (a0_0.size : Int)) = true := beq_iff_eq.mpr c9
          have c9b1 : (t270 != (a0_0.size : Int)) = false := bne_eq_false_iff_eq.mpr c9
          clear c9
          obtain rfl := Option.some.inj H
          go_enter Tryd.func49, Tryd.ntmps49
          go_wp2_with (first | ((with_reducible refine gate_dst (N := 1) rfl ?_); (try (refine gate_guard (by rfl) ?_; dsimp only)); refine box_event ?hg (N := 1) ?hd (cs := #[.string a0_0, .string a0_1, .int .i64 a0_2]) (t := 31) ?hr ?_; (case hd => rfl); (case hg => rfl); (case hr => first | (go_simp; done) | (go_simp; rfl)); intro gb0 hg w10 hbox hb; have n0_ := Aside0.mk (below_step Ya_ hb); have n1_ := Aside0.mk (hbox); have n2_ := Aside0.mk ((by rw [hg]; exact (below_size Ya_) : w.heap.size ≤ gb0)); have n3_ := Aside0.mk ((by rw [hg]; exact (below_size Ya_) : w.heap.size ≤ gb0)); clear HB; have HB := n0_; have BK0 := n1_; have GW0 := n2_; have GE0 := n3_; clear n0_ n1_ n2_ n3_; clear hb hbox hg; have hcz11_0 : w10.cell? ⟨gb0, 0, none⟩ = some (.string a0_0) := (blk_cell BK0.out 0).trans rfl; have hcz11_1 : w10.cell? ⟨gb0, 1, none⟩ = some (.string a0_1) := (blk_cell BK0.out 1).trans rfl; have hcz11_2 : w10.cell? ⟨gb0, 2, none⟩ = some (.int .i64 a0_2) := (blk_cell BK0.out 2).trans rfl; have hfz11_0 := Ac BK0.out 0; have hfz11_1 := Ac BK0.out 1; have hfz11_2 := Ac BK0.out 2) | ((with_reducible refine gate_callee (f := 47) rfl ?_); refine goesL_ (some 21) rfl rfl Tryd.func47 (by kernel_rfl) rfl #[.string (a0_0 ++ a0_1)] rfl Yc_ ?_; (with_reducible refine (Ap.calls k (a0_0 ++ a0_1) t265 t266 _ A6.out).mono ?_); rintro e w12 ⟨v267, rfl, ho0, hb⟩; refine ⟨_, rfl, ?_⟩; have n0_ := Aside0.mk (Kd.D6 ho0 (below_size Yb_)); have n1_ := Aside0.mk (blk_below (g := gb0) (o := .cells #[.string a0_0, .string a0_1, .int .i64 a0_2] 31 (0, 0)) Yd_ hb); have n2_ := Aside0.mk (below_step Yb_ hb); clear BK0; clear HB; have HO268 := n0_; have BK0 := n1_; have HB := n2_; clear n0_ n1_ n2_; (try clear hb); (try clear hb2); (try clear hk); (try clear hi); (try clear ho0); have hcz13_0 : w12.cell? ⟨gb0, 0, none⟩ = some (.string a0_0) := (blk_cell BK0.out 0).trans rfl; have hcz13_1 : w12.cell? ⟨gb0, 1, none⟩ = some (.string a0_1) := (blk_cell BK0.out 1).trans rfl; have hcz13_2 : w12.cell? ⟨gb0, 2, none⟩ = some (.int .i64 a0_2) := (blk_cell BK0.out 2).trans rfl; have hfz13_0 := Ac BK0.out 0; have hfz13_1 := Ac BK0.out 1; have hfz13_2 := Ac BK0.out 2) | ((with_reducible refine gate_callee (f := 47) rfl ?_); refine goesL_ (some 27) rfl rfl Tryd.func47 (by kernel_rfl) rfl #[.string a0_0] rfl Yc_ ?_; (with_reducible refine (Ap.calls k a0_0 t269 t270 _ A7.out).mono ?_); rintro e w14 ⟨v271, rfl, ho0, hb⟩; refine ⟨_, rfl, ?_⟩; have n0_ := Aside0.mk (Kd.Gn Yfe_ (Kd.R_base ho0) hb); have n1_ := Aside0.mk (Kd.D6 (Kd.R_new' ho0 (Kd.R_lt Yfe_)) (below_size Yb_)); have n2_ := Aside0.mk (blk_below (g := gb0) (o := .cells #[.string a0_0, .string a0_1, .int .i64 a0_2] 31 (0, 0)) Yd_ hb); have n3_ := Aside0.mk (below_step Yb_ hb); clear HO268; clear BK0; clear HB; have HO268 := n0_; have HO272 := n1_; have BK0 := n2_; have HB := n3_; clear n0_ n1_ n2_ n3_; (try clear hb); (try clear hb2); (try clear hk); (try clear hi); (try clear ho0); have hcz15_0 : w14.cell? ⟨gb0, 0, none⟩ = some (.string a0_0) := (blk_cell BK0.out 0).trans rfl; have hcz15_1 : w14.cell? ⟨gb0, 1, none⟩ = some (.string a0_1) := (blk_cell BK0.out 1).trans rfl; have hcz15_2 : w14.cell? ⟨gb0, 2, none⟩ = some (.int .i64 a0_2) := (blk_cell BK0.out 2).trans rfl; have hfz15_0 := Ac BK0.out 0; have hfz15_1 := Ac BK0.out 1; have hfz15_2 := Ac BK0.out 2; obtain ⟨Ao16, co16, eo16⟩ := Kd.Eg HO268.out; subst eo16))
          go_ret
          exact ⟨by first | rfl | (simp [Af, Ag] <;> rfl) | (simp [*, Af, Ag] <;> rfl), by repeat (first | (with_reducible first | exact HB.out | apply below_alloc | apply pw_below_drewN | apply below_drew1 | refine below_set ?_ GE0.out) | exact HB.out)⟩
        · rw [if_neg c9] at H
          have c9b0 : (t270 == (a0_0.size : Int)) = false := beq_eq_false_iff_ne.mpr c9
          have c9b1 : (t270 != (a0_0.size : Int)) = true := bne_iff_ne.mpr c9
          obtain rfl := Option.some.inj H
          go_enter Tryd.func49, Tryd.ntmps49
          go_wp2_with (first | ((with_reducible refine gate_dst (N := 1) rfl ?_); (try (refine gate_guard (by rfl) ?_; dsimp only)); refine box_event ?hg (N := 1) ?hd (cs := #[.string a0_0, .string a0_1, .int .i64 a0_2]) (t := 31) ?hr ?_; (case hd => rfl); (case hg => rfl); (case hr => first | (go_simp; done) | (go_simp; rfl)); intro gb0 hg w17 hbox hb; have n0_ := Aside0.mk (below_step Ya_ hb); have n1_ := Aside0.mk (hbox); have n2_ := Aside0.mk ((by rw [hg]; exact (below_size Ya_) : w.heap.size ≤ gb0)); have n3_ := Aside0.mk ((by rw [hg]; exact (below_size Ya_) : w.heap.size ≤ gb0)); clear HB; have HB := n0_; have BK0 := n1_; have GW0 := n2_; have GE0 := n3_; clear n0_ n1_ n2_ n3_; clear hb hbox hg; have hcz18_0 : w17.cell? ⟨gb0, 0, none⟩ = some (.string a0_0) := (blk_cell BK0.out 0).trans rfl; have hcz18_1 : w17.cell? ⟨gb0, 1, none⟩ = some (.string a0_1) := (blk_cell BK0.out 1).trans rfl; have hcz18_2 : w17.cell? ⟨gb0, 2, none⟩ = some (.int .i64 a0_2) := (blk_cell BK0.out 2).trans rfl; have hfz18_0 := Ac BK0.out 0; have hfz18_1 := Ac BK0.out 1; have hfz18_2 := Ac BK0.out 2) | ((with_reducible refine gate_callee (f := 47) rfl ?_); refine goesL_ (some 21) rfl rfl Tryd.func47 (by kernel_rfl) rfl #[.string (a0_0 ++ a0_1)] rfl Yc_ ?_; (with_reducible refine (Ap.calls k (a0_0 ++ a0_1) t265 t266 _ A6.out).mono ?_); rintro e w19 ⟨v267, rfl, ho0, hb⟩; refine ⟨_, rfl, ?_⟩; have n0_ := Aside0.mk (Kd.D6 ho0 (below_size Yb_)); have n1_ := Aside0.mk (blk_below (g := gb0) (o := .cells #[.string a0_0, .string a0_1, .int .i64 a0_2] 31 (0, 0)) Yd_ hb); have n2_ := Aside0.mk (below_step Yb_ hb); clear BK0; clear HB; have HO268 := n0_; have BK0 := n1_; have HB := n2_; clear n0_ n1_ n2_; (try clear hb); (try clear hb2); (try clear hk); (try clear hi); (try clear ho0); have hcz20_0 : w19.cell? ⟨gb0, 0, none⟩ = some (.string a0_0) := (blk_cell BK0.out 0).trans rfl; have hcz20_1 : w19.cell? ⟨gb0, 1, none⟩ = some (.string a0_1) := (blk_cell BK0.out 1).trans rfl; have hcz20_2 : w19.cell? ⟨gb0, 2, none⟩ = some (.int .i64 a0_2) := (blk_cell BK0.out 2).trans rfl; have hfz20_0 := Ac BK0.out 0; have hfz20_1 := Ac BK0.out 1; have hfz20_2 := Ac BK0.out 2) | ((with_reducible refine gate_callee (f := 47) rfl ?_); refine goesL_ (some 27) rfl rfl Tryd.func47 (by kernel_rfl) rfl #[.string a0_0] rfl Yc_ ?_; (with_reducible refine (Ap.calls k a0_0 t269 t270 _ A7.out).mono ?_); rintro e w21 ⟨v271, rfl, ho0, hb⟩; refine ⟨_, rfl, ?_⟩; have n0_ := Aside0.mk (Kd.Gn Yfe_ (Kd.R_base ho0) hb); have n1_ := Aside0.mk (Kd.D6 (Kd.R_new' ho0 (Kd.R_lt Yfe_)) (below_size Yb_)); have n2_ := Aside0.mk (blk_below (g := gb0) (o := .cells #[.string a0_0, .string a0_1, .int .i64 a0_2] 31 (0, 0)) Yd_ hb); have n3_ := Aside0.mk (below_step Yb_ hb); clear HO268; clear BK0; clear HB; have HO268 := n0_; have HO272 := n1_; have BK0 := n2_; have HB := n3_; clear n0_ n1_ n2_ n3_; (try clear hb); (try clear hb2); (try clear hk); (try clear hi); (try clear ho0); have hcz22_0 : w21.cell? ⟨gb0, 0, none⟩ = some (.string a0_0) := (blk_cell BK0.out 0).trans rfl; have hcz22_1 : w21.cell? ⟨gb0, 1, none⟩ = some (.string a0_1) := (blk_cell BK0.out 1).trans rfl; have hcz22_2 : w21.cell? ⟨gb0, 2, none⟩ = some (.int .i64 a0_2) := (blk_cell BK0.out 2).trans rfl; have hfz22_0 := Ac BK0.out 0; have hfz22_1 := Ac BK0.out 1; have hfz22_2 := Ac BK0.out 2))
          go_ret
          exact ⟨by first | rfl | (simp [Af, Ag] <;> rfl) | (simp [*, Af, Ag] <;> rfl), by repeat (first | (with_reducible first | exact HB.out | apply below_alloc | apply pw_below_drewN | apply below_drew1 | refine below_set ?_ GE0.out) | exact HB.out)⟩
      · rw [if_neg c8] at H
        have c8b0 : (t266 == (wrap64 ((a0_0.size : Int) + (a0_1.size : Int)))) = false := beq_eq_false_iff_ne.mpr c8
        have c8b6 : (t266 == ((a0_0.size : Int) + (a0_1.size : Int))) = false := by have h_ := c8b0; rwa [show wrap64 ((a0_0.size : Int) + (a0_1.size : Int)) = (a0_0.size : Int) + (a0_1.size : Int) from by unfold wrap64; omega] at h_
        have c8b1 : (t266 != (wrap64 ((a0_0.size : Int) + (a0_1.size : Int)))) = true := bne_iff_ne.mpr c8
        obtain rfl := Option.some.inj H
        go_enter Tryd.func49, Tryd.ntmps49
        go_wp2_with (first | ((with_reducible refine gate_dst (N := 1) rfl ?_); (try (refine gate_guard (by rfl) ?_; dsimp only)); refine box_event ?hg (N := 1) ?hd (cs := #[.string a0_0, .string a0_1, .int .i64 a0_2]) (t := 31) ?hr ?_; (case hd => rfl); (case hg => rfl); (case hr => first | (go_simp; done) | (go_simp; rfl)); intro gb0 hg w23 hbox hb; have n0_ := Aside0.mk (below_step Ya_ hb); have n1_ := Aside0.mk (hbox); have n2_ := Aside0.mk ((by rw [hg]; exact (below_size Ya_) : w.heap.size ≤ gb0)); have n3_ := Aside0.mk ((by rw [hg]; exact (below_size Ya_) : w.heap.size ≤ gb0)); clear HB; have HB := n0_; have BK0 := n1_; have GW0 := n2_; have GE0 := n3_; clear n0_ n1_ n2_ n3_; clear hb hbox hg; have hcz24_0 : w23.cell? ⟨gb0, 0, none⟩ = some (.string a0_0) := (blk_cell BK0.out 0).trans rfl; have hcz24_1 : w23.cell? ⟨gb0, 1, none⟩ = some (.string a0_1) := (blk_cell BK0.out 1).trans rfl; have hcz24_2 : w23.cell? ⟨gb0, 2, none⟩ = some (.int .i64 a0_2) := (blk_cell BK0.out 2).trans rfl; have hfz24_0 := Ac BK0.out 0; have hfz24_1 := Ac BK0.out 1; have hfz24_2 := Ac BK0.out 2) | ((with_reducible refine gate_callee (f := 47) rfl ?_); refine goesL_ (some 21) rfl rfl Tryd.func47 (by kernel_rfl) rfl #[.string (a0_0 ++ a0_1)] rfl Yc_ ?_; (with_reducible refine (Ap.calls k (a0_0 ++ a0_1) t265 t266 _ A6.out).mono ?_); rintro e w25 ⟨v267, rfl, ho0, hb⟩; refine ⟨_, rfl, ?_⟩; have n0_ := Aside0.mk (Kd.D6 ho0 (below_size Yb_)); have n1_ := Aside0.mk (blk_below (g := gb0) (o := .cells #[.string a0_0, .string a0_1, .int .i64 a0_2] 31 (0, 0)) Yd_ hb); have n2_ := Aside0.mk (below_step Yb_ hb); clear BK0; clear HB; have HO268 := n0_; have BK0 := n1_; have HB := n2_; clear n0_ n1_ n2_; (try clear hb); (try clear hb2); (try clear hk); (try clear hi); (try clear ho0); have hcz26_0 : w25.cell? ⟨gb0, 0, none⟩ = some (.string a0_0) := (blk_cell BK0.out 0).trans rfl; have hcz26_1 : w25.cell? ⟨gb0, 1, none⟩ = some (.string a0_1) := (blk_cell BK0.out 1).trans rfl; have hcz26_2 : w25.cell? ⟨gb0, 2, none⟩ = some (.int .i64 a0_2) := (blk_cell BK0.out 2).trans rfl; have hfz26_0 := Ac BK0.out 0; have hfz26_1 := Ac BK0.out 1; have hfz26_2 := Ac BK0.out 2) | ((with_reducible refine gate_callee (f := 47) rfl ?_); refine goesL_ (some 27) rfl rfl Tryd.func47 (by kernel_rfl) rfl #[.string a0_0] rfl Yc_ ?_; (with_reducible refine (Ap.calls k a0_0 t269 t270 _ A7.out).mono ?_); rintro e w27 ⟨v271, rfl, ho0, hb⟩; refine ⟨_, rfl, ?_⟩; have n0_ := Aside0.mk (Kd.Gn Yfe_ (Kd.R_base ho0) hb); have n1_ := Aside0.mk (Kd.D6 (Kd.R_new' ho0 (Kd.R_lt Yfe_)) (below_size Yb_)); have n2_ := Aside0.mk (blk_below (g := gb0) (o := .cells #[.string a0_0, .string a0_1, .int .i64 a0_2] 31 (0, 0)) Yd_ hb); have n3_ := Aside0.mk (below_step Yb_ hb); clear HO268; clear BK0; clear HB; have HO268 := n0_; have HO272 := n1_; have BK0 := n2_; have HB := n3_; clear n0_ n1_ n2_ n3_; (try clear hb); (try clear hb2); (try clear hk); (try clear hi); (try clear ho0); have hcz28_0 : w27.cell? ⟨gb0, 0, none⟩ = some (.string a0_0) := (blk_cell BK0.out 0).trans rfl; have hcz28_1 : w27.cell? ⟨gb0, 1, none⟩ = some (.string a0_1) := (blk_cell BK0.out 1).trans rfl; have hcz28_2 : w27.cell? ⟨gb0, 2, none⟩ = some (.int .i64 a0_2) := (blk_cell BK0.out 2).trans rfl; have hfz28_0 := Ac BK0.out 0; have hfz28_1 := Ac BK0.out 1; have hfz28_2 := Ac BK0.out 2))
        go_ret
        exact ⟨by first | rfl | (simp [Af, Ag] <;> rfl) | (simp [*, Af, Ag] <;> rfl), by repeat (first | (with_reducible first | exact HB.out | apply below_alloc | apply pw_below_drewN | apply below_drew1 | refine below_set ?_ GE0.out) | exact HB.out)⟩
    · rw [if_neg c5] at H
      exact absurd H (by simp)
end Go.Proofs.YtkpieljmhgfofaaDoor.X

namespace Go.Proofs.YtkpieljmhgfofaaDoorCb
open Go Go.RowKit
/-- Block g holds these bytes at its start, none of them frozen. -/
def BytesAt (w : World) (g : Nat) (l : List UInt8) : Prop := ∃ cs e n m, w.heap[g]? = some (.cells cs e (n, m)) ∧ l.length ≤ n ∧ l.length ≤ cs.size ∧ ∀ j (hj : j < l.length), cs[j]? = some (.int .u8 (l[j].toNat : Int))
variable {P : Program} {w w' : World} {g : Nat} {l : List UInt8}
theorem BytesAt.lt (h : BytesAt w g l) : g < w.heap.size := by
  obtain ⟨cs, e, n, m, h0, _⟩ := h
  rcases Nat.lt_or_ge g w.heap.size with h1 | h1
  · exact h1
  · rw [Array.getElem?_eq_none h1] at h0; cases h0
theorem BytesAt.block (h : BytesAt w g l) (hb : w'.heap[g]? = w.heap[g]?) : BytesAt w' g l := by
  obtain ⟨cs, e, n, m, h0, h1⟩ := h
  exact ⟨cs, e, n, m, hb.trans h0, h1⟩
theorem BytesAt.below (h : BytesAt w g l) (hb : Below w.heap.size w w') : BytesAt w' g l := h.block (hb.block g h.lt)
theorem BytesAt.alloc (h : BytesAt w g l) (o : Obj) : BytesAt (w.alloc o) g l := h.below ((Below.refl _ _).alloc (Nat.le_refl _) _)
theorem BytesAt.drew (h : BytesAt w g l) : BytesAt w.drew g l := h.block rfl
theorem BytesAt.drewN (h : BytesAt w g l) (n : Nat) : BytesAt (w.drewN n) g l := h.block rfl
theorem BytesAt.cell (h : BytesAt w g l) (j : Nat) (hj : j < l.length) : w.cell? ⟨g, j, none⟩ = some (.int .u8 (l[j].toNat : Int)) := by
  obtain ⟨cs, e, n, m, h0, h1, h2, h3⟩ := h
  unfold World.cell?
  simp only [h0]
  exact h3 j hj
theorem BytesAt.frozen (h : BytesAt w g l) (j : Nat) (hj : j < l.length) : w.frozen? ⟨g, j, none⟩ = false := by
  obtain ⟨cs, e, n, m, h0, h1, h2, h3⟩ := h
  unfold World.frozen?
  simp only [h0]
  simp; omega
theorem BytesAt.put (h : BytesAt w g l) (i : Nat) (b : UInt8) : BytesAt (w.setCell ⟨g, i, none⟩ (.int .u8 (b.toNat : Int))) g (l.set i b) := by
  obtain ⟨cs, e, n, m, h0, h1, h2, h3⟩ := h
  refine ⟨cs.setIfInBounds i (.int .u8 (b.toNat : Int)), e, n, m, ?_, by simpa using h1, by simpa using h2, fun j hj => ?_⟩
  · simp [World.setCell, Array.getElem?_modify, h0]
  · rw [List.length_set] at hj
    rw [Array.getElem?_setIfInBounds]
    by_cases c : i = j
    · subst c
      rw [if_pos rfl, if_pos (by omega)]
      simp
    · rw [if_neg c, h3 j hj]
      simp [List.getElem_set, c]
theorem BytesAt.made (w : World) (e : TypeId) (s : ByteArray) : BytesAt (Lib.bytesWorld w e s) w.heap.size s.data.toList := by
  refine ⟨_, _, _, _, Lib.bytesWorld_at_new w e s, ?_, ?_, fun j hj => ?_⟩
  · simp [Lib.bytesCells]
  · simp [Lib.bytesCells]
  · have hj1 : j < s.data.size := by simpa using hj
    have hj2 : j < s.size := hj1
    simp [Lib.bytesCells, Array.getElem?_append, hj1, hj2]
theorem BytesAt.back (h : BytesAt w g l) (src dst e : TypeId) (cap : Nat) (hs : P.underlying src = some (.slice e)) (he : P.underlying e = some (.int .u8)) (hd : P.underlying dst = some .string) (n : Nat) (hn : n = l.length) :
    (convert src dst (.slice (some ⟨g, 0, none⟩) n cap)).run P w = .ok (.string ⟨l.toArray⟩) w := by
  subst hn
  refine run_convert_bytes_back w src dst e ⟨g, 0, none⟩ cap l hs he hd (fun j hj => ?_)
  have := h.cell j hj
  have e : (⟨g, 0, none⟩ : Addr).add j = ⟨g, j, none⟩ := by unfold Addr.add; by_cases c : j = 0 <;> simp [c]
  rw [e]; exact this
theorem conv_event {ops : Array Oper} {rest : List Oper} {o : Oper} {a : Act} {Q : Exit → Act → World → Prop} (W : World) (hg : o.guard = none) (src dst e : TypeId) (x : Operand) (hop : o.op = Op.convert src dst x)
    (s : ByteArray) (hx : a.eval x = .string s) (hs : P.underlying src = some .string) (hd : P.underlying dst = some (.slice e)) (he : P.underlying e = some (.int .u8))
    (hK : ∀ g cap w1, g = W.heap.size → BytesAt w1 g s.data.toList → Below W.heap.size W w1 → wpList P ops Q rest (a.put o.dst (.slice (some ⟨g, 0, none⟩) s.size cap)) w1) : wpList P ops Q (o :: rest) a W := by
  refine wpList_plain hg fun K' hK' => ?_
  have hrun := Lib.run_convert_string_bytes (P := P) W src dst e s hs hd he
  unfold Oper.wp
  simp [execOp, hop, hx, hrun, Result.andThen]
  exact hK' _ _ (hK _ _ _ rfl (BytesAt.made W e s) ⟨rfl, rfl, rfl, by rw [Lib.bytesWorld_size]; omega, fun i hi => Lib.bytesWorld_at_old W e s i (by omega)⟩)
theorem conv_step {ops : Array Oper} {oi : Oper} {N : Option Tmp} {a : Act} {Q : Exit → Act → World → Prop} {K : Act → World → Prop} (W : World) (src dst e : TypeId) (x : Operand) (hw : Region.wanted oi (yielded ops a.tmps) = true) (hN : oi.dst = N) (hop : oi.op = Op.convert src dst x)
    (s : ByteArray) (hx : a.eval x = .string s) (hs : P.underlying src = some .string) (hd : P.underlying dst = some (.slice e)) (he : P.underlying e = some (.int .u8))
    (hK : ∀ g cap w1, g = W.heap.size → BytesAt w1 g s.data.toList → Below W.heap.size W w1 → K (a.put N (.slice (some ⟨g, 0, none⟩) s.size cap)) w1) : if Region.wanted oi (yielded ops a.tmps) = true then Oper.wp P oi a W K Q else K (a.put N undef) W := by
  rw [if_pos hw]
  subst hN
  have hrun := Lib.run_convert_string_bytes (P := P) W src dst e s hs hd he
  have hrun2 : (execOp a.eval oi).run P W = .ok (.value (.slice (some ⟨W.heap.size, 0, none⟩) s.size (grownCap W s.size 0 e))) (Lib.bytesWorld W e s) := by
    simp [execOp, hop, hx, hrun, Result.andThen]
  unfold Oper.wp
  rw [hrun2]
  exact hK _ _ _ rfl (BytesAt.made W e s) ⟨rfl, rfl, rfl, by rw [Lib.bytesWorld_size]; omega, fun i hi => Lib.bytesWorld_at_old W e s i (by omega)⟩
theorem sub_wrap (b : UInt8) : IntKind.u8.wrap (255 - (b.toNat : Int)) = ((255 - b : UInt8).toNat : Int) := by
  have h := b.toNat_lt
  have e : (255 - b : UInt8).toNat = 255 - b.toNat := by
    rw [UInt8.toNat_sub]
    have : (255 : UInt8).toNat = 255 := rfl
    rw [this]; omega
  rw [e]
  simp [IntKind.wrap, IntKind.signed, IntKind.bits]
  omega
/-- The last byte of a text, turned. -/
def torn (l : List UInt8) : List UInt8 := l.set (l.length - 1) (255 - l.getD (l.length - 1) 0)
def crash (s : ByteArray) (t : Bool) : ByteArray := if t = true then ⟨(torn s.data.toList).toArray⟩ else s
end Go.Proofs.YtkpieljmhgfofaaDoorCb

namespace Go.Proofs.YtkpieljmhgfofaaDoor.X
open Go.RowKit Go.Proofs.YtkpieljmhgfofaaDoorW.PrintWords Go.Proofs.YtkpieljmhgfofaaDoorW.PrintLast Go.Proofs.YtkpieljmhgfofaaDoorW.PrintMore
attribute [local go_sem] max2_int min2_int max_two min_two max_three min_three max_four min_four
open Go.Proofs.YtkpieljmhgfofaaDoorG
def spec_CrashLog.f (k : Nat) (a0_0 a0_1 : ByteArray) (a0_2 : Int) (a1 : Int) (a2 : Bool) : Option (ByteArray × Bool) := (spec_l27Log.f k a0_0 a0_1 a0_2).bind fun t => if t = true then ((spec_l1In.f a1 0 (a0_1.size : Int)).bind fun u => if u = true then (if (0 ≤ a1 ∧ a1 ≤ (a0_1.size : Int)) ∧ a0_0.size + a0_1.size ≤ 4611686018427387904 then some (a0_0 ++ Go.Proofs.YtkpieljmhgfofaaDoorCb.crash (a0_1.extract 0 a1.toNat) (a2 && decide (a1 > 0)), true) else none) else some ((⟨#[]⟩ : ByteArray), false)) else some ((⟨#[]⟩ : ByteArray), false)
theorem spec_CrashLog.mono (a0_0 a0_1 : ByteArray) (a0_2 : Int) (a1 : Int) (a2 : Bool) (k : Nat) : LeO (spec_CrashLog.f k a0_0 a0_1 a0_2 a1 a2) (spec_CrashLog.f (k + 1) a0_0 a0_1 a0_2 a1 a2) := by
  unfold spec_CrashLog.f
  exact LeO.bind (spec_l27Log.mono _ _ _ _) (fun _ => LeO.refl _)
set_option maxHeartbeats 8000000 in
set_option maxRecDepth 100000 in
theorem spec_CrashLog.calls (k : Nat) (a0_0 a0_1 : ByteArray) (a0_2 : Int) (a1 : Int) (a2 : Bool) (r1 : ByteArray) (r2 : Bool) (w : World) (h : spec_CrashLog.f k a0_0 a0_1 a0_2 a1 a2 = some (r1, r2)) :
    Calls Tryd.prog 24 #[.agg #[.string a0_0, .string a0_1, .int .i64 a0_2], .int .i64 a1, .bool a2] w fun e w' => e = .returned (.tuple #[.string r1, .bool r2]) ∧ Below w.heap.size w w' := by
  have hu31 := Tryd.underlying31
  have HB := Aside0.mk (Below.refl w.heap.size w)
  unfold spec_CrashLog.f at h
  replace h := Option.bind_eq_some_iff.mp h
  obtain ⟨t, A0, h⟩ := h
  have A1 := Aside0.mk A0
  clear A0
  by_cases c1 : t = true
  · subst c1
    rw [if_pos rfl] at h
    replace h := Option.bind_eq_some_iff.mp h
    obtain ⟨u, A0, h⟩ := h
    have A2 := Aside0.mk A0
    clear A0
    by_cases c2 : u = true
    · subst c2
      rw [if_pos rfl] at h
      by_cases c3 : (0 ≤ a1 ∧ a1 ≤ (a0_1.size : Int)) ∧ a0_0.size + a0_1.size ≤ 4611686018427387904
      · rw [if_pos c3] at h
        simp only [Option.some.injEq, Prod.mk.injEq] at h
        obtain ⟨rfl, rfl⟩ := h
        obtain ⟨kn, rfl⟩ := Int.eq_ofNat_of_zero_le c3.1.1
        have C3 := Aside0.mk c3
        have x1 : kn ≤ a0_1.size := by omega
        clear c3
        rw [Int.toNat_natCast]
        have x2 : ((kn : Int) ≤ (a0_1.size : Int)) = True := eq_true (by omega)
        have x3 : (kn ≤ a0_1.size) = True := eq_true x1
        have x4 : (9223372036854775807 < a0_0.size + kn) = False := eq_false (by have := C3.out; omega)
        clear x1
        by_cases c4 : (a2 && decide ((kn : Int) > 0)) = true
        · simp only [Bool.and_eq_true, decide_eq_true_eq] at c4
          obtain ⟨rfl, c5⟩ := c4
          simp only [show (true && decide ((kn : Int) > 0)) = true by simp; omega, Go.Proofs.YtkpieljmhgfofaaDoorCb.crash, if_true]
          have y1 : (0 < (kn : Int)) = True := eq_true (by omega)
          have y2 : (0 < kn) = True := eq_true (by omega)
          go_enter Tryd.func24, Tryd.ntmps24
          go_wp2_with (first | ((with_reducible refine gate_dst (N := 3) rfl ?_); refine box_event ?hg (N := 3) ?hd (cs := #[.string a0_0, .string a0_1, .int .i64 a0_2]) (t := 31) ?hr ?_; (case hd => rfl); (case hg => rfl); (case hr => first | (go_simp; done) | (go_simp; rfl)); intro gb hg w1 hbox hb; have n1_ := Aside0.mk (below_step Ya_ hb); have n3_ := Aside0.mk hbox; have n4_ := Aside0.mk ((by rw [hg]; exact below_size Ya_ : w.heap.size ≤ gb)); clear HB; have HB := n1_; have BK := n3_; have GE := n4_; clear n1_ n3_ n4_ hb hbox hg; have hcz0 : w1.cell? ⟨gb, 0, none⟩ = some (.string a0_0) := (blk_cell BK.out 0).trans rfl; have hcz1 : w1.cell? ⟨gb, 1, none⟩ = some (.string a0_1) := (blk_cell BK.out 1).trans rfl; have hcz2 : w1.cell? ⟨gb, 2, none⟩ = some (.int .i64 a0_2) := (blk_cell BK.out 2).trans rfl) | ((with_reducible refine gate_callee (f := 49) rfl ?_); (try (refine gate_guard (by rfl) ?_; dsimp only)); refine goesL_ (some 10) rfl rfl Tryd.func49 (by kernel_rfl) rfl #[.agg #[.string a0_0, .string a0_1, .int .i64 a0_2]] rfl Yc_ ?_; (with_reducible refine (spec_l27Log.calls k a0_0 a0_1 a0_2 true _ A1.out).mono ?_); rintro e w2 ⟨rfl, hb⟩; refine ⟨_, rfl, ?_⟩; have BK2 := Aside0.mk (blk_below Ycd_ hb); have n1_ := Aside0.mk (below_step Ya_ hb); clear HB; have HB := n1_; clear n1_ hb; have hcy0 : w2.cell? ⟨gb, 0, none⟩ = some (.string a0_0) := (blk_cell BK2.out 0).trans rfl; have hcy1 : w2.cell? ⟨gb, 1, none⟩ = some (.string a0_1) := (blk_cell BK2.out 1).trans rfl; have hcy2 : w2.cell? ⟨gb, 2, none⟩ = some (.int .i64 a0_2) := (blk_cell BK2.out 2).trans rfl) | (go_at_call 42; (with_reducible refine (spec_l1In.calls (kn : Int) 0 (a0_1.size : Int) true _ A2.out).mono ?_); rintro e w' ⟨rfl, ⟨nd, rfl⟩⟩) | (refine Go.Proofs.YtkpieljmhgfofaaDoorCb.conv_event _ rfl 9 53 5 _ rfl (a0_1.extract 0 kn) rfl Tryd.underlying9 Tryd.underlying53 Tryd.underlying5 ?_; intro g cap w3 hg hby hb; have BK3 := Aside0.mk (blk_below Yi_ hb); have n1_ := Aside0.mk (below_step Ya_ hb); have BY := Aside0.mk hby; have NBx : gb ≠ g := (by rw [hg]; exact Nat.ne_of_lt (blk_lt Yi_)); have GG := Aside0.mk ((by rw [hg]; exact below_size Ya_ : w.heap.size ≤ g)); clear HB; have HB := n1_; clear n1_ hb hby hg BK2; have hcu0 : w3.cell? ⟨gb, 0, none⟩ = some (.string a0_0) := (blk_cell BK3.out 0).trans rfl; have hS : (a0_1.extract 0 kn).data.toList.length = kn := (by have := C3.out; have e : (a0_1.extract 0 kn).data.toList.length = (a0_1.extract 0 kn).size := (by rw [Array.length_toList]; rfl); rw [e]; simp only [ByteArray.size_append, ByteArray.size_extract]; omega); obtain ⟨L, hL⟩ : ∃ L, L = (a0_1.extract 0 kn).data.toList := ⟨_, rfl⟩; have BYL := Aside0.mk (by rw [hL]; exact BY.out : Go.Proofs.YtkpieljmhgfofaaDoorCb.BytesAt w3 g L); have HE := Aside0.mk (by rw [hL] : (⟨L.toArray⟩ : ByteArray) = a0_1.extract 0 kn); rw [← hL] at hS; have HL := Aside0.mk hL; clear hL BY; obtain ⟨M, hM⟩ : ∃ M, M + 1 = kn := ⟨kn - 1, by omega⟩; have hml : M < L.length := (by omega); have hl := BYL.out.cell M hml; have hfz := BYL.out.frozen M hml; have ht : Go.Proofs.YtkpieljmhgfofaaDoorCb.torn (a0_1.extract 0 kn).data.toList = L.set M (255 - L[M]) := (by rw [← HL.out]; have e : L.length - 1 = M := (by omega); unfold Go.Proofs.YtkpieljmhgfofaaDoorCb.torn; rw [e, List.getD_eq_getElem?_getD, List.getElem?_eq_getElem hml]; rfl); generalize hbb : L[M] = b at hl ht; have HT := Aside0.mk ht; have hS2 : (L.set M (255 - b)).length = kn := (by rw [List.length_set]; exact hS); have hwr : wrap64 ((kn : Int) - 1) = (M : Int) := (by have := C3.out; unfold wrap64; omega); have hi0 : ((M : Int) < (kn : Int)) = True := eq_true (by omega); have hi1 : (M < kn) = True := eq_true (by omega); have hsb : IntKind.u8.wrap (255 - (b.toNat : Int)) = ((255 - b : UInt8).toNat : Int) := Go.Proofs.YtkpieljmhgfofaaDoorCb.sub_wrap b; have hmn : min kn a0_1.size = kn := Nat.min_eq_left (by have := C3.out; omega); have NB := Aside0.mk NBx; clear C3 ht hbb) | ((with_reducible refine gate_store (t := 5) (p := 39) rfl ?_); refine store_event (t := 5) (p := 39) (v := ?vo_) (w1 := (w3.setCell ⟨g, M, none⟩ (.int .u8 ((255 - b : UInt8).toNat : Int)))) ?hg ?ho ?hn ?hr ?_; (case ho => rfl); (case hg => rfl); (case hn => rfl); (case hr => first | (go_simp; done) | (go_simp; rfl)); intro w4 hw; have BY2 := Aside0.mk (by rw [hw]; exact BYL.out.put M (255 - b) : Go.Proofs.YtkpieljmhgfofaaDoorCb.BytesAt w4 g _); have hcv := BY2.out.back (P := Tryd.prog) 53 9 5 cap Tryd.underlying53 Tryd.underlying5 Tryd.underlying9 (kn) hS2.symm; have hcvN := fun n => (BY2.out.drewN n).back (P := Tryd.prog) 53 9 5 cap Tryd.underlying53 Tryd.underlying5 Tryd.underlying9 (kn) hS2.symm; have BK4 := Aside0.mk (by rw [hw]; exact blk_far BK3.out NB.out _ : w4.heap[gb]? = some (.cells #[.string a0_0, .string a0_1, .int .i64 a0_2] 31 (0, 0))); have hcw0 : w4.cell? ⟨gb, 0, none⟩ = some (.string a0_0) := (blk_cell BK4.out 0).trans rfl; have n1_ := Aside0.mk ((by rw [hw]; exact below_set (HB.out) GG.out : Below w.heap.size w w4)); clear HB hl hfz hw; have HB := n1_; clear n1_))
          repeat (go_quiet (fail); try go_wp2)
          repeat (go_quiet (fail); try go_wp2)
          go_ret2
          exact ⟨by rw [HT.out]; rfl, by repeat (first | (with_reducible first | exact HB.out | apply below_alloc | apply pw_below_drewN | apply below_drew1 | refine below_set ?_ (Aside0.out (by assumption))) | exact HB.out)⟩
        · replace c4 := Bool.eq_false_iff.mpr c4
          simp only [c4, Go.Proofs.YtkpieljmhgfofaaDoorCb.crash, Bool.false_eq_true, if_false]
          by_cases c5 : a2 = true
          · subst c5
            have y3 : kn = 0 := by simp at c4; omega
            have y1 : (0 < (kn : Int)) = False := eq_false (by omega)
            have y2 : (0 < kn) = False := eq_false (by omega)
            clear c4 y3
            go_enter Tryd.func24, Tryd.ntmps24
            go_wp2_with (first | ((with_reducible refine gate_dst (N := 3) rfl ?_); refine box_event ?hg (N := 3) ?hd (cs := #[.string a0_0, .string a0_1, .int .i64 a0_2]) (t := 31) ?hr ?_; (case hd => rfl); (case hg => rfl); (case hr => first | (go_simp; done) | (go_simp; rfl)); intro gb hg w1 hbox hb; have n1_ := Aside0.mk (below_step Ya_ hb); have n3_ := Aside0.mk hbox; have n4_ := Aside0.mk ((by rw [hg]; exact below_size Ya_ : w.heap.size ≤ gb)); clear HB; have HB := n1_; have BK := n3_; have GE := n4_; clear n1_ n3_ n4_ hb hbox hg; have hcz0 : w1.cell? ⟨gb, 0, none⟩ = some (.string a0_0) := (blk_cell BK.out 0).trans rfl; have hcz1 : w1.cell? ⟨gb, 1, none⟩ = some (.string a0_1) := (blk_cell BK.out 1).trans rfl; have hcz2 : w1.cell? ⟨gb, 2, none⟩ = some (.int .i64 a0_2) := (blk_cell BK.out 2).trans rfl) | ((with_reducible refine gate_callee (f := 49) rfl ?_); (try (refine gate_guard (by rfl) ?_; dsimp only)); refine goesL_ (some 10) rfl rfl Tryd.func49 (by kernel_rfl) rfl #[.agg #[.string a0_0, .string a0_1, .int .i64 a0_2]] rfl Yc_ ?_; (with_reducible refine (spec_l27Log.calls k a0_0 a0_1 a0_2 true _ A1.out).mono ?_); rintro e w2 ⟨rfl, hb⟩; refine ⟨_, rfl, ?_⟩; have BK2 := Aside0.mk (blk_below Ycd_ hb); have n1_ := Aside0.mk (below_step Ya_ hb); clear HB; have HB := n1_; clear n1_ hb; have hcy0 : w2.cell? ⟨gb, 0, none⟩ = some (.string a0_0) := (blk_cell BK2.out 0).trans rfl; have hcy1 : w2.cell? ⟨gb, 1, none⟩ = some (.string a0_1) := (blk_cell BK2.out 1).trans rfl; have hcy2 : w2.cell? ⟨gb, 2, none⟩ = some (.int .i64 a0_2) := (blk_cell BK2.out 2).trans rfl) | (go_at_call 42; (with_reducible refine (spec_l1In.calls (kn : Int) 0 (a0_1.size : Int) true _ A2.out).mono ?_); rintro e w' ⟨rfl, ⟨nd, rfl⟩⟩) | (refine Go.Proofs.YtkpieljmhgfofaaDoorCb.conv_event _ rfl 9 53 5 _ rfl (a0_1.extract 0 kn) rfl Tryd.underlying9 Tryd.underlying53 Tryd.underlying5 ?_; intro g cap w3 hg hby hb; have BK3 := Aside0.mk (blk_below Yi_ hb); have n1_ := Aside0.mk (below_step Ya_ hb); have BY := Aside0.mk hby; have NBx : gb ≠ g := (by rw [hg]; exact Nat.ne_of_lt (blk_lt Yi_)); have GG := Aside0.mk ((by rw [hg]; exact below_size Ya_ : w.heap.size ≤ g)); clear HB; have HB := n1_; clear n1_ hb hby hg BK2; have hcu0 : w3.cell? ⟨gb, 0, none⟩ = some (.string a0_0) := (blk_cell BK3.out 0).trans rfl; have hS : (a0_1.extract 0 kn).data.toList.length = kn := (by have := C3.out; have e : (a0_1.extract 0 kn).data.toList.length = (a0_1.extract 0 kn).size := (by rw [Array.length_toList]; rfl); rw [e]; simp only [ByteArray.size_append, ByteArray.size_extract]; omega); obtain ⟨L, hL⟩ : ∃ L, L = (a0_1.extract 0 kn).data.toList := ⟨_, rfl⟩; have BYL := Aside0.mk (by rw [hL]; exact BY.out : Go.Proofs.YtkpieljmhgfofaaDoorCb.BytesAt w3 g L); have HE := Aside0.mk (by rw [hL] : (⟨L.toArray⟩ : ByteArray) = a0_1.extract 0 kn); rw [← hL] at hS; have HL := Aside0.mk hL; clear hL BY; have hcv := BYL.out.back (P := Tryd.prog) 53 9 5 cap Tryd.underlying53 Tryd.underlying5 Tryd.underlying9 (kn) hS.symm; have hcvN := fun n => (BYL.out.drewN n).back (P := Tryd.prog) 53 9 5 cap Tryd.underlying53 Tryd.underlying5 Tryd.underlying9 (kn) hS.symm; have hmn : min kn a0_1.size = kn := Nat.min_eq_left (by have := C3.out; omega); clear C3))
            repeat (go_quiet (fail); try go_wp2)
            repeat (go_quiet (fail); try go_wp2)
            go_ret2
            exact ⟨by rw [← HE.out]; rfl, by repeat (first | (with_reducible first | exact HB.out | apply below_alloc | apply pw_below_drewN | apply below_drew1 | refine below_set ?_ (Aside0.out (by assumption))) | exact HB.out)⟩
          · replace c5 := Bool.eq_false_iff.mpr c5
            subst c5
            clear c4
            go_enter Tryd.func24, Tryd.ntmps24
            go_wp2_with (first | ((with_reducible refine gate_dst (N := 3) rfl ?_); refine box_event ?hg (N := 3) ?hd (cs := #[.string a0_0, .string a0_1, .int .i64 a0_2]) (t := 31) ?hr ?_; (case hd => rfl); (case hg => rfl); (case hr => first | (go_simp; done) | (go_simp; rfl)); intro gb hg w1 hbox hb; have n1_ := Aside0.mk (below_step Ya_ hb); have n3_ := Aside0.mk hbox; have n4_ := Aside0.mk ((by rw [hg]; exact below_size Ya_ : w.heap.size ≤ gb)); clear HB; have HB := n1_; have BK := n3_; have GE := n4_; clear n1_ n3_ n4_ hb hbox hg; have hcz0 : w1.cell? ⟨gb, 0, none⟩ = some (.string a0_0) := (blk_cell BK.out 0).trans rfl; have hcz1 : w1.cell? ⟨gb, 1, none⟩ = some (.string a0_1) := (blk_cell BK.out 1).trans rfl; have hcz2 : w1.cell? ⟨gb, 2, none⟩ = some (.int .i64 a0_2) := (blk_cell BK.out 2).trans rfl) | ((with_reducible refine gate_callee (f := 49) rfl ?_); (try (refine gate_guard (by rfl) ?_; dsimp only)); refine goesL_ (some 10) rfl rfl Tryd.func49 (by kernel_rfl) rfl #[.agg #[.string a0_0, .string a0_1, .int .i64 a0_2]] rfl Yc_ ?_; (with_reducible refine (spec_l27Log.calls k a0_0 a0_1 a0_2 true _ A1.out).mono ?_); rintro e w2 ⟨rfl, hb⟩; refine ⟨_, rfl, ?_⟩; have BK2 := Aside0.mk (blk_below Ycd_ hb); have n1_ := Aside0.mk (below_step Ya_ hb); clear HB; have HB := n1_; clear n1_ hb; have hcy0 : w2.cell? ⟨gb, 0, none⟩ = some (.string a0_0) := (blk_cell BK2.out 0).trans rfl; have hcy1 : w2.cell? ⟨gb, 1, none⟩ = some (.string a0_1) := (blk_cell BK2.out 1).trans rfl; have hcy2 : w2.cell? ⟨gb, 2, none⟩ = some (.int .i64 a0_2) := (blk_cell BK2.out 2).trans rfl) | (go_at_call 42; (with_reducible refine (spec_l1In.calls (kn : Int) 0 (a0_1.size : Int) true _ A2.out).mono ?_); rintro e w' ⟨rfl, ⟨nd, rfl⟩⟩) | (refine Go.Proofs.YtkpieljmhgfofaaDoorCb.conv_event _ rfl 9 53 5 _ rfl (a0_1.extract 0 kn) rfl Tryd.underlying9 Tryd.underlying53 Tryd.underlying5 ?_; intro g cap w3 hg hby hb; have BK3 := Aside0.mk (blk_below Yi_ hb); have n1_ := Aside0.mk (below_step Ya_ hb); have BY := Aside0.mk hby; have NBx : gb ≠ g := (by rw [hg]; exact Nat.ne_of_lt (blk_lt Yi_)); have GG := Aside0.mk ((by rw [hg]; exact below_size Ya_ : w.heap.size ≤ g)); clear HB; have HB := n1_; clear n1_ hb hby hg BK2; have hcu0 : w3.cell? ⟨gb, 0, none⟩ = some (.string a0_0) := (blk_cell BK3.out 0).trans rfl; have hS : (a0_1.extract 0 kn).data.toList.length = kn := (by have := C3.out; have e : (a0_1.extract 0 kn).data.toList.length = (a0_1.extract 0 kn).size := (by rw [Array.length_toList]; rfl); rw [e]; simp only [ByteArray.size_append, ByteArray.size_extract]; omega); obtain ⟨L, hL⟩ : ∃ L, L = (a0_1.extract 0 kn).data.toList := ⟨_, rfl⟩; have BYL := Aside0.mk (by rw [hL]; exact BY.out : Go.Proofs.YtkpieljmhgfofaaDoorCb.BytesAt w3 g L); have HE := Aside0.mk (by rw [hL] : (⟨L.toArray⟩ : ByteArray) = a0_1.extract 0 kn); rw [← hL] at hS; have HL := Aside0.mk hL; clear hL BY; have hcv := BYL.out.back (P := Tryd.prog) 53 9 5 cap Tryd.underlying53 Tryd.underlying5 Tryd.underlying9 (kn) hS.symm; have hcvN := fun n => (BYL.out.drewN n).back (P := Tryd.prog) 53 9 5 cap Tryd.underlying53 Tryd.underlying5 Tryd.underlying9 (kn) hS.symm; have hmn : min kn a0_1.size = kn := Nat.min_eq_left (by have := C3.out; omega); clear C3))
            repeat (go_quiet (fail); try go_wp2)
            repeat (go_quiet (fail); try go_wp2)
            go_ret2
            exact ⟨by rw [← HE.out]; rfl, by repeat (first | (with_reducible first | exact HB.out | apply below_alloc | apply pw_below_drewN | apply below_drew1 | refine below_set ?_ (Aside0.out (by assumption))) | exact HB.out)⟩
      · rw [if_neg c3] at h; cases h
    · replace c2 := Bool.eq_false_iff.mpr c2
      subst c2
      rw [if_neg (by decide)] at h
      simp only [Option.some.injEq, Prod.mk.injEq] at h
      obtain ⟨rfl, rfl⟩ := h
      go_enter Tryd.func24, Tryd.ntmps24
      go_wp2_with (first | ((with_reducible refine gate_dst (N := 3) rfl ?_); refine box_event ?hg (N := 3) ?hd (cs := #[.string a0_0, .string a0_1, .int .i64 a0_2]) (t := 31) ?hr ?_; (case hd => rfl); (case hg => rfl); (case hr => first | (go_simp; done) | (go_simp; rfl)); intro gb hg w1 hbox hb; have n1_ := Aside0.mk (below_step Ya_ hb); have n3_ := Aside0.mk hbox; have n4_ := Aside0.mk ((by rw [hg]; exact below_size Ya_ : w.heap.size ≤ gb)); clear HB; have HB := n1_; have BK := n3_; have GE := n4_; clear n1_ n3_ n4_ hb hbox hg; have hcz0 : w1.cell? ⟨gb, 0, none⟩ = some (.string a0_0) := (blk_cell BK.out 0).trans rfl; have hcz1 : w1.cell? ⟨gb, 1, none⟩ = some (.string a0_1) := (blk_cell BK.out 1).trans rfl; have hcz2 : w1.cell? ⟨gb, 2, none⟩ = some (.int .i64 a0_2) := (blk_cell BK.out 2).trans rfl) | ((with_reducible refine gate_callee (f := 49) rfl ?_); (try (refine gate_guard (by rfl) ?_; dsimp only)); refine goesL_ (some 10) rfl rfl Tryd.func49 (by kernel_rfl) rfl #[.agg #[.string a0_0, .string a0_1, .int .i64 a0_2]] rfl Yc_ ?_; (with_reducible refine (spec_l27Log.calls k a0_0 a0_1 a0_2 true _ A1.out).mono ?_); rintro e w2 ⟨rfl, hb⟩; refine ⟨_, rfl, ?_⟩; have BK2 := Aside0.mk (blk_below Ycd_ hb); have n1_ := Aside0.mk (below_step Ya_ hb); clear HB; have HB := n1_; clear n1_ hb; have hcy0 : w2.cell? ⟨gb, 0, none⟩ = some (.string a0_0) := (blk_cell BK2.out 0).trans rfl; have hcy1 : w2.cell? ⟨gb, 1, none⟩ = some (.string a0_1) := (blk_cell BK2.out 1).trans rfl; have hcy2 : w2.cell? ⟨gb, 2, none⟩ = some (.int .i64 a0_2) := (blk_cell BK2.out 2).trans rfl) | (go_at_call 42; (with_reducible refine (spec_l1In.calls a1 0 (a0_1.size : Int) false _ A2.out).mono ?_); rintro e w' ⟨rfl, ⟨nd, rfl⟩⟩))
      repeat (go_quiet (fail); try go_wp2)
      go_ret2
      exact ⟨by first | rfl | (simp; done) | (simp [*]; done), by repeat (first | (with_reducible first | exact HB.out | apply below_alloc | apply pw_below_drewN | apply below_drew1 | refine below_set ?_ (Aside0.out (by assumption))) | exact HB.out)⟩
  · replace c1 := Bool.eq_false_iff.mpr c1
    subst c1
    rw [if_neg (by decide)] at h
    simp only [Option.some.injEq, Prod.mk.injEq] at h
    obtain ⟨rfl, rfl⟩ := h
    go_enter Tryd.func24, Tryd.ntmps24
    go_wp2_with (first | ((with_reducible refine gate_dst (N := 3) rfl ?_); refine box_event ?hg (N := 3) ?hd (cs := #[.string a0_0, .string a0_1, .int .i64 a0_2]) (t := 31) ?hr ?_; (case hd => rfl); (case hg => rfl); (case hr => first | (go_simp; done) | (go_simp; rfl)); intro gb hg w1 hbox hb; have n1_ := Aside0.mk (below_step Ya_ hb); have n3_ := Aside0.mk hbox; have n4_ := Aside0.mk ((by rw [hg]; exact below_size Ya_ : w.heap.size ≤ gb)); clear HB; have HB := n1_; have BK := n3_; have GE := n4_; clear n1_ n3_ n4_ hb hbox hg; have hcz0 : w1.cell? ⟨gb, 0, none⟩ = some (.string a0_0) := (blk_cell BK.out 0).trans rfl; have hcz1 : w1.cell? ⟨gb, 1, none⟩ = some (.string a0_1) := (blk_cell BK.out 1).trans rfl; have hcz2 : w1.cell? ⟨gb, 2, none⟩ = some (.int .i64 a0_2) := (blk_cell BK.out 2).trans rfl) | ((with_reducible refine gate_callee (f := 49) rfl ?_); (try (refine gate_guard (by rfl) ?_; dsimp only)); refine goesL_ (some 10) rfl rfl Tryd.func49 (by kernel_rfl) rfl #[.agg #[.string a0_0, .string a0_1, .int .i64 a0_2]] rfl Yc_ ?_; (with_reducible refine (spec_l27Log.calls k a0_0 a0_1 a0_2 false _ A1.out).mono ?_); rintro e w2 ⟨rfl, hb⟩; refine ⟨_, rfl, ?_⟩; have BK2 := Aside0.mk (blk_below Ycd_ hb); have n1_ := Aside0.mk (below_step Ya_ hb); clear HB; have HB := n1_; clear n1_ hb; have hcy0 : w2.cell? ⟨gb, 0, none⟩ = some (.string a0_0) := (blk_cell BK2.out 0).trans rfl; have hcy1 : w2.cell? ⟨gb, 1, none⟩ = some (.string a0_1) := (blk_cell BK2.out 1).trans rfl; have hcy2 : w2.cell? ⟨gb, 2, none⟩ = some (.int .i64 a0_2) := (blk_cell BK2.out 2).trans rfl))
    repeat (go_quiet (fail); try go_wp2)
    go_ret2
    exact ⟨by first | rfl | (simp; done) | (simp [*]; done), by repeat (first | (with_reducible first | exact HB.out | apply below_alloc | apply pw_below_drewN | apply below_drew1 | refine below_set ?_ (Aside0.out (by assumption))) | exact HB.out)⟩
end Go.Proofs.YtkpieljmhgfofaaDoor.X

namespace Go.Proofs.YtkpieljmhgfofaaDoor.X
open Go.RowKit Go.Proofs.YtkpieljmhgfofaaDoorW.PrintWords Go.Proofs.YtkpieljmhgfofaaDoorW.PrintLast Go.Proofs.YtkpieljmhgfofaaDoorW.PrintMore
attribute [local go_sem] max2_int min2_int max_two min_two max_three min_three max_four min_four
open Go.Proofs.YtkpieljmhgfofaaDoorG
def Dy.f (k : Nat) (a0_0 a0_1 : ByteArray) (a0_2 : Int) (a1 : Int) (a2 : Bool) : Option (ByteArray × Bool) := (Bv.f k a0_0 a0_1 a0_2).bind fun t => if t = true then ((Ep.f a1 0 (a0_1.size : Int)).bind fun u => if u = true then (if (0 ≤ a1 ∧ a1 ≤ (a0_1.size : Int)) ∧ a0_0.size + a0_1.size ≤ 4611686018427387904 then some (Go.Proofs.YtkpieljmhgfofaaDoorCb.crash ((a0_0 ++ a0_1.extract 0 a1.toNat)) (a2 && decide (a1 > 0)), true) else none) else some ((⟨#[]⟩ : ByteArray), false)) else some ((⟨#[]⟩ : ByteArray), false)
theorem Dy.mono (a0_0 a0_1 : ByteArray) (a0_2 : Int) (a1 : Int) (a2 : Bool) (k : Nat) : LeO (Dy.f k a0_0 a0_1 a0_2 a1 a2) (Dy.f (k + 1) a0_0 a0_1 a0_2 a1 a2) := by
  unfold Dy.f
  exact LeO.bind (Bv.mono _ _ _ _) (fun _ => LeO.refl _)
set_option maxHeartbeats 8000000 in
set_option maxRecDepth 100000 in
theorem Dy.calls (k : Nat) (a0_0 a0_1 : ByteArray) (a0_2 : Int) (a1 : Int) (a2 : Bool) (r1 : ByteArray) (r2 : Bool) (w : World) (hG : D5 w) (h : Dy.f k a0_0 a0_1 a0_2 a1 a2 = some (r1, r2)) :
    Calls Tryd.prog 25 #[.agg #[.string a0_0, .string a0_1, .int .i64 a0_2], .int .i64 a1, .bool a2] w fun e w' => e = .returned (.tuple #[.string r1, .bool r2]) ∧ Below w.heap.size w w' := by
  have hu31 := Tryd.underlying31
  have HGL := Aside0.mk hG
  clear hG
  have HB := Aside0.mk (Below.refl w.heap.size w)
  unfold Dy.f at h
  replace h := Option.bind_eq_some_iff.mp h
  obtain ⟨t, A0, h⟩ := h
  have A1 := Aside0.mk A0
  clear A0
  by_cases c1 : t = true
  · subst c1
    rw [if_pos rfl] at h
    replace h := Option.bind_eq_some_iff.mp h
    obtain ⟨u, A0, h⟩ := h
    have A2 := Aside0.mk A0
    clear A0
    by_cases c2 : u = true
    · subst c2
      rw [if_pos rfl] at h
      by_cases c3 : (0 ≤ a1 ∧ a1 ≤ (a0_1.size : Int)) ∧ a0_0.size + a0_1.size ≤ 4611686018427387904
      · rw [if_pos c3] at h
        simp only [Option.some.injEq, Prod.mk.injEq] at h
        obtain ⟨rfl, rfl⟩ := h
        obtain ⟨kn, rfl⟩ := Int.eq_ofNat_of_zero_le c3.1.1
        have C3 := Aside0.mk c3
        have x1 : kn ≤ a0_1.size := by omega
        clear c3
        rw [Int.toNat_natCast]
        have x2 : ((kn : Int) ≤ (a0_1.size : Int)) = True := eq_true (by omega)
        have x3 : (kn ≤ a0_1.size) = True := eq_true x1
        have x4 : (9223372036854775807 < a0_0.size + kn) = False := eq_false (by have := C3.out; omega)
        clear x1
        by_cases c4 : (a2 && decide ((kn : Int) > 0)) = true
        · simp only [Bool.and_eq_true, decide_eq_true_eq] at c4
          obtain ⟨rfl, c5⟩ := c4
          simp only [show (true && decide ((kn : Int) > 0)) = true by simp; omega, Go.Proofs.YtkpieljmhgfofaaDoorCb.crash, if_true]
          have y1 : (0 < (kn : Int)) = True := eq_true (by omega)
          have y2 : (0 < kn) = True := eq_true (by omega)
          go_enter Tryd.func25, Tryd.ntmps25
          go_wp2_with (first | ((with_reducible refine gate_dst (N := 3) rfl ?_); refine box_event ?hg (N := 3) ?hd (cs := #[.string a0_0, .string a0_1, .int .i64 a0_2]) (t := 31) ?hr ?_; (case hd => rfl); (case hg => rfl); (case hr => first | (go_simp; done) | (go_simp; rfl)); intro gb hg w1 hbox hb; have n1_ := Aside0.mk (below_step Ya_ hb); have n3_ := Aside0.mk hbox; have n4_ := Aside0.mk ((by rw [hg]; exact below_size Ya_ : w.heap.size ≤ gb)); clear HB; have HB := n1_; have BK := n3_; have GE := n4_; clear n1_ n3_ n4_ hb hbox hg; have hcz0 : w1.cell? ⟨gb, 0, none⟩ = some (.string a0_0) := (blk_cell BK.out 0).trans rfl; have hcz1 : w1.cell? ⟨gb, 1, none⟩ = some (.string a0_1) := (blk_cell BK.out 1).trans rfl; have hcz2 : w1.cell? ⟨gb, 2, none⟩ = some (.int .i64 a0_2) := (blk_cell BK.out 2).trans rfl) | ((with_reducible refine gate_callee (f := 23) rfl ?_); (try (refine gate_guard (by rfl) ?_; dsimp only)); refine goesL_ (some 10) rfl rfl Tryd.func23 (by kernel_rfl) rfl #[.agg #[.string a0_0, .string a0_1, .int .i64 a0_2]] rfl Yc_ ?_; (with_reducible refine (Bv.calls k a0_0 a0_1 a0_2 true _ (D5.below HGL.out Ya_) A1.out).mono ?_); rintro e w2 ⟨rfl, hb⟩; refine ⟨_, rfl, ?_⟩; have BK2 := Aside0.mk (blk_below Ycd_ hb); have n1_ := Aside0.mk (below_step Ya_ hb); clear HB; have HB := n1_; clear n1_ hb; have hcy0 : w2.cell? ⟨gb, 0, none⟩ = some (.string a0_0) := (blk_cell BK2.out 0).trans rfl; have hcy1 : w2.cell? ⟨gb, 1, none⟩ = some (.string a0_1) := (blk_cell BK2.out 1).trans rfl; have hcy2 : w2.cell? ⟨gb, 2, none⟩ = some (.int .i64 a0_2) := (blk_cell BK2.out 2).trans rfl) | (go_at_call 45; (with_reducible refine (Ep.calls (kn : Int) 0 (a0_1.size : Int) true _ A2.out).mono ?_); rintro e w' ⟨rfl, ⟨nd, rfl⟩⟩))
          repeat (go_quiet (fail); try go_wp2)
          refine start_ (n := 9) (S := fun w' => w'.cell? ⟨gb, 0, none⟩ = some (.string a0_0) ∧ w'.cell? ⟨gb, 1, none⟩ = some (.string a0_1)) (ds := []) #[false, false, false, false, false, false, false, false, false] (by kernel_rfl) rfl rfl ⟨(blk_cell Yi_ 0).trans rfl, (blk_cell Yi_ 1).trans rfl⟩ (fun hHeld => ?_)
          refine take_ (i := 0) (N := some 20) (v := ?_) (a' := ?_) #[true, false, false, false, false, false, false, false, false] rfl rfl (by kernel_rfl) (fun _ _ _ h => h) (Or.inl ⟨by rfl, ?_⟩) hHeld ?_ ?_
          rotate_left
          · rintro w' ⟨s0, s1⟩
            go_simp
            first | done | with_reducible rfl | (rw [if_neg (by omega)]; try with_reducible rfl)
          rotate_left
          · simp only [Act.put, List.setIfInBounds_toArray, List.set_cons_zero, List.set_cons_succ, i64_w, i32_w]
            rfl
          refine take_ (i := 1) (N := some 21) (v := ?_) (a' := ?_) #[true, true, false, false, false, false, false, false, false] rfl rfl (by kernel_rfl) (fun _ _ _ h => h) (Or.inl ⟨by rfl, ?_⟩) hHeld ?_ ?_
          rotate_left
          · rintro w' ⟨s0, s1⟩
            go_simp
            first | done | with_reducible rfl | (rw [if_neg (by omega)]; try with_reducible rfl)
          rotate_left
          · simp only [Act.put, List.setIfInBounds_toArray, List.set_cons_zero, List.set_cons_succ, i64_w, i32_w]
            rfl
          refine take_ (i := 2) (N := some 22) (v := ?_) (a' := ?_) #[true, true, true, false, false, false, false, false, false] rfl rfl (by kernel_rfl) (fun _ _ _ h => h) (Or.inl ⟨by rfl, ?_⟩) hHeld ?_ ?_
          rotate_left
          · rintro w' ⟨s0, s1⟩
            go_simp
            first | done | with_reducible rfl | (rw [if_neg (by omega)]; try with_reducible rfl)
          rotate_left
          · simp only [Act.put, List.setIfInBounds_toArray, List.set_cons_zero, List.set_cons_succ, i64_w, i32_w]
            rfl
          refine take_ (i := 3) (N := some 23) (v := ?_) (a' := ?_) #[true, true, true, true, false, false, false, false, false] rfl rfl (by kernel_rfl) (fun _ _ _ h => h) (Or.inl ⟨by rfl, ?_⟩) hHeld ?_ ?_
          rotate_left
          · rintro w' ⟨s0, s1⟩
            go_simp
            first | done | with_reducible rfl | (rw [if_neg (by omega)]; try with_reducible rfl)
          rotate_left
          · simp only [Act.put, List.setIfInBounds_toArray, List.set_cons_zero, List.set_cons_succ, i64_w, i32_w]
            rfl
          refine pure_ (i := 4) (N := some 24) (v := ?_) (a' := ?_) #[true, true, true, true, true, false, false, false, false] rfl rfl (by kernel_rfl) (fun _ _ _ h => h) (Or.inl ⟨by rfl, ?_⟩) ?_ ?_
          rotate_left
          · intro w'
            go_simp
            first | done | with_reducible rfl | (rw [if_neg (by omega)]; try with_reducible rfl)
          rotate_left
          · simp only [Act.put, List.setIfInBounds_toArray, List.set_cons_zero, List.set_cons_succ, i64_w, i32_w]
            rfl
          refine pure_ (i := 5) (N := some 25) (v := ?_) (a' := ?_) #[true, true, true, true, true, true, false, false, false] rfl rfl (by kernel_rfl) (fun _ _ _ h => h) (Or.inl ⟨by rfl, ?_⟩) ?_ ?_
          rotate_left
          · intro w'
            go_simp
            first | done | with_reducible rfl | (rw [if_neg (by omega)]; try with_reducible rfl)
          rotate_left
          · simp only [Act.put, List.setIfInBounds_toArray, List.set_cons_zero, List.set_cons_succ, i64_w, i32_w]
            rfl
          refine pure_ (i := 6) (N := some 26) (v := ?_) (a' := ?_) #[true, true, true, true, true, true, true, false, false] rfl rfl (by kernel_rfl) (fun _ _ _ h => h) (Or.inl ⟨by rfl, ?_⟩) ?_ ?_
          rotate_left
          · intro w'
            go_simp
            first | done | with_reducible rfl | (rw [if_neg (by omega)]; try with_reducible rfl)
          rotate_left
          · simp only [Act.put, List.setIfInBounds_toArray, List.set_cons_zero, List.set_cons_succ, i64_w, i32_w]
            rfl
          refine one_ (i := 7) (N := some 27) #[true, true, true, true, true, true, true, true, false] rfl rfl (by kernel_rfl) (by decide) (fun K hK => ?_)
          refine Go.Proofs.YtkpieljmhgfofaaDoorCb.conv_step _ 9 53 5 _ rfl rfl rfl ((a0_0 ++ a0_1.extract 0 kn)) rfl Tryd.underlying9 Tryd.underlying53 Tryd.underlying5 ?_
          intro g cap w3 hg hby hb
          have BK3 := Aside0.mk (blk_below Yi_ hb)
          have n1_ := Aside0.mk (below_step Ya_ hb)
          have BY := Aside0.mk hby
          have NBx : gb ≠ g := by rw [hg]; exact Nat.ne_of_lt (blk_lt Yi_)
          have GG := Aside0.mk ((by rw [hg]; exact below_size Ya_ : w.heap.size ≤ g))
          clear HB
          have HB := n1_
          clear n1_ hb hby hg BK2 hHeld
          refine hK.out _ _ ⟨(blk_cell BK3.out 0).trans rfl, (blk_cell BK3.out 1).trans rfl⟩ (fun hHeld => ?_)
          clear hK K
          refine norm_ (a' := ?_) ?_ ?_
          rotate_left
          · show Act.put _ (some 27) _ = _
            simp only [Act.put, List.setIfInBounds_toArray, List.set_cons_zero, List.set_cons_succ, i64_w, i32_w]
            rfl
          refine pure_ (i := 8) (N := some 8) (v := ?_) (a' := ?_) #[true, true, true, true, true, true, true, true, true] rfl rfl (by kernel_rfl) (fun _ _ _ h => h) (Or.inl ⟨by rfl, ?_⟩) ?_ ?_
          rotate_left
          · intro w'
            go_simp
            first | done | with_reducible rfl | (rw [if_neg (by omega)]; try with_reducible rfl)
          rotate_left
          · simp only [Act.put, List.setIfInBounds_toArray, List.set_cons_zero, List.set_cons_succ, i64_w, i32_w]
            rfl
          refine done_ (by kernel_rfl) ?_
          have hS : ((a0_0 ++ a0_1.extract 0 kn)).data.toList.length = a0_0.size + kn := by
            have := C3.out
            have e : ((a0_0 ++ a0_1.extract 0 kn)).data.toList.length = ((a0_0 ++ a0_1.extract 0 kn)).size := by rw [Array.length_toList]; rfl
            rw [e]; simp only [ByteArray.size_append, ByteArray.size_extract]; omega
          obtain ⟨L, hL⟩ : ∃ L, L = ((a0_0 ++ a0_1.extract 0 kn)).data.toList := ⟨_, rfl⟩
          have BYL := Aside0.mk (by rw [hL]; exact BY.out : Go.Proofs.YtkpieljmhgfofaaDoorCb.BytesAt w3 g L)
          have HE := Aside0.mk (by rw [hL] : (⟨L.toArray⟩ : ByteArray) = (a0_0 ++ a0_1.extract 0 kn))
          rw [← hL] at hS
          have HL := Aside0.mk hL
          clear hL BY
          obtain ⟨M, hM⟩ : ∃ M, M + 1 = a0_0.size + kn := ⟨a0_0.size + kn - 1, by omega⟩
          have hml : M < L.length := by omega
          have hl := BYL.out.cell M hml
          have hfz := BYL.out.frozen M hml
          have ht : Go.Proofs.YtkpieljmhgfofaaDoorCb.torn ((a0_0 ++ a0_1.extract 0 kn)).data.toList = L.set M (255 - L[M]) := by
            rw [← HL.out]
            have e : L.length - 1 = M := by omega
            unfold Go.Proofs.YtkpieljmhgfofaaDoorCb.torn
            rw [e, List.getD_eq_getElem?_getD, List.getElem?_eq_getElem hml]; rfl
          generalize hbb : L[M] = b at hl ht
          have HT := Aside0.mk ht
          have hS2 : (L.set M (255 - b)).length = a0_0.size + kn := by rw [List.length_set]; exact hS
          have hwr : wrap64 ((a0_0.size : Int) + (kn : Int) - 1) = (M : Int) := by have := C3.out; unfold wrap64; omega
          have hi0 : ((M : Int) < (a0_0.size : Int) + (kn : Int)) = True := eq_true (by omega)
          have hi1 : (M < a0_0.size + kn) = True := eq_true (by omega)
          have hsb : IntKind.u8.wrap (255 - (b.toNat : Int)) = ((255 - b : UInt8).toNat : Int) := Go.Proofs.YtkpieljmhgfofaaDoorCb.sub_wrap b
          have hmn : min kn a0_1.size = kn := Nat.min_eq_left (by have := C3.out; omega)
          have NB := Aside0.mk NBx
          clear C3 ht hbb
          go_wp2_with (first | ((with_reducible refine gate_store (t := 5) (p := 44) rfl ?_); refine store_event (t := 5) (p := 44) (v := ?vo_) (w1 := (w3.setCell ⟨g, M, none⟩ (.int .u8 ((255 - b : UInt8).toNat : Int)))) ?hg ?ho ?hn ?hr ?_; (case ho => rfl); (case hg => rfl); (case hn => rfl); (case hr => first | (go_simp; done) | (go_simp; rfl)); intro w4 hw; have BY2 := Aside0.mk (by rw [hw]; exact BYL.out.put M (255 - b) : Go.Proofs.YtkpieljmhgfofaaDoorCb.BytesAt w4 g _); have hcv := BY2.out.back (P := Tryd.prog) 53 9 5 cap Tryd.underlying53 Tryd.underlying5 Tryd.underlying9 (a0_0.size + kn) hS2.symm; have hcvN := fun n => (BY2.out.drewN n).back (P := Tryd.prog) 53 9 5 cap Tryd.underlying53 Tryd.underlying5 Tryd.underlying9 (a0_0.size + kn) hS2.symm; have BK4 := Aside0.mk (by rw [hw]; exact blk_far BK3.out NB.out _ : w4.heap[gb]? = some (.cells #[.string a0_0, .string a0_1, .int .i64 a0_2] 31 (0, 0))); have hcw0 : w4.cell? ⟨gb, 0, none⟩ = some (.string a0_0) := (blk_cell BK4.out 0).trans rfl; have n1_ := Aside0.mk ((by rw [hw]; exact below_set (HB.out) GG.out : Below w.heap.size w w4)); clear HB hl hfz hw; have HB := n1_; clear n1_))
          repeat (go_quiet (fail); try go_wp2)
          go_ret2
          exact ⟨by rw [HT.out]; rfl, by repeat (first | (with_reducible first | exact HB.out | apply below_alloc | apply pw_below_drewN | apply below_drew1 | refine below_set ?_ (Aside0.out (by assumption))) | exact HB.out)⟩
        · replace c4 := Bool.eq_false_iff.mpr c4
          simp only [c4, Go.Proofs.YtkpieljmhgfofaaDoorCb.crash, Bool.false_eq_true, if_false]
          by_cases c5 : a2 = true
          · subst c5
            have y3 : kn = 0 := by simp at c4; omega
            have y1 : (0 < (kn : Int)) = False := eq_false (by omega)
            have y2 : (0 < kn) = False := eq_false (by omega)
            clear c4 y3
            go_enter Tryd.func25, Tryd.ntmps25
            go_wp2_with (first | ((with_reducible refine gate_dst (N := 3) rfl ?_); refine box_event ?hg (N := 3) ?hd (cs := #[.string a0_0, .string a0_1, .int .i64 a0_2]) (t := 31) ?hr ?_; (case hd => rfl); (case hg => rfl); (case hr => first | (go_simp; done) | (go_simp; rfl)); intro gb hg w1 hbox hb; have n1_ := Aside0.mk (below_step Ya_ hb); have n3_ := Aside0.mk hbox; have n4_ := Aside0.mk ((by rw [hg]; exact below_size Ya_ : w.heap.size ≤ gb)); clear HB; have HB := n1_; have BK := n3_; have GE := n4_; clear n1_ n3_ n4_ hb hbox hg; have hcz0 : w1.cell? ⟨gb, 0, none⟩ = some (.string a0_0) := (blk_cell BK.out 0).trans rfl; have hcz1 : w1.cell? ⟨gb, 1, none⟩ = some (.string a0_1) := (blk_cell BK.out 1).trans rfl; have hcz2 : w1.cell? ⟨gb, 2, none⟩ = some (.int .i64 a0_2) := (blk_cell BK.out 2).trans rfl) | ((with_reducible refine gate_callee (f := 23) rfl ?_); (try (refine gate_guard (by rfl) ?_; dsimp only)); refine goesL_ (some 10) rfl rfl Tryd.func23 (by kernel_rfl) rfl #[.agg #[.string a0_0, .string a0_1, .int .i64 a0_2]] rfl Yc_ ?_; (with_reducible refine (Bv.calls k a0_0 a0_1 a0_2 true _ (D5.below HGL.out Ya_) A1.out).mono ?_); rintro e w2 ⟨rfl, hb⟩; refine ⟨_, rfl, ?_⟩; have BK2 := Aside0.mk (blk_below Ycd_ hb); have n1_ := Aside0.mk (below_step Ya_ hb); clear HB; have HB := n1_; clear n1_ hb; have hcy0 : w2.cell? ⟨gb, 0, none⟩ = some (.string a0_0) := (blk_cell BK2.out 0).trans rfl; have hcy1 : w2.cell? ⟨gb, 1, none⟩ = some (.string a0_1) := (blk_cell BK2.out 1).trans rfl; have hcy2 : w2.cell? ⟨gb, 2, none⟩ = some (.int .i64 a0_2) := (blk_cell BK2.out 2).trans rfl) | (go_at_call 45; (with_reducible refine (Ep.calls (kn : Int) 0 (a0_1.size : Int) true _ A2.out).mono ?_); rintro e w' ⟨rfl, ⟨nd, rfl⟩⟩))
            repeat (go_quiet (fail); try go_wp2)
            refine start_ (n := 9) (S := fun w' => w'.cell? ⟨gb, 0, none⟩ = some (.string a0_0) ∧ w'.cell? ⟨gb, 1, none⟩ = some (.string a0_1)) (ds := []) #[false, false, false, false, false, false, false, false, false] (by kernel_rfl) rfl rfl ⟨(blk_cell Yi_ 0).trans rfl, (blk_cell Yi_ 1).trans rfl⟩ (fun hHeld => ?_)
            refine take_ (i := 0) (N := some 20) (v := ?_) (a' := ?_) #[true, false, false, false, false, false, false, false, false] rfl rfl (by kernel_rfl) (fun _ _ _ h => h) (Or.inl ⟨by rfl, ?_⟩) hHeld ?_ ?_
            rotate_left
            · rintro w' ⟨s0, s1⟩
              go_simp
              first | done | with_reducible rfl | (rw [if_neg (by omega)]; try with_reducible rfl)
            rotate_left
            · simp only [Act.put, List.setIfInBounds_toArray, List.set_cons_zero, List.set_cons_succ, i64_w, i32_w]
              rfl
            refine take_ (i := 1) (N := some 21) (v := ?_) (a' := ?_) #[true, true, false, false, false, false, false, false, false] rfl rfl (by kernel_rfl) (fun _ _ _ h => h) (Or.inl ⟨by rfl, ?_⟩) hHeld ?_ ?_
            rotate_left
            · rintro w' ⟨s0, s1⟩
              go_simp
              first | done | with_reducible rfl | (rw [if_neg (by omega)]; try with_reducible rfl)
            rotate_left
            · simp only [Act.put, List.setIfInBounds_toArray, List.set_cons_zero, List.set_cons_succ, i64_w, i32_w]
              rfl
            refine take_ (i := 2) (N := some 22) (v := ?_) (a' := ?_) #[true, true, true, false, false, false, false, false, false] rfl rfl (by kernel_rfl) (fun _ _ _ h => h) (Or.inl ⟨by rfl, ?_⟩) hHeld ?_ ?_
            rotate_left
            · rintro w' ⟨s0, s1⟩
              go_simp
              first | done | with_reducible rfl | (rw [if_neg (by omega)]; try with_reducible rfl)
            rotate_left
            · simp only [Act.put, List.setIfInBounds_toArray, List.set_cons_zero, List.set_cons_succ, i64_w, i32_w]
              rfl
            refine take_ (i := 3) (N := some 23) (v := ?_) (a' := ?_) #[true, true, true, true, false, false, false, false, false] rfl rfl (by kernel_rfl) (fun _ _ _ h => h) (Or.inl ⟨by rfl, ?_⟩) hHeld ?_ ?_
            rotate_left
            · rintro w' ⟨s0, s1⟩
              go_simp
              first | done | with_reducible rfl | (rw [if_neg (by omega)]; try with_reducible rfl)
            rotate_left
            · simp only [Act.put, List.setIfInBounds_toArray, List.set_cons_zero, List.set_cons_succ, i64_w, i32_w]
              rfl
            refine pure_ (i := 4) (N := some 24) (v := ?_) (a' := ?_) #[true, true, true, true, true, false, false, false, false] rfl rfl (by kernel_rfl) (fun _ _ _ h => h) (Or.inl ⟨by rfl, ?_⟩) ?_ ?_
            rotate_left
            · intro w'
              go_simp
              first | done | with_reducible rfl | (rw [if_neg (by omega)]; try with_reducible rfl)
            rotate_left
            · simp only [Act.put, List.setIfInBounds_toArray, List.set_cons_zero, List.set_cons_succ, i64_w, i32_w]
              rfl
            refine pure_ (i := 5) (N := some 25) (v := ?_) (a' := ?_) #[true, true, true, true, true, true, false, false, false] rfl rfl (by kernel_rfl) (fun _ _ _ h => h) (Or.inl ⟨by rfl, ?_⟩) ?_ ?_
            rotate_left
            · intro w'
              go_simp
              first | done | with_reducible rfl | (rw [if_neg (by omega)]; try with_reducible rfl)
            rotate_left
            · simp only [Act.put, List.setIfInBounds_toArray, List.set_cons_zero, List.set_cons_succ, i64_w, i32_w]
              rfl
            refine pure_ (i := 6) (N := some 26) (v := ?_) (a' := ?_) #[true, true, true, true, true, true, true, false, false] rfl rfl (by kernel_rfl) (fun _ _ _ h => h) (Or.inl ⟨by rfl, ?_⟩) ?_ ?_
            rotate_left
            · intro w'
              go_simp
              first | done | with_reducible rfl | (rw [if_neg (by omega)]; try with_reducible rfl)
            rotate_left
            · simp only [Act.put, List.setIfInBounds_toArray, List.set_cons_zero, List.set_cons_succ, i64_w, i32_w]
              rfl
            refine one_ (i := 7) (N := some 27) #[true, true, true, true, true, true, true, true, false] rfl rfl (by kernel_rfl) (by decide) (fun K hK => ?_)
            refine Go.Proofs.YtkpieljmhgfofaaDoorCb.conv_step _ 9 53 5 _ rfl rfl rfl ((a0_0 ++ a0_1.extract 0 kn)) rfl Tryd.underlying9 Tryd.underlying53 Tryd.underlying5 ?_
            intro g cap w3 hg hby hb
            have BK3 := Aside0.mk (blk_below Yi_ hb)
            have n1_ := Aside0.mk (below_step Ya_ hb)
            have BY := Aside0.mk hby
            have NBx : gb ≠ g := by rw [hg]; exact Nat.ne_of_lt (blk_lt Yi_)
            have GG := Aside0.mk ((by rw [hg]; exact below_size Ya_ : w.heap.size ≤ g))
            clear HB
            have HB := n1_
            clear n1_ hb hby hg BK2 hHeld
            refine hK.out _ _ ⟨(blk_cell BK3.out 0).trans rfl, (blk_cell BK3.out 1).trans rfl⟩ (fun hHeld => ?_)
            clear hK K
            refine norm_ (a' := ?_) ?_ ?_
            rotate_left
            · show Act.put _ (some 27) _ = _
              simp only [Act.put, List.setIfInBounds_toArray, List.set_cons_zero, List.set_cons_succ, i64_w, i32_w]
              rfl
            refine pure_ (i := 8) (N := some 8) (v := ?_) (a' := ?_) #[true, true, true, true, true, true, true, true, true] rfl rfl (by kernel_rfl) (fun _ _ _ h => h) (Or.inl ⟨by rfl, ?_⟩) ?_ ?_
            rotate_left
            · intro w'
              go_simp
              first | done | with_reducible rfl | (rw [if_neg (by omega)]; try with_reducible rfl)
            rotate_left
            · simp only [Act.put, List.setIfInBounds_toArray, List.set_cons_zero, List.set_cons_succ, i64_w, i32_w]
              rfl
            refine done_ (by kernel_rfl) ?_
            have hS : ((a0_0 ++ a0_1.extract 0 kn)).data.toList.length = a0_0.size + kn := by
              have := C3.out
              have e : ((a0_0 ++ a0_1.extract 0 kn)).data.toList.length = ((a0_0 ++ a0_1.extract 0 kn)).size := by rw [Array.length_toList]; rfl
              rw [e]; simp only [ByteArray.size_append, ByteArray.size_extract]; omega
            obtain ⟨L, hL⟩ : ∃ L, L = ((a0_0 ++ a0_1.extract 0 kn)).data.toList := ⟨_, rfl⟩
            have BYL := Aside0.mk (by rw [hL]; exact BY.out : Go.Proofs.YtkpieljmhgfofaaDoorCb.BytesAt w3 g L)
            have HE := Aside0.mk (by rw [hL] : (⟨L.toArray⟩ : ByteArray) = (a0_0 ++ a0_1.extract 0 kn))
            rw [← hL] at hS
            have HL := Aside0.mk hL
            clear hL BY
            have hcv := BYL.out.back (P := Tryd.prog) 53 9 5 cap Tryd.underlying53 Tryd.underlying5 Tryd.underlying9 (a0_0.size + kn) hS.symm
            have hcvN := fun n => (BYL.out.drewN n).back (P := Tryd.prog) 53 9 5 cap Tryd.underlying53 Tryd.underlying5 Tryd.underlying9 (a0_0.size + kn) hS.symm
            have hmn : min kn a0_1.size = kn := Nat.min_eq_left (by have := C3.out; omega)
            clear C3
            try go_wp2
            repeat (go_quiet (fail); try go_wp2)
            go_ret2
            exact ⟨by rw [← HE.out]; rfl, by repeat (first | (with_reducible first | exact HB.out | apply below_alloc | apply pw_below_drewN | apply below_drew1 | refine below_set ?_ (Aside0.out (by assumption))) | exact HB.out)⟩
          · replace c5 := Bool.eq_false_iff.mpr c5
            subst c5
            clear c4
            go_enter Tryd.func25, Tryd.ntmps25
            go_wp2_with (first | ((with_reducible refine gate_dst (N := 3) rfl ?_); refine box_event ?hg (N := 3) ?hd (cs := #[.string a0_0, .string a0_1, .int .i64 a0_2]) (t := 31) ?hr ?_; (case hd => rfl); (case hg => rfl); (case hr => first | (go_simp; done) | (go_simp; rfl)); intro gb hg w1 hbox hb; have n1_ := Aside0.mk (below_step Ya_ hb); have n3_ := Aside0.mk hbox; have n4_ := Aside0.mk ((by rw [hg]; exact below_size Ya_ : w.heap.size ≤ gb)); clear HB; have HB := n1_; have BK := n3_; have GE := n4_; clear n1_ n3_ n4_ hb hbox hg; have hcz0 : w1.cell? ⟨gb, 0, none⟩ = some (.string a0_0) := (blk_cell BK.out 0).trans rfl; have hcz1 : w1.cell? ⟨gb, 1, none⟩ = some (.string a0_1) := (blk_cell BK.out 1).trans rfl; have hcz2 : w1.cell? ⟨gb, 2, none⟩ = some (.int .i64 a0_2) := (blk_cell BK.out 2).trans rfl) | ((with_reducible refine gate_callee (f := 23) rfl ?_); (try (refine gate_guard (by rfl) ?_; dsimp only)); refine goesL_ (some 10) rfl rfl Tryd.func23 (by kernel_rfl) rfl #[.agg #[.string a0_0, .string a0_1, .int .i64 a0_2]] rfl Yc_ ?_; (with_reducible refine (Bv.calls k a0_0 a0_1 a0_2 true _ (D5.below HGL.out Ya_) A1.out).mono ?_); rintro e w2 ⟨rfl, hb⟩; refine ⟨_, rfl, ?_⟩; have BK2 := Aside0.mk (blk_below Ycd_ hb); have n1_ := Aside0.mk (below_step Ya_ hb); clear HB; have HB := n1_; clear n1_ hb; have hcy0 : w2.cell? ⟨gb, 0, none⟩ = some (.string a0_0) := (blk_cell BK2.out 0).trans rfl; have hcy1 : w2.cell? ⟨gb, 1, none⟩ = some (.string a0_1) := (blk_cell BK2.out 1).trans rfl; have hcy2 : w2.cell? ⟨gb, 2, none⟩ = some (.int .i64 a0_2) := (blk_cell BK2.out 2).trans rfl) | (go_at_call 45; (with_reducible refine (Ep.calls (kn : Int) 0 (a0_1.size : Int) true _ A2.out).mono ?_); rintro e w' ⟨rfl, ⟨nd, rfl⟩⟩))
            repeat (go_quiet (fail); try go_wp2)
            refine start_ (n := 9) (S := fun w' => w'.cell? ⟨gb, 0, none⟩ = some (.string a0_0) ∧ w'.cell? ⟨gb, 1, none⟩ = some (.string a0_1)) (ds := []) #[false, false, false, false, false, false, false, false, false] (by kernel_rfl) rfl rfl ⟨(blk_cell Yi_ 0).trans rfl, (blk_cell Yi_ 1).trans rfl⟩ (fun hHeld => ?_)
            refine take_ (i := 0) (N := some 20) (v := ?_) (a' := ?_) #[true, false, false, false, false, false, false, false, false] rfl rfl (by kernel_rfl) (fun _ _ _ h => h) (Or.inl ⟨by rfl, ?_⟩) hHeld ?_ ?_
            rotate_left
            · rintro w' ⟨s0, s1⟩
              go_simp
              first | done | with_reducible rfl | (rw [if_neg (by omega)]; try with_reducible rfl)
            rotate_left
            · simp only [Act.put, List.setIfInBounds_toArray, List.set_cons_zero, List.set_cons_succ, i64_w, i32_w]
              rfl
            refine take_ (i := 1) (N := some 21) (v := ?_) (a' := ?_) #[true, true, false, false, false, false, false, false, false] rfl rfl (by kernel_rfl) (fun _ _ _ h => h) (Or.inl ⟨by rfl, ?_⟩) hHeld ?_ ?_
            rotate_left
            · rintro w' ⟨s0, s1⟩
              go_simp
              first | done | with_reducible rfl | (rw [if_neg (by omega)]; try with_reducible rfl)
            rotate_left
            · simp only [Act.put, List.setIfInBounds_toArray, List.set_cons_zero, List.set_cons_succ, i64_w, i32_w]
              rfl
            refine take_ (i := 2) (N := some 22) (v := ?_) (a' := ?_) #[true, true, true, false, false, false, false, false, false] rfl rfl (by kernel_rfl) (fun _ _ _ h => h) (Or.inl ⟨by rfl, ?_⟩) hHeld ?_ ?_
            rotate_left
            · rintro w' ⟨s0, s1⟩
              go_simp
              first | done | with_reducible rfl | (rw [if_neg (by omega)]; try with_reducible rfl)
            rotate_left
            · simp only [Act.put, List.setIfInBounds_toArray, List.set_cons_zero, List.set_cons_succ, i64_w, i32_w]
              rfl
            refine take_ (i := 3) (N := some 23) (v := ?_) (a' := ?_) #[true, true, true, true, false, false, false, false, false] rfl rfl (by kernel_rfl) (fun _ _ _ h => h) (Or.inl ⟨by rfl, ?_⟩) hHeld ?_ ?_
            rotate_left
            · rintro w' ⟨s0, s1⟩
              go_simp
              first | done | with_reducible rfl | (rw [if_neg (by omega)]; try with_reducible rfl)
            rotate_left
            · simp only [Act.put, List.setIfInBounds_toArray, List.set_cons_zero, List.set_cons_succ, i64_w, i32_w]
              rfl
            refine pure_ (i := 4) (N := some 24) (v := ?_) (a' := ?_) #[true, true, true, true, true, false, false, false, false] rfl rfl (by kernel_rfl) (fun _ _ _ h => h) (Or.inl ⟨by rfl, ?_⟩) ?_ ?_
            rotate_left
            · intro w'
              go_simp
              first | done | with_reducible rfl | (rw [if_neg (by omega)]; try with_reducible rfl)
            rotate_left
            · simp only [Act.put, List.setIfInBounds_toArray, List.set_cons_zero, List.set_cons_succ, i64_w, i32_w]
              rfl
            refine pure_ (i := 5) (N := some 25) (v := ?_) (a' := ?_) #[true, true, true, true, true, true, false, false, false] rfl rfl (by kernel_rfl) (fun _ _ _ h => h) (Or.inl ⟨by rfl, ?_⟩) ?_ ?_
            rotate_left
            · intro w'
              go_simp
              first | done | with_reducible rfl | (rw [if_neg (by omega)]; try with_reducible rfl)
            rotate_left
            · simp only [Act.put, List.setIfInBounds_toArray, List.set_cons_zero, List.set_cons_succ, i64_w, i32_w]
              rfl
            refine pure_ (i := 6) (N := some 26) (v := ?_) (a' := ?_) #[true, true, true, true, true, true, true, false, false] rfl rfl (by kernel_rfl) (fun _ _ _ h => h) (Or.inl ⟨by rfl, ?_⟩) ?_ ?_
            rotate_left
            · intro w'
              go_simp
              first | done | with_reducible rfl | (rw [if_neg (by omega)]; try with_reducible rfl)
            rotate_left
            · simp only [Act.put, List.setIfInBounds_toArray, List.set_cons_zero, List.set_cons_succ, i64_w, i32_w]
              rfl
            refine one_ (i := 7) (N := some 27) #[true, true, true, true, true, true, true, true, false] rfl rfl (by kernel_rfl) (by decide) (fun K hK => ?_)
            refine Go.Proofs.YtkpieljmhgfofaaDoorCb.conv_step _ 9 53 5 _ rfl rfl rfl ((a0_0 ++ a0_1.extract 0 kn)) rfl Tryd.underlying9 Tryd.underlying53 Tryd.underlying5 ?_
            intro g cap w3 hg hby hb
            have BK3 := Aside0.mk (blk_below Yi_ hb)
            have n1_ := Aside0.mk (below_step Ya_ hb)
            have BY := Aside0.mk hby
            have NBx : gb ≠ g := by rw [hg]; exact Nat.ne_of_lt (blk_lt Yi_)
            have GG := Aside0.mk ((by rw [hg]; exact below_size Ya_ : w.heap.size ≤ g))
            clear HB
            have HB := n1_
            clear n1_ hb hby hg BK2 hHeld
            refine hK.out _ _ ⟨(blk_cell BK3.out 0).trans rfl, (blk_cell BK3.out 1).trans rfl⟩ (fun hHeld => ?_)
            clear hK K
            refine norm_ (a' := ?_) ?_ ?_
            rotate_left
            · show Act.put _ (some 27) _ = _
              simp only [Act.put, List.setIfInBounds_toArray, List.set_cons_zero, List.set_cons_succ, i64_w, i32_w]
              rfl
            refine pure_ (i := 8) (N := some 8) (v := ?_) (a' := ?_) #[true, true, true, true, true, true, true, true, true] rfl rfl (by kernel_rfl) (fun _ _ _ h => h) (Or.inl ⟨by rfl, ?_⟩) ?_ ?_
            rotate_left
            · intro w'
              go_simp
              first | done | with_reducible rfl | (rw [if_neg (by omega)]; try with_reducible rfl)
            rotate_left
            · simp only [Act.put, List.setIfInBounds_toArray, List.set_cons_zero, List.set_cons_succ, i64_w, i32_w]
              rfl
            refine done_ (by kernel_rfl) ?_
            have hS : ((a0_0 ++ a0_1.extract 0 kn)).data.toList.length = a0_0.size + kn := by
              have := C3.out
              have e : ((a0_0 ++ a0_1.extract 0 kn)).data.toList.length = ((a0_0 ++ a0_1.extract 0 kn)).size := by rw [Array.length_toList]; rfl
              rw [e]; simp only [ByteArray.size_append, ByteArray.size_extract]; omega
            obtain ⟨L, hL⟩ : ∃ L, L = ((a0_0 ++ a0_1.extract 0 kn)).data.toList := ⟨_, rfl⟩
            have BYL := Aside0.mk (by rw [hL]; exact BY.out : Go.Proofs.YtkpieljmhgfofaaDoorCb.BytesAt w3 g L)
            have HE := Aside0.mk (by rw [hL] : (⟨L.toArray⟩ : ByteArray) = (a0_0 ++ a0_1.extract 0 kn))
            rw [← hL] at hS
            have HL := Aside0.mk hL
            clear hL BY
            have hcv := BYL.out.back (P := Tryd.prog) 53 9 5 cap Tryd.underlying53 Tryd.underlying5 Tryd.underlying9 (a0_0.size + kn) hS.symm
            have hcvN := fun n => (BYL.out.drewN n).back (P := Tryd.prog) 53 9 5 cap Tryd.underlying53 Tryd.underlying5 Tryd.underlying9 (a0_0.size + kn) hS.symm
            have hmn : min kn a0_1.size = kn := Nat.min_eq_left (by have := C3.out; omega)
            clear C3
            try go_wp2
            repeat (go_quiet (fail); try go_wp2)
            go_ret2
            exact ⟨by rw [← HE.out]; rfl, by repeat (first | (with_reducible first | exact HB.out | apply below_alloc | apply pw_below_drewN | apply below_drew1 | refine below_set ?_ (Aside0.out (by assumption))) | exact HB.out)⟩
      · rw [if_neg c3] at h; cases h
    · replace c2 := Bool.eq_false_iff.mpr c2
      subst c2
      rw [if_neg (by decide)] at h
      simp only [Option.some.injEq, Prod.mk.injEq] at h
      obtain ⟨rfl, rfl⟩ := h
      go_enter Tryd.func25, Tryd.ntmps25
      go_wp2_with (first | ((with_reducible refine gate_dst (N := 3) rfl ?_); refine box_event ?hg (N := 3) ?hd (cs := #[.string a0_0, .string a0_1, .int .i64 a0_2]) (t := 31) ?hr ?_; (case hd => rfl); (case hg => rfl); (case hr => first | (go_simp; done) | (go_simp; rfl)); intro gb hg w1 hbox hb; have n1_ := Aside0.mk (below_step Ya_ hb); have n3_ := Aside0.mk hbox; have n4_ := Aside0.mk ((by rw [hg]; exact below_size Ya_ : w.heap.size ≤ gb)); clear HB; have HB := n1_; have BK := n3_; have GE := n4_; clear n1_ n3_ n4_ hb hbox hg; have hcz0 : w1.cell? ⟨gb, 0, none⟩ = some (.string a0_0) := (blk_cell BK.out 0).trans rfl; have hcz1 : w1.cell? ⟨gb, 1, none⟩ = some (.string a0_1) := (blk_cell BK.out 1).trans rfl; have hcz2 : w1.cell? ⟨gb, 2, none⟩ = some (.int .i64 a0_2) := (blk_cell BK.out 2).trans rfl) | ((with_reducible refine gate_callee (f := 23) rfl ?_); (try (refine gate_guard (by rfl) ?_; dsimp only)); refine goesL_ (some 10) rfl rfl Tryd.func23 (by kernel_rfl) rfl #[.agg #[.string a0_0, .string a0_1, .int .i64 a0_2]] rfl Yc_ ?_; (with_reducible refine (Bv.calls k a0_0 a0_1 a0_2 true _ (D5.below HGL.out Ya_) A1.out).mono ?_); rintro e w2 ⟨rfl, hb⟩; refine ⟨_, rfl, ?_⟩; have BK2 := Aside0.mk (blk_below Ycd_ hb); have n1_ := Aside0.mk (below_step Ya_ hb); clear HB; have HB := n1_; clear n1_ hb; have hcy0 : w2.cell? ⟨gb, 0, none⟩ = some (.string a0_0) := (blk_cell BK2.out 0).trans rfl; have hcy1 : w2.cell? ⟨gb, 1, none⟩ = some (.string a0_1) := (blk_cell BK2.out 1).trans rfl; have hcy2 : w2.cell? ⟨gb, 2, none⟩ = some (.int .i64 a0_2) := (blk_cell BK2.out 2).trans rfl) | (go_at_call 45; (with_reducible refine (Ep.calls a1 0 (a0_1.size : Int) false _ A2.out).mono ?_); rintro e w' ⟨rfl, ⟨nd, rfl⟩⟩))
      repeat (go_quiet (fail); try go_wp2)
      go_ret2
      exact ⟨by first | rfl | (simp; done) | (simp [*]; done), by repeat (first | (with_reducible first | exact HB.out | apply below_alloc | apply pw_below_drewN | apply below_drew1 | refine below_set ?_ (Aside0.out (by assumption))) | exact HB.out)⟩
  · replace c1 := Bool.eq_false_iff.mpr c1
    subst c1
    rw [if_neg (by decide)] at h
    simp only [Option.some.injEq, Prod.mk.injEq] at h
    obtain ⟨rfl, rfl⟩ := h
    go_enter Tryd.func25, Tryd.ntmps25
    go_wp2_with (first | ((with_reducible refine gate_dst (N := 3) rfl ?_); refine box_event ?hg (N := 3) ?hd (cs := #[.string a0_0, .string a0_1, .int .i64 a0_2]) (t := 31) ?hr ?_; (case hd => rfl); (case hg => rfl); (case hr => first | (go_simp; done) | (go_simp; rfl)); intro gb hg w1 hbox hb; have n1_ := Aside0.mk (below_step Ya_ hb); have n3_ := Aside0.mk hbox; have n4_ := Aside0.mk ((by rw [hg]; exact below_size Ya_ : w.heap.size ≤ gb)); clear HB; have HB := n1_; have BK := n3_; have GE := n4_; clear n1_ n3_ n4_ hb hbox hg; have hcz0 : w1.cell? ⟨gb, 0, none⟩ = some (.string a0_0) := (blk_cell BK.out 0).trans rfl; have hcz1 : w1.cell? ⟨gb, 1, none⟩ = some (.string a0_1) := (blk_cell BK.out 1).trans rfl; have hcz2 : w1.cell? ⟨gb, 2, none⟩ = some (.int .i64 a0_2) := (blk_cell BK.out 2).trans rfl) | ((with_reducible refine gate_callee (f := 23) rfl ?_); (try (refine gate_guard (by rfl) ?_; dsimp only)); refine goesL_ (some 10) rfl rfl Tryd.func23 (by kernel_rfl) rfl #[.agg #[.string a0_0, .string a0_1, .int .i64 a0_2]] rfl Yc_ ?_; (with_reducible refine (Bv.calls k a0_0 a0_1 a0_2 false _ (D5.below HGL.out Ya_) A1.out).mono ?_); rintro e w2 ⟨rfl, hb⟩; refine ⟨_, rfl, ?_⟩; have BK2 := Aside0.mk (blk_below Ycd_ hb); have n1_ := Aside0.mk (below_step Ya_ hb); clear HB; have HB := n1_; clear n1_ hb; have hcy0 : w2.cell? ⟨gb, 0, none⟩ = some (.string a0_0) := (blk_cell BK2.out 0).trans rfl; have hcy1 : w2.cell? ⟨gb, 1, none⟩ = some (.string a0_1) := (blk_cell BK2.out 1).trans rfl; have hcy2 : w2.cell? ⟨gb, 2, none⟩ = some (.int .i64 a0_2) := (blk_cell BK2.out 2).trans rfl))
    repeat (go_quiet (fail); try go_wp2)
    go_ret2
    exact ⟨by first | rfl | (simp; done) | (simp [*]; done), by repeat (first | (with_reducible first | exact HB.out | apply below_alloc | apply pw_below_drewN | apply below_drew1 | refine below_set ?_ (Aside0.out (by assumption))) | exact HB.out)⟩
end Go.Proofs.YtkpieljmhgfofaaDoor.X

namespace Go.Proofs.YtkpieljmhgfofaaDoor.X
open Go.RowKit Go.Proofs.YtkpieljmhgfofaaDoorW.PrintWords Go.Proofs.YtkpieljmhgfofaaDoorW.PrintLast Go.Proofs.YtkpieljmhgfofaaDoorW.PrintMore
attribute [local go_sem] max2_int min2_int max_two min_two max_three min_three max_four min_four
open Go.Proofs.YtkpieljmhgfofaaDoorG
def Du.f (k : Nat) (a0_0 : ByteArray) (a0_1 : ByteArray) (a0_2 : Int) : Option ((List (S27)) × Bool) := (spec_l27Log.f k a0_0 a0_1 a0_2).bind fun t368 => (if t368 = true then (if a0_0.size + a0_1.size ≤ 9223372036854775807 then ((Ap.f k (a0_0 ++ a0_1)).bind fun bt369 => (some (bt369.1, true))) else (none)) else (some ((([] : List (S27))), false)))
theorem Du.mono : ∀ a0 a1 a2 k, LeO (Du.f k a0 a1 a2) (Du.f (k + 1) a0 a1 a2) := by
  intro a0 a1 a2 k
  unfold Du.f
  repeat' first
      | (with_reducible exact spec_l27Log.mono _ _ _ _)
      | (with_reducible exact Ap.mono _ _)
      | (with_reducible exact LeO.refl _)
      | (with_reducible exact LeO.none _)
      | (with_reducible refine LeO.ite ?_ ?_)
      | (with_reducible refine LeO.bind ?_ (fun _ => ?_))
      | exact spec_l27Log.mono _ _ _ _
      | exact Ap.mono _ _
      | exact LeO.none _
      | refine LeO.ite ?_ ?_
      | refine LeO.bind ?_ (fun _ => ?_)
set_option maxHeartbeats 8000000 in
set_option maxRecDepth 100000 in
theorem Du.calls (k : Nat) (a0_0 : ByteArray) (a0_1 : ByteArray) (a0_2 : Int) (r1 : List (S27)) (r2 : Bool) (w : World) (h : Du.f k a0_0 a0_1 a0_2 = some (r1, r2)) :
    Calls Tryd.prog 30 #[.agg #[.string a0_0, .string a0_1, .int .i64 a0_2]] w fun e w' => ∃ v0_ : Value, e = .returned (.tuple #[v0_, .bool r2]) ∧ Kd.R k27 27 w' w.heap.size (fun _ => True) v0_ r1 ∧ Below w.heap.size w w' := by
  have hu31 := Tryd.underlying31
  have HB := Aside0.mk (Below.refl w.heap.size w)
  have H : ((spec_l27Log.f k a0_0 a0_1 a0_2).bind fun t368 => (if t368 = true then (if a0_0.size + a0_1.size ≤ 9223372036854775807 then ((Ap.f k (a0_0 ++ a0_1)).bind fun bt369 => (some (bt369.1, true))) else (none)) else (some ((([] : List (S27))), false)))) = some (r1, r2) := h
  clear h
  replace H := Option.bind_eq_some_iff.mp H
  obtain ⟨t368, A20, H⟩ := H
  replace H : (if t368 = true then (if a0_0.size + a0_1.size ≤ 9223372036854775807 then ((Ap.f k (a0_0 ++ a0_1)).bind fun bt369 => (some (bt369.1, true))) else (none)) else (some ((([] : List (S27))), false))) = some (r1, r2) := H
  have A2 := Aside0.mk A20
  clear A20
  by_cases c3 : t368 = true
  · subst c3
    have H1 : (if a0_0.size + a0_1.size ≤ 9223372036854775807 then ((Ap.f k (a0_0 ++ a0_1)).bind fun bt369 => (some (bt369.1, true))) else (none)) = some (r1, r2) := by rw [if_pos rfl] at H; exact H
    clear H
    have H := H1
    clear H1
    by_cases c4 : a0_0.size + a0_1.size ≤ 9223372036854775807
    · rw [if_pos c4] at H
      have c4b0 := eq_true c4
      have c4b1 : decide (a0_0.size + a0_1.size ≤ 9223372036854775807) = true := decide_eq_true c4
      try have c4b2 : (9223372036854775807 < a0_0.size + a0_1.size) = False := eq_false (Nat.not_lt.2 c4)
      replace H := Option.bind_eq_some_iff.mp H
      obtain ⟨⟨t369, t370⟩, A50, H⟩ := H
      replace H : (some (t369, true)) = some (r1, r2) := H
      have A5 := Aside0.mk A50
      clear A50
      simp only [Option.some.injEq, Prod.mk.injEq] at H
      obtain ⟨rfl, rfl⟩ := H
      go_enter Tryd.func30, Tryd.ntmps30
      go_wp2_with (first | ((with_reducible refine gate_dst (N := 1) rfl ?_); refine box_event ?hg (N := 1) ?hd (cs := #[.string a0_0, .string a0_1, .int .i64 a0_2]) (t := 31) ?hr ?_; (case hd => rfl); (case hg => rfl); (case hr => first | (go_simp; done) | (go_simp; rfl)); intro gb0 hg w6 hbox hb; have n0_ := Aside0.mk (below_step Ya_ hb); have n1_ := Aside0.mk (hbox); have n2_ := Aside0.mk ((by rw [hg]; exact (below_size Ya_) : w.heap.size ≤ gb0)); have n3_ := Aside0.mk ((by rw [hg]; exact (below_size Ya_) : w.heap.size ≤ gb0)); clear HB; have HB := n0_; have BK0 := n1_; have GW0 := n2_; have GE0 := n3_; clear n0_ n1_ n2_ n3_; clear hb hbox hg; have hcz7_0 : w6.cell? ⟨gb0, 0, none⟩ = some (.string a0_0) := (blk_cell BK0.out 0).trans rfl; have hcz7_1 : w6.cell? ⟨gb0, 1, none⟩ = some (.string a0_1) := (blk_cell BK0.out 1).trans rfl; have hcz7_2 : w6.cell? ⟨gb0, 2, none⟩ = some (.int .i64 a0_2) := (blk_cell BK0.out 2).trans rfl; have hfz7_0 := Ac BK0.out 0; have hfz7_1 := Ac BK0.out 1; have hfz7_2 := Ac BK0.out 2) | ((with_reducible refine gate_callee (f := 49) rfl ?_); refine goesL_ (some 7) rfl rfl Tryd.func49 (by kernel_rfl) rfl #[.agg #[.string a0_0, .string a0_1, .int .i64 a0_2]] rfl Yc_ ?_; (with_reducible refine (spec_l27Log.calls k a0_0 a0_1 a0_2 true _ A2.out).mono ?_); rintro e w8 ⟨rfl, hb⟩; refine ⟨_, rfl, ?_⟩; have n0_ := Aside0.mk (blk_below (g := gb0) (o := .cells #[.string a0_0, .string a0_1, .int .i64 a0_2] 31 (0, 0)) Yd_ hb); have n1_ := Aside0.mk (below_step Yb_ hb); clear BK0; clear HB; have BK0 := n0_; have HB := n1_; clear n0_ n1_; (try clear hb); (try clear hb2); (try clear hk); (try clear hi); have hcz9_0 : w8.cell? ⟨gb0, 0, none⟩ = some (.string a0_0) := (blk_cell BK0.out 0).trans rfl; have hcz9_1 : w8.cell? ⟨gb0, 1, none⟩ = some (.string a0_1) := (blk_cell BK0.out 1).trans rfl; have hcz9_2 : w8.cell? ⟨gb0, 2, none⟩ = some (.int .i64 a0_2) := (blk_cell BK0.out 2).trans rfl; have hfz9_0 := Ac BK0.out 0; have hfz9_1 := Ac BK0.out 1; have hfz9_2 := Ac BK0.out 2) | ((with_reducible refine gate_callee (f := 47) rfl ?_); refine goesL_ (some 16) rfl rfl Tryd.func47 (by kernel_rfl) rfl #[.string (a0_0 ++ a0_1)] rfl Yc_ ?_; (with_reducible refine (Ap.calls k (a0_0 ++ a0_1) t369 t370 _ A5.out).mono ?_); rintro e w10 ⟨v371, rfl, ho0, hb⟩; refine ⟨_, rfl, ?_⟩; have n0_ := Aside0.mk (Kd.D6 ho0 (below_size Yb_)); have n1_ := Aside0.mk (blk_below (g := gb0) (o := .cells #[.string a0_0, .string a0_1, .int .i64 a0_2] 31 (0, 0)) Yd_ hb); have n2_ := Aside0.mk (below_step Yb_ hb); clear BK0; clear HB; have HO372 := n0_; have BK0 := n1_; have HB := n2_; clear n0_ n1_ n2_; (try clear hb); (try clear hb2); (try clear hk); (try clear hi); (try clear ho0)))
      go_ret2
      exact ⟨_, by first | rfl | (simp [Af, Ag] <;> rfl) | (simp [*, Af, Ag] <;> rfl), by (with_reducible repeat (first | apply Kd.Bc | apply Kd.Ba | apply Kd.Be)); exact HO372.out, by repeat (first | (with_reducible first | exact HB.out | apply below_alloc | apply pw_below_drewN | apply below_drew1 | refine below_set ?_ GE0.out) | exact HB.out)⟩
    · rw [if_neg c4] at H
      exact absurd H (by simp)
  · replace c3 := Bool.eq_false_iff.mpr c3
    subst c3
    have H1 : (some ((([] : List (S27))), false)) = some (r1, r2) := by rw [if_neg (show ¬ (false = true) by decide)] at H; exact H
    clear H
    have H := H1
    clear H1
    obtain ⟨y373, hy373⟩ : ∃ y_ : List (S27), y_ = (([] : List (S27))) := ⟨_, rfl⟩
    replace H : (some (y373, false)) = some (r1, r2) := by first | (rw [hy373]; with_reducible exact H) | (have H2_ := (Option.bind_some _ _).symm.trans H; rw [hy373]; with_reducible exact H2_) | (have H2_ := (Option.bind_some _ _).symm.trans H; with_reducible exact H2_) | with_reducible exact H | (rw [hy373]; exact H) | exact H
    have Ny373 := Aside0.mk hy373
    clear hy373
    simp only [Option.some.injEq, Prod.mk.injEq] at H
    obtain ⟨rfl, rfl⟩ := H
    go_enter Tryd.func30, Tryd.ntmps30
    go_wp2_with (first | ((with_reducible refine gate_dst (N := 1) rfl ?_); refine box_event ?hg (N := 1) ?hd (cs := #[.string a0_0, .string a0_1, .int .i64 a0_2]) (t := 31) ?hr ?_; (case hd => rfl); (case hg => rfl); (case hr => first | (go_simp; done) | (go_simp; rfl)); intro gb0 hg w11 hbox hb; have n0_ := Aside0.mk (below_step Ya_ hb); have n1_ := Aside0.mk (hbox); have n2_ := Aside0.mk ((by rw [hg]; exact (below_size Ya_) : w.heap.size ≤ gb0)); have n3_ := Aside0.mk ((by rw [hg]; exact (below_size Ya_) : w.heap.size ≤ gb0)); clear HB; have HB := n0_; have BK0 := n1_; have GW0 := n2_; have GE0 := n3_; clear n0_ n1_ n2_ n3_; clear hb hbox hg; have hcz12_0 : w11.cell? ⟨gb0, 0, none⟩ = some (.string a0_0) := (blk_cell BK0.out 0).trans rfl; have hcz12_1 : w11.cell? ⟨gb0, 1, none⟩ = some (.string a0_1) := (blk_cell BK0.out 1).trans rfl; have hcz12_2 : w11.cell? ⟨gb0, 2, none⟩ = some (.int .i64 a0_2) := (blk_cell BK0.out 2).trans rfl; have hfz12_0 := Ac BK0.out 0; have hfz12_1 := Ac BK0.out 1; have hfz12_2 := Ac BK0.out 2) | ((with_reducible refine gate_callee (f := 49) rfl ?_); refine goesL_ (some 7) rfl rfl Tryd.func49 (by kernel_rfl) rfl #[.agg #[.string a0_0, .string a0_1, .int .i64 a0_2]] rfl Yc_ ?_; (with_reducible refine (spec_l27Log.calls k a0_0 a0_1 a0_2 false _ A2.out).mono ?_); rintro e w13 ⟨rfl, hb⟩; refine ⟨_, rfl, ?_⟩; have n0_ := Aside0.mk (blk_below (g := gb0) (o := .cells #[.string a0_0, .string a0_1, .int .i64 a0_2] 31 (0, 0)) Yd_ hb); have n1_ := Aside0.mk (below_step Yb_ hb); clear BK0; clear HB; have BK0 := n0_; have HB := n1_; clear n0_ n1_; (try clear hb); (try clear hb2); (try clear hk); (try clear hi)) | ((with_reducible refine gate_dst (N := 9) rfl ?_); refine Kd.R_lit k27 _ 27 ?hg (N := 9) ?hd (xs := ([] : List (S27))) (inner := []) (ok := fun _ => True) (okp := fun _ => True) ?hr ?hp (fun _ hk => hk) trivial (Below.refl _ _) (Nat.le_refl _) (by simp) ?_; (case hd => rfl); (case hg => rfl); (case hr => first | (go_simp; done) | (go_simp; rfl)); (case hp => exact (Dc.none _ _)); intro v374 w14 ho15 hb hg_ hnew_; clear hg_ hnew_; (first | rw [← Ny373.out] at ho15 | (simp only [Int.reduceToNat] at ho15; rw [← Ny373.out] at ho15)); have n0_ := Aside0.mk (Kd.D6 ho15 (below_size Yb_)); have n1_ := Aside0.mk (blk_below (g := gb0) (o := .cells #[.string a0_0, .string a0_1, .int .i64 a0_2] 31 (0, 0)) Yd_ hb); have n2_ := Aside0.mk (below_step Yb_ hb); clear BK0; clear HB; have HO375 := n0_; have BK0 := n1_; have HB := n2_; clear n0_ n1_ n2_; clear hb ho15))
    go_ret2
    exact ⟨_, by first | rfl | (simp [Af, Ag] <;> rfl) | (simp [*, Af, Ag] <;> rfl), by (with_reducible repeat (first | apply Kd.Bc | apply Kd.Ba | apply Kd.Be)); exact HO375.out, by repeat (first | (with_reducible first | exact HB.out | apply below_alloc | apply pw_below_drewN | apply below_drew1 | refine below_set ?_ GE0.out) | exact HB.out)⟩
end Go.Proofs.YtkpieljmhgfofaaDoor.X

namespace Go.Proofs.YtkpieljmhgfofaaDoor.X
open Go.RowKit Go.Proofs.YtkpieljmhgfofaaDoorW.PrintWords Go.Proofs.YtkpieljmhgfofaaDoorW.PrintLast Go.Proofs.YtkpieljmhgfofaaDoorW.PrintMore
attribute [local go_sem] max2_int min2_int max_two min_two max_three min_three max_four min_four
open Go.Proofs.YtkpieljmhgfofaaDoorG
def Dv.f (k : Nat) (a0_0 : ByteArray) (a0_1 : ByteArray) (a0_2 : Int) : Option ((List (S27)) × Bool) := (D8.f k a0_0 a0_1 a0_2).bind fun bt377 => (if bt377.2 = true then (some (bt377.1, true)) else (some (([] : List (S27)), false)))
theorem Dv.mono : ∀ a0 a1 a2 k, LeO (Dv.f k a0 a1 a2) (Dv.f (k + 1) a0 a1 a2) := by
  intro a0 a1 a2 k
  unfold Dv.f
  repeat' first
      | (with_reducible exact D8.mono _ _ _ _)
      | (with_reducible exact LeO.refl _)
      | (with_reducible exact LeO.none _)
      | (with_reducible refine LeO.ite ?_ ?_)
      | (with_reducible refine LeO.bind ?_ (fun _ => ?_))
      | exact D8.mono _ _ _ _
      | exact LeO.none _
      | refine LeO.ite ?_ ?_
      | refine LeO.bind ?_ (fun _ => ?_)
set_option maxHeartbeats 8000000 in
set_option maxRecDepth 100000 in
theorem Dv.calls (k : Nat) (a0_0 : ByteArray) (a0_1 : ByteArray) (a0_2 : Int) (r1 : List (S27)) (r2 : Bool) (w : World) (hG : D5 w) (h : Dv.f k a0_0 a0_1 a0_2 = some (r1, r2)) :
    Calls Tryd.prog 31 #[.agg #[.string a0_0, .string a0_1, .int .i64 a0_2]] w fun e w' => ∃ v0_ : Value, e = .returned (.tuple #[v0_, .bool r2]) ∧ Kd.R k27 27 w' w.heap.size (fun _ => True) v0_ r1 ∧ Below w.heap.size w w' := by
  have hu31 := Tryd.underlying31
  have HGL := Aside0.mk hG
  clear hG
  have HB := Aside0.mk (Below.refl w.heap.size w)
  have H : ((D8.f k a0_0 a0_1 a0_2).bind fun bt377 => (if bt377.2 = true then (some (bt377.1, true)) else (some (([] : List (S27)), false)))) = some (r1, r2) := h
  clear h
  replace H := Option.bind_eq_some_iff.mp H
  obtain ⟨⟨t377, t380⟩, A20, H⟩ := H
  replace H : (if t380 = true then (some (t377, true)) else (some (([] : List (S27)), false))) = some (r1, r2) := H
  have A2 := Aside0.mk A20
  clear A20
  by_cases c3 : t380 = true
  · subst c3
    have H1 : (some (t377, true)) = some (r1, r2) := by rw [if_pos rfl] at H; exact H
    clear H
    have H := H1
    clear H1
    simp only [Option.some.injEq, Prod.mk.injEq] at H
    obtain ⟨rfl, rfl⟩ := H
    go_enter Tryd.func31, Tryd.ntmps31
    go_wp2_with (first | ((with_reducible refine gate_dst (N := 1) rfl ?_); refine box_event ?hg (N := 1) ?hd (cs := #[.string a0_0, .string a0_1, .int .i64 a0_2]) (t := 31) ?hr ?_; (case hd => rfl); (case hg => rfl); (case hr => first | (go_simp; done) | (go_simp; rfl)); intro gb0 hg w4 hbox hb; have n0_ := Aside0.mk (below_step Ya_ hb); have n1_ := Aside0.mk (hbox); have n2_ := Aside0.mk ((by rw [hg]; exact (below_size Ya_) : w.heap.size ≤ gb0)); have n3_ := Aside0.mk ((by rw [hg]; exact (below_size Ya_) : w.heap.size ≤ gb0)); clear HB; have HB := n0_; have BK0 := n1_; have GW0 := n2_; have GE0 := n3_; clear n0_ n1_ n2_ n3_; clear hb hbox hg; have hcz5_0 : w4.cell? ⟨gb0, 0, none⟩ = some (.string a0_0) := (blk_cell BK0.out 0).trans rfl; have hcz5_1 : w4.cell? ⟨gb0, 1, none⟩ = some (.string a0_1) := (blk_cell BK0.out 1).trans rfl; have hcz5_2 : w4.cell? ⟨gb0, 2, none⟩ = some (.int .i64 a0_2) := (blk_cell BK0.out 2).trans rfl; have hfz5_0 := Ac BK0.out 0; have hfz5_1 := Ac BK0.out 1; have hfz5_2 := Ac BK0.out 2) | ((with_reducible refine gate_callee (f := 50) rfl ?_); refine goesL_ (some 8) rfl rfl Tryd.func50 (by kernel_rfl) rfl #[.agg #[.string a0_0, .string a0_1, .int .i64 a0_2]] rfl Yc_ ?_; (with_reducible refine (D8.calls k a0_0 a0_1 a0_2 t377 true _ ?side1 A2.out).mono ?_); (case side1 => exact D5.below HGL.out Yb_); rintro e w6 ⟨v378, rfl, ho0, hb⟩; refine ⟨_, rfl, ?_⟩; have n0_ := Aside0.mk (Kd.D6 ho0 (below_size Yb_)); have n1_ := Aside0.mk (blk_below (g := gb0) (o := .cells #[.string a0_0, .string a0_1, .int .i64 a0_2] 31 (0, 0)) Yd_ hb); have n2_ := Aside0.mk (below_step Yb_ hb); clear BK0; clear HB; have HO379 := n0_; have BK0 := n1_; have HB := n2_; clear n0_ n1_ n2_; (try clear hb); (try clear hb2); (try clear hk); (try clear hi); (try clear ho0)))
    go_ret2
    exact ⟨_, by first | rfl | (simp [Af, Ag] <;> rfl) | (simp [*, Af, Ag] <;> rfl), by (with_reducible repeat (first | apply Kd.Bc | apply Kd.Ba | apply Kd.Be)); exact HO379.out, by repeat (first | (with_reducible first | exact HB.out | apply below_alloc | apply pw_below_drewN | apply below_drew1 | refine below_set ?_ GE0.out) | exact HB.out)⟩
  · replace c3 := Bool.eq_false_iff.mpr c3
    subst c3
    have H1 : (some (([] : List (S27)), false)) = some (r1, r2) := by rw [if_neg (show ¬ (false = true) by decide)] at H; exact H
    clear H
    have H := H1
    clear H1
    simp only [Option.some.injEq, Prod.mk.injEq] at H
    obtain ⟨rfl, rfl⟩ := H
    go_enter Tryd.func31, Tryd.ntmps31
    go_wp2_with (first | ((with_reducible refine gate_dst (N := 1) rfl ?_); refine box_event ?hg (N := 1) ?hd (cs := #[.string a0_0, .string a0_1, .int .i64 a0_2]) (t := 31) ?hr ?_; (case hd => rfl); (case hg => rfl); (case hr => first | (go_simp; done) | (go_simp; rfl)); intro gb0 hg w7 hbox hb; have n0_ := Aside0.mk (below_step Ya_ hb); have n1_ := Aside0.mk (hbox); have n2_ := Aside0.mk ((by rw [hg]; exact (below_size Ya_) : w.heap.size ≤ gb0)); have n3_ := Aside0.mk ((by rw [hg]; exact (below_size Ya_) : w.heap.size ≤ gb0)); clear HB; have HB := n0_; have BK0 := n1_; have GW0 := n2_; have GE0 := n3_; clear n0_ n1_ n2_ n3_; clear hb hbox hg; have hcz8_0 : w7.cell? ⟨gb0, 0, none⟩ = some (.string a0_0) := (blk_cell BK0.out 0).trans rfl; have hcz8_1 : w7.cell? ⟨gb0, 1, none⟩ = some (.string a0_1) := (blk_cell BK0.out 1).trans rfl; have hcz8_2 : w7.cell? ⟨gb0, 2, none⟩ = some (.int .i64 a0_2) := (blk_cell BK0.out 2).trans rfl; have hfz8_0 := Ac BK0.out 0; have hfz8_1 := Ac BK0.out 1; have hfz8_2 := Ac BK0.out 2) | ((with_reducible refine gate_callee (f := 50) rfl ?_); refine goesL_ (some 8) rfl rfl Tryd.func50 (by kernel_rfl) rfl #[.agg #[.string a0_0, .string a0_1, .int .i64 a0_2]] rfl Yc_ ?_; (with_reducible refine (D8.calls k a0_0 a0_1 a0_2 t377 false _ ?side1 A2.out).mono ?_); (case side1 => exact D5.below HGL.out Yb_); rintro e w9 ⟨v378, rfl, ho0, hb⟩; refine ⟨_, rfl, ?_⟩; have n0_ := Aside0.mk (Kd.D6 ho0 (below_size Yb_)); have n1_ := Aside0.mk (blk_below (g := gb0) (o := .cells #[.string a0_0, .string a0_1, .int .i64 a0_2] 31 (0, 0)) Yd_ hb); have n2_ := Aside0.mk (below_step Yb_ hb); clear BK0; clear HB; have HO379 := n0_; have BK0 := n1_; have HB := n2_; clear n0_ n1_ n2_; (try clear hb); (try clear hb2); (try clear hk); (try clear hi); (try clear ho0)))
    go_ret2
    exact ⟨_, by first | rfl | (simp [Af, Ag] <;> rfl) | (simp [*, Af, Ag] <;> rfl), by first | exact Kd.R_nil _ _ _ _ _ | exact Kd.N_nil _ _ _ _ _ | exact Kd.V_nil _ _ _ _ _ | exact Kd.Q_nil _ _ _ _ _ | exact Kd.S_nil _ _ _ _ _, by repeat (first | (with_reducible first | exact HB.out | apply below_alloc | apply pw_below_drewN | apply below_drew1 | refine below_set ?_ GE0.out) | exact HB.out)⟩
end Go.Proofs.YtkpieljmhgfofaaDoor.X

namespace Go.Proofs.YtkpieljmhgfofaaDoor.X
open Go.RowKit Go.Proofs.YtkpieljmhgfofaaDoorW.PrintWords Go.Proofs.YtkpieljmhgfofaaDoorW.PrintLast Go.Proofs.YtkpieljmhgfofaaDoorW.PrintMore
attribute [local go_sem] max2_int min2_int max_two min_two max_three min_three max_four min_four
open Go.Proofs.YtkpieljmhgfofaaDoorG
def He.f (l0 : List Int) : Option (Bool) := some (decide ((l0.length : Int) > 65536))
set_option maxHeartbeats 8000000 in
set_option maxRecDepth 100000 in
theorem He.calls (A0 : Option Addr) (c0 : Nat) (l0 : List Int) (r : Bool) (w : World) (hr0 : Kd.C (Kd.int .u8) w A0 l0.length l0) (hc0 : l0.length ≤ c0) (h : He.f l0 = some r) :
    Calls Tryd.prog 35 #[.slice A0 l0.length c0] w fun e w' => e = .returned (.bool r) ∧ Cc w w' := by
  have HR0 := Aside0.mk hr0
  have HC0 := Aside0.mk hc0
  clear hr0 hc0
  have H : (some (decide ((l0.length : Int) > 65536))) = some r := h
  clear h
  obtain rfl := Option.some.inj H
  go_enter Tryd.func35, Tryd.ntmps35
  go_wp2
  go_ret
  exact ⟨by first | rfl | (simp; done) | (simp [*]; done), by repeat (first | exact Cc.refl _ | apply Cc.step)⟩
end Go.Proofs.YtkpieljmhgfofaaDoor.X

namespace Go.Proofs.YtkpieljmhgfofaaDoor.X
open Go.RowKit Go.Proofs.YtkpieljmhgfofaaDoorW.PrintWords Go.Proofs.YtkpieljmhgfofaaDoorW.PrintLast Go.Proofs.YtkpieljmhgfofaaDoorW.PrintMore
attribute [local go_sem] max2_int min2_int max_two min_two max_three min_three max_four min_four
open Go.Proofs.YtkpieljmhgfofaaDoorG
/-- A state of type 74 at block g of W; what its slices lead to came in by w0. -/
def Aa (w0 W : World) (g : Nat) (f0 : List Int) (f1 : Int) (f2 : Int) : Prop := ∃ A0 c0, W.heap[g]? = some (.cells #[.slice A0 f0.length c0, .int .i64 f1, .int .u64 f2] 74 (0, 0)) ∧ w0.heap.size ≤ g ∧ Kd.C (Kd.int .u8) w0 A0 f0.length f0
theorem Aa.grown {w0 W : World} {g : Nat} {f0 : List Int} {f1 : Int} {f2 : Int} {W1 : World} {row : Option Nat} (h : Aa w0 W g f0 f1 f2) (hw : W.grownBy W1 row) (hne : some g ≠ row) : Aa w0 W1 g f0 f1 f2 := by
  obtain ⟨A0, c0, hb, hg, hr0⟩ := h
  exact ⟨A0, c0, blk_grown hb hw hne, hg, hr0⟩
theorem Aa.kept {w0 W : World} {g : Nat} {f0 : List Int} {f1 : Int} {f2 : Int} {W1 : World} {S : Nat → Prop} (h : Aa w0 W g f0 f1 f2) (hk : Kept W W1 S) (hne : ¬ S g) : Aa w0 W1 g f0 f1 f2 := by
  obtain ⟨A0, c0, hb, hg, hr0⟩ := h
  exact ⟨A0, c0, blk_kept hb hk hne, hg, hr0⟩
theorem Aa.below {w0 W : World} {g : Nat} {f0 : List Int} {f1 : Int} {f2 : Int} {W1 : World} (h : Aa w0 W g f0 f1 f2) (hw : Below W.heap.size W W1) : Aa w0 W1 g f0 f1 f2 := h.grown (grown_of_below hw none) (by simp)
theorem Aa.alloc {w0 W : World} {g : Nat} {f0 : List Int} {f1 : Int} {f2 : Int} (h : Aa w0 W g f0 f1 f2) (o : Obj) : Aa w0 (W.alloc o) g f0 f1 f2 := h.below (below_alloc (Below.refl _ _) o)
theorem Aa.drewN {w0 W : World} {g : Nat} {f0 : List Int} {f1 : Int} {f2 : Int} (h : Aa w0 W g f0 f1 f2) (m : Nat) : Aa w0 (W.drewN m) g f0 f1 f2 := h
theorem Aa.drew {w0 W : World} {g : Nat} {f0 : List Int} {f1 : Int} {f2 : Int} (h : Aa w0 W g f0 f1 f2) : Aa w0 W.drew g f0 f1 f2 := h
theorem Aa.at_ {w0 W : World} {g : Nat} {f0 : List Int} {f1 : Int} {f2 : Int} {w' : World} {m : Nat} (hq : W.drewN m = w') (h : Aa w0 W g f0 f1 f2) : Aa w0 w' g f0 f1 f2 := by subst hq; exact Aa.drewN h m
theorem Aa.apart {w0 W : World} {g : Nat} {f0 : List Int} {f1 : Int} {f2 : Int} {α : Type} {d : Kd α} {e : Nat} {base : Nat} {ok : Nat → Prop} {v : Value} {xs : List α} (h : Aa w0 W g f0 f1 f2) (ho : d.R e W base ok v xs) (ht : ∀ q, q ∈ e :: d.E → q ≠ 74) : d.R e W base (fun k => ok k ∧ k ≠ g) v xs := by
  obtain ⟨A0, c0, hb, hg, hr0⟩ := h
  exact Kd.Ha ho hb ht
theorem Aa.own_ne {w0 W : World} {g : Nat} {f0 : List Int} {f1 : Int} {f2 : Int} {α : Type} {d : Kd α} {e : Nat} {base : Nat} {ok : Nat → Prop} {v : Value} {xs : List α} (h : Aa w0 W g f0 f1 f2) (ho : d.R e W base ok v xs) (ht : e ≠ 74) : some g ≠ v.ownBlock := by
  obtain ⟨A0, c0, hb, hg, hr0⟩ := h
  exact Kd.R_ne ho hb ht
theorem Aa.lt {w0 W : World} {g : Nat} {f0 : List Int} {f1 : Int} {f2 : Int} (h : Aa w0 W g f0 f1 f2) : g < W.heap.size := by
  obtain ⟨A0, c0, hb, hg, hr0⟩ := h
  exact blk_lt hb
theorem Aa.ge {w0 W : World} {g : Nat} {f0 : List Int} {f1 : Int} {f2 : Int} (h : Aa w0 W g f0 f1 f2) : w0.heap.size ≤ g := by
  obtain ⟨A0, c0, hb, hg, hr0⟩ := h
  exact hg
theorem Aa.far {w0 W : World} {g : Nat} {f0 : List Int} {f1 : Int} {f2 : Int} {p : Addr} (h : Aa w0 W g f0 f1 f2) (hne : g ≠ p.block) (u : Value) : Aa w0 (W.setCell p u) g f0 f1 f2 := by
  obtain ⟨A0, c0, hb, hg, hr0⟩ := h
  exact ⟨A0, c0, blk_far hb hne u, hg, hr0⟩
theorem cellS74_0 {W : World} {g : Nat} {A0 : Option Addr} {c0 : Nat} {f0 : List Int} {f1 : Int} {f2 : Int} (h : W.heap[g]? = some (.cells #[.slice A0 f0.length c0, .int .i64 f1, .int .u64 f2] 74 (0, 0))) : W.cell? ⟨g, 0, none⟩ = some (.slice A0 f0.length c0) := (blk_cell h 0).trans rfl
theorem cellS74_1 {W : World} {g : Nat} {A0 : Option Addr} {c0 : Nat} {f0 : List Int} {f1 : Int} {f2 : Int} (h : W.heap[g]? = some (.cells #[.slice A0 f0.length c0, .int .i64 f1, .int .u64 f2] 74 (0, 0))) : W.cell? ⟨g, 1, none⟩ = some (.int .i64 f1) := (blk_cell h 1).trans rfl
theorem Aa.Au {w0 W : World} {g : Nat} {f0 : List Int} {f1 : Int} {f2 : Int} (h : Aa w0 W g f0 f1 f2) (x : Int) : Aa w0 (W.setCell ⟨g, 1, none⟩ (.int .i64 x)) g f0 x f2 := by
  obtain ⟨A0, c0, hb, hg, hr0⟩ := h
  exact ⟨A0, c0, by simpa using blk_set hb 1 (.int .i64 x), hg, hr0⟩
theorem cellS74_2 {W : World} {g : Nat} {A0 : Option Addr} {c0 : Nat} {f0 : List Int} {f1 : Int} {f2 : Int} (h : W.heap[g]? = some (.cells #[.slice A0 f0.length c0, .int .i64 f1, .int .u64 f2] 74 (0, 0))) : W.cell? ⟨g, 2, none⟩ = some (.int .u64 f2) := (blk_cell h 2).trans rfl
theorem Aa.Aw {w0 W : World} {g : Nat} {f0 : List Int} {f1 : Int} {f2 : Int} (h : Aa w0 W g f0 f1 f2) (x : Int) : Aa w0 (W.setCell ⟨g, 2, none⟩ (.int .u64 x)) g f0 f1 x := by
  obtain ⟨A0, c0, hb, hg, hr0⟩ := h
  exact ⟨A0, c0, by simpa using blk_set hb 2 (.int .u64 x), hg, hr0⟩
theorem Aa.new (w0 W : World) (A0 : Option Addr) (c0 : Nat) (f0 : List Int) (f1 : Int) (f2 : Int) (hB : Below w0.heap.size w0 W) (hr0 : Kd.C (Kd.int .u8) w0 A0 f0.length f0) : Aa w0 (W.alloc (.cells #[.slice A0 f0.length c0, .int .i64 f1, .int .u64 f2] 74)) W.heap.size f0 f1 f2 := ⟨A0, c0, by simpa using heap_alloc_new W _, hB.size, hr0⟩
def Es.f (s0_0 : List Int) (s0_1 : Int) (s0_2 : Int) : Option (Int × Int × Int) := if s0_1 < (s0_0.length : Int) then (if 0 ≤ s0_1 then (if (wrap64 (s0_1 + 1)) ≤ (s0_0.length : Int) then (some (wrap64 (rd s0_0 s0_1), wrap64 (s0_1 + 1), IntKind.u64.wrap ((IntKind.u64.wrap ((IntKind.u64.wrap (s0_2 * 6364136223846793005)) + (IntKind.u64.wrap (wrap64 (rd s0_0 s0_1))))) + 906906))) else (some (wrap64 (Go.bits .and .u64 ((IntKind.u64.wrap ((IntKind.u64.wrap ((IntKind.u64.wrap (s0_2 * 6364136223846793005)) + (IntKind.u64.wrap (wrap64 (rd s0_0 s0_1))))) + 906906)) / 1099511627776) 255), wrap64 (s0_1 + 1), IntKind.u64.wrap ((IntKind.u64.wrap ((IntKind.u64.wrap (s0_2 * 6364136223846793005)) + (IntKind.u64.wrap (wrap64 (rd s0_0 s0_1))))) + 906906)))) else (none)) else (if (wrap64 (s0_1 + 1)) ≤ (s0_0.length : Int) then (some (0, wrap64 (s0_1 + 1), IntKind.u64.wrap ((IntKind.u64.wrap ((IntKind.u64.wrap (s0_2 * 6364136223846793005)))) + 906906))) else (some (wrap64 (Go.bits .and .u64 ((IntKind.u64.wrap ((IntKind.u64.wrap ((IntKind.u64.wrap (s0_2 * 6364136223846793005)))) + 906906)) / 1099511627776) 255), wrap64 (s0_1 + 1), IntKind.u64.wrap ((IntKind.u64.wrap ((IntKind.u64.wrap (s0_2 * 6364136223846793005)))) + 906906))))
set_option maxHeartbeats 8000000 in
set_option maxRecDepth 100000 in
theorem Es.calls (g : Nat) (s0_0 : List Int) (s0_1 : Int) (s0_2 : Int) (r1 : Int) (r2 : Int) (r3 : Int) (w0 w : World) (hI : Aa w0 w g s0_0 s0_1 s0_2) (hB : Below w0.heap.size w0 w) (h : Es.f s0_0 s0_1 s0_2 = some (r1, r2, r3)) :
    Calls Tryd.prog 71 #[.pointer (some ⟨g, 0, none⟩)] w fun e w' => e = .returned (.int .i64 r1) ∧ Aa w0 w' g s0_0 r2 r3 ∧ Below w0.heap.size w0 w' ∧ Ad w w' g none := by
  have HI0 := Aside0.mk hI
  have HK := Aside0.mk (Ad.refl w g none)
  have HL := Aside0.mk hB.size
  clear hI
  have HW0 := Aside0.mk hB.size
  have HB := Aside0.mk hB
  clear hB
  have H : (if s0_1 < (s0_0.length : Int) then (if 0 ≤ s0_1 then (if (wrap64 (s0_1 + 1)) ≤ (s0_0.length : Int) then (some (wrap64 (rd s0_0 s0_1), wrap64 (s0_1 + 1), IntKind.u64.wrap ((IntKind.u64.wrap ((IntKind.u64.wrap (s0_2 * 6364136223846793005)) + (IntKind.u64.wrap (wrap64 (rd s0_0 s0_1))))) + 906906))) else (some (wrap64 (Go.bits .and .u64 ((IntKind.u64.wrap ((IntKind.u64.wrap ((IntKind.u64.wrap (s0_2 * 6364136223846793005)) + (IntKind.u64.wrap (wrap64 (rd s0_0 s0_1))))) + 906906)) / 1099511627776) 255), wrap64 (s0_1 + 1), IntKind.u64.wrap ((IntKind.u64.wrap ((IntKind.u64.wrap (s0_2 * 6364136223846793005)) + (IntKind.u64.wrap (wrap64 (rd s0_0 s0_1))))) + 906906)))) else (none)) else (if (wrap64 (s0_1 + 1)) ≤ (s0_0.length : Int) then (some (0, wrap64 (s0_1 + 1), IntKind.u64.wrap ((IntKind.u64.wrap ((IntKind.u64.wrap (s0_2 * 6364136223846793005)))) + 906906))) else (some (wrap64 (Go.bits .and .u64 ((IntKind.u64.wrap ((IntKind.u64.wrap ((IntKind.u64.wrap (s0_2 * 6364136223846793005)))) + 906906)) / 1099511627776) 255), wrap64 (s0_1 + 1), IntKind.u64.wrap ((IntKind.u64.wrap ((IntKind.u64.wrap (s0_2 * 6364136223846793005)))) + 906906))))) = some (r1, r2, r3) := h
  clear h
  by_cases c2 : s0_1 < (s0_0.length : Int)
  · rw [if_pos c2] at H
    have c2b0 : decide (s0_1 < (s0_0.length : Int)) = true := decide_eq_true c2
    clear c2
    by_cases c3 : 0 ≤ s0_1
    · rw [if_pos c3] at H
      have c3b0 : decide (0 ≤ s0_1) = true := decide_eq_true c3
      clear c3
      by_cases c4 : (wrap64 (s0_1 + 1)) ≤ (s0_0.length : Int)
      · rw [if_pos c4] at H
        have c4b0 : decide ((wrap64 (s0_1 + 1)) ≤ (s0_0.length : Int)) = true := decide_eq_true c4
        clear c4
        simp only [Option.some.injEq, Prod.mk.injEq] at H
        obtain ⟨rfl, rfl, rfl⟩ := H
        obtain ⟨ASz5_0, cSz5_0, HGz5, hgz5, HSz5_0⟩ := HI0.out
        have hcz5_0 := cellS74_0 HGz5
        have hcz5_1 := cellS74_1 HGz5
        have hcz5_2 := cellS74_2 HGz5
        have hfz5_1 := Ac HGz5 1
        have hfz5_2 := Ac HGz5 2
        clear HGz5 hgz5
        have p426 : 0 ≤ (s0_1 : Int) := of_decide_eq_true Yba_
        have q426 : s0_1 < (s0_0.length : Int) := of_decide_eq_true Yba_
        obtain ⟨ad426, e426, hx426_0⟩ := Kd.at_int HSz5_0 s0_1 p426 q426
        cases e426
        replace hx426_0 := G9 HB.out hx426_0
        replace p426 := eq_true p426
        replace q426 := eq_true q426
        go_enter Tryd.func71, Tryd.ntmps71
        go_wp2
        repeat (go_quiet (fail); try go_wp2)
        go_ret
        exact ⟨by first | rfl | (simp [Af, Ag] <;> rfl) | (simp [*, Af, Ag] <;> rfl), by repeat (first | (with_reducible first | exact HI0.out | apply Aa.alloc | apply Aa.drewN | apply Aa.drew | apply Aa.Au | apply Aa.Aw) | exact HI0.out), by repeat (first | (with_reducible first | exact HB.out | apply below_alloc | apply pw_below_drewN | apply below_drew1 | refine below_set ?_ (Aa.ge HI0.out)) | exact HB.out), by repeat (first | (with_reducible first | exact HK.out | apply Ad.Ce | apply Ah | apply Aj | apply Ai) | exact HK.out)⟩
      · rw [if_neg c4] at H
        have c4b0 : decide ((wrap64 (s0_1 + 1)) ≤ (s0_0.length : Int)) = false := decide_eq_false c4
        clear c4
        simp only [Option.some.injEq, Prod.mk.injEq] at H
        obtain ⟨rfl, rfl, rfl⟩ := H
        obtain ⟨ASz6_0, cSz6_0, HGz6, hgz6, HSz6_0⟩ := HI0.out
        have hcz6_0 := cellS74_0 HGz6
        have hcz6_1 := cellS74_1 HGz6
        have hcz6_2 := cellS74_2 HGz6
        have hfz6_1 := Ac HGz6 1
        have hfz6_2 := Ac HGz6 2
        clear HGz6 hgz6
        have p426 : 0 ≤ (s0_1 : Int) := of_decide_eq_true Yba_
        have q426 : s0_1 < (s0_0.length : Int) := of_decide_eq_true Yba_
        obtain ⟨ad426, e426, hx426_0⟩ := Kd.at_int HSz6_0 s0_1 p426 q426
        cases e426
        replace hx426_0 := G9 HB.out hx426_0
        replace p426 := eq_true p426
        replace q426 := eq_true q426
        go_enter Tryd.func71, Tryd.ntmps71
        go_wp2
        repeat (go_quiet (fail); try go_wp2)
        go_ret
        exact ⟨by first | rfl | (simp [Af, Ag] <;> rfl) | (simp [*, Af, Ag] <;> rfl), by repeat (first | (with_reducible first | exact HI0.out | apply Aa.alloc | apply Aa.drewN | apply Aa.drew | apply Aa.Au | apply Aa.Aw) | exact HI0.out), by repeat (first | (with_reducible first | exact HB.out | apply below_alloc | apply pw_below_drewN | apply below_drew1 | refine below_set ?_ (Aa.ge HI0.out)) | exact HB.out), by repeat (first | (with_reducible first | exact HK.out | apply Ad.Ce | apply Ah | apply Aj | apply Ai) | exact HK.out)⟩
    · rw [if_neg c3] at H
      exact absurd H (by simp)
  · rw [if_neg c2] at H
    have c2b0 : decide (s0_1 < (s0_0.length : Int)) = false := decide_eq_false c2
    clear c2
    by_cases c7 : (wrap64 (s0_1 + 1)) ≤ (s0_0.length : Int)
    · rw [if_pos c7] at H
      have c7b0 : decide ((wrap64 (s0_1 + 1)) ≤ (s0_0.length : Int)) = true := decide_eq_true c7
      clear c7
      simp only [Option.some.injEq, Prod.mk.injEq] at H
      obtain ⟨rfl, rfl, rfl⟩ := H
      obtain ⟨ASz8_0, cSz8_0, HGz8, hgz8, HSz8_0⟩ := HI0.out
      have hcz8_0 := cellS74_0 HGz8
      have hcz8_1 := cellS74_1 HGz8
      have hcz8_2 := cellS74_2 HGz8
      have hfz8_1 := Ac HGz8 1
      have hfz8_2 := Ac HGz8 2
      clear HGz8 hgz8
      go_enter Tryd.func71, Tryd.ntmps71
      go_wp2
      repeat (go_quiet (fail); try go_wp2)
      go_ret
      exact ⟨by first | rfl | (simp [Af, Ag] <;> rfl) | (simp [*, Af, Ag] <;> rfl), by repeat (first | (with_reducible first | exact HI0.out | apply Aa.alloc | apply Aa.drewN | apply Aa.drew | apply Aa.Au | apply Aa.Aw) | exact HI0.out), by repeat (first | (with_reducible first | exact HB.out | apply below_alloc | apply pw_below_drewN | apply below_drew1 | refine below_set ?_ (Aa.ge HI0.out)) | exact HB.out), by repeat (first | (with_reducible first | exact HK.out | apply Ad.Ce | apply Ah | apply Aj | apply Ai) | exact HK.out)⟩
    · rw [if_neg c7] at H
      have c7b0 : decide ((wrap64 (s0_1 + 1)) ≤ (s0_0.length : Int)) = false := decide_eq_false c7
      clear c7
      simp only [Option.some.injEq, Prod.mk.injEq] at H
      obtain ⟨rfl, rfl, rfl⟩ := H
      obtain ⟨ASz9_0, cSz9_0, HGz9, hgz9, HSz9_0⟩ := HI0.out
      have hcz9_0 := cellS74_0 HGz9
      have hcz9_1 := cellS74_1 HGz9
      have hcz9_2 := cellS74_2 HGz9
      have hfz9_1 := Ac HGz9 1
      have hfz9_2 := Ac HGz9 2
      clear HGz9 hgz9
      go_enter Tryd.func71, Tryd.ntmps71
      go_wp2
      repeat (go_quiet (fail); try go_wp2)
      go_ret
      exact ⟨by first | rfl | (simp [Af, Ag] <;> rfl) | (simp [*, Af, Ag] <;> rfl), by repeat (first | (with_reducible first | exact HI0.out | apply Aa.alloc | apply Aa.drewN | apply Aa.drew | apply Aa.Au | apply Aa.Aw) | exact HI0.out), by repeat (first | (with_reducible first | exact HB.out | apply below_alloc | apply pw_below_drewN | apply below_drew1 | refine below_set ?_ (Aa.ge HI0.out)) | exact HB.out), by repeat (first | (with_reducible first | exact HK.out | apply Ad.Ce | apply Ah | apply Aj | apply Ai) | exact HK.out)⟩
end Go.Proofs.YtkpieljmhgfofaaDoor.X

namespace Go.Proofs.YtkpieljmhgfofaaDoor.X
open Go.RowKit Go.Proofs.YtkpieljmhgfofaaDoorW.PrintWords Go.Proofs.YtkpieljmhgfofaaDoorW.PrintLast Go.Proofs.YtkpieljmhgfofaaDoorW.PrintMore
attribute [local go_sem] max2_int min2_int max_two min_two max_three min_three max_four min_four
open Go.Proofs.YtkpieljmhgfofaaDoorG
def Am.f (s0_0 : List Int) (s0_1 : Int) (s0_2 : Int) (a1 : Int) : Option (Int × Int × Int) := if a1 ≤ 1 then (some (0, s0_1, s0_2)) else ((Es.f s0_0 s0_1 s0_2).bind fun bt427 => (if a1 > 200 then ((Es.f s0_0 bt427.2.1 bt427.2.2).bind fun bt430 => (if a1 = 0 then (none) else (some (Int.tmod (wrap64 ((wrap64 (bt427.1 * 256)) + bt430.1)) a1, bt430.2.1, bt430.2.2)))) else (if a1 = 0 then (none) else (some (Int.tmod bt427.1 a1, bt427.2.1, bt427.2.2)))))
set_option maxHeartbeats 8000000 in
set_option maxRecDepth 100000 in
theorem Am.calls (g : Nat) (s0_0 : List Int) (s0_1 : Int) (s0_2 : Int) (a1 : Int) (r1 : Int) (r2 : Int) (r3 : Int) (w0 w : World) (hI : Aa w0 w g s0_0 s0_1 s0_2) (hB : Below w0.heap.size w0 w) (h : Am.f s0_0 s0_1 s0_2 a1 = some (r1, r2, r3)) :
    Calls Tryd.prog 55 #[.pointer (some ⟨g, 0, none⟩), .int .i64 a1] w fun e w' => e = .returned (.int .i64 r1) ∧ Aa w0 w' g s0_0 r2 r3 ∧ Below w0.heap.size w0 w' ∧ Ad w w' g none := by
  have HI0 := Aside0.mk hI
  have HK := Aside0.mk (Ad.refl w g none)
  have HL := Aside0.mk hB.size
  clear hI
  have HW0 := Aside0.mk hB.size
  have HB := Aside0.mk hB
  clear hB
  have H : (if a1 ≤ 1 then (some (0, s0_1, s0_2)) else ((Es.f s0_0 s0_1 s0_2).bind fun bt427 => (if a1 > 200 then ((Es.f s0_0 bt427.2.1 bt427.2.2).bind fun bt430 => (if a1 = 0 then (none) else (some (Int.tmod (wrap64 ((wrap64 (bt427.1 * 256)) + bt430.1)) a1, bt430.2.1, bt430.2.2)))) else (if a1 = 0 then (none) else (some (Int.tmod bt427.1 a1, bt427.2.1, bt427.2.2)))))) = some (r1, r2, r3) := h
  clear h
  by_cases c3 : a1 ≤ 1
  · rw [if_pos c3] at H
    have c3b0 : decide (a1 ≤ 1) = true := decide_eq_true c3
    clear c3
    simp only [Option.some.injEq, Prod.mk.injEq] at H
    obtain ⟨rfl, rfl, rfl⟩ := H
    go_enter Tryd.func55, Tryd.ntmps55
    go_wp2
    go_ret
    exact ⟨by first | rfl | (simp [Af, Ag] <;> rfl) | (simp [*, Af, Ag] <;> rfl), by repeat (first | (with_reducible first | exact HI0.out | apply Aa.alloc | apply Aa.drewN | apply Aa.drew | apply Aa.Au | apply Aa.Aw) | exact HI0.out), by repeat (first | (with_reducible first | exact HB.out | apply below_alloc | apply pw_below_drewN | apply below_drew1 | refine below_set ?_ (Aa.ge HI0.out)) | exact HB.out), by repeat (first | (with_reducible first | exact HK.out | apply Ad.Ce | apply Ah | apply Aj | apply Ai) | exact HK.out)⟩
  · rw [if_neg c3] at H
    have c3b0 : decide (a1 ≤ 1) = false := decide_eq_false c3
    clear c3
    replace H := Option.bind_eq_some_iff.mp H
    obtain ⟨⟨t427, t428, t429⟩, A40, H⟩ := H
    replace H : (if a1 > 200 then ((Es.f s0_0 t428 t429).bind fun bt430 => (if a1 = 0 then (none) else (some (Int.tmod (wrap64 ((wrap64 (t427 * 256)) + bt430.1)) a1, bt430.2.1, bt430.2.2)))) else (if a1 = 0 then (none) else (some (Int.tmod t427 a1, t428, t429)))) = some (r1, r2, r3) := H
    have A4 := Aside0.mk A40
    clear A40
    by_cases c5 : a1 > 200
    · rw [if_pos c5] at H
      have c5b0 : decide (200 < a1) = true := decide_eq_true c5
      clear c5
      replace H := Option.bind_eq_some_iff.mp H
      obtain ⟨⟨t430, t431, t432⟩, A60, H⟩ := H
      replace H : (if a1 = 0 then (none) else (some (Int.tmod (wrap64 ((wrap64 (t427 * 256)) + t430)) a1, t431, t432))) = some (r1, r2, r3) := H
      have A6 := Aside0.mk A60
      clear A60
      by_cases c7 : a1 = 0
      · rw [if_pos c7] at H
        exact absurd H (by simp)
      · rw [if_neg c7] at H
        have c7b0 : (a1 == 0) = false := beq_eq_false_iff_ne.mpr c7
        have c7b1 : (a1 != 0) = true := bne_iff_ne.mpr c7
        simp only [Option.some.injEq, Prod.mk.injEq] at H
        obtain ⟨rfl, rfl, rfl⟩ := H
        go_enter Tryd.func55, Tryd.ntmps55
        go_wp2_with (first | ((with_reducible refine gate_callee (f := 71) rfl ?_); refine goesL_ (some 9) rfl rfl Tryd.func71 (by kernel_rfl) rfl #[.pointer (some ⟨g, 0, none⟩)] rfl Yc_ ?_; (with_reducible refine (Es.calls g s0_0 s0_1 s0_2 t427 t428 t429 w0 _ ?side1 ?side2 A4.out).mono ?_); (case side1 => repeat (first | (with_reducible first | exact HI0.out | apply Aa.alloc | apply Aa.drewN | apply Aa.drew | apply Aa.Au | apply Aa.Aw) | exact HI0.out)); (case side2 => repeat (first | (with_reducible first | exact HB.out | apply below_alloc | apply pw_below_drewN | apply below_drew1 | refine below_set ?_ (Aa.ge HI0.out)) | exact HB.out)); rintro e w8 ⟨rfl, hi, hb, hk⟩; refine ⟨_, rfl, ?_⟩; have n0_ := Aside0.mk (Ad.trans Yf_ hk (.inl rfl)); have n1_ := Aside0.mk (hb); have n2_ := Aside0.mk (hi); clear HK; clear HB; clear HI0; have HK := n0_; have HB := n1_; have HI0 := n2_; clear n0_ n1_ n2_; (try clear hb); (try clear hb2); (try clear hk); (try clear hi)) | ((with_reducible refine gate_callee (f := 71) rfl ?_); refine goesL_ (some 15) rfl rfl Tryd.func71 (by kernel_rfl) rfl #[.pointer (some ⟨g, 0, none⟩)] rfl Yc_ ?_; (with_reducible refine (Es.calls g s0_0 t428 t429 t430 t431 t432 w0 _ ?side1 ?side2 A6.out).mono ?_); (case side1 => repeat (first | (with_reducible first | exact HI0.out | apply Aa.alloc | apply Aa.drewN | apply Aa.drew | apply Aa.Au | apply Aa.Aw) | exact HI0.out)); (case side2 => repeat (first | (with_reducible first | exact HB.out | apply below_alloc | apply pw_below_drewN | apply below_drew1 | refine below_set ?_ (Aa.ge HI0.out)) | exact HB.out)); rintro e w9 ⟨rfl, hi, hb, hk⟩; refine ⟨_, rfl, ?_⟩; have n0_ := Aside0.mk (Ad.trans Yf_ hk (.inl rfl)); have n1_ := Aside0.mk (hb); have n2_ := Aside0.mk (hi); clear HK; clear HB; clear HI0; have HK := n0_; have HB := n1_; have HI0 := n2_; clear n0_ n1_ n2_; (try clear hb); (try clear hb2); (try clear hk); (try clear hi)))
        go_ret
        exact ⟨by first | rfl | (simp [Af, Ag] <;> rfl) | (simp [*, Af, Ag] <;> rfl), by repeat (first | (with_reducible first | exact HI0.out | apply Aa.alloc | apply Aa.drewN | apply Aa.drew | apply Aa.Au | apply Aa.Aw) | exact HI0.out), by repeat (first | (with_reducible first | exact HB.out | apply below_alloc | apply pw_below_drewN | apply below_drew1 | refine below_set ?_ (Aa.ge HI0.out)) | exact HB.out), by repeat (first | (with_reducible first | exact HK.out | apply Ad.Ce | apply Ah | apply Aj | apply Ai) | exact HK.out)⟩
    · rw [if_neg c5] at H
      have c5b0 : decide (200 < a1) = false := decide_eq_false c5
      clear c5
      by_cases c10 : a1 = 0
      · rw [if_pos c10] at H
        exact absurd H (by simp)
      · rw [if_neg c10] at H
        have c10b0 : (a1 == 0) = false := beq_eq_false_iff_ne.mpr c10
        have c10b1 : (a1 != 0) = true := bne_iff_ne.mpr c10
        simp only [Option.some.injEq, Prod.mk.injEq] at H
        obtain ⟨rfl, rfl, rfl⟩ := H
        go_enter Tryd.func55, Tryd.ntmps55
        go_wp2_with (first | ((with_reducible refine gate_callee (f := 71) rfl ?_); refine goesL_ (some 9) rfl rfl Tryd.func71 (by kernel_rfl) rfl #[.pointer (some ⟨g, 0, none⟩)] rfl Yc_ ?_; (with_reducible refine (Es.calls g s0_0 s0_1 s0_2 t427 t428 t429 w0 _ ?side1 ?side2 A4.out).mono ?_); (case side1 => repeat (first | (with_reducible first | exact HI0.out | apply Aa.alloc | apply Aa.drewN | apply Aa.drew | apply Aa.Au | apply Aa.Aw) | exact HI0.out)); (case side2 => repeat (first | (with_reducible first | exact HB.out | apply below_alloc | apply pw_below_drewN | apply below_drew1 | refine below_set ?_ (Aa.ge HI0.out)) | exact HB.out)); rintro e w11 ⟨rfl, hi, hb, hk⟩; refine ⟨_, rfl, ?_⟩; have n0_ := Aside0.mk (Ad.trans Yf_ hk (.inl rfl)); have n1_ := Aside0.mk (hb); have n2_ := Aside0.mk (hi); clear HK; clear HB; clear HI0; have HK := n0_; have HB := n1_; have HI0 := n2_; clear n0_ n1_ n2_; (try clear hb); (try clear hb2); (try clear hk); (try clear hi)))
        go_ret
        exact ⟨by first | rfl | (simp [Af, Ag] <;> rfl) | (simp [*, Af, Ag] <;> rfl), by repeat (first | (with_reducible first | exact HI0.out | apply Aa.alloc | apply Aa.drewN | apply Aa.drew | apply Aa.Au | apply Aa.Aw) | exact HI0.out), by repeat (first | (with_reducible first | exact HB.out | apply below_alloc | apply pw_below_drewN | apply below_drew1 | refine below_set ?_ (Aa.ge HI0.out)) | exact HB.out), by repeat (first | (with_reducible first | exact HK.out | apply Ad.Ce | apply Ah | apply Aj | apply Ai) | exact HK.out)⟩
end Go.Proofs.YtkpieljmhgfofaaDoor.X

