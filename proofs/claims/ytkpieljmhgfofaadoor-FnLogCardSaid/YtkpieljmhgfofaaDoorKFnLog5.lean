/- The law FnLog answers true for every input that the row lets in, and leaves its arguments as they were. Conditions: none beyond the row's own. -/
import Derived.Test.YtkpieljmhgfofaaDoorRows
import Derived.WalkKit
import Derived.ProofKit
import Derived.OpenShut
import Derived.ShutString
import Derived.ChangeOld
import Derived.Below
import Derived.SizedLaws
import Derived.Lib.SmallJoins
import Derived.Handy
import Derived.Lay
import Derived.SevenTiedAt
import Derived.LaidSub
import Derived.Lib.LaidTab
import Derived.Test.YtkpieljmhgfofaaDoorCards
import Derived.Test.YtkpieljmhgfofaaDoorTie
import Derived.Test.YtkpieljmhgfofaaDoorKFnLog1
import Derived.Test.YtkpieljmhgfofaaDoorKFnLog2
import Derived.Test.YtkpieljmhgfofaaDoorKFnLog3
import Derived.Test.YtkpieljmhgfofaaDoorKFnLog4
set_option linter.unusedVariables false
set_option linter.unusedSimpArgs false
namespace Go.Proofs.YtkpieljmhgfofaaDoor.X
open Go.RowKit Go.Proofs.YtkpieljmhgfofaaDoorW.PrintWords Go.Proofs.YtkpieljmhgfofaaDoorW.PrintLast Go.Proofs.YtkpieljmhgfofaaDoorW.PrintMore
attribute [local go_sem] max2_int min2_int max_two min_two max_three min_three max_four min_four
open Go.Proofs.YtkpieljmhgfofaaDoorG
def Gs.f (k : Nat) (a0 : Int) (a1_0 : ByteArray) (a1_1 : ByteArray) : Option (ByteArray × Bool) := (Fz.f a0 0 59).bind fun t160 => (if t160 = true then ((Ba.f k a1_0 a1_1).bind fun t161 => (if t161 = true then ((Bq.f k a0 a1_0 a1_1).bind fun t162 => (some (t162, true))) else (some ((⟨#[]⟩ : ByteArray), false)))) else (some ((⟨#[]⟩ : ByteArray), false)))
theorem Gs.mono : ∀ a0 a1 a2 k, LeO (Gs.f k a0 a1 a2) (Gs.f (k + 1) a0 a1 a2) := by
  intro a0 a1 a2 k
  unfold Gs.f
  repeat' first
      | (with_reducible exact Ba.mono _ _ _)
      | (with_reducible exact Bq.mono _ _ _ _)
      | (with_reducible exact LeO.refl _)
      | (with_reducible exact LeO.none _)
      | (with_reducible refine LeO.ite ?_ ?_)
      | (with_reducible refine LeO.bind ?_ (fun _ => ?_))
      | exact Ba.mono _ _ _
      | exact Bq.mono _ _ _ _
      | exact LeO.none _
      | refine LeO.ite ?_ ?_
      | refine LeO.bind ?_ (fun _ => ?_)
set_option maxHeartbeats 8000000 in
set_option maxRecDepth 100000 in
theorem Gs.calls (k : Nat) (a0 : Int) (a1_0 : ByteArray) (a1_1 : ByteArray) (r1 : ByteArray) (r2 : Bool) (w : World) (hG : Eg w) (h : Gs.f k a0 a1_0 a1_1 = some (r1, r2)) :
    Calls Tryd.prog 16 #[.int .i64 a0, .agg #[.string a1_0, .string a1_1]] w fun e w' => e = .returned (.tuple #[.string r1, .bool r2]) ∧ Below w.heap.size w w' := by
  have hu27 := Tryd.underlying27
  have HGL := Aside0.mk hG
  clear hG
  have HB := Aside0.mk (Below.refl w.heap.size w)
  have H : ((Fz.f a0 0 59).bind fun t160 => (if t160 = true then ((Ba.f k a1_0 a1_1).bind fun t161 => (if t161 = true then ((Bq.f k a0 a1_0 a1_1).bind fun t162 => (some (t162, true))) else (some ((⟨#[]⟩ : ByteArray), false)))) else (some ((⟨#[]⟩ : ByteArray), false)))) = some (r1, r2) := h
  clear h
  replace H := Option.bind_eq_some_iff.mp H
  obtain ⟨t160, A30, H⟩ := H
  replace H : (if t160 = true then ((Ba.f k a1_0 a1_1).bind fun t161 => (if t161 = true then ((Bq.f k a0 a1_0 a1_1).bind fun t162 => (some (t162, true))) else (some ((⟨#[]⟩ : ByteArray), false)))) else (some ((⟨#[]⟩ : ByteArray), false))) = some (r1, r2) := H
  have A3 := Aside0.mk A30
  clear A30
  by_cases c4 : t160 = true
  · subst c4
    have H1 : ((Ba.f k a1_0 a1_1).bind fun t161 => (if t161 = true then ((Bq.f k a0 a1_0 a1_1).bind fun t162 => (some (t162, true))) else (some ((⟨#[]⟩ : ByteArray), false)))) = some (r1, r2) := by rw [if_pos rfl] at H; exact H
    clear H
    have H := H1
    clear H1
    replace H := Option.bind_eq_some_iff.mp H
    obtain ⟨t161, A50, H⟩ := H
    replace H : (if t161 = true then ((Bq.f k a0 a1_0 a1_1).bind fun t162 => (some (t162, true))) else (some ((⟨#[]⟩ : ByteArray), false))) = some (r1, r2) := H
    have A5 := Aside0.mk A50
    clear A50
    by_cases c6 : t161 = true
    · subst c6
      have H1 : ((Bq.f k a0 a1_0 a1_1).bind fun t162 => (some (t162, true))) = some (r1, r2) := by rw [if_pos rfl] at H; exact H
      clear H
      have H := H1
      clear H1
      replace H := Option.bind_eq_some_iff.mp H
      obtain ⟨t162, A70, H⟩ := H
      replace H : (some (t162, true)) = some (r1, r2) := H
      have A7 := Aside0.mk A70
      clear A70
      simp only [Option.some.injEq, Prod.mk.injEq] at H
      obtain ⟨rfl, rfl⟩ := H
      go_enter Tryd.func16, Tryd.ntmps16
      go_wp2_with (first | ((with_reducible refine Bd (N := 3) rfl ?_); refine Bc ?hg (N := 3) ?hd (cs := #[.string a1_0, .string a1_1]) (t := 27) ?hr ?_; (case hd => rfl); (case hg => rfl); (case hr => first | (go_simp; done) | (go_simp; rfl)); intro gb0 hg w8 hbox hb; have n0_ := Aside0.mk (Ag Ya_ hb); have n1_ := Aside0.mk (hbox); have n2_ := Aside0.mk ((by rw [hg]; exact (Ah Ya_) : w.heap.size ≤ gb0)); have n3_ := Aside0.mk ((by rw [hg]; exact (Ah Ya_) : w.heap.size ≤ gb0)); clear HB; have HB := n0_; have BK0 := n1_; have GW0 := n2_; have GE0 := n3_; clear n0_ n1_ n2_ n3_; clear hb hbox hg) | ((with_reducible refine Am (f := 45) rfl ?_); refine Be (some 7) rfl rfl Tryd.func45 (by kernel_rfl) rfl #[.int .i64 a0, .int .i64 0, .int .i64 59] rfl Yc_ ?_; (with_reducible refine (Fz.calls a0 0 59 true _ A3.out).mono ?_); rintro e w' ⟨rfl, ⟨nd, rfl⟩⟩; refine ⟨_, rfl, ?_⟩; have hcz9_0 : w8.cell? ⟨gb0, 0, none⟩ = some (.string a1_0) := (Ae BK0.out 0).trans rfl; have hcz9_1 : w8.cell? ⟨gb0, 1, none⟩ = some (.string a1_1) := (Ae BK0.out 1).trans rfl; have hfz9_0 := Af BK0.out 0; have hfz9_1 := Af BK0.out 1) | (go_at_call 37; (with_reducible refine (Ba.calls k a1_0 a1_1 true _ A5.out).mono ?_); rintro e w10 ⟨rfl, hb⟩; have n0_ := Aside0.mk (Ai (g := gb0) (o := .cells #[.string a1_0, .string a1_1] 27 (0, 0)) Yd_ hb); have n1_ := Aside0.mk (Ag Yb_ hb); clear BK0; clear HB; have BK0 := n0_; have HB := n1_; clear n0_ n1_; (try clear hb); (try clear hb2); (try clear hk); (try clear hi); have hcz11_0 : w10.cell? ⟨gb0, 0, none⟩ = some (.string a1_0) := (Ae BK0.out 0).trans rfl; have hcz11_1 : w10.cell? ⟨gb0, 1, none⟩ = some (.string a1_1) := (Ae BK0.out 1).trans rfl; have hfz11_0 := Af BK0.out 0; have hfz11_1 := Af BK0.out 1) | ((with_reducible refine Am (f := 46) rfl ?_); refine Be (some 16) rfl rfl Tryd.func46 (by kernel_rfl) rfl #[.int .i64 a0, .agg #[.string a1_0, .string a1_1]] rfl Yc_ ?_; (with_reducible refine (Bq.calls k a0 a1_0 a1_1 t162 _ ?side1 A7.out).mono ?_); (case side1 => exact Eg.below HGL.out Yb_); rintro e w12 ⟨rfl, hb⟩; refine ⟨_, rfl, ?_⟩; have n0_ := Aside0.mk (Ai (g := gb0) (o := .cells #[.string a1_0, .string a1_1] 27 (0, 0)) Yd_ hb); have n1_ := Aside0.mk (Ag Yb_ hb); clear BK0; clear HB; have BK0 := n0_; have HB := n1_; clear n0_ n1_; (try clear hb); (try clear hb2); (try clear hk); (try clear hi)))
      go_ret2
      exact ⟨by first | rfl | (simp [Ak, Aj] <;> rfl) | (simp [*, Ak, Aj] <;> rfl), by repeat (first | (with_reducible first | exact HB.out | apply below_alloc | apply pw_below_drewN | apply below_drew1 | refine below_set ?_ GE0.out) | exact HB.out)⟩
    · replace c6 := Bool.eq_false_iff.mpr c6
      subst c6
      have H1 : (some ((⟨#[]⟩ : ByteArray), false)) = some (r1, r2) := by rw [if_neg (show ¬ (false = true) by decide)] at H; exact H
      clear H
      have H := H1
      clear H1
      simp only [Option.some.injEq, Prod.mk.injEq] at H
      obtain ⟨rfl, rfl⟩ := H
      go_enter Tryd.func16, Tryd.ntmps16
      go_wp2_with (first | ((with_reducible refine Bd (N := 3) rfl ?_); refine Bc ?hg (N := 3) ?hd (cs := #[.string a1_0, .string a1_1]) (t := 27) ?hr ?_; (case hd => rfl); (case hg => rfl); (case hr => first | (go_simp; done) | (go_simp; rfl)); intro gb0 hg w13 hbox hb; have n0_ := Aside0.mk (Ag Ya_ hb); have n1_ := Aside0.mk (hbox); have n2_ := Aside0.mk ((by rw [hg]; exact (Ah Ya_) : w.heap.size ≤ gb0)); have n3_ := Aside0.mk ((by rw [hg]; exact (Ah Ya_) : w.heap.size ≤ gb0)); clear HB; have HB := n0_; have BK0 := n1_; have GW0 := n2_; have GE0 := n3_; clear n0_ n1_ n2_ n3_; clear hb hbox hg) | ((with_reducible refine Am (f := 45) rfl ?_); refine Be (some 7) rfl rfl Tryd.func45 (by kernel_rfl) rfl #[.int .i64 a0, .int .i64 0, .int .i64 59] rfl Yc_ ?_; (with_reducible refine (Fz.calls a0 0 59 true _ A3.out).mono ?_); rintro e w' ⟨rfl, ⟨nd, rfl⟩⟩; refine ⟨_, rfl, ?_⟩; have hcz14_0 : w13.cell? ⟨gb0, 0, none⟩ = some (.string a1_0) := (Ae BK0.out 0).trans rfl; have hcz14_1 : w13.cell? ⟨gb0, 1, none⟩ = some (.string a1_1) := (Ae BK0.out 1).trans rfl; have hfz14_0 := Af BK0.out 0; have hfz14_1 := Af BK0.out 1) | (go_at_call 37; (with_reducible refine (Ba.calls k a1_0 a1_1 false _ A5.out).mono ?_); rintro e w15 ⟨rfl, hb⟩; have n0_ := Aside0.mk (Ai (g := gb0) (o := .cells #[.string a1_0, .string a1_1] 27 (0, 0)) Yd_ hb); have n1_ := Aside0.mk (Ag Yb_ hb); clear BK0; clear HB; have BK0 := n0_; have HB := n1_; clear n0_ n1_; (try clear hb); (try clear hb2); (try clear hk); (try clear hi)))
      go_ret2
      exact ⟨by first | rfl | (simp [Ak, Aj] <;> rfl) | (simp [*, Ak, Aj] <;> rfl), by repeat (first | (with_reducible first | exact HB.out | apply below_alloc | apply pw_below_drewN | apply below_drew1 | refine below_set ?_ GE0.out) | exact HB.out)⟩
  · replace c4 := Bool.eq_false_iff.mpr c4
    subst c4
    have H1 : (some ((⟨#[]⟩ : ByteArray), false)) = some (r1, r2) := by rw [if_neg (show ¬ (false = true) by decide)] at H; exact H
    clear H
    have H := H1
    clear H1
    simp only [Option.some.injEq, Prod.mk.injEq] at H
    obtain ⟨rfl, rfl⟩ := H
    go_enter Tryd.func16, Tryd.ntmps16
    go_wp2_with (first | ((with_reducible refine Bd (N := 3) rfl ?_); refine Bc ?hg (N := 3) ?hd (cs := #[.string a1_0, .string a1_1]) (t := 27) ?hr ?_; (case hd => rfl); (case hg => rfl); (case hr => first | (go_simp; done) | (go_simp; rfl)); intro gb0 hg w16 hbox hb; have n0_ := Aside0.mk (Ag Ya_ hb); have n1_ := Aside0.mk (hbox); have n2_ := Aside0.mk ((by rw [hg]; exact (Ah Ya_) : w.heap.size ≤ gb0)); have n3_ := Aside0.mk ((by rw [hg]; exact (Ah Ya_) : w.heap.size ≤ gb0)); clear HB; have HB := n0_; have BK0 := n1_; have GW0 := n2_; have GE0 := n3_; clear n0_ n1_ n2_ n3_; clear hb hbox hg) | ((with_reducible refine Am (f := 45) rfl ?_); refine Be (some 7) rfl rfl Tryd.func45 (by kernel_rfl) rfl #[.int .i64 a0, .int .i64 0, .int .i64 59] rfl Yc_ ?_; (with_reducible refine (Fz.calls a0 0 59 false _ A3.out).mono ?_); rintro e w' ⟨rfl, ⟨nd, rfl⟩⟩; refine ⟨_, rfl, ?_⟩))
    go_ret2
    exact ⟨by first | rfl | (simp [Ak, Aj] <;> rfl) | (simp [*, Ak, Aj] <;> rfl), by repeat (first | (with_reducible first | exact HB.out | apply below_alloc | apply pw_below_drewN | apply below_drew1 | refine below_set ?_ GE0.out) | exact HB.out)⟩
end Go.Proofs.YtkpieljmhgfofaaDoor.X

namespace Go.Proofs.YtkpieljmhgfofaaDoor.X
open Go.RowKit Go.Proofs.YtkpieljmhgfofaaDoorW.PrintWords Go.Proofs.YtkpieljmhgfofaaDoorL
def Ey (n : Int) (c r : ByteArray) : ByteArray := (((dec n ++ ⟨#[32]⟩) ++ c) ++ ⟨#[64]⟩) ++ r
def Ew (n : Int) (c r : ByteArray) : ByteArray := Fg (Ey n c r) ++ ⟨#[10]⟩
theorem bodyOf_size (n : Int) (c r : ByteArray) : (Ey n c r).size = (dec n).size + 1 + c.size + 1 + r.size := by
  unfold Ey; simp only [ByteArray.size_append]; rfl
theorem rec_sizes {c r : ByteArray} (h : Es c r = true) : 1 ≤ c.size ∧ c.size ≤ 160 ∧ r.size ≤ 200 := by
  unfold Es at h; simp only [Bool.and_eq_true, decide_eq_true_eq] at h; omega
theorem ok35 {l c : List UInt8} (hc : c.contains 35 = true) (h : l.all (okP c) = true) : l.contains 35 = false := by
  rw [List.contains_eq_any_beq]
  rw [List.all_eq_true] at h
  rw [List.any_eq_false]
  intro x hx
  have := h x hx
  unfold okP at this
  simp only [Bool.and_eq_true, Bool.not_eq_true'] at this
  intro e
  have e2 : 35 = x := by simpa using e
  subst e2
  rw [hc] at this
  simp at this
theorem dec_no35 (n : Int) (h0 : 0 ≤ n) (h1 : n ≤ 59) : (B (dec n)).contains 35 = false := by
  obtain ⟨u, rfl⟩ : ∃ u : Nat, n = (u : Int) := ⟨n.toNat, by omega⟩
  rw [B_dec]
  have : u < 60 := by omega
  clear h0 h1
  unfold Lib.itoa
  rw [if_neg (by omega), Int.toNat_natCast]
  rw [Lib.decDigits]
  by_cases h : u < 10
  · rw [dif_pos h]
    have : ∀ v : Fin 10, ([UInt8.ofNat (48 + v.val)] : List UInt8).contains 35 = false := by decide
    exact this ⟨u, h⟩
  · rw [dif_neg h, Lib.decDigits, dif_pos (by omega)]
    have : ∀ v w : Fin 10, ([UInt8.ofNat (48 + v.val)] ++ [UInt8.ofNat (48 + w.val)] : List UInt8).contains 35 = false := by decide
    exact this ⟨u / 10, by omega⟩ ⟨u % 10, by omega⟩
theorem body_no35 {n : Int} {c r : ByteArray} (h0 : 0 ≤ n) (h1 : n ≤ 59) (h : Es c r = true) : (B (Ey n c r)).contains 35 = false := by
  unfold Es at h
  simp only [Bool.and_eq_true] at h
  have hc := ok35 (c := [35, 64]) (by decide) (show (B c).all (okP [35, 64]) = true by simp [h])
  have hr := ok35 (c := [35]) (by decide) (show (B r).all (okP [35]) = true by simp [h])
  have hd := dec_no35 n h0 h1
  unfold Ey
  simp only [F9, List.contains_eq_any_beq, List.any_append] at hc hr hd ⊢
  rw [hc, hr, hd]
  rfl
theorem implLine_ev (n : Int) (c r : ByteArray) (h0 : 0 ≤ n) (h1 : n ≤ 59) (h : Es c r = true) : Ev (fun k => Bq.f k n c r) (Ew n c r) := by
  obtain ⟨s1, s2, s3⟩ := rec_sizes h
  have hd := Ha n (by omega) (by omega)
  have hb := bodyOf_size n c r
  have hz := (H8 (Ey n c r)).2
  unfold Bq.f
  rw [implDec n (by omega) (by omega)]
  simp only [Option.bind_some]
  refine Ev.congr (f := fun k => (Dq.f k (Ey n c r)).bind fun bt157 => (if bt157.1.size + 1 ≤ 9223372036854775807 then (some (bt157.1 ++ (⟨#[10]⟩ : ByteArray))) else (none))) (fun k => ?_) (Ev.bind (implSeal_ev _ (by omega) (body_no35 h0 h1 h)) (Ev.congr (fun k => if_pos (by show (Fg (Ey n c r)).size + 1 ≤ _; omega)) (Ev.now _)))
  have z1 : (dec n ++ (⟨#[32]⟩ : ByteArray)).size = (dec n).size + 1 := by rw [ByteArray.size_append]; rfl
  have z2 : ((dec n ++ (⟨#[32]⟩ : ByteArray)) ++ c).size = (dec n).size + 1 + c.size := by rw [ByteArray.size_append, z1]
  have z3 : (((dec n ++ (⟨#[32]⟩ : ByteArray)) ++ c) ++ (⟨#[64]⟩ : ByteArray)).size = (dec n).size + 1 + c.size + 1 := by rw [ByteArray.size_append, z2]; rfl
  rw [if_pos (by omega), if_pos (by omega), if_pos (by omega), if_pos (by omega)]
  rfl
theorem specLine_ev (n : Int) (c r : ByteArray) (h0 : 0 ≤ n) (h1 : n ≤ 59) (h : Es c r = true) : Ev (fun k => Ci.f k n c r) (Ew n c r) := by
  obtain ⟨s1, s2, s3⟩ := rec_sizes h
  have hd := Ha n (by omega) (by omega)
  have hb := bodyOf_size n c r
  have hz := (H8 (Ey n c r)).2
  unfold Ci.f
  refine Ev.bind (specNum_ev n (by omega) (by omega)) ?_
  refine Ev.congr (f := fun k => (Fh.f k (Ey n c r)).bind fun t113 => (if t113.size + 1 ≤ 9223372036854775807 then (some (t113 ++ (⟨#[10]⟩ : ByteArray))) else (none))) (fun k => ?_) (Ev.bind (specSeal_ev _ (by omega)) (Ev.congr (fun k => if_pos (by omega)) (Ev.now _)))
  have z1 : (dec n ++ (⟨#[32]⟩ : ByteArray)).size = (dec n).size + 1 := by rw [ByteArray.size_append]; rfl
  have z2 : ((dec n ++ (⟨#[32]⟩ : ByteArray)) ++ c).size = (dec n).size + 1 + c.size := by rw [ByteArray.size_append, z1]
  have z3 : (((dec n ++ (⟨#[32]⟩ : ByteArray)) ++ c) ++ (⟨#[64]⟩ : ByteArray)).size = (dec n).size + 1 + c.size + 1 := by rw [ByteArray.size_append, z2]; rfl
  rw [if_pos (by omega), if_pos (by omega), if_pos (by omega), if_pos (by omega)]
  rfl
def enc (n : Int) (c r : ByteArray) : ByteArray × Bool := if 0 ≤ n ∧ n ≤ 59 ∧ Es c r = true then (Ew n c r, true) else (⟨#[]⟩, false)
end Go.Proofs.YtkpieljmhgfofaaDoor.X

namespace Go.Proofs.YtkpieljmhgfofaaDoor.X
open Go.RowKit Go.Proofs.YtkpieljmhgfofaaDoorW.PrintWords Go.Proofs.YtkpieljmhgfofaaDoorL
def mk (l : List UInt8) : ByteArray := ⟨l.toArray⟩
theorem Fq (l : List UInt8) : B (mk l) = l := B_mk l
theorem G8 (s : ByteArray) : mk (B s) = s := B_inj (B_mk _)
theorem Gw (l : List UInt8) : (mk l).size = l.length := by rw [size_B, Fq]
theorem Gu (s : ByteArray) (i j : Nat) : B (s.extract i j) = ((B s).drop i).take (j - i) := by
  unfold B; simp [List.extract_eq_take_drop]
def D8 (c : UInt8) : List UInt8 → List UInt8 × List UInt8 × Bool
  | [] => ([], [], false)
  | b :: l => if b = c then ([], l, true) else (b :: (D8 c l).1, (D8 c l).2.1, (D8 c l).2.2)
theorem cutL_hit (c : UInt8) : ∀ (a b : List UInt8), c ∉ a → D8 c (a ++ c :: b) = (a, b, true)
  | [], b, _ => by simp [D8]
  | x :: a, b, h => by
    have hx : x ≠ c := fun e => h (by simp [e])
    have ih := cutL_hit c a b (fun e => h (by simp [e]))
    simp only [List.cons_append, D8, if_neg hx, ih]
theorem H6 (c : UInt8) : ∀ l : List UInt8, (D8 c l).2.2 = true → l = (D8 c l).1 ++ c :: (D8 c l).2.1
  | [], h => by simp [D8] at h
  | x :: l, h => by
    by_cases hx : x = c
    · subst hx; simp [D8]
    · simp only [D8, if_neg hx] at h ⊢
      have := H6 c l h
      rw [List.cons_append, ← this]
theorem cutL_notin (c : UInt8) : ∀ l : List UInt8, c ∉ (D8 c l).1
  | [] => by simp [D8]
  | x :: l => by
    by_cases hx : x = c
    · subst hx; simp [D8]
    · simp only [D8, if_neg hx, List.mem_cons, not_or]
      exact ⟨fun e => hx e.symm, cutL_notin c l⟩
theorem cutL_lost (c : UInt8) : ∀ l : List UInt8, (D8 c l).2.2 = false → D8 c l = (l, [], false)
  | [], h => rfl
  | x :: l, h => by
    by_cases hx : x = c
    · subst hx; simp [D8] at h
    · simp only [D8, if_neg hx] at h ⊢
      rw [cutL_lost c l h]
theorem cutL_index (c : UInt8) : ∀ l : List UInt8, Lib.indexByte l c = if (D8 c l).2.2 = true then ((D8 c l).1.length : Int) else -1
  | [] => by simp [D8, Lib.indexByte]
  | x :: l => by
    by_cases hx : x = c
    · subst hx; simp [D8, Lib.indexByte]
    · have hb : (x == c) = false := by simpa using hx
      have ih := cutL_index c l
      simp only [D8, if_neg hx, Lib.indexByte, hb, Bool.false_eq_true, if_false, ih]
      by_cases h : (D8 c l).2.2 = true
      · rw [if_pos h, if_pos h, if_neg (by simp <;> omega)]; simp
      · rw [if_neg h, if_neg h]; simp
theorem stringsCut_eq (s : ByteArray) (c : UInt8) (hs : s.size ≤ 9223372036854775807) : strings_Cut.f s ⟨#[c]⟩ = some (mk (D8 c (B s)).1, mk (D8 c (B s)).2.1, (D8 c (B s)).2.2) := by
  have e : stringslite_Index.f s ⟨#[c]⟩ = some (Lib.indexByte (B s) c) := rfl
  have h1 : (⟨#[c]⟩ : ByteArray).size = 1 := rfl
  unfold strings_Cut.f stringslite_Cut.f
  rw [e, cutL_index]
  simp only [Option.bind_some]
  by_cases h : (D8 c (B s)).2.2 = true
  · have hf := H6 c (B s) h
    have hl : (B s).length = (D8 c (B s)).1.length + 1 + (D8 c (B s)).2.1.length := by
      conv => lhs; rw [hf]
      simp; omega
    rw [D7] at hl
    simp only [if_pos h]
    rw [if_pos (by omega), if_pos (by omega), if_pos (by omega), h1, wrap_id (by omega) (by omega), if_pos (by omega), if_pos (by omega)]
    simp only [Option.bind_some, Option.some.injEq, Prod.mk.injEq]
    generalize (D8 c (B s)).1 = a at *
    generalize (D8 c (B s)).2.1 = b at *
    refine ⟨B_inj ?_, B_inj ?_, h.symm⟩
    · rw [Gu, Fq, hf]
      simp
    · rw [Gu, Fq, hf]
      rw [show ((a.length : Int) + ((1 : Nat) : Int)).toNat = a.length + 1 by omega]
      rw [List.take_of_length_le (by simp; omega)]
      rw [List.drop_append, List.drop_of_length_le (by omega)]
      simp
  · have hl := cutL_lost c (B s) (by simpa using h)
    simp only [if_neg h]
    rw [if_neg (by omega), hl]
    simp only [Option.bind_some, G8]
    rfl
/-- A text's pieces between all of a byte. -/
def Gx (p : List UInt8) : List (List UInt8) → List (List UInt8)
  | [] => [p]
  | q :: r => (p ++ q) :: r
def pieces (c : UInt8) : List UInt8 → List (List UInt8)
  | [] => [[]]
  | b :: l => if b = c then [] :: pieces c l else Gx [b] (pieces c l)
theorem pieces_ne (c : UInt8) : ∀ l, pieces c l ≠ []
  | [] => by simp [pieces]
  | b :: l => by
    unfold pieces
    by_cases h : b = c
    · rw [if_pos h]; simp
    · rw [if_neg h]; cases pieces c l <;> simp [Gx]
theorem addHead_two (p q : List UInt8) (r : List (List UInt8)) : Gx p (Gx q r) = Gx (p ++ q) r := by cases r <;> simp [Gx]
theorem addHead_nil (c : UInt8) (l : List UInt8) : Gx [] (pieces c l) = pieces c l := by
  cases h : pieces c l with
  | nil => exact absurd h (pieces_ne c l)
  | cons a b => simp [Gx]
theorem addHead_length (p : List UInt8) (c : UInt8) (l : List UInt8) : (Gx p (pieces c l)).length = (pieces c l).length := by
  cases h : pieces c l with
  | nil => exact absurd h (pieces_ne c l)
  | cons a b => simp [Gx]
theorem pieces_head (c : UInt8) : ∀ l : List UInt8, (pieces c l)[0]? = some (D8 c l).1
  | [] => rfl
  | b :: l => by
    have ih := pieces_head c l
    unfold pieces D8
    by_cases h : b = c
    · rw [if_pos h, if_pos h]; rfl
    · rw [if_neg h, if_neg h]
      cases hp : pieces c l with
      | nil => exact absurd hp (pieces_ne c l)
      | cons a r => rw [hp] at ih; simp at ih; simp [Gx, ih]
theorem pieces_two (c : UInt8) : ∀ l : List UInt8, (2 ≤ (pieces c l).length) = ((D8 c l).2.2 = true)
  | [] => by simp [pieces, D8]
  | b :: l => by
    have ih := pieces_two c l
    unfold pieces D8
    by_cases h : b = c
    · rw [if_pos h, if_pos h]
      have := List.length_pos_iff.2 (pieces_ne c l)
      simp; omega
    · rw [if_neg h, if_neg h, addHead_length]; exact ih
theorem pieces_length (c : UInt8) : ∀ l : List UInt8, 1 ≤ (pieces c l).length ∧ (pieces c l).length ≤ l.length + 1
  | [] => by simp [pieces]
  | b :: l => by
    have ih := pieces_length c l
    unfold pieces
    by_cases h : b = c
    · rw [if_pos h]; simp; omega
    · rw [if_neg h, addHead_length]; simp; omega
def seg (s : ByteArray) (i j : Nat) : List UInt8 := ((B s).drop i).take (j - i)
theorem seg_succ (s : ByteArray) (i j : Nat) (h : i ≤ j) (hj : j < (B s).length) : seg s i (j + 1) = seg s i j ++ [(B s)[j]] := by
  unfold seg
  rw [show j + 1 - i = (j - i) + 1 by omega, List.take_succ_eq_append_getElem (by simp; omega)]
  simp [show i + (j - i) = j by omega]
theorem specSplit_ev (s : ByteArray) (c : UInt8) (hs : s.size ≤ 1000000000) : Ev (fun k => Cm.f k s (c.toNat : Int)) ((pieces c (B s)).map mk) := by
  have hlen := D7 s
  have key : ∀ (d i st : Nat) (xs : List ByteArray), i + d = (B s).length → st ≤ i → xs.length ≤ i →
      Ev (fun k => Cm.l0 k s (c.toNat : Int) xs st i) (xs ++ (Gx (seg s st i) (pieces c ((B s).drop i))).map mk) := by
    intro d
    induction d with
    | zero =>
      intro i st xs hi hst hx
      obtain rfl : i = (B s).length := by omega
      refine Ev.step (f := fun _ => some _) (fun k => ?_) (Ev.now _)
      simp only [Cm.l0]
      rw [if_neg (by omega), if_pos (by omega), if_pos (by omega), if_pos (by omega), List.drop_length]
      have e : s.extract (st : Int).toNat s.size = mk (seg s st (B s).length) := B_inj (by rw [Gu, Fq, hlen]; rfl)
      rw [e]
      simp [pieces, Gx]
    | succ d ih =>
      intro i st xs hi hst hx
      have hl : i < (B s).length := by omega
      have hb := bt_B s i hl
      rw [List.drop_eq_getElem_cons hl]
      unfold pieces
      by_cases e : (B s)[i] = c
      · rw [if_pos e]
        have i1 := ih (i + 1) (i + 1) (xs ++ [mk (seg s st i)]) (by omega) (by omega) (by simp; omega)
        have e0 : seg s (i + 1) (i + 1) = [] := by simp [seg]
        rw [e0, addHead_nil] at i1
        have e1 : Gx (seg s st i) ([] :: pieces c ((B s).drop (i + 1))) = seg s st i :: pieces c ((B s).drop (i + 1)) := by simp [Gx]
        rw [e1, List.map_cons]
        rw [List.append_assoc] at i1
        refine Ev.step (fun k => ?_) i1
        simp only [Cm.l0]
        have e2 : s.extract (st : Int).toNat (i : Int).toNat = mk (seg s st i) := B_inj (by rw [Gu, Fq]; rfl)
        rw [if_pos (by omega), if_pos (by omega), hb, e, if_pos rfl, if_pos (by omega), if_pos (by omega), if_pos (by omega), if_pos (by omega), e2, wrap_succ (by omega)]
      · rw [if_neg e]
        have i1 := ih (i + 1) st xs (by omega) (by omega) (by omega)
        rw [seg_succ s st i hst hl, ← addHead_two] at i1
        refine Ev.step (fun k => ?_) i1
        simp only [Cm.l0]
        rw [if_pos (by omega), if_pos (by omega), hb, if_neg (fun z => e (UInt8.toNat_inj.1 (by omega))), wrap_succ (by omega)]
  have := key (B s).length 0 0 [] (by omega) (by omega) (by simp)
  have e0 : seg s 0 0 = [] := by simp [seg]
  rw [e0, List.drop_zero, addHead_nil, List.nil_append] at this
  exact this
end Go.Proofs.YtkpieljmhgfofaaDoor.X

namespace Go.Proofs.YtkpieljmhgfofaaDoor.X
open Go.RowKit Go.Proofs.YtkpieljmhgfofaaDoorW.PrintWords Go.Proofs.YtkpieljmhgfofaaDoorL
theorem digit_range (d : Nat) (h : d < 10) : 48 ≤ (UInt8.ofNat (48 + d)).toNat ∧ (UInt8.ofNat (48 + d)).toNat ≤ 57 := by
  have : (UInt8.ofNat (48 + d)).toNat = 48 + d := by simp; omega
  omega
theorem decDigits_range : ∀ (m u : Nat), u ≤ m → ∀ b ∈ Lib.decDigits u, 48 ≤ b.toNat ∧ b.toNat ≤ 57 := by
  intro m
  induction m with
  | zero =>
    intro u hu b hb
    rw [Lib.decDigits, dif_pos (by omega)] at hb
    simp only [List.mem_singleton] at hb
    subst hb; exact digit_range u (by omega)
  | succ m ih =>
    intro u hu b hb
    by_cases h : u < 10
    · rw [Lib.decDigits, dif_pos h] at hb
      simp only [List.mem_singleton] at hb
      subst hb; exact digit_range u h
    · rw [Lib.decDigits.eq_1 u, dif_neg h] at hb
      rcases List.mem_append.1 hb with hb | hb
      · exact ih (u / 10) (by omega) b hb
      · simp only [List.mem_singleton] at hb
        subst hb; exact digit_range (u % 10) (by omega)
theorem itoa_range (n : Int) (h : 0 ≤ n) : ∀ b ∈ Lib.itoa n, 48 ≤ b.toNat ∧ b.toNat ≤ 57 := by
  unfold Lib.itoa
  rw [if_neg (by omega)]
  exact decDigits_range _ _ (Nat.le_refl _)
theorem B_sealed (s : ByteArray) : B (Fg s) = B s ++ 35 :: Lib.itoa (sumB (B s)) := by
  unfold Fg
  rw [F9, F9, B_dec, List.append_assoc]; rfl
theorem B_body (n : Int) (c r : ByteArray) : B (Ey n c r) = Lib.itoa n ++ 32 :: (B c ++ 64 :: B r) := by
  unfold Ey
  simp only [F9, B_dec, List.append_assoc]; rfl
theorem B_line (n : Int) (c r : ByteArray) : B (Ew n c r) = B (Fg (Ey n c r)) ++ [10] := by
  unfold Ew; rw [F9]; rfl
theorem all_range {l bad : List UInt8} (h : l.all (okP bad) = true) : ∀ b ∈ l, 32 ≤ b.toNat ∧ b.toNat ≤ 126 := by
  intro b hb
  have := List.all_eq_true.1 h b hb
  unfold okP at this
  simp only [Bool.and_eq_true, decide_eq_true_eq] at this
  exact this.1
theorem rec_parts {c r : ByteArray} (h : Es c r = true) : (∀ b ∈ B c, 32 ≤ b.toNat ∧ b.toNat ≤ 126) ∧ (∀ b ∈ B r, 32 ≤ b.toNat ∧ b.toNat ≤ 126) ∧ (64 : UInt8) ∉ B c := by
  unfold Es at h
  simp only [Bool.and_eq_true] at h
  refine ⟨all_range h.1.1.2, all_range h.2, fun hm => ?_⟩
  have := List.all_eq_true.1 h.1.1.2 _ hm
  simp [okP] at this
theorem sealed_range {n : Int} {c r : ByteArray} (h0 : 0 ≤ n) (h : Es c r = true) : ∀ b ∈ B (Fg (Ey n c r)), 32 ≤ b.toNat ∧ b.toNat ≤ 126 := by
  intro b hb
  rw [B_sealed, B_body] at hb
  obtain ⟨hc, hr, _⟩ := rec_parts h
  have hn := itoa_range n h0
  have hs := itoa_range (sumB (Lib.itoa n ++ 32 :: (B c ++ 64 :: B r))) (sumB_ok _).1
  simp only [List.mem_append, List.mem_cons] at hb
  rcases hb with ((hb | rfl | hb | rfl | hb) | rfl | hb)
  · have := hn b hb; omega
  · decide
  · exact hc b hb
  · decide
  · exact hr b hb
  · decide
  · have := hs b hb; omega
theorem sealed_no10 {n : Int} {c r : ByteArray} (h0 : 0 ≤ n) (h : Es c r = true) : (10 : UInt8) ∉ B (Fg (Ey n c r)) := fun hm => by
  have := (sealed_range h0 h _ hm).1
  revert this; decide
theorem body_not35 {n : Int} {c r : ByteArray} (h0 : 0 ≤ n) (h1 : n ≤ 59) (h : Es c r = true) : (35 : UInt8) ∉ B (Ey n c r) := fun hm => by
  have := body_no35 h0 h1 h
  rw [List.contains_eq_any_beq, List.any_eq_false] at this
  exact this _ hm (by simp)
/-- A text begins with the n-th record, and t follows. -/
def F8 (n : Int) (s : List UInt8) (c r : ByteArray) (t : List UInt8) : Prop := Es c r = true ∧ s = B (Ew n c r) ++ t
theorem F8.line {n : Int} {s : List UInt8} {c r : ByteArray} {t : List UInt8} (h0 : 0 ≤ n) (h : F8 n s c r t) : D8 10 s = (B (Fg (Ey n c r)), t, true) := by
  rw [h.2, B_line, List.append_assoc]
  exact cutL_hit 10 _ _ (sealed_no10 h0 h.1)
theorem body_cut {n : Int} {c r : ByteArray} (h0 : 0 ≤ n) (h1 : n ≤ 59) (h : Es c r = true) : D8 35 (B (Fg (Ey n c r))) = (B (Ey n c r), Lib.itoa (sumB (B (Ey n c r))), true) := by
  rw [B_sealed]
  exact cutL_hit 35 _ _ (body_not35 h0 h1 h)
theorem ask_cut {c r : ByteArray} (h : Es c r = true) : D8 64 (B c ++ 64 :: B r) = (B c, B r, true) := cutL_hit 64 _ _ (rec_parts h).2.2
theorem line_inj {n : Int} {c r c' r' : ByteArray} (h0 : 0 ≤ n) (h1 : n ≤ 59) (h : Es c r = true) (h' : Es c' r' = true) (e : B (Fg (Ey n c r)) = B (Fg (Ey n c' r'))) : c = c' ∧ r = r' := by
  have e1 := body_cut h0 h1 h
  have e2 := body_cut h0 h1 h'
  rw [e, e2] at e1
  simp only [Prod.mk.injEq] at e1
  have e3 := e1.1
  rw [B_body, B_body] at e3
  have e4 := List.append_cancel_left e3
  simp only [List.cons.injEq, true_and] at e4
  have e5 := ask_cut h
  rw [← e4, ask_cut h'] at e5
  simp only [Prod.mk.injEq] at e5
  exact ⟨(B_inj e5.1).symm, (B_inj e5.2.1).symm⟩
theorem F8.inj {n : Int} {s : List UInt8} {c r c' r' : ByteArray} {t t' : List UInt8} (h0 : 0 ≤ n) (h1 : n ≤ 59) (h : F8 n s c r t) (h' : F8 n s c' r' t') : c = c' ∧ r = r' ∧ t = t' := by
  have e1 := h.line h0
  rw [h'.line h0] at e1
  simp only [Prod.mk.injEq] at e1
  obtain ⟨a, b⟩ := line_inj h0 h1 h.1 h'.1 e1.1.symm
  exact ⟨a, b, e1.2.1.symm⟩
-- the checksum of whatever text
def apC (s : ByteArray) : ByteArray × Bool := if s.size ≤ 4000 ∧ (Fg s).size ≤ 4000 then (Fg s, true) else (⟨#[]⟩, false)
theorem implSeal_any (s : ByteArray) (hs : s.size ≤ 1000000000) (hn : (35 : UInt8) ∉ B s) : Ev (fun k => Dq.f k s) (apC s) := by
  have hb := sumB_ok (B s)
  have hd := Ha (sumB (B s)) (by omega) (by omega)
  have hn2 : (B s).contains 35 = false := by
    rw [List.contains_eq_any_beq, List.any_eq_false]
    intro x hx e
    have : (35 : UInt8) = x := by simpa using e
    exact hn (this ▸ hx)
  unfold Dq.f apC
  by_cases h : s.size ≤ 4000
  · refine Ev.bind (implSum_ev s h) ?_
    simp only [if_pos (show s.size + 1 ≤ 9223372036854775807 by omega), implDec _ (show -9223372036854775808 ≤ sumB (B s) by omega) (show sumB (B s) ≤ 9223372036854775807 by omega), Option.bind_some, if_true]
    refine Ev.congr (fun k => ?_) (Ev.now _)
    rw [if_pos (by rw [ByteArray.size_append]; show s.size + 1 + _ ≤ _; omega), contains35, hn2]
    simp only [Option.bind_some, Bool.false_eq_true, if_false]
    rw [show (s ++ (⟨#[35]⟩ : ByteArray)) ++ dec (sumB (B s)) = Fg s from rfl]
    by_cases h2 : (Fg s).size ≤ 4000
    · rw [if_neg (by omega), if_pos ⟨h, h2⟩]
    · rw [if_pos (by omega), if_neg (fun z => h2 z.2)]
  · rw [if_neg (fun z => h z.1)]
    refine Ev.bind (Ev.congr (f := fun _ => some (0, false)) (fun k => by unfold Dw.f; rw [if_pos (by omega)]) (Ev.now _)) ?_
    have z0 := Ha 0 (by omega) (by omega)
    simp only [if_pos (show s.size + 1 ≤ 9223372036854775807 by omega), implDec 0 (by omega) (by omega), Option.bind_some]
    refine Ev.congr (fun k => ?_) (Ev.now _)
    rw [if_pos (by rw [ByteArray.size_append]; show s.size + 1 + _ ≤ _; omega)]
    simp
theorem toList_eq (s t : ByteArray) : (s.toList = t.toList) = (s = t) := by
  rw [Hy, Hy]; exact propext ⟨B_inj, fun h => by rw [h]⟩
def veri (s : ByteArray) : ByteArray × Bool := if (apC (mk (D8 35 (B s)).1)).2 = true ∧ (apC (mk (D8 35 (B s)).1)).1 = s then (mk (D8 35 (B s)).1, true) else (⟨#[]⟩, false)
theorem cut_size (c : UInt8) (l : List UInt8) : (D8 c l).1.length ≤ l.length ∧ (D8 c l).2.1.length ≤ l.length := by
  by_cases h : (D8 c l).2.2 = true
  · have := congrArg List.length (H6 c l h)
    simp at this; omega
  · rw [cutL_lost c l (by simpa using h)]; simp
theorem implVeri_ev (s : ByteArray) (hs : s.size ≤ 1000000000) : Ev (fun k => Dx.f k s) (veri s) := by
  have hc := (cut_size 35 (B s)).1
  rw [D7] at hc
  unfold Dx.f veri
  rw [stringsCut_eq s 35 (by omega)]
  simp only [Option.bind_some]
  refine Ev.bind (implSeal_any _ (by rw [Gw]; omega) (by rw [Fq]; exact cutL_notin 35 _)) ?_
  generalize apC (mk (D8 35 (B s)).1) = p
  simp only [toList_eq]
  by_cases h : p.2 = true
  · simp only [if_pos h, h, true_and]
    by_cases h2 : p.1 = s
    · simp only [if_pos h2]; exact Ev.now _
    · simp only [if_neg h2]; exact Ev.now _
  · simp only [if_neg h, h, false_and, if_false]; exact Ev.now _
theorem veri_rec {n : Int} {c r : ByteArray} (h0 : 0 ≤ n) (h1 : n ≤ 59) (h : Es c r = true) : veri (Fg (Ey n c r)) = (Ey n c r, true) := by
  obtain ⟨s1, s2, s3⟩ := rec_sizes h
  have hd := Ha n (by omega) (by omega)
  have hb := bodyOf_size n c r
  have hz := (H8 (Ey n c r)).2
  have ha : apC (Ey n c r) = (Fg (Ey n c r), true) := by unfold apC; rw [if_pos ⟨by omega, by omega⟩]
  unfold veri
  rw [body_cut h0 h1 h, G8, ha]
  simp
theorem stringsCutPrefix_eq (s p : ByteArray) (hs : s.size ≤ 9223372036854775807) (hp : p.size ≤ 9223372036854775807) : strings_CutPrefix.f s p = some (if (B p).isPrefixOf (B s) = true then (mk ((B s).drop (B p).length), true) else (s, false)) := by
  have hsl := D7 s
  have hpl := D7 p
  unfold strings_CutPrefix.f stringslite_CutPrefix.f
  have e : stringslite_HasPrefix.f s p = some ((B p).isPrefixOf (B s)) := by
    unfold stringslite_HasPrefix.f
    by_cases h : (s.size : Int) ≥ (p.size : Int)
    · have hx : s.extract 0 (p.size : Int).toNat = mk ((B s).take (B p).length) := B_inj (by rw [Gu, Fq, hpl]; rfl)
      simp only [if_pos h]
      repeat' (first | rw [if_pos (by omega)])
      rw [hx, Hy, Hy, Fq]
      simp only [Option.some.injEq]
      rw [Bool.eq_iff_iff]
      simp only [beq_iff_eq, List.isPrefixOf_iff_prefix]
      constructor
      · intro z; rw [← z]; exact List.take_prefix _ _
      · intro z; exact (List.prefix_iff_eq_take.1 z).symm
    · simp only [if_neg h]
      congr 1
      symm
      rw [Bool.eq_false_iff]
      intro z
      have := (List.isPrefixOf_iff_prefix.1 z).length_le
      omega
  rw [e]
  simp only [Option.bind_some]
  by_cases h : (B p).isPrefixOf (B s) = true
  · have := (List.isPrefixOf_iff_prefix.1 h).length_le
    rw [if_pos h, if_pos h, if_pos (by omega), if_pos (by omega)]
    simp only [Option.bind_some, Option.some.injEq, Prod.mk.injEq, and_true]
    refine B_inj ?_
    rw [Gu, Fq, hpl, Int.toNat_natCast, List.take_of_length_le (by simp; omega)]
  · rw [if_neg h, if_neg h]; rfl
end Go.Proofs.YtkpieljmhgfofaaDoor.X

namespace Go.Proofs.YtkpieljmhgfofaaDoor.X
open Go.RowKit Go.Proofs.YtkpieljmhgfofaaDoorW.PrintWords Go.Proofs.YtkpieljmhgfofaaDoorL
theorem exB {α β : Type} {f : Nat → Option α} {g : Nat → α → Option β} {Q : β → Prop} {a : α} (hf : Ev f a) (h : ∃ v, Ev (fun k => g k a) v ∧ Q v) : ∃ v, Ev (fun k => (f k).bind (g k)) v ∧ Q v := by
  obtain ⟨v, hv, q⟩ := h
  exact ⟨v, Ev.bind hf hv, q⟩
theorem exC {β : Type} {f g : Nat → Option β} {Q : β → Prop} (e : ∀ k, g k = f k) (h : ∃ v, Ev f v ∧ Q v) : ∃ v, Ev g v ∧ Q v := by
  obtain ⟨v, hv, q⟩ := h
  exact ⟨v, Ev.congr e hv, q⟩
def ahead (n : Int) : ByteArray := dec n ++ ⟨#[32]⟩
theorem B_ahead (n : Int) : B (ahead n) = Lib.itoa n ++ [32] := by unfold ahead; rw [F9, B_dec]; rfl
theorem ahead_size (n : Int) : (ahead n).size = (dec n).size + 1 := by unfold ahead; rw [ByteArray.size_append]; rfl
def pre (n : Int) (x : ByteArray) : ByteArray × Bool := if (B (ahead n)).isPrefixOf (B x) = true then (mk ((B x).drop (B (ahead n)).length), true) else (x, false)
theorem body_pre (n : Int) (c r : ByteArray) : (B (ahead n)) <+: B (Ey n c r) ∧ (B (Ey n c r)).drop (B (ahead n)).length = B c ++ 64 :: B r := by
  have e : B (Ey n c r) = B (ahead n) ++ (B c ++ 64 :: B r) := by rw [B_body, B_ahead]; simp
  rw [e]
  exact ⟨List.prefix_append _ _, by simp⟩
theorem pre_rec (n : Int) (c r : ByteArray) : pre n (Ey n c r) = (mk (B c ++ 64 :: B r), true) := by
  obtain ⟨h1, h2⟩ := body_pre n c r
  unfold pre
  rw [if_pos (List.isPrefixOf_iff_prefix.2 h1), h2]
theorem pre_size (n : Int) (x : ByteArray) : (pre n x).1.size ≤ x.size := by
  unfold pre
  by_cases h : (B (ahead n)).isPrefixOf (B x) = true
  · rw [if_pos h, Gw, List.length_drop, D7]; omega
  · rw [if_neg h]; exact Nat.le_refl _
theorem veri_size (x : ByteArray) : (veri x).1.size ≤ x.size := by
  have := (cut_size 35 (B x)).1
  rw [D7] at this
  unfold veri
  split
  · rw [Gw]; exact this
  · exact Nat.zero_le _
/-- What reading a record gives where there is none. -/
def noRec (s : ByteArray) : ByteArray × ByteArray × ByteArray × Bool := (⟨#[]⟩, ⟨#[]⟩, s, false)
theorem implRead_ev (n : Int) (s : ByteArray) (h0 : 0 ≤ n) (h1 : n ≤ 59) (hs : s.size ≤ 1000000000) :
    ∃ v, Ev (fun k => Fe.f k n s) v ∧ ((v.2.2.2 = true ∧ F8 n (B s) v.1 v.2.1 (B v.2.2.1)) ∨ (v = noRec s ∧ ∀ c r t, ¬ F8 n (B s) c r t)) := by
  have hL := cut_size 10 (B s)
  rw [D7] at hL
  have hd := Ha n (by omega) (by omega)
  have flags : ∀ c r t, F8 n (B s) c r t → D8 10 (B s) = (B (Fg (Ey n c r)), t, true) ∧ veri (mk (D8 10 (B s)).1) = (Ey n c r, true) ∧ pre n (veri (mk (D8 10 (B s)).1)).1 = (mk (B c ++ 64 :: B r), true) ∧
      D8 64 (B (pre n (veri (mk (D8 10 (B s)).1)).1).1) = (B c, B r, true) := by
    intro c r t h
    have e1 := h.line h0
    have e2 : veri (mk (D8 10 (B s)).1) = (Ey n c r, true) := by rw [e1, G8, veri_rec h0 h1 h.1]
    have e3 : pre n (veri (mk (D8 10 (B s)).1)).1 = (mk (B c ++ 64 :: B r), true) := by rw [e2, pre_rec]
    exact ⟨e1, e2, e3, by rw [e3, Fq, ask_cut h.1]⟩
  unfold Fe.f
  rw [stringsCut_eq s 10 (by omega)]
  simp only [Option.bind_some]
  have hv := implVeri_ev (mk (D8 10 (B s)).1) (by rw [Gw]; omega)
  have hvs := veri_size (mk (D8 10 (B s)).1)
  rw [Gw] at hvs
  refine exB hv ?_
  have hps := pre_size n (veri (mk (D8 10 (B s)).1)).1
  simp only [implDec n (by omega) (by omega), Option.bind_some, if_pos (show (dec n).size + 1 ≤ 9223372036854775807 by omega)]
  rw [show (dec n ++ (⟨#[32]⟩ : ByteArray)) = ahead n from rfl, stringsCutPrefix_eq _ _ (by omega) (by rw [ahead_size]; omega)]
  rw [show (if (B (ahead n)).isPrefixOf (B (veri (mk (D8 10 (B s)).1)).1) = true then (mk ((B (veri (mk (D8 10 (B s)).1)).1).drop (B (ahead n)).length), true) else ((veri (mk (D8 10 (B s)).1)).1, false)) = pre n (veri (mk (D8 10 (B s)).1)).1 from rfl]
  simp only [Option.bind_some]
  rw [stringsCut_eq _ 64 (by omega)]
  simp only [Option.bind_some]
  have fail : ∀ {g : Nat → Option (ByteArray × ByteArray × ByteArray × Bool)}, (∀ k, g k = some ((⟨#[]⟩ : ByteArray), (⟨#[]⟩ : ByteArray), s, false)) → (∀ c r t, F8 n (B s) c r t → False) →
      ∃ v, Ev g v ∧ ((v.2.2.2 = true ∧ F8 n (B s) v.1 v.2.1 (B v.2.2.1)) ∨ (v = noRec s ∧ ∀ c r t, ¬ F8 n (B s) c r t)) :=
    fun hg hn => ⟨_, ev_eq hg, .inr ⟨rfl, hn⟩⟩
  by_cases f1 : (D8 10 (B s)).2.2 = true
  · by_cases f2 : (veri (mk (D8 10 (B s)).1)).2 = true
    · by_cases f3 : (pre n (veri (mk (D8 10 (B s)).1)).1).2 = true
      · by_cases f4 : (D8 64 (B (pre n (veri (mk (D8 10 (B s)).1)).1).1)).2.2 = true
        · simp only [if_pos f1, if_pos f2, if_pos f3, if_pos f4]
          refine exB (implRec_ev _ _) ?_
          by_cases f5 : Es (mk (D8 64 (B (pre n (veri (mk (D8 10 (B s)).1)).1).1)).1) (mk (D8 64 (B (pre n (veri (mk (D8 10 (B s)).1)).1).1)).2.1) = true
          · simp only [if_pos f5]
            refine exB (implLine_ev n _ _ h0 h1 f5) ?_
            simp only [toList_eq, if_pos (show (mk (D8 10 (B s)).1).size + 1 ≤ 9223372036854775807 by rw [Gw]; omega)]
            by_cases f6 : Ew n (mk (D8 64 (B (pre n (veri (mk (D8 10 (B s)).1)).1).1)).1) (mk (D8 64 (B (pre n (veri (mk (D8 10 (B s)).1)).1).1)).2.1) = mk (D8 10 (B s)).1 ++ ⟨#[10]⟩
            · refine ⟨_, ev_eq (fun k => if_pos f6), .inl ⟨rfl, f5, ?_⟩⟩
              show B s = B (Ew n _ _) ++ B (mk (D8 10 (B s)).2.1)
              rw [f6, F9, Fq, Fq, List.append_assoc]
              exact H6 10 (B s) f1
            · refine fail (fun k => if_neg f6) (fun c r t h => f6 ?_)
              obtain ⟨e1, e2, e3, e4⟩ := flags c r t h
              rw [e4, e1, G8, G8, G8]
              rfl
          · refine fail (fun k => if_neg f5) (fun c r t h => f5 ?_)
            obtain ⟨e1, e2, e3, e4⟩ := flags c r t h
            rw [e4, G8, G8]
            exact h.1
        · refine fail (fun k => by rw [if_pos f1, if_pos f2, if_pos f3, if_neg f4]) (fun c r t h => f4 ?_)
          rw [(flags c r t h).2.2.2]
      · refine fail (fun k => by rw [if_pos f1, if_pos f2, if_neg f3]) (fun c r t h => f3 ?_)
        rw [(flags c r t h).2.2.1]
    · refine fail (fun k => by rw [if_pos f1, if_neg f2]) (fun c r t h => f2 ?_)
      rw [(flags c r t h).2.1]
  · refine fail (fun k => by rw [if_neg f1]) (fun c r t h => f1 ?_)
    rw [(flags c r t h).1]
theorem line_of_eq {n : Int} {c r x : ByteArray} (e : Ew n c r = x ++ ⟨#[10]⟩) : x = Fg (Ey n c r) := by
  have := congrArg B e
  rw [B_line, F9] at this
  exact (B_inj (List.append_cancel_right this)).symm
theorem first_piece (c : UInt8) (s : ByteArray) : 0 < ((pieces c (B s)).map mk).length ∧ Cc ByteArray.empty ((pieces c (B s)).map mk) 0 = mk (D8 c (B s)).1 := by
  have h := pieces_head c (B s)
  refine ⟨by have := (pieces_length c (B s)).1; simp; omega, ?_⟩
  simp [Cc, List.getD_eq_getElem?_getD, h]
theorem specRest_ev (n : Int) (x R : ByteArray) (h0 : 0 ≤ n) (h1 : n ≤ 59) (hs : x.size ≤ 1000000000) (hRs : R.size ≤ x.size) (body2 : ∀ c r, Es c r = true → Ew n c r = x ++ ⟨#[10]⟩ → R = mk (B c ++ 64 :: B r)) :
    ∃ v, Ev (fun k => (Cm.f k R 64).bind fun t188 => (if 0 < (t188.length : Int) then (if ((Cc ByteArray.empty t188 0).size : Int) = (R.size : Int) then (some ((⟨#[]⟩ : ByteArray), (⟨#[]⟩ : ByteArray), false)) else (if 0 ≤ (wrap64 (((Cc ByteArray.empty t188 0).size : Int) + 1)) then (if (wrap64 (((Cc ByteArray.empty t188 0).size : Int) + 1)) ≤ (R.size : Int) then ((Dl.f k (Cc ByteArray.empty t188 0) (R.extract ((wrap64 (((Cc ByteArray.empty t188 0).size : Int) + 1)) : Int).toNat R.size)).bind fun t193 => (if t193 = true then ((Ci.f k n (Cc ByteArray.empty t188 0) (R.extract ((wrap64 (((Cc ByteArray.empty t188 0).size : Int) + 1)) : Int).toNat R.size)).bind fun t194 => (if x.size + 1 ≤ 9223372036854775807 then (some (Cc ByteArray.empty t188 0, R.extract ((wrap64 (((Cc ByteArray.empty t188 0).size : Int) + 1)) : Int).toNat R.size, (t194.toList == (x ++ (⟨#[10]⟩ : ByteArray)).toList))) else (none))) else (some (Cc ByteArray.empty t188 0, R.extract ((wrap64 (((Cc ByteArray.empty t188 0).size : Int) + 1)) : Int).toNat R.size, false)))) else (none)) else (none))) else (none))) v ∧ ((v.2.2 = true ∧ Es v.1 v.2.1 = true ∧ Ew n v.1 v.2.1 = x ++ ⟨#[10]⟩) ∨ (v.2.2 = false ∧ ∀ c r, Es c r = true → Ew n c r ≠ x ++ ⟨#[10]⟩)) := by
  refine exB (specSplit_ev R 64 (by omega)) ?_
  obtain ⟨q1, q2⟩ := first_piece 64 R
  simp only [q2, if_pos (show (0 : Int) < (((pieces 64 (B R)).map mk).length : Int) by omega)]
  clear q1 q2
  have hRl := D7 R
  have hfd := H6 64 (B R)
  have hlo := cutL_lost 64 (B R)
  have hask : ∀ c r, Es c r = true → Ew n c r = x ++ ⟨#[10]⟩ → D8 64 (B R) = (B c, B r, true) := by
    intro c r h e; rw [body2 c r h e, Fq, ask_cut h]
  clear body2
  obtain ⟨a, b, f, hK⟩ : ∃ a b f, D8 64 (B R) = (a, b, f) := ⟨_, _, _, rfl⟩
  rw [hK] at hfd hlo hask ⊢
  clear hK
  dsimp only at hfd hlo hask ⊢
  cases f with
  | true =>
    have hf : B R = a ++ 64 :: b := hfd rfl
    clear hfd hlo
    have hl := congrArg List.length hf
    simp only [List.length_append, List.length_cons] at hl
    have w1 : wrap64 ((a.length : Int) + 1) = (a.length : Int) + 1 := wrap_id (by omega) (by omega)
    have hz : R.extract ((a.length : Int) + 1).toNat R.size = mk b := by
      refine B_inj ?_
      rw [Gu, Fq, List.take_of_length_le (by simp; omega), show ((a.length : Int) + 1).toNat = a.length + 1 by omega]
      rw [hf, List.drop_append, List.drop_of_length_le (by omega)]
      simp
    refine exC (f := fun k => ((Dl.f k (mk a) (mk b)).bind fun t193 => (if t193 = true then ((Ci.f k n (mk a) (mk b)).bind fun t194 => (if x.size + 1 ≤ 9223372036854775807 then some (mk a, mk b, (t194.toList == (x ++ (⟨#[10]⟩ : ByteArray)).toList)) else none)) else some (mk a, mk b, false)))) (fun k => by rw [Gw, if_neg (by omega), w1, if_pos (by omega), if_pos (by omega), hz]) ?_
    refine exB (specRec_ev _ _ (by rw [Gw]; omega) (by rw [Gw]; omega)) ?_
    by_cases f4 : Es (mk a) (mk b) = true
    · simp only [if_pos f4]
      refine exB (specLine_ev n _ _ h0 h1 f4) ?_
      simp only [if_pos (show x.size + 1 ≤ 9223372036854775807 by omega)]
      refine ⟨_, Ev.now _, ?_⟩
      by_cases f5 : Ew n (mk a) (mk b) = x ++ ⟨#[10]⟩
      · exact .inl ⟨by rw [f5]; simp, f4, f5⟩
      · refine .inr ⟨?_, fun c r h e => f5 ?_⟩
        · rw [← toList_eq] at f5
          exact beq_eq_false_iff_ne.2 f5
        · have := hask c r h e
          simp only [Prod.mk.injEq] at this
          rw [this.1, this.2.1, G8, G8, e]
    · refine ⟨_, ev_eq (fun k => if_neg f4), .inr ⟨rfl, fun c r h e => f4 ?_⟩⟩
      have := hask c r h e
      simp only [Prod.mk.injEq] at this
      rw [this.1, this.2.1, G8, G8]; exact h
  | false =>
    have hl : a = B R := by have := hlo rfl; simp only [Prod.mk.injEq] at this; exact this.1
    have hm : (mk a).size = R.size := by rw [hl]; exact (Gw _).trans hRl
    refine ⟨_, ev_eq (fun k => if_pos (by omega)), .inr ⟨rfl, fun c r h e => ?_⟩⟩
    have := hask c r h e
    simp at this
theorem specRead_ev (n : Int) (x : ByteArray) (h0 : 0 ≤ n) (h1 : n ≤ 59) (hs : x.size ≤ 1000000000) :
    ∃ v, Ev (fun k => C9.f k x n) v ∧ ((v.2.2 = true ∧ Es v.1 v.2.1 = true ∧ Ew n v.1 v.2.1 = x ++ ⟨#[10]⟩) ∨ (v.2.2 = false ∧ ∀ c r, Es c r = true → Ew n c r ≠ x ++ ⟨#[10]⟩)) := by
  have hd := Ha n (by omega) (by omega)
  have hT := (cut_size 35 (B x)).1
  rw [D7] at hT
  have fail : ∀ {g : Nat → Option (ByteArray × ByteArray × Bool)} {a b : ByteArray}, (∀ k, g k = some (a, b, false)) → (∀ c r, Es c r = true → Ew n c r = x ++ ⟨#[10]⟩ → False) →
      ∃ v, Ev g v ∧ ((v.2.2 = true ∧ Es v.1 v.2.1 = true ∧ Ew n v.1 v.2.1 = x ++ ⟨#[10]⟩) ∨ (v.2.2 = false ∧ ∀ c r, Es c r = true → Ew n c r ≠ x ++ ⟨#[10]⟩)) :=
    fun hg hn => ⟨_, ev_eq hg, .inr ⟨rfl, hn⟩⟩
  have body : ∀ c r, Es c r = true → Ew n c r = x ++ ⟨#[10]⟩ → mk (D8 35 (B x)).1 = Ey n c r := by
    intro c r h e
    rw [line_of_eq e, body_cut h0 h1 h, G8]
  unfold C9.f
  refine exB (specNum_ev n (by omega) (by omega)) ?_
  simp only [if_pos (show (dec n).size + 1 ≤ 9223372036854775807 by omega)]
  refine exB (specSplit_ev x 35 hs) ?_
  obtain ⟨p1, p2⟩ := first_piece 35 x
  simp only [p2, if_pos (show (0 : Int) < (((pieces 35 (B x)).map mk).length : Int) by omega)]
  rw [show (dec n ++ (⟨#[32]⟩ : ByteArray)) = ahead n from rfl]
  have hTs : (mk (D8 35 (B x)).1).size ≤ x.size := by rw [Gw]; exact hT
  have hTb : (B (mk (D8 35 (B x)).1)).length = (mk (D8 35 (B x)).1).size := D7 _
  generalize mk (D8 35 (B x)).1 = T at hTs hTb body ⊢
  have has := D7 (ahead n)
  have tf : ∀ {g : Nat → Option (ByteArray × ByteArray × Bool)}, (∀ k, g k = C9.j0 k x n (ahead n) T true) → ∃ k0, ∀ k, k0 ≤ k → g k = some ((⟨#[]⟩ : ByteArray), (⟨#[]⟩ : ByteArray), false) := by
    intro g hg
    refine ⟨1, fun k hk => ?_⟩
    obtain ⟨k, rfl⟩ : ∃ m, k = m + 1 := ⟨k - 1, by omega⟩
    rw [hg]; simp only [C9.j0]; exact if_pos trivial
  by_cases f1 : (T.size : Int) < ((ahead n).size : Int)
  · simp only [if_pos f1]
    refine ⟨_, tf (fun k => rfl), .inr ⟨rfl, fun c r h e => ?_⟩⟩
    have := (body_pre n c r).1.length_le
    rw [body c r h e] at f1
    rw [D7, D7] at this
    omega
  · simp only [if_neg f1, if_pos (show (0 : Int) ≤ ((ahead n).size : Int) by omega), if_pos (show ((ahead n).size : Int) ≤ (T.size : Int) by omega)]
    have hx : T.extract 0 (((ahead n).size : Int) : Int).toNat = mk ((B T).take (B (ahead n)).length) := B_inj (by rw [Gu, Fq, has]; rfl)
    have hy : T.extract (((ahead n).size : Int) : Int).toNat T.size = mk ((B T).drop (B (ahead n)).length) := B_inj (by rw [Gu, Fq, has, Int.toNat_natCast, List.take_of_length_le (by simp; omega)])
    rw [hx]
    have ht : ((mk ((B T).take (B (ahead n)).length)).toList != (ahead n).toList) = !(B (ahead n)).isPrefixOf (B T) := by
      rw [Hy, Hy, Fq]
      simp only [bne, Bool.not_inj_iff]
      rw [Bool.eq_iff_iff]
      simp only [beq_iff_eq, List.isPrefixOf_iff_prefix]
      constructor
      · intro z; rw [← z]; exact List.take_prefix _ _
      · intro z; exact (List.prefix_iff_eq_take.1 z).symm
    rw [ht]
    by_cases f2 : (B (ahead n)).isPrefixOf (B T) = true
    · simp only [f2, Bool.not_true]
      have hRs : (mk ((B T).drop (B (ahead n)).length)).size ≤ x.size := by rw [Gw, List.length_drop]; omega
      have body2 : ∀ c r, Es c r = true → Ew n c r = x ++ ⟨#[10]⟩ → mk ((B T).drop (B (ahead n)).length) = mk (B c ++ 64 :: B r) := by
        intro c r h e; rw [body c r h e, (body_pre n c r).2]
      suffices h : ∃ v, Ev (fun k => (Cm.f k (mk ((B T).drop (B (ahead n)).length)) 64).bind fun t188 => (if 0 < (t188.length : Int) then (if ((Cc ByteArray.empty t188 0).size : Int) = ((mk ((B T).drop (B (ahead n)).length)).size : Int) then (some ((⟨#[]⟩ : ByteArray), (⟨#[]⟩ : ByteArray), false)) else (if 0 ≤ (wrap64 (((Cc ByteArray.empty t188 0).size : Int) + 1)) then (if (wrap64 (((Cc ByteArray.empty t188 0).size : Int) + 1)) ≤ ((mk ((B T).drop (B (ahead n)).length)).size : Int) then ((Dl.f k (Cc ByteArray.empty t188 0) ((mk ((B T).drop (B (ahead n)).length)).extract ((wrap64 (((Cc ByteArray.empty t188 0).size : Int) + 1)) : Int).toNat (mk ((B T).drop (B (ahead n)).length)).size)).bind fun t193 => (if t193 = true then ((Ci.f k n (Cc ByteArray.empty t188 0) ((mk ((B T).drop (B (ahead n)).length)).extract ((wrap64 (((Cc ByteArray.empty t188 0).size : Int) + 1)) : Int).toNat (mk ((B T).drop (B (ahead n)).length)).size)).bind fun t194 => (if x.size + 1 ≤ 9223372036854775807 then (some (Cc ByteArray.empty t188 0, (mk ((B T).drop (B (ahead n)).length)).extract ((wrap64 (((Cc ByteArray.empty t188 0).size : Int) + 1)) : Int).toNat (mk ((B T).drop (B (ahead n)).length)).size, (t194.toList == (x ++ (⟨#[10]⟩ : ByteArray)).toList))) else (none))) else (some (Cc ByteArray.empty t188 0, (mk ((B T).drop (B (ahead n)).length)).extract ((wrap64 (((Cc ByteArray.empty t188 0).size : Int) + 1)) : Int).toNat (mk ((B T).drop (B (ahead n)).length)).size, false)))) else (none)) else (none))) else (none))) v ∧ ((v.2.2 = true ∧ Es v.1 v.2.1 = true ∧ Ew n v.1 v.2.1 = x ++ ⟨#[10]⟩) ∨ (v.2.2 = false ∧ ∀ c r, Es c r = true → Ew n c r ≠ x ++ ⟨#[10]⟩)) by
        obtain ⟨v, hv, hq⟩ := h
        refine ⟨v, Ev.step (fun k => ?_) hv, hq⟩
        simp only [C9.j0]
        rw [if_neg (by decide), if_pos (by omega), if_pos (by omega), hy]
      exact specRest_ev n x (mk ((B T).drop (B (ahead n)).length)) h0 h1 hs hRs body2
    · simp only [f2, Bool.not_false]
      refine ⟨_, tf (fun k => rfl), .inr ⟨rfl, fun c r h e => f2 ?_⟩⟩
      rw [body c r h e]
      exact List.isPrefixOf_iff_prefix.2 (body_pre n c r).1
end Go.Proofs.YtkpieljmhgfofaaDoor.X

namespace Go.Proofs.YtkpieljmhgfofaaDoor.X
open Go.RowKit Go.Proofs.YtkpieljmhgfofaaDoorW.PrintWords Go.Proofs.YtkpieljmhgfofaaDoorL
abbrev RecT := S27
open Classical in
noncomputable def recAt (n : Int) (s : List UInt8) : Option (ByteArray × ByteArray × List UInt8) :=
  if h : ∃ p : ByteArray × ByteArray × List UInt8, F8 n s p.1 p.2.1 p.2.2 then some h.choose else none
theorem Hl {n : Int} {s : List UInt8} {c r : ByteArray} {t : List UInt8} (h0 : 0 ≤ n) (h1 : n ≤ 59) (h : F8 n s c r t) : recAt n s = some (c, r, t) := by
  have hx : ∃ p : ByteArray × ByteArray × List UInt8, F8 n s p.1 p.2.1 p.2.2 := ⟨(c, r, t), h⟩
  unfold recAt
  rw [dif_pos hx]
  obtain ⟨a, b, d⟩ := F8.inj h0 h1 hx.choose_spec h
  rw [← a, ← b, ← d]
theorem recAt_none {n : Int} {s : List UInt8} (h : ∀ c r t, ¬ F8 n s c r t) : recAt n s = none := by
  unfold recAt
  rw [dif_neg (fun z => by obtain ⟨p, hp⟩ := z; exact h _ _ _ hp)]
theorem H5 {n : Int} {s : List UInt8} {p : ByteArray × ByteArray × List UInt8} (h : recAt n s = some p) : F8 n s p.1 p.2.1 p.2.2 := by
  unfold recAt at h
  split at h
  · rename_i hx
    simp only [Option.some.injEq] at h
    rw [← h]; exact hx.choose_spec
  · cases h
theorem line_pos (n : Int) (c r : ByteArray) : 1 ≤ (B (Ew n c r)).length := by rw [B_line]; simp
theorem F8.lt {n : Int} {s : List UInt8} {c r : ByteArray} {t : List UInt8} (h : F8 n s c r t) : t.length < s.length := by
  have := line_pos n c r
  rw [h.2, List.length_append]; omega
theorem recAt_nil (n : Int) : recAt n [] = none := recAt_none (fun c r t h => by have := h.lt; simp at this)
/-- The records from the n-th on, d at most, and what is left. -/
noncomputable def reads : Nat → Nat → List UInt8 → List RecT × List UInt8
  | 0, _, s => ([], s)
  | d + 1, n, s => match recAt (n : Int) s with
    | none => ([], s)
    | some p => ((⟨p.1, p.2.1⟩ : RecT) :: (reads d (n + 1) p.2.2).1, (reads d (n + 1) p.2.2).2)
noncomputable def Ho (L : Nat) : Nat → Nat → List UInt8 → List Int
  | 0, _, _ => []
  | d + 1, n, s => match recAt (n : Int) s with
    | none => []
    | some p => ((L : Int) - (p.2.2.length : Int)) :: Ho L d (n + 1) p.2.2
theorem F5 {d n : Nat} {s : List UInt8} (h : recAt (n : Int) s = none) : reads d n s = ([], s) := by
  cases d with
  | zero => rfl
  | succ d => unfold reads; rw [h]
theorem Gm {d n : Nat} {s : List UInt8} {p : ByteArray × ByteArray × List UInt8} (h : recAt (n : Int) s = some p) : reads (d + 1) n s = ((⟨p.1, p.2.1⟩ : RecT) :: (reads d (n + 1) p.2.2).1, (reads d (n + 1) p.2.2).2) := by
  conv => lhs; unfold reads
  rw [h]
theorem endsOf_none {L d n : Nat} {s : List UInt8} (h : recAt (n : Int) s = none) : Ho L d n s = [] := by
  cases d with
  | zero => rfl
  | succ d => unfold Ho; rw [h]
theorem endsOf_some {L d n : Nat} {s : List UInt8} {p : ByteArray × ByteArray × List UInt8} (h : recAt (n : Int) s = some p) : Ho L (d + 1) n s = ((L : Int) - (p.2.2.length : Int)) :: Ho L d (n + 1) p.2.2 := by
  conv => lhs; unfold Ho
  rw [h]
theorem Hw : ∀ (d n : Nat) (s : List UInt8), (reads d n s).1.length ≤ d ∧ (reads d n s).2.length ≤ s.length
  | 0, n, s => by simp [reads]
  | d + 1, n, s => by
    cases h : recAt (n : Int) s with
    | none => rw [F5 h]; simp
    | some p =>
      have ih := Hw d (n + 1) p.2.2
      have := (H5 h).lt
      rw [Gm h]; simp; omega
theorem implReads_ev (s : ByteArray) (hs : s.size ≤ 1000000000) : Ev (fun k => Df.f k s) ((reads 60 0 (B s)).1, 0 :: Ho s.size 60 0 (B s), (s.size : Int) - ((reads 60 0 (B s)).2.length : Int)) := by
  have key : ∀ (d n : Nat) (xs : List RecT) (S : List Int) (t : ByteArray), n + d = 60 → xs.length = n → t.size ≤ s.size →
      Ev (fun k => Df.l0 k s xs S t) (xs ++ (reads d n (B t)).1, S ++ Ho s.size d n (B t), (s.size : Int) - ((reads d n (B t)).2.length : Int)) := by
    intro d
    induction d with
    | zero =>
      intro n xs S t hn hx ht
      refine Ev.step (f := fun _ => some _) (fun k => ?_) (Ev.now _)
      simp only [Df.l0]
      rw [if_neg (by omega), wrap_id (by omega) (by omega)]
      simp [reads, Ho, D7]
    | succ d ih =>
      intro n xs S t hn hx ht
      obtain ⟨v, hv, hq⟩ := implRead_ev (n : Int) t (by omega) (by omega) (by omega)
      refine Ev.step (f := fun k => (Fe.f k (n : Int) t).bind fun b => if b.2.2.2 = true then Df.l0 k s (xs ++ [(⟨b.1, b.2.1⟩ : RecT)]) (S ++ [wrap64 ((s.size : Int) - (b.2.2.1.size : Int))]) b.2.2.1 else some (xs, S, wrap64 ((s.size : Int) - (t.size : Int)))) (fun k => ?_) (Ev.bind hv ?_)
      · simp only [Df.l0]
        rw [if_pos (by omega), hx]
      · rcases hq with ⟨f, hr⟩ | ⟨rfl, hno⟩
        · have hsz : v.2.2.1.size ≤ s.size := by have := hr.lt; rw [D7, D7] at this; omega
          rw [Gm (Hl (by omega) (by omega) hr), endsOf_some (Hl (by omega) (by omega) hr)]
          simp only [if_pos f, wrap_id (x := (s.size : Int) - (v.2.2.1.size : Int)) (by omega) (by omega)]
          have i1 := ih (n + 1) (xs ++ [(⟨v.1, v.2.1⟩ : RecT)]) (S ++ [(s.size : Int) - (v.2.2.1.size : Int)]) v.2.2.1 (by omega) (by simp; omega) hsz
          rw [List.append_assoc, List.append_assoc] at i1
          rw [D7]
          exact i1
        · rw [F5 (recAt_none hno), endsOf_none (recAt_none hno), D7]
          refine ev_eq (fun k => ?_)
          show (if false = true then _ else some (xs, S, wrap64 ((s.size : Int) - (t.size : Int)))) = _
          rw [if_neg (by decide), wrap_id (by omega) (by omega)]
          simp
  have := key 60 0 [] [0] s (by omega) rfl (Nat.le_refl _)
  exact Ev.congr (f := fun k => Df.l0 k s [] [0] s) (fun k => rfl) (by simpa using this)
theorem specOpen_ev (s : ByteArray) (hs : s.size ≤ 1000000000) : Ev (fun k => Bv.f k s) ((reads 60 0 (B s)).1, (s.size : Int) - ((reads 60 0 (B s)).2.length : Int)) := by
  have hBs := D7 s
  have key : ∀ (d n at_ : Nat) (xs : List RecT), n + d = 60 → xs.length = n → at_ ≤ s.size →
      Ev (fun k => Bv.l0 k s xs (at_ : Int)) (xs ++ (reads d n ((B s).drop at_)).1, (s.size : Int) - ((reads d n ((B s).drop at_)).2.length : Int)) := by
    intro d
    induction d with
    | zero =>
      intro n at_ xs hn hx ha
      have fin : ∀ b, b = false → Ev (fun k => Bv.j1 k s xs (at_ : Int) b) (xs ++ (reads 0 n ((B s).drop at_)).1, (s.size : Int) - ((reads 0 n ((B s).drop at_)).2.length : Int)) := by
        rintro b rfl
        refine Ev.step (f := fun _ => some _) (fun k => ?_) (Ev.now _)
        simp only [Bv.j1]
        rw [if_neg (by decide)]
        simp [reads]; omega
      by_cases h : (at_ : Int) < (s.size : Int)
      · refine Ev.step (f := fun k => Bv.j1 k s xs (at_ : Int) (decide ((xs.length : Int) < 60))) (fun k => ?_) (fin _ (decide_eq_false (by omega)))
        simp only [Bv.l0]; rw [if_pos h]
      · refine Ev.step (f := fun k => Bv.j1 k s xs (at_ : Int) false) (fun k => ?_) (fin _ rfl)
        simp only [Bv.l0]; rw [if_neg h]
    | succ d ih =>
      intro n at_ xs hn hx ha
      by_cases h : (at_ : Int) < (s.size : Int)
      · have hrest : s.extract (at_ : Int).toNat s.size = mk ((B s).drop at_) := B_inj (by rw [Gu, Fq, Int.toNat_natCast, List.take_of_length_le (by simp; omega)])
        have hrl : ((B s).drop at_).length = s.size - at_ := by rw [List.length_drop, hBs]
        have hrs : (mk ((B s).drop at_)).size = s.size - at_ := by rw [Gw, hrl]
        refine Ev.step (f := fun k => Bv.j1 k s xs (at_ : Int) true) (fun k => ?_) ?_
        · simp only [Bv.l0]; rw [if_pos h, decide_eq_true (by omega)]
        obtain ⟨q1, q2⟩ := first_piece 10 (mk ((B s).drop at_))
        have q3 := pieces_two 10 ((B s).drop at_)
        have hcs := (cut_size 10 ((B s).drop at_)).1
        rw [Fq] at q2
        obtain ⟨v, hv, hq⟩ := specRead_ev (n : Int) (mk (D8 10 ((B s).drop at_)).1) (by omega) (by omega) (by rw [Gw]; omega)
        refine Ev.step (f := fun k => (Cm.f k (mk ((B s).drop at_)) 10).bind fun t198 => if 0 < (t198.length : Int) then ((C9.f k (Cc ByteArray.empty t198 0) (xs.length : Int)).bind fun bt202 => (if (t198.length : Int) < 2 then (some (xs, (at_ : Int))) else (if bt202.2.2 = true then (if xs.length < 4398046511104 then (Bv.l0 k s (xs ++ [(⟨bt202.1, bt202.2.1⟩ : RecT)]) (wrap64 ((wrap64 ((at_ : Int) + ((Cc ByteArray.empty t198 0).size : Int))) + 1))) else none) else (some (xs, (at_ : Int)))))) else none) (fun k => ?_) (Ev.bind (specSplit_ev (mk ((B s).drop at_)) 10 (by omega)) ?_)
        · simp only [Bv.j1]
          rw [if_pos trivial, if_pos (by omega), if_pos (by omega), hrest]
        · simp only [Fq, q2, List.length_map, hx]
          refine Ev.congr (f := fun k => (C9.f k (mk (D8 10 ((B s).drop at_)).1) (n : Int)).bind fun bt202 => (if ((pieces 10 ((B s).drop at_)).length : Int) < 2 then (some (xs, (at_ : Int))) else (if bt202.2.2 = true then (if xs.length < 4398046511104 then (Bv.l0 k s (xs ++ [(⟨bt202.1, bt202.2.1⟩ : RecT)]) (wrap64 ((wrap64 ((at_ : Int) + ((mk (D8 10 ((B s).drop at_)).1).size : Int))) + 1))) else none) else (some (xs, (at_ : Int)))))) (fun k => by rw [if_pos (by have := (pieces_length 10 ((B s).drop at_)).1; omega)]; try simp only [hx]) (Ev.bind hv ?_)
          rw [Gw]
          have hfd := H6 10 ((B s).drop at_)
          have hln : ∀ c r t, 0 ≤ (n : Int) → F8 (n : Int) ((B s).drop at_) c r t → D8 10 ((B s).drop at_) = (B (Fg (Ey n c r)), t, true) := fun c r t h0 h => h.line h0
          have stop : (∀ c r t, ¬ F8 (n : Int) ((B s).drop at_) c r t) → ((xs ++ (reads (d + 1) n ((B s).drop at_)).1, (s.size : Int) - ((reads (d + 1) n ((B s).drop at_)).2.length : Int)) : List RecT × Int) = (xs, (at_ : Int)) := by
            intro hno
            rw [F5 (recAt_none hno)]
            simp only [List.append_nil, Prod.mk.injEq, true_and]; omega
          have hdd : ∀ m, ((B s).drop at_).drop m = (B s).drop (at_ + m) := fun m => by rw [List.drop_drop]
          have step := fun (v1 v2 : ByteArray) (t : List UInt8) (hr : F8 (n : Int) ((B s).drop at_) v1 v2 t) => Gm (d := d) (Hl (n := (n : Int)) (by omega) (by omega) hr)
          generalize (B s).drop at_ = R at *
          obtain ⟨a, b, f, hK⟩ : ∃ a b f, D8 10 R = (a, b, f) := ⟨_, _, _, rfl⟩
          rw [hK] at hfd hcs q3 hq hln ⊢
          dsimp only at hfd hcs q3 hq hln ⊢
          clear hK hv
          cases f with
          | true =>
            have hR : R = a ++ 10 :: b := hfd rfl
            have hl := congrArg List.length hR
            simp only [List.length_append, List.length_cons] at hl
            have h2 : 2 ≤ (pieces 10 R).length := q3 ▸ rfl
            rcases hq with ⟨f, hg, hr⟩ | ⟨f, hno⟩
            · have hrec : F8 (n : Int) R v.1 v.2.1 b := ⟨hg, by rw [hr, F9, Fq, hR, List.append_assoc]; rfl⟩
              rw [step _ _ _ hrec]
              have hb : b = (B s).drop (at_ + a.length + 1) := by
                have := hdd (a.length + 1)
                rw [← Nat.add_assoc] at this
                rw [← this, hR, List.drop_append, List.drop_of_length_le (by omega)]
                simp
              have i1 := ih (n + 1) (at_ + a.length + 1) (xs ++ [(⟨v.1, v.2.1⟩ : RecT)]) (by omega) (by simp; omega) (by omega)
              rw [← hb, List.append_assoc] at i1
              refine Ev.congr (fun k => ?_) i1
              rw [if_neg (by omega), if_pos f, if_pos (by omega), wrap_id (x := (at_ : Int) + (a.length : Int)) (by omega) (by omega), wrap_id (x := (at_ : Int) + (a.length : Int) + 1) (by omega) (by omega)]
              rfl
            · rw [stop (fun c r t h => hno c r h.1 (by
                have e := hln c r t (by omega) h
                simp only [Prod.mk.injEq] at e
                refine B_inj ?_
                rw [B_line, F9, Fq, e.1]; rfl))]
              exact ev_eq (fun k => by rw [if_neg (by omega), if_neg (by rw [f]; decide)])
          | false =>
            have h2 : ¬ 2 ≤ (pieces 10 R).length := fun z => by rw [q3] at z; cases z
            rw [stop (fun c r t h => by have e := hln c r t (by omega) h; simp at e)]
            exact ev_eq (fun k => by rw [if_pos (by omega)])
      · obtain rfl : at_ = s.size := by omega
        have e : (B s).drop s.size = [] := List.drop_of_length_le (by omega)
        rw [e, F5 (recAt_nil _)]
        refine Ev.step (f := fun k => Bv.j1 k s xs (s.size : Int) false) (fun k => ?_) (Ev.step (f := fun _ => some _) (fun k => ?_) (Ev.now _))
        · simp only [Bv.l0]; rw [if_neg h]
        · simp only [Bv.j1]; rw [if_neg (by decide)]; simp
  have := key 60 0 0 [] (by omega) rfl (Nat.zero_le _)
  exact Ev.congr (f := fun k => Bv.l0 k s [] 0) (fun k => rfl) (by simpa using this)
end Go.Proofs.YtkpieljmhgfofaaDoor.X

namespace Go.Proofs.YtkpieljmhgfofaaDoor.X
open Go.RowKit Go.Proofs.YtkpieljmhgfofaaDoorW.PrintWords Go.Proofs.YtkpieljmhgfofaaDoorW.PrintLast Go.Proofs.YtkpieljmhgfofaaDoorW.PrintMore
attribute [local go_sem] max2_int min2_int max_two min_two max_three min_three max_four min_four
open Go.Proofs.YtkpieljmhgfofaaDoorG
def laws_szLog.f (a0_0 : ByteArray) (a0_1 : ByteArray) (a0_2 : Int) (a1 : Int) : Option (Int) := if (wrap64 (a1 - (a0_0.size : Int))) < 0 then (some (-1)) else (if (wrap64 ((wrap64 (a1 - (a0_0.size : Int))) - (a0_1.size : Int))) < 0 then (some (-1)) else (some (wrap64 ((wrap64 (a1 - (a0_0.size : Int))) - (a0_1.size : Int)))))
set_option maxHeartbeats 8000000 in
set_option maxRecDepth 100000 in
theorem laws_szLog.calls (a0_0 : ByteArray) (a0_1 : ByteArray) (a0_2 : Int) (a1 : Int) (r : Int) (w : World) (h : laws_szLog.f a0_0 a0_1 a0_2 a1 = some r) :
    Calls Tryd.prog 20 #[.agg #[.string a0_0, .string a0_1, .int .i64 a0_2], .int .i64 a1] w fun e w' => e = .returned (.int .i64 r) ∧ Below w.heap.size w w' := by
  have hu36 := Tryd.underlying36
  have HB := Aside0.mk (Below.refl w.heap.size w)
  have H : (if (wrap64 (a1 - (a0_0.size : Int))) < 0 then (some (-1)) else (if (wrap64 ((wrap64 (a1 - (a0_0.size : Int))) - (a0_1.size : Int))) < 0 then (some (-1)) else (some (wrap64 ((wrap64 (a1 - (a0_0.size : Int))) - (a0_1.size : Int)))))) = some r := h
  clear h
  by_cases c3 : (wrap64 (a1 - (a0_0.size : Int))) < 0
  · rw [if_pos c3] at H
    have c3b0 : decide ((wrap64 (a1 - (a0_0.size : Int))) < 0) = true := decide_eq_true c3
    clear c3
    obtain rfl := Option.some.inj H
    go_enter Tryd.func20, Tryd.ntmps20
    go_wp2_with (first | ((with_reducible refine Bd (N := 2) rfl ?_); refine Bc ?hg (N := 2) ?hd (cs := #[.string a0_0, .string a0_1, .int .i64 a0_2]) (t := 36) ?hr ?_; (case hd => rfl); (case hg => rfl); (case hr => first | (go_simp; done) | (go_simp; rfl)); intro gb0 hg w4 hbox hb; have n0_ := Aside0.mk (Ag Ya_ hb); have n1_ := Aside0.mk (hbox); have n2_ := Aside0.mk ((by rw [hg]; exact (Ah Ya_) : w.heap.size ≤ gb0)); have n3_ := Aside0.mk ((by rw [hg]; exact (Ah Ya_) : w.heap.size ≤ gb0)); clear HB; have HB := n0_; have BK0 := n1_; have GW0 := n2_; have GE0 := n3_; clear n0_ n1_ n2_ n3_; clear hb hbox hg; have hcz5_0 : w4.cell? ⟨gb0, 0, none⟩ = some (.string a0_0) := (Ae BK0.out 0).trans rfl; have hcz5_1 : w4.cell? ⟨gb0, 1, none⟩ = some (.string a0_1) := (Ae BK0.out 1).trans rfl; have hcz5_2 : w4.cell? ⟨gb0, 2, none⟩ = some (.int .i64 a0_2) := (Ae BK0.out 2).trans rfl; have hfz5_0 := Af BK0.out 0; have hfz5_1 := Af BK0.out 1; have hfz5_2 := Af BK0.out 2))
    go_ret
    exact ⟨by first | rfl | (simp [Ak, Aj] <;> rfl) | (simp [*, Ak, Aj] <;> rfl), by repeat (first | (with_reducible first | exact HB.out | apply below_alloc | apply pw_below_drewN | apply below_drew1 | refine below_set ?_ GE0.out) | exact HB.out)⟩
  · rw [if_neg c3] at H
    have c3b0 : decide ((wrap64 (a1 - (a0_0.size : Int))) < 0) = false := decide_eq_false c3
    clear c3
    by_cases c6 : (wrap64 ((wrap64 (a1 - (a0_0.size : Int))) - (a0_1.size : Int))) < 0
    · rw [if_pos c6] at H
      have c6b0 : decide ((wrap64 ((wrap64 (a1 - (a0_0.size : Int))) - (a0_1.size : Int))) < 0) = true := decide_eq_true c6
      clear c6
      obtain rfl := Option.some.inj H
      go_enter Tryd.func20, Tryd.ntmps20
      go_wp2_with (first | ((with_reducible refine Bd (N := 2) rfl ?_); refine Bc ?hg (N := 2) ?hd (cs := #[.string a0_0, .string a0_1, .int .i64 a0_2]) (t := 36) ?hr ?_; (case hd => rfl); (case hg => rfl); (case hr => first | (go_simp; done) | (go_simp; rfl)); intro gb0 hg w7 hbox hb; have n0_ := Aside0.mk (Ag Ya_ hb); have n1_ := Aside0.mk (hbox); have n2_ := Aside0.mk ((by rw [hg]; exact (Ah Ya_) : w.heap.size ≤ gb0)); have n3_ := Aside0.mk ((by rw [hg]; exact (Ah Ya_) : w.heap.size ≤ gb0)); clear HB; have HB := n0_; have BK0 := n1_; have GW0 := n2_; have GE0 := n3_; clear n0_ n1_ n2_ n3_; clear hb hbox hg; have hcz8_0 : w7.cell? ⟨gb0, 0, none⟩ = some (.string a0_0) := (Ae BK0.out 0).trans rfl; have hcz8_1 : w7.cell? ⟨gb0, 1, none⟩ = some (.string a0_1) := (Ae BK0.out 1).trans rfl; have hcz8_2 : w7.cell? ⟨gb0, 2, none⟩ = some (.int .i64 a0_2) := (Ae BK0.out 2).trans rfl; have hfz8_0 := Af BK0.out 0; have hfz8_1 := Af BK0.out 1; have hfz8_2 := Af BK0.out 2))
      go_ret
      exact ⟨by first | rfl | (simp [Ak, Aj] <;> rfl) | (simp [*, Ak, Aj] <;> rfl), by repeat (first | (with_reducible first | exact HB.out | apply below_alloc | apply pw_below_drewN | apply below_drew1 | refine below_set ?_ GE0.out) | exact HB.out)⟩
    · rw [if_neg c6] at H
      have c6b0 : decide ((wrap64 ((wrap64 (a1 - (a0_0.size : Int))) - (a0_1.size : Int))) < 0) = false := decide_eq_false c6
      clear c6
      obtain rfl := Option.some.inj H
      go_enter Tryd.func20, Tryd.ntmps20
      go_wp2_with (first | ((with_reducible refine Bd (N := 2) rfl ?_); refine Bc ?hg (N := 2) ?hd (cs := #[.string a0_0, .string a0_1, .int .i64 a0_2]) (t := 36) ?hr ?_; (case hd => rfl); (case hg => rfl); (case hr => first | (go_simp; done) | (go_simp; rfl)); intro gb0 hg w9 hbox hb; have n0_ := Aside0.mk (Ag Ya_ hb); have n1_ := Aside0.mk (hbox); have n2_ := Aside0.mk ((by rw [hg]; exact (Ah Ya_) : w.heap.size ≤ gb0)); have n3_ := Aside0.mk ((by rw [hg]; exact (Ah Ya_) : w.heap.size ≤ gb0)); clear HB; have HB := n0_; have BK0 := n1_; have GW0 := n2_; have GE0 := n3_; clear n0_ n1_ n2_ n3_; clear hb hbox hg; have hcz10_0 : w9.cell? ⟨gb0, 0, none⟩ = some (.string a0_0) := (Ae BK0.out 0).trans rfl; have hcz10_1 : w9.cell? ⟨gb0, 1, none⟩ = some (.string a0_1) := (Ae BK0.out 1).trans rfl; have hcz10_2 : w9.cell? ⟨gb0, 2, none⟩ = some (.int .i64 a0_2) := (Ae BK0.out 2).trans rfl; have hfz10_0 := Af BK0.out 0; have hfz10_1 := Af BK0.out 1; have hfz10_2 := Af BK0.out 2))
      go_ret
      exact ⟨by first | rfl | (simp [Ak, Aj] <;> rfl) | (simp [*, Ak, Aj] <;> rfl), by repeat (first | (with_reducible first | exact HB.out | apply below_alloc | apply pw_below_drewN | apply below_drew1 | refine below_set ?_ GE0.out) | exact HB.out)⟩
end Go.Proofs.YtkpieljmhgfofaaDoor.X

namespace Go.Proofs.YtkpieljmhgfofaaDoor.X
open Go.RowKit Go.Proofs.YtkpieljmhgfofaaDoorW.PrintWords Go.Proofs.YtkpieljmhgfofaaDoorL
theorem line_size {n : Int} {c r : ByteArray} (h0 : 0 ≤ n) (h1 : n ≤ 59) (h : Es c r = true) : (B (Ew n c r)).length ≤ 406 := by
  obtain ⟨s1, s2, s3⟩ := rec_sizes h
  have hd := Ha n (by omega) (by omega)
  have hb := bodyOf_size n c r
  have hz := (H8 (Ey n c r)).2
  rw [B_line, List.length_append, D7]
  simp; omega
theorem reads_size : ∀ (d n : Nat) (s : List UInt8), n + d ≤ 60 → s.length ≤ (reads d n s).2.length + 406 * d
  | 0, n, s, _ => by simp [reads]
  | d + 1, n, s, hn => by
    cases h : recAt (n : Int) s with
    | none => rw [F5 h]; simp
    | some p =>
      have ih := reads_size d (n + 1) p.2.2 (by omega)
      have hr := H5 h
      have := line_size (n := (n : Int)) (by omega) (by omega) hr.1
      have e := congrArg List.length hr.2
      rw [List.length_append] at e
      rw [Gm h]; simp only; omega
theorem endsOf_ge : ∀ (d n L : Nat) (s : List UInt8), s.length ≤ L → ∀ e ∈ Ho L d n s, (L : Int) - (s.length : Int) + 1 ≤ e
  | 0, n, L, s, _ => by simp [Ho]
  | d + 1, n, L, s, hL => by
    intro e he
    cases h : recAt (n : Int) s with
    | none => rw [endsOf_none h] at he; cases he
    | some p =>
      have hlt := (H5 h).lt
      rw [endsOf_some h] at he
      rcases List.mem_cons.1 he with rfl | he
      · omega
      · have := endsOf_ge d (n + 1) L p.2.2 (by omega) e he
        omega
/-- That what was read came by the place behind D says that D alone can be read to its end. -/
theorem mem_ends : ∀ (d n L : Nat) (D P : List UInt8), n + d ≤ 60 → (D ++ P).length ≤ L → ((((L : Int) - ((D ++ P).length : Int) + (D.length : Int)) ∈ Ho L d n (D ++ P) ∨ D = []) ↔ (reads d n D).2 = [])
  | 0, n, L, D, P, _, _ => by simp [Ho, reads]
  | d + 1, n, L, D, P, hn, hL => by
    by_cases hD : D = []
    · subst hD
      rw [F5 (recAt_nil _)]
      simp
    cases h : recAt (n : Int) (D ++ P) with
    | none =>
      have hno : recAt (n : Int) D = none := by
        cases h2 : recAt (n : Int) D with
        | none => rfl
        | some q =>
          have hq := H5 h2
          have : F8 (n : Int) (D ++ P) q.1 q.2.1 (q.2.2 ++ P) := ⟨hq.1, by rw [← List.append_assoc, ← hq.2]⟩
          rw [Hl (by omega) (by omega) this] at h
          cases h
      rw [endsOf_none h, F5 hno]
      simp [hD]
    | some p =>
      have hp := H5 h
      have hlen := congrArg List.length hp.2
      rw [List.length_append, List.length_append] at hlen
      rw [endsOf_some h]
      by_cases hc : (B (Ew (n : Int) p.1 p.2.1)).length ≤ D.length
      · obtain ⟨D', hD'⟩ : ∃ D', D = B (Ew (n : Int) p.1 p.2.1) ++ D' := by
          have : B (Ew (n : Int) p.1 p.2.1) <+: D ++ P := ⟨p.2.2, hp.2.symm⟩
          obtain ⟨t, ht⟩ := List.prefix_of_prefix_length_le this (List.prefix_append D P) hc
          exact ⟨t, ht.symm⟩
        have ht : p.2.2 = D' ++ P := by
          have := hp.2
          rw [hD', List.append_assoc] at this
          exact (List.append_cancel_left this).symm
        have hr : F8 (n : Int) D p.1 p.2.1 D' := ⟨hp.1, hD'⟩
        rw [Gm (Hl (by omega) (by omega) hr)]
        have hdl := congrArg List.length hD'
        rw [List.length_append] at hdl
        rw [List.length_append] at hL
        have ih := mem_ends d (n + 1) L D' P (by omega) (by rw [List.length_append]; omega)
        simp only
        rw [← ih, ht, List.mem_cons]
        simp only [List.length_append, hD, or_false]
        have e1 : (L : Int) - ((D.length + P.length : Nat) : Int) + (D.length : Int) = (L : Int) - ((D'.length + P.length : Nat) : Int) + (D'.length : Int) := by omega
        rw [e1]
        constructor
        · rintro (a | a)
          · exact .inr (List.length_eq_zero_iff.1 (by omega))
          · exact .inl a
        · rintro (a | a)
          · exact .inr a
          · left; rw [a]; simp
      · have hno : recAt (n : Int) D = none := by
          cases h2 : recAt (n : Int) D with
          | none => rfl
          | some q =>
            exfalso
            have hq := H5 h2
            have hl := hq.2
            rw [B_line, List.append_assoc] at hl
            have h10 : (10 : UInt8) ∈ D := by rw [hl]; simp
            have hpre : D <+: B (Fg (Ey (n : Int) p.1 p.2.1)) := by
              have a1 : D <+: D ++ P := List.prefix_append D P
              have a2 : B (Fg (Ey (n : Int) p.1 p.2.1)) <+: D ++ P := by rw [hp.2, B_line, List.append_assoc]; exact List.prefix_append _ _
              refine List.prefix_of_prefix_length_le a1 a2 ?_
              rw [B_line, List.length_append] at hc
              simp at hc; omega
            exact sealed_no10 (by omega) hp.1 (hpre.subset h10)
        rw [F5 hno]
        simp only [hD, or_false, iff_false]
        intro hm
        rw [List.length_append] at hm
        rw [List.length_append] at hL
        rcases List.mem_cons.1 hm with e | e
        · omega
        · have := endsOf_ge d (n + 1) L p.2.2 (by omega) _ e
          omega
noncomputable def allOf (D P : ByteArray) : List RecT := (reads 60 0 (B D ++ B P)).1
noncomputable def Fv (D P : ByteArray) (c : Int) : Bool := decide ((reads 60 0 (B D ++ B P)).2 = []) && decide ((reads 60 0 (B D)).2 = []) && decide (((allOf D P).length : Int) = c)
theorem logOk_size {D P : ByteArray} {c : Int} (h : Fv D P c = true) : D.size + P.size ≤ 24360 := by
  unfold Fv at h
  simp only [Bool.and_eq_true, decide_eq_true_eq] at h
  have := reads_size 60 0 (B D ++ B P) (by omega)
  rw [h.1.1, List.length_append, D7, D7] at this
  simp at this; omega
theorem left_nil (l : List UInt8) (n : Nat) (hl : l.length ≤ n) : (((n : Int) - (l.length : Int)) = (n : Int)) = (l = []) := by
  apply propext
  constructor
  · intro h; exact List.length_eq_zero_iff.1 (by omega)
  · rintro rfl; simp
theorem specLog_ev (D P : ByteArray) (c : Int) (hD : D.size ≤ 1048576) (hP : P.size ≤ 1048576) : Ev (fun k => Ed.f k D P c) (Fv D P c) := by
  unfold Ed.f
  rw [wrap_id (x := (D.size : Int) + (P.size : Int)) (by omega) (by omega)]
  by_cases h : (D.size : Int) + (P.size : Int) > 30000
  · have : Fv D P c = false := by
      rw [Bool.eq_false_iff]; intro z; have := logOk_size z; omega
    rw [this]; exact ev_eq (fun k => if_pos h)
  · simp only [if_neg h, if_pos (show D.size + P.size ≤ 9223372036854775807 by omega)]
    have hs : (D ++ P).size = D.size + P.size := ByteArray.size_append
    refine Ev.bind (specOpen_ev (D ++ P) (by omega)) (Ev.bind (specOpen_ev D (by omega)) (ev_eq (fun k => ?_)))
    rw [F9, hs]
    have b1 := (Hw 60 0 (B D ++ B P)).2
    rw [List.length_append, D7, D7] at b1
    have b2 := (Hw 60 0 (B D)).2
    rw [D7] at b2
    have e1 := left_nil (reads 60 0 (B D ++ B P)).2 (D.size + P.size) b1
    rw [Int.natCast_add] at e1
    have e2 := left_nil (reads 60 0 (B D)).2 D.size b2
    simp only [Int.natCast_add, e1, e2]
    unfold Fv allOf
    by_cases g1 : (reads 60 0 (B D ++ B P)).2 = []
    · by_cases g2 : (reads 60 0 (B D)).2 = []
      · rw [if_pos g1, if_pos g2, decide_eq_true g1, decide_eq_true g2]
        simp only [Bool.true_and, Option.some.injEq]
        rw [Bool.eq_iff_iff]; simp
      · rw [if_pos g1, if_neg g2, decide_eq_true g1, decide_eq_false g2]; rfl
    · rw [if_neg g1, decide_eq_false g1]; rfl
theorem implRecs_ev (D P : ByteArray) (c : Int) (hD : D.size ≤ 1048576) (hP : P.size ≤ 1048576) : Ev (fun k => Eo.f k D P c) (allOf D P, Fv D P c) := by
  unfold Eo.f
  have hs : (D ++ P).size = D.size + P.size := ByteArray.size_append
  simp only [if_pos (show D.size + P.size ≤ 9223372036854775807 by omega)]
  refine Ev.bind (implReads_ev (D ++ P) (by omega)) (ev_eq (fun k => ?_))
  rw [F9, hs]
  have b1 := (Hw 60 0 (B D ++ B P)).2
  rw [List.length_append, D7, D7] at b1
  have e1 := left_nil (reads 60 0 (B D ++ B P)).2 (D.size + P.size) b1
  simp only [Option.some.injEq, Prod.mk.injEq]
  refine ⟨rfl, ?_⟩
  have hm := mem_ends 60 0 (D.size + P.size) (B D) (B P) (by omega) (by rw [List.length_append, D7, D7]; exact Nat.le_refl _)
  rw [List.length_append, D7, D7, show ((D.size + P.size : Nat) : Int) - ((D.size + P.size : Nat) : Int) + (D.size : Int) = (D.size : Int) by omega] at hm
  have hm2 : (decide ((D.size : Int) ∈ 0 :: Ho (D.size + P.size) 60 0 (B D ++ B P))) = decide ((reads 60 0 (B D)).2 = []) := by
    rw [decide_eq_decide, ← hm, List.mem_cons]
    constructor
    · rintro (a | a)
      · exact .inr (List.length_eq_zero_iff.1 (by rw [D7]; omega))
      · exact .inl a
    · rintro (a | a)
      · exact .inr a
      · have : D.size = 0 := by rw [← D7, a]; rfl
        left; omega
  rw [hm2]
  unfold Fv allOf
  have e3 : ((((D.size + P.size : Nat) : Int) - ((reads 60 0 (B D ++ B P)).2.length : Int)) == ((D.size : Int) + (P.size : Int))) = decide ((reads 60 0 (B D ++ B P)).2 = []) := by
    rw [← Int.natCast_add, Bool.eq_iff_iff]
    simp only [beq_iff_eq, decide_eq_true_eq, e1]
  rw [e3]
  congr 1
  rw [Bool.eq_iff_iff]
  simp only [beq_iff_eq, decide_eq_true_eq]
  exact ⟨fun h => h.symm, fun h => h.symm⟩
end Go.Proofs.YtkpieljmhgfofaaDoor.X

namespace Go.Proofs.YtkpieljmhgfofaaDoor.X
open Go.RowKit Go.Proofs.YtkpieljmhgfofaaDoorW.PrintWords Go.Proofs.YtkpieljmhgfofaaDoorW.PrintLast Go.Proofs.YtkpieljmhgfofaaDoorW.PrintMore
attribute [local go_sem] max2_int min2_int max_two min_two max_three min_three max_four min_four
open Go.Proofs.YtkpieljmhgfofaaDoorG
def laws_szLogRecord.f (a0_0 : ByteArray) (a0_1 : ByteArray) (a1 : Int) : Option (Int) := if (wrap64 (a1 - (a0_0.size : Int))) < 0 then (some (-1)) else (if (wrap64 ((wrap64 (a1 - (a0_0.size : Int))) - (a0_1.size : Int))) < 0 then (some (-1)) else (some (wrap64 ((wrap64 (a1 - (a0_0.size : Int))) - (a0_1.size : Int)))))
set_option maxHeartbeats 8000000 in
set_option maxRecDepth 100000 in
theorem laws_szLogRecord.calls (a0_0 : ByteArray) (a0_1 : ByteArray) (a1 : Int) (r : Int) (w : World) (h : laws_szLogRecord.f a0_0 a0_1 a1 = some r) :
    Calls Tryd.prog 13 #[.agg #[.string a0_0, .string a0_1], .int .i64 a1] w fun e w' => e = .returned (.int .i64 r) ∧ Below w.heap.size w w' := by
  have hu23 := Tryd.underlying23
  have HB := Aside0.mk (Below.refl w.heap.size w)
  have H : (if (wrap64 (a1 - (a0_0.size : Int))) < 0 then (some (-1)) else (if (wrap64 ((wrap64 (a1 - (a0_0.size : Int))) - (a0_1.size : Int))) < 0 then (some (-1)) else (some (wrap64 ((wrap64 (a1 - (a0_0.size : Int))) - (a0_1.size : Int)))))) = some r := h
  clear h
  by_cases c3 : (wrap64 (a1 - (a0_0.size : Int))) < 0
  · rw [if_pos c3] at H
    have c3b0 : decide ((wrap64 (a1 - (a0_0.size : Int))) < 0) = true := decide_eq_true c3
    clear c3
    obtain rfl := Option.some.inj H
    go_enter Tryd.func13, Tryd.ntmps13
    go_wp2_with (first | ((with_reducible refine Bd (N := 2) rfl ?_); refine Bc ?hg (N := 2) ?hd (cs := #[.string a0_0, .string a0_1]) (t := 23) ?hr ?_; (case hd => rfl); (case hg => rfl); (case hr => first | (go_simp; done) | (go_simp; rfl)); intro gb0 hg w4 hbox hb; have n0_ := Aside0.mk (Ag Ya_ hb); have n1_ := Aside0.mk (hbox); have n2_ := Aside0.mk ((by rw [hg]; exact (Ah Ya_) : w.heap.size ≤ gb0)); have n3_ := Aside0.mk ((by rw [hg]; exact (Ah Ya_) : w.heap.size ≤ gb0)); clear HB; have HB := n0_; have BK0 := n1_; have GW0 := n2_; have GE0 := n3_; clear n0_ n1_ n2_ n3_; clear hb hbox hg; have hcz5_0 : w4.cell? ⟨gb0, 0, none⟩ = some (.string a0_0) := (Ae BK0.out 0).trans rfl; have hcz5_1 : w4.cell? ⟨gb0, 1, none⟩ = some (.string a0_1) := (Ae BK0.out 1).trans rfl; have hfz5_0 := Af BK0.out 0; have hfz5_1 := Af BK0.out 1))
    go_ret
    exact ⟨by first | rfl | (simp [Ak, Aj] <;> rfl) | (simp [*, Ak, Aj] <;> rfl), by repeat (first | (with_reducible first | exact HB.out | apply below_alloc | apply pw_below_drewN | apply below_drew1 | refine below_set ?_ GE0.out) | exact HB.out)⟩
  · rw [if_neg c3] at H
    have c3b0 : decide ((wrap64 (a1 - (a0_0.size : Int))) < 0) = false := decide_eq_false c3
    clear c3
    by_cases c6 : (wrap64 ((wrap64 (a1 - (a0_0.size : Int))) - (a0_1.size : Int))) < 0
    · rw [if_pos c6] at H
      have c6b0 : decide ((wrap64 ((wrap64 (a1 - (a0_0.size : Int))) - (a0_1.size : Int))) < 0) = true := decide_eq_true c6
      clear c6
      obtain rfl := Option.some.inj H
      go_enter Tryd.func13, Tryd.ntmps13
      go_wp2_with (first | ((with_reducible refine Bd (N := 2) rfl ?_); refine Bc ?hg (N := 2) ?hd (cs := #[.string a0_0, .string a0_1]) (t := 23) ?hr ?_; (case hd => rfl); (case hg => rfl); (case hr => first | (go_simp; done) | (go_simp; rfl)); intro gb0 hg w7 hbox hb; have n0_ := Aside0.mk (Ag Ya_ hb); have n1_ := Aside0.mk (hbox); have n2_ := Aside0.mk ((by rw [hg]; exact (Ah Ya_) : w.heap.size ≤ gb0)); have n3_ := Aside0.mk ((by rw [hg]; exact (Ah Ya_) : w.heap.size ≤ gb0)); clear HB; have HB := n0_; have BK0 := n1_; have GW0 := n2_; have GE0 := n3_; clear n0_ n1_ n2_ n3_; clear hb hbox hg; have hcz8_0 : w7.cell? ⟨gb0, 0, none⟩ = some (.string a0_0) := (Ae BK0.out 0).trans rfl; have hcz8_1 : w7.cell? ⟨gb0, 1, none⟩ = some (.string a0_1) := (Ae BK0.out 1).trans rfl; have hfz8_0 := Af BK0.out 0; have hfz8_1 := Af BK0.out 1))
      go_ret
      exact ⟨by first | rfl | (simp [Ak, Aj] <;> rfl) | (simp [*, Ak, Aj] <;> rfl), by repeat (first | (with_reducible first | exact HB.out | apply below_alloc | apply pw_below_drewN | apply below_drew1 | refine below_set ?_ GE0.out) | exact HB.out)⟩
    · rw [if_neg c6] at H
      have c6b0 : decide ((wrap64 ((wrap64 (a1 - (a0_0.size : Int))) - (a0_1.size : Int))) < 0) = false := decide_eq_false c6
      clear c6
      obtain rfl := Option.some.inj H
      go_enter Tryd.func13, Tryd.ntmps13
      go_wp2_with (first | ((with_reducible refine Bd (N := 2) rfl ?_); refine Bc ?hg (N := 2) ?hd (cs := #[.string a0_0, .string a0_1]) (t := 23) ?hr ?_; (case hd => rfl); (case hg => rfl); (case hr => first | (go_simp; done) | (go_simp; rfl)); intro gb0 hg w9 hbox hb; have n0_ := Aside0.mk (Ag Ya_ hb); have n1_ := Aside0.mk (hbox); have n2_ := Aside0.mk ((by rw [hg]; exact (Ah Ya_) : w.heap.size ≤ gb0)); have n3_ := Aside0.mk ((by rw [hg]; exact (Ah Ya_) : w.heap.size ≤ gb0)); clear HB; have HB := n0_; have BK0 := n1_; have GW0 := n2_; have GE0 := n3_; clear n0_ n1_ n2_ n3_; clear hb hbox hg; have hcz10_0 : w9.cell? ⟨gb0, 0, none⟩ = some (.string a0_0) := (Ae BK0.out 0).trans rfl; have hcz10_1 : w9.cell? ⟨gb0, 1, none⟩ = some (.string a0_1) := (Ae BK0.out 1).trans rfl; have hfz10_0 := Af BK0.out 0; have hfz10_1 := Af BK0.out 1))
      go_ret
      exact ⟨by first | rfl | (simp [Ak, Aj] <;> rfl) | (simp [*, Ak, Aj] <;> rfl), by repeat (first | (with_reducible first | exact HB.out | apply below_alloc | apply pw_below_drewN | apply below_drew1 | refine below_set ?_ GE0.out) | exact HB.out)⟩
end Go.Proofs.YtkpieljmhgfofaaDoor.X

namespace Go.Proofs.YtkpieljmhgfofaaDoor.X
open Go.RowKit Go.Proofs.YtkpieljmhgfofaaDoorW.PrintWords Go.Proofs.YtkpieljmhgfofaaDoorW.PrintLast Go.Proofs.YtkpieljmhgfofaaDoorW.PrintMore
attribute [local go_sem] max2_int min2_int max_two min_two max_three min_three max_four min_four
open Go.Proofs.YtkpieljmhgfofaaDoorG
def laws_eqLog.f (a0_0 : ByteArray) (a0_1 : ByteArray) (a0_2 : Int) (a1_0 : ByteArray) (a1_1 : ByteArray) (a1_2 : Int) : Option (Bool) := if a0_0.toList = a1_0.toList then (if a0_1.toList = a1_1.toList then (if a0_2 = a1_2 then (some true) else (some false)) else (some false)) else (some false)
set_option maxHeartbeats 8000000 in
set_option maxRecDepth 100000 in
theorem laws_eqLog.calls (a0_0 : ByteArray) (a0_1 : ByteArray) (a0_2 : Int) (a1_0 : ByteArray) (a1_1 : ByteArray) (a1_2 : Int) (r : Bool) (w : World) (h : laws_eqLog.f a0_0 a0_1 a0_2 a1_0 a1_1 a1_2 = some r) :
    Calls Tryd.prog 19 #[.agg #[.string a0_0, .string a0_1, .int .i64 a0_2], .agg #[.string a1_0, .string a1_1, .int .i64 a1_2]] w fun e w' => e = .returned (.bool r) ∧ Below w.heap.size w w' := by
  have hu31 := Tryd.underlying31
  have HB := Aside0.mk (Below.refl w.heap.size w)
  have H : (if a0_0.toList = a1_0.toList then (if a0_1.toList = a1_1.toList then (if a0_2 = a1_2 then (some true) else (some false)) else (some false)) else (some false)) = some r := h
  clear h
  by_cases c3 : a0_0.toList = a1_0.toList
  · rw [if_pos c3] at H
    have c3b0 : (a0_0.toList == a1_0.toList) = true := beq_iff_eq.mpr c3
    have c3b1 : (a0_0.toList != a1_0.toList) = false := bne_eq_false_iff_eq.mpr c3
    clear c3
    by_cases c4 : a0_1.toList = a1_1.toList
    · rw [if_pos c4] at H
      have c4b0 : (a0_1.toList == a1_1.toList) = true := beq_iff_eq.mpr c4
      have c4b1 : (a0_1.toList != a1_1.toList) = false := bne_eq_false_iff_eq.mpr c4
      clear c4
      by_cases c5 : a0_2 = a1_2
      · rw [if_pos c5] at H
        have c5b0 : (a0_2 == a1_2) = true := beq_iff_eq.mpr c5
        have c5b1 : (a0_2 != a1_2) = false := bne_eq_false_iff_eq.mpr c5
        clear c5
        obtain rfl := Option.some.inj H
        go_enter Tryd.func19, Tryd.ntmps19
        go_wp2_with (first | ((with_reducible refine Bd (N := 2) rfl ?_); refine Bc ?hg (N := 2) ?hd (cs := #[.string a0_0, .string a0_1, .int .i64 a0_2]) (t := 31) ?hr ?_; (case hd => rfl); (case hg => rfl); (case hr => first | (go_simp; done) | (go_simp; rfl)); intro gb0 hg w6 hbox hb; have n0_ := Aside0.mk (Ag Ya_ hb); have n1_ := Aside0.mk (hbox); have n2_ := Aside0.mk ((by rw [hg]; exact (Ah Ya_) : w.heap.size ≤ gb0)); have n3_ := Aside0.mk ((by rw [hg]; exact (Ah Ya_) : w.heap.size ≤ gb0)); clear HB; have HB := n0_; have BK0 := n1_; have GW0 := n2_; have GE0 := n3_; clear n0_ n1_ n2_ n3_; clear hb hbox hg) | ((with_reducible refine Bd (N := 3) rfl ?_); refine Bc ?hg (N := 3) ?hd (cs := #[.string a1_0, .string a1_1, .int .i64 a1_2]) (t := 31) ?hr ?_; (case hd => rfl); (case hg => rfl); (case hr => first | (go_simp; done) | (go_simp; rfl)); intro gb1 hg w7 hbox hb; have n0_ := Aside0.mk (Ai (g := gb0) (o := .cells #[.string a0_0, .string a0_1, .int .i64 a0_2] 31 (0, 0)) Yd_ hb); have n1_ := Aside0.mk (Ag Yb_ hb); have n2_ := Aside0.mk (hbox); have n3_ := Aside0.mk ((by rw [hg]; exact (Ah Yb_) : w.heap.size ≤ gb1)); have n4_ := Aside0.mk ((by rw [hg]; exact (Ah Yb_) : w.heap.size ≤ gb1)); have n5_ := Aside0.mk ((by rw [hg]; exact Nat.ne_of_lt (Cf (g := gb0) (o := .cells #[.string a0_0, .string a0_1, .int .i64 a0_2] 31 (0, 0)) Yd_) : gb0 ≠ gb1)); have n6_ := Aside0.mk ((by rw [hg]; exact Nat.ne_of_gt (Cf (g := gb0) (o := .cells #[.string a0_0, .string a0_1, .int .i64 a0_2] 31 (0, 0)) Yd_) : gb1 ≠ gb0)); clear BK0; clear HB; have BK0 := n0_; have HB := n1_; have BK1 := n2_; have GW1 := n3_; have GE1 := n4_; have NB0_1 := n5_; have NB1_0 := n6_; clear n0_ n1_ n2_ n3_ n4_ n5_ n6_; clear hb hbox hg; have hnb8 := NB0_1.out; have hnc8 := NB1_0.out; have hcz9_0 : w7.cell? ⟨gb0, 0, none⟩ = some (.string a0_0) := (Ae BK0.out 0).trans rfl; have hcz9_1 : w7.cell? ⟨gb0, 1, none⟩ = some (.string a0_1) := (Ae BK0.out 1).trans rfl; have hcz9_2 : w7.cell? ⟨gb0, 2, none⟩ = some (.int .i64 a0_2) := (Ae BK0.out 2).trans rfl; have hfz9_0 := Af BK0.out 0; have hfz9_1 := Af BK0.out 1; have hfz9_2 := Af BK0.out 2; have hcz10_0 : w7.cell? ⟨gb1, 0, none⟩ = some (.string a1_0) := (Ae BK1.out 0).trans rfl; have hcz10_1 : w7.cell? ⟨gb1, 1, none⟩ = some (.string a1_1) := (Ae BK1.out 1).trans rfl; have hcz10_2 : w7.cell? ⟨gb1, 2, none⟩ = some (.int .i64 a1_2) := (Ae BK1.out 2).trans rfl; have hfz10_0 := Af BK1.out 0; have hfz10_1 := Af BK1.out 1; have hfz10_2 := Af BK1.out 2))
        go_ret
        exact ⟨by first | rfl | (simp [Ak, Aj] <;> rfl) | (simp [*, Ak, Aj] <;> rfl), by repeat (first | (with_reducible first | exact HB.out | apply below_alloc | apply pw_below_drewN | apply below_drew1 | refine below_set ?_ GE0.out | refine below_set ?_ GE1.out) | exact HB.out)⟩
      · rw [if_neg c5] at H
        have c5b0 : (a0_2 == a1_2) = false := beq_eq_false_iff_ne.mpr c5
        have c5b1 : (a0_2 != a1_2) = true := bne_iff_ne.mpr c5
        obtain rfl := Option.some.inj H
        go_enter Tryd.func19, Tryd.ntmps19
        go_wp2_with (first | ((with_reducible refine Bd (N := 2) rfl ?_); refine Bc ?hg (N := 2) ?hd (cs := #[.string a0_0, .string a0_1, .int .i64 a0_2]) (t := 31) ?hr ?_; (case hd => rfl); (case hg => rfl); (case hr => first | (go_simp; done) | (go_simp; rfl)); intro gb0 hg w11 hbox hb; have n0_ := Aside0.mk (Ag Ya_ hb); have n1_ := Aside0.mk (hbox); have n2_ := Aside0.mk ((by rw [hg]; exact (Ah Ya_) : w.heap.size ≤ gb0)); have n3_ := Aside0.mk ((by rw [hg]; exact (Ah Ya_) : w.heap.size ≤ gb0)); clear HB; have HB := n0_; have BK0 := n1_; have GW0 := n2_; have GE0 := n3_; clear n0_ n1_ n2_ n3_; clear hb hbox hg) | ((with_reducible refine Bd (N := 3) rfl ?_); refine Bc ?hg (N := 3) ?hd (cs := #[.string a1_0, .string a1_1, .int .i64 a1_2]) (t := 31) ?hr ?_; (case hd => rfl); (case hg => rfl); (case hr => first | (go_simp; done) | (go_simp; rfl)); intro gb1 hg w12 hbox hb; have n0_ := Aside0.mk (Ai (g := gb0) (o := .cells #[.string a0_0, .string a0_1, .int .i64 a0_2] 31 (0, 0)) Yd_ hb); have n1_ := Aside0.mk (Ag Yb_ hb); have n2_ := Aside0.mk (hbox); have n3_ := Aside0.mk ((by rw [hg]; exact (Ah Yb_) : w.heap.size ≤ gb1)); have n4_ := Aside0.mk ((by rw [hg]; exact (Ah Yb_) : w.heap.size ≤ gb1)); have n5_ := Aside0.mk ((by rw [hg]; exact Nat.ne_of_lt (Cf (g := gb0) (o := .cells #[.string a0_0, .string a0_1, .int .i64 a0_2] 31 (0, 0)) Yd_) : gb0 ≠ gb1)); have n6_ := Aside0.mk ((by rw [hg]; exact Nat.ne_of_gt (Cf (g := gb0) (o := .cells #[.string a0_0, .string a0_1, .int .i64 a0_2] 31 (0, 0)) Yd_) : gb1 ≠ gb0)); clear BK0; clear HB; have BK0 := n0_; have HB := n1_; have BK1 := n2_; have GW1 := n3_; have GE1 := n4_; have NB0_1 := n5_; have NB1_0 := n6_; clear n0_ n1_ n2_ n3_ n4_ n5_ n6_; clear hb hbox hg; have hnb13 := NB0_1.out; have hnc13 := NB1_0.out; have hcz14_0 : w12.cell? ⟨gb0, 0, none⟩ = some (.string a0_0) := (Ae BK0.out 0).trans rfl; have hcz14_1 : w12.cell? ⟨gb0, 1, none⟩ = some (.string a0_1) := (Ae BK0.out 1).trans rfl; have hcz14_2 : w12.cell? ⟨gb0, 2, none⟩ = some (.int .i64 a0_2) := (Ae BK0.out 2).trans rfl; have hfz14_0 := Af BK0.out 0; have hfz14_1 := Af BK0.out 1; have hfz14_2 := Af BK0.out 2; have hcz15_0 : w12.cell? ⟨gb1, 0, none⟩ = some (.string a1_0) := (Ae BK1.out 0).trans rfl; have hcz15_1 : w12.cell? ⟨gb1, 1, none⟩ = some (.string a1_1) := (Ae BK1.out 1).trans rfl; have hcz15_2 : w12.cell? ⟨gb1, 2, none⟩ = some (.int .i64 a1_2) := (Ae BK1.out 2).trans rfl; have hfz15_0 := Af BK1.out 0; have hfz15_1 := Af BK1.out 1; have hfz15_2 := Af BK1.out 2))
        go_ret
        exact ⟨by first | rfl | (simp [Ak, Aj] <;> rfl) | (simp [*, Ak, Aj] <;> rfl), by repeat (first | (with_reducible first | exact HB.out | apply below_alloc | apply pw_below_drewN | apply below_drew1 | refine below_set ?_ GE0.out | refine below_set ?_ GE1.out) | exact HB.out)⟩
    · rw [if_neg c4] at H
      have c4b0 : (a0_1.toList == a1_1.toList) = false := beq_eq_false_iff_ne.mpr c4
      have c4b1 : (a0_1.toList != a1_1.toList) = true := bne_iff_ne.mpr c4
      obtain rfl := Option.some.inj H
      go_enter Tryd.func19, Tryd.ntmps19
      go_wp2_with (first | ((with_reducible refine Bd (N := 2) rfl ?_); refine Bc ?hg (N := 2) ?hd (cs := #[.string a0_0, .string a0_1, .int .i64 a0_2]) (t := 31) ?hr ?_; (case hd => rfl); (case hg => rfl); (case hr => first | (go_simp; done) | (go_simp; rfl)); intro gb0 hg w16 hbox hb; have n0_ := Aside0.mk (Ag Ya_ hb); have n1_ := Aside0.mk (hbox); have n2_ := Aside0.mk ((by rw [hg]; exact (Ah Ya_) : w.heap.size ≤ gb0)); have n3_ := Aside0.mk ((by rw [hg]; exact (Ah Ya_) : w.heap.size ≤ gb0)); clear HB; have HB := n0_; have BK0 := n1_; have GW0 := n2_; have GE0 := n3_; clear n0_ n1_ n2_ n3_; clear hb hbox hg) | ((with_reducible refine Bd (N := 3) rfl ?_); refine Bc ?hg (N := 3) ?hd (cs := #[.string a1_0, .string a1_1, .int .i64 a1_2]) (t := 31) ?hr ?_; (case hd => rfl); (case hg => rfl); (case hr => first | (go_simp; done) | (go_simp; rfl)); intro gb1 hg w17 hbox hb; have n0_ := Aside0.mk (Ai (g := gb0) (o := .cells #[.string a0_0, .string a0_1, .int .i64 a0_2] 31 (0, 0)) Yd_ hb); have n1_ := Aside0.mk (Ag Yb_ hb); have n2_ := Aside0.mk (hbox); have n3_ := Aside0.mk ((by rw [hg]; exact (Ah Yb_) : w.heap.size ≤ gb1)); have n4_ := Aside0.mk ((by rw [hg]; exact (Ah Yb_) : w.heap.size ≤ gb1)); have n5_ := Aside0.mk ((by rw [hg]; exact Nat.ne_of_lt (Cf (g := gb0) (o := .cells #[.string a0_0, .string a0_1, .int .i64 a0_2] 31 (0, 0)) Yd_) : gb0 ≠ gb1)); have n6_ := Aside0.mk ((by rw [hg]; exact Nat.ne_of_gt (Cf (g := gb0) (o := .cells #[.string a0_0, .string a0_1, .int .i64 a0_2] 31 (0, 0)) Yd_) : gb1 ≠ gb0)); clear BK0; clear HB; have BK0 := n0_; have HB := n1_; have BK1 := n2_; have GW1 := n3_; have GE1 := n4_; have NB0_1 := n5_; have NB1_0 := n6_; clear n0_ n1_ n2_ n3_ n4_ n5_ n6_; clear hb hbox hg; have hnb18 := NB0_1.out; have hnc18 := NB1_0.out; have hcz19_0 : w17.cell? ⟨gb0, 0, none⟩ = some (.string a0_0) := (Ae BK0.out 0).trans rfl; have hcz19_1 : w17.cell? ⟨gb0, 1, none⟩ = some (.string a0_1) := (Ae BK0.out 1).trans rfl; have hcz19_2 : w17.cell? ⟨gb0, 2, none⟩ = some (.int .i64 a0_2) := (Ae BK0.out 2).trans rfl; have hfz19_0 := Af BK0.out 0; have hfz19_1 := Af BK0.out 1; have hfz19_2 := Af BK0.out 2; have hcz20_0 : w17.cell? ⟨gb1, 0, none⟩ = some (.string a1_0) := (Ae BK1.out 0).trans rfl; have hcz20_1 : w17.cell? ⟨gb1, 1, none⟩ = some (.string a1_1) := (Ae BK1.out 1).trans rfl; have hcz20_2 : w17.cell? ⟨gb1, 2, none⟩ = some (.int .i64 a1_2) := (Ae BK1.out 2).trans rfl; have hfz20_0 := Af BK1.out 0; have hfz20_1 := Af BK1.out 1; have hfz20_2 := Af BK1.out 2))
      go_ret
      exact ⟨by first | rfl | (simp [Ak, Aj] <;> rfl) | (simp [*, Ak, Aj] <;> rfl), by repeat (first | (with_reducible first | exact HB.out | apply below_alloc | apply pw_below_drewN | apply below_drew1 | refine below_set ?_ GE0.out | refine below_set ?_ GE1.out) | exact HB.out)⟩
  · rw [if_neg c3] at H
    have c3b0 : (a0_0.toList == a1_0.toList) = false := beq_eq_false_iff_ne.mpr c3
    have c3b1 : (a0_0.toList != a1_0.toList) = true := bne_iff_ne.mpr c3
    obtain rfl := Option.some.inj H
    go_enter Tryd.func19, Tryd.ntmps19
    go_wp2_with (first | ((with_reducible refine Bd (N := 2) rfl ?_); refine Bc ?hg (N := 2) ?hd (cs := #[.string a0_0, .string a0_1, .int .i64 a0_2]) (t := 31) ?hr ?_; (case hd => rfl); (case hg => rfl); (case hr => first | (go_simp; done) | (go_simp; rfl)); intro gb0 hg w21 hbox hb; have n0_ := Aside0.mk (Ag Ya_ hb); have n1_ := Aside0.mk (hbox); have n2_ := Aside0.mk ((by rw [hg]; exact (Ah Ya_) : w.heap.size ≤ gb0)); have n3_ := Aside0.mk ((by rw [hg]; exact (Ah Ya_) : w.heap.size ≤ gb0)); clear HB; have HB := n0_; have BK0 := n1_; have GW0 := n2_; have GE0 := n3_; clear n0_ n1_ n2_ n3_; clear hb hbox hg) | ((with_reducible refine Bd (N := 3) rfl ?_); refine Bc ?hg (N := 3) ?hd (cs := #[.string a1_0, .string a1_1, .int .i64 a1_2]) (t := 31) ?hr ?_; (case hd => rfl); (case hg => rfl); (case hr => first | (go_simp; done) | (go_simp; rfl)); intro gb1 hg w22 hbox hb; have n0_ := Aside0.mk (Ai (g := gb0) (o := .cells #[.string a0_0, .string a0_1, .int .i64 a0_2] 31 (0, 0)) Yd_ hb); have n1_ := Aside0.mk (Ag Yb_ hb); have n2_ := Aside0.mk (hbox); have n3_ := Aside0.mk ((by rw [hg]; exact (Ah Yb_) : w.heap.size ≤ gb1)); have n4_ := Aside0.mk ((by rw [hg]; exact (Ah Yb_) : w.heap.size ≤ gb1)); have n5_ := Aside0.mk ((by rw [hg]; exact Nat.ne_of_lt (Cf (g := gb0) (o := .cells #[.string a0_0, .string a0_1, .int .i64 a0_2] 31 (0, 0)) Yd_) : gb0 ≠ gb1)); have n6_ := Aside0.mk ((by rw [hg]; exact Nat.ne_of_gt (Cf (g := gb0) (o := .cells #[.string a0_0, .string a0_1, .int .i64 a0_2] 31 (0, 0)) Yd_) : gb1 ≠ gb0)); clear BK0; clear HB; have BK0 := n0_; have HB := n1_; have BK1 := n2_; have GW1 := n3_; have GE1 := n4_; have NB0_1 := n5_; have NB1_0 := n6_; clear n0_ n1_ n2_ n3_ n4_ n5_ n6_; clear hb hbox hg; have hnb23 := NB0_1.out; have hnc23 := NB1_0.out; have hcz24_0 : w22.cell? ⟨gb0, 0, none⟩ = some (.string a0_0) := (Ae BK0.out 0).trans rfl; have hcz24_1 : w22.cell? ⟨gb0, 1, none⟩ = some (.string a0_1) := (Ae BK0.out 1).trans rfl; have hcz24_2 : w22.cell? ⟨gb0, 2, none⟩ = some (.int .i64 a0_2) := (Ae BK0.out 2).trans rfl; have hfz24_0 := Af BK0.out 0; have hfz24_1 := Af BK0.out 1; have hfz24_2 := Af BK0.out 2; have hcz25_0 : w22.cell? ⟨gb1, 0, none⟩ = some (.string a1_0) := (Ae BK1.out 0).trans rfl; have hcz25_1 : w22.cell? ⟨gb1, 1, none⟩ = some (.string a1_1) := (Ae BK1.out 1).trans rfl; have hcz25_2 : w22.cell? ⟨gb1, 2, none⟩ = some (.int .i64 a1_2) := (Ae BK1.out 2).trans rfl; have hfz25_0 := Af BK1.out 0; have hfz25_1 := Af BK1.out 1; have hfz25_2 := Af BK1.out 2))
    go_ret
    exact ⟨by first | rfl | (simp [Ak, Aj] <;> rfl) | (simp [*, Ak, Aj] <;> rfl), by repeat (first | (with_reducible first | exact HB.out | apply below_alloc | apply pw_below_drewN | apply below_drew1 | refine below_set ?_ GE0.out | refine below_set ?_ GE1.out) | exact HB.out)⟩
end Go.Proofs.YtkpieljmhgfofaaDoor.X

namespace Go.Proofs.YtkpieljmhgfofaaDoor.X
open Go.RowKit Go.Proofs.YtkpieljmhgfofaaDoorW.PrintWords Go.Proofs.YtkpieljmhgfofaaDoorL
theorem H7 {D P : ByteArray} {c : Int} (h : Fv D P c = true) : 0 ≤ c ∧ c ≤ 60 := by
  unfold Fv at h
  simp only [Bool.and_eq_true, decide_eq_true_eq] at h
  have := (Hw 60 0 (B D ++ B P)).1
  unfold allOf at h
  omega
noncomputable def appd (D P : ByteArray) (c : Int) (q r : ByteArray) : ByteArray × ByteArray × Int × Int :=
  if Fv D P c = true ∧ Es q r = true then (if c = 60 then (D, P, c, 2) else (D, P ++ Ew c q r, c + 1, 0)) else (D, P, c, 1)
theorem line_bytes {n : Int} {c r : ByteArray} (h0 : 0 ≤ n) (h1 : n ≤ 59) (h : Es c r = true) : (Ew n c r).size ≤ 406 := by
  have := line_size h0 h1 h
  rwa [D7] at this
theorem specAppend_ev (D P : ByteArray) (c : Int) (q r : ByteArray) (hD : D.size ≤ 1048576) (hP : P.size ≤ 1048576) (hq : q.size ≤ 1048576) (hr : r.size ≤ 1048576) : Ev (fun k => Au.f k D P c q r) (appd D P c q r) := by
  have stop : Ev (fun k => Au.j0 k true D P c q r) (D, P, c, 1) := Ev.step (f := fun _ => some _) (fun k => by simp only [Au.j0]; rw [if_pos trivial]) (Ev.now _)
  unfold Au.f
  refine Ev.bind (specLog_ev D P c hD hP) ?_
  by_cases h : Fv D P c = true
  · simp only [if_pos h]
    refine Ev.bind (specRec_ev q r (by omega) (by omega)) ?_
    by_cases g : Es q r = true
    · unfold appd
      rw [if_pos ⟨h, g⟩, g]
      obtain ⟨c0, c1⟩ := H7 h
      have hsz := logOk_size h
      by_cases e : c = 60
      · rw [if_pos e]
        refine Ev.step (f := fun _ => some _) (fun k => ?_) (Ev.now _)
        simp only [Au.j0]
        rw [if_neg (by decide), if_pos e]
      · rw [if_neg e]
        have hl := line_bytes c0 (by omega) g
        refine Ev.step (f := fun k => (Ci.f k c q r).bind fun t => if P.size + t.size ≤ 9223372036854775807 then some (D, P ++ t, wrap64 (c + 1), 0) else none) (fun k => ?_) (Ev.bind (specLine_ev c q r c0 (by omega) g) ?_)
        · simp only [Au.j0]
          rw [if_neg (by decide), if_neg e]
        · rw [wrap_id (x := c + 1) (by omega) (by omega)]
          exact ev_eq (fun k => if_pos (by omega))
    · unfold appd
      rw [if_neg (fun z => g z.2)]
      have : Es q r = false := by simpa using g
      rw [this]; exact stop
  · simp only [if_neg h]
    unfold appd
    rw [if_neg (fun z => h z.1)]
    exact stop
theorem implAppend_ev (D P : ByteArray) (c : Int) (q r : ByteArray) (hD : D.size ≤ 1048576) (hP : P.size ≤ 1048576) : Ev (fun k => Bg.f k D P c q r) (appd D P c q r) := by
  have stop : Ev (fun k => Bg.j0 k true D P c q r) (D, P, c, 1) := Ev.step (f := fun _ => some _) (fun k => by simp only [Bg.j0]; rw [if_pos trivial]) (Ev.now _)
  unfold Bg.f Cj.f
  refine Ev.bind (Ev.bind (implRecs_ev D P c hD hP) (Ev.now _)) ?_
  by_cases h : Fv D P c = true
  · simp only [if_pos h]
    refine Ev.bind (implRec_ev q r) ?_
    by_cases g : Es q r = true
    · unfold appd
      rw [if_pos ⟨h, g⟩, g]
      obtain ⟨c0, c1⟩ := H7 h
      have hsz := logOk_size h
      by_cases e : c = 60
      · rw [if_pos e]
        refine Ev.step (f := fun _ => some _) (fun k => ?_) (Ev.now _)
        simp only [Bg.j0]
        rw [if_neg (by decide), if_pos e]
      · rw [if_neg e]
        have hl := line_bytes c0 (by omega) g
        refine Ev.step (f := fun k => (Bq.f k c q r).bind fun t => if P.size + t.size ≤ 9223372036854775807 then some (D, P ++ t, wrap64 (c + 1), 0) else none) (fun k => ?_) (Ev.bind (implLine_ev c q r c0 (by omega) g) ?_)
        · simp only [Bg.j0]
          rw [if_neg (by decide), if_neg e]
        · rw [wrap_id (x := c + 1) (by omega) (by omega)]
          exact ev_eq (fun k => if_pos (by omega))
    · unfold appd
      rw [if_neg (fun z => g z.2)]
      have : Es q r = false := by simpa using g
      rw [this]; exact stop
  · simp only [if_neg h]
    unfold appd
    rw [if_neg (fun z => h z.1)]
    exact stop
end Go.Proofs.YtkpieljmhgfofaaDoor.X

namespace Go.Proofs.YtkpieljmhgfofaaDoor.X
open Go.RowKit Go.Proofs.YtkpieljmhgfofaaDoorW.PrintWords Go.Proofs.YtkpieljmhgfofaaDoorW.PrintLast Go.Proofs.YtkpieljmhgfofaaDoorW.PrintMore
attribute [local go_sem] max2_int min2_int max_two min_two max_three min_three max_four min_four
open Go.Proofs.YtkpieljmhgfofaaDoorG
def G6.f (k : Nat) (a0 : ByteArray) : Option (ByteArray × ByteArray × Int × Int × Bool) := if (a0.size : Int) > 30000 then (some ((⟨#[]⟩ : ByteArray), (⟨#[]⟩ : ByteArray), 0, 0, false)) else ((Bv.f k a0).bind fun bt211 => (if 0 ≤ bt211.2 then (if bt211.2 ≤ (a0.size : Int) then (some (a0.extract 0 (bt211.2 : Int).toNat, (⟨#[]⟩ : ByteArray), (bt211.1.length : Int), bt211.2, true)) else (none)) else (none)))
theorem G6.mono : ∀ a0 k, LeO (G6.f k a0) (G6.f (k + 1) a0) := by
  intro a0 k
  unfold G6.f
  repeat' first
      | (with_reducible exact Bv.mono _ _)
      | (with_reducible exact LeO.refl _)
      | (with_reducible exact LeO.none _)
      | (with_reducible refine LeO.ite ?_ ?_)
      | (with_reducible refine LeO.bind ?_ (fun _ => ?_))
      | exact Bv.mono _ _
      | exact LeO.none _
      | refine LeO.ite ?_ ?_
      | refine LeO.bind ?_ (fun _ => ?_)
set_option maxHeartbeats 8000000 in
set_option maxRecDepth 100000 in
theorem G6.calls (k : Nat) (a0 : ByteArray) (r1 : ByteArray) (r2 : ByteArray) (r3 : Int) (r4 : Int) (r5 : Bool) (w : World) (h : G6.f k a0 = some (r1, r2, r3, r4, r5)) :
    Calls Tryd.prog 17 #[.string a0] w fun e w' => e = .returned (.tuple #[.agg #[.string r1, .string r2, .int .i64 r3], .int .i64 r4, .bool r5]) ∧ Below w.heap.size w w' := by
  have hu31 := Tryd.underlying31
  have HB := Aside0.mk (Below.refl w.heap.size w)
  have H : (if (a0.size : Int) > 30000 then (some ((⟨#[]⟩ : ByteArray), (⟨#[]⟩ : ByteArray), 0, 0, false)) else ((Bv.f k a0).bind fun bt211 => (if 0 ≤ bt211.2 then (if bt211.2 ≤ (a0.size : Int) then (some (a0.extract 0 (bt211.2 : Int).toNat, (⟨#[]⟩ : ByteArray), (bt211.1.length : Int), bt211.2, true)) else (none)) else (none)))) = some (r1, r2, r3, r4, r5) := h
  clear h
  by_cases c2 : (a0.size : Int) > 30000
  · rw [if_pos c2] at H
    have c2b0 : decide (30000 < (a0.size : Int)) = true := decide_eq_true c2
    have c2b1 : decide (30000 < a0.size) = true := decide_eq_true (by omega)
    clear c2
    simp only [Option.some.injEq, Prod.mk.injEq] at H
    obtain ⟨rfl, rfl, rfl, rfl, rfl⟩ := H
    go_enter Tryd.func17, Tryd.ntmps17
    go_wp2_with (first | ((with_reducible refine Bd (N := 2) rfl ?_); refine Bc ?hg (N := 2) ?hd (cs := #[.string (⟨#[]⟩ : ByteArray), .string (⟨#[]⟩ : ByteArray), .int .i64 0]) (t := 31) ?hr ?_; (case hd => rfl); (case hg => rfl); (case hr => first | (go_simp; done) | (go_simp; rfl)); intro gb0 hg w3 hbox hb; have n0_ := Aside0.mk (Ag Ya_ hb); have n1_ := Aside0.mk (hbox); have n2_ := Aside0.mk ((by rw [hg]; exact (Ah Ya_) : w.heap.size ≤ gb0)); have n3_ := Aside0.mk ((by rw [hg]; exact (Ah Ya_) : w.heap.size ≤ gb0)); clear HB; have HB := n0_; have BK0 := n1_; have GW0 := n2_; have GE0 := n3_; clear n0_ n1_ n2_ n3_; clear hb hbox hg; have hcz4_0 : w3.cell? ⟨gb0, 0, none⟩ = some (.string (⟨#[]⟩ : ByteArray)) := (Ae BK0.out 0).trans rfl; have hcz4_1 : w3.cell? ⟨gb0, 1, none⟩ = some (.string (⟨#[]⟩ : ByteArray)) := (Ae BK0.out 1).trans rfl; have hcz4_2 : w3.cell? ⟨gb0, 2, none⟩ = some (.int .i64 0) := (Ae BK0.out 2).trans rfl; have hfz4_0 := Af BK0.out 0; have hfz4_1 := Af BK0.out 1; have hfz4_2 := Af BK0.out 2))
    refine bodyPost_ret (Gh rfl _ _ gb0 31 #[.string (⟨#[]⟩ : ByteArray), .string (⟨#[]⟩ : ByteArray), .int .i64 0] (0, 0) _ rfl Yeb_ Tryd.underlying31 rfl (by kernel_rfl)) rfl ?_
    exact ⟨by first | rfl | (simp [Ak, Aj] <;> rfl) | (simp [*, Ak, Aj] <;> rfl), by repeat (first | (with_reducible first | exact HB.out | apply below_alloc | apply pw_below_drewN | apply below_drew1 | refine below_set ?_ GE0.out) | exact HB.out)⟩
  · rw [if_neg c2] at H
    have c2b0 : decide (30000 < (a0.size : Int)) = false := decide_eq_false c2
    have c2b1 : decide (30000 < a0.size) = false := decide_eq_false (by omega)
    clear c2
    replace H := Option.bind_eq_some_iff.mp H
    obtain ⟨⟨t211, t212⟩, A50, H⟩ := H
    replace H : (if 0 ≤ t212 then (if t212 ≤ (a0.size : Int) then (some (a0.extract 0 (t212 : Int).toNat, (⟨#[]⟩ : ByteArray), (t211.length : Int), t212, true)) else (none)) else (none)) = some (r1, r2, r3, r4, r5) := H
    have A5 := Aside0.mk A50
    clear A50
    by_cases c6 : 0 ≤ t212
    · rw [if_pos c6] at H
      have c6b0 := eq_true c6
      have c6b1 : decide (0 ≤ t212) = true := decide_eq_true c6
      clear c6
      by_cases c7 : t212 ≤ (a0.size : Int)
      · rw [if_pos c7] at H
        have c7b0 := eq_true c7
        have c7b1 : decide (t212 ≤ (a0.size : Int)) = true := decide_eq_true c7
        clear c7
        simp only [Option.some.injEq, Prod.mk.injEq] at H
        obtain ⟨rfl, rfl, rfl, rfl, rfl⟩ := H
        go_enter Tryd.func17, Tryd.ntmps17
        go_wp2_with (first | ((with_reducible refine Bd (N := 2) rfl ?_); refine Bc ?hg (N := 2) ?hd (cs := #[.string (⟨#[]⟩ : ByteArray), .string (⟨#[]⟩ : ByteArray), .int .i64 0]) (t := 31) ?hr ?_; (case hd => rfl); (case hg => rfl); (case hr => first | (go_simp; done) | (go_simp; rfl)); intro gb0 hg w8 hbox hb; have n0_ := Aside0.mk (Ag Ya_ hb); have n1_ := Aside0.mk (hbox); have n2_ := Aside0.mk ((by rw [hg]; exact (Ah Ya_) : w.heap.size ≤ gb0)); have n3_ := Aside0.mk ((by rw [hg]; exact (Ah Ya_) : w.heap.size ≤ gb0)); clear HB; have HB := n0_; have BK0 := n1_; have GW0 := n2_; have GE0 := n3_; clear n0_ n1_ n2_ n3_; clear hb hbox hg) | ((with_reducible refine Am (f := 47) rfl ?_); refine Be (some 13) rfl rfl Tryd.func47 (by kernel_rfl) rfl #[.string a0] rfl Yc_ ?_; (with_reducible refine (Bv.calls k a0 t211 t212 _ A5.out).mono ?_); rintro e w9 ⟨v213, rfl, ho0, hb⟩; refine ⟨_, rfl, ?_⟩; have n0_ := Aside0.mk (Kd.En ho0 (Ah Yb_)); have n1_ := Aside0.mk (Ai (g := gb0) (o := .cells #[.string (⟨#[]⟩ : ByteArray), .string (⟨#[]⟩ : ByteArray), .int .i64 0] 31 (0, 0)) Yd_ hb); have n2_ := Aside0.mk (Ag Yb_ hb); clear BK0; clear HB; have HO214 := n0_; have BK0 := n1_; have HB := n2_; clear n0_ n1_ n2_; (try clear hb); (try clear hb2); (try clear hk); (try clear hi); (try clear ho0); obtain ⟨Ao10, co10, eo10⟩ := Kd.Eu HO214.out; subst eo10; have hcz11_0 : w9.cell? ⟨gb0, 0, none⟩ = some (.string (⟨#[]⟩ : ByteArray)) := (Ae BK0.out 0).trans rfl; have hcz11_1 : w9.cell? ⟨gb0, 1, none⟩ = some (.string (⟨#[]⟩ : ByteArray)) := (Ae BK0.out 1).trans rfl; have hcz11_2 : w9.cell? ⟨gb0, 2, none⟩ = some (.int .i64 0) := (Ae BK0.out 2).trans rfl; have hfz11_0 := Af BK0.out 0; have hfz11_1 := Af BK0.out 1; have hfz11_2 := Af BK0.out 2))
        refine bodyPost_ret (Gh rfl _ _ gb0 31 #[.string (a0.extract 0 (t212 : Int).toNat), .string (⟨#[]⟩ : ByteArray), .int .i64 (t211.length : Int)] (0, 0) _ rfl (by (with_reducible repeat (first | refine Aa ?_ _ | refine Ad ?_ | refine Ac ?_ _)); refine Ar (cs := #[.string (a0.extract 0 (t212 : Int).toNat), .string (⟨#[]⟩ : ByteArray), .int .i64 0]) ?_ 2 _ rfl; (with_reducible repeat (first | refine Aa ?_ _ | refine Ad ?_ | refine Ac ?_ _)); refine Ar (cs := #[.string (a0.extract 0 (t212 : Int).toNat), .string (⟨#[]⟩ : ByteArray), .int .i64 0]) ?_ 1 _ rfl; (with_reducible repeat (first | refine Aa ?_ _ | refine Ad ?_ | refine Ac ?_ _)); refine Ar (cs := #[.string (⟨#[]⟩ : ByteArray), .string (⟨#[]⟩ : ByteArray), .int .i64 0]) ?_ 0 _ rfl; (with_reducible repeat (first | refine Aa ?_ _ | refine Ad ?_ | refine Ac ?_ _)); exact BK0.out) Tryd.underlying31 rfl (by kernel_rfl)) rfl ?_
        exact ⟨by first | rfl | (simp [Ak, Aj] <;> rfl) | (simp [*, Ak, Aj] <;> rfl), by repeat (first | (with_reducible first | exact HB.out | apply below_alloc | apply pw_below_drewN | apply below_drew1 | refine below_set ?_ GE0.out) | exact HB.out)⟩
      · rw [if_neg c7] at H
        exact absurd H (by simp)
    · rw [if_neg c6] at H
      exact absurd H (by simp)
end Go.Proofs.YtkpieljmhgfofaaDoor.X

namespace Go.Proofs.YtkpieljmhgfofaaDoor.X
open Go.RowKit Go.Proofs.YtkpieljmhgfofaaDoorW.PrintWords Go.Proofs.YtkpieljmhgfofaaDoorL
/-- How much of a text can be read. -/
noncomputable def upTo (s : ByteArray) : Nat := s.size - (reads 60 0 (B s)).2.length
theorem upTo_int (s : ByteArray) : (s.size : Int) - ((reads 60 0 (B s)).2.length : Int) = (upTo s : Int) ∧ upTo s ≤ s.size := by
  have := (Hw 60 0 (B s)).2
  rw [D7] at this
  unfold upTo; omega
noncomputable def recov (s : ByteArray) : ByteArray × ByteArray × Int × Int × Bool := if s.size > 30000 then (⟨#[]⟩, ⟨#[]⟩, 0, 0, false) else (s.extract 0 (upTo s), ⟨#[]⟩, ((reads 60 0 (B s)).1.length : Int), (upTo s : Int), true)
theorem implRecover_ev (s : ByteArray) (hs : s.size ≤ 1048576) : Ev (fun k => D9.f k s) (recov s) := by
  unfold D9.f recov
  obtain ⟨u1, u2⟩ := upTo_int s
  by_cases c : (s.size : Int) > 30000
  · simp only [if_pos c, if_pos (show s.size > 30000 by omega)]; exact Ev.now _
  · simp only [if_neg c, if_neg (show ¬ s.size > 30000 by omega)]
    refine Ev.bind (implReads_ev s (by omega)) ?_
    simp only [u1, if_pos (show (0 : Int) ≤ (upTo s : Int) by omega), if_pos (show (upTo s : Int) ≤ (s.size : Int) by omega), Int.toNat_natCast]
    exact Ev.now _
end Go.Proofs.YtkpieljmhgfofaaDoor.X

namespace Go.Proofs.YtkpieljmhgfofaaDoor.X
open Go.RowKit Go.Proofs.YtkpieljmhgfofaaDoorW.PrintWords Go.Proofs.YtkpieljmhgfofaaDoorW.PrintLast Go.Proofs.YtkpieljmhgfofaaDoorW.PrintMore
attribute [local go_sem] max2_int min2_int max_two min_two max_three min_three max_four min_four
open Go.Proofs.YtkpieljmhgfofaaDoorG
def Gz.f (s0_0 : List Int) (s0_1 : Int) (s0_2 : Int) (l1 : List Int) : Option (Int × Int × Int) := (spec_l1Cur_pick.f s0_0 s0_1 s0_2 (l1.length : Int)).bind fun bt579 => (if 0 ≤ bt579.1 then (if bt579.1 < (l1.length : Int) then (some (rd l1 bt579.1, bt579.2.1, bt579.2.2)) else (none)) else (none))
set_option maxHeartbeats 8000000 in
set_option maxRecDepth 100000 in
theorem Gz.calls (g : Nat) (s0_0 : List Int) (s0_1 : Int) (s0_2 : Int) (A1 : Option Addr) (c1 : Nat) (l1 : List Int) (r1 : Int) (r2 : Int) (r3 : Int) (w0 w : World) (hI : IsS74 w0 w g s0_0 s0_1 s0_2) (hB : Below w0.heap.size w0 w) (hr1 : Kd.C (Kd.int .i64) w A1 l1.length l1) (hc1 : l1.length ≤ c1) (hf1 : ∀ ad, A1 = some ad → 0 < l1.length → ad.block ≠ g) (h : Gz.f s0_0 s0_1 s0_2 l1 = some (r1, r2, r3)) :
    Calls Tryd.prog 59 #[.pointer (some ⟨g, 0, none⟩), .slice A1 l1.length c1] w fun e w' => e = .returned (.int .i64 r1) ∧ IsS74 w0 w' g s0_0 r2 r3 ∧ Below w0.heap.size w0 w' ∧ KeepBut w w' g none := by
  have HR1 := Aside0.mk hr1
  have HC1 := Aside0.mk hc1
  clear hr1 hc1
  have HI0 := Aside0.mk hI
  have HK := Aside0.mk (KeepBut.refl w g none)
  have HL := Aside0.mk hB.size
  clear hI
  have HW0 := Aside0.mk hB.size
  have HB := Aside0.mk hB
  clear hB
  have H : ((spec_l1Cur_pick.f s0_0 s0_1 s0_2 (l1.length : Int)).bind fun bt579 => (if 0 ≤ bt579.1 then (if bt579.1 < (l1.length : Int) then (some (rd l1 bt579.1, bt579.2.1, bt579.2.2)) else (none)) else (none))) = some (r1, r2, r3) := h
  clear h
  replace H := Option.bind_eq_some_iff.mp H
  obtain ⟨⟨t579, t580, t581⟩, A30, H⟩ := H
  replace H : (if 0 ≤ t579 then (if t579 < (l1.length : Int) then (some (rd l1 t579, t580, t581)) else (none)) else (none)) = some (r1, r2, r3) := H
  have A3 := Aside0.mk A30
  clear A30
  by_cases c4 : 0 ≤ t579
  · rw [if_pos c4] at H
    have c4b0 : decide (0 ≤ t579) = true := decide_eq_true c4
    clear c4
    by_cases c5 : t579 < (l1.length : Int)
    · rw [if_pos c5] at H
      have c5b0 : decide (t579 < (l1.length : Int)) = true := decide_eq_true c5
      clear c5
      simp only [Option.some.injEq, Prod.mk.injEq] at H
      obtain ⟨rfl, rfl, rfl⟩ := H
      go_enter Tryd.func59, Tryd.ntmps59
      go_wp2_with (first | ((with_reducible refine Am (f := 55) rfl ?_); refine Be (some 9) rfl rfl Tryd.func55 (by kernel_rfl) rfl #[.pointer (some ⟨g, 0, none⟩), .int .i64 (l1.length : Int)] rfl Yc_ ?_; (with_reducible refine (spec_l1Cur_pick.calls g s0_0 s0_1 s0_2 (l1.length : Int) t579 t580 t581 w0 _ ?side1 ?side2 A3.out).mono ?_); (case side1 => repeat (first | (with_reducible first | exact HI0.out | apply IsS74.alloc | apply IsS74.drewN | apply IsS74.drew | apply IsS74.set_1 | apply IsS74.set_2) | exact HI0.out)); (case side2 => repeat (first | (with_reducible first | exact HB.out | apply below_alloc | apply pw_below_drewN | apply below_drew1 | refine below_set ?_ (IsS74.ge HI0.out)) | exact HB.out)); rintro e w6 ⟨rfl, hi, hb, hk⟩; refine ⟨_, rfl, ?_⟩; have n0_ := Aside0.mk (KeepBut.trans Yg_ hk (.inl rfl)); have n1_ := Aside0.mk (hb); have n2_ := Aside0.mk (hi); clear HK; clear HB; clear HI0; have HK := n0_; have HB := n1_; have HI0 := n2_; clear n0_ n1_ n2_; (try clear hb); (try clear hb2); (try clear hk); (try clear hi); have p582 : 0 ≤ (t579 : Int) := of_decide_eq_true Yba_; have q582 : t579 < (l1.length : Int) := of_decide_eq_true Yba_; obtain ⟨ad582, e582, hx582_0⟩ := Kd.at_int HR1.out t579 p582 q582; cases e582; replace hx582_0 := keep_cell HK.out hx582_0 (by first | (rw [add_block]; exact hf1 _ rfl (by omega)) | exact hf1 _ rfl (by omega) | exact hf1 ad582 rfl (by omega)); replace p582 := eq_true p582; replace q582 := eq_true q582))
      go_ret
      exact ⟨by first | rfl | (simp [Ak, Aj] <;> rfl) | (simp [*, Ak, Aj] <;> rfl), by repeat (first | (with_reducible first | exact HI0.out | apply IsS74.alloc | apply IsS74.drewN | apply IsS74.drew | apply IsS74.set_1 | apply IsS74.set_2) | exact HI0.out), by repeat (first | (with_reducible first | exact HB.out | apply below_alloc | apply pw_below_drewN | apply below_drew1 | refine below_set ?_ (IsS74.ge HI0.out)) | exact HB.out), by repeat (first | (with_reducible first | exact HK.out | apply KeepBut.set_ | apply keep_drewN | apply keep_drew | apply keep_alloc) | exact HK.out)⟩
    · rw [if_neg c5] at H
      exact absurd H (by simp)
  · rw [if_neg c4] at H
    exact absurd H (by simp)
end Go.Proofs.YtkpieljmhgfofaaDoor.X

namespace Go.Proofs.YtkpieljmhgfofaaDoor.X
open Go.RowKit Go.Proofs.YtkpieljmhgfofaaDoorW.PrintWords Go.Proofs.YtkpieljmhgfofaaDoorL
def okB (l : List Int) : Prop := ∀ y ∈ l, 0 ≤ y ∧ y ≤ 255
theorem okB_of {l : List Int} (h : ∀ y ∈ l, (Lit.int .u8 y).wf = true) : okB l := fun y hy => by have := h y hy; simpa [Lit.wf, IntKind.min, IntKind.max, IntKind.signed, IntKind.bits] using this
theorem bits255 (x : Int) : 0 ≤ Go.bits .and .u64 x 255 ∧ Go.bits .and .u64 x 255 ≤ 255 := by
  have h : (BitVec.ofInt 64 x &&& BitVec.ofInt 64 255).toNat ≤ 255 := by
    rw [BitVec.toNat_and]; exact Nat.le_trans Nat.and_le_right (by decide)
  have e : Go.bits .and .u64 x 255 = IntKind.u64.wrap ((BitVec.ofInt 64 x &&& BitVec.ofInt 64 255).toNat : Int) := rfl
  rw [e]
  generalize (BitVec.ofInt 64 x &&& BitVec.ofInt 64 255).toNat = n at h
  have : IntKind.u64.wrap (n : Int) = (n : Int) := by
    simp only [IntKind.wrap, IntKind.bits, IntKind.signed]
    simp
    omega
  rw [this]; omega
theorem rd_okB {l : List Int} (h : okB l) (p : Int) : 0 ≤ rd l p ∧ rd l p ≤ 255 := by
  unfold rd
  rw [List.getD_eq_getElem?_getD]
  cases e : l[p.toNat]? with
  | none => simp
  | some y => simpa using h y (List.mem_of_getElem? e)
theorem next_ok {l : List Int} (h : okB l) (p s : Int) (h0 : 0 ≤ p) (h1 : p ≤ 1000000000000) : ∃ v s', Ff.f l p s = some (v, p + 1, s') ∧ 0 ≤ v ∧ v ≤ 255 := by
  have hr := rd_okB h p
  have hw : wrap64 (p + 1) = p + 1 := wrap_id (by omega) (by omega)
  have hr2 : wrap64 (rd l p) = rd l p := wrap_id (by omega) (by omega)
  unfold Ff.f
  rw [hw]
  have hb : ∀ x, 0 ≤ wrap64 (Go.bits .and .u64 x 255) ∧ wrap64 (Go.bits .and .u64 x 255) ≤ 255 := fun x => by have := bits255 x; rw [wrap_id (by omega) (by omega)]; exact this
  by_cases a : p < (l.length : Int)
  · rw [if_pos a, if_pos h0]
    by_cases b : p + 1 ≤ (l.length : Int)
    · rw [if_pos b]; exact ⟨_, _, rfl, by omega, by omega⟩
    · omega
  · rw [if_neg a]
    by_cases b : p + 1 ≤ (l.length : Int)
    · omega
    · rw [if_neg b]; exact ⟨_, _, rfl, (hb _).1, (hb _).2⟩
/-- What every draw gives: a value with a property, and a cursor moved on by n at most. -/
def Drawn {α : Type} (o : Option (α × Int × Int)) (p : Int) (n : Int) (q : α → Prop) : Prop := ∃ v p' s', o = some (v, p', s') ∧ q v ∧ p ≤ p' ∧ p' ≤ p + n
theorem pick_ok {l : List Int} (h : okB l) (p s a : Int) (h0 : 0 ≤ p) (h1 : p ≤ 900000000000) (ha : a ≤ 9223372036854775807) : Drawn (spec_l1Cur_pick.f l p s a) p 2 (fun v => 0 ≤ v ∧ (1 ≤ a → v < a) ∧ (a ≤ 1 → v = 0)) := by
  unfold spec_l1Cur_pick.f
  by_cases c : a ≤ 1
  · rw [if_pos c]; exact ⟨0, p, s, rfl, ⟨by omega, by omega, fun _ => rfl⟩, by omega, by omega⟩
  · rw [if_neg c]
    obtain ⟨v, s1, e, v0, v1⟩ := next_ok h p s h0 (by omega)
    rw [e]
    simp only [Option.bind_some]
    by_cases d : a > 200
    · rw [if_pos d]
      obtain ⟨w, s2, e2, w0, w1⟩ := next_ok h (p + 1) s1 (by omega) (by omega)
      rw [e2]
      simp only [Option.bind_some]
      rw [if_neg (by omega), wrap_id (x := v * 256) (by omega) (by omega), wrap_id (x := v * 256 + w) (by omega) (by omega)]
      exact ⟨_, _, _, rfl, ⟨Int.tmod_nonneg _ (by omega), fun _ => Int.tmod_lt_of_pos _ (by omega), fun z => absurd z c⟩, by omega, by omega⟩
    · rw [if_neg d, if_neg (by omega)]
      exact ⟨_, _, _, rfl, ⟨Int.tmod_nonneg _ v0, fun _ => Int.tmod_lt_of_pos _ (by omega), fun z => absurd z c⟩, by omega, by omega⟩
theorem one_ok {l : List Int} (h : okB l) (p s a : Int) (h0 : 0 ≤ p) (h1 : p ≤ 900000000000) (ha : a ≤ 9223372036854775807) : Drawn (Em.f l p s a) p 2 (fun _ => True) := by
  obtain ⟨v, p', s', e, q, b⟩ := pick_ok h p s a h0 h1 ha
  exact ⟨v == 0, p', s', by unfold Em.f; rw [e]; rfl, trivial, b⟩
end Go.Proofs.YtkpieljmhgfofaaDoor.X

namespace Go.Proofs.YtkpieljmhgfofaaDoor.X
open Go.RowKit Go.Proofs.YtkpieljmhgfofaaDoorW.PrintWords Go.Proofs.YtkpieljmhgfofaaDoorW.PrintLast Go.Proofs.YtkpieljmhgfofaaDoorW.PrintMore
attribute [local go_sem] max2_int min2_int max_two min_two max_three min_three max_four min_four
open Go.Proofs.YtkpieljmhgfofaaDoorG
def Ce.j0 : Nat → ByteArray → List Int → Int → Int → Option (ByteArray)
  | 0, _, _, _, _ => none
  | k + 1, x5, x596000, x596001, x596002 => (Em.f x596000 x596001 x596002 40).bind fun bt619 => (if bt619.1 = true then ((spec_l1Cur_pick.f x596000 bt619.2.1 bt619.2.2 2).bind fun bt622 => (if 0 ≤ (wrap64 (30000 + bt622.1)) then (if (wrap64 (30000 + bt622.1) : Int).toNat ≤ 281474976710656 then (some (strOfNums (List.replicate (wrap64 (30000 + bt622.1) : Int).toNat 0))) else (none)) else (none))) else (some x5))
def Ce.f (k : Nat) (l0 : List Int) : Option (ByteArray) := (Bj.f k l0 0 0).bind fun bt596 => (if bt596.1.size + bt596.2.1.size ≤ 9223372036854775807 then ((spec_l1Cur_pick.f l0 bt596.2.2.2.1 bt596.2.2.2.2 4).bind fun bt602 => (if bt602.1 = 0 then ((spec_l1Cur_spoilt.f l0 bt602.2.1 bt602.2.2 (bt596.1 ++ bt596.2.1) (⟨#[35, 64, 10, 48, 49]⟩ : ByteArray)).bind fun bt605 => (Ce.j0 k bt605.1 l0 bt605.2.1 bt605.2.2)) else (if bt602.1 = 1 then ((spec_l1Cur_pick.f l0 bt602.2.1 bt602.2.2 (wrap64 (((bt596.1 ++ bt596.2.1).size : Int) + 1))).bind fun bt608 => (if 0 ≤ bt608.1 then (if bt608.1 ≤ ((bt596.1 ++ bt596.2.1).size : Int) then (Ce.j0 k ((bt596.1 ++ bt596.2.1).extract 0 (bt608.1 : Int).toNat) l0 bt608.2.1 bt608.2.2) else (none)) else (none))) else (if bt602.1 = 2 then ((spec_l1Cur_pick.f l0 bt602.2.1 bt602.2.2 4).bind fun bt611 => ((Dk.f l0 bt611.2.1 bt611.2.2).bind fun bt614 => ((Ci.f k bt611.1 bt614.1 bt614.2.1).bind fun t618 => (if (bt596.1 ++ bt596.2.1).size + t618.size ≤ 9223372036854775807 then (Ce.j0 k ((bt596.1 ++ bt596.2.1) ++ t618) l0 bt614.2.2.1 bt614.2.2.2) else (none))))) else (Ce.j0 k (bt596.1 ++ bt596.2.1) l0 bt602.2.1 bt602.2.2))))) else (none))
theorem Ce.Ej : ∀ k, (∀ y0 y1 y2 y3, LeO (Ce.j0 k y0 y1 y2 y3) (Ce.j0 (k + 1) y0 y1 y2 y3))
  | 0 => fun _ _ _ _ r h => by simp [Ce.j0] at h
  | k + 1 => by
    have ih0 := Ce.Ej k
    · intro y0 y1 y2 y3
      unfold Ce.j0
      repeat' first
      | (with_reducible exact ih0 _ _ _ _)
      | (with_reducible exact Bj.mono _ _ _ _)
      | (with_reducible exact Ci.mono _ _ _ _)
      | (with_reducible exact LeO.refl _)
      | (with_reducible exact LeO.none _)
      | (with_reducible refine LeO.ite ?_ ?_)
      | (with_reducible refine LeO.bind ?_ (fun _ => ?_))
      | exact ih0 _ _ _ _
      | exact Bj.mono _ _ _ _
      | exact Ci.mono _ _ _ _
      | exact LeO.none _
      | refine LeO.ite ?_ ?_
      | refine LeO.bind ?_ (fun _ => ?_)
theorem Ce.mono : ∀ a0 k, LeO (Ce.f k a0) (Ce.f (k + 1) a0) := by
  intro a0 k
  have ih0 := Ce.Ej k
  unfold Ce.f
  repeat' first
      | (with_reducible exact ih0 _ _ _ _)
      | (with_reducible exact Bj.mono _ _ _ _)
      | (with_reducible exact Ci.mono _ _ _ _)
      | (with_reducible exact LeO.refl _)
      | (with_reducible exact LeO.none _)
      | (with_reducible refine LeO.ite ?_ ?_)
      | (with_reducible refine LeO.bind ?_ (fun _ => ?_))
      | exact ih0 _ _ _ _
      | exact Bj.mono _ _ _ _
      | exact Ci.mono _ _ _ _
      | exact LeO.none _
      | refine LeO.ite ?_ ?_
      | refine LeO.bind ?_ (fun _ => ?_)
set_option maxHeartbeats 8000000 in
set_option maxRecDepth 100000 in
theorem Ce.calls (k : Nat) (A0 : Option Addr) (c0 : Nat) (l0 : List Int) (r : ByteArray) (w : World) (hr0 : Kd.C (Kd.int .u8) w A0 l0.length l0) (hc0 : l0.length ≤ c0) (h : Ce.f k l0 = some r) :
    Calls Tryd.prog 40 #[.slice A0 l0.length c0] w fun e w' => e = .returned (.string r) ∧ Below w.heap.size w w' := by
  have hu74 := Tryd.underlying74
  have hu31 := Tryd.underlying31
  have HR0 := Aside0.mk hr0
  have HC0 := Aside0.mk hc0
  clear hr0 hc0
  have HB := Aside0.mk (Below.refl w.heap.size w)
  have H : ((Bj.f k l0 0 0).bind fun bt596 => (if bt596.1.size + bt596.2.1.size ≤ 9223372036854775807 then ((spec_l1Cur_pick.f l0 bt596.2.2.2.1 bt596.2.2.2.2 4).bind fun bt602 => (if bt602.1 = 0 then ((spec_l1Cur_spoilt.f l0 bt602.2.1 bt602.2.2 (bt596.1 ++ bt596.2.1) (⟨#[35, 64, 10, 48, 49]⟩ : ByteArray)).bind fun bt605 => (Ce.j0 k bt605.1 l0 bt605.2.1 bt605.2.2)) else (if bt602.1 = 1 then ((spec_l1Cur_pick.f l0 bt602.2.1 bt602.2.2 (wrap64 (((bt596.1 ++ bt596.2.1).size : Int) + 1))).bind fun bt608 => (if 0 ≤ bt608.1 then (if bt608.1 ≤ ((bt596.1 ++ bt596.2.1).size : Int) then (Ce.j0 k ((bt596.1 ++ bt596.2.1).extract 0 (bt608.1 : Int).toNat) l0 bt608.2.1 bt608.2.2) else (none)) else (none))) else (if bt602.1 = 2 then ((spec_l1Cur_pick.f l0 bt602.2.1 bt602.2.2 4).bind fun bt611 => ((Dk.f l0 bt611.2.1 bt611.2.2).bind fun bt614 => ((Ci.f k bt611.1 bt614.1 bt614.2.1).bind fun t618 => (if (bt596.1 ++ bt596.2.1).size + t618.size ≤ 9223372036854775807 then (Ce.j0 k ((bt596.1 ++ bt596.2.1) ++ t618) l0 bt614.2.2.1 bt614.2.2.2) else (none))))) else (Ce.j0 k (bt596.1 ++ bt596.2.1) l0 bt602.2.1 bt602.2.2))))) else (none))) = some r := h
  clear h
  replace H := Option.bind_eq_some_iff.mp H
  obtain ⟨⟨t596, t597, t598, t599, t600⟩, A20, H⟩ := H
  replace H : (if t596.size + t597.size ≤ 9223372036854775807 then ((spec_l1Cur_pick.f l0 t599 t600 4).bind fun bt602 => (if bt602.1 = 0 then ((spec_l1Cur_spoilt.f l0 bt602.2.1 bt602.2.2 (t596 ++ t597) (⟨#[35, 64, 10, 48, 49]⟩ : ByteArray)).bind fun bt605 => (Ce.j0 k bt605.1 l0 bt605.2.1 bt605.2.2)) else (if bt602.1 = 1 then ((spec_l1Cur_pick.f l0 bt602.2.1 bt602.2.2 (wrap64 (((t596 ++ t597).size : Int) + 1))).bind fun bt608 => (if 0 ≤ bt608.1 then (if bt608.1 ≤ ((t596 ++ t597).size : Int) then (Ce.j0 k ((t596 ++ t597).extract 0 (bt608.1 : Int).toNat) l0 bt608.2.1 bt608.2.2) else (none)) else (none))) else (if bt602.1 = 2 then ((spec_l1Cur_pick.f l0 bt602.2.1 bt602.2.2 4).bind fun bt611 => ((Dk.f l0 bt611.2.1 bt611.2.2).bind fun bt614 => ((Ci.f k bt611.1 bt614.1 bt614.2.1).bind fun t618 => (if (t596 ++ t597).size + t618.size ≤ 9223372036854775807 then (Ce.j0 k ((t596 ++ t597) ++ t618) l0 bt614.2.2.1 bt614.2.2.2) else (none))))) else (Ce.j0 k (t596 ++ t597) l0 bt602.2.1 bt602.2.2))))) else (none)) = some r := H
  have A2 := Aside0.mk A20
  clear A20
  by_cases c3 : t596.size + t597.size ≤ 9223372036854775807
  · rw [if_pos c3] at H
    have c3b0 := eq_true c3
    have c3b1 : decide (t596.size + t597.size ≤ 9223372036854775807) = true := decide_eq_true c3
    try have c3b2 : (9223372036854775807 < t596.size + t597.size) = False := eq_false (Nat.not_lt.2 c3)
    replace H := Option.bind_eq_some_iff.mp H
    obtain ⟨⟨t602, t603, t604⟩, A40, H⟩ := H
    replace H : (if t602 = 0 then ((spec_l1Cur_spoilt.f l0 t603 t604 (t596 ++ t597) (⟨#[35, 64, 10, 48, 49]⟩ : ByteArray)).bind fun bt605 => (Ce.j0 k bt605.1 l0 bt605.2.1 bt605.2.2)) else (if t602 = 1 then ((spec_l1Cur_pick.f l0 t603 t604 (wrap64 (((t596 ++ t597).size : Int) + 1))).bind fun bt608 => (if 0 ≤ bt608.1 then (if bt608.1 ≤ ((t596 ++ t597).size : Int) then (Ce.j0 k ((t596 ++ t597).extract 0 (bt608.1 : Int).toNat) l0 bt608.2.1 bt608.2.2) else (none)) else (none))) else (if t602 = 2 then ((spec_l1Cur_pick.f l0 t603 t604 4).bind fun bt611 => ((Dk.f l0 bt611.2.1 bt611.2.2).bind fun bt614 => ((Ci.f k bt611.1 bt614.1 bt614.2.1).bind fun t618 => (if (t596 ++ t597).size + t618.size ≤ 9223372036854775807 then (Ce.j0 k ((t596 ++ t597) ++ t618) l0 bt614.2.2.1 bt614.2.2.2) else (none))))) else (Ce.j0 k (t596 ++ t597) l0 t603 t604)))) = some r := H
    have A4 := Aside0.mk A40
    clear A40
    have HC5 := Aside0.mk H
    clear H
    go_enter Tryd.func40, Tryd.ntmps40
    go_upto_block 0 with (first | ((with_reducible refine Bd (N := 8) rfl ?_); refine Bc ?hg (N := 8) ?hd (cs := #[.slice A0 l0.length c0, .int .i64 0, .int .u64 0]) (t := 74) ?hr ?_; (case hd => rfl); (case hg => rfl); (case hr => first | (go_simp; done) | (go_simp; rfl)); intro gb0 hg w6 hbox hb; have n0_ := Aside0.mk (Ag Ya_ hb); have n1_ := Aside0.mk ((by rw [hg]; exact (Ah Ya_) : w.heap.size ≤ gb0)); have n2_ := Aside0.mk ((by rw [hg]; exact (Ah Ya_) : w.heap.size ≤ gb0)); have n3_ := Aside0.mk ((⟨_, _, hbox, (by rw [hg]; exact (Ah Ya_)), HR0.out⟩ : IsS74 w w6 gb0 l0 0 0)); clear HB; have HB := n0_; have GW0 := n1_; have GE0 := n2_; have HI595 := n3_; clear n0_ n1_ n2_ n3_; clear hb hbox hg) | ((with_reducible refine Am (f := 60) rfl ?_); refine Be (some 10) rfl rfl Tryd.func60 (by kernel_rfl) rfl #[.pointer (some ⟨gb0, 0, none⟩)] rfl Yc_ ?_; (with_reducible refine (Bj.calls k gb0 l0 0 0 t596 t597 t598 t599 t600 w _ ?side1 ?side2 A2.out).mono ?_); (case side1 => repeat (first | (with_reducible first | exact HI595.out | apply IsS74.alloc | apply IsS74.drewN | apply IsS74.drew | apply IsS74.set_1 | apply IsS74.set_2) | exact HI595.out)); (case side2 => repeat (first | (with_reducible first | exact HB.out | apply below_alloc | apply pw_below_drewN | apply below_drew1 | refine below_set ?_ (IsS74.ge HI595.out)) | exact HB.out)); rintro e w7 ⟨rfl, hi, hb, hk⟩; refine ⟨_, rfl, ?_⟩; have n0_ := Aside0.mk (hb); have n1_ := Aside0.mk (hi); clear HB; clear HI595; have HB := n0_; have HI595 := n1_; clear n0_ n1_; (try clear hb); (try clear hb2); (try clear hk); (try clear hi)) | ((with_reducible refine Bd (N := 4) rfl ?_); refine Bc ?hg (N := 4) ?hd (cs := #[.string (⟨#[]⟩ : ByteArray), .string (⟨#[]⟩ : ByteArray), .int .i64 0]) (t := 31) ?hr ?_; (case hd => rfl); (case hg => rfl); (case hr => first | (go_simp; done) | (go_simp; rfl)); intro gb1 hg w8 hbox hb; have n0_ := Aside0.mk (IsS74.below (by repeat (first | (with_reducible first | exact HI595.out | apply IsS74.alloc | apply IsS74.drewN | apply IsS74.drew | apply IsS74.set_1 | apply IsS74.set_2) | exact HI595.out)) hb); have n1_ := Aside0.mk (Ag Ygh_ hb); have n2_ := Aside0.mk (hbox); have n3_ := Aside0.mk ((by rw [hg]; exact (Ah Ygh_) : w.heap.size ≤ gb1)); have n4_ := Aside0.mk ((by rw [hg]; exact (Ah Ygh_) : w.heap.size ≤ gb1)); have n5_ := Aside0.mk ((by rw [hg]; exact Nat.ne_of_lt (IsS74.lt (show IsS74 w _ gb0 l0 t599 t600 from by repeat (first | (with_reducible first | exact HI595.out | apply IsS74.alloc | apply IsS74.drewN | apply IsS74.drew | apply IsS74.set_1 | apply IsS74.set_2) | exact HI595.out))) : gb0 ≠ gb1)); have n6_ := Aside0.mk ((by rw [hg]; exact Nat.ne_of_gt (IsS74.lt (show IsS74 w _ gb0 l0 t599 t600 from by repeat (first | (with_reducible first | exact HI595.out | apply IsS74.alloc | apply IsS74.drewN | apply IsS74.drew | apply IsS74.set_1 | apply IsS74.set_2) | exact HI595.out))) : gb1 ≠ gb0)); clear HI595; clear HB; have HI595 := n0_; have HB := n1_; have BK1 := n2_; have GW1 := n3_; have GE1 := n4_; have NB0_1 := n5_; have NB1_0 := n6_; clear n0_ n1_ n2_ n3_ n4_ n5_ n6_; clear hb hbox hg; have hnb9 := NB1_0.out; have hnc9 := NB0_1.out; have hcz10_0 : w8.cell? ⟨gb1, 0, none⟩ = some (.string (⟨#[]⟩ : ByteArray)) := (Ae BK1.out 0).trans rfl; have hcz10_1 : w8.cell? ⟨gb1, 1, none⟩ = some (.string (⟨#[]⟩ : ByteArray)) := (Ae BK1.out 1).trans rfl; have hcz10_2 : w8.cell? ⟨gb1, 2, none⟩ = some (.int .i64 0) := (Ae BK1.out 2).trans rfl; have hfz10_0 := Af BK1.out 0; have hfz10_1 := Af BK1.out 1; have hfz10_2 := Af BK1.out 2) | ((with_reducible refine Am (f := 55) rfl ?_); refine Be (some 17) rfl rfl Tryd.func55 (by kernel_rfl) rfl #[.pointer (some ⟨gb0, 0, none⟩), .int .i64 4] rfl Yc_ ?_; (with_reducible refine (spec_l1Cur_pick.calls gb0 l0 t599 t600 4 t602 t603 t604 w _ ?side1 ?side2 A4.out).mono ?_); (case side1 => repeat (first | (with_reducible first | exact HI595.out | apply IsS74.alloc | apply IsS74.drewN | apply IsS74.drew | apply IsS74.set_1 | apply IsS74.set_2 | refine IsS74.far ?_ NB0_1.out _) | exact HI595.out)); (case side2 => repeat (first | (with_reducible first | exact HB.out | apply below_alloc | apply pw_below_drewN | apply below_drew1 | refine below_set ?_ (IsS74.ge HI595.out) | refine below_set ?_ GE1.out) | exact HB.out)); rintro e w11 ⟨rfl, hi, hb, hk⟩; refine ⟨_, rfl, ?_⟩; have n0_ := Aside0.mk (KeepBut.blk hk (g' := gb1) (o := .cells #[.string t596, .string t597, .int .i64 t598] 31 (0, 0)) (by (with_reducible repeat (first | refine Aa ?_ _ | refine Ad ?_ | refine Ac ?_ _)); refine Ar (cs := #[.string t596, .string t597, .int .i64 0]) ?_ 2 _ rfl; (with_reducible repeat (first | refine Aa ?_ _ | refine Ad ?_ | refine Ac ?_ _)); refine Ar (cs := #[.string t596, .string (⟨#[]⟩ : ByteArray), .int .i64 0]) ?_ 1 _ rfl; (with_reducible repeat (first | refine Aa ?_ _ | refine Ad ?_ | refine Ac ?_ _)); refine Ar (cs := #[.string (⟨#[]⟩ : ByteArray), .string (⟨#[]⟩ : ByteArray), .int .i64 0]) ?_ 0 _ rfl; (with_reducible repeat (first | refine Aa ?_ _ | refine Ad ?_ | refine Ac ?_ _)); exact BK1.out) NB1_0.out (by simp)); have n1_ := Aside0.mk (hb); have n2_ := Aside0.mk (hi); clear BK1; clear HB; clear HI595; have BK1 := n0_; have HB := n1_; have HI595 := n2_; clear n0_ n1_ n2_; (try clear hb); (try clear hb2); (try clear hk); (try clear hi)))
    (try simp only [Act.put, List.setIfInBounds_toArray, List.set_cons_zero, List.set_cons_succ])
    generalize hys0 : t596 ++ t597 = ys0 at HC5 ⊢
    have Nys0 := Aside0.mk hys0
    clear hys0
    go_cut [5] (fun v5 wc => ∃ (kq : Nat) (x5_4 : ByteArray) (x596001_4 : Int) (x596002_4 : Int), v5 = .string x5_4 ∧ Aside0 (Ce.j0 kq x5_4 l0 x596001_4 x596002_4 = some r) ∧ Aside0 (kq ≤ k) ∧ Aside0 (wc.heap[gb1]? = some (.cells #[.string t596, .string t597, .int .i64 t598] 31 (0, 0))) ∧ Aside0 (IsS74 w wc gb0 l0 x596001_4 x596002_4) ∧ Aside0 (Below w.heap.size w wc))
    case first =>
      have H := HC5.out
      clear HC5
      by_cases c12 : t602 = 0
      · rw [if_pos c12] at H
        have c12b0 : (t602 == 0) = true := beq_iff_eq.mpr c12
        have c12b1 : (t602 != 0) = false := bne_eq_false_iff_eq.mpr c12
        clear c12
        (first | rw [c12b0] | (simp only [Aw, Az]; rw [c12b0]) | skip)
        replace H := Option.bind_eq_some_iff.mp H
        obtain ⟨⟨t605, t606, t607⟩, A130, H⟩ := H
        replace H : (Ce.j0 k t605 l0 t606 t607) = some r := H
        have A13 := Aside0.mk A130
        clear A130
        have H' := Aside0.mk H
        clear H
        go_wp2_with (first | ((with_reducible refine Am (f := 61) rfl ?_); refine Be (some 22) rfl rfl Tryd.func61 (by kernel_rfl) rfl #[.pointer (some ⟨gb0, 0, none⟩), .string ys0, .string (⟨#[35, 64, 10, 48, 49]⟩ : ByteArray)] rfl Yc_ ?_; (with_reducible refine (spec_l1Cur_spoilt.calls gb0 l0 t603 t604 ys0 (⟨#[35, 64, 10, 48, 49]⟩ : ByteArray) t605 t606 t607 w _ ?side1 ?side2 A13.out).mono ?_); (case side1 => repeat (first | (with_reducible first | exact HI595.out | apply IsS74.alloc | apply IsS74.drewN | apply IsS74.drew | apply IsS74.set_1 | apply IsS74.set_2 | refine IsS74.far ?_ NB0_1.out _) | exact HI595.out)); (case side2 => repeat (first | (with_reducible first | exact HB.out | apply below_alloc | apply pw_below_drewN | apply below_drew1 | refine below_set ?_ (IsS74.ge HI595.out) | refine below_set ?_ GE1.out) | exact HB.out)); rintro e w14 ⟨rfl, hi, hb, hk⟩; refine ⟨_, rfl, ?_⟩; have n0_ := Aside0.mk (KeepBut.blk hk (g' := gb1) (o := .cells #[.string t596, .string t597, .int .i64 t598] 31 (0, 0)) Ye_ NB1_0.out (by simp)); have n1_ := Aside0.mk (hb); have n2_ := Aside0.mk (hi); clear BK1; clear HB; clear HI595; have BK1 := n0_; have HB := n1_; have HI595 := n2_; clear n0_ n1_ n2_; (try clear hb); (try clear hb2); (try clear hk); (try clear hi)))
        go_meet
        case rel => exact ⟨_, (t605), (t606), (t607), Ybe_, H', ⟨by first | omega | exact Nat.le_refl _⟩, ⟨by (with_reducible repeat (first | refine Aa ?_ _ | refine Ad ?_ | refine Ac ?_ _)); exact BK1.out⟩, ⟨by repeat (first | (with_reducible first | exact HI595.out | apply IsS74.alloc | apply IsS74.drewN | apply IsS74.drew | apply IsS74.set_1 | apply IsS74.set_2 | refine IsS74.far ?_ NB0_1.out _) | exact HI595.out)⟩, ⟨by repeat (first | (with_reducible first | exact HB.out | apply below_alloc | apply pw_below_drewN | apply below_drew1 | refine below_set ?_ (IsS74.ge HI595.out) | refine below_set ?_ GE1.out) | exact HB.out)⟩⟩
      · rw [if_neg c12] at H
        have c12b0 : (t602 == 0) = false := beq_eq_false_iff_ne.mpr c12
        have c12b1 : (t602 != 0) = true := bne_iff_ne.mpr c12
        (first | rw [c12b0] | (simp only [Aw, Az]; rw [c12b0]) | skip)
        by_cases c15 : t602 = 1
        · rw [if_pos c15] at H
          have c15b0 : (t602 == 1) = true := beq_iff_eq.mpr c15
          have c15b1 : (t602 != 1) = false := bne_eq_false_iff_eq.mpr c15
          clear c15
          replace H := Option.bind_eq_some_iff.mp H
          obtain ⟨⟨t608, t609, t610⟩, A160, H⟩ := H
          replace H : (if 0 ≤ t608 then (if t608 ≤ (ys0.size : Int) then (Ce.j0 k (ys0.extract 0 (t608 : Int).toNat) l0 t609 t610) else (none)) else (none)) = some r := H
          have A16 := Aside0.mk A160
          clear A160
          by_cases c17 : 0 ≤ t608
          · rw [if_pos c17] at H
            have c17b0 := eq_true c17
            have c17b1 : decide (0 ≤ t608) = true := decide_eq_true c17
            clear c17
            by_cases c18 : t608 ≤ (ys0.size : Int)
            · rw [if_pos c18] at H
              have c18b0 := eq_true c18
              have c18b1 : decide (t608 ≤ (ys0.size : Int)) = true := decide_eq_true c18
              have H' := Aside0.mk H
              clear H
              go_wp2_with (first | ((with_reducible refine Am (f := 55) rfl ?_); refine Be (some 30) rfl rfl Tryd.func55 (by kernel_rfl) rfl #[.pointer (some ⟨gb0, 0, none⟩), .int .i64 (wrap64 ((ys0.size : Int) + 1))] rfl Yc_ ?_; (with_reducible refine (spec_l1Cur_pick.calls gb0 l0 t603 t604 (wrap64 ((ys0.size : Int) + 1)) t608 t609 t610 w _ ?side1 ?side2 A16.out).mono ?_); (case side1 => repeat (first | (with_reducible first | exact HI595.out | apply IsS74.alloc | apply IsS74.drewN | apply IsS74.drew | apply IsS74.set_1 | apply IsS74.set_2 | refine IsS74.far ?_ NB0_1.out _) | exact HI595.out)); (case side2 => repeat (first | (with_reducible first | exact HB.out | apply below_alloc | apply pw_below_drewN | apply below_drew1 | refine below_set ?_ (IsS74.ge HI595.out) | refine below_set ?_ GE1.out) | exact HB.out)); rintro e w19 ⟨rfl, hi, hb, hk⟩; refine ⟨_, rfl, ?_⟩; have n0_ := Aside0.mk (KeepBut.blk hk (g' := gb1) (o := .cells #[.string t596, .string t597, .int .i64 t598] 31 (0, 0)) Ye_ NB1_0.out (by simp)); have n1_ := Aside0.mk (hb); have n2_ := Aside0.mk (hi); clear BK1; clear HB; clear HI595; have BK1 := n0_; have HB := n1_; have HI595 := n2_; clear n0_ n1_ n2_; (try clear hb); (try clear hb2); (try clear hk); (try clear hi)))
              go_meet
              case rel => exact ⟨_, (ys0.extract 0 (t608 : Int).toNat), (t609), (t610), Ybe_, H', ⟨by first | omega | exact Nat.le_refl _⟩, ⟨by (with_reducible repeat (first | refine Aa ?_ _ | refine Ad ?_ | refine Ac ?_ _)); exact BK1.out⟩, ⟨by repeat (first | (with_reducible first | exact HI595.out | apply IsS74.alloc | apply IsS74.drewN | apply IsS74.drew | apply IsS74.set_1 | apply IsS74.set_2 | refine IsS74.far ?_ NB0_1.out _) | exact HI595.out)⟩, ⟨by repeat (first | (with_reducible first | exact HB.out | apply below_alloc | apply pw_below_drewN | apply below_drew1 | refine below_set ?_ (IsS74.ge HI595.out) | refine below_set ?_ GE1.out) | exact HB.out)⟩⟩
            · rw [if_neg c18] at H
              exact absurd H (by simp)
          · rw [if_neg c17] at H
            exact absurd H (by simp)
        · rw [if_neg c15] at H
          have c15b0 : (t602 == 1) = false := beq_eq_false_iff_ne.mpr c15
          have c15b1 : (t602 != 1) = true := bne_iff_ne.mpr c15
          by_cases c20 : t602 = 2
          · rw [if_pos c20] at H
            have c20b0 : (t602 == 2) = true := beq_iff_eq.mpr c20
            have c20b1 : (t602 != 2) = false := bne_eq_false_iff_eq.mpr c20
            clear c20
            replace H := Option.bind_eq_some_iff.mp H
            obtain ⟨⟨t611, t612, t613⟩, A210, H⟩ := H
            replace H : ((Dk.f l0 t612 t613).bind fun bt614 => ((Ci.f k t611 bt614.1 bt614.2.1).bind fun t618 => (if ys0.size + t618.size ≤ 9223372036854775807 then (Ce.j0 k (ys0 ++ t618) l0 bt614.2.2.1 bt614.2.2.2) else (none)))) = some r := H
            have A21 := Aside0.mk A210
            clear A210
            replace H := Option.bind_eq_some_iff.mp H
            obtain ⟨⟨t614, t615, t616, t617⟩, A220, H⟩ := H
            replace H : ((Ci.f k t611 t614 t615).bind fun t618 => (if ys0.size + t618.size ≤ 9223372036854775807 then (Ce.j0 k (ys0 ++ t618) l0 t616 t617) else (none))) = some r := H
            have A22 := Aside0.mk A220
            clear A220
            replace H := Option.bind_eq_some_iff.mp H
            obtain ⟨t618, A230, H⟩ := H
            replace H : (if ys0.size + t618.size ≤ 9223372036854775807 then (Ce.j0 k (ys0 ++ t618) l0 t616 t617) else (none)) = some r := H
            have A23 := Aside0.mk A230
            clear A230
            by_cases c24 : ys0.size + t618.size ≤ 9223372036854775807
            · rw [if_pos c24] at H
              have c24b0 := eq_true c24
              have c24b1 : decide (ys0.size + t618.size ≤ 9223372036854775807) = true := decide_eq_true c24
              try have c24b2 : (9223372036854775807 < ys0.size + t618.size) = False := eq_false (Nat.not_lt.2 c24)
              have c24b3 := c24
              try simp only [ByteArray.size_extract, ByteArray.size_append] at c24b3
              have c24b4 := eq_false (Nat.not_lt.2 c24b3)
              have H' := Aside0.mk H
              clear H
              go_wp2_with (first | ((with_reducible refine Am (f := 55) rfl ?_); refine Be (some 36) rfl rfl Tryd.func55 (by kernel_rfl) rfl #[.pointer (some ⟨gb0, 0, none⟩), .int .i64 4] rfl Yc_ ?_; (with_reducible refine (spec_l1Cur_pick.calls gb0 l0 t603 t604 4 t611 t612 t613 w _ ?side1 ?side2 A21.out).mono ?_); (case side1 => repeat (first | (with_reducible first | exact HI595.out | apply IsS74.alloc | apply IsS74.drewN | apply IsS74.drew | apply IsS74.set_1 | apply IsS74.set_2 | refine IsS74.far ?_ NB0_1.out _) | exact HI595.out)); (case side2 => repeat (first | (with_reducible first | exact HB.out | apply below_alloc | apply pw_below_drewN | apply below_drew1 | refine below_set ?_ (IsS74.ge HI595.out) | refine below_set ?_ GE1.out) | exact HB.out)); rintro e w25 ⟨rfl, hi, hb, hk⟩; refine ⟨_, rfl, ?_⟩; have n0_ := Aside0.mk (KeepBut.blk hk (g' := gb1) (o := .cells #[.string t596, .string t597, .int .i64 t598] 31 (0, 0)) Ye_ NB1_0.out (by simp)); have n1_ := Aside0.mk (hb); have n2_ := Aside0.mk (hi); clear BK1; clear HB; clear HI595; have BK1 := n0_; have HB := n1_; have HI595 := n2_; clear n0_ n1_ n2_; (try clear hb); (try clear hb2); (try clear hk); (try clear hi)) | ((with_reducible refine Am (f := 56) rfl ?_); refine Be (some 38) rfl rfl Tryd.func56 (by kernel_rfl) rfl #[.pointer (some ⟨gb0, 0, none⟩)] rfl Yc_ ?_; (with_reducible refine (Dk.calls gb0 l0 t612 t613 t614 t615 t616 t617 w _ ?side1 ?side2 A22.out).mono ?_); (case side1 => repeat (first | (with_reducible first | exact HI595.out | apply IsS74.alloc | apply IsS74.drewN | apply IsS74.drew | apply IsS74.set_1 | apply IsS74.set_2 | refine IsS74.far ?_ NB0_1.out _) | exact HI595.out)); (case side2 => repeat (first | (with_reducible first | exact HB.out | apply below_alloc | apply pw_below_drewN | apply below_drew1 | refine below_set ?_ (IsS74.ge HI595.out) | refine below_set ?_ GE1.out) | exact HB.out)); rintro e w26 ⟨rfl, hi, hb, hk⟩; refine ⟨_, rfl, ?_⟩; have n0_ := Aside0.mk (KeepBut.blk hk (g' := gb1) (o := .cells #[.string t596, .string t597, .int .i64 t598] 31 (0, 0)) Ye_ NB1_0.out (by simp)); have n1_ := Aside0.mk (hb); have n2_ := Aside0.mk (hi); clear BK1; clear HB; clear HI595; have BK1 := n0_; have HB := n1_; have HI595 := n2_; clear n0_ n1_ n2_; (try clear hb); (try clear hb2); (try clear hk); (try clear hi)) | ((with_reducible refine Am (f := 44) rfl ?_); refine Be (some 39) rfl rfl Tryd.func44 (by kernel_rfl) rfl #[.int .i64 t611, .agg #[.string t614, .string t615]] rfl Yc_ ?_; (with_reducible refine (Ci.calls k t611 t614 t615 t618 _ A23.out).mono ?_); rintro e w27 ⟨rfl, hb⟩; refine ⟨_, rfl, ?_⟩; have n0_ := Aside0.mk (IsS74.below Yhe_ hb); have n1_ := Aside0.mk (Ai (g := gb1) (o := .cells #[.string t596, .string t597, .int .i64 t598] 31 (0, 0)) Ye_ hb); have n2_ := Aside0.mk (Ag Ygb_ hb); clear HI595; clear BK1; clear HB; have HI595 := n0_; have BK1 := n1_; have HB := n2_; clear n0_ n1_ n2_; (try clear hb); (try clear hb2); (try clear hk); (try clear hi)))
              go_meet
              case rel => exact ⟨_, (ys0 ++ t618), (t616), (t617), Ybe_, H', ⟨by first | omega | exact Nat.le_refl _⟩, ⟨by (with_reducible repeat (first | refine Aa ?_ _ | refine Ad ?_ | refine Ac ?_ _)); exact BK1.out⟩, ⟨by repeat (first | (with_reducible first | exact HI595.out | apply IsS74.alloc | apply IsS74.drewN | apply IsS74.drew | apply IsS74.set_1 | apply IsS74.set_2 | refine IsS74.far ?_ NB0_1.out _) | exact HI595.out)⟩, ⟨by repeat (first | (with_reducible first | exact HB.out | apply below_alloc | apply pw_below_drewN | apply below_drew1 | refine below_set ?_ (IsS74.ge HI595.out) | refine below_set ?_ GE1.out) | exact HB.out)⟩⟩
            · rw [if_neg c24] at H
              exact absurd H (by simp)
          · rw [if_neg c20] at H
            have c20b0 : (t602 == 2) = false := beq_eq_false_iff_ne.mpr c20
            have c20b1 : (t602 != 2) = true := bne_iff_ne.mpr c20
            have H' := Aside0.mk H
            clear H
            go_wp2
            go_meet
            case rel => exact ⟨_, ys0, (t603), (t604), Ybe_, H', ⟨by first | omega | exact Nat.le_refl _⟩, ⟨by (with_reducible repeat (first | refine Aa ?_ _ | refine Ad ?_ | refine Ac ?_ _)); exact BK1.out⟩, ⟨by repeat (first | (with_reducible first | exact HI595.out | apply IsS74.alloc | apply IsS74.drewN | apply IsS74.drew | apply IsS74.set_1 | apply IsS74.set_2 | refine IsS74.far ?_ NB0_1.out _) | exact HI595.out)⟩, ⟨by repeat (first | (with_reducible first | exact HB.out | apply below_alloc | apply pw_below_drewN | apply below_drew1 | refine below_set ?_ (IsS74.ge HI595.out) | refine below_set ?_ GE1.out) | exact HB.out)⟩⟩
    case rest =>
      clear HC5
      try clear c1
      try clear c2
      try clear p2
      try clear c3
      try clear c3b0
      try clear c3b1
      try clear c3b2
      try clear c4
      try clear c5
      try clear c6
      try clear p6
      try clear c9
      try clear c12
      try clear c12b0
      try clear c12b1
      try clear c15
      try clear c15b0
      try clear c15b1
      try clear c17
      try clear c17b0
      try clear c17b1
      try clear c18
      try clear c18b0
      try clear c18b1
      try clear c20
      try clear c20b0
      try clear c20b1
      try clear c24
      try clear c24b0
      try clear c24b1
      try clear c24b2
      try clear hcz10_0
      try clear hcz10_1
      try clear hcz10_2
      try clear hfz10_0
      try clear hfz10_1
      try clear hfz10_2
      obtain ⟨kq, x5_4, x596001_4, x596002_4, rfl, HA, HJ4, BK1, HI595, HB⟩ := hcut
      cases kq with
      | zero => exact absurd HA.out (by simp [Ce.j0])
      | succ kj4 =>
        have H := HA.out
        clear HA
        simp only [Ce.j0] at H
        replace H := Option.bind_eq_some_iff.mp H
        obtain ⟨⟨t619, t620, t621⟩, A280, H⟩ := H
        replace H : (if t619 = true then ((spec_l1Cur_pick.f l0 t620 t621 2).bind fun bt622 => (if 0 ≤ (wrap64 (30000 + bt622.1)) then (if (wrap64 (30000 + bt622.1) : Int).toNat ≤ 281474976710656 then (some (strOfNums (List.replicate (wrap64 (30000 + bt622.1) : Int).toNat 0))) else (none)) else (none))) else (some x5_4)) = some r := H
        have A28 := Aside0.mk A280
        clear A280
        by_cases c29 : t619 = true
        · subst c29
          have H1 : ((spec_l1Cur_pick.f l0 t620 t621 2).bind fun bt622 => (if 0 ≤ (wrap64 (30000 + bt622.1)) then (if (wrap64 (30000 + bt622.1) : Int).toNat ≤ 281474976710656 then (some (strOfNums (List.replicate (wrap64 (30000 + bt622.1) : Int).toNat 0))) else (none)) else (none))) = some r := by rw [if_pos rfl] at H; exact H
          clear H
          have H := H1
          clear H1
          replace H := Option.bind_eq_some_iff.mp H
          obtain ⟨⟨t622, t623, t624⟩, A300, H⟩ := H
          replace H : (if 0 ≤ (wrap64 (30000 + t622)) then (if (wrap64 (30000 + t622) : Int).toNat ≤ 281474976710656 then (some (strOfNums (List.replicate (wrap64 (30000 + t622) : Int).toNat 0))) else (none)) else (none)) = some r := H
          have A30 := Aside0.mk A300
          clear A300
          obtain ⟨ji31, hji31⟩ : ∃ j_ : Int, (wrap64 (30000 + t622)) = j_ := ⟨_, rfl⟩
          replace H : (if 0 ≤ (ji31) then (if (ji31 : Int).toNat ≤ 281474976710656 then (some (strOfNums (List.replicate (ji31 : Int).toNat 0))) else (none)) else (none)) = some r := by first | (rw [hji31] at H; exact H) | (simp only [hji31] at H ⊢; exact H)
          (try rw [hji31] at A28)
          (try rw [hji31] at A30)
          have hji31w : (IntKind.i64.wrap (30000 + t622)) = ji31 := (Aw _).trans hji31
          by_cases c32 : 0 ≤ (ji31)
          · rw [if_pos c32] at H
            have c32b0 := eq_true c32
            have c32b1 : decide (0 ≤ (ji31)) = true := decide_eq_true c32
            clear c32
            by_cases c33 : (ji31 : Int).toNat ≤ 281474976710656
            · rw [if_pos c33] at H
              have c33b0 := eq_true c33
              have c33b1 : decide ((ji31 : Int).toNat ≤ 281474976710656) = true := decide_eq_true c33
              clear c33
              obtain ⟨y625, hy625⟩ : ∃ y_ : List Int, y_ = (List.replicate (ji31 : Int).toNat 0) := ⟨_, rfl⟩
              replace H : (some (strOfNums y625)) = some r := by first | (rw [hy625]; with_reducible exact H) | (have H2_ := (Option.bind_some _ _).symm.trans H; rw [hy625]; with_reducible exact H2_) | (have H2_ := (Option.bind_some _ _).symm.trans H; with_reducible exact H2_) | with_reducible exact H | (rw [hy625]; exact H) | exact H
              have Ny625 := Aside0.mk hy625
              clear hy625
              obtain rfl := Option.some.inj H
              go_wp2_with (first | ((with_reducible refine Am (f := 54) rfl ?_); refine Be (some 42) rfl rfl Tryd.func54 (by kernel_rfl) rfl #[.pointer (some ⟨gb0, 0, none⟩), .int .i64 40] rfl Yc_ ?_; (with_reducible refine (Em.calls gb0 l0 x596001_4 x596002_4 40 true t620 t621 w _ ?side1 ?side2 A28.out).mono ?_); (case side1 => repeat (first | (with_reducible first | exact HI595.out | apply IsS74.alloc | apply IsS74.drewN | apply IsS74.drew | apply IsS74.set_1 | apply IsS74.set_2 | refine IsS74.far ?_ NB0_1.out _) | exact HI595.out)); (case side2 => repeat (first | (with_reducible first | exact HB.out | apply below_alloc | apply pw_below_drewN | apply below_drew1 | refine below_set ?_ (IsS74.ge HI595.out) | refine below_set ?_ GE1.out) | exact HB.out)); rintro e w34 ⟨rfl, hi, hb, hk⟩; refine ⟨_, rfl, ?_⟩; have n0_ := Aside0.mk (KeepBut.blk hk (g' := gb1) (o := .cells #[.string t596, .string t597, .int .i64 t598] 31 (0, 0)) Ye_ NB1_0.out (by simp)); have n1_ := Aside0.mk (hb); have n2_ := Aside0.mk (hi); clear BK1; clear HB; clear HI595; have BK1 := n0_; have HB := n1_; have HI595 := n2_; clear n0_ n1_ n2_; (try clear hb); (try clear hb2); (try clear hk); (try clear hi)) | ((with_reducible refine Am (f := 55) rfl ?_); refine Be (some 44) rfl rfl Tryd.func55 (by kernel_rfl) rfl #[.pointer (some ⟨gb0, 0, none⟩), .int .i64 2] rfl Yc_ ?_; (with_reducible refine (spec_l1Cur_pick.calls gb0 l0 t620 t621 2 t622 t623 t624 w _ ?side1 ?side2 A30.out).mono ?_); (case side1 => repeat (first | (with_reducible first | exact HI595.out | apply IsS74.alloc | apply IsS74.drewN | apply IsS74.drew | apply IsS74.set_1 | apply IsS74.set_2 | refine IsS74.far ?_ NB0_1.out _) | exact HI595.out)); (case side2 => repeat (first | (with_reducible first | exact HB.out | apply below_alloc | apply pw_below_drewN | apply below_drew1 | refine below_set ?_ (IsS74.ge HI595.out) | refine below_set ?_ GE1.out) | exact HB.out)); rintro e w35 ⟨rfl, hi, hb, hk⟩; refine ⟨_, rfl, ?_⟩; have n0_ := Aside0.mk (KeepBut.blk hk (g' := gb1) (o := .cells #[.string t596, .string t597, .int .i64 t598] 31 (0, 0)) Ye_ NB1_0.out (by simp)); have n1_ := Aside0.mk (hb); have n2_ := Aside0.mk (hi); clear BK1; clear HB; clear HI595; have BK1 := n0_; have HB := n1_; have HI595 := n2_; clear n0_ n1_ n2_; (try clear hb); (try clear hb2); (try clear hk); (try clear hi)) | ((with_reducible refine Bd (N := 46) rfl ?_); refine Kd.R_make (Kd.int .u8) _ 5 rfl (N := 46) rfl 53 _ _ rfl ji31 rfl rfl Tryd.underlying53 (.int .u8 0) 1 info5 rfl (by decide) (by omega) 0 (ok := fun _ => True) (okp := fun _ => True) rfl (fun _ hk => hk) trivial (of_decide_eq_true Yba_) (Nat.le_trans (Nat.mul_le_mul_right _ (of_decide_eq_true Yba_ : ji31.toNat ≤ 281474976710656)) (by omega)) (Below.refl _ _) (Nat.le_refl _) ?_; intro v626 w36 ho37 hb hg_ hnew_; clear hg_ hnew_; (first | rw [← Ny625.out] at ho37 | (simp only [Int.reduceToNat] at ho37; rw [← Ny625.out] at ho37)); have n0_ := Aside0.mk (Kd.En ho37 (Ah Ygb_)); have n1_ := Aside0.mk (Ai (g := gb1) (o := .cells #[.string t596, .string t597, .int .i64 t598] 31 (0, 0)) Ye_ hb); have n2_ := Aside0.mk (IsS74.below Yhe_ hb); have n3_ := Aside0.mk (Ag Ygb_ hb); clear BK1; clear HI595; clear HB; have HO627 := n0_; have BK1 := n1_; have HI595 := n2_; have HB := n3_; clear n0_ n1_ n2_ n3_; clear hb ho37; have hcv38 := own_string (P := Tryd.prog) Tryd.underlying53 Tryd.underlying5 Tryd.underlying9 (Kd.own_of_R HO627.out)))
              go_ret
              exact ⟨by first | rfl | (simp [Ak, Aj] <;> rfl) | (simp only [← hji31]; first | rfl | (simp [Ak, Aj] <;> rfl)) | (simp [*, Ak, Aj] <;> rfl), by repeat (first | (with_reducible first | exact HB.out | apply below_alloc | apply pw_below_drewN | apply below_drew1 | refine below_set ?_ (IsS74.ge HI595.out) | refine below_set ?_ GE1.out) | exact HB.out)⟩
            · rw [if_neg c33] at H
              exact absurd H (by simp)
          · rw [if_neg c32] at H
            exact absurd H (by simp)
        · replace c29 := Bool.eq_false_iff.mpr c29
          subst c29
          have H1 : (some x5_4) = some r := by rw [if_neg (show ¬ (false = true) by decide)] at H; exact H
          clear H
          have H := H1
          clear H1
          obtain rfl := Option.some.inj H
          go_wp2_with (first | ((with_reducible refine Am (f := 54) rfl ?_); refine Be (some 42) rfl rfl Tryd.func54 (by kernel_rfl) rfl #[.pointer (some ⟨gb0, 0, none⟩), .int .i64 40] rfl Yc_ ?_; (with_reducible refine (Em.calls gb0 l0 x596001_4 x596002_4 40 false t620 t621 w _ ?side1 ?side2 A28.out).mono ?_); (case side1 => repeat (first | (with_reducible first | exact HI595.out | apply IsS74.alloc | apply IsS74.drewN | apply IsS74.drew | apply IsS74.set_1 | apply IsS74.set_2 | refine IsS74.far ?_ NB0_1.out _) | exact HI595.out)); (case side2 => repeat (first | (with_reducible first | exact HB.out | apply below_alloc | apply pw_below_drewN | apply below_drew1 | refine below_set ?_ (IsS74.ge HI595.out) | refine below_set ?_ GE1.out) | exact HB.out)); rintro e w39 ⟨rfl, hi, hb, hk⟩; refine ⟨_, rfl, ?_⟩; have n0_ := Aside0.mk (KeepBut.blk hk (g' := gb1) (o := .cells #[.string t596, .string t597, .int .i64 t598] 31 (0, 0)) Ye_ NB1_0.out (by simp)); have n1_ := Aside0.mk (hb); have n2_ := Aside0.mk (hi); clear BK1; clear HB; clear HI595; have BK1 := n0_; have HB := n1_; have HI595 := n2_; clear n0_ n1_ n2_; (try clear hb); (try clear hb2); (try clear hk); (try clear hi)))
          go_ret
          exact ⟨by first | rfl | (simp [Ak, Aj] <;> rfl) | (simp [*, Ak, Aj] <;> rfl), by repeat (first | (with_reducible first | exact HB.out | apply below_alloc | apply pw_below_drewN | apply below_drew1 | refine below_set ?_ (IsS74.ge HI595.out) | refine below_set ?_ GE1.out) | exact HB.out)⟩
  · rw [if_neg c3] at H
    exact absurd H (by simp)
end Go.Proofs.YtkpieljmhgfofaaDoor.X

namespace Go.Proofs.YtkpieljmhgfofaaDoor.X
open Go.RowKit Go.Proofs.YtkpieljmhgfofaaDoorW.PrintWords Go.Proofs.YtkpieljmhgfofaaDoorL
theorem of_ok {l : List Int} (h : okB l) (p s : Int) (x : List ByteArray) (h0 : 0 ≤ p) (h1 : p ≤ 900000000000) (hx : 1 ≤ x.length) (hx2 : x.length ≤ 1000) : Drawn (Dp.f l p s x) p 2 (fun v => v ∈ x) := by
  obtain ⟨v, p', s', e, q, b⟩ := pick_ok h p s x.length h0 h1 (by omega)
  have hlt := q.2.1 (by omega)
  have hv : v.toNat < x.length := by omega
  refine ⟨Cc ByteArray.empty x v, p', s', ?_, ?_, b⟩
  · unfold Dp.f; rw [e]; simp only [Option.bind_some]; rw [if_pos q.1, if_pos hlt]
  · simp only [Cc, List.getD_eq_getElem?_getD, List.getElem?_eq_getElem hv, Option.getD_some]; exact List.getElem_mem _
theorem logRecord_ok {l : List Int} (h : okB l) (p s : Int) (h0 : 0 ≤ p) (h1 : p ≤ 800000000000) : ∃ q r p' s', Dk.f l p s = some (q, r, p', s') ∧ q.size ≤ 20 ∧ r.size ≤ 20 ∧ p ≤ p' ∧ p' ≤ p + 8 := by
  unfold Dk.f
  obtain ⟨v1, p1, s1, e1, m1, b1, b1'⟩ := of_ok h p s [(⟨#[99, 111, 117, 110, 116]⟩ : ByteArray), (⟨#[115, 111, 114, 116, 32, 109, 101, 114, 103, 101]⟩ : ByteArray), (⟨#[120]⟩ : ByteArray), (⟨#[115, 101, 108, 101, 99, 116, 32, 50]⟩ : ByteArray), (⟨#[48, 32, 49]⟩ : ByteArray)] h0 (by omega) (by simp) (by simp)
  have z1 : v1.size ≤ 20 := (show ∀ v ∈ [(⟨#[99, 111, 117, 110, 116]⟩ : ByteArray), (⟨#[115, 111, 114, 116, 32, 109, 101, 114, 103, 101]⟩ : ByteArray), (⟨#[120]⟩ : ByteArray), (⟨#[115, 101, 108, 101, 99, 116, 32, 50]⟩ : ByteArray), (⟨#[48, 32, 49]⟩ : ByteArray)], v.size ≤ 20 by decide) _ m1
  rw [e1]; simp only [Option.bind_some]
  obtain ⟨v2, p2, s2, e2, m2, b2, b2'⟩ := of_ok h p1 s1 [(⟨#[]⟩ : ByteArray), (⟨#[51]⟩ : ByteArray), (⟨#[63]⟩ : ByteArray), (⟨#[97, 64, 98]⟩ : ByteArray), (⟨#[51, 32, 49, 32, 50]⟩ : ByteArray)] (by omega) (by omega) (by simp) (by simp)
  have z2 : v2.size ≤ 20 := (show ∀ v ∈ [(⟨#[]⟩ : ByteArray), (⟨#[51]⟩ : ByteArray), (⟨#[63]⟩ : ByteArray), (⟨#[97, 64, 98]⟩ : ByteArray), (⟨#[51, 32, 49, 32, 50]⟩ : ByteArray)], v.size ≤ 20 by decide) _ m2
  rw [e2]; simp only [Option.bind_some]
  obtain ⟨v3, p3, s3, e3, _, b3, b3'⟩ := pick_ok h p2 s2 24 (by omega) (by omega) (by omega)
  rw [e3]; simp only [Option.bind_some]
  by_cases c1 : v3 = 0
  · rw [if_pos c1, if_pos (by omega)]
    obtain ⟨v4, p4, s4, e4, m4, b4, b4'⟩ := of_ok h p3 s3 [(⟨#[]⟩ : ByteArray), (⟨#[97, 64, 98]⟩ : ByteArray), (⟨#[97, 35]⟩ : ByteArray), (⟨#[10]⟩ : ByteArray), strOfNums (List.replicate 3 0)] (by omega) (by omega) (by simp) (by simp)
    have z4 : v4.size ≤ 20 := (show ∀ v ∈ [(⟨#[]⟩ : ByteArray), (⟨#[97, 64, 98]⟩ : ByteArray), (⟨#[97, 35]⟩ : ByteArray), (⟨#[10]⟩ : ByteArray), strOfNums (List.replicate 3 0)], v.size ≤ 20 by decide) _ m4
    rw [e4]; simp only [Option.bind_some]
    exact ⟨_, _, _, _, rfl, z4, z2, by omega, by omega⟩
  · rw [if_neg c1]
    by_cases c2 : v3 = 1
    · rw [if_pos c2]
      obtain ⟨v4, p4, s4, e4, m4, b4, b4'⟩ := of_ok h p3 s3 [(⟨#[35]⟩ : ByteArray), (⟨#[10]⟩ : ByteArray), (⟨#[127]⟩ : ByteArray)] (by omega) (by omega) (by simp) (by simp)
      have z4 : v4.size ≤ 20 := (show ∀ v ∈ [(⟨#[35]⟩ : ByteArray), (⟨#[10]⟩ : ByteArray), (⟨#[127]⟩ : ByteArray)], v.size ≤ 20 by decide) _ m4
      rw [e4]; simp only [Option.bind_some]
      exact ⟨_, _, _, _, rfl, z1, z4, by omega, by omega⟩
    · rw [if_neg c2]
      exact ⟨_, _, _, _, rfl, z1, z2, by omega, by omega⟩
noncomputable def syncd (D P : ByteArray) (c : Int) : ByteArray × ByteArray × Int × Bool := if Fv D P c = true then (D ++ P, ⟨#[]⟩, c, true) else (⟨#[]⟩, ⟨#[]⟩, 0, false)
theorem specSync_ev (D P : ByteArray) (c : Int) (hD : D.size ≤ 1048576) (hP : P.size ≤ 1048576) : Ev (fun k => E5.f k D P c) (syncd D P c) := by
  unfold E5.f syncd
  refine Ev.bind (specLog_ev D P c hD hP) ?_
  simp only [if_pos (show D.size + P.size ≤ 9223372036854775807 by omega)]
  by_cases h : Fv D P c = true
  · simp only [if_pos h]; exact Ev.now _
  · simp only [if_neg h]; exact Ev.now _
theorem appd_size (D P : ByteArray) (c : Int) (q r : ByteArray) : (appd D P c q r).1.size + (appd D P c q r).2.1.size ≤ D.size + P.size + 406 := by
  unfold appd
  by_cases h : Fv D P c = true ∧ Es q r = true
  · rw [if_pos h]
    obtain ⟨c0, c1⟩ := H7 h.1
    by_cases e : c = 60
    · rw [if_pos e]; simp only; omega
    · rw [if_neg e]
      have := line_bytes c0 (by omega) h.2
      simp only [ByteArray.size_append]; omega
  · rw [if_neg h]; simp only; omega
theorem syncd_size (D P : ByteArray) (c : Int) : (syncd D P c).1.size + (syncd D P c).2.1.size ≤ D.size + P.size := by
  unfold syncd
  by_cases h : Fv D P c = true
  · rw [if_pos h]; simp only [ByteArray.size_append]; show _ + 0 ≤ _; omega
  · rw [if_neg h]; show 0 + 0 ≤ _; omega
theorem log_ok {l : List Int} (h : okB l) (p s : Int) (h0 : 0 ≤ p) (h1 : p ≤ 700000000000) : ∃ D P c p' s', Ev (fun k => Bj.f k l p s) (D, P, c, p', s') ∧ D.size + P.size ≤ 3000 ∧ p ≤ p' ∧ p' ≤ p + 100 := by
  unfold Bj.f
  obtain ⟨v, p1, s1, e1, q, b1, b1'⟩ := pick_ok h p s 7 h0 (by omega) (by omega)
  have key : ∀ (d : Nat) (D P : ByteArray) (c p s : Int), d ≤ 7 → 0 ≤ p → p + 10 * (d : Int) ≤ 700000001000 → D.size + P.size + 406 * d ≤ 3000 →
      ∃ D' P' c' p' s', Ev (fun k => Bj.l0 k (d : Int) l p s D P c) (D', P', c', p', s') ∧ D'.size + P'.size ≤ 3000 ∧ p ≤ p' ∧ p' ≤ p + 10 * d := by
    intro d
    induction d with
    | zero =>
      intro D P c p s hd hp hp2 hz
      exact ⟨D, P, c, p, s, Ev.step (f := fun _ => some _) (fun k => by simp only [Bj.l0]; rw [if_neg (by omega)]) (Ev.now _), by omega, by omega, by omega⟩
    | succ d ih =>
      intro D P c p s hd hp hp2 hz
      obtain ⟨q, r, p2, s2, e2, z1, z2, b2, b2'⟩ := logRecord_ok h p s hp (by omega)
      have ha := specAppend_ev D P c q r (by omega) (by omega) (by omega) (by omega)
      have hsz := appd_size D P c q r
      obtain ⟨t, p3, s3, e3, _, b3, b3'⟩ := one_ok h p2 s2 4 (by omega) (by omega) (by omega)
      generalize appd D P c q r = A at ha hsz
      have hw : wrap64 (((d + 1 : Nat) : Int) - 1) = (d : Int) := by rw [wrap_id (by omega) (by omega)]; omega
      by_cases ht : t = true
      · have hs := specSync_ev A.1 A.2.1 A.2.2.1 (by omega) (by omega)
        have hsy := syncd_size A.1 A.2.1 A.2.2.1
        generalize syncd A.1 A.2.1 A.2.2.1 = Y at hs hsy
        obtain ⟨D', P', c', p', s', hev, hz', q1, q2⟩ := ih Y.1 Y.2.1 Y.2.2.1 p3 s3 (by omega) (by omega) (by omega) (by omega)
        refine ⟨D', P', c', p', s', ?_, hz', by omega, by omega⟩
        refine Ev.step (f := fun k => (Au.f k D P c q r).bind fun bt480 => (E5.f k bt480.1 bt480.2.1 bt480.2.2.1).bind fun bt487 => Bj.l0 k (d : Int) l p3 s3 bt487.1 bt487.2.1 bt487.2.2.1) (fun k => ?_) (Ev.bind ha (Ev.bind hs hev))
        simp only [Bj.l0]
        rw [if_pos (by omega), e2, Option.bind_some]
        refine congrArg _ (funext fun bt480 => ?_)
        show ((Em.f l p2 s2 4).bind _) = _
        rw [e3, Option.bind_some]
        show (if t = true then _ else _) = _
        rw [if_pos ht, hw]
      · obtain ⟨D', P', c', p', s', hev, hz', q1, q2⟩ := ih A.1 A.2.1 A.2.2.1 p3 s3 (by omega) (by omega) (by omega) (by omega)
        refine ⟨D', P', c', p', s', ?_, hz', by omega, by omega⟩
        refine Ev.step (f := fun k => (Au.f k D P c q r).bind fun bt480 => Bj.l0 k (d : Int) l p3 s3 bt480.1 bt480.2.1 bt480.2.2.1) (fun k => ?_) (Ev.bind ha hev)
        simp only [Bj.l0]
        rw [if_pos (by omega), e2, Option.bind_some]
        refine congrArg _ (funext fun bt480 => ?_)
        show ((Em.f l p2 s2 4).bind _) = _
        rw [e3, Option.bind_some]
        show (if t = true then _ else _) = _
        rw [if_neg ht, hw]
  obtain ⟨d, rfl⟩ := Int.eq_ofNat_of_zero_le q.1
  have hd := q.2.1 (by omega)
  obtain ⟨D', P', c', p', s', hev, hz', q1, q2⟩ := key d ⟨#[]⟩ ⟨#[]⟩ 0 p1 s1 (by omega) (by omega) (by omega) (by show 0 + 0 + 406 * d ≤ 3000; omega)
  refine ⟨D', P', c', p', s', ?_, hz', by omega, by omega⟩
  rw [e1]
  simp only [Option.bind_some]
  exact hev
theorem spoilt_ok {l : List Int} (h : okB l) (p s : Int) (a b : ByteArray) (h0 : 0 ≤ p) (h1 : p ≤ 800000000000) (ha : a.size ≤ 1000000) (hb : 1 ≤ b.size) (hb2 : b.size ≤ 100) : Drawn (spec_l1Cur_spoilt.f l p s a b) p 6 (fun v => v.size ≤ a.size + 1) := by
  unfold spec_l1Cur_spoilt.f
  by_cases c : a.toList = ([] : List UInt8)
  · rw [if_pos c, if_pos (by omega)]
    exact ⟨_, _, _, rfl, by simp only [ByteArray.size_extract]; omega, by omega, by omega⟩
  · rw [if_neg c]
    have ha1 : 1 ≤ a.size := by
      rcases Nat.eq_zero_or_pos a.size with e | e
      · exfalso; apply c; rw [Hy]; exact List.length_eq_zero_iff.1 (by rw [D7]; exact e)
      · exact e
    obtain ⟨v1, p1, s1, e1, m1, b1, b1'⟩ := pick_ok h p s a.size h0 (by omega) (by omega)
    obtain ⟨v2, p2, s2, e2, m2, b2, b2'⟩ := pick_ok h p1 s1 b.size (by omega) (by omega) (by omega)
    obtain ⟨v3, p3, s3, e3, m3, b3, b3'⟩ := pick_ok h p2 s2 3 (by omega) (by omega) (by omega)
    have k1 := m1.2.1 (by omega)
    have k2 := m2.2.1 (by omega)
    rw [e1]; simp only [Option.bind_some]
    rw [e2]; simp only [Option.bind_some]
    rw [e3]; simp only [Option.bind_some]
    rw [if_pos ⟨⟨m2.1, k2⟩, ⟨m1.1, k1⟩, by omega, by omega⟩]
    by_cases d0 : v3 = 0
    · rw [if_pos d0]
      exact ⟨_, _, _, rfl, by simp only [ByteArray.size_append, ByteArray.size_extract]; omega, by omega, by omega⟩
    · rw [if_neg d0]
      by_cases d1 : v3 = 1
      · rw [if_pos d1]
        exact ⟨_, _, _, rfl, by simp only [ByteArray.size_append, ByteArray.size_extract]; omega, by omega, by omega⟩
      · rw [if_neg d1]
        exact ⟨_, _, _, rfl, by simp only [ByteArray.size_append, ByteArray.size_extract]; omega, by omega, by omega⟩
end Go.Proofs.YtkpieljmhgfofaaDoor.X

namespace Go.Proofs.YtkpieljmhgfofaaDoor.X
open Go.RowKit Go.Proofs.YtkpieljmhgfofaaDoorW.PrintWords Go.Proofs.YtkpieljmhgfofaaDoorW.PrintLast Go.Proofs.YtkpieljmhgfofaaDoorW.PrintMore
attribute [local go_sem] max2_int min2_int max_two min_two max_three min_three max_four min_four
open Go.Proofs.YtkpieljmhgfofaaDoorG
def H9.f (l0 : List Int) : Option (Int × ByteArray × ByteArray) := (Gz.f l0 0 0 (([0, 1, 12, 59, 60, (-1)] : List Int))).bind fun bt588 => ((Dk.f l0 bt588.2.1 bt588.2.2).bind fun bt591 => (some (bt588.1, bt591.1, bt591.2.1)))
set_option maxHeartbeats 8000000 in
set_option maxRecDepth 100000 in
theorem H9.calls (A0 : Option Addr) (c0 : Nat) (l0 : List Int) (r1 : Int) (r2 : ByteArray) (r3 : ByteArray) (w : World) (hr0 : Kd.C (Kd.int .u8) w A0 l0.length l0) (hc0 : l0.length ≤ c0) (h : H9.f l0 = some (r1, r2, r3)) :
    Calls Tryd.prog 39 #[.slice A0 l0.length c0] w fun e w' => e = .returned (.tuple #[.int .i64 r1, .agg #[.string r2, .string r3]]) ∧ Below w.heap.size w w' := by
  have hu27 := Tryd.underlying27
  have hu74 := Tryd.underlying74
  have HR0 := Aside0.mk hr0
  have HC0 := Aside0.mk hc0
  clear hr0 hc0
  have HB := Aside0.mk (Below.refl w.heap.size w)
  have H : ((Gz.f l0 0 0 (([0, 1, 12, 59, 60, (-1)] : List Int))).bind fun bt588 => ((Dk.f l0 bt588.2.1 bt588.2.2).bind fun bt591 => (some (bt588.1, bt591.1, bt591.2.1)))) = some (r1, r2, r3) := h
  clear h
  obtain ⟨y585, hy585⟩ : ∃ y_ : List Int, y_ = (([0, 1, 12, 59, 60, (-1)] : List Int)) := ⟨_, rfl⟩
  replace H : ((Gz.f l0 0 0 y585).bind fun bt588 => ((Dk.f l0 bt588.2.1 bt588.2.2).bind fun bt591 => (some (bt588.1, bt591.1, bt591.2.1)))) = some (r1, r2, r3) := by first | (rw [hy585]; with_reducible exact H) | (have H2_ := (Option.bind_some _ _).symm.trans H; rw [hy585]; with_reducible exact H2_) | (have H2_ := (Option.bind_some _ _).symm.trans H; with_reducible exact H2_) | with_reducible exact H | (rw [hy585]; exact H) | exact H
  have Ny585 := Aside0.mk hy585
  clear hy585
  replace H := Option.bind_eq_some_iff.mp H
  obtain ⟨⟨t588, t589, t590⟩, A20, H⟩ := H
  replace H : ((Dk.f l0 t589 t590).bind fun bt591 => (some (t588, bt591.1, bt591.2.1))) = some (r1, r2, r3) := H
  have A2 := Aside0.mk A20
  clear A20
  replace H := Option.bind_eq_some_iff.mp H
  obtain ⟨⟨t591, t592, t593, t594⟩, A30, H⟩ := H
  replace H : (some (t588, t591, t592)) = some (r1, r2, r3) := H
  have A3 := Aside0.mk A30
  clear A30
  simp only [Option.some.injEq, Prod.mk.injEq] at H
  obtain ⟨rfl, rfl, rfl⟩ := H
  go_enter Tryd.func39, Tryd.ntmps39
  go_wp2_with (first | ((with_reducible refine Bd (N := 3) rfl ?_); refine Bc ?hg (N := 3) ?hd (cs := #[.string (⟨#[]⟩ : ByteArray), .string (⟨#[]⟩ : ByteArray)]) (t := 27) ?hr ?_; (case hd => rfl); (case hg => rfl); (case hr => first | (go_simp; done) | (go_simp; rfl)); intro gb0 hg w4 hbox hb; have n0_ := Aside0.mk (Ag Ya_ hb); have n1_ := Aside0.mk (hbox); have n2_ := Aside0.mk ((by rw [hg]; exact (Ah Ya_) : w.heap.size ≤ gb0)); have n3_ := Aside0.mk ((by rw [hg]; exact (Ah Ya_) : w.heap.size ≤ gb0)); clear HB; have HB := n0_; have BK0 := n1_; have GW0 := n2_; have GE0 := n3_; clear n0_ n1_ n2_ n3_; clear hb hbox hg) | ((with_reducible refine Bd (N := 8) rfl ?_); refine Bc ?hg (N := 8) ?hd (cs := #[.slice A0 l0.length c0, .int .i64 0, .int .u64 0]) (t := 74) ?hr ?_; (case hd => rfl); (case hg => rfl); (case hr => first | (go_simp; done) | (go_simp; rfl)); intro gb1 hg w5 hbox hb; have n0_ := Aside0.mk (Ai (g := gb0) (o := .cells #[.string (⟨#[]⟩ : ByteArray), .string (⟨#[]⟩ : ByteArray)] 27 (0, 0)) Yd_ hb); have n1_ := Aside0.mk (Ag Yb_ hb); have n2_ := Aside0.mk ((by rw [hg]; exact (Ah Yb_) : w.heap.size ≤ gb1)); have n3_ := Aside0.mk ((by rw [hg]; exact (Ah Yb_) : w.heap.size ≤ gb1)); have n4_ := Aside0.mk ((by rw [hg]; exact Nat.ne_of_lt (Cf (g := gb0) (o := .cells #[.string (⟨#[]⟩ : ByteArray), .string (⟨#[]⟩ : ByteArray)] 27 (0, 0)) Yd_) : gb0 ≠ gb1)); have n5_ := Aside0.mk ((by rw [hg]; exact Nat.ne_of_gt (Cf (g := gb0) (o := .cells #[.string (⟨#[]⟩ : ByteArray), .string (⟨#[]⟩ : ByteArray)] 27 (0, 0)) Yd_) : gb1 ≠ gb0)); have n6_ := Aside0.mk ((⟨_, _, hbox, (by rw [hg]; exact (Ah Yb_)), HR0.out⟩ : IsS74 w w5 gb1 l0 0 0)); clear BK0; clear HB; have BK0 := n0_; have HB := n1_; have GW1 := n2_; have GE1 := n3_; have NB0_1 := n4_; have NB1_0 := n5_; have HI584 := n6_; clear n0_ n1_ n2_ n3_ n4_ n5_ n6_; clear hb hbox hg) | ((with_reducible refine Bd (N := 10) rfl ?_); refine Kd.R_lit (Kd.int .i64) _ 3 ?hg (N := 10) ?hd (xs := ([0, 1, 12, 59, 60, (-1)] : List Int)) (inner := [.int .i64 0, .int .i64 1, .int .i64 12, .int .i64 59, .int .i64 60, .int .i64 (-1)]) (ok := fun _ => True) (okp := fun _ => True) ?hr ?hp (fun _ hk => hk) trivial (Below.refl _ _) (Nat.le_refl _) (by simp) ?_; (case hd => rfl); (case hg => rfl); (case hr => first | (go_simp; done) | (go_simp; rfl)); (case hp => exact (Dv.one (show Kd.M (Kd.int .i64) _ _ _ 0 [.int .i64 0] from rfl) (Dv.one (show Kd.M (Kd.int .i64) _ _ _ 1 [.int .i64 1] from rfl) (Dv.one (show Kd.M (Kd.int .i64) _ _ _ 12 [.int .i64 12] from rfl) (Dv.one (show Kd.M (Kd.int .i64) _ _ _ 59 [.int .i64 59] from rfl) (Dv.one (show Kd.M (Kd.int .i64) _ _ _ 60 [.int .i64 60] from rfl) (Dv.one (show Kd.M (Kd.int .i64) _ _ _ (-1) [.int .i64 (-1)] from rfl) (Dv.none _ _)))))))); intro v586 w6 ho7 hb hg_ hnew_; clear hg_ hnew_; (first | rw [← Ny585.out] at ho7 | (simp only [Int.reduceToNat] at ho7; rw [← Ny585.out] at ho7)); have n0_ := Aside0.mk (Kd.En ho7 (Ah Yhf_)); have n1_ := Aside0.mk (Ai (g := gb0) (o := .cells #[.string (⟨#[]⟩ : ByteArray), .string (⟨#[]⟩ : ByteArray)] 27 (0, 0)) Yd_ hb); have n2_ := Aside0.mk (IsS74.below (by repeat (first | (with_reducible first | exact HI584.out | apply IsS74.alloc | apply IsS74.drewN | apply IsS74.drew | apply IsS74.set_1 | apply IsS74.set_2 | refine IsS74.far ?_ NB1_0.out _) | exact HI584.out)) hb); have n3_ := Aside0.mk (Ag Yhf_ hb); clear BK0; clear HI584; clear HB; have HO587 := n0_; have BK0 := n1_; have HI584 := n2_; have HB := n3_; clear n0_ n1_ n2_ n3_; clear hb ho7; obtain ⟨Ao8, co8, eo8⟩ := Kd.Eu HO587.out; subst eo8) | ((with_reducible refine Am (f := 59) rfl ?_); refine Be (some 11) rfl rfl Tryd.func59 (by kernel_rfl) rfl #[.pointer (some ⟨gb1, 0, none⟩), .slice Ao8 y585.length co8] rfl Yc_ ?_; (with_reducible refine (Gz.calls gb1 l0 0 0 _ _ y585 t588 t589 t590 w _ ?side1 ?side2 ?side3 ?side4 ?side5 A2.out).mono ?_); (case side1 => repeat (first | (with_reducible first | exact HI584.out | apply IsS74.alloc | apply IsS74.drewN | apply IsS74.drew | apply IsS74.set_1 | apply IsS74.set_2 | refine IsS74.far ?_ NB1_0.out _) | exact HI584.out)); (case side2 => repeat (first | (with_reducible first | exact HB.out | apply below_alloc | apply pw_below_drewN | apply below_drew1 | refine below_set ?_ (IsS74.ge HI584.out) | refine below_set ?_ GE0.out) | exact HB.out)); (case side3 => repeat (first | exact (Kd.Ez HO587.out).2.2 | (with_reducible refine Kd.Hf ?_ _) | (with_reducible refine Kd.Hg ?_ _) | (with_reducible refine Kd.C_drew ?_))); (case side4 => exact (Kd.Ez HO587.out).2.1); (case side5 => exact Hq (IsS74.own_ne HI584.out HO587.out (by decide))); rintro e w9 ⟨rfl, hi, hb, hk⟩; refine ⟨_, rfl, ?_⟩; have n0_ := Aside0.mk (KeepBut.blk hk (g' := gb0) (o := .cells #[.string (⟨#[]⟩ : ByteArray), .string (⟨#[]⟩ : ByteArray)] 27 (0, 0)) Yd_ NB0_1.out (by simp)); have n1_ := Aside0.mk (Kd.D5 (Kd.F7 (IsS74.apart (show IsS74 w _ gb1 l0 0 0 from by repeat (first | (with_reducible first | exact HI584.out | apply IsS74.alloc | apply IsS74.drewN | apply IsS74.drew | apply IsS74.set_1 | apply IsS74.set_2 | refine IsS74.far ?_ NB1_0.out _) | exact HI584.out)) (by (with_reducible repeat (first | apply Kd.Bo | apply Kd.Bl | apply Kd.Cb)); exact HO587.out) (by decide)) hk (fun _ h => h.2)) (fun _ h => h.1)); have n2_ := Aside0.mk (hb); have n3_ := Aside0.mk (hi); clear BK0; clear HO587; clear HB; clear HI584; have BK0 := n0_; have HO587 := n1_; have HB := n2_; have HI584 := n3_; clear n0_ n1_ n2_ n3_; (try clear hb); (try clear hb2); (try clear hk); (try clear hi)) | ((with_reducible refine Am (f := 56) rfl ?_); refine Be (some 14) rfl rfl Tryd.func56 (by kernel_rfl) rfl #[.pointer (some ⟨gb1, 0, none⟩)] rfl Yc_ ?_; (with_reducible refine (Dk.calls gb1 l0 t589 t590 t591 t592 t593 t594 w _ ?side1 ?side2 A3.out).mono ?_); (case side1 => repeat (first | (with_reducible first | exact HI584.out | apply IsS74.alloc | apply IsS74.drewN | apply IsS74.drew | apply IsS74.set_1 | apply IsS74.set_2 | refine IsS74.far ?_ NB1_0.out _) | exact HI584.out)); (case side2 => repeat (first | (with_reducible first | exact HB.out | apply below_alloc | apply pw_below_drewN | apply below_drew1 | refine below_set ?_ (IsS74.ge HI584.out) | refine below_set ?_ GE0.out) | exact HB.out)); rintro e w10 ⟨rfl, hi, hb, hk⟩; refine ⟨_, rfl, ?_⟩; have n0_ := Aside0.mk (KeepBut.blk hk (g' := gb0) (o := .cells #[.string (⟨#[]⟩ : ByteArray), .string (⟨#[]⟩ : ByteArray)] 27 (0, 0)) Yd_ NB0_1.out (by simp)); have n1_ := Aside0.mk (Kd.D5 (Kd.F7 (IsS74.apart (show IsS74 w _ gb1 l0 t589 t590 from by repeat (first | (with_reducible first | exact HI584.out | apply IsS74.alloc | apply IsS74.drewN | apply IsS74.drew | apply IsS74.set_1 | apply IsS74.set_2 | refine IsS74.far ?_ NB1_0.out _) | exact HI584.out)) (by (with_reducible repeat (first | apply Kd.Bo | apply Kd.Bl | apply Kd.Cb)); exact HO587.out) (by decide)) hk (fun _ h => h.2)) (fun _ h => h.1)); have n2_ := Aside0.mk (hb); have n3_ := Aside0.mk (hi); clear BK0; clear HO587; clear HB; clear HI584; have BK0 := n0_; have HO587 := n1_; have HB := n2_; have HI584 := n3_; clear n0_ n1_ n2_ n3_; (try clear hb); (try clear hb2); (try clear hk); (try clear hi); have hnb11 := NB0_1.out; have hnc11 := NB1_0.out; have hcz12_0 : w10.cell? ⟨gb0, 0, none⟩ = some (.string (⟨#[]⟩ : ByteArray)) := (Ae BK0.out 0).trans rfl; have hcz12_1 : w10.cell? ⟨gb0, 1, none⟩ = some (.string (⟨#[]⟩ : ByteArray)) := (Ae BK0.out 1).trans rfl; have hfz12_0 := Af BK0.out 0; have hfz12_1 := Af BK0.out 1))
  refine bodyPost_ret (results_tc rfl _ _ gb0 27 #[.string t591, .string t592] (0, 0) _ rfl (by (with_reducible repeat (first | refine Aa ?_ _ | refine Ad ?_ | refine Ac ?_ _)); refine Ar (cs := #[.string t591, .string (⟨#[]⟩ : ByteArray)]) ?_ 1 _ rfl; (with_reducible repeat (first | refine Aa ?_ _ | refine Ad ?_ | refine Ac ?_ _)); refine Ar (cs := #[.string (⟨#[]⟩ : ByteArray), .string (⟨#[]⟩ : ByteArray)]) ?_ 0 _ rfl; (with_reducible repeat (first | refine Aa ?_ _ | refine Ad ?_ | refine Ac ?_ _)); exact BK0.out) Tryd.underlying27 rfl (by kernel_rfl)) rfl ?_
  exact ⟨by first | rfl | (simp [Ak, Aj] <;> rfl) | (simp [*, Ak, Aj] <;> rfl), by repeat (first | (with_reducible first | exact HB.out | apply below_alloc | apply pw_below_drewN | apply below_drew1 | refine below_set ?_ (IsS74.ge HI584.out) | refine below_set ?_ GE0.out) | exact HB.out)⟩
end Go.Proofs.YtkpieljmhgfofaaDoor.X

namespace Go.Proofs.YtkpieljmhgfofaaDoor.X
open Go.RowKit Go.Proofs.YtkpieljmhgfofaaDoorW.PrintWords Go.Proofs.YtkpieljmhgfofaaDoorL
theorem reads_split : ∀ (d n : Nat) (s : List UInt8), n + d ≤ 60 → ∃ pre, s = pre ++ (reads d n s).2 ∧ reads d n pre = ((reads d n s).1, [])
  | 0, n, s, _ => ⟨[], by simp [reads], by simp [reads]⟩
  | d + 1, n, s, hn => by
    cases h : recAt (n : Int) s with
    | none => exact ⟨[], by rw [F5 h]; rfl, by rw [F5 h, F5 (recAt_nil _)]⟩
    | some p =>
      obtain ⟨pre, e1, e2⟩ := reads_split d (n + 1) p.2.2 (by omega)
      have hp := H5 h
      rw [Gm h]
      refine ⟨B (Ew (n : Int) p.1 p.2.1) ++ pre, ?_, ?_⟩
      · simp only; rw [List.append_assoc, ← e1]; exact hp.2
      · rw [Gm (Hl (by omega) (by omega) (show F8 (n : Int) (B (Ew (n : Int) p.1 p.2.1) ++ pre) p.1 p.2.1 pre from ⟨hp.1, rfl⟩)), e2]
theorem reads_append (q r : ByteArray) (hg : Es q r = true) : ∀ (d n : Nat) (s : List UInt8), n + d ≤ 60 → (reads d n s).2 = [] → (reads d n s).1.length < d →
    reads d n (s ++ B (Ew (((n + (reads d n s).1.length : Nat)) : Int) q r)) = ((reads d n s).1 ++ [(⟨q, r⟩ : RecT)], [])
  | 0, n, s, _, _, hlt => absurd hlt (Nat.not_lt_zero _)
  | d + 1, n, s, hn, he, hlt => by
    cases h : recAt (n : Int) s with
    | none =>
      have hs : s = [] := by rw [F5 h] at he; exact he
      subst hs
      rw [F5 h]
      have hr : F8 (n : Int) ([] ++ B (Ew (((n + ([] : List RecT).length : Nat)) : Int) q r)) q r [] := ⟨hg, by simp⟩
      rw [Gm (Hl (by omega) (by omega) hr), F5 (recAt_nil _)]
      rfl
    | some p =>
      have hp := H5 h
      rw [Gm h] at he hlt
      rw [Gm h]
      simp only [List.length_cons] at he hlt ⊢
      have ih := reads_append q r hg d (n + 1) p.2.2 (by omega) he (by omega)
      have e : n + ((reads d (n + 1) p.2.2).1.length + 1) = n + 1 + (reads d (n + 1) p.2.2).1.length := by omega
      rw [e]
      have hr : F8 (n : Int) (s ++ B (Ew (((n + 1 + (reads d (n + 1) p.2.2).1.length : Nat)) : Int) q r)) p.1 p.2.1 (p.2.2 ++ B (Ew (((n + 1 + (reads d (n + 1) p.2.2).1.length : Nat)) : Int) q r)) :=
        ⟨hp.1, by rw [← List.append_assoc, ← hp.2]⟩
      rw [Gm (Hl (by omega) (by omega) hr), ih]
      rfl
theorem app_ok {D P : ByteArray} {c : Int} {q r : ByteArray} (h : Fv D P c = true) (hg : Es q r = true) (hc : c ≠ 60) :
    Fv D (P ++ Ew c q r) (c + 1) = true ∧ allOf D (P ++ Ew c q r) = allOf D P ++ [(⟨q, r⟩ : RecT)] ∧ (reads 60 0 (B D ++ B (P ++ Ew c q r))).2 = [] := by
  obtain ⟨c0, c1⟩ := H7 h
  have h2 := h
  unfold Fv at h2
  simp only [Bool.and_eq_true, decide_eq_true_eq] at h2
  obtain ⟨⟨e1, e2⟩, e3⟩ := h2
  unfold allOf at e3
  have ha := reads_append q r hg 60 0 (B D ++ B P) (by omega) e1 (by omega)
  rw [Nat.zero_add, e3, List.append_assoc, ← F9] at ha
  have hal : allOf D (P ++ Ew c q r) = allOf D P ++ [(⟨q, r⟩ : RecT)] := by unfold allOf; rw [ha]
  refine ⟨?_, hal, by rw [ha]⟩
  unfold Fv
  rw [hal, ha]
  unfold allOf
  simp only [Bool.and_eq_true, decide_eq_true_eq, List.length_append, List.length_singleton]
  first | exact ⟨⟨trivial, e2⟩, by omega⟩ | exact ⟨e2, by omega⟩
theorem recov_ok (t : ByteArray) (ht : t.size ≤ 30000) : recov t = (t.extract 0 (upTo t), ⟨#[]⟩, ((reads 60 0 (B t)).1.length : Int), (upTo t : Int), true) ∧ Fv (t.extract 0 (upTo t)) ⟨#[]⟩ ((reads 60 0 (B t)).1.length : Int) = true := by
  refine ⟨by unfold recov; rw [if_neg (by omega)], ?_⟩
  obtain ⟨pre, e1, e2⟩ := reads_split 60 0 (B t) (by omega)
  have hl := congrArg List.length e1
  rw [List.length_append, D7] at hl
  have hB : B (t.extract 0 (upTo t)) = pre := by
    rw [Gu]
    have : upTo t - 0 = pre.length := by unfold upTo; omega
    rw [this]
    conv => lhs; rw [e1]
    simp
  unfold Fv allOf
  have e0 : B (⟨#[]⟩ : ByteArray) = [] := rfl
  rw [hB, e0, List.append_nil, e2]
  simp
theorem implSync_ev (D P : ByteArray) (c : Int) (hD : D.size ≤ 1048576) (hP : P.size ≤ 1048576) : Ev (fun k => Ei.f k D P c) (syncd D P c) := by
  unfold Ei.f Cj.f syncd
  refine Ev.bind (Ev.bind (implRecs_ev D P c hD hP) (Ev.now _)) ?_
  simp only [if_pos (show D.size + P.size ≤ 9223372036854775807 by omega)]
  by_cases h : Fv D P c = true
  · simp only [if_pos h]; exact Ev.now _
  · simp only [if_neg h]; exact Ev.now _
theorem implValid_ev (D P : ByteArray) (c : Int) (hD : D.size ≤ 1048576) (hP : P.size ≤ 1048576) : Ev (fun k => Cj.f k D P c) (Fv D P c) := by
  unfold Cj.f
  exact Ev.bind (implRecs_ev D P c hD hP) (Ev.now _)
noncomputable def recsOf (D P : ByteArray) (c : Int) : List RecT × Bool := if Fv D P c = true then (allOf D P, true) else ([], false)
theorem implList_ev (D P : ByteArray) (c : Int) (hD : D.size ≤ 1048576) (hP : P.size ≤ 1048576) : Ev (fun k => Dz.f k D P c) (recsOf D P c) := by
  unfold Dz.f recsOf
  refine Ev.bind (implRecs_ev D P c hD hP) ?_
  by_cases h : Fv D P c = true
  · simp only [if_pos h]; exact Ev.now _
  · simp only [if_neg h]; exact Ev.now _
end Go.Proofs.YtkpieljmhgfofaaDoor.X

namespace Go.Proofs.YtkpieljmhgfofaaDoor.Pure
open Go.RowKit Go.Proofs.YtkpieljmhgfofaaDoorW.PrintWords Go.Proofs.YtkpieljmhgfofaaDoorL Go.Proofs.YtkpieljmhgfofaaDoor.X
theorem anyLog_ok {l : List Int} (h : okB l) (p s : Int) (h0 : 0 ≤ p) (h1 : p ≤ 600000000000) : ∃ D P c p' s', Ev (fun k => Eh.f k l p s) (D, P, c, p', s') ∧ D.size + P.size ≤ 7000 ∧ p ≤ p' ∧ p' ≤ p + 200 := by
  unfold Eh.f
  obtain ⟨D, P, c, p1, s1, e1, z1, b1, b1'⟩ := log_ok h p s h0 (by omega)
  obtain ⟨v, p2, s2, e2, m2, b2, b2'⟩ := pick_ok h p1 s1 24 (by omega) (by omega) (by omega)
  have body : ∃ D' P' c' p' s', (if v = 0 then some (D, P, wrap64 (c + 1), p2, s2) else if v = 1 then (spec_l1Cur_spoilt.f l p2 s2 P (⟨#[35, 64, 10, 48, 49]⟩ : ByteArray)).bind fun bt501 => some (D, bt501.1, c, bt501.2.1, bt501.2.2) else if v = 2 then (if D.size + P.size ≤ 9223372036854775807 then some (D ++ P, P, c, p2, s2) else none) else some (D, P, c, p2, s2)) = some (D', P', c', p', s') ∧ D'.size + P'.size ≤ 7000 ∧ p ≤ p' ∧ p' ≤ p + 200 := by
    by_cases d0 : v = 0
    · rw [if_pos d0]; exact ⟨_, _, _, _, _, rfl, by omega, by omega, by omega⟩
    · rw [if_neg d0]
      by_cases d1 : v = 1
      · rw [if_pos d1]
        obtain ⟨w, p3, s3, e3, m3, b3, b3'⟩ := spoilt_ok h p2 s2 P (⟨#[35, 64, 10, 48, 49]⟩ : ByteArray) (by omega) (by omega) (by omega) (by decide) (by decide)
        rw [e3]; simp only [Option.bind_some]
        exact ⟨_, _, _, _, _, rfl, by omega, by omega, by omega⟩
      · rw [if_neg d1]
        by_cases d2 : v = 2
        · rw [if_pos d2, if_pos (by omega)]; exact ⟨_, _, _, _, _, rfl, by rw [ByteArray.size_append]; omega, by omega, by omega⟩
        · rw [if_neg d2]; exact ⟨_, _, _, _, _, rfl, by omega, by omega, by omega⟩
  obtain ⟨D', P', c', p', s', e, hz, q1, q2⟩ := body
  refine ⟨D', P', c', p', s', Ev.bind e1 ?_, hz, q1, q2⟩
  dsimp only
  rw [e2]; simp only [Option.bind_some]
  exact ev_eq (fun _ => e)
theorem drawApp_ok {l : List Int} (h : okB l) : ∃ D P c q r, Ev (fun k => Bh.f k l) (D, P, c, q, r) ∧ D.size + P.size ≤ 30000 ∧ q.size ≤ 20 ∧ r.size ≤ 20 := by
  unfold Bh.f
  obtain ⟨D, P, c, p1, s1, e1, z1, b1, b1'⟩ := anyLog_ok h 0 0 (by omega) (by omega)
  obtain ⟨t, p2, s2, e2, _, b2, b2'⟩ := one_ok h p1 s1 40 (by omega) (by omega) (by omega)
  by_cases ht : t = true
  · obtain ⟨v, p3, s3, e3, m3, b3, b3'⟩ := pick_ok h p2 s2 2 (by omega) (by omega) (by omega)
    obtain ⟨q, r, p4, s4, e4, z4, z5, b4, b4'⟩ := logRecord_ok h p3 s3 (by omega) (by omega)
    have key : ∀ (d : Nat) (D P : ByteArray) (c : Int), d ≤ 60 → D.size + P.size + 406 * d ≤ 30000 →
        ∃ D' P' c', Ev (fun k => Bh.l0 k (d : Int) l p3 s3 D P c) (D', P', c', q, r) ∧ D'.size + P'.size ≤ 30000 := by
      intro d
      induction d with
      | zero =>
        intro D P c hd hz
        refine ⟨D, P, c, Ev.step (f := fun _ => some _) (fun k => ?_) (Ev.now _), by omega⟩
        simp only [Bh.l0]
        rw [if_neg (by omega), e4]; rfl
      | succ d ih =>
        intro D P c hd hz
        have hsz := appd_size D P c ⟨#[120]⟩ ⟨#[]⟩
        have ha := specAppend_ev D P c ⟨#[120]⟩ ⟨#[]⟩ (by omega) (by omega) (by decide) (by decide)
        generalize appd D P c ⟨#[120]⟩ ⟨#[]⟩ = A at ha hsz
        obtain ⟨D', P', c', hev, hz'⟩ := ih A.1 A.2.1 A.2.2.1 (by omega) (by omega)
        have hw : wrap64 (((d + 1 : Nat) : Int) - 1) = (d : Int) := by rw [wrap_id (by omega) (by omega)]; omega
        refine ⟨D', P', c', ?_, hz'⟩
        refine Ev.step (f := fun k => (Au.f k D P c ⟨#[120]⟩ ⟨#[]⟩).bind fun bt519 => Bh.l0 k (d : Int) l p3 s3 bt519.1 bt519.2.1 bt519.2.2.1) (fun k => ?_) (Ev.bind ha hev)
        simp only [Bh.l0]
        rw [if_pos (by omega), hw]
    have hv := m3.2.1 (by omega)
    obtain ⟨d, rfl⟩ := Int.eq_ofNat_of_zero_le m3.1
    obtain ⟨D', P', c', hev, hz'⟩ := key (59 + d) ⟨#[]⟩ ⟨#[]⟩ 0 (by omega) (by show 0 + 0 + 406 * (59 + d) ≤ 30000; omega)
    refine ⟨D', P', c', q, r, Ev.bind e1 ?_, hz', z4, z5⟩
    dsimp only
    rw [e2]; simp only [Option.bind_some, ht, if_true]
    rw [e3]; simp only [Option.bind_some]
    have hw : wrap64 (59 + (d : Int)) = ((59 + d : Nat) : Int) := by rw [wrap_id (by omega) (by omega)]; omega
    rw [hw]; exact hev
  · obtain ⟨q, r, p4, s4, e4, z4, z5, b4, b4'⟩ := logRecord_ok h p2 s2 (by omega) (by omega)
    refine ⟨D, P, c, q, r, Ev.bind e1 ?_, by omega, z4, z5⟩
    dsimp only
    rw [e2]; simp only [Option.bind_some, if_neg ht]
    rw [e4]; exact Ev.now _
theorem FnLog : OFnLog.Pure := by
  intro l hl
  refine ev_rounds ?_
  have hok : okB l := okB_of hl.2.2
  unfold Ap.f
  refine Ev.bind (show Ev (fun _ => Hz.f l) (decide ((l.length : Int) > 65536)) from Ev.now _) ?_
  by_cases c : (l.length : Int) > 65536
  · simp only [decide_eq_true c, if_true]; exact Ev.now _
  simp only [decide_eq_false c, Bool.false_eq_true, if_false]
  obtain ⟨D, P, n, q, r, e1, z0, z1, z2⟩ := drawApp_ok hok
  have hz := appd_size D P n q r
  refine Ev.bind e1 (Ev.bind (implAppend_ev D P n q r (by omega) (by omega)) (Ev.bind (specAppend_ev D P n q r (by omega) (by omega) (by omega) (by omega)) ?_))
  simp only [beq_self_eq_true, Bool.not_true, Bool.or_self, Bool.false_eq_true, if_false, if_true]
  refine Ev.bind (implValid_ev D P n (by omega) (by omega)) ?_
  refine Ev.bind (show Ev (fun k => Dy.f k D P n) (Fv D P n) from Ev.bind (specLog_ev D P n (by omega) (by omega)) (Ev.now _)) ?_
  simp only [bne_self_eq_false, Bool.false_eq_true, if_false]
  refine Ev.bind (implRec_ev q r) ?_
  refine Ev.bind (show Ev (fun k => Dt.f k q r) (Es q r) from Ev.bind (specRec_ev q r (by omega) (by omega)) (Ev.now _)) ?_
  simp only [bne_self_eq_false]
  by_cases hok : Fv D P n = true ∧ Es q r = true ∧ n ≠ 60
  · obtain ⟨g1, g2, g3⟩ := hok
    obtain ⟨k1, k2, k3⟩ := app_ok g1 g2 g3
    have hA : appd D P n q r = (D, P ++ Ew n q r, n + 1, 0) := by unfold appd; rw [if_pos ⟨g1, g2⟩, if_neg g3]
    obtain ⟨c0, c1⟩ := H7 g1
    rw [hA] at hz ⊢
    have hn : ((allOf D P).length : Int) = n := by
      unfold Fv at g1; simp only [Bool.and_eq_true, decide_eq_true_eq] at g1; exact g1.2
    generalize hM : P ++ Ew n q r = M at k1 k2 k3 hz ⊢
    dsimp only at hz ⊢
    have hrl := implList_ev D M (n + 1) (by omega) (by omega)
    have hol := implList_ev D P n (by omega) (by omega)
    have hsz : (D ++ M).size = D.size + M.size := ByteArray.size_append
    have hrc := implRecover_ev (D ++ M) (by omega)
    have hsy := implSync_ev D M (n + 1) (by omega) (by omega)
    have hvl := implValid_ev D M (n + 1) (by omega) (by omega)
    have hR : recsOf D M (n + 1) = (allOf D P ++ [(⟨q, r⟩ : RecT)], true) := by unfold recsOf; rw [if_pos k1, k2]
    have hO : recsOf D P n = (allOf D P, true) := by unfold recsOf; rw [if_pos g1]
    have hS : syncd D M (n + 1) = (D ++ M, ⟨#[]⟩, n + 1, true) := by unfold syncd; rw [if_pos k1]
    have hU : upTo (D ++ M) = (D ++ M).size := by unfold upTo; rw [F9, k3]; rfl
    have hX : (D ++ M).extract 0 (D ++ M).size = D ++ M := B_inj (by rw [Gu, Nat.sub_zero]; simp only [List.drop_zero]; rw [← D7, List.take_length])
    have hC : ((reads 60 0 (B (D ++ M))).1.length : Int) = n + 1 := by
      have := congrArg List.length k2
      unfold allOf at this hn
      rw [F9, this, List.length_append]; simp only [List.length_singleton]; omega
    have hV : recov (D ++ M) = (D ++ M, ⟨#[]⟩, n + 1, ((D ++ M).size : Int), true) := by
      rw [(recov_ok (D ++ M) (by have := logOk_size k1; omega)).1, hU, hX, hC]
    rw [hR] at hrl
    rw [hO] at hol
    rw [hV] at hrc
    rw [hS] at hsy
    rw [k1] at hvl
    generalize allOf D P = A at hrl hol hn
    generalize hY : D ++ M = Y at hrc hsy hsz
    have rd1 : ∀ i : Nat, i < A.length → rd_T27 (A ++ [(⟨q, r⟩ : RecT)]) (i : Int) = rd_T27 A (i : Int) := fun i hi => by
      simp [rd_T27, List.getD_eq_getElem?_getD, List.getElem?_append, hi]
    have rd2 : rd_T27 (A ++ [(⟨q, r⟩ : RecT)]) (A.length : Int) = (⟨q, r⟩ : RecT) := by
      simp [rd_T27, List.getD_eq_getElem?_getD, List.getElem?_append]
    have hlen : ((A ++ [(⟨q, r⟩ : RecT)]).length : Int) = (A.length : Int) + 1 := by rw [List.length_append]; simp
    have fin : Ev (fun k => Ap.l0 k (A ++ [(⟨q, r⟩ : RecT)]) A (Y.size : Int) true true (A.length : Int) q r D M (n + 1) Y ⟨#[]⟩ (n + 1) Y ⟨#[]⟩ (n + 1)) true := by
      refine Ev.step (f := fun k => (Cj.f k D M (n + 1)).bind fun t => some t) (fun k => ?_) (Ev.bind hvl (Ev.now _))
      simp only [Ap.l0]
      rw [if_neg (by omega), if_pos (by omega), if_pos (by omega), rd2]
      simp only [beq_self_eq_true, Bool.and_self, if_true]
      rw [if_pos (by omega), hY, if_pos rfl]
    have loop : ∀ (d i : Nat), i + d = A.length → Ev (fun k => Ap.l0 k (A ++ [(⟨q, r⟩ : RecT)]) A (Y.size : Int) true true (i : Int) q r D M (n + 1) Y ⟨#[]⟩ (n + 1) Y ⟨#[]⟩ (n + 1)) true := by
      intro d
      induction d with
      | zero => intro i hi; have : i = A.length := by omega
                subst this; exact fin
      | succ d ih =>
        intro i hi
        refine Ev.step (f := fun k => Ap.l0 k (A ++ [(⟨q, r⟩ : RecT)]) A (Y.size : Int) true true ((i + 1 : Nat) : Int) q r D M (n + 1) Y ⟨#[]⟩ (n + 1) Y ⟨#[]⟩ (n + 1)) (fun k => ?_) (ih (i + 1) (by omega))
        simp only [Ap.l0]
        rw [if_pos (by omega), if_pos (by omega), if_pos (by omega), rd1 i (by omega)]
        simp only [beq_self_eq_true, Bool.not_true, Bool.or_self, Bool.false_eq_true, if_false]
        rw [wrap_id (by omega) (by omega)]; rfl
    have first := loop A.length 0 (by omega)
    have j1 : Ev (fun k => Ap.j1 k (A ++ [(⟨q, r⟩ : RecT)]) A (Y.size : Int) true true false q r D M (n + 1) Y ⟨#[]⟩ (n + 1) Y ⟨#[]⟩ (n + 1)) true :=
      Ev.step (fun k => by simp only [Ap.j1]; rw [if_neg (by decide)]; rfl) first
    refine Ev.step (f := fun k => (Dz.f k D M (n + 1)).bind fun bt555 => ((Dz.f k D P n).bind fun bt559 => ((D9.f k Y).bind fun bt563 => ((Ei.f k D M (n + 1)).bind fun bt569 => (if bt555.2 = true then (if (bt555.1.length : Int) = (wrap64 ((bt559.1.length : Int) + 1)) then (Ap.j1 k bt555.1 bt559.1 bt563.2.2.2.1 bt563.2.2.2.2 bt569.2.2.2 ((n + 1) != (bt555.1.length : Int)) q r D M (n + 1) bt563.1 bt563.2.1 bt563.2.2.1 bt569.1 bt569.2.1 bt569.2.2.1) else (Ap.j1 k bt555.1 bt559.1 bt563.2.2.2.1 bt563.2.2.2.2 bt569.2.2.2 true q r D M (n + 1) bt563.1 bt563.2.1 bt563.2.2.1 bt569.1 bt569.2.1 bt569.2.2.1)) else (Ap.j1 k bt555.1 bt559.1 bt563.2.2.2.1 bt563.2.2.2.2 bt569.2.2.2 true q r D M (n + 1) bt563.1 bt563.2.1 bt563.2.2.1 bt569.1 bt569.2.1 bt569.2.2.1)))))) (fun k => ?_) (Ev.bind hrl (Ev.bind hol (Ev.bind hrc (Ev.bind hsy ?_))))
    · simp only [Ap.j0]
      rw [if_neg (by decide)]
      have hz2 : D.size + M.size ≤ 9223372036854775807 := by omega
      simp only [if_true, if_pos hz2, hY]
    · have hw : wrap64 ((A.length : Int) + 1) = (A.length : Int) + 1 := wrap_id (by omega) (by omega)
      have hl2 : ((A ++ [(⟨q, r⟩ : RecT)]).length : Int) = wrap64 ((A.length : Int) + 1) := by rw [hlen, hw]
      simp only [if_true, if_pos hl2]
      have hx : ((n + 1) != ((A ++ [(⟨q, r⟩ : RecT)]).length : Int)) = false := by rw [hlen, hn]; simp
      rw [hx]; exact j1
  · have hA : (appd D P n q r).1 = D ∧ (appd D P n q r).2.1 = P ∧ (appd D P n q r).2.2.1 = n ∧ (appd D P n q r).2.2.2 ≠ 0 := by
      unfold appd
      by_cases g : Fv D P n = true ∧ Es q r = true
      · rw [if_pos g]
        by_cases g3 : n = 60
        · rw [if_pos g3]; exact ⟨rfl, rfl, rfl, (by decide : (2 : Int) ≠ 0)⟩
        · exact absurd ⟨g.1, g.2, g3⟩ hok
      · rw [if_neg g]; exact ⟨rfl, rfl, rfl, (by decide : (1 : Int) ≠ 0)⟩
    obtain ⟨a1, a2, a3, a4⟩ := hA
    rw [a1, a2, a3]
    generalize (appd D P n q r).2.2.2 = z at a4 ⊢
    refine Ev.step (f := fun k => some true) (fun k => ?_) (Ev.now _)
    simp only [Ap.j0]
    rw [if_neg (by decide), if_neg a4]
    simp
end Go.Proofs.YtkpieljmhgfofaaDoor.Pure


namespace Go.Proofs.YtkpieljmhgfofaaDoor.fnLog
open Go.ChangeShapes Go.WideShapes Go.ChangeAt Go.RowKit
open Go.ChangeMaps (open_string shut_string)
open Go.Joins
open Go.Proofs.YtkpieljmhgfofaaDoorW.PrintWords Go.Proofs.YtkpieljmhgfofaaDoorW.PrintLast Go.Proofs.YtkpieljmhgfofaaDoorW.PrintMore
open Go.Proofs.YtkpieljmhgfofaaDoorZ Go.Proofs.YtkpieljmhgfofaaDoor.X Go.Proofs.YtkpieljmhgfofaaDoor.X.OFnLog
set_option linter.unusedVariables false
set_option linter.unusedSimpArgs false
theorem own : ownKnob Tryd.prog.godebug = none := by kernel_rfl
theorem laidOut : laidOutB Tryd.prog = true := by kernel_rfl
open Go Go.Proofs.YtkpieljmhgfofaaDoorG
def laidL : List (String × DataW Unit) := [("math/bits.deBruijn32tab", Rows.laid_math_bits_deBruijn32tab), ("math/bits.deBruijn64tab", Rows.laid_math_bits_deBruijn64tab), ("internal/strconv.uint64pow10", Rows.laid_internal_strconv_uint64pow10)]
theorem globOf {W : World} (h : laidMetH Tryd.prog laidL W) : Eg W := by
  rw [MakeChecks.laidMetH_plain _ _ _ (by kernel_rfl)] at h
  exact Eg.of_tab (h.filter fun x => x.1 == "internal/strconv.uint64pow10")
set_option maxRecDepth 100000 in
set_option maxHeartbeats 2000000 in
theorem lifted (os : Os) (started : os.Started) (H : Type) (enc : TypeId × Value → H) :
    ReturnsInHanded {} Tryd.checked os 10 .any (fun w args => (Rows.fnLogSpec.pre enc Tryd.prog Tryd.f10 Rows.fnLogRow.domain false w args ∧ laidMetH Tryd.prog laidL w) ∧ sizedMet enc Tryd.prog Tryd.f10 (OpenSpec.ofChange Rows.fnLogSpec) false w args) (Rows.fnLogSpec.post enc Tryd.prog Tryd.f10 false true false false) := by
  refine returnsInHanded_of_change_and (C := Tryd.checked) (X := fun w _ => laidMetH Tryd.prog laidL w) (fun _ _ _ hh h => h.of_heap hh) own started (by kernel_rfl) Tryd.func10
    (ChangeSpec.witness_shaped (enc := enc) (C := Tryd.checked) (os := os) (X := fun w _ => laidMetH Tryd.prog laidL w) false (World.laidAll Tryd.prog os laidL) #[.slice none 0 0] 8 (World.laidAll_os _ _ _)
      (World.shaped_of_ZipB (by kernel_rfl) (by kernel_rfl)) (by kernel_rfl) (by kernel_rfl) (by kernel_rfl)
      (by rw [MakeChecks.laidMetH_plain _ _ _ (by kernel_rfl)]; exact laidMet_laidAll _ (by kernel_rfl) (by kernel_rfl))) ?_
  intro W base args ds gs before hval0 hW hcnd hsz0 hL _
  have hG := globOf hL
  have hsz : (DataW.weightsEach Tryd.prog (Tryd.f10.params.toList ++ Rows.fnLogSpec.plain.varTypes Tryd.prog) (ds ++ gs)).all (· ≤ reachBytes) = true := hsz0
  have hval : ∀ (j : Nat) t v, Tryd.f10.params[j]? = some t → args[j]? = some v → Value.okWide Tryd.prog W .any base t v := hval0
  have hW' := hW
  obtain ⟨p, q, hA0, hV, rfl, hfz, hnd⟩ := hW
  have hA : DataW.TrodAll enc Tryd.prog W 0 (fun _ => true) true Tryd.f10.params.toList args.toList ds p := hA0
  rw [Tryd.params10] at hA hval hsz
  obtain ⟨v0, vs0, d0, ds0, p0, q0, hargs, rfl, rfl, h0, r0⟩ := trodAll_cons hA
  obtain ⟨rfl, rfl, rfl⟩ := trodAll_nil r0
  obtain rfl : args = #[v0] := by cases args; simp_all
  obtain ⟨rfl, rfl⟩ := trodVars_none hV
  obtain ⟨a0, len0, cap0, rfl⟩ := okWide_slice Tryd.underlying53 (hval 0 53 v0 rfl rfl)
  have k0 := h0
  have lt0 : ∀ x ∈ p0, x.block < W.heap.size := by obtain ⟨m, hm⟩ := k0; exact DataW.trod_lt m _ _ _ hm
  obtain ⟨l0, rfl, hc0, hr0, w0⟩ : ∃ l : List Int, len0 = l.length ∧ l.length ≤ cap0 ∧ Kd.C (Kd.int .u8) W a0 l.length l ∧ (l.length * 1 ≤ 140737488351232 ∧ l.length ≤ 9223372036854775807 ∧ ∀ y1 ∈ l, (Lit.int .u8 y1).wf = true) := by
    obtain ⟨fuel, hf⟩ := h0
    obtain ⟨l, ⟨A_, c_, e_, hl_, hC_⟩, hfit_⟩ := (opens_slice 0 Tryd.underlying53 (by kernel_rfl) (opens_int Tryd.underlying5) (by kernel_rfl)) hf (weights_param hsz (j := 0) rfl rfl)
    simp [Value.cells] at e_
    obtain ⟨rfl, rfl, rfl⟩ := e_
    exact ⟨l, rfl, hl_, hC_, hfit_⟩
  clear hA0 hval0 hsz0 hsz
  obtain ⟨k, h⟩ := Go.Proofs.YtkpieljmhgfofaaDoor.Pure.FnLog l0 w0
  refine (Ap.calls k a0 cap0 l0 true W hr0 hc0 hG h rfl).mono fun e W' ⟨he, bel0⟩ => ?_
  have bel : Below W.heap.size W W' := bel0
  subst he
  exact ⟨_, rfl, _, _, _, [], _, [], hW', trodAll_mk1 (shut_bool Tryd.underlying4 _), (trodAll_cons_mk (Below.trod laidOut (by kernel_rfl) (of_decide_eq_true (by kernel_rfl)) k0 bel lt0) trodAll_mk0), rfl, bel.frame _, fun h => by cases h⟩
theorem over : Rows.fnLogRow.holds Tryd.pinned (OpenSpec.ofChange Rows.fnLogSpec) :=
  OpenClaim.holds_of_wide 10 Tryd.f10 rfl rfl rfl rfl rfl rfl rfl ⟨rfl, rfl, rfl, rfl, rfl⟩ rfl rfl rfl rfl rfl (by kernel_rfl) Tryd.func10 (by kernel_rfl)
    (of_decide_eq_true (by kernel_rfl)) (by unfold Func.isWrapper; first | (rw [if_pos (by decide +kernel)]; kernel_rfl) | (rw [if_neg (by decide +kernel)]; exact ⟨rfl, rfl⟩))
    (fun os started H enc _ => lifted os started H enc)
theorem proved : Rows.FnLogSaid := over
theorem carded : Rows.FnLogCardSaid :=
  Claim7.holds_tied_plain_at .later [] [.data, .data, .data] true (true, "235852b07b7bca440ed8a65975df4a4d7818d0c8db91fbf0ad52c0286e8ae3e3") false
    proved (fun _ h => by cases h) (by kernel_rfl) (fun _ h => by cases h) fnLog_row_tie rfl ⟨rfl, rfl⟩ (by kernel_rfl) rfl
    (fun f fn hf hfn => by
      obtain rfl : f = 10 := Option.some.inj ((show Tryd.prog.funcNamed "loop.example/g00906/laws.FnLog" = some 10 by kernel_rfl).symm.trans hf) |>.symm
      obtain rfl : fn = Tryd.f10 := (Option.some.inj (Tryd.func10.symm.trans hfn)).symm
      exact ⟨by kernel_rfl, fun j t ht => by
        rw [Tryd.params10] at ht
        have hm : t ∈ [53] := by simpa using Array.mem_of_getElem? ht
        have hall : ([53].all fun u => !Tryd.prog.wantsStandIn u) = true := by kernel_rfl
        exact (show Tryd.prog.wantsStandIn t = false by simpa using List.all_eq_true.1 hall t hm)⟩)
    (by kernel_rfl)
#print axioms carded
end Go.Proofs.YtkpieljmhgfofaaDoor.fnLog
namespace Go.Proofs.YtkpieljmhgfofaaDoor
/-- The card, under a short name, for the claim. -/
theorem fnLog_holds : Rows.FnLogCardSaid := fnLog.carded
end Go.Proofs.YtkpieljmhgfofaaDoor

